import Derived.Test.YtpjenobkibfpcaaGreatZKD07
import Derived.Carry
import Derived.SizedLaws
import Derived.ChangeSame
import Derived.Test.YtpjenobkibfpcaaGreatChecked
import Derived.Test.YtpjenobkibfpcaaGreatRows
import Derived.ProofKit
set_option linter.unusedSimpArgs false
set_option linter.unusedVariables false
namespace Go.AM
open Go.ChangeShapes Go.WideShapes Go.RowKit
def inT(t:Tree):Prop:=Z3q t/\rng t
theorem ZEw{ks:List Tree}(h:∀ t∈ks,inT t):Z3p ks/\Yx ks:=by
 induction ks with
 | nil=> trivial
 | cons t r ih=>
  have u:=h t (Q7 ..)
  have s:=ih fun x hx=> h x (Q0 _ hx)
  exact ⟨⟨u.1,s.1⟩,u.2,s.2⟩
section
variable {U:Uni} {P:Program} {cfg:Cfg U} {w:World} {H:Type} {henc:TypeId × Value->H}
def RelS(cfg:Cfg U)(m:Addr->Option Value)(vs:List Value)(cs:List (C U)):Prop:=
 vs.length=cs.length/\∀ (j:Nat) v c,vs[j]?=some v->cs[j]?=some c->SimC cfg m v c
theorem RelS.one{m:Addr->Option Value}{v:Value}{c:C U}(h:SimC cfg m v c):RelS cfg m [v] [c]:=by
 refine ⟨rfl,fun j u d hu s=> ?_⟩
 grind
theorem RelS.glue{m:Addr->Option Value}{vs:List Value}{a n:Nat}{c1 rest:List (C U)}(h1:RelS cfg m ((vs.drop a).take n) c1)(hn:c1.length=n)(h:a+n<=vs.length)(h2:RelS cfg m (vs.drop (a+n)) rest):
  RelS cfg m (vs.drop a) (c1++rest):=by
 have e:vs.drop a=(vs.drop a).take n++vs.drop (a+n):=by
  rw [show vs.drop (a+n)=(vs.drop a).drop n by simp_all]
  exact (Qx n _).symm
 rw [e]
 have hl:((vs.drop a).take n).length=c1.length:=h1.1
 refine ⟨by simp only [Qk,hl,h2.1],fun j v c h hc=> ?_⟩
 rw [QK] at h hc
 rw [hl] at h
 split at h
 .rename_i s
  rw [if_pos s] at hc
  exact h1.2 j v c h hc
 .rename_i s
  rw [if_neg s] at hc
  exact h2.2 _ v c h hc
theorem RelS.done{m:Addr->Option Value}{vs:List Value}{n:Nat}(h:vs.length=n):RelS cfg m (vs.drop n) ([]:List (C U)):=by
 rw [Qc JX]
 exact ⟨rfl,fun j v c s=> by simp at s⟩
def Rdd(henc:TypeId × Value->H)(P:Program)(w:World)(n:Nat)(t:TypeId)(cs:List Value):Prop:=
 ∃ x,DataW.trod henc P w 0 (fun _=> true) true n t cs=some x/\(x.1.weights P t).all (·<=reachBytes)=true
theorem Z0u(ok:CfgOk P cfg){t:TypeId}{ag:Bool}{zs:List (C U)}(h:cfg.var t=some (ag,zs)):P.cellsOf t=zs.length:=by
 obtain ⟨_,i,z,d,s,h2,u,_⟩:=ok.var _ _ _ h
 simp [Program.cellsOf,s,u]
theorem Z1R(ok:CfgOk P cfg){t:TypeId}{k:IntKind}{n0:Int}{n:Nat}{cs:List Value}(hv:cfg.var t=some (false,[.int k n0]))(h:Rdd henc P w n t cs):
  ∃ z,RelS cfg w.cell? cs [.int k z]/\k.min<=z/\z<=k.max:=by
 obtain ⟨x,hx,_⟩:=h
 obtain ⟨_,i,z,d,h1,h2,h3,h4,h5,h6,h7,_⟩:=ok.var _ _ _ hv
 have u:=h7 rfl k n0 rfl
 subst u
 obtain ⟨q,rfl,_,s⟩:=DataW.trod_int h2 hx
 simp only [Lit.wf,Q6,decide_eq_true_eq] at s
 exact ⟨q,.one (.int k q),s.1,s.2⟩
theorem Jn(ok:CfgOk P cfg){t ft:TypeId}{i off:Nat}{ag:Bool}{zs:List (C U)}{n:Nat}{cs:List Value}(hf:cfg.fld t i=some (off,ft))(hv:cfg.var ft=some (ag,zs))(h:Rdd henc P w n t cs):
  ∃ m,n=m+1/\cs.length=P.cellsOf t/\Rdd henc P w m ft ((cs.drop off).take zs.length):=by
 obtain ⟨x,hx,u⟩:=h
 obtain ⟨fs,fd,h1,h2,h3,h4⟩:=ok.fld _ _ _ _ hf
 obtain ⟨xs,m,rfl,rfl,hl,ak,s⟩:=DataW.trod_struct h1 hx
 have hg:=s i fd h2
 rw [h3,h4,Z0u ok hv] at hg
 have hi:i < xs.length:=by have:=(QV.1 h2).1;omega
 have hy:=Q4 hi
 refine ⟨m,rfl,hl,xs[i],by rw [hg,hy],?_⟩
 rw [QD] at u ⊢
 intro q hq
 refine u q ?_
 simp only [DataW.weights,h1]
 exact DataW.weights_mem_each (j:=i) (t:=ft) (d:=xs[i].1) (by grind) (by grind) q hq
theorem Zdu{α:Type}(p:Nat->α->Prop):∀ (n:Nat),(∀ i,i < n->∃ x,p i x)->∃ l:List α,l.length=n/\∀ i x,l[i]?=some x->p i x
 | 0,_=> ⟨[],rfl,fun i x h=> by simp at h⟩
 | n+1,h=> by
  obtain ⟨l,s,h2⟩:=Zdu p n fun i u=> h i JX
  obtain ⟨x,hx⟩:=h n JX
  refine ⟨l++[x],by simp [s],fun i y hy=> ?_⟩
  grind
theorem ZcS{e:TypeId}:∀ {l:List (DataW H)} {i:Nat} {d:DataW H},l[i]?=some d->∀ q∈d.weights P e,q∈DataW.weightsAll P e l
 | d0 ::l,0,d,h,q,hq=> by
  simp at h
  subst h
  simp only [DataW.weightsAll,Qj]
  exact .inl hq
 | d0 ::l,i+1,d,h,q,hq=> by
  simp only [DataW.weightsAll,Qj]
  exact .inr (ZcS (l:=l) (i:=i) (by simpa using h) q hq)
theorem ZfW (ok:CfgOk P cfg) {t:TypeId} {S:U.Ty} {n:Nat} {cs:List Value} {Z2X:U.El S->Prop} (hs:cfg.slT t=some S)
  (ih:∀ m,m < n->∀ cs,Rdd henc P w m (cfg.elT S) cs->∃ e,RelS cfg w.cell? cs (cfg.enc S e)/\Z2X e) (h:Rdd henc P w n t cs):
  ∃ l:List (U.El S),RelS cfg w.cell? cs [.slice S l .unk]/\l.length*cfg.bytes S<=reachBytes/\∀ e∈l,Z2X e:=by
 obtain ⟨x,hx,hw⟩:=h
 have hu:=ok.sl _ _ hs
 obtain ⟨i0,ag,zs,z,h1,h2,h3,h4,h5,h6⟩:=ok.el S
 have hc:P.cellsOf (cfg.elT S)=cfg.sz S:=by simp [Program.cellsOf,h1,h2]
 have hb:P.bytesOf (cfg.elT S)=cfg.bytes S:=by simp [Program.bytesOf,h1,h3]
 rcases DataW.trod_slice hu hx with ⟨rfl,_⟩ | ⟨a,len,cap,elems,rest,m,rfl,rfl,rfl,_,hlc,_,hel,hels,_⟩
 .exact ⟨[],.one (.snil S .unk),by simp,fun e he=> by cases he⟩
 .simp only [DataW.weights,hu,X3,hb] at hw
  rw [List.all_cons,Q6,decide_eq_true_eq,QD] at hw
  obtain ⟨ax,ai⟩:=hw
  obtain ⟨l,hl,u⟩:=Zdu (fun i (e:U.El S)=> (∀ j c,(cfg.enc S e)[j]?=some c->∃ v,w.cell? (a.add (i*cfg.sz S+j))=some v/\SimC cfg w.cell? v c)/\Z2X e) len (by
   intro i hi
   have hg:=hels i hi
   have hy:=Q4 (l:=elems) (i:=i) JX
   rw [hy] at hg
   obtain ⟨ci,aj,aq⟩:=Qd.1 hg
   obtain ⟨_,a0,ao⟩:=World.cells?_some aj
   obtain ⟨e,s,ah⟩:=ih m JX ci ⟨elems[i],aq,by
    rw [QD]
    intro q hq
    refine ai q ?_
    rw [Qj]
    exact .inl (ZcS (i:=i) (d:=elems[i].1) (by grind) q hq)⟩
   refine ⟨e,fun j c hj=> ?_,ah⟩
   have au:=s.1
   have af:j < ci.length:=by have:=(Q8.1 hj).1;omega
   have aa:=Q4 af
   refine ⟨ci[j],?_,s.2 j _ c aa hj⟩
   rw [<-aa,<-ao j JX,hc,Go.Deep.add_add])
  refine ⟨l,.one (.of_rows .unk hl hlc fun i x hx j c hj=> (u i x hx).1 j c hj),?_,fun e he=> ?_⟩
  .grind
  .obtain ⟨i,hi,rfl⟩:=Xp he
   exact (u i _ (Q4 hi)).2
end
section
variable {P:Program} {cfg:Cfg U} {w:World} {H:Type} {henc:TypeId × Value->H}
structure TreeTypes (cfg:Cfg U):Prop where
 enc:cfg.enc=AM.enc
 bytes:cfg.bytes=K.bytes
 int:∃ n,cfg.var (cfg.elT .int)=some (false,[.int .i64 n])
 u64:∃ n,cfg.var (cfg.elT .u64)=some (false,[.int .u64 n])
 var:∃ zs,cfg.var (cfg.elT .tree)=some (true,zs)/\zs.length=3
 f0:∃ t n,cfg.fld (cfg.elT .tree) 0=some (0,t)/\cfg.var t=some (false,[.int .i64 n])
 f1:∃ t c,cfg.fld (cfg.elT .tree) 1=some (1,t)/\cfg.var t=some (false,[c])/\cfg.slT t=some .u64
 f2:∃ t c,cfg.fld (cfg.elT .tree) 2=some (2,t)/\cfg.var t=some (false,[c])/\cfg.slT t=some .tree
theorem Z3b{n b:Nat}(h:n*b<=reachBytes)(hb:8<=b):n<=17592186044416:=by
 have u:n*8<=n*b:=Nat.mul_le_mul_left _ hb
 have s:reachBytes < 2 ^ 47:=reachBytes_lt
 omega
theorem ZFo(ok:CfgOk P cfg)(T:TreeTypes cfg){n:Nat}{cs:List Value}(h:Rdd henc P w n (cfg.elT .u64) cs):
  ∃ e:Int,RelS cfg w.cell? cs (cfg.enc .u64 e)/\(0<=e/\e < 18446744073709551616):=by
 obtain ⟨n0,hv⟩:=T.u64
 obtain ⟨z,s,h2,u⟩:=Z1R ok hv h
 refine ⟨z,by rw [T.enc];exact s,h2,?_⟩
 have:z<=18446744073709551615:=u
 omega
theorem Zex(ok:CfgOk P cfg)(T:TreeTypes cfg):∀ (n:Nat) (cs:List Value),Rdd henc P w n (cfg.elT .tree) cs->∃ e:Tree,RelS cfg w.cell? cs (cfg.enc .tree e)/\inT e:=by
 intro n
 induction n using Nat.strongRecOn with
 | ind n IH=>
  intro cs h
  obtain ⟨zs,hz,aa⟩:=T.var
  obtain ⟨t0,n0,f0,v0⟩:=T.f0
  obtain ⟨t1,c1,f1,v1,s1⟩:=T.f1
  obtain ⟨t2,c2,f2,v2,s2⟩:=T.f2
  obtain ⟨m,rfl,hl,r0⟩:=Jn ok f0 v0 h
  obtain ⟨m',u,_,r1⟩:=Jn ok f1 v1 h
  cases u
  obtain ⟨m',u,_,r2⟩:=Jn ok f2 v2 h
  cases u
  have s:cs.length=3:=by rw [hl,Z0u ok hz,aa]
  obtain ⟨k,a1,a2,a3⟩:=Z1R ok v0 r0
  obtain ⟨ws,b1,b2,b3⟩:=ZfW ok s1 (fun m _ cs h=> ZFo ok T h) r1
  obtain ⟨ks,d1,d2,d3⟩:=ZfW ok s2 (fun m' hm cs h=> IH m' JX cs h) r2
  rw [T.bytes] at b2 d2
  have g:=a1.glue rfl (by simp;omega) (b1.glue rfl (by simp;omega) (d1.glue rfl (by simp;omega) (RelS.done (n:=3) s)))
  refine ⟨.mk k ws ks,by rw [T.enc];exact g,?_⟩
  have hk:=ZEw d3
  exact ⟨⟨Z3b b2 V2,Z3b d2 V2,hk.1⟩,⟨a2,a3⟩,b3,hk.2⟩
end
section
variable {P:Program} {cfg:Cfg U} {H:Type} {henc:TypeId × Value->H}
def ZzR{α:Type}(henc:TypeId × Value->H)(P:Program)(cfg:Cfg U)(A:Arg α)(t:TypeId)(Z2X:α->Prop):Prop:=
 (∀ a,A.get (A.can a)=some a)/\∀ (w:World) (base:Nat) v n,Value.okWide P w .any base t v->Rdd henc P w n t v.cells.toList->
  ∃ a,Z2X a/\∀ (g:Gh) (live:Name->Bool),g.m=w.cell?->RelV cfg g ZU live v (A.can a)
def Zt0{α:Type}(henc:TypeId × Value->H)(P:Program)(cfg:Cfg U)(A:ArgL α)(ts:List TypeId)(Z2X:α->Prop):Prop:=
 (∀ a,A.get (A.can a)=some a)/\∀ (w:World) (base:Nat) (vs:List Value) ds ps,(∀ (j:Nat) t v,ts[j]?=some t->vs[j]?=some v->Value.okWide P w .any base t v)->
  DataW.TrodAll henc P w 0 (fun _=> true) true ts vs ds ps->(DataW.weightsEach P ts ds).all (·<=reachBytes)=true->
  ∃ a,Z2X a/\vs.length=(A.can a).length/\∀ (g:Gh) (live:Name->Bool),g.m=w.cell?->∀ (j:Nat) v x,vs[j]?=some v->(A.can a)[j]?=some x->RelV cfg g ZU live v x
theorem Zuz:Zt0 henc P cfg ArgL.nil [] (fun _=> True):=by
 refine ⟨fun _=> rfl,fun w s vs ds ps _ h _=> ?_⟩
 obtain ⟨rfl,_,_⟩:=trodAll_nil h
 exact ⟨(),trivial,rfl,fun _ _ _ j v x u=> by simp at u⟩
theorem Zhr{α β:Type}{A:Arg α}{B:ArgL β}{t:TypeId}{ts:List TypeId}{Z2X:α->Prop}{goods:β->Prop}(hA:ZzR henc P cfg A t Z2X)(hB:Zt0 henc P cfg B ts goods):
  Zt0 henc P cfg (ArgL.cons A B) (t ::ts) (fun p=> Z2X p.1/\goods p.2):=by
 refine ⟨fun a=> ?_,fun w s vs ds ps aa h hw=> ?_⟩
 .simp only [ArgL.cons,hA.1,hB.1]
 .obtain ⟨v,ae,d,af,p,q,rfl,rfl,rfl,h1,h2⟩:=trodAll_cons h
  obtain ⟨n,h1⟩:=h1
  simp only [DataW.weightsEach,List.all_append,Q6] at hw
  obtain ⟨a,ga,ra⟩:=hA.2 w s v n (aa 0 t v rfl rfl) ⟨(d,p),h1,hw.1⟩
  obtain ⟨b,gb,lb,rb⟩:=hB.2 w s ae af q (fun j t v ht hv=> aa (j+1) t v (by simpa using ht) (by simpa using hv)) h2 hw.2
  refine ⟨(a,b),⟨ga,gb⟩,by simp [ArgL.cons,lb],fun g ai hg j u x hu hx=> ?_⟩
  cases j with
  | zero=> simp [ArgL.cons] at hu hx;grind
  | succ j=> simp [ArgL.cons] at hu hx;grind
theorem RelS.relL{g:Gh}{w:World}{vs:List Value}{cs:List (C U)}(h:RelS cfg w.cell? vs cs)(hg:g.m=w.cell?)(hp:∀ c∈cs,c.plain=true):RelL cfg g ZU vs cs:=by
 refine ⟨h.1,fun j v c u hc=> ⟨by rw [hg];exact h.2 j v c u hc,?_⟩⟩
 have s:=hp c (QS hc)
 cases c with
 | slice S l' tl'=> cases tl' <;> first | trivial | (simp [C.plain] at s)
 | _=> trivial
theorem ZCq(ok:CfgOk P cfg)(henc':cfg.enc=AM.enc){T:Ty}{Z2X:El T->Prop}(s:∃ u ft,cfg.fld (cfg.elT T) 0=some (u,ft))(hr:∀ w n cs,Rdd henc P w n (cfg.elT T) cs->∃ e:El T,RelS cfg w.cell? cs (cfg.enc T e)/\Z2X e):
  ZzR henc P cfg (aEl T) (cfg.elT T) Z2X:=by
 refine ⟨fun a=> ZCe T a,fun w ae v n ab h=> ?_⟩
 obtain ⟨u,ft,s⟩:=s
 obtain ⟨fs,fd,h1,_⟩:=ok.fld _ _ _ _ s
 obtain ⟨vs,rfl,_⟩:=okWide_struct h1 ab
 obtain ⟨e,he,hg⟩:=hr w n _ h
 refine ⟨e,hg,fun g af aa=> ⟨vs,rfl,?_⟩⟩
 rw [henc'] at he
 exact he.relL aa (fun c hc=> by have:=ok.enc_plain T e c (by simp_all);exact this)
theorem ZCp(ok:CfgOk P cfg){t:TypeId}{T:Ty}{Z2X:El T->Prop}(hs:cfg.slT t=some T)(hr:∀ w n cs,Rdd henc P w n (cfg.elT T) cs->∃ e:El T,RelS cfg w.cell? cs (cfg.enc T e)/\Z2X e):
  ZzR henc P cfg (aSl T) t (fun l=> l.length*cfg.bytes T<=reachBytes/\∀ e∈l,Z2X e):=by
 refine ⟨fun a=> by cases T <;> rfl,fun w u v n s h=> ?_⟩
 have hu:=ok.sl _ _ hs
 obtain ⟨a,len,aj,rfl⟩:=okWide_slice hu s
 obtain ⟨l,h1,h2,h3⟩:=ZfW ok hs (fun m _ cs h=> hr w m cs h) h
 refine ⟨l,⟨h2,h3⟩,fun g aa hg=> ?_⟩
 have:=h1.relL hg (by intro c hc;simp at hc;subst hc;rfl)
 exact this.2 0 _ _ (by rfl) rfl
theorem ZtZ {α:Type} {A:ArgL α} {ts:List TypeId} {Z2X:α->Prop} {pre:α->Prop} {f:FuncId} (hA:Zt0 henc P cfg A ts Z2X) (hgood:∀ a,Z2X a->pre a)
  (hc:Contract P cfg f (fs A (fun a=> [pre a]) (fun _=> .c (.bool true)))) (w:World) (base:Nat) (args:Array Value) (ds:List (DataW H)) (ps:List MemPlace)
  (hok:∀ (j:Nat) t v,ts[j]?=some t->args.toList[j]?=some v->Value.okWide P w .any base t v)
  (h:DataW.TrodAll henc P w 0 (fun _=> true) true ts args.toList ds ps) (hw:(DataW.weightsEach P ts ds).all (·<=reachBytes)=true):
  Calls P f args w fun e w'=> e= .returned (.bool true)/\Below w.heap.size w w':=by
 obtain ⟨a,ga,hl,hr⟩:=hA.2 w base args.toList ds ps hok h hw
 let g:Gh:=⟨w.cell?,fun _=> none,fun _=> ⟨0,0,none⟩,fun _=> none⟩
 have hs:(fs A (fun a=> [pre a]) (fun _=> .c (.bool true))).fn (A.can a) []=some ([pre a],.c (.bool true),[]):=by
  simp only [fs,hA.1]
 have aa:Entry cfg w g args.toList (A.can a) [] []:=by
  refine ⟨⟨fun b v u=> ⟨u,rfl⟩,fun b t h=> by cases h⟩,fun b t h=> (by cases h),hl,fun j v x u hx=> hr g _ rfl j v x u hx,fun k cs hk=> (by simp at hk),fun _ _=> rfl,fun t x hx=> by cases hx⟩
 have:=hc.one rfl (A.can a) [] _ _ [] hs ⟨hgood a ga,trivial⟩ (QG _) w g args.toList aa
 refine Calls.mono (by simpa using this) ?_
 rintro e w' ⟨v,rfl,g',L⟩
 have u:SimC cfg g'.m v (.bool true):=L.val.1
 cases u
 refine ⟨rfl,L.fr.stay.os,L.fr.stay.tape,L.fr.stay.output,L.fr.stay.size,fun k hk=> ?_⟩
 exact (L.fr.clean k hk fun o s t h=> by cases h).1
theorem Zyx {f:Func} {s:ChangeSpec} {apart fresh handsOn again:Bool} {W W':World} {args:Array Value} {ds gs:List (DataW H)} {before:List MemPlace} {tb:TypeId}
  (hl:laidOutB P=true) (hread:(f.params.toList.all fun t=> P.readableRec t && decide (t < P.types.size))=true) (hres:f.resultTypes=#[tb]) (hbool:P.underlying tb=some .bool) (hvars:s.vars=[])
  (hfn:s.fn H (ds++gs)={ results:=[.lit (.bool true)],args:=ds,vars:=[] })
  (hW:DataW.Whole henc P f.params.toList s.vars apart W args.toList ds gs before)
  (hb:Below W.heap.size W W'):s.post henc P f apart fresh handsOn again W args (.bool true) W':=by
 have av:=hW
 obtain ⟨p,q,h1,h2,e,_⟩:=av
 have hq:q=[]:=by
  rw [hvars] at h2
  exact (trodVars_none h2).2
 subst hq
 have ak:=hW.lt
 have ax:∀ {ts:List TypeId} {vs:List Value} {ds:List (DataW H)} {ps:List MemPlace} {sp:Nat->Bool},(∀ t∈ts,P.readableRec t=true/\t < P.types.size)->(∀ x∈ps,x.block < W.heap.size)->(∀ x∈ps,sp x.block=true)->
   DataW.TrodAll henc P W 0 (fun _=> true) true ts vs ds ps->DataW.TrodAll henc P W' 0 sp true ts vs ds ps:=by
  intro ts
  induction ts with
  | nil=>
   intro vs ds ps sp _ _ _ h
   obtain ⟨rfl,rfl,rfl⟩:=trodAll_nil h
   exact rfl
  | cons t ts ih=>
   intro vs ds ps sp hr hx hs h
   obtain ⟨v,a3,d,a6,p,q,rfl,rfl,rfl,h3,h4⟩:=trodAll_cons h
   have aq:=hr t (Q7 ..)
   exact ⟨p,q,WideElems.Trod_stays hl aq.1 aq.2 h3 (fun x u=> hb.same (hx x (QP _ u))) (fun x u=> hs x (QP _ u)),
    ih (fun t ht=> hr t (Q0 _ ht)) (fun x u=> hx x (X5 _ u)) (fun x u=> hs x (X5 _ u)) h4,rfl⟩
 have ae:∀ t∈f.params.toList,P.readableRec t=true/\t < P.types.size:=by
  intro t ht
  have:=QD.1 hread t ht
  simpa using this
 rw [Ql] at e
 replace e:=e.symm
 subst e
 have ah:∀ (b:Nat) (sp:Nat->Bool) (hd:Bool),DataW.TrodAll henc P W' b sp hd f.resultTypes.toList ((Value.bool true).resultList f.resultTypes.size) [.lit (.bool true)] []:=by
  intro b sp hd
  rw [hres]
  exact trodAll_mk1 ⟨1,by simp [DataW.trod,hbool,Value.cells]⟩
 have al:∀ (j:Nat) (t:TypeId) (r:Value),f.resultTypes[j]?=some t->((Value.bool true).resultList f.resultTypes.size)[j]?=some r->Value.okWide P W' .any 0 t r:=by
  intro j t r h3 h4
  rw [hres] at h3 h4
  cases j with
  | zero=>
   simp at h3
   subst h3
   simp [Value.resultList] at h4
   subst h4
   simp [Value.okWide,hbool,Cell.okWide,Cell.ok]
  | succ j=> simp at h3
 have a0:∀ x∈p,(fun b=> decide (b < W.heap.size)) x.block=true:=fun x hx=> by grind
 have ar:∀ sp:Nat->Bool,DataW.TrodVars henc P W' sp s.vars [] []:=fun sp=> by rw [hvars];try rfl
 refine ⟨ds,gs,p,[],p,[],hW,?_,?_,?_,hb.frame _,fun _=> ⟨al,[.lit (.bool true)]++ds,[],[]++p,?_,fun x hx _=> by simpa using hx⟩⟩
 .grind
 .grind
 .grind
 .obtain ⟨_,_,_,_,_,hz,hn⟩:=hW
  refine ⟨[]++p,[],trodAll_append (ax ae ak (fun _ _=> rfl) h1) (ah 0 (fun _=> true) true),ar _,by simp,?_,by simpa using hn⟩
  intro b am hx
  have au:MemPlace.cell b am∈p:=by simpa using hx
  rw [hb.frozen (by exact ak _ au)]
  exact hz b am JX
end
end Go.AM
namespace Go.AM
def Zl(w:Int)(i:Nat):Int:=w / 256 ^ i % 256
def Ys(m:Int)(i:Int):Bool:=decide (m / 2 ^ i.toNat % 2=1)
def of8(f:Nat->Int):Int:=f 0+256*(f 1+256*(f 2+256*(f 3+256*(f 4+256*(f 5+256*(f 6+256*f 7))))))
def Jf(a b m:Int)(i:Nat):Int:=if Ys m i then Zl b i else Zl a i
def mix(a b m:Int):Int:=of8 (Jf a b m)
theorem aiT{p q:Prop}:(p->q->p/\q)=True:=eq_true fun a b=> ⟨a,b⟩
mutual
def Z8:Edit->Nat
 | .mk _ o n w ks _ os=> 1+Zo o+Zo n+w.length+os.length+Zx ks+Zt os
def Zx:List (KidOf Edit)->Nat
 | []=> 0
 | k ::r=> YO k+Zx r
def YO:KidOf Edit->Nat
 | ⟨_,e⟩=> Z8 e
def Zt:List (OpOf Edit)->Nat
 | []=> 0
 | o ::r=> Zu o+Zt r
def Zu:OpOf Edit->Nat
 | ⟨_,_,l,e⟩=> Zg l+Z8 e
end
mutual
def Z2x:Edit->Prop
 | .mk _ o n w ks _ os=> Z3q o/\Z3q n/\w.length<=17592186044416/\ks.length<=17592186044416/\os.length<=17592186044416/\Z5z ks/\Z5y os
def Z5z:List (KidOf Edit)->Prop
 | []=> True
 | k ::r=> ZlB k/\Z5z r
def ZlB:KidOf Edit->Prop
 | ⟨_,e⟩=> Z2x e
def Z5y:List (OpOf Edit)->Prop
 | []=> True
 | o ::r=> ZpG o/\Z5y r
def ZpG:OpOf Edit->Prop
 | ⟨_,_,l,e⟩=> l.length<=17592186044416/\Z3p l/\Z2x e
end
def isW(n:Int):Prop:=0<=n/\n < 18446744073709551616
def Z0O(w:WEdit):Prop:=InR w.at_/\(0<=w.mask/\w.mask < 256)/\isW w.old/\isW w.new
mutual
def ZZ:Edit->Prop
 | .mk k o n w ks l os=> InR k/\rng o/\rng n/\(∀ x∈w,Z0O x)/\InR l/\Z0P ks/\Z0j os
def Z0P:List (KidOf Edit)->Prop
 | []=> True
 | k ::r=> Z1v k/\Z0P r
def Z1v:KidOf Edit->Prop
 | ⟨a,e⟩=> InR a/\ZZ e
def Z0j:List (OpOf Edit)->Prop
 | []=> True
 | o ::r=> YZ o/\Z0j r
def YZ:OpOf Edit->Prop
 | ⟨k,n,l,e⟩=> InR k/\InR n/\Yx l/\ZZ e
end
def sh1(t:Tree)(n:Int):Int:=if n < 0 then n else ZK t 80 n
mutual
def Z0D:Edit->Int->Int->Int
 | .mk _ o nw w ks _ os,d,n=> if d=0\/n - 1 - w.length - os.length < 0 then -1 else Z0J os (d - 1) (Z0p ks (d - 1) (sh1 nw (ZK o 80 (n - 1 - w.length - os.length))))
def Z0p:List (KidOf Edit)->Int->Int->Int
 | [],_,n=> n
 | k ::r,d,n=> if n < 0 then n else Z0p r d (Z4g k d n)
def Z4g:KidOf Edit->Int->Int->Int
 | ⟨_,e⟩,d,n=> Z0D e d n
def Z0J:List (OpOf Edit)->Int->Int->Int
 | [],_,n=> n
 | o ::r,d,n=> if n < 0 then n else Z0J r d (Z7b o d n)
def Z7b:OpOf Edit->Int->Int->Int
 | ⟨_,_,l,e⟩,d,n=> if ZD l 80 n < 0 then ZD l 80 n else Z0D e d (ZD l 80 n)
end
def YM(t:Tree):Bool:=decide (t.kind=0/\t.words.length=0/\t.kids.length=0)
def Z1M(e:Edit):Bool:=decide (e.kind=0) && YM e.old && YM e.new && decide (e.words.length=0/\e.kids.length=0/\e.ops.length=0/\e.list=0)
def ZG(w m:Int):Bool:=decide (mix w 0 m=0)
def ZL(last:Int):List WEdit->Bool
 | []=> true
 | w ::r=> decide (last < w.at_/\w.at_<=65534/\w.mask≠0) && ZG w.old w.mask && ZG w.new w.mask && ZL w.at_ r
def Z4(o:Op):Int:=if o.kind=3 then 1 else o.n+o.l.length
def Z1C:List Op->Int->Int
 | [],n=> n
 | o ::r,n=> Z1C r (min (if o.kind=2 then n else n+Z4 o) 1048576)
def Z1B:List Op->Int->Int
 | [],n=> n
 | o ::r,n=> Z1B r (min (if o.kind=1 then n else n+Z4 o) 1048576)
def Z08(list:Int):List Tree->Bool
 | []=> true
 | t ::r=> Zd (.mk list [] [t]) 64 && Z08 list r
def dT(d:Int):Int:=if d < 0 then -1 else 64
theorem ZrX{d:Int}(h:0<=d):dT d=64:=by unfold dT;omega
theorem Z7n{d:Int}(h:d < 0):dT d= -1:=by unfold dT;rw [if_pos h]
theorem ZEG(d:Int):dT d≠0:=by unfold dT;omega
def YF(D list:Int):List Tree->Bool
 | []=> true
 | t ::r=> Zd (.mk list [] [t]) D && YF D list r
theorem ZbW(list:Int):∀ l:List Tree,YF 64 list l=Z08 list l
 | []=> rfl
 | t ::r=> by simp only [YF,Z08,ZbW list r]
mutual
def Z3:Edit->Int->Bool
 | .mk k o n w ks l os,d=>
  if d=0\/k < 0\/3 < k then false
  else if (k≠1/\¬(YM o=true/\YM n=true))\/(k≠2/\¬(w.length=0/\ks.length=0))\/(k≠3/\(l≠0\/os.length≠0)) then false
  else if k=1 then Zd o (dT d) && Zd n (dT d) && decide (o.kind≠10/\n.kind≠10)
  else ZL (-1) w && Zw (-1) ks (d - 1) && decide (¬(k=3/\(l < 2\/9 < l))) && Zz l os (d - 1) && decide (Z1C os 0 < 1048576/\Z1B os 0 < 1048576)
def Zw(last:Int):List (KidOf Edit)->Int->Bool
 | [],_=> true
 | k ::r,d=> Jl last k d && Zw k.at_ r d
def Jl(last:Int):KidOf Edit->Int->Bool
 | ⟨a,e⟩,d=> decide (last < a/\a<=65534/\e.kind≠0) && Z3 e d
def Zz(list:Int):List (OpOf Edit)->Int->Bool
 | [],_=> true
 | o ::r,d=> Zb list o d && Zz list r d
def Zb(list:Int):OpOf Edit->Int->Bool
 | ⟨k,n,l,e⟩,d=>
  if k=0 then decide (1<=n/\n<=1048576/\l.length=0) && Z1M e
  else if n≠0\/k < 0\/3 < k then false
  else if k < 3 then YF (dT d) list l && decide (0 < l.length) && Z1M e
  else decide (l.length=0/\e.kind≠0/\7 < list) && Z3 e d && decide (list=8\/e.kind=2\/e.kind=1/\e.old.kind=1/\e.new.kind=1)
end
mutual
def ctE:Edit->Nat
 | .mk _ o n w ks _ os=> 16+Zo o+Zo n+65600*w.length+Z0W ks+Jh os
def Z0W:List (KidOf Edit)->Nat
 | []=> 0
 | k ::r=> Z3U k+Z0W r
def Z3U:KidOf Edit->Nat
 | ⟨_,e⟩=> 65600+ctE e
def Jh:List (OpOf Edit)->Nat
 | []=> 0
 | o ::r=> Z3S o+Jh r
def Z3S:OpOf Edit->Nat
 | ⟨_,_,l,e⟩=> 16+Zg l+ctE e
end
theorem Z23(e:Edit):ctE e=16+Zo e.old+Zo e.new+65600*e.words.length+Z0W e.kids+Jh e.ops:=by cases e;rfl
theorem Z3T(k:Kid):Z3U k=65600+ctE k.e:=by cases k;rfl
theorem Z2f(o:Op):Z3S o=16+Zg o.l+ctE o.e:=by cases o;rfl
theorem Zhg:∀ {ks:List Kid} {k:Kid},k∈ks->ctE k.e+65600<=Z0W ks
 | a ::r,k,h=> by
  rcases Qa.1 h with rfl | h
  .simp only [Z0W,Z3T];omega
  .have:=Zhg h;simp only [Z0W];omega
theorem Zhf:∀ {os:List Op} {o:Op},o∈os->ctE o.e+Zg o.l+16<=Jh os
 | a ::r,o,h=> by
  rcases Qa.1 h with rfl | h
  .simp only [Jh,Z2f];omega
  .have:=Zhf h;simp only [Jh];omega
theorem Z4T(t:Tree):1<=Zo t:=by obtain ⟨k,w,ks⟩:=t;simp only [Zo];omega
mutual
theorem ZeF:∀ (e:Edit),Z8 e<=ctE e
 | .mk k o n w ks l os=> by
  have s:=Z7N ks
  have h:os.length+Zt os<=Jh os:=Z4U os
  simp only [Z8,ctE]
  omega
theorem Z7N:∀ (ks:List (KidOf Edit)),Zx ks<=Z0W ks
 | []=> Qb _
 | k ::r=> by
  have s:=Zoi k
  have h:=Z7N r
  simp only [Zx,Z0W]
  omega
theorem Zoi:∀ (k:KidOf Edit),YO k<=Z3U k
 | ⟨a,e⟩=> by
  have:=ZeF e
  simp only [YO,Z3U]
  omega
theorem Z4U:∀ (os:List (OpOf Edit)),os.length+Zt os<=Jh os
 | []=> Qb _
 | o ::r=> by
  have s:=ZtO o
  have h:=Z4U r
  simp only [Zt,Jh,Qm]
  omega
theorem ZtO:∀ (o:OpOf Edit),Zu o+1<=Z3S o
 | ⟨k,n,l,e⟩=> by
  have:=ZeF e
  simp only [Zu,Z3S]
  omega
end
mutual
theorem ZkT:∀ (e:Edit),ctE e+131100<=65600*Z8 e
 | .mk k o n w ks l os=> by
  have s:=ZiT ks
  have h:=ZiS os
  have:=Z4T o
  have:=Z4T n
  simp only [Z8,ctE]
  omega
theorem ZiT:∀ (ks:List (KidOf Edit)),Z0W ks<=65600*Zx ks
 | []=> Qb _
 | k ::r=> by
  have s:=ZoQ k
  have h:=ZiT r
  simp only [Zx,Z0W]
  omega
theorem ZoQ:∀ (k:KidOf Edit),Z3U k<=65600*YO k
 | ⟨a,e⟩=> by
  have:=ZkT e
  simp only [YO,Z3U]
  omega
theorem ZiS:∀ (os:List (OpOf Edit)),Jh os<=65600*(os.length+Zt os)
 | []=> Qb _
 | o ::r=> by
  have s:=Zuj o
  have h:=ZiS r
  simp only [Zt,Jh,Qm]
  omega
theorem Zuj:∀ (o:OpOf Edit),Z3S o<=65600*(Zu o+1)
 | ⟨k,n,l,e⟩=> by
  have:=ZkT e
  simp only [Zu,Z3S]
  omega
end
mutual
def Z1V:Edit->Bool
 | .mk _ _ _ _ ks _ os=> decide (Z1C os 0<=2000/\Z1B os 0<=2000) && Z5U ks && Z7P os
def Z5U:List (KidOf Edit)->Bool
 | []=> true
 | k ::r=> Zmv k && Z5U r
def Zmv:KidOf Edit->Bool
 | ⟨_,e⟩=> Z1V e
def Z7P:List (OpOf Edit)->Bool
 | []=> true
 | o ::r=> ZqW o && Z7P r
def ZqW:OpOf Edit->Bool
 | ⟨_,_,_,e⟩=> Z1V e
end
def Z2X(e:Edit):Bool:=decide (0<=Z0D e 80 3000) && Z3 e 64 && Z1V e
end Go.AM
namespace Go.AM
open Go.ChangeShapes Go.WideShapes Go.RowKit
def inE(e:Edit):Prop:=Z2x e/\ZZ e
def ZKw(k:Kid):Prop:=ZlB k/\Z1v k
def inO(o:Op):Prop:=ZpG o/\YZ o
theorem ZyV{ks:List Kid}(h:∀ k∈ks,ZKw k):Z5z ks/\Z0P ks:=by
 induction ks with
 | nil=> trivial
 | cons t r ih=>
  have u:=h t (Q7 ..)
  have s:=ih fun x hx=> h x (Q0 _ hx)
  exact ⟨⟨u.1,s.1⟩,u.2,s.2⟩
theorem ZC8{os:List Op}(h:∀ o∈os,inO o):Z5y os/\Z0j os:=by
 induction os with
 | nil=> trivial
 | cons t r ih=>
  have u:=h t (Q7 ..)
  have s:=ih fun x hx=> h x (Q0 _ hx)
  exact ⟨⟨u.1,s.1⟩,u.2,s.2⟩
section
variable {P:Program} {cfg:Cfg U} {w:World} {H:Type} {henc:TypeId × Value->H}
structure EditTypes (cfg:Cfg U):Prop where
 wvar:∃ zs,cfg.var (cfg.elT .wedit)=some (true,zs)/\zs.length=4
 w0:∃ t n,cfg.fld (cfg.elT .wedit) 0=some (0,t)/\cfg.var t=some (false,[.int .i64 n])
 w1:∃ t n,cfg.fld (cfg.elT .wedit) 1=some (1,t)/\cfg.var t=some (false,[.int .u8 n])
 w2:∃ t n,cfg.fld (cfg.elT .wedit) 2=some (2,t)/\cfg.var t=some (false,[.int .u64 n])
 w3:∃ t n,cfg.fld (cfg.elT .wedit) 3=some (3,t)/\cfg.var t=some (false,[.int .u64 n])
 kvar:∃ zs,cfg.var (cfg.elT .kid)=some (true,zs)/\zs.length=12
 k0:∃ t n,cfg.fld (cfg.elT .kid) 0=some (0,t)/\cfg.var t=some (false,[.int .i64 n])
 k1:cfg.fld (cfg.elT .kid) 1=some (1,cfg.elT .edit)
 ovar:∃ zs,cfg.var (cfg.elT .op)=some (true,zs)/\zs.length=14
 o0:∃ t n,cfg.fld (cfg.elT .op) 0=some (0,t)/\cfg.var t=some (false,[.int .i64 n])
 o1:∃ t n,cfg.fld (cfg.elT .op) 1=some (1,t)/\cfg.var t=some (false,[.int .i64 n])
 o2:∃ t c,cfg.fld (cfg.elT .op) 2=some (2,t)/\cfg.var t=some (false,[c])/\cfg.slT t=some .tree
 o3:cfg.fld (cfg.elT .op) 3=some (3,cfg.elT .edit)
 evar:∃ zs,cfg.var (cfg.elT .edit)=some (true,zs)/\zs.length=11
 e0:∃ t n,cfg.fld (cfg.elT .edit) 0=some (0,t)/\cfg.var t=some (false,[.int .i64 n])
 e1:cfg.fld (cfg.elT .edit) 1=some (1,cfg.elT .tree)
 e2:cfg.fld (cfg.elT .edit) 2=some (4,cfg.elT .tree)
 e3:∃ t c,cfg.fld (cfg.elT .edit) 3=some (7,t)/\cfg.var t=some (false,[c])/\cfg.slT t=some .wedit
 e4:∃ t c,cfg.fld (cfg.elT .edit) 4=some (8,t)/\cfg.var t=some (false,[c])/\cfg.slT t=some .kid
 e5:∃ t n,cfg.fld (cfg.elT .edit) 5=some (9,t)/\cfg.var t=some (false,[.int .i64 n])
 e6:∃ t c,cfg.fld (cfg.elT .edit) 6=some (10,t)/\cfg.var t=some (false,[c])/\cfg.slT t=some .op
theorem ZwD(ok:CfgOk P cfg)(T:TreeTypes cfg)(E:EditTypes cfg)(n:Nat)(cs:List Value)(h:Rdd henc P w n (cfg.elT .wedit) cs):∃ e:WEdit,RelS cfg w.cell? cs (cfg.enc .wedit e)/\Z0O e:=by
 obtain ⟨zs,hz,u⟩:=E.wvar
 obtain ⟨t0,n0,f0,v0⟩:=E.w0
 obtain ⟨t1,n1,f1,v1⟩:=E.w1
 obtain ⟨t2,n2,f2,v2⟩:=E.w2
 obtain ⟨t3,n3,f3,v3⟩:=E.w3
 obtain ⟨m,rfl,hl,r0⟩:=Jn ok f0 v0 h
 obtain ⟨m',s,_,r1⟩:=Jn ok f1 v1 h
 cases s
 obtain ⟨m',s,_,r2⟩:=Jn ok f2 v2 h
 cases s
 obtain ⟨m',s,_,r3⟩:=Jn ok f3 v3 h
 cases s
 have aa:cs.length=4:=by rw [hl,Z0u ok hz,u]
 obtain ⟨a,a1,a2,a3⟩:=Z1R ok v0 r0
 obtain ⟨b,b1,b2,b3⟩:=Z1R ok v1 r1
 obtain ⟨c,c1,c2,c3⟩:=Z1R ok v2 r2
 obtain ⟨d,d1,d2,d3⟩:=Z1R ok v3 r3
 have g:=a1.glue rfl (by simp;omega) (b1.glue rfl (by simp;omega) (c1.glue rfl (by simp;omega) (d1.glue rfl (by simp;omega) (RelS.done (n:=4) aa))))
 refine ⟨⟨a,b,c,d⟩,by rw [T.enc];exact g,⟨a2,a3⟩,⟨b2,?_⟩,⟨c2,?_⟩,d2,?_⟩
 .have:b<=255:=b3
  grind
 .have:c<=18446744073709551615:=c3
  grind
 .have:d<=18446744073709551615:=d3
  grind
theorem ZFp (ok:CfgOk P cfg) (T:TreeTypes cfg) (E:EditTypes cfg) (n:Nat) (IH:∀ m,m < n->∀ cs,Rdd henc P w m (cfg.elT .edit) cs->∃ e:Edit,RelS cfg w.cell? cs (cfg.enc .edit e)/\inE e)
  (cs:List Value) (h:Rdd henc P w n (cfg.elT .kid) cs):∃ e:Kid,RelS cfg w.cell? cs (cfg.enc .kid e)/\ZKw e:=by
 obtain ⟨zs,hz,u⟩:=E.kvar
 obtain ⟨t0,n0,f0,v0⟩:=E.k0
 obtain ⟨ez,ab,s⟩:=E.evar
 obtain ⟨m,rfl,hl,r0⟩:=Jn ok f0 v0 h
 obtain ⟨m',e',_,r1⟩:=Jn ok E.k1 ab h
 cases e'
 have aa:cs.length=12:=by rw [hl,Z0u ok hz,u]
 obtain ⟨a,a1,a2,a3⟩:=Z1R ok v0 r0
 obtain ⟨b,b1,b2⟩:=IH m JX _ r1
 rw [s] at b1
 rw [T.enc] at b1
 have g:=a1.glue rfl (by simp;omega) (b1.glue rfl JX (RelS.done (n:=12) aa))
 exact ⟨⟨a,b⟩,by rw [T.enc];exact g,b2.1,⟨a2,a3⟩,b2.2⟩
theorem ZKf (ok:CfgOk P cfg) (T:TreeTypes cfg) (E:EditTypes cfg) (n:Nat) (IH:∀ m,m < n->∀ cs,Rdd henc P w m (cfg.elT .edit) cs->∃ e:Edit,RelS cfg w.cell? cs (cfg.enc .edit e)/\inE e)
  (cs:List Value) (h:Rdd henc P w n (cfg.elT .op) cs):∃ e:Op,RelS cfg w.cell? cs (cfg.enc .op e)/\inO e:=by
 obtain ⟨zs,hz,aa⟩:=E.ovar
 obtain ⟨t0,n0,f0,v0⟩:=E.o0
 obtain ⟨t1,n1,f1,v1⟩:=E.o1
 obtain ⟨t2,c2,f2,v2,s2⟩:=E.o2
 obtain ⟨ez,ae,u⟩:=E.evar
 obtain ⟨m,rfl,hl,r0⟩:=Jn ok f0 v0 h
 obtain ⟨m',s,_,r1⟩:=Jn ok f1 v1 h
 cases s
 obtain ⟨m',s,_,r2⟩:=Jn ok f2 v2 h
 cases s
 obtain ⟨m',s,_,r3⟩:=Jn ok E.o3 ae h
 cases s
 have ab:cs.length=14:=by rw [hl,Z0u ok hz,aa]
 obtain ⟨a,a1,a2,a3⟩:=Z1R ok v0 r0
 obtain ⟨b,b1,b2,b3⟩:=Z1R ok v1 r1
 obtain ⟨c,c1,c2,c3⟩:=ZfW ok s2 (fun m _ cs h=> Zex ok T m cs h) r2
 obtain ⟨d,d1,d2⟩:=IH m JX _ r3
 rw [u] at d1
 rw [T.enc] at d1
 rw [T.bytes] at c2
 have hk:=ZEw c3
 have g:=a1.glue rfl (by simp;omega) (b1.glue rfl (by simp;omega) (c1.glue rfl (by simp;omega) (d1.glue rfl JX (RelS.done (n:=14) ab))))
 exact ⟨⟨a,b,c,d⟩,by rw [T.enc];exact g,⟨Z3b c2 V2,hk.1,d2.1⟩,⟨a2,a3⟩,⟨b2,b3⟩,hk.2,d2.2⟩
theorem ZAq(ok:CfgOk P cfg)(T:TreeTypes cfg)(E:EditTypes cfg):∀ (n:Nat) (cs:List Value),Rdd henc P w n (cfg.elT .edit) cs->∃ e:Edit,RelS cfg w.cell? cs (cfg.enc .edit e)/\inE e:=by
 intro n
 induction n using Nat.strongRecOn with
 | ind n IH=>
  intro cs h
  obtain ⟨zs,hz,ae⟩:=E.evar
  obtain ⟨t0,n0,f0,v0⟩:=E.e0
  obtain ⟨tz,aa,ab⟩:=T.var
  obtain ⟨t3,c3,f3,v3,s3⟩:=E.e3
  obtain ⟨t4,c4,f4,v4,s4⟩:=E.e4
  obtain ⟨t5,n5,f5,v5⟩:=E.e5
  obtain ⟨t6,c6,f6,v6,s6⟩:=E.e6
  obtain ⟨m,rfl,hl,r0⟩:=Jn ok f0 v0 h
  obtain ⟨u,s,_,r1⟩:=Jn ok E.e1 aa h
  cases s
  obtain ⟨u,s,_,r2⟩:=Jn ok E.e2 aa h
  cases s
  obtain ⟨u,s,_,r3⟩:=Jn ok f3 v3 h
  cases s
  obtain ⟨u,s,_,r4⟩:=Jn ok f4 v4 h
  cases s
  obtain ⟨u,s,_,r5⟩:=Jn ok f5 v5 h
  cases s
  obtain ⟨u,s,_,r6⟩:=Jn ok f6 v6 h
  cases s
  have ai:cs.length=11:=by rw [hl,Z0u ok hz,ae]
  obtain ⟨k,a1,a2,a3⟩:=Z1R ok v0 r0
  obtain ⟨o,b1,b2⟩:=Zex ok T _ _ r1
  obtain ⟨nw,d1,d2⟩:=Zex ok T _ _ r2
  obtain ⟨ws,p1,p2,p3⟩:=ZfW ok s3 (fun m _ cs h=> ZwD ok T E m cs h) r3
  obtain ⟨ks,q1,q2,q3⟩:=ZfW ok s4 (fun u hm cs h=> ZFp ok T E u (fun m2 ah cs h=> IH m2 JX cs h) cs h) r4
  obtain ⟨l,i1,i2,i3⟩:=Z1R ok v5 r5
  obtain ⟨os,j1,j2,j3⟩:=ZfW ok s6 (fun u hm cs h=> ZKf ok T E u (fun m2 ah cs h=> IH m2 JX cs h) cs h) r6
  rw [T.bytes] at p2 q2 j2
  rw [ab,T.enc] at b1 d1
  have hk:=ZyV q3
  have ho:=ZC8 j3
  have g:=a1.glue rfl (by simp;omega) (b1.glue rfl JX (d1.glue rfl JX (p1.glue rfl (by simp;omega) (q1.glue rfl (by simp;omega) (i1.glue rfl (by simp;omega) (j1.glue rfl (by simp;omega) (RelS.done (n:=11) ai)))))))
  refine ⟨.mk k o nw ws ks l os,by rw [T.enc];exact g,⟨b2.1,d2.1,Z3b p2 V2,Z3b q2 V2,Z3b j2 V2,hk.1,ho.1⟩,⟨a2,a3⟩,b2.2,d2.2,p3,⟨i2,i3⟩,hk.2,ho.2⟩
end
end Go.AM
namespace Go.AM
variable {P:Program} {cfg:Cfg U}
structure CellR (α:Type) where
 get:List (Tok × LC U)->C U->Option α
 can:α->C U
 canL:α->List (Tok × LC U)
 ok:∀ (cfg:Cfg U) L c a,get L c=some a->ZeX cfg c (can a)/\∀ y∈canL a,ZE (fun _=> none) L y.1=some y.2
theorem ZoW{a b:C U}(h:Wk a b):ZeX cfg a b:=fun g v s=> ZcN (cfg:=cfg) h g (fun _=> false) v s
def Z67(k:IntKind):CellR Int:=
 {get:=fun _ c=> match c with
   | .int k' n=> if k=k' then some n else none
   | _=> none
  can:=fun n=> .int k n
  canL:=fun _=> []
  ok:=by
   intro cfg L c a h
   refine ⟨?_,fun y hy=> by cases hy⟩
   split at h
   .split at h
    .rename_i hk;subst hk;cases h;exact fun _ _ h=> h
    .cases h
   .cases h }
def Z2E:CellR Bool:=
 {get:=fun _ c=> match c with
   | .bool b=> some b
   | _=> none
  can:=fun b=> .bool b
  canL:=fun _=> []
  ok:=by
   intro cfg L c a h
   refine ⟨?_,fun y hy=> by cases hy⟩
   split at h
   .cases h;exact fun _ _ h=> h
   .cases h }
def cSl(T:Ty):CellR (List (El T)):=
 {get:=fun _ c=> match rSl T [c] with
   | some (l,_)=> some l
   | none=> none
  can:=fun l=> sl T l
  canL:=fun _=> []
  ok:=by
   intro cfg L c a h
   refine ⟨?_,fun y hy=> by cases hy⟩
   split at h
   .rename_i l r hr
    cases h
    exact ZoW (ZwG hr)
   .cases h }
def Zpj(t:Tok)(k j:Nat):Bool:=
 match t with
 | .x k' j'=> Nat.beq k' k && Nat.beq j' j
 | _=> false
theorem ZvF{t:Tok}{k j:Nat}(h:Zpj t k j=true):t= .x k j:=by
 unfold Zpj at h
 split at h
 .rw [Q6] at h
  rw [Qe h.1,Qe h.2]
 .cases h
def Z5d(T:Ty)(k j:Nat):CellR (List (El T)):=
 {get:=fun _ c=> match c with
   | .nils=> some []
   | .slice S l .full=> if h:S=T then some (h▸l) else none
   | .slice S l (.own t)=> if h:S=T then (bif Zpj t k j then some (h▸l) else none) else none
   | _=> none
  can:=fun l=> .slice (U:=U) T l (.own (.x k j))
  canL:=fun _=> []
  ok:=by
   intro cfg L c a h
   refine ⟨?_,fun y hy=> by cases hy⟩
   split at h
   .cases h
    intro g v hr
    have h1:=hr.1
    cases h1
    exact ⟨SimC.snil (cfg:=cfg) (U:=U) T _,fun _ b len cap hv=> by cases hv⟩
   .split at h
    .rename_i hT
     subst hT
     cases h
     intro g v hr
     refine ⟨hr.1.tl _,fun _ b len cap hv i h3 h4=> ?_⟩
     have:=hr.2 _ _ _ hv
     grind
    .cases h
   .split at h
    .rename_i hT
     subst hT
     rename_i t
     cases ht:Zpj t k j with
     | false=> grind
     | true=>
      rw [ht] at h
      have:=ZvF ht
      subst this
      cases h
      exact fun _ _ hr=> hr
    .cases h
   .cases h }
def cXp(k:Nat):CellR Unit:=
 {get:=fun _ c=> match c with
   | .xp k'=> bif Nat.beq k' k then some () else none
   | _=> none
  can:=fun _=> .xp k
  canL:=fun _=> []
  ok:=by
   intro cfg L c a h
   refine ⟨?_,fun y hy=> by cases hy⟩
   split at h
   .rename_i k'
    cases hk:Nat.beq k' k with
    | false=> grind
    | true=> rw [Qe hk];exact fun _ _ h=> h
   .cases h }
def cWt(T:Ty)(n:Tok):CellR (List (El T)):=
 {get:=fun L c=> match c with
   | .mref t=> if t=n then match ZE (fun _=> none) L t with
    | some x=> if h:x.T=T/\x.f=0 then some (h.1▸x.l) else none
    | none=> none
    else none
   | _=> none
  can:=fun _=> .mref n
  canL:=fun l=> [(n,LC.mk (U:=U) T l 0)]
  ok:=by
   intro cfg L c a h
   split at h
   .rename_i t
    split at h
    .rename_i ht
     subst ht
     split at h
     .rename_i x hx
      split at h
      .rename_i hT
       obtain ⟨T',l,f⟩:=x
       obtain ⟨hT1,hT2⟩:=hT
       simp only at hT1 hT2
       subst hT1 hT2
       cases h
       refine ⟨fun _ _ hr=> hr,fun y hy=> ?_⟩
       grind
      .cases h
     .cases h
    .cases h
   .cases h }
def cWr(T:Ty)(k j:Nat):CellR (List (El T)):=cWt T (.x k j)
structure ObjL (α:Type) where
 get:List (Tok × LC U)->List (C U)->Option α
 can:α->List (C U)
 canL:α->List (Tok × LC U)
 ok:∀ (cfg:Cfg U) L cs a,get L cs=some a->(∀ y∈canL a,ZE (fun _=> none) L y.1=some y.2)/\cs.length=(can a).length/\∀ (j:Nat) c c',cs[j]?=some c->(can a)[j]?=some c'->ZeX cfg c c'
def ObjL.nil:ObjL Unit:=
 {get:=fun _ cs=> match cs with
   | []=> some ()
   | _ ::_=> none
  can:=fun _=> []
  canL:=fun _=> []
  ok:=by
   grind }
def ObjL.cons{α β:Type}(A:CellR α)(B:ObjL β):ObjL (α × β):=
 {get:=fun L cs=> match cs with
   | c ::r=> match A.get L c with
    | some a=> match B.get L r with
     | some b=> some (a,b)
     | none=> none
    | none=> none
   | []=> none
  can:=fun p=> A.can p.1 ::B.can p.2
  canL:=fun p=> A.canL p.1++B.canL p.2
  ok:=by
   intro cfg L cs p h
   cases cs with
   | nil=> cases h
   | cons c r=>
    simp only at h
    split at h
    .rename_i a ha
     split at h
     .rename_i b hb
      cases h
      obtain ⟨h0,h1,h2⟩:=B.ok cfg L r b hb
      obtain ⟨h3,h4⟩:=A.ok cfg L c a ha
      grind
     .cases h
    .cases h }
structure ArgM (α:Type) where
 get:List (Tok × LC U)->List (V U)->List (List (C U))->Option α
 can:α->List (V U)
 canX:α->List (List (C U))
 canL:α->List (Tok × LC U)
 ok:∀ cfg:Cfg U,cfg.enc=enc->∀ L xs X a,get L xs X=some a->BetterAll cfg xs (can a) X (canX a)/\∀ y∈canL a,ZE (fun _=> none) L y.1=some y.2
def ArgM.nil:ArgM Unit:=
 {get:=fun _ xs X=> match xs,X with
   | [],[]=> some ()
   | _,_=> none
  can:=fun _=> []
  canX:=fun _=> []
  canL:=fun _=> []
  ok:=by
   intro cfg _ L xs X a h
   split at h
   .exact ⟨BetterAll.refl [] [],fun y hy=> by cases hy⟩
   .cases h }
def ArgM.cons{α β:Type}(A:Arg α)(B:ArgM β):ArgM (α × β):=
 {get:=fun L xs X=> match xs with
   | x ::r=> match A.get x with
    | some a=> match B.get L r X with
     | some b=> some (a,b)
     | none=> none
    | none=> none
   | []=> none
  can:=fun p=> A.can p.1 ::B.can p.2
  canX:=fun p=> B.canX p.2
  canL:=fun p=> B.canL p.2
  ok:=by
   intro cfg hc L xs X p h
   cases xs with
   | nil=> cases h
   | cons x r=>
    simp only at h
    split at h
    .rename_i a ha
     split at h
     .rename_i b hb
      cases h
      obtain ⟨hB,hBL⟩:=B.ok cfg hc L r X b hb
      refine ⟨?_,hBL⟩
      refine ⟨by simp [hB.len],fun j x' y hx hy=> ?_,hB.xlen,hB.xl,hB.x⟩
      cases j with
      | zero=> simp at hx hy;subst hx hy;exact A.ok cfg hc x a ha
      | succ j=> exact hB.args j x' y (by simpa using hx) (by simpa using hy)
     .cases h
    .cases h }
def isX(k o:Nat):V U->Bool
 | .ptr (.x k') off=> Nat.beq k k' && Nat.beq off o
 | _=> false
theorem ZGu{k o:Nat}{v:V U}(h:isX k o v=true):v= .ptr (.x k) o:=by
 unfold isX at h
 split at h
 .rw [Q6] at h
  rw [Qe h.1,Qe h.2]
 .cases h
def ArgM.lst{α β:Type}(A:CellR α)(B:ArgM β):ArgM (α × β):=
 {get:=fun L xs X=> match xs with
   | .c x ::r=> match A.get L x with
    | some a=> match B.get L r X with
     | some b=> some (a,b)
     | none=> none
    | none=> none
   | _=> none
  can:=fun p=> .c (A.can p.1) ::B.can p.2
  canX:=fun p=> B.canX p.2
  canL:=fun p=> A.canL p.1++B.canL p.2
  ok:=by
   intro cfg hc L xs X p h
   split at h
   .rename_i x r
    split at h
    .rename_i a ha
     split at h
     .rename_i b hb
      cases h
      obtain ⟨hB,hBL⟩:=B.ok cfg hc L r X b hb
      obtain ⟨hA,hAL⟩:=A.ok cfg L x a ha
      refine ⟨⟨by simp [hB.len],fun j x' y hx hy=> ?_,hB.xlen,hB.xl,hB.x⟩,fun y hy=> (Qj.1 hy).elim (hAL y) (hBL y)⟩
      cases j with
      | zero=> simp at hx hy;subst hx hy;exact fun g live v hr=> hA g v hr
      | succ j=> exact hB.args j x' y (by simpa using hx) (by simpa using hy)
     .cases h
    .cases h
   .cases h }
def ArgM.agg{α β:Type}(A:ObjL α)(B:ArgM β):ArgM (α × β):=
 {get:=fun L xs X=> match xs with
   | .agg x ::r=> match A.get L x with
    | some a=> match B.get L r X with
     | some b=> some (a,b)
     | none=> none
    | none=> none
   | _=> none
  can:=fun p=> .agg (A.can p.1) ::B.can p.2
  canX:=fun p=> B.canX p.2
  canL:=fun p=> A.canL p.1++B.canL p.2
  ok:=by
   intro cfg hc L xs X p h
   split at h
   .rename_i x r
    split at h
    .rename_i a ha
     split at h
     .rename_i b hb
      cases h
      obtain ⟨hB,hBL⟩:=B.ok cfg hc L r X b hb
      obtain ⟨hAL,hl,hA⟩:=A.ok cfg L x a ha
      refine ⟨⟨by simp [hB.len],fun j x' y hx hy=> ?_,hB.xlen,hB.xl,hB.x⟩,fun y hy=> (Qj.1 hy).elim (hAL y) (hBL y)⟩
      cases j with
      | zero=>
       simp at hx hy
       subst hx hy
       rintro g live v ⟨vs,h1,h2,h3⟩
       refine ⟨vs,h1,by rw [h2,hl],fun j u c' hu hc'=> ?_⟩
       have hj:j < x.length:=by have:=(Q8.1 hc').1;omega
       exact hA j _ c' (Q4 hj) hc' g u (h3 j u _ hu (Q4 hj))
      | succ j=> exact hB.args j x' y (by simpa using hx) (by simpa using hy)
     .cases h
    .cases h
   .cases h }
def ArgM.hid{α β:Type}(A:ObjL α)(B:ArgM β):ArgM (α × β):=
 {get:=fun L xs X=> match X with
   | cs ::X'=> match A.get L cs with
    | some a=> match B.get L xs X' with
     | some b=> some (a,b)
     | none=> none
    | none=> none
   | []=> none
  can:=fun p=> B.can p.2
  canX:=fun p=> A.can p.1 ::B.canX p.2
  canL:=fun p=> A.canL p.1++B.canL p.2
  ok:=by
   intro cfg hc L xs X p h
   cases X with
   | nil=> cases h
   | cons cs X'=>
    simp only at h
    split at h
    .rename_i a ha
     split at h
     .rename_i b hb
      cases h
      obtain ⟨hB,hBL⟩:=B.ok cfg hc L xs X' b hb
      obtain ⟨hAL,hA⟩:=A.ok cfg L cs a ha
      refine ⟨?_,fun y hy=> (Qj.1 hy).elim (hAL y) (hBL y)⟩
      refine ⟨hB.len,hB.args,by simp [hB.xlen],fun j x' y hx hy=> ?_,fun j x' y hx hy i c c' hcc hc'=> ?_⟩
      .cases j with
       | zero=> grind
       | succ j=> exact hB.xl j x' y (by simpa using hx) (by simpa using hy)
      .cases j with
       | zero=>
        grind
       | succ j=> exact hB.x j x' y (by simpa using hx) (by simpa using hy) i c c' hcc hc'
     .cases h
    .cases h }
def ArgM.objAt{α β:Type}(k o:Nat)(A:ObjL α)(B:ArgM β):ArgM (α × β):=
 {get:=fun L xs X=> match xs,X with
   | x ::r,cs ::X'=> bif isX k o x then match A.get L cs with
    | some a=> match B.get L r X' with
     | some b=> some (a,b)
     | none=> none
    | none=> none
    else none
   | _,_=> none
  can:=fun p=> .ptr (.x k) o ::B.can p.2
  canX:=fun p=> A.can p.1 ::B.canX p.2
  canL:=fun p=> A.canL p.1++B.canL p.2
  ok:=by
   intro cfg hc L xs X p h
   split at h
   .rename_i x r cs X'
    cases hx:isX k o x with
    | false=> grind
    | true=>
     rw [hx] at h
     simp only [cond_true] at h
     have ex:=ZGu hx
     subst ex
     split at h
     .rename_i a ha
      split at h
      .rename_i b hb
       cases h
       obtain ⟨hB,hBL⟩:=B.ok cfg hc L r X' b hb
       obtain ⟨hAL,hA⟩:=A.ok cfg L cs a ha
       refine ⟨?_,fun y hy=> (Qj.1 hy).elim (hAL y) (hBL y)⟩
       refine ⟨by simp [hB.len],fun j x' y hx hy=> ?_,by simp [hB.xlen],fun j x' y hx hy=> ?_,fun j x' y hx hy i c c' hcc hc'=> ?_⟩
       .cases j with
        | zero=> simp at hx hy;subst hx hy;exact fun _ _ _ h=> h
        | succ j=> exact hB.args j x' y (by simpa using hx) (by simpa using hy)
       .cases j with
        | zero=> simp at hx hy;subst hx hy;exact hA.1
        | succ j=> exact hB.xl j x' y (by simpa using hx) (by simpa using hy)
       .cases j with
        | zero=>
         simp at hx hy
         subst hx hy
         exact hA.2 i c c' hcc hc'
        | succ j=> exact hB.x j x' y (by simpa using hx) (by simpa using hy) i c c' hcc hc'
      .cases h
     .cases h
   .cases h }
def ArgM.obj{α β:Type}(k:Nat)(A:ObjL α)(B:ArgM β):ArgM (α × β):=ArgM.objAt k 0 A B
def ArgM.clo{α β:Type}(f:FuncId)(k:Nat)(A:ObjL α)(B:ArgM β):ArgM (α × β):=
 {get:=fun L xs X=> match xs,X with
   | .clo g [.x k'] ::r,cs ::X'=> bif Nat.beq g f && Nat.beq k' k then match A.get L cs with
    | some a=> match B.get L r X' with
     | some b=> some (a,b)
     | none=> none
    | none=> none
    else none
   | _,_=> none
  can:=fun p=> .clo f [.x k] ::B.can p.2
  canX:=fun p=> A.can p.1 ::B.canX p.2
  canL:=fun p=> A.canL p.1++B.canL p.2
  ok:=by
   intro cfg hc L xs X p h
   split at h
   .rename_i g k' r cs X'
    cases hx:(Nat.beq g f && Nat.beq k' k) with
    | false=> grind
    | true=>
     rw [hx] at h
     simp only [cond_true] at h
     rw [Q6] at hx
     have e1:=Qe hx.1
     have e2:=Qe hx.2
     subst e1 e2
     split at h
     .rename_i a ha
      split at h
      .rename_i b hb
       cases h
       obtain ⟨hB,hBL⟩:=B.ok cfg hc L r X' b hb
       obtain ⟨hAL,hA⟩:=A.ok cfg L cs a ha
       refine ⟨?_,fun y hy=> (Qj.1 hy).elim (hAL y) (hBL y)⟩
       refine ⟨by simp [hB.len],fun j x' y hx hy=> ?_,by simp [hB.xlen],fun j x' y hx hy=> ?_,fun j x' y hx hy i c c' hcc hc'=> ?_⟩
       .cases j with
        | zero=> simp at hx hy;subst hx hy;exact fun _ _ _ h=> h
        | succ j=> exact hB.args j x' y (by simpa using hx) (by simpa using hy)
       .cases j with
        | zero=> simp at hx hy;subst hx hy;exact hA.1
        | succ j=> exact hB.xl j x' y (by simpa using hx) (by simpa using hy)
       .cases j with
        | zero=>
         simp at hx hy
         subst hx hy
         exact hA.2 i c c' hcc hc'
        | succ j=> exact hB.x j x' y (by simpa using hx) (by simpa using hy) i c c' hcc hc'
      .cases h
     .cases h
   .cases h }
def fsX{α:Type}(A:ArgM α)(pre:α->List Prop)(res:α->V U)(resX:α->List (List (C U))):Fs U:=
 {fn:=fun xs X=> match A.get [] xs X with
   | some a=> some (pre a,res a,resX a)
   | none=> none }
theorem Z1G {Γ:Known U} {α:Type} {A:ArgM α} {pre:α->List Prop} {res:α->V U} {resX:α->List (List (C U))} (ok:CfgOk P cfg) (henc:cfg.enc=enc) (hΓ:∀ f s,Γ f=some s->Contract P cfg f s) {f:FuncId} {fn:Func} (lv:Za U)
  (hf : P.funcs[f]? = some fn) (hb : fn.body = some (cd fn [])) (hname : (fn.name == "runtime.NumGoroutine") = false) (hn : ∀ a, (A.can a).length ≤ fn.ntmps)
  (hbody:∀ a,All (pre a)->awp cfg Γ (Z00 cfg Γ) fn.ntmps lv (cd fn []) (Zf (A.can a) (A.canX a)) (Y7 cfg fn.ntmps fn.results.toList (res a) (resX a))):Contract P cfg f (fsX A pre res resX):=by
 refine ZdJ ok hΓ (Z1E ok hΓ) lv hf hb hname ?_
 intro args X ps r X' u aa
 unfold fsX at u
 simp only at u
 split at u
 .rename_i a ha
  cases u
  exact ⟨A.can a,A.canX a,(A.ok cfg henc [] args X a ha).1,hn a,hbody a aa⟩
 .cases u
theorem Zv {l:List (FuncId × Fs U)} {α:Type} {A:ArgM α} {pre:α->Prop} {res:α->V U} {resX:α->List (List (C U))} (ok:CfgOk P cfg) (henc:cfg.enc=enc) (hl:Z4A P cfg l) {f:FuncId} {fn:Func} (lv:Za U)
  (hf : P.funcs[f]? = some fn) (hb : fn.body = some (cd fn [])) (hname : (fn.name == "runtime.NumGoroutine") = false) (n : Nat) (hn : ∀ a, (A.can a).length = n) (hn' : n ≤ fn.ntmps)
  (hbody:∀ a,pre a->awp cfg (Z2 l) (Z00 cfg (Z2 l)) fn.ntmps lv (cd fn []) (Zf (A.can a) (A.canX a)) (Y7 cfg fn.ntmps fn.results.toList (res a) (resX a))):Contract P cfg f (fsX A (fun a=> [pre a]) res resX):=
 Z1G ok henc (Z0a hl) lv hf hb hname (fun a=> by grind) (fun a h=> hbody a h.1)
theorem ZbF {α : Type} {A : ArgM α} {pre : α → Prop} {μ : α → Nat} {res : α → V U} {resX : α → List (List (C U))} {f : FuncId} (h0 : ∃ fn, P.funcs[f]? = some fn ∧ fn.body.isSome = true ∧ (fn.name == "runtime.NumGoroutine") = false) :
  Contract P cfg f (fsX A (fun a=> [pre a,μ a < 0]) res resX):=by
 refine Z0t h0 rfl ?_
 intro args X u r X' h s
 unfold fsX at h
 simp only at h
 split at h
 .cases h;exact absurd s.2.1 (Nat.not_lt_zero _)
 .cases h
theorem ZbG {α : Type} {A : ArgM α} {pre : α → Prop} {μ : α → Nat} {res : α → V U} {resX : α → List (List (C U))} {f : FuncId} (h0 : ∃ fn, P.funcs[f]? = some fn ∧ fn.body.isSome = true ∧ (fn.name == "runtime.NumGoroutine") = false)
  (key:∀ N,Contract P cfg f (fsX A (fun a=> [pre a,μ a < N]) res resX)):Contract P cfg f (fsX A (fun a=> [pre a]) res resX):=by
 refine Z0t h0 rfl ?_
 intro args X ps r X' h s hX w g vs E
 unfold fsX at h
 simp only at h
 split at h
 .rename_i a u
  cases h
  exact (key (μ a+1)).one rfl args X [pre a,μ a < μ a+1] _ _ (by simp only [fsX,u]) ⟨s.1,Kl _,trivial⟩ hX w g vs E
 .cases h
def ZhC{α:Type}(A:ArgM α)(pre:α->List Prop)(res:α->V U)(resX:α->List (List (C U)))(resL:α->List (Tok × LC U)):Fs U:=
 {wr:=true
  mkl:=true
  fn:=fun _ _=> none
  fn2:=fun xs X L=> match A.get L xs X with
   | some a=> some (pre a,res a,resX a,resL a)
   | none=> none }
theorem Zb8:∀ {L:List (Tok × LC U)} {t:Tok} {x:LC U},ZE (fun _=> none) L t=some x->(t,x)∈L
 | [],t,x,h=> by trivial
 | (a,y) ::L,t,x,h=> by
  simp only [ZE] at h
  split at h
  .grind
  .exact Q0 _ (Zb8 h)
theorem ZhG {Γ:Known U} {α:Type} {A:ArgM α} {pre:α->List Prop} {res:α->V U} {resX:α->List (List (C U))} {resL:α->List (Tok × LC U)} (ok:CfgOk P cfg) (henc:cfg.enc=enc) (hΓ:∀ f s,Γ f=some s->Contract P cfg f s) {f:FuncId} {fn:Func} (lv:Za U)
  (hf : P.funcs[f]? = some fn) (hb : fn.body = some (cd fn [])) (hname : (fn.name == "runtime.NumGoroutine") = false) (hn : ∀ a, (A.can a).length ≤ fn.ntmps)
  (hbody:∀ a,All (pre a)->awp cfg Γ (Z00 cfg Γ) fn.ntmps lv (cd fn []) (Z0s (A.can a) (A.canX a) (A.canL a)) (Z1a cfg fn.ntmps fn.results.toList (res a) (resX a) (resL a))):Contract P cfg f (ZhC A pre res resX resL):=by
 refine Z65 ok hΓ (Z1E ok hΓ) lv hf hb hname ?_
 intro args X L ps r X' L' u aa
 unfold ZhC at u
 simp only at u
 split at u
 .rename_i a ha
  cases u
  obtain ⟨h1,h2⟩:=A.ok cfg henc L args X a ha
  exact ⟨A.can a,A.canX a,A.canL a,h1,fun t x hx=> h2 _ (Zb8 hx),hn a,hbody a aa⟩
 .cases u
theorem J8 {l:List (FuncId × Fs U)} {α:Type} {A:ArgM α} {pre:α->Prop} {res:α->V U} {resX:α->List (List (C U))} {resL:α->List (Tok × LC U)} (ok:CfgOk P cfg) (henc:cfg.enc=enc) (hl:Z4A P cfg l) {f:FuncId} {fn:Func} (lv:Za U)
  (hf : P.funcs[f]? = some fn) (hb : fn.body = some (cd fn [])) (hname : (fn.name == "runtime.NumGoroutine") = false) (n : Nat) (hn : ∀ a, (A.can a).length = n) (hn' : n ≤ fn.ntmps)
  (hbody:∀ a,pre a->awp cfg (Z2 l) (Z00 cfg (Z2 l)) fn.ntmps lv (cd fn []) (Z0s (A.can a) (A.canX a) (A.canL a)) (Z1a cfg fn.ntmps fn.results.toList (res a) (resX a) (resL a))):Contract P cfg f (ZhC A (fun a=> [pre a]) res resX resL):=
 ZhG (Γ:=Z2 l) ok henc (Z0a hl) lv hf hb hname (fun a=> by grind) (fun a h=> hbody a h.1)
def Fs.passing(s:Fs U)(p:List Nat):Fs U:={ s with pass:=fun i=> p.contains i }
theorem Contract.passing{f:FuncId}{s:Fs U}{p:List Nat}(h:Contract P cfg f s):Contract P cfg f (s.passing p):=h
def fsL{α:Type}(A:ArgL α)(pre:α->List Prop)(T:Ty)(res:α->List (El T)):Fs U:=
 {mkl:=true
  fn:=fun _ _=> none
  fn2:=fun xs X L=> match X,L with
   | [],[]=> match A.get xs with
    | some a=> some (pre a,.c (.mref (.r 0 0)),[],[(.r 0 0,LC.mk (U:=U) T (res a) 0)])
    | none=> none
   | _,_=> none }
theorem Z1H {l:List (FuncId × Fs U)} {α:Type} {A:ArgL α} {pre:α->Prop} {T:Ty} {res:α->List (El T)} (ok:CfgOk P cfg) (henc:cfg.enc=enc) (hl:Z4A P cfg l) {f:FuncId} {fn:Func} (lv:Za U)
  (hf : P.funcs[f]? = some fn) (hb : fn.body = some (cd fn [])) (hname : (fn.name == "runtime.NumGoroutine") = false) (n : Nat) (hn : ∀ a, (A.can a).length = n) (hn' : n ≤ fn.ntmps)
  (hbody:∀ a,pre a->awp cfg (Z3Q l) (Z00 cfg (Z3Q l)) fn.ntmps lv (cd fn []) (Zf (A.can a) []) (Z1a cfg fn.ntmps fn.results.toList (.c (.mref (.r 0 0))) [] [(.r 0 0,LC.mk (U:=U) T (res a) 0)])):Contract P cfg f (fsL A (fun a=> [pre a]) T res):=by
 have kn:∀ f s,(Z3Q l) f=some s->Contract P cfg f s:=Z0a hl
 refine Z65 ok kn (Z1E ok kn) lv hf hb hname ?_
 intro args X L ps r X' L' h aa
 unfold fsL at h
 simp only at h
 split at h
 .split at h
  .rename_i a ha
   cases h
   obtain ⟨h1,h2⟩:=A.ok cfg henc args a ha
   exact ⟨A.can a,[],[],⟨h1,h2,rfl,fun k x y u=> by simp at u,fun k x y u=> by simp at u⟩,fun t x u=> u,by grind,hbody a aa.1⟩
  .cases h
 .cases h
def ZGw(s s':Fs U):Fs U:=
 {wr:=s.wr
  mkl:=s.mkl
  obj:=s.obj || s'.obj
  fn:=fun _ _=> none
  fn2:=fun xs X L=> match s.fn2 xs X L with
   | some r=> some r
   | none=> s'.fn2 xs X L }
theorem Zn3{f:FuncId}{s s':Fs U}(h:Contract P cfg f s)(h':Contract P cfg f s'):Contract P cfg f (ZGw s s'):=by
 refine ⟨h.1,fun args X L ps r X' L' he u hX w g vs E=> ?_⟩
 simp only [ZGw] at he
 split at he
 .rename_i r0 h0
  cases he
  exact h.2 args X L ps r X' L' h0 u hX w g vs E
 .exact h'.2 args X L ps r X' L' he u hX w g vs E
def Fs.lend(s:Fs U):Fs U:={ s with bor:=true }
theorem Contract.lend{f:FuncId}{s:Fs U}(h:Contract P cfg f s):Contract P cfg f s.lend:=h
end Go.AM
namespace Go.AM
def aFn(f:FuncId):Arg Unit:=
 {get:=fun v=> match v with
   | .fn g=> if Nat.beq g f then some () else none
   | _=> none
  can:=fun _=> .fn f
  ok:=by
   intro cfg _ v a h
   split at h
   .split at h
    .rename_i hb
     rw [Qe hb]
     exact fun _ _ _ h=> h
    .cases h
   .cases h }
end Go.AM
namespace Go.AM.YtpjenobkibfpcaaGreat
open Go.AM Go.Proofs
def el:Ty->TypeId
 | .u64=> 101
 | .u8=> 5
 | .int=> 3
 | .tree=> 25
 | .wedit=> 113
 | .edit=> 30
 | .kid=> 115
 | .op=> 103
 | .piece=> 173
 | .unit=> 200
 | .pair=> 202
 | .left=> 110
 | .deed=> 56
 | .hdeed=> 82
def tb:Tables U:=
 {el:=el
  sl:=[(22,.u64),(23,.tree),(26,.wedit),(27,.kid),(28,.op),(39,.edit),(50,.deed),(78,.hdeed),(166,.piece),(182,.int),(188,.pair),(191,.unit),(221,.u8)]
  var:=[(2,false,[.int .i64 0]),
   (3,false,[.int .i64 0]),
   (4,false,[.bool false]),
   (5,false,[.int .u8 0]),
   (6,false,[.int .u8 0]),
   (7,true,[.int .i64 0,.int .i64 0,.bool false,.int .u8 0]),
   (8,true,[.int .i64 0,.int .i64 0,.bool false,.int .u8 0]),
   (12,false,[.int .u64 0]),
   (15,false,[.nilp]),
   (16,false,[.nilp]),
   (17,false,[.nilp]),
   (18,true,[.nilp]),
   (19,true,[.nilp]),
   (21,false,[.int .i32 0]),
   (22,false,[.nils]),
   (23,false,[.nils]),
   (24,true,[.int .i64 0,.nils,.nils]),
   (25,true,[.int .i64 0,.nils,.nils]),
   (26,false,[.nils]),
   (27,false,[.nils]),
   (28,false,[.nils]),
   (29,true,[.int .i64 0,.int .i64 0,.nils,.nils,.int .i64 0,.nils,.nils,.nils,.nils,.int .i64 0,.nils]),
   (30,true,[.int .i64 0,.int .i64 0,.nils,.nils,.int .i64 0,.nils,.nils,.nils,.nils,.int .i64 0,.nils]),
   (33,false,[.int .i64 0]),
   (39,false,[.nils]),
   (50,false,[.nils]),
   (52,false,[.nilp]),
   (55,true,[.int .i64 0,.int .i64 0,.int .i64 0,.int .i64 0,.nils,.nils,.int .i64 0,.nils,.nils,.nils,.nils,.int .i64 0,.nils]),
   (56,true,[.int .i64 0,.int .i64 0,.int .i64 0,.int .i64 0,.nils,.nils,.int .i64 0,.nils,.nils,.nils,.nils,.int .i64 0,.nils]),
   (62,false,[.nilp]),
   (64,true,[.int .i64 0,.nils,.nils,.int .i64 0,.nils,.nils,.nils,.nils]),
   (65,true,[.int .i64 0,.nils,.nils,.int .i64 0,.nils,.nils,.nils,.nils]),
   (71,false,[.nilp]),
   (78,false,[.nils]),
   (79,false,[.nilp]),
   (81,true,[.int .i64 0,.int .i64 0,.int .i64 0,.int .i64 0,.int .i64 0,.nils,.nils,.int .i64 0,.nils,.nils,.nils,.nils,.int .i64 0,.nils]),
   (82,true,[.int .i64 0,.int .i64 0,.int .i64 0,.int .i64 0,.int .i64 0,.nils,.nils,.int .i64 0,.nils,.nils,.nils,.nils,.int .i64 0,.nils]),
   (85,false,[.nilp]),
   (86,true,[.nilp,.nilp,.nilp,.nilp]),
   (87,false,[.nilp]),
   (88,false,[.nilp]),
   (89,true,[.nilp,.nilp,.nilp,.nilp]),
   (90,true,[.nilp,.nilp,.nilp,.nilp,.nilp,.nilp,.nilp,.nilp,.nilp,.nilp]),
   (91,true,[.nilp,.nilp,.nilp,.nilp,.nilp,.nilp,.nilp,.nilp,.nilp,.nilp]),
   (101,false,[.int .u64 0]),
   (102,true,[.int .i64 0,.int .i64 0,.nils,.int .i64 0,.int .i64 0,.nils,.nils,.int .i64 0,.nils,.nils,.nils,.nils,.int .i64 0,.nils]),
   (103,true,[.int .i64 0,.int .i64 0,.nils,.int .i64 0,.int .i64 0,.nils,.nils,.int .i64 0,.nils,.nils,.nils,.nils,.int .i64 0,.nils]),
   (104,false,[.nilp]),
   (105,true,[.bool false,.bool false]),
   (106,true,[.bool false,.bool false]),
   (109,true,[.int .i64 0,.int .i64 0,.nils,.nils,.int .i64 0,.nils,.nils,.nils,.nils,.int .i64 0,.nils,.int .i64 0,.int .i64 0,.nils,.nils,.int .i64 0,.nils,.nils,.nils,.nils,.int .i64 0,.nils,.bool false,.bool false]),
   (110,true,[.int .i64 0,.int .i64 0,.nils,.nils,.int .i64 0,.nils,.nils,.nils,.nils,.int .i64 0,.nils,.int .i64 0,.int .i64 0,.nils,.nils,.int .i64 0,.nils,.nils,.nils,.nils,.int .i64 0,.nils,.bool false,.bool false]),
   (112,true,[.int .i64 0,.int .u8 0,.int .u64 0,.int .u64 0]),
   (113,true,[.int .i64 0,.int .u8 0,.int .u64 0,.int .u64 0]),
   (114,true,[.int .i64 0,.int .i64 0,.int .i64 0,.nils,.nils,.int .i64 0,.nils,.nils,.nils,.nils,.int .i64 0,.nils]),
   (115,true,[.int .i64 0,.int .i64 0,.int .i64 0,.nils,.nils,.int .i64 0,.nils,.nils,.nils,.nils,.int .i64 0,.nils]),
   (123,true,[.int .i64 0,.nils,.nils,.nils,.nils]),
   (124,true,[.int .i64 0,.nils,.nils,.nils,.nils]),
   (130,true,[.int .i64 0,.nils,.nils,.nils]),
   (131,true,[.int .i64 0,.nils,.nils,.nils]),
   (136,true,[.int .i64 0,.nils,.nils,.int .i64 0,.nils,.nils,.nils]),
   (137,true,[.int .i64 0,.nils,.nils,.int .i64 0,.nils,.nils,.nils]),
   (138,true,[.int .i64 0,.nils,.nils,.int .i64 0,.int .i64 0,.int .i64 0,.nils,.nils,.int .i64 0,.nils,.nils,.nils,.nils,.int .i64 0,.nils]),
   (139,true,[.int .i64 0,.nils,.nils,.int .i64 0,.int .i64 0,.int .i64 0,.nils,.nils,.int .i64 0,.nils,.nils,.nils,.nils,.int .i64 0,.nils]),
   (141,true,[.int .i64 0,.nils,.nils,.int .i64 0,.int .i64 0,.int .i64 0,.nils,.nils,.int .i64 0,.nils,.nils,.nils,.nils,.int .i64 0,.nils]),
   (142,true,[.int .i64 0,.nils,.nils,.int .i64 0,.int .i64 0,.int .i64 0,.nils,.nils,.int .i64 0,.nils,.nils,.nils,.nils,.int .i64 0,.nils]),
   (166,false,[.nils]),
   (169,false,[.nilp]),
   (170,true,[.nilp,.nils,.nils,.nils,.nils]),
   (171,true,[.nilp,.nils,.nils,.nils,.nils]),
   (172,true,[.int .i64 0,.int .i64 0,.int .i64 0,.nils,.int .i64 0,.int .i64 0,.nils,.nils,.int .i64 0,.nils,.nils,.nils,.nils,.int .i64 0,.nils,.int .i64 0,.int .i64 0,.nils,.int .i64 0,.int .i64 0,.nils,.nils,.int .i64 0,.nils,.nils,.nils,.nils,.int .i64 0,.nils]),
   (173,true,[.int .i64 0,.int .i64 0,.int .i64 0,.nils,.int .i64 0,.int .i64 0,.nils,.nils,.int .i64 0,.nils,.nils,.nils,.nils,.int .i64 0,.nils,.int .i64 0,.int .i64 0,.nils,.int .i64 0,.int .i64 0,.nils,.nils,.int .i64 0,.nils,.nils,.nils,.nils,.int .i64 0,.nils]),
   (176,false,[.nilp]),
   (177,true,[.nils,.nils,.nils]),
   (178,true,[.nils,.nils,.nils]),
   (181,false,[.nilp]),
   (182,false,[.nils]),
   (188,false,[.nils]),
   (191,false,[.nils]),
   (199,true,[.int .i64 0,.int .i64 0,.int .i64 0,.nils,.nils,.int .i64 0,.int .i64 0,.nils,.nils,.int .i64 0,.nils,.nils,.nils,.nils,.int .i64 0,.nils,.bool false]),
   (200,true,[.int .i64 0,.int .i64 0,.int .i64 0,.nils,.nils,.int .i64 0,.int .i64 0,.nils,.nils,.int .i64 0,.nils,.nils,.nils,.nils,.int .i64 0,.nils,.bool false]),
   (201,true,[.int .i64 0,.int .i64 0,.int .i64 0,.int .i64 0,.nils,.nils,.int .i64 0,.int .i64 0,.nils,.nils,.int .i64 0,.nils,.nils,.nils,.nils,.int .i64 0,.nils,.bool false,.int .i64 0,.int .i64 0,.int .i64 0,.nils,.nils,.int .i64 0,.int .i64 0,.nils,.nils,.int .i64 0,.nils,.nils,.nils,.nils,.int .i64 0,.nils,.bool false]),
   (202,true,[.int .i64 0,.int .i64 0,.int .i64 0,.int .i64 0,.nils,.nils,.int .i64 0,.int .i64 0,.nils,.nils,.int .i64 0,.nils,.nils,.nils,.nils,.int .i64 0,.nils,.bool false,.int .i64 0,.int .i64 0,.int .i64 0,.nils,.nils,.int .i64 0,.int .i64 0,.nils,.nils,.int .i64 0,.nils,.nils,.nils,.nils,.int .i64 0,.nils,.bool false]),
   (217,true,[.int .u8 0,.int .u8 0,.int .u8 0,.int .u8 0,.int .u8 0,.int .u8 0,.int .u8 0,.int .u8 0]),
   (221,false,[.nils]),
   (227,false,[.nilp]),
   (228,true,[.nils,.int .i64 0]),
   (229,true,[.nils,.int .i64 0]),
   (259,true,[.int .i64 0,.int .i64 0,.int .i64 0,.int .i64 0,.int .i64 0,.int .i64 0]),
   (267,false,[.int .u32 0]),
   (268,false,[.int .u8 0]),
   (269,false,[.int .u8 0]),
   (271,false,[.nilp]),
   (272,false,[.int .i32 0]),
   (273,false,[.int .i32 0])]
  fld:=[(7,0,0,2),(7,1,1,3),(7,2,2,4),(7,3,3,6),(8,0,0,2),(8,1,1,3),(8,2,2,4),(8,3,3,6),(18,0,0,17),(19,0,0,17),(24,0,0,3),(24,1,1,22),(24,2,2,23),(25,0,0,3),(25,1,1,22),(25,2,2,23),(29,0,0,3),(29,1,1,25),(29,2,4,25),(29,3,7,26),(29,4,8,27),(29,5,9,3),(29,6,10,28),(30,0,0,3),(30,1,1,25),(30,2,4,25),(30,3,7,26),(30,4,8,27),(30,5,9,3),(30,6,10,28),(55,0,0,3),(55,1,1,3),(55,2,2,30),(56,0,0,3),(56,1,1,3),(56,2,2,30),(64,0,0,25),(64,1,3,25),(64,2,6,39),(64,3,7,39),(65,0,0,25),(65,1,3,25),(65,2,6,39),(65,3,7,39),(81,0,0,3),(81,1,1,3),(81,2,2,3),(81,3,3,30),(82,0,0,3),(82,1,1,3),(82,2,2,3),(82,3,3,30),(90,0,0,71),(90,1,1,86),(90,2,5,87),(90,3,6,89),(91,0,0,71),(91,1,1,86),(91,2,5,87),(91,3,6,89),(102,0,0,3),(102,1,1,3),(102,2,2,23),(102,3,3,30),(103,0,0,3),(103,1,1,3),(103,2,2,23),(103,3,3,30),(105,0,0,4),(105,1,1,4),(106,0,0,4),(106,1,1,4),(109,0,0,30),(109,1,11,30),(109,2,22,4),(109,3,23,4),(110,0,0,30),(110,1,11,30),(110,2,22,4),(110,3,23,4),(112,0,0,3),(112,1,1,5),(112,2,2,101),(112,3,3,101),(113,0,0,3),(113,1,1,5),(113,2,2,101),(113,3,3,101),(114,0,0,3),(114,1,1,30),(115,0,0,3),(115,1,1,30),(123,0,0,25),(123,1,3,39),(123,2,4,39),(124,0,0,25),(124,1,3,39),(124,2,4,39),(130,0,0,25),(130,1,3,39),(131,0,0,25),(131,1,3,39),(136,0,0,25),(136,1,3,25),(136,2,6,39),(137,0,0,25),(137,1,3,25),(137,2,6,39),(138,0,0,25),(138,1,3,3),(138,2,4,30),(139,0,0,25),(139,1,3,3),(139,2,4,30),(141,0,0,25),(141,1,3,3),(141,2,4,30),(142,0,0,25),(142,1,3,3),(142,2,4,30),(170,0,0,104),(170,1,1,28),(170,2,2,28),(170,3,3,23),(170,4,4,23),(171,0,0,104),(171,1,1,28),(171,2,2,28),(171,3,3,23),(171,4,4,23),(172,0,0,3),(172,1,1,103),(172,2,15,103),(173,0,0,3),(173,1,1,103),(173,2,15,103),(177,0,0,28),(177,1,1,23),(177,2,2,23),(178,0,0,28),(178,1,1,23),(178,2,2,23),(199,0,0,3),(199,1,1,3),(199,2,2,25),(199,3,5,30),(199,4,16,4),(200,0,0,3),(200,1,1,3),(200,2,2,25),(200,3,5,30),(200,4,16,4),(201,0,0,3),(201,1,1,200),(201,2,18,200),(202,0,0,3),(202,1,1,200),(202,2,18,200),(228,0,0,28),(228,1,1,3),(229,0,0,28),(229,1,1,3)]
  arr:=[(86,4,85),(89,4,88),(217,8,5),(259,6,3)]
  eqs:=[7,8,105,106,112,113] }
def cfg:Cfg U:=tb.cfg K
theorem ZK5:tb.var.all (ZAi Tryz.prog)=true:=V3
theorem ZLF:tb.sl.all (slB Tryz.prog tb.el)=true:=V3
theorem ZKA:tb.fld.all (ZGx Tryz.prog)=true:=V3
theorem ZKH:tb.arr.all (ZHJ Tryz.prog)=true:=V3
theorem ZLI:∀ t,elB Tryz.prog K tb t=true:=by
 intro t
 cases t
 .kernel_rfl
 .kernel_rfl
 .kernel_rfl
 .kernel_rfl
 .kernel_rfl
 .kernel_rfl
 .kernel_rfl
 .kernel_rfl
 .kernel_rfl
 .kernel_rfl
 .kernel_rfl
 .kernel_rfl
 .kernel_rfl
 .kernel_rfl
theorem Ze:CfgOk Tryz.prog cfg:=Zta ZMd ZK5 ZLF ZKA ZKH ZLI V3 V3
abbrev sU(T:Ty)(l:List (El T))(t:Tail):C U:= .slice (U:=U) T l t
noncomputable abbrev AW(K:Known U)(f:Func)(lv:Za U)(p:List Nat):=awp cfg K (Z00 cfg K) f.ntmps lv (cd f p)
noncomputable abbrev SW(K:Known U)(f:Func)(lv:Za U)(p:List Nat):=ZKd cfg K (Z00 cfg K) f.ntmps lv (cd f p)
abbrev EQ(f:Func):=Y7 cfg f.ntmps f.results.toList
abbrev QT:=AExit->LSt U->Prop
abbrev NT:=LSt U->Prop
abbrev CT(k:FuncId)(s:Fs U):Prop:=Contract Tryz.prog cfg k s
abbrev xB:=@AExit.inBlock U
abbrev xT:=@AExit.then U
abbrev ci(x:Int):C U:= .int .i64 x
abbrev L2(e:List (Nat × V U))(m:List (Name × List (C U))):LSt U:=⟨e,m,[]⟩
abbrev zb8(f:Int->Nat->Int)(x:Int):List (C U):=[.int .u8 (f x 0),.int .u8 (f x 1),.int .u8 (f x 2),.int .u8 (f x 3),.int .u8 (f x 4),.int .u8 (f x 5),.int .u8 (f x 6),.int .u8 (f x 7)]
abbrev zi8(l:List Int):List (C U):=l.map fun x=> .int .u8 x
abbrev FK (k : FuncId) : Prop := ∃ fn, Tryz.prog.funcs[k]? = some fn ∧ fn.body.isSome = true ∧ (fn.name == "runtime.NumGoroutine") = false
abbrev pL(n:Nat):Nat × V U:=(n,.ptr (.loc n) 0)
abbrev pB(n:Nat)(b:Bool):Nat × V U:=(n,.c (.bool b))
abbrev pI(n:Nat)(x:Int):Nat × V U:=(n,.c (.int .i64 x))
def lvl(l:List (List Nat × List Nat)):Za U:=fun i=> ((l.getD i ([],[])).1.map fun k=> (k,[]),(l.getD i ([],[])).2.map fun k=> (.loc k,[]))
instance (n:Nat):OfNat (Nat × List (Sk U)) n:=⟨(n,[])⟩
instance (n:Nat):OfNat (Name × List (Sk U)) n:=⟨(.loc n,[])⟩
abbrev an(n:Nat)(l:List (Sk U)):List (Sk U):=List.replicate n .any++l
def lvk(l:List (List (Nat × List (Sk U)) × List (Name × List (Sk U)))):Za U:=fun i=> l.getD i ([],[])
abbrev zc0:List (C U):=[.int .u8 0,.int .u8 0,.int .u8 0,.int .u8 0,.int .u8 0,.int .u8 0,.int .u8 0,.int .u8 0]
abbrev zc1:List (C U):=[.int .i64 0,.int .i64 0,.nils,.nils,.int .i64 0,.nils,.nils,.nils,.nils,.int .i64 0,.nils]
abbrev zc2:List (C U):=[.int .i64 0,.int .i64 0,.nils,.int .i64 0,.int .i64 0,.nils,.nils,.int .i64 0,.nils,.nils,.nils,.nils,.int .i64 0,.nils]
end Go.AM.YtpjenobkibfpcaaGreat
namespace Go.AM.YtpjenobkibfpcaaGreat
open Go.AM Go.Proofs Go.Proofs.YtpjenobkibfpcaaGreat Go.ChangeShapes Go.WideShapes Go.RowKit
theorem own:ownKnob Tryz.prog.godebug=none:=V3
theorem ZC5:laidOutB Tryz.prog=true:=V3
theorem ZhT:TreeTypes cfg:=⟨rfl,rfl,⟨_,rfl⟩,⟨_,rfl⟩,⟨_,rfl,rfl⟩,⟨_,_,rfl,rfl⟩,⟨_,_,rfl,rfl,rfl⟩,⟨_,_,rfl,rfl,rfl⟩⟩
theorem ZiN:EditTypes cfg:=⟨⟨_,rfl,rfl⟩,⟨_,_,rfl,rfl⟩,⟨_,_,rfl,rfl⟩,⟨_,_,rfl,rfl⟩,⟨_,_,rfl,rfl⟩,⟨_,rfl,rfl⟩,⟨_,_,rfl,rfl⟩,rfl,⟨_,rfl,rfl⟩,⟨_,_,rfl,rfl⟩,⟨_,_,rfl,rfl⟩,⟨_,_,rfl,rfl,rfl⟩,rfl,⟨_,rfl,rfl⟩,⟨_,_,rfl,rfl⟩,rfl,rfl,⟨_,_,rfl,rfl,rfl⟩,⟨_,_,rfl,rfl,rfl⟩,⟨_,_,rfl,rfl⟩,⟨_,_,rfl,rfl,rfl⟩⟩
theorem ZCo{H:Type}{henc:TypeId × Value->H}:ZzR henc Tryz.prog cfg (aEl .tree) 25 inT:=ZCq Ze rfl ⟨_,_,rfl⟩ (fun _ n cs h=> Zex Ze ZhT n cs h)
end Go.AM.YtpjenobkibfpcaaGreat
namespace Go.AM.YtpjenobkibfpcaaGreat
open Go.AM Go.Proofs Go.Proofs.YtpjenobkibfpcaaGreat Go.ChangeShapes Go.WideShapes Go.RowKit
theorem ZAr{H:Type}{henc:TypeId × Value->H}{w:World}{n:Nat}{cs:List Value}(h:Rdd henc Tryz.prog w n (cfg.elT .deed) cs):∃ e:Deed,RelS cfg w.cell? cs (cfg.enc .deed e)/\inE e.e:=by
 obtain ⟨ez,aa,s⟩:=ZiN.evar
 obtain ⟨m,rfl,hl,r0⟩:=Jn Ze (t:=cfg.elT .deed) (i:=0) (off:=0) (ft:=3) (ag:=false) (zs:=[.int .i64 0]) rfl rfl h
 obtain ⟨m',u,_,r1⟩:=Jn Ze (t:=cfg.elT .deed) (i:=1) (off:=1) (ft:=3) (ag:=false) (zs:=[.int .i64 0]) rfl rfl h
 cases u
 obtain ⟨m',u,_,r2⟩:=Jn Ze (t:=cfg.elT .deed) (i:=2) (off:=2) (ft:=cfg.elT .edit) rfl aa h
 cases u
 have ab:cs.length=13:=by rw [hl,Z0u Ze (t:=cfg.elT .deed) (ag:=true) rfl];try rfl
 obtain ⟨a,a1,_⟩:=Z1R Ze (k:= .i64) (n0:=0) rfl r0
 obtain ⟨b,b1,_⟩:=Z1R Ze (k:= .i64) (n0:=0) rfl r1
 obtain ⟨c,c1,c2⟩:=ZAq Ze ZhT ZiN _ _ r2
 rw [s] at c1
 exact ⟨⟨a,b,c⟩,a1.glue rfl (by simp;omega) (b1.glue rfl (by simp;omega) (c1.glue rfl JX (RelS.done (n:=13) ab))),c2⟩
theorem ZzE{H:Type}{henc:TypeId × Value->H}:ZzR henc Tryz.prog cfg (aSl .deed) 50 (fun l=> l.length*cfg.bytes .deed<=reachBytes/\∀ d∈l,inE d.e):=
 ZCp Ze rfl (fun _ n cs h=> ZAr h)
end Go.AM.YtpjenobkibfpcaaGreat
namespace Go.AM.YtpjenobkibfpcaaGreat
open Go.AM Go.Proofs
noncomputable section
def ZoZ:ArgL (Tree × Int × Int × Unit):=(.cons (aEl .tree) (.cons (Jj .i64) (.cons (Jj .i64) .nil)))
def ZaH(a:Tree × Int × Int × Unit):Prop:=Z3q a.1/\0<=a.2.1/\a.2.1<=4611686018427387904/\-1<=a.2.2.1/\a.2.2.1<=4611686018427387904
def ZtI(a:Tree × Int × Int × Unit):Nat:=Zo a.1
def ZlU(a:Tree × Int × Int × Unit):V U:= .c (ci (ZK a.1 a.2.1 a.2.2.1))
def Z6r:Fs U:=fs ZoZ (fun a=> [ZaH a]) ZlU
def Zzy:ArgL (Tree × Unit):=(.cons (aEl .tree) .nil)
def Zqi(a:Tree × Unit):Prop:=Z3q a.1
def ZEl(a:Tree × Unit):V U:= .c (.bool (decide (0<=ZK a.1 80 3000)))
def Z6A:Fs U:=fs Zzy (fun a=> [Zqi a]) ZEl
def Zzt:ArgL (List Int × List Int × Unit):=(.cons (aSl .u64) (.cons (aSl .u64) .nil))
def Zih(a:List Int × List Int × Unit):Prop:=a.1.length<=1000000000000
def ZlV(a:List Int × List Int × Unit):V U:= .c (.bool (decide (a.1=a.2.1)))
def Zfj:Fs U:=fs Zzt (fun a=> [Zih a]) ZlV
def ZsO:ArgL (List Int × Unit):=(.cons (aSl .u64) .nil)
def Zgi(a:List Int × Unit):Prop:=a.1.length<=1000000000000
def Zwy(a:List Int × Unit):V U:= .c (sU .u64 a.1 .unk)
def Zaq:Fs U:=fs ZsO (fun a=> [Zgi a]) Zwy
def Zsy:ArgL (Tree × Int × Unit):=(.cons (aEl .tree) (.cons (Jj .i64) .nil))
def Zcc(a:Tree × Int × Unit):Prop:=True
def ZjO(a:Tree × Int × Unit):V U:= .c (.int .u64 (Z0f a.1 a.2.1))
def Z2M:Fs U:=fs Zsy (fun a=> [Zcc a]) ZjO
def ZjN(a:Tree × Int × Unit):V U:= .agg (enc .tree (Z0q a.1 a.2.1))
def Z2L:Fs U:=fs Zsy (fun a=> [Zcc a]) ZjN
def Z2l(a:Tree × Unit):Prop:=Zo a.1<=1000000000000
def ZtJ(a:Tree × Unit):Nat:=Zo a.1
def Zic(a:Tree × Unit):V U:= .agg (enc .tree (Z0 a.1))
def Z07:Fs U:=fs Zzy (fun a=> [Z2l a]) Zic
def Zp9:ArgL (Tree × Tree × Unit):=(.cons (aEl .tree) (.cons (aEl .tree) .nil))
def ZfZ(a:Tree × Tree × Unit):Prop:=Zo a.1<=1000000000000
def ZtK(a:Tree × Tree × Unit):Nat:=Zo a.1
def Zid(a:Tree × Tree × Unit):V U:= .c (.bool (Yf a.1 a.2.1))
def Zfp:Fs U:=fs Zp9 (fun a=> [ZfZ a]) Zid
def Z2z(a:Tree × Tree × Unit):Prop:=Zo a.1<=1000000000000/\Zo a.2.1<=1000000000000
def Zit(a:Tree × Tree × Unit):Nat:=Zo a.1+Zo a.2.1
def Z9g(a:Tree × Tree × Unit):V U:= .c (.bool (Yf (Z0 a.1) (Z0 a.2.1)))
def YN:Fs U:=fs Zp9 (fun a=> [Z2z a]) Z9g
def Zoz(N:Nat):List (FuncId × Fs U):=(80,fs ZoZ (fun a=> [ZaH a,ZtI a < N]) ZlU) ::[]
def ZBT:Za U:=lvl [([1,2,3],[3]),([1,2,3],[3]),([1,2,3,19],[3]),([6],[]),([1,2,3,7],[3]),([1,2,3,7,28],[3]),([1,2,3,7],[3]),([1,2,3,7],[3]),([6],[])]
def Zbo(t:Tree)(d l h s:Int):LSt U:=(L2 [pI 1 d,pI 2 h,pL 3,pI 7 s] [(.loc 3,(enc .tree t))])
abbrev A80(N:Nat)(p:List Nat):=AW (Z2 (Zoz N)) Tryz.f80 ZBT p
abbrev S80(N:Nat)(p:List Nat):=SW (Z2 (Zoz N)) Tryz.f80 ZBT p
theorem ZLe(N:Nat)(t:Tree)(d l:Int)(Q:QT)(h:((InR (l - 1))/\(InR (((l - 1):Int) - (t.words.length:Int)))/\((Tt (!(d==0)))/\((d==0)=false->(!(d==0))=true)/\(iB (bif (d==0) then true else (decide (((((l - 1):Int) - (t.words.length:Int)):Int) < 0))) ((Q .ret (L2 [pI 6 (-1)] []))) ((Zp (A80 N [1,1,1,0,1,0,0]) (Zbo t d l (((l - 1):Int) - (t.words.length:Int)) 0) (xB 0 (S80 N [1,1,1,1] Q)))))))):
  A80 N [] (L2 [(0,.agg (enc .tree t)),pI 1 d,pI 2 l] []) Q:=
 Eq.mpr V3 h
theorem ZA3(N:Nat)(t:Tree)(d l u s:Int)(N0:NT)(Q:QT)(h:let z2:=t.kids.getD s.toNat Tree.nil;let z1:=decide (s < (t.kids.length:Int));let z0:=Tree.mk (Tree.kind z2) (Tree.words z2) (Tree.kids z2);(Tt z1)/\(Tt z1)/\(iB (bif z1 then (decide ((0:Int)<=u)) else false) (((0:Int)<=s/\s < (t.kids.length:Int))/\(InR (d - 1))/\(ZaH (z0,(d - 1),u,()))/\(ZtI (z0,(d - 1),u,()) < N)/\((InR (s+1))/\(N0 (Zbo t d l (ZK z0 (d - 1) u) (s+1))))) ((Q .ret (L2 [pI 6 u] []))))):
  A80 N [1,1,1,0,1,0,0] (Zbo t d l u s) (xT N0 (xB 0 (S80 N [1,1,1,1] Q))):=
 Eq.mpr V3 h
def ZHW(N:Nat)(t:Tree)(d l:Int):Prop:=AW (Z2 (Zoz N)) Tryz.f80 ZBT [] (Zf (ZoZ.can (t,d,l,())) []) (EQ Tryz.f80 (ZlU (t,d,l,())) [])
theorem ZFG(hb:∀ (N:Nat) (t:Tree) (d:Int) (l:Int) (_:Unit),ZaH (t,d,l,())->ZtI (t,d,l,()) < N+1->ZHW N t d l):CT 80 Z6r:=
 Jz (μ:=ZtI) (l:=[]) Ze rfl trivial ZBT Tryz.func80 rfl rfl 3 (fun _=> rfl) V2 (fun N ⟨t,d,l,_⟩=> hb N t d l ())
def ZyO:List (FuncId × Fs U):=[(80,Z6r)]
def ZGj:Za U:=lvl [([1],[1]),([2],[])]
abbrev A30(p:List Nat):=AW (Z2 ZyO) Tryz.f30 ZGj p
theorem ZLy(t:Tree)(Q:QT)(h:let z0:=Tree.mk t.kind t.words t.kids;((ZaH (z0,80,3000,()))/\(Q .ret (L2 [(2,.c (.bool (decide ((0:Int)<=(ZK z0 80 3000)))))] [])))):
  A30 [] (L2 [(0,.agg (enc .tree t))] []) Q:=
 Eq.mpr V3 h
def ZIg(t:Tree):Prop:=AW (Z2 ZyO) Tryz.f30 ZGj [] (Zf (Zzy.can (t,())) []) (EQ Tryz.f30 (ZEl (t,())) [])
theorem ZFV(c80:CT 80 Z6r)(hb:∀ (t:Tree) (_:Unit),Zqi (t,())->ZIg t):CT 30 Z6A:=
 Z1 (l:=[(80,Z6r)]) Ze rfl (⟨c80,trivial⟩) ZGj Tryz.func30 rfl rfl 1 (fun _=> rfl) V2 (fun ⟨t,_⟩=> hb t ())
def ZoA:List (FuncId × Fs U):=[]
def ZBU:Za U:=lvl [([0,1],[]),([0,1,10],[]),([4],[]),([0,1,5],[]),([0,1,5,14],[]),([0,1,5],[]),([0,1,5,25],[]),([4],[]),([4],[])]
def Zbp(a b:List Int)(h:Int):LSt U:=(L2 [(0,.c (sU .u64 a .unk)),(1,.c (sU .u64 b .unk)),pI 5 h] [])
abbrev A76(p:List Nat):=AW (Z2 ZoA) Tryz.f76 ZBU p
abbrev S76(p:List Nat):=SW (Z2 ZoA) Tryz.f76 ZBU p
theorem ZLg(a b:List Int)(Q:QT)(h:(iB (((a.length:Int):Int) !=(b.length:Int)) ((Q .ret (L2 [pB 4 false] []))) ((Zp (A76 [1,1,0,1,0,0]) (Zbp a b 0) (xB 0 (S76 [1,1,1] Q)))))):
  A76 [] (L2 [(0,.c (sU .u64 a .unk)),(1,.c (sU .u64 b .unk))] []) Q:=
 Eq.mpr V3 h
theorem ZA4(a b:List Int)(s:Int)(N0:NT)(Q:QT)(h:(iB (decide (s < (a.length:Int))) (((0:Int)<=s/\s < (a.length:Int))/\((0:Int)<=s/\s < (b.length:Int))/\(iB (((a.getD s.toNat (0:Int)):Int) !=(b.getD s.toNat (0:Int))) ((Q .ret (L2 [pB 4 false] []))) ((InR (s+1))/\(N0 (Zbp a b (s+1)))))) ((Q .ret (L2 [pB 4 true] []))))):
  A76 [1,1,0,1,0,0] (Zbp a b s) (xT N0 (xB 0 (S76 [1,1,1] Q))):=
 Eq.mpr V3 h
def ZHY(a b:List Int):Prop:=AW (Z2 ZoA) Tryz.f76 ZBU [] (Zf (Zzt.can (a,b,())) []) (EQ Tryz.f76 (ZlV (a,b,())) [])
theorem ZFH(hb:∀ (a:List Int) (b:List Int) (_:Unit),Zih (a,b,())->ZHY a b):CT 76 Zfj:=
 Z1 (l:=[]) Ze rfl trivial ZBU Tryz.func76 rfl rfl 2 (fun _=> rfl) V2 (fun ⟨a,b,_⟩=> hb a b ())
def Zyc:Za U:=lvl [([0],[]),([0,4],[]),([2],[]),([2],[])]
abbrev ZMQ(p:List Nat):=AW (Z2 ZoA) Tryz.f117 Zyc p
theorem ZJS(l:List Int)(Q:QT)(h:(((l=[])->(Q .ret (L2 [(2,.c (.nils))] [])))/\(True->((([]:List Int).length+l.length)*8<=140737488355328)/\(Q .ret (L2 [(2,.c (sU .u64 (([]:List Int)++l) (.own (.e 2 0))))] []))))):
  ZMQ [] (L2 [(0,.c (sU .u64 l .unk))] []) Q:=
 Eq.mpr V3 h
def ZE1(l:List Int):Prop:=AW (Z2 ZoA) Tryz.f117 Zyc [] (Zf (ZsO.can (l,())) []) (EQ Tryz.f117 (Zwy (l,())) [])
theorem ZBL(hb:∀ (l:List Int) (_:Unit),Zgi (l,())->ZE1 l):CT 117 Zaq:=
 Z1 (l:=[]) Ze rfl trivial Zyc Tryz.func117 rfl rfl 1 (fun _=> rfl) V2 (fun ⟨l,_⟩=> hb l ())
def ZqK:Za U:=lvl [([0,1],[]),([0,1,10],[]),([4],[]),([0,1,12,13],[]),([0,1,12,13,14],[]),([0,1,5,12,13],[]),([0,1,12,13,24],[]),([4],[]),([0,1,12,13],[]),([4],[])]
def Z86(a b:List Int)(h:Int):LSt U:=(L2 [(0,.c (sU .u64 a .unk)),(1,.c (sU .u64 b .unk)),pI 12 (a.length:Int),pI 13 h] [])
abbrev ZIy(p:List Nat):=AW (Z2 ZoA) Tryz.f172 ZqK p
abbrev ZKU(p:List Nat):=SW (Z2 ZoA) Tryz.f172 ZqK p
theorem ZJq(a b:List Int)(Q:QT)(h:(iB (((a.length:Int):Int) !=(b.length:Int)) ((Q .ret (L2 [pB 4 false] []))) ((Zp (ZIy [1,1,0,1,0,0]) (Z86 a b 0) (xB 0 (ZKU [1,1,1] Q)))))):
  ZIy [] (L2 [(0,.c (sU .u64 a .unk)),(1,.c (sU .u64 b .unk))] []) Q:=
 Eq.mpr V3 h
theorem Zv3(a b:List Int)(s:Int)(N0:NT)(Q:QT)(h:(iB (decide (s < (a.length:Int))) ((((0:Int)<=s/\s < (a.length:Int))/\((0:Int)<=s/\s < (b.length:Int))/\(iB (((a.getD s.toNat (0:Int)):Int) !=(b.getD s.toNat (0:Int))) ((Q .ret (L2 [pB 4 false] []))) ((InR (s+1))/\(N0 (Z86 a b (s+1))))))) ((Q .ret (L2 [pB 4 true] []))))):
  ZIy [1,1,0,1,0,0] (Z86 a b s) (xT N0 (xB 0 (ZKU [1,1,1] Q))):=
 Eq.mpr V3 h
def ZDz(a b:List Int):Prop:=AW (Z2 ZoA) Tryz.f172 ZqK [] (Zf (Zzt.can (a,b,())) []) (EQ Tryz.f172 (ZlV (a,b,())) [])
theorem ZBp(hb:∀ (a:List Int) (b:List Int) (_:Unit),Zih (a,b,())->ZDz a b):CT 172 Zfj:=
 Z1 (l:=[]) Ze rfl trivial ZqK Tryz.func172 rfl rfl 2 (fun _=> rfl) V2 (fun ⟨a,b,_⟩=> hb a b ())
def ZxT:Za U:=lvl [([1,2],[2]),([1,2,13],[2]),([4],[]),([4],[])]
abbrev ZMB(p:List Nat):=AW (Z2 ZoA) Tryz.f173 ZxT p
theorem ZJp(t:Tree)(i:Int)(Q:QT)(h:let z0:= !(decide (i < 0));((Tt z0)/\(Tt z0)/\(Tt z0)/\(Tt z0)/\((decide (i < 0))=false->z0=true)/\(iB (bif (decide (i < 0)) then true else (decide (((t.words.length:Int):Int)<=i))) ((Q .ret (L2 [(4,.c (.int .u64 0))] []))) (((0:Int)<=i/\i < (t.words.length:Int))/\(Q .ret (L2 [(4,.c (.int .u64 (t.words.getD i.toNat (0:Int))))] [])))))):
  ZMB [] (L2 [(0,.agg (enc .tree t)),pI 1 i] []) Q:=
 Eq.mpr V3 h
def ZDy(t:Tree)(i:Int):Prop:=AW (Z2 ZoA) Tryz.f173 ZxT [] (Zf (Zsy.can (t,i,())) []) (EQ Tryz.f173 (ZjO (t,i,())) [])
theorem ZBo(hb:∀ (t:Tree) (i:Int) (_:Unit),Zcc (t,i,())->ZDy t i):CT 173 Z2M:=
 Z1 (l:=[]) Ze rfl trivial ZxT Tryz.func173 rfl rfl 2 (fun _=> rfl) V2 (fun ⟨t,i,_⟩=> hb t i ())
def ZxS:Za U:=lvl [([1,2,4],[2,4]),([1,2,4,13],[2,4]),([4],[4]),([4],[4])]
abbrev ZMA(p:List Nat):=AW (Z2 ZoA) Tryz.f174 ZxS p
theorem ZJo(t:Tree)(i:Int)(Q:QT)(h:let z0:= !(decide (i < 0));((Tt z0)/\(Tt z0)/\(Tt z0)/\(Tt z0)/\((decide (i < 0))=false->z0=true)/\(iB (bif (decide (i < 0)) then true else (decide (((t.kids.length:Int):Int)<=i))) ((Q .ret (L2 [pL 4] [(.loc 4,[ci 0,.nils,.nils])]))) (((0:Int)<=i/\i < (t.kids.length:Int))/\(Q .ret (L2 [pL 4] [(.loc 4,(enc .tree (t.kids.getD i.toNat Tree.nil)))])))))):
  ZMA [] (L2 [(0,.agg (enc .tree t)),pI 1 i] []) Q:=
 Eq.mpr V3 h
def ZDx(t:Tree)(i:Int):Prop:=AW (Z2 ZoA) Tryz.f174 ZxS [] (Zf (Zsy.can (t,i,())) []) (EQ Tryz.f174 (ZjN (t,i,())) [])
theorem ZBn(hb:∀ (t:Tree) (i:Int) (_:Unit),Zcc (t,i,())->ZDx t i):CT 174 Z2L:=
 Z1 (l:=[]) Ze rfl trivial ZxS Tryz.func174 rfl rfl 2 (fun _=> rfl) V2 (fun ⟨t,i,_⟩=> hb t i ())
def ZoB(N:Nat):List (FuncId × Fs U):=(75,fs Zzy (fun a=> [Z2l a,ZtJ a < N]) Zic) ::[(117,Zaq)]
def ZBV:Za U:=lvk [([1,2],[1,2]),([1,2,8],[1,2]),([2],[2]),([1,2,3],[1,2,3]),([1,2,3,17,18,19],[1,2,((.loc 3),[.any,.any,.own .tree])]),([1,2,3,17,18,19,20],[1,2,3]),([1,2,3,5,17,18,19],[1,2,3,5]),([1,2,3,17,18,19],[1,2,3]),([1,2,3,17,18,19],[1,2,((.loc 3),[.any,.any,.own .tree])]),([2,3,33],[2,((.loc 3),[.any,.any,.unk .tree])]),([2,3,33,48],[2,((.loc 3),[.any,.any,.unk .tree])]),([2,3,33],[2,((.loc 3),[.any,.any,.unk .tree])]),([2,3,33,48,72],[2,3]),([2,3,33,48],[2,((.loc 3),[.any,.any,.unk .tree])]),([2],[2])]
def Zbs(t:Tree)(s:Int)(h:List Tree):LSt U:=(L2 [pL 1,pL 2,pL 3,(17,.c (sU .tree t.kids .unk)),pI 18 (t.kids.length:Int),pI 19 s] [(.loc 1,(enc .tree t)),(.loc 2,[ci 0,.nils,.nils]),(.loc 3,[ci t.kind,sU .u64 t.words .unk,sU .tree h (.own (.l 3 2))])])
def Zbr(t:Tree)(s:List Tree)(h:List Int):LSt U:=(L2 [pL 2,pL 3,pB 33 ((t.kind:Int)==1)] [(.loc 2,[ci 0,.nils,.nils]),(.loc 3,[ci t.kind,sU .u64 h .unk,sU .tree s .unk])])
def Zbq(t:Tree)(h:List Int)(s:List Tree):LSt U:=(L2 [pL 2,pL 3,pB 33 ((t.kind:Int)==1),(48,.c (.bool (bif (decide ((0:Int) < (h.length:Int))) then (((List.getD h (Int.toNat (((h.length:Int):Int) - 1)) (0:Int)):Int)==0) else false)))] [(.loc 2,[ci 0,.nils,.nils]),(.loc 3,[ci t.kind,sU .u64 h .unk,sU .tree s .unk])])
abbrev A75(N:Nat)(p:List Nat):=AW (Z2 (ZoB N)) Tryz.f75 ZBV p
abbrev S75(N:Nat)(p:List Nat):=SW (Z2 (ZoB N)) Tryz.f75 ZBV p
theorem ZLh(N:Nat)(t:Tree)(Q:QT)(h:(iB (t.kind==0) ((Q .ret (L2 [pL 2] [(.loc 2,[ci 0,.nils,.nils])]))) ((Zgi (t.words,()))/\(Zp (A75 N [1,1,1,0,1,0,0]) (Zbs t 0 []) (xB 0 (S75 N [1,1,1,1] Q)))))):
  A75 N [] (L2 [(0,.agg (enc .tree t))] []) Q:=
 Eq.mpr V3 h
theorem ZA7(N:Nat)(t:Tree)(u:Int)(s:List Tree)(N0:NT)(Q:QT)(h:∀ ae,ae=(t.kids.getD u.toNat Tree.nil)->∀ aa,aa=ae->∀ ab,ab=(Z0 aa)->(iB (decide (u < (t.kids.length:Int))) (((0:Int)<=u/\u < (t.kids.length:Int))/\((Z2l (aa,()))/\(ZtJ (aa,()) < N)/\((s.length+([ab]).length)*56<=140737488355328)/\((InR (u+1))/\(N0 (Zbs t (u+1) (s++([ab]))))))) ((iB (t.kind==1) (Zp (A75 N [1,1,1,1,0,1,0,0,0,0]) (Zbr t s t.words) (xB 2 (S75 N [1,1,1,1,0,1,0,1] (S75 N [1,1,1,1,1] Q)))) ((Q .ret (L2 [pL 2] [(.loc 2,[ci t.kind,sU .u64 t.words .unk,sU .tree s .unk])]))))))):
  A75 N [1,1,1,0,1,0,0] (Zbs t u s) (xT N0 (xB 0 (S75 N [1,1,1,1] Q))):=
 Eq.mpr V3 (h _ rfl _ (Z9 _) _ (Z9 _))
theorem ZA6(N:Nat)(t:Tree)(u:List Tree)(s:List Int)(N1:NT)(Q:QT)(h:let z0:=decide ((0:Int) < (s.length:Int));(Tt z0)/\(Tt z0)/\(Tt z0)/\(Tt z0)/\(z0=true->InR (((s.length:Int):Int) - 1))/\(Tt z0)/\(Tt z0)/\(z0=true->(0:Int)<=(((s.length:Int):Int) - 1)/\(((s.length:Int):Int) - 1) < (s.length:Int))/\(Tt z0)/\(Tt z0)/\(Tt z0)/\(iB (bif z0 then (((List.getD s (Int.toNat (((s.length:Int):Int) - 1)) (0:Int)):Int)==0) else false) ((InR (((s.length:Int):Int) - 1))/\((0:Int)<=(((s.length:Int):Int) - 1)/\(((s.length:Int):Int) - 1)<=(s.length:Int))/\(N1 (Zbr t u (List.take (Int.toNat (((s.length:Int):Int) - 1)) s)))) (Zp (A75 N [1,1,1,1,0,1,0,1,0,0]) (Zbq t s u) (xB 4 (S75 N [1,1,1,1,1] Q))))):
  A75 N [1,1,1,1,0,1,0,0,0,0] (Zbr t u s) (xT N1 (xB 2 (S75 N [1,1,1,1,0,1,0,1] (S75 N [1,1,1,1,1] Q)))):=
 Eq.mpr V3 h
theorem ZA5(N:Nat)(t:Tree)(u:List Int)(s:List Tree)(N2:NT)(Q:QT)(h:let z0:=decide ((0:Int) < (s.length:Int));(Tt z0)/\(Tt z0)/\(Tt z0)/\(Tt z0)/\(z0=true->InR (((s.length:Int):Int) - 1))/\(Tt z0)/\(Tt z0)/\(z0=true->(0:Int)<=(((s.length:Int):Int) - 1)/\(((s.length:Int):Int) - 1) < (s.length:Int))/\(Tt z0)/\(Tt z0)/\(Tt z0)/\(Tt z0)/\(iB (bif z0 then (((Tree.kind (List.getD s (Int.toNat (((s.length:Int):Int) - 1)) Tree.nil)):Int)==0) else false) ((InR (((s.length:Int):Int) - 1))/\((0:Int)<=(((s.length:Int):Int) - 1)/\(((s.length:Int):Int) - 1)<=(s.length:Int))/\(N2 (Zbq t u (List.take (Int.toNat (((s.length:Int):Int) - 1)) s)))) ((Q .ret (L2 [pL 2] [(.loc 2,[ci t.kind,sU .u64 u .unk,sU .tree s .unk])]))))):
  A75 N [1,1,1,1,0,1,0,1,0,0] (Zbq t u s) (xT N2 (xB 4 (S75 N [1,1,1,1,1] Q))):=
 Eq.mpr V3 h
def ZHZ(N:Nat)(t:Tree):Prop:=AW (Z2 (ZoB N)) Tryz.f75 ZBV [] (Zf (Zzy.can (t,())) []) (EQ Tryz.f75 (Zic (t,())) [])
theorem ZFI(ZHp:CT 117 Zaq)(hb:∀ (N:Nat) (t:Tree) (_:Unit),Z2l (t,())->ZtJ (t,()) < N+1->ZHZ N t):CT 75 Z07:=
 Jz (μ:=ZtJ) (l:=[(117,Zaq)]) Ze rfl (⟨ZHp,trivial⟩) ZBV Tryz.func75 rfl rfl 1 (fun _=> rfl) V2 (fun N ⟨t,_⟩=> hb N t ())
def ZoG(N:Nat):List (FuncId × Fs U):=(26,fs Zp9 (fun a=> [ZfZ a,ZtK a < N]) Zid) ::[(76,Zfj)]
def ZC0:Za U:=lvl [([2,3],[2,3]),([2,3,27],[2,3]),([4],[]),([2,3,5],[2,3]),([2,3,5,32],[2,3]),([2,3,5],[2,3]),([2,3,5,46],[2,3]),([4],[]),([4],[])]
def ZbB(a b:Tree)(h:Int):LSt U:=(L2 [pL 2,pL 3,pI 5 h] [(.loc 2,(enc .tree a)),(.loc 3,(enc .tree b))])
abbrev A26(N:Nat)(p:List Nat):=AW (Z2 (ZoG N)) Tryz.f26 ZC0 p
abbrev S26(N:Nat)(p:List Nat):=SW (Z2 (ZoG N)) Tryz.f26 ZC0 p
theorem ZLA(N:Nat)(a b:Tree)(Q:QT)(h:let z1:=a.kind !=b.kind;let z0:=bif z1 then true else (!(decide (a.words=b.words)));((Tt (!z1))/\(Tt (!z1))/\(Tt (!z1))/\(Tt (!z1))/\((!z1)=true->Zih (a.words,b.words,()))/\(Tt (!z1))/\(z1=false->(!z1)=true)/\(Tt (!z0))/\(Tt (!z0))/\(Tt (!z0))/\(Tt (!z0))/\(Tt (!z0))/\(Tt (!z0))/\(z0=false->(!z0)=true)/\(iB (bif z0 then true else (((a.kids.length:Int):Int) !=(b.kids.length:Int))) ((Q .ret (L2 [pB 4 false] []))) ((Zp (A26 N [1,1,0,1,0,0]) (ZbB a b 0) (xB 0 (S26 N [1,1,1] Q))))))):
  A26 N [] (L2 [(0,.agg (enc .tree a)),(1,.agg (enc .tree b))] []) Q:=
 Eq.mpr V3 h
theorem ZAg(N:Nat)(a b:Tree)(s:Int)(N0:NT)(Q:QT)(h:∀ ae,ae=(a.kids.getD s.toNat Tree.nil)->∀ ab,ab=(b.kids.getD s.toNat Tree.nil)->∀ u,u=ae->∀ aa,aa=ab->(iB (decide (s < (a.kids.length:Int))) (((0:Int)<=s/\s < (a.kids.length:Int))/\((0:Int)<=s/\s < (b.kids.length:Int))/\(ZfZ (u,aa,()))/\(ZtK (u,aa,()) < N)/\(iB (!(Yf u aa)) ((Q .ret (L2 [pB 4 false] []))) ((InR (s+1))/\(N0 (ZbB a b (s+1)))))) ((Q .ret (L2 [pB 4 true] []))))):
  A26 N [1,1,0,1,0,0] (ZbB a b s) (xT N0 (xB 0 (S26 N [1,1,1] Q))):=
 Eq.mpr V3 (h _ rfl _ rfl _ (Z9 _) _ (Z9 _))
def ZIi(N:Nat)(a b:Tree):Prop:=AW (Z2 (ZoG N)) Tryz.f26 ZC0 [] (Zf (Zp9.can (a,b,())) []) (EQ Tryz.f26 (Zid (a,b,())) [])
theorem ZFX(c76:CT 76 Zfj)(hb:∀ (N:Nat) (a:Tree) (b:Tree) (_:Unit),ZfZ (a,b,())->ZtK (a,b,()) < N+1->ZIi N a b):CT 26 Zfp:=
 Jz (μ:=ZtK) (l:=[(76,Zfj)]) Ze rfl (⟨c76,trivial⟩) ZC0 Tryz.func26 rfl rfl 2 (fun _=> rfl) V2 (fun N ⟨a,b,_⟩=> hb N a b ())
def ZkI(N:Nat):List (FuncId × Fs U):=(114,fs Zp9 (fun a=> [Z2z a,Zit a < N]) Z9g) ::[(172,Zfj),(173,Z2M),(174,Z2L)]
def ZqP:Za U:=lvl [([2,3],[2,3]),([2,3,16],[2,3]),([4],[]),([2,3,41],[2,3]),([4],[]),([2,3,48,49],[2,3]),([2,3,48,49,50],[2,3]),([2,3,5,48,49],[2,3]),([2,3,48,49,58],[2,3]),([4],[]),([2,3,48,49],[2,3]),([2,3,66,67],[2,3]),([2,3,66,67,68],[2,3]),([2,3,6,66,67],[2,3]),([2,3,66,67,77],[2,3]),([4],[]),([2,3,66,67],[2,3]),([4],[])]
def Z8k(a b:Tree)(h:Int):LSt U:=(L2 [pL 2,pL 3,pI 48 (if ((a.words.length:Int):Int) < (b.words.length:Int) then (b.words.length:Int) else (a.words.length:Int)),pI 49 h] [(.loc 2,(enc .tree a)),(.loc 3,(enc .tree b))])
def Z8j(a b:Tree)(h:Int):LSt U:=(L2 [pL 2,pL 3,pI 66 (if ((a.kids.length:Int):Int) < (b.kids.length:Int) then (b.kids.length:Int) else (a.kids.length:Int)),pI 67 h] [(.loc 2,(enc .tree a)),(.loc 3,(enc .tree b))])
abbrev ZzT(N:Nat)(p:List Nat):=AW (Z2 (ZkI N)) Tryz.f114 ZqP p
abbrev ZCM(N:Nat)(p:List Nat):=SW (Z2 (ZkI N)) Tryz.f114 ZqP p
theorem ZJV(N:Nat)(a b:Tree)(Q:QT)(h:let z2:=a.kind !=b.kind;let z1:=((a.kids.length:Int):Int) !=(b.kids.length:Int);let z0:=(a.kind !=1) && (!z1);((Tt (!z2))/\(Tt (!z2))/\(z2=false->(!z2)=true)/\(iB (bif z2 then true else (a.kind==0)) ((Q .ret (L2 [pB 4 (a.kind==b.kind)] []))) ((Tt (a.kind !=1))/\(Tt (a.kind !=1))/\(Tt (a.kind !=1))/\(Tt (a.kind !=1))/\(Tt (a.kind !=1))/\(Tt (a.kind !=1))/\(Tt (a.kind !=1))/\(Tt z0)/\(Tt z0)/\(Tt z0)/\(Tt z0)/\(z0=true->Zih (a.words,b.words,()))/\(Tt z0)/\((a.kind !=1)=true->(True->(a.kind !=1)=true))/\((a.kind !=1)=true->(z1=false->z0=true))/\(Tt (a.kind !=1))/\(iB (bif (a.kind !=1) then (bif z1 then true else (!(decide (a.words=b.words)))) else false) ((Q .ret (L2 [pB 4 false] []))) ((Zp (ZzT N [1,1,1,0,1,0,0]) (Z8k a b 0) (xB 0 (ZCM N [1,1,1,1] Q))))))))):
  ZzT N [] (L2 [(0,.agg (enc .tree a)),(1,.agg (enc .tree b))] []) Q:=
 Eq.mpr V3 h
theorem Zvo(N:Nat)(a b:Tree)(s:Int)(N0:NT)(Q:QT)(h:let z1:=Tree.mk b.kind b.words b.kids;let z0:=Tree.mk a.kind a.words a.kids;(iB (decide (s < (if ((a.words.length:Int):Int) < (b.words.length:Int) then (b.words.length:Int) else (a.words.length:Int)))) (((Zcc (z0,s,()))/\(Zcc (z1,s,()))/\(iB (((Z0f z0 s):Int) !=(Z0f z1 s)) ((Q .ret (L2 [pB 4 false] []))) ((InR (s+1))/\(N0 (Z8k a b (s+1))))))) ((Zp (ZzT N [1,1,1,1,0,1,0,0]) (Z8j a b 0) (xB 2 (ZCM N [1,1,1,1,1] Q)))))):
  ZzT N [1,1,1,0,1,0,0] (Z8k a b s) (xT N0 (xB 0 (ZCM N [1,1,1,1] Q))):=
 Eq.mpr V3 h
theorem Zvn(N:Nat)(a b:Tree)(s:Int)(N1:NT)(Q:QT)(h:∀ ae,ae=a->∀ ab,ab=b->∀ u,u=(Z0q ae s)->∀ aa,aa=(Z0q ab s)->(iB (decide (s < (if ((a.kids.length:Int):Int) < (b.kids.length:Int) then (b.kids.length:Int) else (a.kids.length:Int)))) (((Zcc (ae,s,()))/\(Zcc (ab,s,()))/\(Z2z (u,aa,()))/\(Zit (u,aa,()) < N)/\(iB (!(Yf (Z0 u) (Z0 aa))) ((Q .ret (L2 [pB 4 false] []))) ((InR (s+1))/\(N1 (Z8j a b (s+1))))))) ((Q .ret (L2 [pB 4 true] []))))):
  ZzT N [1,1,1,1,0,1,0,0] (Z8j a b s) (xT N1 (xB 2 (ZCM N [1,1,1,1,1] Q))):=
 Eq.mpr V3 (h _ (Z9 _) _ (Z9 _) _ (Z9 _) _ (Z9 _))
def ZE4(N:Nat)(a b:Tree):Prop:=AW (Z2 (ZkI N)) Tryz.f114 ZqP [] (Zf (Zp9.can (a,b,())) []) (EQ Tryz.f114 (Z9g (a,b,())) [])
theorem ZBM(ZH6:CT 172 Zfj)(Zus:CT 173 Z2M)(Zur:CT 174 Z2L)(hb:∀ (N:Nat) (a:Tree) (b:Tree) (_:Unit),Z2z (a,b,())->Zit (a,b,()) < N+1->ZE4 N a b):CT 114 YN:=
 Jz (μ:=Zit) (l:=[(172,Zfj),(173,Z2M),(174,Z2L)]) Ze rfl (⟨ZH6,Zus,Zur,trivial⟩) ZqP Tryz.func114 rfl rfl 2 (fun _=> rfl) V2 (fun N ⟨a,b,_⟩=> hb N a b ())
end
theorem vcU:(∀ {p q:Prop},(p->q->p/\q)=True)/\(∀ {p:Prop},(True/\p)=p)/\(∀ {p:Prop},(p/\True)=p)/\(∀ {p:Prop},(p->True)=True):=
 ⟨by grind,by simp,by simp,by simp⟩
theorem Zfv:∀ {ks:List Tree} {i:Nat},Z3p ks->i < ks.length->Z3q (ks.getD i Tree.nil)
 | t ::_,0,h,_=> by simp only [Z3p] at h;exact h.1
 | _ ::r,i+1,h,hi=> by simp only [Z3p] at h;exact Zfv (ks:=r) (i:=i) h.2 (by simpa using hi)
theorem Z1l:∀ {ks:List Tree} {i:Nat},i < ks.length->Zo (ks.getD i Tree.nil)<=Zg ks
 | t ::_,0,_=> by simp only [Zg,Qh];omega
 | t ::r,i+1,h=> by
  have:=Z1l (ks:=r) (i:=i) (by simpa using h)
  simp only [Zg,Kh]
  omega
mutual
theorem Je:∀ (t:Tree) (d l:Int),-1<=ZK t d l/\ZK t d l<=max l (-1)
 | .mk _ w ks,d,l=> by
  simp only [ZK]
  split
  .omega
  .have:=Z1u ks (d - 1) (l - 1 - w.length) JX
   omega
theorem Z1u:∀ (ks:List Tree) (d l:Int),-1<=l->-1<=ZD ks d l/\ZD ks d l<=l
 | [],d,l,h=> by simp only [ZD];omega
 | t ::r,d,l,h=> by
  simp only [ZD]
  split
  .omega
  .have s:=Je t d l
   have u:=Z1u r d (ZK t d l) s.1
   omega
end
theorem Zhx{ks:List Tree}{i:Nat}{d l:Int}(h:i < ks.length)(hl:0<=l):ZD (ks.drop i) d l=ZD (ks.drop (i+1)) d (ZK (ks.getD i Tree.nil) d l):=by
 rw [QI h]
 simp only [ZD]
 grind
theorem c80:Contract Tryz.prog cfg 80 Z6r:=by
 refine ZFG ?_
 rintro N ⟨k,h,ks⟩ d l _ ⟨u,h1,h2,h3,h4⟩ hN
 simp only [Z3q,ZtI,Zo] at*
 refine ZLe N _ _ _ _ ?_;(try simp only [iB,vcT,forall_eq])
 (simp only [iB,vcS]);(try simp only [iB,vcT])
 try (simp only [vE])
 refine ⟨V1,V1,fun hc=> ?_,fun hc=> ?_⟩
 .have e:ZK (.mk k h ks) d l= -1:=by
   simp only [ZK]
   omega
  simp only [ZlU,e]
  exact ⟨⟨rfl,⟨⟨rfl,rfl⟩,trivial⟩,trivial⟩,trivial⟩
 .have e:ZK (.mk k h ks) d l=ZD ks (d - 1) (l - 1 - h.length):=by
   simp only [ZK]
   omega
  simp only [ZlU,e]
  refine Zc (ι:=Int × Int) (fun p=> Zbo (.mk k h ks) d l p.1 p.2) (fun p=> 0<=p.2/\p.2<=ks.length/\-1<=p.1/\p.1<=l/\ZD (ks.drop p.2.toNat) (d - 1) p.1=ZD ks (d - 1) (l - 1 - h.length)) (fun p=> ((ks.length:Int) - p.2).toNat) (l - 1 - h.length,0) rfl ⟨JX,JX,JX,JX,by simp⟩ ?_
  rintro ⟨l',i⟩ ⟨h5,h6,h7,h8,h9⟩
  dsimp only at*
  refine ZA3 N _ _ _ _ _ _ _ ?_;(try simp only [iB,vcT,forall_eq])
  (simp only [iB,vcS]);(try simp only [iB,vcT])
  try (simp only [vE])
  refine ⟨fun hc=> ?_,fun hc=> ?_⟩
  .have s:i.toNat < ks.length:=JX
   have hr:=Je (ks.getD i.toNat Tree.nil) (d - 1) l'
   have hn:=Z1l s
   have hd:=Zhx (d:=d - 1) s hc.2
   refine ⟨JX,V1,⟨Zfv u.2.2 s,by grind,by grind,JX,by grind⟩,by simp only [ZtI];omega,V1,⟨(ZK (ks.getD i.toNat Tree.nil) (d - 1) l',i+1),rfl,⟨JX,JX,JX,JX,?_⟩,JX⟩⟩
   grind
  .have e:ZD ks (d - 1) (l - 1 - h.length)=l':=by
    rw [<-h9]
    by_cases s:i < ks.length
    .rw [QI JX]
     simp only [ZD]
     omega
    .rw [QE JX]
     try rfl
   rw [e]
   trivial
theorem c30:Contract Tryz.prog cfg 30 Z6A:=by
 refine ZFV c80 ?_
 intro t _ h
 refine ZLy _ _ ?_;(try simp only [iB,vcT,forall_eq])
 try (simp only [vE])
 refine ⟨⟨h,by grind,by grind,by grind,by grind⟩,?_⟩
 trivial
theorem ZHp:Contract Tryz.prog cfg 117 Zaq:=by
 refine ZBL ?_
 intro l _ s
 refine ZJS _ _ ?_;(try simp only [iB,vcT,forall_eq])
 simp only [Zgi] at s
 refine ⟨fun h=> ?_,⟨by simp only [Qp];omega,?_⟩⟩
 .subst h
  exact ⟨⟨rfl,⟨rfl,trivial⟩,trivial⟩,trivial⟩
 .exact ⟨⟨rfl,⟨⟨rfl,trivial⟩,trivial⟩,trivial⟩,trivial⟩
theorem ZeJ{a b:List Int}{i:Int}(hi:0<=i)(ha:i < a.length)(hb:i < b.length):(a.drop i.toNat=b.drop i.toNat)↔(a.getD i.toNat 0=b.getD i.toNat 0/\a.drop (i+1).toNat=b.drop (i+1).toNat):=by
 have e:(i+1).toNat=i.toNat+1:=JX
 rw [QI JX,QI (l:=b) JX,e]
 simp only [List.cons.injEq,List.getD,Q4 (show i.toNat < a.length by omega),Q4 (show i.toNat < b.length by omega),Xq]
theorem c76:Contract Tryz.prog cfg 76 Zfj:=by
 refine ZFH ?_
 intro a b _ hp
 simp only [Zih] at hp
 refine ZLg _ _ _ ?_;(try simp only [iB,vcT,forall_eq])
 (simp only [iB,vcS]);(try simp only [iB,vcT])
 refine ⟨fun hc=> ?_,fun hc=> ?_⟩
 .have e:decide (a=b)=false:=by
   simp only [decide_eq_false_iff_not]
   rintro rfl
   omega
  simp only [ZlV,e]
  exact ⟨⟨rfl,⟨rfl,trivial⟩,trivial⟩,trivial⟩
 .have hl:a.length=b.length:=JX
  refine Zc (ι:=Int) (fun p=> Zbp a b p) (fun p=> 0<=p/\p<=a.length/\(a=b↔a.drop p.toNat=b.drop p.toNat)) (fun p=> ((a.length:Int) - p).toNat) 0 rfl ⟨JX,JX,by simp⟩ ?_
  rintro i ⟨u,h2,s⟩
  refine ZA4 _ _ _ _ _ ?_;(try simp only [iB,vcT,forall_eq])
  (simp only [iB,vcS]);(try simp only [iB,vcT])
  refine ⟨fun hc=> ⟨JX,JX,fun hn=> ?_,fun he=> ⟨V1,i+1,rfl,⟨JX,JX,?_⟩,JX⟩⟩,fun hc=> ?_⟩
  .have e:decide (a=b)=false:=by
    simp only [decide_eq_false_iff_not,s]
    rw [ZeJ u hc JX]
    exact fun h=> hn h.1
   simp only [ZlV,e]
   exact ⟨⟨rfl,⟨rfl,trivial⟩,trivial⟩,trivial⟩
  .rw [s,ZeJ u hc JX]
   exact ⟨fun h=> h.2,fun h=> ⟨by simpa using he,h⟩⟩
  .have e:decide (a=b)=true:=by
    simp only [decide_eq_true_eq,s]
    rw [QE JX,QE JX]
   simp only [ZlV,e]
   exact ⟨⟨rfl,⟨rfl,trivial⟩,trivial⟩,trivial⟩
theorem Zus:Contract Tryz.prog cfg 173 Z2M:=by
 refine ZBo ?_
 intro t i _ h
 refine ZJp _ _ _ ?_;(try simp only [iB,vcT,forall_eq])
 (simp only [iB,vcS]);(try simp only [iB,vcT])
 (repeat (refine And.intro (by first | omega | (unfold InR;omega) | (dsimp only;omega)) ?_))
 refine ⟨fun hc=> ?_,fun hc=> ⟨JX,?_⟩⟩
 .have e:Z0f t i=0:=by
   unfold Z0f
   split
   .try rfl
   .grind
  simp only [ZjO,e]
  exact ⟨⟨rfl,⟨⟨rfl,rfl⟩,trivial⟩,trivial⟩,trivial⟩
 .have e:Z0f t i=t.words.getD i.toNat 0:=by
   unfold Z0f
   omega
  simp only [ZjO,e]
  exact ⟨⟨rfl,⟨⟨rfl,rfl⟩,trivial⟩,trivial⟩,trivial⟩
theorem Zur:Contract Tryz.prog cfg 174 Z2L:=by
 refine ZBn ?_
 intro t i _ h
 refine ZJo _ _ _ ?_;(try simp only [iB,vcT,forall_eq])
 (simp only [iB,vcS]);(try simp only [iB,vcT])
 (repeat (refine And.intro (by first | omega | (unfold InR;omega) | (dsimp only;omega)) ?_))
 refine ⟨fun hc=> ?_,fun hc=> ⟨JX,?_⟩⟩
 .have e:Z0q t i=Tree.nil:=by
   unfold Z0q
   split
   .try rfl
   .grind
  simp only [ZjN,e]
  exact ⟨⟨rfl,⟨⟨rfl,rfl⟩,⟨rfl,⟨rfl,trivial⟩⟩⟩,trivial⟩,trivial⟩
 .have e:Z0q t i=t.kids.getD i.toNat Tree.nil:=by
   unfold Z0q
   grind
  simp only [ZjN,e]
  exact ⟨⟨rfl,⟨⟨rfl,rfl⟩,⟨rfl,trivial⟩,⟨rfl,trivial⟩,trivial⟩,trivial⟩,trivial⟩
theorem ZH6:Contract Tryz.prog cfg 172 Zfj:=by
 refine ZBp ?_
 intro a b _ hp
 simp only [Zih] at hp
 refine ZJq _ _ _ ?_;(try simp only [iB,vcT,forall_eq])
 (simp only [iB,vcS]);(try simp only [iB,vcT])
 refine ⟨fun hc=> ?_,fun hc=> ?_⟩
 .have e:decide (a=b)=false:=by
   simp only [decide_eq_false_iff_not]
   rintro rfl
   omega
  simp only [ZlV,e]
  exact ⟨⟨rfl,⟨rfl,trivial⟩,trivial⟩,trivial⟩
 .have hl:a.length=b.length:=JX
  refine Zc (ι:=Int) (fun p=> Z86 a b p) (fun p=> 0<=p/\p<=a.length/\(a=b↔a.drop p.toNat=b.drop p.toNat)) (fun p=> ((a.length:Int) - p).toNat) 0 rfl ⟨JX,JX,by simp⟩ ?_
  rintro i ⟨u,h2,s⟩
  refine Zv3 _ _ _ _ _ ?_;(try simp only [iB,vcT,forall_eq])
  (simp only [iB,vcS]);(try simp only [iB,vcT])
  refine ⟨fun hc=> ⟨JX,JX,fun hn=> ?_,fun he=> ⟨V1,i+1,rfl,⟨JX,JX,?_⟩,JX⟩⟩,fun hc=> ?_⟩
  .have e:decide (a=b)=false:=by
    simp only [decide_eq_false_iff_not,s]
    rw [ZeJ u hc JX]
    exact fun h=> hn h.1
   simp only [ZlV,e]
   exact ⟨⟨rfl,⟨rfl,trivial⟩,trivial⟩,trivial⟩
  .rw [s,ZeJ u hc JX]
   exact ⟨fun h=> h.2,fun h=> ⟨by simpa using he,h⟩⟩
  .have e:decide (a=b)=true:=by
    simp only [decide_eq_true_eq,s]
    rw [QE JX,QE JX]
   simp only [ZlV,e]
   exact ⟨⟨rfl,⟨rfl,trivial⟩,trivial⟩,trivial⟩
theorem ZmU{a b:List Tree}{i:Int}(hi:0<=i)(ha:i < a.length)(hb:i < b.length):(a.drop i.toNat=b.drop i.toNat)↔(a.getD i.toNat Tree.nil=b.getD i.toNat Tree.nil/\a.drop (i+1).toNat=b.drop (i+1).toNat):=by
 have e:(i+1).toNat=i.toNat+1:=JX
 rw [QI JX,QI (l:=b) JX,e]
 simp only [List.cons.injEq,List.getD,Q4 (show i.toNat < a.length by omega),Q4 (show i.toNat < b.length by omega),Xq]
theorem J6{a b:Tree}:Yf a b=true↔a=b:=by simp [Yf]
theorem JQ{a b:Tree}:Yf a b=false↔¬a=b:=by simp [Yf]
theorem Zy:∀ (ks:List Tree),ks.length<=Zg ks
 | []=> by simp [Zg]
 | t ::r=> by
  have:=Zy r
  have:1<=Zo t:=by cases t;simp only [Zo];omega
  simp only [Zg,Qm]
  omega
theorem c26:Contract Tryz.prog cfg 26 Zfp:=by
 refine ZFX c76 ?_
 rintro N ⟨k,u,ks⟩ ⟨k',aa,s⟩ _ hp hN
 have ai:=Zy ks
 simp only [ZfZ,ZtK,Zo] at hp hN
 refine ZLA N _ _ _ ?_;(try simp only [iB,vcT,forall_eq])
 (simp only [iB,vcS]);(try simp only [iB,vcT])
 try (simp only [vE])
 have ab:Zih (u,aa,()):=by simp only [Zih];omega
 refine ⟨fun _=> ab,fun hc=> ?_,fun hc=> ?_⟩
 .have e:Yf (.mk k u ks) (.mk k' aa s)=false:=by
   rw [JQ]
   intro h
   cases h
   simp at hc
  simp only [Zid,e]
  exact ⟨⟨rfl,⟨rfl,trivial⟩,trivial⟩,trivial⟩
 .have ae:(k=k'/\u=aa)/\ks.length=s.length:=⟨hc.1,JX⟩
  obtain ⟨⟨rfl,rfl⟩,hl⟩:=ae
  refine Zc (ι:=Int) (fun p=> ZbB (.mk k u ks) (.mk k u s) p) (fun p=> 0<=p/\p<=ks.length/\(Tree.mk k u ks= .mk k u s↔ks.drop p.toNat=s.drop p.toNat)) (fun p=> ((ks.length:Int) - p).toNat) 0 rfl ⟨JX,JX,by simp⟩ ?_
  rintro i ⟨h1,h2,h3⟩
  refine ZAg N _ _ _ _ _ ?_;(try simp only [iB,vcT,forall_eq])
  (simp only [iB,vcS]);(try simp only [iB,vcT])
  try (simp only [vE])
  refine ⟨fun hc=> ⟨JX,JX,?_,?_,fun hn=> ?_,fun he=> ⟨V1,i+1,rfl,⟨JX,JX,?_⟩,JX⟩⟩,fun hc=> ?_⟩
  .have:=Z1l (ks:=ks) (i:=i.toNat) JX
   simp only [ZfZ]
   omega
  .have:=Z1l (ks:=ks) (i:=i.toNat) JX
   simp only [ZtK]
   omega
  .have e:Yf (.mk k u ks) (.mk k u s)=false:=by
    rw [JQ,h3,ZmU h1 hc JX]
    rw [JQ] at hn
    exact fun h=> hn h.1
   simp only [Zid,e]
   exact ⟨⟨rfl,⟨rfl,trivial⟩,trivial⟩,trivial⟩
  .rw [h3,ZmU h1 hc JX]
   exact ⟨fun h=> h.2,fun h=> ⟨J6.1 he,h⟩⟩
  .have e:Yf (.mk k u ks) (.mk k u s)=true:=by
    rw [J6,h3]
    rw [QE JX,QE JX]
   simp only [Zid,e]
   exact ⟨⟨rfl,⟨rfl,trivial⟩,trivial⟩,trivial⟩
theorem ZhS:∀ (l:List Int),trim (l++[0])=trim l
 | []=> rfl
 | x ::r=> by
  show (match trim (r++[0]) with | []=> if x=0 then [] else [x] | y ::s=> x ::y ::s)=_
  rw [ZhS r]
  try rfl
theorem Zpi{x:Int}(hx:x≠0):∀ (l:List Int),trim (l++[x])=l++[x]
 | []=> by simp [trim,hx]
 | y ::r=> by
  show (match trim (r++[x]) with | []=> if y=0 then [] else [y] | z ::s=> y ::z ::s)=_
  rw [Zpi hx r]
  cases r <;> rfl
theorem Zt9{l:List Int}{i:Int}(h0:0 < i)(hi:i<=l.length):l.take i.toNat=l.take (i - 1).toNat++[l.getD (i - 1).toNat 0]:=by
 have e:i.toNat=(i - 1).toNat+1:=JX
 rw [e,XX]
 simp only [List.getD,Q4 (show (i - 1).toNat < l.length by omega),Option.toList,Xq]
theorem Zlv:∀ (l:List Int),(trim l).length<=l.length
 | []=> by simp [trim]
 | x ::r=> by
  have:=Zlv r
  simp only [trim]
  grind
theorem Zf3:∀ (l:List Tree),Zg (Yp l)<=Zg l
 | []=> by simp [Yp]
 | x ::r=> by
  have:=Zf3 r
  simp only [Yp]
  split
  .split
   .simp [Zg]
   .simp [Zg]
  .rename_i h
   rw [h] at this
   simp only [Zg] at*
   omega
mutual
theorem Ym:∀ (t:Tree),Zo (Z0 t)<=Zo t
 | .mk k w ks=> by
  have u:=ZgC ks
  have s:=Zlv w
  have h:=Zf3 (Yz ks)
  simp only [Z0]
  split
  .simp only [Tree.nil,Zo,Zg,Qp];omega
  .split
   .simp only [Zo];omega
   .simp only [Zo];omega
theorem ZgC:∀ (ks:List Tree),Zg (Yz ks)<=Zg ks
 | []=> by simp [Yz]
 | t ::r=> by
  have s:=Ym t
  have h:=ZgC r
  simp only [Yz,Zg]
  omega
end
theorem Zir:∀ (l:List Tree) (x:Tree),Yz (l++[x])=Yz l++[Z0 x]
 | [],x=> rfl
 | y ::r,x=> by simp only [QA,Yz,Zir r x]
theorem Z3e:∀ (l:List Tree),(Yz l).length=l.length
 | []=> rfl
 | y ::r=> by simp only [Yz,Qm,Z3e r]
theorem Zf2{x:Tree}(hx:x.kind=0):∀ (l:List Tree),Yp (l++[x])=Yp l
 | []=> by simp [Yp,hx]
 | y ::r=> by
  show (match Yp (r++[x]) with | []=> if y.kind=0 then [] else [y] | z ::s=> y ::z ::s)=_
  rw [Zf2 hx r]
  try rfl
theorem Zlw{x:Tree}(hx:x.kind≠0):∀ (l:List Tree),Yp (l++[x])=l++[x]
 | []=> by simp [Yp,hx]
 | y ::r=> by
  show (match Yp (r++[x]) with | []=> if y.kind=0 then [] else [y] | z ::s=> y ::z ::s)=_
  rw [Zlw hx r]
  cases r <;> rfl
theorem Zfb{l:List Tree}{i:Int}(h0:0<=i)(hi:i < l.length):l.take (i+1).toNat=l.take i.toNat++[l.getD i.toNat Tree.nil]:=by
 have e:(i+1).toNat=i.toNat+1:=JX
 simp_all
theorem ZqX{l:List Int}(h0:0 < (l.length:Int)):l=l.take ((l.length:Int) - 1).toNat++[l.getD ((l.length:Int) - 1).toNat 0]:=by
 have:=Zt9 h0 (Xa _)
 rw [Qy JX] at this
 exact this
theorem ZmD{l:List Tree}(h0:0 < (l.length:Int)):l=l.take ((l.length:Int) - 1).toNat++[l.getD ((l.length:Int) - 1).toNat Tree.nil]:=by
 have:=Zfb (l:=l) (i:=(l.length:Int) - 1) JX JX
 rw [Qy JX] at this
 exact this
theorem Zt5{l:List Int}(h0:0 < (l.length:Int))(hz:l.getD ((l.length:Int) - 1).toNat 0=0):trim (l.take ((l.length:Int) - 1).toNat)=trim l:=by
 have e:=ZhS (l.take ((l.length:Int) - 1).toNat)
 have h:=ZqX h0
 grind
theorem Zt7{l:List Int}(h:¬0 < (l.length:Int)\/¬l.getD ((l.length:Int) - 1).toNat 0=0):trim l=l:=by
 by_cases h0:0 < (l.length:Int)
 .have e:=Zpi (x:=l.getD ((l.length:Int) - 1).toNat 0) JX (l.take ((l.length:Int) - 1).toNat)
  rw [<-ZqX h0] at e
  exact e
 .have:l=[]:=Q5 JX
  subst this
  try rfl
theorem Znm{l:List Tree}(h0:0 < (l.length:Int))(hz:(l.getD ((l.length:Int) - 1).toNat Tree.nil).kind=0):Yp (l.take ((l.length:Int) - 1).toNat)=Yp l:=by
 have e:=Zf2 hz (l.take ((l.length:Int) - 1).toNat)
 rw [<-ZmD h0] at e
 exact e.symm
theorem Zno{l:List Tree}(h:¬0 < (l.length:Int)\/¬(l.getD ((l.length:Int) - 1).toNat Tree.nil).kind=0):Yp l=l:=by
 by_cases h0:0 < (l.length:Int)
 .have e:=Zlw (x:=l.getD ((l.length:Int) - 1).toNat Tree.nil) JX (l.take ((l.length:Int) - 1).toNat)
  rw [<-ZmD h0] at e
  exact e
 .have:l=[]:=Q5 JX
  subst this
  try rfl
theorem c75:Contract Tryz.prog cfg 75 Z07:=by
 refine ZFI ZHp ?_
 rintro N ⟨k,ws,ks⟩ _ hp hN
 have af:=Zy ks
 simp only [Z2l,ZtJ,Zo] at hp hN
 refine ZLh N _ _ ?_;(try simp only [iB,vcT,forall_eq])
 (simp only [iB,vcS]);(try simp only [iB,vcT])
 try (simp only [vE])
 refine ⟨fun hc=> ?_,fun ae=> ⟨by simp only [Zgi];omega,?_⟩⟩
 .have e:Z0 (.mk k ws ks)=Tree.nil:=by simp [Z0,hc]
  simp only [Zic,e]
  exact ⟨⟨rfl,⟨⟨rfl,rfl⟩,⟨rfl,⟨rfl,trivial⟩⟩⟩,trivial⟩,trivial⟩
 .refine Zc (ι:=Int × List Tree) (fun p=> Zbs (.mk k ws ks) p.1 p.2) (fun p=> 0<=p.1/\p.1<=ks.length/\p.2=Yz (ks.take p.1.toNat)) (fun p=> ((ks.length:Int) - p.1).toNat) (0,[]) rfl ⟨JX,JX,rfl⟩ ?_
  rintro ⟨i,l⟩ ⟨h1,h2,s⟩
  dsimp only at*
  have hl:l.length=i.toNat:=by rw [s,Z3e,Qr];omega
  refine ZA7 N _ _ _ _ _ ?_;(try simp only [iB,vcT,forall_eq])
  (simp only [iB,vcS]);(try simp only [iB,vcT])
  try (simp only [vE])
  refine ⟨fun hc=> ?_,fun hc=> ⟨fun u=> ?_,fun u=> ?_⟩⟩
  .have hm:=Z1l (ks:=ks) (i:=i.toNat) JX
   have aa:Yz (ks.take (i+1).toNat)=l++[Z0 (ks.getD i.toNat Tree.nil)]:=by rw [Zfb h1 hc,Zir,s]
   exact ⟨JX,by simp only [Z2l];omega,by simp only [ZtJ];omega,by simp only [Qm,Qp];omega,V1,(i+1,_),rfl,⟨JX,JX,aa.symm⟩,JX⟩
  .have hi:ks.take i.toNat=ks:=Qy JX
   rw [hi] at s
   refine Zc (ι:=List Int) (fun p=> Zbr (.mk k ws ks) l p) (fun p=> p.length<=ws.length/\trim p=trim ws) (fun p=> p.length) ws rfl ⟨JX,rfl⟩ ?_
   rintro w ⟨h6,h7⟩
   refine ZA6 N _ _ _ _ _ ?_;(try simp only [iB,vcT,forall_eq])
   (simp only [iB,vcS]);(try simp only [iB,vcT])
   refine ⟨fun h=> by unfold InR;omega,fun h=> by omega,fun hc=> ⟨V1,JX,_,rfl,⟨by rw [List.length_take];omega,?_⟩,by rw [List.length_take];omega⟩,fun hc=> ?_⟩
   .rw [Zt5 hc.1 hc.2,h7]
   .have hw:w=trim ws:=by rw [<-h7,Zt7 hc]
    refine Zc (ι:=List Tree) (fun p=> Zbq (.mk k ws ks) w p) (fun p=> p.length<=l.length/\Yp p=Yp l) (fun p=> p.length) l rfl ⟨JX,rfl⟩ ?_
    rintro q ⟨h8,h9⟩
    refine ZA5 N _ _ _ _ _ ?_;(try simp only [iB,vcT,forall_eq])
    (simp only [iB,vcS]);(try simp only [iB,vcT])
    refine ⟨fun h=> by unfold InR;omega,fun h=> by omega,fun hc=> ⟨V1,JX,_,rfl,⟨by rw [List.length_take];omega,?_⟩,by rw [List.length_take];omega⟩,fun hc=> ?_⟩
    .rw [Znm hc.1 hc.2,h9]
    .have hq:q=Yp (Yz ks):=by rw [<-s,<-h9,Zno hc]
     have e:Z0 (.mk k ws ks)= .mk k w q:=by
      subst u
      simp only [Z0,hw,hq]
      try rfl
     simp only [Zic,e]
     trivial
  .have hi:ks.take i.toNat=ks:=Qy JX
   rw [hi] at s
   have e:Z0 (.mk k ws ks)= .mk k ws l:=by simp only [Z0,if_neg ae,if_neg u,s]
   simp only [Zic,e]
   trivial
noncomputable section
def ZsJ:ArgL (Int × Unit):=(.cons (Jj .i64) .nil)
def Zo5(a:Int × Unit):Prop:=True
def Zwt(a:Int × Unit):V U:= .c (ci (wd a.1))
def Zap:Fs U:=fs ZsJ (fun a=> [Zo5 a]) Zwt
def Zzs:ArgL (Int × Int × Unit):=(.cons (Jj .i64) (.cons (Jj .u64) .nil))
def Zqc(a:Int × Int × Unit):Prop:=0<=a.2.1/\a.2.1 < 18446744073709551616
def ZEi(a:Int × Int × Unit):V U:= .c (.bool (ZkP a.1 a.2.1))
def Zfh:Fs U:=fs Zzs (fun a=> [Zqc a]) ZEi
def ZnE(a:Int × Unit):V U:= .tup [(false,[ci (if wd a.1 < 0 then 0 else wd a.1)]),(false,[.bool (decide (0<=wd a.1))])]
def Z9X:Fs U:=fs ZsJ (fun a=> [Zo5 a]) ZnE
def Zwu(a:Int × Unit):V U:= .c (.bool (decide (2<=a.1/\a.1<=9)))
def Z2b:Fs U:=fs ZsJ (fun a=> [Zo5 a]) Zwu
def Zw7(a:Int × Unit):V U:= .c (.bool (decide (2<=a.1/\a.1<=7)))
def Z42:Fs U:=fs ZsJ (fun a=> [Zo5 a]) Zw7
def Zss:ArgL (Int × Tree × Unit):=(.cons (Jj .i64) (.cons (aEl .tree) .nil))
def Zkc(a:Int × Tree × Unit):Prop:=rng a.2.1
def Zwh(a:Int × Tree × Unit):V U:= .c (.bool (Z0V a.1 a.2.1))
def Zaj:Fs U:=fs Zss (fun a=> [Zkc a]) Zwh
def Z6V(a:Tree × Int × Unit):Prop:=Zo a.1<=20000000000/\rng a.1/\0<=a.2.1/\a.2.1<=1000
def Zdj(a:Tree × Int × Unit):Nat:=Zo a.1
def ZjR(a:Tree × Int × Unit):V U:= .c (.bool (Zd a.1 a.2.1))
def Zao:Fs U:=fs Zsy (fun a=> [Z6V a]) ZjR
def Zig(a:Tree × Unit):Prop:=Zo a.1<=20000000000/\rng a.1
def ZEh(a:Tree × Unit):V U:= .c (.bool (Zd a.1 64))
def Z1s:Fs U:=fs Zzy (fun a=> [Zig a]) ZEh
def Zy8:Za U:=lvl [([0],[]),([3],[]),([3,4],[]),([2],[]),([3,6],[]),([2],[]),([3,8],[]),([2],[]),([3,10],[]),([2],[]),([3,12],[]),([2],[]),([14],[]),([2],[]),([2],[])]
abbrev ZMO(p:List Nat):=AW (Z2 ZoA) Tryz.f129 Zy8 p
theorem ZJL(c:Int)(Q:QT)(h:(iB (c==0) ((Q .ret (L2 [pI 2 0] []))) ((iB (c==1) ((Q .ret (L2 [pI 2 1] []))) ((iB (c==2) ((Q .ret (L2 [pI 2 8] []))) ((iB (c==3) ((Q .ret (L2 [pI 2 16] []))) ((iB (c==4) ((Q .ret (L2 [pI 2 32] []))) ((iB (c==5) ((Q .ret (L2 [pI 2 64] []))) ((Q .ret (L2 [pI 2 (-1)] []))))))))))))))):
  ZMO [] (L2 [pI 0 c] []) Q:=
 Eq.mpr V3 h
def ZDU(c:Int):Prop:=AW (Z2 ZoA) Tryz.f129 Zy8 [] (Zf (ZsJ.can (c,())) []) (EQ Tryz.f129 (Zwt (c,())) [])
theorem ZBG(hb:∀ (c:Int) (_:Unit),Zo5 (c,())->ZDU c):CT 129 Zap:=
 Z1 (l:=[]) Ze rfl trivial Zy8 Tryz.func129 rfl rfl 1 (fun _=> rfl) V2 (fun ⟨c,_⟩=> hb c ())
def Zoy:List (FuncId × Fs U):=[(129,Zap)]
def ZBS:Za U:=lvl [([0,1],[]),([1,5],[]),([1,5,10],[]),([4],[]),([1,5,6],[]),([1,5,6,13],[]),([1,5,6],[]),([1,5,6],[]),([4],[])]
def Zbn(c n s h:Int):LSt U:=(L2 [(1,.c (.int .u64 s)),pI 5 (wd c),pI 6 h] [])
abbrev A81(p:List Nat):=AW (Z2 Zoy) Tryz.f81 ZBS p
abbrev S81(p:List Nat):=SW (Z2 Zoy) Tryz.f81 ZBS p
theorem ZLd(c n:Int)(Q:QT)(h:((Zo5 (c,()))/\(iB (decide (((wd c):Int) < 0)) ((Q .ret (L2 [pB 4 false] []))) ((Zp (A81 [1,1,1,0,1,0,0]) (Zbn c n n 0) (xB 0 (S81 [1,1,1,1] Q))))))):
  A81 [] (L2 [pI 0 c,(1,.c (.int .u64 n))] []) Q:=
 Eq.mpr V3 h
theorem ZA2(c n u s:Int)(N0:NT)(Q:QT)(h:(iB (decide (s < (wd c))) (((2:Int)≠0)/\((InR (s+1))/\(N0 (Zbn c n (IntKind.wrap .u64 (Int.tdiv u 2)) (s+1))))) ((Q .ret (L2 [pB 4 (u==0)] []))))):
  A81 [1,1,1,0,1,0,0] (Zbn c n u s) (xT N0 (xB 0 (S81 [1,1,1,1] Q))):=
 Eq.mpr V3 h
def ZHV(c n:Int):Prop:=AW (Z2 Zoy) Tryz.f81 ZBS [] (Zf (Zzs.can (c,n,())) []) (EQ Tryz.f81 (ZEi (c,n,())) [])
theorem ZFF(ZHl:CT 129 Zap)(hb:∀ (c:Int) (n:Int) (_:Unit),Zqc (c,n,())->ZHV c n):CT 81 Zfh:=
 Z1 (l:=[(129,Zap)]) Ze rfl (⟨ZHl,trivial⟩) ZBS Tryz.func81 rfl rfl 2 (fun _=> rfl) V2 (fun ⟨c,n,_⟩=> hb c n ())
def Zxn:Za U:=lvl [([0],[]),([0,4],[4]),([0,4,11],[4]),([2,3],[]),([2,3],[])]
abbrev ZMe(p:List Nat):=AW (Z2 ZoA) Tryz.f232 Zxn p
theorem ZIG(c:Int)(Q:QT)(h:((Tt (!(decide (c < 0))))/\((decide (c < 0))=false->(!(decide (c < 0)))=true)/\(iB (bif (decide (c < 0)) then true else (decide ((6:Int)<=c))) ((Q .ret (L2 [pI 2 0,pB 3 false] []))) (((0:Int)<=c/\c < ((6:Nat):Int))/\(Q .ret (L2 [pI 2 (List.getD [0,1,8,16,32,64] c.toNat 0),pB 3 true] [])))))):
  ZMe [] (L2 [pI 0 c] []) Q:=
 Eq.mpr V3 h
def ZCP(c:Int):Prop:=AW (Z2 ZoA) Tryz.f232 Zxn [] (Zf (ZsJ.can (c,())) []) (EQ Tryz.f232 (ZnE (c,())) [])
theorem ZAK(hb:∀ (c:Int) (_:Unit),Zo5 (c,())->ZCP c):CT 232 Z9X:=
 Z1 (l:=[]) Ze rfl trivial Zxn Tryz.func232 rfl rfl 1 (fun _=> rfl) V2 (fun ⟨c,_⟩=> hb c ())
def Zr4:List (FuncId × Fs U):=[(232,Z9X)]
def Zxs:Za U:=lvl [([0,1],[]),([1,5,6],[]),([4],[])]
abbrev ZMj(p:List Nat):=AW (Z2 Zr4) Tryz.f221 Zxs p
theorem ZIO(c n:Int)(Q:QT)(h:let z2:=((if wd c < 0 then 0 else wd c):Int)==64;let z1:=decide (0<=wd c);let z0:=z1 && (!z2);((Zo5 (c,()))/\((Tt z1)/\(Tt z1)/\(Tt z0)/\(Tt z0)/\(z0=true->(0:Int)<=(if wd c < 0 then 0 else wd c))/\(Tt z0)/\(z1=true->(True->z1=true))/\(z1=true->(z2=false->z0=true))/\(Tt z1)/\(Q .ret (L2 [(4,.c (.bool (bif z1 then (bif z2 then true else (((Int.fdiv n (2 ^ (min (Int.toNat (if wd c < 0 then 0 else wd c)) (IntKind.bits .u64)))):Int)==0)) else false)))] []))))):
  ZMj [] (L2 [pI 0 c,(1,.c (.int .u64 n))] []) Q:=
 Eq.mpr V3 h
def ZCX(c n:Int):Prop:=AW (Z2 Zr4) Tryz.f221 Zxs [] (Zf (Zzs.can (c,n,())) []) (EQ Tryz.f221 (ZEi (c,n,())) [])
theorem ZAS(ZGB:CT 232 Z9X)(hb:∀ (c:Int) (n:Int) (_:Unit),Zqc (c,n,())->ZCX c n):CT 221 Zfh:=
 Z1 (l:=[(232,Z9X)]) Ze rfl (⟨ZGB,trivial⟩) Zxs Tryz.func221 rfl rfl 2 (fun _=> rfl) V2 (fun ⟨c,n,_⟩=> hb c n ())
def Zy9:Za U:=lvl [([0],[]),([2],[])]
abbrev ZMP(p:List Nat):=AW (Z2 ZoA) Tryz.f125 Zy9 p
theorem ZJN(k:Int)(Q:QT)(h:let z0:=decide ((2:Int)<=k);((Tt z0)/\(Tt z0)/\(Q .ret (L2 [(2,.c (.bool (bif z0 then (decide (k<=9)) else false)))] [])))):
  ZMP [] (L2 [pI 0 k] []) Q:=
 Eq.mpr V3 h
def ZDW(k:Int):Prop:=AW (Z2 ZoA) Tryz.f125 Zy9 [] (Zf (ZsJ.can (k,())) []) (EQ Tryz.f125 (Zwu (k,())) [])
theorem ZBH(hb:∀ (k:Int) (_:Unit),Zo5 (k,())->ZDW k):CT 125 Z2b:=
 Z1 (l:=[]) Ze rfl trivial Zy9 Tryz.func125 rfl rfl 1 (fun _=> rfl) V2 (fun ⟨k,_⟩=> hb k ())
abbrev ZMk(p:List Nat):=AW (Z2 ZoA) Tryz.f220 Zy9 p
theorem ZIP(k:Int)(Q:QT)(h:let z0:=decide ((2:Int)<=k);((Tt z0)/\(Tt z0)/\(Q .ret (L2 [(2,.c (.bool (bif z0 then (decide (k<=7)) else false)))] [])))):
  ZMk [] (L2 [pI 0 k] []) Q:=
 Eq.mpr V3 h
def ZCY(k:Int):Prop:=AW (Z2 ZoA) Tryz.f220 Zy9 [] (Zf (ZsJ.can (k,())) []) (EQ Tryz.f220 (Zw7 (k,())) [])
theorem ZAT(hb:∀ (k:Int) (_:Unit),Zo5 (k,())->ZCY k):CT 220 Z42:=
 Z1 (l:=[]) Ze rfl trivial Zy9 Tryz.func220 rfl rfl 1 (fun _=> rfl) V2 (fun ⟨k,_⟩=> hb k ())
def Zrp:List (FuncId × Fs U):=[(220,Z42),(221,Zfh)]
def ZxN:Za U:=lvl [([0,3],[3]),([0,3,5],[3]),([4],[]),([3,32],[3]),([4],[]),([4],[])]
abbrev ZMy(p:List Nat):=AW (Z2 Zrp) Tryz.f181 ZxN p
theorem ZJi(l:Int)(t:Tree)(Q:QT)(h:let z2:=List.getD t.words (Int.toNat 0) (0:Int);let z1:=bif (t.kind==10) then (((t.kids.length:Int):Int)==0) else false;let z0:=bif z1 then (((t.words.length:Int):Int)==1) else false;((Zo5 (l,()))/\(iB (decide (2<=l/\l<=7)) ((Tt (t.kind==10))/\(Tt (t.kind==10))/\(Tt (t.kind==10))/\(Tt (t.kind==10))/\(Tt z1)/\(Tt z1)/\(Tt z1)/\(Tt z1)/\(Tt z0)/\(z0=true->InR (l - 2))/\(Tt z0)/\(Tt z0)/\(z0=true->(0:Int)<=0/\0 < (t.words.length:Int))/\(Tt z0)/\(Tt z0)/\(Tt z0)/\(z0=true->Zqc ((l - 2),z2,()))/\(Tt z0)/\(Q .ret (L2 [(4,.c (.bool (bif z0 then (ZkP (l - 2) z2) else false)))] []))) ((iB (l==9) ((Q .ret (L2 [pB 4 (t.kind==1)] []))) ((Q .ret (L2 [pB 4 (t.kind !=10)] [])))))))):
  ZMy [] (L2 [pI 0 l,(1,.agg (enc .tree t))] []) Q:=
 Eq.mpr V3 h
def ZDr(l:Int)(t:Tree):Prop:=AW (Z2 Zrp) Tryz.f181 ZxN [] (Zf (Zss.can (l,t,())) []) (EQ Tryz.f181 (Zwh (l,t,())) [])
theorem ZBi(Zuo:CT 220 Z42)(ZGH:CT 221 Zfh)(hb:∀ (l:Int) (t:Tree) (_:Unit),Zkc (l,t,())->ZDr l t):CT 181 Zaj:=
 Z1 (l:=[(220,Z42),(221,Zfh)]) Ze rfl (⟨Zuo,ZGH,trivial⟩) ZxN Tryz.func181 rfl rfl 2 (fun _=> rfl) V2 (fun ⟨l,t,_⟩=> hb l t ())
def Z5W(N:Nat):List (FuncId × Fs U):=(130,fs Zsy (fun a=> [Z6V a,Zdj a < N]) ZjR) ::[(125,Z2b),(181,Zaj)]
def ZiB:Za U:=lvl [([1,2],[2]),([1,2,8],[2]),([4],[]),([1,2,22],[2]),([4],[]),([1,2,36],[2]),([4],[]),([1,2,39],[2]),([1,2,52],[2]),([4],[]),([1,2,53],[2]),([4],[]),([1,2,71,72,73],[2]),([1,2,71,72,73,74],[2]),([1,2,6,71,72,73],[2,6]),([1,2,6,7,71,72,73],[2,6]),([1,2,6,7,71,72,73,82],[2,6]),([1,2,6,7,71,72,73],[2,6]),([1,2,71,72,73,95],[2]),([4],[]),([1,2,71,72,73],[2]),([4],[])]
def Z56(t:Tree)(d h:Int):LSt U:=(L2 [pI 1 d,pL 2,(71,.c (sU .tree t.kids .unk)),pI 72 (t.kids.length:Int),pI 73 h] [(.loc 2,(enc .tree t))])
abbrev ZIB(N:Nat)(p:List Nat):=AW (Z2 (Z5W N)) Tryz.f130 ZiB p
abbrev ZKX(N:Nat)(p:List Nat):=SW (Z2 (Z5W N)) Tryz.f130 ZiB p
theorem ZJK(N:Nat)(t:Tree)(d:Int)(Q:QT)(h:let z7:=((t.kids.length:Int):Int)==0;let z6:=(Q .ret (L2 [pB 4 false] []));let z5:=(Zp (ZIB N [1,1,0,1,0,0]) (Z56 t d 0) (xB 1 (ZKX N [1,1,1] Q)));let z4:=((t.words.length:Int):Int)==1;let z3:=((t.words.length:Int):Int)==0;let z2:= !(decide (2<=t.kind/\t.kind<=9));let z1:=decide ((65536:Int)<=(t.words.length:Int));let z0:=bif z2 then true else (decide ((0:Int) < (t.words.length:Int)));(iB (t.kind==0) ((Tt z3)/\(Tt z3)/\(Tt z3)/\(Tt z3)/\(Q .ret (L2 [(4,.c (.bool (bif z3 then z7 else false)))] []))) ((iB (t.kind==10) ((Tt z4)/\(Tt z4)/\(Tt z4)/\(Tt z4)/\(Q .ret (L2 [(4,.c (.bool (bif z4 then z7 else false)))] []))) ((iB (d==0) z6 ((iB (t.kind==1) ((Tt (!z1))/\(Tt (!z1))/\(Tt (!z1))/\(z1=false->(!z1)=true)/\(iB (bif z1 then true else (decide ((65536:Int)<=(t.kids.length:Int)))) z6 z5)) ((Zo5 (t.kind,()))/\(Tt (!z2))/\(Tt (!z2))/\(Tt (!z2))/\(z2=false->(!z2)=true)/\(Tt (!z0))/\(Tt (!z0))/\(Tt (!z0))/\(z0=false->(!z0)=true)/\(iB (bif z0 then true else (decide ((1048576:Int)<=(t.kids.length:Int)))) z6 z5)))))))))):
  ZIB N [] (L2 [(0,.agg (enc .tree t)),pI 1 d] []) Q:=
 Eq.mpr V3 h
theorem Zvd(N:Nat)(t:Tree)(d u:Int)(N0:NT)(Q:QT)(h:∀ aa,aa=(t.kids.getD u.toNat Tree.nil)->∀ s,s=aa->let z3:=N0 (Z56 t d (u+1));let z2:=(Q .ret (L2 [pB 4 false] []));let z1:= !(aa.kind !=10);let z0:= !(Z0V t.kind s);(iB (decide (u < (t.kids.length:Int))) (((0:Int)<=u/\u < (t.kids.length:Int))/\(iB (t.kind !=1) ((Zkc (t.kind,s,()))/\((Tt (!z0))/\((!z0)=true->InR (d - 1))/\(Tt (!z0))/\(Tt (!z0))/\((!z0)=true->Z6V (s,(d - 1),()))/\((!z0)=true->Zdj (s,(d - 1),()) < N)/\(Tt (!z0))/\(z0=false->(!z0)=true)/\(iB (bif z0 then true else (!(Zd s (d - 1)))) z2 ((InR (u+1))/\z3)))) ((Tt (!z1))/\((!z1)=true->InR (d - 1))/\(Tt (!z1))/\(Tt (!z1))/\((!z1)=true->Z6V (s,(d - 1),()))/\((!z1)=true->Zdj (s,(d - 1),()) < N)/\(Tt (!z1))/\(z1=false->(!z1)=true)/\(iB (bif z1 then true else (!(Zd s (d - 1)))) z2 ((InR (u+1))/\z3))))) ((Q .ret (L2 [pB 4 true] []))))):
  ZIB N [1,1,0,1,0,0] (Z56 t d u) (xT N0 (xB 1 (ZKX N [1,1,1] Q))):=
 Eq.mpr V3 (h _ rfl _ (Z9 _))
def ZDT(N:Nat)(t:Tree)(d:Int):Prop:=AW (Z2 (Z5W N)) Tryz.f130 ZiB [] (Zf (Zsy.can (t,d,())) []) (EQ Tryz.f130 (ZjR (t,d,())) [])
theorem ZBF(Zuu:CT 125 Z2b)(ZH3:CT 181 Zaj)(hb:∀ (N:Nat) (t:Tree) (d:Int) (_:Unit),Z6V (t,d,())->Zdj (t,d,()) < N+1->ZDT N t d):CT 130 Zao:=
 Jz (μ:=Zdj) (l:=[(125,Z2b),(181,Zaj)]) Ze rfl (⟨Zuu,ZH3,trivial⟩) ZiB Tryz.func130 rfl rfl 2 (fun _=> rfl) V2 (fun N ⟨t,d,_⟩=> hb N t d ())
def ZyD:List (FuncId × Fs U):=[(130,Zao)]
abbrev A82(p:List Nat):=AW (Z2 ZyD) Tryz.f82 ZGj p
theorem ZLc(t:Tree)(Q:QT)(h:let z0:=Tree.mk t.kind t.words t.kids;((Z6V (z0,64,()))/\(Q .ret (L2 [pB 2 (Zd z0 64)] [])))):
  A82 [] (L2 [(0,.agg (enc .tree t))] []) Q:=
 Eq.mpr V3 h
def ZHU(t:Tree):Prop:=AW (Z2 ZyD) Tryz.f82 ZGj [] (Zf (Zzy.can (t,())) []) (EQ Tryz.f82 (ZEh (t,())) [])
theorem ZFE(ZHk:CT 130 Zao)(hb:∀ (t:Tree) (_:Unit),Zig (t,())->ZHU t):CT 82 Z1s:=
 Z1 (l:=[(130,Zao)]) Ze rfl (⟨ZHk,trivial⟩) ZGj Tryz.func82 rfl rfl 1 (fun _=> rfl) V2 (fun ⟨t,_⟩=> hb t ())
def ZoF(N:Nat):List (FuncId × Fs U):=(31,fs Zsy (fun a=> [Z6V a,Zdj a < N]) ZjR) ::[(81,Zfh)]
def ZBZ:Za U:=lvl [([1,2],[2]),([1,2,10],[2]),([4],[]),([1,2,23],[2]),([4],[]),([1,2,68],[2]),([4],[]),([1,2,77],[2]),([4],[]),([1,2,5],[2]),([1,2,5,82],[2]),([1,2,5],[2]),([1,2,5,6],[2,6]),([1,2,5,6,94],[2,6]),([4],[]),([1,2,5,6,7],[2,6]),([1,2,5,131],[2]),([4],[]),([4],[])]
def ZbA(t:Tree)(d h:Int):LSt U:=(L2 [pI 1 d,pL 2,pI 5 h] [(.loc 2,(enc .tree t))])
abbrev A31(N:Nat)(p:List Nat):=AW (Z2 (ZoF N)) Tryz.f31 ZBZ p
abbrev S31(N:Nat)(p:List Nat):=SW (Z2 (ZoF N)) Tryz.f31 ZBZ p
theorem ZLx(N:Nat)(t:Tree)(d:Int)(Q:QT)(h:let z10:=(Q .ret (L2 [pB 4 false] []));let z9:=((t.kids.length:Int):Int)==0;let z7:=decide (t.kind < 0);let z6:=decide ((1:Int) < t.kind);let z5:=((t.words.length:Int):Int)==1;let z4:=((t.words.length:Int):Int)==0;let z1:=bif z7 then true else (decide ((10:Int) < t.kind));let z3:=bif z1 then true else (d==0);let z0:=bif z3 then true else (decide ((65536:Int)<=(t.words.length:Int)));let z8:=(!z0) && (t.kind==1);let z2:=bif z0 then true else (bif (t.kind==1) then (decide ((65536:Int)<=(t.kids.length:Int))) else false);(iB (t.kind==0) ((Tt z4)/\(Tt z4)/\(Tt z4)/\(Tt z4)/\(Q .ret (L2 [(4,.c (.bool (bif z4 then z9 else false)))] []))) ((iB (t.kind==10) ((Tt z5)/\(Tt z5)/\(Tt z5)/\(Tt z5)/\(Q .ret (L2 [(4,.c (.bool (bif z5 then z9 else false)))] []))) ((Tt (!z7))/\(Tt (!z7))/\(z7=false->(!z7)=true)/\(Tt (!z1))/\(z1=false->(!z1)=true)/\(Tt (!z3))/\(Tt (!z3))/\(Tt (!z3))/\(z3=false->(!z3)=true)/\(Tt (!z0))/\(Tt (!z0))/\(Tt (!z0))/\(Tt z8)/\(Tt z8)/\(Tt z8)/\((!z0)=true->(True->(!z0)=true))/\((!z0)=true->((t.kind==1)=true->z8=true))/\(z0=false->(!z0)=true)/\(Tt (!z2))/\(Tt (!z2))/\(Tt (!z2))/\(z2=false->(!z2)=true)/\(iB (bif z2 then true else (decide ((1048576:Int)<=(t.kids.length:Int)))) z10 ((Tt z6)/\(Tt z6)/\(Tt z6)/\(Tt z6)/\(iB (bif z6 then (decide ((0:Int) < (t.words.length:Int))) else false) z10 ((Zp (A31 N [1,1,1,1,1,0,1,0,0]) (ZbA t d 0) (xB 0 (S31 N [1,1,1,1,1,1] Q)))))))))))):
  A31 N [] (L2 [(0,.agg (enc .tree t)),pI 1 d] []) Q:=
 Eq.mpr V3 h
theorem ZAf(N:Nat)(t:Tree)(d x5:Int)(N0:NT)(Q:QT)(h:∀ s,s=(t.kids.getD x5.toNat Tree.nil)->∀ u,u=s->∀ aa,aa=(List.getD s.words (Int.toNat 0) (0:Int))->let z5:=(Q .ret (L2 [pB 4 false] []));let z3:=decide ((2:Int)<=t.kind);let z0:=bif z3 then (decide (t.kind<=7)) else false;let z2:=z0 !=(s.kind==10);let z4:=(!z2) && (t.kind==9);let z1:=bif z2 then true else (bif (t.kind==9) then (s.kind !=1) else false);(iB (decide (x5 < (t.kids.length:Int))) (((0:Int)<=x5/\x5 < (t.kids.length:Int))/\((InR (d - 1))/\(Z6V (u,(d - 1),()))/\(Zdj (u,(d - 1),()) < N)/\(iB (!(Zd u (d - 1))) z5 ((Tt z3)/\(Tt z3)/\(Tt z3)/\((Tt (!z2))/\(Tt (!z2))/\(Tt (!z2))/\(Tt z4)/\(Tt z4)/\((!z2)=true->(True->(!z2)=true))/\((!z2)=true->((t.kind==9)=true->z4=true))/\(z2=false->(!z2)=true)/\(Tt (!z1))/\(Tt ((!z1) && z0))/\(Tt ((!z1) && z0))/\(((!z1) && z0)=true->InR (t.kind - 2))/\(Tt ((!z1) && z0))/\(Tt ((!z1) && z0))/\(((!z1) && z0)=true->(0:Int)<=0/\0 < (s.words.length:Int))/\(Tt ((!z1) && z0))/\(Tt ((!z1) && z0))/\(Tt ((!z1) && z0))/\(((!z1) && z0)=true->Zqc ((t.kind - 2),aa,()))/\(Tt ((!z1) && z0))/\((!z1)=true->(True->(!z1)=true))/\((!z1)=true->(z0=true->((!z1) && z0)=true))/\(z1=false->(!z1)=true)/\(iB (bif z1 then true else (bif z0 then (!(ZkP (t.kind - 2) aa)) else false)) z5 ((InR (x5+1))/\(N0 (ZbA t d (x5+1)))))))))) ((Q .ret (L2 [pB 4 true] []))))):
  A31 N [1,1,1,1,1,0,1,0,0] (ZbA t d x5) (xT N0 (xB 0 (S31 N [1,1,1,1,1,1] Q))):=
 Eq.mpr V3 (h _ rfl _ (Z9 _) _ rfl)
def ZIf(N:Nat)(t:Tree)(d:Int):Prop:=AW (Z2 (ZoF N)) Tryz.f31 ZBZ [] (Zf (Zsy.can (t,d,())) []) (EQ Tryz.f31 (ZjR (t,d,())) [])
theorem ZFU(c81:CT 81 Zfh)(hb:∀ (N:Nat) (t:Tree) (d:Int) (_:Unit),Z6V (t,d,())->Zdj (t,d,()) < N+1->ZIf N t d):CT 31 Zao:=
 Jz (μ:=Zdj) (l:=[(81,Zfh)]) Ze rfl (⟨c81,trivial⟩) ZBZ Tryz.func31 rfl rfl 2 (fun _=> rfl) V2 (fun N ⟨t,d,_⟩=> hb N t d ())
end
theorem Z5o:∀ (l:List Int),trim l=[]↔∀ i:Nat,l.getD i 0=0
 | []=> by simp [trim]
 | x ::r=> by
  have u:=Z5o r
  constructor
  .intro h i
   simp only [trim] at h
   split at h
   .rename_i s
    split at h
    .cases i with
     | zero=> simpa
     | succ i=> simp_all
    .cases h
   .cases h
  .intro h
   have h0:=h 0
   have s:trim r=[]:=u.2 fun i=> by simpa using h (i+1)
   simp only [trim,s]
   grind
theorem Z38(x:Int)(r:List Int):trim (x ::r)=if trim r=[]/\x=0 then [] else x ::trim r:=by
 simp only [trim]
 grind
theorem ZcW:∀ (a b:List Int),trim a=trim b↔∀ i:Nat,a.getD i 0=b.getD i 0
 | [],b=> by
  rw [show trim []=[] from rfl,eq_comm,Z5o]
  simp [eq_comm]
 | x ::r,[]=> by
  rw [show trim []=[] from rfl,Z5o]
  simp
 | x ::r,y ::s=> by
  have ih:=ZcW r s
  constructor
  .intro h i
   have ab:x=y/\trim r=trim s:=by
    rw [Z38,Z38] at h
    grind
   cases i with
   | zero=> grind
   | succ i=> simp_all
  .intro h
   have u:x=y:=by simpa using h 0
   have hr:trim r=trim s:=ih.2 fun i=> by simpa using h (i+1)
   rw [Z38,Z38,u,hr]
def ZCO(l:List Tree):Prop:=∀ x∈l,x.kind=0->x=Tree.nil
theorem Z0g(x:Tree)(r:List Tree):Yp (x ::r)=if Yp r=[]/\x.kind=0 then [] else x ::Yp r:=by
 simp only [Yp]
 grind
theorem Z4j:∀ (l:List Tree),ZCO l->(Yp l=[]↔∀ i:Nat,l.getD i Tree.nil=Tree.nil)
 | [],_=> by simp [Yp]
 | x ::r,hn=> by
  have ih:=Z4j r (fun y u=> hn y (Q0 _ u))
  have hx:=hn x (Q7 ..)
  rw [Z0g]
  constructor
  .intro h i
   split at h
   .rename_i hc
    cases i with
    | zero=> grind
    | succ i=> simp_all
   .cases h
  .intro h
   have s:x=Tree.nil:=by simpa using h 0
   have hr:Yp r=[]:=ih.2 fun i=> by simpa using h (i+1)
   rw [if_pos ⟨hr,by rw [s];rfl⟩]
theorem Z9R:∀ (a b:List Tree),ZCO a->ZCO b->(Yp a=Yp b↔∀ i:Nat,a.getD i Tree.nil=b.getD i Tree.nil)
 | [],b,_,hb=> by
  rw [show Yp []=[] from rfl,eq_comm,Z4j b hb]
  simp [eq_comm]
 | x ::r,[],ha,_=> by
  rw [show Yp []=[] from rfl,Z4j _ ha]
  simp
 | x ::r,y ::s,ha,hb=> by
  have ih:=Z9R r s (fun y u=> ha y (Q0 _ u)) (fun y u=> hb y (Q0 _ u))
  have hx:=ha x (Q7 ..)
  have u:=hb y (Q7 ..)
  constructor
  .intro h i
   have ae:x=y/\Yp r=Yp s:=by
    rw [Z0g,Z0g] at h
    split at h <;> split at h
    .grind
    .cases h
    .cases h
    .simpa using h
   cases i with
   | zero=> grind
   | succ i=> simp_all
  .intro h
   have h0:x=y:=by simpa using h 0
   have hr:Yp r=Yp s:=ih.2 fun i=> by simpa using h (i+1)
   rw [Z0g,Z0g,h0,hr]
theorem Ziq:Z0 Tree.nil=Tree.nil:=by rfl
theorem Z9z(t:Tree):(Z0 t).kind=t.kind:=by
 obtain ⟨k,w,ks⟩:=t
 simp only [Z0]
 split
 .rename_i h;simp [h,Tree.nil]
 .split
  .rename_i h;simp [h]
  .try rfl
theorem Z9B:∀ (l:List Tree),ZCO (Yz l)
 | []=> by intro x h;trivial
 | t ::r=> by
  intro x h s
  simp only [Yz,Qa] at h
  rcases h with rfl | h
  .rw [Z9z] at s
   obtain ⟨k,w,ks⟩:=t
   simp only [Tree.kind_mk] at s
   simp [Z0,s]
  .exact Z9B r x h s
theorem Z14:∀ (l:List Tree) (i:Nat),(Yz l).getD i Tree.nil=Z0 (l.getD i Tree.nil)
 | [],i=> by rfl
 | t ::r,0=> by simp [Yz]
 | t ::r,i+1=> by simpa [Yz] using Z14 r i
theorem ZaW(a b:List Tree):Yz a=Yz b↔a.length=b.length/\∀ i:Nat,Z0 (a.getD i Tree.nil)=Z0 (b.getD i Tree.nil):=by
 constructor
 .intro h
  refine ⟨by rw [<-Z3e a,h,Z3e],fun i=> ?_⟩
  rw [<-Z14,h,Z14]
 .rintro ⟨hl,h⟩
  apply List.ext_getElem (by rw [Z3e,Z3e,hl])
  intro i s u
  have:=h i
  rw [<-Z14,<-Z14] at this
  grind
theorem Jc(a b:Tree):Z0 a=Z0 b↔a.kind=b.kind/\(a.kind=0\/(if a.kind=1 then (∀ i:Nat,a.words.getD i 0=b.words.getD i 0) else a.words=b.words/\a.kids.length=b.kids.length)/\∀ i:Nat,Z0 (a.kids.getD i Tree.nil)=Z0 (b.kids.getD i Tree.nil)):=by
 obtain ⟨k,w,ks⟩:=a
 obtain ⟨u,w',s⟩:=b
 show _↔k=u/\(k=0\/(if k=1 then (∀ i:Nat,w.getD i 0=w'.getD i 0) else w=w'/\ks.length=s.length)/\∀ i:Nat,Z0 (ks.getD i Tree.nil)=Z0 (s.getD i Tree.nil))
 by_cases hk:k=u
 .subst hk
  simp only [true_and]
  by_cases h0:k=0
  .simp [Z0,h0]
  .by_cases h1:k=1
   .subst h1
    simp only [Z0,if_neg h0,if_true,Tree.mk.injEq,true_and,ZcW,Z9R _ _ (Z9B _) (Z9B _),Z14]
    simp
   .simp only [Z0,if_neg h0,if_neg h1,Tree.mk.injEq,true_and,ZaW]
    grind
 .simp only [hk,false_and,iff_false]
  intro h
  have:=congrArg Tree.kind h
  rw [Z9z,Z9z] at this
  exact hk this
theorem Zln{a b:Tree}(h:Z0 a=Z0 b)(h0:a.kind≠0)(i:Nat):a.words.getD i 0=b.words.getD i 0:=by
 obtain ⟨_,s⟩:=(Jc a b).1 h
 grind
theorem ZoI{a b:Tree}(h:Z0 a=Z0 b)(h0:a.kind≠0)(i:Nat):Z0 (a.kids.getD i Tree.nil)=Z0 (b.kids.getD i Tree.nil):=by
 obtain ⟨_,s⟩:=(Jc a b).1 h
 grind
theorem Zh2(t:Tree)(i:Int):Zo (Z0q t i)<=Zo t/\(i < t.kids.length->0<=i->Zo (Z0q t i) < Zo t):=by
 obtain ⟨k,w,ks⟩:=t
 unfold Z0q
 have h:Zo Tree.nil=1:=rfl
 split
 .simp only [h,Zo];omega
 .simp only [Tree.kids_mk]
  by_cases hi:i.toNat < ks.length
  .have:=Z1l hi
   simp only [Zo];omega
  .rw [List.getD,QQ JX]
   simp only [Option.getD_none,h,Zo];omega
theorem Z9K:Contract Tryz.prog cfg 114 YN:=by
 refine ZBM ZH6 Zus Zur ?_
 rintro N a b _ hp hN
 have la:a.words.length+a.kids.length < Zo a:=by obtain ⟨k,w,ks⟩:=a;have:=Zy ks;simp only [Zo,Tree.words_mk,Tree.kids_mk];omega
 have lb:b.words.length+b.kids.length < Zo b:=by obtain ⟨k,w,ks⟩:=b;have:=Zy ks;simp only [Zo,Tree.words_mk,Tree.kids_mk];omega
 simp only [Z2z,Zit] at hp hN
 have no:¬Z0 a=Z0 b->Y7 cfg Tryz.f114.ntmps Tryz.f114.results.toList (Z9g (a,b,())) [] .ret (⟨[(4,.c (.bool false))],[],[]⟩:LSt U):=by
  intro h
  have e:Yf (Z0 a) (Z0 b)=false:=JQ.2 h
  simp only [Z9g,e]
  exact ⟨⟨rfl,⟨rfl,trivial⟩,trivial⟩,trivial⟩
 refine ZJV N _ _ _ ?_;(try simp only [iB,vcT,forall_eq])
 (simp only [iB,vcS]);(try simp only [iB,vcT])
 refine ⟨fun hc=> ?_,fun hc=> ?_⟩
 .have e:Yf (Z0 a) (Z0 b)=(a.kind==b.kind):=by
   by_cases s:a.kind=b.kind
   .have h0:a.kind=0:=by rcases hc with h | h;exact absurd s h;exact h
    rw [J6.2 ((Jc a b).2 ⟨s,.inl h0⟩)]
    simp [s]
   .rw [JQ.2 (fun h=> s ((Jc a b).1 h).1)]
    simp [s]
  simp only [Z9g,e]
  exact ⟨⟨rfl,⟨rfl,trivial⟩,trivial⟩,trivial⟩
 .refine ⟨fun _=> by simp only [Zih];omega,fun h h'=> ⟨h,h'⟩,fun hd=> no ?_,fun hd=> ?_⟩
  .intro h
   obtain ⟨_,h2⟩:=(Jc a b).1 h
   grind
  .refine Zc (ι:=Int) (fun p=> Z8k a b p) (fun p=> 0<=p/\p<=2000000000000/\∀ j:Nat,j < p.toNat->a.words.getD j 0=b.words.getD j 0) (fun p=> (2000000000000 - p).toNat) 0 rfl ⟨JX,JX,fun j u=> by simp at u⟩ ?_
   rintro i ⟨h1,h2,h3⟩
   refine Zvo N _ _ _ _ _ ?_;(try simp only [iB,vcT,forall_eq])
   (simp only [iB,vcS]);(try simp only [iB,vcT])
   have wa:∀ t:Tree,Z0f t i=t.words.getD i.toNat 0:=fun t=> by unfold Z0f;omega
   refine ⟨fun hi=> ⟨trivial,trivial,fun hn=> no fun h=> hn ?_,fun he=> ⟨?_,?_⟩⟩,fun hi=> ?_⟩
   .rw [wa,wa]
    exact Zln h hc.2 _
   .unfold InR;omega
   .refine ⟨i+1,rfl,⟨JX,JX,fun j u=> ?_⟩,JX⟩
    by_cases hj':j < i.toNat
    .exact h3 j hj'
    .have:j=i.toNat:=JX
     simp_all
   .have hw:∀ j:Nat,a.words.getD j 0=b.words.getD j 0:=fun j=> by
     grind
    refine Zc (ι:=Int) (fun p=> Z8j a b p) (fun p=> 0<=p/\p<=2000000000000/\∀ j:Nat,j < p.toNat->Z0 (a.kids.getD j Tree.nil)=Z0 (b.kids.getD j Tree.nil)) (fun p=> (2000000000000 - p).toNat) 0 rfl ⟨JX,JX,fun j u=> by simp at u⟩ ?_
    rintro q ⟨h5,h6,h7⟩
    refine Zvn N _ _ _ _ _ ?_;(try simp only [iB,vcT,forall_eq])
    (simp only [iB,vcS]);(try simp only [iB,vcT])
    have ka:∀ t:Tree,Z0q t q=t.kids.getD q.toNat Tree.nil:=fun t=> by unfold Z0q;grind
    have ma:=Zh2 a q
    have mb:=Zh2 b q
    try (simp only [vE])
    refine ⟨fun hq=> ⟨trivial,trivial,?_,?_,fun hn=> no fun h=> ?_,fun he=> ⟨?_,?_⟩⟩,fun hq=> ?_⟩
    .simp only [Z2z];omega
    .simp only [Zit];omega
    .rw [JQ] at hn
     apply hn
     rw [ka,ka]
     exact ZoI h hc.2 _
    .unfold InR;omega
    .refine ⟨q+1,rfl,⟨JX,JX,fun j u=> ?_⟩,JX⟩
     by_cases hj':j < q.toNat
     .exact h7 j hj'
     .have:j=q.toNat:=JX
      rw [this,<-ka,<-ka]
      exact J6.1 he
    .have s:∀ j:Nat,Z0 (a.kids.getD j Tree.nil)=Z0 (b.kids.getD j Tree.nil):=fun j=> by
      grind
     have e:Yf (Z0 a) (Z0 b)=true:=by
      rw [J6,Jc]
      refine ⟨hc.1,.inr ⟨?_,s⟩⟩
      split
      .exact hw
      .grind
     simp only [Z9g,e]
     trivial
mutual
theorem Z0x:∀ (t:Tree) (d l:Int),0<=ZK t d l->(Zo t:Int)+ZK t d l<=l
 | .mk _ w ks,d,l,h=> by
  simp only [ZK] at h ⊢
  split at h
  .omega
  .rename_i hc
   rw [if_neg hc]
   have:=Z4l ks (d - 1) (l - 1 - w.length) h
   simp only [Zo]
   omega
theorem Z4l:∀ (ks:List Tree) (d l:Int),0<=ZD ks d l->(Zg ks:Int)+ZD ks d l<=l
 | [],d,l,h=> by simp [ZD,Zg]
 | t ::r,d,l,h=> by
  simp only [ZD] at h ⊢
  split at h
  .omega
  .rename_i hc
   rw [if_neg hc]
   have h1:=Z4l r d (ZK t d l) h
   have u:=(Z1u r d (ZK t d l) (Je t d l).1).2
   have s:=Z0x t d l JX
   simp only [Zg]
   omega
end
end Go.AM.YtpjenobkibfpcaaGreat
