import Derived.Test.YtcljdbpmjdgooaaEmE
import Derived.Laws.Append
set_option linter.unusedSimpArgs false
set_option linter.unusedVariables false
namespace Go.AM
variable {U:Uni} {P:Program} {cfg:Cfg U} {B:Base} {st:FSt U} {g:Gh} {a:Act} {w:World}
theorem YP{b:Addr}{i j:Nat}(h:b.add i=b.add j):i=j:=by
 unfold Addr.add at h
 grind
theorem Y2(b:Addr):∀ (vs:List Value) (i:Nat) (w:World),(∀ v∈vs,v.oneCell'=true)->
  (∀ j,j < vs.length->(∃ u,w.cell? (b.add (i+j))=some u)/\w.frozen? (b.add (i+j))=false)->
  ∃ w',(storeCells b vs i).run P w= .ok () w'/\Evo w w' (fun c=> ∃ j,j < vs.length/\c=b.add (i+j))/\
   (∀ j v,vs[j]?=some v->w'.cell? (b.add (i+j))=some v)/\(∀ c,(∀ j,j < vs.length->c≠b.add (i+j))->w'.cell? c=w.cell? c)/\(∀ c,w'.frozen? c=w.frozen? c)/\w'.heap.size=w.heap.size
 | [],i,w,_,_=> ⟨w,by simp [storeCells],.refl _ _,by simp,fun _ _=> rfl,fun _=> rfl,rfl⟩
 | v ::vs,i,w,ho,hc=> by
  obtain ⟨⟨u,hu⟩,hf⟩:=hc 0 (by simp)
  rw [Xo] at hu hf
  have hrun:(store (b.add i) v).run P w= .ok () (w.setCell (b.add i) v):=by
   rw [run_store P w _ v .plain (ho v (by simp)),hu]
   simp [hf]
  have hnext:∀ j,j < vs.length->(∃ u,(w.setCell (b.add i) v).cell? (b.add (i+1+j))=some u)/\(w.setCell (b.add i) v).frozen? (b.add (i+1+j))=false:=by
   intro j hj
   obtain ⟨⟨u',hu'⟩,hf'⟩:=hc (j+1) (by simpa using hj)
   have e:i+(j+1)=i+1+j:=by omega
   rw [e] at hu' hf'
   refine ⟨⟨u',?_⟩,by rw [World.frozen?_setCell];exact hf'⟩
   rw [World.cell?_setCell_other _ _ _ _ (fun h=> by have:=YP h;omega)]
   exact hu'
  obtain ⟨w',h1,h2,h3,h4,h5,h6⟩:=Y2 b vs (i+1) (w.setCell (b.add i) v) (fun x hx=> ho x (by simp [hx])) hnext
  refine ⟨w',by simp [storeCells,hrun,h1],?_,?_,?_,?_,?_⟩
  .refine Evo.trans (w':=w.setCell (b.add i) v) (Evo.setCell w _ v _ ⟨0,by simp,rfl⟩) (h2.weaken ?_)
   rintro c ⟨j,hj,rfl⟩
   exact ⟨j+1,by simpa using hj,by congr 1;omega⟩
  .intro j x hx
   cases j with
   | zero=>
    simp at hx
    subst hx
    rw [Xo,h4 _ (fun j hj h=> by have:=YP h;omega)]
    exact World.cell?_setCell_same w _ v hu
   | succ j=>
    have:=h3 j x (by simpa using hx)
    rw [show i+(j+1)=i+1+j by omega]
    exact this
  .intro c hcc
   rw [h4 c (fun j hj=> by have:=hcc (j+1) (by simpa using hj);rwa [show i+(j+1)=i+1+j by omega] at this)]
   exact World.cell?_setCell_other _ _ _ _ (fun h=> hcc 0 (by simp) (by rw [Xo];exact h.symm))
  .intro c
   rw [h5,World.frozen?_setCell]
  .rw [h6,World.size_setCell]
structure SameHeap (w w':World):Prop where
 heap:w'.heap=w.heap
 os:w'.os=w.os
 tape:w'.tape=w.tape
 output:w'.output=w.output
theorem SameHeap.refl(w:World):SameHeap w w:=⟨rfl,rfl,rfl,rfl⟩
theorem SameHeap.drew(w:World):SameHeap w w.drew:=⟨rfl,rfl,rfl,rfl⟩
theorem SameHeap.cell{w w':World}(h:SameHeap w w')(b:Addr):w'.cell? b=w.cell? b:=by simp [World.cell?,h.heap]
theorem SameHeap.frozen{w w':World}(h:SameHeap w w')(b:Addr):w'.frozen? b=w.frozen? b:=by simp [World.frozen?,h.heap]
theorem SameHeap.evo{w w':World}(h:SameHeap w w')(S:Addr->Prop):Evo w w' S:=
 ⟨⟨h.os,h.tape,h.output,by rw [h.heap];omega⟩,fun b _ _=> h.cell b,fun b _=> h.frozen b,fun b v hv=> ⟨v,(h.cell b).trans hv⟩,fun b _ _=> by rw [h.heap]⟩
def Gh.new(g:Gh)(b:Nat)(arr:Array Value)(im:Nat->Bool)(tg:Nat->Option Tag)(ad:Name->Addr):Gh:=
 {m:=fun c=> if c.block=b/\c.spot=none then (if im c.off then arr[c.off]? else none) else g.m c
  tag:=fun c=> if c.block=b/\c.spot=none then tg c.off else g.tag c
  ad:=ad
  bs:=g.bs }
theorem Zba (h:Rel cfg B st g a w) {w1:World} (hw:SameHeap w w1) (arr:Array Value) (e:TypeId) (im:Nat->Bool) (tg:Nat->Option Tag) (ad:Name->Addr)
  (htg:∀ i t,tg i=some t->i < arr.size/\im i=false/\∀ t',t≠.outer t')
  (had:∀ nm,(st.mem nm).isSome=true->ad nm=g.ad nm) (hax:∀ k,ad (.x k)=g.ad (.x k)):
  Inv (g.new w.heap.size arr im tg ad).m (g.new w.heap.size arr im tg ad).tag (w1.alloc (.cells arr e))/\
  Fr B (g.new w.heap.size arr im tg ad) (w1.alloc (.cells arr e))/\
  (∀ (dead:Tok->Bool) (ZK:Name->Bool),(∀ nm,(st.mem nm).isSome=true->ZK nm=true)->Keeps g (g.new w.heap.size arr im tg ad) st.dead (fun t=> st.dead t || dead t) (fun nm=> (st.mem nm).isSome) ZK)/\
  (∀ i,(w1.alloc (.cells arr e)).cell? ⟨w.heap.size,i,none⟩=arr[i]?)/\
  (∀ c v,w.cell? c=some v->(w1.alloc (.cells arr e)).cell? c=some v):=by
 have hsz:w1.heap.size=w.heap.size:=by rw [hw.heap]
 have hold:∀ c:Addr,c.block < w.heap.size->(w1.alloc (.cells arr e)).cell? c=w.cell? c:=fun c hc=> by
  rw [World.cell?_alloc_lt w1 _ c (by omega),hw.cell]
 have hnew:∀ i,(w1.alloc (.cells arr e)).cell? ⟨w.heap.size,i,none⟩=arr[i]?:=fun i=> by
  rw [<-hsz];simp
 have hm0:∀ c v,g.m c=some v->c.block < w.heap.size:=fun c v hv=> h.inv.lt' hv
 have ht0:∀ c t,g.tag c=some t->c.block < w.heap.size:=fun c t ht=> h.inv.lt ht
 have hmk:∀ c v,g.m c=some v->(g.new w.heap.size arr im tg ad).m c=some v:=fun c v hv=> by
  have:=hm0 c v hv
  simp only [Gh.new]
  grind
 have htk:∀ c:Addr,c.block < w.heap.size->(g.new w.heap.size arr im tg ad).tag c=g.tag c:=fun c hc=> by
  simp only [Gh.new]
  grind
 have hinv:Inv (g.new w.heap.size arr im tg ad).m (g.new w.heap.size arr im tg ad).tag (w1.alloc (.cells arr e)):=by
  refine ⟨?_,?_⟩
  .intro c v hv
   simp only [Gh.new] at hv ⊢
   split at hv
   .rename_i hc
    rw [if_pos hc]
    split at hv
    .rename_i him
     obtain ⟨cb,co,cs⟩:=c
     simp only at hc him hv
     obtain ⟨rfl,rfl⟩:=hc
     refine ⟨(hnew co).trans hv,?_⟩
     cases htc:tg co with
     | none=> rfl
     | some t=> grind
    .cases hv
   .rename_i hc
    rw [if_neg hc]
    obtain ⟨h1,h2⟩:=h.inv.im c v hv
    grind
  .intro c t ht
   simp only [Gh.new] at ht
   split at ht
   .rename_i hc
    obtain ⟨cb,co,cs⟩:=c
    simp only at hc ht
    obtain ⟨rfl,rfl⟩:=hc
    obtain ⟨h1,_,_⟩:=htg co t ht
    refine ⟨by rw [<-hsz];simp,arr[co],(hnew co).trans (QB h1)⟩
   .obtain ⟨h1,v,h2⟩:=h.inv.it c t ht
    have hlt:=ht0 c t ht
    exact ⟨by rw [World.frozen?_alloc_old w1 _ c (by omega),hw.frozen];exact h1,v,(hold c hlt).trans h2⟩
 refine ⟨hinv,?_,?_,hnew,fun c v hv=> (hold c (World.block_lt_of_cell? w c hv)).trans hv⟩
 .refine h.fr.step h.inv ((hw.evo (fun _=> False)).trans (Evo.alloc w1 _ _)) (fun c hc=> hc.elim) hmk ?_ ?_ hax
  .intro c t
   constructor
   .grind
   .intro ht
    simp only [Gh.new] at ht
    grind
  grind
 .intro dead ZK hl
  refine ⟨hmk,fun c t _ _ ht=> by grind,fun t ht=> ?_,fun nm hn=> ⟨hl nm hn,had nm hn⟩,fun _ _ _ h=> h,hax,fun t _ _ h=> h⟩
  grind
theorem Z7n(h:Rel cfg B st g a w){arr:Array Value}{im:Nat->Bool}{tg:Nat->Option Tag}{ad:Name->Addr}(c:Addr)(u:Tok)(_:u.isA=true)(ht:g.tag c=some (.tok u)):
  (g.new w.heap.size arr im tg ad).tag c=some (.tok u):=by
 have:=h.inv.lt ht
 simp only [Gh.new]
 grind
theorem Z7o (h:Rel cfg B st g a w) {g':Gh} {w':World} {dead2:Tok->Bool} {live2:Name->Bool} (k:Keeps g g' st.dead dead2 (fun nm=> (st.mem nm).isSome) live2)
  (hc:∀ c v,w.cell? c=some v->w'.cell? c=some v) (ht:∀ c t,g.tag c=some t->g'.tag c=some t):
  ∀ nm cs,st.mem nm=some cs->∀ j c,cs[j]?=some c->∃ v,w'.cell? ((g'.ad nm).add j)=some v/\g'.tag ((g'.ad nm).add j)=some (.obj nm)/\RelC cfg g' dead2 v c:=by
 intro nm cs hm j c hj
 obtain ⟨v,h1,h2,h3⟩:=h.mem nm cs hm j c hj
 have had:=(k.ad nm (by simp [hm])).2
 rw [had]
 exact ⟨v,hc _ _ h1,ht _ _ h2,h3.keep k⟩
theorem Z1M(st:FSt U){e:Eff U}(h:e.kill=[]):Zb st e=fun t=> st.dead t || (fun _=> false) t:=by
 funext t;simp [Zb,h]
theorem Zaw(h:Rel cfg B st g a w){d:Nat}{zs:List (C U)}{arr:Array Value}(e:TypeId)(hn:st.mem (.loc d)=none)(hr:RelL cfg g st.dead arr.toList zs):
  ∃ g',Out cfg B st g { val:=some (.ptr (.loc d) 0),mem:=[(.loc d,zs)] } (.pointer (some ⟨w.heap.size,0,none⟩)) (w.alloc (.cells arr e)) g':=by
 let ad:Name->Addr:=fun nm=> if nm= .loc d then ⟨w.heap.size,0,none⟩ else g.ad nm
 let tg:Nat->Option Tag:=fun i=> if i < arr.size then some (.obj (.loc d)) else none
 have had:∀ nm,(st.mem nm).isSome=true->ad nm=g.ad nm:=by
  intro nm hs
  simp only [ad]
  rw [if_neg (fun e=> by subst e;simp [hn] at hs)]
 obtain ⟨h1,h2,h3,h4,h5⟩:=Zba h (SameHeap.refl w) arr e (fun _=> false) tg ad (by
  grind) had (fun k=> by simp [ad])
 have hkeep:Keeps g (g.new w.heap.size arr (fun _=> false) tg ad) st.dead (Zb st ({ val:=some (.ptr (.loc d) 0),mem:=[(.loc d,zs)] }:Eff U)) (fun nm=> (st.mem nm).isSome) (ZK st ({ val:=some (.ptr (.loc d) 0),mem:=[(.loc d,zs)] }:Eff U)):=by
  rw [Z1M st rfl]
  refine h3 _ _ ?_
  intro nm hs
  simp only [ZK,Zz]
  split
  .try rfl
  .exact hs
 refine ⟨g.new w.heap.size arr (fun _=> false) tg ad,h1,h2,?_,?_,?_,h.ls_keep rfl hkeep (fun c v hv=> h5 _ _ (h.inv.im c v hv).1) (fun c t _ ht=> by obtain ⟨_,v,hv⟩:=h.inv.it c _ ht;grind) (fun _ _ h=> h) (Z7n h),h.fresh_keep rfl (fun _=> rfl)⟩
 .omega
 .rw [Z1M st rfl]
  have k:=h3 (fun _=> false) (ZK st ({ val:=some (.ptr (.loc d) 0),mem:=[(.loc d,zs)] }:Eff U)) (by
   intro nm hs
   simp only [ZK,Zz]
   grind)
  intro nm cs hm j c hj
  simp only [Zz] at hm
  split at hm
  .rename_i hnm
   subst hnm
   simp only [Option.some.injEq] at hm
   subst hm
   have hlt:j < arr.size:=by have h6:=(Q1.1 hj).1;have h7:=hr.1;simp at h7;omega
   have e1:(g.new w.heap.size arr (fun _=> false) tg ad).ad (.loc d)=⟨w.heap.size,0,none⟩:=by simp [Gh.new,ad]
   rw [e1,Addr.add_lit,Qq]
   refine ⟨arr[j],(h4 j).trans (QB hlt),?_,?_⟩
   .simp [Gh.new,tg,hlt]
   .exact (hr.2 j _ c (by simp [hlt]) hj).keep k
  .refine Z7o h k h5 ?_ nm cs hm j c hj
   intro c t ht
   have:=h.inv.lt ht
   simp only [Gh.new]
   grind
 .refine ⟨by simp [ZK,Zz],?_⟩
  simp [Gh.new,ad,Addr.add]
theorem Jw(ok:CfgOk P cfg){t:TypeId}{ag:Bool}{zs:List (C U)}(ht:cfg.var t=some (ag,zs))(w:World):
  ∃ z,(zeroValue t).run P w= .ok z w/\Zmn ag z zs:=by
 obtain ⟨hpos,i,z,d,h1,h2,h3,h4,h5,h6,_⟩:=ok.var _ _ _ ht
 exact ⟨z,by simp [zeroValue,typeInfo,h1,h5],h6⟩
theorem ZcT(ok:CfgOk P cfg)(h:Rel cfg B st g a w){o:Oper}{t:TypeId}{d:Nat}{ag:Bool}{zs:List (C U)}(ho:o.op= .alloc t)(ht:cfg.var t=some (ag,zs))(hn:st.mem (.loc d)=none):
  Does P o a w fun v w'=> ∃ g',Out cfg B st g { val:=some (.ptr (.loc d) 0),mem:=[(.loc d,zs)] } v w' g':=by
 obtain ⟨z,hz,hZ⟩:=Jw ok ht w
 refine .inl ⟨_,_,?_,Zaw h t hn (YH hZ)⟩
 simp [execOp,ho,Instr.alloc,hz,newVar,newRow]
theorem ZgY (h:Rel cfg B st g a w) {o:Oper} {t:TypeId} {x:Operand} {d:Nat} {cs:List (C U)} {v:V U} (ho:o.op= .box t x)
  (hv:RelV cfg g st.dead (fun nm=> (st.mem nm).isSome) (a.eval x) v) (hcs:v.cells=some cs) (hn:st.mem (.loc d)=none):
  Does P o a w fun v w'=> ∃ g',Out cfg B st g { val:=some (.ptr (.loc d) 0),mem:=[(.loc d,cs)] } v w' g':=by
 refine .inl ⟨_,_,?_,Zaw h t hn (hv.cells hcs)⟩
 simp [execOp,ho,Instr.box,newVar,newRow]
theorem Z6q (ok:CfgOk P cfg) (h:Rel cfg B st g a w) {o:Oper} {t:TypeId} {p x:Operand} {ag:Bool} {zs cs cs' new:List (C U)} {nm:Name} {off:Nat} {v:V U} (ho:o.op= .store t p x)
  (ht:cfg.var t=some (ag,zs)) (hp:RelV cfg g st.dead (fun nm=> (st.mem nm).isSome) (a.eval p) (.ptr nm off)) (hv:RelV cfg g st.dead (fun nm=> (st.mem nm).isSome) (a.eval x) v)
  (hnew:v.cells=some new) (hcs:st.mem nm=some cs) (hl:new.length=zs.length) (hset:Y9 cs off new=some cs'):
  Does P o a w fun v w'=> ∃ g',Out cfg B st g { mem:=[(nm,cs')] } v w' g':=by
 obtain ⟨_,hp⟩:=hp
 obtain ⟨hs,_,_⟩:=Z09 ok ht w
 have hrel:=hv.cells hnew
 have hle:off+new.length<=cs.length:=by unfold Y9 at hset;grind
 have hlen:(a.eval x).cells.toList.length=new.length:=hrel.1
 have hcell:∀ j,j < cs.length->∃ v c,cs[j]?=some c/\w.cell? ((g.ad nm).add j)=some v/\g.tag ((g.ad nm).add j)=some (.obj nm)/\RelC cfg g st.dead v c:=fun j hj=>
  let ⟨v,h1,h2,h3⟩:=h.mem nm cs hcs j _ (Q0 hj)
  ⟨v,_,Q0 hj,h1,h2,h3⟩
 obtain ⟨w',h1,h2,h3,h4,h5,h6⟩:=Y2 (P:=P) ((g.ad nm).add off) (a.eval x).cells.toList 0 w hrel.one (by
  intro j hj
  rw [Go.Deep.add_add,Qq]
  obtain ⟨u,c,_,hu,htg,_⟩:=hcell (off+j) (by omega)
  exact ⟨⟨u,hu⟩,(h.inv.it _ _ htg).1⟩)
 simp only [Qq,Go.Deep.add_add] at h2 h3 h4
 refine .inr (.inl ⟨w',?_,g,?_⟩)
 .have hsz:(a.eval x).cells.size=zs.length:=by simpa using hlen.trans hl
  simp only [execOp,ho,hp]
  simp [Instr.storeAt,Instr.sureAddr,storeVar,hs,hsz,h1]
 .have htagS:∀ c,(∃ j,j < (a.eval x).cells.toList.length/\c=(g.ad nm).add (off+j))->g.tag c=some (.obj nm):=by
   rintro c ⟨j,hj,rfl⟩
   obtain ⟨_,_,_,_,htg,_⟩:=hcell (off+j) (by omega)
   exact htg
  have hothers:∀ c,g.tag c≠some (.obj nm)->w'.cell? c=w.cell? c:=fun c hc=> h4 c fun j hj e=> hc (htagS c ⟨j,hj,e⟩)
  have hmc:∀ c v,g.m c=some v->w'.cell? c=some v:=fun c v hv=> by
   obtain ⟨h7,h8⟩:=h.inv.im c v hv
   grind
  have hkeep:Keeps g g st.dead (Zb st ({ mem:=[(nm,cs')] }:Eff U)) (fun nm=> (st.mem nm).isSome) (ZK st ({ mem:=[(nm,cs')] }:Eff U)):=by
   rw [Z1M st rfl]
   refine ⟨fun _ _ h=> h,fun _ _ _ _ h=> h,fun t ht=> by simpa using ht,fun n hn=> ⟨?_,rfl⟩,fun _ _ _ h=> h,fun _=> rfl,fun _ _ _ h=> h⟩
   simp only [ZK,Zz]
   split
   .try rfl
   .exact hn
  refine ⟨⟨fun c v hv=> ⟨hmc c v hv,(h.inv.im c v hv).2⟩,fun c t htc=> ?_⟩,?_,hkeep,?_,trivial,h.ls_keep rfl hkeep hmc (fun c t _ ht=> hothers c (by rw [ht];simp)) (fun _ _ h=> h) (fun _ _ _ h=> h),h.fresh_keep rfl (fun _=> rfl)⟩
  .obtain ⟨h7,u,h8⟩:=h.inv.it c t htc
   grind
  .exact h.fr.step h.inv h2 (fun c hc=> ⟨_,htagS c hc,fun t' e=> by cases e⟩) (fun _ _ h=> h) (fun _ _=> Iff.rfl) (fun _ _ _ _ _=> rfl) (fun _=> rfl)
  .rw [Z1M st rfl]
   simp only [Bool.or_false]
   intro nm' cs0 hm j c hj
   simp only [Zz] at hm
   split at hm
   .rename_i e
    subst e
    simp only [Option.some.injEq] at hm
    subst hm
    have hcs'l:cs'.length=cs.length:=by
     unfold Y9 at hset
     rw [if_pos hle] at hset
     simp only [Option.some.injEq] at hset
     subst hset;simp;omega
    have hj':j < cs.length:=by have:=(Q1.1 hj).1;omega
    obtain ⟨v0,c0,hc0,hv0,htg,hr0⟩:=hcell j hj'
    unfold Y9 at hset
    rw [if_pos hle] at hset
    simp only [Option.some.injEq] at hset
    subst hset
    simp only [QM] at hj
    rw [Qm] at hj
    simp only [Qd] at hj
    rw [Xb (by omega)] at hj
    split at hj
    .rename_i hlt
     rw [QL hlt,hc0] at hj
     cases hj
     refine ⟨v0,?_,htg,hr0⟩
     rw [h4 _ (fun i hi e=> by have:=YP e;omega)];exact hv0
    .rename_i hge
     rw [Qm] at hj
     split at hj
     .rename_i hlt2
      have hx:(a.eval x).cells.toList[j - off]?=some ((a.eval x).cells.toList[j - off]'(by omega)):=Q0 _
      have:=h3 (j - off) _ hx
      rw [show off+(j - off)=j by omega] at this
      exact ⟨_,this,htg,hrel.2 _ _ c hx hj⟩
     .rename_i hge2
      rw [Qh,show off+new.length+(j - off - new.length)=j by omega,hc0] at hj
      cases hj
      refine ⟨v0,?_,htg,hr0⟩
      rw [h4 _ (fun i hi e=> by have:=YP e;omega)];exact hv0
   .rename_i e
    obtain ⟨v0,hv0,htg,hr0⟩:=h.mem nm' cs0 hm j c hj
    grind
theorem Zax{k:IntKind}{n v:Int}:∀ (l:List Int) (j0 j:Nat),(Z0s (U:=U) k n v j0 l)[j]?=(l[j]?).map fun x=> .int k (Zh4 n (j0+j) v x)
 | [],j0,j=> by simp [Z0s]
 | x ::l,j0,0=> by simp [Z0s]
 | x ::l,j0,j+1=> by
  simp only [Z0s,List.getElem?_cons_succ]
  rw [Zax l (j0+1) j,show j0+1+j=j0+(j+1) by omega]
theorem Z3U{k:IntKind}{n v:Int}:∀ (l:List Int) (j0:Nat),(Z0s (U:=U) k n v j0 l).length=l.length
 | [],_=> rfl
 | x ::l,j0=> by simp [Z0s,Z3U l]
theorem Zh3{k:IntKind}{cs:List (C U)}{off len:Nat}{n x:Int}{l:List Int}(hle:off+len<=cs.length)(hl:JV k ((cs.drop off).take len)=some l)(hn:0<=n/\n < len):
  Y9 cs (off+n.toNat) [.int k x]=some (cs.take off++Z0s k n x 0 l++cs.drop (off+len)):=by
 obtain ⟨h1,h2⟩:=Z0w hl
 have hlen:l.length=len:=by rw [h1,Qd,Xq];omega
 have hcell:∀ j,j < len->cs[off+j]?=some (.int k (l.getD j 0)):=by
  intro j hj
  have hg:l[j]?=some (l.getD j 0):=by simp [List.getD,Q0 (show j < l.length by omega)]
  have:=h2 j _ hg
  rw [QV,Qh,if_pos hj] at this
  exact this
 unfold Y9
 rw [if_pos (by simp;omega)]
 congr 1
 apply List.ext_getElem?
 intro j
 simp only [QM,Qc,QS]
 by_cases h3:j < off
 .grind
 .have e2:(cs.take off++(Z0s k n x 0 l++cs.drop (off+len)))[j]?=(Z0s k n x 0 l++cs.drop (off+len))[j - off]?:=by
   rw [Qe (by simp;omega)]
   congr 1
   simp;omega
  rw [e2]
  by_cases h4:j < off+len
  .have hg:l[j - off]?=some (l.getD (j - off) 0):=by simp [List.getD,Q0 (show j - off < l.length by omega)]
   have e6:(Z0s k n x 0 l++cs.drop (off+len))[j - off]?=some (.int k (Zh4 n (j - off:Nat) x (l.getD (j - off) 0))):=by
    rw [Qf (l₁:=Z0s k n x 0 l) (by rw [Z3U];omega),Zax,hg,Q5,Qq]
   rw [e6]
   by_cases h5:j=off+n.toNat
   .subst h5
    rw [Qe (by grind),Qf (by simp;omega)]
    have e3:off+n.toNat - (cs.take (off+n.toNat)).length=0:=by simp;omega
    rw [e3]
    simp only [XR,Zh4]
    grind
   .have e4:Zh4 n (j - off:Nat) x (l.getD (j - off) 0)=l.getD (j - off) 0:=by
     unfold Zh4
     omega
    rw [e4]
    have e5:=hcell (j - off) (by omega)
    rw [show off+(j - off)=j by omega] at e5
    rw [<-e5]
    by_cases h6:j < off+n.toNat
    .rw [Qf (by simp;omega),QL h6]
    .rw [Qe (by simp;omega),Qe (by simp;omega),Qh]
     congr 1
     simp;omega
  .have e6:(Z0s k n x 0 l++cs.drop (off+len))[j - off]?=cs[j]?:=by
    rw [Qe (l₁:=Z0s k n x 0 l) (by rw [Z3U];omega),Qh,Z3U]
    congr 1
    omega
   rw [e6,Qe (by simp;omega),Qe (by simp;omega),Qh]
   congr 1
   simp;omega
theorem Z7A (ok:CfgOk P cfg) (h:Rel cfg B st g a w) {o:Oper} {t:TypeId} {p x:Operand} {ag:Bool} {zs cs:List (C U)} {nm:Name} {off len:Nat} {k:IntKind} {n y:Int} {l:List Int} {v:V U} (ho:o.op= .store t p x)
  (ht:cfg.var t=some (ag,zs)) (hp:RelV cfg g st.dead (fun nm=> (st.mem nm).isSome) (a.eval p) (.ap nm off k len n)) (hv:RelV cfg g st.dead (fun nm=> (st.mem nm).isSome) (a.eval x) v)
  (hnew:v.cells=some [.int k y]) (hcs:st.mem nm=some cs) (hz:zs.length=1) (hle:off+len<=cs.length) (hl:JV k ((cs.drop off).take len)=some l):
  Does P o a w fun v w'=> ∃ g',Out cfg B st g { mem:=[(nm,cs.take off++Z0s k n y 0 l++cs.drop (off+len))] } v w' g':=
 Z6q ok h ho ht (nm:=nm) (off:=off+n.toNat) ⟨hp.1,hp.2.2⟩ hv hnew hcs hz.symm (Zh3 hle hl hp.2.1)
theorem Z88 (ok:CfgOk P cfg) (h:Rel cfg B st g a w) {o:Oper} {t et:TypeId} {x:Operand} {len:Nat} {T:U.Ty} {cs:List (C U)} {nm:Name} {l:List (U.El T)} (ho:o.op= .slice t x none none none)
  (ht:cfg.arr t=some (len,et)) (hT:cfg.elT T=et) (hp:RelV cfg g st.dead (fun nm=> (st.mem nm).isSome) (a.eval x) (.ptr nm 0)) (hcs:st.mem nm=some cs) (hlen:cs.length=len) (hsz:cfg.sz T=1)
  (hl:(cs.mapM fun c=> cfg.dec T [c])=some l):
  Does P o a w fun v w'=> ∃ g',Out cfg B st g { val:=some (.c (.slice T l .full)),mem:=[(nm,[])] } v w' g':=by
 classical
 obtain ⟨_,hp⟩:=hp
 have h1:=ok.arr _ _ _ ht
 have hal:P.arrayLen t=len:=by simp [Program.arrayLen,h1]
 have hae:P.elem t=et:=by simp [Program.elem,h1]
 have hsize:=Yd ok T w
 have hll:l.length=cs.length:=mapM_length hl
 let g':Gh:={ m:=fun c=> if g.tag c=some (.obj nm) then w.cell? c else g.m c,tag:=fun c=> if g.tag c=some (.obj nm) then none else g.tag c,ad:=g.ad,bs:=g.bs }
 have hm:∀ c v,g.m c=some v->g'.m c=some v:=fun c v hv=> by
  have:=(h.inv.im c v hv).2
  grind
 have htag:∀ c t,t≠.obj nm->(g.tag c=some t↔g'.tag c=some t):=by
  intro c t hne
  simp only [g']
  split
  .rename_i e
   rw [e]
   constructor
   .intro h;cases h;exact absurd rfl hne
   .intro h;cases h
  .exact Iff.rfl
 have hk:Keeps g g' st.dead (Zb st ({ val:=some (.c (.slice T l .full)),mem:=[(nm,[])] }:Eff U)) (fun nm=> (st.mem nm).isSome) (ZK st ({ val:=some (.c (.slice T l .full)),mem:=[(nm,[])] }:Eff U)):=by
  rw [Z1M st rfl]
  refine ⟨hm,fun c t _ _ ht=> (htag c _ (by simp)).1 ht,fun t ht=> by simpa using ht,fun n hn=> ⟨?_,rfl⟩,fun _ _ _ h=> h,fun _=> rfl,fun t _ _ h=> h⟩
  simp only [ZK,Zz]
  split
  .try rfl
  .exact hn
 refine .inl ⟨.slice (some (g.ad nm)) len len,w,?_,g',⟨?_,?_⟩,?_,hk,?_,?_,h.ls_keep rfl hk (fun c v hv=> (h.inv.im c v hv).1) (fun _ _ _ _=> rfl) (fun _ _ h=> h) (fun c u _ ht=> (htag c _ (by simp)).1 ht),h.fresh_keep rfl (fun _=> rfl)⟩
 .simp only [execOp,ho,hp,QN]
  apply Z41
  rw [Addr.add_zero',run_sliceAt_array_all w t _ (by grind),hae,<-hT,hsize]
  simp [slicedAt,hal,Addr.add_zero']
 .intro c v hv
  simp only [g'] at hv ⊢
  split at hv
  .grind
  .rename_i e
   rw [if_neg e]
   exact h.inv.im c v hv
 .intro c t ht
  simp only [g'] at ht
  split at ht
  .cases ht
  .exact h.inv.it c t ht
 .refine h.fr.step h.inv (Evo.refl w (fun _=> False)) (fun c hc=> hc.elim) hm (fun c t=> htag c _ (by simp)) ?_ (fun _=> rfl)
  grind
 .intro nm' cs' hmem j c hj
  simp only [Zz] at hmem
  split at hmem
  .grind
  .rename_i hne
   obtain ⟨v,h3,h4,h5⟩:=h.mem nm' cs' hmem j c hj
   refine ⟨v,h3,(htag _ _ (by grind)).1 h4,h5.keep hk⟩
 .refine ⟨.of_rows .full (by omega) (Qn _) ?_,fun _ _ _ hv=> by cases hv;rfl⟩
  intro i y hy j c hj
  have hi:i < cs.length:=by have:=(Q1.1 hy).1;omega
  obtain ⟨y',hy',hdec⟩:=Z38 hl i _ (Q0 hi)
  rw [hy] at hy'
  cases hy'
  obtain ⟨h6,h7⟩:=ok.dec_ok T _ _ hdec
  have hj0:j=0:=by have:=(Q1.1 hj).1;simp at h6;omega
  subst hj0
  obtain ⟨v,h8,h9,h10⟩:=h.mem nm cs hcs i _ (Q0 hi)
  refine ⟨v,?_,(h10.1.mono hm).wk (h7 0 _ c rfl hj)⟩
  grind
where
 mapM_length {α β:Type} {f:α->Option β}:∀ {l:List α} {r:List β},l.mapM f=some r->r.length=l.length
  | [],r,h=> by grind
  | x ::l,r,h=> by
   rw [QF] at h
   cases h1:f x with
   | none=> simp [h1] at h
   | some y=>
    cases h2:l.mapM f with
    | none=> grind
    | some r'=>
     simp [h1,h2] at h
     subst h
     simp [mapM_length h2]
end Go.AM
