import Derived.Test.YtnfbomhidainjaaGreatTmE
import Derived.Laws.Append
set_option linter.unusedSimpArgs false
set_option linter.unusedVariables false
namespace Go.AM
variable {U:Uni} {P:Program} {cfg:Cfg U} {B:Base} {st:FSt U} {g:Gh} {a:Act} {w:World}
theorem Z1U{b:Addr}{i j:Nat}(h:b.add i=b.add j):i=j:=by
 unfold Addr.add at h
 grind
theorem JB(b:Addr):∀ (vs:List Value) (i:Nat) (w:World),(∀ v∈vs,v.oneCell'=true)->
  (∀ j,j < vs.length->(∃ u,w.cell? (b.add (i+j))=some u)/\w.frozen? (b.add (i+j))=false)->
  ∃ w',(storeCells b vs i).run P w= .ok () w'/\Evo w w' (fun c=> ∃ j,j < vs.length/\c=b.add (i+j))/\
   (∀ j v,vs[j]?=some v->w'.cell? (b.add (i+j))=some v)/\(∀ c,(∀ j,j < vs.length->c≠b.add (i+j))->w'.cell? c=w.cell? c)/\(∀ c,w'.frozen? c=w.frozen? c)/\w'.heap.size=w.heap.size
 | [],i,w,_,_=> ⟨w,by simp [storeCells],.refl _ _,by simp,fun _ _=> rfl,fun _=> rfl,rfl⟩
 | v ::vs,i,w,ho,hc=> by
  obtain ⟨⟨u,hu⟩,hf⟩:=hc 0 (by simp)
  rw [XH] at hu hf
  have ai:(store (b.add i) v).run P w= .ok () (w.setCell (b.add i) v):=by
   rw [run_store P w _ v .plain (ho v (by simp)),hu]
   simp [hf]
  have d:∀ j,j < vs.length->(∃ u,(w.setCell (b.add i) v).cell? (b.add (i+1+j))=some u)/\(w.setCell (b.add i) v).frozen? (b.add (i+1+j))=false:=by
   intro j hj
   obtain ⟨⟨u',af⟩,ab⟩:=hc (j+1) (by simpa using hj)
   have e:i+(j+1)=i+1+j:=V0
   rw [e] at af ab
   refine ⟨⟨u',?_⟩,by rw [World.frozen?_setCell];exact ab⟩
   rw [World.cell?_setCell_other _ _ _ _ (fun h=> by have:=Z1U h;omega)]
   exact af
  obtain ⟨w',h1,h2,h3,h4,h5,h6⟩:=JB b vs (i+1) (w.setCell (b.add i) v) (fun x hx=> ho x (by simp [hx])) d
  refine ⟨w',by simp [storeCells,ai,h1],?_,?_,?_,?_,?_⟩
  .refine Evo.trans (w':=w.setCell (b.add i) v) (Evo.setCell w _ v _ ⟨0,by simp,rfl⟩) (h2.weaken ?_)
   rintro c ⟨j,hj,rfl⟩
   exact ⟨j+1,by simpa using hj,by congr 1;omega⟩
  .intro j x hx
   cases j with
   | zero=>
    simp at hx
    subst hx
    rw [XH,h4 _ (fun j hj h=> by have:=Z1U h;omega)]
    exact World.cell?_setCell_same w _ v hu
   | succ j=>
    have:=h3 j x (by simpa using hx)
    rw [show i+(j+1)=i+1+j by omega]
    exact this
  .intro c ae
   rw [h4 c (fun j hj=> by have:=ae (j+1) (by simpa using hj);rwa [show i+(j+1)=i+1+j by omega] at this)]
   exact World.cell?_setCell_other _ _ _ _ (fun h=> ae 0 (by simp) (by rw [XH];exact h.symm))
  .intro c
   rw [h5,World.frozen?_setCell]
  .rw [h6,World.size_setCell]
structure SameHeap (w w':World):Prop where
 heap:w'.heap=w.heap
 os:w'.os=w.os
 tape:w'.tape=w.tape
 output:w'.output=w.output
theorem SameHeap.refl(w:World):SameHeap w w:=⟨rfl,rfl,rfl,rfl⟩
theorem SameHeap.drew(w:World):SameHeap w w.drew:=⟨rfl,rfl,rfl,rfl⟩
theorem SameHeap.cell{w w':World}(h:SameHeap w w')(b:Addr):w'.cell? b=w.cell? b:=by simp [World.cell?,h.heap]
theorem SameHeap.frozen{w w':World}(h:SameHeap w w')(b:Addr):w'.frozen? b=w.frozen? b:=by simp [World.frozen?,h.heap]
theorem SameHeap.evo{w w':World}(h:SameHeap w w')(S:Addr->Prop):Evo w w' S:=
 ⟨⟨h.os,h.tape,h.output,by rw [h.heap];omega⟩,fun b _ _=> h.cell b,fun b _=> h.frozen b,fun b v d=> ⟨v,(h.cell b).trans d⟩,fun b _ _=> by rw [h.heap]⟩
def Gh.new(g:Gh)(b:Nat)(arr:Array Value)(im:Nat->Bool)(tg:Nat->Option Tag)(ad:Name->Addr):Gh:=
 {m:=fun c=> if c.block=b/\c.spot=none then (if im c.off then arr[c.off]? else none) else g.m c
  tag:=fun c=> if c.block=b/\c.spot=none then tg c.off else g.tag c
  ad:=ad
  bs:=g.bs }
theorem ZmZ (h:Rel cfg B st g a w) {w1:World} (hw:SameHeap w w1) (arr:Array Value) (e:TypeId) (im:Nat->Bool) (tg:Nat->Option Tag) (ad:Name->Addr)
  (htg:∀ i t,tg i=some t->i < arr.size/\im i=false/\∀ t',t≠.outer t')
  (had:∀ nm,(st.mem nm).isSome=true->ad nm=g.ad nm) (hax:∀ k,ad (.x k)=g.ad (.x k)):
  Inv (g.new w.heap.size arr im tg ad).m (g.new w.heap.size arr im tg ad).tag (w1.alloc (.cells arr e))/\
  Fr B (g.new w.heap.size arr im tg ad) (w1.alloc (.cells arr e))/\
  (∀ (dead:Tok->Bool) (Yc:Name->Bool),(∀ nm,(st.mem nm).isSome=true->Yc nm=true)->Keeps g (g.new w.heap.size arr im tg ad) st.dead (fun t=> st.dead t || dead t) (fun nm=> (st.mem nm).isSome) Yc)/\
  (∀ i,(w1.alloc (.cells arr e)).cell? ⟨w.heap.size,i,none⟩=arr[i]?)/\
  (∀ c v,w.cell? c=some v->(w1.alloc (.cells arr e)).cell? c=some v):=by
 have aj:w1.heap.size=w.heap.size:=by rw [hw.heap]
 have ae:∀ c:Addr,c.block < w.heap.size->(w1.alloc (.cells arr e)).cell? c=w.cell? c:=fun c hc=> by
  rw [World.cell?_alloc_lt w1 _ c V0,hw.cell]
 have ab:∀ i,(w1.alloc (.cells arr e)).cell? ⟨w.heap.size,i,none⟩=arr[i]?:=fun i=> by
  rw [<-aj];simp
 have al:∀ c v,g.m c=some v->c.block < w.heap.size:=fun c v d=> h.inv.lt' d
 have ao:∀ c t,g.tag c=some t->c.block < w.heap.size:=fun c t ht=> h.inv.lt ht
 have ah:∀ c v,g.m c=some v->(g.new w.heap.size arr im tg ad).m c=some v:=fun c v d=> by
  have:=al c v d
  simp only [Gh.new]
  grind
 have aw:∀ c:Addr,c.block < w.heap.size->(g.new w.heap.size arr im tg ad).tag c=g.tag c:=fun c hc=> by
  simp only [Gh.new]
  grind
 have ai:Inv (g.new w.heap.size arr im tg ad).m (g.new w.heap.size arr im tg ad).tag (w1.alloc (.cells arr e)):=by
  refine ⟨?_,?_⟩
  .intro c v d
   simp only [Gh.new] at d ⊢
   split at d
   .rename_i hc
    rw [if_pos hc]
    split at d
    .rename_i am
     obtain ⟨cb,co,cs⟩:=c
     simp only at hc am d
     obtain ⟨rfl,rfl⟩:=hc
     refine ⟨(ab co).trans d,?_⟩
     cases htc:tg co with
     | none=> rfl
     | some t=> grind
    .cases d
   .rename_i hc
    rw [if_neg hc]
    obtain ⟨h1,h2⟩:=h.inv.im c v d
    grind
  .intro c t ht
   simp only [Gh.new] at ht
   split at ht
   .rename_i hc
    obtain ⟨cb,co,cs⟩:=c
    simp only at hc ht
    obtain ⟨rfl,rfl⟩:=hc
    obtain ⟨h1,_,_⟩:=htg co t ht
    refine ⟨by rw [<-aj];simp,arr[co],(ab co).trans (QC h1)⟩
   .obtain ⟨h1,v,h2⟩:=h.inv.it c t ht
    have aq:=ao c t ht
    exact ⟨by rw [World.frozen?_alloc_old w1 _ c V0,hw.frozen];exact h1,v,(ae c aq).trans h2⟩
 refine ⟨ai,?_,?_,ab,fun c v d=> (ae c (World.block_lt_of_cell? w c d)).trans d⟩
 .refine h.fr.step h.inv ((hw.evo (fun _=> False)).trans (Evo.alloc w1 _ _)) (fun c hc=> hc.elim) ah ?_ ?_ hax
  .intro c t
   constructor
   .grind
   .intro ht
    simp only [Gh.new] at ht
    grind
  grind
 .intro dead Yc hl
  refine ⟨ah,fun c t _ ht=> by grind,fun t ht=> ?_,fun nm hn=> ⟨hl nm hn,had nm hn⟩,fun _ _ _ h=> h,hax⟩
  grind
theorem Zir (h:Rel cfg B st g a w) {g':Gh} {w':World} {dead2:Tok->Bool} {live2:Name->Bool} (k:Keeps g g' st.dead dead2 (fun nm=> (st.mem nm).isSome) live2)
  (hc:∀ c v,w.cell? c=some v->w'.cell? c=some v) (ht:∀ c t,g.tag c=some t->g'.tag c=some t):
  ∀ nm cs,st.mem nm=some cs->∀ j c,cs[j]?=some c->∃ v,w'.cell? ((g'.ad nm).add j)=some v/\g'.tag ((g'.ad nm).add j)=some (.obj nm)/\RelC cfg g' dead2 v c:=by
 intro nm cs hm j c hj
 obtain ⟨v,h1,h2,h3⟩:=h.mem nm cs hm j c hj
 have d:=(k.ad nm (by simp [hm])).2
 rw [d]
 exact ⟨v,hc _ _ h1,ht _ _ h2,h3.keep k⟩
theorem Z6t(st:FSt U){e:Eff U}(h:e.kill=[]):Zn st e=fun t=> st.dead t || (fun _=> false) t:=by
 funext t;simp [Zn,h]
theorem Zhs(h:Rel cfg B st g a w){d:Nat}{zs:List (C U)}{arr:Array Value}(e:TypeId)(hn:st.mem (.loc d)=none)(hr:RelL cfg g st.dead arr.toList zs):
  ∃ g',Out cfg B st g { val:=some (.ptr (.loc d) 0),mem:=[(.loc d,zs)] } (.pointer (some ⟨w.heap.size,0,none⟩)) (w.alloc (.cells arr e)) g':=by
 let ad:Name->Addr:=fun nm=> if nm= .loc d then ⟨w.heap.size,0,none⟩ else g.ad nm
 let tg:Nat->Option Tag:=fun i=> if i < arr.size then some (.obj (.loc d)) else none
 have ak:∀ nm,(st.mem nm).isSome=true->ad nm=g.ad nm:=by
  intro nm hs
  simp only [ad]
  rw [if_neg (fun e=> by subst e;simp [hn] at hs)]
 obtain ⟨h1,h2,h3,h4,h5⟩:=ZmZ h (SameHeap.refl w) arr e (fun _=> false) tg ad (by
  grind) ak (fun k=> by simp [ad])
 have aa:Keeps g (g.new w.heap.size arr (fun _=> false) tg ad) st.dead (Zn st ({ val:=some (.ptr (.loc d) 0),mem:=[(.loc d,zs)] }:Eff U)) (fun nm=> (st.mem nm).isSome) (Yc st ({ val:=some (.ptr (.loc d) 0),mem:=[(.loc d,zs)] }:Eff U)):=by
  rw [Z6t st rfl]
  refine h3 _ _ ?_
  intro nm hs
  simp only [Yc,ZL]
  split
  .try rfl
  .exact hs
 refine ⟨g.new w.heap.size arr (fun _=> false) tg ad,h1,h2,?_,?_,?_,h.ls_keep rfl aa (fun c v hv=> h5 _ _ (h.inv.im c v hv).1) (fun c t _ ht=> by obtain ⟨_,v,hv⟩:=h.inv.it c _ ht;grind),h.fresh_keep rfl (fun _=> rfl)⟩
 .omega
 .rw [Z6t st rfl]
  have k:=h3 (fun _=> false) (Yc st ({ val:=some (.ptr (.loc d) 0),mem:=[(.loc d,zs)] }:Eff U)) (by
   intro nm hs
   simp only [Yc,ZL]
   grind)
  intro nm cs hm j c hj
  simp only [ZL] at hm
  split at hm
  .rename_i aj
   subst aj
   simp only [Option.some.injEq] at hm
   subst hm
   have ab:j < arr.size:=by have h6:=(Q4.1 hj).1;have h7:=hr.1;simp at h7;omega
   have e1:(g.new w.heap.size arr (fun _=> false) tg ad).ad (.loc d)=⟨w.heap.size,0,none⟩:=by simp [Gh.new,ad]
   rw [e1,Addr.add_lit,QK]
   refine ⟨arr[j],(h4 j).trans (QC ab),?_,?_⟩
   .simp [Gh.new,tg,ab]
   .exact (hr.2 j _ c (by simp [ab]) hj).keep k
  .refine Zir h k h5 ?_ nm cs hm j c hj
   intro c t ht
   have:=h.inv.lt ht
   simp only [Gh.new]
   grind
 .refine ⟨by simp [Yc,ZL],?_⟩
  simp [Gh.new,ad,Addr.add]
theorem Z2o(ok:CfgOk P cfg){t:TypeId}{ag:Bool}{zs:List (C U)}(ht:cfg.var t=some (ag,zs))(w:World):
  ∃ z,(zeroValue t).run P w= .ok z w/\ZAD ag z zs:=by
 obtain ⟨aa,i,z,d,h1,h2,h3,h4,h5,h6,_⟩:=ok.var _ _ _ ht
 exact ⟨z,by simp [zeroValue,typeInfo,h1,h5],h6⟩
theorem ZlM(ok:CfgOk P cfg)(h:Rel cfg B st g a w){o:Oper}{t:TypeId}{d:Nat}{ag:Bool}{zs:List (C U)}(ho:o.op= .alloc t)(ht:cfg.var t=some (ag,zs))(hn:st.mem (.loc d)=none):
  Does P o a w fun v w'=> ∃ g',Out cfg B st g { val:=some (.ptr (.loc d) 0),mem:=[(.loc d,zs)] } v w' g':=by
 obtain ⟨z,hz,hZ⟩:=Z2o ok ht w
 refine .inl ⟨_,_,?_,Zhs h t hn (Z0G hZ)⟩
 simp [execOp,ho,Instr.alloc,hz,newVar,newRow]
theorem Zsg (h:Rel cfg B st g a w) {o:Oper} {t:TypeId} {x:Operand} {d:Nat} {cs:List (C U)} {v:V U} (ho:o.op= .box t x)
  (hv:RelV cfg g st.dead (fun nm=> (st.mem nm).isSome) (a.eval x) v) (hcs:v.cells=some cs) (hn:st.mem (.loc d)=none):
  Does P o a w fun v w'=> ∃ g',Out cfg B st g { val:=some (.ptr (.loc d) 0),mem:=[(.loc d,cs)] } v w' g':=by
 refine .inl ⟨_,_,?_,Zhs h t hn (hv.cells hcs)⟩
 simp [execOp,ho,Instr.box,newVar,newRow]
theorem ZbH (ok:CfgOk P cfg) (h:Rel cfg B st g a w) {o:Oper} {t:TypeId} {p x:Operand} {ag:Bool} {zs cs cs' new:List (C U)} {nm:Name} {off:Nat} {v:V U} (ho:o.op= .store t p x)
  (ht:cfg.var t=some (ag,zs)) (hp:RelV cfg g st.dead (fun nm=> (st.mem nm).isSome) (a.eval p) (.ptr nm off)) (hv:RelV cfg g st.dead (fun nm=> (st.mem nm).isSome) (a.eval x) v)
  (hnew:v.cells=some new) (hcs:st.mem nm=some cs) (hl:new.length=zs.length) (hset:YD cs off new=some cs'):
  Does P o a w fun v w'=> ∃ g',Out cfg B st g { mem:=[(nm,cs')] } v w' g':=by
 obtain ⟨_,hp⟩:=hp
 obtain ⟨hs,_,_⟩:=Z1S ok ht w
 have ae:=hv.cells hnew
 have aq:off+new.length<=cs.length:=by unfold YD at hset;grind
 have am:(a.eval x).cells.toList.length=new.length:=ae.1
 have ab:∀ j,j < cs.length->∃ v c,cs[j]?=some c/\w.cell? ((g.ad nm).add j)=some v/\g.tag ((g.ad nm).add j)=some (.obj nm)/\RelC cfg g st.dead v c:=fun j d=>
  let ⟨v,h1,h2,h3⟩:=h.mem nm cs hcs j _ (Q0 d)
  ⟨v,_,Q0 d,h1,h2,h3⟩
 obtain ⟨w',h1,h2,h3,h4,h5,h6⟩:=JB (P:=P) ((g.ad nm).add off) (a.eval x).cells.toList 0 w ae.one (by
  intro j d
  rw [Go.Deep.add_add,QK]
  obtain ⟨u,c,_,hu,aa,_⟩:=ab (off+j) V0
  exact ⟨⟨u,hu⟩,(h.inv.it _ _ aa).1⟩)
 simp only [QK,Go.Deep.add_add] at h2 h3 h4
 refine .inr (.inl ⟨w',?_,g,?_⟩)
 .have bc:(a.eval x).cells.size=zs.length:=by simpa using am.trans hl
  simp only [execOp,ho,hp]
  simp [Instr.storeAt,Instr.sureAddr,storeVar,hs,bc,h1]
 .have ah:∀ c,(∃ j,j < (a.eval x).cells.toList.length/\c=(g.ad nm).add (off+j))->g.tag c=some (.obj nm):=by
   rintro c ⟨j,d,rfl⟩
   obtain ⟨_,_,_,_,aa,_⟩:=ab (off+j) V0
   exact aa
  have af:∀ c,g.tag c≠some (.obj nm)->w'.cell? c=w.cell? c:=fun c hc=> h4 c fun j d e=> hc (ah c ⟨j,d,e⟩)
  have ar:∀ c v,g.m c=some v->w'.cell? c=some v:=fun c v hv=> by
   obtain ⟨h7,h8⟩:=h.inv.im c v hv
   grind
  have ai:Keeps g g st.dead (Zn st ({ mem:=[(nm,cs')] }:Eff U)) (fun nm=> (st.mem nm).isSome) (Yc st ({ mem:=[(nm,cs')] }:Eff U)):=by
   rw [Z6t st rfl]
   refine ⟨fun _ _ h=> h,fun _ _ _ h=> h,fun t ht=> by simpa using ht,fun n hn=> ⟨?_,rfl⟩,fun _ _ _ h=> h,fun _=> rfl⟩
   simp only [Yc,ZL]
   split
   .try rfl
   .exact hn
  refine ⟨⟨fun c v hv=> ⟨ar c v hv,(h.inv.im c v hv).2⟩,fun c t ba=> ?_⟩,?_,ai,?_,trivial,h.ls_keep rfl ai ar (fun c t _ ht=> af c (by rw [ht];simp)),h.fresh_keep rfl (fun _=> rfl)⟩
  .obtain ⟨h7,u,h8⟩:=h.inv.it c t ba
   grind
  .exact h.fr.step h.inv h2 (fun c hc=> ⟨_,ah c hc,fun t' e=> by cases e⟩) (fun _ _ h=> h) (fun _ _=> QN) (fun _ _ _ _ _=> rfl) (fun _=> rfl)
  .rw [Z6t st rfl]
   simp only [Bool.or_false]
   intro a2 bd hm j c d
   simp only [ZL] at hm
   split at hm
   .rename_i e
    subst e
    simp only [Option.some.injEq] at hm
    subst hm
    have a1:cs'.length=cs.length:=by
     unfold YD at hset
     rw [if_pos aq] at hset
     simp only [Option.some.injEq] at hset
     subst hset;simp;omega
    have a7:j < cs.length:=by have:=(Q4.1 d).1;omega
    obtain ⟨v0,c0,au,aj,aa,ak⟩:=ab j a7
    unfold YD at hset
    rw [if_pos aq] at hset
    simp only [Option.some.injEq] at hset
    subst hset
    simp only [Qb] at d
    rw [QF] at d
    simp only [Qq] at d
    rw [Xq V0] at d
    split at d
    .rename_i a8
     rw [Xd a8,au] at d
     cases d
     refine ⟨v0,?_,aa,ak⟩
     rw [h4 _ (fun i hi e=> by have:=Z1U e;omega)];exact aj
    .rename_i bm
     rw [QF] at d
     split at d
     .rename_i bg
      have hx:(a.eval x).cells.toList[j - off]?=some ((a.eval x).cells.toList[j - off]'V0):=Q0 _
      have:=h3 (j - off) _ hx
      rw [show off+(j - off)=j by omega] at this
      exact ⟨_,this,aa,ae.2 _ _ c hx d⟩
     .rename_i be
      rw [Qw,show off+new.length+(j - off - new.length)=j by omega,au] at d
      cases d
      refine ⟨v0,?_,aa,ak⟩
      rw [h4 _ (fun i hi e=> by have:=Z1U e;omega)];exact aj
   .rename_i e
    obtain ⟨v0,aj,aa,ak⟩:=h.mem a2 bd hm j c d
    grind
theorem Zhu{k:IntKind}{n v:Int}:∀ (l:List Int) (j0 j:Nat),(Z2n (U:=U) k n v j0 l)[j]?=(l[j]?).map fun x=> .int k (JL n (j0+j) v x)
 | [],j0,j=> by simp [Z2n]
 | x ::l,j0,0=> by simp [Z2n]
 | x ::l,j0,j+1=> by
  simp only [Z2n,XL]
  rw [Zhu l (j0+1) j,show j0+1+j=j0+(j+1) by omega]
theorem Z7c{k:IntKind}{n v:Int}:∀ (l:List Int) (j0:Nat),(Z2n (U:=U) k n v j0 l).length=l.length
 | [],_=> rfl
 | x ::l,j0=> by simp [Z2n,Z7c l]
theorem Zsn{k:IntKind}{cs:List (C U)}{off len:Nat}{n x:Int}{l:List Int}(hle:off+len<=cs.length)(hl:Z1r k ((cs.drop off).take len)=some l)(hn:0<=n/\n < len):
  YD cs (off+n.toNat) [.int k x]=some (cs.take off++Z2n k n x 0 l++cs.drop (off+len)):=by
 obtain ⟨h1,h2⟩:=Z2v hl
 have ae:l.length=len:=by rw [h1,Qq,Qx];omega
 have d:∀ j,j < len->cs[off+j]?=some (.int k (l.getD j 0)):=by
  intro j hj
  have hg:l[j]?=some (l.getD j 0):=by simp [List.getD,Q0 (show j < l.length by omega)]
  have:=h2 j _ hg
  rw [QS,Qw,if_pos hj] at this
  exact this
 unfold YD
 rw [if_pos (by simp;omega)]
 congr 1
 apply List.ext_getElem?
 intro j
 simp only [Qb,Qd,Qr]
 by_cases h3:j < off
 .grind
 .have e2:(cs.take off++(Z2n k n x 0 l++cs.drop (off+len)))[j]?=(Z2n k n x 0 l++cs.drop (off+len))[j - off]?:=by
   rw [Qt (by simp;omega)]
   congr 1
   simp;omega
  rw [e2]
  by_cases h4:j < off+len
  .have hg:l[j - off]?=some (l.getD (j - off) 0):=by simp [List.getD,Q0 (show j - off < l.length by omega)]
   have e6:(Z2n k n x 0 l++cs.drop (off+len))[j - off]?=some (.int k (JL n (j - off:Nat) x (l.getD (j - off) 0))):=by
    rw [QB (l₁:=Z2n k n x 0 l) (by rw [Z7c];omega),Zhu,hg,Qi,QK]
   rw [e6]
   by_cases h5:j=off+n.toNat
   .subst h5
    rw [Qt (by grind),QB (by simp;omega)]
    have e3:off+n.toNat - (cs.take (off+n.toNat)).length=0:=by simp;omega
    rw [e3]
    simp only [Xk,JL]
    grind
   .have e4:JL n (j - off:Nat) x (l.getD (j - off) 0)=l.getD (j - off) 0:=by
     unfold JL
     omega
    rw [e4]
    have e5:=d (j - off) V0
    rw [show off+(j - off)=j by omega] at e5
    rw [<-e5]
    by_cases h6:j < off+n.toNat
    .rw [QB (by simp;omega),Xd h6]
    .rw [Qt (by simp;omega),Qt (by simp;omega),Qw]
     congr 1
     simp;omega
  .have e6:(Z2n k n x 0 l++cs.drop (off+len))[j - off]?=cs[j]?:=by
    rw [Qt (l₁:=Z2n k n x 0 l) (by rw [Z7c];omega),Qw,Z7c]
    congr 1
    omega
   rw [e6,Qt (by simp;omega),Qt (by simp;omega),Qw]
   congr 1
   simp;omega
theorem Zdu (ok:CfgOk P cfg) (h:Rel cfg B st g a w) {o:Oper} {t:TypeId} {p x:Operand} {ag:Bool} {zs cs:List (C U)} {nm:Name} {off len:Nat} {k:IntKind} {n y:Int} {l:List Int} {v:V U} (ho:o.op= .store t p x)
  (ht:cfg.var t=some (ag,zs)) (hp:RelV cfg g st.dead (fun nm=> (st.mem nm).isSome) (a.eval p) (.ap nm off k len n)) (hv:RelV cfg g st.dead (fun nm=> (st.mem nm).isSome) (a.eval x) v)
  (hnew:v.cells=some [.int k y]) (hcs:st.mem nm=some cs) (hz:zs.length=1) (hle:off+len<=cs.length) (hl:Z1r k ((cs.drop off).take len)=some l):
  Does P o a w fun v d=> ∃ g',Out cfg B st g { mem:=[(nm,cs.take off++Z2n k n y 0 l++cs.drop (off+len))] } v d g':=
 ZbH ok h ho ht (nm:=nm) (off:=off+n.toNat) ⟨hp.1,hp.2.2⟩ hv hnew hcs hz.symm (Zsn hle hl hp.2.1)
theorem Ze2 (ok:CfgOk P cfg) (h:Rel cfg B st g a w) {o:Oper} {t et:TypeId} {x:Operand} {len:Nat} {T:U.Ty} {cs:List (C U)} {nm:Name} {l:List (U.El T)} (ho:o.op= .slice t x none none none)
  (ht:cfg.arr t=some (len,et)) (hT:cfg.elT T=et) (hp:RelV cfg g st.dead (fun nm=> (st.mem nm).isSome) (a.eval x) (.ptr nm 0)) (hcs:st.mem nm=some cs) (hlen:cs.length=len) (hsz:cfg.sz T=1)
  (hl:(cs.mapM fun c=> cfg.dec T [c])=some l):
  Does P o a w fun v w'=> ∃ g',Out cfg B st g { val:=some (.c (.slice T l .full)),mem:=[(nm,[])] } v w' g':=by
 classical
 obtain ⟨_,hp⟩:=hp
 have h1:=ok.arr _ _ _ ht
 have ay:P.arrayLen t=len:=by simp [Program.arrayLen,h1]
 have am:P.elem t=et:=by simp [Program.elem,h1]
 have af:=J1 ok T w
 have a6:l.length=cs.length:=mapM_length hl
 let g':Gh:={ m:=fun c=> if g.tag c=some (.obj nm) then w.cell? c else g.m c,tag:=fun c=> if g.tag c=some (.obj nm) then none else g.tag c,ad:=g.ad,bs:=g.bs }
 have hm:∀ c v,g.m c=some v->g'.m c=some v:=fun c v hv=> by
  have:=(h.inv.im c v hv).2
  grind
 have aa:∀ c t,t≠.obj nm->(g.tag c=some t↔g'.tag c=some t):=by
  intro c t ah
  simp only [g']
  split
  .rename_i e
   rw [e]
   constructor
   .intro h;cases h;exact absurd rfl ah
   .intro h;cases h
  .exact QN
 have hk:Keeps g g' st.dead (Zn st ({ val:=some (.c (.slice T l .full)),mem:=[(nm,[])] }:Eff U)) (fun nm=> (st.mem nm).isSome) (Yc st ({ val:=some (.c (.slice T l .full)),mem:=[(nm,[])] }:Eff U)):=by
  rw [Z6t st rfl]
  refine ⟨hm,fun c t _ ht=> (aa c _ (by simp)).1 ht,fun t ht=> by simpa using ht,fun n hn=> ⟨?_,rfl⟩,fun _ _ _ h=> h,fun _=> rfl⟩
  simp only [Yc,ZL]
  split
  .try rfl
  .exact hn
 refine .inl ⟨.slice (some (g.ad nm)) len len,w,?_,g',⟨?_,?_⟩,?_,hk,?_,?_,h.ls_keep rfl hk (fun c v hv=> (h.inv.im c v hv).1) (fun _ _ _ _=> rfl),h.fresh_keep rfl (fun _=> rfl)⟩
 .simp only [execOp,ho,hp,Option.map_none]
  apply Z8X
  rw [Addr.add_zero',run_sliceAt_array_all w t _ (by grind),am,<-hT,af]
  simp [slicedAt,ay,Addr.add_zero']
 .intro c v hv
  simp only [g'] at hv ⊢
  split at hv
  .grind
  .rename_i e
   rw [if_neg e]
   exact h.inv.im c v hv
 .intro c t ht
  simp only [g'] at ht
  split at ht
  .cases ht
  .exact h.inv.it c t ht
 .refine h.fr.step h.inv (Evo.refl w (fun _=> False)) (fun c hc=> hc.elim) hm (fun c t=> aa c _ (by simp)) ?_ (fun _=> rfl)
  grind
 .intro ar ao d j c hj
  simp only [ZL] at d
  split at d
  .grind
  .rename_i ah
   obtain ⟨v,h3,h4,h5⟩:=h.mem ar ao d j c hj
   refine ⟨v,h3,(aa _ _ (by grind)).1 h4,h5.keep hk⟩
 .refine ⟨.of_rows .full V0 (Qg _) ?_,fun _ _ _ hv=> by cases hv;rfl⟩
  intro i y hy j c hj
  have hi:i < cs.length:=by have:=(Q4.1 hy).1;omega
  obtain ⟨y',ak,ai⟩:=Z48 hl i _ (Q0 hi)
  rw [hy] at ak
  cases ak
  obtain ⟨h6,h7⟩:=ok.dec_ok T _ _ ai
  have ax:j=0:=by have:=(Q4.1 hj).1;simp at h6;omega
  subst ax
  obtain ⟨v,h8,h9,av⟩:=h.mem nm cs hcs i _ (Q0 hi)
  refine ⟨v,?_,(av.1.mono hm).wk (h7 0 _ c rfl hj)⟩
  grind
where
 mapM_length {α β:Type} {f:α->Option β}:∀ {l:List α} {r:List β},l.mapM f=some r->r.length=l.length
  | [],r,h=> by grind
  | x ::l,r,h=> by
   rw [QP] at h
   cases h1:f x with
   | none=> simp [h1] at h
   | some y=>
    cases h2:l.mapM f with
    | none=> grind
    | some r'=>
     simp [h1,h2] at h
     subst h
     simp [mapM_length h2]
theorem RelL.sim{vs:List Value}{cs:List (C U)}{dead:Tok->Bool}(h:RelL cfg g dead vs cs){j:Nat}{v:Value}{c:C U}(hv:vs[j]?=some v)(hc:cs[j]?=some c):SimC cfg g.m v c:=(h.2 j v c hv hc).1
theorem Zai (ok:CfgOk P cfg) {T:U.Ty} {cs:List (C U)} {x:U.El T} {vs:List Value} {m:Addr->Option Value} (hd:cfg.dec T cs=some x) (hl:vs.length=cs.length)
  (h:∀ (j:Nat) v c,vs[j]?=some v->cs[j]?=some c->SimC cfg m v c):
  vs.length=cfg.sz T/\∀ (j:Nat) c,(cfg.enc T x)[j]?=some c->∃ v,vs[j]?=some v/\SimC cfg m v c:=by
 obtain ⟨h1,h2⟩:=ok.dec_ok T cs x hd
 have h3:=ok.enc_len T x
 refine ⟨V0,fun j c hc=> ?_⟩
 have hj:j < (cfg.enc T x).length:=(Q4.1 hc).1
 have hv:vs[j]?=some (vs[j]'V0):=Q0 _
 have d:cs[j]?=some (cs[j]'V0):=Q0 _
 exact ⟨_,hv,(h j _ _ hv d).wk (h2 j _ _ d hc)⟩
theorem Z6m (h:Rel cfg B st g a w) {w1:World} (hw:SameHeap w w1) {T:U.Ty} {l:List (U.El T)} {arr:Array Value} (e:TypeId) {cap:Nat} {tl:Tail} {d:Nat} {kl:List Tok}
  (hcap:l.length<=cap) (hsz:arr.size=cap*cfg.sz T) (htl:tl= .own (.r d 0)\/(tl= .full/\l.length=cap)) (henc:∀ x,(cfg.enc T x).length=cfg.sz T)
  (hrows:∀ i x,l[i]?=some x->∀ j c,(cfg.enc T x)[j]?=some c->∃ v,arr[i*cfg.sz T+j]?=some v/\SimC cfg g.m v c):
  ∃ g',Out cfg B st g { val:=some (.c (.slice T l tl)),kill:=kl } (.slice (some ⟨w.heap.size,0,none⟩) l.length cap) (w1.alloc (.cells arr e)) g':=by
 let im:Nat->Bool:=fun i=> decide (i < l.length*cfg.sz T)
 let tg:Nat->Option Tag:=fun i=> if l.length*cfg.sz T<=i/\i < arr.size then some (.tok (.r d 0)) else none
 obtain ⟨h1,h2,h3,h4,h5⟩:=ZmZ h hw arr e im tg g.ad (by
  grind) (fun _ _=> rfl) (fun _=> rfl)
 refine ⟨g.new w.heap.size arr im tg g.ad,h1,h2,?_,?_,?_,h.ls_keep rfl (h3 kl.contains _ (fun nm hs=> hs)) (fun c v hv=> h5 _ _ (h.inv.im c v hv).1) (fun c t _ ht=> by obtain ⟨_,v,hv⟩:=h.inv.it c _ ht;grind),h.fresh_keep rfl (fun _=> rfl)⟩
 .exact h3 kl.contains _ (fun nm hs=> hs)
 .have k:=h3 kl.contains (fun nm=> (st.mem nm).isSome) (fun _ hs=> hs)
  intro nm cs hm j c hj
  refine Zir h k h5 ?_ nm cs hm j c hj
  intro c t ht
  have:=h.inv.lt ht
  simp only [Gh.new]
  grind
 .have k:=h3 kl.contains (fun nm=> (st.mem nm).isSome) (fun _ hs=> hs)
  refine ⟨.of_rows tl rfl hcap ?_,?_⟩
  .intro i x hx j c hc
   obtain ⟨v,h6,h7⟩:=hrows i x hx j c hc
   refine ⟨v,?_,h7.mono k.m⟩
   have hi:i < l.length:=(Q4.1 hx).1
   have hj:j < cfg.sz T:=by have:=(Q4.1 hc).1;rw [henc] at this;exact this
   have ai:i*cfg.sz T+j < l.length*cfg.sz T:=by
    have:(i+1)*cfg.sz T<=l.length*cfg.sz T:=Qf _ hi
    rw [QJ] at this;omega
   rw [Addr.add_lit,QK]
   simp only [Gh.new,and_self,if_true,im,ai,decide_true]
   exact h6
  .rcases htl with rfl | ⟨rfl,hfull⟩
   .intro _ b len ae hv j aq au
    simp only [Value.slice.injEq,Option.some.injEq] at hv
    obtain ⟨rfl,rfl,rfl⟩:=hv
    rw [Addr.add_lit,QK]
    simp only [Gh.new,and_self,if_true,tg]
    grind
   .intro b len ae hv
    grind
theorem Zbn(ok:CfgOk P cfg){T:U.Ty}:∀ (parts:List (Nat × Value)) (ps:List (Nat × V U)) (i:Nat) (l:List (U.El T)) (vs:Array Value),Jn cfg T i ps=some l->parts.length=ps.length->
  (∀ (j:Nat) x y,parts[j]?=some x->ps[j]?=some y->x.1=y.1/\RelV cfg g st.dead (fun nm=> (st.mem nm).isSome) x.2 y.2)->(i+parts.length)*cfg.sz T<=vs.size->
  l.length=ps.length/\∃ d,Instr.fill (fun k=> some (k*cfg.sz T,cfg.sz T)) vs parts=some d/\d.size=vs.size/\(∀ q,q < i*cfg.sz T->d[q]?=vs[q]?)/\
   ∀ r x,l[r]?=some x->∀ j c,(cfg.enc T x)[j]?=some c->∃ v,d[(i+r)*cfg.sz T+j]?=some v/\SimC cfg g.m v c
 | [],[],i,l,vs,he,_,_,_=> by
  simp only [Jn,Option.some.injEq] at he
  subst he
  exact ⟨rfl,vs,rfl,rfl,fun _ _=> rfl,fun r x hx=> by simp at hx⟩
 | (k,v) ::parts,(k',y) ::ps,i,l,vs,he,hl,hr,ai=> by
  obtain ⟨hk,hv⟩:=hr 0 _ _ rfl rfl
  simp only at hk hv
  subst hk
  simp only [Jn] at he
  split at he
  .rename_i am
   subst am
   split at he
   .rename_i cs ao
    split at he
    .rename_i x hx
     cases hrec:Jn cfg T (k+1) ps with
     | none=> grind
     | some l'=>
      simp only [hrec,Qi,Option.some.injEq] at he
      subst he
      have ab:=hv.cells ao
      obtain ⟨aq,al⟩:=Zai ok hx ab.1 (fun j v c h1 h2=> ab.sim h1 h2)
      have hl:parts.length=ps.length:=by simpa using hl
      have ai:(k+(parts.length+1))*cfg.sz T<=vs.size:=ai
      have az:(k+1)*cfg.sz T<=(k+(parts.length+1))*cfg.sz T:=Qf _ V0
      have ax:(k+1)*cfg.sz T=k*cfg.sz T+cfg.sz T:=by rw [QJ];omega
      have a2:v.cells.size=cfg.sz T:=by simpa using aq
      let vs1:Array Value:=v.cells.zipIdx.foldl (fun cs (c,j)=> cs.setIfInBounds (k*cfg.sz T+j) c) vs
      have aa:vs1.toList=vs.toList.take (k*cfg.sz T)++v.cells.toList++vs.toList.drop (k*cfg.sz T+v.cells.toList.length):=by
       show (v.cells.zipIdx.foldl (fun cs (c,j)=> cs.setIfInBounds (k*cfg.sz T+j) c) vs).toList=_
       rw [<-Array.foldl_toList,Array.toList_zipIdx]
       have:=Zfa (k*cfg.sz T) v.cells.toList 0 vs (by simp;omega)
       simpa using this
      have aj:vs1.size=vs.size:=by
       have:=congrArg List.length aa
       simp at this
       omega
      obtain ⟨h1,d,h2,h3,h4,h5⟩:=Zbn ok parts ps (k+1) l' vs1 hrec hl
       (fun j x y hx hy=> hr (j+1) x y (by simpa using hx) (by simpa using hy)) (by grind)
      have ae:∀ q:Nat,vs1[q]?=vs1.toList[q]?:=fun q=> (Xy ..).symm
      refine ⟨by simp [h1],d,?_,by rw [h3,aj],?_,?_⟩
      .simp only [Instr.fill]
       grind
      .intro q hq
       rw [h4 q V0,ae,aa,Qb,QB (by simp;omega),Xd hq]
       simp
      .intro r x' af j c hc
       cases r with
       | zero=>
        simp only [Xk,Option.some.injEq] at af
        subst af
        obtain ⟨u,h6,h7⟩:=al j c hc
        refine ⟨u,?_,h7⟩
        have hj:j < cfg.sz T:=by have:=(Q4.1 hc).1;rw [ok.enc_len] at this;exact this
        rw [XH,h4 _ V0,ae,aa,Qb,Qt (by simp;omega)]
        have e:k*cfg.sz T+j - (vs.toList.take (k*cfg.sz T)).length=j:=by simp;omega
        grind
       | succ r=>
        grind
    .cases he
   .cases he
  .cases he
theorem Zbt (ok:CfgOk P cfg) (h:Rel cfg B st g a w) {o:Oper} {t:TypeId} {n:Nat} {parts:Array (Nat × Operand)} {T:U.Ty} {ps:List (Nat × V U)} {l:List (U.El T)} (ho:o.op= .buildSlice t n parts)
  (hT:cfg.slT t=some T) (hl:parts.size=ps.length) (hn:ps.length=n) (hsmall:n*cfg.sz T<=16777216)
  (hr:∀ (j:Nat) x y,parts[j]?=some x->ps[j]?=some y->x.1=y.1/\RelV cfg g st.dead (fun nm=> (st.mem nm).isSome) (a.eval x.2) y.2) (he:Jn cfg T 0 ps=some l):
  Does P o a w fun v w'=> ∃ g',Out cfg B st g { val:=some (.c (.slice T l .full)) } v w' g':=by
 obtain ⟨hE,hU⟩:=Ji ok hT
 obtain ⟨i,ag,zs,z,h1,h2,h3,h4,h5,h6⟩:=ok.el T
 obtain ⟨z',hz,hZ⟩:=Z2o ok h5 w
 have al:z'=z:=by
  simp [zeroValue,typeInfo,h1,h4] at hz;exact hz.symm
 subst al
 have aw:z'.cells.size=cfg.sz T:=by have:=(Z0G (g:=g) (st:=st) (cfg:=cfg) hZ).1;simp at this;omega
 let vs0:Array Value:=if n*cfg.sz T=0 then (Array.range (n*cfg.sz T)).map ((#[]:Array Value)[· % 0]!) else (Array.range (n*cfg.sz T)).map (z'.cells[· % z'.cells.size]!)
 have ah:vs0.size=n*cfg.sz T:=by simp only [vs0];split <;> simp
 obtain ⟨av,vs',h7,h8,_,h9⟩:=Zbn (g:=g) (st:=st) ok (parts.toList.map fun x=> (x.1,a.eval x.2)) ps 0 l vs0 he (by simpa using hl) (by
  grind) (by grind)
 have aa:l.length=n:=V0
 obtain ⟨g',ab⟩:=Z6m (T:=T) (l:=l) (arr:=vs') (d:=0) (kl:=[]) h (SameHeap.refl w) (P.elem t) (cap:=n) (tl:= .full) V0 (by rw [h8,ah]) (.inr ⟨rfl,aa⟩) (ok.enc_len T)
  (fun i x hx j c hc=> by grind)
 rw [aa] at ab
 refine .inl ⟨_,_,?_,g',ab⟩
 have ai:=J1 ok T w
 rw [<-hE] at ai hz
 simp only [execOp,ho]
 apply Z8X
 simp only [Instr.buildSlice,Sem.run_bind,run_underlying hU,Result.andThen_ok,ai]
 rw [Yo]
 by_cases h0:n*cfg.sz T=0
 .simp only [h0,if_true]
  simp only [vs0,h0,if_true] at h7
  have ae:Instr.fill (fun i=> some (i*cfg.sz T,cfg.sz T)) ((Array.range 0).map ((#[]:Array Value)[· % (#[]:Array Value).size]!)) (parts.map fun x=> (x.1,a.eval x.2)).toList=some vs':=by
   rw [Xl];exact h7
  simp only [Sem.run_bind,Sem.run_pure,Result.andThen_ok,ae]
  try rfl
 .simp only [h0,if_false]
  simp only [vs0,h0,if_false] at h7
  have ae:Instr.fill (fun i=> some (i*cfg.sz T,cfg.sz T)) ((Array.range (n*cfg.sz T)).map (z'.cells[· % z'.cells.size]!)) (parts.map fun x=> (x.1,a.eval x.2)).toList=some vs':=by
   rw [Xl];exact h7
  simp only [Sem.run_bind,Sem.run_pure,Result.andThen_ok,hz,ae]
  try rfl
theorem Z3V(ok:CfgOk P cfg){m:Addr->Option Value}{T:U.Ty}{l:List (U.El T)}{tl:Tail}{b:Addr}{len cap:Nat}(hs:SimC cfg m (.slice (some b) len cap) (.slice T l tl)):
  ∃ vs:List Value,vs.length=len*cfg.sz T/\(∀ (j:Nat) v,vs[j]?=some v->m (b.add j)=some v/\v.oneCell'=true)/\
   ∀ (i:Nat) x,l[i]?=some x->∀ (j:Nat) c,(cfg.enc T x)[j]?=some c->∃ v,vs[i*cfg.sz T+j]?=some v/\SimC cfg m v c:=by
 have hl:l.length=len:=by cases hs;assumption
 have hr:=hs.rows
 have d:=ok.sz_pos T
 let f:Nat->Value:=fun j=> (m (b.add j)).getD undef
 have hf:∀ j,j < len*cfg.sz T->m (b.add j)=some (f j)/\(f j).oneCell'=true:=by
  intro j hj
  have hi:j / cfg.sz T < l.length:=by rw [hl];exact Xs (by grind)
  have ab:j % cfg.sz T < (cfg.enc T (l[j / cfg.sz T])).length:=by rw [ok.enc_len];exact XJ _ d
  obtain ⟨v,h1,h2⟩:=hr _ _ (Q0 hi) _ _ (Q0 ab)
  have e:j / cfg.sz T*cfg.sz T+j % cfg.sz T=j:=by rw [Xn];exact XD _ _
  rw [e] at h1
  simp only [f,h1]
  exact ⟨rfl,h2.one.1⟩
 refine ⟨(List.range (len*cfg.sz T)).map f,by simp,?_,?_⟩
 .grind
 .intro i x hx j c hc
  obtain ⟨v,h1,h2⟩:=hr i x hx j c hc
  have hi:i < l.length:=(Q4.1 hx).1
  have hj:j < cfg.sz T:=by have:=(Q4.1 hc).1;rw [ok.enc_len] at this;exact this
  have ak:i*cfg.sz T+j < len*cfg.sz T:=by
   have:(i+1)*cfg.sz T<=len*cfg.sz T:=Qf _ V0
   rw [QJ] at this;omega
  grind
theorem Z3l {T:U.Ty} {l l':List (U.El T)} {vs vs':List Value} {m:Addr->Option Value} (hl:vs.length=l.length*cfg.sz T) (henc:∀ x,(cfg.enc T x).length=cfg.sz T)
  (h:∀ (i:Nat) x,l[i]?=some x->∀ (j:Nat) c,(cfg.enc T x)[j]?=some c->∃ v,vs[i*cfg.sz T+j]?=some v/\SimC cfg m v c)
  (h':∀ (i:Nat) x,l'[i]?=some x->∀ (j:Nat) c,(cfg.enc T x)[j]?=some c->∃ v,vs'[i*cfg.sz T+j]?=some v/\SimC cfg m v c):
  ∀ (i:Nat) x,(l++l')[i]?=some x->∀ (j:Nat) c,(cfg.enc T x)[j]?=some c->∃ v,(vs++vs')[i*cfg.sz T+j]?=some v/\SimC cfg m v c:=by
 intro i x d j c hc
 have hj:j < cfg.sz T:=by have:=(Q4.1 hc).1;rw [henc] at this;exact this
 rw [QF] at d
 split at d
 .grind
 .rename_i ae
  obtain ⟨v,h1,h2⟩:=h' _ x d j c hc
  refine ⟨v,?_,h2⟩
  have e1:l.length*cfg.sz T<=i*cfg.sz T:=Qf _ V0
  rw [Qt V0,hl,<-h1]
  congr 1
  rw [Kk];omega
theorem ZcH (ok:CfgOk P cfg) (h:Rel cfg B st g a w) {o:Oper} {t:TypeId} {p q:Operand} {T:U.Ty} {n m:Int} {ag:Bool} {zs:List (C U)} {z:U.El T} (ho:o.op= .makeSlice t p q)
  (hT:cfg.slT t=some T) (hp:a.eval p= .int .i64 n) (hq:a.eval q= .int .i64 m) (hz:cfg.var (cfg.elT T)=some (ag,zs)) (hd:cfg.dec T zs=some z)
  (hn:0<=n/\n*cfg.bytes T<=140737488355328/\n<=9223372036854775807) (hm:m=n):
  Does P o a w fun v w'=> ∃ g',Out cfg B st g { val:=some (.c (.slice T (List.replicate n.toNat z) .full)) } v w' g':=by
 have au:=hm.symm
 subst au
 obtain ⟨k,rfl⟩:=QD hn.1
 simp only [XX] at*
 rw [QU]
 obtain ⟨hE,hU⟩:=Ji ok hT
 obtain ⟨i,bg,be,z',h1,h2,h3,h4,h5,h6⟩:=ok.el T
 rw [hz] at h5
 simp only [oP] at h5
 obtain ⟨rfl,rfl⟩:=h5
 obtain ⟨aa,af,hZ⟩:=Z2o ok hz w
 have av:aa=z':=by
  simp [zeroValue,typeInfo,h1,h4] at af;exact af.symm
 subst av
 have ae:=Z0G (g:=g) (st:=st) (cfg:=cfg) hZ
 have aw:aa.cells.size=cfg.sz T:=by have:=ae.1;simp at this;omega
 have az:=ok.sz_pos T
 obtain ⟨bi,ax⟩:=Zai ok hd ae.1 (fun j v c h1 h2=> ae.sim h1 h2)
 let arr:Array Value:=(Array.range (k*cfg.sz T)).map (aa.cells[· % aa.cells.size]!)
 obtain ⟨g',ah⟩:=Z6m (T:=T) (l:=List.replicate k z) (arr:=arr) (d:=0) (kl:=[]) h (SameHeap.refl w) (P.elem t) (cap:=k) (tl:= .full) (by simp) (by simp [arr]) (.inr ⟨rfl,by simp⟩) (ok.enc_len T)
  (by
   intro i x hx j c hc
   obtain ⟨hi,hx⟩:=Q4.1 hx
   simp at hx hi
   subst hx
   obtain ⟨v,h7,h8⟩:=ax j c hc
   have hj:j < cfg.sz T:=by have:=(Q4.1 hc).1;rw [ok.enc_len] at this;exact this
   have bk:i*cfg.sz T+j < k*cfg.sz T:=by
    have:(i+1)*cfg.sz T<=k*cfg.sz T:=Qf _ V0
    rw [QJ] at this;omega
   refine ⟨v,?_,h8⟩
   have h9:aa.cells[j]?=some v:=by rw [<-h7];simp
   have bh:j < aa.cells.size:=V0
   have e:(i*cfg.sz T+j) % aa.cells.size=j:=by rw [aw,Xn,XU,XO hj]
   grind)
 rw [Xr] at ah
 refine .inl ⟨_,_,?_,g',ah⟩
 have ai:=J1 ok T w
 rw [<-hE] at ai af
 have ab:(typeInfo (P.elem t)).run P w= .ok i w:=by rw [hE];simp [typeInfo,h1]
 have hw:IntKind.i64.wrap (k:Int)=k:=by simp [IntKind.wrap,IntKind.signed,IntKind.bits];omega
 have aj:¬(281474976710656 < (i.bytes:Int)*(k:Int)):=by
  rw [h3,Int.mul_comm];have:=hn.2.1;omega
 have ak:¬(k:Int) < 0:=V0
 simp only [execOp,ho]
 apply Z8X
 simp only [hp,hq]
 by_cases h0:k*cfg.sz T=0
 .have al:arr=#[]:=by simp only [arr,h0];simp
  simp [Instr.makeSlice,run_underlying hU,asInt,asIntOf,ab,hw,aj,ak,ai,h0,newRow,al]
  grind
 .have ar:(decide ((k:Int) < 0) || decide ((i.bytes:Int)*(k:Int) > 2 ^ 48) || decide ((k:Int) < 0) || decide ((k:Int) > (k:Int)))=false:=by
   simp [aj,ak]
  simp only [Instr.makeSlice,Sem.run_bind,run_underlying hU,Result.andThen_ok,asInt,asIntOf,Sem.run_pure,ab,hw,ar]
  simp only [X4,if_false,Sem.run_bind,run_askRoom,Result.andThen_ok,ai,QU,h0,af,Sem.run_pure]
  try rfl
open Classical in
noncomputable def Gh.grown(g:Gh)(w':World)(b:Addr)(lo mid hi:Nat)(t:Tok):Gh:=
 {m:=fun c=> if ∃ j,lo<=j/\j < mid/\c=b.add j then w'.cell? c else g.m c
  tag:=fun c=> if ∃ j,lo<=j/\j < mid/\c=b.add j then none else if ∃ j,mid<=j/\j < hi/\c=b.add j then some (.tok t) else g.tag c
  ad:=g.ad
  bs:=g.bs }
theorem ZcM (ok:CfgOk P cfg) (h:Rel cfg B st g a w) {T:U.Ty} {l l':List (U.El T)} {tl:Tail} {b:Addr} {len cap n:Nat} {vs:List Value} {d:Nat} {kl:List Tok}
  (hx:RelC cfg g st.dead (.slice (some b) len cap) (.slice T l tl)) (hl:l.length=len) (hc:len<=cap) (hfit:len+n<=cap) (hln:l'.length=n)
  (hvl:vs.length=n*cfg.sz T) (hvo:∀ v∈vs,v.oneCell'=true)
  (hvr:∀ (i:Nat) x,l'[i]?=some x->∀ (j:Nat) c,(cfg.enc T x)[j]?=some c->∃ v,vs[i*cfg.sz T+j]?=some v/\SimC cfg g.m v c)
  (htl:(tl= .full/\kl=[])\/∃ u,tl= .own u/\st.dead u=false/\kl=[u]):
  ∃ w' g',(storeCells (b.add (len*cfg.sz T)) vs).run P w= .ok () w'/\Out cfg B st g { val:=some (.c (.slice T (l++l') (.own (.r d 0)))),kill:=kl } (.slice (some b) (len+n) cap) w' g':=by
 have bq:(len+n)*cfg.sz T=len*cfg.sz T+n*cfg.sz T:=QJ ..
 have bi:(len+n)*cfg.sz T<=cap*cfg.sz T:=Qf _ hfit
 have ak:∀ j,len*cfg.sz T<=j->j < cap*cfg.sz T->∃ u,kl=[u]/\g.tag (b.add j)=some (.tok u):=by
  intro j h1 h2
  rcases htl with ⟨rfl,_⟩ | ⟨u,rfl,hu,rfl⟩
  .have:=hx.2 _ _ _ rfl
   subst this
   omega
  .exact ⟨u,rfl,hx.2 hu b len cap rfl j h1 h2⟩
 obtain ⟨w',h1,h2,h3,h4,h5,h6⟩:=JB (P:=P) (b.add (len*cfg.sz T)) vs 0 w hvo (by
  intro j hj
  rw [Go.Deep.add_add,QK]
  obtain ⟨u,_,ht⟩:=ak (len*cfg.sz T+j) V0 V0
  obtain ⟨h7,v,h8⟩:=h.inv.it _ _ ht
  exact ⟨⟨v,h8⟩,h7⟩)
 simp only [QK,Go.Deep.add_add] at h2 h3 h4
 let g':=g.grown w' b (len*cfg.sz T) ((len+n)*cfg.sz T) (cap*cfg.sz T) (.r d 0)
 have hS:∀ c,(∃ j,len*cfg.sz T<=j/\j < cap*cfg.sz T/\c=b.add j)->∃ u,kl=[u]/\g.tag c=some (.tok u):=by
  rintro c ⟨j,am,ao,rfl⟩
  exact ak j am ao
 have bn:∀ c,(∃ j,len*cfg.sz T<=j/\j < (len+n)*cfg.sz T/\c=b.add j)->∃ v,w'.cell? c=some v:=by
  rintro c ⟨j,am,ao,rfl⟩
  have:=h3 (j - len*cfg.sz T) _ (Q0 V0)
  rw [show len*cfg.sz T+(j - len*cfg.sz T)=j by omega] at this
  exact ⟨_,this⟩
 have aw:∀ c v,g.m c=some v->w'.cell? c=some v/\¬(∃ j,len*cfg.sz T<=j/\j < cap*cfg.sz T/\c=b.add j):=by
  intro c v hv
  obtain ⟨h7,h8⟩:=h.inv.im c v hv
  have ah:¬(∃ j,len*cfg.sz T<=j/\j < cap*cfg.sz T/\c=b.add j):=fun hc=> by
   obtain ⟨u,_,h9⟩:=hS c hc
   rw [h8] at h9;cases h9
  refine ⟨?_,ah⟩
  rw [h4 c fun j hj e=> ah ⟨_,V0,V0,e⟩]
  exact h7
 have al:∀ c v,g.m c=some v->g'.m c=some v:=by
  intro c v hv
  have:=(aw c v hv).2
  simp only [g',Gh.grown]
  rw [if_neg (fun ⟨j,a1,a2,a3⟩=> this ⟨j,a1,V0,a3⟩)]
  exact hv
 have ae:∀ c,¬(∃ j,len*cfg.sz T<=j/\j < cap*cfg.sz T/\c=b.add j)->g'.tag c=g.tag c:=by
  intro c ah
  simp only [g',Gh.grown]
  rw [if_neg (fun ⟨j,a1,a2,a3⟩=> ah ⟨j,a1,V0,a3⟩),if_neg (fun ⟨j,a1,a2,a3⟩=> ah ⟨j,V0,a2,a3⟩)]
 have a7:Inv g'.m g'.tag w':=by
  refine ⟨fun c v hv=> ?_,fun c t ht=> ?_⟩
  .simp only [g',Gh.grown] at hv ⊢
   split at hv
   .rename_i hc
    rw [if_pos hc]
    exact ⟨hv,rfl⟩
   .rename_i hc
    rw [if_neg hc]
    obtain ⟨h7,h8⟩:=aw c v hv
    refine ⟨h7,?_⟩
    rw [if_neg (fun ⟨j,a1,a2,a3⟩=> h8 ⟨j,V0,a2,a3⟩)]
    exact (h.inv.im c v hv).2
  .have ar:∀ t',g.tag c=some t'->w'.frozen? c=false/\∃ v,w'.cell? c=some v:=by
    intro t' bk
    obtain ⟨h7,u,h8⟩:=h.inv.it c t' bk
    exact ⟨(h5 c).trans h7,h2.some c u h8⟩
   simp only [g',Gh.grown] at ht
   split at ht
   .cases ht
   .split at ht
    .rename_i hc
     obtain ⟨j,a1,a2,a3⟩:=hc
     obtain ⟨u,_,h7⟩:=hS c ⟨j,V0,a2,a3⟩
     exact ar _ h7
    .exact ar t ht
 have aj:Keeps g g' st.dead (fun t=> st.dead t || kl.contains t) (fun nm=> (st.mem nm).isSome) (fun nm=> (st.mem nm).isSome):=by
  refine ⟨al,fun c t hd ht=> ?_,fun t ht=> ?_,fun nm hn=> ⟨hn,rfl⟩,fun _ _ _ h=> h,fun _=> rfl⟩
  .rw [ae c ?_]
   .exact ht
   .intro hc
    obtain ⟨u,hu,h7⟩:=hS c hc
    rw [ht] at h7
    cases h7
    rw [hu] at hd
    simp at hd
  .simp only [QI] at ht
   exact ht.1
 refine ⟨w',g',h1,a7,?_,aj,?_,?_,h.ls_keep rfl aj (fun c v hv=> (aw c v hv).1) (fun c t hd ht=> ?_),h.fresh_keep rfl (fun _=> rfl)⟩
 .refine h.fr.step h.inv h2 ?_ al ?_ ?_ (fun _=> rfl)
  .rintro c ⟨j,hj,rfl⟩
   obtain ⟨u,_,ht⟩:=ak (len*cfg.sz T+j) V0 V0
   exact ⟨_,ht,fun t' e=> by cases e⟩
  .intro c t
   by_cases hc:∃ j,len*cfg.sz T<=j/\j < cap*cfg.sz T/\c=b.add j
   .obtain ⟨u,_,h7⟩:=hS c hc
    constructor
    .intro h8;rw [h7] at h8;cases h8
    .intro h8
     simp only [g',Gh.grown] at h8
     split at h8
     .cases h8
     .split at h8
      .cases h8
      .exact h8
   .rw [ae c hc]
  .intro bb _ bd o s
   refine ae _ fun hc=> ?_
   obtain ⟨u,_,h7⟩:=hS _ hc
   obtain ⟨t',h8⟩:=bd _ _ _ h7
   cases h8
 .intro nm cs hm j c hj
  obtain ⟨v,h7,h8,h9⟩:=h.mem nm cs hm j c hj
  have ah:¬(∃ i,len*cfg.sz T<=i/\i < cap*cfg.sz T/\(g.ad nm).add j=b.add i):=fun hc=> by
   obtain ⟨u,_,av⟩:=hS _ hc
   rw [h8] at av;cases av
  refine ⟨v,?_,(ae _ ah).trans h8,h9.keep aj⟩
  show w'.cell? ((g.ad nm).add j)=some v
  rw [h4 _ fun i hi e=> ah ⟨_,V0,V0,e⟩]
  exact h7
 .refine ⟨.of_rows _ (by simp [hl,hln]) hfit ?_,?_⟩
  .obtain ⟨us,bc,bl,bh⟩:=Z3V ok hx.1
   have:=Z3l (m:=g.m) (vs:=us) (vs':=vs) (by rw [bc,hl]) (ok.enc_len T) bh hvr
   intro i x hi j c hj
   obtain ⟨v,h7,h8⟩:=this i x hi j c hj
   refine ⟨v,?_,h8.mono al⟩
   by_cases hlt:i*cfg.sz T+j < len*cfg.sz T
   .rw [QB V0] at h7
    exact al _ _ (bl _ _ h7).1
   .rw [Qt V0,bc] at h7
    have h9:=h3 _ _ h7
    rw [show len*cfg.sz T+(i*cfg.sz T+j - len*cfg.sz T)=i*cfg.sz T+j by omega] at h9
    have av:=(Q4.1 h7).1
    simp only [g',Gh.grown]
    rw [if_pos ⟨i*cfg.sz T+j,V0,V0,rfl⟩]
    exact h9
  .intro _ b' bp bo hv j am ao
   simp only [Value.slice.injEq,Option.some.injEq] at hv
   obtain ⟨rfl,rfl,rfl⟩:=hv
   simp only [g',Gh.grown]
   rw [if_neg (fun ⟨i,a1,a2,a3⟩=> by have:=Z1U a3;omega),if_pos ⟨j,am,ao,rfl⟩]
 .refine h4 c fun j hj e=> ?_
  obtain ⟨u,hu,h7⟩:=ak (len*cfg.sz T+j) V0 V0
  rw [e,h7] at ht
  cases ht
  rw [hu] at hd
  simp [Zn] at hd
theorem Z6a(w:World)(need old:Nat)(e:TypeId):need<=grownCap w need old e:=by
 exact Nat.le_add_right _ _
theorem Zji (ok:CfgOk P cfg) (h:Rel cfg B st g a w) {o:Oper} {d:Nat} {t:TypeId} {x y:C U} {px py:Operand} {ps:List Prop} {e:Eff U}
  (ho:o.op= .call { callee:= .builtin .append,args:=#[px,py],argTypes:=#[t,t] })
  (hx:RelC cfg g st.dead (a.eval px) x) (hy:RelC cfg g st.dead (a.eval py) y) (he:Z7e cfg st d t x y=some (ps,e)) (hps:All ps):
  Does P o a w fun v w'=> ∃ g',Out cfg B st g e v w' g':=by
 unfold Z7e at he
 split at he
 .cases he
 rename_i T hT
 split at he
 case h_2=> cases he
 rename_i l tl l' cl bx bv
 obtain ⟨hE,hU⟩:=Ji ok hT
 obtain ⟨ay,b,len,cap,bk,hl,hc,hb⟩:=Z4B hx bx
 obtain ⟨a8,b',n,ah,bf,af,cr,br⟩:=Z4B hy bv
 rw [bk] at ay
 rw [bf] at a8
 have b8:P.underlying t=some (.slice (cfg.elT T)):=by rw [hE] at hU;exact hU
 obtain ⟨i,ag,zs,z,hi,bj,ck,hz,bc,c1⟩:=ok.el T
 have ai:(l.length+l'.length)*cfg.bytes T<=140737488355328:=by
  split at he
  .cases he
  .simp only [oP] at he;rw [<-he.1] at hps;exact hps.1
  .split at he
   .cases he
   .simp only [oP] at he;rw [<-he.1] at hps;exact hps.1
 have a7:∃ kl,e={ val:=some (.c (.slice T (l++l') (.own (.r d 0)))),kill:=kl }/\((tl= .full/\kl=[])\/∃ u,tl= .own u/\st.dead u=false/\kl=[u]):=by
  split at he
  .cases he
  .simp only [oP] at he;exact ⟨[],he.2.symm,.inl ⟨rfl,rfl⟩⟩
  .split at he
   .cases he
   .rename_i u _ hu
    simp only [oP] at he
    exact ⟨[u],he.2.symm,.inr ⟨u,rfl,by simpa using hu,rfl⟩⟩
 obtain ⟨kl,rfl,a7⟩:=a7
 rw [hl,af] at ai
 have b7:=ok.bytes_pos T
 have cb:len+n<=140737488355328:=QZ (XK _ b7) ai
 have bb:∃ vs:List Value,vs.length=n*cfg.sz T/\(∀ v∈vs,v.oneCell'=true)/\(∀ w:World,(∀ c v,g.m c=some v->w.cell? c=some v)->(Builtin.firstCells i.size n (.slice b' n ah)).run P w= .ok vs.toArray w)/\
   (∀ (k:Nat) x,l'[k]?=some x->∀ (j:Nat) c,(cfg.enc T x)[j]?=some c->∃ v,vs[k*cfg.sz T+j]?=some v/\SimC cfg g.m v c)/\
   (∀ a',b'=some a'->∀ (j:Nat) v,vs[j]?=some v->g.m (a'.add j)=some v):=by
  cases b' with
  | none=>
   obtain ⟨rfl,rfl⟩:=br rfl
   have aj:l'=[]:=Q1 af
   subst aj
   exact ⟨[],by simp,by simp,fun w _=> run_firstCells_none w _ _ _ _,fun k x hx=> by simp at hx,fun a' ha=> by cases ha⟩
  | some a'=>
   obtain ⟨vs,h1,h2,h3⟩:=Z3V ok a8.1
   refine ⟨vs,h1,fun v hv=> ?_,fun w hw=> ?_,h3,fun cj ha j v hv=> ?_⟩
   .obtain ⟨j,hj,rfl⟩:=Xa hv
    exact (h2 j _ (Q0 hj)).2
   .exact run_firstCells_some w i.size n a' n ah vs (by grind) (fun j v hv=> hw _ _ (h2 j v hv).1)
   grind
 obtain ⟨vs,ba,b3,aa,be,cu⟩:=bb
 have ar:∀ c v,g.m c=some v->w.cell? c=some v:=fun c v hv=> (h.inv.im c v hv).1
 have ab:(execOp a.eval o).run P w=((Builtin.append_ #[t,t] o.type #[.slice b len cap,.slice b' n ah]).run P w).andThen fun v w=> .ok (.value v) w:=by
  simp only [execOp,ho,resolve,Sem.run_bind,Sem.run_pure,Result.andThen_ok,invoke,builtin]
  simp [bk,bf]
 have aq:∀ w,(underlying t).run P w= .ok (.slice (cfg.elT T)) w:=fun w=> run_underlying b8 w
 by_cases hfit:len+n<=cap
 .cases b with
  | none=>
   obtain ⟨rfl,rfl⟩:=hb rfl
   have bq:n=0:=V0
   subst bq
   have aj:l=[]:=Q1 hl
   have b5:l'=[]:=Q1 af
   subst aj b5
   have b6:vs=[]:=Q1 V0
   subst b6
   have a1:Keeps g g st.dead (Zn st ({ val:=some (.c (.slice T ([]++[]) (.own (.r d 0)))),kill:=kl }:Eff U)) (fun nm=> (st.mem nm).isSome) (Yc st ({ val:=some (.c (.slice T ([]++[]) (.own (.r d 0)))),kill:=kl }:Eff U)):=
    ⟨fun _ _ h=> h,fun _ _ _ h=> h,fun t ht=> by simp only [Zn,QI] at ht;exact ht.1,fun nm hn=> ⟨hn,rfl⟩,fun _ _ _ h=> h,fun _=> rfl⟩
   refine .inl ⟨.slice none 0 0,w,?_,g,h.inv,h.fr,a1,?_,⟨.snil T _,fun _ a len cap hv=> by simp at hv⟩,h.ls_keep rfl a1 (fun c v hv=> (h.inv.im c v hv).1) (fun _ _ _ _=> rfl),h.fresh_keep rfl (fun _=> rfl)⟩
   .rw [ab]
    simp [Builtin.append_,aq,sizeOf,typeInfo,hi,Builtin.lenOf,aa w ar]
   .intro nm cs hm j c hj
    obtain ⟨v,h7,h8,h9⟩:=h.mem nm cs hm j c hj
    exact ⟨v,h7,h8,h9.keep a1⟩
  | some b=>
   obtain ⟨w',g',h1,h2⟩:=ZcM (P:=P) (d:=d) ok h ay hl hc hfit af ba b3 be a7
   refine .inl ⟨_,w',?_,g',h2⟩
   rw [ab]
   rw [<-bj] at h1
   simp [Builtin.append_,aq,sizeOf,typeInfo,hi,Builtin.lenOf,aa w ar,hfit,h1]
 .have a2:cap < len+n:=V0
  have bt:0 < n:=V0
  have ce:¬((len+n:Nat):Int) > 9223372036854775807:=V0
  have bp:Builtin.nextslicecap (len+n) cap*i.bytes<=281474976710656:=growslice_fits a2 (by grind)
  have aw:=Z6a w (len+n) cap (cfg.elT T)
  have bd:∃ us:List Value,us.length=len*cfg.sz T/\(∀ w:World,(∀ c v,g.m c=some v->w.cell? c=some v)->(Builtin.firstCells i.size len (.slice b len cap)).run P w= .ok us.toArray w)/\
    ∀ (k:Nat) x,l[k]?=some x->∀ (j:Nat) c,(cfg.enc T x)[j]?=some c->∃ v,us[k*cfg.sz T+j]?=some v/\SimC cfg g.m v c:=by
   cases b with
   | none=>
    obtain ⟨rfl,rfl⟩:=hb rfl
    have aj:l=[]:=Q1 hl
    subst aj
    exact ⟨[],by simp,fun w _=> run_firstCells_none w _ _ _ _,fun k x hx=> by simp at hx⟩
   | some b=>
    obtain ⟨us,h1,h2,h3⟩:=Z3V ok ay.1
    exact ⟨us,h1,fun w hw=> run_firstCells_some w i.size len b len cap us (by grind) (fun j v hv=> hw _ _ (h2 j v hv).1),h3⟩
  obtain ⟨us,al,au,b1⟩:=bd
  have bu:z.cells.size=cfg.sz T:=by
   obtain ⟨z',bh,hZ⟩:=Z2o ok bc w
   have:z'=z:=by simp [zeroValue,typeInfo,hi,hz] at bh;exact bh.symm
   subst this
   have:=(Z0G (g:=g) (st:=st) (cfg:=cfg) hZ).1;simp at this;omega
  let nc:=grownCap w (len+n) cap (cfg.elT T)
  let arr:Array Value:=us.toArray++vs.toArray++Builtin.zeroCells z.cells (nc - (len+n))
  have c2:len+n<=nc:=aw
  have bg:arr.size=nc*cfg.sz T:=by
   have e1:(len+n)*cfg.sz T+(nc - (len+n))*cfg.sz T=nc*cfg.sz T:=by rw [<-QJ];congr 1;omega
   rw [QJ] at e1
   simp [arr,Builtin.zeroCells,al,ba,bu]
   omega
  have ax:=Z3l (m:=g.m) (vs:=us) (vs':=vs) (by rw [al,hl]) (ok.enc_len T) b1 be
  obtain ⟨g',am⟩:=Z6m (T:=T) (l:=l++l') (arr:=arr) (d:=d) (kl:=kl) h (SameHeap.drew w) (cfg.elT T) (cap:=nc) (tl:= .own (.r d 0)) (by grind) bg (.inl rfl) (ok.enc_len T)
   (fun k x hx j c hc=> by
    obtain ⟨v,h1,h2⟩:=ax k x hx j c hc
    grind)
  rw [show (l++l').length=len+n by simp [hl,af]] at am
  refine .inl ⟨_,_,?_,g',am⟩
  have bl:∀ c v,g.m c=some v->w.drew.cell? c=some v:=fun c v hv=> (ar c v hv)
  rw [ab]
  have b0:¬(Builtin.nextslicecap (len+n) cap*i.bytes > 2 ^ 48):=V0
  have cz:¬i.bytes=0:=V0
  have b2:¬((9223372036854775807:Int) < (len:Int)+(n:Int)):=V0
  simp [Builtin.append_,aq,sizeOf,typeInfo,zeroValue,hi,hz,Builtin.lenOf,hfit,b2,b0,Question.forced,au w.drew bl,aa w.drew bl,newRow]
  refine ⟨rfl,?_⟩
  simp only [arr,nc,grownCap,K5]
end Go.AM
namespace Go.AM
variable {U:Uni} {P:Program} {cfg:Cfg U} {B:Base} {st:FSt U} {g:Gh} {a:Act} {w:World}
def Gh.setBs(g:Gh)(t:Tok)(v:Value × Nat):Gh:={ g with bs:=fun u=> if u=t then some v else g.bs u }
theorem Fr.setBs{t:Tok}{v:Value × Nat}(h:Fr B g w):Fr B (g.setBs t v) w:=⟨h.stay,h.xad,h.mono,h.outer,h.outer',h.clean,h.frz⟩
theorem Keeps.setBs{g':Gh}{dead dead2:Tok->Bool}{live live2:Name->Bool}{t:Tok}{v:Value × Nat}(k:Keeps g g' dead dead2 live live2)(hf:g.bs t=none):Keeps g (g'.setBs t v) dead dead2 live live2:=
 ⟨k.m,k.tok,k.dead,k.ad,fun u x hd d=> by
  simp only [Gh.setBs]
  split
  .grind
  .exact k.bs u x hd d,k.adx⟩
def ZC(d:Nat)(T:U.Ty)(l:List (U.El T))(f:Nat)(kl:List Tok):Eff U:={ val:=some (.c (.mref (.r d 0))),kill:=kl,ls:=[(.r d 0,⟨T,l,f⟩)] }
theorem Zba{d:Nat}{T:U.Ty}{l:List (U.El T)}{f:Nat}{kl:List Tok}{t:Tok}{x:LC U}(h:Z06 st.ls (ZC d T l f kl) t=some x):
  (t= .r d 0/\x=⟨T,l,f⟩)\/(t≠.r d 0/\st.ls t=some x/\kl.contains t=false):=by
 unfold Z06 at h
 cases hk:kl.contains t with
 | true=> simp only [ZC,hk,cond_true,reduceCtorEq] at h
 | false=>
  simp only [ZC,hk,cond_false,Zt] at h
  grind
theorem Z2W{d:Nat}{T:U.Ty}{l:List (U.El T)}{f:Nat}{kl:List Tok}{t:Tok}(h:Z06 st.ls (ZC d T l f kl) t=none)(hd:Zn st (ZC d T l f kl) t=false):
  t≠.r d 0/\st.ls t=none/\st.dead t=false:=by
 simp only [Zn,QI] at hd
 unfold Z06 at h
 rw [hd.2] at h
 simp only [ZC,cond_false,Zt] at h
 grind
theorem Z58 (h:Rel cfg B st g a w) {w1:World} (hw:SameHeap w w1) {T:U.Ty} {l:List (U.El T)} {arr:Array Value} (e:TypeId) {cap d f:Nat} {kl:List Tok}
  (hcap:l.length<=cap) (hf:f<=l.length) (hsz:arr.size=cap*cfg.sz T) (henc:∀ x,(cfg.enc T x).length=cfg.sz T)
  (hls:st.ls (.r d 0)=none) (hdd:st.dead (.r d 0)=false) (hkl:kl.contains (.r d 0)=false)
  (hrows:∀ i x,l[i]?=some x->∀ j c,(cfg.enc T x)[j]?=some c->∃ v,arr[i*cfg.sz T+j]?=some v/\SimC cfg g.m v c):
  ∃ g',Out cfg B st g (ZC d T l f kl) (.slice (some ⟨w.heap.size,0,none⟩) l.length cap) (w1.alloc (.cells arr e)) g':=by
 let im:Nat->Bool:=fun i=> decide (i < f*cfg.sz T)
 let tg:Nat->Option Tag:=fun i=> if f*cfg.sz T<=i/\i < arr.size then some (.tok (.r d 0)) else none
 obtain ⟨h1,h2,h3,h4,h5⟩:=ZmZ h hw arr e im tg g.ad (by
  grind) (fun _ _=> rfl) (fun _=> rfl)
 have ab:=h.fresh (.r d 0) rfl hls hdd
 have aj:Keeps g (g.new w.heap.size arr im tg g.ad) st.dead (Zn st (ZC d T l f kl)) (fun nm=> (st.mem nm).isSome) (Yc st (ZC d T l f kl)):=h3 kl.contains _ (fun nm hs=> hs)
 have hk:=aj.setBs (t:= .r d 0) (v:=(.slice (some ⟨w.heap.size,0,none⟩) l.length cap,cfg.sz T)) ab
 have ai:Zn st (ZC d T l f kl) (.r d 0)=false:=by simp only [Zn,ZC,hdd,hkl,Xp]
 refine ⟨(g.new w.heap.size arr im tg g.ad).setBs (.r d 0) (.slice (some ⟨w.heap.size,0,none⟩) l.length cap,cfg.sz T),h1,h2.setBs,hk,?_,⟨.mref _ _ ⟨rfl,rfl⟩,fun _=> ⟨cfg.sz T,by simp [Gh.setBs]⟩⟩,?_,?_⟩
 .intro nm cs hm j c hj
  refine Zir h hk h5 ?_ nm cs hm j c hj
  intro c t ht
  have:=h.inv.lt ht
  simp only [Gh.setBs,Gh.new]
  grind
 .intro t x hx
  rcases Zba hx with ⟨rfl,rfl⟩ | ⟨hne,hx,hkt⟩
  .refine ⟨ai,.inr ⟨⟨w.heap.size,0,none⟩,l.length,cap,by simp [Gh.setBs],rfl,hcap,hf,?_,?_⟩⟩
   .intro i y hy j c hc
    obtain ⟨v,h6,h7⟩:=hrows i y hy j c hc
    have hi:i < l.length:=(Q4.1 hy).1
    have hj:j < cfg.sz T:=by have:=(Q4.1 hc).1;rw [henc] at this;exact this
    have be:i*cfg.sz T+j < arr.size:=(QE.1 h6).1
    simp only [Addr.add_lit,QK]
    refine ⟨v,(h4 _).trans h6,h7.mono hk.m,fun aa=> ?_,fun aa=> ?_⟩
    .have:(i+1)*cfg.sz T<=f*cfg.sz T:=Qf _ aa
     rw [QJ] at this
     simp only [Gh.setBs,Gh.new,and_self,if_true,im]
     grind
    .have:f*cfg.sz T<=i*cfg.sz T:=Qf _ aa
     simp only [Gh.setBs,Gh.new,and_self,if_true,tg]
     grind
   .intro j a1 a2
    dsimp only at a1 a2
    have:f*cfg.sz T<=l.length*cfg.sz T:=Qf _ hf
    simp only [Addr.add_lit,QK]
    simp only [Gh.setBs,Gh.new,and_self,if_true,tg]
    grind
  .obtain ⟨h6,h7⟩:=h.ls t x hx
   have hd:Zn st (ZC d T l f kl) t=false:=by simp only [Zn,ZC,h6,hkt,Xp]
   exact ⟨hd,h7.keep hk hd (fun c v hv=> h5 _ _ (h.inv.im c v hv).1) (fun c ht=> by obtain ⟨_,v,hv⟩:=h.inv.it c _ ht;grind)⟩
 .intro t h0 h6 h7
  obtain ⟨h8,h9,ak⟩:=Z2W h6 h7
  simp only [Gh.setBs]
  rw [if_neg h8]
  exact h.fresh t h0 h9 ak
structure Src (cfg:Cfg U) (g:Gh) (w:World) (T:U.Ty) (l:List (U.El T)) (f:Nat) (kl:List Tok) (b:Addr) (len cap:Nat):Prop where
 hl:l.length=len
 hc:len<=cap
 hf:f<=len
 rows:∀ i y,l[i]?=some y->∀ j c,(cfg.enc T y)[j]?=some c->∃ u,w.cell? (b.add (i*cfg.sz T+j))=some u/\SimC cfg g.m u c/\
  (i < f->g.m (b.add (i*cfg.sz T+j))=some u)/\(f<=i->∃ t,kl=[t]/\g.tag (b.add (i*cfg.sz T+j))=some (.tok t))
 tail:∀ j,len*cfg.sz T<=j->j < cap*cfg.sz T->∃ t,kl=[t]/\g.tag (b.add j)=some (.tok t)
theorem Src.own(ok:CfgOk P cfg){T:U.Ty}{l:List (U.El T)}{f:Nat}{kl:List Tok}{b:Addr}{len cap:Nat}(s:Src cfg g w T l f kl b len cap):
  ∀ j,f*cfg.sz T<=j->j < cap*cfg.sz T->∃ t,kl=[t]/\g.tag (b.add j)=some (.tok t):=by
 intro j h1 h2
 have d:=ok.sz_pos T
 rcases Xw j (len*cfg.sz T) with h3 | h3
 .have hi:j / cfg.sz T < l.length:=by rw [s.hl];exact Xs (by grind)
  have aa:j % cfg.sz T < (cfg.enc T (l[j / cfg.sz T])).length:=by rw [ok.enc_len];exact XJ _ d
  obtain ⟨u,_,_,_,h4⟩:=s.rows _ _ (Q0 hi) _ _ (Q0 aa)
  have e:j / cfg.sz T*cfg.sz T+j % cfg.sz T=j:=by rw [Xn];exact XD _ _
  rw [e] at h4
  exact h4 ((XP d).2 h1)
 .exact s.tail j h3 h2
theorem Src.list(ok:CfgOk P cfg){T:U.Ty}{l:List (U.El T)}{f:Nat}{kl:List Tok}{b:Addr}{len cap:Nat}(s:Src cfg g w T l f kl b len cap):
  ∃ vs:List Value,vs.length=len*cfg.sz T/\(∀ (j:Nat) v,vs[j]?=some v->w.cell? (b.add j)=some v)/\
   ∀ (i:Nat) x,l[i]?=some x->∀ (j:Nat) c,(cfg.enc T x)[j]?=some c->∃ v,vs[i*cfg.sz T+j]?=some v/\SimC cfg g.m v c:=by
 have d:=ok.sz_pos T
 let fn:Nat->Value:=fun j=> (w.cell? (b.add j)).getD undef
 have hf:∀ j,j < len*cfg.sz T->w.cell? (b.add j)=some (fn j):=by
  intro j hj
  have hi:j / cfg.sz T < l.length:=by rw [s.hl];exact Xs (by grind)
  have ab:j % cfg.sz T < (cfg.enc T (l[j / cfg.sz T])).length:=by rw [ok.enc_len];exact XJ _ d
  obtain ⟨v,h1,_⟩:=s.rows _ _ (Q0 hi) _ _ (Q0 ab)
  have e:j / cfg.sz T*cfg.sz T+j % cfg.sz T=j:=by rw [Xn];exact XD _ _
  rw [e] at h1
  simp only [fn,h1,Xc]
 refine ⟨(List.range (len*cfg.sz T)).map fn,by simp,?_,?_⟩
 .grind
 .intro i x hx j c hc
  obtain ⟨v,h1,h2,_⟩:=s.rows i x hx j c hc
  have hi:i < l.length:=(Q4.1 hx).1
  have hj:j < cfg.sz T:=by have:=(Q4.1 hc).1;rw [ok.enc_len] at this;exact this
  have ai:i*cfg.sz T+j < len*cfg.sz T:=by
   have:(i+1)*cfg.sz T<=len*cfg.sz T:=Qf _ (by have:=s.hl;omega)
   rw [QJ] at this;omega
  grind
open Classical in
noncomputable def Gh.renamed(g:Gh)(b:Addr)(lo hi:Nat)(t:Tok)(v:Value × Nat):Gh:=
 {m:=g.m
  tag:=fun c=> if ∃ j,lo<=j/\j < hi/\c=b.add j then some (.tok t) else g.tag c
  ad:=g.ad
  bs:=fun u=> if u=t then some v else g.bs u }
theorem Z3N (ok:CfgOk P cfg) (h:Rel cfg B st g a w) {T:U.Ty} {l l':List (U.El T)} {b:Addr} {f len cap n:Nat} {vs:List Value} {d:Nat} {kl:List Tok}
  (s:Src cfg g w T l f kl b len cap) (hfit:len+n<=cap) (hln:l'.length=n)
  (hvl:vs.length=n*cfg.sz T) (hvo:∀ v∈vs,v.oneCell'=true)
  (hvr:∀ (i:Nat) x,l'[i]?=some x->∀ (j:Nat) c,(cfg.enc T x)[j]?=some c->∃ v,vs[i*cfg.sz T+j]?=some v/\SimC cfg g.m v c)
  (hls:st.ls (.r d 0)=none) (hdd:st.dead (.r d 0)=false) (hkl:kl.contains (.r d 0)=false):
  ∃ w' g',(storeCells (b.add (len*cfg.sz T)) vs).run P w= .ok () w'/\Out cfg B st g (ZC d T (l++l') f kl) (.slice (some b) (len+n) cap) w' g':=by
 have bq:(len+n)*cfg.sz T=len*cfg.sz T+n*cfg.sz T:=QJ ..
 have bg:(len+n)*cfg.sz T<=cap*cfg.sz T:=Qf _ hfit
 have b0:f*cfg.sz T<=len*cfg.sz T:=Qf _ s.hf
 have ak:=s.own ok
 have hl:=s.hl
 obtain ⟨w',h1,h2,h3,h4,h5,h6⟩:=JB (P:=P) (b.add (len*cfg.sz T)) vs 0 w hvo (by
  intro j hj
  rw [Go.Deep.add_add,QK]
  obtain ⟨u,_,ht⟩:=s.tail (len*cfg.sz T+j) V0 V0
  obtain ⟨h7,v,h8⟩:=h.inv.it _ _ ht
  exact ⟨⟨v,h8⟩,h7⟩)
 simp only [QK,Go.Deep.add_add] at h2 h3 h4
 let g':=g.renamed b (f*cfg.sz T) (cap*cfg.sz T) (.r d 0) (.slice (some b) (len+n) cap,cfg.sz T)
 have ay:=h.fresh (.r d 0) rfl hls hdd
 have bf:Zn st (ZC d T (l++l') f kl) (.r d 0)=false:=by simp only [Zn,ZC,hdd,hkl,Xp]
 have aj:∀ c,(∃ t,g.tag c=some t/\∀ u,kl=[u]->t≠.tok u)\/g.tag c=none->¬∃ j,f*cfg.sz T<=j/\j < cap*cfg.sz T/\c=b.add j:=by
  rintro c hc ⟨j,a1,a2,rfl⟩
  obtain ⟨u,hu,ht⟩:=ak j a1 a2
  rcases hc with ⟨t,h7,h8⟩ | h7
  .rw [ht] at h7;cases h7;exact h8 u hu rfl
  .rw [ht] at h7;cases h7
 have ab:∀ c,(¬∃ j,f*cfg.sz T<=j/\j < cap*cfg.sz T/\c=b.add j)->g'.tag c=g.tag c:=by
  intro c hc
  simp only [g',Gh.renamed]
  rw [if_neg hc]
 have ah:∀ c,(¬∃ j,f*cfg.sz T<=j/\j < cap*cfg.sz T/\c=b.add j)->w'.cell? c=w.cell? c:=by
  intro c hc
  exact h4 c fun j hj e=> hc ⟨_,V0,V0,e⟩
 have a8:∀ c v,g.m c=some v->w'.cell? c=some v:=by
  intro c v hv
  obtain ⟨h7,h8⟩:=h.inv.im c v hv
  rw [ah c (aj c (.inr h8))]
  exact h7
 have ba:∀ t,Zn st (ZC d T (l++l') f kl) t=false->∀ u,kl=[u]->t≠u:=by
  intro t ht u hu e
  subst e
  simp [Zn,ZC,hu] at ht
 have ae:Keeps g g' st.dead (Zn st (ZC d T (l++l') f kl)) (fun nm=> (st.mem nm).isSome) (Yc st (ZC d T (l++l') f kl)):=by
  refine ⟨fun _ _ h=> h,fun c t hd ht=> ?_,fun t ht=> ?_,fun nm hn=> ⟨hn,rfl⟩,fun t v hd hv=> ?_,fun _=> rfl⟩
  .rw [ab c (aj c (.inl ⟨_,ht,fun u hu e=> by cases e;exact ba _ hd _ hu rfl⟩))]
   exact ht
  .simp only [Zn,QI] at ht
   exact ht.1
  .simp only [g',Gh.renamed]
   split
   .rename_i e;subst e;rw [ay] at hv;cases hv
   .exact hv
 refine ⟨w',g',h1,⟨fun c v hv=> ?_,fun c t ht=> ?_⟩,?_,ae,?_,⟨.mref _ _ ⟨rfl,rfl⟩,fun _=> ⟨cfg.sz T,by simp [g',Gh.renamed]⟩⟩,?_,?_⟩
 .exact ⟨a8 c v hv,by rw [ab c (aj c (.inr (h.inv.im c v hv).2))];exact (h.inv.im c v hv).2⟩
 .have ar:∀ t',g.tag c=some t'->w'.frozen? c=false/\∃ v,w'.cell? c=some v:=by
   intro t' bk
   obtain ⟨h7,u,h8⟩:=h.inv.it c t' bk
   exact ⟨(h5 c).trans h7,h2.some c u h8⟩
  by_cases hc:∃ j,f*cfg.sz T<=j/\j < cap*cfg.sz T/\c=b.add j
  .obtain ⟨j,a1,a2,rfl⟩:=hc
   obtain ⟨u,_,h7⟩:=ak j a1 a2
   exact ar _ h7
  .rw [ab c hc] at ht
   exact ar t ht
 .refine h.fr.step h.inv h2 ?_ (fun _ _ h=> h) ?_ ?_ (fun _=> rfl)
  .rintro c ⟨j,hj,rfl⟩
   obtain ⟨u,_,ht⟩:=s.tail (len*cfg.sz T+j) V0 V0
   exact ⟨_,ht,fun t' e=> by cases e⟩
  .intro c t
   by_cases hc:∃ j,f*cfg.sz T<=j/\j < cap*cfg.sz T/\c=b.add j
   .have h8:g'.tag c=some (.tok (.r d 0)):=by simp only [g',Gh.renamed];rw [if_pos hc]
    obtain ⟨j,a1,a2,rfl⟩:=hc
    obtain ⟨u,_,h7⟩:=ak j a1 a2
    rw [h7,h8]
    constructor <;> intro e <;> cases e
   .rw [ab c hc]
  .intro bb _ bd o sp
   refine ab _ fun hc=> ?_
   obtain ⟨j,a1,a2,e⟩:=hc
   obtain ⟨u,_,h7⟩:=ak j a1 a2
   rw [<-e] at h7
   obtain ⟨t',h8⟩:=bd _ _ _ h7
   cases h8
 .intro nm cs hm j c hj
  obtain ⟨v,h7,h8,h9⟩:=h.mem nm cs hm j c hj
  have be:=aj _ (.inl ⟨_,h8,fun u _ e=> by cases e⟩)
  exact ⟨v,(ah _ be).trans h7,(ab _ be).trans h8,h9.keep ae⟩
 .intro t x hx
  rcases Zba hx with ⟨rfl,rfl⟩ | ⟨hne,hx,hkt⟩
  .refine ⟨bf,.inr ⟨b,len+n,cap,by simp [g',Gh.renamed],by simp [hl,hln],hfit,by have:=s.hf;simp only;omega,?_,?_⟩⟩
   .intro i y hy j c hc
    simp only at hy hc ⊢
    have hj:j < cfg.sz T:=by have:=(Q4.1 hc).1;rw [ok.enc_len] at this;exact this
    have hi:i < len+n:=by have:=(Q4.1 hy).1;simp [hl,hln] at this;exact this
    have b3:i*cfg.sz T+j < (len+n)*cfg.sz T:=by
     have:(i+1)*cfg.sz T<=(len+n)*cfg.sz T:=Qf _ hi
     rw [QJ] at this;omega
    have au:f<=i->g'.tag (b.add (i*cfg.sz T+j))=some (.tok (.r d 0)):=by
     intro bi
     have:f*cfg.sz T<=i*cfg.sz T:=Qf _ bi
     simp only [g',Gh.renamed]
     rw [if_pos ⟨_,V0,V0,rfl⟩]
    rw [QF] at hy
    split at hy
    .rename_i br
     obtain ⟨u,h7,h8,h9,a7⟩:=s.rows i y hy j c hc
     refine ⟨u,?_,h8.mono ae.m,h9,au⟩
     have bp:i*cfg.sz T+j < len*cfg.sz T:=by
      have:(i+1)*cfg.sz T<=len*cfg.sz T:=Qf _ V0
      rw [QJ] at this;omega
     rw [h4 _ fun j' bx e=> by have:=Z1U e;omega]
     exact h7
    .rename_i bh
     rw [hl] at hy bh
     obtain ⟨u,h7,h8⟩:=hvr _ y hy j c hc
     have e1:len*cfg.sz T<=i*cfg.sz T:=Qf _ V0
     have h9:=h3 _ _ h7
     rw [show len*cfg.sz T+((i - len)*cfg.sz T+j)=i*cfg.sz T+j by rw [Kk];omega] at h9
     exact ⟨u,h9,h8.mono ae.m,fun bz=> by have:=s.hf;omega,au⟩
   .intro j a1 a2
    dsimp only at a1 a2
    simp only [g',Gh.renamed]
    rw [if_pos ⟨j,V0,a2,rfl⟩]
  .obtain ⟨h7,h8⟩:=h.ls t x hx
   have hd:Zn st (ZC d T (l++l') f kl) t=false:=by simp only [Zn,ZC,h7,hkt,Xp]
   exact ⟨hd,h8.keep ae hd a8 (fun c ht=> ah c (aj c (.inl ⟨_,ht,fun u hu e=> by cases e;exact ba _ hd _ hu rfl⟩)))⟩
 .intro t h0 h7 h8
  obtain ⟨h9,a7,bn⟩:=Z2W h7 h8
  simp only [g',Gh.renamed]
  rw [if_neg h9]
  exact h.fresh t h0 a7 bn
theorem Zab(h:Rel cfg B st g a w){T:U.Ty}{d:Nat}{kl:List Tok}(hls:st.ls (.r d 0)=none)(hdd:st.dead (.r d 0)=false)(hkl:kl.contains (.r d 0)=false):
  Out cfg B st g (ZC d T [] 0 kl) (.slice none 0 0) w (g.setBs (.r d 0) (.slice none 0 0,cfg.sz T)):=by
 have aa:=h.fresh (.r d 0) rfl hls hdd
 have af:Zn st (ZC d T [] 0 kl) (.r d 0)=false:=by simp only [Zn,ZC,hdd,hkl,Xp]
 have ah:Keeps g g st.dead (Zn st (ZC d T [] 0 kl)) (fun nm=> (st.mem nm).isSome) (Yc st (ZC d T [] 0 kl)):=
  ⟨fun _ _ h=> h,fun _ _ _ h=> h,fun t ht=> by simp only [Zn,QI] at ht;exact ht.1,fun nm hn=> ⟨hn,rfl⟩,fun _ _ _ h=> h,fun _=> rfl⟩
 have hk:=ah.setBs (t:= .r d 0) (v:=(.slice none 0 0,cfg.sz T)) aa
 refine ⟨h.inv,h.fr.setBs,hk,?_,⟨.mref _ _ ⟨rfl,rfl⟩,fun _=> ⟨cfg.sz T,by simp [Gh.setBs]⟩⟩,?_,?_⟩
 .intro nm cs hm j c hj
  obtain ⟨v,h7,h8,h9⟩:=h.mem nm cs hm j c hj
  exact ⟨v,h7,h8,h9.keep hk⟩
 .intro t x hx
  rcases Zba hx with ⟨rfl,rfl⟩ | ⟨hne,hx,hkt⟩
  .exact ⟨af,.inl ⟨by simp [Gh.setBs],rfl,rfl⟩⟩
  .obtain ⟨h7,h8⟩:=h.ls t x hx
   have hd:Zn st (ZC d T [] 0 kl) t=false:=by simp only [Zn,ZC,h7,hkt,Xp]
   exact ⟨hd,h8.keep hk hd (fun c v hv=> (h.inv.im c v hv).1) (fun _ _=> rfl)⟩
 .intro t h0 h7 h8
  obtain ⟨h9,ai,am⟩:=Z2W h7 h8
  simp only [Gh.setBs]
  rw [if_neg h9]
  exact h.fresh t h0 ai am
theorem Zbv(h:Rel cfg B st g a w){T:U.Ty}{x:C U}{l:List (U.El T)}{f:Nat}{u:Option Tok}{v:Value}(hx:RelC cfg g st.dead v x)(he:Z5A cfg st T x=some (l,f,u)):
  ∃ b len d,v= .slice b len d/\l.length=len/\len<=d/\(b=none->len=0/\d=0/\f=0)/\(∀ b',b=some b'->Src cfg g w T l f u.toList b' len d):=by
 have af:(∀ t,x≠.mref t)->(match ZfS cfg T x with
   | some (l,.full)=> some (l,l.length,none)
   | some (l,.own t)=> if st.dead t then none else some (l,l.length,some t)
   | _=> none)=some (l,f,u)->∃ b len d,v= .slice b len d/\l.length=len/\len<=d/\(b=none->len=0/\d=0/\f=0)/\(∀ b',b=some b'->Src cfg g w T l f u.toList b' len d):=by
  intro _ he
  cases hs:ZfS cfg T x with
  | none=> grind
  | some p=>
   obtain ⟨l0,tl⟩:=p
   rw [hs] at he
   obtain ⟨ae,b,len,d,rfl,hl,hc,hb⟩:=Z4B hx hs
   have ao:∀ b',b=some b'->∀ i y,l0[i]?=some y->∀ j c,(cfg.enc T y)[j]?=some c->∃ u,w.cell? (b'.add (i*cfg.sz T+j))=some u/\SimC cfg g.m u c/\g.m (b'.add (i*cfg.sz T+j))=some u:=by
    rintro b' rfl i y hy j c hc
    obtain ⟨u,h1,h2⟩:=ae.1.rows i y hy j c hc
    exact ⟨u,(h.inv.im _ _ h1).1,h2,h1⟩
   cases tl with
   | unk=> cases he
   | full=>
    simp only [oP] at he
    obtain ⟨rfl,rfl,rfl⟩:=he
    refine ⟨b,len,d,rfl,hl,hc,fun e=> ⟨(hb e).1,(hb e).2,by grind⟩,fun b' e=> ⟨hl,hc,V0,fun i y hy j c am=> ?_,fun j a1 a2=> ?_⟩⟩
    .grind
    .have:=ae.2 _ _ _ rfl
     grind
   | own t=>
    simp only at he
    split at he
    .cases he
    .rename_i hd
     simp only [oP] at he
     obtain ⟨rfl,rfl,rfl⟩:=he
     refine ⟨b,len,d,rfl,hl,hc,fun e=> ⟨(hb e).1,(hb e).2,by grind⟩,fun b' e=> ⟨hl,hc,V0,fun i y hy j c am=> ?_,fun j a1 a2=> ?_⟩⟩
     .grind
     .subst e
      exact ⟨t,rfl,ae.2 (by simpa using hd) b' len d rfl j a1 a2⟩
 cases x with
 | mref t=>
  simp only [Z5A] at he
  split at he
  .rename_i y hy
   split at he
   .rename_i hT _
    subst hT
    simp only [oP] at he
    obtain ⟨rfl,rfl,rfl⟩:=he
    obtain ⟨hd,hL⟩:=h.ls t y hy
    obtain ⟨s,hs⟩:=hx.2 hd
    rcases hL with ⟨h4,h5,h6⟩ | ⟨b,len,d,h4,h5,h6,h7,h8,h9⟩
    .grind
    .rw [hs] at h4
     cases h4
     refine ⟨some b,len,d,rfl,h5,h6,fun e=> (by cases e),fun b' e=> ?_⟩
     cases e
     refine ⟨h5,h6,h7,fun i y hy j c hc=> ?_,fun j a1 a2=> ⟨t,rfl,h9 j a1 a2⟩⟩
     grind
   .cases he
  .cases he
 | _=> exact af (fun t e=> by cases e) he
theorem ZfU (ok:CfgOk P cfg) (h:Rel cfg B st g a w) {o:Oper} {d:Nat} {t:TypeId} {x y:C U} {px py:Operand} {ps:List Prop} {e:Eff U}
  (ho:o.op= .call { callee:= .builtin .append,args:=#[px,py],argTypes:=#[t,t] })
  (hx:RelC cfg g st.dead (a.eval px) x) (hy:RelC cfg g st.dead (a.eval py) y) (he:Z4E cfg st d t x y=some (ps,e)) (hps:All ps):
  Does P o a w fun v w'=> ∃ g',Out cfg B st g e v w' g':=by
 unfold Z4E at he
 split at he
 .cases he
 rename_i T hT
 split at he
 case h_2=> cases he
 rename_i l f u l' cm bu bt
 split at he
 case isFalse=> cases he
 rename_i bl
 simp only [Q2,QA,QQ] at bl
 obtain ⟨⟨az,a1⟩,a7⟩:=bl
 simp only [oP] at he
 obtain ⟨rfl,rfl⟩:=he
 obtain ⟨hE,hU⟩:=Ji ok hT
 obtain ⟨b,len,cap,b7,hl,hc,hb,ak⟩:=Zbv h hx bu
 obtain ⟨bc,b',n,af,bi,ae,co,bp⟩:=Z4B hy bt
 rw [bi] at bc
 have ca:P.underlying t=some (.slice (cfg.elT T)):=by rw [hE] at hU;exact hU
 obtain ⟨i,ag,zs,z,hi,au,cl,hz,bf,cu⟩:=ok.el T
 have ai:(l.length+l'.length)*cfg.bytes T<=140737488355328:=hps.1
 rw [hl,ae] at ai
 have b9:=ok.bytes_pos T
 have ce:len+n<=140737488355328:=QZ (XK _ b9) ai
 have be:∃ vs:List Value,vs.length=n*cfg.sz T/\(∀ v∈vs,v.oneCell'=true)/\(∀ w:World,(∀ c v,g.m c=some v->w.cell? c=some v)->(Builtin.firstCells i.size n (.slice b' n af)).run P w= .ok vs.toArray w)/\
   (∀ (k:Nat) x,l'[k]?=some x->∀ (j:Nat) c,(cfg.enc T x)[j]?=some c->∃ v,vs[k*cfg.sz T+j]?=some v/\SimC cfg g.m v c):=by
  cases b' with
  | none=>
   obtain ⟨rfl,rfl⟩:=bp rfl
   have aj:l'=[]:=Q1 ae
   subst aj
   exact ⟨[],by simp,by simp,fun w _=> run_firstCells_none w _ _ _ _,fun k x hx=> by simp at hx⟩
  | some a'=>
   obtain ⟨vs,h1,h2,h3⟩:=Z3V ok bc.1
   refine ⟨vs,h1,fun v hv=> ?_,fun w hw=> ?_,h3⟩
   .obtain ⟨j,hj,rfl⟩:=Xa hv
    exact (h2 j _ (Q0 hj)).2
   .exact run_firstCells_some w i.size n a' n af vs (by grind) (fun j v hv=> hw _ _ (h2 j v hv).1)
 obtain ⟨vs,bd,b3,aa,bh⟩:=be
 have aw:∀ c v,g.m c=some v->w.cell? c=some v:=fun c v hv=> (h.inv.im c v hv).1
 have ab:(execOp a.eval o).run P w=((Builtin.append_ #[t,t] o.type #[.slice b len cap,.slice b' n af]).run P w).andThen fun v w=> .ok (.value v) w:=by
  simp only [execOp,ho,resolve,Sem.run_bind,Sem.run_pure,Result.andThen_ok,invoke,builtin]
  simp [b7,bi]
 have av:∀ w,(underlying t).run P w= .ok (.slice (cfg.elT T)) w:=fun w=> run_underlying ca w
 have bb:({ val:=some (.c (.mref (.r d 0))),kill:=u.toList,ls:=[(.r d 0,⟨T,l++l',f⟩)] }:Eff U)=ZC d T (l++l') f u.toList:=rfl
 rw [bb]
 by_cases hfit:len+n<=cap
 .cases b with
  | none=>
   obtain ⟨rfl,rfl,rfl⟩:=hb rfl
   have bo:n=0:=V0
   subst bo
   have aj:l=[]:=Q1 hl
   have b6:l'=[]:=Q1 ae
   subst aj b6
   have b8:vs=[]:=Q1 V0
   subst b8
   refine .inl ⟨.slice none 0 0,w,?_,_,Zab h az a1 a7⟩
   rw [ab]
   simp [Builtin.append_,av,sizeOf,typeInfo,hi,Builtin.lenOf,aa w aw]
  | some b=>
   obtain ⟨w',g',h1,h2⟩:=Z3N (P:=P) (d:=d) ok h (ak b rfl) hfit ae bd b3 bh az a1 a7
   refine .inl ⟨_,w',?_,g',h2⟩
   rw [ab]
   rw [<-au] at h1
   simp [Builtin.append_,av,sizeOf,typeInfo,hi,Builtin.lenOf,aa w aw,hfit,h1]
 .have a2:cap < len+n:=V0
  have bq:0 < n:=V0
  have cg:¬((len+n:Nat):Int) > 9223372036854775807:=V0
  have bn:Builtin.nextslicecap (len+n) cap*i.bytes<=281474976710656:=growslice_fits a2 (by grind)
  have ay:=Z6a w (len+n) cap (cfg.elT T)
  have bg:∃ us:List Value,us.length=len*cfg.sz T/\(∀ w':World,(∀ c v,w.cell? c=some v->w'.cell? c=some v)->(Builtin.firstCells i.size len (.slice b len cap)).run P w'= .ok us.toArray w')/\
    ∀ (k:Nat) x,l[k]?=some x->∀ (j:Nat) c,(cfg.enc T x)[j]?=some c->∃ v,us[k*cfg.sz T+j]?=some v/\SimC cfg g.m v c:=by
   cases b with
   | none=>
    obtain ⟨rfl,rfl,rfl⟩:=hb rfl
    have aj:l=[]:=Q1 hl
    subst aj
    exact ⟨[],by simp,fun w _=> run_firstCells_none w _ _ _ _,fun k x hx=> by simp at hx⟩
   | some b=>
    obtain ⟨us,h1,h2,h3⟩:=(ak b rfl).list ok
    exact ⟨us,h1,fun w' hw=> run_firstCells_some w' i.size len b len cap us (by rw [au];exact h1) (fun j v hv=> hw _ _ (h2 j v hv)),h3⟩
  obtain ⟨us,aq,ax,b1⟩:=bg
  have br:z.cells.size=cfg.sz T:=by
   obtain ⟨z',bk,hZ⟩:=Z2o ok bf w
   have:z'=z:=by simp [zeroValue,typeInfo,hi,hz] at bk;exact bk.symm
   subst this
   have:=(Z0G (g:=g) (st:=st) (cfg:=cfg) hZ).1;simp at this;omega
  let nc:=grownCap w (len+n) cap (cfg.elT T)
  let arr:Array Value:=us.toArray++vs.toArray++Builtin.zeroCells z.cells (nc - (len+n))
  have cv:len+n<=nc:=ay
  have bj:arr.size=nc*cfg.sz T:=by
   have e1:(len+n)*cfg.sz T+(nc - (len+n))*cfg.sz T=nc*cfg.sz T:=by rw [<-QJ];congr 1;omega
   rw [QJ] at e1
   simp [arr,Builtin.zeroCells,aq,bd,br]
   omega
  have b5:f<=(l++l').length:=by
   rw [Q8]
   cases b with
   | none=> grind
   | some b=> have:=(ak b rfl).hf;omega
  have bw:=Z3l (m:=g.m) (vs:=us) (vs':=vs) (by rw [aq,hl]) (ok.enc_len T) b1 bh
  obtain ⟨g',ar⟩:=Z58 (T:=T) (l:=l++l') (arr:=arr) (d:=d) (kl:=u.toList) (f:=f) h (SameHeap.drew w) (cfg.elT T) (cap:=nc) (by grind) b5 bj (ok.enc_len T) az a1 a7
   (fun k x hx j c hc=> by
    grind)
  rw [show (l++l').length=len+n by simp [hl,ae]] at ar
  refine .inl ⟨_,_,?_,g',ar⟩
  have cb:∀ c v,g.m c=some v->w.drew.cell? c=some v:=fun c v hv=> (aw c v hv)
  have bx:∀ c v,w.cell? c=some v->w.drew.cell? c=some v:=fun _ _ hv=> hv
  rw [ab]
  have bz:¬(Builtin.nextslicecap (len+n) cap*i.bytes > 2 ^ 48):=V0
  have cr:¬i.bytes=0:=V0
  have b2:¬((9223372036854775807:Int) < (len:Int)+(n:Int)):=V0
  simp [Builtin.append_,av,sizeOf,typeInfo,zeroValue,hi,hz,Builtin.lenOf,hfit,b2,bz,Question.forced,ax w.drew bx,aa w.drew cb,newRow]
  refine ⟨rfl,?_⟩
  simp only [arr,nc,grownCap,K5]
theorem ZfT (ok:CfgOk P cfg) (h:Rel cfg B st g a w) {o:Oper} {d:Nat} {t t':TypeId} {x y:C U} {px py:Operand} {ps:List Prop} {e:Eff U}
  (ho:o.op= .call { callee:= .builtin .append,args:=#[px,py],argTypes:=#[t,t'] })
  (hx:RelC cfg g st.dead (a.eval px) x) (hy:RelC cfg g st.dead (a.eval py) y) (he:Z4D cfg st d t t' x y=some (ps,e)) (hps:All ps):
  Does P o a w fun v w'=> ∃ g',Out cfg B st g e v w' g':=by
 unfold Z4D at he
 split at he
 case h_2=> cases he
 rename_i T m0 nn hT bz
 split at he
 case h_2=> cases he
 rename_i l f u zel b8 bu
 split at he
 case isFalse=> cases he
 rename_i bw
 simp only [Q2,QA,QQ] at bw
 obtain ⟨⟨be,bg⟩,bi⟩:=bw
 simp only [oP] at he
 obtain ⟨rfl,rfl⟩:=he
 obtain ⟨a6,aj⟩:=hps.1
 obtain ⟨n,rfl⟩:=QD a6
 simp only [XX,QU] at*
 obtain ⟨hE,hU⟩:=Ji ok hT
 obtain ⟨b,len,cap,cn,hl,hc,hb,ak⟩:=Zbv h hx b8
 have cf:a.eval py= .int .i64 n:=by
  have h1:=hy.1
  generalize a.eval py=q at h1 ⊢
  cases h1;rfl
 have cq:P.underlying t=some (.slice (cfg.elT T)):=by rw [hE] at hU;exact hU
 obtain ⟨_,it,zt,dt,_,b7,_,dl,_,_,ck,_⟩:=ok.var _ _ _ bz
 have bt:=ck rfl _ _ rfl
 subst bt
 obtain ⟨i,ag,zs,z,hi,al,b3,hz,az,dj⟩:=ok.el T
 rw [az] at bu
 have b6:cfg.dec T zs=some zel:=bu
 rw [hl] at aj
 have cp:=ok.bytes_pos T
 have aw:(len+n)*cfg.bytes T<=140737488355328:=by
  have:(((len+n)*cfg.bytes T:Nat):Int)<=140737488355328:=by rw [Kj,Int.natCast_add];exact aj
  omega
 have cv:len+n<=140737488355328:=QZ (XK _ cp) aw
 obtain ⟨z0,bm,hZ⟩:=Z2o ok az w
 have ce:z0=z:=by simp [zeroValue,typeInfo,hi,hz] at bm;exact bm.symm
 subst ce
 have ae:=Z0G (g:=g) (st:=st) (cfg:=cfg) hZ
 have aq:z0.cells.size=cfg.sz T:=by have:=ae.1;simp at this;omega
 have bx:=ok.sz_pos T
 obtain ⟨_,b5⟩:=Zai ok b6 ae.1 (fun j v c h1 h2=> ae.sim h1 h2)
 have bp:∃ vs:List Value,vs.length=n*cfg.sz T/\(∀ v∈vs,v.oneCell'=true)/\(Builtin.zeroCells z0.cells n).toList=vs/\
   (∀ (k:Nat) x,(List.replicate n zel)[k]?=some x->∀ (j:Nat) c,(cfg.enc T x)[j]?=some c->∃ v,vs[k*cfg.sz T+j]?=some v/\SimC cfg g.m v c):=by
  refine ⟨_,by simp [Builtin.zeroCells,aq],?_,rfl,?_⟩
  .intro v hv
   simp only [Builtin.zeroCells,Xl,Xo] at hv
   obtain ⟨q,_,rfl⟩:=hv
   have hq:q % z0.cells.size < z0.cells.size:=XJ _ V0
   rw [getElem!_pos z0.cells _ hq]
   exact ae.one _ (by simp)
  .intro k x hx j c hc
   obtain ⟨hk,hx⟩:=Q4.1 hx
   simp at hx hk
   subst hx
   obtain ⟨v,h7,h8⟩:=b5 j c hc
   have hj:j < cfg.sz T:=by have:=(Q4.1 hc).1;rw [ok.enc_len] at this;exact this
   have cb:k*cfg.sz T+j < n*cfg.sz T:=by
    have:(k+1)*cfg.sz T<=n*cfg.sz T:=Qf _ V0
    rw [QJ] at this;omega
   refine ⟨v,?_,h8⟩
   have h9:z0.cells[j]?=some v:=by rw [<-h7];simp
   have bn:j < z0.cells.size:=V0
   have e:(k*cfg.sz T+j) % z0.cells.size=j:=by rw [aq,Xn,XU,XO hj]
   have cm:z0.cells[j]! =v:=by
    rw [getElem!_pos z0.cells j bn]
    rw [QC bn] at h9
    exact Option.some.inj h9
   have bk:k*cfg.sz T+j < n*z0.cells.size:=by rw [aq];exact cb
   simp [Builtin.zeroCells,bk,e,cm]
 obtain ⟨vs,bo,cj,b2,br⟩:=bp
 have ay:Builtin.zeroCells z0.cells n=vs.toArray:=by rw [<-b2]
 have c2:∀ c v,g.m c=some v->w.cell? c=some v:=fun c v hv=> (h.inv.im c v hv).1
 have aa:(execOp a.eval o).run P w=((Builtin.append_ #[t,t'] o.type #[.slice b len cap,.int .i64 n]).run P w).andThen fun v w=> .ok (.value v) w:=by
  simp only [execOp,ho,resolve,Sem.run_bind,Sem.run_pure,Result.andThen_ok,invoke,builtin]
  simp [cn,cf]
 have ar:∀ w,(underlying t).run P w= .ok (.slice (cfg.elT T)) w:=fun w=> run_underlying cq w
 have af:∀ w,(underlying t').run P w= .ok (.int .i64) w:=fun w=> run_underlying b7 w
 have bl:({ val:=some (.c (.mref (.r d 0))),kill:=u.toList,ls:=[(.r d 0,⟨T,l++List.replicate n zel,f⟩)] }:Eff U)=ZC d T (l++List.replicate n zel) f u.toList:=rfl
 rw [bl]
 have ab:IntKind.i64.wrap (n:Int)=n:=by simp [IntKind.wrap,IntKind.signed,IntKind.bits];omega
 have am:¬(n:Int) < 0:=V0
 have ai:¬(n:Int)*(i.bytes:Int) > 281474976710656:=by
  rw [b3]
  have:n*cfg.bytes T<=(len+n)*cfg.bytes T:=Qf _ V0
  have:((n*cfg.bytes T:Nat):Int)<=140737488355328:=V0
  rw [Kj] at this
  omega
 have b1:(List.replicate n zel).length=n:=Xr
 by_cases hfit:len+n<=cap
 .cases b with
  | none=>
   obtain ⟨rfl,rfl,rfl⟩:=hb rfl
   have a6:n=0:=V0
   subst a6
   have bd:l=[]:=Q1 hl
   subst bd
   refine .inl ⟨.slice none 0 0,w,?_,_,Zab h be bg bi⟩
   rw [aa]
   simp [Builtin.append_,ar,af,sizeOf,typeInfo,hi,asInt,asIntOf,ab]
   grind
  | some b=>
   obtain ⟨w',g',h1,h2⟩:=Z3N (P:=P) (d:=d) ok h (ak b rfl) hfit b1 bo cj br be bg bi
   refine .inl ⟨_,w',?_,g',h2⟩
   rw [aa]
   rw [<-al] at h1
   have bf:(zeroValue (cfg.elT T)).run P w= .ok z0 w:=by simp [zeroValue,typeInfo,hi,hz]
   by_cases h0:n*i.size=0
   .have co:vs=[]:=Q1 (by grind)
    subst co
    simp [Builtin.append_,ar,af,sizeOf,typeInfo,hi,asInt,asIntOf,ab,am,ai,hfit,h0,h1]
   .simp [Builtin.append_,ar,af,sizeOf,typeInfo,hi,asInt,asIntOf,ab,am,ai,hfit,h0,bf,ay,h1]
 .have bh:cap < len+n:=V0
  have a7:0 < n:=V0
  have cw:¬((len+n:Nat):Int) > 9223372036854775807:=V0
  have b4:Builtin.nextslicecap (len+n) cap*i.bytes<=281474976710656:=growslice_fits bh (by grind)
  have bb:=Z6a w (len+n) cap (cfg.elT T)
  have bq:∃ us:List Value,us.length=len*cfg.sz T/\(∀ w':World,(∀ c v,w.cell? c=some v->w'.cell? c=some v)->(Builtin.firstCells i.size len (.slice b len cap)).run P w'= .ok us.toArray w')/\
    ∀ (k:Nat) x,l[k]?=some x->∀ (j:Nat) c,(cfg.enc T x)[j]?=some c->∃ v,us[k*cfg.sz T+j]?=some v/\SimC cfg g.m v c:=by
   cases b with
   | none=>
    obtain ⟨rfl,rfl,rfl⟩:=hb rfl
    have bd:l=[]:=Q1 hl
    subst bd
    exact ⟨[],by simp,fun w _=> run_firstCells_none w _ _ _ _,fun k x hx=> by simp at hx⟩
   | some b=>
    obtain ⟨us,h1,h2,h3⟩:=(ak b rfl).list ok
    exact ⟨us,h1,fun w' hw=> run_firstCells_some w' i.size len b len cap us (by rw [al];exact h1) (fun j v hv=> hw _ _ (h2 j v hv)),h3⟩
  obtain ⟨us,a1,ba,cc⟩:=bq
  let nc:=grownCap w (len+n) cap (cfg.elT T)
  let arr:Array Value:=us.toArray++vs.toArray++Builtin.zeroCells z0.cells (nc - (len+n))
  have dm:len+n<=nc:=bb
  have bv:arr.size=nc*cfg.sz T:=by
   have e1:(len+n)*cfg.sz T+(nc - (len+n))*cfg.sz T=nc*cfg.sz T:=by rw [<-QJ];congr 1;omega
   rw [QJ] at e1
   simp [arr,Builtin.zeroCells,a1,bo,aq]
   omega
  have cl:f<=(l++List.replicate n zel).length:=by
   rw [Q8]
   cases b with
   | none=> grind
   | some b=> have:=(ak b rfl).hf;omega
  have bc:=Z3l (m:=g.m) (vs:=us) (vs':=vs) (by rw [a1,hl]) (ok.enc_len T) cc br
  obtain ⟨g',a2⟩:=Z58 (T:=T) (l:=l++List.replicate n zel) (arr:=arr) (d:=d) (kl:=u.toList) (f:=f) h (SameHeap.drew w) (cfg.elT T) (cap:=nc) (by grind) cl bv (ok.enc_len T) be bg bi
   (fun k x hx j c hc=> by
    obtain ⟨v,h1,h2⟩:=bc k x hx j c hc
    grind)
  rw [show (l++List.replicate n zel).length=len+n by simp [hl]] at a2
  refine .inl ⟨_,_,?_,g',a2⟩
  have b9:∀ c v,w.cell? c=some v->w.drew.cell? c=some v:=fun _ _ hv=> hv
  rw [aa]
  have ca:¬(Builtin.nextslicecap (len+n) cap*i.bytes > 2 ^ 48):=V0
  have di:¬i.bytes=0:=V0
  have ch:¬((9223372036854775807:Int) < (len:Int)+(n:Int)):=V0
  have h0:¬n*i.size=0:=by rw [al];have:=Nat.mul_pos a7 bx;omega
  have bf:∀ w:World,(zeroValue (cfg.elT T)).run P w= .ok z0 w:=fun w=> by simp [zeroValue,typeInfo,hi,hz]
  simp [Builtin.append_,ar,af,sizeOf,typeInfo,hi,asInt,asIntOf,ab,am,ai,hfit,ch,ca,h0,bf,ay,Question.forced,ba w.drew b9,newRow]
  refine ⟨rfl,?_⟩
  simp only [arr,nc,grownCap,K5]
theorem Zb9 (ok:CfgOk P cfg) (h:Rel cfg B st g a w) {o:Oper} {t:TypeId} {p q:Operand} {T:U.Ty} {n m:Int} {ag:Bool} {zs:List (C U)} {z:U.El T} {d:Nat} (hls:st.ls (.r d 0)=none) (hdd:st.dead (.r d 0)=false) (ho:o.op= .makeSlice t p q)
  (hT:cfg.slT t=some T) (hp:a.eval p= .int .i64 n) (hq:a.eval q= .int .i64 m) (hz:cfg.var (cfg.elT T)=some (ag,zs)) (hd:cfg.dec T zs=some z)
  (hn:0<=n/\n*cfg.bytes T<=140737488355328/\n<=9223372036854775807) (hm:m=n):
  Does P o a w fun v w'=> ∃ g',Out cfg B st g { val:=some (.c (.mref (.r d 0))),ls:=[(.r d 0,⟨T,List.replicate n.toNat z,0⟩)] } v w' g':=by
 have au:=hm.symm
 subst au
 obtain ⟨k,rfl⟩:=QD hn.1
 simp only [XX] at*
 rw [QU]
 obtain ⟨hE,hU⟩:=Ji ok hT
 obtain ⟨i,bg,be,z',h1,h2,h3,h4,h5,h6⟩:=ok.el T
 rw [hz] at h5
 simp only [oP] at h5
 obtain ⟨rfl,rfl⟩:=h5
 obtain ⟨aa,af,hZ⟩:=Z2o ok hz w
 have av:aa=z':=by
  simp [zeroValue,typeInfo,h1,h4] at af;exact af.symm
 subst av
 have ae:=Z0G (g:=g) (st:=st) (cfg:=cfg) hZ
 have aw:aa.cells.size=cfg.sz T:=by have:=ae.1;simp at this;omega
 have az:=ok.sz_pos T
 obtain ⟨bi,ax⟩:=Zai ok hd ae.1 (fun j v c h1 h2=> ae.sim h1 h2)
 let arr:Array Value:=(Array.range (k*cfg.sz T)).map (aa.cells[· % aa.cells.size]!)
 obtain ⟨g',ah⟩:=Z58 (T:=T) (l:=List.replicate k z) (arr:=arr) (d:=d) (f:=0) (kl:=[]) h (SameHeap.refl w) (P.elem t) (cap:=k) (by simp) (by simp) (by simp [arr]) (ok.enc_len T) hls hdd rfl
  (by
   intro i x hx j c hc
   obtain ⟨hi,hx⟩:=Q4.1 hx
   simp at hx hi
   subst hx
   obtain ⟨v,h7,h8⟩:=ax j c hc
   have hj:j < cfg.sz T:=by have:=(Q4.1 hc).1;rw [ok.enc_len] at this;exact this
   have bk:i*cfg.sz T+j < k*cfg.sz T:=by
    have:(i+1)*cfg.sz T<=k*cfg.sz T:=Qf _ V0
    rw [QJ] at this;omega
   refine ⟨v,?_,h8⟩
   have h9:aa.cells[j]?=some v:=by rw [<-h7];simp
   have bh:j < aa.cells.size:=V0
   have e:(i*cfg.sz T+j) % aa.cells.size=j:=by rw [aw,Xn,XU,XO hj]
   grind)
 rw [Xr] at ah
 refine .inl ⟨_,_,?_,g',ah⟩
 have ai:=J1 ok T w
 rw [<-hE] at ai af
 have ab:(typeInfo (P.elem t)).run P w= .ok i w:=by rw [hE];simp [typeInfo,h1]
 have hw:IntKind.i64.wrap (k:Int)=k:=by simp [IntKind.wrap,IntKind.signed,IntKind.bits];omega
 have aj:¬(281474976710656 < (i.bytes:Int)*(k:Int)):=by
  rw [h3,Int.mul_comm];have:=hn.2.1;omega
 have ak:¬(k:Int) < 0:=V0
 simp only [execOp,ho]
 apply Z8X
 simp only [hp,hq]
 by_cases h0:k*cfg.sz T=0
 .have al:arr=#[]:=by simp only [arr,h0];simp
  simp [Instr.makeSlice,run_underlying hU,asInt,asIntOf,ab,hw,aj,ak,ai,h0,newRow,al]
  grind
 .have ar:(decide ((k:Int) < 0) || decide ((i.bytes:Int)*(k:Int) > 2 ^ 48) || decide ((k:Int) < 0) || decide ((k:Int) > (k:Int)))=false:=by
   simp [aj,ak]
  simp only [Instr.makeSlice,Sem.run_bind,run_underlying hU,Result.andThen_ok,asInt,asIntOf,Sem.run_pure,ab,hw,ar]
  simp only [X4,if_false,Sem.run_bind,run_askRoom,Result.andThen_ok,ai,QU,h0,af,Sem.run_pure]
  try rfl
theorem Zal (ok:CfgOk P cfg) (h:Rel cfg B st g a w) {o:Oper} {t:TypeId} {n:Nat} {parts:Array (Nat × Operand)} {T:U.Ty} {ps:List (Nat × V U)} {l:List (U.El T)} {d:Nat} (hls:st.ls (.r d 0)=none) (hdd:st.dead (.r d 0)=false) (ho:o.op= .buildSlice t n parts)
  (hT:cfg.slT t=some T) (hl:parts.size=ps.length) (hn:ps.length=n) (hsmall:n*cfg.sz T<=16777216)
  (hr:∀ (j:Nat) x y,parts[j]?=some x->ps[j]?=some y->x.1=y.1/\RelV cfg g st.dead (fun nm=> (st.mem nm).isSome) (a.eval x.2) y.2) (he:Jn cfg T 0 ps=some l):
  Does P o a w fun v w'=> ∃ g',Out cfg B st g { val:=some (.c (.mref (.r d 0))),ls:=[(.r d 0,⟨T,l,0⟩)] } v w' g':=by
 obtain ⟨hE,hU⟩:=Ji ok hT
 obtain ⟨i,ag,zs,z,h1,h2,h3,h4,h5,h6⟩:=ok.el T
 obtain ⟨z',hz,hZ⟩:=Z2o ok h5 w
 have al:z'=z:=by
  simp [zeroValue,typeInfo,h1,h4] at hz;exact hz.symm
 subst al
 have aw:z'.cells.size=cfg.sz T:=by have:=(Z0G (g:=g) (st:=st) (cfg:=cfg) hZ).1;simp at this;omega
 let vs0:Array Value:=if n*cfg.sz T=0 then (Array.range (n*cfg.sz T)).map ((#[]:Array Value)[· % 0]!) else (Array.range (n*cfg.sz T)).map (z'.cells[· % z'.cells.size]!)
 have ah:vs0.size=n*cfg.sz T:=by simp only [vs0];split <;> simp
 obtain ⟨av,vs',h7,h8,_,h9⟩:=Zbn (g:=g) (st:=st) ok (parts.toList.map fun x=> (x.1,a.eval x.2)) ps 0 l vs0 he (by simpa using hl) (by
  grind) (by grind)
 have af:l.length=n:=V0
 obtain ⟨g',aa⟩:=Z58 (T:=T) (l:=l) (arr:=vs') (d:=d) (f:=0) (kl:=[]) h (SameHeap.refl w) (P.elem t) (cap:=n) V0 (X6 _) (by rw [h8,ah]) (ok.enc_len T) hls hdd rfl
  (fun i x hx j c hc=> by grind)
 rw [af] at aa
 refine .inl ⟨_,_,?_,g',aa⟩
 have ai:=J1 ok T w
 rw [<-hE] at ai hz
 simp only [execOp,ho]
 apply Z8X
 simp only [Instr.buildSlice,Sem.run_bind,run_underlying hU,Result.andThen_ok,ai]
 rw [Yo]
 by_cases h0:n*cfg.sz T=0
 .simp only [h0,if_true]
  simp only [vs0,h0,if_true] at h7
  have ab:Instr.fill (fun i=> some (i*cfg.sz T,cfg.sz T)) ((Array.range 0).map ((#[]:Array Value)[· % (#[]:Array Value).size]!)) (parts.map fun x=> (x.1,a.eval x.2)).toList=some vs':=by
   rw [Xl];exact h7
  simp only [Sem.run_bind,Sem.run_pure,Result.andThen_ok,ab]
  try rfl
 .simp only [h0,if_false]
  simp only [vs0,h0,if_false] at h7
  have ab:Instr.fill (fun i=> some (i*cfg.sz T,cfg.sz T)) ((Array.range (n*cfg.sz T)).map (z'.cells[· % z'.cells.size]!)) (parts.map fun x=> (x.1,a.eval x.2)).toList=some vs':=by
   rw [Xl];exact h7
  simp only [Sem.run_bind,Sem.run_pure,Result.andThen_ok,hz,ab]
  try rfl
theorem ZhK (ok:CfgOk P cfg) (h:Rel cfg B st g a w) {o:Oper} {t:TypeId} {p x:Operand} {ag:Bool} {zs new:List (C U)} {u:Tok} {y:LC U} {n off:Nat} {v:V U} {e:U.El y.T} (ho:o.op= .store t p x)
  (ht:cfg.var t=some (ag,zs)) (hp:RelV cfg g st.dead (fun nm=> (st.mem nm).isSome) (a.eval p) (.mp u n off)) (hv:RelV cfg g st.dead (fun nm=> (st.mem nm).isSome) (a.eval x) v)
  (hnew:v.cells=some new) (hy:st.ls u=some y) (hl:new.length=zs.length) (hf:y.f<=n)
  (hset:(YD (cfg.enc y.T (y.l.getD n (cfg.dflt y.T))) off new).bind (cfg.dec y.T)=some e):
  Does P o a w fun v w'=> ∃ g',Out cfg B st g { ls:=[(u,⟨y.T,y.l.set n e,y.f⟩)] } v w' g':=by
 obtain ⟨b,len,bu,be,bn,hn,a7,bb,bp,af,ar⟩:=ZuS h hy hp
 obtain ⟨bl,_⟩:=h.ls u y hy
 obtain ⟨hs,_,_⟩:=Z1S ok ht w
 have ah:=hv.cells hnew
 cases hsc:YD (cfg.enc y.T (y.l.getD n (cfg.dflt y.T))) off new with
 | none=> grind
 | some cs'=>
 rw [hsc] at hset
 have ay:cfg.dec y.T cs'=some e:=hset
 obtain ⟨bh,bm⟩:=ok.dec_ok _ _ _ ay
 have bi:y.l[n]?=some (y.l.getD n (cfg.dflt y.T)):=by simp [List.getD,Q0 hn]
 have bx:=ok.enc_len y.T (y.l.getD n (cfg.dflt y.T))
 have b7:off+new.length<=cfg.sz y.T:=by
  unfold YD at hsc
  split at hsc
  .omega
  .cases hsc
 have bg:(a.eval x).cells.toList.length=new.length:=ah.1
 have ae:∀ j,j < cfg.sz y.T->∃ u' c,(cfg.enc y.T (y.l.getD n (cfg.dflt y.T)))[j]?=some c/\w.cell? (b.add (n*cfg.sz y.T+j))=some u'/\SimC cfg g.m u' c/\g.tag (b.add (n*cfg.sz y.T+j))=some (.tok u):=by
  intro j hj
  have hg:(cfg.enc y.T (y.l.getD n (cfg.dflt y.T)))[j]?=some ((cfg.enc y.T (y.l.getD n (cfg.dflt y.T)))[j]'V0):=Q0 _
  obtain ⟨u',h1,h2,_,h4⟩:=af n _ bi j _ hg
  exact ⟨u',_,hg,h1,h2,h4 hf⟩
 obtain ⟨w',h1,h2,h3,h4,h5,h6⟩:=JB (P:=P) (b.add (n*cfg.sz y.T+off)) (a.eval x).cells.toList 0 w ah.one (by
  intro j hj
  rw [Go.Deep.add_add,QK]
  obtain ⟨u',_,_,hu,_,ab⟩:=ae (off+j) V0
  rw [show n*cfg.sz y.T+(off+j)=n*cfg.sz y.T+off+j by omega] at hu ab
  exact ⟨⟨u',hu⟩,(h.inv.it _ _ ab).1⟩)
 simp only [QK,Go.Deep.add_add] at h2 h3 h4
 refine .inr (.inl ⟨w',?_,g,?_⟩)
 .have bj:(a.eval x).cells.size=zs.length:=by simpa using bg.trans hl
  simp only [execOp,ho,bn]
  simp [Instr.storeAt,Instr.sureAddr,storeVar,hs,bj,h1]
 .have aj:∀ c,(∃ j,j < (a.eval x).cells.toList.length/\c=b.add (n*cfg.sz y.T+off+j))->g.tag c=some (.tok u):=by
   rintro c ⟨j,hj,rfl⟩
   obtain ⟨_,_,_,_,_,ab⟩:=ae (off+j) V0
   rw [show n*cfg.sz y.T+(off+j)=n*cfg.sz y.T+off+j by omega] at ab
   exact ab
  have ai:∀ c,g.tag c≠some (.tok u)->w'.cell? c=w.cell? c:=fun c hc=> h4 c fun j hj e=> hc (aj c ⟨j,hj,e⟩)
  have a8:∀ c v,g.m c=some v->w'.cell? c=some v:=fun c v hv=> by
   obtain ⟨h7,h8⟩:=h.inv.im c v hv
   grind
  have al:Zn st ({ ls:=[(u,⟨y.T,y.l.set n e,y.f⟩)] }:Eff U)=st.dead:=by funext t;simp [Zn]
  have ao:Keeps g g st.dead (Zn st ({ ls:=[(u,⟨y.T,y.l.set n e,y.f⟩)] }:Eff U)) (fun nm=> (st.mem nm).isSome) (Yc st ({ ls:=[(u,⟨y.T,y.l.set n e,y.f⟩)] }:Eff U)):=by
   rw [al];exact .refl _ _ _
  refine ⟨⟨fun c v hv=> ⟨a8 c v hv,(h.inv.im c v hv).2⟩,fun c t ba=> ?_⟩,?_,ao,?_,trivial,?_,?_⟩
  .obtain ⟨h7,u',h8⟩:=h.inv.it c t ba
   grind
  .exact h.fr.step h.inv h2 (fun c hc=> ⟨_,aj c hc,fun t' e=> by cases e⟩) (fun _ _ h=> h) (fun _ _=> QN) (fun _ _ _ _ _=> rfl) (fun _=> rfl)
  .rw [al]
   intro nm bo hm j c hj
   obtain ⟨v0,cc,ab,b9⟩:=h.mem nm bo hm j c hj
   grind
  .intro t z hz
   rw [al]
   unfold Z06 at hz
   simp only [Xh,cond_false,Zt] at hz
   split at hz
   .rename_i et
    subst et
    cases hz
    refine ⟨bl,.inr ⟨b,len,bu,be,by simp [a7],bb,bp,?_,ar⟩⟩
    intro i q hq j c hc
    simp only at hq hc ⊢
    have hj:j < cfg.sz y.T:=by have:=(Q4.1 hc).1;rw [ok.enc_len] at this;exact this
    by_cases hin:i=n
    .subst hin
     rw [Ka] at hq
     simp only [if_true,hn] at hq
     cases hq
     obtain ⟨u',c0,g1,g2,g3,g4⟩:=ae j hj
     have bz:cs'.length=cfg.sz y.T:=by rw [bh];exact ok.enc_len _ _
     have a1:cs'[j]?=some (cs'[j]'V0):=Q0 _
     have a2:=bm j _ c a1 hc
     have d:cs'[j]?=if off<=j/\j < off+new.length then new[j - off]? else (cfg.enc y.T (y.l.getD i (cfg.dflt y.T)))[j]?:=by
      unfold YD at hsc
      rw [Yz] at hsc
      simp only [Option.some.injEq] at hsc
      rw [<-hsc,Qb,QF]
      simp only [Qq]
      rw [Xq V0]
      split
      .grind
      .rename_i h7
       rw [QF]
       split
       .rename_i h8;grind
       .rename_i h8
        rw [Yo,Qw]
        congr 1;omega
     rw [a1] at d
     split at d
     .rename_i hr
      have az:(a.eval x).cells.toList[j - off]?=some ((a.eval x).cells.toList[j - off]'V0):=Q0 _
      have h7:=h3 (j - off) _ az
      rw [show i*cfg.sz y.T+off+(j - off)=i*cfg.sz y.T+j by omega] at h7
      exact ⟨_,h7,(ah.2 _ _ _ az d.symm).1.wk a2,fun hi=> by omega,fun _=> g4⟩
     .rename_i hr
      rw [g1] at d
      cases d
      refine ⟨u',?_,g3.wk a2,fun hi=> by omega,fun _=> g4⟩
      rw [h4 _ fun j' bq e=> by have:=Z1U e;omega]
      exact g2
    .rw [List.getElem?_set_ne (Ne.symm hin)] at hq
     obtain ⟨u',g1,g2,g3,g4⟩:=af i q hq j c hc
     refine ⟨u',?_,g2,g3,g4⟩
     rw [h4 _ fun j' bq e=> by
      have:=Z1U e
      rcases Xw i n with hlt | hge
      .have:(i+1)*cfg.sz y.T<=n*cfg.sz y.T:=Qf _ hlt
       grind
      .have:(n+1)*cfg.sz y.T<=i*cfg.sz y.T:=Qf _ V0
       grind]
     exact g1
   .rename_i b4
    obtain ⟨h7,h8⟩:=h.ls t z hz
    exact ⟨h7,h8.keep (.refl g st.dead (fun _=> true)) h7 a8 (fun c ba=> ai c (by grind))⟩
  .rw [al]
   intro t h0 h7 h8
   unfold Z06 at h7
   simp only [Xh,cond_false,Zt] at h7
   split at h7
   .cases h7
   .exact h.fresh t h0 h7 h8
end Go.AM
