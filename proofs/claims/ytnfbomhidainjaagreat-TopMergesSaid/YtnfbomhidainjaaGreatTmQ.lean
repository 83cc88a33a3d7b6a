import Derived.Test.YtnfbomhidainjaaGreatTmE
import Derived.Laws.Append
set_option linter.unusedSimpArgs false
set_option linter.unusedVariables false
namespace Go.AM
variable{U:Uni}{P:Program}{cfg:Cfg U}{B:Base}{st:FSt U}{g:Gh}{a:Act}{w:World}
theorem Z2k{b:Addr}{i j:Nat}(h:b.add i=b.add j):i=j:=by unfold Addr.add at h;grind
theorem JF(b:Addr):∀(vs:List Value)(i:Nat)(w:World),(∀v∈vs,v.oneCell'=true)->(∀j,j<vs.length->(∃u,w.cell? (b.add (i+j))=some u)/\w.frozen? (b.add (i+j))=false)->∃w',(storeCells b vs i).run P w=.ok () w'/\Evo w w' (λc=>∃j,j<vs.length/\c=b.add (i+j))/\(∀j v,vs[j]?=some v->w'.cell? (b.add (i+j))=some v)/\(∀c,(∀j,j<vs.length->c≠b.add (i+j))->w'.cell? c=w.cell? c)/\(∀c,w'.frozen? c=w.frozen? c)/\w'.heap.size=w.heap.size
 |[],i,w,_,_=>⟨w,by simp[storeCells],.refl _ _,by simp,λ_ _=>rfl,λ_=>rfl,rfl⟩|v::vs,i,w,ho,hc=>by
  obtain⟨⟨u,hu⟩,hf⟩:=hc 0 (by simp);rw[Xx]at hu hf;have ab:(store (b.add i) v).run P w=.ok () (w.setCell (b.add i) v):=by rw[run_store P w _ v .plain (ho v (by simp)),hu];simp[hf]
  have d:∀j,j<vs.length->(∃u,(w.setCell (b.add i) v).cell? (b.add (i+1+j))=some u)/\(w.setCell (b.add i) v).frozen? (b.add (i+1+j))=false:=by
   intro j hj;obtain⟨⟨u',ai⟩,ah⟩:=hc (j+1) (by simpa using hj);have e:i+(j+1)=i+1+j:=Yp;rw[e]at ai ah;refine⟨⟨u',?_⟩,by rw[World.frozen?_setCell];exact ah⟩;rw[World.cell?_setCell_other _ _ _ _ (λh=>by have:=Z2k h;omega)];exact ai
  obtain⟨w',h1,h2,h3,h4,h5,h6⟩:=JF b vs (i+1) (w.setCell (b.add i) v) (λx hx=>ho x (by simp[hx])) d;refine⟨w',by simp[storeCells,ab,h1],?_,?_,?_,?_,?_⟩;.refine Evo.trans (w':=w.setCell (b.add i) v) (Evo.setCell w _ v _ ⟨0,by simp,rfl⟩) (h2.weaken ?_);rintro c⟨j,hj,rfl⟩;exact⟨j+1,by simpa using hj,by congr 1;omega⟩
  .intro j x hx;cases j with|zero=>simp at hx;subst hx;rw[Xx,h4 _ (λj hj h=>by have:=Z2k h;omega)];exact World.cell?_setCell_same w _ v hu|succ j=>have:=h3 j x (by simpa using hx);rw[show i+(j+1)=i+1+j by omega];exact this
  .intro c af;rw[h4 c (λj hj=>by have:=af (j+1) (by simpa using hj);rwa[show i+(j+1)=i+1+j by omega]at this)];exact World.cell?_setCell_other _ _ _ _ (λh=>af 0 (by simp) (by rw[Xx];exact h.symm))
  .intro c;rw[h5,World.frozen?_setCell]
  .rw[h6,World.size_setCell]
structure SameHeap(w w':World):Prop where
 heap:w'.heap=w.heap
 os:w'.os=w.os
 tape:w'.tape=w.tape
 output:w'.output=w.output
theorem SameHeap.refl(w:World):SameHeap w w:=⟨rfl,rfl,rfl,rfl⟩
theorem SameHeap.drew(w:World):SameHeap w w.drew:=⟨rfl,rfl,rfl,rfl⟩
theorem SameHeap.cell{w w':World}(h:SameHeap w w')(b:Addr):w'.cell? b=w.cell? b:=by simp[World.cell?,h.heap]
theorem SameHeap.frozen{w w':World}(h:SameHeap w w')(b:Addr):w'.frozen? b=w.frozen? b:=by simp[World.frozen?,h.heap]
theorem SameHeap.evo{w w':World}(h:SameHeap w w')(S:Addr->Prop):Evo w w' S:=⟨⟨h.os,h.tape,h.output,by rw[h.heap];omega⟩,λb _ _=>h.cell b,λb _=>h.frozen b,λb v d=>⟨v,(h.cell b).trans d⟩,λb _ _=>by rw[h.heap]⟩
def Gh.new(g:Gh)(b:Nat)(arr:Array Value)(im:Nat->Bool)(tg:Nat->Option Tag)(ad:Name->Addr):Gh:=
 {m:=λc=>if c.block=b/\c.spot=none then(if im c.off then arr[c.off]? else none)else g.m c
  tag:=λc=>if c.block=b/\c.spot=none then tg c.off else g.tag c
  ad:=ad
  bs:=g.bs}
theorem Zpm(h:Rel cfg B st g a w){w1:World}(hw:SameHeap w w1)(arr:Array Value)(e:TypeId)(im:Nat->Bool)(tg:Nat->Option Tag)(ad:Name->Addr)(htg:∀i t,tg i=some t->i<arr.size/\im i=false/\∀t',t≠.outer t')(had:∀nm,(st.mem nm).isSome=true->ad nm=g.ad nm)(hax:∀k,ad (.x k)=g.ad (.x k)):Inv (g.new w.heap.size arr im tg ad).m (g.new w.heap.size arr im tg ad).tag (w1.alloc (.cells arr e))/\Fr B (g.new w.heap.size arr im tg ad) (w1.alloc (.cells arr e))/\(∀(dead:Tok->Bool)(Yi:Name->Bool),(∀nm,(st.mem nm).isSome=true->Yi nm=true)->Keeps g (g.new w.heap.size arr im tg ad) st.dead (λt=>st.dead t||dead t) (λnm=>(st.mem nm).isSome) Yi)/\(∀i,(w1.alloc (.cells arr e)).cell? ⟨w.heap.size,i,none⟩=arr[i]?)/\(∀c v,w.cell? c=some v->(w1.alloc (.cells arr e)).cell? c=some v):=by
 have ai:w1.heap.size=w.heap.size:=by rw[hw.heap]
 have ae:∀c:Addr,c.block<w.heap.size->(w1.alloc (.cells arr e)).cell? c=w.cell? c:=λc hc=>by rw[World.cell?_alloc_lt w1 _ c Yp,hw.cell]
 have ab:∀i,(w1.alloc (.cells arr e)).cell? ⟨w.heap.size,i,none⟩=arr[i]?:=λi=>by rw[<-ai];simp
 have al:∀c v,g.m c=some v->c.block<w.heap.size:=λc v d=>h.inv.lt' d;have aq:∀c t,g.tag c=some t->c.block<w.heap.size:=λc t ht=>h.inv.lt ht;have ah:∀c v,g.m c=some v->(g.new w.heap.size arr im tg ad).m c=some v:=λc v d=>by have:=al c v d;simp only[Gh.new];grind
 have aw:∀c:Addr,c.block<w.heap.size->(g.new w.heap.size arr im tg ad).tag c=g.tag c:=λc hc=>by
  simp only[Gh.new];grind
 have aj:Inv (g.new w.heap.size arr im tg ad).m (g.new w.heap.size arr im tg ad).tag (w1.alloc (.cells arr e)):=by
  refine⟨?_,?_⟩
  .intro c v d;simp only[Gh.new]at d⊢;split at d
   .rename_i hc;rw[if_pos hc];split at d;.rename_i am;obtain⟨cb,co,cs⟩:=c;simp only at hc am d;obtain⟨rfl,rfl⟩:=hc;refine⟨(ab co).trans d,?_⟩;cases htc:tg co with|none=>rfl|some t=>grind
    .cases d
   .rename_i hc;rw[if_neg hc];obtain⟨h1,h2⟩:=h.inv.im c v d;grind
  .intro c t ht;simp only[Gh.new]at ht;split at ht
   .rename_i hc;obtain⟨cb,co,cs⟩:=c;simp only at hc ht;obtain⟨rfl,rfl⟩:=hc;obtain⟨h1,_,_⟩:=htg co t ht;refine⟨by rw[<-ai];simp,arr[co],(ab co).trans (QG h1)⟩
   .obtain⟨h1,v,h2⟩:=h.inv.it c t ht;have ao:=aq c t ht;exact⟨by rw[World.frozen?_alloc_old w1 _ c Yp,hw.frozen];exact h1,v,(ae c ao).trans h2⟩
 refine⟨aj,?_,?_,ab,λc v d=>(ae c (World.block_lt_of_cell? w c d)).trans d⟩
 .refine h.fr.step h.inv ((hw.evo (λ_=>False)).trans (Evo.alloc w1 _ _)) (λc hc=>hc.elim) ah ?_ ?_ hax
  .intro c t;constructor;.grind
   .intro ht;simp only[Gh.new]at ht;grind
  grind
 .intro dead Yi hl;refine⟨ah,λc t _ ht=>by grind,λt ht=>?_,λnm hn=>⟨hl nm hn,had nm hn⟩,λ_ _ _ h=>h,hax⟩;grind
theorem Zkn(h:Rel cfg B st g a w){g':Gh}{w':World}{dead2:Tok->Bool}{live2:Name->Bool}(k:Keeps g g' st.dead dead2 (λnm=>(st.mem nm).isSome) live2)(hc:∀c v,w.cell? c=some v->w'.cell? c=some v)(ht:∀c t,g.tag c=some t->g'.tag c=some t):∀nm cs,st.mem nm=some cs->∀j c,cs[j]?=some c->∃v,w'.cell? ((g'.ad nm).add j)=some v/\g'.tag ((g'.ad nm).add j)=some (.obj nm)/\RelC cfg g' dead2 v c:=by intro nm cs hm j c hj;obtain⟨v,h1,h2,h3⟩:=h.mem nm cs hm j c hj;have d:=(k.ad nm (by simp[hm])).2;rw[d];exact⟨v,hc _ _ h1,ht _ _ h2,h3.keep k⟩
theorem Z7g(st:FSt U){e:Eff U}(h:e.kill=[]):Zp st e=λt=>st.dead t||(λ_=>false) t:=by funext t;simp[Zp,h]
theorem Zji(h:Rel cfg B st g a w){d:Nat}{zs:List (C U)}{arr:Array Value}(e:TypeId)(hn:st.mem (.loc d)=none)(hr:RelL cfg g st.dead arr.toList zs):∃g',Out cfg B st g {val:=some (.ptr (.loc d) 0),mem:=[(.loc d,zs)]} (.pointer (some ⟨w.heap.size,0,none⟩)) (w.alloc (.cells arr e)) g':=by
 let ad:Name->Addr:=λnm=>if nm=.loc d then⟨w.heap.size,0,none⟩else g.ad nm;let tg:Nat->Option Tag:=λi=>if i<arr.size then some (.obj (.loc d))else none;have ak:∀nm,(st.mem nm).isSome=true->ad nm=g.ad nm:=by intro nm hs;simp only[ad];rw[if_neg (λe=>by subst e;simp[hn]at hs)]
 obtain⟨h1,h2,h3,h4,h5⟩:=Zpm h (SameHeap.refl w) arr e (λ_=>false) tg ad (by grind) ak (λk=>by simp[ad]);have aa:Keeps g (g.new w.heap.size arr (λ_=>false) tg ad) st.dead (Zp st ({val:=some (.ptr (.loc d) 0),mem:=[(.loc d,zs)]}:Eff U)) (λnm=>(st.mem nm).isSome) (Yi st ({val:=some (.ptr (.loc d) 0),mem:=[(.loc d,zs)]}:Eff U)):=by
  rw[Z7g st rfl];refine h3 _ _ ?_;intro nm hs;simp only[Yi,ZX];split;.try rfl
  .exact hs
 refine⟨g.new w.heap.size arr (λ_=>false) tg ad,h1,h2,?_,?_,?_,h.ls_keep rfl aa (λc v hv=>h5 _ _ (h.inv.im c v hv).1) (λc t _ ht=>by obtain⟨_,v,hv⟩:=h.inv.it c _ ht;grind),h.fresh_keep rfl (λ_=>rfl)⟩;.omega
 .rw[Z7g st rfl];have k:=h3 (λ_=>false) (Yi st ({val:=some (.ptr (.loc d) 0),mem:=[(.loc d,zs)]}:Eff U)) (by
   intro nm hs;simp only[Yi,ZX];grind);intro nm cs hm j c hj;simp only[ZX]at hm;split at hm
  .rename_i ah;subst ah;simp only[Option.some.injEq]at hm;subst hm;have ab:j<arr.size:=by have h6:=(Q4.1 hj).1;have h7:=hr.1;simp at h7;omega
   have e1:(g.new w.heap.size arr (λ_=>false) tg ad).ad (.loc d)=⟨w.heap.size,0,none⟩:=by simp[Gh.new,ad]
   rw[e1,Addr.add_lit,QQ];refine⟨arr[j],(h4 j).trans (QG ab),?_,?_⟩;.simp[Gh.new,tg,ab]
   .exact(hr.2 j _ c (by simp[ab]) hj).keep k
  .refine Zkn h k h5 ?_ nm cs hm j c hj;intro c t ht;have:=h.inv.lt ht;simp only[Gh.new];grind
 .refine⟨by simp[Yi,ZX],?_⟩;simp[Gh.new,ad,Addr.add]
theorem Z2N(ok:CfgOk P cfg){t:TypeId}{ag:Bool}{zs:List (C U)}(ht:cfg.var t=some (ag,zs))(w:World):∃z,(zeroValue t).run P w=.ok z w/\ZEb ag z zs:=by obtain⟨aa,i,z,d,h1,h2,h3,h4,h5,h6,_⟩:=ok.var _ _ _ ht;exact⟨z,by simp[zeroValue,typeInfo,h1,h5],h6⟩
theorem Zo8(ok:CfgOk P cfg)(h:Rel cfg B st g a w){o:Oper}{t:TypeId}{d:Nat}{ag:Bool}{zs:List (C U)}(ho:o.op=.alloc t)(ht:cfg.var t=some (ag,zs))(hn:st.mem (.loc d)=none):Does P o a w λv w'=>∃g',Out cfg B st g {val:=some (.ptr (.loc d) 0),mem:=[(.loc d,zs)]} v w' g':=by obtain⟨z,hz,hZ⟩:=Z2N ok ht w;refine .inl ⟨_,_,?_,Zji h t hn (Z0U hZ)⟩;simp[execOp,ho,Instr.alloc,hz,newVar,newRow]
theorem Zv7(h:Rel cfg B st g a w){o:Oper}{t:TypeId}{x:Operand}{d:Nat}{cs:List (C U)}{v:V U}(ho:o.op=.box t x)(hv:RelV cfg g st.dead (λnm=>(st.mem nm).isSome) (a.eval x) v)(hcs:v.cells=some cs)(hn:st.mem (.loc d)=none):Does P o a w λv w'=>∃g',Out cfg B st g {val:=some (.ptr (.loc d) 0),mem:=[(.loc d,cs)]} v w' g':=by refine .inl ⟨_,_,?_,Zji h t hn (hv.cells hcs)⟩;simp[execOp,ho,Instr.box,newVar,newRow]
theorem Zd9(ok:CfgOk P cfg)(h:Rel cfg B st g a w){o:Oper}{t:TypeId}{p x:Operand}{ag:Bool}{zs cs cs' new:List (C U)}{nm:Name}{off:Nat}{v:V U}(ho:o.op=.store t p x)(ht:cfg.var t=some (ag,zs))(hp:RelV cfg g st.dead (λnm=>(st.mem nm).isSome) (a.eval p) (.ptr nm off))(hv:RelV cfg g st.dead (λnm=>(st.mem nm).isSome) (a.eval x) v)(hnew:v.cells=some new)(hcs:st.mem nm=some cs)(hl:new.length=zs.length)(hset:YK cs off new=some cs'):Does P o a w λv w'=>∃g',Out cfg B st g {mem:=[(nm,cs')]} v w' g':=by
 obtain⟨_,hp⟩:=hp;obtain⟨hs,_,_⟩:=Z2f ok ht w;have ae:=hv.cells hnew;have am:off+new.length<=cs.length:=by unfold YK at hset;grind
 have au:(a.eval x).cells.toList.length=new.length:=ae.1;have ab:∀j,j<cs.length->∃v c,cs[j]?=some c/\w.cell? ((g.ad nm).add j)=some v/\g.tag ((g.ad nm).add j)=some (.obj nm)/\RelC cfg g st.dead v c:=λj d=>let⟨v,h1,h2,h3⟩:=h.mem nm cs hcs j _ (Q1 d)
  ⟨v,_,Q1 d,h1,h2,h3⟩;obtain⟨w',h1,h2,h3,h4,h5,h6⟩:=JF (P:=P) ((g.ad nm).add off) (a.eval x).cells.toList 0 w ae.one (by
  intro j d;rw[Go.Deep.add_add,QQ];obtain⟨u,c,_,hu,aa,_⟩:=ab (off+j) Yp;exact⟨⟨u,hu⟩,(h.inv.it _ _ aa).1⟩);simp only[QQ,Go.Deep.add_add]at h2 h3 h4;refine .inr (.inl ⟨w',?_,g,?_⟩)
 .have a7:(a.eval x).cells.size=zs.length:=by simpa using au.trans hl
  simp only[execOp,ho,hp];simp[Instr.storeAt,Instr.sureAddr,storeVar,hs,a7,h1]
 .have ai:∀c,(∃j,j<(a.eval x).cells.toList.length/\c=(g.ad nm).add (off+j))->g.tag c=some (.obj nm):=by rintro c⟨j,d,rfl⟩;obtain⟨_,_,_,_,aa,_⟩:=ab (off+j) Yp;exact aa
  have af:∀c,g.tag c≠some (.obj nm)->w'.cell? c=w.cell? c:=λc hc=>h4 c λj d e=>hc (ai c ⟨j,d,e⟩);have aq:∀c v,g.m c=some v->w'.cell? c=some v:=λc v hv=>by obtain⟨h7,h8⟩:=h.inv.im c v hv;grind
  have ah:Keeps g g st.dead (Zp st ({mem:=[(nm,cs')]}:Eff U)) (λnm=>(st.mem nm).isSome) (Yi st ({mem:=[(nm,cs')]}:Eff U)):=by
   rw[Z7g st rfl];refine⟨λ_ _ h=>h,λ_ _ _ h=>h,λt ht=>by simpa using ht,λn hn=>⟨?_,rfl⟩,λ_ _ _ h=>h,λ_=>rfl⟩;simp only[Yi,ZX];split;.try rfl
   .exact hn
  refine⟨⟨λc v hv=>⟨aq c v hv,(h.inv.im c v hv).2⟩,λc t ba=>?_⟩,?_,ah,?_,trivial,h.ls_keep rfl ah aq (λc t _ ht=>af c (by rw[ht];simp)),h.fresh_keep rfl (λ_=>rfl)⟩;.obtain⟨h7,u,h8⟩:=h.inv.it c t ba;grind
  .exact h.fr.step h.inv h2 (λc hc=>⟨_,ai c hc,λt' e=>by cases e⟩) (λ_ _ h=>h) (λ_ _=>QM) (λ_ _ _ _ _=>rfl) (λ_=>rfl)
  .rw[Z7g st rfl];simp only[Bool.or_false];intro a6 bc hm j c d;simp only[ZX]at hm;split at hm
   .rename_i e;subst e;simp only[Option.some.injEq]at hm;subst hm;have bd:cs'.length=cs.length:=by unfold YK at hset;rw[if_pos am]at hset;simp only[Option.some.injEq]at hset;subst hset;simp;omega
    have a8:j<cs.length:=by have:=(Q4.1 d).1;omega
    obtain⟨v0,c0,ar,ak,aa,aj⟩:=ab j a8;unfold YK at hset;rw[if_pos am]at hset;simp only[Option.some.injEq]at hset;subst hset;simp only[Q7]at d;rw[QK]at d;simp only[Qu]at d;rw[Xs Yp]at d;split at d;.rename_i bb;rw[Xg bb,ar]at d;cases d;refine⟨v0,?_,aa,aj⟩;rw[h4 _ (λi hi e=>by have:=Z2k e;omega)];exact ak
    .rename_i bk;rw[QK]at d;split at d;.rename_i bg;have hx:(a.eval x).cells.toList[j-off]?=some ((a.eval x).cells.toList[j-off]'Yp):=Q1 _;have:=h3 (j-off) _ hx;rw[show off+(j-off)=j by omega]at this;exact⟨_,this,aa,ae.2 _ _ c hx d⟩
     .rename_i bf;rw[Qy,show off+new.length+(j-off-new.length)=j by omega,ar]at d;cases d;refine⟨v0,?_,aa,aj⟩;rw[h4 _ (λi hi e=>by have:=Z2k e;omega)];exact ak
   .rename_i e;obtain⟨v0,ak,aa,aj⟩:=h.mem a6 bc hm j c d;grind
theorem Zjk{k:IntKind}{n v:Int}:∀(l:List Int)(j0 j:Nat),(Z2M (U:=U) k n v j0 l)[j]?=(l[j]?).map λx=>.int k (Yv n (j0+j) v x)|[],j0,j=>by simp[Z2M]|x::l,j0,0=>by simp[Z2M]|x::l,j0,j+1=>by simp only[Z2M,XU];rw[Zjk l (j0+1) j,show j0+1+j=j0+(j+1)by omega]
theorem Z87{k:IntKind}{n v:Int}:∀(l:List Int)(j0:Nat),(Z2M (U:=U) k n v j0 l).length=l.length|[],_=>rfl|x::l,j0=>by simp[Z2M,Z87 l]
theorem Zve{k:IntKind}{cs:List (C U)}{off len:Nat}{n x:Int}{l:List Int}(hle:off+len<=cs.length)(hl:Z1M k ((cs.drop off).take len)=some l)(hn:0<=n/\n<len):YK cs (off+n.toNat) [.int k x]=some (cs.take off++Z2M k n x 0 l++cs.drop (off+len)):=by
 obtain⟨h1,h2⟩:=Z2T hl;have af:l.length=len:=by rw[h1,Qu,Qt];omega
 have d:∀j,j<len->cs[off+j]?=some (.int k (l.getD j 0)):=by
  intro j hj;have hg:l[j]?=some (l.getD j 0):=by simp[List.getD,Q1 (show j<l.length by omega)]
  have:=h2 j _ hg;rw[QZ,Qy,if_pos hj]at this;exact this
 unfold YK;rw[if_pos (by simp;omega)];congr 1;apply List.ext_getElem?;intro j;simp only[Q7,Qa,Qm];by_cases h3:j<off;.grind
 .have e2:(cs.take off++(Z2M k n x 0 l++cs.drop (off+len)))[j]?=(Z2M k n x 0 l++cs.drop (off+len))[j-off]?:=by rw[Qv (by simp;omega)];congr 1;simp;omega
  rw[e2];by_cases h4:j<off+len
  .have hg:l[j-off]?=some (l.getD (j-off) 0):=by simp[List.getD,Q1 (show j-off<l.length by omega)]
   have e6:(Z2M k n x 0 l++cs.drop (off+len))[j-off]?=some (.int k (Yv n (j-off:Nat) x (l.getD (j-off) 0))):=by rw[QB (l₁:=Z2M k n x 0 l) (by rw[Z87];omega),Zjk,hg,Qk,QQ]
   rw[e6];by_cases h5:j=off+n.toNat
   .subst h5;rw[Qv (by grind),QB (by simp;omega)];have e3:off+n.toNat-(cs.take (off+n.toNat)).length=0:=by simp;omega
    rw[e3];simp only[Xl,Yv];grind
   .have e4:Yv n (j-off:Nat) x (l.getD (j-off) 0)=l.getD (j-off) 0:=by unfold Yv;omega
    rw[e4];have e5:=d (j-off) Yp;rw[show off+(j-off)=j by omega]at e5;rw[<-e5];by_cases h6:j<off+n.toNat;.rw[QB (by simp;omega),Xg h6]
    .rw[Qv (by simp;omega),Qv (by simp;omega),Qy];congr 1;simp;omega
  .have e6:(Z2M k n x 0 l++cs.drop (off+len))[j-off]?=cs[j]?:=by rw[Qv (l₁:=Z2M k n x 0 l) (by rw[Z87];omega),Qy,Z87];congr 1;omega
   rw[e6,Qv (by simp;omega),Qv (by simp;omega),Qy];congr 1;simp;omega
theorem ZeY(ok:CfgOk P cfg)(h:Rel cfg B st g a w){o:Oper}{t:TypeId}{p x:Operand}{ag:Bool}{zs cs:List (C U)}{nm:Name}{off len:Nat}{k:IntKind}{n y:Int}{l:List Int}{v:V U}(ho:o.op=.store t p x)(ht:cfg.var t=some (ag,zs))(hp:RelV cfg g st.dead (λnm=>(st.mem nm).isSome) (a.eval p) (.ap nm off k len n))(hv:RelV cfg g st.dead (λnm=>(st.mem nm).isSome) (a.eval x) v)(hnew:v.cells=some [.int k y])(hcs:st.mem nm=some cs)(hz:zs.length=1)(hle:off+len<=cs.length)(hl:Z1M k ((cs.drop off).take len)=some l):Does P o a w λv d=>∃g',Out cfg B st g {mem:=[(nm,cs.take off++Z2M k n y 0 l++cs.drop (off+len))]} v d g':=Zd9 ok h ho ht (nm:=nm) (off:=off+n.toNat) ⟨hp.1,hp.2.2⟩ hv hnew hcs hz.symm (Zve hle hl hp.2.1)
theorem Zfv(ok:CfgOk P cfg)(h:Rel cfg B st g a w){o:Oper}{t et:TypeId}{x:Operand}{len:Nat}{T:U.Ty}{cs:List (C U)}{nm:Name}{l:List (U.El T)}(ho:o.op=.slice t x none none none)(ht:cfg.arr t=some (len,et))(hT:cfg.elT T=et)(hp:RelV cfg g st.dead (λnm=>(st.mem nm).isSome) (a.eval x) (.ptr nm 0))(hcs:st.mem nm=some cs)(hlen:cs.length=len)(hsz:cfg.sz T=1)(hl:(cs.mapM λc=>cfg.dec T [c])=some l):Does P o a w λv w'=>∃g',Out cfg B st g {val:=some (.c (.slice T l .full)),mem:=[(nm,[])]} v w' g':=by classical
 obtain⟨_,hp⟩:=hp;have h1:=ok.arr _ _ _ ht;have aw:P.arrayLen t=len:=by simp[Program.arrayLen,h1]
 have ay:P.elem t=et:=by simp[Program.elem,h1]
 have af:=J6 ok T w;have bc:l.length=cs.length:=mapM_length hl;let g':Gh:={m:=λc=>if g.tag c=some (.obj nm)then w.cell? c else g.m c,tag:=λc=>if g.tag c=some (.obj nm)then none else g.tag c,ad:=g.ad,bs:=g.bs};have hm:∀c v,g.m c=some v->g'.m c=some v:=λc v hv=>by
  have:=(h.inv.im c v hv).2;grind
 have aa:∀c t,t≠.obj nm->(g.tag c=some t↔g'.tag c=some t):=by
  intro c t ak;simp only[g'];split
  .rename_i e;rw[e];constructor;.intro h;cases h;exact absurd rfl ak
   .intro h;cases h
  .exact QM
 have hk:Keeps g g' st.dead (Zp st ({val:=some (.c (.slice T l .full)),mem:=[(nm,[])]}:Eff U)) (λnm=>(st.mem nm).isSome) (Yi st ({val:=some (.c (.slice T l .full)),mem:=[(nm,[])]}:Eff U)):=by
  rw[Z7g st rfl];refine⟨hm,λc t _ ht=>(aa c _ (by simp)).1 ht,λt ht=>by simpa using ht,λn hn=>⟨?_,rfl⟩,λ_ _ _ h=>h,λ_=>rfl⟩;simp only[Yi,ZX];split;.try rfl
  .exact hn
 refine .inl ⟨.slice (some (g.ad nm)) len len,w,?_,g',⟨?_,?_⟩,?_,hk,?_,?_,h.ls_keep rfl hk (λc v hv=>(h.inv.im c v hv).1) (λ_ _ _ _=>rfl),h.fresh_keep rfl (λ_=>rfl)⟩
 .simp only[execOp,ho,hp,Option.map_none];apply Z9W;rw[Addr.add_zero',run_sliceAt_array_all w t _ (by grind),ay,<-hT,af];simp[slicedAt,aw,Addr.add_zero']
 .intro c v hv;simp only[g']at hv⊢;split at hv;.grind
  .rename_i e;rw[if_neg e];exact h.inv.im c v hv
 .intro c t ht;simp only[g']at ht;split at ht;.cases ht
  .exact h.inv.it c t ht
 .refine h.fr.step h.inv (Evo.refl w (λ_=>False)) (λc hc=>hc.elim) hm (λc t=>aa c _ (by simp)) ?_ (λ_=>rfl);grind
 .intro ao ax d j c hj;simp only[ZX]at d;split at d;.grind
  .rename_i ak;obtain⟨v,h3,h4,h5⟩:=h.mem ao ax d j c hj;refine⟨v,h3,(aa _ _ (by grind)).1 h4,h5.keep hk⟩
 .refine⟨.of_rows .full Yp (Qc _) ?_,λ_ _ _ hv=>by cases hv;rfl⟩;intro i y hy j c hj;have hi:i<cs.length:=by have:=(Q4.1 hy).1;omega
  obtain⟨y',ai,aj⟩:=Z4D hl i _ (Q1 hi);rw[hy]at ai;cases ai;obtain⟨h6,h7⟩:=ok.dec_ok T _ _ aj;have aq:j=0:=by have:=(Q4.1 hj).1;simp at h6;omega
  subst aq;obtain⟨v,h8,h9,av⟩:=h.mem nm cs hcs i _ (Q1 hi);refine⟨v,?_,(av.1.mono hm).wk (h7 0 _ c rfl hj)⟩;grind where mapM_length{α β:Type}{f:α->Option β}:∀{l:List α}{r:List β},l.mapM f=some r->r.length=l.length|[],r,h=>by grind|x::l,r,h=>by rw[QW]at h;cases h1:f x with|none=>simp[h1]at h|some y=>cases h2:l.mapM f with|none=>grind|some r'=>simp[h1,h2]at h;subst h;simp[mapM_length h2]
theorem RelL.sim{vs:List Value}{cs:List (C U)}{dead:Tok->Bool}(h:RelL cfg g dead vs cs){j:Nat}{v:Value}{c:C U}(hv:vs[j]?=some v)(hc:cs[j]?=some c):SimC cfg g.m v c:=(h.2 j v c hv hc).1
theorem ZbG(ok:CfgOk P cfg){T:U.Ty}{cs:List (C U)}{x:U.El T}{vs:List Value}{m:Addr->Option Value}(hd:cfg.dec T cs=some x)(hl:vs.length=cs.length)(h:∀(j:Nat)v c,vs[j]?=some v->cs[j]?=some c->SimC cfg m v c):vs.length=cfg.sz T/\∀(j:Nat)c,(cfg.enc T x)[j]?=some c->∃v,vs[j]?=some v/\SimC cfg m v c:=by obtain⟨h1,h2⟩:=ok.dec_ok T cs x hd;have h3:=ok.enc_len T x;refine⟨Yp,λj c hc=>?_⟩;have hj:j<(cfg.enc T x).length:=(Q4.1 hc).1;have hv:vs[j]?=some (vs[j]'Yp):=Q1 _;have d:cs[j]?=some (cs[j]'Yp):=Q1 _;exact⟨_,hv,(h j _ _ hv d).wk (h2 j _ _ d hc)⟩
theorem Z77(h:Rel cfg B st g a w){w1:World}(hw:SameHeap w w1){T:U.Ty}{l:List (U.El T)}{arr:Array Value}(e:TypeId){cap:Nat}{tl:Tail}{d:Nat}{kl:List Tok}(hcap:l.length<=cap)(hsz:arr.size=cap*cfg.sz T)(htl:tl=.own (.r d 0)\/(tl=.full/\l.length=cap))(henc:∀x,(cfg.enc T x).length=cfg.sz T)(hrows:∀i x,l[i]?=some x->∀j c,(cfg.enc T x)[j]?=some c->∃v,arr[i*cfg.sz T+j]?=some v/\SimC cfg g.m v c):∃g',Out cfg B st g {val:=some (.c (.slice T l tl)),kill:=kl} (.slice (some ⟨w.heap.size,0,none⟩) l.length cap) (w1.alloc (.cells arr e)) g':=by
 let im:Nat->Bool:=λi=>decide (i<l.length*cfg.sz T);let tg:Nat->Option Tag:=λi=>if l.length*cfg.sz T<=i/\i<arr.size then some (.tok (.r d 0))else none;obtain⟨h1,h2,h3,h4,h5⟩:=Zpm h hw arr e im tg g.ad (by grind) (λ_ _=>rfl) (λ_=>rfl);refine⟨g.new w.heap.size arr im tg g.ad,h1,h2,?_,?_,?_,h.ls_keep rfl (h3 kl.contains _ (λnm hs=>hs)) (λc v hv=>h5 _ _ (h.inv.im c v hv).1) (λc t _ ht=>by obtain⟨_,v,hv⟩:=h.inv.it c _ ht;grind),h.fresh_keep rfl (λ_=>rfl)⟩;.exact h3 kl.contains _ (λnm hs=>hs)
 .have k:=h3 kl.contains (λnm=>(st.mem nm).isSome) (λ_ hs=>hs);intro nm cs hm j c hj;refine Zkn h k h5 ?_ nm cs hm j c hj;intro c t ht;have:=h.inv.lt ht;simp only[Gh.new];grind
 .have k:=h3 kl.contains (λnm=>(st.mem nm).isSome) (λ_ hs=>hs);refine⟨.of_rows tl rfl hcap ?_,?_⟩
  .intro i x hx j c hc;obtain⟨v,h6,h7⟩:=hrows i x hx j c hc;refine⟨v,?_,h7.mono k.m⟩;have hi:i<l.length:=(Q4.1 hx).1;have hj:j<cfg.sz T:=by have:=(Q4.1 hc).1;rw[henc]at this;exact this
   have ah:i*cfg.sz T+j<l.length*cfg.sz T:=by have:(i+1)*cfg.sz T<=l.length*cfg.sz T:=Qg _ hi;rw[QL]at this;omega
   rw[Addr.add_lit,QQ];simp only[Gh.new,and_self,if_true,im,ah,decide_true];exact h6
  .rcases htl with rfl|⟨rfl,hfull⟩;.intro _ b len ae hv j au ax;simp only[Value.slice.injEq,Option.some.injEq]at hv;obtain⟨rfl,rfl,rfl⟩:=hv;rw[Addr.add_lit,QQ];simp only[Gh.new,and_self,if_true,tg];grind
   .intro b len ae hv;grind
theorem ZcQ(ok:CfgOk P cfg){T:U.Ty}:∀(parts:List (Nat×Value))(ps:List (Nat×V U))(i:Nat)(l:List (U.El T))(vs:Array Value),Js cfg T i ps=some l->parts.length=ps.length->(∀(j:Nat)x y,parts[j]?=some x->ps[j]?=some y->x.1=y.1/\RelV cfg g st.dead (λnm=>(st.mem nm).isSome) x.2 y.2)->(i+parts.length)*cfg.sz T<=vs.size->l.length=ps.length/\∃d,Instr.fill (λk=>some (k*cfg.sz T,cfg.sz T)) vs parts=some d/\d.size=vs.size/\(∀q,q<i*cfg.sz T->d[q]?=vs[q]?)/\∀r x,l[r]?=some x->∀j c,(cfg.enc T x)[j]?=some c->∃v,d[(i+r)*cfg.sz T+j]?=some v/\SimC cfg g.m v c
 |[],[],i,l,vs,he,_,_,_=>by simp only[Js,Option.some.injEq]at he;subst he;exact⟨rfl,vs,rfl,rfl,λ_ _=>rfl,λr x hx=>by simp at hx⟩|(k,v)::parts,(k',y)::ps,i,l,vs,he,hl,hr,af=>by
  obtain⟨hk,hv⟩:=hr 0 _ _ rfl rfl;simp only at hk hv;subst hk;simp only[Js]at he;split at he
  .rename_i al;subst al;split at he
   .rename_i cs aq;split at he
    .rename_i x hx;cases hrec:Js cfg T (k+1) ps with
     |none=>grind|some l'=>
      simp only[hrec,Qk,Option.some.injEq]at he;subst he;have ab:=hv.cells aq;obtain⟨aj,ao⟩:=ZbG ok hx ab.1 (λj v c h1 h2=>ab.sim h1 h2);have hl:parts.length=ps.length:=by simpa using hl
      have af:(k+(parts.length+1))*cfg.sz T<=vs.size:=af;have ax:(k+1)*cfg.sz T<=(k+(parts.length+1))*cfg.sz T:=Qg _ Yp;have a1:(k+1)*cfg.sz T=k*cfg.sz T+cfg.sz T:=by rw[QL];omega
      have a7:v.cells.size=cfg.sz T:=by simpa using aj
      let vs1:Array Value:=v.cells.zipIdx.foldl (λcs(c,j)=>cs.setIfInBounds (k*cfg.sz T+j) c) vs;have aa:vs1.toList=vs.toList.take (k*cfg.sz T)++v.cells.toList++vs.toList.drop (k*cfg.sz T+v.cells.toList.length):=by show(v.cells.zipIdx.foldl (λcs(c,j)=>cs.setIfInBounds (k*cfg.sz T+j) c) vs).toList=_;rw[<-Array.foldl_toList,Array.toList_zipIdx];have:=ZgK (k*cfg.sz T) v.cells.toList 0 vs (by simp;omega);simpa using this
      have am:vs1.size=vs.size:=by have:=congrArg List.length aa;simp at this;omega
      obtain⟨h1,d,h2,h3,h4,h5⟩:=ZcQ ok parts ps (k+1) l' vs1 hrec hl (λj x y hx hy=>hr (j+1) x y (by simpa using hx) (by simpa using hy)) (by grind);have ae:∀q:Nat,vs1[q]?=vs1.toList[q]?:=λq=>(XF ..).symm;refine⟨by simp[h1],d,?_,by rw[h3,am],?_,?_⟩;.simp only[Instr.fill];grind
      .intro q hq;rw[h4 q Yp,ae,aa,Q7,QB (by simp;omega),Xg hq];simp
      .intro r x' ai j c hc;cases r with
       |zero=>
        simp only[Xl,Option.some.injEq]at ai;subst ai;obtain⟨u,h6,h7⟩:=ao j c hc;refine⟨u,?_,h7⟩;have hj:j<cfg.sz T:=by have:=(Q4.1 hc).1;rw[ok.enc_len]at this;exact this
        rw[Xx,h4 _ Yp,ae,aa,Q7,Qv (by simp;omega)];have e:k*cfg.sz T+j-(vs.toList.take (k*cfg.sz T)).length=j:=by simp;omega
        grind|succ r=>grind
    .cases he
   .cases he
  .cases he
theorem ZcW(ok:CfgOk P cfg)(h:Rel cfg B st g a w){o:Oper}{t:TypeId}{n:Nat}{parts:Array (Nat×Operand)}{T:U.Ty}{ps:List (Nat×V U)}{l:List (U.El T)}(ho:o.op=.buildSlice t n parts)(hT:cfg.slT t=some T)(hl:parts.size=ps.length)(hn:ps.length=n)(hsmall:n*cfg.sz T<=16777216)(hr:∀(j:Nat)x y,parts[j]?=some x->ps[j]?=some y->x.1=y.1/\RelV cfg g st.dead (λnm=>(st.mem nm).isSome) (a.eval x.2) y.2)(he:Js cfg T 0 ps=some l):Does P o a w λv w'=>∃g',Out cfg B st g {val:=some (.c (.slice T l .full))} v w' g':=by
 obtain⟨hE,hU⟩:=Jo ok hT;obtain⟨i,ag,zs,z,h1,h2,h3,h4,h5,h6⟩:=ok.el T;obtain⟨z',hz,hZ⟩:=Z2N ok h5 w;have al:z'=z:=by simp[zeroValue,typeInfo,h1,h4]at hz;exact hz.symm
 subst al;have ay:z'.cells.size=cfg.sz T:=by have:=(Z0U (g:=g) (st:=st) (cfg:=cfg) hZ).1;simp at this;omega
 let vs0:Array Value:=if n*cfg.sz T=0 then(Array.range (n*cfg.sz T)).map ((#[]:Array Value)[· %0]!)else(Array.range (n*cfg.sz T)).map (z'.cells[· %z'.cells.size]!);have ai:vs0.size=n*cfg.sz T:=by simp only[vs0];split<;>simp
 obtain⟨ao,vs',h7,h8,_,h9⟩:=ZcQ (g:=g) (st:=st) ok (parts.toList.map λx=>(x.1,a.eval x.2)) ps 0 l vs0 he (by simpa using hl) (by grind) (by grind);have aa:l.length=n:=Yp;obtain⟨g',ab⟩:=Z77 (T:=T) (l:=l) (arr:=vs') (d:=0) (kl:=[]) h (SameHeap.refl w) (P.elem t) (cap:=n) (tl:=.full) Yp (by rw[h8,ai]) (.inr ⟨rfl,aa⟩) (ok.enc_len T) (λi x hx j c hc=>by grind);rw[aa]at ab;refine .inl ⟨_,_,?_,g',ab⟩;have ah:=J6 ok T w;rw[<-hE]at ah hz;simp only[execOp,ho];apply Z9W;simp only[Instr.buildSlice,Sem.run_bind,run_underlying hU,Result.andThen_ok,ah];rw[JH];by_cases h0:n*cfg.sz T=0
 .simp only[h0,if_true];simp only[vs0,h0,if_true]at h7;have ae:Instr.fill (λi=>some (i*cfg.sz T,cfg.sz T)) ((Array.range 0).map ((#[]:Array Value)[· %(#[]:Array Value).size]!)) (parts.map λx=>(x.1,a.eval x.2)).toList=some vs':=by rw[Xn];exact h7
  simp only[Sem.run_bind,Sem.run_pure,Result.andThen_ok,ae];try rfl
 .simp only[h0,if_false];simp only[vs0,h0,if_false]at h7;have ae:Instr.fill (λi=>some (i*cfg.sz T,cfg.sz T)) ((Array.range (n*cfg.sz T)).map (z'.cells[· %z'.cells.size]!)) (parts.map λx=>(x.1,a.eval x.2)).toList=some vs':=by rw[Xn];exact h7
  simp only[Sem.run_bind,Sem.run_pure,Result.andThen_ok,hz,ae];try rfl
theorem Z4n(ok:CfgOk P cfg){m:Addr->Option Value}{T:U.Ty}{l:List (U.El T)}{tl:Tail}{b:Addr}{len cap:Nat}(hs:SimC cfg m (.slice (some b) len cap) (.slice T l tl)):∃vs:List Value,vs.length=len*cfg.sz T/\(∀(j:Nat)v,vs[j]?=some v->m (b.add j)=some v/\v.oneCell'=true)/\∀(i:Nat)x,l[i]?=some x->∀(j:Nat)c,(cfg.enc T x)[j]?=some c->∃v,vs[i*cfg.sz T+j]?=some v/\SimC cfg m v c:=by
 have hl:l.length=len:=by cases hs;assumption
 have hr:=hs.rows;have d:=ok.sz_pos T;let f:Nat->Value:=λj=>(m (b.add j)).getD undef;have hf:∀j,j<len*cfg.sz T->m (b.add j)=some (f j)/\(f j).oneCell'=true:=by
  intro j hj;have hi:j/cfg.sz T<l.length:=by rw[hl];exact Xv (by grind)
  have ab:j%cfg.sz T<(cfg.enc T (l[j/cfg.sz T])).length:=by rw[ok.enc_len];exact XQ _ d
  obtain⟨v,h1,h2⟩:=hr _ _ (Q1 hi) _ _ (Q1 ab);have e:j/cfg.sz T*cfg.sz T+j%cfg.sz T=j:=by rw[Xq];exact XL _ _
  rw[e]at h1;simp only[f,h1];exact⟨rfl,h2.one.1⟩
 refine⟨(List.range (len*cfg.sz T)).map f,by simp,?_,?_⟩;.grind
 .intro i x hx j c hc;obtain⟨v,h1,h2⟩:=hr i x hx j c hc;have hi:i<l.length:=(Q4.1 hx).1;have hj:j<cfg.sz T:=by have:=(Q4.1 hc).1;rw[ok.enc_len]at this;exact this
  have aj:i*cfg.sz T+j<len*cfg.sz T:=by have:(i+1)*cfg.sz T<=len*cfg.sz T:=Qg _ Yp;rw[QL]at this;omega
  grind
theorem Z3G{T:U.Ty}{l l':List (U.El T)}{vs vs':List Value}{m:Addr->Option Value}(hl:vs.length=l.length*cfg.sz T)(henc:∀x,(cfg.enc T x).length=cfg.sz T)(h:∀(i:Nat)x,l[i]?=some x->∀(j:Nat)c,(cfg.enc T x)[j]?=some c->∃v,vs[i*cfg.sz T+j]?=some v/\SimC cfg m v c)(h':∀(i:Nat)x,l'[i]?=some x->∀(j:Nat)c,(cfg.enc T x)[j]?=some c->∃v,vs'[i*cfg.sz T+j]?=some v/\SimC cfg m v c):∀(i:Nat)x,(l++l')[i]?=some x->∀(j:Nat)c,(cfg.enc T x)[j]?=some c->∃v,(vs++vs')[i*cfg.sz T+j]?=some v/\SimC cfg m v c:=by
 intro i x d j c hc;have hj:j<cfg.sz T:=by have:=(Q4.1 hc).1;rw[henc]at this;exact this
 rw[QK]at d;split at d;.grind
 .rename_i ab;obtain⟨v,h1,h2⟩:=h' _ x d j c hc;refine⟨v,?_,h2⟩;have e1:l.length*cfg.sz T<=i*cfg.sz T:=Qg _ Yp;rw[Qv Yp,hl,<-h1];congr 1;rw[KA];omega
theorem Ze9(ok:CfgOk P cfg)(h:Rel cfg B st g a w){o:Oper}{t:TypeId}{p q:Operand}{T:U.Ty}{n m:Int}{ag:Bool}{zs:List (C U)}{z:U.El T}(ho:o.op=.makeSlice t p q)(hT:cfg.slT t=some T)(hp:a.eval p=.int .i64 n)(hq:a.eval q=.int .i64 m)(hz:cfg.var (cfg.elT T)=some (ag,zs))(hd:cfg.dec T zs=some z)(hn:0<=n/\n*cfg.bytes T<=140737488355328/\n<=9223372036854775807)(hm:m=n):Does P o a w λv w'=>∃g',Out cfg B st g {val:=some (.c (.slice T (List.replicate n.toNat z) .full))} v w' g':=by
 have aq:=hm.symm;subst aq;obtain⟨k,rfl⟩:=QH hn.1;simp only[Kc]at*;rw[X3];obtain⟨hE,hU⟩:=Jo ok hT;obtain⟨i,bb,ba,z',h1,h2,h3,h4,h5,h6⟩:=ok.el T;rw[hz]at h5;simp only[oP]at h5;obtain⟨rfl,rfl⟩:=h5;obtain⟨aa,af,hZ⟩:=Z2N ok hz w;have ar:aa=z':=by simp[zeroValue,typeInfo,h1,h4]at af;exact af.symm
 subst ar;have ab:=Z0U (g:=g) (st:=st) (cfg:=cfg) hZ;have aw:aa.cells.size=cfg.sz T:=by have:=ab.1;simp at this;omega
 have a1:=ok.sz_pos T;obtain⟨a7,ax⟩:=ZbG ok hd ab.1 (λj v c h1 h2=>ab.sim h1 h2);let arr:Array Value:=(Array.range (k*cfg.sz T)).map (aa.cells[· %aa.cells.size]!);obtain⟨g',ah⟩:=Z77 (T:=T) (l:=List.replicate k z) (arr:=arr) (d:=0) (kl:=[]) h (SameHeap.refl w) (P.elem t) (cap:=k) (tl:=.full) (by simp) (by simp[arr]) (.inr ⟨rfl,by simp⟩) (ok.enc_len T) (by
   intro i x hx j c hc;obtain⟨hi,hx⟩:=Q4.1 hx;simp at hx hi;subst hx;obtain⟨v,h7,h8⟩:=ax j c hc;have hj:j<cfg.sz T:=by have:=(Q4.1 hc).1;rw[ok.enc_len]at this;exact this
   have bh:i*cfg.sz T+j<k*cfg.sz T:=by have:(i+1)*cfg.sz T<=k*cfg.sz T:=Qg _ Yp;rw[QL]at this;omega
   refine⟨v,?_,h8⟩;have h9:aa.cells[j]?=some v:=by rw[<-h7];simp
   have a8:j<aa.cells.size:=Yp;have e:(i*cfg.sz T+j)%aa.cells.size=j:=by rw[aw,Xq,K7,XY hj]
   grind);rw[Xt]at ah;refine .inl ⟨_,_,?_,g',ah⟩;have ai:=J6 ok T w;rw[<-hE]at ai af;have ae:(typeInfo (P.elem t)).run P w=.ok i w:=by rw[hE];simp[typeInfo,h1]
 have hw:IntKind.i64.wrap (k:Int)=k:=by simp[IntKind.wrap,IntKind.signed,IntKind.bits];omega
 have aj:¬(281474976710656<(i.bytes:Int)*(k:Int)):=by rw[h3,Int.mul_comm];have:=hn.2.1;omega
 have al:¬(k:Int)<0:=Yp;simp only[execOp,ho];apply Z9W;simp only[hp,hq];by_cases h0:k*cfg.sz T=0
 .have ak:arr=#[]:=by simp only[arr,h0];simp
  simp[Instr.makeSlice,run_underlying hU,asInt,asIntOf,ae,hw,aj,al,ai,h0,newRow,ak];grind
 .have au:(decide ((k:Int)<0)||decide ((i.bytes:Int)*(k:Int)>2^48)||decide ((k:Int)<0)||decide ((k:Int)>(k:Int)))=false:=by simp[aj,al]
  simp only[Instr.makeSlice,Sem.run_bind,run_underlying hU,Result.andThen_ok,asInt,asIntOf,Sem.run_pure,ae,hw,au];simp only[X9,if_false,Sem.run_bind,run_askRoom,Result.andThen_ok,ai,X3,h0,af,Sem.run_pure];try rfl
open Classical in noncomputable def Gh.grown(g:Gh)(w':World)(b:Addr)(lo mid hi:Nat)(t:Tok):Gh:=
 {m:=λc=>if∃j,lo<=j/\j<mid/\c=b.add j then w'.cell? c else g.m c
  tag:=λc=>if∃j,lo<=j/\j<mid/\c=b.add j then none else if∃j,mid<=j/\j<hi/\c=b.add j then some (.tok t)else g.tag c
  ad:=g.ad
  bs:=g.bs}
theorem Zee(ok:CfgOk P cfg)(h:Rel cfg B st g a w){T:U.Ty}{l l':List (U.El T)}{tl:Tail}{b:Addr}{len cap n:Nat}{vs:List Value}{d:Nat}{kl:List Tok}(hx:RelC cfg g st.dead (.slice (some b) len cap) (.slice T l tl))(hl:l.length=len)(hc:len<=cap)(hfit:len+n<=cap)(hln:l'.length=n)(hvl:vs.length=n*cfg.sz T)(hvo:∀v∈vs,v.oneCell'=true)(hvr:∀(i:Nat)x,l'[i]?=some x->∀(j:Nat)c,(cfg.enc T x)[j]?=some c->∃v,vs[i*cfg.sz T+j]?=some v/\SimC cfg g.m v c)(htl:(tl=.full/\kl=[])\/∃u,tl=.own u/\st.dead u=false/\kl=[u]):∃w' g',(storeCells (b.add (len*cfg.sz T)) vs).run P w=.ok () w'/\Out cfg B st g {val:=some (.c (.slice T (l++l') (.own (.r d 0)))),kill:=kl} (.slice (some b) (len+n) cap) w' g':=by
 have bp:(len+n)*cfg.sz T=len*cfg.sz T+n*cfg.sz T:=QL ..;have bi:(len+n)*cfg.sz T<=cap*cfg.sz T:=Qg _ hfit;have ak:∀j,len*cfg.sz T<=j->j<cap*cfg.sz T->∃u,kl=[u]/\g.tag (b.add j)=some (.tok u):=by
  intro j h1 h2;rcases htl with⟨rfl,_⟩|⟨u,rfl,hu,rfl⟩;.have:=hx.2 _ _ _ rfl;subst this;omega
  .exact⟨u,rfl,hx.2 hu b len cap rfl j h1 h2⟩
 obtain⟨w',h1,h2,h3,h4,h5,h6⟩:=JF (P:=P) (b.add (len*cfg.sz T)) vs 0 w hvo (by intro j hj;rw[Go.Deep.add_add,QQ];obtain⟨u,_,ht⟩:=ak (len*cfg.sz T+j) Yp Yp;obtain⟨h7,v,h8⟩:=h.inv.it _ _ ht;exact⟨⟨v,h8⟩,h7⟩);simp only[QQ,Go.Deep.add_add]at h2 h3 h4;let g':=g.grown w' b (len*cfg.sz T) ((len+n)*cfg.sz T) (cap*cfg.sz T) (.r d 0);have hS:∀c,(∃j,len*cfg.sz T<=j/\j<cap*cfg.sz T/\c=b.add j)->∃u,kl=[u]/\g.tag c=some (.tok u):=by rintro c⟨j,am,ao,rfl⟩;exact ak j am ao
 have bo:∀c,(∃j,len*cfg.sz T<=j/\j<(len+n)*cfg.sz T/\c=b.add j)->∃v,w'.cell? c=some v:=by
  rintro c⟨j,am,ao,rfl⟩;have:=h3 (j-len*cfg.sz T) _ (Q1 Yp);rw[show len*cfg.sz T+(j-len*cfg.sz T)=j by omega]at this;exact⟨_,this⟩
 have av:∀c v,g.m c=some v->w'.cell? c=some v/\¬(∃j,len*cfg.sz T<=j/\j<cap*cfg.sz T/\c=b.add j):=by
  intro c v hv;obtain⟨h7,h8⟩:=h.inv.im c v hv;have ah:¬(∃j,len*cfg.sz T<=j/\j<cap*cfg.sz T/\c=b.add j):=λhc=>by obtain⟨u,_,h9⟩:=hS c hc;rw[h8]at h9;cases h9
  refine⟨?_,ah⟩;rw[h4 c λj hj e=>ah ⟨_,Yp,Yp,e⟩];exact h7
 have al:∀c v,g.m c=some v->g'.m c=some v:=by intro c v hv;have:=(av c v hv).2;simp only[g',Gh.grown];rw[if_neg (λ⟨j,a1,a2,a3⟩=>this ⟨j,a1,Yp,a3⟩)];exact hv
 have ae:∀c,¬(∃j,len*cfg.sz T<=j/\j<cap*cfg.sz T/\c=b.add j)->g'.tag c=g.tag c:=by intro c ah;simp only[g',Gh.grown];rw[if_neg (λ⟨j,a1,a2,a3⟩=>ah ⟨j,a1,Yp,a3⟩),if_neg (λ⟨j,a1,a2,a3⟩=>ah ⟨j,Yp,a2,a3⟩)]
 have a8:Inv g'.m g'.tag w':=by
  refine⟨λc v hv=>?_,λc t ht=>?_⟩
  .simp only[g',Gh.grown]at hv⊢;split at hv;.rename_i hc;rw[if_pos hc];exact⟨hv,rfl⟩
   .rename_i hc;rw[if_neg hc];obtain⟨h7,h8⟩:=av c v hv;refine⟨h7,?_⟩;rw[if_neg (λ⟨j,a1,a2,a3⟩=>h8 ⟨j,Yp,a2,a3⟩)];exact(h.inv.im c v hv).2
  .have aq:∀t',g.tag c=some t'->w'.frozen? c=false/\∃v,w'.cell? c=some v:=by
    intro t' bl;obtain⟨h7,u,h8⟩:=h.inv.it c t' bl;exact⟨(h5 c).trans h7,h2.some c u h8⟩
   simp only[g',Gh.grown]at ht;split at ht;.cases ht
   .split at ht;.rename_i hc;obtain⟨j,a1,a2,a3⟩:=hc;obtain⟨u,_,h7⟩:=hS c ⟨j,Yp,a2,a3⟩;exact aq _ h7
    .exact aq t ht
 have ai:Keeps g g' st.dead (λt=>st.dead t||kl.contains t) (λnm=>(st.mem nm).isSome) (λnm=>(st.mem nm).isSome):=by
  refine⟨al,λc t hd ht=>?_,λt ht=>?_,λnm hn=>⟨hn,rfl⟩,λ_ _ _ h=>h,λ_=>rfl⟩
  .rw[ae c ?_];.exact ht
   .intro hc;obtain⟨u,hu,h7⟩:=hS c hc;rw[ht]at h7;cases h7;rw[hu]at hd;simp at hd
  .simp only[QO]at ht;exact ht.1
 refine⟨w',g',h1,a8,?_,ai,?_,?_,h.ls_keep rfl ai (λc v hv=>(av c v hv).1) (λc t hd ht=>?_),h.fresh_keep rfl (λ_=>rfl)⟩
 .refine h.fr.step h.inv h2 ?_ al ?_ ?_ (λ_=>rfl)
  .rintro c⟨j,hj,rfl⟩;obtain⟨u,_,ht⟩:=ak (len*cfg.sz T+j) Yp Yp;exact⟨_,ht,λt' e=>by cases e⟩
  .intro c t;by_cases hc:∃j,len*cfg.sz T<=j/\j<cap*cfg.sz T/\c=b.add j
   .obtain⟨u,_,h7⟩:=hS c hc;constructor;.intro h8;rw[h7]at h8;cases h8
    .intro h8;simp only[g',Gh.grown]at h8;split at h8;.cases h8
     .split at h8;.cases h8
      .exact h8
   .rw[ae c hc]
  .intro bb _ a7 o s;refine ae _ λhc=>?_;obtain⟨u,_,h7⟩:=hS _ hc;obtain⟨t',h8⟩:=a7 _ _ _ h7;cases h8
 .intro nm cs hm j c hj;obtain⟨v,h7,h8,h9⟩:=h.mem nm cs hm j c hj;have ah:¬(∃i,len*cfg.sz T<=i/\i<cap*cfg.sz T/\(g.ad nm).add j=b.add i):=λhc=>by obtain⟨u,_,aw⟩:=hS _ hc;rw[h8]at aw;cases aw
  refine⟨v,?_,(ae _ ah).trans h8,h9.keep ai⟩;show w'.cell? ((g.ad nm).add j)=some v;rw[h4 _ λi hi e=>ah ⟨_,Yp,Yp,e⟩];exact h7
 .refine⟨.of_rows _ (by simp[hl,hln]) hfit ?_,?_⟩
  .obtain⟨us,be,bj,bh⟩:=Z4n ok hx.1;have:=Z3G (m:=g.m) (vs:=us) (vs':=vs) (by rw[be,hl]) (ok.enc_len T) bh hvr;intro i x hi j c hj;obtain⟨v,h7,h8⟩:=this i x hi j c hj;refine⟨v,?_,h8.mono al⟩;by_cases hlt:i*cfg.sz T+j<len*cfg.sz T;.rw[QB Yp]at h7;exact al _ _ (bj _ _ h7).1
   .rw[Qv Yp,be]at h7;have h9:=h3 _ _ h7;rw[show len*cfg.sz T+(i*cfg.sz T+j-len*cfg.sz T)=i*cfg.sz T+j by omega]at h9;have aw:=(Q4.1 h7).1;simp only[g',Gh.grown];rw[if_pos ⟨i*cfg.sz T+j,Yp,Yp,rfl⟩];exact h9
  .intro _ b' bn bm hv j am ao;simp only[Value.slice.injEq,Option.some.injEq]at hv;obtain⟨rfl,rfl,rfl⟩:=hv;simp only[g',Gh.grown];rw[if_neg (λ⟨i,a1,a2,a3⟩=>by have:=Z2k a3;omega),if_pos ⟨j,am,ao,rfl⟩]
 .refine h4 c λj hj e=>?_;obtain⟨u,hu,h7⟩:=ak (len*cfg.sz T+j) Yp Yp;rw[e,h7]at ht;cases ht;rw[hu]at hd;simp[Zp]at hd
theorem Z6T(w:World)(need old:Nat)(e:TypeId):need<=grownCap w need old e:=by exact Nat.le_add_right _ _
theorem Zlr(ok:CfgOk P cfg)(h:Rel cfg B st g a w){o:Oper}{d:Nat}{t:TypeId}{x y:C U}{px py:Operand}{ps:List Prop}{e:Eff U}(ho:o.op=.call {callee:=.builtin .append,args:=#[px,py],argTypes:=#[t,t]})(hx:RelC cfg g st.dead (a.eval px) x)(hy:RelC cfg g st.dead (a.eval py) y)(he:Z89 cfg st d t x y=some (ps,e))(hps:All ps):Does P o a w λv w'=>∃g',Out cfg B st g e v w' g':=by
 unfold Z89 at he;split at he;.cases he
 rename_i T hT;split at he;case h_2=>cases he
 rename_i l tl l' cp bz b2;obtain⟨hE,hU⟩:=Jo ok hT;obtain⟨a7,b,len,cap,bh,hl,hc,hb⟩:=Z56 hx bz;obtain⟨a8,b',n,aj,ba,af,cy,bt⟩:=Z56 hy b2;rw[bh]at a7;rw[ba]at a8;have b4:P.underlying t=some (.slice (cfg.elT T)):=by rw[hE]at hU;exact hU
 obtain⟨i,ag,zs,z,hi,bg,cl,hz,bj,cx⟩:=ok.el T;have ai:(l.length+l'.length)*cfg.bytes T<=140737488355328:=by
  split at he;.cases he
  .simp only[oP]at he;rw[<-he.1]at hps;exact hps.1
  .split at he;.cases he
   .simp only[oP]at he;rw[<-he.1]at hps;exact hps.1
 have aw:∃kl,e={val:=some (.c (.slice T (l++l') (.own (.r d 0)))),kill:=kl}/\((tl=.full/\kl=[])\/∃u,tl=.own u/\st.dead u=false/\kl=[u]):=by
  split at he;.cases he
  .simp only[oP]at he;exact⟨[],he.2.symm,.inl ⟨rfl,rfl⟩⟩
  .split at he;.cases he
   .rename_i u _ hu;simp only[oP]at he;exact⟨[u],he.2.symm,.inr ⟨u,rfl,by simpa using hu,rfl⟩⟩
 obtain⟨kl,rfl,aw⟩:=aw;rw[hl,af]at ai;have b6:=ok.bytes_pos T;have ca:len+n<=140737488355328:=X2 (XT _ b6) ai;have bb:∃vs:List Value,vs.length=n*cfg.sz T/\(∀v∈vs,v.oneCell'=true)/\(∀w:World,(∀c v,g.m c=some v->w.cell? c=some v)->(Builtin.firstCells i.size n (.slice b' n aj)).run P w=.ok vs.toArray w)/\(∀(k:Nat)x,l'[k]?=some x->∀(j:Nat)c,(cfg.enc T x)[j]?=some c->∃v,vs[k*cfg.sz T+j]?=some v/\SimC cfg g.m v c)/\(∀a',b'=some a'->∀(j:Nat)v,vs[j]?=some v->g.m (a'.add j)=some v):=by cases b' with
  |none=>
   obtain⟨rfl,rfl⟩:=bt rfl;have ah:l'=[]:=Q0 af;subst ah;exact⟨[],by simp,by simp,λw _=>run_firstCells_none w _ _ _ _,λk x hx=>by simp at hx,λa' ha=>by cases ha⟩|some a'=>
   obtain⟨vs,h1,h2,h3⟩:=Z4n ok a8.1;refine⟨vs,h1,λv hv=>?_,λw hw=>?_,h3,λcq ha j v hv=>?_⟩;.obtain⟨j,hj,rfl⟩:=Xe hv;exact(h2 j _ (Q1 hj)).2
   .exact run_firstCells_some w i.size n a' n aj vs (by grind) (λj v hv=>hw _ _ (h2 j v hv).1)
   grind
 obtain⟨vs,bk,bp,aa,bd,ch⟩:=bb;have ay:∀c v,g.m c=some v->w.cell? c=some v:=λc v hv=>(h.inv.im c v hv).1;have ab:(execOp a.eval o).run P w=((Builtin.append_ #[t,t] o.type #[.slice b len cap,.slice b' n aj]).run P w).andThen λv w=>.ok (.value v) w:=by simp only[execOp,ho,resolve,Sem.run_bind,Sem.run_pure,Result.andThen_ok,invoke,builtin];simp[bh,ba]
 have az:∀w,(underlying t).run P w=.ok (.slice (cfg.elT T)) w:=λw=>run_underlying b4 w;by_cases hfit:len+n<=cap;.cases b with
  |none=>
   obtain⟨rfl,rfl⟩:=hb rfl;have b0:n=0:=Yp;subst b0;have ah:l=[]:=Q0 hl;have bx:l'=[]:=Q0 af;subst ah bx;have bu:vs=[]:=Q0 Yp;subst bu;have a6:Keeps g g st.dead (Zp st ({val:=some (.c (.slice T ([]++[]) (.own (.r d 0)))),kill:=kl}:Eff U)) (λnm=>(st.mem nm).isSome) (Yi st ({val:=some (.c (.slice T ([]++[]) (.own (.r d 0)))),kill:=kl}:Eff U)):=⟨λ_ _ h=>h,λ_ _ _ h=>h,λt ht=>by simp only[Zp,QO]at ht;exact ht.1,λnm hn=>⟨hn,rfl⟩,λ_ _ _ h=>h,λ_=>rfl⟩;refine .inl ⟨.slice none 0 0,w,?_,g,h.inv,h.fr,a6,?_,⟨.snil T _,λ_ a len cap hv=>by simp at hv⟩,h.ls_keep rfl a6 (λc v hv=>(h.inv.im c v hv).1) (λ_ _ _ _=>rfl),h.fresh_keep rfl (λ_=>rfl)⟩;.rw[ab];simp[Builtin.append_,az,sizeOf,typeInfo,hi,Builtin.lenOf,aa w ay]
   .intro nm cs hm j c hj;obtain⟨v,h7,h8,h9⟩:=h.mem nm cs hm j c hj;exact⟨v,h7,h8,h9.keep a6⟩|some b=>obtain⟨w',g',h1,h2⟩:=Zee (P:=P) (d:=d) ok h a7 hl hc hfit af bk bp bd aw;refine .inl ⟨_,w',?_,g',h2⟩;rw[ab];rw[<-bg]at h1;simp[Builtin.append_,az,sizeOf,typeInfo,hi,Builtin.lenOf,aa w ay,hfit,h1]
 .have av:cap<len+n:=Yp;have bv:0<n:=Yp;have cg:¬((len+n:Nat):Int)>9223372036854775807:=Yp;have b8:Builtin.nextslicecap (len+n) cap*i.bytes<=281474976710656:=growslice_fits av (by grind);have aq:=Z6T w (len+n) cap (cfg.elT T);have be:∃us:List Value,us.length=len*cfg.sz T/\(∀w:World,(∀c v,g.m c=some v->w.cell? c=some v)->(Builtin.firstCells i.size len (.slice b len cap)).run P w=.ok us.toArray w)/\∀(k:Nat)x,l[k]?=some x->∀(j:Nat)c,(cfg.enc T x)[j]?=some c->∃v,us[k*cfg.sz T+j]?=some v/\SimC cfg g.m v c:=by cases b with
   |none=>
    obtain⟨rfl,rfl⟩:=hb rfl;have ah:l=[]:=Q0 hl;subst ah;exact⟨[],by simp,λw _=>run_firstCells_none w _ _ _ _,λk x hx=>by simp at hx⟩|some b=>obtain⟨us,h1,h2,h3⟩:=Z4n ok a7.1;exact⟨us,h1,λw hw=>run_firstCells_some w i.size len b len cap us (by grind) (λj v hv=>hw _ _ (h2 j v hv).1),h3⟩
  obtain⟨us,am,ax,b1⟩:=be;have b5:z.cells.size=cfg.sz T:=by
   obtain⟨z',bf,hZ⟩:=Z2N ok bj w;have:z'=z:=by simp[zeroValue,typeInfo,hi,hz]at bf;exact bf.symm
   subst this;have:=(Z0U (g:=g) (st:=st) (cfg:=cfg) hZ).1;simp at this;omega
  let nc:=grownCap w (len+n) cap (cfg.elT T);let arr:Array Value:=us.toArray++vs.toArray++Builtin.zeroCells z.cells (nc-(len+n));have cu:len+n<=nc:=aq;have bc:arr.size=nc*cfg.sz T:=by
   have e1:(len+n)*cfg.sz T+(nc-(len+n))*cfg.sz T=nc*cfg.sz T:=by rw[<-QL];congr 1;omega
   rw[QL]at e1;simp[arr,Builtin.zeroCells,am,bk,b5];omega
  have ar:=Z3G (m:=g.m) (vs:=us) (vs':=vs) (by rw[am,hl]) (ok.enc_len T) b1 bd;obtain⟨g',al⟩:=Z77 (T:=T) (l:=l++l') (arr:=arr) (d:=d) (kl:=kl) h (SameHeap.drew w) (cfg.elT T) (cap:=nc) (tl:=.own (.r d 0)) (by grind) bc (.inl rfl) (ok.enc_len T) (λk x hx j c hc=>by obtain⟨v,h1,h2⟩:=ar k x hx j c hc;grind);rw[show(l++l').length=len+n by simp[hl,af]]at al;refine .inl ⟨_,_,?_,g',al⟩;have bi:∀c v,g.m c=some v->w.drew.cell? c=some v:=λc v hv=>(ay c v hv);rw[ab];have bo:¬(Builtin.nextslicecap (len+n) cap*i.bytes>2^48):=Yp;have cz:¬i.bytes=0:=Yp;have br:¬((9223372036854775807:Int)<(len:Int)+(n:Int)):=Yp;simp[Builtin.append_,az,sizeOf,typeInfo,zeroValue,hi,hz,Builtin.lenOf,hfit,br,bo,Question.forced,ax w.drew bi,aa w.drew bi,newRow];refine⟨rfl,?_⟩;simp only[arr,nc,grownCap,Kk]
end Go.AM
namespace Go.AM
variable{U:Uni}{P:Program}{cfg:Cfg U}{B:Base}{st:FSt U}{g:Gh}{a:Act}{w:World}
def Gh.setBs(g:Gh)(t:Tok)(v:Value×Nat):Gh:={g with bs:=λu=>if u=t then some v else g.bs u}
theorem Fr.setBs{t:Tok}{v:Value×Nat}(h:Fr B g w):Fr B (g.setBs t v) w:=⟨h.stay,h.xad,h.mono,h.outer,h.outer',h.clean,h.frz⟩
theorem Keeps.setBs{g':Gh}{dead dead2:Tok->Bool}{live live2:Name->Bool}{t:Tok}{v:Value×Nat}(k:Keeps g g' dead dead2 live live2)(hf:g.bs t=none):Keeps g (g'.setBs t v) dead dead2 live live2:=⟨k.m,k.tok,k.dead,k.ad,λu x d hu=>by
  simp only[Gh.setBs];split;.grind
  .exact k.bs u x d hu,k.adx⟩
def ZO(d:Nat)(T:U.Ty)(l:List (U.El T))(f:Nat)(kl:List Tok):Eff U:={val:=some (.c (.mref (.r d 0))),kill:=kl,ls:=[(.r d 0,⟨T,l,f⟩)]}
theorem ZcC{d:Nat}{T:U.Ty}{l:List (U.El T)}{f:Nat}{kl:List Tok}{t:Tok}{x:LC U}(h:JV st.ls (ZO d T l f kl) t=some x):(t=.r d 0/\x=⟨T,l,f⟩)\/(t≠.r d 0/\st.ls t=some x/\kl.contains t=false):=by unfold JV at h;cases hk:kl.contains t with|true=>simp only[ZO,hk,cond_true,reduceCtorEq]at h|false=>simp only[ZO,hk,cond_false,Zy]at h;grind
theorem Z3f{d:Nat}{T:U.Ty}{l:List (U.El T)}{f:Nat}{kl:List Tok}{t:Tok}(h:JV st.ls (ZO d T l f kl) t=none)(hd:Zp st (ZO d T l f kl) t=false):t≠.r d 0/\st.ls t=none/\st.dead t=false:=by simp only[Zp,QO]at hd;unfold JV at h;rw[hd.2]at h;simp only[ZO,cond_false,Zy]at h;grind
theorem Z5G(h:Rel cfg B st g a w){w1:World}(hw:SameHeap w w1){T:U.Ty}{l:List (U.El T)}{arr:Array Value}(e:TypeId){cap d f:Nat}{kl:List Tok}(hcap:l.length<=cap)(hf:f<=l.length)(hsz:arr.size=cap*cfg.sz T)(henc:∀x,(cfg.enc T x).length=cfg.sz T)(hls:st.ls (.r d 0)=none)(hdd:st.dead (.r d 0)=false)(hkl:kl.contains (.r d 0)=false)(hrows:∀i x,l[i]?=some x->∀j c,(cfg.enc T x)[j]?=some c->∃v,arr[i*cfg.sz T+j]?=some v/\SimC cfg g.m v c):∃g',Out cfg B st g (ZO d T l f kl) (.slice (some ⟨w.heap.size,0,none⟩) l.length cap) (w1.alloc (.cells arr e)) g':=by
 let im:Nat->Bool:=λi=>decide (i<f*cfg.sz T);let tg:Nat->Option Tag:=λi=>if f*cfg.sz T<=i/\i<arr.size then some (.tok (.r d 0))else none;obtain⟨h1,h2,h3,h4,h5⟩:=Zpm h hw arr e im tg g.ad (by grind) (λ_ _=>rfl) (λ_=>rfl);have ab:=h.fresh (.r d 0) rfl hls hdd;have aj:Keeps g (g.new w.heap.size arr im tg g.ad) st.dead (Zp st (ZO d T l f kl)) (λnm=>(st.mem nm).isSome) (Yi st (ZO d T l f kl)):=h3 kl.contains _ (λnm hs=>hs);have hk:=aj.setBs (t:=.r d 0) (v:=(.slice (some ⟨w.heap.size,0,none⟩) l.length cap,cfg.sz T)) ab;have al:Zp st (ZO d T l f kl) (.r d 0)=false:=by simp only[Zp,ZO,hdd,hkl,Xr]
 refine⟨(g.new w.heap.size arr im tg g.ad).setBs (.r d 0) (.slice (some ⟨w.heap.size,0,none⟩) l.length cap,cfg.sz T),h1,h2.setBs,hk,?_,⟨.mref _ _ ⟨rfl,rfl⟩,λ_=>⟨cfg.sz T,by simp[Gh.setBs]⟩⟩,?_,?_⟩
 .intro nm cs hm j c hj;refine Zkn h hk h5 ?_ nm cs hm j c hj;intro c t ht;have:=h.inv.lt ht;simp only[Gh.setBs,Gh.new];grind
 .intro t x hx;rcases ZcC hx with⟨rfl,rfl⟩|⟨hne,hx,hkt⟩
  .refine⟨al,.inr ⟨⟨w.heap.size,0,none⟩,l.length,cap,by simp[Gh.setBs],rfl,hcap,hf,?_,?_⟩⟩
   .intro i y hy j c hc;obtain⟨v,h6,h7⟩:=hrows i y hy j c hc;have hi:i<l.length:=(Q4.1 hy).1;have hj:j<cfg.sz T:=by have:=(Q4.1 hc).1;rw[henc]at this;exact this
    have bc:i*cfg.sz T+j<arr.size:=(QJ.1 h6).1;simp only[Addr.add_lit,QQ];refine⟨v,(h4 _).trans h6,h7.mono hk.m,λaa=>?_,λaa=>?_⟩
    .have:(i+1)*cfg.sz T<=f*cfg.sz T:=Qg _ aa;rw[QL]at this;simp only[Gh.setBs,Gh.new,and_self,if_true,im];grind
    .have:f*cfg.sz T<=i*cfg.sz T:=Qg _ aa;simp only[Gh.setBs,Gh.new,and_self,if_true,tg];grind
   .intro j a1 a2;dsimp only at a1 a2;have:f*cfg.sz T<=l.length*cfg.sz T:=Qg _ hf;simp only[Addr.add_lit,QQ];simp only[Gh.setBs,Gh.new,and_self,if_true,tg];grind
  .obtain⟨h6,h7⟩:=h.ls t x hx;have hd:Zp st (ZO d T l f kl) t=false:=by simp only[Zp,ZO,h6,hkt,Xr]
   exact⟨hd,h7.keep hk hd (λc v hv=>h5 _ _ (h.inv.im c v hv).1) (λc ht=>by obtain⟨_,v,hv⟩:=h.inv.it c _ ht;grind)⟩
 .intro t h0 h6 h7;obtain⟨h8,h9,ak⟩:=Z3f h6 h7;simp only[Gh.setBs];rw[if_neg h8];exact h.fresh t h0 h9 ak
structure Src(cfg:Cfg U)(g:Gh)(w:World)(T:U.Ty)(l:List (U.El T))(f:Nat)(kl:List Tok)(b:Addr)(len cap:Nat):Prop where
 hl:l.length=len
 hc:len<=cap
 hf:f<=len
 rows:∀i y,l[i]?=some y->∀j c,(cfg.enc T y)[j]?=some c->∃u,w.cell? (b.add (i*cfg.sz T+j))=some u/\SimC cfg g.m u c/\(i<f->g.m (b.add (i*cfg.sz T+j))=some u)/\(f<=i->∃t,kl=[t]/\g.tag (b.add (i*cfg.sz T+j))=some (.tok t))tail:∀j,len*cfg.sz T<=j->j<cap*cfg.sz T->∃t,kl=[t]/\g.tag (b.add j)=some (.tok t)
theorem Src.own(ok:CfgOk P cfg){T:U.Ty}{l:List (U.El T)}{f:Nat}{kl:List Tok}{b:Addr}{len cap:Nat}(s:Src cfg g w T l f kl b len cap):∀j,f*cfg.sz T<=j->j<cap*cfg.sz T->∃t,kl=[t]/\g.tag (b.add j)=some (.tok t):=by
 intro j h1 h2;have d:=ok.sz_pos T;rcases XC j (len*cfg.sz T)with h3|h3
 .have hi:j/cfg.sz T<l.length:=by rw[s.hl];exact Xv (by grind)
  have aa:j%cfg.sz T<(cfg.enc T (l[j/cfg.sz T])).length:=by rw[ok.enc_len];exact XQ _ d
  obtain⟨u,_,_,_,h4⟩:=s.rows _ _ (Q1 hi) _ _ (Q1 aa);have e:j/cfg.sz T*cfg.sz T+j%cfg.sz T=j:=by rw[Xq];exact XL _ _
  rw[e]at h4;exact h4 ((K0 d).2 h1)
 .exact s.tail j h3 h2
theorem Src.list(ok:CfgOk P cfg){T:U.Ty}{l:List (U.El T)}{f:Nat}{kl:List Tok}{b:Addr}{len cap:Nat}(s:Src cfg g w T l f kl b len cap):∃vs:List Value,vs.length=len*cfg.sz T/\(∀(j:Nat)v,vs[j]?=some v->w.cell? (b.add j)=some v)/\∀(i:Nat)x,l[i]?=some x->∀(j:Nat)c,(cfg.enc T x)[j]?=some c->∃v,vs[i*cfg.sz T+j]?=some v/\SimC cfg g.m v c:=by
 have d:=ok.sz_pos T;let fn:Nat->Value:=λj=>(w.cell? (b.add j)).getD undef;have hf:∀j,j<len*cfg.sz T->w.cell? (b.add j)=some (fn j):=by
  intro j hj;have hi:j/cfg.sz T<l.length:=by rw[s.hl];exact Xv (by grind)
  have ab:j%cfg.sz T<(cfg.enc T (l[j/cfg.sz T])).length:=by rw[ok.enc_len];exact XQ _ d
  obtain⟨v,h1,_⟩:=s.rows _ _ (Q1 hi) _ _ (Q1 ab);have e:j/cfg.sz T*cfg.sz T+j%cfg.sz T=j:=by rw[Xq];exact XL _ _
  rw[e]at h1;simp only[fn,h1,Xf]
 refine⟨(List.range (len*cfg.sz T)).map fn,by simp,?_,?_⟩;.grind
 .intro i x hx j c hc;obtain⟨v,h1,h2,_⟩:=s.rows i x hx j c hc;have hi:i<l.length:=(Q4.1 hx).1;have hj:j<cfg.sz T:=by have:=(Q4.1 hc).1;rw[ok.enc_len]at this;exact this
  have ah:i*cfg.sz T+j<len*cfg.sz T:=by have:(i+1)*cfg.sz T<=len*cfg.sz T:=Qg _ (by have:=s.hl;omega);rw[QL]at this;omega
  grind
open Classical in noncomputable def Gh.renamed(g:Gh)(b:Addr)(lo hi:Nat)(t:Tok)(v:Value×Nat):Gh:=
 {m:=g.m
  tag:=λc=>if∃j,lo<=j/\j<hi/\c=b.add j then some (.tok t)else g.tag c
  ad:=g.ad
  bs:=λu=>if u=t then some v else g.bs u}
theorem Z4g(ok:CfgOk P cfg)(h:Rel cfg B st g a w){T:U.Ty}{l l':List (U.El T)}{b:Addr}{f len cap n:Nat}{vs:List Value}{d:Nat}{kl:List Tok}(s:Src cfg g w T l f kl b len cap)(hfit:len+n<=cap)(hln:l'.length=n)(hvl:vs.length=n*cfg.sz T)(hvo:∀v∈vs,v.oneCell'=true)(hvr:∀(i:Nat)x,l'[i]?=some x->∀(j:Nat)c,(cfg.enc T x)[j]?=some c->∃v,vs[i*cfg.sz T+j]?=some v/\SimC cfg g.m v c)(hls:st.ls (.r d 0)=none)(hdd:st.dead (.r d 0)=false)(hkl:kl.contains (.r d 0)=false):∃w' g',(storeCells (b.add (len*cfg.sz T)) vs).run P w=.ok () w'/\Out cfg B st g (ZO d T (l++l') f kl) (.slice (some b) (len+n) cap) w' g':=by
 have bo:(len+n)*cfg.sz T=len*cfg.sz T+n*cfg.sz T:=QL ..;have bf:(len+n)*cfg.sz T<=cap*cfg.sz T:=Qg _ hfit;have b0:f*cfg.sz T<=len*cfg.sz T:=Qg _ s.hf;have ak:=s.own ok;have hl:=s.hl;obtain⟨w',h1,h2,h3,h4,h5,h6⟩:=JF (P:=P) (b.add (len*cfg.sz T)) vs 0 w hvo (by
  intro j hj;rw[Go.Deep.add_add,QQ];obtain⟨u,_,ht⟩:=s.tail (len*cfg.sz T+j) Yp Yp;obtain⟨h7,v,h8⟩:=h.inv.it _ _ ht;exact⟨⟨v,h8⟩,h7⟩);simp only[QQ,Go.Deep.add_add]at h2 h3 h4;let g':=g.renamed b (f*cfg.sz T) (cap*cfg.sz T) (.r d 0) (.slice (some b) (len+n) cap,cfg.sz T);have ay:=h.fresh (.r d 0) rfl hls hdd;have bm:Zp st (ZO d T (l++l') f kl) (.r d 0)=false:=by simp only[Zp,ZO,hdd,hkl,Xr]
 have aj:∀c,(∃t,g.tag c=some t/\∀u,kl=[u]->t≠.tok u)\/g.tag c=none->¬∃j,f*cfg.sz T<=j/\j<cap*cfg.sz T/\c=b.add j:=by
  rintro c hc⟨j,a1,a2,rfl⟩;obtain⟨u,hu,ht⟩:=ak j a1 a2;rcases hc with⟨t,h7,h8⟩|h7;.rw[ht]at h7;cases h7;exact h8 u hu rfl
  .rw[ht]at h7;cases h7
 have ab:∀c,(¬∃j,f*cfg.sz T<=j/\j<cap*cfg.sz T/\c=b.add j)->g'.tag c=g.tag c:=by
  intro c hc;simp only[g',Gh.renamed];rw[if_neg hc]
 have ah:∀c,(¬∃j,f*cfg.sz T<=j/\j<cap*cfg.sz T/\c=b.add j)->w'.cell? c=w.cell? c:=by
  intro c hc;exact h4 c λj hj e=>hc ⟨_,Yp,Yp,e⟩
 have a6:∀c v,g.m c=some v->w'.cell? c=some v:=by
  intro c v hv;obtain⟨h7,h8⟩:=h.inv.im c v hv;rw[ah c (aj c (.inr h8))];exact h7
 have a8:∀t,Zp st (ZO d T (l++l') f kl) t=false->∀u,kl=[u]->t≠u:=by intro t ht u hu e;subst e;simp[Zp,ZO,hu]at ht
 have ae:Keeps g g' st.dead (Zp st (ZO d T (l++l') f kl)) (λnm=>(st.mem nm).isSome) (Yi st (ZO d T (l++l') f kl)):=by
  refine⟨λ_ _ h=>h,λc t hd ht=>?_,λt ht=>?_,λnm hn=>⟨hn,rfl⟩,λt v hd hv=>?_,λ_=>rfl⟩;.rw[ab c (aj c (.inl ⟨_,ht,λu hu e=>by cases e;exact a8 _ hd _ hu rfl⟩))];exact ht
  .simp only[Zp,QO]at ht;exact ht.1
  .simp only[g',Gh.renamed];split;.rename_i e;subst e;rw[ay]at hv;cases hv
   .exact hv
 refine⟨w',g',h1,⟨λc v hv=>?_,λc t ht=>?_⟩,?_,ae,?_,⟨.mref _ _ ⟨rfl,rfl⟩,λ_=>⟨cfg.sz T,by simp[g',Gh.renamed]⟩⟩,?_,?_⟩;.exact⟨a6 c v hv,by rw[ab c (aj c (.inr (h.inv.im c v hv).2))];exact(h.inv.im c v hv).2⟩
 .have aq:∀t',g.tag c=some t'->w'.frozen? c=false/\∃v,w'.cell? c=some v:=by intro t' bl;obtain⟨h7,u,h8⟩:=h.inv.it c t' bl;exact⟨(h5 c).trans h7,h2.some c u h8⟩
  by_cases hc:∃j,f*cfg.sz T<=j/\j<cap*cfg.sz T/\c=b.add j;.obtain⟨j,a1,a2,rfl⟩:=hc;obtain⟨u,_,h7⟩:=ak j a1 a2;exact aq _ h7
  .rw[ab c hc]at ht;exact aq t ht
 .refine h.fr.step h.inv h2 ?_ (λ_ _ h=>h) ?_ ?_ (λ_=>rfl)
  .rintro c⟨j,hj,rfl⟩;obtain⟨u,_,ht⟩:=s.tail (len*cfg.sz T+j) Yp Yp;exact⟨_,ht,λt' e=>by cases e⟩
  .intro c t;by_cases hc:∃j,f*cfg.sz T<=j/\j<cap*cfg.sz T/\c=b.add j
   .have h8:g'.tag c=some (.tok (.r d 0)):=by simp only[g',Gh.renamed];rw[if_pos hc]
    obtain⟨j,a1,a2,rfl⟩:=hc;obtain⟨u,_,h7⟩:=ak j a1 a2;rw[h7,h8];constructor<;>intro e<;>cases e
   .rw[ab c hc]
  .intro bb _ a7 o sp;refine ab _ λhc=>?_;obtain⟨j,a1,a2,e⟩:=hc;obtain⟨u,_,h7⟩:=ak j a1 a2;rw[<-e]at h7;obtain⟨t',h8⟩:=a7 _ _ _ h7;cases h8
 .intro nm cs hm j c hj;obtain⟨v,h7,h8,h9⟩:=h.mem nm cs hm j c hj;have bc:=aj _ (.inl ⟨_,h8,λu _ e=>by cases e⟩);exact⟨v,(ah _ bc).trans h7,(ab _ bc).trans h8,h9.keep ae⟩
 .intro t x hx;rcases ZcC hx with⟨rfl,rfl⟩|⟨hne,hx,hkt⟩
  .refine⟨bm,.inr ⟨b,len+n,cap,by simp[g',Gh.renamed],by simp[hl,hln],hfit,by have:=s.hf;simp only;omega,?_,?_⟩⟩
   .intro i y hy j c hc;simp only at hy hc⊢;have hj:j<cfg.sz T:=by have:=(Q4.1 hc).1;rw[ok.enc_len]at this;exact this
    have hi:i<len+n:=by have:=(Q4.1 hy).1;simp[hl,hln]at this;exact this
    have b2:i*cfg.sz T+j<(len+n)*cfg.sz T:=by have:(i+1)*cfg.sz T<=(len+n)*cfg.sz T:=Qg _ hi;rw[QL]at this;omega
    have au:f<=i->g'.tag (b.add (i*cfg.sz T+j))=some (.tok (.r d 0)):=by intro bj;have:f*cfg.sz T<=i*cfg.sz T:=Qg _ bj;simp only[g',Gh.renamed];rw[if_pos ⟨_,Yp,Yp,rfl⟩]
    rw[QK]at hy;split at hy
    .rename_i br;obtain⟨u,h7,h8,h9,ba⟩:=s.rows i y hy j c hc;refine⟨u,?_,h8.mono ae.m,h9,au⟩;have bq:i*cfg.sz T+j<len*cfg.sz T:=by have:(i+1)*cfg.sz T<=len*cfg.sz T:=Qg _ Yp;rw[QL]at this;omega
     rw[h4 _ λj' bx e=>by have:=Z2k e;omega];exact h7
    .rename_i bk;rw[hl]at hy bk;obtain⟨u,h7,h8⟩:=hvr _ y hy j c hc;have e1:len*cfg.sz T<=i*cfg.sz T:=Qg _ Yp;have h9:=h3 _ _ h7;rw[show len*cfg.sz T+((i-len)*cfg.sz T+j)=i*cfg.sz T+j by rw[KA];omega]at h9;exact⟨u,h9,h8.mono ae.m,λbv=>by have:=s.hf;omega,au⟩
   .intro j a1 a2;dsimp only at a1 a2;simp only[g',Gh.renamed];rw[if_pos ⟨j,Yp,a2,rfl⟩]
  .obtain⟨h7,h8⟩:=h.ls t x hx;have hd:Zp st (ZO d T (l++l') f kl) t=false:=by simp only[Zp,ZO,h7,hkt,Xr]
   exact⟨hd,h8.keep ae hd a6 (λc ht=>ah c (aj c (.inl ⟨_,ht,λu hu e=>by cases e;exact a8 _ hd _ hu rfl⟩)))⟩
 .intro t h0 h7 h8;obtain⟨h9,ba,bi⟩:=Z3f h7 h8;simp only[g',Gh.renamed];rw[if_neg h9];exact h.fresh t h0 ba bi
theorem Zbt(h:Rel cfg B st g a w){T:U.Ty}{d:Nat}{kl:List Tok}(hls:st.ls (.r d 0)=none)(hdd:st.dead (.r d 0)=false)(hkl:kl.contains (.r d 0)=false):Out cfg B st g (ZO d T [] 0 kl) (.slice none 0 0) w (g.setBs (.r d 0) (.slice none 0 0,cfg.sz T)):=by
 have aa:=h.fresh (.r d 0) rfl hls hdd;have al:Zp st (ZO d T [] 0 kl) (.r d 0)=false:=by simp only[Zp,ZO,hdd,hkl,Xr]
 have ah:Keeps g g st.dead (Zp st (ZO d T [] 0 kl)) (λnm=>(st.mem nm).isSome) (Yi st (ZO d T [] 0 kl)):=⟨λ_ _ h=>h,λ_ _ _ h=>h,λt ht=>by simp only[Zp,QO]at ht;exact ht.1,λnm hn=>⟨hn,rfl⟩,λ_ _ _ h=>h,λ_=>rfl⟩;have hk:=ah.setBs (t:=.r d 0) (v:=(.slice none 0 0,cfg.sz T)) aa;refine⟨h.inv,h.fr.setBs,hk,?_,⟨.mref _ _ ⟨rfl,rfl⟩,λ_=>⟨cfg.sz T,by simp[Gh.setBs]⟩⟩,?_,?_⟩;.intro nm cs hm j c hj;obtain⟨v,h7,h8,h9⟩:=h.mem nm cs hm j c hj;exact⟨v,h7,h8,h9.keep hk⟩
 .intro t x hx;rcases ZcC hx with⟨rfl,rfl⟩|⟨hne,hx,hkt⟩;.exact⟨al,.inl ⟨by simp[Gh.setBs],rfl,rfl⟩⟩
  .obtain⟨h7,h8⟩:=h.ls t x hx;have hd:Zp st (ZO d T [] 0 kl) t=false:=by simp only[Zp,ZO,h7,hkt,Xr]
   exact⟨hd,h8.keep hk hd (λc v hv=>(h.inv.im c v hv).1) (λ_ _=>rfl)⟩
 .intro t h0 h7 h8;obtain⟨h9,ak,ai⟩:=Z3f h7 h8;simp only[Gh.setBs];rw[if_neg h9];exact h.fresh t h0 ak ai
theorem ZcY(h:Rel cfg B st g a w){T:U.Ty}{x:C U}{l:List (U.El T)}{f:Nat}{u:Option Tok}{v:Value}(hx:RelC cfg g st.dead v x)(he:Z67 cfg st T x=some (l,f,u)):∃b len d,v=.slice b len d/\l.length=len/\len<=d/\(b=none->len=0/\d=0/\f=0)/\(∀b',b=some b'->Src cfg g w T l f u.toList b' len d):=by
 have ae:(∀t,x≠.mref t)->(match Zhy cfg T x with
   |some (l,.full)=>some (l,l.length,none)|some (l,.own t)=>if st.dead t then none else some (l,l.length,some t)|_=>none)=some (l,f,u)->∃b len d,v=.slice b len d/\l.length=len/\len<=d/\(b=none->len=0/\d=0/\f=0)/\(∀b',b=some b'->Src cfg g w T l f u.toList b' len d):=by intro _ he;cases hs:Zhy cfg T x with|none=>grind|some p=>
   obtain⟨l0,tl⟩:=p;rw[hs]at he;obtain⟨af,b,len,d,rfl,hl,hc,hb⟩:=Z56 hx hs;have ao:∀b',b=some b'->∀i y,l0[i]?=some y->∀j c,(cfg.enc T y)[j]?=some c->∃u,w.cell? (b'.add (i*cfg.sz T+j))=some u/\SimC cfg g.m u c/\g.m (b'.add (i*cfg.sz T+j))=some u:=by rintro b' rfl i y hy j c hc;obtain⟨u,h1,h2⟩:=af.1.rows i y hy j c hc;exact⟨u,(h.inv.im _ _ h1).1,h2,h1⟩
   cases tl with
   |unk=>cases he|full=>
    simp only[oP]at he;obtain⟨rfl,rfl,rfl⟩:=he;refine⟨b,len,d,rfl,hl,hc,λe=>⟨(hb e).1,(hb e).2,by grind⟩,λb' e=>⟨hl,hc,Yp,λi y hy j c am=>?_,λj a1 a2=>?_⟩⟩;.grind
    .have:=af.2 _ _ _ rfl;grind|own t=>
    simp only at he;split at he;.cases he
    .rename_i hd;simp only[oP]at he;obtain⟨rfl,rfl,rfl⟩:=he;refine⟨b,len,d,rfl,hl,hc,λe=>⟨(hb e).1,(hb e).2,by grind⟩,λb' e=>⟨hl,hc,Yp,λi y hy j c am=>?_,λj a1 a2=>?_⟩⟩;.grind
     .subst e;exact⟨t,rfl,af.2 (by simpa using hd) b' len d rfl j a1 a2⟩
 cases x with
 |mref t=>
  simp only[Z67]at he;split at he
  .rename_i y hy;split at he
   .rename_i hT _;subst hT;simp only[oP]at he;obtain⟨rfl,rfl,rfl⟩:=he;obtain⟨hd,hL⟩:=h.ls t y hy;obtain⟨s,hs⟩:=hx.2 hd;rcases hL with⟨h4,h5,h6⟩|⟨b,len,d,h4,h5,h6,h7,h8,h9⟩;.grind
    .rw[hs]at h4;cases h4;refine⟨some b,len,d,rfl,h5,h6,λe=>(by cases e),λb' e=>?_⟩;cases e;refine⟨h5,h6,h7,λi y hy j c hc=>?_,λj a1 a2=>⟨t,rfl,h9 j a1 a2⟩⟩;grind
   .cases he
  .cases he|_=>exact ae (λt e=>by cases e) he
theorem ZhA(ok:CfgOk P cfg)(h:Rel cfg B st g a w){o:Oper}{d:Nat}{t:TypeId}{x y:C U}{px py:Operand}{ps:List Prop}{e:Eff U}(ho:o.op=.call {callee:=.builtin .append,args:=#[px,py],argTypes:=#[t,t]})(hx:RelC cfg g st.dead (a.eval px) x)(hy:RelC cfg g st.dead (a.eval py) y)(he:Z59 cfg st d t x y=some (ps,e))(hps:All ps):Does P o a w λv w'=>∃g',Out cfg B st g e v w' g':=by
 unfold Z59 at he;split at he;.cases he
 rename_i T hT;split at he;case h_2=>cases he
 rename_i l f u l' cl b0 b5;split at he;case isFalse=>cases he
 rename_i bf;simp only[Q2,QF,QX]at bf;obtain⟨⟨a7,az⟩,av⟩:=bf;simp only[oP]at he;obtain⟨rfl,rfl⟩:=he;obtain⟨hE,hU⟩:=Jo ok hT;obtain⟨b,len,cap,bz,hl,hc,hb,ae⟩:=ZcY h hx b0;obtain⟨bb,b',n,ak,bc,af,cq,bt⟩:=Z56 hy b5;rw[bc]at bb;have b6:P.underlying t=some (.slice (cfg.elT T)):=by rw[hE]at hU;exact hU
 obtain⟨i,ag,zs,z,hi,ar,cj,hz,bk,cp⟩:=ok.el T;have aj:(l.length+l'.length)*cfg.bytes T<=140737488355328:=hps.1;rw[hl,af]at aj;have b8:=ok.bytes_pos T;have ce:len+n<=140737488355328:=X2 (XT _ b8) aj;have bd:∃vs:List Value,vs.length=n*cfg.sz T/\(∀v∈vs,v.oneCell'=true)/\(∀w:World,(∀c v,g.m c=some v->w.cell? c=some v)->(Builtin.firstCells i.size n (.slice b' n ak)).run P w=.ok vs.toArray w)/\(∀(k:Nat)x,l'[k]?=some x->∀(j:Nat)c,(cfg.enc T x)[j]?=some c->∃v,vs[k*cfg.sz T+j]?=some v/\SimC cfg g.m v c):=by cases b' with
  |none=>obtain⟨rfl,rfl⟩:=bt rfl;have ai:l'=[]:=Q0 af;subst ai;exact⟨[],by simp,by simp,λw _=>run_firstCells_none w _ _ _ _,λk x hx=>by simp at hx⟩|some a'=>
   obtain⟨vs,h1,h2,h3⟩:=Z4n ok bb.1;refine⟨vs,h1,λv hv=>?_,λw hw=>?_,h3⟩;.obtain⟨j,hj,rfl⟩:=Xe hv;exact(h2 j _ (Q1 hj)).2
   .exact run_firstCells_some w i.size n a' n ak vs (by grind) (λj v hv=>hw _ _ (h2 j v hv).1)
 obtain⟨vs,bl,bq,aa,bg⟩:=bd;have a1:∀c v,g.m c=some v->w.cell? c=some v:=λc v hv=>(h.inv.im c v hv).1;have ab:(execOp a.eval o).run P w=((Builtin.append_ #[t,t] o.type #[.slice b len cap,.slice b' n ak]).run P w).andThen λv w=>.ok (.value v) w:=by simp only[execOp,ho,resolve,Sem.run_bind,Sem.run_pure,Result.andThen_ok,invoke,builtin];simp[bz,bc]
 have a2:∀w,(underlying t).run P w=.ok (.slice (cfg.elT T)) w:=λw=>run_underlying b6 w;have bh:({val:=some (.c (.mref (.r d 0))),kill:=u.toList,ls:=[(.r d 0,⟨T,l++l',f⟩)]}:Eff U)=ZO d T (l++l') f u.toList:=rfl;rw[bh];by_cases hfit:len+n<=cap;.cases b with
  |none=>
   obtain⟨rfl,rfl,rfl⟩:=hb rfl;have b3:n=0:=Yp;subst b3;have ai:l=[]:=Q0 hl;have bx:l'=[]:=Q0 af;subst ai bx;have bu:vs=[]:=Q0 Yp;subst bu;refine .inl ⟨.slice none 0 0,w,?_,_,Zbt h a7 az av⟩;rw[ab];simp[Builtin.append_,a2,sizeOf,typeInfo,hi,Builtin.lenOf,aa w a1]|some b=>obtain⟨w',g',h1,h2⟩:=Z4g (P:=P) (d:=d) ok h (ae b rfl) hfit af bl bq bg a7 az av;refine .inl ⟨_,w',?_,g',h2⟩;rw[ab];rw[<-ar]at h1;simp[Builtin.append_,a2,sizeOf,typeInfo,hi,Builtin.lenOf,aa w a1,hfit,h1]
 .have ax:cap<len+n:=Yp;have bv:0<n:=Yp;have ch:¬((len+n:Nat):Int)>9223372036854775807:=Yp;have ca:Builtin.nextslicecap (len+n) cap*i.bytes<=281474976710656:=growslice_fits ax (by grind);have aw:=Z6T w (len+n) cap (cfg.elT T);have bi:∃us:List Value,us.length=len*cfg.sz T/\(∀w':World,(∀c v,w.cell? c=some v->w'.cell? c=some v)->(Builtin.firstCells i.size len (.slice b len cap)).run P w'=.ok us.toArray w')/\∀(k:Nat)x,l[k]?=some x->∀(j:Nat)c,(cfg.enc T x)[j]?=some c->∃v,us[k*cfg.sz T+j]?=some v/\SimC cfg g.m v c:=by cases b with|none=>obtain⟨rfl,rfl,rfl⟩:=hb rfl;have ai:l=[]:=Q0 hl;subst ai;exact⟨[],by simp,λw _=>run_firstCells_none w _ _ _ _,λk x hx=>by simp at hx⟩|some b=>obtain⟨us,h1,h2,h3⟩:=(ae b rfl).list ok;exact⟨us,h1,λw' hw=>run_firstCells_some w' i.size len b len cap us (by rw[ar];exact h1) (λj v hv=>hw _ _ (h2 j v hv)),h3⟩
  obtain⟨us,au,ay,b4⟩:=bi;have b7:z.cells.size=cfg.sz T:=by
   obtain⟨z',bj,hZ⟩:=Z2N ok bk w;have:z'=z:=by simp[zeroValue,typeInfo,hi,hz]at bj;exact bj.symm
   subst this;have:=(Z0U (g:=g) (st:=st) (cfg:=cfg) hZ).1;simp at this;omega
  let nc:=grownCap w (len+n) cap (cfg.elT T);let arr:Array Value:=us.toArray++vs.toArray++Builtin.zeroCells z.cells (nc-(len+n));have cn:len+n<=nc:=aw;have be:arr.size=nc*cfg.sz T:=by
   have e1:(len+n)*cfg.sz T+(nc-(len+n))*cfg.sz T=nc*cfg.sz T:=by rw[<-QL];congr 1;omega
   rw[QL]at e1;simp[arr,Builtin.zeroCells,au,bl,b7];omega
  have bn:f<=(l++l').length:=by rw[Q8];cases b with|none=>grind|some b=>have:=(ae b rfl).hf;omega
  have bp:=Z3G (m:=g.m) (vs:=us) (vs':=vs) (by rw[au,hl]) (ok.enc_len T) b4 bg;obtain⟨g',aq⟩:=Z5G (T:=T) (l:=l++l') (arr:=arr) (d:=d) (kl:=u.toList) (f:=f) h (SameHeap.drew w) (cfg.elT T) (cap:=nc) (by grind) bn be (ok.enc_len T) a7 az av (λk x hx j c hc=>by grind);rw[show(l++l').length=len+n by simp[hl,af]]at aq;refine .inl ⟨_,_,?_,g',aq⟩;have b2:∀c v,g.m c=some v->w.drew.cell? c=some v:=λc v hv=>(a1 c v hv);have cb:∀c v,w.cell? c=some v->w.drew.cell? c=some v:=λ_ _ hv=>hv;rw[ab];have bo:¬(Builtin.nextslicecap (len+n) cap*i.bytes>2^48):=Yp;have cu:¬i.bytes=0:=Yp;have br:¬((9223372036854775807:Int)<(len:Int)+(n:Int)):=Yp;simp[Builtin.append_,a2,sizeOf,typeInfo,zeroValue,hi,hz,Builtin.lenOf,hfit,br,bo,Question.forced,ay w.drew cb,aa w.drew b2,newRow];refine⟨rfl,?_⟩;simp only[arr,nc,grownCap,Kk]
theorem Zhz(ok:CfgOk P cfg)(h:Rel cfg B st g a w){o:Oper}{d:Nat}{t t':TypeId}{x y:C U}{px py:Operand}{ps:List Prop}{e:Eff U}(ho:o.op=.call {callee:=.builtin .append,args:=#[px,py],argTypes:=#[t,t']})(hx:RelC cfg g st.dead (a.eval px) x)(hy:RelC cfg g st.dead (a.eval py) y)(he:Z58 cfg st d t t' x y=some (ps,e))(hps:All ps):Does P o a w λv w'=>∃g',Out cfg B st g e v w' g':=by
 unfold Z58 at he;split at he;case h_2=>cases he
 rename_i T m0 nn hT bz;split at he;case h_2=>cases he
 rename_i l f u zel cc bv;split at he;case isFalse=>cases he
 rename_i bo;simp only[Q2,QF,QX]at bo;obtain⟨⟨bh,bc⟩,a6⟩:=bo;simp only[oP]at he;obtain⟨rfl,rfl⟩:=he;obtain⟨bf,am⟩:=hps.1;obtain⟨n,rfl⟩:=QH bf;simp only[Kc,X3]at*;obtain⟨hE,hU⟩:=Jo ok hT;obtain⟨b,len,cap,cb,hl,hc,hb,ai⟩:=ZcY h hx cc;have b2:a.eval py=.int .i64 n:=by have h1:=hy.1;generalize a.eval py=q at h1⊢;cases h1;rfl
 have ck:P.underlying t=some (.slice (cfg.elT T)):=by rw[hE]at hU;exact hU
 obtain⟨_,it,zt,dt,_,ce,_,cy,_,_,cm,_⟩:=ok.var _ _ _ bz;have bm:=cm rfl _ _ rfl;subst bm;obtain⟨i,ag,zs,z,hi,aj,ca,hz,a1,dc⟩:=ok.el T;rw[a1]at bv;have co:cfg.dec T zs=some zel:=bv;rw[hl]at am;have cl:=ok.bytes_pos T;have aq:(len+n)*cfg.bytes T<=140737488355328:=by
  have:(((len+n)*cfg.bytes T:Nat):Int)<=140737488355328:=by rw[Ky,Int.natCast_add];exact am
  omega
 have cu:len+n<=140737488355328:=X2 (XT _ cl) aq;obtain⟨z0,bu,hZ⟩:=Z2N ok a1 w;have b4:z0=z:=by simp[zeroValue,typeInfo,hi,hz]at bu;exact bu.symm
 subst b4;have af:=Z0U (g:=g) (st:=st) (cfg:=cfg) hZ;have aw:z0.cells.size=cfg.sz T:=by have:=af.1;simp at this;omega
 have bx:=ok.sz_pos T;obtain⟨_,b7⟩:=ZbG ok co af.1 (λj v c h1 h2=>af.sim h1 h2);have bk:∃vs:List Value,vs.length=n*cfg.sz T/\(∀v∈vs,v.oneCell'=true)/\(Builtin.zeroCells z0.cells n).toList=vs/\(∀(k:Nat)x,(List.replicate n zel)[k]?=some x->∀(j:Nat)c,(cfg.enc T x)[j]?=some c->∃v,vs[k*cfg.sz T+j]?=some v/\SimC cfg g.m v c):=by
  refine⟨_,by simp[Builtin.zeroCells,aw],?_,rfl,?_⟩
  .intro v hv;simp only[Builtin.zeroCells,Xn,Xy]at hv;obtain⟨q,_,rfl⟩:=hv;have hq:q%z0.cells.size<z0.cells.size:=XQ _ Yp;rw[getElem!_pos z0.cells _ hq];exact af.one _ (by simp)
  .intro k x hx j c hc;obtain⟨hk,hx⟩:=Q4.1 hx;simp at hx hk;subst hx;obtain⟨v,h7,h8⟩:=b7 j c hc;have hj:j<cfg.sz T:=by have:=(Q4.1 hc).1;rw[ok.enc_len]at this;exact this
   have cj:k*cfg.sz T+j<n*cfg.sz T:=by have:(k+1)*cfg.sz T<=n*cfg.sz T:=Qg _ Yp;rw[QL]at this;omega
   refine⟨v,?_,h8⟩;have h9:z0.cells[j]?=some v:=by rw[<-h7];simp
   have bp:j<z0.cells.size:=Yp;have e:(k*cfg.sz T+j)%z0.cells.size=j:=by rw[aw,Xq,K7,XY hj]
   have ch:z0.cells[j]! =v:=by rw[getElem!_pos z0.cells j bp];rw[QG bp]at h9;exact Option.some.inj h9
   have bl:k*cfg.sz T+j<n*z0.cells.size:=by rw[aw];exact cj
   simp[Builtin.zeroCells,bl,e,ch]
 obtain⟨vs,bw,b5,cp,bq⟩:=bk;have az:Builtin.zeroCells z0.cells n=vs.toArray:=by rw[<-cp]
 have c3:∀c v,g.m c=some v->w.cell? c=some v:=λc v hv=>(h.inv.im c v hv).1;have aa:(execOp a.eval o).run P w=((Builtin.append_ #[t,t'] o.type #[.slice b len cap,.int .i64 n]).run P w).andThen λv w=>.ok (.value v) w:=by simp only[execOp,ho,resolve,Sem.run_bind,Sem.run_pure,Result.andThen_ok,invoke,builtin];simp[cb,b2]
 have av:∀w,(underlying t).run P w=.ok (.slice (cfg.elT T)) w:=λw=>run_underlying ck w;have ab:∀w,(underlying t').run P w=.ok (.int .i64) w:=λw=>run_underlying ce w;have br:({val:=some (.c (.mref (.r d 0))),kill:=u.toList,ls:=[(.r d 0,⟨T,l++List.replicate n zel,f⟩)]}:Eff U)=ZO d T (l++List.replicate n zel) f u.toList:=rfl;rw[br];have ae:IntKind.i64.wrap (n:Int)=n:=by simp[IntKind.wrap,IntKind.signed,IntKind.bits];omega
 have al:¬(n:Int)<0:=Yp;have ak:¬(n:Int)*(i.bytes:Int)>281474976710656:=by rw[ca];have:n*cfg.bytes T<=(len+n)*cfg.bytes T:=Qg _ Yp;have:((n*cfg.bytes T:Nat):Int)<=140737488355328:=Yp;rw[Ky]at this;omega
 have cg:(List.replicate n zel).length=n:=Xt;by_cases hfit:len+n<=cap;.cases b with|none=>obtain⟨rfl,rfl,rfl⟩:=hb rfl;have bf:n=0:=Yp;subst bf;have bg:l=[]:=Q0 hl;subst bg;refine .inl ⟨.slice none 0 0,w,?_,_,Zbt h bh bc a6⟩;rw[aa];simp[Builtin.append_,av,ab,sizeOf,typeInfo,hi,asInt,asIntOf,ae];grind|some b=>
   obtain⟨w',g',h1,h2⟩:=Z4g (P:=P) (d:=d) ok h (ai b rfl) hfit cg bw b5 bq bh bc a6;refine .inl ⟨_,w',?_,g',h2⟩;rw[aa];rw[<-aj]at h1;have bd:(zeroValue (cfg.elT T)).run P w=.ok z0 w:=by simp[zeroValue,typeInfo,hi,hz]
   by_cases h0:n*i.size=0;.have b8:vs=[]:=Q0 (by grind);subst b8;simp[Builtin.append_,av,ab,sizeOf,typeInfo,hi,asInt,asIntOf,ae,al,ak,hfit,h0,h1]
   .simp[Builtin.append_,av,ab,sizeOf,typeInfo,hi,asInt,asIntOf,ae,al,ak,hfit,h0,bd,az,h1]
 .have ba:cap<len+n:=Yp;have be:0<n:=Yp;have cx:¬((len+n:Nat):Int)>9223372036854775807:=Yp;have cn:Builtin.nextslicecap (len+n) cap*i.bytes<=281474976710656:=growslice_fits ba (by grind);have a7:=Z6T w (len+n) cap (cfg.elT T);have bt:∃us:List Value,us.length=len*cfg.sz T/\(∀w':World,(∀c v,w.cell? c=some v->w'.cell? c=some v)->(Builtin.firstCells i.size len (.slice b len cap)).run P w'=.ok us.toArray w')/\∀(k:Nat)x,l[k]?=some x->∀(j:Nat)c,(cfg.enc T x)[j]?=some c->∃v,us[k*cfg.sz T+j]?=some v/\SimC cfg g.m v c:=by cases b with
   |none=>
    obtain⟨rfl,rfl,rfl⟩:=hb rfl;have bg:l=[]:=Q0 hl;subst bg;exact⟨[],by simp,λw _=>run_firstCells_none w _ _ _ _,λk x hx=>by simp at hx⟩|some b=>obtain⟨us,h1,h2,h3⟩:=(ai b rfl).list ok;exact⟨us,h1,λw' hw=>run_firstCells_some w' i.size len b len cap us (by rw[aj];exact h1) (λj v hv=>hw _ _ (h2 j v hv)),h3⟩
  obtain⟨us,a2,bb,cf⟩:=bt;let nc:=grownCap w (len+n) cap (cfg.elT T);let arr:Array Value:=us.toArray++vs.toArray++Builtin.zeroCells z0.cells (nc-(len+n));have da:len+n<=nc:=a7;have bn:arr.size=nc*cfg.sz T:=by
   have e1:(len+n)*cfg.sz T+(nc-(len+n))*cfg.sz T=nc*cfg.sz T:=by rw[<-QL];congr 1;omega
   rw[QL]at e1;simp[arr,Builtin.zeroCells,a2,bw,aw];omega
  have b1:f<=(l++List.replicate n zel).length:=by rw[Q8];cases b with|none=>grind|some b=>have:=(ai b rfl).hf;omega
  have a8:=Z3G (m:=g.m) (vs:=us) (vs':=vs) (by rw[a2,hl]) (ok.enc_len T) cf bq;obtain⟨g',ax⟩:=Z5G (T:=T) (l:=l++List.replicate n zel) (arr:=arr) (d:=d) (kl:=u.toList) (f:=f) h (SameHeap.drew w) (cfg.elT T) (cap:=nc) (by grind) b1 bn (ok.enc_len T) bh bc a6 (λk x hx j c hc=>by obtain⟨v,h1,h2⟩:=a8 k x hx j c hc;grind);rw[show(l++List.replicate n zel).length=len+n by simp[hl]]at ax;refine .inl ⟨_,_,?_,g',ax⟩;have cq:∀c v,w.cell? c=some v->w.drew.cell? c=some v:=λ_ _ hv=>hv;rw[aa];have b3:¬(Builtin.nextslicecap (len+n) cap*i.bytes>2^48):=Yp;have dg:¬i.bytes=0:=Yp;have b6:¬((9223372036854775807:Int)<(len:Int)+(n:Int)):=Yp;have h0:¬n*i.size=0:=by rw[aj];have:=Nat.mul_pos be bx;omega
  have bd:∀w:World,(zeroValue (cfg.elT T)).run P w=.ok z0 w:=λw=>by simp[zeroValue,typeInfo,hi,hz]
  simp[Builtin.append_,av,ab,sizeOf,typeInfo,hi,asInt,asIntOf,ae,al,ak,hfit,b6,b3,h0,bd,az,Question.forced,bb w.drew cq,newRow];refine⟨rfl,?_⟩;simp only[arr,nc,grownCap,Kk]
theorem ZcB(ok:CfgOk P cfg)(h:Rel cfg B st g a w){o:Oper}{t:TypeId}{p q:Operand}{T:U.Ty}{n m:Int}{ag:Bool}{zs:List (C U)}{z:U.El T}{d:Nat}(hls:st.ls (.r d 0)=none)(hdd:st.dead (.r d 0)=false)(ho:o.op=.makeSlice t p q)(hT:cfg.slT t=some T)(hp:a.eval p=.int .i64 n)(hq:a.eval q=.int .i64 m)(hz:cfg.var (cfg.elT T)=some (ag,zs))(hd:cfg.dec T zs=some z)(hn:0<=n/\n*cfg.bytes T<=140737488355328/\n<=9223372036854775807)(hm:m=n):Does P o a w λv w'=>∃g',Out cfg B st g {val:=some (.c (.mref (.r d 0))),ls:=[(.r d 0,⟨T,List.replicate n.toNat z,0⟩)]} v w' g':=by
 have aq:=hm.symm;subst aq;obtain⟨k,rfl⟩:=QH hn.1;simp only[Kc]at*;rw[X3];obtain⟨hE,hU⟩:=Jo ok hT;obtain⟨i,bb,ba,z',h1,h2,h3,h4,h5,h6⟩:=ok.el T;rw[hz]at h5;simp only[oP]at h5;obtain⟨rfl,rfl⟩:=h5;obtain⟨aa,af,hZ⟩:=Z2N ok hz w;have ar:aa=z':=by simp[zeroValue,typeInfo,h1,h4]at af;exact af.symm
 subst ar;have ab:=Z0U (g:=g) (st:=st) (cfg:=cfg) hZ;have aw:aa.cells.size=cfg.sz T:=by have:=ab.1;simp at this;omega
 have a1:=ok.sz_pos T;obtain⟨a7,ax⟩:=ZbG ok hd ab.1 (λj v c h1 h2=>ab.sim h1 h2);let arr:Array Value:=(Array.range (k*cfg.sz T)).map (aa.cells[· %aa.cells.size]!);obtain⟨g',ah⟩:=Z5G (T:=T) (l:=List.replicate k z) (arr:=arr) (d:=d) (f:=0) (kl:=[]) h (SameHeap.refl w) (P.elem t) (cap:=k) (by simp) (by simp) (by simp[arr]) (ok.enc_len T) hls hdd rfl (by
   intro i x hx j c hc;obtain⟨hi,hx⟩:=Q4.1 hx;simp at hx hi;subst hx;obtain⟨v,h7,h8⟩:=ax j c hc;have hj:j<cfg.sz T:=by have:=(Q4.1 hc).1;rw[ok.enc_len]at this;exact this
   have bh:i*cfg.sz T+j<k*cfg.sz T:=by have:(i+1)*cfg.sz T<=k*cfg.sz T:=Qg _ Yp;rw[QL]at this;omega
   refine⟨v,?_,h8⟩;have h9:aa.cells[j]?=some v:=by rw[<-h7];simp
   have a8:j<aa.cells.size:=Yp;have e:(i*cfg.sz T+j)%aa.cells.size=j:=by rw[aw,Xq,K7,XY hj]
   grind);rw[Xt]at ah;refine .inl ⟨_,_,?_,g',ah⟩;have ai:=J6 ok T w;rw[<-hE]at ai af;have ae:(typeInfo (P.elem t)).run P w=.ok i w:=by rw[hE];simp[typeInfo,h1]
 have hw:IntKind.i64.wrap (k:Int)=k:=by simp[IntKind.wrap,IntKind.signed,IntKind.bits];omega
 have aj:¬(281474976710656<(i.bytes:Int)*(k:Int)):=by rw[h3,Int.mul_comm];have:=hn.2.1;omega
 have al:¬(k:Int)<0:=Yp;simp only[execOp,ho];apply Z9W;simp only[hp,hq];by_cases h0:k*cfg.sz T=0
 .have ak:arr=#[]:=by simp only[arr,h0];simp
  simp[Instr.makeSlice,run_underlying hU,asInt,asIntOf,ae,hw,aj,al,ai,h0,newRow,ak];grind
 .have au:(decide ((k:Int)<0)||decide ((i.bytes:Int)*(k:Int)>2^48)||decide ((k:Int)<0)||decide ((k:Int)>(k:Int)))=false:=by simp[aj,al]
  simp only[Instr.makeSlice,Sem.run_bind,run_underlying hU,Result.andThen_ok,asInt,asIntOf,Sem.run_pure,ae,hw,au];simp only[X9,if_false,Sem.run_bind,run_askRoom,Result.andThen_ok,ai,X3,h0,af,Sem.run_pure];try rfl
theorem ZbK(ok:CfgOk P cfg)(h:Rel cfg B st g a w){o:Oper}{t:TypeId}{n:Nat}{parts:Array (Nat×Operand)}{T:U.Ty}{ps:List (Nat×V U)}{l:List (U.El T)}{d:Nat}(hls:st.ls (.r d 0)=none)(hdd:st.dead (.r d 0)=false)(ho:o.op=.buildSlice t n parts)(hT:cfg.slT t=some T)(hl:parts.size=ps.length)(hn:ps.length=n)(hsmall:n*cfg.sz T<=16777216)(hr:∀(j:Nat)x y,parts[j]?=some x->ps[j]?=some y->x.1=y.1/\RelV cfg g st.dead (λnm=>(st.mem nm).isSome) (a.eval x.2) y.2)(he:Js cfg T 0 ps=some l):Does P o a w λv w'=>∃g',Out cfg B st g {val:=some (.c (.mref (.r d 0))),ls:=[(.r d 0,⟨T,l,0⟩)]} v w' g':=by
 obtain⟨hE,hU⟩:=Jo ok hT;obtain⟨i,ag,zs,z,h1,h2,h3,h4,h5,h6⟩:=ok.el T;obtain⟨z',hz,hZ⟩:=Z2N ok h5 w;have al:z'=z:=by simp[zeroValue,typeInfo,h1,h4]at hz;exact hz.symm
 subst al;have ay:z'.cells.size=cfg.sz T:=by have:=(Z0U (g:=g) (st:=st) (cfg:=cfg) hZ).1;simp at this;omega
 let vs0:Array Value:=if n*cfg.sz T=0 then(Array.range (n*cfg.sz T)).map ((#[]:Array Value)[· %0]!)else(Array.range (n*cfg.sz T)).map (z'.cells[· %z'.cells.size]!);have ai:vs0.size=n*cfg.sz T:=by simp only[vs0];split<;>simp
 obtain⟨ao,vs',h7,h8,_,h9⟩:=ZcQ (g:=g) (st:=st) ok (parts.toList.map λx=>(x.1,a.eval x.2)) ps 0 l vs0 he (by simpa using hl) (by grind) (by grind);have ah:l.length=n:=Yp;obtain⟨g',aa⟩:=Z5G (T:=T) (l:=l) (arr:=vs') (d:=d) (f:=0) (kl:=[]) h (SameHeap.refl w) (P.elem t) (cap:=n) Yp (QI _) (by rw[h8,ai]) (ok.enc_len T) hls hdd rfl (λi x hx j c hc=>by grind);rw[ah]at aa;refine .inl ⟨_,_,?_,g',aa⟩;have af:=J6 ok T w;rw[<-hE]at af hz;simp only[execOp,ho];apply Z9W;simp only[Instr.buildSlice,Sem.run_bind,run_underlying hU,Result.andThen_ok,af];rw[JH];by_cases h0:n*cfg.sz T=0
 .simp only[h0,if_true];simp only[vs0,h0,if_true]at h7;have ab:Instr.fill (λi=>some (i*cfg.sz T,cfg.sz T)) ((Array.range 0).map ((#[]:Array Value)[· %(#[]:Array Value).size]!)) (parts.map λx=>(x.1,a.eval x.2)).toList=some vs':=by rw[Xn];exact h7
  simp only[Sem.run_bind,Sem.run_pure,Result.andThen_ok,ab];try rfl
 .simp only[h0,if_false];simp only[vs0,h0,if_false]at h7;have ab:Instr.fill (λi=>some (i*cfg.sz T,cfg.sz T)) ((Array.range (n*cfg.sz T)).map (z'.cells[· %z'.cells.size]!)) (parts.map λx=>(x.1,a.eval x.2)).toList=some vs':=by rw[Xn];exact h7
  simp only[Sem.run_bind,Sem.run_pure,Result.andThen_ok,hz,ab];try rfl
theorem ZjB(ok:CfgOk P cfg)(h:Rel cfg B st g a w){o:Oper}{t:TypeId}{p x:Operand}{ag:Bool}{zs new:List (C U)}{u:Tok}{y:LC U}{n off:Nat}{v:V U}{e:U.El y.T}(ho:o.op=.store t p x)(ht:cfg.var t=some (ag,zs))(hp:RelV cfg g st.dead (λnm=>(st.mem nm).isSome) (a.eval p) (.mp u n off))(hv:RelV cfg g st.dead (λnm=>(st.mem nm).isSome) (a.eval x) v)(hnew:v.cells=some new)(hy:st.ls u=some y)(hl:new.length=zs.length)(hf:y.f<=n)(hset:(YK (cfg.enc y.T (y.l.getD n (cfg.dflt y.T))) off new).bind (cfg.dec y.T)=some e):Does P o a w λv w'=>∃g',Out cfg B st g {ls:=[(u,⟨y.T,y.l.set n e,y.f⟩)]} v w' g':=by
 obtain⟨b,len,bh,bu,bf,hn,a7,ax,be,ae,ao⟩:=ZxK h hy hp;obtain⟨br,_⟩:=h.ls u y hy;obtain⟨hs,_,_⟩:=Z2f ok ht w;have aj:=hv.cells hnew;cases hsc:YK (cfg.enc y.T (y.l.getD n (cfg.dflt y.T))) off new with
 |none=>grind|some cs'=>
 rw[hsc]at hset;have a1:cfg.dec y.T cs'=some e:=hset;obtain⟨bk,bo⟩:=ok.dec_ok _ _ _ a1;have bp:y.l[n]?=some (y.l.getD n (cfg.dflt y.T)):=by simp[List.getD,Q1 hn]
 have bx:=ok.enc_len y.T (y.l.getD n (cfg.dflt y.T));have b7:off+new.length<=cfg.sz y.T:=by
  unfold YK at hsc;split at hsc;.omega
  .cases hsc
 have bn:(a.eval x).cells.toList.length=new.length:=aj.1;have ak:∀j,j<cfg.sz y.T->∃u' c,(cfg.enc y.T (y.l.getD n (cfg.dflt y.T)))[j]?=some c/\w.cell? (b.add (n*cfg.sz y.T+j))=some u'/\SimC cfg g.m u' c/\g.tag (b.add (n*cfg.sz y.T+j))=some (.tok u):=by
  intro j hj;have hg:(cfg.enc y.T (y.l.getD n (cfg.dflt y.T)))[j]?=some ((cfg.enc y.T (y.l.getD n (cfg.dflt y.T)))[j]'Yp):=Q1 _;obtain⟨u',h1,h2,_,h4⟩:=ae n _ bp j _ hg;exact⟨u',_,hg,h1,h2,h4 hf⟩
 obtain⟨w',h1,h2,h3,h4,h5,h6⟩:=JF (P:=P) (b.add (n*cfg.sz y.T+off)) (a.eval x).cells.toList 0 w aj.one (by
  intro j hj;rw[Go.Deep.add_add,QQ];obtain⟨u',_,_,hu,_,ab⟩:=ak (off+j) Yp;rw[show n*cfg.sz y.T+(off+j)=n*cfg.sz y.T+off+j by omega]at hu ab;exact⟨⟨u',hu⟩,(h.inv.it _ _ ab).1⟩);simp only[QQ,Go.Deep.add_add]at h2 h3 h4;refine .inr (.inl ⟨w',?_,g,?_⟩)
 .have bg:(a.eval x).cells.size=zs.length:=by simpa using bn.trans hl
  simp only[execOp,ho,bf];simp[Instr.storeAt,Instr.sureAddr,storeVar,hs,bg,h1]
 .have ah:∀c,(∃j,j<(a.eval x).cells.toList.length/\c=b.add (n*cfg.sz y.T+off+j))->g.tag c=some (.tok u):=by rintro c⟨j,hj,rfl⟩;obtain⟨_,_,_,_,_,ab⟩:=ak (off+j) Yp;rw[show n*cfg.sz y.T+(off+j)=n*cfg.sz y.T+off+j by omega]at ab;exact ab
  have af:∀c,g.tag c≠some (.tok u)->w'.cell? c=w.cell? c:=λc hc=>h4 c λj hj e=>hc (ah c ⟨j,hj,e⟩);have a6:∀c v,g.m c=some v->w'.cell? c=some v:=λc v hv=>by obtain⟨h7,h8⟩:=h.inv.im c v hv;grind
  have al:Zp st ({ls:=[(u,⟨y.T,y.l.set n e,y.f⟩)]}:Eff U)=st.dead:=by funext t;simp[Zp]
  have aq:Keeps g g st.dead (Zp st ({ls:=[(u,⟨y.T,y.l.set n e,y.f⟩)]}:Eff U)) (λnm=>(st.mem nm).isSome) (Yi st ({ls:=[(u,⟨y.T,y.l.set n e,y.f⟩)]}:Eff U)):=by rw[al];exact .refl _ _ _
  refine⟨⟨λc v hv=>⟨a6 c v hv,(h.inv.im c v hv).2⟩,λc t a8=>?_⟩,?_,aq,?_,trivial,?_,?_⟩;.obtain⟨h7,u',h8⟩:=h.inv.it c t a8;grind
  .exact h.fr.step h.inv h2 (λc hc=>⟨_,ah c hc,λt' e=>by cases e⟩) (λ_ _ h=>h) (λ_ _=>QM) (λ_ _ _ _ _=>rfl) (λ_=>rfl)
  .rw[al];intro nm bi hm j c hj;obtain⟨v0,b3,ab,b8⟩:=h.mem nm bi hm j c hj;grind
  .intro t z hz;rw[al];unfold JV at hz;simp only[Xi,cond_false,Zy]at hz;split at hz
   .rename_i et;subst et;cases hz;refine⟨br,.inr ⟨b,len,bh,bu,by simp[a7],ax,be,?_,ao⟩⟩;intro i q hq j c hc;simp only at hq hc⊢;have hj:j<cfg.sz y.T:=by have:=(Q4.1 hc).1;rw[ok.enc_len]at this;exact this
    by_cases hin:i=n
    .subst hin;rw[Kp]at hq;simp only[if_true,hn]at hq;cases hq;obtain⟨u',c0,g1,g2,g3,g4⟩:=ak j hj;have bv:cs'.length=cfg.sz y.T:=by rw[bk];exact ok.enc_len _ _
     have a2:cs'[j]?=some (cs'[j]'Yp):=Q1 _;have bb:=bo j _ c a2 hc;have d:cs'[j]?=if off<=j/\j<off+new.length then new[j-off]? else(cfg.enc y.T (y.l.getD i (cfg.dflt y.T)))[j]?:=by
      unfold YK at hsc;rw[Y3]at hsc;simp only[Option.some.injEq]at hsc;rw[<-hsc,Q7,QK];simp only[Qu];rw[Xs Yp];split;.grind
      .rename_i h7;rw[QK];split;.rename_i h8;grind
       .rename_i h8;rw[JH,Qy];congr 1;omega
     rw[a2]at d;split at d;.rename_i hr;have ba:(a.eval x).cells.toList[j-off]?=some ((a.eval x).cells.toList[j-off]'Yp):=Q1 _;have h7:=h3 (j-off) _ ba;rw[show i*cfg.sz y.T+off+(j-off)=i*cfg.sz y.T+j by omega]at h7;exact⟨_,h7,(aj.2 _ _ _ ba d.symm).1.wk bb,λhi=>by omega,λ_=>g4⟩
     .rename_i hr;rw[g1]at d;cases d;refine⟨u',?_,g3.wk bb,λhi=>by omega,λ_=>g4⟩;rw[h4 _ λj' bq e=>by have:=Z2k e;omega];exact g2
    .rw[List.getElem?_set_ne (Ne.symm hin)]at hq;obtain⟨u',g1,g2,g3,g4⟩:=ae i q hq j c hc;refine⟨u',?_,g2,g3,g4⟩;rw[h4 _ λj' bq e=>by
      have:=Z2k e;rcases XC i n with hlt|hge;.have:(i+1)*cfg.sz y.T<=n*cfg.sz y.T:=Qg _ hlt;grind
      .have:(n+1)*cfg.sz y.T<=i*cfg.sz y.T:=Qg _ Yp;grind];exact g1
   .rename_i b5;obtain⟨h7,h8⟩:=h.ls t z hz;exact⟨h7,h8.keep (.refl g st.dead (λ_=>true)) h7 a6 (λc a8=>af c (by grind))⟩
  .rw[al];intro t h0 h7 h8;unfold JV at h7;simp only[Xi,cond_false,Zy]at h7;split at h7;.cases h7
   .exact h.fresh t h0 h7 h8
end Go.AM
