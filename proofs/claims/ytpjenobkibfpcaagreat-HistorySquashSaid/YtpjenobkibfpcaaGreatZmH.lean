import Derived.Test.YtpjenobkibfpcaaGreatZmF
set_option linter.unusedSimpArgs false
set_option linter.unusedVariables false
namespace Go.AM
variable {U:Uni} {P:Program} {cfg:Cfg U} {B:Base} {st:FSt U} {g:Gh} {a:Act} {w:World}
theorem RelL.sim{vs:List Value}{cs:List (C U)}{dead:Tok->Bool}(h:RelL cfg g dead vs cs){j:Nat}{v:Value}{c:C U}(hv:vs[j]?=some v)(hc:cs[j]?=some c):SimC cfg g.m v c:=(h.2 j v c hv hc).1
theorem ZbK (ok:CfgOk P cfg) {T:U.Ty} {cs:List (C U)} {x:U.El T} {vs:List Value} {m:Addr->Option Value} (hd:cfg.dec T cs=some x) (hl:vs.length=cs.length)
  (h:∀ (j:Nat) v c,vs[j]?=some v->cs[j]?=some c->SimC cfg m v c):
  vs.length=cfg.sz T/\∀ (j:Nat) c,(cfg.enc T x)[j]?=some c->∃ v,vs[j]?=some v/\SimC cfg m v c:=by
 obtain ⟨h1,h2⟩:=ok.dec_ok T cs x hd
 have h3:=ok.enc_len T x
 refine ⟨JX,fun j c hc=> ?_⟩
 have hj:j < (cfg.enc T x).length:=(Q8.1 hc).1
 have u:vs[j]?=some (vs[j]'JX):=Q4 _
 have s:cs[j]?=some (cs[j]'JX):=Q4 _
 exact ⟨_,u,(h j _ _ u s).wk (h2 j _ _ s hc)⟩
theorem Z7g (h:Rel cfg B st g a w) {w1:World} (hw:SameHeap w w1) {T:U.Ty} {l:List (U.El T)} {arr:Array Value} (e:TypeId) {cap:Nat} {tl:Tail} {d:Nat} {kl:List Tok}
  (hcap:l.length<=cap) (hsz:arr.size=cap*cfg.sz T) (htl:tl= .own (.r d 0)\/(tl= .full/\l.length=cap)) (henc:∀ x,(cfg.enc T x).length=cfg.sz T)
  (hrows:∀ i x,l[i]?=some x->∀ j c,(cfg.enc T x)[j]?=some c->∃ v,arr[i*cfg.sz T+j]?=some v/\SimC cfg g.m v c):
  ∃ g',Out cfg B st g { val:=some (.c (.slice T l tl)),kill:=kl } (.slice (some ⟨w.heap.size,0,none⟩) l.length cap) (w1.alloc (.cells arr e)) g':=by
 let im:Nat->Bool:=fun i=> decide (i < l.length*cfg.sz T)
 let tg:Nat->Option Tag:=fun i=> if l.length*cfg.sz T<=i/\i < arr.size then some (.tok (.r d 0)) else none
 obtain ⟨h1,h2,h3,h4,h5⟩:=Zod h hw arr e im tg g.ad (by
  grind) (fun _ _=> rfl) (fun _=> rfl)
 refine ⟨g.new w.heap.size arr im tg g.ad,h1,h2,?_,?_,?_,h.ls_keep rfl (h3 kl.contains _ (fun nm s=> s)) (fun c v u=> h5 _ _ (h.inv.im c v u).1) (fun c t _ ht=> by obtain ⟨_,v,u⟩:=h.inv.it c _ ht;grind),h.fresh_keep rfl (fun _=> rfl)⟩
 .exact h3 kl.contains _ (fun nm s=> s)
 .have k:=h3 kl.contains (fun nm=> (st.mem nm).isSome) (fun _ s=> s)
  intro nm cs hm j c hj
  refine Zkm h k h5 ?_ nm cs hm j c hj
  intro c t ht
  have:=h.inv.lt ht
  simp only [Gh.new]
  grind
 .have k:=h3 kl.contains (fun nm=> (st.mem nm).isSome) (fun _ s=> s)
  refine ⟨.of_rows tl rfl hcap ?_,?_⟩
  .intro i x hx j c hc
   obtain ⟨v,h6,h7⟩:=hrows i x hx j c hc
   refine ⟨v,?_,h7.mono k.m⟩
   have hi:i < l.length:=(Q8.1 hx).1
   have hj:j < cfg.sz T:=by have:=(Q8.1 hc).1;rw [henc] at this;exact this
   have ae:i*cfg.sz T+j < l.length*cfg.sz T:=by
    have:(i+1)*cfg.sz T<=l.length*cfg.sz T:=Qf _ hi
    rw [QJ] at this;omega
   rw [Addr.add_lit,QU]
   simp only [Gh.new,and_self,if_true,im,ae,decide_true]
   exact h6
  .rcases htl with rfl | ⟨rfl,hfull⟩
   .intro _ b len aa u j ao al
    simp only [Value.slice.injEq,Option.some.injEq] at u
    obtain ⟨rfl,rfl,rfl⟩:=u
    rw [Addr.add_lit,QU]
    simp only [Gh.new,and_self,if_true,tg]
    grind
   .intro b len aa u
    grind
theorem ZcI(ok:CfgOk P cfg){T:U.Ty}:∀ (parts:List (Nat × Value)) (ps:List (Nat × V U)) (i:Nat) (l:List (U.El T)) (vs:Array Value),JB cfg T i ps=some l->parts.length=ps.length->
  (∀ (j:Nat) x y,parts[j]?=some x->ps[j]?=some y->x.1=y.1/\RelV cfg g st.dead (fun nm=> (st.mem nm).isSome) x.2 y.2)->(i+parts.length)*cfg.sz T<=vs.size->
  l.length=ps.length/\∃ h,Instr.fill (fun k=> some (k*cfg.sz T,cfg.sz T)) vs parts=some h/\h.size=vs.size/\(∀ q,q < i*cfg.sz T->h[q]?=vs[q]?)/\
   ∀ r x,l[r]?=some x->∀ j c,(cfg.enc T x)[j]?=some c->∃ v,h[(i+r)*cfg.sz T+j]?=some v/\SimC cfg g.m v c
 | [],[],i,l,vs,he,_,_,_=> by
  simp only [JB,Option.some.injEq] at he
  subst he
  exact ⟨rfl,vs,rfl,rfl,fun _ _=> rfl,fun r x hx=> by simp at hx⟩
 | (k,v) ::parts,(k',y) ::ps,i,l,vs,he,hl,hr,af=> by
  obtain ⟨hk,hv⟩:=hr 0 _ _ rfl rfl
  simp only at hk hv
  subst hk
  simp only [JB] at he
  split at he
  .rename_i ai
   subst ai
   split at he
   .rename_i cs ak
    split at he
    .rename_i x hx
     cases hrec:JB cfg T (k+1) ps with
     | none=> grind
     | some l'=>
      simp only [hrec,Qi,Option.some.injEq] at he
      subst he
      have aa:=hv.cells ak
      obtain ⟨aj,ao⟩:=ZbK ok hx aa.1 (fun j v c h1 h2=> aa.sim h1 h2)
      have hl:parts.length=ps.length:=by simpa using hl
      have af:(k+(parts.length+1))*cfg.sz T<=vs.size:=af
      have a1:(k+1)*cfg.sz T<=(k+(parts.length+1))*cfg.sz T:=Qf _ JX
      have ay:(k+1)*cfg.sz T=k*cfg.sz T+cfg.sz T:=by rw [QJ];omega
      have aw:v.cells.size=cfg.sz T:=by simpa using aj
      let vs1:Array Value:=v.cells.zipIdx.foldl (fun cs (c,j)=> cs.setIfInBounds (k*cfg.sz T+j) c) vs
      have s:vs1.toList=vs.toList.take (k*cfg.sz T)++v.cells.toList++vs.toList.drop (k*cfg.sz T+v.cells.toList.length):=by
       show (v.cells.zipIdx.foldl (fun cs (c,j)=> cs.setIfInBounds (k*cfg.sz T+j) c) vs).toList=_
       rw [<-Array.foldl_toList,Array.toList_zipIdx]
       have:=Zh7 (k*cfg.sz T) v.cells.toList 0 vs (by simp;omega)
       simpa using this
      have am:vs1.size=vs.size:=by
       have:=congrArg List.length s
       simp at this
       omega
      obtain ⟨h1,h,h2,h3,h4,h5⟩:=ZcI ok parts ps (k+1) l' vs1 hrec hl
       (fun j x y hx hy=> hr (j+1) x y (by simpa using hx) (by simpa using hy)) (by grind)
      have ab:∀ q:Nat,vs1[q]?=vs1.toList[q]?:=fun q=> (Array.getElem?_toList ..).symm
      refine ⟨by simp [h1],h,?_,by rw [h3,am],?_,?_⟩
      .simp only [Instr.fill]
       grind
      .intro q hq
       rw [h4 q JX,ab,s,Qo,QH (by simp;omega),Xl hq]
       simp
      .intro r x' ae j c hc
       cases r with
       | zero=>
        simp only [XW,Option.some.injEq] at ae
        subst ae
        obtain ⟨u,h6,h7⟩:=ao j c hc
        refine ⟨u,?_,h7⟩
        have hj:j < cfg.sz T:=by have:=(Q8.1 hc).1;rw [ok.enc_len] at this;exact this
        rw [Kc,h4 _ JX,ab,s,Qo,Qu (by simp;omega)]
        have e:k*cfg.sz T+j - (vs.toList.take (k*cfg.sz T)).length=j:=by simp;omega
        grind
       | succ r=>
        grind
    .cases he
   .cases he
  .cases he
theorem ZcM (ok:CfgOk P cfg) (h:Rel cfg B st g a w) {o:Oper} {t:TypeId} {n:Nat} {parts:Array (Nat × Operand)} {T:U.Ty} {ps:List (Nat × V U)} {l:List (U.El T)} (ho:o.op= .buildSlice t n parts)
  (hT:cfg.slT t=some T) (hl:parts.size=ps.length) (hn:ps.length=n) (hsmall:n*cfg.sz T<=16777216)
  (hr:∀ (j:Nat) x y,parts[j]?=some x->ps[j]?=some y->x.1=y.1/\RelV cfg g st.dead (fun nm=> (st.mem nm).isSome) (a.eval x.2) y.2) (he:JB cfg T 0 ps=some l):
  Does P o a w fun v w'=> ∃ g',Out cfg B st g { val:=some (.c (.slice T l .full)) } v w' g':=by
 obtain ⟨hE,hU⟩:=JG ok hT
 obtain ⟨i,ag,zs,z,h1,h2,h3,h4,h5,h6⟩:=ok.el T
 obtain ⟨z',hz,hZ⟩:=Z2H ok h5 w
 have aj:z'=z:=by
  simp [zeroValue,typeInfo,h1,h4] at hz;exact hz.symm
 subst aj
 have am:z'.cells.size=cfg.sz T:=by have:=(Z0M (g:=g) (st:=st) (cfg:=cfg) hZ).1;simp at this;omega
 let vs0:Array Value:=if n*cfg.sz T=0 then (Array.range (n*cfg.sz T)).map ((#[]:Array Value)[· % 0]!) else (Array.range (n*cfg.sz T)).map (z'.cells[· % z'.cells.size]!)
 have ae:vs0.size=n*cfg.sz T:=by simp only [vs0];split <;> simp
 obtain ⟨aw,vs',h7,h8,_,h9⟩:=ZcI (g:=g) (st:=st) ok (parts.toList.map fun x=> (x.1,a.eval x.2)) ps 0 l vs0 he (by simpa using hl) (by
  grind) (by grind)
 have s:l.length=n:=JX
 obtain ⟨g',u⟩:=Z7g (T:=T) (l:=l) (arr:=vs') (d:=0) (kl:=[]) h (SameHeap.refl w) (P.elem t) (cap:=n) (tl:= .full) JX (by rw [h8,ae]) (.inr ⟨rfl,s⟩) (ok.enc_len T)
  (fun i x hx j c hc=> by grind)
 rw [s] at u
 refine .inl ⟨_,_,?_,g',u⟩
 have af:=JE ok T w
 rw [<-hE] at af hz
 simp only [execOp,ho]
 apply Zat
 simp only [Instr.buildSlice,Sem.run_bind,run_underlying hU,Result.andThen_ok,af]
 rw [J3]
 by_cases h0:n*cfg.sz T=0
 .simp only [h0,if_true]
  simp only [vs0,h0,if_true] at h7
  have aa:Instr.fill (fun i=> some (i*cfg.sz T,cfg.sz T)) ((Array.range 0).map ((#[]:Array Value)[· % (#[]:Array Value).size]!)) (parts.map fun x=> (x.1,a.eval x.2)).toList=some vs':=by
   rw [Xz];exact h7
  simp only [Sem.run_bind,Sem.run_pure,Result.andThen_ok,aa]
  try rfl
 .simp only [h0,if_false]
  simp only [vs0,h0,if_false] at h7
  have aa:Instr.fill (fun i=> some (i*cfg.sz T,cfg.sz T)) ((Array.range (n*cfg.sz T)).map (z'.cells[· % z'.cells.size]!)) (parts.map fun x=> (x.1,a.eval x.2)).toList=some vs':=by
   rw [Xz];exact h7
  simp only [Sem.run_bind,Sem.run_pure,Result.andThen_ok,hz,aa]
  try rfl
theorem Z4J(ok:CfgOk P cfg){m:Addr->Option Value}{T:U.Ty}{l:List (U.El T)}{tl:Tail}{b:Addr}{len cap:Nat}(hs:SimC cfg m (.slice (some b) len cap) (.slice T l tl)):
  ∃ vs:List Value,vs.length=len*cfg.sz T/\(∀ (j:Nat) v,vs[j]?=some v->m (b.add j)=some v/\v.oneCell'=true)/\
   ∀ (i:Nat) x,l[i]?=some x->∀ (j:Nat) c,(cfg.enc T x)[j]?=some c->∃ v,vs[i*cfg.sz T+j]?=some v/\SimC cfg m v c:=by
 have hl:l.length=len:=by cases hs;assumption
 have hr:=hs.rows
 have h:=ok.sz_pos T
 let f:Nat->Value:=fun j=> (m (b.add j)).getD undef
 have hf:∀ j,j < len*cfg.sz T->m (b.add j)=some (f j)/\(f j).oneCell'=true:=by
  intro j hj
  have hi:j / cfg.sz T < l.length:=by rw [hl];exact Xx (by grind)
  have s:j % cfg.sz T < (cfg.enc T (l[j / cfg.sz T])).length:=by rw [ok.enc_len];exact XR _ h
  obtain ⟨v,u,h2⟩:=hr _ _ (Q4 hi) _ _ (Q4 s)
  have e:j / cfg.sz T*cfg.sz T+j % cfg.sz T=j:=by rw [Xs];exact XN _ _
  rw [e] at u
  simp only [f,u]
  exact ⟨rfl,h2.one.1⟩
 refine ⟨(List.range (len*cfg.sz T)).map f,by simp,?_,?_⟩
 .grind
 .intro i x hx j c hc
  obtain ⟨v,u,h2⟩:=hr i x hx j c hc
  have hi:i < l.length:=(Q8.1 hx).1
  have hj:j < cfg.sz T:=by have:=(Q8.1 hc).1;rw [ok.enc_len] at this;exact this
  have ah:i*cfg.sz T+j < len*cfg.sz T:=by
   have:(i+1)*cfg.sz T<=len*cfg.sz T:=Qf _ JX
   rw [QJ] at this;omega
  grind
theorem Z49 {T:U.Ty} {l l':List (U.El T)} {vs vs':List Value} {m:Addr->Option Value} (hl:vs.length=l.length*cfg.sz T) (henc:∀ x,(cfg.enc T x).length=cfg.sz T)
  (h:∀ (i:Nat) x,l[i]?=some x->∀ (j:Nat) c,(cfg.enc T x)[j]?=some c->∃ v,vs[i*cfg.sz T+j]?=some v/\SimC cfg m v c)
  (h':∀ (i:Nat) x,l'[i]?=some x->∀ (j:Nat) c,(cfg.enc T x)[j]?=some c->∃ v,vs'[i*cfg.sz T+j]?=some v/\SimC cfg m v c):
  ∀ (i:Nat) x,(l++l')[i]?=some x->∀ (j:Nat) c,(cfg.enc T x)[j]?=some c->∃ v,(vs++vs')[i*cfg.sz T+j]?=some v/\SimC cfg m v c:=by
 intro i x s j c hc
 have hj:j < cfg.sz T:=by have:=(Q8.1 hc).1;rw [henc] at this;exact this
 rw [QK] at s
 split at s
 .grind
 .rename_i aa
  obtain ⟨v,u,h2⟩:=h' _ x s j c hc
  refine ⟨v,?_,h2⟩
  have e1:l.length*cfg.sz T<=i*cfg.sz T:=Qf _ JX
  rw [Qu JX,hl,<-u]
  congr 1
  rw [Kt];omega
theorem ZdU (ok:CfgOk P cfg) (h:Rel cfg B st g a w) {o:Oper} {t:TypeId} {p q:Operand} {T:U.Ty} {n m:Int} {ag:Bool} {zs:List (C U)} {z:U.El T} (ho:o.op= .makeSlice t p q)
  (hT:cfg.slT t=some T) (hp:a.eval p= .int .i64 n) (hq:a.eval q= .int .i64 m) (hz:cfg.var (cfg.elT T)=some (ag,zs)) (hd:cfg.dec T zs=some z)
  (hn:0<=n/\n*cfg.bytes T<=140737488355328/\n<=9223372036854775807) (hm:m=n):
  Does P o a w fun v w'=> ∃ g',Out cfg B st g { val:=some (.c (.slice T (List.replicate n.toNat z) .full)) } v w' g':=by
 have aq:=hm.symm
 subst aq
 obtain ⟨k,rfl⟩:=X6 hn.1
 simp only [Kf] at*
 rw [Xh]
 obtain ⟨hE,hU⟩:=JG ok hT
 obtain ⟨i,a4,a8,z',h1,h2,h3,h4,h5,h6⟩:=ok.el T
 rw [hz] at h5
 simp only [oP] at h5
 obtain ⟨rfl,rfl⟩:=h5
 obtain ⟨s,ab,hZ⟩:=Z2H ok hz w
 have ar:s=z':=by
  simp [zeroValue,typeInfo,h1,h4] at ab;exact ab.symm
 subst ar
 have u:=Z0M (g:=g) (st:=st) (cfg:=cfg) hZ
 have am:s.cells.size=cfg.sz T:=by have:=u.1;simp at this;omega
 have ax:=ok.sz_pos T
 obtain ⟨ba,au⟩:=ZbK ok hd u.1 (fun j v c h1 h2=> u.sim h1 h2)
 let arr:Array Value:=(Array.range (k*cfg.sz T)).map (s.cells[· % s.cells.size]!)
 obtain ⟨g',ae⟩:=Z7g (T:=T) (l:=List.replicate k z) (arr:=arr) (d:=0) (kl:=[]) h (SameHeap.refl w) (P.elem t) (cap:=k) (tl:= .full) (by simp) (by simp [arr]) (.inr ⟨rfl,by simp⟩) (ok.enc_len T)
  (by
   intro i x hx j c hc
   obtain ⟨hi,hx⟩:=Q8.1 hx
   simp at hx hi
   subst hx
   obtain ⟨v,h7,h8⟩:=au j c hc
   have hj:j < cfg.sz T:=by have:=(Q8.1 hc).1;rw [ok.enc_len] at this;exact this
   have a1:i*cfg.sz T+j < k*cfg.sz T:=by
    have:(i+1)*cfg.sz T<=k*cfg.sz T:=Qf _ JX
    rw [QJ] at this;omega
   refine ⟨v,?_,h8⟩
   have h9:s.cells[j]?=some v:=by rw [<-h7];simp
   have a2:j < s.cells.size:=JX
   have e:(i*cfg.sz T+j) % s.cells.size=j:=by rw [am,Xs,Kb,K5 hj]
   grind)
 rw [Xk] at ae
 refine .inl ⟨_,_,?_,g',ae⟩
 have af:=JE ok T w
 rw [<-hE] at af ab
 have aa:(typeInfo (P.elem t)).run P w= .ok i w:=by rw [hE];simp [typeInfo,h1]
 have hw:IntKind.i64.wrap (k:Int)=k:=by simp [IntKind.wrap,IntKind.signed,IntKind.bits];omega
 have ai:¬(281474976710656 < (i.bytes:Int)*(k:Int)):=by
  rw [h3,Int.mul_comm];have:=hn.2.1;omega
 have aj:¬(k:Int) < 0:=JX
 simp only [execOp,ho]
 apply Zat
 simp only [hp,hq]
 by_cases h0:k*cfg.sz T=0
 .have ah:arr=#[]:=by simp only [arr,h0];simp
  simp [Instr.makeSlice,run_underlying hU,asInt,asIntOf,aa,hw,ai,aj,af,h0,newRow,ah]
  grind
 .have ao:(decide ((k:Int) < 0) || decide ((i.bytes:Int)*(k:Int) > 2 ^ 48) || decide ((k:Int) < 0) || decide ((k:Int) > (k:Int)))=false:=by
   simp [ai,aj]
  simp only [Instr.makeSlice,Sem.run_bind,run_underlying hU,Result.andThen_ok,asInt,asIntOf,Sem.run_pure,aa,hw,ao]
  simp only [Xv,if_false,Sem.run_bind,run_askRoom,Result.andThen_ok,af,Xh,h0,ab,Sem.run_pure]
  try rfl
open Classical in
noncomputable def Gh.grown(g:Gh)(w':World)(b:Addr)(lo mid hi:Nat)(t:Tok):Gh:=
 {m:=fun c=> if ∃ j,lo<=j/\j < mid/\c=b.add j then w'.cell? c else g.m c
  tag:=fun c=> if ∃ j,lo<=j/\j < mid/\c=b.add j then none else if ∃ j,mid<=j/\j < hi/\c=b.add j then some (.tok t) else g.tag c
  ad:=g.ad
  bs:=g.bs }
theorem ZdZ (ok:CfgOk P cfg) (h:Rel cfg B st g a w) {T:U.Ty} {l l':List (U.El T)} {tl:Tail} {b:Addr} {len cap n:Nat} {vs:List Value} {d:Nat} {kl:List Tok}
  (hx:RelC cfg g st.dead (.slice (some b) len cap) (.slice T l tl)) (hl:l.length=len) (hc:len<=cap) (hfit:len+n<=cap) (hln:l'.length=n)
  (hvl:vs.length=n*cfg.sz T) (hvo:∀ v∈vs,v.oneCell'=true)
  (hvr:∀ (i:Nat) x,l'[i]?=some x->∀ (j:Nat) c,(cfg.enc T x)[j]?=some c->∃ v,vs[i*cfg.sz T+j]?=some v/\SimC cfg g.m v c)
  (htl:(tl= .full/\kl=[])\/∃ u,tl= .own u/\st.dead u=false/\kl=[u]):
  ∃ w' g',(storeCells (b.add (len*cfg.sz T)) vs).run P w= .ok () w'/\Out cfg B st g { val:=some (.c (.slice T (l++l') (.own (.r d 0)))),kill:=kl } (.slice (some b) (len+n) cap) w' g':=by
 have bn:(len+n)*cfg.sz T=len*cfg.sz T+n*cfg.sz T:=QJ ..
 have bi:(len+n)*cfg.sz T<=cap*cfg.sz T:=Qf _ hfit
 have ak:∀ j,len*cfg.sz T<=j->j < cap*cfg.sz T->∃ u,kl=[u]/\g.tag (b.add j)=some (.tok u):=by
  intro j h1 h2
  rcases htl with ⟨rfl,_⟩ | ⟨u,rfl,hu,rfl⟩
  .have:=hx.2 _ _ _ rfl
   subst this
   omega
  .exact ⟨u,rfl,hx.2 hu b len cap rfl j h1 h2⟩
 obtain ⟨w',h1,h2,h3,h4,h5,h6⟩:=JH (P:=P) (b.add (len*cfg.sz T)) vs 0 w hvo (by
  intro j hj
  rw [Go.Deep.add_add,QU]
  obtain ⟨u,_,ht⟩:=ak (len*cfg.sz T+j) JX JX
  obtain ⟨h7,v,h8⟩:=h.inv.it _ _ ht
  exact ⟨⟨v,h8⟩,h7⟩)
 simp only [QU,Go.Deep.add_add] at h2 h3 h4
 let g':=g.grown w' b (len*cfg.sz T) ((len+n)*cfg.sz T) (cap*cfg.sz T) (.r d 0)
 have hS:∀ c,(∃ j,len*cfg.sz T<=j/\j < cap*cfg.sz T/\c=b.add j)->∃ u,kl=[u]/\g.tag c=some (.tok u):=by
  rintro c ⟨j,ao,am,rfl⟩
  exact ak j ao am
 have bj:∀ c,(∃ j,len*cfg.sz T<=j/\j < (len+n)*cfg.sz T/\c=b.add j)->∃ v,w'.cell? c=some v:=by
  rintro c ⟨j,ao,am,rfl⟩
  have:=h3 (j - len*cfg.sz T) _ (Q4 JX)
  rw [show len*cfg.sz T+(j - len*cfg.sz T)=j by omega] at this
  exact ⟨_,this⟩
 have ax:∀ c v,g.m c=some v->w'.cell? c=some v/\¬(∃ j,len*cfg.sz T<=j/\j < cap*cfg.sz T/\c=b.add j):=by
  intro c v hv
  obtain ⟨h7,h8⟩:=h.inv.im c v hv
  have ah:¬(∃ j,len*cfg.sz T<=j/\j < cap*cfg.sz T/\c=b.add j):=fun hc=> by
   obtain ⟨u,_,h9⟩:=hS c hc
   rw [h8] at h9;cases h9
  refine ⟨?_,ah⟩
  rw [h4 c fun j hj e=> ah ⟨_,JX,JX,e⟩]
  exact h7
 have aq:∀ c v,g.m c=some v->g'.m c=some v:=by
  intro c v hv
  have:=(ax c v hv).2
  simp only [g',Gh.grown]
  rw [if_neg (fun ⟨j,a1,a2,a3⟩=> this ⟨j,a1,JX,a3⟩)]
  exact hv
 have ae:∀ c,¬(∃ j,len*cfg.sz T<=j/\j < cap*cfg.sz T/\c=b.add j)->g'.tag c=g.tag c:=by
  intro c ah
  simp only [g',Gh.grown]
  rw [if_neg (fun ⟨j,a1,a2,a3⟩=> ah ⟨j,a1,JX,a3⟩),if_neg (fun ⟨j,a1,a2,a3⟩=> ah ⟨j,JX,a2,a3⟩)]
 have ba:Inv g'.m g'.tag w':=by
  refine ⟨fun c v hv=> ?_,fun c t ht=> ?_⟩
  .simp only [g',Gh.grown] at hv ⊢
   split at hv
   .rename_i hc
    rw [if_pos hc]
    exact ⟨hv,rfl⟩
   .rename_i hc
    rw [if_neg hc]
    obtain ⟨h7,h8⟩:=ax c v hv
    refine ⟨h7,?_⟩
    rw [if_neg (fun ⟨j,a1,a2,a3⟩=> h8 ⟨j,JX,a2,a3⟩)]
    exact (h.inv.im c v hv).2
  .have ar:∀ t',g.tag c=some t'->w'.frozen? c=false/\∃ v,w'.cell? c=some v:=by
    intro t' bf
    obtain ⟨h7,u,h8⟩:=h.inv.it c t' bf
    exact ⟨(h5 c).trans h7,h2.some c u h8⟩
   simp only [g',Gh.grown] at ht
   split at ht
   .cases ht
   .split at ht
    .rename_i hc
     obtain ⟨j,a1,a2,a3⟩:=hc
     obtain ⟨u,_,h7⟩:=hS c ⟨j,JX,a2,a3⟩
     exact ar _ h7
    .exact ar t ht
 have ai:Keeps g g' st.dead (fun t=> st.dead t || kl.contains t) (fun nm=> (st.mem nm).isSome) (fun nm=> (st.mem nm).isSome):=by
  refine ⟨aq,fun c t hd ht=> ?_,fun t ht=> ?_,fun nm hn=> ⟨hn,rfl⟩,fun _ _ _ h=> h,fun _=> rfl⟩
  .rw [ae c ?_]
   .exact ht
   .intro hc
    obtain ⟨u,hu,h7⟩:=hS c hc
    rw [ht] at h7
    cases h7
    rw [hu] at hd
    simp at hd
  .simp only [QB] at ht
   exact ht.1
 refine ⟨w',g',h1,ba,?_,ai,?_,?_,h.ls_keep rfl ai (fun c v hv=> (ax c v hv).1) (fun c t hd ht=> ?_),h.fresh_keep rfl (fun _=> rfl)⟩
 .refine h.fr.step h.inv h2 ?_ aq ?_ ?_ (fun _=> rfl)
  .rintro c ⟨j,hj,rfl⟩
   obtain ⟨u,_,ht⟩:=ak (len*cfg.sz T+j) JX JX
   exact ⟨_,ht,fun t' e=> by cases e⟩
  .intro c t
   by_cases hc:∃ j,len*cfg.sz T<=j/\j < cap*cfg.sz T/\c=b.add j
   .obtain ⟨u,_,h7⟩:=hS c hc
    constructor
    .intro h8;rw [h7] at h8;cases h8
    .intro h8
     simp only [g',Gh.grown] at h8
     split at h8
     .cases h8
     .split at h8
      .cases h8
      .exact h8
   .rw [ae c hc]
  .intro bb _ a8 o s
   refine ae _ fun hc=> ?_
   obtain ⟨u,_,h7⟩:=hS _ hc
   obtain ⟨t',h8⟩:=a8 _ _ _ h7
   cases h8
 .intro nm cs hm j c hj
  obtain ⟨v,h7,h8,h9⟩:=h.mem nm cs hm j c hj
  have ah:¬(∃ i,len*cfg.sz T<=i/\i < cap*cfg.sz T/\(g.ad nm).add j=b.add i):=fun hc=> by
   obtain ⟨u,_,az⟩:=hS _ hc
   rw [h8] at az;cases az
  refine ⟨v,?_,(ae _ ah).trans h8,h9.keep ai⟩
  show w'.cell? ((g.ad nm).add j)=some v
  rw [h4 _ fun i hi e=> ah ⟨_,JX,JX,e⟩]
  exact h7
 .refine ⟨.of_rows _ (by simp [hl,hln]) hfit ?_,?_⟩
  .obtain ⟨us,a6,bd,bg⟩:=Z4J ok hx.1
   have:=Z49 (m:=g.m) (vs:=us) (vs':=vs) (by rw [a6,hl]) (ok.enc_len T) bg hvr
   intro i x hi j c hj
   obtain ⟨v,h7,h8⟩:=this i x hi j c hj
   refine ⟨v,?_,h8.mono aq⟩
   by_cases hlt:i*cfg.sz T+j < len*cfg.sz T
   .rw [QH JX] at h7
    exact aq _ _ (bd _ _ h7).1
   .rw [Qu JX,a6] at h7
    have h9:=h3 _ _ h7
    rw [show len*cfg.sz T+(i*cfg.sz T+j - len*cfg.sz T)=i*cfg.sz T+j by omega] at h9
    have az:=(Q8.1 h7).1
    simp only [g',Gh.grown]
    rw [if_pos ⟨i*cfg.sz T+j,JX,JX,rfl⟩]
    exact h9
  .intro _ b' bm bk hv j ao am
   simp only [Value.slice.injEq,Option.some.injEq] at hv
   obtain ⟨rfl,rfl,rfl⟩:=hv
   simp only [g',Gh.grown]
   rw [if_neg (fun ⟨i,a1,a2,a3⟩=> by have:=Z2h a3;omega),if_pos ⟨j,ao,am,rfl⟩]
 .refine h4 c fun j hj e=> ?_
  obtain ⟨u,hu,h7⟩:=ak (len*cfg.sz T+j) JX JX
  rw [e,h7] at ht
  cases ht
  rw [hu] at hd
  simp [Zq] at hd
theorem Z7c(w:World)(need old:Nat)(e:TypeId):need<=grownCap w need old e:=by
 exact Km _ _
theorem Zld (ok:CfgOk P cfg) (h:Rel cfg B st g a w) {o:Oper} {d:Nat} {t:TypeId} {x y:C U} {px py:Operand} {ps:List Prop} {e:Eff U}
  (ho:o.op= .call { callee:= .builtin .append,args:=#[px,py],argTypes:=#[t,t] })
  (hx:RelC cfg g st.dead (a.eval px) x) (hy:RelC cfg g st.dead (a.eval py) y) (he:Z8D cfg st d t x y=some (ps,e)) (hps:All ps):
  Does P o a w fun v w'=> ∃ g',Out cfg B st g e v w' g':=by
 unfold Z8D at he
 split at he
 .cases he
 rename_i T hT
 split at he
 case h_2=> cases he
 rename_i l tl l' cc bn bv
 obtain ⟨hE,hU⟩:=JG ok hT
 obtain ⟨a2,b,len,cap,ba,hl,hc,hb⟩:=Z5g hx bn
 obtain ⟨bb,b',n,ae,be,ai,ck,bu⟩:=Z5g hy bv
 rw [ba] at a2
 rw [be] at bb
 have br:P.underlying t=some (.slice (cfg.elT T)):=by rw [hE] at hU;exact hU
 obtain ⟨i,ag,zs,z,hi,bc,cv,hz,a3,ch⟩:=ok.el T
 have af:(l.length+l'.length)*cfg.bytes T<=140737488355328:=by
  split at he
  .cases he
  .simp only [oP] at he;rw [<-he.1] at hps;exact hps.1
  .split at he
   .cases he
   .simp only [oP] at he;rw [<-he.1] at hps;exact hps.1
 have au:∃ kl,e={ val:=some (.c (.slice T (l++l') (.own (.r d 0)))),kill:=kl }/\((tl= .full/\kl=[])\/∃ u,tl= .own u/\st.dead u=false/\kl=[u]):=by
  split at he
  .cases he
  .simp only [oP] at he;exact ⟨[],he.2.symm,.inl ⟨rfl,rfl⟩⟩
  .split at he
   .cases he
   .rename_i u _ hu
    simp only [oP] at he
    exact ⟨[u],he.2.symm,.inr ⟨u,rfl,by simpa using hu,rfl⟩⟩
 obtain ⟨kl,rfl,au⟩:=au
 rw [hl,ai] at af
 have bl:=ok.bytes_pos T
 have b6:len+n<=140737488355328:=QF (XV _ bl) af
 have a5:∃ vs:List Value,vs.length=n*cfg.sz T/\(∀ v∈vs,v.oneCell'=true)/\(∀ w:World,(∀ c v,g.m c=some v->w.cell? c=some v)->(Builtin.firstCells i.size n (.slice b' n ae)).run P w= .ok vs.toArray w)/\
   (∀ (k:Nat) x,l'[k]?=some x->∀ (j:Nat) c,(cfg.enc T x)[j]?=some c->∃ v,vs[k*cfg.sz T+j]?=some v/\SimC cfg g.m v c)/\
   (∀ a',b'=some a'->∀ (j:Nat) v,vs[j]?=some v->g.m (a'.add j)=some v):=by
  cases b' with
  | none=>
   obtain ⟨rfl,rfl⟩:=bu rfl
   have ah:l'=[]:=Q5 ai
   subst ah
   exact ⟨[],by simp,by simp,fun w _=> run_firstCells_none w _ _ _ _,fun k x hx=> by simp at hx,fun a' ha=> by cases ha⟩
  | some a'=>
   obtain ⟨vs,h1,h2,h3⟩:=Z4J ok bb.1
   refine ⟨vs,h1,fun v hv=> ?_,fun w hw=> ?_,h3,fun cm ha j v hv=> ?_⟩
   .obtain ⟨j,hj,rfl⟩:=Xp hv
    exact (h2 j _ (Q4 hj)).2
   .exact run_firstCells_some w i.size n a' n ae vs (by grind) (fun j v hv=> hw _ _ (h2 j v hv).1)
   grind
 obtain ⟨vs,a9,bx,s,bf,cb⟩:=a5
 have av:∀ c v,g.m c=some v->w.cell? c=some v:=fun c v hv=> (h.inv.im c v hv).1
 have aa:(execOp a.eval o).run P w=((Builtin.append_ #[t,t] o.type #[.slice b len cap,.slice b' n ae]).run P w).andThen fun v w=> .ok (.value v) w:=by
  simp only [execOp,ho,resolve,Sem.run_bind,Sem.run_pure,Result.andThen_ok,invoke,builtin]
  simp [ba,be]
 have ao:∀ w,(underlying t).run P w= .ok (.slice (cfg.elT T)) w:=fun w=> run_underlying br w
 by_cases hfit:len+n<=cap
 .cases b with
  | none=>
   obtain ⟨rfl,rfl⟩:=hb rfl
   have bw:n=0:=JX
   subst bw
   have ah:l=[]:=Q5 hl
   have b2:l'=[]:=Q5 ai
   subst ah b2
   have bm:vs=[]:=Q5 JX
   subst bm
   have ax:Keeps g g st.dead (Zq st ({ val:=some (.c (.slice T ([]++[]) (.own (.r d 0)))),kill:=kl }:Eff U)) (fun nm=> (st.mem nm).isSome) (Yg st ({ val:=some (.c (.slice T ([]++[]) (.own (.r d 0)))),kill:=kl }:Eff U)):=
    ⟨fun _ _ h=> h,fun _ _ _ h=> h,fun t ht=> by simp only [Zq,QB] at ht;exact ht.1,fun nm hn=> ⟨hn,rfl⟩,fun _ _ _ h=> h,fun _=> rfl⟩
   refine .inl ⟨.slice none 0 0,w,?_,g,h.inv,h.fr,ax,?_,⟨.snil T _,fun _ a len cap hv=> by simp at hv⟩,h.ls_keep rfl ax (fun c v hv=> (h.inv.im c v hv).1) (fun _ _ _ _=> rfl),h.fresh_keep rfl (fun _=> rfl)⟩
   .rw [aa]
    simp [Builtin.append_,ao,sizeOf,typeInfo,hi,Builtin.lenOf,s w av]
   .intro nm cs hm j c hj
    obtain ⟨v,h7,h8,h9⟩:=h.mem nm cs hm j c hj
    exact ⟨v,h7,h8,h9.keep ax⟩
  | some b=>
   obtain ⟨w',g',h1,h2⟩:=ZdZ (P:=P) (d:=d) ok h a2 hl hc hfit ai a9 bx bf au
   refine .inl ⟨_,w',?_,g',h2⟩
   rw [aa]
   rw [<-bc] at h1
   simp [Builtin.append_,ao,sizeOf,typeInfo,hi,Builtin.lenOf,s w av,hfit,h1]
 .have ay:cap < len+n:=JX
  have bk:0 < n:=JX
  have b7:¬((len+n:Nat):Int) > 9223372036854775807:=JX
  have bt:Builtin.nextslicecap (len+n) cap*i.bytes<=281474976710656:=growslice_fits ay (by grind)
  have ar:=Z7c w (len+n) cap (cfg.elT T)
  have a6:∃ us:List Value,us.length=len*cfg.sz T/\(∀ w:World,(∀ c v,g.m c=some v->w.cell? c=some v)->(Builtin.firstCells i.size len (.slice b len cap)).run P w= .ok us.toArray w)/\
    ∀ (k:Nat) x,l[k]?=some x->∀ (j:Nat) c,(cfg.enc T x)[j]?=some c->∃ v,us[k*cfg.sz T+j]?=some v/\SimC cfg g.m v c:=by
   cases b with
   | none=>
    obtain ⟨rfl,rfl⟩:=hb rfl
    have ah:l=[]:=Q5 hl
    subst ah
    exact ⟨[],by simp,fun w _=> run_firstCells_none w _ _ _ _,fun k x hx=> by simp at hx⟩
   | some b=>
    obtain ⟨us,h1,h2,h3⟩:=Z4J ok a2.1
    exact ⟨us,h1,fun w hw=> run_firstCells_some w i.size len b len cap us (by grind) (fun j v hv=> hw _ _ (h2 j v hv).1),h3⟩
  obtain ⟨us,ak,aw,bp⟩:=a6
  have bj:z.cells.size=cfg.sz T:=by
   obtain ⟨z',a8,hZ⟩:=Z2H ok a3 w
   have:z'=z:=by simp [zeroValue,typeInfo,hi,hz] at a8;exact a8.symm
   subst this
   have:=(Z0M (g:=g) (st:=st) (cfg:=cfg) hZ).1;simp at this;omega
  let nc:=grownCap w (len+n) cap (cfg.elT T)
  let arr:Array Value:=us.toArray++vs.toArray++Builtin.zeroCells z.cells (nc - (len+n))
  have cp:len+n<=nc:=ar
  have a4:arr.size=nc*cfg.sz T:=by
   have e1:(len+n)*cfg.sz T+(nc - (len+n))*cfg.sz T=nc*cfg.sz T:=by rw [<-QJ];congr 1;omega
   rw [QJ] at e1
   simp [arr,Builtin.zeroCells,ak,a9,bj]
   omega
  have a1:=Z49 (m:=g.m) (vs:=us) (vs':=vs) (by rw [ak,hl]) (ok.enc_len T) bp bf
  obtain ⟨g',al⟩:=Z7g (T:=T) (l:=l++l') (arr:=arr) (d:=d) (kl:=kl) h (SameHeap.drew w) (cfg.elT T) (cap:=nc) (tl:= .own (.r d 0)) (by grind) a4 (.inl rfl) (ok.enc_len T)
   (fun k x hx j c hc=> by
    obtain ⟨v,h1,h2⟩:=a1 k x hx j c hc
    grind)
  rw [show (l++l').length=len+n by simp [hl,ai]] at al
  refine .inl ⟨_,_,?_,g',al⟩
  have a7:∀ c v,g.m c=some v->w.drew.cell? c=some v:=fun c v hv=> (av c v hv)
  rw [aa]
  have b1:¬(Builtin.nextslicecap (len+n) cap*i.bytes > 2 ^ 48):=JX
  have ce:¬i.bytes=0:=JX
  have bo:¬((9223372036854775807:Int) < (len:Int)+(n:Int)):=JX
  simp [Builtin.append_,ao,sizeOf,typeInfo,zeroValue,hi,hz,Builtin.lenOf,hfit,bo,b1,Question.forced,aw w.drew a7,s w.drew a7,newRow]
  refine ⟨rfl,?_⟩
  simp only [arr,nc,grownCap,Ki]
def Gh.setBs(g:Gh)(t:Tok)(v:Value × Nat):Gh:={ g with bs:=fun u=> if u=t then some v else g.bs u }
theorem Fr.setBs{t:Tok}{v:Value × Nat}(h:Fr B g w):Fr B (g.setBs t v) w:=⟨h.stay,h.xad,h.mono,h.outer,h.outer',h.clean,h.frz⟩
theorem Keeps.setBs{g':Gh}{dead dead2:Tok->Bool}{live live2:Name->Bool}{t:Tok}{v:Value × Nat}(k:Keeps g g' dead dead2 live live2)(hf:g.bs t=none):Keeps g (g'.setBs t v) dead dead2 live live2:=
 ⟨k.m,k.tok,k.dead,k.ad,fun u x h s=> by
  simp only [Gh.setBs]
  split
  .grind
  .exact k.bs u x h s,k.adx⟩
def ZT(d:Nat)(T:U.Ty)(l:List (U.El T))(f:Nat)(kl:List Tok):Eff U:={ val:=some (.c (.mref (.r d 0))),kill:=kl,ls:=[(.r d 0,⟨T,l,f⟩)] }
theorem Zcv{d:Nat}{T:U.Ty}{l:List (U.El T)}{f:Nat}{kl:List Tok}{t:Tok}{x:LC U}(h:Z0o st.ls (ZT d T l f kl) t=some x):
  (t= .r d 0/\x=⟨T,l,f⟩)\/(t≠.r d 0/\st.ls t=some x/\kl.contains t=false):=by
 unfold Z0o at h
 cases hk:kl.contains t with
 | true=> simp only [ZT,hk,cond_true,reduceCtorEq] at h
 | false=>
  simp only [ZT,hk,cond_false,ZE] at h
  grind
theorem Z3J{d:Nat}{T:U.Ty}{l:List (U.El T)}{f:Nat}{kl:List Tok}{t:Tok}(h:Z0o st.ls (ZT d T l f kl) t=none)(hd:Zq st (ZT d T l f kl) t=false):
  t≠.r d 0/\st.ls t=none/\st.dead t=false:=by
 simp only [Zq,QB] at hd
 unfold Z0o at h
 rw [hd.2] at h
 simp only [ZT,cond_false,ZE] at h
 grind
theorem Z62 (h:Rel cfg B st g a w) {w1:World} (hw:SameHeap w w1) {T:U.Ty} {l:List (U.El T)} {arr:Array Value} (e:TypeId) {cap d f:Nat} {kl:List Tok}
  (hcap:l.length<=cap) (hf:f<=l.length) (hsz:arr.size=cap*cfg.sz T) (henc:∀ x,(cfg.enc T x).length=cfg.sz T)
  (hls:st.ls (.r d 0)=none) (hdd:st.dead (.r d 0)=false) (hkl:kl.contains (.r d 0)=false)
  (hrows:∀ i x,l[i]?=some x->∀ j c,(cfg.enc T x)[j]?=some c->∃ v,arr[i*cfg.sz T+j]?=some v/\SimC cfg g.m v c):
  ∃ g',Out cfg B st g (ZT d T l f kl) (.slice (some ⟨w.heap.size,0,none⟩) l.length cap) (w1.alloc (.cells arr e)) g':=by
 let im:Nat->Bool:=fun i=> decide (i < f*cfg.sz T)
 let tg:Nat->Option Tag:=fun i=> if f*cfg.sz T<=i/\i < arr.size then some (.tok (.r d 0)) else none
 obtain ⟨h1,h2,h3,h4,h5⟩:=Zod h hw arr e im tg g.ad (by
  grind) (fun _ _=> rfl) (fun _=> rfl)
 have u:=h.fresh (.r d 0) rfl hls hdd
 have ai:Keeps g (g.new w.heap.size arr im tg g.ad) st.dead (Zq st (ZT d T l f kl)) (fun nm=> (st.mem nm).isSome) (Yg st (ZT d T l f kl)):=h3 kl.contains _ (fun nm hs=> hs)
 have hk:=ai.setBs (t:= .r d 0) (v:=(.slice (some ⟨w.heap.size,0,none⟩) l.length cap,cfg.sz T)) u
 have af:Zq st (ZT d T l f kl) (.r d 0)=false:=by simp only [Zq,ZT,hdd,hkl,Xt]
 refine ⟨(g.new w.heap.size arr im tg g.ad).setBs (.r d 0) (.slice (some ⟨w.heap.size,0,none⟩) l.length cap,cfg.sz T),h1,h2.setBs,hk,?_,⟨.mref _ _ ⟨rfl,rfl⟩,fun _=> ⟨cfg.sz T,by simp [Gh.setBs]⟩⟩,?_,?_⟩
 .intro nm cs hm j c hj
  refine Zkm h hk h5 ?_ nm cs hm j c hj
  intro c t ht
  have:=h.inv.lt ht
  simp only [Gh.setBs,Gh.new]
  grind
 .intro t x hx
  rcases Zcv hx with ⟨rfl,rfl⟩ | ⟨hne,hx,hkt⟩
  .refine ⟨af,.inr ⟨⟨w.heap.size,0,none⟩,l.length,cap,by simp [Gh.setBs],rfl,hcap,hf,?_,?_⟩⟩
   .intro i y hy j c hc
    obtain ⟨v,h6,h7⟩:=hrows i y hy j c hc
    have hi:i < l.length:=(Q8.1 hy).1
    have hj:j < cfg.sz T:=by have:=(Q8.1 hc).1;rw [henc] at this;exact this
    have av:i*cfg.sz T+j < arr.size:=(QV.1 h6).1
    simp only [Addr.add_lit,QU]
    refine ⟨v,(h4 _).trans h6,h7.mono hk.m,fun s=> ?_,fun s=> ?_⟩
    .have:(i+1)*cfg.sz T<=f*cfg.sz T:=Qf _ s
     rw [QJ] at this
     simp only [Gh.setBs,Gh.new,and_self,if_true,im]
     grind
    .have:f*cfg.sz T<=i*cfg.sz T:=Qf _ s
     simp only [Gh.setBs,Gh.new,and_self,if_true,tg]
     grind
   .intro j a1 a2
    dsimp only at a1 a2
    have:f*cfg.sz T<=l.length*cfg.sz T:=Qf _ hf
    simp only [Addr.add_lit,QU]
    simp only [Gh.setBs,Gh.new,and_self,if_true,tg]
    grind
  .obtain ⟨h6,h7⟩:=h.ls t x hx
   have hd:Zq st (ZT d T l f kl) t=false:=by simp only [Zq,ZT,h6,hkt,Xt]
   exact ⟨hd,h7.keep hk hd (fun c v hv=> h5 _ _ (h.inv.im c v hv).1) (fun c ht=> by obtain ⟨_,v,hv⟩:=h.inv.it c _ ht;grind)⟩
 .intro t h0 h6 h7
  obtain ⟨h8,h9,ak⟩:=Z3J h6 h7
  simp only [Gh.setBs]
  rw [if_neg h8]
  exact h.fresh t h0 h9 ak
structure Src (cfg:Cfg U) (g:Gh) (w:World) (T:U.Ty) (l:List (U.El T)) (f:Nat) (kl:List Tok) (b:Addr) (len cap:Nat):Prop where
 hl:l.length=len
 hc:len<=cap
 hf:f<=len
 rows:∀ i y,l[i]?=some y->∀ j c,(cfg.enc T y)[j]?=some c->∃ u,w.cell? (b.add (i*cfg.sz T+j))=some u/\SimC cfg g.m u c/\
  (i < f->g.m (b.add (i*cfg.sz T+j))=some u)/\(f<=i->∃ t,kl=[t]/\g.tag (b.add (i*cfg.sz T+j))=some (.tok t))
 tail:∀ j,len*cfg.sz T<=j->j < cap*cfg.sz T->∃ t,kl=[t]/\g.tag (b.add j)=some (.tok t)
theorem Src.own(ok:CfgOk P cfg){T:U.Ty}{l:List (U.El T)}{f:Nat}{kl:List Tok}{b:Addr}{len cap:Nat}(s:Src cfg g w T l f kl b len cap):
  ∀ j,f*cfg.sz T<=j->j < cap*cfg.sz T->∃ t,kl=[t]/\g.tag (b.add j)=some (.tok t):=by
 intro j h1 h2
 have h:=ok.sz_pos T
 rcases XG j (len*cfg.sz T) with h3 | h3
 .have hi:j / cfg.sz T < l.length:=by rw [s.hl];exact Xx (by grind)
  have aa:j % cfg.sz T < (cfg.enc T (l[j / cfg.sz T])).length:=by rw [ok.enc_len];exact XR _ h
  obtain ⟨u,_,_,_,h4⟩:=s.rows _ _ (Q4 hi) _ _ (Q4 aa)
  have e:j / cfg.sz T*cfg.sz T+j % cfg.sz T=j:=by rw [Xs];exact XN _ _
  rw [e] at h4
  exact h4 ((K8 h).2 h1)
 .exact s.tail j h3 h2
theorem Src.list(ok:CfgOk P cfg){T:U.Ty}{l:List (U.El T)}{f:Nat}{kl:List Tok}{b:Addr}{len cap:Nat}(s:Src cfg g w T l f kl b len cap):
  ∃ vs:List Value,vs.length=len*cfg.sz T/\(∀ (j:Nat) v,vs[j]?=some v->w.cell? (b.add j)=some v)/\
   ∀ (i:Nat) x,l[i]?=some x->∀ (j:Nat) c,(cfg.enc T x)[j]?=some c->∃ v,vs[i*cfg.sz T+j]?=some v/\SimC cfg g.m v c:=by
 have h:=ok.sz_pos T
 let fn:Nat->Value:=fun j=> (w.cell? (b.add j)).getD undef
 have hf:∀ j,j < len*cfg.sz T->w.cell? (b.add j)=some (fn j):=by
  intro j hj
  have hi:j / cfg.sz T < l.length:=by rw [s.hl];exact Xx (by grind)
  have u:j % cfg.sz T < (cfg.enc T (l[j / cfg.sz T])).length:=by rw [ok.enc_len];exact XR _ h
  obtain ⟨v,h1,_⟩:=s.rows _ _ (Q4 hi) _ _ (Q4 u)
  have e:j / cfg.sz T*cfg.sz T+j % cfg.sz T=j:=by rw [Xs];exact XN _ _
  rw [e] at h1
  simp only [fn,h1,Xq]
 refine ⟨(List.range (len*cfg.sz T)).map fn,by simp,?_,?_⟩
 .grind
 .intro i x hx j c hc
  obtain ⟨v,h1,h2,_⟩:=s.rows i x hx j c hc
  have hi:i < l.length:=(Q8.1 hx).1
  have hj:j < cfg.sz T:=by have:=(Q8.1 hc).1;rw [ok.enc_len] at this;exact this
  have af:i*cfg.sz T+j < len*cfg.sz T:=by
   have:(i+1)*cfg.sz T<=len*cfg.sz T:=Qf _ (by have:=s.hl;omega)
   rw [QJ] at this;omega
  grind
open Classical in
noncomputable def Gh.renamed(g:Gh)(b:Addr)(lo hi:Nat)(t:Tok)(v:Value × Nat):Gh:=
 {m:=g.m
  tag:=fun c=> if ∃ j,lo<=j/\j < hi/\c=b.add j then some (.tok t) else g.tag c
  ad:=g.ad
  bs:=fun u=> if u=t then some v else g.bs u }
theorem Z8V (ok:CfgOk P cfg) (h:Rel cfg B st g a w) {T:U.Ty} {l l':List (U.El T)} {b:Addr} {f len cap n:Nat} {vs:List Value} {d:Nat} {kl:List Tok}
  (s:Src cfg g w T l f kl b len cap) (hfit:len+n<=cap) (hln:l'.length=n)
  (hvl:vs.length=n*cfg.sz T) (hvo:∀ v∈vs,v.oneCell'=true)
  (hvr:∀ (i:Nat) x,l'[i]?=some x->∀ (j:Nat) c,(cfg.enc T x)[j]?=some c->∃ v,vs[i*cfg.sz T+j]?=some v/\SimC cfg g.m v c)
  (hls:st.ls (.r d 0)=none) (hdd:st.dead (.r d 0)=false) (hkl:kl.contains (.r d 0)=false):
  ∃ w' g',(storeCells (b.add (len*cfg.sz T)) vs).run P w= .ok () w'/\Out cfg B st g (ZT d T (l++l') f kl) (.slice (some b) (len+n) cap) w' g':=by
 have bm:(len+n)*cfg.sz T=len*cfg.sz T+n*cfg.sz T:=QJ ..
 have bg:(len+n)*cfg.sz T<=cap*cfg.sz T:=Qf _ hfit
 have br:f*cfg.sz T<=len*cfg.sz T:=Qf _ s.hf
 have ak:=s.own ok
 have hl:=s.hl
 obtain ⟨w',h1,h2,h3,h4,h5,h6⟩:=JH (P:=P) (b.add (len*cfg.sz T)) vs 0 w hvo (by
  intro j hj
  rw [Go.Deep.add_add,QU]
  obtain ⟨u,_,ht⟩:=s.tail (len*cfg.sz T+j) JX JX
  obtain ⟨h7,v,h8⟩:=h.inv.it _ _ ht
  exact ⟨⟨v,h8⟩,h7⟩)
 simp only [QU,Go.Deep.add_add] at h2 h3 h4
 let g':=g.renamed b (f*cfg.sz T) (cap*cfg.sz T) (.r d 0) (.slice (some b) (len+n) cap,cfg.sz T)
 have ay:=h.fresh (.r d 0) rfl hls hdd
 have a9:Zq st (ZT d T (l++l') f kl) (.r d 0)=false:=by simp only [Zq,ZT,hdd,hkl,Xt]
 have aj:∀ c,(∃ t,g.tag c=some t/\∀ u,kl=[u]->t≠.tok u)\/g.tag c=none->¬∃ j,f*cfg.sz T<=j/\j < cap*cfg.sz T/\c=b.add j:=by
  rintro c hc ⟨j,a1,a2,rfl⟩
  obtain ⟨u,hu,ht⟩:=ak j a1 a2
  rcases hc with ⟨t,h7,h8⟩ | h7
  .rw [ht] at h7;cases h7;exact h8 u hu rfl
  .rw [ht] at h7;cases h7
 have ab:∀ c,(¬∃ j,f*cfg.sz T<=j/\j < cap*cfg.sz T/\c=b.add j)->g'.tag c=g.tag c:=by
  intro c hc
  simp only [g',Gh.renamed]
  rw [if_neg hc]
 have ai:∀ c,(¬∃ j,f*cfg.sz T<=j/\j < cap*cfg.sz T/\c=b.add j)->w'.cell? c=w.cell? c:=by
  intro c hc
  exact h4 c fun j hj e=> hc ⟨_,JX,JX,e⟩
 have a6:∀ c v,g.m c=some v->w'.cell? c=some v:=by
  intro c v hv
  obtain ⟨h7,h8⟩:=h.inv.im c v hv
  rw [ai c (aj c (.inr h8))]
  exact h7
 have a0:∀ t,Zq st (ZT d T (l++l') f kl) t=false->∀ u,kl=[u]->t≠u:=by
  intro t ht u hu e
  subst e
  simp [Zq,ZT,hu] at ht
 have ae:Keeps g g' st.dead (Zq st (ZT d T (l++l') f kl)) (fun nm=> (st.mem nm).isSome) (Yg st (ZT d T (l++l') f kl)):=by
  refine ⟨fun _ _ h=> h,fun c t hd ht=> ?_,fun t ht=> ?_,fun nm hn=> ⟨hn,rfl⟩,fun t v hd hv=> ?_,fun _=> rfl⟩
  .rw [ab c (aj c (.inl ⟨_,ht,fun u hu e=> by cases e;exact a0 _ hd _ hu rfl⟩))]
   exact ht
  .simp only [Zq,QB] at ht
   exact ht.1
  .simp only [g',Gh.renamed]
   split
   .rename_i e;subst e;rw [ay] at hv;cases hv
   .exact hv
 refine ⟨w',g',h1,⟨fun c v hv=> ?_,fun c t ht=> ?_⟩,?_,ae,?_,⟨.mref _ _ ⟨rfl,rfl⟩,fun _=> ⟨cfg.sz T,by simp [g',Gh.renamed]⟩⟩,?_,?_⟩
 .exact ⟨a6 c v hv,by rw [ab c (aj c (.inr (h.inv.im c v hv).2))];exact (h.inv.im c v hv).2⟩
 .have aq:∀ t',g.tag c=some t'->w'.frozen? c=false/\∃ v,w'.cell? c=some v:=by
   intro t' be
   obtain ⟨h7,u,h8⟩:=h.inv.it c t' be
   exact ⟨(h5 c).trans h7,h2.some c u h8⟩
  by_cases hc:∃ j,f*cfg.sz T<=j/\j < cap*cfg.sz T/\c=b.add j
  .obtain ⟨j,a1,a2,rfl⟩:=hc
   obtain ⟨u,_,h7⟩:=ak j a1 a2
   exact aq _ h7
  .rw [ab c hc] at ht
   exact aq t ht
 .refine h.fr.step h.inv h2 ?_ (fun _ _ h=> h) ?_ ?_ (fun _=> rfl)
  .rintro c ⟨j,hj,rfl⟩
   obtain ⟨u,_,ht⟩:=s.tail (len*cfg.sz T+j) JX JX
   exact ⟨_,ht,fun t' e=> by cases e⟩
  .intro c t
   by_cases hc:∃ j,f*cfg.sz T<=j/\j < cap*cfg.sz T/\c=b.add j
   .have h8:g'.tag c=some (.tok (.r d 0)):=by simp only [g',Gh.renamed];rw [if_pos hc]
    obtain ⟨j,a1,a2,rfl⟩:=hc
    obtain ⟨u,_,h7⟩:=ak j a1 a2
    rw [h7,h8]
    constructor <;> intro e <;> cases e
   .rw [ab c hc]
  .intro bb _ a8 o sp
   refine ab _ fun hc=> ?_
   obtain ⟨j,a1,a2,e⟩:=hc
   obtain ⟨u,_,h7⟩:=ak j a1 a2
   rw [<-e] at h7
   obtain ⟨t',h8⟩:=a8 _ _ _ h7
   cases h8
 .intro nm cs hm j c hj
  obtain ⟨v,h7,h8,h9⟩:=h.mem nm cs hm j c hj
  have a5:=aj _ (.inl ⟨_,h8,fun u _ e=> by cases e⟩)
  exact ⟨v,(ai _ a5).trans h7,(ab _ a5).trans h8,h9.keep ae⟩
 .intro t x hx
  rcases Zcv hx with ⟨rfl,rfl⟩ | ⟨hne,hx,hkt⟩
  .refine ⟨a9,.inr ⟨b,len+n,cap,by simp [g',Gh.renamed],by simp [hl,hln],hfit,by have:=s.hf;simp only;omega,?_,?_⟩⟩
   .intro i y hy j c hc
    simp only at hy hc ⊢
    have hj:j < cfg.sz T:=by have:=(Q8.1 hc).1;rw [ok.enc_len] at this;exact this
    have hi:i < len+n:=by have:=(Q8.1 hy).1;simp [hl,hln] at this;exact this
    have bn:i*cfg.sz T+j < (len+n)*cfg.sz T:=by
     have:(i+1)*cfg.sz T<=(len+n)*cfg.sz T:=Qf _ hi
     rw [QJ] at this;omega
    have av:f<=i->g'.tag (b.add (i*cfg.sz T+j))=some (.tok (.r d 0)):=by
     intro bd
     have:f*cfg.sz T<=i*cfg.sz T:=Qf _ bd
     simp only [g',Gh.renamed]
     rw [if_pos ⟨_,JX,JX,rfl⟩]
    rw [QK] at hy
    split at hy
    .rename_i bk
     obtain ⟨u,h7,h8,h9,a7⟩:=s.rows i y hy j c hc
     refine ⟨u,?_,h8.mono ae.m,h9,av⟩
     have bj:i*cfg.sz T+j < len*cfg.sz T:=by
      have:(i+1)*cfg.sz T<=len*cfg.sz T:=Qf _ JX
      rw [QJ] at this;omega
     rw [h4 _ fun j' bu e=> by have:=Z2h e;omega]
     exact h7
    .rename_i bc
     rw [hl] at hy bc
     obtain ⟨u,h7,h8⟩:=hvr _ y hy j c hc
     have e1:len*cfg.sz T<=i*cfg.sz T:=Qf _ JX
     have h9:=h3 _ _ h7
     rw [show len*cfg.sz T+((i - len)*cfg.sz T+j)=i*cfg.sz T+j by rw [Kt];omega] at h9
     exact ⟨u,h9,h8.mono ae.m,fun bo=> by have:=s.hf;omega,av⟩
   .intro j a1 a2
    dsimp only at a1 a2
    simp only [g',Gh.renamed]
    rw [if_pos ⟨j,JX,a2,rfl⟩]
  .obtain ⟨h7,h8⟩:=h.ls t x hx
   have hd:Zq st (ZT d T (l++l') f kl) t=false:=by simp only [Zq,ZT,h7,hkt,Xt]
   exact ⟨hd,h8.keep ae hd a6 (fun c ht=> ai c (aj c (.inl ⟨_,ht,fun u hu e=> by cases e;exact a0 _ hd _ hu rfl⟩)))⟩
 .intro t h0 h7 h8
  obtain ⟨h9,a7,bi⟩:=Z3J h7 h8
  simp only [g',Gh.renamed]
  rw [if_neg h9]
  exact h.fresh t h0 a7 bi
theorem ZmL(h:Rel cfg B st g a w){T:U.Ty}{d:Nat}{kl:List Tok}(hls:st.ls (.r d 0)=none)(hdd:st.dead (.r d 0)=false)(hkl:kl.contains (.r d 0)=false):
  Out cfg B st g (ZT d T [] 0 kl) (.slice none 0 0) w (g.setBs (.r d 0) (.slice none 0 0,cfg.sz T)):=by
 have s:=h.fresh (.r d 0) rfl hls hdd
 have ab:Zq st (ZT d T [] 0 kl) (.r d 0)=false:=by simp only [Zq,ZT,hdd,hkl,Xt]
 have af:Keeps g g st.dead (Zq st (ZT d T [] 0 kl)) (fun nm=> (st.mem nm).isSome) (Yg st (ZT d T [] 0 kl)):=
  ⟨fun _ _ h=> h,fun _ _ _ h=> h,fun t ht=> by simp only [Zq,QB] at ht;exact ht.1,fun nm hn=> ⟨hn,rfl⟩,fun _ _ _ h=> h,fun _=> rfl⟩
 have hk:=af.setBs (t:= .r d 0) (v:=(.slice none 0 0,cfg.sz T)) s
 refine ⟨h.inv,h.fr.setBs,hk,?_,⟨.mref _ _ ⟨rfl,rfl⟩,fun _=> ⟨cfg.sz T,by simp [Gh.setBs]⟩⟩,?_,?_⟩
 .intro nm cs hm j c hj
  obtain ⟨v,h7,u,h9⟩:=h.mem nm cs hm j c hj
  exact ⟨v,h7,u,h9.keep hk⟩
 .intro t x hx
  rcases Zcv hx with ⟨rfl,rfl⟩ | ⟨hne,hx,hkt⟩
  .exact ⟨ab,.inl ⟨by simp [Gh.setBs],rfl,rfl⟩⟩
  .obtain ⟨h7,u⟩:=h.ls t x hx
   have hd:Zq st (ZT d T [] 0 kl) t=false:=by simp only [Zq,ZT,h7,hkt,Xt]
   exact ⟨hd,u.keep hk hd (fun c v hv=> (h.inv.im c v hv).1) (fun _ _=> rfl)⟩
 .intro t h0 h7 u
  obtain ⟨h9,aj,ak⟩:=Z3J h7 u
  simp only [Gh.setBs]
  rw [if_neg h9]
  exact h.fresh t h0 aj ak
theorem ZiY(h:Rel cfg B st g a w){T:U.Ty}{x:C U}{l:List (U.El T)}{f:Nat}{u:Option Tok}{v:Value}(hx:RelC cfg g st.dead v x)(he:Z8Z cfg st T x=some (l,f,u)):
  ∃ b len aa,v= .slice b len aa/\l.length=len/\len<=aa/\(b=none->len=0/\aa=0/\f=0)/\(∀ b',b=some b'->Src cfg g w T l f u.toList b' len aa):=by
 have ah:(∀ t,x≠.mref t)->(match ZhJ cfg T x with
   | some (l,.full)=> some (l,l.length,none)
   | some (l,.own t)=> if st.dead t then none else some (l,l.length,some t)
   | _=> none)=some (l,f,u)->∃ b len aa,v= .slice b len aa/\l.length=len/\len<=aa/\(b=none->len=0/\aa=0/\f=0)/\(∀ b',b=some b'->Src cfg g w T l f u.toList b' len aa):=by
  intro _ he
  cases hs:ZhJ cfg T x with
  | none=> grind
  | some p=>
   obtain ⟨l0,tl⟩:=p
   rw [hs] at he
   obtain ⟨af,b,len,aa,rfl,hl,hc,hb⟩:=Z5g hx hs
   have ao:∀ b',b=some b'->∀ i y,l0[i]?=some y->∀ j c,(cfg.enc T y)[j]?=some c->∃ u,w.cell? (b'.add (i*cfg.sz T+j))=some u/\SimC cfg g.m u c/\g.m (b'.add (i*cfg.sz T+j))=some u:=by
    rintro b' rfl i y hy j c hc
    obtain ⟨u,h1,h2⟩:=af.1.rows i y hy j c hc
    exact ⟨u,(h.inv.im _ _ h1).1,h2,h1⟩
   cases tl with
   | unk=> cases he
   | full=>
    simp only [oP] at he
    obtain ⟨rfl,rfl,rfl⟩:=he
    refine ⟨b,len,aa,rfl,hl,hc,fun e=> ⟨(hb e).1,(hb e).2,by grind⟩,fun b' e=> ⟨hl,hc,JX,fun i y hy j c ar=> ?_,fun j a1 a2=> ?_⟩⟩
    .grind
    .have:=af.2 _ _ _ rfl
     grind
   | own t=>
    simp only at he
    split at he
    .cases he
    .rename_i hd
     simp only [oP] at he
     obtain ⟨rfl,rfl,rfl⟩:=he
     refine ⟨b,len,aa,rfl,hl,hc,fun e=> ⟨(hb e).1,(hb e).2,by grind⟩,fun b' e=> ⟨hl,hc,JX,fun i y hy j c ar=> ?_,fun j a1 a2=> ?_⟩⟩
     .grind
     .subst e
      exact ⟨t,rfl,af.2 (by simpa using hd) b' len aa rfl j a1 a2⟩
 cases x with
 | mref t=>
  simp only [Z8Z] at he
  split at he
  .rename_i y hy
   split at he
   .rename_i hT _
    subst hT
    simp only [oP] at he
    obtain ⟨rfl,rfl,rfl⟩:=he
    obtain ⟨hd,hL⟩:=h.ls t y hy
    obtain ⟨s,hs⟩:=hx.2 hd
    rcases hL with ⟨h4,h5,h6⟩ | ⟨b,len,aa,h4,h5,h6,h7,h8,h9⟩
    .grind
    .rw [hs] at h4
     cases h4
     refine ⟨some b,len,aa,rfl,h5,h6,fun e=> (by cases e),fun b' e=> ?_⟩
     cases e
     refine ⟨h5,h6,h7,fun i y hy j c hc=> ?_,fun j a1 a2=> ⟨t,rfl,h9 j a1 a2⟩⟩
     grind
   .cases he
  .cases he
 | _=> exact ah (fun t e=> by cases e) he
theorem ZhL (ok:CfgOk P cfg) (h:Rel cfg B st g a w) {o:Oper} {d:Nat} {t:TypeId} {x y:C U} {px py:Operand} {ps:List Prop} {e:Eff U}
  (ho:o.op= .call { callee:= .builtin .append,args:=#[px,py],argTypes:=#[t,t] })
  (hx:RelC cfg g st.dead (a.eval px) x) (hy:RelC cfg g st.dead (a.eval py) y) (he:Z5i cfg st d t x y=some (ps,e)) (hps:All ps):
  Does P o a w fun v w'=> ∃ g',Out cfg B st g e v w' g':=by
 unfold Z5i at he
 split at he
 .cases he
 rename_i T hT
 split at he
 case h_2=> cases he
 rename_i l f u l' cc bm bx
 split at he
 case isFalse=> cases he
 rename_i bb
 simp only [Q6,QO,QX] at bb
 obtain ⟨⟨av,a2⟩,au⟩:=bb
 simp only [oP] at he
 obtain ⟨rfl,rfl⟩:=he
 obtain ⟨hE,hU⟩:=JG ok hT
 obtain ⟨b,len,cap,bw,hl,hc,hb,ai⟩:=ZiY h hx bm
 obtain ⟨bd,b',n,ab,bf,aj,cg,bv⟩:=Z5g hy bx
 rw [bf] at bd
 have bt:P.underlying t=some (.slice (cfg.elT T)):=by rw [hE] at hU;exact hU
 obtain ⟨i,ag,zs,z,hi,ar,cn,hz,a5,cf⟩:=ok.el T
 have ae:(l.length+l'.length)*cfg.bytes T<=140737488355328:=hps.1
 rw [hl,aj] at ae
 have bk:=ok.bytes_pos T
 have b7:len+n<=140737488355328:=QF (XV _ bk) ae
 have a8:∃ vs:List Value,vs.length=n*cfg.sz T/\(∀ v∈vs,v.oneCell'=true)/\(∀ w:World,(∀ c v,g.m c=some v->w.cell? c=some v)->(Builtin.firstCells i.size n (.slice b' n ab)).run P w= .ok vs.toArray w)/\
   (∀ (k:Nat) x,l'[k]?=some x->∀ (j:Nat) c,(cfg.enc T x)[j]?=some c->∃ v,vs[k*cfg.sz T+j]?=some v/\SimC cfg g.m v c):=by
  cases b' with
  | none=>
   obtain ⟨rfl,rfl⟩:=bv rfl
   have af:l'=[]:=Q5 aj
   subst af
   exact ⟨[],by simp,by simp,fun w _=> run_firstCells_none w _ _ _ _,fun k x hx=> by simp at hx⟩
  | some a'=>
   obtain ⟨vs,h1,h2,h3⟩:=Z4J ok bd.1
   refine ⟨vs,h1,fun v hv=> ?_,fun w hw=> ?_,h3⟩
   .obtain ⟨j,hj,rfl⟩:=Xp hv
    exact (h2 j _ (Q4 hj)).2
   .exact run_firstCells_some w i.size n a' n ab vs (by grind) (fun j v hv=> hw _ _ (h2 j v hv).1)
 obtain ⟨vs,bc,b0,s,be⟩:=a8
 have az:∀ c v,g.m c=some v->w.cell? c=some v:=fun c v hv=> (h.inv.im c v hv).1
 have aa:(execOp a.eval o).run P w=((Builtin.append_ #[t,t] o.type #[.slice b len cap,.slice b' n ab]).run P w).andThen fun v w=> .ok (.value v) w:=by
  simp only [execOp,ho,resolve,Sem.run_bind,Sem.run_pure,Result.andThen_ok,invoke,builtin]
  simp [bw,bf]
 have aw:∀ w,(underlying t).run P w= .ok (.slice (cfg.elT T)) w:=fun w=> run_underlying bt w
 have a7:({ val:=some (.c (.mref (.r d 0))),kill:=u.toList,ls:=[(.r d 0,⟨T,l++l',f⟩)] }:Eff U)=ZT d T (l++l') f u.toList:=rfl
 rw [a7]
 by_cases hfit:len+n<=cap
 .cases b with
  | none=>
   obtain ⟨rfl,rfl,rfl⟩:=hb rfl
   have bz:n=0:=JX
   subst bz
   have af:l=[]:=Q5 hl
   have b5:l'=[]:=Q5 aj
   subst af b5
   have bl:vs=[]:=Q5 JX
   subst bl
   refine .inl ⟨.slice none 0 0,w,?_,_,ZmL h av a2 au⟩
   rw [aa]
   simp [Builtin.append_,aw,sizeOf,typeInfo,hi,Builtin.lenOf,s w az]
  | some b=>
   obtain ⟨w',g',h1,h2⟩:=Z8V (P:=P) (d:=d) ok h (ai b rfl) hfit aj bc b0 be av a2 au
   refine .inl ⟨_,w',?_,g',h2⟩
   rw [aa]
   rw [<-ar] at h1
   simp [Builtin.append_,aw,sizeOf,typeInfo,hi,Builtin.lenOf,s w az,hfit,h1]
 .have a1:cap < len+n:=JX
  have bi:0 < n:=JX
  have b8:¬((len+n:Nat):Int) > 9223372036854775807:=JX
  have bu:Builtin.nextslicecap (len+n) cap*i.bytes<=281474976710656:=growslice_fits a1 (by grind)
  have ay:=Z7c w (len+n) cap (cfg.elT T)
  have a9:∃ us:List Value,us.length=len*cfg.sz T/\(∀ w':World,(∀ c v,w.cell? c=some v->w'.cell? c=some v)->(Builtin.firstCells i.size len (.slice b len cap)).run P w'= .ok us.toArray w')/\
    ∀ (k:Nat) x,l[k]?=some x->∀ (j:Nat) c,(cfg.enc T x)[j]?=some c->∃ v,us[k*cfg.sz T+j]?=some v/\SimC cfg g.m v c:=by
   cases b with
   | none=>
    obtain ⟨rfl,rfl,rfl⟩:=hb rfl
    have af:l=[]:=Q5 hl
    subst af
    exact ⟨[],by simp,fun w _=> run_firstCells_none w _ _ _ _,fun k x hx=> by simp at hx⟩
   | some b=>
    obtain ⟨us,h1,h2,h3⟩:=(ai b rfl).list ok
    exact ⟨us,h1,fun w' hw=> run_firstCells_some w' i.size len b len cap us (by rw [ar];exact h1) (fun j v hv=> hw _ _ (h2 j v hv)),h3⟩
  obtain ⟨us,ao,a0,bp⟩:=a9
  have bh:z.cells.size=cfg.sz T:=by
   obtain ⟨z',ba,hZ⟩:=Z2H ok a5 w
   have:z'=z:=by simp [zeroValue,typeInfo,hi,hz] at ba;exact ba.symm
   subst this
   have:=(Z0M (g:=g) (st:=st) (cfg:=cfg) hZ).1;simp at this;omega
  let nc:=grownCap w (len+n) cap (cfg.elT T)
  let arr:Array Value:=us.toArray++vs.toArray++Builtin.zeroCells z.cells (nc - (len+n))
  have ck:len+n<=nc:=ay
  have a6:arr.size=nc*cfg.sz T:=by
   have e1:(len+n)*cfg.sz T+(nc - (len+n))*cfg.sz T=nc*cfg.sz T:=by rw [<-QJ];congr 1;omega
   rw [QJ] at e1
   simp [arr,Builtin.zeroCells,ao,bc,bh]
   omega
  have b4:f<=(l++l').length:=by
   rw [Qk]
   cases b with
   | none=> grind
   | some b=> have:=(ai b rfl).hf;omega
  have b2:=Z49 (m:=g.m) (vs:=us) (vs':=vs) (by rw [ao,hl]) (ok.enc_len T) bp be
  obtain ⟨g',aq⟩:=Z62 (T:=T) (l:=l++l') (arr:=arr) (d:=d) (kl:=u.toList) (f:=f) h (SameHeap.drew w) (cfg.elT T) (cap:=nc) (by grind) b4 a6 (ok.enc_len T) av a2 au
   (fun k x hx j c hc=> by
    grind)
  rw [show (l++l').length=len+n by simp [hl,aj]] at aq
  refine .inl ⟨_,_,?_,g',aq⟩
  have bo:∀ c v,g.m c=some v->w.drew.cell? c=some v:=fun c v hv=> (az c v hv)
  have bq:∀ c v,w.cell? c=some v->w.drew.cell? c=some v:=fun _ _ hv=> hv
  rw [aa]
  have b3:¬(Builtin.nextslicecap (len+n) cap*i.bytes > 2 ^ 48):=JX
  have ce:¬i.bytes=0:=JX
  have bn:¬((9223372036854775807:Int) < (len:Int)+(n:Int)):=JX
  simp [Builtin.append_,aw,sizeOf,typeInfo,zeroValue,hi,hz,Builtin.lenOf,hfit,bn,b3,Question.forced,a0 w.drew bq,s w.drew bo,newRow]
  refine ⟨rfl,?_⟩
  simp only [arr,nc,grownCap,Ki]
theorem ZhK (ok:CfgOk P cfg) (h:Rel cfg B st g a w) {o:Oper} {d:Nat} {t t':TypeId} {x y:C U} {px py:Operand} {ps:List Prop} {e:Eff U}
  (ho:o.op= .call { callee:= .builtin .append,args:=#[px,py],argTypes:=#[t,t'] })
  (hx:RelC cfg g st.dead (a.eval px) x) (hy:RelC cfg g st.dead (a.eval py) y) (he:Z5h cfg st d t t' x y=some (ps,e)) (hps:All ps):
  Does P o a w fun v w'=> ∃ g',Out cfg B st g e v w' g':=by
 unfold Z5h at he
 split at he
 case h_2=> cases he
 rename_i T m0 nn hT bq
 split at he
 case h_2=> cases he
 rename_i l f u zel b1 br
 split at he
 case isFalse=> cases he
 rename_i bm
 simp only [Q6,QO,QX] at bm
 obtain ⟨⟨a5,bd⟩,a2⟩:=bm
 simp only [oP] at he
 obtain ⟨rfl,rfl⟩:=he
 obtain ⟨bb,ai⟩:=hps.1
 obtain ⟨n,rfl⟩:=X6 bb
 simp only [Kf,Xh] at*
 obtain ⟨hE,hU⟩:=JG ok hT
 obtain ⟨b,len,cap,ca,hl,hc,hb,al⟩:=ZiY h hx b1
 have cj:a.eval py= .int .i64 n:=by
  have h1:=hy.1
  generalize a.eval py=q at h1 ⊢
  cases h1;rfl
 have b5:P.underlying t=some (.slice (cfg.elT T)):=by rw [hE] at hU;exact hU
 obtain ⟨_,it,zt,dt,_,bw,_,cx,_,_,b7,_⟩:=ok.var _ _ _ bq
 have bg:=b7 rfl _ _ rfl
 subst bg
 obtain ⟨i,ag,zs,z,hi,ak,ck,hz,ax,cv⟩:=ok.el T
 rw [ax] at br
 have b0:cfg.dec T zs=some zel:=br
 rw [hl] at ai
 have bx:=ok.bytes_pos T
 have aw:(len+n)*cfg.bytes T<=140737488355328:=by
  have:(((len+n)*cfg.bytes T:Nat):Int)<=140737488355328:=by rw [Int.natCast_mul,Int.natCast_add];exact ai
  omega
 have co:len+n<=140737488355328:=QF (XV _ bx) aw
 obtain ⟨s,bp,hZ⟩:=Z2H ok ax w
 have b9:s=z:=by simp [zeroValue,typeInfo,hi,hz] at bp;exact bp.symm
 subst b9
 have ab:=Z0M (g:=g) (st:=st) (cfg:=cfg) hZ
 have ar:s.cells.size=cfg.sz T:=by have:=ab.1;simp at this;omega
 have bl:=ok.sz_pos T
 obtain ⟨_,cl⟩:=ZbK ok b0 ab.1 (fun j v c h1 h2=> ab.sim h1 h2)
 have bi:∃ vs:List Value,vs.length=n*cfg.sz T/\(∀ v∈vs,v.oneCell'=true)/\(Builtin.zeroCells s.cells n).toList=vs/\
   (∀ (k:Nat) x,(List.replicate n zel)[k]?=some x->∀ (j:Nat) c,(cfg.enc T x)[j]?=some c->∃ v,vs[k*cfg.sz T+j]?=some v/\SimC cfg g.m v c):=by
  refine ⟨_,by simp [Builtin.zeroCells,ar],?_,rfl,?_⟩
  .intro v hv
   simp only [Builtin.zeroCells,Xz,X8] at hv
   obtain ⟨q,_,rfl⟩:=hv
   have hq:q % s.cells.size < s.cells.size:=XR _ JX
   rw [getElem!_pos s.cells _ hq]
   exact ab.one _ (by simp)
  .intro k x hx j c hc
   obtain ⟨hk,hx⟩:=Q8.1 hx
   simp at hx hk
   subst hx
   obtain ⟨v,h7,h8⟩:=cl j c hc
   have hj:j < cfg.sz T:=by have:=(Q8.1 hc).1;rw [ok.enc_len] at this;exact this
   have bv:k*cfg.sz T+j < n*cfg.sz T:=by
    have:(k+1)*cfg.sz T<=n*cfg.sz T:=Qf _ JX
    rw [QJ] at this;omega
   refine ⟨v,?_,h8⟩
   have h9:s.cells[j]?=some v:=by rw [<-h7];simp
   have bj:j < s.cells.size:=JX
   have e:(k*cfg.sz T+j) % s.cells.size=j:=by rw [ar,Xs,Kb,K5 hj]
   have cb:s.cells[j]! =v:=by
    rw [getElem!_pos s.cells j bj]
    rw [QY bj] at h9
    exact Option.some.inj h9
   have bn:k*cfg.sz T+j < n*s.cells.size:=by rw [ar];exact bv
   simp [Builtin.zeroCells,bn,e,cb]
 obtain ⟨vs,bo,cc,b6,bt⟩:=bi
 have az:Builtin.zeroCells s.cells n=vs.toArray:=by rw [<-b6]
 have cy:∀ c v,g.m c=some v->w.cell? c=some v:=fun c v hv=> (h.inv.im c v hv).1
 have aa:(execOp a.eval o).run P w=((Builtin.append_ #[t,t'] o.type #[.slice b len cap,.int .i64 n]).run P w).andThen fun v w=> .ok (.value v) w:=by
  simp only [execOp,ho,resolve,Sem.run_bind,Sem.run_pure,Result.andThen_ok,invoke,builtin]
  simp [ca,cj]
 have av:∀ w,(underlying t).run P w= .ok (.slice (cfg.elT T)) w:=fun w=> run_underlying b5 w
 have af:∀ w,(underlying t').run P w= .ok (.int .i64) w:=fun w=> run_underlying bw w
 have bh:({ val:=some (.c (.mref (.r d 0))),kill:=u.toList,ls:=[(.r d 0,⟨T,l++List.replicate n zel,f⟩)] }:Eff U)=ZT d T (l++List.replicate n zel) f u.toList:=rfl
 rw [bh]
 have ae:IntKind.i64.wrap (n:Int)=n:=by simp [IntKind.wrap,IntKind.signed,IntKind.bits];omega
 have aj:¬(n:Int) < 0:=JX
 have am:¬(n:Int)*(i.bytes:Int) > 281474976710656:=by
  rw [ck]
  have:n*cfg.bytes T<=(len+n)*cfg.bytes T:=Qf _ JX
  have:((n*cfg.bytes T:Nat):Int)<=140737488355328:=JX
  rw [Int.natCast_mul] at this
  omega
 have ch:(List.replicate n zel).length=n:=Xk
 by_cases hfit:len+n<=cap
 .cases b with
  | none=>
   obtain ⟨rfl,rfl,rfl⟩:=hb rfl
   have bb:n=0:=JX
   subst bb
   have a7:l=[]:=Q5 hl
   subst a7
   refine .inl ⟨.slice none 0 0,w,?_,_,ZmL h a5 bd a2⟩
   rw [aa]
   simp [Builtin.append_,av,af,sizeOf,typeInfo,hi,asInt,asIntOf,ae]
   grind
  | some b=>
   obtain ⟨w',g',h1,h2⟩:=Z8V (P:=P) (d:=d) ok h (al b rfl) hfit ch bo cc bt a5 bd a2
   refine .inl ⟨_,w',?_,g',h2⟩
   rw [aa]
   rw [<-ak] at h1
   have a3:(zeroValue (cfg.elT T)).run P w= .ok s w:=by simp [zeroValue,typeInfo,hi,hz]
   by_cases h0:n*i.size=0
   .have bz:vs=[]:=Q5 (by grind)
    subst bz
    simp [Builtin.append_,av,af,sizeOf,typeInfo,hi,asInt,asIntOf,ae,aj,am,hfit,h0,h1]
   .simp [Builtin.append_,av,af,sizeOf,typeInfo,hi,asInt,asIntOf,ae,aj,am,hfit,h0,a3,az,h1]
 .have a9:cap < len+n:=JX
  have a4:0 < n:=JX
  have cp:¬((len+n:Nat):Int) > 9223372036854775807:=JX
  have b8:Builtin.nextslicecap (len+n) cap*i.bytes<=281474976710656:=growslice_fits a9 (by grind)
  have a6:=Z7c w (len+n) cap (cfg.elT T)
  have bk:∃ us:List Value,us.length=len*cfg.sz T/\(∀ w':World,(∀ c v,w.cell? c=some v->w'.cell? c=some v)->(Builtin.firstCells i.size len (.slice b len cap)).run P w'= .ok us.toArray w')/\
    ∀ (k:Nat) x,l[k]?=some x->∀ (j:Nat) c,(cfg.enc T x)[j]?=some c->∃ v,us[k*cfg.sz T+j]?=some v/\SimC cfg g.m v c:=by
   cases b with
   | none=>
    obtain ⟨rfl,rfl,rfl⟩:=hb rfl
    have a7:l=[]:=Q5 hl
    subst a7
    exact ⟨[],by simp,fun w _=> run_firstCells_none w _ _ _ _,fun k x hx=> by simp at hx⟩
   | some b=>
    obtain ⟨us,h1,h2,h3⟩:=(al b rfl).list ok
    exact ⟨us,h1,fun w' hw=> run_firstCells_some w' i.size len b len cap us (by rw [ak];exact h1) (fun j v hv=> hw _ _ (h2 j v hv)),h3⟩
  obtain ⟨us,ay,a8,b3⟩:=bk
  let nc:=grownCap w (len+n) cap (cfg.elT T)
  let arr:Array Value:=us.toArray++vs.toArray++Builtin.zeroCells s.cells (nc - (len+n))
  have c8:len+n<=nc:=a6
  have bf:arr.size=nc*cfg.sz T:=by
   have e1:(len+n)*cfg.sz T+(nc - (len+n))*cfg.sz T=nc*cfg.sz T:=by rw [<-QJ];congr 1;omega
   rw [QJ] at e1
   simp [arr,Builtin.zeroCells,ay,bo,ar]
   omega
  have cg:f<=(l++List.replicate n zel).length:=by
   rw [Qk]
   cases b with
   | none=> grind
   | some b=> have:=(al b rfl).hf;omega
  have bc:=Z49 (m:=g.m) (vs:=us) (vs':=vs) (by rw [ay,hl]) (ok.enc_len T) b3 bt
  obtain ⟨g',a1⟩:=Z62 (T:=T) (l:=l++List.replicate n zel) (arr:=arr) (d:=d) (kl:=u.toList) (f:=f) h (SameHeap.drew w) (cfg.elT T) (cap:=nc) (by grind) cg bf (ok.enc_len T) a5 bd a2
   (fun k x hx j c hc=> by
    obtain ⟨v,h1,h2⟩:=bc k x hx j c hc
    grind)
  rw [show (l++List.replicate n zel).length=len+n by simp [hl]] at a1
  refine .inl ⟨_,_,?_,g',a1⟩
  have b4:∀ c v,w.cell? c=some v->w.drew.cell? c=some v:=fun _ _ hv=> hv
  rw [aa]
  have cf:¬(Builtin.nextslicecap (len+n) cap*i.bytes > 2 ^ 48):=JX
  have cu:¬i.bytes=0:=JX
  have b2:¬((9223372036854775807:Int) < (len:Int)+(n:Int)):=JX
  have h0:¬n*i.size=0:=by rw [ak];have:=Nat.mul_pos a4 bl;omega
  have a3:∀ w:World,(zeroValue (cfg.elT T)).run P w= .ok s w:=fun w=> by simp [zeroValue,typeInfo,hi,hz]
  simp [Builtin.append_,av,af,sizeOf,typeInfo,hi,asInt,asIntOf,ae,aj,am,hfit,b2,cf,h0,a3,az,Question.forced,a8 w.drew b4,newRow]
  refine ⟨rfl,?_⟩
  simp only [arr,nc,grownCap,Ki]
theorem Zcs (ok:CfgOk P cfg) (h:Rel cfg B st g a w) {o:Oper} {t:TypeId} {p q:Operand} {T:U.Ty} {n m:Int} {ag:Bool} {zs:List (C U)} {z:U.El T} {d:Nat} (hls:st.ls (.r d 0)=none) (hdd:st.dead (.r d 0)=false) (ho:o.op= .makeSlice t p q)
  (hT:cfg.slT t=some T) (hp:a.eval p= .int .i64 n) (hq:a.eval q= .int .i64 m) (hz:cfg.var (cfg.elT T)=some (ag,zs)) (hd:cfg.dec T zs=some z)
  (hn:0<=n/\n*cfg.bytes T<=140737488355328/\n<=9223372036854775807) (hm:m=n):
  Does P o a w fun v w'=> ∃ g',Out cfg B st g { val:=some (.c (.mref (.r d 0))),ls:=[(.r d 0,⟨T,List.replicate n.toNat z,0⟩)] } v w' g':=by
 have aq:=hm.symm
 subst aq
 obtain ⟨k,rfl⟩:=X6 hn.1
 simp only [Kf] at*
 rw [Xh]
 obtain ⟨hE,hU⟩:=JG ok hT
 obtain ⟨i,a4,a8,z',h1,h2,h3,h4,h5,h6⟩:=ok.el T
 rw [hz] at h5
 simp only [oP] at h5
 obtain ⟨rfl,rfl⟩:=h5
 obtain ⟨s,ab,hZ⟩:=Z2H ok hz w
 have ar:s=z':=by
  simp [zeroValue,typeInfo,h1,h4] at ab;exact ab.symm
 subst ar
 have u:=Z0M (g:=g) (st:=st) (cfg:=cfg) hZ
 have am:s.cells.size=cfg.sz T:=by have:=u.1;simp at this;omega
 have ax:=ok.sz_pos T
 obtain ⟨ba,au⟩:=ZbK ok hd u.1 (fun j v c h1 h2=> u.sim h1 h2)
 let arr:Array Value:=(Array.range (k*cfg.sz T)).map (s.cells[· % s.cells.size]!)
 obtain ⟨g',ae⟩:=Z62 (T:=T) (l:=List.replicate k z) (arr:=arr) (d:=d) (f:=0) (kl:=[]) h (SameHeap.refl w) (P.elem t) (cap:=k) (by simp) (by simp) (by simp [arr]) (ok.enc_len T) hls hdd rfl
  (by
   intro i x hx j c hc
   obtain ⟨hi,hx⟩:=Q8.1 hx
   simp at hx hi
   subst hx
   obtain ⟨v,h7,h8⟩:=au j c hc
   have hj:j < cfg.sz T:=by have:=(Q8.1 hc).1;rw [ok.enc_len] at this;exact this
   have a1:i*cfg.sz T+j < k*cfg.sz T:=by
    have:(i+1)*cfg.sz T<=k*cfg.sz T:=Qf _ JX
    rw [QJ] at this;omega
   refine ⟨v,?_,h8⟩
   have h9:s.cells[j]?=some v:=by rw [<-h7];simp
   have a2:j < s.cells.size:=JX
   have e:(i*cfg.sz T+j) % s.cells.size=j:=by rw [am,Xs,Kb,K5 hj]
   grind)
 rw [Xk] at ae
 refine .inl ⟨_,_,?_,g',ae⟩
 have af:=JE ok T w
 rw [<-hE] at af ab
 have aa:(typeInfo (P.elem t)).run P w= .ok i w:=by rw [hE];simp [typeInfo,h1]
 have hw:IntKind.i64.wrap (k:Int)=k:=by simp [IntKind.wrap,IntKind.signed,IntKind.bits];omega
 have ai:¬(281474976710656 < (i.bytes:Int)*(k:Int)):=by
  rw [h3,Int.mul_comm];have:=hn.2.1;omega
 have aj:¬(k:Int) < 0:=JX
 simp only [execOp,ho]
 apply Zat
 simp only [hp,hq]
 by_cases h0:k*cfg.sz T=0
 .have ah:arr=#[]:=by simp only [arr,h0];simp
  simp [Instr.makeSlice,run_underlying hU,asInt,asIntOf,aa,hw,ai,aj,af,h0,newRow,ah]
  grind
 .have ao:(decide ((k:Int) < 0) || decide ((i.bytes:Int)*(k:Int) > 2 ^ 48) || decide ((k:Int) < 0) || decide ((k:Int) > (k:Int)))=false:=by
   simp [ai,aj]
  simp only [Instr.makeSlice,Sem.run_bind,run_underlying hU,Result.andThen_ok,asInt,asIntOf,Sem.run_pure,aa,hw,ao]
  simp only [Xv,if_false,Sem.run_bind,run_askRoom,Result.andThen_ok,af,Xh,h0,ab,Sem.run_pure]
  try rfl
theorem ZbM (ok:CfgOk P cfg) (h:Rel cfg B st g a w) {o:Oper} {t:TypeId} {n:Nat} {parts:Array (Nat × Operand)} {T:U.Ty} {ps:List (Nat × V U)} {l:List (U.El T)} {d:Nat} (hls:st.ls (.r d 0)=none) (hdd:st.dead (.r d 0)=false) (ho:o.op= .buildSlice t n parts)
  (hT:cfg.slT t=some T) (hl:parts.size=ps.length) (hn:ps.length=n) (hsmall:n*cfg.sz T<=16777216)
  (hr:∀ (j:Nat) x y,parts[j]?=some x->ps[j]?=some y->x.1=y.1/\RelV cfg g st.dead (fun nm=> (st.mem nm).isSome) (a.eval x.2) y.2) (he:JB cfg T 0 ps=some l):
  Does P o a w fun v w'=> ∃ g',Out cfg B st g { val:=some (.c (.mref (.r d 0))),ls:=[(.r d 0,⟨T,l,0⟩)] } v w' g':=by
 obtain ⟨hE,hU⟩:=JG ok hT
 obtain ⟨i,ag,zs,z,h1,h2,h3,h4,h5,h6⟩:=ok.el T
 obtain ⟨z',hz,hZ⟩:=Z2H ok h5 w
 have aj:z'=z:=by
  simp [zeroValue,typeInfo,h1,h4] at hz;exact hz.symm
 subst aj
 have am:z'.cells.size=cfg.sz T:=by have:=(Z0M (g:=g) (st:=st) (cfg:=cfg) hZ).1;simp at this;omega
 let vs0:Array Value:=if n*cfg.sz T=0 then (Array.range (n*cfg.sz T)).map ((#[]:Array Value)[· % 0]!) else (Array.range (n*cfg.sz T)).map (z'.cells[· % z'.cells.size]!)
 have ab:vs0.size=n*cfg.sz T:=by simp only [vs0];split <;> simp
 obtain ⟨aw,vs',h7,h8,_,h9⟩:=ZcI (g:=g) (st:=st) ok (parts.toList.map fun x=> (x.1,a.eval x.2)) ps 0 l vs0 he (by simpa using hl) (by
  grind) (by grind)
 have af:l.length=n:=JX
 obtain ⟨g',s⟩:=Z62 (T:=T) (l:=l) (arr:=vs') (d:=d) (f:=0) (kl:=[]) h (SameHeap.refl w) (P.elem t) (cap:=n) JX (QG _) (by rw [h8,ab]) (ok.enc_len T) hls hdd rfl
  (fun i x hx j c hc=> by grind)
 rw [af] at s
 refine .inl ⟨_,_,?_,g',s⟩
 have ae:=JE ok T w
 rw [<-hE] at ae hz
 simp only [execOp,ho]
 apply Zat
 simp only [Instr.buildSlice,Sem.run_bind,run_underlying hU,Result.andThen_ok,ae]
 rw [J3]
 by_cases h0:n*cfg.sz T=0
 .simp only [h0,if_true]
  simp only [vs0,h0,if_true] at h7
  have u:Instr.fill (fun i=> some (i*cfg.sz T,cfg.sz T)) ((Array.range 0).map ((#[]:Array Value)[· % (#[]:Array Value).size]!)) (parts.map fun x=> (x.1,a.eval x.2)).toList=some vs':=by
   rw [Xz];exact h7
  simp only [Sem.run_bind,Sem.run_pure,Result.andThen_ok,u]
  try rfl
 .simp only [h0,if_false]
  simp only [vs0,h0,if_false] at h7
  have u:Instr.fill (fun i=> some (i*cfg.sz T,cfg.sz T)) ((Array.range (n*cfg.sz T)).map (z'.cells[· % z'.cells.size]!)) (parts.map fun x=> (x.1,a.eval x.2)).toList=some vs':=by
   rw [Xz];exact h7
  simp only [Sem.run_bind,Sem.run_pure,Result.andThen_ok,hz,u]
  try rfl
theorem Zji (ok:CfgOk P cfg) (h:Rel cfg B st g a w) {o:Oper} {t:TypeId} {p x:Operand} {ag:Bool} {zs new:List (C U)} {u:Tok} {y:LC U} {n off:Nat} {v:V U} {e:U.El y.T} (ho:o.op= .store t p x)
  (ht:cfg.var t=some (ag,zs)) (hp:RelV cfg g st.dead (fun nm=> (st.mem nm).isSome) (a.eval p) (.mp u n off)) (hv:RelV cfg g st.dead (fun nm=> (st.mem nm).isSome) (a.eval x) v)
  (hnew:v.cells=some new) (hy:st.ls u=some y) (hl:new.length=zs.length) (hf:y.f<=n)
  (hset:(YS (cfg.enc y.T (y.l.getD n (cfg.dflt y.T))) off new).bind (cfg.dec y.T)=some e):
  Does P o a w fun v w'=> ∃ g',Out cfg B st g { ls:=[(u,⟨y.T,y.l.set n e,y.f⟩)] } v w' g':=by
 obtain ⟨b,len,bc,bb,bh,hn,az,a5,bo,ai,aq⟩:=Zxc h hy hp
 obtain ⟨bn,_⟩:=h.ls u y hy
 obtain ⟨hs,_,_⟩:=Z45 ok ht w
 have ae:=hv.cells hnew
 cases hsc:YS (cfg.enc y.T (y.l.getD n (cfg.dflt y.T))) off new with
 | none=> grind
 | some cs'=>
 rw [hsc] at hset
 have a1:cfg.dec y.T cs'=some e:=hset
 obtain ⟨bk,a9⟩:=ok.dec_ok _ _ _ a1
 have be:y.l[n]?=some (y.l.getD n (cfg.dflt y.T)):=by simp [List.getD,Q4 hn]
 have bq:=ok.enc_len y.T (y.l.getD n (cfg.dflt y.T))
 have b3:off+new.length<=cfg.sz y.T:=by
  unfold YS at hsc
  split at hsc
  .omega
  .cases hsc
 have bj:(a.eval x).cells.toList.length=new.length:=ae.1
 have af:∀ j,j < cfg.sz y.T->∃ u' c,(cfg.enc y.T (y.l.getD n (cfg.dflt y.T)))[j]?=some c/\w.cell? (b.add (n*cfg.sz y.T+j))=some u'/\SimC cfg g.m u' c/\g.tag (b.add (n*cfg.sz y.T+j))=some (.tok u):=by
  intro j hj
  have hg:(cfg.enc y.T (y.l.getD n (cfg.dflt y.T)))[j]?=some ((cfg.enc y.T (y.l.getD n (cfg.dflt y.T)))[j]'JX):=Q4 _
  obtain ⟨u',h1,h2,_,h4⟩:=ai n _ be j _ hg
  exact ⟨u',_,hg,h1,h2,h4 hf⟩
 obtain ⟨w',h1,h2,h3,h4,h5,h6⟩:=JH (P:=P) (b.add (n*cfg.sz y.T+off)) (a.eval x).cells.toList 0 w ae.one (by
  intro j hj
  rw [Go.Deep.add_add,QU]
  obtain ⟨u',_,_,hu,_,ab⟩:=af (off+j) JX
  rw [show n*cfg.sz y.T+(off+j)=n*cfg.sz y.T+off+j by omega] at hu ab
  exact ⟨⟨u',hu⟩,(h.inv.it _ _ ab).1⟩)
 simp only [QU,Go.Deep.add_add] at h2 h3 h4
 refine .inr (.inl ⟨w',?_,g,?_⟩)
 .have bi:(a.eval x).cells.size=zs.length:=by simpa using bj.trans hl
  simp only [execOp,ho,bh]
  simp [Instr.storeAt,Instr.sureAddr,storeVar,hs,bi,h1]
 .have ak:∀ c,(∃ j,j < (a.eval x).cells.toList.length/\c=b.add (n*cfg.sz y.T+off+j))->g.tag c=some (.tok u):=by
   rintro c ⟨j,hj,rfl⟩
   obtain ⟨_,_,_,_,_,ab⟩:=af (off+j) JX
   rw [show n*cfg.sz y.T+(off+j)=n*cfg.sz y.T+off+j by omega] at ab
   exact ab
  have ah:∀ c,g.tag c≠some (.tok u)->w'.cell? c=w.cell? c:=fun c hc=> h4 c fun j hj e=> hc (ak c ⟨j,hj,e⟩)
  have ay:∀ c v,g.m c=some v->w'.cell? c=some v:=fun c v hv=> by
   obtain ⟨h7,h8⟩:=h.inv.im c v hv
   grind
  have al:Zq st ({ ls:=[(u,⟨y.T,y.l.set n e,y.f⟩)] }:Eff U)=st.dead:=by funext t;simp [Zq]
  have ao:Keeps g g st.dead (Zq st ({ ls:=[(u,⟨y.T,y.l.set n e,y.f⟩)] }:Eff U)) (fun nm=> (st.mem nm).isSome) (Yg st ({ ls:=[(u,⟨y.T,y.l.set n e,y.f⟩)] }:Eff U)):=by
   rw [al];exact .refl _ _ _
  refine ⟨⟨fun c v hv=> ⟨ay c v hv,(h.inv.im c v hv).2⟩,fun c t a2=> ?_⟩,?_,ao,?_,trivial,?_,?_⟩
  .obtain ⟨h7,u',h8⟩:=h.inv.it c t a2
   grind
  .exact h.fr.step h.inv h2 (fun c hc=> ⟨_,ak c hc,fun t' e=> by cases e⟩) (fun _ _ h=> h) (fun _ _=> QN) (fun _ _ _ _ _=> rfl) (fun _=> rfl)
  .rw [al]
   intro nm ba hm j c hj
   obtain ⟨v0,b1,ab,b5⟩:=h.mem nm ba hm j c hj
   grind
  .intro t z hz
   rw [al]
   unfold Z0o at hz
   simp only [XE,cond_false,ZE] at hz
   split at hz
   .rename_i et
    subst et
    cases hz
    refine ⟨bn,.inr ⟨b,len,bc,bb,by simp [az],a5,bo,?_,aq⟩⟩
    intro i q hq j c hc
    simp only at hq hc ⊢
    have hj:j < cfg.sz y.T:=by have:=(Q8.1 hc).1;rw [ok.enc_len] at this;exact this
    by_cases hin:i=n
    .subst hin
     rw [Kk] at hq
     simp only [if_true,hn] at hq
     cases hq
     obtain ⟨u',c0,g1,g2,g3,g4⟩:=af j hj
     have bv:cs'.length=cfg.sz y.T:=by rw [bk];exact ok.enc_len _ _
     have a3:cs'[j]?=some (cs'[j]'JX):=Q4 _
     have a0:=a9 j _ c a3 hc
     have s:cs'[j]?=if off<=j/\j < off+new.length then new[j - off]? else (cfg.enc y.T (y.l.getD i (cfg.dflt y.T)))[j]?:=by
      unfold YS at hsc
      rw [Jq] at hsc
      simp only [Option.some.injEq] at hsc
      rw [<-hsc,Qo,QK]
      simp only [Qr]
      rw [Xo JX]
      split
      .grind
      .rename_i h7
       rw [QK]
       split
       .rename_i h8;grind
       .rename_i h8
        rw [J3,Qz]
        congr 1;omega
     rw [a3] at s
     split at s
     .rename_i hr
      have a4:(a.eval x).cells.toList[j - off]?=some ((a.eval x).cells.toList[j - off]'JX):=Q4 _
      have h7:=h3 (j - off) _ a4
      rw [show i*cfg.sz y.T+off+(j - off)=i*cfg.sz y.T+j by omega] at h7
      exact ⟨_,h7,(ae.2 _ _ _ a4 s.symm).1.wk a0,fun hi=> by omega,fun _=> g4⟩
     .rename_i hr
      rw [g1] at s
      cases s
      refine ⟨u',?_,g3.wk a0,fun hi=> by omega,fun _=> g4⟩
      rw [h4 _ fun j' bg e=> by have:=Z2h e;omega]
      exact g2
    .rw [List.getElem?_set_ne (Ne.symm hin)] at hq
     obtain ⟨u',g1,g2,g3,g4⟩:=ai i q hq j c hc
     refine ⟨u',?_,g2,g3,g4⟩
     rw [h4 _ fun j' bg e=> by
      have:=Z2h e
      rcases XG i n with hlt | hge
      .have:(i+1)*cfg.sz y.T<=n*cfg.sz y.T:=Qf _ hlt
       grind
      .have:(n+1)*cfg.sz y.T<=i*cfg.sz y.T:=Qf _ JX
       grind]
     exact g1
   .rename_i b0
    obtain ⟨h7,h8⟩:=h.ls t z hz
    exact ⟨h7,h8.keep (.refl g st.dead (fun _=> true)) h7 ay (fun c a2=> ah c (by grind))⟩
  .rw [al]
   intro t h0 h7 h8
   unfold Z0o at h7
   simp only [XE,cond_false,ZE] at h7
   split at h7
   .cases h7
   .exact h.fresh t h0 h7 h8
end Go.AM
namespace Go.AM
variable {U:Uni} {P:Program} {cfg:Cfg U} {B:Base} {st:FSt U} {g:Gh} {a:Act} {w:World}
def ZU:Tok->Bool:=fun _=> false
def Zbc(X:List (List (C U))):Name->Bool
 | .x k=> (X[k]?).isSome
 | .loc _=> false
structure Entry (cfg:Cfg U) (w:World) (g:Gh) (vs:List Value) (args:List (V U)) (X:List (List (C U))) (L:List (Tok × LC U)):Prop where
 inv:Inv g.m g.tag w
 tags:∀ a t,g.tag a=some t->(∃ t',t= .outer t')\/(∃ k,t= .obj (.x k))\/∃ u,t= .tok u
 len:vs.length=args.length
 args:∀ (j:Nat) v x,vs[j]?=some v->args[j]?=some x->RelV cfg g ZU (Zbc X) v x
 x:∀ (k:Nat) cs,X[k]?=some cs->∀ (j:Nat) c,cs[j]?=some c->∃ v,w.cell? ((g.ad (.x k)).add j)=some v/\g.tag ((g.ad (.x k)).add j)=some (.obj (.x k))/\RelC cfg g ZU v c
 bs:∀ t,t.isR=true->g.bs t=none
 ls:∀ t x,ZE (fun _=> none) L t=some x->LRel cfg w g t x
structure Leave (cfg:Cfg U) (w:World) (g:Gh) (w':World) (g':Gh) (v:Value) (r:V U) (X:List (List (C U))) (L:List (Tok × LC U)):Prop where
 inv:Inv g'.m g'.tag w'
 fr:Fr ⟨w,g.m,g.tag,fun k=> g'.ad (.x k)⟩ g' w'
 tags:∀ a t,g'.tag a=some t->(∃ t',t= .outer t')\/(∃ k,k < X.length/\t= .obj (.x k))\/∃ u,t= .tok u
 ad:∀ k,r≠.ptr (.x k) 0->g'.ad (.x k)=g.ad (.x k)
 val:RelV cfg g' ZU (fun _=> false) v r
 x:∀ (k:Nat) cs,X[k]?=some cs->∀ (j:Nat) c,cs[j]?=some c->∃ v,w'.cell? ((g'.ad (.x k)).add j)=some v/\g'.tag ((g'.ad (.x k)).add j)=some (.obj (.x k))/\RelC cfg g' ZU v c
 ls:∀ t x,ZE (fun _=> none) L t=some x->LRel cfg w' g' t x
def Contract(P:Program)(cfg:Cfg U)(f:FuncId)(s:Fs U):Prop:=
 (∃ fn, P.funcs[f]? = some fn ∧ fn.body.isSome = true ∧ (fn.name == "runtime.NumGoroutine") = false) ∧
 ∀ args X L ps r X' L',s.fn2 args X L=some (ps,r,X',L')->All ps->X'.length<=X.length+1->∀ w g vs,Entry cfg w g vs args X L->
  Calls P f vs.toArray w fun e w'=> ∃ v g',e= .returned v/\Leave cfg w g w' g' v r X' L'
def ZzJ(P:Program)(cfg:Cfg U)(f:FuncId)(s:Fs U):Prop:=
 ∀ args X ps r X',s.fn args X=some (ps,r,X')->All ps->X'.length<=X.length+1->∀ w g vs,Entry cfg w g vs args X []->
  Calls P f vs.toArray w fun e w'=> ∃ v g',e= .returned v/\Leave cfg w g w' g' v r X' []
theorem Z0t {f : FuncId} {s : Fs U} (h0 : ∃ fn, P.funcs[f]? = some fn ∧ fn.body.isSome = true ∧ (fn.name == "runtime.NumGoroutine") = false) (hd : s.fn2 = ZdI s.fn) (h : ZzJ P cfg f s) : Contract P cfg f s := by
 refine ⟨h0,fun args X L ps r X' L' u=> ?_⟩
 rw [hd] at u
 unfold ZdI at u
 split at u
 .split at u
  .rename_i h1
   cases u
   exact h args X _ _ _ h1
  .cases u
 .cases u
theorem Contract.one{f:FuncId}{s:Fs U}(h:Contract P cfg f s)(hd:s.fn2=ZdI s.fn):ZzJ P cfg f s:=by
 intro args X u r X' hs
 exact h.2 args X [] u r X' [] (by rw [hd];simp only [ZdI,hs])
theorem SimC.tl{m:Addr->Option Value}{v:Value}{T:U.Ty}{l:List (U.El T)}{tl:Tail}(tl':Tail)(h:SimC cfg m v (.slice T l tl)):SimC cfg m v (.slice T l tl'):=by
 cases h with
 | snil=> exact .snil T tl'
 | slice _ _ _ b len cap vs hl hc hm hs=> exact .slice T l tl' b len cap vs hl hc hm hs
def Ext(s s':List (Tok × Tok)):Prop:=(∀ t t':Tok,YU s t=some t'->YU s' t=some t')/\∀ t t':Tok,Z1z s t=some t'->Z1z s' t=some t'
theorem Ext.refl(s:List (Tok × Tok)):Ext s s:=⟨fun _ _ h=> h,fun _ _ h=> h⟩
theorem Ext.trans{a b c:List (Tok × Tok)}(h:Ext a b)(k:Ext b c):Ext a c:=⟨fun t u s=> k.1 _ _ (h.1 _ _ s),fun t u s=> k.2 _ _ (h.2 _ _ s)⟩
theorem Ext.cons{seen:List (Tok × Tok)}{t nm:Tok}(h1:YU seen t=none)(h2:Z1z seen nm=none):Ext seen ((t,nm) ::seen):=by
 refine ⟨fun u s h=> ?_,fun u s h=> ?_⟩
 .simp only [YU]
  grind
 .simp only [Z1z]
  grind
theorem ZgE:∀ {s:List (Tok × Tok)} {t t':Tok},YU s t=some t'->(s.map (·.1)).contains t=true
 | (x,y) ::r,t,t',h=> by
  simp only [YU] at h
  split at h
  .grind
  .have:=ZgE h
   grind
def ZiV(g:Gh)(s:List (Tok × Tok))(t:Tok):Option (Value × Nat):=
 match Z1z s t with
 | none=> none
 | some u=> g.bs u
def Gh.callee(g:Gh)(nx:Name->Option Nat)(s:List (Tok × Tok))(ax:Nat->Addr):Gh:=
 {m:=g.m
  tag:=fun c=> match g.tag c with
   | some (.obj nm)=> match nx nm with
    | some k=> some (.obj (.x k))
    | none=> some (.outer (.obj nm))
   | some (.tok t)=> match YU s t with
    | some t'=> some (.tok t')
    | none=> some (.outer (.tok t))
   | some (.outer t)=> some (.outer (.outer t))
   | none=> none
  ad:=fun nm=> match nm with
   | .x k=> ax k
   | .loc s=> g.ad (.loc s)
  bs:=fun t=> if t.isR=true then none else ZiV g s t }
theorem Z1j{m:Tok->Option (LC U)}{s:List (Tok × Tok)}:∀ (l:List Tok) {t:Tok} {x:LC U},ZE (fun _=> none) (Z0I m s l) t=some x->∃ u,Z1z s t=some u/\YU s u=some t/\m u=some x/\t.isR=false
 | [],t,x,h=> by trivial
 | t0 ::l,t,x,h=> by
  simp only [Z0I] at h
  split at h
  .rename_i u hu
   split at h
   .rename_i t' y h1 h2
    split at h
    .rename_i hc
     obtain ⟨aa,ab⟩:=hc
     subst aa
     simp only [ZE] at h
     split at h
     .grind
     .exact Z1j l h
    .exact Z1j l h
   .exact Z1j l h
  .exact Z1j l h
section pass
variable {nx:Name->Option Nat} {ax:Nat->Addr}
structure Ren (ok:Tok->Bool) (g:Gh) (s:List (Tok × Tok)) (g2:Gh):Prop where
 m:g2.m=g.m
 tok:∀ c t t',g.tag c=some (.tok t)->YU s t=some t'->g2.tag c=some (.tok t')
 bs:∀ t t' v,ok t=true->Z1z s t=some t'->g.bs t'=some v->g2.bs t=some v
def Z3W(t:Tok):Bool:= !t.isR
theorem Gh.callee_ren(s:List (Tok × Tok)):Ren Z3W g s (g.callee nx s ax):=
 ⟨rfl,fun c t t' h u=> by simp only [Gh.callee,h,u],fun t t' v h u h3=> by
  simp only [Z3W,QX] at h
  simp only [Gh.callee,h,ZiV,u]
  exact h3⟩
theorem Zhj{s:List (Tok × Tok)}{c:Addr}{t:Tag}:(g.callee nx s ax).tag c=some (.outer t)↔(g.tag c=some t/\(∀ nm,t= .obj nm->nx nm=none)/\(∀ u,t= .tok u->YU s u=none)):=by
 simp only [Gh.callee]
 cases hgt:g.tag c with
 | none=> simp
 | some t0=>
  cases t0 with
  | obj nm=>
   cases hn:nx nm with
   | none=>
    simp only [hn]
    constructor
    .intro h;cases h;exact ⟨rfl,fun ab e=> by cases e;exact hn,fun u e=> by cases e⟩
    .rintro ⟨h1,_,_⟩;cases h1;rfl
   | some k=>
    simp only [hn]
    constructor
    .intro h;cases h
    .rintro ⟨h1,h2,_⟩;cases h1;rw [h2 nm rfl] at hn;cases hn
  | tok u=>
   cases hn:YU s u with
   | none=>
    simp only [hn]
    constructor
    .intro h;cases h;exact ⟨rfl,fun ab e=> by (cases e),fun u' e=> by cases e;exact hn⟩
    .rintro ⟨h1,_,_⟩;cases h1;rfl
   | some k=>
    simp only [hn]
    constructor
    .intro h;cases h
    .rintro ⟨h1,_,h2⟩;cases h1;rw [h2 u rfl] at hn;cases hn
  | outer t0=>
   simp only
   constructor
   .intro h;cases h;exact ⟨rfl,fun ab e=> by (cases e),fun u' e=> by (cases e)⟩
   .rintro ⟨h1,_,_⟩;cases h1;rfl
theorem Z7p{s:List (Tok × Tok)}{c:Addr}{t:Tag}(ht:(g.callee nx s ax).tag c=some t):∃ t0,g.tag c=some t0:=by
 simp only [Gh.callee] at ht
 cases hgt:g.tag c with
 | none=> simp [hgt] at ht
 | some t0=> exact ⟨t0,rfl⟩
theorem Z7q{s:List (Tok × Tok)}{c:Addr}(hc:g.tag c=none):(g.callee nx s ax).tag c=none:=by
 simp only [Gh.callee,hc]
theorem Z9t{okT mine:Tok->Bool}{nm:Tok}{c:C U}{seen:List (Tok × Tok)}(hmine:∀ t,mine t=true->st.dead t=false)(hok:okT nm=true):
  Ext seen (Z0G mine nm c seen).2/\∀ u,Ext (Z0G mine nm c seen).2 u->∀ g2,Ren okT g u g2->∀ v,RelC cfg g st.dead v c->RelC cfg g2 ZU v (Z0G mine nm c seen).1:=by
 unfold Z0G
 split
 .rename_i T l t
  split
  .rename_i hc
   simp only [Q6,QO] at hc
   refine ⟨Ext.cons hc.1.2 hc.2,fun u hs g2 s v h=> ⟨by rw [s.m];exact h.1.tl _,?_⟩⟩
   intro _ b len ai hv j h1 h2
   have h3:=h.2 (hmine t hc.1.1) b len ai hv j h1 h2
   have h4:YU u t=some nm:=hs.1 t nm (by simp [YU])
   exact s.tok _ _ _ h3 h4
  .exact ⟨.refl _,fun u _ g2 s v h=> ⟨by rw [s.m];exact h.1.tl _,trivial⟩⟩
 .rename_i t
  split
  .rename_i hc
   simp only [Q6,QO] at hc
   refine ⟨Ext.cons hc.1.2 hc.2,fun u hs g2 s v h=> ⟨.mref _ _ h.1.one,fun _=> ?_⟩⟩
   obtain ⟨sz,h3⟩:=h.2 (hmine t hc.1.1)
   have h4:Z1z u nm=some t:=hs.2 nm t (by simp [Z1z])
   exact ⟨sz,s.bs _ _ _ hok h4 h3⟩
  .exact ⟨.refl _,fun u _ g2 s v h=> ⟨.jk _ h.1.one,trivial⟩⟩
 .exact ⟨.refl _,fun u _ g2 s v h=> ⟨.jk _ h.1.one,trivial⟩⟩
 .rename_i am ak aj
  refine ⟨.refl _,fun u _ g2 s v h=> ⟨by rw [s.m];exact h.1,?_⟩⟩
  have h2:=h.2
  cases c with
  | slice T l tl=>
   cases tl with
   | unk=> trivial
   | full=> exact h2
   | own t=> grind
  | mref t=> grind
  | xp k=> grind
  | _=> trivial
theorem Z7F{okT mine:Tok->Bool}{nm:Nat->Tok}(hmine:∀ t,mine t=true->st.dead t=false)(hok:∀ j,okT (nm j)=true):∀ (cs:List (C U)) (j:Nat) (seen:List (Tok × Tok)),
  Ext seen (Js mine nm j cs seen).2/\(Js mine nm j cs seen).1.length=cs.length/\
   ∀ s,Ext (Js mine nm j cs seen).2 s->∀ u,Ren okT g s u->∀ (i:Nat) v c c',cs[i]?=some c->(Js mine nm j cs seen).1[i]?=some c'->RelC cfg g st.dead v c->RelC cfg u ZU v c'
 | [],j,seen=> ⟨.refl _,rfl,fun s _ u _ i v c c' hc=> by simp at hc⟩
 | c ::cs,j,seen=> by
  obtain ⟨h1,h2⟩:=Z9t (cfg:=cfg) (g:=g) (okT:=okT) (nm:=nm j) (c:=c) (seen:=seen) hmine (hok j)
  obtain ⟨h3,h4,h5⟩:=Z7F (okT:=okT) (mine:=mine) (nm:=nm) hmine hok cs (j+1) (Z0G mine (nm j) c seen).2
  refine ⟨h1.trans h3,by simp [Js,h4],fun s hs u hg i v c0 c' hc h hr=> ?_⟩
  cases i with
  | zero=>
   simp [Js] at hc h
   subst hc h
   exact h2 s (h3.trans hs) u hg v hr
  | succ i=>
   simp [Js] at hc h
   exact h5 s hs u hg i v c0 c' hc h hr
theorem Ztv{mine:Tok->Bool}{nm:Tok}{c:C U}{seen:List (Tok × Tok)}(hmine:∀ t,mine t=true->st.dead t=false)(hok:Z3W nm=true):
  Ext seen (Z0G mine nm c seen).2/\∀ h,Ext (Z0G mine nm c seen).2 h->∀ v,RelC cfg g st.dead v c->RelC cfg (g.callee nx h ax) ZU v (Z0G mine nm c seen).1:=
 let ⟨h1,h2⟩:=Z9t (cfg:=cfg) (g:=g) (nm:=nm) (c:=c) (seen:=seen) hmine hok
 ⟨h1,fun h u v s=> h2 h u _ (Gh.callee_ren h) v s⟩
theorem Zm4{mine:Tok->Bool}{nm:Nat->Tok}(hmine:∀ t,mine t=true->st.dead t=false)(hok:∀ j,Z3W (nm j)=true)(cs:List (C U))(j:Nat)(seen:List (Tok × Tok)):
  Ext seen (Js mine nm j cs seen).2/\(Js mine nm j cs seen).1.length=cs.length/\
   ∀ h,Ext (Js mine nm j cs seen).2 h->∀ (i:Nat) v c c',cs[i]?=some c->(Js mine nm j cs seen).1[i]?=some c'->RelC cfg g st.dead v c->RelC cfg (g.callee nx h ax) ZU v c':=
 let ⟨h1,h2,h3⟩:=Z7F (cfg:=cfg) (g:=g) (mine:=mine) (nm:=nm) hmine hok cs j seen
 ⟨h1,h2,fun h u i v c c' hc s hr=> h3 h u _ (Gh.callee_ren h) i v c c' hc s hr⟩
theorem ZwV{mine:Tok->Bool}{nm:Nat->Tok}{live lx:Name->Bool}(hmine:∀ t,mine t=true->st.dead t=false)(hok:∀ j,Z3W (nm j)=true){x x':V U}{seen seen':List (Tok × Tok)}(he:ZwW mine nm x seen=some (x',seen')):
  Ext seen seen'/\∀ h,Ext seen' h->∀ v,RelV cfg g st.dead live v x->RelV cfg (g.callee nx h ax) ZU lx v x':=by
 unfold ZwW at he
 split at he
 .rename_i c
  simp only [oP] at he
  obtain ⟨rfl,rfl⟩:=he
  obtain ⟨h1,h2⟩:=Ztv (cfg:=cfg) (g:=g) (nx:=nx) (ax:=ax) (nm:=nm 0) (c:=c) (seen:=seen) hmine (hok 0)
  trivial
 .rename_i cs
  simp only [oP] at he
  obtain ⟨rfl,rfl⟩:=he
  obtain ⟨h3,h4,h5⟩:=Zm4 (cfg:=cfg) (g:=g) (nx:=nx) (ax:=ax) (mine:=mine) (nm:=nm) hmine hok cs 0 seen
  refine ⟨h3,fun h hs v s=> ?_⟩
  obtain ⟨vs,rfl,hl,hh⟩:=s
  refine ⟨vs,rfl,JX,fun j u c hu hc=> ?_⟩
  grind
 .rename_i f
  simp only [oP] at he
  obtain ⟨rfl,rfl⟩:=he
  exact ⟨.refl _,fun h _ v s=> s⟩
 .cases he
def Znf(os:List (Name × List (C U))):Prop:=∀ (i j:Nat) x y,os[i]?=some x->os[j]?=some y->x.1=y.1->i=j
theorem Z7f:∀ {os:List (Name × List (C U))} {nm:Name} {i:Nat} {x:Name × List (C U)},os[i]?=some x->x.1=nm->ZbD os nm=true
 | (b,cs) ::os,nm,0,x,h,e=> by simp at h;subst h;simp [ZbD];exact .inl e
 | (b,cs) ::os,nm,i+1,x,h,e=> by
  simp at h
  simp only [ZbD,Z7f h e]
  split <;> rfl
theorem Z72:∀ {os:List (Name × List (C U))} {k:Nat} {nm:Name} {i:Nat},Jo os k nm=some i->∃ x,k<=i/\os[i - k]?=some x/\x.1=nm
 | (b,cs) ::os,k,nm,i,h=> by
  simp only [Jo] at h
  split at h
  .simp_all
  .obtain ⟨x,u,h2,s⟩:=Z72 h
   grind
theorem Zcr:∀ {os:List (Name × List (C U))} {k:Nat} {nm:Name} {i:Nat} {x:Name × List (C U)},Znf os->os[i]?=some x->x.1=nm->Jo os k nm=some (k+i)
 | (b,cs) ::os,k,nm,0,x,_,h,e=> by simp at h;subst h;simp [Jo];grind
 | (b,cs) ::os,k,nm,i+1,x,hap,h,e=> by
  simp only [Jo]
  rw [if_neg (fun s=> by have:=hap 0 (i+1) (b,cs) x rfl h (by simp [s,e]);omega)]
  have:=Zcr (k:=k+1) (nm:=nm) (fun i j x y hx u he=> by have:=hap (i+1) (j+1) x y (by simpa using hx) (by simpa using u) he;omega) (by simpa using h) e
  grind
theorem Zdi{os:List (Name × List (C U))}{nm:Name}(h:∀ (i:Nat) x,os[i]?=some x->x.1≠nm)(k:Nat):Jo os k nm=none:=by
 cases hn:Jo os k nm with
 | none=> rfl
 | some i=>
  obtain ⟨x,_,u,s⟩:=Z72 hn
  grind
theorem Z6X{ps:Nat->Bool}:∀ (xs:List (V U)) (i:Nat) (os:List (Name × List (C U))) (seen:List (Tok × Tok)) (ys:List (V U)) (os':List (Name × List (C U))) (seen':List (Tok × Tok)),
  Ja st ps i xs os seen=some (ys,os',seen')->Znf os->
  Ext seen seen'/\(∃ af,os'=os++af)/\Znf os'/\ys.length=xs.length/\
  (∀ (k:Nat) x,os'[k]?=some x->os.length<=k->∃ cs,st.mem x.1=some cs/\x.2.length=cs.length/\
   ∀ s',Ext seen' s'->∀ nx ax (i:Nat) v c c',cs[i]?=some c->x.2[i]?=some c'->RelC cfg g st.dead v c->RelC cfg (g.callee nx s' ax) ZU v c')/\
  (∀ s',Ext seen' s'->∀ nx ax,(∀ (k:Nat) x,os'[k]?=some x->ax k=g.ad x.1)->∀ (j:Nat) v x y,xs[j]?=some x->ys[j]?=some y->RelV cfg g st.dead (fun nm=> (st.mem nm).isSome) v x->
   RelV cfg (g.callee nx s' ax) ZU (fun nm=> match nm with | .x k=> (os'[k]?).isSome | .loc _=> false) v y)
 | [],i,os,seen,ys,os',seen',h,hap=> by
  simp only [Ja,oP] at h
  obtain ⟨rfl,rfl,rfl⟩:=h
  exact ⟨.refl _,⟨[],by simp⟩,hap,rfl,fun k x s hk=> by grind,fun s' _ nx ax _ j v x y s=> by simp at s⟩
 | x0 ::xs,i,os,seen,ys,os',seen',h,hap=> by
  simp only [Ja] at h
  split at h
  .rename_i nm mk hp
   split at h
   .cases h
   .rename_i cs a1
    split at h
    .cases h
    .rename_i am
     split at h
     .rename_i vs aq s1 ah
      simp only [oP] at h
      obtain ⟨rfl,rfl,rfl⟩:=h
      have u:∀ t,(fun t=> !st.dead t) t=true->st.dead t=false:=fun t ht=> by simpa using ht
      have au:Znf (os++[(nm,(Js (fun t=> !st.dead t) (.x os.length) 0 cs seen).1)]):=by
       intro p q x y s hy he
       rw [QK] at s hy
       have aa:∀ (r:Nat) (z z0:Name × List (C U)),[z0][r]?=some z->r=0/\z=z0:=by
        intro r z z0 hz
        cases r with
        | zero=> simp at hz;exact ⟨rfl,hz.symm⟩
        | succ r=> simp at hz
       split at s <;> split at hy
       .exact hap p q x y s hy he
       .obtain ⟨_,rfl⟩:=aa _ _ _ hy
        exact absurd (Z7f s he) am
       .obtain ⟨_,rfl⟩:=aa _ _ _ s
        exact absurd (Z7f hy he.symm) am
       .grind
      obtain ⟨r1,⟨af,r2⟩,r3,r4,r5,r6⟩:=Z6X xs (i+1) _ _ _ _ _ ah au
      have hC:=fun nx ax=> Zm4 (cfg:=cfg) (g:=g) (nx:=nx) (ax:=ax) (mine:=fun t=> !st.dead t) (nm:= .x os.length) u (fun _=> rfl) cs 0 seen
      have ai:aq[os.length]?=some (nm,(Js (fun t=> !st.dead t) (.x os.length) 0 cs seen).1):=by
       rw [r2,Qo,Qu (Qb _)];simp
      refine ⟨(hC (fun _=> none) (fun _=> ⟨0,0,none⟩)).1.trans r1,⟨(nm,(Js (fun t=> !st.dead t) (.x os.length) 0 cs seen).1) ::af,by rw [r2];simp⟩,r3,by simp [r4],?_,?_⟩
      .intro k x s hk
       by_cases e:k=os.length
       .subst e
        rw [ai] at s
        cases s
        exact ⟨cs,a1,(hC (fun _=> none) (fun _=> ⟨0,0,none⟩)).2.1,fun s' hs nx ax q v c c' h1 h2 h3=> (hC nx ax).2.2 s' (r1.trans hs) q v c c' h1 h2 h3⟩
       .exact r5 k x s (by simp;omega)
      .intro s' hs nx ax aj j v x y s hy hr
       cases j with
       | zero=>
        simp at s hy
        subst s hy
        have:=aj _ _ ai
        simp only at this
        cases x0 <;> simp only [Ztq,reduceCtorEq] at hp
        case ptr nm0 off0=>
         cases hp
         obtain ⟨_,rfl⟩:=hr
         exact ⟨by simp [ai],by simp [Gh.callee,this]⟩
        case clo f0 nms0=>
         split at hp
         .grind
         .rename_i f1 be a0
          cases a0
          cases hp
          obtain ⟨_,rfl⟩:=hr
          refine ⟨fun n hn=> ?_,by simp [Gh.callee,this]⟩
          grind
         .cases hp
       | succ j=> exact r6 s' hs nx ax aj j v x y (by simpa using s) (by simpa using hy) hr
     .cases h
  .rename_i hp
   split at h
   .cases h
   .rename_i v' a5 hv
    split at h
    .rename_i vs aq s1 ah
     simp only [oP] at h
     obtain ⟨rfl,rfl,rfl⟩:=h
     obtain ⟨r1,r2,r3,r4,r5,r6⟩:=Z6X xs (i+1) _ _ _ _ _ ah hap
     have u:∀ t,(fun t=> ps i && !st.dead t) t=true->st.dead t=false:=fun t ht=> by grind
     have hV:=fun nx ax lx=> ZwV (cfg:=cfg) (g:=g) (nx:=nx) (ax:=ax) (live:=fun nm=> (st.mem nm).isSome) (lx:=lx) u (fun _=> rfl) hv
     refine ⟨(hV (fun _=> none) (fun _=> ⟨0,0,none⟩) (fun _=> true)).1.trans r1,r2,r3,by simp [r4],r5,?_⟩
     intro s' hs nx ax aj j v x y s hy hr
     cases j with
     | zero=>
      simp at s hy
      subst s hy
      exact (hV nx ax _).2 s' (r1.trans hs) v hr
     | succ j=> grind
    .cases h
end pass
def Gh.back(g':Gh)(os:List (Name × List (C U)))(d:Nat)(ad:Name->Addr)(L:List (Tok × LC U))(bs:Tok->Option (Value × Nat)):Gh:=
 {m:=g'.m
  tag:=fun c=> match g'.tag c with
   | some (.outer t)=> some t
   | some (.obj (.x k))=> (os[k]?).map fun x=> .obj x.1
   | some (.tok t)=> (Y2 d t).map .tok
   | _=> none
  ad:=ad
  bs:=fun t=> match bs t with
   | some v=> some v
   | none=> match Z1O d t with
    | some t'=> match ZE (fun _=> none) L t' with
     | some _=> g'.bs t'
     | none=> none
    | none=> none }
theorem Z3Z{d:Nat}{t t':Tok}(h:Y2 d t=some t'):Z1O d t'=some t:=by
 unfold Y2 at h
 split at h
 .rename_i j
  cases h
  simp only [Z1O,if_true]
  grind
 .rename_i k j
  split at h
  .rename_i s
   cases h
   simp only [Z1O,if_true]
   grind
  .cases h
 .cases h
section back
variable {g':Gh} {os:List (Name × List (C U))} {d:Nat} {ad:Name->Addr} {L:List (Tok × LC U)} {bs:Tok->Option (Value × Nat)} {dead:Tok->Bool} {live lv:Name->Bool} {fx:Nat->Option Nat}
theorem RelC.back(hbs:∀ t t',Z0X d L t=some t'->bs t'=none)(hx:∀ k k',fx k=some k'->g'.ad (.x k)=ad (.x k')){v:Value}{c:C U}(h:RelC cfg g' ZU v c):RelC cfg (g'.back os d ad L bs) dead v (c.mapTok (Y2 d) (Z0X d L) fx):=by
 obtain ⟨s,h2⟩:=h
 cases c with
 | slice T l tl=>
  cases tl with
  | unk=> trivial
  | full=> trivial
  | own t=>
   simp only [C.mapTok]
   cases hb:Y2 d t with
   | none=> exact ⟨s.tl _,trivial⟩
   | some t'=>
    refine ⟨s.tl _,fun _ b len ae hv j u ab=> ?_⟩
    have:=h2 rfl b len ae hv j u ab
    simp only [Gh.back,this,hb,Qi]
 | mref t=>
  simp only [C.mapTok]
  cases hb:Z0X d L t with
  | none=> exact ⟨.jk _ s.one,trivial⟩
  | some t'=>
   refine ⟨.mref _ _ s.one,fun _=> ?_⟩
   obtain ⟨sz,hs⟩:=h2 rfl
   refine ⟨sz,?_⟩
   have h0:=hbs t t' hb
   unfold Z0X at hb
   cases hL:ZE (fun _=> none) L t with
   | none=> grind
   | some x=>
    rw [hL] at hb
    simp only [Gh.back,h0,Z3Z hb,hL,hs]
 | xp k=>
  simp only [C.mapTok]
  cases hk:fx k with
  | none=> exact ⟨.jk _ s.one,trivial⟩
  | some k'=>
   refine ⟨.xp _ _ s.one,?_⟩
   have h3:v= .pointer (some (g'.ad (.x k))):=h2
   show v= .pointer (some (ad (.x k')))
   grind
 | _=> trivial
theorem RelL.back(hbs:∀ t t',Z0X d L t=some t'->bs t'=none)(hx:∀ k k',fx k=some k'->g'.ad (.x k)=ad (.x k')){vs:List Value}{cs:List (C U)}(h:RelL cfg g' ZU vs cs):RelL cfg (g'.back os d ad L bs) dead vs (cs.map (C.mapTok (Y2 d) (Z0X d L) fx)):=by
 refine ⟨by simp [h.1],fun j v c s hc=> ?_⟩
 rw [Qv] at hc
 cases hcj:cs[j]? with
 | none=> grind
 | some c0=>
  simp [hcj] at hc
  subst hc
  exact (h.2 j v c0 s hcj).back hbs hx
theorem RelV.back(hbs:∀ t t',Z0X d L t=some t'->bs t'=none)(hx:∀ k k',fx k=some k'->g'.ad (.x k)=ad (.x k')){v:Value}:∀ {x:V U},RelV cfg g' ZU (fun _=> false) v x->RelV cfg (g'.back os d ad L bs) dead live v (x.mapTok (Y2 d) (Z0X d L) fx)
 | .c x,h=> RelC.back hbs hx (c:=x) h
 | .agg cs,h=> by obtain ⟨vs,h1,h2⟩:=h;exact ⟨vs,h1,h2.back hbs hx⟩
 | .tup ws,h=> by
  obtain ⟨vs,h1,h2,h3⟩:=h
  refine ⟨vs,h1,by simp [h2],fun j u w hu hw=> ?_⟩
  rw [Qv] at hw
  cases hj:ws[j]? with
  | none=> grind
  | some w0=>
   simp [hj] at hw
   subst hw
   have:=h3 j u w0 hu hj
   obtain ⟨ag,cs⟩:=w0
   cases ag with
   | true=> obtain ⟨vs,s,h5⟩:=this;exact ⟨vs,s,h5.back hbs hx⟩
   | false=> obtain ⟨c,s,h5⟩:=this;simp only at s;subst s;exact ⟨_,rfl,h5.back hbs hx⟩
 | .ptr ..,_=> trivial
 | .ap ..,_=> trivial
 | .ep cs,h=> by
  obtain ⟨b,h1,h2⟩:=h
  refine ⟨b,h1,fun j c hc=> ?_⟩
  rw [Qv] at hc
  cases hcj:cs[j]? with
  | none=> grind
  | some c0=>
   simp [hcj] at hc
   subst hc
   obtain ⟨u,h3,s⟩:=h2 j c0 hcj
   exact ⟨u,h3,s.back hbs hx⟩
 | .fn f,h=> h
 | .mp ..,_=> trivial
 | .vw ..,_=> trivial
 | .clo ..,_=> trivial
 | .gd b x,h=> ⟨fun hb=> RelV.back hbs hx (h.1 hb),h.2⟩
 | .nb _ _,h=> h
 | .junk,_=> trivial
end back
theorem Zdt{d:Nat}:∀ {L l:List (Tok × LC U)},Z15 st d L=some l->
  (∀ t x,ZE (fun _=> none) L t=some x->∃ s,Y2 d t=some s/\st.ls s=none/\st.dead s=false/\ZE st.ls l s=some x)/\
  (∀ s x,ZE st.ls l s=some x->(st.ls s=some x/\∀ t,Y2 d t=some s->ZE (fun _=> none) L t=none)\/∃ t,ZE (fun _=> none) L t=some x/\Y2 d t=some s/\st.dead s=false)
 | [],l,h=> by
  simp only [Z15,Option.some.injEq] at h
  subst h
  exact ⟨fun t x u=> by trivial,fun s x u=> .inl ⟨u,fun t _=> rfl⟩⟩
 | (t0,x0) ::L,l,h=> by
  simp only [Z15] at h
  split at h
  case h_2=> cases h
  rename_i t1 l1 h1 h2
  split at h
  case isFalse=> cases h
  rename_i hc
  simp only [Q6,QO,QX] at hc
  simp only [Option.some.injEq] at h
  subst h
  obtain ⟨ai,af⟩:=Zdt h2
  have inj:∀ {t:Tok},Y2 d t=some t1->t=t0:=by
   intro t ht
   have e1:=Z3Z ht
   have e2:=Z3Z h1
   rw [e1] at e2
   exact Option.some.inj e2
  refine ⟨fun t x u=> ?_,fun s x u=> ?_⟩
  .simp only [ZE] at u
   split at u
   .rename_i e
    subst e
    cases u
    exact ⟨t1,h1,hc.1,hc.2,by simp [ZE]⟩
   .rename_i e
    obtain ⟨s,g1,g2,g3,g4⟩:=ai t x u
    refine ⟨s,g1,g2,g3,?_⟩
    simp only [ZE]
    grind
  .simp only [ZE] at u
   split at u
   .rename_i e
    subst e
    cases u
    exact .inr ⟨t0,by simp [ZE],h1,hc.2⟩
   .rename_i e
    rcases af s x u with ⟨g1,g2⟩ | ⟨t,g1,g2,g3⟩
    .refine .inl ⟨g1,fun t ht=> ?_⟩
     simp only [ZE]
     grind
    .refine .inr ⟨t,?_,g2,g3⟩
     simp only [ZE]
     grind
theorem Zba{d:Nat}{L:List (Tok × LC U)}{fx:Nat->Option Nat}:∀ {os:List (Name × List (C U))} {xs:List (List (C U))} {m:List (Name × List (C U))},Z7M d L fx os xs=some m->
  xs.length=os.length/\m.length=os.length/\∀ (k:Nat) x cs,os[k]?=some x->xs[k]?=some cs->m[k]?=some (x.1,cs.map (C.mapTok (Y2 d) (Z0X d L) fx))
 | [],[],m,h=> by simp only [Z7M,Option.some.injEq] at h;grind
 | (nm,_) ::os,cs0 ::xs,m,h=> by
  simp only [Z7M] at h
  cases hr:Z7M d L fx os xs with
  | none=> simp [hr] at h
  | some m'=>
   simp only [hr,Qi,Option.some.injEq] at h
   subst h
   obtain ⟨h1,u,s⟩:=Zba hr
   grind
theorem Jd(m0:Name->Option (List (C U))):∀ (m:List (Name × List (C U))) (nm:Name),(∃ (k:Nat) (cs:List (C U)),m[k]?=some (nm,cs)/\ZW m0 m nm=some cs)\/((∀ (k:Nat) x,m[k]?=some x->x.1≠nm)/\ZW m0 m nm=m0 nm)
 | [],nm=> .inr ⟨fun k x h=> by simp at h,rfl⟩
 | (a,cs) ::r,nm=> by
  simp only [ZW]
  split
  .rename_i e
   subst e
   exact .inl ⟨0,cs,rfl,rfl⟩
  .rename_i e
   rcases Jd m0 r nm with ⟨k,cs',h1,h2⟩ | ⟨h1,h2⟩
   .exact .inl ⟨k+1,cs',by simpa using h1,h2⟩
   grind
theorem ZiA{xs:List Operand}{vs:List (V U)}(hm:xs.mapM st.opnd=some vs)(hop:∀ x∈xs,∀ v,st.opnd x=some v->RelV cfg g st.dead (fun nm=> (st.mem nm).isSome) (a.eval x) v):
  (xs.map a.eval).length=vs.length/\∀ (j:Nat) u x,(xs.map a.eval)[j]?=some u->vs[j]?=some x->RelV cfg g st.dead (fun nm=> (st.mem nm).isSome) u x:=by
 have s:∀ {xs:List Operand} {vs:List (V U)},xs.mapM st.opnd=some vs->xs.length=vs.length:=by
  intro xs
  induction xs with
  | nil=> grind
  | cons y xs ih=>
   intro vs h
   rw [X7] at h
   cases h1:st.opnd y with
   | none=> simp [h1] at h
   | some v=>
    cases h2:xs.mapM st.opnd with
    | none=> grind
    | some r=>
     simp [h1,h2] at h
     grind
 refine ⟨by simp [s hm],fun j u x hu hx=> ?_⟩
 rw [Qv] at hu
 cases hj:xs[j]? with
 | none=> grind
 | some y=>
  simp [hj] at hu
  subst hu
  obtain ⟨v,h1,h2⟩:=Z79 hm j y hj
  grind
theorem ZmO(os:List (Name × List (C U))):∀ (cs0 cs:List (C U)),cs.length=cs0.length->(ZmP os cs0 cs).length=cs.length
 | [],cs,h=> by rfl
 | c0 ::cs0,[],h=> by cases h
 | c0 ::cs0,c ::cs,h=> by
  have s:=ZmO os cs0 cs (by simpa using h)
  cases c0 <;> simp [ZmP,s]
theorem ZiM(os:List (Name × List (C U))):∀ (cs0 cs:List (C U)) (j:Nat) (c0 c:C U),cs.length=cs0.length->cs0[j]?=some c0->(ZmP os cs0 cs)[j]?=some c->
  cs[j]?=some c\/∃ k k',c0= .xp k/\Jo os 0 (.x k)=some k'/\c= .xp k'
 | [],cs,j,c0,c,_,h,_=> by simp at h
 | d0 ::cs0,[],j,c0,c,hl,_,_=> by cases hl
 | d0 ::cs0,d ::cs,0,c0,c,hl,h0,h=> by
  simp at h0
  subst h0
  cases d0 with
  | xp k=>
   simp only [ZmP] at h
   grind
  | _=> exact .inl (by trivial)
 | d0 ::cs0,d ::cs,j+1,c0,c,hl,h0,h=> by
  have s:=ZiM os cs0 cs j c0 c (by simpa using hl) (by simpa using h0)
  cases d0 <;> (simp only [ZmP,List.getElem?_cons_succ] at h ⊢;exact s h)
theorem Zhk {Γ:Known U} (hΓ:∀ f s,Γ f=some s->Contract P cfg f s) (h:Rel cfg B st g a w) {o:Oper} {c:Call} {gx:Operand} {f:FuncId} {args:List (V U)} {ps:List Prop} {e:Eff U} {d:Nat}
  (ho:o.op= .call c) (hc:c.callee= .value gx) {caps:List Value} (hg:a.eval gx= .func (.func f) #[] caps.toArray)
  (hargs:(c.args.toList.map a.eval++caps).length=args.length/\∀ (j:Nat) u x,(c.args.toList.map a.eval++caps)[j]?=some u->args[j]?=some x->RelV cfg g st.dead (fun nm=> (st.mem nm).isSome) u x)
  (he:Z6j Γ st d f args=some (ps,e)) (hps:All ps):
  Does P o a w fun v w'=> ∃ g',Out cfg B st g e v w' g':=by
 unfold Z6j at he
 split at he
 .cases he
 rename_i s hs
 split at he
 .cases he
 rename_i ys os toks bl
 split at he
 .cases he
 rename_i dh r xs L0 cr
 rw [cond_eq_ite] at he
 split at he
 .cases he
 rename_i a8
 have a8:∀ k,r≠.ptr (.x k) 0:=fun k e=> a8 (by rw [e];rfl)
 split at he
 case h_2=> cases he
 rename_i m ll cv cp
 simp only [oP] at he
 obtain ⟨rfl,rfl⟩:=he
 obtain ⟨q1,q2⟩:=Zdt cp
 obtain ⟨⟨fn,cw,di,ca⟩,bw⟩:=hΓ f s hs
 obtain ⟨p1,_,p3,p4,p5,p6⟩:=Z6X (cfg:=cfg) (g:=g) _ _ _ _ _ _ _ bl (fun i j x y hx=> by simp at hx)
 obtain ⟨b1,b2,b3⟩:=Zba cv
 let ax:Nat->Addr:=fun k=> ((os[k]?).map fun x=> g.ad x.1).getD ⟨0,0,none⟩
 have av:∀ (k:Nat) x,os[k]?=some x->ax k=g.ad x.1:=fun k x hx=> by simp [ax,hx]
 let gc:=g.callee (Jo os 0) toks ax
 let XS:=os.map fun x=> Zub st os (x.2,x.1)
 have aw:∀ c t,gc.tag c=some (.outer t)↔(g.tag c=some t/\(∀ nm,t= .obj nm->Jo os 0 nm=none)/\(∀ u,t= .tok u->YU toks u=none)):=fun c t=> Zhj
 have au:∀ c t,gc.tag c=some t->∃ t0,g.tag c=some t0:=fun c t=> Z7p
 have ay:∀ c,g.tag c=none->gc.tag c=none:=fun c=> Z7q
 have bb:Entry cfg w gc (c.args.toList.map a.eval++caps) (ys.take args.length) XS (bif s.wr then Z0I st.ls toks (toks.map (·.2)) else []):=by
  refine ⟨⟨fun c v hv=> ?_,fun c t ht=> ?_⟩,fun c t ht=> ?_,by rw [hargs.1,Qr,p4,Qk];omega,fun j v x hv hx=> ?_,fun k cs hk j c hj=> ?_,fun t ht=> (by simp only [gc,Gh.callee,ht,if_true]),fun t x hx=> ?_⟩
  .obtain ⟨h1,h2⟩:=h.inv.im c v hv
   exact ⟨h1,ay c h2⟩
  .obtain ⟨t0,ba⟩:=au c t ht
   exact h.inv.it c t0 ba
  .simp only [gc,Gh.callee] at ht
   split at ht
   .split at ht
    .cases ht;exact .inr (.inl ⟨_,rfl⟩)
    .cases ht;exact .inl ⟨_,rfl⟩
   .split at ht
    .cases ht;exact .inr (.inr ⟨_,rfl⟩)
    .cases ht;exact .inl ⟨_,rfl⟩
   .cases ht;exact .inl ⟨_,rfl⟩
   .cases ht
  .rw [Xd] at hx
   split at hx
   case isFalse=> cases hx
   rename_i hj
   have bc:=Q4 hj
   have bx:(args++Z2B st args)[j]?=some args[j]:=by rw [QH hj];exact bc
   have:=p6 toks (.refl _) (Jo os 0) ax av j v _ x bx hx (hargs.2 j v _ hv bc)
   have hl:Zbc XS=fun nm:Name=> match nm with | .x k=> (os[k]?).isSome | .loc _=> false:=by
    funext nm;cases nm <;> simp [Zbc,XS]
   rw [hl]
   exact this
  .simp only [XS] at hk
   rw [Qv] at hk
   cases hx:os[k]? with
   | none=> simp [hx] at hk
   | some x=>
    simp [hx] at hk
    subst hk
    obtain ⟨bt,h1,h2,h3⟩:=p5 k x hx (by simp)
    simp only [Zub,h1] at hj
    have am:j < bt.length:=by have:=(Q8.1 hj).1;rw [ZmO os _ _ h2] at this;omega
    obtain ⟨v,h4,h5,h6⟩:=h.mem x.1 bt h1 j _ (Q4 am)
    have bj:gc.ad (.x k)=g.ad x.1:=av k x hx
    rw [bj]
    refine ⟨v,h4,?_,?_⟩
    rotate_left
    .rcases ZiM os _ _ j _ c h2 (Q4 am) hj with hj1 | ⟨q,q',e0,hq,rfl⟩
     .exact h3 toks (.refl _) _ _ j v _ c (Q4 am) hj1 h6
     .rw [e0] at h6
      have e1:v= .pointer (some (g.ad (.x q))):=h6.2
      obtain ⟨y,_,hy,co⟩:=Z72 hq
      refine ⟨.xp _ _ h6.1.one,?_⟩
      show v= .pointer (some (ax q'))
      rw [av q' y (by simpa using hy),co,e1]
    have hn:Jo os 0 x.1=some k:=by have:=Zcr (k:=0) p3 hx rfl;simpa using this
    simp only [gc,Gh.callee,h5,hn]
  .have hx:ZE (fun _=> none) (Z0I st.ls toks (toks.map (·.2))) t=some x:=by
    cases hw:s.wr with
    | true=> rw [hw] at hx;exact hx
    | false=> rw [hw] at hx;cases hx
   obtain ⟨u,h5,h6,h7,h8⟩:=Z1j _ hx
   obtain ⟨_,hL⟩:=h.ls u x h7
   have ao:gc.bs t=g.bs u:=by simp only [gc,Gh.callee,h8,Xv,if_false,ZiV,h5]
   have bu:∀ c,g.tag c=some (.tok u)->gc.tag c=some (.tok t):=fun c hc=> by simp only [gc,Gh.callee,hc,h6]
   rcases hL with ⟨e1,e2⟩ | ⟨b,len,cap,e1,e2,e3,e4,e5,e6⟩
   .exact .inl ⟨ao.trans e1,e2⟩
   .refine .inr ⟨b,len,cap,ao.trans e1,e2,e3,e4,fun i y hy j c hc=> ?_,fun j a1 a2=> bu _ (e6 j a1 a2)⟩
    obtain ⟨v,e7,e8,e9,bg⟩:=e5 i y hy j c hc
    exact ⟨v,e7,e8,e9,fun hi=> bu _ (bg hi)⟩
 have bi:=bw (ys.take args.length) XS _ _ r xs L0 cr hps (by rw [b1];simp [XS]) w gc _ bb
 refine .inr (.inr ⟨f,(c.args.toList.map a.eval++caps).toArray,w,?_,Calls.mono bi ?_⟩)
 .have hb:fn.body.isNone=false:=by cases hfb:fn.body <;> simp_all
  simp only [execOp,ho,resolve,hc,hg,Deferred.ofValue,Sem.run_bind,Sem.run_pure,Result.andThen_ok,invoke,callFunc,run_program,cw]
  simp [ca,hb]
 .rintro e' w' ⟨v,g',rfl,L⟩
  refine ⟨v,rfl,g'.back os d g.ad L0 g.bs,?_⟩
  have c8:gc.m=g.m:=rfl
  have ae:∀ c t,g.tag c=some t->(∀ nm,t= .obj nm->Jo os 0 nm=none)->(∀ u,t= .tok u->YU toks u=none)->(g'.back os d g.ad L0 g.bs).tag c=some t/\w'.cell? c=w.cell? c:=by
   intro c t h1 h2 h3
   have:=L.fr.outer c t ((aw c t).2 ⟨h1,h2,h3⟩)
   exact ⟨by simp only [Gh.back,this.1],this.2⟩
  have bk:∀ c t,(g'.back os d g.ad L0 g.bs).tag c=some t->∃ t',g'.tag c=some t':=by
   intro c t ht
   simp only [Gh.back] at ht
   cases hgt:g'.tag c with
   | none=> simp [hgt] at ht
   | some t'=> exact ⟨t',rfl⟩
  have a9:∀ t,Zq st ({ val:=some (r.mapTok (Y2 d) (Z0X d L0) (Z8Y os)),mem:=m,kill:=toks.map (·.1),ls:=ll }:Eff U) t=false->st.dead t=false/\YU toks t=none:=by
   intro t ht
   simp only [Zq,QB] at ht
   refine ⟨ht.1,?_⟩
   cases hn:YU toks t with
   | none=> rfl
   | some t'=> have:=ZgE hn;rw [ht.2] at this;cases this
  have ak:Keeps g (g'.back os d g.ad L0 g.bs) st.dead (Zq st ({ val:=some (r.mapTok (Y2 d) (Z0X d L0) (Z8Y os)),mem:=m,kill:=toks.map (·.1),ls:=ll }:Eff U)) (fun nm=> (st.mem nm).isSome) (Yg st ({ val:=some (r.mapTok (Y2 d) (Z0X d L0) (Z8Y os)),mem:=m,kill:=toks.map (·.1),ls:=ll }:Eff U)):=by
   refine ⟨fun c v hv=> L.fr.mono c v hv,fun c t hd ht=> ?_,fun t ht=> (a9 t ht).1,fun nm hn=> ⟨?_,rfl⟩,fun t v _ hv=> by simp only [Gh.back,hv],fun _=> rfl⟩
   .exact (ae c _ ht (fun nm e=> by cases e) (fun u e=> by cases e;exact (a9 _ hd).2)).1
   .simp only [Yg]
    rcases Jd st.mem m nm with ⟨k,cs,_,h2⟩ | ⟨_,h2⟩
    .rw [h2];try rfl
    .rw [h2];exact hn
  have ao:∀ t t',Z0X d L0 t=some t'->g.bs t'=none:=by
   intro t t' hb
   unfold Z0X at hb
   cases hx:ZE (fun _=> none) L0 t with
   | none=> rw [hx] at hb;cases hb
   | some x=>
    rw [hx] at hb
    obtain ⟨t2,g1,g2,g3,_⟩:=q1 t x hx
    simp only at hb
    rw [hb] at g1
    cases g1
    refine h.fresh t' ?_ g2 g3
    unfold Y2 at hb
    split at hb
    .cases hb;rfl
    .split at hb
     .cases hb;rfl
     .cases hb
    .cases hb
  have b5:∀ k k',Z8Y os k=some k'->g'.ad (.x k)=g.ad (.x k'):=by
   intro k k' hk
   unfold Z8Y at hk
   split at hk
   .rename_i hx
    cases hk
    exact (L.ad k (a8 k)).trans (av k _ hx)
   .cases hk
  have b6:∀ t x,Z0o st.ls ({ val:=some (r.mapTok (Y2 d) (Z0X d L0) (Z8Y os)),mem:=m,kill:=toks.map (·.1),ls:=ll }:Eff U) t=some x->(toks.map (·.1)).contains t=false/\ZE st.ls ll t=some x:=by
   intro t x hx
   unfold Z0o at hx
   cases hk:(toks.map (·.1)).contains t with
   | true=> simp only [hk,cond_true,reduceCtorEq] at hx
   | false=> simp only [hk,cond_false] at hx;exact ⟨rfl,hx⟩
  refine ⟨⟨fun c v hv=> ?_,fun c t ht=> ?_⟩,?_,ak,?_,L.val.back ao b5,?_,?_⟩
  .obtain ⟨h1,h2⟩:=L.inv.im c v hv
   exact ⟨h1,by simp only [Gh.back,h2]⟩
  .obtain ⟨t',bh⟩:=bk c t ht
   exact L.inv.it c t' bh
  .refine ⟨h.fr.stay.trans L.fr.stay,h.fr.xad,fun c v hv=> L.fr.mono c v (h.fr.mono c v hv),fun c t ht=> ?_,fun c t ht=> ?_,fun b hb bp=> ?_,fun c hc=> (L.fr.frz c (QZ hc h.fr.stay.size)).trans (h.fr.frz c hc)⟩
   .obtain ⟨h1,h2⟩:=h.fr.outer c t ht
    obtain ⟨h3,h4⟩:=ae c _ h1 (fun nm e=> by cases e) (fun u e=> by cases e)
    exact ⟨h3,h4.trans h2⟩
   .simp only [Gh.back] at ht
    split at ht
    .rename_i t' bh
     cases ht
     have:=(aw c _).1 (L.fr.outer' c _ bh)
     exact h.fr.outer' c t this.1
    .cases hx:os[‹Nat›]? with
     | none=> simp [hx] at ht
     | some x=> simp [hx] at ht
    .cases hx:Y2 d ‹Tok› with
     | none=> simp [hx] at ht
     | some x=> simp [hx] at ht
    .cases ht
   .obtain ⟨h1,h2⟩:=h.fr.clean b hb bp
    have be:∀ o s t,g.tag ⟨b,o,s⟩=some t->∃ t',t= .outer t':=fun o s t ht=> bp o s t (by rw [<-h2];exact ht)
    have a7:∀ o s t,gc.tag ⟨b,o,s⟩=some t->∃ t',t= .outer t':=by
     intro o s t ht
     obtain ⟨t0,ba⟩:=au _ _ ht
     obtain ⟨t1,rfl⟩:=be o s t0 ba
     have:=(aw ⟨b,o,s⟩ (.outer t1)).2 ⟨ba,(fun nm e=> by cases e),(fun u e=> by cases e)⟩
     rw [ht] at this
     cases this
     exact ⟨_,rfl⟩
    obtain ⟨h3,h4⟩:=L.fr.clean b (QZ hb h.fr.stay.size) a7
    refine ⟨h3.trans h1,fun o s=> ?_⟩
    rw [<-h2 o s]
    have h5:g'.tag ⟨b,o,s⟩=gc.tag ⟨b,o,s⟩:=h4 o s
    cases hgt:g.tag ⟨b,o,s⟩ with
    | none=>
     simp only [Gh.back,h5,ay _ hgt]
    | some t=>
     obtain ⟨t1,rfl⟩:=be o s t hgt
     exact (ae _ _ hgt (fun nm e=> by cases e) (fun u e=> by cases e)).1
  .intro nm cs hm j cc hj
   rcases Jd st.mem m nm with ⟨k,cs',h1,h2⟩ | ⟨h1,h2⟩
   .rw [h2] at hm
    cases hm
    have hk:k < os.length:=by have:=(Q8.1 h1).1;omega
    have bm:os[k]?=some os[k]:=Q4 hk
    have bz:xs[k]?=some (xs[k]'JX):=Q4 _
    have h3:=b3 k _ _ bm bz
    rw [h1] at h3
    simp only [oP] at h3
    obtain ⟨rfl,rfl⟩:=h3
    rw [Qv] at hj
    cases am:(xs[k]'JX)[j]? with
    | none=> simp [am] at hj
    | some c0=>
     simp [am] at hj
     subst hj
     obtain ⟨v0,h4,h5,h6⟩:=L.x k _ bz j c0 am
     have bj:g'.ad (.x k)=g.ad os[k].1:=(L.ad k (a8 k)).trans (av k _ bm)
     rw [bj] at h4 h5
     refine ⟨v0,h4,?_,h6.back ao b5⟩
     show (g'.back os d g.ad L0 g.bs).tag ((g.ad os[k].1).add j)=_
     simp only [Gh.back,h5,bm,Qi]
   .rw [h2] at hm
    obtain ⟨v0,h4,h5,h6⟩:=h.mem nm cs hm j cc hj
    have hn:Jo os 0 nm=none:=Zdi (fun i x hx e=> by
     have hi:i < m.length:=by have:=(Q8.1 hx).1;omega
     have cx:xs[i]?=some (xs[i]'JX):=Q4 _
     exact h1 i _ (b3 i x _ hx cx) e) 0
    obtain ⟨h7,h8⟩:=ae _ _ h5 (fun dc e=> by cases e;exact hn) (fun u e=> by cases e)
    exact ⟨v0,h8.trans h4,h7,h6.keep ak⟩
  .intro t x hx
   obtain ⟨hk,hx⟩:=b6 t x hx
   rcases q2 t x hx with ⟨g1,_⟩ | ⟨t0,g1,g2,g3⟩
   .obtain ⟨g3,g4⟩:=h.ls t x g1
    have hd:Zq st ({ val:=some (r.mapTok (Y2 d) (Z0X d L0) (Z8Y os)),mem:=m,kill:=toks.map (·.1),ls:=ll }:Eff U) t=false:=by simp only [Zq,g3,hk,Xt]
    exact ⟨hd,g4.keep ak hd (fun c v hv=> (L.inv.im c v (L.fr.mono c v hv)).1) (fun c cn=> (ae c _ cn (fun nm e=> by cases e) (fun u e=> by cases e;exact (a9 _ hd).2)).2)⟩
   .have hd:Zq st ({ val:=some (r.mapTok (Y2 d) (Z0X d L0) (Z8Y os)),mem:=m,kill:=toks.map (·.1),ls:=ll }:Eff U) t=false:=by simp only [Zq,g3,hk,Xt]
    have cj:Z0X d L0 t0=some t:=by unfold Z0X;rw [g1];exact g2
    have bf:=ao _ _ cj
    have bq:(g'.back os d g.ad L0 g.bs).bs t=g'.bs t0:=by simp only [Gh.back,bf,Z3Z g2,g1]
    have br:∀ c,g'.tag c=some (.tok t0)->(g'.back os d g.ad L0 g.bs).tag c=some (.tok t):=by
     intro c hc
     simp only [Gh.back,hc,g2,Qi]
    refine ⟨hd,?_⟩
    rcases L.ls t0 x g1 with ⟨e1,e2⟩ | ⟨b,len,cap,e1,e2,e3,e4,e5,e6⟩
    .exact .inl ⟨bq.trans e1,e2⟩
    .refine .inr ⟨b,len,cap,bq.trans e1,e2,e3,e4,fun i y hy j c hc=> ?_,fun j a1 a2=> br _ (e6 j a1 a2)⟩
     obtain ⟨u,e7,e8,e9,bg⟩:=e5 i y hy j c hc
     exact ⟨u,e7,e8,e9,fun hi=> br _ (bg hi)⟩
  .intro t ht hn hd
   have ce:st.dead t=false:=(a9 t hd).1
   have hk:(toks.map (·.1)).contains t=false:=by simp only [Zq,QB] at hd;exact hd.2
   have bv:ZE st.ls ll t=none:=by
    unfold Z0o at hn
    simp only [hk,cond_false] at hn
    exact hn
   have b4:st.ls t=none:=by
    cases hx:st.ls t with
    | none=> rfl
    | some x=>
     exfalso
     have:∀ (l:List (Tok × LC U)),ZE st.ls l t=none->False:=by
      intro l
      induction l with
      | nil=> intro h;rw [ZE,hx] at h;cases h
      | cons y l ih=>
       obtain ⟨a,b⟩:=y
       intro h
       simp only [ZE] at h
       split at h
       .cases h
       .exact ih h
     exact this _ bv
   have bf:=h.fresh t ht b4 ce
   simp only [Gh.back,bf]
   cases hu:Z1O d t with
   | none=> rfl
   | some t'=>
    simp only
    cases hx:ZE (fun _=> none) L0 t' with
    | none=> rfl
    | some x=>
     simp only
     obtain ⟨t2,g1,g2,g3,g4⟩:=q1 t' x hx
     cases hg:g'.bs t' with
     | none=> rfl
     | some v=>
      exfalso
      have:t2=t:=by
       cases t with
       | r d' m=>
        simp only [Z1O] at hu
        split at hu
        .rename_i e
         subst e
         split at hu
         .cases hu
          simp only [Y2,Option.some.injEq] at g1
          rw [<-g1];congr 1;omega
         .cases hu
          simp only [Y2] at g1
          split at g1
          .cases g1;congr 1;omega
          .cases g1
        .cases hu
       | _=> simp [Z1O] at hu
      subst this
      rw [bv] at g4
      cases g4
def ZdV(st:FSt U)(g:Gh)(c:Addr):Bool:=
 match g.tag c with
 | some (.tok t)=> (st.ls t).isSome
 | _=> false
def Gh.lendG(g:Gh)(st:FSt U)(w:World):Gh:=
 {m:=fun c=> if ZdV st g c=true then w.cell? c else g.m c
  tag:=fun c=> if ZdV st g c=true then none else (g.tag c).map .outer
  ad:=g.ad
  bs:=fun _=> none }
theorem Zyl{c:Addr}(h:ZdV st g c=true):∃ t x,g.tag c=some (.tok t)/\st.ls t=some x:=by
 unfold ZdV at h
 split at h
 .rename_i t s
  cases hx:st.ls t with
  | none=> grind
  | some x=> grind
 .cases h
theorem Zym{c:Addr}(h:∀ t,g.tag c≠some (.tok t)):ZdV st g c=false:=by
 cases hc:ZdV st g c with
 | false=> rfl
 | true=> obtain ⟨t,_,s,_⟩:=Zyl hc;grind
theorem Zyn(h:Inv g.m g.tag w){c:Addr}{v:Value}(hv:g.m c=some v):(g.lendG st w).m c=some v:=by
 have:ZdV st g c=false:=Zym fun t e=> by rw [(h.im c v hv).2] at e;cases e
 simp only [Gh.lendG,this,Xv,if_false,hv]
theorem Zop{c:Addr}{t:Tag}(ht:g.tag c=some t)(hc:ZdV st g c=false):(g.lendG st w).tag c=some (.outer t):=by
 simp only [Gh.lendG,hc,Xv,if_false,ht,Qi]
theorem ZEt(h:Rel cfg B st g a w){v:Value}{c:C U}(hr:RelC cfg g st.dead v c):RelC cfg (g.lendG st w) ZU v (c.lend st):=by
 have hm:=fun c v hv=> Zyn (st:=st) (w:=w) h.inv (c:=c) (v:=v) hv
 cases c with
 | slice T l tl=> cases tl with
  | unk=> exact ⟨hr.1.mono hm,trivial⟩
  | full=> exact ⟨hr.1.mono hm,hr.2⟩
  | own u=> exact ⟨(hr.1.tl .unk).mono hm,trivial⟩
 | mref t=>
  simp only [C.lend]
  cases hx:st.ls t with
  | none=> exact ⟨.jk _ hr.1.one,trivial⟩
  | some x=>
   obtain ⟨hd,hL⟩:=h.ls t x hx
   obtain ⟨s,hs⟩:=hr.2 hd
   refine ⟨?_,trivial⟩
   rcases hL with ⟨e1,e2,_⟩ | ⟨b,len,cap,e1,e2,e3,e4,e5,_⟩
   .rw [hs] at e1
    cases e1
    obtain ⟨T,l,f⟩:=x
    simp only at e2
    subst e2
    exact .snil T _
   .rw [hs] at e1
    cases e1
    refine .of_rows _ e2 e3 fun i y hy j c hc=> ?_
    obtain ⟨u,e7,e8,e9,ab⟩:=e5 i y hy j c hc
    refine ⟨u,?_,e8.mono hm⟩
    rcases XG i x.f with hi | hi
    .grind
    .simp only [Gh.lendG,ZdV,ab hi,hx,Option.isSome_some,if_true]
     exact e7
 | jk=> exact ⟨.jk _ hr.1.one,trivial⟩
 | xp k=> exact ⟨.jk _ hr.1.one,trivial⟩
 | int k n=> exact ⟨hr.1.mono hm,trivial⟩
 | bool b=> exact ⟨hr.1.mono hm,trivial⟩
 | nils=> exact ⟨hr.1.mono hm,trivial⟩
 | nilp=> exact ⟨hr.1.mono hm,trivial⟩
 | po T o=> exact ⟨hr.1.mono hm,trivial⟩
theorem ZKn(h:Rel cfg B st g a w){live:Name->Bool}{v:Value}{x x':V U}(hr:RelV cfg g st.dead live v x)(hx:x.lend st=some x'):RelV cfg (g.lendG st w) ZU (Zbc ([]:List (List (C U)))) v x':=by
 cases x with
 | c y=> cases hx;exact ZEt h (c:=y) hr
 | agg cs=>
  cases hx
  obtain ⟨vs,h1,h2,h3⟩:=hr
  refine ⟨vs,h1,by simp [h2],fun j u c s hc=> ?_⟩
  rw [Qv] at hc
  cases hj:cs[j]? with
  | none=> grind
  | some c0=>
   simp [hj] at hc
   subst hc
   exact ZEt h (h3 j u c0 s hj)
 | fn f=> cases hx;exact hr
 | _=> cases hx
theorem Zoq {Γ:Known U} (hΓ:∀ f s,Γ f=some s->Contract P cfg f s) (h:Rel cfg B st g a w) {o:Oper} {c:Call} {gx:Operand} {f:FuncId} {args:List (V U)} {ps:List Prop} {e:Eff U}
  (ho:o.op= .call c) (hc:c.callee= .value gx) (hg:a.eval gx= .func (.func f) #[] #[])
  (hargs:c.args.toList.length=args.length/\∀ (j:Nat) u x,(c.args.toList.map a.eval)[j]?=some u->args[j]?=some x->RelV cfg g st.dead (fun nm=> (st.mem nm).isSome) u x)
  (he:Zj4 Γ st f args=some (ps,e)) (hps:All ps):
  Does P o a w fun v w'=> ∃ g',Out cfg B st g e v w' g':=by
 unfold Zj4 at he
 split at he
 case h_2=> cases he
 rename_i s vs hs ar
 have a5:∃ c0:C U,s.fn2 vs [] []=some (ps,.c c0,[],[])/\e={ val:=some (.c c0) }/\∀ (g1 g2:Gh) (d1 d2:Tok->Bool) v,RelC cfg g1 d1 v c0->RelC cfg g2 d2 v c0:=by
  split at he
  .rename_i k n ah
   simp only [oP] at he
   obtain ⟨rfl,rfl⟩:=he
   exact ⟨_,ah,rfl,fun g1 g2 d1 d2 v hr=> by have:=hr.1;cases this;exact ⟨.int _ _,trivial⟩⟩
  .rename_i b ah
   simp only [oP] at he
   obtain ⟨rfl,rfl⟩:=he
   exact ⟨_,ah,rfl,fun g1 g2 d1 d2 v hr=> by have:=hr.1;cases this;exact ⟨.bool _,trivial⟩⟩
  .cases he
 obtain ⟨c0,ah,rfl,a6⟩:=a5
 obtain ⟨⟨fn,a1,be,ay⟩,av⟩:=hΓ f s hs
 have ba:vs.length=args.length:=mapM_lend_len ar
 have aj:Entry cfg w (g.lendG st w) (c.args.toList.map a.eval) vs [] []:=by
  refine ⟨⟨fun c v hv=> ?_,fun c t ht=> ?_⟩,fun c t ht=> ?_,by grind,fun j v x hv hx=> ?_,fun k cs hk=> by simp at hk,fun t ht=> rfl,fun t x hx=> by cases hx⟩
  .simp only [Gh.lendG] at hv ⊢
   split at hv
   .grind
   .rename_i hl
    obtain ⟨h1,h2⟩:=h.inv.im c v hv
    grind
  .simp only [Gh.lendG] at ht
   split at ht
   .cases ht
   .cases hgt:g.tag c with
    | none=> grind
    | some t0=> exact h.inv.it c t0 hgt
  .simp only [Gh.lendG] at ht
   split at ht
   .cases ht
   .cases hgt:g.tag c with
    | none=> grind
    | some t0=> grind
  .obtain ⟨x0,h1,h2⟩:=mapM_lend ar j x hx
   exact ZKn h (hargs.2 j v x0 hv h1) h2
 have ao:=av vs [] [] _ _ [] [] ah hps (QG _) w (g.lendG st w) _ aj
 refine .inr (.inr ⟨f,(c.args.toList.map a.eval).toArray,w,?_,Calls.mono ao ?_⟩)
 .have hb:fn.body.isNone=false:=by cases hfb:fn.body <;> simp_all
  simp only [execOp,ho,resolve,hc,hg,Deferred.ofValue,Sem.run_bind,Sem.run_pure,Result.andThen_ok,invoke,callFunc,run_program,a1]
  simp [ay,hb]
  apply Xn
  simp
 .rintro e' w' ⟨v,g',rfl,L⟩
  refine ⟨v,rfl,g,?_⟩
  have bb:∀ c t,g.tag c=some t->ZdV st g c=false->w'.cell? c=w.cell? c:=fun c t ht hl=> (L.fr.outer c _ (Zop (w:=w) ht hl)).2
  have a4:∀ c v,w.cell? c=some v->ZdV st g c=true->w'.cell? c=some v:=by
   intro c v hv hl
   have:(g.lendG st w).m c=some v:=by simp only [Gh.lendG,hl,if_true,hv]
   exact (L.inv.im c v (L.fr.mono c v this)).1
  have au:∀ c v,g.m c=some v->w'.cell? c=some v:=fun c v hv=> (L.inv.im c v (L.fr.mono c v (Zyn h.inv hv))).1
  have al:∀ c t,g.tag c=some t->w'.cell? c=w.cell? c:=by
   intro c t ht
   cases hl:ZdV st g c with
   | false=> grind
   | true=>
    obtain ⟨_,v,hv⟩:=h.inv.it c t ht
    grind
  have ai:Zq st ({ val:=some (.c c0) }:Eff U)=st.dead:=by funext t;simp [Zq]
  refine ⟨⟨fun c v hv=> ⟨au c v hv,(h.inv.im c v hv).2⟩,fun c t ht=> ?_⟩,?_,by rw [ai];exact .refl _ _ _,?_,?_,?_,?_⟩
  .obtain ⟨h1,v,h2⟩:=h.inv.it c t ht
   exact ⟨(L.fr.frz c (h.inv.lt ht)).trans h1,v,(al c t ht).trans h2⟩
  .refine ⟨h.fr.stay.trans L.fr.stay,h.fr.xad,h.fr.mono,fun c t ht=> ?_,h.fr.outer',fun b hb ax=> ?_,fun c hc=> (L.fr.frz c (QZ hc h.fr.stay.size)).trans (h.fr.frz c hc)⟩
   .obtain ⟨h1,h2⟩:=h.fr.outer c t ht
    grind
   .obtain ⟨h1,h2⟩:=h.fr.clean b hb ax
    refine ⟨(L.fr.clean b (QZ hb h.fr.stay.size) fun o s t ht=> ?_).1.trans h1,h2⟩
    simp only [Gh.lendG] at ht
    split at ht
    .cases ht
    .cases hgt:g.tag ⟨b,o,s⟩ with
     | none=> grind
     | some t0=> grind
  .rw [ai]
   intro nm cs hm j cc hj
   obtain ⟨v0,h4,h5,h6⟩:=h.mem nm cs hm j cc hj
   grind
  .rw [ai]
   exact a6 _ _ _ _ _ L.val
  .intro t x hx
   rw [ai]
   have hx:st.ls t=some x:=by simpa [Z0o,ZE] using hx
   obtain ⟨h1,h2⟩:=h.ls t x hx
   exact ⟨h1,h2.keep (.refl g st.dead (fun _=> true)) h1 au fun c a0=> al c _ a0⟩
  .intro t h0 h7 h8
   rw [ai] at h8
   exact h.fresh t h0 (by trivial) h8
where
 mapM_lend_len {xs:List (V U)} {vs:List (V U)} (hm:xs.mapM (V.lend st)=some vs):vs.length=xs.length:=by
  induction xs generalizing vs with
  | nil=> grind
  | cons y xs ih=>
   rw [X7] at hm
   cases h1:V.lend st y with
   | none=> grind
   | some v=>
    cases h2:xs.mapM (V.lend st) with
    | none=> grind
    | some r=>
     simp [h1,h2] at hm
     grind
 mapM_lend {xs:List (V U)} {vs:List (V U)} (hm:xs.mapM (V.lend st)=some vs) (j:Nat) (x:V U) (hx:vs[j]?=some x):∃ x0,xs[j]?=some x0/\x0.lend st=some x:=by
  induction xs generalizing vs j with
  | nil=> grind
  | cons y xs ih=>
   rw [X7] at hm
   cases h1:V.lend st y with
   | none=> grind
   | some v=>
    cases h2:xs.mapM (V.lend st) with
    | none=> simp [h1,h2] at hm
    | some r=>
     grind
theorem Zmq{α β:Type}{f:α->Option β}:∀ {xs:List α} {ys:List β},xs.mapM f=some ys->ys.length=xs.length/\∀ (j:Nat) y,ys[j]?=some y->∃ x,xs[j]?=some x/\f x=some y
 | [],ys,h=> by grind
 | x ::xs,ys,h=> by
  rw [X7] at h
  cases h1:f x with
  | none=> simp [h1] at h
  | some v=>
   cases h2:xs.mapM f with
   | none=> grind
   | some r=>
    simp [h1,h2] at h
    subst h
    obtain ⟨s,u⟩:=Zmq h2
    grind
theorem Zzn{g2:Gh}{dead:Tok->Bool}(hm:g2.m=g.m){v:Value}{c:C U}(h:RelC cfg g dead v c):RelC cfg g2 ZU v c.bare:=by
 cases c with
 | slice T l tl=> exact ⟨by rw [hm];exact h.1.tl _,trivial⟩
 | mref t=> exact ⟨.jk _ h.1.one,trivial⟩
 | xp k=> exact ⟨.jk _ h.1.one,trivial⟩
 | _=> exact ⟨by rw [hm];exact h.1,trivial⟩
theorem ZKG{g2:Gh}{dead:Tok->Bool}{live l2:Name->Bool}(hm:g2.m=g.m){v:Value}{x x':V U}(h:RelV cfg g dead live v x)(hx:x.bare=some x'):RelV cfg g2 ZU l2 v x':=by
 cases x with
 | c y=> cases hx;exact Zzn hm (c:=y) h
 | agg cs=>
  cases hx
  obtain ⟨vs,h1,h2,h3⟩:=h
  refine ⟨vs,h1,by simp [h2],fun j u c s hc=> ?_⟩
  rw [Qv] at hc
  cases hj:cs[j]? with
  | none=> grind
  | some c0=>
   simp [hj] at hc
   subst hc
   exact Zzn hm (h3 j u c0 s hj)
 | fn f=> cases hx;exact h
 | _=> cases hx
theorem RelC.plain{g1 g2:Gh}{d1 d2:Tok->Bool}{v:Value}{c:C U}(hm:g2.m=g1.m)(hc:c.plain=true)(h:RelC cfg g1 d1 v c):RelC cfg g2 d2 v c:=by
 refine ⟨by rw [hm];exact h.1,?_⟩
 cases c with
 | slice T l tl=> cases tl <;> first | trivial | cases hc
 | mref t=> cases hc
 | xp k=> cases hc
 | _=> trivial
theorem Zn6{ax:Nat->Addr}{xs ys:List (V U)}{os:List (Name × List (C U))}(hb:Z5f st xs=some (ys,os))(hax:∀ (k:Nat) x,os[k]?=some x->ax k=g.ad x.1):
  os.length<=1/\ys.length=xs.length/\(∀ (k:Nat) x,os[k]?=some x->∃ cs,st.mem x.1=some cs/\x.2=cs.map C.bare)/\
  ∀ (j:Nat) v x y,xs[j]?=some x->ys[j]?=some y->RelV cfg g st.dead (fun nm=> (st.mem nm).isSome) v x->RelV cfg (g.callee (Jo os 0) [] ax) ZU (Zbc (os.map (·.2))) v y:=by
 unfold Z5f at hb
 split at hb
 .rename_i nm
  split at hb
  .rename_i cs aa
   cases hb
   refine ⟨Qb _,rfl,fun k x h=> ?_,fun j v x y h s hr=> ?_⟩
   .have:k=0:=by have:=(Q8.1 h).1;simp at this;exact this
    subst this
    simp at h
    subst h
    exact ⟨cs,aa,rfl⟩
   .have:j=0:=by have:=(Q8.1 h).1;simp at this;exact this
    subst this
    simp at h s
    subst h s
    have e:ax 0=g.ad nm:=hax 0 _ rfl
    refine ⟨rfl,?_⟩
    have h2:v= .pointer (some ((g.ad nm).add 0)):=hr.2
    rw [h2,<-e]
    try rfl
  .cases hb
 .split at hb
  .rename_i vs u
   cases hb
   obtain ⟨h1,h2⟩:=Zmq u
   refine ⟨QG _,h1,fun k x h=> by simp at h,fun j v x y h s hr=> ?_⟩
   obtain ⟨x0,h3,h4⟩:=h2 j y s
   rw [h] at h3
   cases h3
   exact ZKG (g:=g) (g2:=g.callee (Jo [] 0) [] ax) rfl hr h4
  .cases hb
theorem ZtH {Γ:Known U} (hΓ:∀ f s,Γ f=some s->Contract P cfg f s) (h:Rel cfg B st g a w) {o:Oper} {c:Call} {gx:Operand} {f:FuncId} {args:List (V U)} {ps:List Prop} {e:Eff U} {d:Nat}
  (ho:o.op= .call c) (hc:c.callee= .value gx) (hg:a.eval gx= .func (.func f) #[] #[])
  (hargs:c.args.toList.length=args.length/\∀ (j:Nat) u x,(c.args.toList.map a.eval)[j]?=some u->args[j]?=some x->RelV cfg g st.dead (fun nm=> (st.mem nm).isSome) u x)
  (he:ZuE Γ st d f args=some (ps,e)) (hps:All ps):
  Does P o a w fun v w'=> ∃ g',Out cfg B st g e v w' g':=by
 unfold ZuE at he
 split at he
 case h_2=> cases he
 rename_i s vs os hs br
 split at he
 case h_2=> cases he
 rename_i ce k xs bx
 split at he
 case isFalse=> cases he
 rename_i be
 simp only [Q6,QD,QO,Nat.beq_eq] at be
 obtain ⟨⟨⟨hk,b7⟩,bn⟩,hn⟩:=be
 subst hk
 simp only [oP] at he
 obtain ⟨rfl,rfl⟩:=he
 obtain ⟨⟨fn,b0,cg,bl⟩,bg⟩:=hΓ f s hs
 let ax:Nat->Addr:=fun k=> ((os[k]?).map fun x=> g.ad x.1).getD ⟨0,0,none⟩
 have a4:∀ (k:Nat) x,os[k]?=some x->ax k=g.ad x.1:=fun k x hx=> by simp [ax,hx]
 obtain ⟨ch,bd,bf,ao⟩:=Zn6 (cfg:=cfg) br a4
 have bu:Znf os:=fun i j x y hx hy _=> by have:=(Q8.1 hx).1;have:=(Q8.1 hy).1;omega
 let gc:=g.callee (Jo os 0) [] ax
 let nms:=os.map (·.1)++[Name.loc d]
 have aq:∀ c t,gc.tag c=some (.outer t)↔(g.tag c=some t/\(∀ nm,t= .obj nm->Jo os 0 nm=none)/\(∀ u,t= .tok u->YU [] u=none)):=fun c t=> Zhj
 have a0:Entry cfg w gc (c.args.toList.map a.eval) vs (os.map (·.2)) []:=by
  refine ⟨⟨fun c v hv=> ?_,fun c t ht=> ?_⟩,fun c t ht=> ?_,by rw [X3,hargs.1,bd],fun j v x hv hx=> ?_,fun k cs hk j c hj=> ?_,fun t ht=> (by simp only [gc,Gh.callee,ht,if_true]),fun t x hx=> by cases hx⟩
  .obtain ⟨h1,h2⟩:=h.inv.im c v hv
   exact ⟨h1,Z7q h2⟩
  .obtain ⟨t0,az⟩:=Z7p ht
   exact h.inv.it c t0 az
  .simp only [gc,Gh.callee] at ht
   split at ht
   .split at ht
    .cases ht;exact .inr (.inl ⟨_,rfl⟩)
    .cases ht;exact .inl ⟨_,rfl⟩
   .split at ht
    .cases ht;exact .inr (.inr ⟨_,rfl⟩)
    .cases ht;exact .inl ⟨_,rfl⟩
   .cases ht;exact .inl ⟨_,rfl⟩
   .cases ht
  .have hj:j < args.length:=by have:=(Q8.1 hx).1;omega
   exact ao j v _ x (Q4 hj) hx (hargs.2 j v _ hv (Q4 hj))
  .rw [Qv] at hk
   cases hx:os[k]? with
   | none=> simp [hx] at hk
   | some x=>
    simp [hx] at hk
    subst hk
    obtain ⟨a1,h1,h2⟩:=bf k x hx
    rw [h2,Qv] at hj
    cases hj0:a1[j]? with
    | none=> simp [hj0] at hj
    | some c0=>
     simp [hj0] at hj
     subst hj
     obtain ⟨v,h4,h5,h6⟩:=h.mem x.1 a1 h1 j _ hj0
     have al:gc.ad (.x k)=g.ad x.1:=a4 k x hx
     have b1:Jo os 0 x.1=some k:=by have:=Zcr (k:=0) bu hx rfl;simpa using this
     rw [al]
     exact ⟨v,h4,by simp only [gc,Gh.callee,h5,b1],Zzn (g:=g) (g2:=gc) rfl h6⟩
 have a5:=bg vs (os.map (·.2)) [] _ _ xs [] bx hps (by rw [X3];omega) w gc _ a0
 refine .inr (.inr ⟨f,(c.args.toList.map a.eval).toArray,w,?_,Calls.mono a5 ?_⟩)
 .have hb:fn.body.isNone=false:=by cases hfb:fn.body <;> simp_all
  simp only [execOp,ho,resolve,hc,hg,Deferred.ofValue,Sem.run_bind,Sem.run_pure,Result.andThen_ok,invoke,callFunc,run_program,b0]
  simp [bl,hb]
  apply Xn
  simp
 .rintro e' w' ⟨v,g',rfl,L⟩
  let g1:Gh:={ m:=g'.m,tag:=fun c=> (match g'.tag c with | some (.outer t)=> some t | some (.obj (.x k))=> (nms[k]?).map .obj | _=> none),ad:=fun nm=> if nm= .loc d then g'.ad (.x os.length) else g.ad nm,bs:=g.bs }
  have b6:gc.m=g.m:=rfl
  have af:∀ c t,g.tag c=some t->(∀ nm,t= .obj nm->Jo os 0 nm=none)->g1.tag c=some t/\w'.cell? c=w.cell? c:=by
   intro c t h1 h2
   have:=L.fr.outer c t ((aq c t).2 ⟨h1,h2,fun u _=> rfl⟩)
   exact ⟨by simp only [g1,this.1],this.2⟩
  have bo:∀ c t,g1.tag c=some t->∃ t',g'.tag c=some t':=by
   intro c t ht
   simp only [g1] at ht
   cases hgt:g'.tag c with
   | none=> simp [hgt] at ht
   | some t'=> exact ⟨t',rfl⟩
  have al:∀ nm,nm≠.loc d->g1.ad nm=g.ad nm:=fun nm a3=> by simp only [g1,if_neg a3]
  have bp:∀ (k:Nat) x,os[k]?=some x->g'.ad (.x k)=g.ad x.1:=fun k x hx=> by
   have hk:=(Q8.1 hx).1
   exact (L.ad k (fun e=> by cases e;omega)).trans (a4 k x hx)
  have bq:∀ (k:Nat) x,os[k]?=some x->x.1≠.loc d:=fun k x hx e=> by
   obtain ⟨a1,h1,_⟩:=bf k x hx
   rw [e,hn] at h1
   cases h1
  have hz:∀ (k:Nat) nm cs,(nms.zip xs)[k]?=some (nm,cs)->nms[k]?=some nm/\xs[k]?=some cs:=fun k nm cs hk=> by
   rw [XO] at hk
   exact hk
  have aw:Zq st ({ val:=some (.ptr (.loc d) 0),mem:=nms.zip xs }:Eff U)=st.dead:=by funext t;simp [Zq]
  have ai:Keeps g g1 st.dead st.dead (fun nm=> (st.mem nm).isSome) (Yg st ({ val:=some (.ptr (.loc d) 0),mem:=nms.zip xs }:Eff U)):=by
   refine ⟨fun c v hv=> L.fr.mono c v hv,fun c t hd ht=> (af c _ ht fun nm e=> by cases e).1,fun t ht=> ht,fun nm hl=> ⟨?_,al nm fun e=> ?_⟩,fun t v _ hv=> hv,fun k=> al _ (by simp)⟩
   .simp only [Yg]
    rcases Jd st.mem (nms.zip xs) nm with ⟨k,cs,_,h2⟩ | ⟨_,h2⟩
    .rw [h2];try rfl
    .rw [h2];exact hl
   .subst e
    simp [hn] at hl
  have a6:(nms.zip xs)[os.length]?=some (.loc d,xs[os.length]'JX):=by
   rw [XO]
   exact ⟨by simp [nms],Q4 _⟩
  refine ⟨v,rfl,g1,⟨fun c v hv=> ?_,fun c t ht=> ?_⟩,?_,by rw [aw];exact ai,?_,?_,?_,?_⟩
  .obtain ⟨h1,h2⟩:=L.inv.im c v hv
   exact ⟨h1,by simp only [g1,h2]⟩
  .obtain ⟨t',a2⟩:=bo c t ht
   exact L.inv.it c t' a2
  .refine ⟨h.fr.stay.trans L.fr.stay,fun k=> (al _ (by simp)).trans (h.fr.xad k),fun c v hv=> L.fr.mono c v (h.fr.mono c v hv),fun c t ht=> ?_,fun c t ht=> ?_,fun b hb bc=> ?_,fun c hc=> (L.fr.frz c (QZ hc h.fr.stay.size)).trans (h.fr.frz c hc)⟩
   .obtain ⟨h1,h2⟩:=h.fr.outer c t ht
    obtain ⟨h3,h4⟩:=af c _ h1 (fun nm e=> by cases e)
    exact ⟨h3,h4.trans h2⟩
   .simp only [g1] at ht
    split at ht
    .rename_i t' a2
     cases ht
     exact h.fr.outer' c t ((aq c _).1 (L.fr.outer' c _ a2)).1
    .cases hx:nms[‹Nat›]? with
     | none=> simp [hx] at ht
     | some x=> simp [hx] at ht
    .cases ht
   .obtain ⟨h1,h2⟩:=h.fr.clean b hb bc
    have ao:∀ o s t,g.tag ⟨b,o,s⟩=some t->∃ t',t= .outer t':=fun o s t ht=> bc o s t (by rw [<-h2];exact ht)
    have au:∀ o s t,gc.tag ⟨b,o,s⟩=some t->∃ t',t= .outer t':=by
     intro o s t ht
     obtain ⟨t0,az⟩:=Z7p ht
     obtain ⟨t1,rfl⟩:=ao o s t0 az
     have:=(aq ⟨b,o,s⟩ (.outer t1)).2 ⟨az,(fun nm e=> by cases e),(fun u e=> by cases e)⟩
     rw [ht] at this
     cases this
     exact ⟨_,rfl⟩
    obtain ⟨h3,h4⟩:=L.fr.clean b (QZ hb h.fr.stay.size) au
    refine ⟨h3.trans h1,fun o s=> ?_⟩
    rw [<-h2 o s]
    have h5:g'.tag ⟨b,o,s⟩=gc.tag ⟨b,o,s⟩:=h4 o s
    cases hgt:g.tag ⟨b,o,s⟩ with
    | none=>
     have h6:gc.tag ⟨b,o,s⟩=none:=Z7q hgt
     simp only [g1,h5,h6]
    | some t=>
     obtain ⟨t1,rfl⟩:=ao o s t hgt
     exact (af _ _ hgt (fun nm e=> by cases e)).1
  .rw [aw]
   intro nm ay hm j cc hj
   rcases Jd st.mem (nms.zip xs) nm with ⟨k,cs,h1,h2⟩ | ⟨h1,h2⟩
   .rw [h2] at hm
    cases hm
    obtain ⟨aj,bh⟩:=hz k nm ay h1
    obtain ⟨v0,h4,h5,h6⟩:=L.x k ay bh j cc hj
    have h7:RelC cfg g1 st.dead v0 cc:=RelC.plain (g1:=g') (g2:=g1) rfl (bn ay (QS bh) cc (QS hj)) h6
    have h8:g1.ad nm=g'.ad (.x k):=by
     rcases XG k os.length with hk | hk
     .have a9:os[k]?=some os[k]:=Q4 hk
      have e:nm=os[k].1:=by simp only [nms] at aj;rw [QH (by simpa using hk),List.getElem?_map,a9] at aj;simpa using aj.symm
      rw [e,al _ (bq k _ a9),bp k _ a9]
     .have b2:k=os.length:=by have:=(Q8.1 aj).1;simp [nms] at this;omega
      subst b2
      have e:nm= .loc d:=by simp [nms] at aj;exact aj.symm
      rw [e]
      simp only [g1,if_true]
    rw [h8]
    exact ⟨v0,h4,by simp only [g1,h5,aj,Qi],h7⟩
   .rw [h2] at hm
    obtain ⟨v0,h4,h5,h6⟩:=h.mem nm ay hm j cc hj
    have bz:Jo os 0 nm=none:=Zdi (fun i x hx e=> by
     have hi:=(Q8.1 hx).1
     have h9:(nms.zip xs)[i]?=some (nm,xs[i]'JX):=by
      rw [XO]
      refine ⟨?_,Q4 _⟩
      simp only [nms]
      rw [QH (by simpa using hi),List.getElem?_map,hx,<-e]
      try rfl
     exact h1 i _ h9 rfl) 0
    obtain ⟨h7,h8⟩:=af _ _ h5 (fun b9 e=> by cases e;exact bz)
    have a3:nm≠.loc d:=fun e=> by subst e;rw [hn] at hm;cases hm
    rw [al nm a3]
    exact ⟨v0,h8.trans h4,h7,h6.keep ai⟩
  .have hv:v= .pointer (some ((g'.ad (.x os.length)).add 0)):=L.val.2
   refine ⟨?_,?_⟩
   .simp only [Yg]
    rcases Jd st.mem (nms.zip xs) (.loc d) with ⟨k,cs,_,h2⟩ | ⟨h1,_⟩
    .rw [h2];try rfl
    .exact absurd rfl (h1 _ _ a6)
   .rw [hv]
    simp only [g1,if_true]
  .intro t x hx
   rw [aw]
   have hx:st.ls t=some x:=by simpa [Z0o,ZE] using hx
   obtain ⟨h1,h2⟩:=h.ls t x hx
   exact ⟨h1,h2.keep ai h1 (fun c v hv=> (L.inv.im c v (L.fr.mono c v hv)).1) fun c bt=> (af c _ bt fun nm e=> by cases e).2⟩
  .intro t h0 h7 h8
   rw [aw] at h8
   exact h.fresh t h0 (by trivial) h8
end Go.AM
