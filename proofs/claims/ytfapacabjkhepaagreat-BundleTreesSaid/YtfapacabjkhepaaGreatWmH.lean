import Derived.Test.YtfapacabjkhepaaGreatWmF
set_option linter.unusedSimpArgs false
set_option linter.unusedVariables false
namespace Go.AM
variable {U:Uni} {P:Program} {cfg:Cfg U} {B:Base} {st:FSt U} {g:Gh} {a:Act} {w:World}
theorem RelL.sim{vs:List Value}{cs:List (C U)}{dead:Tok->Bool}(h:RelL cfg g dead vs cs){j:Nat}{v:Value}{c:C U}(hv:vs[j]?=some v)(hc:cs[j]?=some c):SimC cfg g.m v c:=(h.2 j v c hv hc).1
theorem Zak (ok:CfgOk P cfg) {T:U.Ty} {cs:List (C U)} {x:U.El T} {vs:List Value} {m:Addr->Option Value} (hd:cfg.dec T cs=some x) (hl:vs.length=cs.length)
  (h:∀ (j:Nat) v c,vs[j]?=some v->cs[j]?=some c->SimC cfg m v c):
  vs.length=cfg.sz T/\∀ (j:Nat) c,(cfg.enc T x)[j]?=some c->∃ v,vs[j]?=some v/\SimC cfg m v c:=by
 obtain ⟨h1,u⟩:=ok.dec_ok T cs x hd
 have h3:=ok.enc_len T x
 refine ⟨V0,fun j c hc=> ?_⟩
 have hj:j < (cfg.enc T x).length:=(Q4.1 hc).1
 have s:vs[j]?=some (vs[j]'V0):=Q2 _
 have d:cs[j]?=some (cs[j]'V0):=Q2 _
 exact ⟨_,s,(h j _ _ s d).wk (u j _ _ d hc)⟩
theorem Z5L (h:Rel cfg B st g a w) {w1:World} (hw:SameHeap w w1) {T:U.Ty} {l:List (U.El T)} {arr:Array Value} (e:TypeId) {cap:Nat} {tl:Tail} {d:Nat} {kl:List Tok}
  (hcap:l.length<=cap) (hsz:arr.size=cap*cfg.sz T) (htl:tl= .own (.r d 0)\/(tl= .full/\l.length=cap)) (henc:∀ x,(cfg.enc T x).length=cfg.sz T)
  (hrows:∀ i x,l[i]?=some x->∀ j c,(cfg.enc T x)[j]?=some c->∃ v,arr[i*cfg.sz T+j]?=some v/\SimC cfg g.m v c):
  ∃ g',Out cfg B st g { val:=some (.c (.slice T l tl)),kill:=kl } (.slice (some ⟨w.heap.size,0,none⟩) l.length cap) (w1.alloc (.cells arr e)) g':=by
 let im:Nat->Bool:=fun i=> decide (i < l.length*cfg.sz T)
 let tg:Nat->Option Tag:=fun i=> if l.length*cfg.sz T<=i/\i < arr.size then some (.tok (.r d 0)) else none
 obtain ⟨h1,h2,h3,h4,h5⟩:=Zlw h hw arr e im tg g.ad (by
  grind) (fun _ _=> rfl) (fun _=> rfl)
 refine ⟨g.new w.heap.size arr im tg g.ad,h1,h2,?_,?_,?_,h.ls_keep rfl (h3 kl.contains _ (fun nm s=> s)) (fun c v u=> h5 _ _ (h.inv.im c v u).1) (fun c t _ ht=> by obtain ⟨_,v,u⟩:=h.inv.it c _ ht;grind),h.fresh_keep rfl (fun _=> rfl)⟩
 .exact h3 kl.contains _ (fun nm s=> s)
 .have k:=h3 kl.contains (fun nm=> (st.mem nm).isSome) (fun _ s=> s)
  intro nm cs hm j c hj
  refine ZhG h k h5 ?_ nm cs hm j c hj
  intro c t ht
  have:=h.inv.lt ht
  simp only [Gh.new]
  grind
 .have k:=h3 kl.contains (fun nm=> (st.mem nm).isSome) (fun _ s=> s)
  refine ⟨.of_rows tl rfl hcap ?_,?_⟩
  .intro i x hx j c hc
   obtain ⟨v,h6,h7⟩:=hrows i x hx j c hc
   refine ⟨v,?_,h7.mono k.m⟩
   have hi:i < l.length:=(Q4.1 hx).1
   have hj:j < cfg.sz T:=by have:=(Q4.1 hc).1;rw [henc] at this;exact this
   have af:i*cfg.sz T+j < l.length*cfg.sz T:=by
    have:(i+1)*cfg.sz T<=l.length*cfg.sz T:=Qd _ hi
    rw [QC] at this;omega
   rw [Addr.add_lit,QM]
   simp only [Gh.new,and_self,if_true,im,af,decide_true]
   exact h6
  .rcases htl with rfl | ⟨rfl,hfull⟩
   .intro _ b len aa u j ak al
    simp only [Value.slice.injEq,Option.some.injEq] at u
    obtain ⟨rfl,rfl,rfl⟩:=u
    rw [Addr.add_lit,QM]
    simp only [Gh.new,and_self,if_true,tg]
    grind
   .intro b len aa u
    grind
theorem Zba(ok:CfgOk P cfg){T:U.Ty}:∀ (parts:List (Nat × Value)) (ps:List (Nat × V U)) (i:Nat) (l:List (U.El T)) (vs:Array Value),Ja cfg T i ps=some l->parts.length=ps.length->
  (∀ (j:Nat) x y,parts[j]?=some x->ps[j]?=some y->x.1=y.1/\RelV cfg g st.dead (fun nm=> (st.mem nm).isSome) x.2 y.2)->(i+parts.length)*cfg.sz T<=vs.size->
  l.length=ps.length/\∃ d,Instr.fill (fun k=> some (k*cfg.sz T,cfg.sz T)) vs parts=some d/\d.size=vs.size/\(∀ q,q < i*cfg.sz T->d[q]?=vs[q]?)/\
   ∀ r x,l[r]?=some x->∀ j c,(cfg.enc T x)[j]?=some c->∃ v,d[(i+r)*cfg.sz T+j]?=some v/\SimC cfg g.m v c
 | [],[],i,l,vs,he,_,_,_=> by
  simp only [Ja,Option.some.injEq] at he
  subst he
  exact ⟨rfl,vs,rfl,rfl,fun _ _=> rfl,fun r x hx=> by simp at hx⟩
 | (k,v) ::parts,(k',y) ::ps,i,l,vs,he,hl,hr,af=> by
  obtain ⟨hk,hv⟩:=hr 0 _ _ rfl rfl
  simp only at hk hv
  subst hk
  simp only [Ja] at he
  split at he
  .rename_i al
   subst al
   split at he
   .rename_i cs aj
    split at he
    .rename_i x hx
     cases hrec:Ja cfg T (k+1) ps with
     | none=> grind
     | some l'=>
      simp only [hrec,Qf,Option.some.injEq] at he
      subst he
      have aa:=hv.cells aj
      obtain ⟨ai,am⟩:=Zak ok hx aa.1 (fun j v c h1 h2=> aa.sim h1 h2)
      have hl:parts.length=ps.length:=by simpa using hl
      have af:(k+(parts.length+1))*cfg.sz T<=vs.size:=af
      have a2:(k+1)*cfg.sz T<=(k+(parts.length+1))*cfg.sz T:=Qd _ V0
      have av:(k+1)*cfg.sz T=k*cfg.sz T+cfg.sz T:=by rw [QC];omega
      have ax:v.cells.size=cfg.sz T:=by simpa using ai
      let vs1:Array Value:=v.cells.zipIdx.foldl (fun cs (c,j)=> cs.setIfInBounds (k*cfg.sz T+j) c) vs
      have h:vs1.toList=vs.toList.take (k*cfg.sz T)++v.cells.toList++vs.toList.drop (k*cfg.sz T+v.cells.toList.length):=by
       show (v.cells.zipIdx.foldl (fun cs (c,j)=> cs.setIfInBounds (k*cfg.sz T+j) c) vs).toList=_
       rw [<-Array.foldl_toList,Array.toList_zipIdx]
       have:=ZeY (k*cfg.sz T) v.cells.toList 0 vs (by simp;omega)
       simpa using this
      have ah:vs1.size=vs.size:=by
       have:=congrArg List.length h
       simp at this
       omega
      obtain ⟨h1,d,h2,h3,h4,h5⟩:=Zba ok parts ps (k+1) l' vs1 hrec hl
       (fun j x y hx hy=> hr (j+1) x y (by simpa using hx) (by simpa using hy)) (by grind)
      have s:∀ q:Nat,vs1[q]?=vs1.toList[q]?:=fun q=> (Array.getElem?_toList ..).symm
      refine ⟨by simp [h1],d,?_,by rw [h3,ah],?_,?_⟩
      .simp only [Instr.fill]
       grind
      .intro q hq
       rw [h4 q V0,s,h,Ql,QZ (by simp;omega),X4 hq]
       simp
      .intro r x' ab j c hc
       cases r with
       | zero=>
        simp only [XG,Option.some.injEq] at ab
        subst ab
        obtain ⟨u,h6,h7⟩:=am j c hc
        refine ⟨u,?_,h7⟩
        have hj:j < cfg.sz T:=by have:=(Q4.1 hc).1;rw [ok.enc_len] at this;exact this
        rw [XE,h4 _ V0,s,h,Ql,Qv (by simp;omega)]
        have e:k*cfg.sz T+j - (vs.toList.take (k*cfg.sz T)).length=j:=by simp;omega
        grind
       | succ r=>
        grind
    .cases he
   .cases he
  .cases he
theorem Zbf (ok:CfgOk P cfg) (h:Rel cfg B st g a w) {o:Oper} {t:TypeId} {n:Nat} {parts:Array (Nat × Operand)} {T:U.Ty} {ps:List (Nat × V U)} {l:List (U.El T)} (ho:o.op= .buildSlice t n parts)
  (hT:cfg.slT t=some T) (hl:parts.size=ps.length) (hn:ps.length=n) (hsmall:n*cfg.sz T<=16777216)
  (hr:∀ (j:Nat) x y,parts[j]?=some x->ps[j]?=some y->x.1=y.1/\RelV cfg g st.dead (fun nm=> (st.mem nm).isSome) (a.eval x.2) y.2) (he:Ja cfg T 0 ps=some l):
  Does P o a w fun v w'=> ∃ g',Out cfg B st g { val:=some (.c (.slice T l .full)) } v w' g':=by
 obtain ⟨hE,hU⟩:=Jf ok hT
 obtain ⟨i,ag,zs,z,h1,h2,h3,h4,h5,h6⟩:=ok.el T
 obtain ⟨z',hz,hZ⟩:=Z1R ok h5 w
 have aj:z'=z:=by
  simp [zeroValue,typeInfo,h1,h4] at hz;exact hz.symm
 subst aj
 have ao:z'.cells.size=cfg.sz T:=by have:=(Z0h (g:=g) (st:=st) (cfg:=cfg) hZ).1;simp at this;omega
 let vs0:Array Value:=if n*cfg.sz T=0 then (Array.range (n*cfg.sz T)).map ((#[]:Array Value)[· % 0]!) else (Array.range (n*cfg.sz T)).map (z'.cells[· % z'.cells.size]!)
 have ae:vs0.size=n*cfg.sz T:=by simp only [vs0];split <;> simp
 obtain ⟨aq,vs',h7,h8,_,h9⟩:=Zba (g:=g) (st:=st) ok (parts.toList.map fun x=> (x.1,a.eval x.2)) ps 0 l vs0 he (by simpa using hl) (by
  grind) (by grind)
 have u:l.length=n:=V0
 obtain ⟨g',s⟩:=Z5L (T:=T) (l:=l) (arr:=vs') (d:=0) (kl:=[]) h (SameHeap.refl w) (P.elem t) (cap:=n) (tl:= .full) V0 (by rw [h8,ae]) (.inr ⟨rfl,u⟩) (ok.enc_len T)
  (fun i x hx j c hc=> by grind)
 rw [u] at s
 refine .inl ⟨_,_,?_,g',s⟩
 have af:=Jb ok T w
 rw [<-hE] at af hz
 simp only [execOp,ho]
 apply Z8w
 simp only [Instr.buildSlice,Sem.run_bind,run_underlying hU,Result.andThen_ok,af]
 rw [JC]
 by_cases h0:n*cfg.sz T=0
 .simp only [h0,if_true]
  simp only [vs0,h0,if_true] at h7
  have aa:Instr.fill (fun i=> some (i*cfg.sz T,cfg.sz T)) ((Array.range 0).map ((#[]:Array Value)[· % (#[]:Array Value).size]!)) (parts.map fun x=> (x.1,a.eval x.2)).toList=some vs':=by
   rw [Xs];exact h7
  simp only [Sem.run_bind,Sem.run_pure,Result.andThen_ok,aa]
  try rfl
 .simp only [h0,if_false]
  simp only [vs0,h0,if_false] at h7
  have aa:Instr.fill (fun i=> some (i*cfg.sz T,cfg.sz T)) ((Array.range (n*cfg.sz T)).map (z'.cells[· % z'.cells.size]!)) (parts.map fun x=> (x.1,a.eval x.2)).toList=some vs':=by
   rw [Xs];exact h7
  simp only [Sem.run_bind,Sem.run_pure,Result.andThen_ok,hz,aa]
  try rfl
theorem Z3K(ok:CfgOk P cfg){m:Addr->Option Value}{T:U.Ty}{l:List (U.El T)}{tl:Tail}{b:Addr}{len cap:Nat}(hs:SimC cfg m (.slice (some b) len cap) (.slice T l tl)):
  ∃ vs:List Value,vs.length=len*cfg.sz T/\(∀ (j:Nat) v,vs[j]?=some v->m (b.add j)=some v/\v.oneCell'=true)/\
   ∀ (i:Nat) x,l[i]?=some x->∀ (j:Nat) c,(cfg.enc T x)[j]?=some c->∃ v,vs[i*cfg.sz T+j]?=some v/\SimC cfg m v c:=by
 have hl:l.length=len:=by cases hs;assumption
 have hr:=hs.rows
 have d:=ok.sz_pos T
 let f:Nat->Value:=fun j=> (m (b.add j)).getD undef
 have hf:∀ j,j < len*cfg.sz T->m (b.add j)=some (f j)/\(f j).oneCell'=true:=by
  intro j hj
  have hi:j / cfg.sz T < l.length:=by rw [hl];exact Xo (by grind)
  have h:j % cfg.sz T < (cfg.enc T (l[j / cfg.sz T])).length:=by rw [ok.enc_len];exact Xy _ d
  obtain ⟨v,s,u⟩:=hr _ _ (Q2 hi) _ _ (Q2 h)
  have e:j / cfg.sz T*cfg.sz T+j % cfg.sz T=j:=by rw [Xi];exact XC _ _
  rw [e] at s
  simp only [f,s]
  exact ⟨rfl,u.one.1⟩
 refine ⟨(List.range (len*cfg.sz T)).map f,by simp,?_,?_⟩
 .grind
 .intro i x hx j c hc
  obtain ⟨v,s,u⟩:=hr i x hx j c hc
  have hi:i < l.length:=(Q4.1 hx).1
  have hj:j < cfg.sz T:=by have:=(Q4.1 hc).1;rw [ok.enc_len] at this;exact this
  have ah:i*cfg.sz T+j < len*cfg.sz T:=by
   have:(i+1)*cfg.sz T<=len*cfg.sz T:=Qd _ V0
   rw [QC] at this;omega
  grind
theorem Z35 {T:U.Ty} {l l':List (U.El T)} {vs vs':List Value} {m:Addr->Option Value} (hl:vs.length=l.length*cfg.sz T) (henc:∀ x,(cfg.enc T x).length=cfg.sz T)
  (h:∀ (i:Nat) x,l[i]?=some x->∀ (j:Nat) c,(cfg.enc T x)[j]?=some c->∃ v,vs[i*cfg.sz T+j]?=some v/\SimC cfg m v c)
  (h':∀ (i:Nat) x,l'[i]?=some x->∀ (j:Nat) c,(cfg.enc T x)[j]?=some c->∃ v,vs'[i*cfg.sz T+j]?=some v/\SimC cfg m v c):
  ∀ (i:Nat) x,(l++l')[i]?=some x->∀ (j:Nat) c,(cfg.enc T x)[j]?=some c->∃ v,(vs++vs')[i*cfg.sz T+j]?=some v/\SimC cfg m v c:=by
 intro i x d j c hc
 have hj:j < cfg.sz T:=by have:=(Q4.1 hc).1;rw [henc] at this;exact this
 rw [QE] at d
 split at d
 .grind
 .rename_i s
  obtain ⟨v,h1,u⟩:=h' _ x d j c hc
  refine ⟨v,?_,u⟩
  have e1:l.length*cfg.sz T<=i*cfg.sz T:=Qd _ V0
  rw [Qv V0,hl,<-h1]
  congr 1
  rw [K8];omega
theorem Zcm (ok:CfgOk P cfg) (h:Rel cfg B st g a w) {o:Oper} {t:TypeId} {p q:Operand} {T:U.Ty} {n m:Int} {ag:Bool} {zs:List (C U)} {z:U.El T} (ho:o.op= .makeSlice t p q)
  (hT:cfg.slT t=some T) (hp:a.eval p= .int .i64 n) (hq:a.eval q= .int .i64 m) (hz:cfg.var (cfg.elT T)=some (ag,zs)) (hd:cfg.dec T zs=some z)
  (hn:0<=n/\n*cfg.bytes T<=140737488355328/\n<=9223372036854775807) (hm:m=n):
  Does P o a w fun v w'=> ∃ g',Out cfg B st g { val:=some (.c (.slice T (List.replicate n.toNat z) .full)) } v w' g':=by
 have au:=hm.symm
 subst au
 obtain ⟨k,rfl⟩:=QU hn.1
 simp only [XQ] at*
 rw [QR]
 obtain ⟨hE,hU⟩:=Jf ok hT
 obtain ⟨i,a9,a3,z',h1,h2,h3,h4,h5,h6⟩:=ok.el T
 rw [hz] at h5
 simp only [oP] at h5
 obtain ⟨rfl,rfl⟩:=h5
 obtain ⟨s,ab,hZ⟩:=Z1R ok hz w
 have ao:s=z':=by
  simp [zeroValue,typeInfo,h1,h4] at ab;exact ab.symm
 subst ao
 have aa:=Z0h (g:=g) (st:=st) (cfg:=cfg) hZ
 have am:s.cells.size=cfg.sz T:=by have:=aa.1;simp at this;omega
 have ay:=ok.sz_pos T
 obtain ⟨a4,av⟩:=Zak ok hd aa.1 (fun j v c h1 h2=> aa.sim h1 h2)
 let arr:Array Value:=(Array.range (k*cfg.sz T)).map (s.cells[· % s.cells.size]!)
 obtain ⟨g',ae⟩:=Z5L (T:=T) (l:=List.replicate k z) (arr:=arr) (d:=0) (kl:=[]) h (SameHeap.refl w) (P.elem t) (cap:=k) (tl:= .full) (by simp) (by simp [arr]) (.inr ⟨rfl,by simp⟩) (ok.enc_len T)
  (by
   intro i x hx j c hc
   obtain ⟨hi,hx⟩:=Q4.1 hx
   simp at hx hi
   subst hx
   obtain ⟨v,h7,h8⟩:=av j c hc
   have hj:j < cfg.sz T:=by have:=(Q4.1 hc).1;rw [ok.enc_len] at this;exact this
   have be:i*cfg.sz T+j < k*cfg.sz T:=by
    have:(i+1)*cfg.sz T<=k*cfg.sz T:=Qd _ V0
    rw [QC] at this;omega
   refine ⟨v,?_,h8⟩
   have h9:s.cells[j]?=some v:=by rw [<-h7];simp
   have a6:j < s.cells.size:=V0
   have e:(i*cfg.sz T+j) % s.cells.size=j:=by rw [am,Xi,XN,Xc hj]
   grind)
 rw [Xm] at ae
 refine .inl ⟨_,_,?_,g',ae⟩
 have af:=Jb ok T w
 rw [<-hE] at af ab
 have u:(typeInfo (P.elem t)).run P w= .ok i w:=by rw [hE];simp [typeInfo,h1]
 have hw:IntKind.i64.wrap (k:Int)=k:=by simp [IntKind.wrap,IntKind.signed,IntKind.bits];omega
 have aj:¬(281474976710656 < (i.bytes:Int)*(k:Int)):=by
  rw [h3,Int.mul_comm];have:=hn.2.1;omega
 have ah:¬(k:Int) < 0:=V0
 simp only [execOp,ho]
 apply Z8w
 simp only [hp,hq]
 by_cases h0:k*cfg.sz T=0
 .have ai:arr=#[]:=by simp only [arr,h0];simp
  simp [Instr.makeSlice,run_underlying hU,asInt,asIntOf,u,hw,aj,ah,af,h0,newRow,ai]
  grind
 .have aq:(decide ((k:Int) < 0) || decide ((i.bytes:Int)*(k:Int) > 2 ^ 48) || decide ((k:Int) < 0) || decide ((k:Int) > (k:Int)))=false:=by
   simp [aj,ah]
  simp only [Instr.makeSlice,Sem.run_bind,run_underlying hU,Result.andThen_ok,asInt,asIntOf,Sem.run_pure,u,hw,aq]
  simp only [Xk,if_false,Sem.run_bind,run_askRoom,Result.andThen_ok,af,QR,h0,ab,Sem.run_pure]
  try rfl
open Classical in
noncomputable def Gh.grown(g:Gh)(w':World)(b:Addr)(lo mid hi:Nat)(t:Tok):Gh:=
 {m:=fun c=> if ∃ j,lo<=j/\j < mid/\c=b.add j then w'.cell? c else g.m c
  tag:=fun c=> if ∃ j,lo<=j/\j < mid/\c=b.add j then none else if ∃ j,mid<=j/\j < hi/\c=b.add j then some (.tok t) else g.tag c
  ad:=g.ad
  bs:=g.bs }
theorem Zcq (ok:CfgOk P cfg) (h:Rel cfg B st g a w) {T:U.Ty} {l l':List (U.El T)} {tl:Tail} {b:Addr} {len cap n:Nat} {vs:List Value} {d:Nat} {kl:List Tok}
  (hx:RelC cfg g st.dead (.slice (some b) len cap) (.slice T l tl)) (hl:l.length=len) (hc:len<=cap) (hfit:len+n<=cap) (hln:l'.length=n)
  (hvl:vs.length=n*cfg.sz T) (hvo:∀ v∈vs,v.oneCell'=true)
  (hvr:∀ (i:Nat) x,l'[i]?=some x->∀ (j:Nat) c,(cfg.enc T x)[j]?=some c->∃ v,vs[i*cfg.sz T+j]?=some v/\SimC cfg g.m v c)
  (htl:(tl= .full/\kl=[])\/∃ u,tl= .own u/\st.dead u=false/\kl=[u]):
  ∃ w' g',(storeCells (b.add (len*cfg.sz T)) vs).run P w= .ok () w'/\Out cfg B st g { val:=some (.c (.slice T (l++l') (.own (.r d 0)))),kill:=kl } (.slice (some b) (len+n) cap) w' g':=by
 have bl:(len+n)*cfg.sz T=len*cfg.sz T+n*cfg.sz T:=QC ..
 have bf:(len+n)*cfg.sz T<=cap*cfg.sz T:=Qd _ hfit
 have ak:∀ j,len*cfg.sz T<=j->j < cap*cfg.sz T->∃ u,kl=[u]/\g.tag (b.add j)=some (.tok u):=by
  intro j h1 h2
  rcases htl with ⟨rfl,_⟩ | ⟨u,rfl,hu,rfl⟩
  .have:=hx.2 _ _ _ rfl
   subst this
   omega
  .exact ⟨u,rfl,hx.2 hu b len cap rfl j h1 h2⟩
 obtain ⟨w',h1,h2,h3,h4,h5,h6⟩:=Jg (P:=P) (b.add (len*cfg.sz T)) vs 0 w hvo (by
  intro j hj
  rw [Go.Deep.add_add,QM]
  obtain ⟨u,_,ht⟩:=ak (len*cfg.sz T+j) V0 V0
  obtain ⟨h7,v,h8⟩:=h.inv.it _ _ ht
  exact ⟨⟨v,h8⟩,h7⟩)
 simp only [QM,Go.Deep.add_add] at h2 h3 h4
 let g':=g.grown w' b (len*cfg.sz T) ((len+n)*cfg.sz T) (cap*cfg.sz T) (.r d 0)
 have hS:∀ c,(∃ j,len*cfg.sz T<=j/\j < cap*cfg.sz T/\c=b.add j)->∃ u,kl=[u]/\g.tag c=some (.tok u):=by
  rintro c ⟨j,ao,aq,rfl⟩
  exact ak j ao aq
 have bk:∀ c,(∃ j,len*cfg.sz T<=j/\j < (len+n)*cfg.sz T/\c=b.add j)->∃ v,w'.cell? c=some v:=by
  rintro c ⟨j,ao,aq,rfl⟩
  have:=h3 (j - len*cfg.sz T) _ (Q2 V0)
  rw [show len*cfg.sz T+(j - len*cfg.sz T)=j by omega] at this
  exact ⟨_,this⟩
 have az:∀ c v,g.m c=some v->w'.cell? c=some v/\¬(∃ j,len*cfg.sz T<=j/\j < cap*cfg.sz T/\c=b.add j):=by
  intro c v hv
  obtain ⟨h7,h8⟩:=h.inv.im c v hv
  have ah:¬(∃ j,len*cfg.sz T<=j/\j < cap*cfg.sz T/\c=b.add j):=fun hc=> by
   obtain ⟨u,_,h9⟩:=hS c hc
   rw [h8] at h9;cases h9
  refine ⟨?_,ah⟩
  rw [h4 c fun j hj e=> ah ⟨_,V0,V0,e⟩]
  exact h7
 have am:∀ c v,g.m c=some v->g'.m c=some v:=by
  intro c v hv
  have:=(az c v hv).2
  simp only [g',Gh.grown]
  rw [if_neg (fun ⟨j,a1,a2,a3⟩=> this ⟨j,a1,V0,a3⟩)]
  exact hv
 have ae:∀ c,¬(∃ j,len*cfg.sz T<=j/\j < cap*cfg.sz T/\c=b.add j)->g'.tag c=g.tag c:=by
  intro c ah
  simp only [g',Gh.grown]
  rw [if_neg (fun ⟨j,a1,a2,a3⟩=> ah ⟨j,a1,V0,a3⟩),if_neg (fun ⟨j,a1,a2,a3⟩=> ah ⟨j,V0,a2,a3⟩)]
 have a7:Inv g'.m g'.tag w':=by
  refine ⟨fun c v hv=> ?_,fun c t ht=> ?_⟩
  .simp only [g',Gh.grown] at hv ⊢
   split at hv
   .rename_i hc
    rw [if_pos hc]
    exact ⟨hv,rfl⟩
   .rename_i hc
    rw [if_neg hc]
    obtain ⟨h7,h8⟩:=az c v hv
    refine ⟨h7,?_⟩
    rw [if_neg (fun ⟨j,a1,a2,a3⟩=> h8 ⟨j,V0,a2,a3⟩)]
    exact (h.inv.im c v hv).2
  .have ar:∀ t',g.tag c=some t'->w'.frozen? c=false/\∃ v,w'.cell? c=some v:=by
    intro t' bi
    obtain ⟨h7,u,h8⟩:=h.inv.it c t' bi
    exact ⟨(h5 c).trans h7,h2.some c u h8⟩
   simp only [g',Gh.grown] at ht
   split at ht
   .cases ht
   .split at ht
    .rename_i hc
     obtain ⟨j,a1,a2,a3⟩:=hc
     obtain ⟨u,_,h7⟩:=hS c ⟨j,V0,a2,a3⟩
     exact ar _ h7
    .exact ar t ht
 have ai:Keeps g g' st.dead (fun t=> st.dead t || kl.contains t) (fun nm=> (st.mem nm).isSome) (fun nm=> (st.mem nm).isSome):=by
  refine ⟨am,fun c t hd ht=> ?_,fun t ht=> ?_,fun nm hn=> ⟨hn,rfl⟩,fun _ _ _ h=> h,fun _=> rfl⟩
  .rw [ae c ?_]
   .exact ht
   .intro hc
    obtain ⟨u,hu,h7⟩:=hS c hc
    rw [ht] at h7
    cases h7
    rw [hu] at hd
    simp at hd
  .simp only [QF] at ht
   exact ht.1
 refine ⟨w',g',h1,a7,?_,ai,?_,?_,h.ls_keep rfl ai (fun c v hv=> (az c v hv).1) (fun c t hd ht=> ?_),h.fresh_keep rfl (fun _=> rfl)⟩
 .refine h.fr.step h.inv h2 ?_ am ?_ ?_ (fun _=> rfl)
  .rintro c ⟨j,hj,rfl⟩
   obtain ⟨u,_,ht⟩:=ak (len*cfg.sz T+j) V0 V0
   exact ⟨_,ht,fun t' e=> by cases e⟩
  .intro c t
   by_cases hc:∃ j,len*cfg.sz T<=j/\j < cap*cfg.sz T/\c=b.add j
   .obtain ⟨u,_,h7⟩:=hS c hc
    constructor
    .intro h8;rw [h7] at h8;cases h8
    .intro h8
     simp only [g',Gh.grown] at h8
     split at h8
     .cases h8
     .split at h8
      .cases h8
      .exact h8
   .rw [ae c hc]
  .intro bb _ ba o s
   refine ae _ fun hc=> ?_
   obtain ⟨u,_,h7⟩:=hS _ hc
   obtain ⟨t',h8⟩:=ba _ _ _ h7
   cases h8
 .intro nm cs hm j c hj
  obtain ⟨v,h7,h8,h9⟩:=h.mem nm cs hm j c hj
  have ah:¬(∃ i,len*cfg.sz T<=i/\i < cap*cfg.sz T/\(g.ad nm).add j=b.add i):=fun hc=> by
   obtain ⟨u,_,ax⟩:=hS _ hc
   rw [h8] at ax;cases ax
  refine ⟨v,?_,(ae _ ah).trans h8,h9.keep ai⟩
  show w'.cell? ((g.ad nm).add j)=some v
  rw [h4 _ fun i hi e=> ah ⟨_,V0,V0,e⟩]
  exact h7
 .refine ⟨.of_rows _ (by simp [hl,hln]) hfit ?_,?_⟩
  .obtain ⟨us,a6,be,bg⟩:=Z3K ok hx.1
   have:=Z35 (m:=g.m) (vs:=us) (vs':=vs) (by rw [a6,hl]) (ok.enc_len T) bg hvr
   intro i x hi j c hj
   obtain ⟨v,h7,h8⟩:=this i x hi j c hj
   refine ⟨v,?_,h8.mono am⟩
   by_cases hlt:i*cfg.sz T+j < len*cfg.sz T
   .rw [QZ V0] at h7
    exact am _ _ (be _ _ h7).1
   .rw [Qv V0,a6] at h7
    have h9:=h3 _ _ h7
    rw [show len*cfg.sz T+(i*cfg.sz T+j - len*cfg.sz T)=i*cfg.sz T+j by omega] at h9
    have ax:=(Q4.1 h7).1
    simp only [g',Gh.grown]
    rw [if_pos ⟨i*cfg.sz T+j,V0,V0,rfl⟩]
    exact h9
  .intro _ b' bo bm hv j ao aq
   simp only [Value.slice.injEq,Option.some.injEq] at hv
   obtain ⟨rfl,rfl,rfl⟩:=hv
   simp only [g',Gh.grown]
   rw [if_neg (fun ⟨i,a1,a2,a3⟩=> by have:=Z1r a3;omega),if_pos ⟨j,ao,aq,rfl⟩]
 .refine h4 c fun j hj e=> ?_
  obtain ⟨u,hu,h7⟩:=ak (len*cfg.sz T+j) V0 V0
  rw [e,h7] at ht
  cases ht
  rw [hu] at hd
  simp [Zt] at hd
theorem Z5z(w:World)(need old:Nat)(e:TypeId):need<=grownCap w need old e:=by
 exact Nat.le_add_right _ _
theorem Ziv (ok:CfgOk P cfg) (h:Rel cfg B st g a w) {o:Oper} {d:Nat} {t:TypeId} {x y:C U} {px py:Operand} {ps:List Prop} {e:Eff U}
  (ho:o.op= .call { callee:= .builtin .append,args:=#[px,py],argTypes:=#[t,t] })
  (hx:RelC cfg g st.dead (a.eval px) x) (hy:RelC cfg g st.dead (a.eval py) y) (he:Z6W cfg st d t x y=some (ps,e)) (hps:All ps):
  Does P o a w fun v w'=> ∃ g',Out cfg B st g e v w' g':=by
 unfold Z6W at he
 split at he
 .cases he
 rename_i T hT
 split at he
 case h_2=> cases he
 rename_i l tl l' cb b0 b2
 obtain ⟨hE,hU⟩:=Jf ok hT
 obtain ⟨aw,b,len,cap,bb,hl,hc,hb⟩:=Z4g hx b0
 obtain ⟨bd,b',n,ae,a8,af,cv,bj⟩:=Z4g hy b2
 rw [bb] at aw
 rw [a8] at bd
 have bq:P.underlying t=some (.slice (cfg.elT T)):=by rw [hE] at hU;exact hU
 obtain ⟨i,ag,zs,z,hi,bf,cn,hz,a9,cr⟩:=ok.el T
 have ah:(l.length+l'.length)*cfg.bytes T<=140737488355328:=by
  split at he
  .cases he
  .simp only [oP] at he;rw [<-he.1] at hps;exact hps.1
  .split at he
   .cases he
   .simp only [oP] at he;rw [<-he.1] at hps;exact hps.1
 have av:∃ kl,e={ val:=some (.c (.slice T (l++l') (.own (.r d 0)))),kill:=kl }/\((tl= .full/\kl=[])\/∃ u,tl= .own u/\st.dead u=false/\kl=[u]):=by
  split at he
  .cases he
  .simp only [oP] at he;exact ⟨[],he.2.symm,.inl ⟨rfl,rfl⟩⟩
  .split at he
   .cases he
   .rename_i u _ hu
    simp only [oP] at he
    exact ⟨[u],he.2.symm,.inr ⟨u,rfl,by simpa using hu,rfl⟩⟩
 obtain ⟨kl,rfl,av⟩:=av
 rw [hl,af] at ah
 have br:=ok.bytes_pos T
 have b8:len+n<=140737488355328:=X2 (Xt _ br) ah
 have a4:∃ vs:List Value,vs.length=n*cfg.sz T/\(∀ v∈vs,v.oneCell'=true)/\(∀ w:World,(∀ c v,g.m c=some v->w.cell? c=some v)->(Builtin.firstCells i.size n (.slice b' n ae)).run P w= .ok vs.toArray w)/\
   (∀ (k:Nat) x,l'[k]?=some x->∀ (j:Nat) c,(cfg.enc T x)[j]?=some c->∃ v,vs[k*cfg.sz T+j]?=some v/\SimC cfg g.m v c)/\
   (∀ a',b'=some a'->∀ (j:Nat) v,vs[j]?=some v->g.m (a'.add j)=some v):=by
  cases b' with
  | none=>
   obtain ⟨rfl,rfl⟩:=bj rfl
   have ai:l'=[]:=Q3 af
   subst ai
   exact ⟨[],by simp,by simp,fun w _=> run_firstCells_none w _ _ _ _,fun k x hx=> by simp at hx,fun a' ha=> by cases ha⟩
  | some a'=>
   obtain ⟨vs,h1,h2,h3⟩:=Z3K ok bd.1
   refine ⟨vs,h1,fun v hv=> ?_,fun w hw=> ?_,h3,fun cm ha j v hv=> ?_⟩
   .obtain ⟨j,hj,rfl⟩:=Xf hv
    exact (h2 j _ (Q2 hj)).2
   .exact run_firstCells_some w i.size n a' n ae vs (by grind) (fun j v hv=> hw _ _ (h2 j v hv).1)
   grind
 obtain ⟨vs,ba,bu,aa,a6,cw⟩:=a4
 have a2:∀ c v,g.m c=some v->w.cell? c=some v:=fun c v hv=> (h.inv.im c v hv).1
 have s:(execOp a.eval o).run P w=((Builtin.append_ #[t,t] o.type #[.slice b len cap,.slice b' n ae]).run P w).andThen fun v w=> .ok (.value v) w:=by
  simp only [execOp,ho,resolve,Sem.run_bind,Sem.run_pure,Result.andThen_ok,invoke,builtin]
  simp [bb,a8]
 have aq:∀ w,(underlying t).run P w= .ok (.slice (cfg.elT T)) w:=fun w=> run_underlying bq w
 by_cases hfit:len+n<=cap
 .cases b with
  | none=>
   obtain ⟨rfl,rfl⟩:=hb rfl
   have bn:n=0:=V0
   subst bn
   have ai:l=[]:=Q3 hl
   have bp:l'=[]:=Q3 af
   subst ai bp
   have b3:vs=[]:=Q3 V0
   subst b3
   have ay:Keeps g g st.dead (Zt st ({ val:=some (.c (.slice T ([]++[]) (.own (.r d 0)))),kill:=kl }:Eff U)) (fun nm=> (st.mem nm).isSome) (Y6 st ({ val:=some (.c (.slice T ([]++[]) (.own (.r d 0)))),kill:=kl }:Eff U)):=
    ⟨fun _ _ h=> h,fun _ _ _ h=> h,fun t ht=> by simp only [Zt,QF] at ht;exact ht.1,fun nm hn=> ⟨hn,rfl⟩,fun _ _ _ h=> h,fun _=> rfl⟩
   refine .inl ⟨.slice none 0 0,w,?_,g,h.inv,h.fr,ay,?_,⟨.snil T _,fun _ a len cap hv=> by simp at hv⟩,h.ls_keep rfl ay (fun c v hv=> (h.inv.im c v hv).1) (fun _ _ _ _=> rfl),h.fresh_keep rfl (fun _=> rfl)⟩
   .rw [s]
    simp [Builtin.append_,aq,sizeOf,typeInfo,hi,Builtin.lenOf,aa w a2]
   .intro nm cs hm j c hj
    obtain ⟨v,h7,h8,h9⟩:=h.mem nm cs hm j c hj
    exact ⟨v,h7,h8,h9.keep ay⟩
  | some b=>
   obtain ⟨w',g',h1,h2⟩:=Zcq (P:=P) (d:=d) ok h aw hl hc hfit af ba bu a6 av
   refine .inl ⟨_,w',?_,g',h2⟩
   rw [s]
   rw [<-bf] at h1
   simp [Builtin.append_,aq,sizeOf,typeInfo,hi,Builtin.lenOf,aa w a2,hfit,h1]
 .have a3:cap < len+n:=V0
  have bt:0 < n:=V0
  have ca:¬((len+n:Nat):Int) > 9223372036854775807:=V0
  have bx:Builtin.nextslicecap (len+n) cap*i.bytes<=281474976710656:=growslice_fits a3 (by grind)
  have am:=Z5z w (len+n) cap (cfg.elT T)
  have bc:∃ us:List Value,us.length=len*cfg.sz T/\(∀ w:World,(∀ c v,g.m c=some v->w.cell? c=some v)->(Builtin.firstCells i.size len (.slice b len cap)).run P w= .ok us.toArray w)/\
    ∀ (k:Nat) x,l[k]?=some x->∀ (j:Nat) c,(cfg.enc T x)[j]?=some c->∃ v,us[k*cfg.sz T+j]?=some v/\SimC cfg g.m v c:=by
   cases b with
   | none=>
    obtain ⟨rfl,rfl⟩:=hb rfl
    have ai:l=[]:=Q3 hl
    subst ai
    exact ⟨[],by simp,fun w _=> run_firstCells_none w _ _ _ _,fun k x hx=> by simp at hx⟩
   | some b=>
    obtain ⟨us,h1,h2,h3⟩:=Z3K ok aw.1
    exact ⟨us,h1,fun w hw=> run_firstCells_some w i.size len b len cap us (by grind) (fun j v hv=> hw _ _ (h2 j v hv).1),h3⟩
  obtain ⟨us,ak,a1,bw⟩:=bc
  have bv:z.cells.size=cfg.sz T:=by
   obtain ⟨z',a7,hZ⟩:=Z1R ok a9 w
   have:z'=z:=by simp [zeroValue,typeInfo,hi,hz] at a7;exact a7.symm
   subst this
   have:=(Z0h (g:=g) (st:=st) (cfg:=cfg) hZ).1;simp at this;omega
  let nc:=grownCap w (len+n) cap (cfg.elT T)
  let arr:Array Value:=us.toArray++vs.toArray++Builtin.zeroCells z.cells (nc - (len+n))
  have cj:len+n<=nc:=am
  have be:arr.size=nc*cfg.sz T:=by
   have e1:(len+n)*cfg.sz T+(nc - (len+n))*cfg.sz T=nc*cfg.sz T:=by rw [<-QC];congr 1;omega
   rw [QC] at e1
   simp [arr,Builtin.zeroCells,ak,ba,bv]
   omega
  have az:=Z35 (m:=g.m) (vs:=us) (vs':=vs) (by rw [ak,hl]) (ok.enc_len T) bw a6
  obtain ⟨g',al⟩:=Z5L (T:=T) (l:=l++l') (arr:=arr) (d:=d) (kl:=kl) h (SameHeap.drew w) (cfg.elT T) (cap:=nc) (tl:= .own (.r d 0)) (by grind) be (.inl rfl) (ok.enc_len T)
   (fun k x hx j c hc=> by
    obtain ⟨v,h1,h2⟩:=az k x hx j c hc
    grind)
  rw [show (l++l').length=len+n by simp [hl,af]] at al
  refine .inl ⟨_,_,?_,g',al⟩
  have a5:∀ c v,g.m c=some v->w.drew.cell? c=some v:=fun c v hv=> (a2 c v hv)
  rw [s]
  have bl:¬(Builtin.nextslicecap (len+n) cap*i.bytes > 2 ^ 48):=V0
  have ck:¬i.bytes=0:=V0
  have b1:¬((9223372036854775807:Int) < (len:Int)+(n:Int)):=V0
  simp [Builtin.append_,aq,sizeOf,typeInfo,zeroValue,hi,hz,Builtin.lenOf,hfit,b1,bl,Question.forced,a1 w.drew a5,aa w.drew a5,newRow]
  refine ⟨rfl,?_⟩
  simp only [arr,nc,grownCap,XX]
def Gh.setBs(g:Gh)(t:Tok)(v:Value × Nat):Gh:={ g with bs:=fun u=> if u=t then some v else g.bs u }
theorem Fr.setBs{t:Tok}{v:Value × Nat}(h:Fr B g w):Fr B (g.setBs t v) w:=⟨h.stay,h.xad,h.mono,h.outer,h.outer',h.clean,h.frz⟩
theorem Keeps.setBs{g':Gh}{dead dead2:Tok->Bool}{live live2:Name->Bool}{t:Tok}{v:Value × Nat}(k:Keeps g g' dead dead2 live live2)(hf:g.bs t=none):Keeps g (g'.setBs t v) dead dead2 live live2:=
 ⟨k.m,k.tok,k.dead,k.ad,fun u x d h=> by
  simp only [Gh.setBs]
  split
  .grind
  .exact k.bs u x d h,k.adx⟩
def ZS(d:Nat)(T:U.Ty)(l:List (U.El T))(f:Nat)(kl:List Tok):Eff U:={ val:=some (.c (.mref (.r d 0))),kill:=kl,ls:=[(.r d 0,⟨T,l,f⟩)] }
theorem ZaW{d:Nat}{T:U.Ty}{l:List (U.El T)}{f:Nat}{kl:List Tok}{t:Tok}{x:LC U}(h:JR st.ls (ZS d T l f kl) t=some x):
  (t= .r d 0/\x=⟨T,l,f⟩)\/(t≠.r d 0/\st.ls t=some x/\kl.contains t=false):=by
 unfold JR at h
 cases hk:kl.contains t with
 | true=> simp only [ZS,hk,cond_true,reduceCtorEq] at h
 | false=>
  simp only [ZS,hk,cond_false,ZE] at h
  grind
theorem Z2I{d:Nat}{T:U.Ty}{l:List (U.El T)}{f:Nat}{kl:List Tok}{t:Tok}(h:JR st.ls (ZS d T l f kl) t=none)(hd:Zt st (ZS d T l f kl) t=false):
  t≠.r d 0/\st.ls t=none/\st.dead t=false:=by
 simp only [Zt,QF] at hd
 unfold JR at h
 rw [hd.2] at h
 simp only [ZS,cond_false,ZE] at h
 grind
theorem Z4F (h:Rel cfg B st g a w) {w1:World} (hw:SameHeap w w1) {T:U.Ty} {l:List (U.El T)} {arr:Array Value} (e:TypeId) {cap d f:Nat} {kl:List Tok}
  (hcap:l.length<=cap) (hf:f<=l.length) (hsz:arr.size=cap*cfg.sz T) (henc:∀ x,(cfg.enc T x).length=cfg.sz T)
  (hls:st.ls (.r d 0)=none) (hdd:st.dead (.r d 0)=false) (hkl:kl.contains (.r d 0)=false)
  (hrows:∀ i x,l[i]?=some x->∀ j c,(cfg.enc T x)[j]?=some c->∃ v,arr[i*cfg.sz T+j]?=some v/\SimC cfg g.m v c):
  ∃ g',Out cfg B st g (ZS d T l f kl) (.slice (some ⟨w.heap.size,0,none⟩) l.length cap) (w1.alloc (.cells arr e)) g':=by
 let im:Nat->Bool:=fun i=> decide (i < f*cfg.sz T)
 let tg:Nat->Option Tag:=fun i=> if f*cfg.sz T<=i/\i < arr.size then some (.tok (.r d 0)) else none
 obtain ⟨h1,h2,h3,h4,h5⟩:=Zlw h hw arr e im tg g.ad (by
  grind) (fun _ _=> rfl) (fun _=> rfl)
 have u:=h.fresh (.r d 0) rfl hls hdd
 have aj:Keeps g (g.new w.heap.size arr im tg g.ad) st.dead (Zt st (ZS d T l f kl)) (fun nm=> (st.mem nm).isSome) (Y6 st (ZS d T l f kl)):=h3 kl.contains _ (fun nm hs=> hs)
 have hk:=aj.setBs (t:= .r d 0) (v:=(.slice (some ⟨w.heap.size,0,none⟩) l.length cap,cfg.sz T)) u
 have af:Zt st (ZS d T l f kl) (.r d 0)=false:=by simp only [Zt,ZS,hdd,hkl,Xj]
 refine ⟨(g.new w.heap.size arr im tg g.ad).setBs (.r d 0) (.slice (some ⟨w.heap.size,0,none⟩) l.length cap,cfg.sz T),h1,h2.setBs,hk,?_,⟨.mref _ _ ⟨rfl,rfl⟩,fun _=> ⟨cfg.sz T,by simp [Gh.setBs]⟩⟩,?_,?_⟩
 .intro nm cs hm j c hj
  refine ZhG h hk h5 ?_ nm cs hm j c hj
  intro c t ht
  have:=h.inv.lt ht
  simp only [Gh.setBs,Gh.new]
  grind
 .intro t x hx
  rcases ZaW hx with ⟨rfl,rfl⟩ | ⟨hne,hx,hkt⟩
  .refine ⟨af,.inr ⟨⟨w.heap.size,0,none⟩,l.length,cap,by simp [Gh.setBs],rfl,hcap,hf,?_,?_⟩⟩
   .intro i y hy j c hc
    obtain ⟨v,h6,h7⟩:=hrows i y hy j c hc
    have hi:i < l.length:=(Q4.1 hy).1
    have hj:j < cfg.sz T:=by have:=(Q4.1 hc).1;rw [henc] at this;exact this
    have a8:i*cfg.sz T+j < arr.size:=(QL.1 h6).1
    simp only [Addr.add_lit,QM]
    refine ⟨v,(h4 _).trans h6,h7.mono hk.m,fun s=> ?_,fun s=> ?_⟩
    .have:(i+1)*cfg.sz T<=f*cfg.sz T:=Qd _ s
     rw [QC] at this
     simp only [Gh.setBs,Gh.new,and_self,if_true,im]
     grind
    .have:f*cfg.sz T<=i*cfg.sz T:=Qd _ s
     simp only [Gh.setBs,Gh.new,and_self,if_true,tg]
     grind
   .intro j a1 a2
    dsimp only at a1 a2
    have:f*cfg.sz T<=l.length*cfg.sz T:=Qd _ hf
    simp only [Addr.add_lit,QM]
    simp only [Gh.setBs,Gh.new,and_self,if_true,tg]
    grind
  .obtain ⟨h6,h7⟩:=h.ls t x hx
   have hd:Zt st (ZS d T l f kl) t=false:=by simp only [Zt,ZS,h6,hkt,Xj]
   exact ⟨hd,h7.keep hk hd (fun c v hv=> h5 _ _ (h.inv.im c v hv).1) (fun c ht=> by obtain ⟨_,v,hv⟩:=h.inv.it c _ ht;grind)⟩
 .intro t h0 h6 h7
  obtain ⟨h8,h9,ai⟩:=Z2I h6 h7
  simp only [Gh.setBs]
  rw [if_neg h8]
  exact h.fresh t h0 h9 ai
structure Src (cfg:Cfg U) (g:Gh) (w:World) (T:U.Ty) (l:List (U.El T)) (f:Nat) (kl:List Tok) (b:Addr) (len cap:Nat):Prop where
 hl:l.length=len
 hc:len<=cap
 hf:f<=len
 rows:∀ i y,l[i]?=some y->∀ j c,(cfg.enc T y)[j]?=some c->∃ u,w.cell? (b.add (i*cfg.sz T+j))=some u/\SimC cfg g.m u c/\
  (i < f->g.m (b.add (i*cfg.sz T+j))=some u)/\(f<=i->∃ t,kl=[t]/\g.tag (b.add (i*cfg.sz T+j))=some (.tok t))
 tail:∀ j,len*cfg.sz T<=j->j < cap*cfg.sz T->∃ t,kl=[t]/\g.tag (b.add j)=some (.tok t)
theorem Src.own(ok:CfgOk P cfg){T:U.Ty}{l:List (U.El T)}{f:Nat}{kl:List Tok}{b:Addr}{len cap:Nat}(s:Src cfg g w T l f kl b len cap):
  ∀ j,f*cfg.sz T<=j->j < cap*cfg.sz T->∃ t,kl=[t]/\g.tag (b.add j)=some (.tok t):=by
 intro j h1 h2
 have d:=ok.sz_pos T
 rcases Xr j (len*cfg.sz T) with h3 | h3
 .have hi:j / cfg.sz T < l.length:=by rw [s.hl];exact Xo (by grind)
  have h:j % cfg.sz T < (cfg.enc T (l[j / cfg.sz T])).length:=by rw [ok.enc_len];exact Xy _ d
  obtain ⟨u,_,_,_,h4⟩:=s.rows _ _ (Q2 hi) _ _ (Q2 h)
  have e:j / cfg.sz T*cfg.sz T+j % cfg.sz T=j:=by rw [Xi];exact XC _ _
  rw [e] at h4
  exact h4 ((XL d).2 h1)
 .exact s.tail j h3 h2
theorem Src.list(ok:CfgOk P cfg){T:U.Ty}{l:List (U.El T)}{f:Nat}{kl:List Tok}{b:Addr}{len cap:Nat}(s:Src cfg g w T l f kl b len cap):
  ∃ vs:List Value,vs.length=len*cfg.sz T/\(∀ (j:Nat) v,vs[j]?=some v->w.cell? (b.add j)=some v)/\
   ∀ (i:Nat) x,l[i]?=some x->∀ (j:Nat) c,(cfg.enc T x)[j]?=some c->∃ v,vs[i*cfg.sz T+j]?=some v/\SimC cfg g.m v c:=by
 have d:=ok.sz_pos T
 let fn:Nat->Value:=fun j=> (w.cell? (b.add j)).getD undef
 have hf:∀ j,j < len*cfg.sz T->w.cell? (b.add j)=some (fn j):=by
  intro j hj
  have hi:j / cfg.sz T < l.length:=by rw [s.hl];exact Xo (by grind)
  have h:j % cfg.sz T < (cfg.enc T (l[j / cfg.sz T])).length:=by rw [ok.enc_len];exact Xy _ d
  obtain ⟨v,u,_⟩:=s.rows _ _ (Q2 hi) _ _ (Q2 h)
  have e:j / cfg.sz T*cfg.sz T+j % cfg.sz T=j:=by rw [Xi];exact XC _ _
  rw [e] at u
  simp only [fn,u,Xb]
 refine ⟨(List.range (len*cfg.sz T)).map fn,by simp,?_,?_⟩
 .grind
 .intro i x hx j c hc
  obtain ⟨v,u,h2,_⟩:=s.rows i x hx j c hc
  have hi:i < l.length:=(Q4.1 hx).1
  have hj:j < cfg.sz T:=by have:=(Q4.1 hc).1;rw [ok.enc_len] at this;exact this
  have af:i*cfg.sz T+j < len*cfg.sz T:=by
   have:(i+1)*cfg.sz T<=len*cfg.sz T:=Qd _ (by have:=s.hl;omega)
   rw [QC] at this;omega
  grind
open Classical in
noncomputable def Gh.renamed(g:Gh)(b:Addr)(lo hi:Nat)(t:Tok)(v:Value × Nat):Gh:=
 {m:=g.m
  tag:=fun c=> if ∃ j,lo<=j/\j < hi/\c=b.add j then some (.tok t) else g.tag c
  ad:=g.ad
  bs:=fun u=> if u=t then some v else g.bs u }
theorem Z7i (ok:CfgOk P cfg) (h:Rel cfg B st g a w) {T:U.Ty} {l l':List (U.El T)} {b:Addr} {f len cap n:Nat} {vs:List Value} {d:Nat} {kl:List Tok}
  (s:Src cfg g w T l f kl b len cap) (hfit:len+n<=cap) (hln:l'.length=n)
  (hvl:vs.length=n*cfg.sz T) (hvo:∀ v∈vs,v.oneCell'=true)
  (hvr:∀ (i:Nat) x,l'[i]?=some x->∀ (j:Nat) c,(cfg.enc T x)[j]?=some c->∃ v,vs[i*cfg.sz T+j]?=some v/\SimC cfg g.m v c)
  (hls:st.ls (.r d 0)=none) (hdd:st.dead (.r d 0)=false) (hkl:kl.contains (.r d 0)=false):
  ∃ w' g',(storeCells (b.add (len*cfg.sz T)) vs).run P w= .ok () w'/\Out cfg B st g (ZS d T (l++l') f kl) (.slice (some b) (len+n) cap) w' g':=by
 have bl:(len+n)*cfg.sz T=len*cfg.sz T+n*cfg.sz T:=QC ..
 have ba:(len+n)*cfg.sz T<=cap*cfg.sz T:=Qd _ hfit
 have bu:f*cfg.sz T<=len*cfg.sz T:=Qd _ s.hf
 have ak:=s.own ok
 have hl:=s.hl
 obtain ⟨w',h1,h2,h3,h4,h5,h6⟩:=Jg (P:=P) (b.add (len*cfg.sz T)) vs 0 w hvo (by
  intro j hj
  rw [Go.Deep.add_add,QM]
  obtain ⟨u,_,ht⟩:=s.tail (len*cfg.sz T+j) V0 V0
  obtain ⟨h7,v,h8⟩:=h.inv.it _ _ ht
  exact ⟨⟨v,h8⟩,h7⟩)
 simp only [QM,Go.Deep.add_add] at h2 h3 h4
 let g':=g.renamed b (f*cfg.sz T) (cap*cfg.sz T) (.r d 0) (.slice (some b) (len+n) cap,cfg.sz T)
 have ay:=h.fresh (.r d 0) rfl hls hdd
 have bc:Zt st (ZS d T (l++l') f kl) (.r d 0)=false:=by simp only [Zt,ZS,hdd,hkl,Xj]
 have aj:∀ c,(∃ t,g.tag c=some t/\∀ u,kl=[u]->t≠.tok u)\/g.tag c=none->¬∃ j,f*cfg.sz T<=j/\j < cap*cfg.sz T/\c=b.add j:=by
  rintro c hc ⟨j,a1,a2,rfl⟩
  obtain ⟨u,hu,ht⟩:=ak j a1 a2
  rcases hc with ⟨t,h7,h8⟩ | h7
  .rw [ht] at h7;cases h7;exact h8 u hu rfl
  .rw [ht] at h7;cases h7
 have ab:∀ c,(¬∃ j,f*cfg.sz T<=j/\j < cap*cfg.sz T/\c=b.add j)->g'.tag c=g.tag c:=by
  intro c hc
  simp only [g',Gh.renamed]
  rw [if_neg hc]
 have ah:∀ c,(¬∃ j,f*cfg.sz T<=j/\j < cap*cfg.sz T/\c=b.add j)->w'.cell? c=w.cell? c:=by
  intro c hc
  exact h4 c fun j hj e=> hc ⟨_,V0,V0,e⟩
 have a9:∀ c v,g.m c=some v->w'.cell? c=some v:=by
  intro c v hv
  obtain ⟨h7,h8⟩:=h.inv.im c v hv
  rw [ah c (aj c (.inr h8))]
  exact h7
 have a7:∀ t,Zt st (ZS d T (l++l') f kl) t=false->∀ u,kl=[u]->t≠u:=by
  intro t ht u hu e
  subst e
  simp [Zt,ZS,hu] at ht
 have ae:Keeps g g' st.dead (Zt st (ZS d T (l++l') f kl)) (fun nm=> (st.mem nm).isSome) (Y6 st (ZS d T (l++l') f kl)):=by
  refine ⟨fun _ _ h=> h,fun c t hd ht=> ?_,fun t ht=> ?_,fun nm hn=> ⟨hn,rfl⟩,fun t v hd hv=> ?_,fun _=> rfl⟩
  .rw [ab c (aj c (.inl ⟨_,ht,fun u hu e=> by cases e;exact a7 _ hd _ hu rfl⟩))]
   exact ht
  .simp only [Zt,QF] at ht
   exact ht.1
  .simp only [g',Gh.renamed]
   split
   .rename_i e;subst e;rw [ay] at hv;cases hv
   .exact hv
 refine ⟨w',g',h1,⟨fun c v hv=> ?_,fun c t ht=> ?_⟩,?_,ae,?_,⟨.mref _ _ ⟨rfl,rfl⟩,fun _=> ⟨cfg.sz T,by simp [g',Gh.renamed]⟩⟩,?_,?_⟩
 .exact ⟨a9 c v hv,by rw [ab c (aj c (.inr (h.inv.im c v hv).2))];exact (h.inv.im c v hv).2⟩
 .have aq:∀ t',g.tag c=some t'->w'.frozen? c=false/\∃ v,w'.cell? c=some v:=by
   intro t' bg
   obtain ⟨h7,u,h8⟩:=h.inv.it c t' bg
   exact ⟨(h5 c).trans h7,h2.some c u h8⟩
  by_cases hc:∃ j,f*cfg.sz T<=j/\j < cap*cfg.sz T/\c=b.add j
  .obtain ⟨j,a1,a2,rfl⟩:=hc
   obtain ⟨u,_,h7⟩:=ak j a1 a2
   exact aq _ h7
  .rw [ab c hc] at ht
   exact aq t ht
 .refine h.fr.step h.inv h2 ?_ (fun _ _ h=> h) ?_ ?_ (fun _=> rfl)
  .rintro c ⟨j,hj,rfl⟩
   obtain ⟨u,_,ht⟩:=s.tail (len*cfg.sz T+j) V0 V0
   exact ⟨_,ht,fun t' e=> by cases e⟩
  .intro c t
   by_cases hc:∃ j,f*cfg.sz T<=j/\j < cap*cfg.sz T/\c=b.add j
   .have h8:g'.tag c=some (.tok (.r d 0)):=by simp only [g',Gh.renamed];rw [if_pos hc]
    obtain ⟨j,a1,a2,rfl⟩:=hc
    obtain ⟨u,_,h7⟩:=ak j a1 a2
    rw [h7,h8]
    constructor <;> intro e <;> cases e
   .rw [ab c hc]
  .intro bb _ a6 o sp
   refine ab _ fun hc=> ?_
   obtain ⟨j,a1,a2,e⟩:=hc
   obtain ⟨u,_,h7⟩:=ak j a1 a2
   rw [<-e] at h7
   obtain ⟨t',h8⟩:=a6 _ _ _ h7
   cases h8
 .intro nm cs hm j c hj
  obtain ⟨v,h7,h8,h9⟩:=h.mem nm cs hm j c hj
  have a5:=aj _ (.inl ⟨_,h8,fun u _ e=> by cases e⟩)
  exact ⟨v,(ah _ a5).trans h7,(ab _ a5).trans h8,h9.keep ae⟩
 .intro t x hx
  rcases ZaW hx with ⟨rfl,rfl⟩ | ⟨hne,hx,hkt⟩
  .refine ⟨bc,.inr ⟨b,len+n,cap,by simp [g',Gh.renamed],by simp [hl,hln],hfit,by have:=s.hf;simp only;omega,?_,?_⟩⟩
   .intro i y hy j c hc
    simp only at hy hc ⊢
    have hj:j < cfg.sz T:=by have:=(Q4.1 hc).1;rw [ok.enc_len] at this;exact this
    have hi:i < len+n:=by have:=(Q4.1 hy).1;simp [hl,hln] at this;exact this
    have bz:i*cfg.sz T+j < (len+n)*cfg.sz T:=by
     have:(i+1)*cfg.sz T<=(len+n)*cfg.sz T:=Qd _ hi
     rw [QC] at this;omega
    have au:f<=i->g'.tag (b.add (i*cfg.sz T+j))=some (.tok (.r d 0)):=by
     intro bi
     have:f*cfg.sz T<=i*cfg.sz T:=Qd _ bi
     simp only [g',Gh.renamed]
     rw [if_pos ⟨_,V0,V0,rfl⟩]
    rw [QE] at hy
    split at hy
    .rename_i bk
     obtain ⟨u,h7,h8,h9,a4⟩:=s.rows i y hy j c hc
     refine ⟨u,?_,h8.mono ae.m,h9,au⟩
     have bm:i*cfg.sz T+j < len*cfg.sz T:=by
      have:(i+1)*cfg.sz T<=len*cfg.sz T:=Qd _ V0
      rw [QC] at this;omega
     rw [h4 _ fun j' bp e=> by have:=Z1r e;omega]
     exact h7
    .rename_i bf
     rw [hl] at hy bf
     obtain ⟨u,h7,h8⟩:=hvr _ y hy j c hc
     have e1:len*cfg.sz T<=i*cfg.sz T:=Qd _ V0
     have h9:=h3 _ _ h7
     rw [show len*cfg.sz T+((i - len)*cfg.sz T+j)=i*cfg.sz T+j by rw [K8];omega] at h9
     exact ⟨u,h9,h8.mono ae.m,fun bv=> by have:=s.hf;omega,au⟩
   .intro j a1 a2
    dsimp only at a1 a2
    simp only [g',Gh.renamed]
    rw [if_pos ⟨j,V0,a2,rfl⟩]
  .obtain ⟨h7,h8⟩:=h.ls t x hx
   have hd:Zt st (ZS d T (l++l') f kl) t=false:=by simp only [Zt,ZS,h7,hkt,Xj]
   exact ⟨hd,h8.keep ae hd a9 (fun c ht=> ah c (aj c (.inl ⟨_,ht,fun u hu e=> by cases e;exact a7 _ hd _ hu rfl⟩)))⟩
 .intro t h0 h7 h8
  obtain ⟨h9,a4,bj⟩:=Z2I h7 h8
  simp only [g',Gh.renamed]
  rw [if_neg h9]
  exact h.fresh t h0 a4 bj
theorem Zkq(h:Rel cfg B st g a w){T:U.Ty}{d:Nat}{kl:List Tok}(hls:st.ls (.r d 0)=none)(hdd:st.dead (.r d 0)=false)(hkl:kl.contains (.r d 0)=false):
  Out cfg B st g (ZS d T [] 0 kl) (.slice none 0 0) w (g.setBs (.r d 0) (.slice none 0 0,cfg.sz T)):=by
 have s:=h.fresh (.r d 0) rfl hls hdd
 have ae:Zt st (ZS d T [] 0 kl) (.r d 0)=false:=by simp only [Zt,ZS,hdd,hkl,Xj]
 have ai:Keeps g g st.dead (Zt st (ZS d T [] 0 kl)) (fun nm=> (st.mem nm).isSome) (Y6 st (ZS d T [] 0 kl)):=
  ⟨fun _ _ h=> h,fun _ _ _ h=> h,fun t ht=> by simp only [Zt,QF] at ht;exact ht.1,fun nm hn=> ⟨hn,rfl⟩,fun _ _ _ h=> h,fun _=> rfl⟩
 have hk:=ai.setBs (t:= .r d 0) (v:=(.slice none 0 0,cfg.sz T)) s
 refine ⟨h.inv,h.fr.setBs,hk,?_,⟨.mref _ _ ⟨rfl,rfl⟩,fun _=> ⟨cfg.sz T,by simp [Gh.setBs]⟩⟩,?_,?_⟩
 .intro nm cs hm j c hj
  obtain ⟨v,h7,u,h9⟩:=h.mem nm cs hm j c hj
  exact ⟨v,h7,u,h9.keep hk⟩
 .intro t x hx
  rcases ZaW hx with ⟨rfl,rfl⟩ | ⟨hne,hx,hkt⟩
  .exact ⟨ae,.inl ⟨by simp [Gh.setBs],rfl,rfl⟩⟩
  .obtain ⟨h7,u⟩:=h.ls t x hx
   have hd:Zt st (ZS d T [] 0 kl) t=false:=by simp only [Zt,ZS,h7,hkt,Xj]
   exact ⟨hd,u.keep hk hd (fun c v hv=> (h.inv.im c v hv).1) (fun _ _=> rfl)⟩
 .intro t h0 h7 u
  obtain ⟨h9,ah,ak⟩:=Z2I h7 u
  simp only [Gh.setBs]
  rw [if_neg h9]
  exact h.fresh t h0 ah ak
theorem ZgP(h:Rel cfg B st g a w){T:U.Ty}{x:C U}{l:List (U.El T)}{f:Nat}{u:Option Tok}{v:Value}(hx:RelC cfg g st.dead v x)(he:Z7m cfg st T x=some (l,f,u)):
  ∃ b len d,v= .slice b len d/\l.length=len/\len<=d/\(b=none->len=0/\d=0/\f=0)/\(∀ b',b=some b'->Src cfg g w T l f u.toList b' len d):=by
 have af:(∀ t,x≠.mref t)->(match ZfI cfg T x with
   | some (l,.full)=> some (l,l.length,none)
   | some (l,.own t)=> if st.dead t then none else some (l,l.length,some t)
   | _=> none)=some (l,f,u)->∃ b len d,v= .slice b len d/\l.length=len/\len<=d/\(b=none->len=0/\d=0/\f=0)/\(∀ b',b=some b'->Src cfg g w T l f u.toList b' len d):=by
  intro _ he
  cases hs:ZfI cfg T x with
  | none=> grind
  | some p=>
   obtain ⟨l0,tl⟩:=p
   rw [hs] at he
   obtain ⟨ae,b,len,d,rfl,hl,hc,hb⟩:=Z4g hx hs
   have aq:∀ b',b=some b'->∀ i y,l0[i]?=some y->∀ j c,(cfg.enc T y)[j]?=some c->∃ u,w.cell? (b'.add (i*cfg.sz T+j))=some u/\SimC cfg g.m u c/\g.m (b'.add (i*cfg.sz T+j))=some u:=by
    rintro b' rfl i y hy j c hc
    obtain ⟨u,h1,h2⟩:=ae.1.rows i y hy j c hc
    exact ⟨u,(h.inv.im _ _ h1).1,h2,h1⟩
   cases tl with
   | unk=> cases he
   | full=>
    simp only [oP] at he
    obtain ⟨rfl,rfl,rfl⟩:=he
    refine ⟨b,len,d,rfl,hl,hc,fun e=> ⟨(hb e).1,(hb e).2,by grind⟩,fun b' e=> ⟨hl,hc,V0,fun i y hy j c ao=> ?_,fun j a1 a2=> ?_⟩⟩
    .grind
    .have:=ae.2 _ _ _ rfl
     grind
   | own t=>
    simp only at he
    split at he
    .cases he
    .rename_i hd
     simp only [oP] at he
     obtain ⟨rfl,rfl,rfl⟩:=he
     refine ⟨b,len,d,rfl,hl,hc,fun e=> ⟨(hb e).1,(hb e).2,by grind⟩,fun b' e=> ⟨hl,hc,V0,fun i y hy j c ao=> ?_,fun j a1 a2=> ?_⟩⟩
     .grind
     .subst e
      exact ⟨t,rfl,ae.2 (by simpa using hd) b' len d rfl j a1 a2⟩
 cases x with
 | mref t=>
  simp only [Z7m] at he
  split at he
  .rename_i y hy
   split at he
   .rename_i hT _
    subst hT
    simp only [oP] at he
    obtain ⟨rfl,rfl,rfl⟩:=he
    obtain ⟨hd,hL⟩:=h.ls t y hy
    obtain ⟨s,hs⟩:=hx.2 hd
    rcases hL with ⟨h4,h5,h6⟩ | ⟨b,len,d,h4,h5,h6,h7,h8,h9⟩
    .grind
    .rw [hs] at h4
     cases h4
     refine ⟨some b,len,d,rfl,h5,h6,fun e=> (by cases e),fun b' e=> ?_⟩
     cases e
     refine ⟨h5,h6,h7,fun i y hy j c hc=> ?_,fun j a1 a2=> ⟨t,rfl,h9 j a1 a2⟩⟩
     grind
   .cases he
  .cases he
 | _=> exact af (fun t e=> by cases e) he
theorem ZfK (ok:CfgOk P cfg) (h:Rel cfg B st g a w) {o:Oper} {d:Nat} {t:TypeId} {x y:C U} {px py:Operand} {ps:List Prop} {e:Eff U}
  (ho:o.op= .call { callee:= .builtin .append,args:=#[px,py],argTypes:=#[t,t] })
  (hx:RelC cfg g st.dead (a.eval px) x) (hy:RelC cfg g st.dead (a.eval py) y) (he:Z4i cfg st d t x y=some (ps,e)) (hps:All ps):
  Does P o a w fun v w'=> ∃ g',Out cfg B st g e v w' g':=by
 unfold Z4i at he
 split at he
 .cases he
 rename_i T hT
 split at he
 case h_2=> cases he
 rename_i l f u l' ce b3 b5
 split at he
 case isFalse=> cases he
 rename_i bb
 simp only [Q0,QG,QS] at bb
 obtain ⟨⟨a3,ax⟩,au⟩:=bb
 simp only [oP] at he
 obtain ⟨rfl,rfl⟩:=he
 obtain ⟨hE,hU⟩:=Jf ok hT
 obtain ⟨b,len,cap,bw,hl,hc,hb,aj⟩:=ZgP h hx b3
 obtain ⟨be,b',n,ab,a9,ae,co,bi⟩:=Z4g hy b5
 rw [a9] at be
 have bq:P.underlying t=some (.slice (cfg.elT T)):=by rw [hE] at hU;exact hU
 obtain ⟨i,ag,zs,z,hi,ar,cj,hz,ba,cm⟩:=ok.el T
 have ah:(l.length+l'.length)*cfg.bytes T<=140737488355328:=hps.1
 rw [hl,ae] at ah
 have br:=ok.bytes_pos T
 have ca:len+n<=140737488355328:=X2 (Xt _ br) ah
 have a6:∃ vs:List Value,vs.length=n*cfg.sz T/\(∀ v∈vs,v.oneCell'=true)/\(∀ w:World,(∀ c v,g.m c=some v->w.cell? c=some v)->(Builtin.firstCells i.size n (.slice b' n ab)).run P w= .ok vs.toArray w)/\
   (∀ (k:Nat) x,l'[k]?=some x->∀ (j:Nat) c,(cfg.enc T x)[j]?=some c->∃ v,vs[k*cfg.sz T+j]?=some v/\SimC cfg g.m v c):=by
  cases b' with
  | none=>
   obtain ⟨rfl,rfl⟩:=bi rfl
   have ai:l'=[]:=Q3 ae
   subst ai
   exact ⟨[],by simp,by simp,fun w _=> run_firstCells_none w _ _ _ _,fun k x hx=> by simp at hx⟩
  | some a'=>
   obtain ⟨vs,h1,h2,h3⟩:=Z3K ok be.1
   refine ⟨vs,h1,fun v hv=> ?_,fun w hw=> ?_,h3⟩
   .obtain ⟨j,hj,rfl⟩:=Xf hv
    exact (h2 j _ (Q2 hj)).2
   .exact run_firstCells_some w i.size n a' n ab vs (by grind) (fun j v hv=> hw _ _ (h2 j v hv).1)
 obtain ⟨vs,bc,bu,aa,a7⟩:=a6
 have a1:∀ c v,g.m c=some v->w.cell? c=some v:=fun c v hv=> (h.inv.im c v hv).1
 have s:(execOp a.eval o).run P w=((Builtin.append_ #[t,t] o.type #[.slice b len cap,.slice b' n ab]).run P w).andThen fun v w=> .ok (.value v) w:=by
  simp only [execOp,ho,resolve,Sem.run_bind,Sem.run_pure,Result.andThen_ok,invoke,builtin]
  simp [bw,a9]
 have aw:∀ w,(underlying t).run P w= .ok (.slice (cfg.elT T)) w:=fun w=> run_underlying bq w
 have bg:({ val:=some (.c (.mref (.r d 0))),kill:=u.toList,ls:=[(.r d 0,⟨T,l++l',f⟩)] }:Eff U)=ZS d T (l++l') f u.toList:=rfl
 rw [bg]
 by_cases hfit:len+n<=cap
 .cases b with
  | none=>
   obtain ⟨rfl,rfl,rfl⟩:=hb rfl
   have bm:n=0:=V0
   subst bm
   have ai:l=[]:=Q3 hl
   have bo:l'=[]:=Q3 ae
   subst ai bo
   have b6:vs=[]:=Q3 V0
   subst b6
   refine .inl ⟨.slice none 0 0,w,?_,_,Zkq h a3 ax au⟩
   rw [s]
   simp [Builtin.append_,aw,sizeOf,typeInfo,hi,Builtin.lenOf,aa w a1]
  | some b=>
   obtain ⟨w',g',h1,h2⟩:=Z7i (P:=P) (d:=d) ok h (aj b rfl) hfit ae bc bu a7 a3 ax au
   refine .inl ⟨_,w',?_,g',h2⟩
   rw [s]
   rw [<-ar] at h1
   simp [Builtin.append_,aw,sizeOf,typeInfo,hi,Builtin.lenOf,aa w a1,hfit,h1]
 .have a2:cap < len+n:=V0
  have bt:0 < n:=V0
  have cb:¬((len+n:Nat):Int) > 9223372036854775807:=V0
  have b0:Builtin.nextslicecap (len+n) cap*i.bytes<=281474976710656:=growslice_fits a2 (by grind)
  have av:=Z5z w (len+n) cap (cfg.elT T)
  have bd:∃ us:List Value,us.length=len*cfg.sz T/\(∀ w':World,(∀ c v,w.cell? c=some v->w'.cell? c=some v)->(Builtin.firstCells i.size len (.slice b len cap)).run P w'= .ok us.toArray w')/\
    ∀ (k:Nat) x,l[k]?=some x->∀ (j:Nat) c,(cfg.enc T x)[j]?=some c->∃ v,us[k*cfg.sz T+j]?=some v/\SimC cfg g.m v c:=by
   cases b with
   | none=>
    obtain ⟨rfl,rfl,rfl⟩:=hb rfl
    have ai:l=[]:=Q3 hl
    subst ai
    exact ⟨[],by simp,fun w _=> run_firstCells_none w _ _ _ _,fun k x hx=> by simp at hx⟩
   | some b=>
    obtain ⟨us,h1,h2,h3⟩:=(aj b rfl).list ok
    exact ⟨us,h1,fun w' hw=> run_firstCells_some w' i.size len b len cap us (by rw [ar];exact h1) (fun j v hv=> hw _ _ (h2 j v hv)),h3⟩
  obtain ⟨us,ao,az,bz⟩:=bd
  have bv:z.cells.size=cfg.sz T:=by
   obtain ⟨z',a8,hZ⟩:=Z1R ok ba w
   have:z'=z:=by simp [zeroValue,typeInfo,hi,hz] at a8;exact a8.symm
   subst this
   have:=(Z0h (g:=g) (st:=st) (cfg:=cfg) hZ).1;simp at this;omega
  let nc:=grownCap w (len+n) cap (cfg.elT T)
  let arr:Array Value:=us.toArray++vs.toArray++Builtin.zeroCells z.cells (nc - (len+n))
  have cg:len+n<=nc:=av
  have bf:arr.size=nc*cfg.sz T:=by
   have e1:(len+n)*cfg.sz T+(nc - (len+n))*cfg.sz T=nc*cfg.sz T:=by rw [<-QC];congr 1;omega
   rw [QC] at e1
   simp [arr,Builtin.zeroCells,ao,bc,bv]
   omega
  have bx:f<=(l++l').length:=by
   rw [Qa]
   cases b with
   | none=> grind
   | some b=> have:=(aj b rfl).hf;omega
  have b1:=Z35 (m:=g.m) (vs:=us) (vs':=vs) (by rw [ao,hl]) (ok.enc_len T) bz a7
  obtain ⟨g',aq⟩:=Z4F (T:=T) (l:=l++l') (arr:=arr) (d:=d) (kl:=u.toList) (f:=f) h (SameHeap.drew w) (cfg.elT T) (cap:=nc) (by grind) bx bf (ok.enc_len T) a3 ax au
   (fun k x hx j c hc=> by
    grind)
  rw [show (l++l').length=len+n by simp [hl,ae]] at aq
  refine .inl ⟨_,_,?_,g',aq⟩
  have bk:∀ c v,g.m c=some v->w.drew.cell? c=some v:=fun c v hv=> (a1 c v hv)
  have bp:∀ c v,w.cell? c=some v->w.drew.cell? c=some v:=fun _ _ hv=> hv
  rw [s]
  have bj:¬(Builtin.nextslicecap (len+n) cap*i.bytes > 2 ^ 48):=V0
  have ch:¬i.bytes=0:=V0
  have b4:¬((9223372036854775807:Int) < (len:Int)+(n:Int)):=V0
  simp [Builtin.append_,aw,sizeOf,typeInfo,zeroValue,hi,hz,Builtin.lenOf,hfit,b4,bj,Question.forced,az w.drew bp,aa w.drew bk,newRow]
  refine ⟨rfl,?_⟩
  simp only [arr,nc,grownCap,XX]
theorem ZfJ (ok:CfgOk P cfg) (h:Rel cfg B st g a w) {o:Oper} {d:Nat} {t t':TypeId} {x y:C U} {px py:Operand} {ps:List Prop} {e:Eff U}
  (ho:o.op= .call { callee:= .builtin .append,args:=#[px,py],argTypes:=#[t,t'] })
  (hx:RelC cfg g st.dead (a.eval px) x) (hy:RelC cfg g st.dead (a.eval py) y) (he:Z4h cfg st d t t' x y=some (ps,e)) (hps:All ps):
  Does P o a w fun v w'=> ∃ g',Out cfg B st g e v w' g':=by
 unfold Z4h at he
 split at he
 case h_2=> cases he
 rename_i T m0 nn hT bu
 split at he
 case h_2=> cases he
 rename_i l f u zel ch bh
 split at he
 case isFalse=> cases he
 rename_i bl
 simp only [Q0,QG,QS] at bl
 obtain ⟨⟨be,a6⟩,a3⟩:=bl
 simp only [oP] at he
 obtain ⟨rfl,rfl⟩:=he
 obtain ⟨a7,ai⟩:=hps.1
 obtain ⟨n,rfl⟩:=QU a7
 simp only [XQ,QR] at*
 obtain ⟨hE,hU⟩:=Jf ok hT
 obtain ⟨b,len,cap,cb,hl,hc,hb,al⟩:=ZgP h hx ch
 have b3:a.eval py= .int .i64 n:=by
  have h1:=hy.1
  generalize a.eval py=q at h1 ⊢
  cases h1;rfl
 have b6:P.underlying t=some (.slice (cfg.elT T)):=by rw [hE] at hU;exact hU
 obtain ⟨_,it,zt,dt,_,bw,_,da,_,_,b0,_⟩:=ok.var _ _ _ bu
 have bt:=b0 rfl _ _ rfl
 subst bt
 obtain ⟨i,ag,zs,z,hi,am,b8,hz,a1,db⟩:=ok.el T
 rw [a1] at bh
 have b1:cfg.dec T zs=some zel:=bh
 rw [hl] at ai
 have b7:=ok.bytes_pos T
 have ar:(len+n)*cfg.bytes T<=140737488355328:=by
  have:(((len+n)*cfg.bytes T:Nat):Int)<=140737488355328:=by rw [K6,Int.natCast_add];exact ai
  omega
 have cq:len+n<=140737488355328:=X2 (Xt _ b7) ar
 obtain ⟨s,bn,hZ⟩:=Z1R ok a1 w
 have b4:s=z:=by simp [zeroValue,typeInfo,hi,hz] at bn;exact bn.symm
 subst b4
 have ab:=Z0h (g:=g) (st:=st) (cfg:=cfg) hZ
 have aw:s.cells.size=cfg.sz T:=by have:=ab.1;simp at this;omega
 have bp:=ok.sz_pos T
 obtain ⟨_,cl⟩:=Zak ok b1 ab.1 (fun j v c h1 h2=> ab.sim h1 h2)
 have bg:∃ vs:List Value,vs.length=n*cfg.sz T/\(∀ v∈vs,v.oneCell'=true)/\(Builtin.zeroCells s.cells n).toList=vs/\
   (∀ (k:Nat) x,(List.replicate n zel)[k]?=some x->∀ (j:Nat) c,(cfg.enc T x)[j]?=some c->∃ v,vs[k*cfg.sz T+j]?=some v/\SimC cfg g.m v c):=by
  refine ⟨_,by simp [Builtin.zeroCells,aw],?_,rfl,?_⟩
  .intro v hv
   simp only [Builtin.zeroCells,Xs,X3] at hv
   obtain ⟨q,_,rfl⟩:=hv
   have hq:q % s.cells.size < s.cells.size:=Xy _ V0
   rw [getElem!_pos s.cells _ hq]
   exact ab.one _ (by simp)
  .intro k x hx j c hc
   obtain ⟨hk,hx⟩:=Q4.1 hx
   simp at hx hk
   subst hx
   obtain ⟨v,h7,h8⟩:=cl j c hc
   have hj:j < cfg.sz T:=by have:=(Q4.1 hc).1;rw [ok.enc_len] at this;exact this
   have cm:k*cfg.sz T+j < n*cfg.sz T:=by
    have:(k+1)*cfg.sz T<=n*cfg.sz T:=Qd _ V0
    rw [QC] at this;omega
   refine ⟨v,?_,h8⟩
   have h9:s.cells[j]?=some v:=by rw [<-h7];simp
   have bi:j < s.cells.size:=V0
   have e:(k*cfg.sz T+j) % s.cells.size=j:=by rw [aw,Xi,XN,Xc hj]
   have cc:s.cells[j]! =v:=by
    rw [getElem!_pos s.cells j bi]
    rw [QN bi] at h9
    exact Option.some.inj h9
   have bj:k*cfg.sz T+j < n*s.cells.size:=by rw [aw];exact cm
   simp [Builtin.zeroCells,bj,e,cc]
 obtain ⟨vs,bm,b9,ca,bk⟩:=bg
 have ax:Builtin.zeroCells s.cells n=vs.toArray:=by rw [<-ca]
 have de:∀ c v,g.m c=some v->w.cell? c=some v:=fun c v hv=> (h.inv.im c v hv).1
 have aa:(execOp a.eval o).run P w=((Builtin.append_ #[t,t'] o.type #[.slice b len cap,.int .i64 n]).run P w).andThen fun v w=> .ok (.value v) w:=by
  simp only [execOp,ho,resolve,Sem.run_bind,Sem.run_pure,Result.andThen_ok,invoke,builtin]
  simp [cb,b3]
 have au:∀ w,(underlying t).run P w= .ok (.slice (cfg.elT T)) w:=fun w=> run_underlying b6 w
 have ae:∀ w,(underlying t').run P w= .ok (.int .i64) w:=fun w=> run_underlying bw w
 have br:({ val:=some (.c (.mref (.r d 0))),kill:=u.toList,ls:=[(.r d 0,⟨T,l++List.replicate n zel,f⟩)] }:Eff U)=ZS d T (l++List.replicate n zel) f u.toList:=rfl
 rw [br]
 have af:IntKind.i64.wrap (n:Int)=n:=by simp [IntKind.wrap,IntKind.signed,IntKind.bits];omega
 have ak:¬(n:Int) < 0:=V0
 have aj:¬(n:Int)*(i.bytes:Int) > 281474976710656:=by
  rw [b8]
  have:n*cfg.bytes T<=(len+n)*cfg.bytes T:=Qd _ V0
  have:((n*cfg.bytes T:Nat):Int)<=140737488355328:=V0
  rw [K6] at this
  omega
 have bx:(List.replicate n zel).length=n:=Xm
 by_cases hfit:len+n<=cap
 .cases b with
  | none=>
   obtain ⟨rfl,rfl,rfl⟩:=hb rfl
   have a7:n=0:=V0
   subst a7
   have a8:l=[]:=Q3 hl
   subst a8
   refine .inl ⟨.slice none 0 0,w,?_,_,Zkq h be a6 a3⟩
   rw [aa]
   simp [Builtin.append_,au,ae,sizeOf,typeInfo,hi,asInt,asIntOf,af]
   grind
  | some b=>
   obtain ⟨w',g',h1,h2⟩:=Z7i (P:=P) (d:=d) ok h (al b rfl) hfit bx bm b9 bk be a6 a3
   refine .inl ⟨_,w',?_,g',h2⟩
   rw [aa]
   rw [<-am] at h1
   have ba:(zeroValue (cfg.elT T)).run P w= .ok s w:=by simp [zeroValue,typeInfo,hi,hz]
   by_cases h0:n*i.size=0
   .have ck:vs=[]:=Q3 (by grind)
    subst ck
    simp [Builtin.append_,au,ae,sizeOf,typeInfo,hi,asInt,asIntOf,af,ak,aj,hfit,h0,h1]
   .simp [Builtin.append_,au,ae,sizeOf,typeInfo,hi,asInt,asIntOf,af,ak,aj,hfit,h0,ba,ax,h1]
 .have bd:cap < len+n:=V0
  have a9:0 < n:=V0
  have cr:¬((len+n:Nat):Int) > 9223372036854775807:=V0
  have cg:Builtin.nextslicecap (len+n) cap*i.bytes<=281474976710656:=growslice_fits bd (by grind)
  have a4:=Z5z w (len+n) cap (cfg.elT T)
  have bo:∃ us:List Value,us.length=len*cfg.sz T/\(∀ w':World,(∀ c v,w.cell? c=some v->w'.cell? c=some v)->(Builtin.firstCells i.size len (.slice b len cap)).run P w'= .ok us.toArray w')/\
    ∀ (k:Nat) x,l[k]?=some x->∀ (j:Nat) c,(cfg.enc T x)[j]?=some c->∃ v,us[k*cfg.sz T+j]?=some v/\SimC cfg g.m v c:=by
   cases b with
   | none=>
    obtain ⟨rfl,rfl,rfl⟩:=hb rfl
    have a8:l=[]:=Q3 hl
    subst a8
    exact ⟨[],by simp,fun w _=> run_firstCells_none w _ _ _ _,fun k x hx=> by simp at hx⟩
   | some b=>
    obtain ⟨us,h1,h2,h3⟩:=(al b rfl).list ok
    exact ⟨us,h1,fun w' hw=> run_firstCells_some w' i.size len b len cap us (by rw [am];exact h1) (fun j v hv=> hw _ _ (h2 j v hv)),h3⟩
  obtain ⟨us,ay,bc,cf⟩:=bo
  let nc:=grownCap w (len+n) cap (cfg.elT T)
  let arr:Array Value:=us.toArray++vs.toArray++Builtin.zeroCells s.cells (nc - (len+n))
  have cx:len+n<=nc:=a4
  have bq:arr.size=nc*cfg.sz T:=by
   have e1:(len+n)*cfg.sz T+(nc - (len+n))*cfg.sz T=nc*cfg.sz T:=by rw [<-QC];congr 1;omega
   rw [QC] at e1
   simp [arr,Builtin.zeroCells,ay,bm,aw]
   omega
  have ce:f<=(l++List.replicate n zel).length:=by
   rw [Qa]
   cases b with
   | none=> grind
   | some b=> have:=(al b rfl).hf;omega
  have bb:=Z35 (m:=g.m) (vs:=us) (vs':=vs) (by rw [ay,hl]) (ok.enc_len T) cf bk
  obtain ⟨g',a2⟩:=Z4F (T:=T) (l:=l++List.replicate n zel) (arr:=arr) (d:=d) (kl:=u.toList) (f:=f) h (SameHeap.drew w) (cfg.elT T) (cap:=nc) (by grind) ce bq (ok.enc_len T) be a6 a3
   (fun k x hx j c hc=> by
    obtain ⟨v,h1,h2⟩:=bb k x hx j c hc
    grind)
  rw [show (l++List.replicate n zel).length=len+n by simp [hl]] at a2
  refine .inl ⟨_,_,?_,g',a2⟩
  have b5:∀ c v,w.cell? c=some v->w.drew.cell? c=some v:=fun _ _ hv=> hv
  rw [aa]
  have bz:¬(Builtin.nextslicecap (len+n) cap*i.bytes > 2 ^ 48):=V0
  have cy:¬i.bytes=0:=V0
  have cj:¬((9223372036854775807:Int) < (len:Int)+(n:Int)):=V0
  have h0:¬n*i.size=0:=by rw [am];have:=Nat.mul_pos a9 bp;omega
  have ba:∀ w:World,(zeroValue (cfg.elT T)).run P w= .ok s w:=fun w=> by simp [zeroValue,typeInfo,hi,hz]
  simp [Builtin.append_,au,ae,sizeOf,typeInfo,hi,asInt,asIntOf,af,ak,aj,hfit,cj,bz,h0,ba,ax,Question.forced,bc w.drew b5,newRow]
  refine ⟨rfl,?_⟩
  simp only [arr,nc,grownCap,XX]
theorem ZaV (ok:CfgOk P cfg) (h:Rel cfg B st g a w) {o:Oper} {t:TypeId} {p q:Operand} {T:U.Ty} {n m:Int} {ag:Bool} {zs:List (C U)} {z:U.El T} {d:Nat} (hls:st.ls (.r d 0)=none) (hdd:st.dead (.r d 0)=false) (ho:o.op= .makeSlice t p q)
  (hT:cfg.slT t=some T) (hp:a.eval p= .int .i64 n) (hq:a.eval q= .int .i64 m) (hz:cfg.var (cfg.elT T)=some (ag,zs)) (hd:cfg.dec T zs=some z)
  (hn:0<=n/\n*cfg.bytes T<=140737488355328/\n<=9223372036854775807) (hm:m=n):
  Does P o a w fun v w'=> ∃ g',Out cfg B st g { val:=some (.c (.mref (.r d 0))),ls:=[(.r d 0,⟨T,List.replicate n.toNat z,0⟩)] } v w' g':=by
 have au:=hm.symm
 subst au
 obtain ⟨k,rfl⟩:=QU hn.1
 simp only [XQ] at*
 rw [QR]
 obtain ⟨hE,hU⟩:=Jf ok hT
 obtain ⟨i,a9,a3,z',h1,h2,h3,h4,h5,h6⟩:=ok.el T
 rw [hz] at h5
 simp only [oP] at h5
 obtain ⟨rfl,rfl⟩:=h5
 obtain ⟨s,ab,hZ⟩:=Z1R ok hz w
 have ao:s=z':=by
  simp [zeroValue,typeInfo,h1,h4] at ab;exact ab.symm
 subst ao
 have aa:=Z0h (g:=g) (st:=st) (cfg:=cfg) hZ
 have am:s.cells.size=cfg.sz T:=by have:=aa.1;simp at this;omega
 have ay:=ok.sz_pos T
 obtain ⟨a4,av⟩:=Zak ok hd aa.1 (fun j v c h1 h2=> aa.sim h1 h2)
 let arr:Array Value:=(Array.range (k*cfg.sz T)).map (s.cells[· % s.cells.size]!)
 obtain ⟨g',ae⟩:=Z4F (T:=T) (l:=List.replicate k z) (arr:=arr) (d:=d) (f:=0) (kl:=[]) h (SameHeap.refl w) (P.elem t) (cap:=k) (by simp) (by simp) (by simp [arr]) (ok.enc_len T) hls hdd rfl
  (by
   intro i x hx j c hc
   obtain ⟨hi,hx⟩:=Q4.1 hx
   simp at hx hi
   subst hx
   obtain ⟨v,h7,h8⟩:=av j c hc
   have hj:j < cfg.sz T:=by have:=(Q4.1 hc).1;rw [ok.enc_len] at this;exact this
   have be:i*cfg.sz T+j < k*cfg.sz T:=by
    have:(i+1)*cfg.sz T<=k*cfg.sz T:=Qd _ V0
    rw [QC] at this;omega
   refine ⟨v,?_,h8⟩
   have h9:s.cells[j]?=some v:=by rw [<-h7];simp
   have a6:j < s.cells.size:=V0
   have e:(i*cfg.sz T+j) % s.cells.size=j:=by rw [am,Xi,XN,Xc hj]
   grind)
 rw [Xm] at ae
 refine .inl ⟨_,_,?_,g',ae⟩
 have af:=Jb ok T w
 rw [<-hE] at af ab
 have u:(typeInfo (P.elem t)).run P w= .ok i w:=by rw [hE];simp [typeInfo,h1]
 have hw:IntKind.i64.wrap (k:Int)=k:=by simp [IntKind.wrap,IntKind.signed,IntKind.bits];omega
 have aj:¬(281474976710656 < (i.bytes:Int)*(k:Int)):=by
  rw [h3,Int.mul_comm];have:=hn.2.1;omega
 have ah:¬(k:Int) < 0:=V0
 simp only [execOp,ho]
 apply Z8w
 simp only [hp,hq]
 by_cases h0:k*cfg.sz T=0
 .have ai:arr=#[]:=by simp only [arr,h0];simp
  simp [Instr.makeSlice,run_underlying hU,asInt,asIntOf,u,hw,aj,ah,af,h0,newRow,ai]
  grind
 .have aq:(decide ((k:Int) < 0) || decide ((i.bytes:Int)*(k:Int) > 2 ^ 48) || decide ((k:Int) < 0) || decide ((k:Int) > (k:Int)))=false:=by
   simp [aj,ah]
  simp only [Instr.makeSlice,Sem.run_bind,run_underlying hU,Result.andThen_ok,asInt,asIntOf,Sem.run_pure,u,hw,aq]
  simp only [Xk,if_false,Sem.run_bind,run_askRoom,Result.andThen_ok,af,QR,h0,ab,Sem.run_pure]
  try rfl
theorem Zan (ok:CfgOk P cfg) (h:Rel cfg B st g a w) {o:Oper} {t:TypeId} {n:Nat} {parts:Array (Nat × Operand)} {T:U.Ty} {ps:List (Nat × V U)} {l:List (U.El T)} {d:Nat} (hls:st.ls (.r d 0)=none) (hdd:st.dead (.r d 0)=false) (ho:o.op= .buildSlice t n parts)
  (hT:cfg.slT t=some T) (hl:parts.size=ps.length) (hn:ps.length=n) (hsmall:n*cfg.sz T<=16777216)
  (hr:∀ (j:Nat) x y,parts[j]?=some x->ps[j]?=some y->x.1=y.1/\RelV cfg g st.dead (fun nm=> (st.mem nm).isSome) (a.eval x.2) y.2) (he:Ja cfg T 0 ps=some l):
  Does P o a w fun v w'=> ∃ g',Out cfg B st g { val:=some (.c (.mref (.r d 0))),ls:=[(.r d 0,⟨T,l,0⟩)] } v w' g':=by
 obtain ⟨hE,hU⟩:=Jf ok hT
 obtain ⟨i,ag,zs,z,h1,h2,h3,h4,h5,h6⟩:=ok.el T
 obtain ⟨z',hz,hZ⟩:=Z1R ok h5 w
 have aj:z'=z:=by
  simp [zeroValue,typeInfo,h1,h4] at hz;exact hz.symm
 subst aj
 have ao:z'.cells.size=cfg.sz T:=by have:=(Z0h (g:=g) (st:=st) (cfg:=cfg) hZ).1;simp at this;omega
 let vs0:Array Value:=if n*cfg.sz T=0 then (Array.range (n*cfg.sz T)).map ((#[]:Array Value)[· % 0]!) else (Array.range (n*cfg.sz T)).map (z'.cells[· % z'.cells.size]!)
 have ab:vs0.size=n*cfg.sz T:=by simp only [vs0];split <;> simp
 obtain ⟨aq,vs',h7,h8,_,h9⟩:=Zba (g:=g) (st:=st) ok (parts.toList.map fun x=> (x.1,a.eval x.2)) ps 0 l vs0 he (by simpa using hl) (by
  grind) (by grind)
 have af:l.length=n:=V0
 obtain ⟨g',s⟩:=Z4F (T:=T) (l:=l) (arr:=vs') (d:=d) (f:=0) (kl:=[]) h (SameHeap.refl w) (P.elem t) (cap:=n) V0 (Xd _) (by rw [h8,ab]) (ok.enc_len T) hls hdd rfl
  (fun i x hx j c hc=> by grind)
 rw [af] at s
 refine .inl ⟨_,_,?_,g',s⟩
 have ae:=Jb ok T w
 rw [<-hE] at ae hz
 simp only [execOp,ho]
 apply Z8w
 simp only [Instr.buildSlice,Sem.run_bind,run_underlying hU,Result.andThen_ok,ae]
 rw [JC]
 by_cases h0:n*cfg.sz T=0
 .simp only [h0,if_true]
  simp only [vs0,h0,if_true] at h7
  have u:Instr.fill (fun i=> some (i*cfg.sz T,cfg.sz T)) ((Array.range 0).map ((#[]:Array Value)[· % (#[]:Array Value).size]!)) (parts.map fun x=> (x.1,a.eval x.2)).toList=some vs':=by
   rw [Xs];exact h7
  simp only [Sem.run_bind,Sem.run_pure,Result.andThen_ok,u]
  try rfl
 .simp only [h0,if_false]
  simp only [vs0,h0,if_false] at h7
  have u:Instr.fill (fun i=> some (i*cfg.sz T,cfg.sz T)) ((Array.range (n*cfg.sz T)).map (z'.cells[· % z'.cells.size]!)) (parts.map fun x=> (x.1,a.eval x.2)).toList=some vs':=by
   rw [Xs];exact h7
  simp only [Sem.run_bind,Sem.run_pure,Result.andThen_ok,hz,u]
  try rfl
theorem Zh6 (ok:CfgOk P cfg) (h:Rel cfg B st g a w) {o:Oper} {t:TypeId} {p x:Operand} {ag:Bool} {zs new:List (C U)} {u:Tok} {y:LC U} {n off:Nat} {v:V U} {e:U.El y.T} (ho:o.op= .store t p x)
  (ht:cfg.var t=some (ag,zs)) (hp:RelV cfg g st.dead (fun nm=> (st.mem nm).isSome) (a.eval p) (.mp u n off)) (hv:RelV cfg g st.dead (fun nm=> (st.mem nm).isSome) (a.eval x) v)
  (hnew:v.cells=some new) (hy:st.ls u=some y) (hl:new.length=zs.length) (hf:y.f<=n)
  (hset:(Yx (cfg.enc y.T (y.l.getD n (cfg.dflt y.T))) off new).bind (cfg.dec y.T)=some e):
  Does P o a w fun v w'=> ∃ g',Out cfg B st g { ls:=[(u,⟨y.T,y.l.set n e,y.f⟩)] } v w' g':=by
 obtain ⟨b,len,bl,bn,ba,hn,a1,a6,bk,af,am⟩:=Ztf h hy hp
 obtain ⟨bc,_⟩:=h.ls u y hy
 obtain ⟨hs,_,_⟩:=Z31 ok ht w
 have ab:=hv.cells hnew
 cases hsc:Yx (cfg.enc y.T (y.l.getD n (cfg.dflt y.T))) off new with
 | none=> grind
 | some cs'=>
 rw [hsc] at hset
 have a3:cfg.dec y.T cs'=some e:=hset
 obtain ⟨bb,bm⟩:=ok.dec_ok _ _ _ a3
 have bf:y.l[n]?=some (y.l.getD n (cfg.dflt y.T)):=by simp [List.getD,Q2 hn]
 have bu:=ok.enc_len y.T (y.l.getD n (cfg.dflt y.T))
 have b3:off+new.length<=cfg.sz y.T:=by
  unfold Yx at hsc
  split at hsc
  .omega
  .cases hsc
 have bj:(a.eval x).cells.toList.length=new.length:=ab.1
 have ah:∀ j,j < cfg.sz y.T->∃ u' c,(cfg.enc y.T (y.l.getD n (cfg.dflt y.T)))[j]?=some c/\w.cell? (b.add (n*cfg.sz y.T+j))=some u'/\SimC cfg g.m u' c/\g.tag (b.add (n*cfg.sz y.T+j))=some (.tok u):=by
  intro j hj
  have hg:(cfg.enc y.T (y.l.getD n (cfg.dflt y.T)))[j]?=some ((cfg.enc y.T (y.l.getD n (cfg.dflt y.T)))[j]'V0):=Q2 _
  obtain ⟨u',h1,h2,_,h4⟩:=af n _ bf j _ hg
  exact ⟨u',_,hg,h1,h2,h4 hf⟩
 obtain ⟨w',h1,h2,h3,h4,h5,h6⟩:=Jg (P:=P) (b.add (n*cfg.sz y.T+off)) (a.eval x).cells.toList 0 w ab.one (by
  intro j hj
  rw [Go.Deep.add_add,QM]
  obtain ⟨u',_,_,hu,_,aa⟩:=ah (off+j) V0
  rw [show n*cfg.sz y.T+(off+j)=n*cfg.sz y.T+off+j by omega] at hu aa
  exact ⟨⟨u',hu⟩,(h.inv.it _ _ aa).1⟩)
 simp only [QM,Go.Deep.add_add] at h2 h3 h4
 refine .inr (.inl ⟨w',?_,g,?_⟩)
 .have a9:(a.eval x).cells.size=zs.length:=by simpa using bj.trans hl
  simp only [execOp,ho,ba]
  simp [Instr.storeAt,Instr.sureAddr,storeVar,hs,a9,h1]
 .have ai:∀ c,(∃ j,j < (a.eval x).cells.toList.length/\c=b.add (n*cfg.sz y.T+off+j))->g.tag c=some (.tok u):=by
   rintro c ⟨j,hj,rfl⟩
   obtain ⟨_,_,_,_,_,aa⟩:=ah (off+j) V0
   rw [show n*cfg.sz y.T+(off+j)=n*cfg.sz y.T+off+j by omega] at aa
   exact aa
  have ae:∀ c,g.tag c≠some (.tok u)->w'.cell? c=w.cell? c:=fun c hc=> h4 c fun j hj e=> hc (ai c ⟨j,hj,e⟩)
  have a5:∀ c v,g.m c=some v->w'.cell? c=some v:=fun c v hv=> by
   obtain ⟨s,h8⟩:=h.inv.im c v hv
   grind
  have ak:Zt st ({ ls:=[(u,⟨y.T,y.l.set n e,y.f⟩)] }:Eff U)=st.dead:=by funext t;simp [Zt]
  have ao:Keeps g g st.dead (Zt st ({ ls:=[(u,⟨y.T,y.l.set n e,y.f⟩)] }:Eff U)) (fun nm=> (st.mem nm).isSome) (Y6 st ({ ls:=[(u,⟨y.T,y.l.set n e,y.f⟩)] }:Eff U)):=by
   rw [ak];exact .refl _ _ _
  refine ⟨⟨fun c v hv=> ⟨a5 c v hv,(h.inv.im c v hv).2⟩,fun c t ay=> ?_⟩,?_,ao,?_,trivial,?_,?_⟩
  .obtain ⟨s,u',h8⟩:=h.inv.it c t ay
   grind
  .exact h.fr.step h.inv h2 (fun c hc=> ⟨_,ai c hc,fun t' e=> by cases e⟩) (fun _ _ h=> h) (fun _ _=> Qu) (fun _ _ _ _ _=> rfl) (fun _=> rfl)
  .rw [ak]
   intro nm bo hm j c hj
   obtain ⟨v0,b7,aa,b1⟩:=h.mem nm bo hm j c hj
   grind
  .intro t z hz
   rw [ak]
   unfold JR at hz
   simp only [Xv,cond_false,ZE] at hz
   split at hz
   .rename_i et
    subst et
    cases hz
    refine ⟨bc,.inr ⟨b,len,bl,bn,by simp [a1],a6,bk,?_,am⟩⟩
    intro i q hq j c hc
    simp only at hq hc ⊢
    have hj:j < cfg.sz y.T:=by have:=(Q4.1 hc).1;rw [ok.enc_len] at this;exact this
    by_cases hin:i=n
    .subst hin
     rw [XZ] at hq
     simp only [if_true,hn] at hq
     cases hq
     obtain ⟨u',c0,g1,g2,g3,g4⟩:=ah j hj
     have bp:cs'.length=cfg.sz y.T:=by rw [bb];exact ok.enc_len _ _
     have aw:cs'[j]?=some (cs'[j]'V0):=Q2 _
     have a4:=bm j _ c aw hc
     have d:cs'[j]?=if off<=j/\j < off+new.length then new[j - off]? else (cfg.enc y.T (y.l.getD i (cfg.dflt y.T)))[j]?:=by
      unfold Yx at hsc
      rw [YC] at hsc
      simp only [Option.some.injEq] at hsc
      rw [<-hsc,Ql,QE]
      simp only [Qm]
      rw [X8 V0]
      split
      .grind
      .rename_i s
       rw [QE]
       split
       .rename_i h8;grind
       .rename_i h8
        rw [JC,Qq]
        congr 1;omega
     rw [aw] at d
     split at d
     .rename_i hr
      have a2:(a.eval x).cells.toList[j - off]?=some ((a.eval x).cells.toList[j - off]'V0):=Q2 _
      have s:=h3 (j - off) _ a2
      rw [show i*cfg.sz y.T+off+(j - off)=i*cfg.sz y.T+j by omega] at s
      exact ⟨_,s,(ab.2 _ _ _ a2 d.symm).1.wk a4,fun hi=> by omega,fun _=> g4⟩
     .rename_i hr
      rw [g1] at d
      cases d
      refine ⟨u',?_,g3.wk a4,fun hi=> by omega,fun _=> g4⟩
      rw [h4 _ fun j' be e=> by have:=Z1r e;omega]
      exact g2
    .rw [List.getElem?_set_ne (Ne.symm hin)] at hq
     obtain ⟨u',g1,g2,g3,g4⟩:=af i q hq j c hc
     refine ⟨u',?_,g2,g3,g4⟩
     rw [h4 _ fun j' be e=> by
      have:=Z1r e
      rcases Xr i n with hlt | hge
      .have:(i+1)*cfg.sz y.T<=n*cfg.sz y.T:=Qd _ hlt
       grind
      .have:(n+1)*cfg.sz y.T<=i*cfg.sz y.T:=Qd _ V0
       grind]
     exact g1
   .rename_i b4
    obtain ⟨s,h8⟩:=h.ls t z hz
    exact ⟨s,h8.keep (.refl g st.dead (fun _=> true)) s a5 (fun c ay=> ae c (by grind))⟩
  .rw [ak]
   intro t h0 s h8
   unfold JR at s
   simp only [Xv,cond_false,ZE] at s
   split at s
   .cases s
   .exact h.fresh t h0 s h8
end Go.AM
namespace Go.AM
variable {U:Uni} {P:Program} {cfg:Cfg U} {B:Base} {st:FSt U} {g:Gh} {a:Act} {w:World}
def ZX:Tok->Bool:=fun _=> false
def Z9h(X:List (List (C U))):Name->Bool
 | .x k=> (X[k]?).isSome
 | .loc _=> false
structure Entry (cfg:Cfg U) (w:World) (g:Gh) (vs:List Value) (args:List (V U)) (X:List (List (C U))) (L:List (Tok × LC U)):Prop where
 inv:Inv g.m g.tag w
 tags:∀ a t,g.tag a=some t->(∃ t',t= .outer t')\/(∃ k,t= .obj (.x k))\/∃ u,t= .tok u
 len:vs.length=args.length
 args:∀ (j:Nat) v x,vs[j]?=some v->args[j]?=some x->RelV cfg g ZX (Z9h X) v x
 x:∀ (k:Nat) cs,X[k]?=some cs->∀ (j:Nat) c,cs[j]?=some c->∃ v,w.cell? ((g.ad (.x k)).add j)=some v/\g.tag ((g.ad (.x k)).add j)=some (.obj (.x k))/\RelC cfg g ZX v c
 bs:∀ t,t.isR=true->g.bs t=none
 ls:∀ t x,ZE (fun _=> none) L t=some x->LRel cfg w g t x
structure Leave (cfg:Cfg U) (w:World) (g:Gh) (w':World) (g':Gh) (v:Value) (r:V U) (X:List (List (C U))) (L:List (Tok × LC U)):Prop where
 inv:Inv g'.m g'.tag w'
 fr:Fr ⟨w,g.m,g.tag,fun k=> g'.ad (.x k)⟩ g' w'
 tags:∀ a t,g'.tag a=some t->(∃ t',t= .outer t')\/(∃ k,k < X.length/\t= .obj (.x k))\/∃ u,t= .tok u
 ad:∀ k,r≠.ptr (.x k) 0->g'.ad (.x k)=g.ad (.x k)
 val:RelV cfg g' ZX (fun _=> false) v r
 x:∀ (k:Nat) cs,X[k]?=some cs->∀ (j:Nat) c,cs[j]?=some c->∃ v,w'.cell? ((g'.ad (.x k)).add j)=some v/\g'.tag ((g'.ad (.x k)).add j)=some (.obj (.x k))/\RelC cfg g' ZX v c
 ls:∀ t x,ZE (fun _=> none) L t=some x->LRel cfg w' g' t x
def Contract(P:Program)(cfg:Cfg U)(f:FuncId)(s:Fs U):Prop:=
 (∃ fn, P.funcs[f]? = some fn ∧ fn.body.isSome = true ∧ (fn.name == "runtime.NumGoroutine") = false) ∧
 ∀ args X L ps r X' L',s.fn2 args X L=some (ps,r,X',L')->All ps->X'.length<=X.length+1->∀ w g vs,Entry cfg w g vs args X L->
  Calls P f vs.toArray w fun e w'=> ∃ v g',e= .returned v/\Leave cfg w g w' g' v r X' L'
def ZvR(P:Program)(cfg:Cfg U)(f:FuncId)(s:Fs U):Prop:=
 ∀ args X ps r X',s.fn args X=some (ps,r,X')->All ps->X'.length<=X.length+1->∀ w g vs,Entry cfg w g vs args X []->
  Calls P f vs.toArray w fun e w'=> ∃ v g',e= .returned v/\Leave cfg w g w' g' v r X' []
theorem Z3i {f : FuncId} {s : Fs U} (h0 : ∃ fn, P.funcs[f]? = some fn ∧ fn.body.isSome = true ∧ (fn.name == "runtime.NumGoroutine") = false) (hd : s.fn2 = Zf8 s.fn) (h : ZvR P cfg f s) : Contract P cfg f s := by
 refine ⟨h0,fun args X L ps r X' L' d=> ?_⟩
 rw [hd] at d
 unfold Zf8 at d
 split at d
 .split at d
  .rename_i u
   cases d
   exact h args X _ _ _ u
  .cases d
 .cases d
theorem Contract.one{f:FuncId}{s:Fs U}(h:Contract P cfg f s)(hd:s.fn2=Zf8 s.fn):ZvR P cfg f s:=by
 intro args X d r X' u
 exact h.2 args X [] d r X' [] (by rw [hd];simp only [Zf8,u])
theorem SimC.tl{m:Addr->Option Value}{v:Value}{T:U.Ty}{l:List (U.El T)}{tl:Tail}(tl':Tail)(h:SimC cfg m v (.slice T l tl)):SimC cfg m v (.slice T l tl'):=by
 cases h with
 | snil=> exact .snil T tl'
 | slice _ _ _ b len cap vs hl hc hm hs=> exact .slice T l tl' b len cap vs hl hc hm hs
def Ext(s s':List (Tok × Tok)):Prop:=(∀ t t':Tok,YI s t=some t'->YI s' t=some t')/\∀ t t':Tok,Z0Q s t=some t'->Z0Q s' t=some t'
theorem Ext.refl(s:List (Tok × Tok)):Ext s s:=⟨fun _ _ h=> h,fun _ _ h=> h⟩
theorem Ext.trans{a b c:List (Tok × Tok)}(h:Ext a b)(k:Ext b c):Ext a c:=⟨fun t s d=> k.1 _ _ (h.1 _ _ d),fun t s d=> k.2 _ _ (h.2 _ _ d)⟩
theorem Ext.cons{seen:List (Tok × Tok)}{t nm:Tok}(h1:YI seen t=none)(h2:Z0Q seen nm=none):Ext seen ((t,nm) ::seen):=by
 refine ⟨fun u h d=> ?_,fun u h d=> ?_⟩
 .simp only [YI]
  grind
 .simp only [Z0Q]
  grind
theorem ZeA:∀ {s:List (Tok × Tok)} {t t':Tok},YI s t=some t'->(s.map (·.1)).contains t=true
 | (x,y) ::r,t,t',h=> by
  simp only [YI] at h
  split at h
  .grind
  .have:=ZeA h
   grind
def ZgN(g:Gh)(s:List (Tok × Tok))(t:Tok):Option (Value × Nat):=
 match Z0Q s t with
 | none=> none
 | some u=> g.bs u
def Gh.callee(g:Gh)(nx:Name->Option Nat)(s:List (Tok × Tok))(ax:Nat->Addr):Gh:=
 {m:=g.m
  tag:=fun c=> match g.tag c with
   | some (.obj nm)=> match nx nm with
    | some k=> some (.obj (.x k))
    | none=> some (.outer (.obj nm))
   | some (.tok t)=> match YI s t with
    | some t'=> some (.tok t')
    | none=> some (.outer (.tok t))
   | some (.outer t)=> some (.outer (.outer t))
   | none=> none
  ad:=fun nm=> match nm with
   | .x k=> ax k
   | .loc s=> g.ad (.loc s)
  bs:=fun t=> if t.isR=true then none else ZgN g s t }
theorem Z0F{m:Tok->Option (LC U)}{s:List (Tok × Tok)}:∀ (l:List Tok) {t:Tok} {x:LC U},ZE (fun _=> none) (Z0e m s l) t=some x->∃ u,Z0Q s t=some u/\YI s u=some t/\m u=some x/\t.isR=false
 | [],t,x,h=> by trivial
 | t0 ::l,t,x,h=> by
  simp only [Z0e] at h
  split at h
  .rename_i u hu
   split at h
   .rename_i t' y h1 h2
    split at h
    .rename_i hc
     obtain ⟨d,aa⟩:=hc
     subst d
     simp only [ZE] at h
     split at h
     .grind
     .exact Z0F l h
    .exact Z0F l h
   .exact Z0F l h
  .exact Z0F l h
section pass
variable {nx:Name->Option Nat} {ax:Nat->Addr}
structure Ren (ok:Tok->Bool) (g:Gh) (s:List (Tok × Tok)) (g2:Gh):Prop where
 m:g2.m=g.m
 tok:∀ c t t',g.tag c=some (.tok t)->YI s t=some t'->g2.tag c=some (.tok t')
 bs:∀ t t' v,ok t=true->Z0Q s t=some t'->g.bs t'=some v->g2.bs t=some v
def Z2U(t:Tok):Bool:= !t.isR
theorem Gh.callee_ren(s:List (Tok × Tok)):Ren Z2U g s (g.callee nx s ax):=
 ⟨rfl,fun c t u d h=> by simp only [Gh.callee,d,h],fun t u v d h h3=> by
  simp only [Z2U,QS] at d
  simp only [Gh.callee,d,ZgN,h]
  exact h3⟩
theorem Z7N{okT mine:Tok->Bool}{nm:Tok}{c:C U}{seen:List (Tok × Tok)}(hmine:∀ t,mine t=true->st.dead t=false)(hok:okT nm=true):
  Ext seen (Z0b mine nm c seen).2/\∀ h,Ext (Z0b mine nm c seen).2 h->∀ u,Ren okT g h u->∀ v,RelC cfg g st.dead v c->RelC cfg u ZX v (Z0b mine nm c seen).1:=by
 unfold Z0b
 split
 .rename_i T l t
  split
  .rename_i hc
   simp only [Q0,QG] at hc
   refine ⟨Ext.cons hc.1.2 hc.2,fun h hs u s v d=> ⟨by rw [s.m];exact d.1.tl _,?_⟩⟩
   intro _ b len aa hv j h1 h2
   have h3:=d.2 (hmine t hc.1.1) b len aa hv j h1 h2
   have h4:YI h t=some nm:=hs.1 t nm (by simp [YI])
   exact s.tok _ _ _ h3 h4
  .exact ⟨.refl _,fun h _ u s v d=> ⟨by rw [s.m];exact d.1.tl _,trivial⟩⟩
 .rename_i t
  split
  .rename_i hc
   simp only [Q0,QG] at hc
   refine ⟨Ext.cons hc.1.2 hc.2,fun h hs u s v d=> ⟨.mref _ _ d.1.one,fun _=> ?_⟩⟩
   obtain ⟨sz,h3⟩:=d.2 (hmine t hc.1.1)
   have h4:Z0Q h nm=some t:=hs.2 nm t (by simp [Z0Q])
   exact ⟨sz,s.bs _ _ _ hok h4 h3⟩
  .exact ⟨.refl _,fun h _ u s v d=> ⟨.jk _ d.1.one,trivial⟩⟩
 .exact ⟨.refl _,fun h _ u s v d=> ⟨.jk _ d.1.one,trivial⟩⟩
 .rename_i ak ai aj
  refine ⟨.refl _,fun h _ u s v d=> ⟨by rw [s.m];exact d.1,?_⟩⟩
  have h2:=d.2
  cases c with
  | slice T l tl=>
   cases tl with
   | unk=> trivial
   | full=> exact h2
   | own t=> grind
  | mref t=> grind
  | xp k=> grind
  | _=> trivial
theorem Z6e{okT mine:Tok->Bool}{nm:Nat->Tok}(hmine:∀ t,mine t=true->st.dead t=false)(hok:∀ j,okT (nm j)=true):∀ (cs:List (C U)) (j:Nat) (seen:List (Tok × Tok)),
  Ext seen (YU mine nm j cs seen).2/\(YU mine nm j cs seen).1.length=cs.length/\
   ∀ h,Ext (YU mine nm j cs seen).2 h->∀ s,Ren okT g h s->∀ (i:Nat) v c u,cs[i]?=some c->(YU mine nm j cs seen).1[i]?=some u->RelC cfg g st.dead v c->RelC cfg s ZX v u
 | [],j,seen=> ⟨.refl _,rfl,fun h _ s _ i v c u hc=> by simp at hc⟩
 | c ::cs,j,seen=> by
  obtain ⟨h1,h2⟩:=Z7N (cfg:=cfg) (g:=g) (okT:=okT) (nm:=nm j) (c:=c) (seen:=seen) hmine (hok j)
  obtain ⟨h3,h4,h5⟩:=Z6e (okT:=okT) (mine:=mine) (nm:=nm) hmine hok cs (j+1) (Z0b mine (nm j) c seen).2
  refine ⟨h1.trans h3,by simp [YU,h4],fun h hs s hg i v c0 u hc d hr=> ?_⟩
  cases i with
  | zero=>
   simp [YU] at hc d
   subst hc d
   exact h2 h (h3.trans hs) s hg v hr
  | succ i=>
   simp [YU] at hc d
   exact h5 h hs s hg i v c0 u hc d hr
theorem Zq6{mine:Tok->Bool}{nm:Tok}{c:C U}{seen:List (Tok × Tok)}(hmine:∀ t,mine t=true->st.dead t=false)(hok:Z2U nm=true):
  Ext seen (Z0b mine nm c seen).2/\∀ d,Ext (Z0b mine nm c seen).2 d->∀ v,RelC cfg g st.dead v c->RelC cfg (g.callee nx d ax) ZX v (Z0b mine nm c seen).1:=
 let ⟨h1,h2⟩:=Z7N (cfg:=cfg) (g:=g) (nm:=nm) (c:=c) (seen:=seen) hmine hok
 ⟨h1,fun d s v h=> h2 d s _ (Gh.callee_ren d) v h⟩
theorem ZjC{mine:Tok->Bool}{nm:Nat->Tok}(hmine:∀ t,mine t=true->st.dead t=false)(hok:∀ j,Z2U (nm j)=true)(cs:List (C U))(j:Nat)(seen:List (Tok × Tok)):
  Ext seen (YU mine nm j cs seen).2/\(YU mine nm j cs seen).1.length=cs.length/\
   ∀ d,Ext (YU mine nm j cs seen).2 d->∀ (i:Nat) v c c',cs[i]?=some c->(YU mine nm j cs seen).1[i]?=some c'->RelC cfg g st.dead v c->RelC cfg (g.callee nx d ax) ZX v c':=
 let ⟨h1,h2,h3⟩:=Z6e (cfg:=cfg) (g:=g) (mine:=mine) (nm:=nm) hmine hok cs j seen
 ⟨h1,h2,fun d s i v c c' hc h u=> h3 d s _ (Gh.callee_ren d) i v c c' hc h u⟩
theorem Zt0{mine:Tok->Bool}{nm:Nat->Tok}{live lx:Name->Bool}(hmine:∀ t,mine t=true->st.dead t=false)(hok:∀ j,Z2U (nm j)=true){x x':V U}{seen seen':List (Tok × Tok)}(he:Zt1 mine nm x seen=some (x',seen')):
  Ext seen seen'/\∀ d,Ext seen' d->∀ v,RelV cfg g st.dead live v x->RelV cfg (g.callee nx d ax) ZX lx v x':=by
 unfold Zt1 at he
 split at he
 .rename_i c
  simp only [oP] at he
  obtain ⟨rfl,rfl⟩:=he
  obtain ⟨h1,h2⟩:=Zq6 (cfg:=cfg) (g:=g) (nx:=nx) (ax:=ax) (nm:=nm 0) (c:=c) (seen:=seen) hmine (hok 0)
  trivial
 .rename_i cs
  simp only [oP] at he
  obtain ⟨rfl,rfl⟩:=he
  obtain ⟨s,h4,h5⟩:=ZjC (cfg:=cfg) (g:=g) (nx:=nx) (ax:=ax) (mine:=mine) (nm:=nm) hmine hok cs 0 seen
  refine ⟨s,fun d hs v h=> ?_⟩
  obtain ⟨vs,rfl,hl,hh⟩:=h
  refine ⟨vs,rfl,V0,fun j u c hu hc=> ?_⟩
  grind
 .rename_i f
  simp only [oP] at he
  obtain ⟨rfl,rfl⟩:=he
  exact ⟨.refl _,fun d _ v h=> h⟩
 .cases he
def ZpH(os:List (Name × List (C U))):Prop:=∀ (i j:Nat) x y,os[i]?=some x->os[j]?=some y->x.1=y.1->i=j
theorem Z5J:∀ {os:List (Name × List (C U))} {nm:Name} {i:Nat} {x:Name × List (C U)},os[i]?=some x->x.1=nm->Zaf os nm=true
 | (b,cs) ::os,nm,0,x,h,e=> by simp at h;subst h;simp [Zaf];exact .inl e
 | (b,cs) ::os,nm,i+1,x,h,e=> by
  simp at h
  simp only [Zaf,Z5J h e]
  split <;> rfl
theorem Z5r:∀ {os:List (Name × List (C U))} {k:Nat} {nm:Name} {i:Nat},JQ os k nm=some i->∃ x,k<=i/\os[i - k]?=some x/\x.1=nm
 | (b,cs) ::os,k,nm,i,h=> by
  simp only [JQ] at h
  split at h
  .simp_all
  .obtain ⟨x,s,u,d⟩:=Z5r h
   grind
theorem Zgq:∀ {os:List (Name × List (C U))} {k:Nat} {nm:Name} {i:Nat} {x:Name × List (C U)},ZpH os->os[i]?=some x->x.1=nm->JQ os k nm=some (k+i)
 | (b,cs) ::os,k,nm,0,x,_,h,e=> by simp at h;subst h;simp [JQ];grind
 | (b,cs) ::os,k,nm,i+1,x,hap,h,e=> by
  simp only [JQ]
  rw [if_neg (fun u=> by have:=hap 0 (i+1) (b,cs) x rfl h (by simp [u,e]);omega)]
  have:=Zgq (k:=k+1) (nm:=nm) (fun i j x y s hy d=> by have:=hap (i+1) (j+1) x y (by simpa using s) (by simpa using hy) d;omega) (by simpa using h) e
  grind
theorem ZjP{os:List (Name × List (C U))}{nm:Name}(h:∀ (i:Nat) x,os[i]?=some x->x.1≠nm)(k:Nat):JQ os k nm=none:=by
 cases hn:JQ os k nm with
 | none=> rfl
 | some i=>
  obtain ⟨x,_,s,d⟩:=Z5r hn
  grind
theorem Z5m{ps:Nat->Bool}:∀ (xs:List (V U)) (i:Nat) (os:List (Name × List (C U))) (seen:List (Tok × Tok)) (ys:List (V U)) (os':List (Name × List (C U))) (seen':List (Tok × Tok)),
  YG st ps i xs os seen=some (ys,os',seen')->ZpH os->
  Ext seen seen'/\(∃ ae,os'=os++ae)/\ZpH os'/\ys.length=xs.length/\
  (∀ (k:Nat) x,os'[k]?=some x->os.length<=k->∃ cs,st.mem x.1=some cs/\x.2.length=cs.length/\
   ∀ s',Ext seen' s'->∀ nx ax (i:Nat) v c c',cs[i]?=some c->x.2[i]?=some c'->RelC cfg g st.dead v c->RelC cfg (g.callee nx s' ax) ZX v c')/\
  (∀ s',Ext seen' s'->∀ nx ax,(∀ (k:Nat) x,os'[k]?=some x->ax k=g.ad x.1)->∀ (j:Nat) v x y,xs[j]?=some x->ys[j]?=some y->RelV cfg g st.dead (fun nm=> (st.mem nm).isSome) v x->
   RelV cfg (g.callee nx s' ax) ZX (fun nm=> match nm with | .x k=> (os'[k]?).isSome | .loc _=> false) v y)
 | [],i,os,seen,ys,os',seen',h,hap=> by
  simp only [YG,oP] at h
  obtain ⟨rfl,rfl,rfl⟩:=h
  exact ⟨.refl _,⟨[],by simp⟩,hap,rfl,fun k x d hk=> by grind,fun s' _ nx ax _ j v x y d=> by simp at d⟩
 | x0 ::xs,i,os,seen,ys,os',seen',h,hap=> by
  simp only [YG] at h
  split at h
  .rename_i nm mk hp
   split at h
   .cases h
   .rename_i cs ay
    split at h
    .cases h
    .rename_i ar
     split at h
     .rename_i vs am s1 af
      simp only [oP] at h
      obtain ⟨rfl,rfl,rfl⟩:=h
      have s:∀ t,(fun t=> !st.dead t) t=true->st.dead t=false:=fun t ht=> by simpa using ht
      have ak:ZpH (os++[(nm,(YU (fun t=> !st.dead t) (.x os.length) 0 cs seen).1)]):=by
       intro p q x y d hy he
       rw [QE] at d hy
       have u:∀ (r:Nat) (z z0:Name × List (C U)),[z0][r]?=some z->r=0/\z=z0:=by
        intro r z z0 hz
        cases r with
        | zero=> simp at hz;exact ⟨rfl,hz.symm⟩
        | succ r=> simp at hz
       split at d <;> split at hy
       .exact hap p q x y d hy he
       .obtain ⟨_,rfl⟩:=u _ _ _ hy
        exact absurd (Z5J d he) ar
       .obtain ⟨_,rfl⟩:=u _ _ _ d
        exact absurd (Z5J hy he.symm) ar
       .grind
      obtain ⟨r1,⟨ae,r2⟩,r3,r4,r5,r6⟩:=Z5m xs (i+1) _ _ _ _ _ af ak
      have hC:=fun nx ax=> ZjC (cfg:=cfg) (g:=g) (nx:=nx) (ax:=ax) (mine:=fun t=> !st.dead t) (nm:= .x os.length) s (fun _=> rfl) cs 0 seen
      have ai:am[os.length]?=some (nm,(YU (fun t=> !st.dead t) (.x os.length) 0 cs seen).1):=by
       rw [r2,Ql,Qv (Qc _)];simp
      refine ⟨(hC (fun _=> none) (fun _=> ⟨0,0,none⟩)).1.trans r1,⟨(nm,(YU (fun t=> !st.dead t) (.x os.length) 0 cs seen).1) ::ae,by rw [r2];simp⟩,r3,by simp [r4],?_,?_⟩
      .intro k x d hk
       by_cases e:k=os.length
       .subst e
        rw [ai] at d
        cases d
        exact ⟨cs,ay,(hC (fun _=> none) (fun _=> ⟨0,0,none⟩)).2.1,fun s' hs nx ax q v c c' h1 h2 h3=> (hC nx ax).2.2 s' (r1.trans hs) q v c c' h1 h2 h3⟩
       .exact r5 k x d (by simp;omega)
      .intro s' hs nx ax ah j v x y d hy hr
       cases j with
       | zero=>
        simp at d hy
        subst d hy
        have:=ah _ _ ai
        simp only at this
        cases x0 <;> simp only [Zq4,reduceCtorEq] at hp
        case ptr nm0 off0=>
         cases hp
         obtain ⟨_,rfl⟩:=hr
         exact ⟨by simp [ai],by simp [Gh.callee,this]⟩
        case clo f0 nms0=>
         split at hp
         .grind
         .rename_i f1 bc a1
          cases a1
          cases hp
          obtain ⟨_,rfl⟩:=hr
          refine ⟨fun n hn=> ?_,by simp [Gh.callee,this]⟩
          grind
         .cases hp
       | succ j=> exact r6 s' hs nx ax ah j v x y (by simpa using d) (by simpa using hy) hr
     .cases h
  .rename_i hp
   split at h
   .cases h
   .rename_i v' a5 hv
    split at h
    .rename_i vs am s1 af
     simp only [oP] at h
     obtain ⟨rfl,rfl,rfl⟩:=h
     obtain ⟨r1,r2,r3,r4,r5,r6⟩:=Z5m xs (i+1) _ _ _ _ _ af hap
     have s:∀ t,(fun t=> ps i && !st.dead t) t=true->st.dead t=false:=fun t ht=> by grind
     have hV:=fun nx ax lx=> Zt0 (cfg:=cfg) (g:=g) (nx:=nx) (ax:=ax) (live:=fun nm=> (st.mem nm).isSome) (lx:=lx) s (fun _=> rfl) hv
     refine ⟨(hV (fun _=> none) (fun _=> ⟨0,0,none⟩) (fun _=> true)).1.trans r1,r2,r3,by simp [r4],r5,?_⟩
     intro s' hs nx ax ah j v x y d hy hr
     cases j with
     | zero=>
      simp at d hy
      subst d hy
      exact (hV nx ax _).2 s' (r1.trans hs) v hr
     | succ j=> grind
    .cases h
end pass
def Gh.back(g':Gh)(os:List (Name × List (C U)))(d:Nat)(ad:Name->Addr)(L:List (Tok × LC U))(bs:Tok->Option (Value × Nat)):Gh:=
 {m:=g'.m
  tag:=fun c=> match g'.tag c with
   | some (.outer t)=> some t
   | some (.obj (.x k))=> (os[k]?).map fun x=> .obj x.1
   | some (.tok t)=> (ZZ d t).map .tok
   | _=> none
  ad:=ad
  bs:=fun t=> match bs t with
   | some v=> some v
   | none=> match Z18 d t with
    | some t'=> match ZE (fun _=> none) L t' with
     | some _=> g'.bs t'
     | none=> none
    | none=> none }
theorem Z2W{d:Nat}{t t':Tok}(h:ZZ d t=some t'):Z18 d t'=some t:=by
 unfold ZZ at h
 split at h
 .rename_i j
  cases h
  simp only [Z18,if_true]
  grind
 .rename_i k j
  split at h
  .rename_i s
   cases h
   simp only [Z18,if_true]
   grind
  .cases h
 .cases h
section back
variable {g':Gh} {os:List (Name × List (C U))} {d:Nat} {ad:Name->Addr} {L:List (Tok × LC U)} {bs:Tok->Option (Value × Nat)} {dead:Tok->Bool} {live lv:Name->Bool} {fx:Nat->Option Nat}
theorem RelC.back(hbs:∀ t t',Z0p d L t=some t'->bs t'=none)(hx:∀ k k',fx k=some k'->g'.ad (.x k)=ad (.x k')){v:Value}{c:C U}(h:RelC cfg g' ZX v c):RelC cfg (g'.back os d ad L bs) dead v (c.mapTok (ZZ d) (Z0p d L) fx):=by
 obtain ⟨s,h2⟩:=h
 cases c with
 | slice T l tl=>
  cases tl with
  | unk=> trivial
  | full=> trivial
  | own t=>
   simp only [C.mapTok]
   cases hb:ZZ d t with
   | none=> exact ⟨s.tl _,trivial⟩
   | some t'=>
    refine ⟨s.tl _,fun _ b len u hv j ab ae=> ?_⟩
    have:=h2 rfl b len u hv j ab ae
    simp only [Gh.back,this,hb,Qf]
 | mref t=>
  simp only [C.mapTok]
  cases hb:Z0p d L t with
  | none=> exact ⟨.jk _ s.one,trivial⟩
  | some t'=>
   refine ⟨.mref _ _ s.one,fun _=> ?_⟩
   obtain ⟨sz,hs⟩:=h2 rfl
   refine ⟨sz,?_⟩
   have h0:=hbs t t' hb
   unfold Z0p at hb
   cases hL:ZE (fun _=> none) L t with
   | none=> grind
   | some x=>
    rw [hL] at hb
    simp only [Gh.back,h0,Z2W hb,hL,hs]
 | xp k=>
  simp only [C.mapTok]
  cases hk:fx k with
  | none=> exact ⟨.jk _ s.one,trivial⟩
  | some k'=>
   refine ⟨.xp _ _ s.one,?_⟩
   have h3:v= .pointer (some (g'.ad (.x k))):=h2
   show v= .pointer (some (ad (.x k')))
   grind
 | _=> trivial
theorem RelL.back(hbs:∀ t t',Z0p d L t=some t'->bs t'=none)(hx:∀ k k',fx k=some k'->g'.ad (.x k)=ad (.x k')){vs:List Value}{cs:List (C U)}(h:RelL cfg g' ZX vs cs):RelL cfg (g'.back os d ad L bs) dead vs (cs.map (C.mapTok (ZZ d) (Z0p d L) fx)):=by
 refine ⟨by simp [h.1],fun j v c s hc=> ?_⟩
 rw [Qx] at hc
 cases hcj:cs[j]? with
 | none=> grind
 | some c0=>
  simp [hcj] at hc
  subst hc
  exact (h.2 j v c0 s hcj).back hbs hx
theorem RelV.back(hbs:∀ t t',Z0p d L t=some t'->bs t'=none)(hx:∀ k k',fx k=some k'->g'.ad (.x k)=ad (.x k')){v:Value}:∀ {x:V U},RelV cfg g' ZX (fun _=> false) v x->RelV cfg (g'.back os d ad L bs) dead live v (x.mapTok (ZZ d) (Z0p d L) fx)
 | .c x,h=> RelC.back hbs hx (c:=x) h
 | .agg cs,h=> by obtain ⟨vs,h1,h2⟩:=h;exact ⟨vs,h1,h2.back hbs hx⟩
 | .tup ws,h=> by
  obtain ⟨vs,h1,h2,h3⟩:=h
  refine ⟨vs,h1,by simp [h2],fun j u w hu hw=> ?_⟩
  rw [Qx] at hw
  cases hj:ws[j]? with
  | none=> grind
  | some w0=>
   simp [hj] at hw
   subst hw
   have:=h3 j u w0 hu hj
   obtain ⟨ag,cs⟩:=w0
   cases ag with
   | true=> obtain ⟨vs,s,h5⟩:=this;exact ⟨vs,s,h5.back hbs hx⟩
   | false=> obtain ⟨c,s,h5⟩:=this;simp only at s;subst s;exact ⟨_,rfl,h5.back hbs hx⟩
 | .ptr ..,_=> trivial
 | .ap ..,_=> trivial
 | .ep cs,h=> by
  obtain ⟨b,h1,h2⟩:=h
  refine ⟨b,h1,fun j c hc=> ?_⟩
  rw [Qx] at hc
  cases hcj:cs[j]? with
  | none=> grind
  | some c0=>
   simp [hcj] at hc
   subst hc
   obtain ⟨u,h3,s⟩:=h2 j c0 hcj
   exact ⟨u,h3,s.back hbs hx⟩
 | .fn f,h=> h
 | .mp ..,_=> trivial
 | .vw ..,_=> trivial
 | .clo ..,_=> trivial
 | .gd b x,h=> ⟨fun hb=> RelV.back hbs hx (h.1 hb),h.2⟩
 | .nb _ _,h=> h
 | .junk,_=> trivial
end back
theorem ZbZ{d:Nat}:∀ {L l:List (Tok × LC U)},Z0A st d L=some l->
  (∀ t x,ZE (fun _=> none) L t=some x->∃ s,ZZ d t=some s/\st.ls s=none/\st.dead s=false/\ZE st.ls l s=some x)/\
  (∀ s x,ZE st.ls l s=some x->(st.ls s=some x/\∀ t,ZZ d t=some s->ZE (fun _=> none) L t=none)\/∃ t,ZE (fun _=> none) L t=some x/\ZZ d t=some s/\st.dead s=false)
 | [],l,h=> by
  simp only [Z0A,Option.some.injEq] at h
  subst h
  exact ⟨fun t x u=> by trivial,fun s x u=> .inl ⟨u,fun t _=> rfl⟩⟩
 | (t0,x0) ::L,l,h=> by
  simp only [Z0A] at h
  split at h
  case h_2=> cases h
  rename_i t1 l1 h1 h2
  split at h
  case isFalse=> cases h
  rename_i hc
  simp only [Q0,QG,QS] at hc
  simp only [Option.some.injEq] at h
  subst h
  obtain ⟨ah,ae⟩:=ZbZ h2
  have inj:∀ {t:Tok},ZZ d t=some t1->t=t0:=by
   intro t ht
   have e1:=Z2W ht
   have e2:=Z2W h1
   rw [e1] at e2
   exact Option.some.inj e2
  refine ⟨fun t x u=> ?_,fun s x u=> ?_⟩
  .simp only [ZE] at u
   split at u
   .rename_i e
    subst e
    cases u
    exact ⟨t1,h1,hc.1,hc.2,by simp [ZE]⟩
   .rename_i e
    obtain ⟨s,g1,g2,g3,g4⟩:=ah t x u
    refine ⟨s,g1,g2,g3,?_⟩
    simp only [ZE]
    grind
  .simp only [ZE] at u
   split at u
   .rename_i e
    subst e
    cases u
    exact .inr ⟨t0,by simp [ZE],h1,hc.2⟩
   .rename_i e
    rcases ae s x u with ⟨g1,g2⟩ | ⟨t,g1,g2,g3⟩
    .refine .inl ⟨g1,fun t ht=> ?_⟩
     simp only [ZE]
     grind
    .refine .inr ⟨t,?_,g2,g3⟩
     simp only [ZE]
     grind
theorem Z9a{d:Nat}{L:List (Tok × LC U)}{fx:Nat->Option Nat}:∀ {os:List (Name × List (C U))} {xs:List (List (C U))} {m:List (Name × List (C U))},Z6n d L fx os xs=some m->
  xs.length=os.length/\m.length=os.length/\∀ (k:Nat) x cs,os[k]?=some x->xs[k]?=some cs->m[k]?=some (x.1,cs.map (C.mapTok (ZZ d) (Z0p d L) fx))
 | [],[],m,h=> by simp only [Z6n,Option.some.injEq] at h;grind
 | (nm,_) ::os,cs0 ::xs,m,h=> by
  simp only [Z6n] at h
  cases hr:Z6n d L fx os xs with
  | none=> simp [hr] at h
  | some m'=>
   simp only [hr,Qf,Option.some.injEq] at h
   subst h
   obtain ⟨s,h2,u⟩:=Z9a hr
   grind
theorem Z00(m0:Name->Option (List (C U))):∀ (m:List (Name × List (C U))) (nm:Name),(∃ (k:Nat) (cs:List (C U)),m[k]?=some (nm,cs)/\ZK m0 m nm=some cs)\/((∀ (k:Nat) x,m[k]?=some x->x.1≠nm)/\ZK m0 m nm=m0 nm)
 | [],nm=> .inr ⟨fun k x d=> by simp at d,rfl⟩
 | (a,cs) ::r,nm=> by
  simp only [ZK]
  split
  .rename_i e
   subst e
   exact .inl ⟨0,cs,rfl,rfl⟩
  .rename_i e
   rcases Z00 m0 r nm with ⟨k,cs',h1,h2⟩ | ⟨h1,h2⟩
   .exact .inl ⟨k+1,cs',by simpa using h1,h2⟩
   grind
theorem Zgx{d:List Operand}{vs:List (V U)}(hm:d.mapM st.opnd=some vs)(hop:∀ x∈d,∀ v,st.opnd x=some v->RelV cfg g st.dead (fun nm=> (st.mem nm).isSome) (a.eval x) v):
  (d.map a.eval).length=vs.length/\∀ (j:Nat) u x,(d.map a.eval)[j]?=some u->vs[j]?=some x->RelV cfg g st.dead (fun nm=> (st.mem nm).isSome) u x:=by
 have s:∀ {d:List Operand} {vs:List (V U)},d.mapM st.opnd=some vs->d.length=vs.length:=by
  intro d
  induction d with
  | nil=> grind
  | cons y d ih=>
   intro vs h
   rw [QV] at h
   cases h1:st.opnd y with
   | none=> simp [h1] at h
   | some v=>
    cases h2:d.mapM st.opnd with
    | none=> grind
    | some r=>
     simp [h1,h2] at h
     grind
 refine ⟨by simp [s hm],fun j u x hu hx=> ?_⟩
 rw [Qx] at hu
 cases hj:d[j]? with
 | none=> grind
 | some y=>
  simp [hj] at hu
  subst hu
  obtain ⟨v,h1,h2⟩:=Z5w hm j y hj
  grind
theorem Zks(os:List (Name × List (C U))):∀ (cs0 cs:List (C U)),cs.length=cs0.length->(Zkt os cs0 cs).length=cs.length
 | [],cs,h=> by rfl
 | c0 ::cs0,[],h=> by cases h
 | c0 ::cs0,c ::cs,h=> by
  have d:=Zks os cs0 cs (by simpa using h)
  cases c0 <;> simp [Zkt,d]
theorem ZgG(os:List (Name × List (C U))):∀ (cs0 cs:List (C U)) (j:Nat) (c0 c:C U),cs.length=cs0.length->cs0[j]?=some c0->(Zkt os cs0 cs)[j]?=some c->
  cs[j]?=some c\/∃ k k',c0= .xp k/\JQ os 0 (.x k)=some k'/\c= .xp k'
 | [],cs,j,c0,c,_,h,_=> by simp at h
 | d0 ::cs0,[],j,c0,c,hl,_,_=> by cases hl
 | d0 ::cs0,d ::cs,0,c0,c,hl,h0,h=> by
  simp at h0
  subst h0
  cases d0 with
  | xp k=>
   simp only [Zkt] at h
   grind
  | _=> exact .inl (by trivial)
 | d0 ::cs0,d ::cs,j+1,c0,c,hl,h0,h=> by
  have s:=ZgG os cs0 cs j c0 c (by simpa using hl) (by simpa using h0)
  cases d0 <;> (simp only [Zkt,List.getElem?_cons_succ] at h ⊢;exact s h)
theorem Zfe {Γ:Known U} (hΓ:∀ f s,Γ f=some s->Contract P cfg f s) (h:Rel cfg B st g a w) {o:Oper} {c:Call} {gx:Operand} {f:FuncId} {args:List (V U)} {ps:List Prop} {e:Eff U} {d:Nat}
  (ho:o.op= .call c) (hc:c.callee= .value gx) {caps:List Value} (hg:a.eval gx= .func (.func f) #[] caps.toArray)
  (hargs:(c.args.toList.map a.eval++caps).length=args.length/\∀ (j:Nat) u x,(c.args.toList.map a.eval++caps)[j]?=some u->args[j]?=some x->RelV cfg g st.dead (fun nm=> (st.mem nm).isSome) u x)
  (he:Z7n Γ st d f args=some (ps,e)) (hps:All ps):
  Does P o a w fun v w'=> ∃ g',Out cfg B st g e v w' g':=by
 unfold Z7n at he
 split at he
 .cases he
 rename_i s hs
 split at he
 .cases he
 rename_i ys os toks bo
 split at he
 .cases he
 rename_i dj r xs L0 cq
 rw [cond_eq_ite] at he
 split at he
 .cases he
 rename_i a9
 have a9:∀ k,r≠.ptr (.x k) 0:=fun k e=> a9 (by rw [e];rfl)
 split at he
 case h_2=> cases he
 rename_i m ll cy cf
 simp only [oP] at he
 obtain ⟨rfl,rfl⟩:=he
 obtain ⟨q1,q2⟩:=ZbZ cf
 obtain ⟨⟨fn,cw,dl,ch⟩,bx⟩:=hΓ f s hs
 obtain ⟨p1,_,p3,p4,p5,p6⟩:=Z5m (cfg:=cfg) (g:=g) _ _ _ _ _ _ _ bo (fun i j x y hx=> by simp at hx)
 obtain ⟨b1,b2,b3⟩:=Z9a cy
 let ax:Nat->Addr:=fun k=> ((os[k]?).map fun x=> g.ad x.1).getD ⟨0,0,none⟩
 have a4:∀ (k:Nat) x,os[k]?=some x->ax k=g.ad x.1:=fun k x hx=> by simp [ax,hx]
 let gc:=g.callee (JQ os 0) toks ax
 let XS:=os.map fun x=> ZqN st os (x.2,x.1)
 have ay:∀ c t,gc.tag c=some (.outer t)↔(g.tag c=some t/\(∀ nm,t= .obj nm->JQ os 0 nm=none)/\(∀ u,t= .tok u->YI toks u=none)):=by
  intro c t
  simp only [gc,Gh.callee]
  cases hgt:g.tag c with
  | none=> simp
  | some t0=>
   cases t0 with
   | obj nm=>
    cases hn:JQ os 0 nm with
    | none=>
     simp only [hn]
     constructor
     .intro h;cases h;exact ⟨rfl,fun bg e=> by cases e;exact hn,fun u e=> by cases e⟩
     .rintro ⟨h1,_,_⟩;cases h1;rfl
    | some k=>
     simp only [hn]
     constructor
     .intro h;cases h
     .rintro ⟨h1,h2,_⟩;cases h1;rw [h2 nm rfl] at hn;cases hn
   | tok u=>
    cases hn:YI toks u with
    | none=>
     simp only [hn]
     constructor
     .intro h;cases h;exact ⟨rfl,fun bg e=> by (cases e),fun u' e=> by cases e;exact hn⟩
     .rintro ⟨h1,_,_⟩;cases h1;rfl
    | some k=>
     simp only [hn]
     constructor
     .intro h;cases h
     .rintro ⟨h1,_,h2⟩;cases h1;rw [h2 u rfl] at hn;cases hn
   | outer t0=>
    simp only
    constructor
    .intro h;cases h;exact ⟨rfl,fun bg e=> by (cases e),fun u' e=> by (cases e)⟩
    .rintro ⟨h1,_,_⟩;cases h1;rfl
 have aw:∀ c t,gc.tag c=some t->∃ t0,g.tag c=some t0:=by
  intro c t ht
  simp only [gc,Gh.callee] at ht
  cases hgt:g.tag c with
  | none=> simp [hgt] at ht
  | some t0=> exact ⟨t0,rfl⟩
 have az:∀ c,g.tag c=none->gc.tag c=none:=by
  intro c hc
  simp only [gc,Gh.callee,hc]
 have ba:Entry cfg w gc (c.args.toList.map a.eval++caps) (ys.take args.length) XS (bif s.wr then Z0e st.ls toks (toks.map (·.2)) else []):=by
  refine ⟨⟨fun c v hv=> ?_,fun c t ht=> ?_⟩,fun c t ht=> ?_,by rw [hargs.1,Qm,p4,Qa];omega,fun j v x hv hx=> ?_,fun k cs hk j c hj=> ?_,fun t ht=> (by simp only [gc,Gh.callee,ht,if_true]),fun t x hx=> ?_⟩
  .obtain ⟨h1,h2⟩:=h.inv.im c v hv
   exact ⟨h1,az c h2⟩
  .obtain ⟨t0,bb⟩:=aw c t ht
   exact h.inv.it c t0 bb
  .simp only [gc,Gh.callee] at ht
   split at ht
   .split at ht
    .cases ht;exact .inr (.inl ⟨_,rfl⟩)
    .cases ht;exact .inl ⟨_,rfl⟩
   .split at ht
    .cases ht;exact .inr (.inr ⟨_,rfl⟩)
    .cases ht;exact .inl ⟨_,rfl⟩
   .cases ht;exact .inl ⟨_,rfl⟩
   .cases ht
  .rw [QP] at hx
   split at hx
   case isFalse=> cases hx
   rename_i hj
   have bd:=Q2 hj
   have bv:(args++Z1N st args)[j]?=some args[j]:=by rw [QZ hj];exact bd
   have:=p6 toks (.refl _) (JQ os 0) ax a4 j v _ x bv hx (hargs.2 j v _ hv bd)
   have hl:Z9h XS=fun nm:Name=> match nm with | .x k=> (os[k]?).isSome | .loc _=> false:=by
    funext nm;cases nm <;> simp [Z9h,XS]
   rw [hl]
   exact this
  .simp only [XS] at hk
   rw [Qx] at hk
   cases hx:os[k]? with
   | none=> simp [hx] at hk
   | some x=>
    simp [hx] at hk
    subst hk
    obtain ⟨b8,h1,h2,h3⟩:=p5 k x hx (by simp)
    simp only [ZqN,h1] at hj
    have ao:j < b8.length:=by have:=(Q4.1 hj).1;rw [Zks os _ _ h2] at this;omega
    obtain ⟨v,h4,h5,h6⟩:=h.mem x.1 b8 h1 j _ (Q2 ao)
    have bk:gc.ad (.x k)=g.ad x.1:=a4 k x hx
    rw [bk]
    refine ⟨v,h4,?_,?_⟩
    rotate_left
    .rcases ZgG os _ _ j _ c h2 (Q2 ao) hj with hj1 | ⟨q,q',e0,hq,rfl⟩
     .exact h3 toks (.refl _) _ _ j v _ c (Q2 ao) hj1 h6
     .rw [e0] at h6
      have e1:v= .pointer (some (g.ad (.x q))):=h6.2
      obtain ⟨y,_,hy,cg⟩:=Z5r hq
      refine ⟨.xp _ _ h6.1.one,?_⟩
      show v= .pointer (some (ax q'))
      rw [a4 q' y (by simpa using hy),cg,e1]
    have hn:JQ os 0 x.1=some k:=by have:=Zgq (k:=0) p3 hx rfl;simpa using this
    simp only [gc,Gh.callee,h5,hn]
  .have hx:ZE (fun _=> none) (Z0e st.ls toks (toks.map (·.2))) t=some x:=by
    cases hw:s.wr with
    | true=> rw [hw] at hx;exact hx
    | false=> rw [hw] at hx;cases hx
   obtain ⟨u,h5,h6,h7,h8⟩:=Z0F _ hx
   obtain ⟨_,hL⟩:=h.ls u x h7
   have ar:gc.bs t=g.bs u:=by simp only [gc,Gh.callee,h8,Xk,if_false,ZgN,h5]
   have b6:∀ c,g.tag c=some (.tok u)->gc.tag c=some (.tok t):=fun c hc=> by simp only [gc,Gh.callee,hc,h6]
   rcases hL with ⟨e1,e2⟩ | ⟨b,len,cap,e1,e2,e3,e4,e5,e6⟩
   .exact .inl ⟨ar.trans e1,e2⟩
   .refine .inr ⟨b,len,cap,ar.trans e1,e2,e3,e4,fun i y hy j c hc=> ?_,fun j a1 a2=> b6 _ (e6 j a1 a2)⟩
    obtain ⟨v,e7,e8,e9,bm⟩:=e5 i y hy j c hc
    exact ⟨v,e7,e8,e9,fun hi=> b6 _ (bm hi)⟩
 have bn:=bx (ys.take args.length) XS _ _ r xs L0 cq hps (by rw [b1];simp [XS]) w gc _ ba
 refine .inr (.inr ⟨f,(c.args.toList.map a.eval++caps).toArray,w,?_,Calls.mono bn ?_⟩)
 .have hb:fn.body.isNone=false:=by cases hfb:fn.body <;> simp_all
  simp only [execOp,ho,resolve,hc,hg,Deferred.ofValue,Sem.run_bind,Sem.run_pure,Result.andThen_ok,invoke,callFunc,run_program,cw]
  simp [ch,hb]
 .rintro e' w' ⟨v,g',rfl,L⟩
  refine ⟨v,rfl,g'.back os d g.ad L0 g.bs,?_⟩
  have dg:gc.m=g.m:=rfl
  have ai:∀ c t,g.tag c=some t->(∀ nm,t= .obj nm->JQ os 0 nm=none)->(∀ u,t= .tok u->YI toks u=none)->(g'.back os d g.ad L0 g.bs).tag c=some t/\w'.cell? c=w.cell? c:=by
   intro c t h1 h2 h3
   have:=L.fr.outer c t ((ay c t).2 ⟨h1,h2,h3⟩)
   exact ⟨by simp only [Gh.back,this.1],this.2⟩
  have bh:∀ c t,(g'.back os d g.ad L0 g.bs).tag c=some t->∃ t',g'.tag c=some t':=by
   intro c t ht
   simp only [Gh.back] at ht
   cases hgt:g'.tag c with
   | none=> simp [hgt] at ht
   | some t'=> exact ⟨t',rfl⟩
  have bc:∀ t,Zt st ({ val:=some (r.mapTok (ZZ d) (Z0p d L0) (Z7l os)),mem:=m,kill:=toks.map (·.1),ls:=ll }:Eff U) t=false->st.dead t=false/\YI toks t=none:=by
   intro t ht
   simp only [Zt,QF] at ht
   refine ⟨ht.1,?_⟩
   cases hn:YI toks t with
   | none=> rfl
   | some t'=> have:=ZeA hn;rw [ht.2] at this;cases this
  have al:Keeps g (g'.back os d g.ad L0 g.bs) st.dead (Zt st ({ val:=some (r.mapTok (ZZ d) (Z0p d L0) (Z7l os)),mem:=m,kill:=toks.map (·.1),ls:=ll }:Eff U)) (fun nm=> (st.mem nm).isSome) (Y6 st ({ val:=some (r.mapTok (ZZ d) (Z0p d L0) (Z7l os)),mem:=m,kill:=toks.map (·.1),ls:=ll }:Eff U)):=by
   refine ⟨fun c v hv=> L.fr.mono c v hv,fun c t hd ht=> ?_,fun t ht=> (bc t ht).1,fun nm hn=> ⟨?_,rfl⟩,fun t v _ hv=> by simp only [Gh.back,hv],fun _=> rfl⟩
   .exact (ai c _ ht (fun nm e=> by cases e) (fun u e=> by cases e;exact (bc _ hd).2)).1
   .simp only [Y6]
    rcases Z00 st.mem m nm with ⟨k,cs,_,h2⟩ | ⟨_,h2⟩
    .rw [h2];try rfl
    .rw [h2];exact hn
  have ar:∀ t t',Z0p d L0 t=some t'->g.bs t'=none:=by
   intro t t' hb
   unfold Z0p at hb
   cases hx:ZE (fun _=> none) L0 t with
   | none=> rw [hx] at hb;cases hb
   | some x=>
    rw [hx] at hb
    obtain ⟨t2,g1,g2,g3,_⟩:=q1 t x hx
    simp only at hb
    rw [hb] at g1
    cases g1
    refine h.fresh t' ?_ g2 g3
    unfold ZZ at hb
    split at hb
    .cases hb;rfl
    .split at hb
     .cases hb;rfl
     .cases hb
    .cases hb
  have bw:∀ k k',Z7l os k=some k'->g'.ad (.x k)=g.ad (.x k'):=by
   intro k k' hk
   unfold Z7l at hk
   split at hk
   .rename_i hx
    cases hk
    exact (L.ad k (a9 k)).trans (a4 k _ hx)
   .cases hk
  have bu:∀ t x,JR st.ls ({ val:=some (r.mapTok (ZZ d) (Z0p d L0) (Z7l os)),mem:=m,kill:=toks.map (·.1),ls:=ll }:Eff U) t=some x->(toks.map (·.1)).contains t=false/\ZE st.ls ll t=some x:=by
   intro t x hx
   unfold JR at hx
   cases hk:(toks.map (·.1)).contains t with
   | true=> simp only [hk,cond_true,reduceCtorEq] at hx
   | false=> simp only [hk,cond_false] at hx;exact ⟨rfl,hx⟩
  refine ⟨⟨fun c v hv=> ?_,fun c t ht=> ?_⟩,?_,al,?_,L.val.back ar bw,?_,?_⟩
  .obtain ⟨h1,h2⟩:=L.inv.im c v hv
   exact ⟨h1,by simp only [Gh.back,h2]⟩
  .obtain ⟨t',bj⟩:=bh c t ht
   exact L.inv.it c t' bj
  .refine ⟨h.fr.stay.trans L.fr.stay,h.fr.xad,fun c v hv=> L.fr.mono c v (h.fr.mono c v hv),fun c t ht=> ?_,fun c t ht=> ?_,fun b hb b7=> ?_,fun c hc=> (L.fr.frz c (QO hc h.fr.stay.size)).trans (h.fr.frz c hc)⟩
   .obtain ⟨h1,h2⟩:=h.fr.outer c t ht
    obtain ⟨h3,h4⟩:=ai c _ h1 (fun nm e=> by cases e) (fun u e=> by cases e)
    exact ⟨h3,h4.trans h2⟩
   .simp only [Gh.back] at ht
    split at ht
    .rename_i t' bj
     cases ht
     have:=(ay c _).1 (L.fr.outer' c _ bj)
     exact h.fr.outer' c t this.1
    .cases hx:os[‹Nat›]? with
     | none=> simp [hx] at ht
     | some x=> simp [hx] at ht
    .cases hx:ZZ d ‹Tok› with
     | none=> simp [hx] at ht
     | some x=> simp [hx] at ht
    .cases ht
   .obtain ⟨h1,h2⟩:=h.fr.clean b hb b7
    have be:∀ o s t,g.tag ⟨b,o,s⟩=some t->∃ t',t= .outer t':=fun o s t ht=> b7 o s t (by rw [<-h2];exact ht)
    have a8:∀ o s t,gc.tag ⟨b,o,s⟩=some t->∃ t',t= .outer t':=by
     intro o s t ht
     obtain ⟨t0,bb⟩:=aw _ _ ht
     obtain ⟨t1,rfl⟩:=be o s t0 bb
     have:=(ay ⟨b,o,s⟩ (.outer t1)).2 ⟨bb,(fun nm e=> by cases e),(fun u e=> by cases e)⟩
     rw [ht] at this
     cases this
     exact ⟨_,rfl⟩
    obtain ⟨h3,h4⟩:=L.fr.clean b (QO hb h.fr.stay.size) a8
    refine ⟨h3.trans h1,fun o s=> ?_⟩
    rw [<-h2 o s]
    have h5:g'.tag ⟨b,o,s⟩=gc.tag ⟨b,o,s⟩:=h4 o s
    cases hgt:g.tag ⟨b,o,s⟩ with
    | none=>
     simp only [Gh.back,h5,az _ hgt]
    | some t=>
     obtain ⟨t1,rfl⟩:=be o s t hgt
     exact (ai _ _ hgt (fun nm e=> by cases e) (fun u e=> by cases e)).1
  .intro nm cs hm j cc hj
   rcases Z00 st.mem m nm with ⟨k,cs',h1,h2⟩ | ⟨h1,h2⟩
   .rw [h2] at hm
    cases hm
    have hk:k < os.length:=by have:=(Q4.1 h1).1;omega
    have bl:os[k]?=some os[k]:=Q2 hk
    have b4:xs[k]?=some (xs[k]'V0):=Q2 _
    have h3:=b3 k _ _ bl b4
    rw [h1] at h3
    simp only [oP] at h3
    obtain ⟨rfl,rfl⟩:=h3
    rw [Qx] at hj
    cases ao:(xs[k]'V0)[j]? with
    | none=> simp [ao] at hj
    | some c0=>
     simp [ao] at hj
     subst hj
     obtain ⟨v0,h4,h5,h6⟩:=L.x k _ b4 j c0 ao
     have bk:g'.ad (.x k)=g.ad os[k].1:=(L.ad k (a9 k)).trans (a4 k _ bl)
     rw [bk] at h4 h5
     refine ⟨v0,h4,?_,h6.back ar bw⟩
     show (g'.back os d g.ad L0 g.bs).tag ((g.ad os[k].1).add j)=_
     simp only [Gh.back,h5,bl,Qf]
   .rw [h2] at hm
    obtain ⟨v0,h4,h5,h6⟩:=h.mem nm cs hm j cc hj
    have hn:JQ os 0 nm=none:=ZjP (fun i x hx e=> by
     have hi:i < m.length:=by have:=(Q4.1 hx).1;omega
     have c2:xs[i]?=some (xs[i]'V0):=Q2 _
     exact h1 i _ (b3 i x _ hx c2) e) 0
    obtain ⟨h7,h8⟩:=ai _ _ h5 (fun bg e=> by cases e;exact hn) (fun u e=> by cases e)
    exact ⟨v0,h8.trans h4,h7,h6.keep al⟩
  .intro t x hx
   obtain ⟨hk,hx⟩:=bu t x hx
   rcases q2 t x hx with ⟨g1,_⟩ | ⟨t0,g1,g2,g3⟩
   .obtain ⟨g3,g4⟩:=h.ls t x g1
    have hd:Zt st ({ val:=some (r.mapTok (ZZ d) (Z0p d L0) (Z7l os)),mem:=m,kill:=toks.map (·.1),ls:=ll }:Eff U) t=false:=by simp only [Zt,g3,hk,Xj]
    exact ⟨hd,g4.keep al hd (fun c v hv=> (L.inv.im c v (L.fr.mono c v hv)).1) (fun c cm=> (ai c _ cm (fun nm e=> by cases e) (fun u e=> by cases e;exact (bc _ hd).2)).2)⟩
   .have hd:Zt st ({ val:=some (r.mapTok (ZZ d) (Z0p d L0) (Z7l os)),mem:=m,kill:=toks.map (·.1),ls:=ll }:Eff U) t=false:=by simp only [Zt,g3,hk,Xj]
    have cj:Z0p d L0 t0=some t:=by unfold Z0p;rw [g1];exact g2
    have bi:=ar _ _ cj
    have bt:(g'.back os d g.ad L0 g.bs).bs t=g'.bs t0:=by simp only [Gh.back,bi,Z2W g2,g1]
    have b5:∀ c,g'.tag c=some (.tok t0)->(g'.back os d g.ad L0 g.bs).tag c=some (.tok t):=by
     intro c hc
     simp only [Gh.back,hc,g2,Qf]
    refine ⟨hd,?_⟩
    rcases L.ls t0 x g1 with ⟨e1,e2⟩ | ⟨b,len,cap,e1,e2,e3,e4,e5,e6⟩
    .exact .inl ⟨bt.trans e1,e2⟩
    .refine .inr ⟨b,len,cap,bt.trans e1,e2,e3,e4,fun i y hy j c hc=> ?_,fun j a1 a2=> b5 _ (e6 j a1 a2)⟩
     obtain ⟨u,e7,e8,e9,bm⟩:=e5 i y hy j c hc
     exact ⟨u,e7,e8,e9,fun hi=> b5 _ (bm hi)⟩
  .intro t ht hn hd
   have cz:st.dead t=false:=(bc t hd).1
   have hk:(toks.map (·.1)).contains t=false:=by simp only [Zt,QF] at hd;exact hd.2
   have b0:ZE st.ls ll t=none:=by
    unfold JR at hn
    simp only [hk,cond_false] at hn
    exact hn
   have b9:st.ls t=none:=by
    cases hx:st.ls t with
    | none=> rfl
    | some x=>
     exfalso
     have:∀ (l:List (Tok × LC U)),ZE st.ls l t=none->False:=by
      intro l
      induction l with
      | nil=> intro h;rw [ZE,hx] at h;cases h
      | cons y l ih=>
       obtain ⟨a,b⟩:=y
       intro h
       simp only [ZE] at h
       split at h
       .cases h
       .exact ih h
     exact this _ b0
   have bi:=h.fresh t ht b9 cz
   simp only [Gh.back,bi]
   cases hu:Z18 d t with
   | none=> rfl
   | some t'=>
    simp only
    cases hx:ZE (fun _=> none) L0 t' with
    | none=> rfl
    | some x=>
     simp only
     obtain ⟨t2,g1,g2,g3,g4⟩:=q1 t' x hx
     cases hg:g'.bs t' with
     | none=> rfl
     | some v=>
      exfalso
      have:t2=t:=by
       cases t with
       | r d' m=>
        simp only [Z18] at hu
        split at hu
        .rename_i e
         subst e
         split at hu
         .cases hu
          simp only [ZZ,Option.some.injEq] at g1
          rw [<-g1];congr 1;omega
         .cases hu
          simp only [ZZ] at g1
          split at g1
          .cases g1;congr 1;omega
          .cases g1
        .cases hu
       | _=> simp [Z18] at hu
      subst this
      rw [b0] at g4
      cases g4
def Zcn(st:FSt U)(g:Gh)(c:Addr):Bool:=
 match g.tag c with
 | some (.tok t)=> (st.ls t).isSome
 | _=> false
def Gh.lendG(g:Gh)(st:FSt U)(w:World):Gh:=
 {m:=fun c=> if Zcn st g c=true then w.cell? c else g.m c
  tag:=fun c=> if Zcn st g c=true then none else (g.tag c).map .outer
  ad:=g.ad
  bs:=fun _=> none }
theorem ZtY{c:Addr}(h:Zcn st g c=true):∃ t x,g.tag c=some (.tok t)/\st.ls t=some x:=by
 unfold Zcn at h
 split at h
 .rename_i t d
  cases hx:st.ls t with
  | none=> grind
  | some x=> grind
 .cases h
theorem ZtZ{c:Addr}(h:∀ t,g.tag c≠some (.tok t)):Zcn st g c=false:=by
 cases hc:Zcn st g c with
 | false=> rfl
 | true=> obtain ⟨t,_,d,_⟩:=ZtY hc;grind
theorem Zu0(h:Inv g.m g.tag w){c:Addr}{v:Value}(hv:g.m c=some v):(g.lendG st w).m c=some v:=by
 have:Zcn st g c=false:=ZtZ fun t e=> by rw [(h.im c v hv).2] at e;cases e
 simp only [Gh.lendG,this,Xk,if_false,hv]
theorem ZlQ{c:Addr}{t:Tag}(ht:g.tag c=some t)(hc:Zcn st g c=false):(g.lendG st w).tag c=some (.outer t):=by
 simp only [Gh.lendG,hc,Xk,if_false,ht,Qf]
theorem ZAs(h:Rel cfg B st g a w){v:Value}{c:C U}(hr:RelC cfg g st.dead v c):RelC cfg (g.lendG st w) ZX v (c.lend st):=by
 have d:=fun c v hv=> Zu0 (st:=st) (w:=w) h.inv (c:=c) (v:=v) hv
 cases c with
 | slice T l tl=> cases tl with
  | unk=> exact ⟨hr.1.mono d,trivial⟩
  | full=> exact ⟨hr.1.mono d,hr.2⟩
  | own u=> exact ⟨(hr.1.tl .unk).mono d,trivial⟩
 | mref t=>
  simp only [C.lend]
  cases hx:st.ls t with
  | none=> exact ⟨.jk _ hr.1.one,trivial⟩
  | some x=>
   obtain ⟨hd,hL⟩:=h.ls t x hx
   obtain ⟨s,hs⟩:=hr.2 hd
   refine ⟨?_,trivial⟩
   rcases hL with ⟨e1,e2,_⟩ | ⟨b,len,cap,e1,e2,e3,e4,e5,_⟩
   .rw [hs] at e1
    cases e1
    obtain ⟨T,l,f⟩:=x
    simp only at e2
    subst e2
    exact .snil T _
   .rw [hs] at e1
    cases e1
    refine .of_rows _ e2 e3 fun i y hy j c hc=> ?_
    obtain ⟨u,e7,e8,e9,aa⟩:=e5 i y hy j c hc
    refine ⟨u,?_,e8.mono d⟩
    rcases Xr i x.f with hi | hi
    .grind
    .simp only [Gh.lendG,Zcn,aa hi,hx,Option.isSome_some,if_true]
     exact e7
 | jk=> exact ⟨.jk _ hr.1.one,trivial⟩
 | xp k=> exact ⟨.jk _ hr.1.one,trivial⟩
 | int k n=> exact ⟨hr.1.mono d,trivial⟩
 | bool b=> exact ⟨hr.1.mono d,trivial⟩
 | nils=> exact ⟨hr.1.mono d,trivial⟩
 | nilp=> exact ⟨hr.1.mono d,trivial⟩
 | po T o=> exact ⟨hr.1.mono d,trivial⟩
theorem ZGH(h:Rel cfg B st g a w){live:Name->Bool}{v:Value}{x x':V U}(hr:RelV cfg g st.dead live v x)(hx:x.lend st=some x'):RelV cfg (g.lendG st w) ZX (Z9h ([]:List (List (C U)))) v x':=by
 cases x with
 | c y=> cases hx;exact ZAs h (c:=y) hr
 | agg cs=>
  cases hx
  obtain ⟨vs,h1,d,h3⟩:=hr
  refine ⟨vs,h1,by simp [d],fun j u c s hc=> ?_⟩
  rw [Qx] at hc
  cases hj:cs[j]? with
  | none=> grind
  | some c0=>
   simp [hj] at hc
   subst hc
   exact ZAs h (h3 j u c0 s hj)
 | fn f=> cases hx;exact hr
 | _=> cases hx
theorem ZlR {Γ:Known U} (hΓ:∀ f s,Γ f=some s->Contract P cfg f s) (h:Rel cfg B st g a w) {o:Oper} {c:Call} {gx:Operand} {f:FuncId} {args:List (V U)} {ps:List Prop} {e:Eff U}
  (ho:o.op= .call c) (hc:c.callee= .value gx) (hg:a.eval gx= .func (.func f) #[] #[])
  (hargs:c.args.toList.length=args.length/\∀ (j:Nat) u x,(c.args.toList.map a.eval)[j]?=some u->args[j]?=some x->RelV cfg g st.dead (fun nm=> (st.mem nm).isSome) u x)
  (he:ZgU Γ st f args=some (ps,e)) (hps:All ps):
  Does P o a w fun v w'=> ∃ g',Out cfg B st g e v w' g':=by
 unfold ZgU at he
 split at he
 case h_2=> cases he
 rename_i s vs hs ar
 have a2:∃ c0:C U,s.fn2 vs [] []=some (ps,.c c0,[],[])/\e={ val:=some (.c c0) }/\∀ (g1 g2:Gh) (d1 d2:Tok->Bool) v,RelC cfg g1 d1 v c0->RelC cfg g2 d2 v c0:=by
  split at he
  .rename_i k n ah
   simp only [oP] at he
   obtain ⟨rfl,rfl⟩:=he
   exact ⟨_,ah,rfl,fun g1 g2 d1 d2 v hr=> by have:=hr.1;cases this;exact ⟨.int _ _,trivial⟩⟩
  .rename_i b ah
   simp only [oP] at he
   obtain ⟨rfl,rfl⟩:=he
   exact ⟨_,ah,rfl,fun g1 g2 d1 d2 v hr=> by have:=hr.1;cases this;exact ⟨.bool _,trivial⟩⟩
  .cases he
 obtain ⟨c0,ah,rfl,aw⟩:=a2
 obtain ⟨⟨fn,a5,bh,az⟩,aq⟩:=hΓ f s hs
 have bb:vs.length=args.length:=mapM_lend_len ar
 have ai:Entry cfg w (g.lendG st w) (c.args.toList.map a.eval) vs [] []:=by
  refine ⟨⟨fun c v hv=> ?_,fun c t d=> ?_⟩,fun c t d=> ?_,by grind,fun j v x hv hx=> ?_,fun k cs hk=> by simp at hk,fun t d=> rfl,fun t x hx=> by cases hx⟩
  .simp only [Gh.lendG] at hv ⊢
   split at hv
   .grind
   .rename_i hl
    obtain ⟨h1,h2⟩:=h.inv.im c v hv
    grind
  .simp only [Gh.lendG] at d
   split at d
   .cases d
   .cases hgt:g.tag c with
    | none=> grind
    | some t0=> exact h.inv.it c t0 hgt
  .simp only [Gh.lendG] at d
   split at d
   .cases d
   .cases hgt:g.tag c with
    | none=> grind
    | some t0=> grind
  .obtain ⟨x0,h1,h2⟩:=mapM_lend ar j x hx
   exact ZGH h (hargs.2 j v x0 hv h1) h2
 have al:=aq vs [] [] _ _ [] [] ah hps (Xd _) w (g.lendG st w) _ ai
 refine .inr (.inr ⟨f,(c.args.toList.map a.eval).toArray,w,?_,Calls.mono al ?_⟩)
 .have hb:fn.body.isNone=false:=by cases hfb:fn.body <;> simp_all
  simp only [execOp,ho,resolve,hc,hg,Deferred.ofValue,Sem.run_bind,Sem.run_pure,Result.andThen_ok,invoke,callFunc,run_program,a5]
  simp [az,hb]
  apply Xa
  simp
 .rintro e' w' ⟨v,g',rfl,L⟩
  refine ⟨v,rfl,g,?_⟩
  have a9:∀ c t,g.tag c=some t->Zcn st g c=false->w'.cell? c=w.cell? c:=fun c t d hl=> (L.fr.outer c _ (ZlQ (w:=w) d hl)).2
  have a6:∀ c v,w.cell? c=some v->Zcn st g c=true->w'.cell? c=some v:=by
   intro c v hv hl
   have:(g.lendG st w).m c=some v:=by simp only [Gh.lendG,hl,if_true,hv]
   exact (L.inv.im c v (L.fr.mono c v this)).1
  have au:∀ c v,g.m c=some v->w'.cell? c=some v:=fun c v hv=> (L.inv.im c v (L.fr.mono c v (Zu0 h.inv hv))).1
  have ak:∀ c t,g.tag c=some t->w'.cell? c=w.cell? c:=by
   intro c t d
   cases hl:Zcn st g c with
   | false=> grind
   | true=>
    obtain ⟨_,v,hv⟩:=h.inv.it c t d
    grind
  have af:Zt st ({ val:=some (.c c0) }:Eff U)=st.dead:=by funext t;simp [Zt]
  refine ⟨⟨fun c v hv=> ⟨au c v hv,(h.inv.im c v hv).2⟩,fun c t d=> ?_⟩,?_,by rw [af];exact .refl _ _ _,?_,?_,?_,?_⟩
  .obtain ⟨h1,v,h2⟩:=h.inv.it c t d
   exact ⟨(L.fr.frz c (h.inv.lt d)).trans h1,v,(ak c t d).trans h2⟩
  .refine ⟨h.fr.stay.trans L.fr.stay,h.fr.xad,h.fr.mono,fun c t d=> ?_,h.fr.outer',fun b hb a3=> ?_,fun c hc=> (L.fr.frz c (QO hc h.fr.stay.size)).trans (h.fr.frz c hc)⟩
   .obtain ⟨h1,h2⟩:=h.fr.outer c t d
    grind
   .obtain ⟨h1,h2⟩:=h.fr.clean b hb a3
    refine ⟨(L.fr.clean b (QO hb h.fr.stay.size) fun o s t d=> ?_).1.trans h1,h2⟩
    simp only [Gh.lendG] at d
    split at d
    .cases d
    .cases hgt:g.tag ⟨b,o,s⟩ with
     | none=> grind
     | some t0=> grind
  .rw [af]
   intro nm cs hm j cc hj
   obtain ⟨v0,h4,h5,h6⟩:=h.mem nm cs hm j cc hj
   grind
  .rw [af]
   exact aw _ _ _ _ _ L.val
  .intro t x hx
   rw [af]
   have hx:st.ls t=some x:=by simpa [JR,ZE] using hx
   obtain ⟨h1,h2⟩:=h.ls t x hx
   exact ⟨h1,h2.keep (.refl g st.dead (fun _=> true)) h1 au fun c a7=> ak c _ a7⟩
  .intro t h0 h7 h8
   rw [af] at h8
   exact h.fresh t h0 (by trivial) h8
where
 mapM_lend_len {xs:List (V U)} {vs:List (V U)} (hm:xs.mapM (V.lend st)=some vs):vs.length=xs.length:=by
  induction xs generalizing vs with
  | nil=> grind
  | cons y xs ih=>
   rw [QV] at hm
   cases h1:V.lend st y with
   | none=> grind
   | some v=>
    cases h2:xs.mapM (V.lend st) with
    | none=> grind
    | some r=>
     simp [h1,h2] at hm
     grind
 mapM_lend {xs:List (V U)} {vs:List (V U)} (hm:xs.mapM (V.lend st)=some vs) (j:Nat) (x:V U) (hx:vs[j]?=some x):∃ x0,xs[j]?=some x0/\x0.lend st=some x:=by
  induction xs generalizing vs j with
  | nil=> grind
  | cons y xs ih=>
   rw [QV] at hm
   cases h1:V.lend st y with
   | none=> grind
   | some v=>
    cases h2:xs.mapM (V.lend st) with
    | none=> simp [h1,h2] at hm
    | some r=>
     grind
theorem Zk7{α β:Type}{f:α->Option β}:∀ {xs:List α} {ys:List β},xs.mapM f=some ys->ys.length=xs.length/\∀ (j:Nat) y,ys[j]?=some y->∃ x,xs[j]?=some x/\f x=some y
 | [],ys,h=> by grind
 | x ::xs,ys,h=> by
  rw [QV] at h
  cases h1:f x with
  | none=> simp [h1] at h
  | some v=>
   cases h2:xs.mapM f with
   | none=> grind
   | some r=>
    simp [h1,h2] at h
    subst h
    obtain ⟨d,s⟩:=Zk7 h2
    grind
def Gh.out(g:Gh):Gh:={ m:=g.m,tag:=fun c=> (g.tag c).map .outer,ad:=g.ad,bs:=fun _=> none }
theorem ZAH{dead:Tok->Bool}{v:Value}{c:C U}(h:RelC cfg g dead v c):RelC cfg g.out ZX v c.bare:=by
 cases c with
 | slice T l tl=> exact ⟨h.1.tl _,trivial⟩
 | mref t=> exact ⟨.jk _ h.1.one,trivial⟩
 | xp k=> exact ⟨.jk _ h.1.one,trivial⟩
 | _=> trivial
theorem ZGW{dead:Tok->Bool}{live:Name->Bool}{v:Value}{x x':V U}(h:RelV cfg g dead live v x)(hx:x.bare=some x'):RelV cfg g.out ZX (Z9h ([]:List (List (C U)))) v x':=by
 cases x with
 | c y=> cases hx;exact ZAH (c:=y) h
 | agg cs=>
  cases hx
  obtain ⟨vs,h1,d,h3⟩:=h
  refine ⟨vs,h1,by simp [d],fun j u c s hc=> ?_⟩
  rw [Qx] at hc
  cases hj:cs[j]? with
  | none=> grind
  | some c0=>
   simp [hj] at hc
   subst hc
   exact ZAH (h3 j u c0 s hj)
 | fn f=> cases hx;exact h
 | _=> cases hx
theorem RelC.plain{g1 g2:Gh}{d1 d2:Tok->Bool}{v:Value}{c:C U}(hm:g2.m=g1.m)(hc:c.plain=true)(h:RelC cfg g1 d1 v c):RelC cfg g2 d2 v c:=by
 refine ⟨by rw [hm];exact h.1,?_⟩
 cases c with
 | slice T l tl=> cases tl <;> first | trivial | cases hc
 | mref t=> cases hc
 | xp k=> cases hc
 | _=> trivial
theorem Zqi {Γ:Known U} (hΓ:∀ f s,Γ f=some s->Contract P cfg f s) (h:Rel cfg B st g a w) {o:Oper} {c:Call} {gx:Operand} {f:FuncId} {args:List (V U)} {ps:List Prop} {e:Eff U} {d:Nat}
  (ho:o.op= .call c) (hc:c.callee= .value gx) (hg:a.eval gx= .func (.func f) #[] #[])
  (hargs:c.args.toList.length=args.length/\∀ (j:Nat) u x,(c.args.toList.map a.eval)[j]?=some u->args[j]?=some x->RelV cfg g st.dead (fun nm=> (st.mem nm).isSome) u x)
  (he:Zr8 Γ st d f args=some (ps,e)) (hps:All ps):
  Does P o a w fun v w'=> ∃ g',Out cfg B st g e v w' g':=by
 unfold Zr8 at he
 split at he
 case h_2=> cases he
 rename_i s vs hs bh
 split at he
 case h_2=> cases he
 rename_i bp cs bf
 split at he
 case isFalse=> cases he
 rename_i av
 simp only [Q0,Qz,QG] at av
 obtain ⟨be,hn⟩:=av
 simp only [oP] at he
 obtain ⟨rfl,rfl⟩:=he
 obtain ⟨⟨fn,bg,br,a5⟩,au⟩:=hΓ f s hs
 obtain ⟨bl,ax⟩:=Zk7 bh
 have a8:∀ c t,g.tag c=some t->g.out.tag c=some (.outer t):=fun c t ht=> by simp [Gh.out,ht]
 have ah:∀ c t,g.out.tag c=some t->∃ t0,g.tag c=some t0/\t= .outer t0:=fun c t ht=> by
  cases hgt:g.tag c with
  | none=> simp [Gh.out,hgt] at ht
  | some t0=> grind
 have ak:Entry cfg w g.out (c.args.toList.map a.eval) vs [] []:=by
  refine ⟨⟨fun c v hv=> ?_,fun c t ht=> ?_⟩,fun c t ht=> ?_,by grind,fun j v x hv hx=> ?_,fun k cs hk=> by simp at hk,fun t ht=> rfl,fun t x hx=> by cases hx⟩
  .obtain ⟨h1,h2⟩:=h.inv.im c v hv
   exact ⟨h1,by simp [Gh.out,h2]⟩
  .obtain ⟨t0,h1,_⟩:=ah c t ht
   exact h.inv.it c t0 h1
  .grind
  .obtain ⟨x0,h1,h2⟩:=ax j x hx
   exact ZGW (hargs.2 j v x0 hv h1) h2
 have aq:=au vs [] [] _ _ [cs] [] bf hps (by simp) w g.out _ ak
 refine .inr (.inr ⟨f,(c.args.toList.map a.eval).toArray,w,?_,Calls.mono aq ?_⟩)
 .have hb:fn.body.isNone=false:=by cases hfb:fn.body <;> simp_all
  simp only [execOp,ho,resolve,hc,hg,Deferred.ofValue,Sem.run_bind,Sem.run_pure,Result.andThen_ok,invoke,callFunc,run_program,bg]
  simp [a5,hb]
  apply Xa
  simp
 .rintro e' w' ⟨v,g',rfl,L⟩
  let g1:Gh:={ m:=g'.m,tag:=fun c=> (match g'.tag c with | some (.outer t)=> some t | some (.obj (.x 0))=> some (.obj (.loc d)) | _=> none),ad:=fun nm=> if nm= .loc d then g'.ad (.x 0) else g.ad nm,bs:=g.bs }
  have ab:∀ c t,g.tag c=some t->g1.tag c=some t/\w'.cell? c=w.cell? c:=by
   intro c t ht
   have:=L.fr.outer c _ (a8 c t ht)
   exact ⟨by grind,this.2⟩
  have a4:∀ c t,g1.tag c=some t->∃ t',g'.tag c=some t':=by
   intro c t ht
   simp only [g1] at ht
   cases hgt:g'.tag c with
   | none=> simp [hgt] at ht
   | some t'=> exact ⟨t',rfl⟩
  have al:∀ nm,nm≠.loc d->g1.ad nm=g.ad nm:=fun nm aw=> by grind
  have ao:Zt st ({ val:=some (.ptr (.loc d) 0),mem:=[(.loc d,cs)] }:Eff U)=st.dead:=by funext t;simp [Zt]
  have aj:Keeps g g1 st.dead st.dead (fun nm=> (st.mem nm).isSome) (Y6 st ({ val:=some (.ptr (.loc d) 0),mem:=[(.loc d,cs)] }:Eff U)):=by
   refine ⟨fun c v hv=> L.fr.mono c v hv,fun c t hd ht=> (ab c _ ht).1,fun t ht=> ht,fun nm hl=> ⟨?_,al nm fun e=> ?_⟩,fun t v _ hv=> hv,fun k=> al _ (by simp)⟩
   .simp only [Y6,ZK]
    grind
   .grind
  refine ⟨v,rfl,g1,⟨fun c v hv=> ?_,fun c t ht=> ?_⟩,?_,by grind,?_,?_,?_,?_⟩
  .obtain ⟨h1,h2⟩:=L.inv.im c v hv
   grind
  .obtain ⟨t',ar⟩:=a4 c t ht
   exact L.inv.it c t' ar
  .refine ⟨h.fr.stay.trans L.fr.stay,fun k=> (al _ (by simp)).trans (h.fr.xad k),fun c v hv=> L.fr.mono c v (h.fr.mono c v hv),fun c t ht=> ?_,fun c t ht=> ?_,fun b hb bc=> ?_,fun c hc=> (L.fr.frz c (QO hc h.fr.stay.size)).trans (h.fr.frz c hc)⟩
   .obtain ⟨h1,h2⟩:=h.fr.outer c t ht
    grind
   .simp only [g1] at ht
    split at ht
    .rename_i t' ar
     cases ht
     obtain ⟨t0,h1,h2⟩:=ah c _ (L.fr.outer' c _ ar)
     cases h2
     exact h.fr.outer' c t h1
    .cases ht
    .cases ht
   .obtain ⟨h1,h2⟩:=h.fr.clean b hb bc
    have a7:∀ o s t,g.out.tag ⟨b,o,s⟩=some t->∃ t',t= .outer t':=fun o s t ht=> by
     obtain ⟨t0,_,h3⟩:=ah _ t ht
     grind
    obtain ⟨h3,h4⟩:=L.fr.clean b (QO hb h.fr.stay.size) a7
    refine ⟨h3.trans h1,fun o s=> ?_⟩
    rw [<-h2 o s]
    have h5:g'.tag ⟨b,o,s⟩=g.out.tag ⟨b,o,s⟩:=h4 o s
    cases hgt:g.tag ⟨b,o,s⟩ with
    | none=>
     have:g'.tag ⟨b,o,s⟩=none:=by rw [h5];simp [Gh.out,hgt]
     grind
    | some t=> grind
  .rw [ao]
   intro nm a6 hm j cc hj
   simp only [ZK] at hm
   split at hm
   .rename_i e
    cases hm
    subst e
    obtain ⟨v0,h4,h5,h6⟩:=L.x 0 cs rfl j cc hj
    have e1:g1.ad (.loc d)=g'.ad (.x 0):=by simp only [g1,if_true]
    rw [e1]
    exact ⟨v0,h4,by grind,RelC.plain (g1:=g') (g2:=g1) rfl (be cc (QW hj)) h6⟩
   .rename_i aw
    obtain ⟨v0,h4,h5,h6⟩:=h.mem nm a6 hm j cc hj
    obtain ⟨h7,h8⟩:=ab _ _ h5
    rw [al nm aw]
    exact ⟨v0,h8.trans h4,h7,h6.keep aj⟩
  .have hv:v= .pointer (some ((g'.ad (.x 0)).add 0)):=L.val.2
   refine ⟨by simp [Y6,ZK],?_⟩
   grind
  .intro t x hx
   rw [ao]
   have hx:st.ls t=some x:=by simpa [JR,ZE] using hx
   obtain ⟨h1,h2⟩:=h.ls t x hx
   exact ⟨h1,h2.keep aj h1 (fun c v hv=> (L.inv.im c v (L.fr.mono c v hv)).1) fun c bj=> (ab c _ bj).2⟩
  .intro t h0 h7 h8
   rw [ao] at h8
   exact h.fresh t h0 (by trivial) h8
end Go.AM
