import Derived.Test.YtpjenobkibfpcaaGreatZmF
set_option linter.unusedSimpArgs false
set_option linter.unusedVariables false
namespace Go.AM
variable {U:Uni} {P:Program} {cfg:Cfg U} {B:Base} {st:FSt U} {g:Gh} {a:Act} {w:World}
theorem RelL.sim{vs:List Value}{cs:List (C U)}{dead:Tok->Bool}(h:RelL cfg g dead vs cs){j:Nat}{v:Value}{c:C U}(hv:vs[j]?=some v)(hc:cs[j]?=some c):SimC cfg g.m v c:=(h.2 j v c hv hc).1
theorem Z9B (ok:CfgOk P cfg) {T:U.Ty} {cs:List (C U)} {x:U.El T} {vs:List Value} {m:Addr->Option Value} (hd:cfg.dec T cs=some x) (hl:vs.length=cs.length)
  (h:∀ (j:Nat) v c,vs[j]?=some v->cs[j]?=some c->SimC cfg m v c):
  vs.length=cfg.sz T/\∀ (j:Nat) c,(cfg.enc T x)[j]?=some c->∃ v,vs[j]?=some v/\SimC cfg m v c:=by
 obtain ⟨h1,u⟩:=ok.dec_ok T cs x hd
 have h3:=ok.enc_len T x
 refine ⟨V0,fun j c hc=> ?_⟩
 have hj:j < (cfg.enc T x).length:=(Q5.1 hc).1
 have s:vs[j]?=some (vs[j]'V0):=Q0 _
 have d:cs[j]?=some (cs[j]'V0):=Q0 _
 exact ⟨_,s,(h j _ _ s d).wk (u j _ _ d hc)⟩
theorem Z5q (h:Rel cfg B st g a w) {w1:World} (hw:SameHeap w w1) {T:U.Ty} {l:List (U.El T)} {arr:Array Value} (e:TypeId) {cap:Nat} {tl:Tail} {d:Nat} {kl:List Tok}
  (hcap:l.length<=cap) (hsz:arr.size=cap*cfg.sz T) (htl:tl= .own (.r d 0)\/(tl= .full/\l.length=cap)) (henc:∀ x,(cfg.enc T x).length=cfg.sz T)
  (hrows:∀ i x,l[i]?=some x->∀ j c,(cfg.enc T x)[j]?=some c->∃ v,arr[i*cfg.sz T+j]?=some v/\SimC cfg g.m v c):
  ∃ g',Out cfg B st g { val:=some (.c (.slice T l tl)),kill:=kl } (.slice (some ⟨w.heap.size,0,none⟩) l.length cap) (w1.alloc (.cells arr e)) g':=by
 let im:Nat->Bool:=fun i=> decide (i < l.length*cfg.sz T)
 let tg:Nat->Option Tag:=fun i=> if l.length*cfg.sz T<=i/\i < arr.size then some (.tok (.r d 0)) else none
 obtain ⟨h1,h2,h3,h4,h5⟩:=Zly h hw arr e im tg g.ad (by
  grind) (fun _ _=> rfl) (fun _=> rfl)
 refine ⟨g.new w.heap.size arr im tg g.ad,h1,h2,?_,?_,?_,h.ls_keep rfl (h3 kl.contains _ (fun nm s=> s)) (fun c v u=> h5 _ _ (h.inv.im c v u).1) (fun c t _ ht=> by obtain ⟨_,v,u⟩:=h.inv.it c _ ht;grind),h.fresh_keep rfl (fun _=> rfl)⟩
 .exact h3 kl.contains _ (fun nm s=> s)
 .have k:=h3 kl.contains (fun nm=> (st.mem nm).isSome) (fun _ s=> s)
  intro nm cs hm j c hj
  refine ZhN h k h5 ?_ nm cs hm j c hj
  intro c t ht
  have:=h.inv.lt ht
  simp only [Gh.new]
  grind
 .have k:=h3 kl.contains (fun nm=> (st.mem nm).isSome) (fun _ s=> s)
  refine ⟨.of_rows tl rfl hcap ?_,?_⟩
  .intro i x hx j c hc
   obtain ⟨v,h6,h7⟩:=hrows i x hx j c hc
   refine ⟨v,?_,h7.mono k.m⟩
   have hi:i < l.length:=(Q5.1 hx).1
   have hj:j < cfg.sz T:=by have:=(Q5.1 hc).1;rw [henc] at this;exact this
   have af:i*cfg.sz T+j < l.length*cfg.sz T:=by
    have:(i+1)*cfg.sz T<=l.length*cfg.sz T:=Qc _ hi
    rw [QE] at this;omega
   rw [Addr.add_lit,QL]
   simp only [Gh.new,and_self,if_true,im,af,decide_true]
   exact h6
  .rcases htl with rfl | ⟨rfl,hfull⟩
   .intro _ b len aa u j ao ar
    simp only [Value.slice.injEq,Option.some.injEq] at u
    obtain ⟨rfl,rfl,rfl⟩:=u
    rw [Addr.add_lit,QL]
    simp only [Gh.new,and_self,if_true,tg]
    grind
   .intro b len aa u
    grind
theorem Zay(ok:CfgOk P cfg){T:U.Ty}:∀ (parts:List (Nat × Value)) (ps:List (Nat × V U)) (i:Nat) (l:List (U.El T)) (vs:Array Value),J2 cfg T i ps=some l->parts.length=ps.length->
  (∀ (j:Nat) x y,parts[j]?=some x->ps[j]?=some y->x.1=y.1/\RelV cfg g st.dead (fun nm=> (st.mem nm).isSome) x.2 y.2)->(i+parts.length)*cfg.sz T<=vs.size->
  l.length=ps.length/\∃ d,Instr.fill (fun k=> some (k*cfg.sz T,cfg.sz T)) vs parts=some d/\d.size=vs.size/\(∀ q,q < i*cfg.sz T->d[q]?=vs[q]?)/\
   ∀ r x,l[r]?=some x->∀ j c,(cfg.enc T x)[j]?=some c->∃ v,d[(i+r)*cfg.sz T+j]?=some v/\SimC cfg g.m v c
 | [],[],i,l,vs,he,_,_,_=> by
  simp only [J2,Option.some.injEq] at he
  subst he
  exact ⟨rfl,vs,rfl,rfl,fun _ _=> rfl,fun r x hx=> by simp at hx⟩
 | (k,v) ::parts,(k',y) ::ps,i,l,vs,he,hl,hr,af=> by
  obtain ⟨hk,hv⟩:=hr 0 _ _ rfl rfl
  simp only at hk hv
  subst hk
  simp only [J2] at he
  split at he
  .rename_i am
   subst am
   split at he
   .rename_i cs ah
    split at he
    .rename_i x hx
     cases hrec:J2 cfg T (k+1) ps with
     | none=> grind
     | some l'=>
      simp only [hrec,Qe,Option.some.injEq] at he
      subst he
      have s:=hv.cells ah
      obtain ⟨ai,ak⟩:=Z9B ok hx s.1 (fun j v c h1 h2=> s.sim h1 h2)
      have hl:parts.length=ps.length:=by simpa using hl
      have af:(k+(parts.length+1))*cfg.sz T<=vs.size:=af
      have av:(k+1)*cfg.sz T<=(k+(parts.length+1))*cfg.sz T:=Qc _ V0
      have a1:(k+1)*cfg.sz T=k*cfg.sz T+cfg.sz T:=by rw [QE];omega
      have az:v.cells.size=cfg.sz T:=by simpa using ai
      let vs1:Array Value:=v.cells.zipIdx.foldl (fun cs (c,j)=> cs.setIfInBounds (k*cfg.sz T+j) c) vs
      have h:vs1.toList=vs.toList.take (k*cfg.sz T)++v.cells.toList++vs.toList.drop (k*cfg.sz T+v.cells.toList.length):=by
       show (v.cells.zipIdx.foldl (fun cs (c,j)=> cs.setIfInBounds (k*cfg.sz T+j) c) vs).toList=_
       rw [<-Array.foldl_toList,Array.toList_zipIdx]
       have:=ZeL (k*cfg.sz T) v.cells.toList 0 vs (by simp;omega)
       simpa using this
      have al:vs1.size=vs.size:=by
       have:=congrArg List.length h
       simp at this
       omega
      obtain ⟨h1,d,h2,h3,h4,h5⟩:=Zay ok parts ps (k+1) l' vs1 hrec hl
       (fun j x y hx hy=> hr (j+1) x y (by simpa using hx) (by simpa using hy)) (by grind)
      have aa:∀ q:Nat,vs1[q]?=vs1.toList[q]?:=fun q=> (Array.getElem?_toList ..).symm
      refine ⟨by simp [h1],d,?_,by rw [h3,al],?_,?_⟩
      .simp only [Instr.fill]
       grind
      .intro q hq
       rw [h4 q V0,aa,h,Qi,QG (by simp;omega),Xf hq]
       simp
      .intro r x' ae j c hc
       cases r with
       | zero=>
        simp only [XR,Option.some.injEq] at ae
        subst ae
        obtain ⟨u,h6,h7⟩:=ak j c hc
        refine ⟨u,?_,h7⟩
        have hj:j < cfg.sz T:=by have:=(Q5.1 hc).1;rw [ok.enc_len] at this;exact this
        rw [K3,h4 _ V0,aa,h,Qi,Qu (by simp;omega)]
        have e:k*cfg.sz T+j - (vs.toList.take (k*cfg.sz T)).length=j:=by simp;omega
        grind
       | succ r=>
        grind
    .cases he
   .cases he
  .cases he
theorem ZaC (ok:CfgOk P cfg) (h:Rel cfg B st g a w) {o:Oper} {t:TypeId} {n:Nat} {parts:Array (Nat × Operand)} {T:U.Ty} {ps:List (Nat × V U)} {l:List (U.El T)} (ho:o.op= .buildSlice t n parts)
  (hT:cfg.slT t=some T) (hl:parts.size=ps.length) (hn:ps.length=n) (hsmall:n*cfg.sz T<=16777216)
  (hr:∀ (j:Nat) x y,parts[j]?=some x->ps[j]?=some y->x.1=y.1/\RelV cfg g st.dead (fun nm=> (st.mem nm).isSome) (a.eval x.2) y.2) (he:J2 cfg T 0 ps=some l):
  Does P o a w fun v w'=> ∃ g',Out cfg B st g { val:=some (.c (.slice T l .full)) } v w' g':=by
 obtain ⟨hE,hU⟩:=J7 ok hT
 obtain ⟨i,ag,zs,z,h1,h2,h3,h4,h5,h6⟩:=ok.el T
 obtain ⟨z',hz,hZ⟩:=Z1H ok h5 w
 have aj:z'=z:=by
  simp [zeroValue,typeInfo,h1,h4] at hz;exact hz.symm
 subst aj
 have av:z'.cells.size=cfg.sz T:=by have:=(Z02 (g:=g) (st:=st) (cfg:=cfg) hZ).1;simp at this;omega
 let vs0:Array Value:=if n*cfg.sz T=0 then (Array.range (n*cfg.sz T)).map ((#[]:Array Value)[· % 0]!) else (Array.range (n*cfg.sz T)).map (z'.cells[· % z'.cells.size]!)
 have ae:vs0.size=n*cfg.sz T:=by simp only [vs0];split <;> simp
 obtain ⟨aq,vs',h7,h8,_,h9⟩:=Zay (g:=g) (st:=st) ok (parts.toList.map fun x=> (x.1,a.eval x.2)) ps 0 l vs0 he (by simpa using hl) (by
  grind) (by grind)
 have s:l.length=n:=V0
 obtain ⟨g',u⟩:=Z5q (T:=T) (l:=l) (arr:=vs') (d:=0) (kl:=[]) h (SameHeap.refl w) (P.elem t) (cap:=n) (tl:= .full) V0 (by rw [h8,ae]) (.inr ⟨rfl,s⟩) (ok.enc_len T)
  (fun i x hx j c hc=> by grind)
 rw [s] at u
 refine .inl ⟨_,_,?_,g',u⟩
 have af:=J3 ok T w
 rw [<-hE] at af hz
 simp only [execOp,ho]
 apply Z8t
 simp only [Instr.buildSlice,Sem.run_bind,run_underlying hU,Result.andThen_ok,af]
 rw [Jk]
 by_cases h0:n*cfg.sz T=0
 .simp only [h0,if_true]
  simp only [vs0,h0,if_true] at h7
  have aa:Instr.fill (fun i=> some (i*cfg.sz T,cfg.sz T)) ((Array.range 0).map ((#[]:Array Value)[· % (#[]:Array Value).size]!)) (parts.map fun x=> (x.1,a.eval x.2)).toList=some vs':=by
   rw [Xy];exact h7
  simp only [Sem.run_bind,Sem.run_pure,Result.andThen_ok,aa]
  try rfl
 .simp only [h0,if_false]
  simp only [vs0,h0,if_false] at h7
  have aa:Instr.fill (fun i=> some (i*cfg.sz T,cfg.sz T)) ((Array.range (n*cfg.sz T)).map (z'.cells[· % z'.cells.size]!)) (parts.map fun x=> (x.1,a.eval x.2)).toList=some vs':=by
   rw [Xy];exact h7
  simp only [Sem.run_bind,Sem.run_pure,Result.andThen_ok,hz,aa]
  try rfl
theorem Z3d(ok:CfgOk P cfg){m:Addr->Option Value}{T:U.Ty}{l:List (U.El T)}{tl:Tail}{b:Addr}{len cap:Nat}(hs:SimC cfg m (.slice (some b) len cap) (.slice T l tl)):
  ∃ vs:List Value,vs.length=len*cfg.sz T/\(∀ (j:Nat) v,vs[j]?=some v->m (b.add j)=some v/\v.oneCell'=true)/\
   ∀ (i:Nat) x,l[i]?=some x->∀ (j:Nat) c,(cfg.enc T x)[j]?=some c->∃ v,vs[i*cfg.sz T+j]?=some v/\SimC cfg m v c:=by
 have hl:l.length=len:=by cases hs;assumption
 have u:=hs.rows
 have d:=ok.sz_pos T
 let f:Nat->Value:=fun j=> (m (b.add j)).getD undef
 have hf:∀ j,j < len*cfg.sz T->m (b.add j)=some (f j)/\(f j).oneCell'=true:=by
  intro j hj
  have hi:j / cfg.sz T < l.length:=by rw [hl];exact Xv (by grind)
  have h:j % cfg.sz T < (cfg.enc T (l[j / cfg.sz T])).length:=by rw [ok.enc_len];exact XO _ d
  obtain ⟨v,s,h2⟩:=u _ _ (Q0 hi) _ _ (Q0 h)
  have e:j / cfg.sz T*cfg.sz T+j % cfg.sz T=j:=by rw [Xp];exact XK _ _
  rw [e] at s
  simp only [f,s]
  exact ⟨rfl,h2.one.1⟩
 refine ⟨(List.range (len*cfg.sz T)).map f,by simp,?_,?_⟩
 .grind
 .intro i x hx j c hc
  obtain ⟨v,s,h2⟩:=u i x hx j c hc
  have hi:i < l.length:=(Q5.1 hx).1
  have hj:j < cfg.sz T:=by have:=(Q5.1 hc).1;rw [ok.enc_len] at this;exact this
  have af:i*cfg.sz T+j < len*cfg.sz T:=by
   have:(i+1)*cfg.sz T<=len*cfg.sz T:=Qc _ V0
   rw [QE] at this;omega
  grind
theorem Z2N {T:U.Ty} {l l':List (U.El T)} {vs vs':List Value} {m:Addr->Option Value} (hl:vs.length=l.length*cfg.sz T) (henc:∀ x,(cfg.enc T x).length=cfg.sz T)
  (h:∀ (i:Nat) x,l[i]?=some x->∀ (j:Nat) c,(cfg.enc T x)[j]?=some c->∃ v,vs[i*cfg.sz T+j]?=some v/\SimC cfg m v c)
  (h':∀ (i:Nat) x,l'[i]?=some x->∀ (j:Nat) c,(cfg.enc T x)[j]?=some c->∃ v,vs'[i*cfg.sz T+j]?=some v/\SimC cfg m v c):
  ∀ (i:Nat) x,(l++l')[i]?=some x->∀ (j:Nat) c,(cfg.enc T x)[j]?=some c->∃ v,(vs++vs')[i*cfg.sz T+j]?=some v/\SimC cfg m v c:=by
 intro i x d j c hc
 have hj:j < cfg.sz T:=by have:=(Q5.1 hc).1;rw [henc] at this;exact this
 rw [QC] at d
 split at d
 .grind
 .rename_i aa
  obtain ⟨v,s,u⟩:=h' _ x d j c hc
  refine ⟨v,?_,u⟩
  have e1:l.length*cfg.sz T<=i*cfg.sz T:=Qc _ V0
  rw [Qu V0,hl,<-s]
  congr 1
  rw [Kk];omega
theorem ZbF (ok:CfgOk P cfg) (h:Rel cfg B st g a w) {o:Oper} {t:TypeId} {p q:Operand} {T:U.Ty} {n m:Int} {ag:Bool} {zs:List (C U)} {z:U.El T} (ho:o.op= .makeSlice t p q)
  (hT:cfg.slT t=some T) (hp:a.eval p= .int .i64 n) (hq:a.eval q= .int .i64 m) (hz:cfg.var (cfg.elT T)=some (ag,zs)) (hd:cfg.dec T zs=some z)
  (hn:0<=n/\n*cfg.bytes T<=140737488355328/\n<=9223372036854775807) (hm:m=n):
  Does P o a w fun v w'=> ∃ g',Out cfg B st g { val:=some (.c (.slice T (List.replicate n.toNat z) .full)) } v w' g':=by
 have am:=hm.symm
 subst am
 obtain ⟨k,rfl⟩:=X3 hn.1
 simp only [K6] at*
 rw [Xi]
 obtain ⟨hE,hU⟩:=J7 ok hT
 obtain ⟨i,a6,a8,z',h1,h2,h3,h4,h5,h6⟩:=ok.el T
 rw [hz] at h5
 simp only [oP] at h5
 obtain ⟨rfl,rfl⟩:=h5
 obtain ⟨s,ab,hZ⟩:=Z1H ok hz w
 have ao:s=z':=by
  simp [zeroValue,typeInfo,h1,h4] at ab;exact ab.symm
 subst ao
 have u:=Z02 (g:=g) (st:=st) (cfg:=cfg) hZ
 have av:s.cells.size=cfg.sz T:=by have:=u.1;simp at this;omega
 have az:=ok.sz_pos T
 obtain ⟨a4,au⟩:=Z9B ok hd u.1 (fun j v c h1 h2=> u.sim h1 h2)
 let arr:Array Value:=(Array.range (k*cfg.sz T)).map (s.cells[· % s.cells.size]!)
 obtain ⟨g',ae⟩:=Z5q (T:=T) (l:=List.replicate k z) (arr:=arr) (d:=0) (kl:=[]) h (SameHeap.refl w) (P.elem t) (cap:=k) (tl:= .full) (by simp) (by simp [arr]) (.inr ⟨rfl,by simp⟩) (ok.enc_len T)
  (by
   intro i x hx j c hc
   obtain ⟨hi,hx⟩:=Q5.1 hx
   simp at hx hi
   subst hx
   obtain ⟨v,h7,h8⟩:=au j c hc
   have hj:j < cfg.sz T:=by have:=(Q5.1 hc).1;rw [ok.enc_len] at this;exact this
   have a9:i*cfg.sz T+j < k*cfg.sz T:=by
    have:(i+1)*cfg.sz T<=k*cfg.sz T:=Qc _ V0
    rw [QE] at this;omega
   refine ⟨v,?_,h8⟩
   have h9:s.cells[j]?=some v:=by rw [<-h7];simp
   have a5:j < s.cells.size:=V0
   have e:(i*cfg.sz T+j) % s.cells.size=j:=by rw [av,Xp,K2,XY hj]
   grind)
 rw [Xe] at ae
 refine .inl ⟨_,_,?_,g',ae⟩
 have af:=J3 ok T w
 rw [<-hE] at af ab
 have aa:(typeInfo (P.elem t)).run P w= .ok i w:=by rw [hE];simp [typeInfo,h1]
 have hw:IntKind.i64.wrap (k:Int)=k:=by simp [IntKind.wrap,IntKind.signed,IntKind.bits];omega
 have ah:¬(281474976710656 < (i.bytes:Int)*(k:Int)):=by
  rw [h3,Int.mul_comm];have:=hn.2.1;omega
 have aj:¬(k:Int) < 0:=V0
 simp only [execOp,ho]
 apply Z8t
 simp only [hp,hq]
 by_cases h0:k*cfg.sz T=0
 .have ai:arr=#[]:=by simp only [arr,h0];simp
  simp [Instr.makeSlice,run_underlying hU,asInt,asIntOf,aa,hw,ah,aj,af,h0,newRow,ai]
  grind
 .have ar:(decide ((k:Int) < 0) || decide ((i.bytes:Int)*(k:Int) > 2 ^ 48) || decide ((k:Int) < 0) || decide ((k:Int) > (k:Int)))=false:=by
   simp [ah,aj]
  simp only [Instr.makeSlice,Sem.run_bind,run_underlying hU,Result.andThen_ok,asInt,asIntOf,Sem.run_pure,aa,hw,ar]
  simp only [Xs,if_false,Sem.run_bind,run_askRoom,Result.andThen_ok,af,Xi,h0,ab,Sem.run_pure]
  try rfl
open Classical in
noncomputable def Gh.grown(g:Gh)(w':World)(b:Addr)(lo mid hi:Nat)(t:Tok):Gh:=
 {m:=fun c=> if ∃ j,lo<=j/\j < mid/\c=b.add j then w'.cell? c else g.m c
  tag:=fun c=> if ∃ j,lo<=j/\j < mid/\c=b.add j then none else if ∃ j,mid<=j/\j < hi/\c=b.add j then some (.tok t) else g.tag c
  ad:=g.ad
  bs:=g.bs }
theorem ZbM (ok:CfgOk P cfg) (h:Rel cfg B st g a w) {T:U.Ty} {l l':List (U.El T)} {tl:Tail} {b:Addr} {len cap n:Nat} {vs:List Value} {d:Nat} {kl:List Tok}
  (hx:RelC cfg g st.dead (.slice (some b) len cap) (.slice T l tl)) (hl:l.length=len) (hc:len<=cap) (hfit:len+n<=cap) (hln:l'.length=n)
  (hvl:vs.length=n*cfg.sz T) (hvo:∀ v∈vs,v.oneCell'=true)
  (hvr:∀ (i:Nat) x,l'[i]?=some x->∀ (j:Nat) c,(cfg.enc T x)[j]?=some c->∃ v,vs[i*cfg.sz T+j]?=some v/\SimC cfg g.m v c)
  (htl:(tl= .full/\kl=[])\/∃ u,tl= .own u/\st.dead u=false/\kl=[u]):
  ∃ w' g',(storeCells (b.add (len*cfg.sz T)) vs).run P w= .ok () w'/\Out cfg B st g { val:=some (.c (.slice T (l++l') (.own (.r d 0)))),kill:=kl } (.slice (some b) (len+n) cap) w' g':=by
 have bm:(len+n)*cfg.sz T=len*cfg.sz T+n*cfg.sz T:=QE ..
 have bf:(len+n)*cfg.sz T<=cap*cfg.sz T:=Qc _ hfit
 have ak:∀ j,len*cfg.sz T<=j->j < cap*cfg.sz T->∃ u,kl=[u]/\g.tag (b.add j)=some (.tok u):=by
  intro j h1 h2
  rcases htl with ⟨rfl,_⟩ | ⟨u,rfl,hu,rfl⟩
  .have:=hx.2 _ _ _ rfl
   subst this
   omega
  .exact ⟨u,rfl,hx.2 hu b len cap rfl j h1 h2⟩
 obtain ⟨w',h1,h2,h3,h4,h5,h6⟩:=J8 (P:=P) (b.add (len*cfg.sz T)) vs 0 w hvo (by
  intro j hj
  rw [Go.Deep.add_add,QL]
  obtain ⟨u,_,ht⟩:=ak (len*cfg.sz T+j) V0 V0
  obtain ⟨h7,v,h8⟩:=h.inv.it _ _ ht
  exact ⟨⟨v,h8⟩,h7⟩)
 simp only [QL,Go.Deep.add_add] at h2 h3 h4
 let g':=g.grown w' b (len*cfg.sz T) ((len+n)*cfg.sz T) (cap*cfg.sz T) (.r d 0)
 have hS:∀ c,(∃ j,len*cfg.sz T<=j/\j < cap*cfg.sz T/\c=b.add j)->∃ u,kl=[u]/\g.tag c=some (.tok u):=by
  rintro c ⟨j,ao,aq,rfl⟩
  exact ak j ao aq
 have bk:∀ c,(∃ j,len*cfg.sz T<=j/\j < (len+n)*cfg.sz T/\c=b.add j)->∃ v,w'.cell? c=some v:=by
  rintro c ⟨j,ao,aq,rfl⟩
  have:=h3 (j - len*cfg.sz T) _ (Q0 V0)
  rw [show len*cfg.sz T+(j - len*cfg.sz T)=j by omega] at this
  exact ⟨_,this⟩
 have ax:∀ c v,g.m c=some v->w'.cell? c=some v/\¬(∃ j,len*cfg.sz T<=j/\j < cap*cfg.sz T/\c=b.add j):=by
  intro c v hv
  obtain ⟨h7,h8⟩:=h.inv.im c v hv
  have ah:¬(∃ j,len*cfg.sz T<=j/\j < cap*cfg.sz T/\c=b.add j):=fun hc=> by
   obtain ⟨u,_,h9⟩:=hS c hc
   rw [h8] at h9;cases h9
  refine ⟨?_,ah⟩
  rw [h4 c fun j hj e=> ah ⟨_,V0,V0,e⟩]
  exact h7
 have am:∀ c v,g.m c=some v->g'.m c=some v:=by
  intro c v hv
  have:=(ax c v hv).2
  simp only [g',Gh.grown]
  rw [if_neg (fun ⟨j,a1,a2,a3⟩=> this ⟨j,a1,V0,a3⟩)]
  exact hv
 have ae:∀ c,¬(∃ j,len*cfg.sz T<=j/\j < cap*cfg.sz T/\c=b.add j)->g'.tag c=g.tag c:=by
  intro c ah
  simp only [g',Gh.grown]
  rw [if_neg (fun ⟨j,a1,a2,a3⟩=> ah ⟨j,a1,V0,a3⟩),if_neg (fun ⟨j,a1,a2,a3⟩=> ah ⟨j,V0,a2,a3⟩)]
 have a4:Inv g'.m g'.tag w':=by
  refine ⟨fun c v hv=> ?_,fun c t ht=> ?_⟩
  .simp only [g',Gh.grown] at hv ⊢
   split at hv
   .rename_i hc
    rw [if_pos hc]
    exact ⟨hv,rfl⟩
   .rename_i hc
    rw [if_neg hc]
    obtain ⟨h7,h8⟩:=ax c v hv
    refine ⟨h7,?_⟩
    rw [if_neg (fun ⟨j,a1,a2,a3⟩=> h8 ⟨j,V0,a2,a3⟩)]
    exact (h.inv.im c v hv).2
  .have ar:∀ t',g.tag c=some t'->w'.frozen? c=false/\∃ v,w'.cell? c=some v:=by
    intro t' bg
    obtain ⟨h7,u,h8⟩:=h.inv.it c t' bg
    exact ⟨(h5 c).trans h7,h2.some c u h8⟩
   simp only [g',Gh.grown] at ht
   split at ht
   .cases ht
   .split at ht
    .rename_i hc
     obtain ⟨j,a1,a2,a3⟩:=hc
     obtain ⟨u,_,h7⟩:=hS c ⟨j,V0,a2,a3⟩
     exact ar _ h7
    .exact ar t ht
 have ai:Keeps g g' st.dead (fun t=> st.dead t || kl.contains t) (fun nm=> (st.mem nm).isSome) (fun nm=> (st.mem nm).isSome):=by
  refine ⟨am,fun c t hd ht=> ?_,fun t ht=> ?_,fun nm hn=> ⟨hn,rfl⟩,fun _ _ _ h=> h,fun _=> rfl⟩
  .rw [ae c ?_]
   .exact ht
   .intro hc
    obtain ⟨u,hu,h7⟩:=hS c hc
    rw [ht] at h7
    cases h7
    rw [hu] at hd
    simp at hd
  .simp only [QD] at ht
   exact ht.1
 refine ⟨w',g',h1,a4,?_,ai,?_,?_,h.ls_keep rfl ai (fun c v hv=> (ax c v hv).1) (fun c t hd ht=> ?_),h.fresh_keep rfl (fun _=> rfl)⟩
 .refine h.fr.step h.inv h2 ?_ am ?_ ?_ (fun _=> rfl)
  .rintro c ⟨j,hj,rfl⟩
   obtain ⟨u,_,ht⟩:=ak (len*cfg.sz T+j) V0 V0
   exact ⟨_,ht,fun t' e=> by cases e⟩
  .intro c t
   by_cases hc:∃ j,len*cfg.sz T<=j/\j < cap*cfg.sz T/\c=b.add j
   .obtain ⟨u,_,h7⟩:=hS c hc
    constructor
    .intro h8;rw [h7] at h8;cases h8
    .intro h8
     simp only [g',Gh.grown] at h8
     split at h8
     .cases h8
     .split at h8
      .cases h8
      .exact h8
   .rw [ae c hc]
  .intro bb _ a5 o s
   refine ae _ fun hc=> ?_
   obtain ⟨u,_,h7⟩:=hS _ hc
   obtain ⟨t',h8⟩:=a5 _ _ _ h7
   cases h8
 .intro nm cs hm j c hj
  obtain ⟨v,h7,h8,h9⟩:=h.mem nm cs hm j c hj
  have ah:¬(∃ i,len*cfg.sz T<=i/\i < cap*cfg.sz T/\(g.ad nm).add j=b.add i):=fun hc=> by
   obtain ⟨u,_,aw⟩:=hS _ hc
   rw [h8] at aw;cases aw
  refine ⟨v,?_,(ae _ ah).trans h8,h9.keep ai⟩
  show w'.cell? ((g.ad nm).add j)=some v
  rw [h4 _ fun i hi e=> ah ⟨_,V0,V0,e⟩]
  exact h7
 .refine ⟨.of_rows _ (by simp [hl,hln]) hfit ?_,?_⟩
  .obtain ⟨us,a8,bi,bh⟩:=Z3d ok hx.1
   have:=Z2N (m:=g.m) (vs:=us) (vs':=vs) (by rw [a8,hl]) (ok.enc_len T) bh hvr
   intro i x hi j c hj
   obtain ⟨v,h7,h8⟩:=this i x hi j c hj
   refine ⟨v,?_,h8.mono am⟩
   by_cases hlt:i*cfg.sz T+j < len*cfg.sz T
   .rw [QG V0] at h7
    exact am _ _ (bi _ _ h7).1
   .rw [Qu V0,a8] at h7
    have h9:=h3 _ _ h7
    rw [show len*cfg.sz T+(i*cfg.sz T+j - len*cfg.sz T)=i*cfg.sz T+j by omega] at h9
    have aw:=(Q5.1 h7).1
    simp only [g',Gh.grown]
    rw [if_pos ⟨i*cfg.sz T+j,V0,V0,rfl⟩]
    exact h9
  .intro _ b' bl bn hv j ao aq
   simp only [Value.slice.injEq,Option.some.injEq] at hv
   obtain ⟨rfl,rfl,rfl⟩:=hv
   simp only [g',Gh.grown]
   rw [if_neg (fun ⟨i,a1,a2,a3⟩=> by have:=Z1g a3;omega),if_pos ⟨j,ao,aq,rfl⟩]
 .refine h4 c fun j hj e=> ?_
  obtain ⟨u,hu,h7⟩:=ak (len*cfg.sz T+j) V0 V0
  rw [e,h7] at ht
  cases ht
  rw [hu] at hd
  simp [Zm] at hd
theorem Z5n(w:World)(need old:Nat)(e:TypeId):need<=grownCap w need old e:=by
 exact Nat.le_add_right _ _
theorem ZiA (ok:CfgOk P cfg) (h:Rel cfg B st g a w) {o:Oper} {d:Nat} {t:TypeId} {x y:C U} {px py:Operand} {ps:List Prop} {e:Eff U}
  (ho:o.op= .call { callee:= .builtin .append,args:=#[px,py],argTypes:=#[t,t] })
  (hx:RelC cfg g st.dead (a.eval px) x) (hy:RelC cfg g st.dead (a.eval py) y) (he:Z6Q cfg st d t x y=some (ps,e)) (hps:All ps):
  Does P o a w fun v w'=> ∃ g',Out cfg B st g e v w' g':=by
 unfold Z6Q at he
 split at he
 .cases he
 rename_i T hT
 split at he
 case h_2=> cases he
 rename_i l tl l' ch bk bo
 obtain ⟨hE,hU⟩:=J7 ok hT
 obtain ⟨ay,b,len,cap,a6,hl,hc,hb⟩:=Z3I hx bk
 obtain ⟨a7,b',n,ah,a5,ai,co,bx⟩:=Z3I hy bo
 rw [a6] at ay
 rw [a5] at a7
 have b2:P.underlying t=some (.slice (cfg.elT T)):=by rw [hE] at hU;exact hU
 obtain ⟨i,ag,zs,z,hi,be,cp,hz,bc,cg⟩:=ok.el T
 have af:(l.length+l'.length)*cfg.bytes T<=140737488355328:=by
  split at he
  .cases he
  .simp only [oP] at he;rw [<-he.1] at hps;exact hps.1
  .split at he
   .cases he
   .simp only [oP] at he;rw [<-he.1] at hps;exact hps.1
 have aq:∃ kl,e={ val:=some (.c (.slice T (l++l') (.own (.r d 0)))),kill:=kl }/\((tl= .full/\kl=[])\/∃ u,tl= .own u/\st.dead u=false/\kl=[u]):=by
  split at he
  .cases he
  .simp only [oP] at he;exact ⟨[],he.2.symm,.inl ⟨rfl,rfl⟩⟩
  .split at he
   .cases he
   .rename_i u _ hu
    simp only [oP] at he
    exact ⟨[u],he.2.symm,.inr ⟨u,rfl,by simpa using hu,rfl⟩⟩
 obtain ⟨kl,rfl,aq⟩:=aq
 rw [hl,ai] at af
 have bn:=ok.bytes_pos T
 have b4:len+n<=140737488355328:=X5 (XQ _ bn) af
 have bf:∃ vs:List Value,vs.length=n*cfg.sz T/\(∀ v∈vs,v.oneCell'=true)/\(∀ w:World,(∀ c v,g.m c=some v->w.cell? c=some v)->(Builtin.firstCells i.size n (.slice b' n ah)).run P w= .ok vs.toArray w)/\
   (∀ (k:Nat) x,l'[k]?=some x->∀ (j:Nat) c,(cfg.enc T x)[j]?=some c->∃ v,vs[k*cfg.sz T+j]?=some v/\SimC cfg g.m v c)/\
   (∀ a',b'=some a'->∀ (j:Nat) v,vs[j]?=some v->g.m (a'.add j)=some v):=by
  cases b' with
  | none=>
   obtain ⟨rfl,rfl⟩:=bx rfl
   have ae:l'=[]:=Q6 ai
   subst ae
   exact ⟨[],by simp,by simp,fun w _=> run_firstCells_none w _ _ _ _,fun k x hx=> by simp at hx,fun a' ha=> by cases ha⟩
  | some a'=>
   obtain ⟨vs,h1,h2,h3⟩:=Z3d ok a7.1
   refine ⟨vs,h1,fun v hv=> ?_,fun w hw=> ?_,h3,fun ct ha j v hv=> ?_⟩
   .obtain ⟨j,hj,rfl⟩:=Xn hv
    exact (h2 j _ (Q0 hj)).2
   .exact run_firstCells_some w i.size n a' n ah vs (by grind) (fun j v hv=> hw _ _ (h2 j v hv).1)
   grind
 obtain ⟨vs,a9,bp,aa,a4,ck⟩:=bf
 have a1:∀ c v,g.m c=some v->w.cell? c=some v:=fun c v hv=> (h.inv.im c v hv).1
 have s:(execOp a.eval o).run P w=((Builtin.append_ #[t,t] o.type #[.slice b len cap,.slice b' n ah]).run P w).andThen fun v w=> .ok (.value v) w:=by
  simp only [execOp,ho,resolve,Sem.run_bind,Sem.run_pure,Result.andThen_ok,invoke,builtin]
  simp [a6,a5]
 have ao:∀ w,(underlying t).run P w= .ok (.slice (cfg.elT T)) w:=fun w=> run_underlying b2 w
 by_cases hfit:len+n<=cap
 .cases b with
  | none=>
   obtain ⟨rfl,rfl⟩:=hb rfl
   have bm:n=0:=V0
   subst bm
   have ae:l=[]:=Q6 hl
   have b1:l'=[]:=Q6 ai
   subst ae b1
   have bv:vs=[]:=Q6 V0
   subst bv
   have az:Keeps g g st.dead (Zm st ({ val:=some (.c (.slice T ([]++[]) (.own (.r d 0)))),kill:=kl }:Eff U)) (fun nm=> (st.mem nm).isSome) (ZW st ({ val:=some (.c (.slice T ([]++[]) (.own (.r d 0)))),kill:=kl }:Eff U)):=
    ⟨fun _ _ h=> h,fun _ _ _ h=> h,fun t ht=> by simp only [Zm,QD] at ht;exact ht.1,fun nm hn=> ⟨hn,rfl⟩,fun _ _ _ h=> h,fun _=> rfl⟩
   refine .inl ⟨.slice none 0 0,w,?_,g,h.inv,h.fr,az,?_,⟨.snil T _,fun _ a len cap hv=> by simp at hv⟩,h.ls_keep rfl az (fun c v hv=> (h.inv.im c v hv).1) (fun _ _ _ _=> rfl),h.fresh_keep rfl (fun _=> rfl)⟩
   .rw [s]
    simp [Builtin.append_,ao,sizeOf,typeInfo,hi,Builtin.lenOf,aa w a1]
   .intro nm cs hm j c hj
    obtain ⟨v,h7,h8,h9⟩:=h.mem nm cs hm j c hj
    exact ⟨v,h7,h8,h9.keep az⟩
  | some b=>
   obtain ⟨w',g',h1,h2⟩:=ZbM (P:=P) (d:=d) ok h ay hl hc hfit ai a9 bp a4 aq
   refine .inl ⟨_,w',?_,g',h2⟩
   rw [s]
   rw [<-be] at h1
   simp [Builtin.append_,ao,sizeOf,typeInfo,hi,Builtin.lenOf,aa w a1,hfit,h1]
 .have aw:cap < len+n:=V0
  have bz:0 < n:=V0
  have b6:¬((len+n:Nat):Int) > 9223372036854775807:=V0
  have bw:Builtin.nextslicecap (len+n) cap*i.bytes<=281474976710656:=growslice_fits aw (by grind)
  have am:=Z5n w (len+n) cap (cfg.elT T)
  have bd:∃ us:List Value,us.length=len*cfg.sz T/\(∀ w:World,(∀ c v,g.m c=some v->w.cell? c=some v)->(Builtin.firstCells i.size len (.slice b len cap)).run P w= .ok us.toArray w)/\
    ∀ (k:Nat) x,l[k]?=some x->∀ (j:Nat) c,(cfg.enc T x)[j]?=some c->∃ v,us[k*cfg.sz T+j]?=some v/\SimC cfg g.m v c:=by
   cases b with
   | none=>
    obtain ⟨rfl,rfl⟩:=hb rfl
    have ae:l=[]:=Q6 hl
    subst ae
    exact ⟨[],by simp,fun w _=> run_firstCells_none w _ _ _ _,fun k x hx=> by simp at hx⟩
   | some b=>
    obtain ⟨us,h1,h2,h3⟩:=Z3d ok ay.1
    exact ⟨us,h1,fun w hw=> run_firstCells_some w i.size len b len cap us (by grind) (fun j v hv=> hw _ _ (h2 j v hv).1),h3⟩
  obtain ⟨us,ak,a0,bi⟩:=bd
  have bl:z.cells.size=cfg.sz T:=by
   obtain ⟨z',a8,hZ⟩:=Z1H ok bc w
   have:z'=z:=by simp [zeroValue,typeInfo,hi,hz] at a8;exact a8.symm
   subst this
   have:=(Z02 (g:=g) (st:=st) (cfg:=cfg) hZ).1;simp at this;omega
  let nc:=grownCap w (len+n) cap (cfg.elT T)
  let arr:Array Value:=us.toArray++vs.toArray++Builtin.zeroCells z.cells (nc - (len+n))
  have cm:len+n<=nc:=am
  have a3:arr.size=nc*cfg.sz T:=by
   have e1:(len+n)*cfg.sz T+(nc - (len+n))*cfg.sz T=nc*cfg.sz T:=by rw [<-QE];congr 1;omega
   rw [QE] at e1
   simp [arr,Builtin.zeroCells,ak,a9,bl]
   omega
  have ax:=Z2N (m:=g.m) (vs:=us) (vs':=vs) (by rw [ak,hl]) (ok.enc_len T) bi a4
  obtain ⟨g',al⟩:=Z5q (T:=T) (l:=l++l') (arr:=arr) (d:=d) (kl:=kl) h (SameHeap.drew w) (cfg.elT T) (cap:=nc) (tl:= .own (.r d 0)) (by grind) a3 (.inl rfl) (ok.enc_len T)
   (fun k x hx j c hc=> by
    obtain ⟨v,h1,h2⟩:=ax k x hx j c hc
    grind)
  rw [show (l++l').length=len+n by simp [hl,ai]] at al
  refine .inl ⟨_,_,?_,g',al⟩
  have bb:∀ c v,g.m c=some v->w.drew.cell? c=some v:=fun c v hv=> (a1 c v hv)
  rw [s]
  have bj:¬(Builtin.nextslicecap (len+n) cap*i.bytes > 2 ^ 48):=V0
  have cb:¬i.bytes=0:=V0
  have bu:¬((9223372036854775807:Int) < (len:Int)+(n:Int)):=V0
  simp [Builtin.append_,ao,sizeOf,typeInfo,zeroValue,hi,hz,Builtin.lenOf,hfit,bu,bj,Question.forced,a0 w.drew bb,aa w.drew bb,newRow]
  refine ⟨rfl,?_⟩
  simp only [arr,nc,grownCap,K8]
def Gh.setBs(g:Gh)(t:Tok)(v:Value × Nat):Gh:={ g with bs:=fun u=> if u=t then some v else g.bs u }
theorem Fr.setBs{t:Tok}{v:Value × Nat}(h:Fr B g w):Fr B (g.setBs t v) w:=⟨h.stay,h.xad,h.mono,h.outer,h.outer',h.clean,h.frz⟩
theorem Keeps.setBs{g':Gh}{dead dead2:Tok->Bool}{live live2:Name->Bool}{t:Tok}{v:Value × Nat}(k:Keeps g g' dead dead2 live live2)(hf:g.bs t=none):Keeps g (g'.setBs t v) dead dead2 live live2:=
 ⟨k.m,k.tok,k.dead,k.ad,fun u x h d=> by
  simp only [Gh.setBs]
  split
  .grind
  .exact k.bs u x h d,k.adx⟩
def ZH(d:Nat)(T:U.Ty)(l:List (U.El T))(f:Nat)(kl:List Tok):Eff U:={ val:=some (.c (.mref (.r d 0))),kill:=kl,ls:=[(.r d 0,⟨T,l,f⟩)] }
theorem Zal{d:Nat}{T:U.Ty}{l:List (U.El T)}{f:Nat}{kl:List Tok}{t:Tok}{x:LC U}(h:JI st.ls (ZH d T l f kl) t=some x):
  (t= .r d 0/\x=⟨T,l,f⟩)\/(t≠.r d 0/\st.ls t=some x/\kl.contains t=false):=by
 unfold JI at h
 cases hk:kl.contains t with
 | true=> simp only [ZH,hk,cond_true,reduceCtorEq] at h
 | false=>
  simp only [ZH,hk,cond_false,Zx] at h
  grind
theorem Z2u{d:Nat}{T:U.Ty}{l:List (U.El T)}{f:Nat}{kl:List Tok}{t:Tok}(h:JI st.ls (ZH d T l f kl) t=none)(hd:Zm st (ZH d T l f kl) t=false):
  t≠.r d 0/\st.ls t=none/\st.dead t=false:=by
 simp only [Zm,QD] at hd
 unfold JI at h
 rw [hd.2] at h
 simp only [ZH,cond_false,Zx] at h
 grind
theorem Z4g (h:Rel cfg B st g a w) {w1:World} (hw:SameHeap w w1) {T:U.Ty} {l:List (U.El T)} {arr:Array Value} (e:TypeId) {cap d f:Nat} {kl:List Tok}
  (hcap:l.length<=cap) (hf:f<=l.length) (hsz:arr.size=cap*cfg.sz T) (henc:∀ x,(cfg.enc T x).length=cfg.sz T)
  (hls:st.ls (.r d 0)=none) (hdd:st.dead (.r d 0)=false) (hkl:kl.contains (.r d 0)=false)
  (hrows:∀ i x,l[i]?=some x->∀ j c,(cfg.enc T x)[j]?=some c->∃ v,arr[i*cfg.sz T+j]?=some v/\SimC cfg g.m v c):
  ∃ g',Out cfg B st g (ZH d T l f kl) (.slice (some ⟨w.heap.size,0,none⟩) l.length cap) (w1.alloc (.cells arr e)) g':=by
 let im:Nat->Bool:=fun i=> decide (i < f*cfg.sz T)
 let tg:Nat->Option Tag:=fun i=> if f*cfg.sz T<=i/\i < arr.size then some (.tok (.r d 0)) else none
 obtain ⟨h1,h2,h3,h4,h5⟩:=Zly h hw arr e im tg g.ad (by
  grind) (fun _ _=> rfl) (fun _=> rfl)
 have s:=h.fresh (.r d 0) rfl hls hdd
 have af:Keeps g (g.new w.heap.size arr im tg g.ad) st.dead (Zm st (ZH d T l f kl)) (fun nm=> (st.mem nm).isSome) (ZW st (ZH d T l f kl)):=h3 kl.contains _ (fun nm hs=> hs)
 have hk:=af.setBs (t:= .r d 0) (v:=(.slice (some ⟨w.heap.size,0,none⟩) l.length cap,cfg.sz T)) s
 have ah:Zm st (ZH d T l f kl) (.r d 0)=false:=by simp only [Zm,ZH,hdd,hkl,Xq]
 refine ⟨(g.new w.heap.size arr im tg g.ad).setBs (.r d 0) (.slice (some ⟨w.heap.size,0,none⟩) l.length cap,cfg.sz T),h1,h2.setBs,hk,?_,⟨.mref _ _ ⟨rfl,rfl⟩,fun _=> ⟨cfg.sz T,by simp [Gh.setBs]⟩⟩,?_,?_⟩
 .intro nm cs hm j c hj
  refine ZhN h hk h5 ?_ nm cs hm j c hj
  intro c t ht
  have:=h.inv.lt ht
  simp only [Gh.setBs,Gh.new]
  grind
 .intro t x hx
  rcases Zal hx with ⟨rfl,rfl⟩ | ⟨hne,hx,hkt⟩
  .refine ⟨ah,.inr ⟨⟨w.heap.size,0,none⟩,l.length,cap,by simp [Gh.setBs],rfl,hcap,hf,?_,?_⟩⟩
   .intro i y hy j c hc
    obtain ⟨v,h6,h7⟩:=hrows i y hy j c hc
    have hi:i < l.length:=(Q5.1 hy).1
    have hj:j < cfg.sz T:=by have:=(Q5.1 hc).1;rw [henc] at this;exact this
    have ay:i*cfg.sz T+j < arr.size:=(QM.1 h6).1
    simp only [Addr.add_lit,QL]
    refine ⟨v,(h4 _).trans h6,h7.mono hk.m,fun u=> ?_,fun u=> ?_⟩
    .have:(i+1)*cfg.sz T<=f*cfg.sz T:=Qc _ u
     rw [QE] at this
     simp only [Gh.setBs,Gh.new,and_self,if_true,im]
     grind
    .have:f*cfg.sz T<=i*cfg.sz T:=Qc _ u
     simp only [Gh.setBs,Gh.new,and_self,if_true,tg]
     grind
   .intro j a1 a2
    dsimp only at a1 a2
    have:f*cfg.sz T<=l.length*cfg.sz T:=Qc _ hf
    simp only [Addr.add_lit,QL]
    simp only [Gh.setBs,Gh.new,and_self,if_true,tg]
    grind
  .obtain ⟨h6,h7⟩:=h.ls t x hx
   have hd:Zm st (ZH d T l f kl) t=false:=by simp only [Zm,ZH,h6,hkt,Xq]
   exact ⟨hd,h7.keep hk hd (fun c v hv=> h5 _ _ (h.inv.im c v hv).1) (fun c ht=> by obtain ⟨_,v,hv⟩:=h.inv.it c _ ht;grind)⟩
 .intro t h0 h6 h7
  obtain ⟨h8,h9,ak⟩:=Z2u h6 h7
  simp only [Gh.setBs]
  rw [if_neg h8]
  exact h.fresh t h0 h9 ak
structure Src (cfg:Cfg U) (g:Gh) (w:World) (T:U.Ty) (l:List (U.El T)) (f:Nat) (kl:List Tok) (b:Addr) (len cap:Nat):Prop where
 hl:l.length=len
 hc:len<=cap
 hf:f<=len
 rows:∀ i y,l[i]?=some y->∀ j c,(cfg.enc T y)[j]?=some c->∃ u,w.cell? (b.add (i*cfg.sz T+j))=some u/\SimC cfg g.m u c/\
  (i < f->g.m (b.add (i*cfg.sz T+j))=some u)/\(f<=i->∃ t,kl=[t]/\g.tag (b.add (i*cfg.sz T+j))=some (.tok t))
 tail:∀ j,len*cfg.sz T<=j->j < cap*cfg.sz T->∃ t,kl=[t]/\g.tag (b.add j)=some (.tok t)
theorem Src.own(ok:CfgOk P cfg){T:U.Ty}{l:List (U.El T)}{f:Nat}{kl:List Tok}{b:Addr}{len cap:Nat}(s:Src cfg g w T l f kl b len cap):
  ∀ j,f*cfg.sz T<=j->j < cap*cfg.sz T->∃ t,kl=[t]/\g.tag (b.add j)=some (.tok t):=by
 intro j h1 h2
 have d:=ok.sz_pos T
 rcases XD j (len*cfg.sz T) with h3 | h3
 .have hi:j / cfg.sz T < l.length:=by rw [s.hl];exact Xv (by grind)
  have h:j % cfg.sz T < (cfg.enc T (l[j / cfg.sz T])).length:=by rw [ok.enc_len];exact XO _ d
  obtain ⟨u,_,_,_,h4⟩:=s.rows _ _ (Q0 hi) _ _ (Q0 h)
  have e:j / cfg.sz T*cfg.sz T+j % cfg.sz T=j:=by rw [Xp];exact XK _ _
  rw [e] at h4
  exact h4 ((K0 d).2 h1)
 .exact s.tail j h3 h2
theorem Src.list(ok:CfgOk P cfg){T:U.Ty}{l:List (U.El T)}{f:Nat}{kl:List Tok}{b:Addr}{len cap:Nat}(s:Src cfg g w T l f kl b len cap):
  ∃ vs:List Value,vs.length=len*cfg.sz T/\(∀ (j:Nat) v,vs[j]?=some v->w.cell? (b.add j)=some v)/\
   ∀ (i:Nat) x,l[i]?=some x->∀ (j:Nat) c,(cfg.enc T x)[j]?=some c->∃ v,vs[i*cfg.sz T+j]?=some v/\SimC cfg g.m v c:=by
 have d:=ok.sz_pos T
 let fn:Nat->Value:=fun j=> (w.cell? (b.add j)).getD undef
 have hf:∀ j,j < len*cfg.sz T->w.cell? (b.add j)=some (fn j):=by
  intro j hj
  have hi:j / cfg.sz T < l.length:=by rw [s.hl];exact Xv (by grind)
  have h:j % cfg.sz T < (cfg.enc T (l[j / cfg.sz T])).length:=by rw [ok.enc_len];exact XO _ d
  obtain ⟨v,u,_⟩:=s.rows _ _ (Q0 hi) _ _ (Q0 h)
  have e:j / cfg.sz T*cfg.sz T+j % cfg.sz T=j:=by rw [Xp];exact XK _ _
  rw [e] at u
  simp only [fn,u,XH]
 refine ⟨(List.range (len*cfg.sz T)).map fn,by simp,?_,?_⟩
 .grind
 .intro i x hx j c hc
  obtain ⟨v,u,h2,_⟩:=s.rows i x hx j c hc
  have hi:i < l.length:=(Q5.1 hx).1
  have hj:j < cfg.sz T:=by have:=(Q5.1 hc).1;rw [ok.enc_len] at this;exact this
  have ae:i*cfg.sz T+j < len*cfg.sz T:=by
   have:(i+1)*cfg.sz T<=len*cfg.sz T:=Qc _ (by have:=s.hl;omega)
   rw [QE] at this;omega
  grind
open Classical in
noncomputable def Gh.renamed(g:Gh)(b:Addr)(lo hi:Nat)(t:Tok)(v:Value × Nat):Gh:=
 {m:=g.m
  tag:=fun c=> if ∃ j,lo<=j/\j < hi/\c=b.add j then some (.tok t) else g.tag c
  ad:=g.ad
  bs:=fun u=> if u=t then some v else g.bs u }
theorem Z77 (ok:CfgOk P cfg) (h:Rel cfg B st g a w) {T:U.Ty} {l l':List (U.El T)} {b:Addr} {f len cap n:Nat} {vs:List Value} {d:Nat} {kl:List Tok}
  (s:Src cfg g w T l f kl b len cap) (hfit:len+n<=cap) (hln:l'.length=n)
  (hvl:vs.length=n*cfg.sz T) (hvo:∀ v∈vs,v.oneCell'=true)
  (hvr:∀ (i:Nat) x,l'[i]?=some x->∀ (j:Nat) c,(cfg.enc T x)[j]?=some c->∃ v,vs[i*cfg.sz T+j]?=some v/\SimC cfg g.m v c)
  (hls:st.ls (.r d 0)=none) (hdd:st.dead (.r d 0)=false) (hkl:kl.contains (.r d 0)=false):
  ∃ w' g',(storeCells (b.add (len*cfg.sz T)) vs).run P w= .ok () w'/\Out cfg B st g (ZH d T (l++l') f kl) (.slice (some b) (len+n) cap) w' g':=by
 have bl:(len+n)*cfg.sz T=len*cfg.sz T+n*cfg.sz T:=QE ..
 have bg:(len+n)*cfg.sz T<=cap*cfg.sz T:=Qc _ hfit
 have bn:f*cfg.sz T<=len*cfg.sz T:=Qc _ s.hf
 have ak:=s.own ok
 have hl:=s.hl
 obtain ⟨w',h1,h2,h3,h4,h5,h6⟩:=J8 (P:=P) (b.add (len*cfg.sz T)) vs 0 w hvo (by
  intro j hj
  rw [Go.Deep.add_add,QL]
  obtain ⟨u,_,ht⟩:=s.tail (len*cfg.sz T+j) V0 V0
  obtain ⟨h7,v,h8⟩:=h.inv.it _ _ ht
  exact ⟨⟨v,h8⟩,h7⟩)
 simp only [QL,Go.Deep.add_add] at h2 h3 h4
 let g':=g.renamed b (f*cfg.sz T) (cap*cfg.sz T) (.r d 0) (.slice (some b) (len+n) cap,cfg.sz T)
 have ay:=h.fresh (.r d 0) rfl hls hdd
 have a9:Zm st (ZH d T (l++l') f kl) (.r d 0)=false:=by simp only [Zm,ZH,hdd,hkl,Xq]
 have aj:∀ c,(∃ t,g.tag c=some t/\∀ u,kl=[u]->t≠.tok u)\/g.tag c=none->¬∃ j,f*cfg.sz T<=j/\j < cap*cfg.sz T/\c=b.add j:=by
  rintro c hc ⟨j,a1,a2,rfl⟩
  obtain ⟨u,hu,ht⟩:=ak j a1 a2
  rcases hc with ⟨t,h7,h8⟩ | h7
  .rw [ht] at h7;cases h7;exact h8 u hu rfl
  .rw [ht] at h7;cases h7
 have ab:∀ c,(¬∃ j,f*cfg.sz T<=j/\j < cap*cfg.sz T/\c=b.add j)->g'.tag c=g.tag c:=by
  intro c hc
  simp only [g',Gh.renamed]
  rw [if_neg hc]
 have ah:∀ c,(¬∃ j,f*cfg.sz T<=j/\j < cap*cfg.sz T/\c=b.add j)->w'.cell? c=w.cell? c:=by
  intro c hc
  exact h4 c fun j hj e=> hc ⟨_,V0,V0,e⟩
 have a6:∀ c v,g.m c=some v->w'.cell? c=some v:=by
  intro c v hv
  obtain ⟨h7,h8⟩:=h.inv.im c v hv
  rw [ah c (aj c (.inr h8))]
  exact h7
 have a4:∀ t,Zm st (ZH d T (l++l') f kl) t=false->∀ u,kl=[u]->t≠u:=by
  intro t ht u hu e
  subst e
  simp [Zm,ZH,hu] at ht
 have ae:Keeps g g' st.dead (Zm st (ZH d T (l++l') f kl)) (fun nm=> (st.mem nm).isSome) (ZW st (ZH d T (l++l') f kl)):=by
  refine ⟨fun _ _ h=> h,fun c t hd ht=> ?_,fun t ht=> ?_,fun nm hn=> ⟨hn,rfl⟩,fun t v hd hv=> ?_,fun _=> rfl⟩
  .rw [ab c (aj c (.inl ⟨_,ht,fun u hu e=> by cases e;exact a4 _ hd _ hu rfl⟩))]
   exact ht
  .simp only [Zm,QD] at ht
   exact ht.1
  .simp only [g',Gh.renamed]
   split
   .rename_i e;subst e;rw [ay] at hv;cases hv
   .exact hv
 refine ⟨w',g',h1,⟨fun c v hv=> ?_,fun c t ht=> ?_⟩,?_,ae,?_,⟨.mref _ _ ⟨rfl,rfl⟩,fun _=> ⟨cfg.sz T,by simp [g',Gh.renamed]⟩⟩,?_,?_⟩
 .exact ⟨a6 c v hv,by rw [ab c (aj c (.inr (h.inv.im c v hv).2))];exact (h.inv.im c v hv).2⟩
 .have au:∀ t',g.tag c=some t'->w'.frozen? c=false/\∃ v,w'.cell? c=some v:=by
   intro t' bh
   obtain ⟨h7,u,h8⟩:=h.inv.it c t' bh
   exact ⟨(h5 c).trans h7,h2.some c u h8⟩
  by_cases hc:∃ j,f*cfg.sz T<=j/\j < cap*cfg.sz T/\c=b.add j
  .obtain ⟨j,a1,a2,rfl⟩:=hc
   obtain ⟨u,_,h7⟩:=ak j a1 a2
   exact au _ h7
  .rw [ab c hc] at ht
   exact au t ht
 .refine h.fr.step h.inv h2 ?_ (fun _ _ h=> h) ?_ ?_ (fun _=> rfl)
  .rintro c ⟨j,hj,rfl⟩
   obtain ⟨u,_,ht⟩:=s.tail (len*cfg.sz T+j) V0 V0
   exact ⟨_,ht,fun t' e=> by cases e⟩
  .intro c t
   by_cases hc:∃ j,f*cfg.sz T<=j/\j < cap*cfg.sz T/\c=b.add j
   .have h8:g'.tag c=some (.tok (.r d 0)):=by simp only [g',Gh.renamed];rw [if_pos hc]
    obtain ⟨j,a1,a2,rfl⟩:=hc
    obtain ⟨u,_,h7⟩:=ak j a1 a2
    rw [h7,h8]
    constructor <;> intro e <;> cases e
   .rw [ab c hc]
  .intro bb _ a3 o sp
   refine ab _ fun hc=> ?_
   obtain ⟨j,a1,a2,e⟩:=hc
   obtain ⟨u,_,h7⟩:=ak j a1 a2
   rw [<-e] at h7
   obtain ⟨t',h8⟩:=a3 _ _ _ h7
   cases h8
 .intro nm cs hm j c hj
  obtain ⟨v,h7,h8,h9⟩:=h.mem nm cs hm j c hj
  have a0:=aj _ (.inl ⟨_,h8,fun u _ e=> by cases e⟩)
  exact ⟨v,(ah _ a0).trans h7,(ab _ a0).trans h8,h9.keep ae⟩
 .intro t x hx
  rcases Zal hx with ⟨rfl,rfl⟩ | ⟨hne,hx,hkt⟩
  .refine ⟨a9,.inr ⟨b,len+n,cap,by simp [g',Gh.renamed],by simp [hl,hln],hfit,by have:=s.hf;simp only;omega,?_,?_⟩⟩
   .intro i y hy j c hc
    simp only at hy hc ⊢
    have hj:j < cfg.sz T:=by have:=(Q5.1 hc).1;rw [ok.enc_len] at this;exact this
    have hi:i < len+n:=by have:=(Q5.1 hy).1;simp [hl,hln] at this;exact this
    have bv:i*cfg.sz T+j < (len+n)*cfg.sz T:=by
     have:(i+1)*cfg.sz T<=(len+n)*cfg.sz T:=Qc _ hi
     rw [QE] at this;omega
    have av:f<=i->g'.tag (b.add (i*cfg.sz T+j))=some (.tok (.r d 0)):=by
     intro ba
     have:f*cfg.sz T<=i*cfg.sz T:=Qc _ ba
     simp only [g',Gh.renamed]
     rw [if_pos ⟨_,V0,V0,rfl⟩]
    rw [QC] at hy
    split at hy
    .rename_i bm
     obtain ⟨u,h7,h8,h9,a5⟩:=s.rows i y hy j c hc
     refine ⟨u,?_,h8.mono ae.m,h9,av⟩
     have bk:i*cfg.sz T+j < len*cfg.sz T:=by
      have:(i+1)*cfg.sz T<=len*cfg.sz T:=Qc _ V0
      rw [QE] at this;omega
     rw [h4 _ fun j' bo e=> by have:=Z1g e;omega]
     exact h7
    .rename_i bc
     rw [hl] at hy bc
     obtain ⟨u,h7,h8⟩:=hvr _ y hy j c hc
     have e1:len*cfg.sz T<=i*cfg.sz T:=Qc _ V0
     have h9:=h3 _ _ h7
     rw [show len*cfg.sz T+((i - len)*cfg.sz T+j)=i*cfg.sz T+j by rw [Kk];omega] at h9
     exact ⟨u,h9,h8.mono ae.m,fun bw=> by have:=s.hf;omega,av⟩
   .intro j a1 a2
    dsimp only at a1 a2
    simp only [g',Gh.renamed]
    rw [if_pos ⟨j,V0,a2,rfl⟩]
  .obtain ⟨h7,h8⟩:=h.ls t x hx
   have hd:Zm st (ZH d T (l++l') f kl) t=false:=by simp only [Zm,ZH,h7,hkt,Xq]
   exact ⟨hd,h8.keep ae hd a6 (fun c ht=> ah c (aj c (.inl ⟨_,ht,fun u hu e=> by cases e;exact a4 _ hd _ hu rfl⟩)))⟩
 .intro t h0 h7 h8
  obtain ⟨h9,a5,bf⟩:=Z2u h7 h8
  simp only [g',Gh.renamed]
  rw [if_neg h9]
  exact h.fresh t h0 a5 bf
theorem Zka(h:Rel cfg B st g a w){T:U.Ty}{d:Nat}{kl:List Tok}(hls:st.ls (.r d 0)=none)(hdd:st.dead (.r d 0)=false)(hkl:kl.contains (.r d 0)=false):
  Out cfg B st g (ZH d T [] 0 kl) (.slice none 0 0) w (g.setBs (.r d 0) (.slice none 0 0,cfg.sz T)):=by
 have s:=h.fresh (.r d 0) rfl hls hdd
 have ae:Zm st (ZH d T [] 0 kl) (.r d 0)=false:=by simp only [Zm,ZH,hdd,hkl,Xq]
 have ab:Keeps g g st.dead (Zm st (ZH d T [] 0 kl)) (fun nm=> (st.mem nm).isSome) (ZW st (ZH d T [] 0 kl)):=
  ⟨fun _ _ h=> h,fun _ _ _ h=> h,fun t ht=> by simp only [Zm,QD] at ht;exact ht.1,fun nm hn=> ⟨hn,rfl⟩,fun _ _ _ h=> h,fun _=> rfl⟩
 have hk:=ab.setBs (t:= .r d 0) (v:=(.slice none 0 0,cfg.sz T)) s
 refine ⟨h.inv,h.fr.setBs,hk,?_,⟨.mref _ _ ⟨rfl,rfl⟩,fun _=> ⟨cfg.sz T,by simp [Gh.setBs]⟩⟩,?_,?_⟩
 .intro nm cs hm j c hj
  obtain ⟨v,u,h8,h9⟩:=h.mem nm cs hm j c hj
  exact ⟨v,u,h8,h9.keep hk⟩
 .intro t x hx
  rcases Zal hx with ⟨rfl,rfl⟩ | ⟨hne,hx,hkt⟩
  .exact ⟨ae,.inl ⟨by simp [Gh.setBs],rfl,rfl⟩⟩
  .obtain ⟨u,h8⟩:=h.ls t x hx
   have hd:Zm st (ZH d T [] 0 kl) t=false:=by simp only [Zm,ZH,u,hkt,Xq]
   exact ⟨hd,h8.keep hk hd (fun c v hv=> (h.inv.im c v hv).1) (fun _ _=> rfl)⟩
 .intro t h0 u h8
  obtain ⟨h9,aj,ak⟩:=Z2u u h8
  simp only [Gh.setBs]
  rw [if_neg h9]
  exact h.fresh t h0 aj ak
theorem Zgr(h:Rel cfg B st g a w){T:U.Ty}{x:C U}{l:List (U.El T)}{f:Nat}{u:Option Tok}{v:Value}(hx:RelC cfg g st.dead v x)(he:Z7b cfg st T x=some (l,f,u)):
  ∃ b len d,v= .slice b len d/\l.length=len/\len<=d/\(b=none->len=0/\d=0/\f=0)/\(∀ b',b=some b'->Src cfg g w T l f u.toList b' len d):=by
 have af:(∀ t,x≠.mref t)->(match Zfp cfg T x with
   | some (l,.full)=> some (l,l.length,none)
   | some (l,.own t)=> if st.dead t then none else some (l,l.length,some t)
   | _=> none)=some (l,f,u)->∃ b len d,v= .slice b len d/\l.length=len/\len<=d/\(b=none->len=0/\d=0/\f=0)/\(∀ b',b=some b'->Src cfg g w T l f u.toList b' len d):=by
  intro _ he
  cases hs:Zfp cfg T x with
  | none=> grind
  | some p=>
   obtain ⟨l0,tl⟩:=p
   rw [hs] at he
   obtain ⟨ae,b,len,d,rfl,hl,hc,hb⟩:=Z3I hx hs
   have ao:∀ b',b=some b'->∀ i y,l0[i]?=some y->∀ j c,(cfg.enc T y)[j]?=some c->∃ u,w.cell? (b'.add (i*cfg.sz T+j))=some u/\SimC cfg g.m u c/\g.m (b'.add (i*cfg.sz T+j))=some u:=by
    rintro b' rfl i y hy j c hc
    obtain ⟨u,h1,h2⟩:=ae.1.rows i y hy j c hc
    exact ⟨u,(h.inv.im _ _ h1).1,h2,h1⟩
   cases tl with
   | unk=> cases he
   | full=>
    simp only [oP] at he
    obtain ⟨rfl,rfl,rfl⟩:=he
    refine ⟨b,len,d,rfl,hl,hc,fun e=> ⟨(hb e).1,(hb e).2,by grind⟩,fun b' e=> ⟨hl,hc,V0,fun i y hy j c am=> ?_,fun j a1 a2=> ?_⟩⟩
    .grind
    .have:=ae.2 _ _ _ rfl
     grind
   | own t=>
    simp only at he
    split at he
    .cases he
    .rename_i hd
     simp only [oP] at he
     obtain ⟨rfl,rfl,rfl⟩:=he
     refine ⟨b,len,d,rfl,hl,hc,fun e=> ⟨(hb e).1,(hb e).2,by grind⟩,fun b' e=> ⟨hl,hc,V0,fun i y hy j c am=> ?_,fun j a1 a2=> ?_⟩⟩
     .grind
     .subst e
      exact ⟨t,rfl,ae.2 (by simpa using hd) b' len d rfl j a1 a2⟩
 cases x with
 | mref t=>
  simp only [Z7b] at he
  split at he
  .rename_i y hy
   split at he
   .rename_i hT _
    subst hT
    simp only [oP] at he
    obtain ⟨rfl,rfl,rfl⟩:=he
    obtain ⟨hd,hL⟩:=h.ls t y hy
    obtain ⟨s,hs⟩:=hx.2 hd
    rcases hL with ⟨h4,h5,h6⟩ | ⟨b,len,d,h4,h5,h6,h7,h8,h9⟩
    .grind
    .rw [hs] at h4
     cases h4
     refine ⟨some b,len,d,rfl,h5,h6,fun e=> (by cases e),fun b' e=> ?_⟩
     cases e
     refine ⟨h5,h6,h7,fun i y hy j c hc=> ?_,fun j a1 a2=> ⟨t,rfl,h9 j a1 a2⟩⟩
     grind
   .cases he
  .cases he
 | _=> exact af (fun t e=> by cases e) he
theorem Zfr (ok:CfgOk P cfg) (h:Rel cfg B st g a w) {o:Oper} {d:Nat} {t:TypeId} {x y:C U} {px py:Operand} {ps:List Prop} {e:Eff U}
  (ho:o.op= .call { callee:= .builtin .append,args:=#[px,py],argTypes:=#[t,t] })
  (hx:RelC cfg g st.dead (a.eval px) x) (hy:RelC cfg g st.dead (a.eval py) y) (he:Z3K cfg st d t x y=some (ps,e)) (hps:All ps):
  Does P o a w fun v w'=> ∃ g',Out cfg B st g e v w' g':=by
 unfold Z3K at he
 split at he
 .cases he
 rename_i T hT
 split at he
 case h_2=> cases he
 rename_i l f u l' cg bj bo
 split at he
 case isFalse=> cases he
 rename_i a7
 simp only [Q4,QF,QN] at a7
 obtain ⟨⟨a1,az⟩,a2⟩:=a7
 simp only [oP] at he
 obtain ⟨rfl,rfl⟩:=he
 obtain ⟨hE,hU⟩:=J7 ok hT
 obtain ⟨b,len,cap,bm,hl,hc,hb,ae⟩:=Zgr h hx bj
 obtain ⟨ba,b',n,ah,a8,ai,cl,bw⟩:=Z3I hy bo
 rw [a8] at ba
 have b5:P.underlying t=some (.slice (cfg.elT T)):=by rw [hE] at hU;exact hU
 obtain ⟨i,ag,zs,z,hi,ar,cm,hz,bd,cf⟩:=ok.el T
 have af:(l.length+l'.length)*cfg.bytes T<=140737488355328:=hps.1
 rw [hl,ai] at af
 have bn:=ok.bytes_pos T
 have b7:len+n<=140737488355328:=X5 (XQ _ bn) af
 have bf:∃ vs:List Value,vs.length=n*cfg.sz T/\(∀ v∈vs,v.oneCell'=true)/\(∀ w:World,(∀ c v,g.m c=some v->w.cell? c=some v)->(Builtin.firstCells i.size n (.slice b' n ah)).run P w= .ok vs.toArray w)/\
   (∀ (k:Nat) x,l'[k]?=some x->∀ (j:Nat) c,(cfg.enc T x)[j]?=some c->∃ v,vs[k*cfg.sz T+j]?=some v/\SimC cfg g.m v c):=by
  cases b' with
  | none=>
   obtain ⟨rfl,rfl⟩:=bw rfl
   have ab:l'=[]:=Q6 ai
   subst ab
   exact ⟨[],by simp,by simp,fun w _=> run_firstCells_none w _ _ _ _,fun k x hx=> by simp at hx⟩
  | some a'=>
   obtain ⟨vs,h1,h2,h3⟩:=Z3d ok ba.1
   refine ⟨vs,h1,fun v hv=> ?_,fun w hw=> ?_,h3⟩
   .obtain ⟨j,hj,rfl⟩:=Xn hv
    exact (h2 j _ (Q0 hj)).2
   .exact run_firstCells_some w i.size n a' n ah vs (by grind) (fun j v hv=> hw _ _ (h2 j v hv).1)
 obtain ⟨vs,bc,bp,aa,a6⟩:=bf
 have a0:∀ c v,g.m c=some v->w.cell? c=some v:=fun c v hv=> (h.inv.im c v hv).1
 have s:(execOp a.eval o).run P w=((Builtin.append_ #[t,t] o.type #[.slice b len cap,.slice b' n ah]).run P w).andThen fun v w=> .ok (.value v) w:=by
  simp only [execOp,ho,resolve,Sem.run_bind,Sem.run_pure,Result.andThen_ok,invoke,builtin]
  simp [bm,a8]
 have av:∀ w,(underlying t).run P w= .ok (.slice (cfg.elT T)) w:=fun w=> run_underlying b5 w
 have a9:({ val:=some (.c (.mref (.r d 0))),kill:=u.toList,ls:=[(.r d 0,⟨T,l++l',f⟩)] }:Eff U)=ZH d T (l++l') f u.toList:=rfl
 rw [a9]
 by_cases hfit:len+n<=cap
 .cases b with
  | none=>
   obtain ⟨rfl,rfl,rfl⟩:=hb rfl
   have bl:n=0:=V0
   subst bl
   have ab:l=[]:=Q6 hl
   have b2:l'=[]:=Q6 ai
   subst ab b2
   have bu:vs=[]:=Q6 V0
   subst bu
   refine .inl ⟨.slice none 0 0,w,?_,_,Zka h a1 az a2⟩
   rw [s]
   simp [Builtin.append_,av,sizeOf,typeInfo,hi,Builtin.lenOf,aa w a0]
  | some b=>
   obtain ⟨w',g',h1,h2⟩:=Z77 (P:=P) (d:=d) ok h (ae b rfl) hfit ai bc bp a6 a1 az a2
   refine .inl ⟨_,w',?_,g',h2⟩
   rw [s]
   rw [<-ar] at h1
   simp [Builtin.append_,av,sizeOf,typeInfo,hi,Builtin.lenOf,aa w a0,hfit,h1]
 .have ax:cap < len+n:=V0
  have bx:0 < n:=V0
  have b9:¬((len+n:Nat):Int) > 9223372036854775807:=V0
  have bv:Builtin.nextslicecap (len+n) cap*i.bytes<=281474976710656:=growslice_fits ax (by grind)
  have au:=Z5n w (len+n) cap (cfg.elT T)
  have be:∃ us:List Value,us.length=len*cfg.sz T/\(∀ w':World,(∀ c v,w.cell? c=some v->w'.cell? c=some v)->(Builtin.firstCells i.size len (.slice b len cap)).run P w'= .ok us.toArray w')/\
    ∀ (k:Nat) x,l[k]?=some x->∀ (j:Nat) c,(cfg.enc T x)[j]?=some c->∃ v,us[k*cfg.sz T+j]?=some v/\SimC cfg g.m v c:=by
   cases b with
   | none=>
    obtain ⟨rfl,rfl,rfl⟩:=hb rfl
    have ab:l=[]:=Q6 hl
    subst ab
    exact ⟨[],by simp,fun w _=> run_firstCells_none w _ _ _ _,fun k x hx=> by simp at hx⟩
   | some b=>
    obtain ⟨us,h1,h2,h3⟩:=(ae b rfl).list ok
    exact ⟨us,h1,fun w' hw=> run_firstCells_some w' i.size len b len cap us (by rw [ar];exact h1) (fun j v hv=> hw _ _ (h2 j v hv)),h3⟩
  obtain ⟨us,ao,ay,bh⟩:=be
  have bk:z.cells.size=cfg.sz T:=by
   obtain ⟨z',bb,hZ⟩:=Z1H ok bd w
   have:z'=z:=by simp [zeroValue,typeInfo,hi,hz] at bb;exact bb.symm
   subst this
   have:=(Z02 (g:=g) (st:=st) (cfg:=cfg) hZ).1;simp at this;omega
  let nc:=grownCap w (len+n) cap (cfg.elT T)
  let arr:Array Value:=us.toArray++vs.toArray++Builtin.zeroCells z.cells (nc - (len+n))
  have cj:len+n<=nc:=au
  have a5:arr.size=nc*cfg.sz T:=by
   have e1:(len+n)*cfg.sz T+(nc - (len+n))*cfg.sz T=nc*cfg.sz T:=by rw [<-QE];congr 1;omega
   rw [QE] at e1
   simp [arr,Builtin.zeroCells,ao,bc,bk]
   omega
  have b3:f<=(l++l').length:=by
   rw [Qb]
   cases b with
   | none=> grind
   | some b=> have:=(ae b rfl).hf;omega
  have bq:=Z2N (m:=g.m) (vs:=us) (vs':=vs) (by rw [ao,hl]) (ok.enc_len T) bh a6
  obtain ⟨g',aq⟩:=Z4g (T:=T) (l:=l++l') (arr:=arr) (d:=d) (kl:=u.toList) (f:=f) h (SameHeap.drew w) (cfg.elT T) (cap:=nc) (by grind) b3 a5 (ok.enc_len T) a1 az a2
   (fun k x hx j c hc=> by
    grind)
  rw [show (l++l').length=len+n by simp [hl,ai]] at aq
  refine .inl ⟨_,_,?_,g',aq⟩
  have b0:∀ c v,g.m c=some v->w.drew.cell? c=some v:=fun c v hv=> (a0 c v hv)
  have bz:∀ c v,w.cell? c=some v->w.drew.cell? c=some v:=fun _ _ hv=> hv
  rw [s]
  have bi:¬(Builtin.nextslicecap (len+n) cap*i.bytes > 2 ^ 48):=V0
  have cb:¬i.bytes=0:=V0
  have bt:¬((9223372036854775807:Int) < (len:Int)+(n:Int)):=V0
  simp [Builtin.append_,av,sizeOf,typeInfo,zeroValue,hi,hz,Builtin.lenOf,hfit,bt,bi,Question.forced,ay w.drew bz,aa w.drew b0,newRow]
  refine ⟨rfl,?_⟩
  simp only [arr,nc,grownCap,K8]
theorem Zfq (ok:CfgOk P cfg) (h:Rel cfg B st g a w) {o:Oper} {d:Nat} {t t':TypeId} {x y:C U} {px py:Operand} {ps:List Prop} {e:Eff U}
  (ho:o.op= .call { callee:= .builtin .append,args:=#[px,py],argTypes:=#[t,t'] })
  (hx:RelC cfg g st.dead (a.eval px) x) (hy:RelC cfg g st.dead (a.eval py) y) (he:Z3J cfg st d t t' x y=some (ps,e)) (hps:All ps):
  Does P o a w fun v w'=> ∃ g',Out cfg B st g e v w' g':=by
 unfold Z3J at he
 split at he
 case h_2=> cases he
 rename_i T m0 nn hT bo
 split at he
 case h_2=> cases he
 rename_i l f u zel bx bj
 split at he
 case isFalse=> cases he
 rename_i bi
 simp only [Q4,QF,QN] at bi
 obtain ⟨⟨bc,bb⟩,bd⟩:=bi
 simp only [oP] at he
 obtain ⟨rfl,rfl⟩:=he
 obtain ⟨a4,ak⟩:=hps.1
 obtain ⟨n,rfl⟩:=X3 a4
 simp only [K6,Xi] at*
 obtain ⟨hE,hU⟩:=J7 ok hT
 obtain ⟨b,len,cap,b0,hl,hc,hb,ai⟩:=Zgr h hx bx
 have bz:a.eval py= .int .i64 n:=by
  have h1:=hy.1
  generalize a.eval py=q at h1 ⊢
  cases h1;rfl
 have cj:P.underlying t=some (.slice (cfg.elT T)):=by rw [hE] at hU;exact hU
 obtain ⟨_,it,zt,dt,_,ca,_,c8,_,_,ch,_⟩:=ok.var _ _ _ bo
 have bt:=ch rfl _ _ rfl
 subst bt
 obtain ⟨i,ag,zs,z,hi,al,b7,hz,az,cu⟩:=ok.el T
 rw [az] at bj
 have b8:cfg.dec T zs=some zel:=bj
 rw [hl] at ak
 have b1:=ok.bytes_pos T
 have av:(len+n)*cfg.bytes T<=140737488355328:=by
  have:(((len+n)*cfg.bytes T:Nat):Int)<=140737488355328:=by rw [Int.natCast_mul,Int.natCast_add];exact ak
  omega
 have cn:len+n<=140737488355328:=X5 (XQ _ b1) av
 obtain ⟨s,bh,hZ⟩:=Z1H ok az w
 have cl:s=z:=by simp [zeroValue,typeInfo,hi,hz] at bh;exact bh.symm
 subst cl
 have af:=Z02 (g:=g) (st:=st) (cfg:=cfg) hZ
 have au:s.cells.size=cfg.sz T:=by have:=af.1;simp at this;omega
 have bq:=ok.sz_pos T
 obtain ⟨_,b4⟩:=Z9B ok b8 af.1 (fun j v c h1 h2=> af.sim h1 h2)
 have br:∃ vs:List Value,vs.length=n*cfg.sz T/\(∀ v∈vs,v.oneCell'=true)/\(Builtin.zeroCells s.cells n).toList=vs/\
   (∀ (k:Nat) x,(List.replicate n zel)[k]?=some x->∀ (j:Nat) c,(cfg.enc T x)[j]?=some c->∃ v,vs[k*cfg.sz T+j]?=some v/\SimC cfg g.m v c):=by
  refine ⟨_,by simp [Builtin.zeroCells,au],?_,rfl,?_⟩
  .intro v hv
   simp only [Builtin.zeroCells,Xy,Xb] at hv
   obtain ⟨q,_,rfl⟩:=hv
   have hq:q % s.cells.size < s.cells.size:=XO _ V0
   rw [getElem!_pos s.cells _ hq]
   exact af.one _ (by simp)
  .intro k x hx j c hc
   obtain ⟨hk,hx⟩:=Q5.1 hx
   simp at hx hk
   subst hx
   obtain ⟨v,h7,h8⟩:=b4 j c hc
   have hj:j < cfg.sz T:=by have:=(Q5.1 hc).1;rw [ok.enc_len] at this;exact this
   have b3:k*cfg.sz T+j < n*cfg.sz T:=by
    have:(k+1)*cfg.sz T<=n*cfg.sz T:=Qc _ V0
    rw [QE] at this;omega
   refine ⟨v,?_,h8⟩
   have h9:s.cells[j]?=some v:=by rw [<-h7];simp
   have bn:j < s.cells.size:=V0
   have e:(k*cfg.sz T+j) % s.cells.size=j:=by rw [au,Xp,K2,XY hj]
   have cf:s.cells[j]! =v:=by
    rw [getElem!_pos s.cells j bn]
    rw [QP bn] at h9
    exact Option.some.inj h9
   have bl:k*cfg.sz T+j < n*s.cells.size:=by rw [au];exact b3
   simp [Builtin.zeroCells,bl,e,cf]
 obtain ⟨vs,bm,b2,ce,bg⟩:=br
 have a1:Builtin.zeroCells s.cells n=vs.toArray:=by rw [<-ce]
 have c6:∀ c v,g.m c=some v->w.cell? c=some v:=fun c v hv=> (h.inv.im c v hv).1
 have aa:(execOp a.eval o).run P w=((Builtin.append_ #[t,t'] o.type #[.slice b len cap,.int .i64 n]).run P w).andThen fun v w=> .ok (.value v) w:=by
  simp only [execOp,ho,resolve,Sem.run_bind,Sem.run_pure,Result.andThen_ok,invoke,builtin]
  simp [b0,bz]
 have ar:∀ w,(underlying t).run P w= .ok (.slice (cfg.elT T)) w:=fun w=> run_underlying cj w
 have ab:∀ w,(underlying t').run P w= .ok (.int .i64) w:=fun w=> run_underlying ca w
 have bk:({ val:=some (.c (.mref (.r d 0))),kill:=u.toList,ls:=[(.r d 0,⟨T,l++List.replicate n zel,f⟩)] }:Eff U)=ZH d T (l++List.replicate n zel) f u.toList:=rfl
 rw [bk]
 have ae:IntKind.i64.wrap (n:Int)=n:=by simp [IntKind.wrap,IntKind.signed,IntKind.bits];omega
 have am:¬(n:Int) < 0:=V0
 have aj:¬(n:Int)*(i.bytes:Int) > 281474976710656:=by
  rw [b7]
  have:n*cfg.bytes T<=(len+n)*cfg.bytes T:=Qc _ V0
  have:((n*cfg.bytes T:Nat):Int)<=140737488355328:=V0
  rw [Int.natCast_mul] at this
  omega
 have cc:(List.replicate n zel).length=n:=Xe
 by_cases hfit:len+n<=cap
 .cases b with
  | none=>
   obtain ⟨rfl,rfl,rfl⟩:=hb rfl
   have a4:n=0:=V0
   subst a4
   have a3:l=[]:=Q6 hl
   subst a3
   refine .inl ⟨.slice none 0 0,w,?_,_,Zka h bc bb bd⟩
   rw [aa]
   simp [Builtin.append_,ar,ab,sizeOf,typeInfo,hi,asInt,asIntOf,ae]
   grind
  | some b=>
   obtain ⟨w',g',h1,h2⟩:=Z77 (P:=P) (d:=d) ok h (ai b rfl) hfit cc bm b2 bg bc bb bd
   refine .inl ⟨_,w',?_,g',h2⟩
   rw [aa]
   rw [<-al] at h1
   have a5:(zeroValue (cfg.elT T)).run P w= .ok s w:=by simp [zeroValue,typeInfo,hi,hz]
   by_cases h0:n*i.size=0
   .have b6:vs=[]:=Q6 (by grind)
    subst b6
    simp [Builtin.append_,ar,ab,sizeOf,typeInfo,hi,asInt,asIntOf,ae,am,aj,hfit,h0,h1]
   .simp [Builtin.append_,ar,ab,sizeOf,typeInfo,hi,asInt,asIntOf,ae,am,aj,hfit,h0,a5,a1,h1]
 .have a6:cap < len+n:=V0
  have ba:0 < n:=V0
  have cp:¬((len+n:Nat):Int) > 9223372036854775807:=V0
  have b9:Builtin.nextslicecap (len+n) cap*i.bytes<=281474976710656:=growslice_fits a6 (by grind)
  have a2:=Z5n w (len+n) cap (cfg.elT T)
  have bp:∃ us:List Value,us.length=len*cfg.sz T/\(∀ w':World,(∀ c v,w.cell? c=some v->w'.cell? c=some v)->(Builtin.firstCells i.size len (.slice b len cap)).run P w'= .ok us.toArray w')/\
    ∀ (k:Nat) x,l[k]?=some x->∀ (j:Nat) c,(cfg.enc T x)[j]?=some c->∃ v,us[k*cfg.sz T+j]?=some v/\SimC cfg g.m v c:=by
   cases b with
   | none=>
    obtain ⟨rfl,rfl,rfl⟩:=hb rfl
    have a3:l=[]:=Q6 hl
    subst a3
    exact ⟨[],by simp,fun w _=> run_firstCells_none w _ _ _ _,fun k x hx=> by simp at hx⟩
   | some b=>
    obtain ⟨us,h1,h2,h3⟩:=(ai b rfl).list ok
    exact ⟨us,h1,fun w' hw=> run_firstCells_some w' i.size len b len cap us (by rw [al];exact h1) (fun j v hv=> hw _ _ (h2 j v hv)),h3⟩
  obtain ⟨us,ax,a9,bv⟩:=bp
  let nc:=grownCap w (len+n) cap (cfg.elT T)
  let arr:Array Value:=us.toArray++vs.toArray++Builtin.zeroCells s.cells (nc - (len+n))
  have cy:len+n<=nc:=a2
  have bf:arr.size=nc*cfg.sz T:=by
   have e1:(len+n)*cfg.sz T+(nc - (len+n))*cfg.sz T=nc*cfg.sz T:=by rw [<-QE];congr 1;omega
   rw [QE] at e1
   simp [arr,Builtin.zeroCells,ax,bm,au]
   omega
  have cg:f<=(l++List.replicate n zel).length:=by
   rw [Qb]
   cases b with
   | none=> grind
   | some b=> have:=(ai b rfl).hf;omega
  have a7:=Z2N (m:=g.m) (vs:=us) (vs':=vs) (by rw [ax,hl]) (ok.enc_len T) bv bg
  obtain ⟨g',ay⟩:=Z4g (T:=T) (l:=l++List.replicate n zel) (arr:=arr) (d:=d) (kl:=u.toList) (f:=f) h (SameHeap.drew w) (cfg.elT T) (cap:=nc) (by grind) cg bf (ok.enc_len T) bc bb bd
   (fun k x hx j c hc=> by
    obtain ⟨v,h1,h2⟩:=a7 k x hx j c hc
    grind)
  rw [show (l++List.replicate n zel).length=len+n by simp [hl]] at ay
  refine .inl ⟨_,_,?_,g',ay⟩
  have cb:∀ c v,w.cell? c=some v->w.drew.cell? c=some v:=fun _ _ hv=> hv
  rw [aa]
  have bw:¬(Builtin.nextslicecap (len+n) cap*i.bytes > 2 ^ 48):=V0
  have cr:¬i.bytes=0:=V0
  have b5:¬((9223372036854775807:Int) < (len:Int)+(n:Int)):=V0
  have h0:¬n*i.size=0:=by rw [al];have:=Nat.mul_pos ba bq;omega
  have a5:∀ w:World,(zeroValue (cfg.elT T)).run P w= .ok s w:=fun w=> by simp [zeroValue,typeInfo,hi,hz]
  simp [Builtin.append_,ar,ab,sizeOf,typeInfo,hi,asInt,asIntOf,ae,am,aj,hfit,b5,bw,h0,a5,a1,Question.forced,a9 w.drew cb,newRow]
  refine ⟨rfl,?_⟩
  simp only [arr,nc,grownCap,K8]
theorem Zak (ok:CfgOk P cfg) (h:Rel cfg B st g a w) {o:Oper} {t:TypeId} {p q:Operand} {T:U.Ty} {n m:Int} {ag:Bool} {zs:List (C U)} {z:U.El T} {d:Nat} (hls:st.ls (.r d 0)=none) (hdd:st.dead (.r d 0)=false) (ho:o.op= .makeSlice t p q)
  (hT:cfg.slT t=some T) (hp:a.eval p= .int .i64 n) (hq:a.eval q= .int .i64 m) (hz:cfg.var (cfg.elT T)=some (ag,zs)) (hd:cfg.dec T zs=some z)
  (hn:0<=n/\n*cfg.bytes T<=140737488355328/\n<=9223372036854775807) (hm:m=n):
  Does P o a w fun v w'=> ∃ g',Out cfg B st g { val:=some (.c (.mref (.r d 0))),ls:=[(.r d 0,⟨T,List.replicate n.toNat z,0⟩)] } v w' g':=by
 have am:=hm.symm
 subst am
 obtain ⟨k,rfl⟩:=X3 hn.1
 simp only [K6] at*
 rw [Xi]
 obtain ⟨hE,hU⟩:=J7 ok hT
 obtain ⟨i,a6,a8,z',h1,h2,h3,h4,h5,h6⟩:=ok.el T
 rw [hz] at h5
 simp only [oP] at h5
 obtain ⟨rfl,rfl⟩:=h5
 obtain ⟨s,ab,hZ⟩:=Z1H ok hz w
 have ao:s=z':=by
  simp [zeroValue,typeInfo,h1,h4] at ab;exact ab.symm
 subst ao
 have u:=Z02 (g:=g) (st:=st) (cfg:=cfg) hZ
 have av:s.cells.size=cfg.sz T:=by have:=u.1;simp at this;omega
 have az:=ok.sz_pos T
 obtain ⟨a4,au⟩:=Z9B ok hd u.1 (fun j v c h1 h2=> u.sim h1 h2)
 let arr:Array Value:=(Array.range (k*cfg.sz T)).map (s.cells[· % s.cells.size]!)
 obtain ⟨g',ae⟩:=Z4g (T:=T) (l:=List.replicate k z) (arr:=arr) (d:=d) (f:=0) (kl:=[]) h (SameHeap.refl w) (P.elem t) (cap:=k) (by simp) (by simp) (by simp [arr]) (ok.enc_len T) hls hdd rfl
  (by
   intro i x hx j c hc
   obtain ⟨hi,hx⟩:=Q5.1 hx
   simp at hx hi
   subst hx
   obtain ⟨v,h7,h8⟩:=au j c hc
   have hj:j < cfg.sz T:=by have:=(Q5.1 hc).1;rw [ok.enc_len] at this;exact this
   have a9:i*cfg.sz T+j < k*cfg.sz T:=by
    have:(i+1)*cfg.sz T<=k*cfg.sz T:=Qc _ V0
    rw [QE] at this;omega
   refine ⟨v,?_,h8⟩
   have h9:s.cells[j]?=some v:=by rw [<-h7];simp
   have a5:j < s.cells.size:=V0
   have e:(i*cfg.sz T+j) % s.cells.size=j:=by rw [av,Xp,K2,XY hj]
   grind)
 rw [Xe] at ae
 refine .inl ⟨_,_,?_,g',ae⟩
 have af:=J3 ok T w
 rw [<-hE] at af ab
 have aa:(typeInfo (P.elem t)).run P w= .ok i w:=by rw [hE];simp [typeInfo,h1]
 have hw:IntKind.i64.wrap (k:Int)=k:=by simp [IntKind.wrap,IntKind.signed,IntKind.bits];omega
 have ah:¬(281474976710656 < (i.bytes:Int)*(k:Int)):=by
  rw [h3,Int.mul_comm];have:=hn.2.1;omega
 have aj:¬(k:Int) < 0:=V0
 simp only [execOp,ho]
 apply Z8t
 simp only [hp,hq]
 by_cases h0:k*cfg.sz T=0
 .have ai:arr=#[]:=by simp only [arr,h0];simp
  simp [Instr.makeSlice,run_underlying hU,asInt,asIntOf,aa,hw,ah,aj,af,h0,newRow,ai]
  grind
 .have ar:(decide ((k:Int) < 0) || decide ((i.bytes:Int)*(k:Int) > 2 ^ 48) || decide ((k:Int) < 0) || decide ((k:Int) > (k:Int)))=false:=by
   simp [ah,aj]
  simp only [Instr.makeSlice,Sem.run_bind,run_underlying hU,Result.andThen_ok,asInt,asIntOf,Sem.run_pure,aa,hw,ar]
  simp only [Xs,if_false,Sem.run_bind,run_askRoom,Result.andThen_ok,af,Xi,h0,ab,Sem.run_pure]
  try rfl
theorem Z9F (ok:CfgOk P cfg) (h:Rel cfg B st g a w) {o:Oper} {t:TypeId} {n:Nat} {parts:Array (Nat × Operand)} {T:U.Ty} {ps:List (Nat × V U)} {l:List (U.El T)} {d:Nat} (hls:st.ls (.r d 0)=none) (hdd:st.dead (.r d 0)=false) (ho:o.op= .buildSlice t n parts)
  (hT:cfg.slT t=some T) (hl:parts.size=ps.length) (hn:ps.length=n) (hsmall:n*cfg.sz T<=16777216)
  (hr:∀ (j:Nat) x y,parts[j]?=some x->ps[j]?=some y->x.1=y.1/\RelV cfg g st.dead (fun nm=> (st.mem nm).isSome) (a.eval x.2) y.2) (he:J2 cfg T 0 ps=some l):
  Does P o a w fun v w'=> ∃ g',Out cfg B st g { val:=some (.c (.mref (.r d 0))),ls:=[(.r d 0,⟨T,l,0⟩)] } v w' g':=by
 obtain ⟨hE,hU⟩:=J7 ok hT
 obtain ⟨i,ag,zs,z,h1,h2,h3,h4,h5,h6⟩:=ok.el T
 obtain ⟨z',hz,hZ⟩:=Z1H ok h5 w
 have aj:z'=z:=by
  simp [zeroValue,typeInfo,h1,h4] at hz;exact hz.symm
 subst aj
 have av:z'.cells.size=cfg.sz T:=by have:=(Z02 (g:=g) (st:=st) (cfg:=cfg) hZ).1;simp at this;omega
 let vs0:Array Value:=if n*cfg.sz T=0 then (Array.range (n*cfg.sz T)).map ((#[]:Array Value)[· % 0]!) else (Array.range (n*cfg.sz T)).map (z'.cells[· % z'.cells.size]!)
 have ae:vs0.size=n*cfg.sz T:=by simp only [vs0];split <;> simp
 obtain ⟨aq,vs',h7,h8,_,h9⟩:=Zay (g:=g) (st:=st) ok (parts.toList.map fun x=> (x.1,a.eval x.2)) ps 0 l vs0 he (by simpa using hl) (by
  grind) (by grind)
 have ab:l.length=n:=V0
 obtain ⟨g',s⟩:=Z4g (T:=T) (l:=l) (arr:=vs') (d:=d) (f:=0) (kl:=[]) h (SameHeap.refl w) (P.elem t) (cap:=n) V0 (QQ _) (by rw [h8,ae]) (ok.enc_len T) hls hdd rfl
  (fun i x hx j c hc=> by grind)
 rw [ab] at s
 refine .inl ⟨_,_,?_,g',s⟩
 have af:=J3 ok T w
 rw [<-hE] at af hz
 simp only [execOp,ho]
 apply Z8t
 simp only [Instr.buildSlice,Sem.run_bind,run_underlying hU,Result.andThen_ok,af]
 rw [Jk]
 by_cases h0:n*cfg.sz T=0
 .simp only [h0,if_true]
  simp only [vs0,h0,if_true] at h7
  have u:Instr.fill (fun i=> some (i*cfg.sz T,cfg.sz T)) ((Array.range 0).map ((#[]:Array Value)[· % (#[]:Array Value).size]!)) (parts.map fun x=> (x.1,a.eval x.2)).toList=some vs':=by
   rw [Xy];exact h7
  simp only [Sem.run_bind,Sem.run_pure,Result.andThen_ok,u]
  try rfl
 .simp only [h0,if_false]
  simp only [vs0,h0,if_false] at h7
  have u:Instr.fill (fun i=> some (i*cfg.sz T,cfg.sz T)) ((Array.range (n*cfg.sz T)).map (z'.cells[· % z'.cells.size]!)) (parts.map fun x=> (x.1,a.eval x.2)).toList=some vs':=by
   rw [Xy];exact h7
  simp only [Sem.run_bind,Sem.run_pure,Result.andThen_ok,hz,u]
  try rfl
theorem ZgK (ok:CfgOk P cfg) (h:Rel cfg B st g a w) {o:Oper} {t:TypeId} {p x:Operand} {ag:Bool} {zs new:List (C U)} {u:Tok} {y:LC U} {n off:Nat} {v:V U} {e:U.El y.T} (ho:o.op= .store t p x)
  (ht:cfg.var t=some (ag,zs)) (hp:RelV cfg g st.dead (fun nm=> (st.mem nm).isSome) (a.eval p) (.mp u n off)) (hv:RelV cfg g st.dead (fun nm=> (st.mem nm).isSome) (a.eval x) v)
  (hnew:v.cells=some new) (hy:st.ls u=some y) (hl:new.length=zs.length) (hf:y.f<=n)
  (hset:(Yl (cfg.enc y.T (y.l.getD n (cfg.dflt y.T))) off new).bind (cfg.dec y.T)=some e):
  Does P o a w fun v w'=> ∃ g',Out cfg B st g { ls:=[(u,⟨y.T,y.l.set n e,y.f⟩)] } v w' g':=by
 obtain ⟨b,len,bn,bc,be,hn,aw,ax,bm,ae,ao⟩:=ZtF h hy hp
 obtain ⟨bf,_⟩:=h.ls u y hy
 obtain ⟨hs,_,_⟩:=Z2K ok ht w
 have ai:=hv.cells hnew
 cases hsc:Yl (cfg.enc y.T (y.l.getD n (cfg.dflt y.T))) off new with
 | none=> grind
 | some cs'=>
 rw [hsc] at hset
 have a1:cfg.dec y.T cs'=some e:=hset
 obtain ⟨bk,a8⟩:=ok.dec_ok _ _ _ a1
 have bj:y.l[n]?=some (y.l.getD n (cfg.dflt y.T)):=by simp [List.getD,Q0 hn]
 have bt:=ok.enc_len y.T (y.l.getD n (cfg.dflt y.T))
 have bz:off+new.length<=cfg.sz y.T:=by
  unfold Yl at hsc
  split at hsc
  .omega
  .cases hsc
 have bh:(a.eval x).cells.toList.length=new.length:=ai.1
 have af:∀ j,j < cfg.sz y.T->∃ u' c,(cfg.enc y.T (y.l.getD n (cfg.dflt y.T)))[j]?=some c/\w.cell? (b.add (n*cfg.sz y.T+j))=some u'/\SimC cfg g.m u' c/\g.tag (b.add (n*cfg.sz y.T+j))=some (.tok u):=by
  intro j hj
  have hg:(cfg.enc y.T (y.l.getD n (cfg.dflt y.T)))[j]?=some ((cfg.enc y.T (y.l.getD n (cfg.dflt y.T)))[j]'V0):=Q0 _
  obtain ⟨u',h1,h2,_,h4⟩:=ae n _ bj j _ hg
  exact ⟨u',_,hg,h1,h2,h4 hf⟩
 obtain ⟨w',h1,h2,h3,h4,h5,h6⟩:=J8 (P:=P) (b.add (n*cfg.sz y.T+off)) (a.eval x).cells.toList 0 w ai.one (by
  intro j hj
  rw [Go.Deep.add_add,QL]
  obtain ⟨u',_,_,hu,_,aa⟩:=af (off+j) V0
  rw [show n*cfg.sz y.T+(off+j)=n*cfg.sz y.T+off+j by omega] at hu aa
  exact ⟨⟨u',hu⟩,(h.inv.it _ _ aa).1⟩)
 simp only [QL,Go.Deep.add_add] at h2 h3 h4
 refine .inr (.inl ⟨w',?_,g,?_⟩)
 .have bd:(a.eval x).cells.size=zs.length:=by simpa using bh.trans hl
  simp only [execOp,ho,be]
  simp [Instr.storeAt,Instr.sureAddr,storeVar,hs,bd,h1]
 .have ab:∀ c,(∃ j,j < (a.eval x).cells.toList.length/\c=b.add (n*cfg.sz y.T+off+j))->g.tag c=some (.tok u):=by
   rintro c ⟨j,hj,rfl⟩
   obtain ⟨_,_,_,_,_,aa⟩:=af (off+j) V0
   rw [show n*cfg.sz y.T+(off+j)=n*cfg.sz y.T+off+j by omega] at aa
   exact aa
  have ah:∀ c,g.tag c≠some (.tok u)->w'.cell? c=w.cell? c:=fun c hc=> h4 c fun j hj e=> hc (ab c ⟨j,hj,e⟩)
  have a4:∀ c v,g.m c=some v->w'.cell? c=some v:=fun c v hv=> by
   obtain ⟨s,h8⟩:=h.inv.im c v hv
   grind
  have ak:Zm st ({ ls:=[(u,⟨y.T,y.l.set n e,y.f⟩)] }:Eff U)=st.dead:=by funext t;simp [Zm]
  have aq:Keeps g g st.dead (Zm st ({ ls:=[(u,⟨y.T,y.l.set n e,y.f⟩)] }:Eff U)) (fun nm=> (st.mem nm).isSome) (ZW st ({ ls:=[(u,⟨y.T,y.l.set n e,y.f⟩)] }:Eff U)):=by
   rw [ak];exact .refl _ _ _
  refine ⟨⟨fun c v hv=> ⟨a4 c v hv,(h.inv.im c v hv).2⟩,fun c t a3=> ?_⟩,?_,aq,?_,trivial,?_,?_⟩
  .obtain ⟨s,u',h8⟩:=h.inv.it c t a3
   grind
  .exact h.fr.step h.inv h2 (fun c hc=> ⟨_,ab c hc,fun t' e=> by cases e⟩) (fun _ _ h=> h) (fun _ _=> QJ) (fun _ _ _ _ _=> rfl) (fun _=> rfl)
  .rw [ak]
   intro nm bi hm j c hj
   obtain ⟨v0,b3,aa,bw⟩:=h.mem nm bi hm j c hj
   grind
  .intro t z hz
   rw [ak]
   unfold JI at hz
   simp only [XC,cond_false,Zx] at hz
   split at hz
   .rename_i et
    subst et
    cases hz
    refine ⟨bf,.inr ⟨b,len,bn,bc,by simp [aw],ax,bm,?_,ao⟩⟩
    intro i q hq j c hc
    simp only at hq hc ⊢
    have hj:j < cfg.sz y.T:=by have:=(Q5.1 hc).1;rw [ok.enc_len] at this;exact this
    by_cases hin:i=n
    .subst hin
     rw [Kb] at hq
     simp only [if_true,hn] at hq
     cases hq
     obtain ⟨u',c0,g1,g2,g3,g4⟩:=af j hj
     have bp:cs'.length=cfg.sz y.T:=by rw [bk];exact ok.enc_len _ _
     have ay:cs'[j]?=some (cs'[j]'V0):=Q0 _
     have a0:=a8 j _ c ay hc
     have d:cs'[j]?=if off<=j/\j < off+new.length then new[j - off]? else (cfg.enc y.T (y.l.getD i (cfg.dflt y.T)))[j]?:=by
      unfold Yl at hsc
      rw [Yu] at hsc
      simp only [Option.some.injEq] at hsc
      rw [<-hsc,Qi,QC]
      simp only [Qr]
      rw [Xt V0]
      split
      .grind
      .rename_i s
       rw [QC]
       split
       .rename_i h8;grind
       .rename_i h8
        rw [Jk,Qv]
        congr 1;omega
     rw [ay] at d
     split at d
     .rename_i hr
      have az:(a.eval x).cells.toList[j - off]?=some ((a.eval x).cells.toList[j - off]'V0):=Q0 _
      have s:=h3 (j - off) _ az
      rw [show i*cfg.sz y.T+off+(j - off)=i*cfg.sz y.T+j by omega] at s
      exact ⟨_,s,(ai.2 _ _ _ az d.symm).1.wk a0,fun hi=> by omega,fun _=> g4⟩
     .rename_i hr
      rw [g1] at d
      cases d
      refine ⟨u',?_,g3.wk a0,fun hi=> by omega,fun _=> g4⟩
      rw [h4 _ fun j' a9 e=> by have:=Z1g e;omega]
      exact g2
    .rw [List.getElem?_set_ne (Ne.symm hin)] at hq
     obtain ⟨u',g1,g2,g3,g4⟩:=ae i q hq j c hc
     refine ⟨u',?_,g2,g3,g4⟩
     rw [h4 _ fun j' a9 e=> by
      have:=Z1g e
      rcases XD i n with hlt | hge
      .have:(i+1)*cfg.sz y.T<=n*cfg.sz y.T:=Qc _ hlt
       grind
      .have:(n+1)*cfg.sz y.T<=i*cfg.sz y.T:=Qc _ V0
       grind]
     exact g1
   .rename_i bx
    obtain ⟨s,h8⟩:=h.ls t z hz
    exact ⟨s,h8.keep (.refl g st.dead (fun _=> true)) s a4 (fun c a3=> ah c (by grind))⟩
  .rw [ak]
   intro t h0 s h8
   unfold JI at s
   simp only [XC,cond_false,Zx] at s
   split at s
   .cases s
   .exact h.fresh t h0 s h8
end Go.AM
namespace Go.AM
variable {U:Uni} {P:Program} {cfg:Cfg U} {B:Base} {st:FSt U} {g:Gh} {a:Act} {w:World}
def ZI:Tok->Bool:=fun _=> false
def Z92(X:List (List (C U))):Name->Bool
 | .x k=> (X[k]?).isSome
 | .loc _=> false
structure Entry (cfg:Cfg U) (w:World) (g:Gh) (vs:List Value) (args:List (V U)) (X:List (List (C U))) (L:List (Tok × LC U)):Prop where
 inv:Inv g.m g.tag w
 tags:∀ a t,g.tag a=some t->(∃ t',t= .outer t')\/(∃ k,t= .obj (.x k))\/∃ u,t= .tok u
 len:vs.length=args.length
 args:∀ (j:Nat) v x,vs[j]?=some v->args[j]?=some x->RelV cfg g ZI (Z92 X) v x
 x:∀ (k:Nat) cs,X[k]?=some cs->∀ (j:Nat) c,cs[j]?=some c->∃ v,w.cell? ((g.ad (.x k)).add j)=some v/\g.tag ((g.ad (.x k)).add j)=some (.obj (.x k))/\RelC cfg g ZI v c
 bs:∀ t,t.isR=true->g.bs t=none
 ls:∀ t x,Zx (fun _=> none) L t=some x->LRel cfg w g t x
structure Leave (cfg:Cfg U) (w:World) (g:Gh) (w':World) (g':Gh) (v:Value) (r:V U) (X:List (List (C U))) (L:List (Tok × LC U)):Prop where
 inv:Inv g'.m g'.tag w'
 fr:Fr ⟨w,g.m,g.tag,fun k=> g'.ad (.x k)⟩ g' w'
 tags:∀ a t,g'.tag a=some t->(∃ t',t= .outer t')\/(∃ k,k < X.length/\t= .obj (.x k))\/∃ u,t= .tok u
 ad:∀ k,r≠.ptr (.x k) 0->g'.ad (.x k)=g.ad (.x k)
 val:RelV cfg g' ZI (fun _=> false) v r
 x:∀ (k:Nat) cs,X[k]?=some cs->∀ (j:Nat) c,cs[j]?=some c->∃ v,w'.cell? ((g'.ad (.x k)).add j)=some v/\g'.tag ((g'.ad (.x k)).add j)=some (.obj (.x k))/\RelC cfg g' ZI v c
 ls:∀ t x,Zx (fun _=> none) L t=some x->LRel cfg w' g' t x
def Contract(P:Program)(cfg:Cfg U)(f:FuncId)(s:Fs U):Prop:=
 (∃ fn, P.funcs[f]? = some fn ∧ fn.body.isSome = true ∧ (fn.name == "runtime.NumGoroutine") = false) ∧
 ∀ args X L ps r X' L',s.fn2 args X L=some (ps,r,X',L')->All ps->X'.length<=X.length+1->∀ w g vs,Entry cfg w g vs args X L->
  Calls P f vs.toArray w fun e w'=> ∃ v g',e= .returned v/\Leave cfg w g w' g' v r X' L'
def Zw9(P:Program)(cfg:Cfg U)(f:FuncId)(s:Fs U):Prop:=
 ∀ args X ps r X',s.fn args X=some (ps,r,X')->All ps->X'.length<=X.length+1->∀ w g vs,Entry cfg w g vs args X []->
  Calls P f vs.toArray w fun e w'=> ∃ v g',e= .returned v/\Leave cfg w g w' g' v r X' []
theorem Jj {f : FuncId} {s : Fs U} (h0 : ∃ fn, P.funcs[f]? = some fn ∧ fn.body.isSome = true ∧ (fn.name == "runtime.NumGoroutine") = false) (hd : s.fn2 = Zbv s.fn) (h : Zw9 P cfg f s) : Contract P cfg f s := by
 refine ⟨h0,fun args X L ps r X' L' d=> ?_⟩
 rw [hd] at d
 unfold Zbv at d
 split at d
 .split at d
  .rename_i u
   cases d
   exact h args X _ _ _ u
  .cases d
 .cases d
theorem Contract.one{f:FuncId}{s:Fs U}(h:Contract P cfg f s)(hd:s.fn2=Zbv s.fn):Zw9 P cfg f s:=by
 intro args X u r X' d
 exact h.2 args X [] u r X' [] (by rw [hd];simp only [Zbv,d])
theorem SimC.tl{m:Addr->Option Value}{v:Value}{T:U.Ty}{l:List (U.El T)}{tl:Tail}(tl':Tail)(h:SimC cfg m v (.slice T l tl)):SimC cfg m v (.slice T l tl'):=by
 cases h with
 | snil=> exact .snil T tl'
 | slice _ _ _ b len cap vs hl hc hm hs=> exact .slice T l tl' b len cap vs hl hc hm hs
def Ext(s s':List (Tok × Tok)):Prop:=(∀ t t':Tok,Ym s t=some t'->Ym s' t=some t')/\∀ t t':Tok,Z0B s t=some t'->Z0B s' t=some t'
theorem Ext.refl(s:List (Tok × Tok)):Ext s s:=⟨fun _ _ h=> h,fun _ _ h=> h⟩
theorem Ext.trans{a b c:List (Tok × Tok)}(h:Ext a b)(k:Ext b c):Ext a c:=⟨fun t s d=> k.1 _ _ (h.1 _ _ d),fun t s d=> k.2 _ _ (h.2 _ _ d)⟩
theorem Ext.cons{seen:List (Tok × Tok)}{t nm:Tok}(h1:Ym seen t=none)(h2:Z0B seen nm=none):Ext seen ((t,nm) ::seen):=by
 refine ⟨fun u d h=> ?_,fun u d h=> ?_⟩
 .simp only [Ym]
  grind
 .simp only [Z0B]
  grind
theorem Zel:∀ {s:List (Tok × Tok)} {t t':Tok},Ym s t=some t'->(s.map (·.1)).contains t=true
 | (x,y) ::r,t,t',h=> by
  simp only [Ym] at h
  split at h
  .grind
  .have:=Zel h
   grind
def Zgp(g:Gh)(s:List (Tok × Tok))(t:Tok):Option (Value × Nat):=
 match Z0B s t with
 | none=> none
 | some u=> g.bs u
def Gh.callee(g:Gh)(nx:Name->Option Nat)(s:List (Tok × Tok))(ax:Nat->Addr):Gh:=
 {m:=g.m
  tag:=fun c=> match g.tag c with
   | some (.obj nm)=> match nx nm with
    | some k=> some (.obj (.x k))
    | none=> some (.outer (.obj nm))
   | some (.tok t)=> match Ym s t with
    | some t'=> some (.tok t')
    | none=> some (.outer (.tok t))
   | some (.outer t)=> some (.outer (.outer t))
   | none=> none
  ad:=fun nm=> match nm with
   | .x k=> ax k
   | .loc s=> g.ad (.loc s)
  bs:=fun t=> if t.isR=true then none else Zgp g s t }
theorem Z0m{m:Tok->Option (LC U)}{s:List (Tok × Tok)}:∀ (l:List Tok) {t:Tok} {x:LC U},Zx (fun _=> none) (JZ m s l) t=some x->∃ u,Z0B s t=some u/\Ym s u=some t/\m u=some x/\t.isR=false
 | [],t,x,h=> by trivial
 | t0 ::l,t,x,h=> by
  simp only [JZ] at h
  split at h
  .rename_i u hu
   split at h
   .rename_i t' y h1 h2
    split at h
    .rename_i hc
     obtain ⟨d,aa⟩:=hc
     subst d
     simp only [Zx] at h
     split at h
     .grind
     .exact Z0m l h
    .exact Z0m l h
   .exact Z0m l h
  .exact Z0m l h
section pass
variable {nx:Name->Option Nat} {ax:Nat->Addr}
structure Ren (ok:Tok->Bool) (g:Gh) (s:List (Tok × Tok)) (g2:Gh):Prop where
 m:g2.m=g.m
 tok:∀ c t t',g.tag c=some (.tok t)->Ym s t=some t'->g2.tag c=some (.tok t')
 bs:∀ t t' v,ok t=true->Z0B s t=some t'->g.bs t'=some v->g2.bs t=some v
def Z2C(t:Tok):Bool:= !t.isR
theorem Gh.callee_ren(s:List (Tok × Tok)):Ren Z2C g s (g.callee nx s ax):=
 ⟨rfl,fun c t t' d h=> by simp only [Gh.callee,d,h],fun t t' v d h u=> by
  simp only [Z2C,QN] at d
  simp only [Gh.callee,d,Zgp,h]
  exact u⟩
theorem ZeZ{s:List (Tok × Tok)}{c:Addr}{t:Tag}:(g.callee nx s ax).tag c=some (.outer t)↔(g.tag c=some t/\(∀ nm,t= .obj nm->nx nm=none)/\(∀ u,t= .tok u->Ym s u=none)):=by
 simp only [Gh.callee]
 cases hgt:g.tag c with
 | none=> simp
 | some t0=>
  cases t0 with
  | obj nm=>
   cases hn:nx nm with
   | none=>
    simp only [hn]
    constructor
    .intro h;cases h;exact ⟨rfl,fun aa e=> by cases e;exact hn,fun u e=> by cases e⟩
    .rintro ⟨d,_,_⟩;cases d;rfl
   | some k=>
    simp only [hn]
    constructor
    .intro h;cases h
    .rintro ⟨d,h2,_⟩;cases d;rw [h2 nm rfl] at hn;cases hn
  | tok u=>
   cases hn:Ym s u with
   | none=>
    simp only [hn]
    constructor
    .intro h;cases h;exact ⟨rfl,fun aa e=> by (cases e),fun u' e=> by cases e;exact hn⟩
    .rintro ⟨d,_,_⟩;cases d;rfl
   | some k=>
    simp only [hn]
    constructor
    .intro h;cases h
    .rintro ⟨d,_,h2⟩;cases d;rw [h2 u rfl] at hn;cases hn
  | outer t0=>
   simp only
   constructor
   .intro h;cases h;exact ⟨rfl,fun aa e=> by (cases e),fun u' e=> by (cases e)⟩
   .rintro ⟨d,_,_⟩;cases d;rfl
theorem Z5y{s:List (Tok × Tok)}{c:Addr}{t:Tag}(ht:(g.callee nx s ax).tag c=some t):∃ t0,g.tag c=some t0:=by
 simp only [Gh.callee] at ht
 cases hgt:g.tag c with
 | none=> simp [hgt] at ht
 | some t0=> exact ⟨t0,rfl⟩
theorem Z5z{s:List (Tok × Tok)}{c:Addr}(hc:g.tag c=none):(g.callee nx s ax).tag c=none:=by
 simp only [Gh.callee,hc]
theorem Z7C{okT mine:Tok->Bool}{nm:Tok}{c:C U}{seen:List (Tok × Tok)}(hmine:∀ t,mine t=true->st.dead t=false)(hok:okT nm=true):
  Ext seen (JW mine nm c seen).2/\∀ h,Ext (JW mine nm c seen).2 h->∀ u,Ren okT g h u->∀ v,RelC cfg g st.dead v c->RelC cfg u ZI v (JW mine nm c seen).1:=by
 unfold JW
 split
 .rename_i T l t
  split
  .rename_i hc
   simp only [Q4,QF] at hc
   refine ⟨Ext.cons hc.1.2 hc.2,fun h hs u s v d=> ⟨by rw [s.m];exact d.1.tl _,?_⟩⟩
   intro _ b len ab hv j h1 h2
   have h3:=d.2 (hmine t hc.1.1) b len ab hv j h1 h2
   have h4:Ym h t=some nm:=hs.1 t nm (by simp [Ym])
   exact s.tok _ _ _ h3 h4
  .exact ⟨.refl _,fun h _ u s v d=> ⟨by rw [s.m];exact d.1.tl _,trivial⟩⟩
 .rename_i t
  split
  .rename_i hc
   simp only [Q4,QF] at hc
   refine ⟨Ext.cons hc.1.2 hc.2,fun h hs u s v d=> ⟨.mref _ _ d.1.one,fun _=> ?_⟩⟩
   obtain ⟨sz,h3⟩:=d.2 (hmine t hc.1.1)
   have h4:Z0B h nm=some t:=hs.2 nm t (by simp [Z0B])
   exact ⟨sz,s.bs _ _ _ hok h4 h3⟩
  .exact ⟨.refl _,fun h _ u s v d=> ⟨.jk _ d.1.one,trivial⟩⟩
 .exact ⟨.refl _,fun h _ u s v d=> ⟨.jk _ d.1.one,trivial⟩⟩
 .rename_i ak ai aj
  refine ⟨.refl _,fun h _ u s v d=> ⟨by rw [s.m];exact d.1,?_⟩⟩
  have h2:=d.2
  cases c with
  | slice T l tl=>
   cases tl with
   | unk=> trivial
   | full=> exact h2
   | own t=> grind
  | mref t=> grind
  | xp k=> grind
  | _=> trivial
theorem Z5W{okT mine:Tok->Bool}{nm:Nat->Tok}(hmine:∀ t,mine t=true->st.dead t=false)(hok:∀ j,okT (nm j)=true):∀ (cs:List (C U)) (j:Nat) (seen:List (Tok × Tok)),
  Ext seen (YQ mine nm j cs seen).2/\(YQ mine nm j cs seen).1.length=cs.length/\
   ∀ s,Ext (YQ mine nm j cs seen).2 s->∀ h,Ren okT g s h->∀ (i:Nat) v c u,cs[i]?=some c->(YQ mine nm j cs seen).1[i]?=some u->RelC cfg g st.dead v c->RelC cfg h ZI v u
 | [],j,seen=> ⟨.refl _,rfl,fun s _ h _ i v c u hc=> by simp at hc⟩
 | c ::cs,j,seen=> by
  obtain ⟨h1,h2⟩:=Z7C (cfg:=cfg) (g:=g) (okT:=okT) (nm:=nm j) (c:=c) (seen:=seen) hmine (hok j)
  obtain ⟨h3,h4,h5⟩:=Z5W (okT:=okT) (mine:=mine) (nm:=nm) hmine hok cs (j+1) (JW mine (nm j) c seen).2
  refine ⟨h1.trans h3,by simp [YQ,h4],fun s hs h hg i v c0 u hc d hr=> ?_⟩
  cases i with
  | zero=>
   simp [YQ] at hc d
   subst hc d
   exact h2 s (h3.trans hs) h hg v hr
  | succ i=>
   simp [YQ] at hc d
   exact h5 s hs h hg i v c0 u hc d hr
theorem Zqd{mine:Tok->Bool}{nm:Tok}{c:C U}{seen:List (Tok × Tok)}(hmine:∀ t,mine t=true->st.dead t=false)(hok:Z2C nm=true):
  Ext seen (JW mine nm c seen).2/\∀ d,Ext (JW mine nm c seen).2 d->∀ v,RelC cfg g st.dead v c->RelC cfg (g.callee nx d ax) ZI v (JW mine nm c seen).1:=
 let ⟨h1,h2⟩:=Z7C (cfg:=cfg) (g:=g) (nm:=nm) (c:=c) (seen:=seen) hmine hok
 ⟨h1,fun d s v h=> h2 d s _ (Gh.callee_ren d) v h⟩
theorem Zjv{mine:Tok->Bool}{nm:Nat->Tok}(hmine:∀ t,mine t=true->st.dead t=false)(hok:∀ j,Z2C (nm j)=true)(cs:List (C U))(j:Nat)(seen:List (Tok × Tok)):
  Ext seen (YQ mine nm j cs seen).2/\(YQ mine nm j cs seen).1.length=cs.length/\
   ∀ d,Ext (YQ mine nm j cs seen).2 d->∀ (i:Nat) v c c',cs[i]?=some c->(YQ mine nm j cs seen).1[i]?=some c'->RelC cfg g st.dead v c->RelC cfg (g.callee nx d ax) ZI v c':=
 let ⟨h1,h2,h3⟩:=Z5W (cfg:=cfg) (g:=g) (mine:=mine) (nm:=nm) hmine hok cs j seen
 ⟨h1,h2,fun d u i v c c' hc h s=> h3 d u _ (Gh.callee_ren d) i v c c' hc h s⟩
theorem Ztj{mine:Tok->Bool}{nm:Nat->Tok}{live lx:Name->Bool}(hmine:∀ t,mine t=true->st.dead t=false)(hok:∀ j,Z2C (nm j)=true){x x':V U}{seen seen':List (Tok × Tok)}(he:Ztk mine nm x seen=some (x',seen')):
  Ext seen seen'/\∀ d,Ext seen' d->∀ v,RelV cfg g st.dead live v x->RelV cfg (g.callee nx d ax) ZI lx v x':=by
 unfold Ztk at he
 split at he
 .rename_i c
  simp only [oP] at he
  obtain ⟨rfl,rfl⟩:=he
  obtain ⟨h1,h2⟩:=Zqd (cfg:=cfg) (g:=g) (nx:=nx) (ax:=ax) (nm:=nm 0) (c:=c) (seen:=seen) hmine (hok 0)
  trivial
 .rename_i cs
  simp only [oP] at he
  obtain ⟨rfl,rfl⟩:=he
  obtain ⟨s,h4,h5⟩:=Zjv (cfg:=cfg) (g:=g) (nx:=nx) (ax:=ax) (mine:=mine) (nm:=nm) hmine hok cs 0 seen
  refine ⟨s,fun d hs v h=> ?_⟩
  obtain ⟨vs,rfl,hl,hh⟩:=h
  refine ⟨vs,rfl,V0,fun j u c hu hc=> ?_⟩
  grind
 .rename_i f
  simp only [oP] at he
  obtain ⟨rfl,rfl⟩:=he
  exact ⟨.refl _,fun d _ v h=> h⟩
 .cases he
def ZkK(os:List (Name × List (C U))):Prop:=∀ (i j:Nat) x y,os[i]?=some x->os[j]?=some y->x.1=y.1->i=j
theorem Z5p:∀ {os:List (Name × List (C U))} {nm:Name} {i:Nat} {x:Name × List (C U)},os[i]?=some x->x.1=nm->Z9t os nm=true
 | (b,cs) ::os,nm,0,x,h,e=> by simp at h;subst h;simp [Z9t];exact .inl e
 | (b,cs) ::os,nm,i+1,x,h,e=> by
  simp at h
  simp only [Z9t,Z5p h e]
  split <;> rfl
theorem Z5b:∀ {os:List (Name × List (C U))} {k:Nat} {nm:Name} {i:Nat},YO os k nm=some i->∃ x,k<=i/\os[i - k]?=some x/\x.1=nm
 | (b,cs) ::os,k,nm,i,h=> by
  simp only [YO] at h
  split at h
  .simp_all
  .obtain ⟨x,u,d,s⟩:=Z5b h
   grind
theorem Zag:∀ {os:List (Name × List (C U))} {k:Nat} {nm:Name} {i:Nat} {x:Name × List (C U)},ZkK os->os[i]?=some x->x.1=nm->YO os k nm=some (k+i)
 | (b,cs) ::os,k,nm,0,x,_,h,e=> by simp at h;subst h;simp [YO];grind
 | (b,cs) ::os,k,nm,i+1,x,hap,h,e=> by
  simp only [YO]
  rw [if_neg (fun d=> by have:=hap 0 (i+1) (b,cs) x rfl h (by simp [d,e]);omega)]
  have:=Zag (k:=k+1) (nm:=nm) (fun i j x y u hy s=> by have:=hap (i+1) (j+1) x y (by simpa using u) (by simpa using hy) s;omega) (by simpa using h) e
  grind
theorem Zb7{os:List (Name × List (C U))}{nm:Name}(h:∀ (i:Nat) x,os[i]?=some x->x.1≠nm)(k:Nat):YO os k nm=none:=by
 cases hn:YO os k nm with
 | none=> rfl
 | some i=>
  obtain ⟨x,_,d,s⟩:=Z5b hn
  grind
theorem Z56{ps:Nat->Bool}:∀ (xs:List (V U)) (i:Nat) (os:List (Name × List (C U))) (seen:List (Tok × Tok)) (ys:List (V U)) (os':List (Name × List (C U))) (seen':List (Tok × Tok)),
  YC st ps i xs os seen=some (ys,os',seen')->ZkK os->
  Ext seen seen'/\(∃ af,os'=os++af)/\ZkK os'/\ys.length=xs.length/\
  (∀ (k:Nat) x,os'[k]?=some x->os.length<=k->∃ cs,st.mem x.1=some cs/\x.2.length=cs.length/\
   ∀ s',Ext seen' s'->∀ nx ax (i:Nat) v c c',cs[i]?=some c->x.2[i]?=some c'->RelC cfg g st.dead v c->RelC cfg (g.callee nx s' ax) ZI v c')/\
  (∀ s',Ext seen' s'->∀ nx ax,(∀ (k:Nat) x,os'[k]?=some x->ax k=g.ad x.1)->∀ (j:Nat) v x y,xs[j]?=some x->ys[j]?=some y->RelV cfg g st.dead (fun nm=> (st.mem nm).isSome) v x->
   RelV cfg (g.callee nx s' ax) ZI (fun nm=> match nm with | .x k=> (os'[k]?).isSome | .loc _=> false) v y)
 | [],i,os,seen,ys,os',seen',h,hap=> by
  simp only [YC,oP] at h
  obtain ⟨rfl,rfl,rfl⟩:=h
  exact ⟨.refl _,⟨[],by simp⟩,hap,rfl,fun k x d hk=> by grind,fun s' _ nx ax _ j v x y d=> by simp at d⟩
 | x0 ::xs,i,os,seen,ys,os',seen',h,hap=> by
  simp only [YC] at h
  split at h
  .rename_i nm mk hp
   split at h
   .cases h
   .rename_i cs aw
    split at h
    .cases h
    .rename_i ak
     split at h
     .rename_i vs al s1 ae
      simp only [oP] at h
      obtain ⟨rfl,rfl,rfl⟩:=h
      have s:∀ t,(fun t=> !st.dead t) t=true->st.dead t=false:=fun t ht=> by simpa using ht
      have aq:ZkK (os++[(nm,(YQ (fun t=> !st.dead t) (.x os.length) 0 cs seen).1)]):=by
       intro p q x y d hy he
       rw [QC] at d hy
       have u:∀ (r:Nat) (z z0:Name × List (C U)),[z0][r]?=some z->r=0/\z=z0:=by
        intro r z z0 hz
        cases r with
        | zero=> simp at hz;exact ⟨rfl,hz.symm⟩
        | succ r=> simp at hz
       split at d <;> split at hy
       .exact hap p q x y d hy he
       .obtain ⟨_,rfl⟩:=u _ _ _ hy
        exact absurd (Z5p d he) ak
       .obtain ⟨_,rfl⟩:=u _ _ _ d
        exact absurd (Z5p hy he.symm) ak
       .grind
      obtain ⟨r1,⟨af,r2⟩,r3,r4,r5,r6⟩:=Z56 xs (i+1) _ _ _ _ _ ae aq
      have hC:=fun nx ax=> Zjv (cfg:=cfg) (g:=g) (nx:=nx) (ax:=ax) (mine:=fun t=> !st.dead t) (nm:= .x os.length) s (fun _=> rfl) cs 0 seen
      have ai:al[os.length]?=some (nm,(YQ (fun t=> !st.dead t) (.x os.length) 0 cs seen).1):=by
       rw [r2,Qi,Qu (Qf _)];simp
      refine ⟨(hC (fun _=> none) (fun _=> ⟨0,0,none⟩)).1.trans r1,⟨(nm,(YQ (fun t=> !st.dead t) (.x os.length) 0 cs seen).1) ::af,by rw [r2];simp⟩,r3,by simp [r4],?_,?_⟩
      .intro k x d hk
       by_cases e:k=os.length
       .subst e
        rw [ai] at d
        cases d
        exact ⟨cs,aw,(hC (fun _=> none) (fun _=> ⟨0,0,none⟩)).2.1,fun s' hs nx ax q v c c' h1 h2 h3=> (hC nx ax).2.2 s' (r1.trans hs) q v c c' h1 h2 h3⟩
       .exact r5 k x d (by simp;omega)
      .intro s' hs nx ax ah j v x y d hy hr
       cases j with
       | zero=>
        simp at d hy
        subst d hy
        have:=ah _ _ ai
        simp only at this
        cases x0 <;> simp only [Zqa,reduceCtorEq] at hp
        case ptr nm0 off0=>
         cases hp
         obtain ⟨_,rfl⟩:=hr
         exact ⟨by simp [ai],by simp [Gh.callee,this]⟩
        case clo f0 nms0=>
         split at hp
         .grind
         .rename_i f1 bd a2
          cases a2
          cases hp
          obtain ⟨_,rfl⟩:=hr
          refine ⟨fun n hn=> ?_,by simp [Gh.callee,this]⟩
          grind
         .cases hp
       | succ j=> exact r6 s' hs nx ax ah j v x y (by simpa using d) (by simpa using hy) hr
     .cases h
  .rename_i hp
   split at h
   .cases h
   .rename_i v' a3 hv
    split at h
    .rename_i vs al s1 ae
     simp only [oP] at h
     obtain ⟨rfl,rfl,rfl⟩:=h
     obtain ⟨r1,r2,r3,r4,r5,r6⟩:=Z56 xs (i+1) _ _ _ _ _ ae hap
     have s:∀ t,(fun t=> ps i && !st.dead t) t=true->st.dead t=false:=fun t ht=> by grind
     have hV:=fun nx ax lx=> Ztj (cfg:=cfg) (g:=g) (nx:=nx) (ax:=ax) (live:=fun nm=> (st.mem nm).isSome) (lx:=lx) s (fun _=> rfl) hv
     refine ⟨(hV (fun _=> none) (fun _=> ⟨0,0,none⟩) (fun _=> true)).1.trans r1,r2,r3,by simp [r4],r5,?_⟩
     intro s' hs nx ax ah j v x y d hy hr
     cases j with
     | zero=>
      simp at d hy
      subst d hy
      exact (hV nx ax _).2 s' (r1.trans hs) v hr
     | succ j=> grind
    .cases h
end pass
def Gh.back(g':Gh)(os:List (Name × List (C U)))(d:Nat)(ad:Name->Addr)(L:List (Tok × LC U))(bs:Tok->Option (Value × Nat)):Gh:=
 {m:=g'.m
  tag:=fun c=> match g'.tag c with
   | some (.outer t)=> some t
   | some (.obj (.x k))=> (os[k]?).map fun x=> .obj x.1
   | some (.tok t)=> (ZO d t).map .tok
   | _=> none
  ad:=ad
  bs:=fun t=> match bs t with
   | some v=> some v
   | none=> match Z0W d t with
    | some t'=> match Zx (fun _=> none) L t' with
     | some _=> g'.bs t'
     | none=> none
    | none=> none }
theorem Z2D{d:Nat}{t t':Tok}(h:ZO d t=some t'):Z0W d t'=some t:=by
 unfold ZO at h
 split at h
 .rename_i j
  cases h
  simp only [Z0W,if_true]
  grind
 .rename_i k j
  split at h
  .rename_i s
   cases h
   simp only [Z0W,if_true]
   grind
  .cases h
 .cases h
section back
variable {g':Gh} {os:List (Name × List (C U))} {d:Nat} {ad:Name->Addr} {L:List (Tok × LC U)} {bs:Tok->Option (Value × Nat)} {dead:Tok->Bool} {live lv:Name->Bool} {fx:Nat->Option Nat}
theorem RelC.back(hbs:∀ t t',Z05 d L t=some t'->bs t'=none)(hx:∀ k k',fx k=some k'->g'.ad (.x k)=ad (.x k')){v:Value}{c:C U}(h:RelC cfg g' ZI v c):RelC cfg (g'.back os d ad L bs) dead v (c.mapTok (ZO d) (Z05 d L) fx):=by
 obtain ⟨s,h2⟩:=h
 cases c with
 | slice T l tl=>
  cases tl with
  | unk=> trivial
  | full=> trivial
  | own t=>
   simp only [C.mapTok]
   cases hb:ZO d t with
   | none=> exact ⟨s.tl _,trivial⟩
   | some t'=>
    refine ⟨s.tl _,fun _ b len u hv j ae aa=> ?_⟩
    have:=h2 rfl b len u hv j ae aa
    simp only [Gh.back,this,hb,Qe]
 | mref t=>
  simp only [C.mapTok]
  cases hb:Z05 d L t with
  | none=> exact ⟨.jk _ s.one,trivial⟩
  | some t'=>
   refine ⟨.mref _ _ s.one,fun _=> ?_⟩
   obtain ⟨sz,hs⟩:=h2 rfl
   refine ⟨sz,?_⟩
   have h0:=hbs t t' hb
   unfold Z05 at hb
   cases hL:Zx (fun _=> none) L t with
   | none=> grind
   | some x=>
    rw [hL] at hb
    simp only [Gh.back,h0,Z2D hb,hL,hs]
 | xp k=>
  simp only [C.mapTok]
  cases hk:fx k with
  | none=> exact ⟨.jk _ s.one,trivial⟩
  | some k'=>
   refine ⟨.xp _ _ s.one,?_⟩
   have h3:v= .pointer (some (g'.ad (.x k))):=h2
   show v= .pointer (some (ad (.x k')))
   grind
 | _=> trivial
theorem RelL.back(hbs:∀ t t',Z05 d L t=some t'->bs t'=none)(hx:∀ k k',fx k=some k'->g'.ad (.x k)=ad (.x k')){vs:List Value}{cs:List (C U)}(h:RelL cfg g' ZI vs cs):RelL cfg (g'.back os d ad L bs) dead vs (cs.map (C.mapTok (ZO d) (Z05 d L) fx)):=by
 refine ⟨by simp [h.1],fun j v c s hc=> ?_⟩
 rw [Qt] at hc
 cases hcj:cs[j]? with
 | none=> grind
 | some c0=>
  simp [hcj] at hc
  subst hc
  exact (h.2 j v c0 s hcj).back hbs hx
theorem RelV.back(hbs:∀ t t',Z05 d L t=some t'->bs t'=none)(hx:∀ k k',fx k=some k'->g'.ad (.x k)=ad (.x k')){v:Value}:∀ {x:V U},RelV cfg g' ZI (fun _=> false) v x->RelV cfg (g'.back os d ad L bs) dead live v (x.mapTok (ZO d) (Z05 d L) fx)
 | .c x,h=> RelC.back hbs hx (c:=x) h
 | .agg cs,h=> by obtain ⟨vs,h1,h2⟩:=h;exact ⟨vs,h1,h2.back hbs hx⟩
 | .tup ws,h=> by
  obtain ⟨vs,h1,h2,h3⟩:=h
  refine ⟨vs,h1,by simp [h2],fun j u w hu hw=> ?_⟩
  rw [Qt] at hw
  cases hj:ws[j]? with
  | none=> grind
  | some w0=>
   simp [hj] at hw
   subst hw
   have:=h3 j u w0 hu hj
   obtain ⟨ag,cs⟩:=w0
   cases ag with
   | true=> obtain ⟨vs,s,h5⟩:=this;exact ⟨vs,s,h5.back hbs hx⟩
   | false=> obtain ⟨c,s,h5⟩:=this;simp only at s;subst s;exact ⟨_,rfl,h5.back hbs hx⟩
 | .ptr ..,_=> trivial
 | .ap ..,_=> trivial
 | .ep cs,h=> by
  obtain ⟨b,h1,h2⟩:=h
  refine ⟨b,h1,fun j c hc=> ?_⟩
  rw [Qt] at hc
  cases hcj:cs[j]? with
  | none=> grind
  | some c0=>
   simp [hcj] at hc
   subst hc
   obtain ⟨u,h3,s⟩:=h2 j c0 hcj
   exact ⟨u,h3,s.back hbs hx⟩
 | .fn f,h=> h
 | .mp ..,_=> trivial
 | .vw ..,_=> trivial
 | .clo ..,_=> trivial
 | .gd b x,h=> ⟨fun hb=> RelV.back hbs hx (h.1 hb),h.2⟩
 | .nb _ _,h=> h
 | .junk,_=> trivial
end back
theorem Zbg{d:Nat}:∀ {L l:List (Tok × LC U)},Z0g st d L=some l->
  (∀ t x,Zx (fun _=> none) L t=some x->∃ s,ZO d t=some s/\st.ls s=none/\st.dead s=false/\Zx st.ls l s=some x)/\
  (∀ s x,Zx st.ls l s=some x->(st.ls s=some x/\∀ t,ZO d t=some s->Zx (fun _=> none) L t=none)\/∃ t,Zx (fun _=> none) L t=some x/\ZO d t=some s/\st.dead s=false)
 | [],l,h=> by
  simp only [Z0g,Option.some.injEq] at h
  subst h
  exact ⟨fun t x u=> by trivial,fun s x u=> .inl ⟨u,fun t _=> rfl⟩⟩
 | (t0,x0) ::L,l,h=> by
  simp only [Z0g] at h
  split at h
  case h_2=> cases h
  rename_i t1 l1 h1 h2
  split at h
  case isFalse=> cases h
  rename_i hc
  simp only [Q4,QF,QN] at hc
  simp only [Option.some.injEq] at h
  subst h
  obtain ⟨ai,ah⟩:=Zbg h2
  have inj:∀ {t:Tok},ZO d t=some t1->t=t0:=by
   intro t ht
   have e1:=Z2D ht
   have e2:=Z2D h1
   rw [e1] at e2
   exact Option.some.inj e2
  refine ⟨fun t x u=> ?_,fun s x u=> ?_⟩
  .simp only [Zx] at u
   split at u
   .rename_i e
    subst e
    cases u
    exact ⟨t1,h1,hc.1,hc.2,by simp [Zx]⟩
   .rename_i e
    obtain ⟨s,g1,g2,g3,g4⟩:=ai t x u
    refine ⟨s,g1,g2,g3,?_⟩
    simp only [Zx]
    grind
  .simp only [Zx] at u
   split at u
   .rename_i e
    subst e
    cases u
    exact .inr ⟨t0,by simp [Zx],h1,hc.2⟩
   .rename_i e
    rcases ah s x u with ⟨g1,g2⟩ | ⟨t,g1,g2,g3⟩
    .refine .inl ⟨g1,fun t ht=> ?_⟩
     simp only [Zx]
     grind
    .refine .inr ⟨t,?_,g2,g3⟩
     simp only [Zx]
     grind
theorem Z90{d:Nat}{L:List (Tok × LC U)}{fx:Nat->Option Nat}:∀ {os:List (Name × List (C U))} {xs:List (List (C U))} {m:List (Name × List (C U))},Z62 d L fx os xs=some m->
  xs.length=os.length/\m.length=os.length/\∀ (k:Nat) x cs,os[k]?=some x->xs[k]?=some cs->m[k]?=some (x.1,cs.map (C.mapTok (ZO d) (Z05 d L) fx))
 | [],[],m,h=> by simp only [Z62,Option.some.injEq] at h;grind
 | (nm,_) ::os,cs0 ::xs,m,h=> by
  simp only [Z62] at h
  cases hr:Z62 d L fx os xs with
  | none=> simp [hr] at h
  | some m'=>
   simp only [hr,Qe,Option.some.injEq] at h
   subst h
   obtain ⟨h1,s,u⟩:=Z90 hr
   grind
theorem YG(m0:Name->Option (List (C U))):∀ (m:List (Name × List (C U))) (nm:Name),(∃ (k:Nat) (cs:List (C U)),m[k]?=some (nm,cs)/\ZJ m0 m nm=some cs)\/((∀ (k:Nat) x,m[k]?=some x->x.1≠nm)/\ZJ m0 m nm=m0 nm)
 | [],nm=> .inr ⟨fun k x d=> by simp at d,rfl⟩
 | (a,cs) ::r,nm=> by
  simp only [ZJ]
  split
  .rename_i e
   subst e
   exact .inl ⟨0,cs,rfl,rfl⟩
  .rename_i e
   rcases YG m0 r nm with ⟨k,cs',h1,h2⟩ | ⟨h1,h2⟩
   .exact .inl ⟨k+1,cs',by simpa using h1,h2⟩
   grind
theorem Zg9{xs:List Operand}{vs:List (V U)}(hm:xs.mapM st.opnd=some vs)(hop:∀ x∈xs,∀ v,st.opnd x=some v->RelV cfg g st.dead (fun nm=> (st.mem nm).isSome) (a.eval x) v):
  (xs.map a.eval).length=vs.length/\∀ (j:Nat) u x,(xs.map a.eval)[j]?=some u->vs[j]?=some x->RelV cfg g st.dead (fun nm=> (st.mem nm).isSome) u x:=by
 have d:∀ {xs:List Operand} {vs:List (V U)},xs.mapM st.opnd=some vs->xs.length=vs.length:=by
  intro xs
  induction xs with
  | nil=> grind
  | cons y xs ih=>
   intro vs h
   rw [X4] at h
   cases h1:st.opnd y with
   | none=> simp [h1] at h
   | some v=>
    cases h2:xs.mapM st.opnd with
    | none=> grind
    | some r=>
     simp [h1,h2] at h
     grind
 refine ⟨by simp [d hm],fun j u x s hx=> ?_⟩
 rw [Qt] at s
 cases hj:xs[j]? with
 | none=> grind
 | some y=>
  simp [hj] at s
  subst s
  obtain ⟨v,h1,h2⟩:=Z5i hm j y hj
  grind
theorem Zkf(os:List (Name × List (C U))):∀ (cs0 cs:List (C U)),cs.length=cs0.length->(Zkg os cs0 cs).length=cs.length
 | [],cs,h=> by rfl
 | c0 ::cs0,[],h=> by cases h
 | c0 ::cs0,c ::cs,h=> by
  have d:=Zkf os cs0 cs (by simpa using h)
  cases c0 <;> simp [Zkg,d]
theorem Zgi(os:List (Name × List (C U))):∀ (cs0 cs:List (C U)) (j:Nat) (c0 c:C U),cs.length=cs0.length->cs0[j]?=some c0->(Zkg os cs0 cs)[j]?=some c->
  cs[j]?=some c\/∃ k k',c0= .xp k/\YO os 0 (.x k)=some k'/\c= .xp k'
 | [],cs,j,c0,c,_,h,_=> by simp at h
 | d0 ::cs0,[],j,c0,c,hl,_,_=> by cases hl
 | d0 ::cs0,d ::cs,0,c0,c,hl,h0,h=> by
  simp at h0
  subst h0
  cases d0 with
  | xp k=>
   simp only [Zkg] at h
   grind
  | _=> exact .inl (by trivial)
 | d0 ::cs0,d ::cs,j+1,c0,c,hl,h0,h=> by
  have s:=Zgi os cs0 cs j c0 c (by simpa using hl) (by simpa using h0)
  cases d0 <;> (simp only [Zkg,List.getElem?_cons_succ] at h ⊢;exact s h)
theorem Zf0 {Γ:Known U} (hΓ:∀ f s,Γ f=some s->Contract P cfg f s) (h:Rel cfg B st g a w) {o:Oper} {c:Call} {gx:Operand} {f:FuncId} {args:List (V U)} {ps:List Prop} {e:Eff U} {d:Nat}
  (ho:o.op= .call c) (hc:c.callee= .value gx) {caps:List Value} (hg:a.eval gx= .func (.func f) #[] caps.toArray)
  (hargs:(c.args.toList.map a.eval++caps).length=args.length/\∀ (j:Nat) u x,(c.args.toList.map a.eval++caps)[j]?=some u->args[j]?=some x->RelV cfg g st.dead (fun nm=> (st.mem nm).isSome) u x)
  (he:Z4w Γ st d f args=some (ps,e)) (hps:All ps):
  Does P o a w fun v w'=> ∃ g',Out cfg B st g e v w' g':=by
 unfold Z4w at he
 split at he
 .cases he
 rename_i s hs
 split at he
 .cases he
 rename_i ys os toks bh
 split at he
 .cases he
 rename_i di r xs L0 ce
 rw [cond_eq_ite] at he
 split at he
 .cases he
 rename_i a9
 have a9:∀ k,r≠.ptr (.x k) 0:=fun k e=> a9 (by rw [e];rfl)
 split at he
 case h_2=> cases he
 rename_i m ll ct cw
 simp only [oP] at he
 obtain ⟨rfl,rfl⟩:=he
 obtain ⟨q1,q2⟩:=Zbg cw
 obtain ⟨⟨fn,cn,dj,cb⟩,bp⟩:=hΓ f s hs
 obtain ⟨p1,_,p3,p4,p5,p6⟩:=Z56 (cfg:=cfg) (g:=g) _ _ _ _ _ _ _ bh (fun i j x y hx=> by simp at hx)
 obtain ⟨b1,b2,b3⟩:=Z90 ct
 let ax:Nat->Addr:=fun k=> ((os[k]?).map fun x=> g.ad x.1).getD ⟨0,0,none⟩
 have az:∀ (k:Nat) x,os[k]?=some x->ax k=g.ad x.1:=fun k x hx=> by simp [ax,hx]
 let gc:=g.callee (YO os 0) toks ax
 let XS:=os.map fun x=> ZqM st os (x.2,x.1)
 have aw:∀ c t,gc.tag c=some (.outer t)↔(g.tag c=some t/\(∀ nm,t= .obj nm->YO os 0 nm=none)/\(∀ u,t= .tok u->Ym toks u=none)):=fun c t=> ZeZ
 have a0:∀ c t,gc.tag c=some t->∃ t0,g.tag c=some t0:=fun c t=> Z5y
 have a3:∀ c,g.tag c=none->gc.tag c=none:=fun c=> Z5z
 have ba:Entry cfg w gc (c.args.toList.map a.eval++caps) (ys.take args.length) XS (bif s.wr then JZ st.ls toks (toks.map (·.2)) else []):=by
  refine ⟨⟨fun c v hv=> ?_,fun c t ht=> ?_⟩,fun c t ht=> ?_,by rw [hargs.1,Qr,p4,Qb];omega,fun j v x hv hx=> ?_,fun k cs hk j c hj=> ?_,fun t ht=> (by simp only [gc,Gh.callee,ht,if_true]),fun t x hx=> ?_⟩
  .obtain ⟨h1,h2⟩:=h.inv.im c v hv
   exact ⟨h1,a3 c h2⟩
  .obtain ⟨t0,bb⟩:=a0 c t ht
   exact h.inv.it c t0 bb
  .simp only [gc,Gh.callee] at ht
   split at ht
   .split at ht
    .cases ht;exact .inr (.inl ⟨_,rfl⟩)
    .cases ht;exact .inl ⟨_,rfl⟩
   .split at ht
    .cases ht;exact .inr (.inr ⟨_,rfl⟩)
    .cases ht;exact .inl ⟨_,rfl⟩
   .cases ht;exact .inl ⟨_,rfl⟩
   .cases ht
  .rw [X9] at hx
   split at hx
   case isFalse=> cases hx
   rename_i hj
   have bc:=Q0 hj
   have br:(args++Z1y st args)[j]?=some args[j]:=by rw [QG hj];exact bc
   have:=p6 toks (.refl _) (YO os 0) ax az j v _ x br hx (hargs.2 j v _ hv bc)
   have hl:Z92 XS=fun nm:Name=> match nm with | .x k=> (os[k]?).isSome | .loc _=> false:=by
    funext nm;cases nm <;> simp [Z92,XS]
   rw [hl]
   exact this
  .simp only [XS] at hk
   rw [Qt] at hk
   cases hx:os[k]? with
   | none=> simp [hx] at hk
   | some x=>
    simp [hx] at hk
    subst hk
    obtain ⟨bz,h1,h2,h3⟩:=p5 k x hx (by simp)
    simp only [ZqM,h1] at hj
    have ak:j < bz.length:=by have:=(Q5.1 hj).1;rw [Zkf os _ _ h2] at this;omega
    obtain ⟨v,h4,h5,h6⟩:=h.mem x.1 bz h1 j _ (Q0 ak)
    have bi:gc.ad (.x k)=g.ad x.1:=az k x hx
    rw [bi]
    refine ⟨v,h4,?_,?_⟩
    rotate_left
    .rcases Zgi os _ _ j _ c h2 (Q0 ak) hj with hj1 | ⟨q,q',e0,hq,rfl⟩
     .exact h3 toks (.refl _) _ _ j v _ c (Q0 ak) hj1 h6
     .rw [e0] at h6
      have e1:v= .pointer (some (g.ad (.x q))):=h6.2
      obtain ⟨y,_,hy,cp⟩:=Z5b hq
      refine ⟨.xp _ _ h6.1.one,?_⟩
      show v= .pointer (some (ax q'))
      rw [az q' y (by simpa using hy),cp,e1]
    have hn:YO os 0 x.1=some k:=by have:=Zag (k:=0) p3 hx rfl;simpa using this
    simp only [gc,Gh.callee,h5,hn]
  .have hx:Zx (fun _=> none) (JZ st.ls toks (toks.map (·.2))) t=some x:=by
    cases hw:s.wr with
    | true=> rw [hw] at hx;exact hx
    | false=> rw [hw] at hx;cases hx
   obtain ⟨u,h5,h6,h7,h8⟩:=Z0m _ hx
   obtain ⟨_,hL⟩:=h.ls u x h7
   have ao:gc.bs t=g.bs u:=by simp only [gc,Gh.callee,h8,Xs,if_false,Zgp,h5]
   have bq:∀ c,g.tag c=some (.tok u)->gc.tag c=some (.tok t):=fun c hc=> by simp only [gc,Gh.callee,hc,h6]
   rcases hL with ⟨e1,e2⟩ | ⟨b,len,cap,e1,e2,e3,e4,e5,e6⟩
   .exact .inl ⟨ao.trans e1,e2⟩
   .refine .inr ⟨b,len,cap,ao.trans e1,e2,e3,e4,fun i y hy j c hc=> ?_,fun j a1 a2=> bq _ (e6 j a1 a2)⟩
    obtain ⟨v,e7,e8,e9,bf⟩:=e5 i y hy j c hc
    exact ⟨v,e7,e8,e9,fun hi=> bq _ (bf hi)⟩
 have bj:=bp (ys.take args.length) XS _ _ r xs L0 ce hps (by rw [b1];simp [XS]) w gc _ ba
 refine .inr (.inr ⟨f,(c.args.toList.map a.eval++caps).toArray,w,?_,Calls.mono bj ?_⟩)
 .have hb:fn.body.isNone=false:=by cases hfb:fn.body <;> simp_all
  simp only [execOp,ho,resolve,hc,hg,Deferred.ofValue,Sem.run_bind,Sem.run_pure,Result.andThen_ok,invoke,callFunc,run_program,cn]
  simp [cb,hb]
 .rintro e' w' ⟨v,g',rfl,L⟩
  refine ⟨v,rfl,g'.back os d g.ad L0 g.bs,?_⟩
  have c7:gc.m=g.m:=rfl
  have ae:∀ c t,g.tag c=some t->(∀ nm,t= .obj nm->YO os 0 nm=none)->(∀ u,t= .tok u->Ym toks u=none)->(g'.back os d g.ad L0 g.bs).tag c=some t/\w'.cell? c=w.cell? c:=by
   intro c t h1 h2 h3
   have:=L.fr.outer c t ((aw c t).2 ⟨h1,h2,h3⟩)
   exact ⟨by simp only [Gh.back,this.1],this.2⟩
  have bk:∀ c t,(g'.back os d g.ad L0 g.bs).tag c=some t->∃ t',g'.tag c=some t':=by
   intro c t ht
   simp only [Gh.back] at ht
   cases hgt:g'.tag c with
   | none=> simp [hgt] at ht
   | some t'=> exact ⟨t',rfl⟩
  have a8:∀ t,Zm st ({ val:=some (r.mapTok (ZO d) (Z05 d L0) (Z7a os)),mem:=m,kill:=toks.map (·.1),ls:=ll }:Eff U) t=false->st.dead t=false/\Ym toks t=none:=by
   intro t ht
   simp only [Zm,QD] at ht
   refine ⟨ht.1,?_⟩
   cases hn:Ym toks t with
   | none=> rfl
   | some t'=> have:=Zel hn;rw [ht.2] at this;cases this
  have am:Keeps g (g'.back os d g.ad L0 g.bs) st.dead (Zm st ({ val:=some (r.mapTok (ZO d) (Z05 d L0) (Z7a os)),mem:=m,kill:=toks.map (·.1),ls:=ll }:Eff U)) (fun nm=> (st.mem nm).isSome) (ZW st ({ val:=some (r.mapTok (ZO d) (Z05 d L0) (Z7a os)),mem:=m,kill:=toks.map (·.1),ls:=ll }:Eff U)):=by
   refine ⟨fun c v hv=> L.fr.mono c v hv,fun c t hd ht=> ?_,fun t ht=> (a8 t ht).1,fun nm hn=> ⟨?_,rfl⟩,fun t v _ hv=> by simp only [Gh.back,hv],fun _=> rfl⟩
   .exact (ae c _ ht (fun nm e=> by cases e) (fun u e=> by cases e;exact (a8 _ hd).2)).1
   .simp only [ZW]
    rcases YG st.mem m nm with ⟨k,cs,_,h2⟩ | ⟨_,h2⟩
    .rw [h2];try rfl
    .rw [h2];exact hn
  have ao:∀ t t',Z05 d L0 t=some t'->g.bs t'=none:=by
   intro t t' hb
   unfold Z05 at hb
   cases hx:Zx (fun _=> none) L0 t with
   | none=> rw [hx] at hb;cases hb
   | some x=>
    rw [hx] at hb
    obtain ⟨t2,g1,g2,g3,_⟩:=q1 t x hx
    simp only at hb
    rw [hb] at g1
    cases g1
    refine h.fresh t' ?_ g2 g3
    unfold ZO at hb
    split at hb
    .cases hb;rfl
    .split at hb
     .cases hb;rfl
     .cases hb
    .cases hb
  have b6:∀ k k',Z7a os k=some k'->g'.ad (.x k)=g.ad (.x k'):=by
   intro k k' hk
   unfold Z7a at hk
   split at hk
   .rename_i hx
    cases hk
    exact (L.ad k (a9 k)).trans (az k _ hx)
   .cases hk
  have bt:∀ t x,JI st.ls ({ val:=some (r.mapTok (ZO d) (Z05 d L0) (Z7a os)),mem:=m,kill:=toks.map (·.1),ls:=ll }:Eff U) t=some x->(toks.map (·.1)).contains t=false/\Zx st.ls ll t=some x:=by
   intro t x hx
   unfold JI at hx
   cases hk:(toks.map (·.1)).contains t with
   | true=> simp only [hk,cond_true,reduceCtorEq] at hx
   | false=> simp only [hk,cond_false] at hx;exact ⟨rfl,hx⟩
  refine ⟨⟨fun c v hv=> ?_,fun c t ht=> ?_⟩,?_,am,?_,L.val.back ao b6,?_,?_⟩
  .obtain ⟨h1,h2⟩:=L.inv.im c v hv
   exact ⟨h1,by simp only [Gh.back,h2]⟩
  .obtain ⟨t',bl⟩:=bk c t ht
   exact L.inv.it c t' bl
  .refine ⟨h.fr.stay.trans L.fr.stay,h.fr.xad,fun c v hv=> L.fr.mono c v (h.fr.mono c v hv),fun c t ht=> ?_,fun c t ht=> ?_,fun b hb bx=> ?_,fun c hc=> (L.fr.frz c (QS hc h.fr.stay.size)).trans (h.fr.frz c hc)⟩
   .obtain ⟨h1,h2⟩:=h.fr.outer c t ht
    obtain ⟨h3,h4⟩:=ae c _ h1 (fun nm e=> by cases e) (fun u e=> by cases e)
    exact ⟨h3,h4.trans h2⟩
   .simp only [Gh.back] at ht
    split at ht
    .rename_i t' bl
     cases ht
     have:=(aw c _).1 (L.fr.outer' c _ bl)
     exact h.fr.outer' c t this.1
    .cases hx:os[‹Nat›]? with
     | none=> simp [hx] at ht
     | some x=> simp [hx] at ht
    .cases hx:ZO d ‹Tok› with
     | none=> simp [hx] at ht
     | some x=> simp [hx] at ht
    .cases ht
   .obtain ⟨h1,h2⟩:=h.fr.clean b hb bx
    have bd:∀ o s t,g.tag ⟨b,o,s⟩=some t->∃ t',t= .outer t':=fun o s t ht=> bx o s t (by rw [<-h2];exact ht)
    have a7:∀ o s t,gc.tag ⟨b,o,s⟩=some t->∃ t',t= .outer t':=by
     intro o s t ht
     obtain ⟨t0,bb⟩:=a0 _ _ ht
     obtain ⟨t1,rfl⟩:=bd o s t0 bb
     have:=(aw ⟨b,o,s⟩ (.outer t1)).2 ⟨bb,(fun nm e=> by cases e),(fun u e=> by cases e)⟩
     rw [ht] at this
     cases this
     exact ⟨_,rfl⟩
    obtain ⟨h3,h4⟩:=L.fr.clean b (QS hb h.fr.stay.size) a7
    refine ⟨h3.trans h1,fun o s=> ?_⟩
    rw [<-h2 o s]
    have h5:g'.tag ⟨b,o,s⟩=gc.tag ⟨b,o,s⟩:=h4 o s
    cases hgt:g.tag ⟨b,o,s⟩ with
    | none=>
     simp only [Gh.back,h5,a3 _ hgt]
    | some t=>
     obtain ⟨t1,rfl⟩:=bd o s t hgt
     exact (ae _ _ hgt (fun nm e=> by cases e) (fun u e=> by cases e)).1
  .intro nm cs hm j cc hj
   rcases YG st.mem m nm with ⟨k,cs',h1,h2⟩ | ⟨h1,h2⟩
   .rw [h2] at hm
    cases hm
    have hk:k < os.length:=by have:=(Q5.1 h1).1;omega
    have bm:os[k]?=some os[k]:=Q0 hk
    have b0:xs[k]?=some (xs[k]'V0):=Q0 _
    have h3:=b3 k _ _ bm b0
    rw [h1] at h3
    simp only [oP] at h3
    obtain ⟨rfl,rfl⟩:=h3
    rw [Qt] at hj
    cases ak:(xs[k]'V0)[j]? with
    | none=> simp [ak] at hj
    | some c0=>
     simp [ak] at hj
     subst hj
     obtain ⟨v0,h4,h5,h6⟩:=L.x k _ b0 j c0 ak
     have bi:g'.ad (.x k)=g.ad os[k].1:=(L.ad k (a9 k)).trans (az k _ bm)
     rw [bi] at h4 h5
     refine ⟨v0,h4,?_,h6.back ao b6⟩
     show (g'.back os d g.ad L0 g.bs).tag ((g.ad os[k].1).add j)=_
     simp only [Gh.back,h5,bm,Qe]
   .rw [h2] at hm
    obtain ⟨v0,h4,h5,h6⟩:=h.mem nm cs hm j cc hj
    have hn:YO os 0 nm=none:=Zb7 (fun i x hx e=> by
     have hi:i < m.length:=by have:=(Q5.1 hx).1;omega
     have cf:xs[i]?=some (xs[i]'V0):=Q0 _
     exact h1 i _ (b3 i x _ hx cf) e) 0
    obtain ⟨h7,h8⟩:=ae _ _ h5 (fun de e=> by cases e;exact hn) (fun u e=> by cases e)
    exact ⟨v0,h8.trans h4,h7,h6.keep am⟩
  .intro t x hx
   obtain ⟨hk,hx⟩:=bt t x hx
   rcases q2 t x hx with ⟨g1,_⟩ | ⟨t0,g1,g2,g3⟩
   .obtain ⟨g3,g4⟩:=h.ls t x g1
    have hd:Zm st ({ val:=some (r.mapTok (ZO d) (Z05 d L0) (Z7a os)),mem:=m,kill:=toks.map (·.1),ls:=ll }:Eff U) t=false:=by simp only [Zm,g3,hk,Xq]
    exact ⟨hd,g4.keep am hd (fun c v hv=> (L.inv.im c v (L.fr.mono c v hv)).1) (fun c cr=> (ae c _ cr (fun nm e=> by cases e) (fun u e=> by cases e;exact (a8 _ hd).2)).2)⟩
   .have hd:Zm st ({ val:=some (r.mapTok (ZO d) (Z05 d L0) (Z7a os)),mem:=m,kill:=toks.map (·.1),ls:=ll }:Eff U) t=false:=by simp only [Zm,g3,hk,Xq]
    have cl:Z05 d L0 t0=some t:=by unfold Z05;rw [g1];exact g2
    have bg:=ao _ _ cl
    have b5:(g'.back os d g.ad L0 g.bs).bs t=g'.bs t0:=by simp only [Gh.back,bg,Z2D g2,g1]
    have bv:∀ c,g'.tag c=some (.tok t0)->(g'.back os d g.ad L0 g.bs).tag c=some (.tok t):=by
     intro c hc
     simp only [Gh.back,hc,g2,Qe]
    refine ⟨hd,?_⟩
    rcases L.ls t0 x g1 with ⟨e1,e2⟩ | ⟨b,len,cap,e1,e2,e3,e4,e5,e6⟩
    .exact .inl ⟨b5.trans e1,e2⟩
    .refine .inr ⟨b,len,cap,b5.trans e1,e2,e3,e4,fun i y hy j c hc=> ?_,fun j a1 a2=> bv _ (e6 j a1 a2)⟩
     obtain ⟨u,e7,e8,e9,bf⟩:=e5 i y hy j c hc
     exact ⟨u,e7,e8,e9,fun hi=> bv _ (bf hi)⟩
  .intro t ht hn hd
   have cv:st.dead t=false:=(a8 t hd).1
   have hk:(toks.map (·.1)).contains t=false:=by simp only [Zm,QD] at hd;exact hd.2
   have bw:Zx st.ls ll t=none:=by
    unfold JI at hn
    simp only [hk,cond_false] at hn
    exact hn
   have b4:st.ls t=none:=by
    cases hx:st.ls t with
    | none=> rfl
    | some x=>
     exfalso
     have:∀ (l:List (Tok × LC U)),Zx st.ls l t=none->False:=by
      intro l
      induction l with
      | nil=> intro h;rw [Zx,hx] at h;cases h
      | cons y l ih=>
       obtain ⟨a,b⟩:=y
       intro h
       simp only [Zx] at h
       split at h
       .cases h
       .exact ih h
     exact this _ bw
   have bg:=h.fresh t ht b4 cv
   simp only [Gh.back,bg]
   cases hu:Z0W d t with
   | none=> rfl
   | some t'=>
    simp only
    cases hx:Zx (fun _=> none) L0 t' with
    | none=> rfl
    | some x=>
     simp only
     obtain ⟨t2,g1,g2,g3,g4⟩:=q1 t' x hx
     cases hg:g'.bs t' with
     | none=> rfl
     | some v=>
      exfalso
      have:t2=t:=by
       cases t with
       | r d' m=>
        simp only [Z0W] at hu
        split at hu
        .rename_i e
         subst e
         split at hu
         .cases hu
          simp only [ZO,Option.some.injEq] at g1
          rw [<-g1];congr 1;omega
         .cases hu
          simp only [ZO] at g1
          split at g1
          .cases g1;congr 1;omega
          .cases g1
        .cases hu
       | _=> simp [Z0W] at hu
      subst this
      rw [bw] at g4
      cases g4
def ZbG(st:FSt U)(g:Gh)(c:Addr):Bool:=
 match g.tag c with
 | some (.tok t)=> (st.ls t).isSome
 | _=> false
def Gh.lendG(g:Gh)(st:FSt U)(w:World):Gh:=
 {m:=fun c=> if ZbG st g c=true then w.cell? c else g.m c
  tag:=fun c=> if ZbG st g c=true then none else (g.tag c).map .outer
  ad:=g.ad
  bs:=fun _=> none }
theorem ZuD{c:Addr}(h:ZbG st g c=true):∃ t x,g.tag c=some (.tok t)/\st.ls t=some x:=by
 unfold ZbG at h
 split at h
 .rename_i t d
  cases hx:st.ls t with
  | none=> grind
  | some x=> grind
 .cases h
theorem ZuE{c:Addr}(h:∀ t,g.tag c≠some (.tok t)):ZbG st g c=false:=by
 cases hc:ZbG st g c with
 | false=> rfl
 | true=> obtain ⟨t,_,d,_⟩:=ZuD hc;grind
theorem ZuF(h:Inv g.m g.tag w){c:Addr}{v:Value}(hv:g.m c=some v):(g.lendG st w).m c=some v:=by
 have:ZbG st g c=false:=ZuE fun t e=> by rw [(h.im c v hv).2] at e;cases e
 simp only [Gh.lendG,this,Xs,if_false,hv]
theorem ZlK{c:Addr}{t:Tag}(ht:g.tag c=some t)(hc:ZbG st g c=false):(g.lendG st w).tag c=some (.outer t):=by
 simp only [Gh.lendG,hc,Xs,if_false,ht,Qe]
theorem ZAz(h:Rel cfg B st g a w){v:Value}{c:C U}(hr:RelC cfg g st.dead v c):RelC cfg (g.lendG st w) ZI v (c.lend st):=by
 have d:=fun c v hv=> ZuF (st:=st) (w:=w) h.inv (c:=c) (v:=v) hv
 cases c with
 | slice T l tl=> cases tl with
  | unk=> exact ⟨hr.1.mono d,trivial⟩
  | full=> exact ⟨hr.1.mono d,hr.2⟩
  | own u=> exact ⟨(hr.1.tl .unk).mono d,trivial⟩
 | mref t=>
  simp only [C.lend]
  cases hx:st.ls t with
  | none=> exact ⟨.jk _ hr.1.one,trivial⟩
  | some x=>
   obtain ⟨hd,hL⟩:=h.ls t x hx
   obtain ⟨s,hs⟩:=hr.2 hd
   refine ⟨?_,trivial⟩
   rcases hL with ⟨e1,e2,_⟩ | ⟨b,len,cap,e1,e2,e3,e4,e5,_⟩
   .rw [hs] at e1
    cases e1
    obtain ⟨T,l,f⟩:=x
    simp only at e2
    subst e2
    exact .snil T _
   .rw [hs] at e1
    cases e1
    refine .of_rows _ e2 e3 fun i y hy j c hc=> ?_
    obtain ⟨u,e7,e8,e9,aa⟩:=e5 i y hy j c hc
    refine ⟨u,?_,e8.mono d⟩
    rcases XD i x.f with hi | hi
    .grind
    .simp only [Gh.lendG,ZbG,aa hi,hx,Option.isSome_some,if_true]
     exact e7
 | jk=> exact ⟨.jk _ hr.1.one,trivial⟩
 | xp k=> exact ⟨.jk _ hr.1.one,trivial⟩
 | int k n=> exact ⟨hr.1.mono d,trivial⟩
 | bool b=> exact ⟨hr.1.mono d,trivial⟩
 | nils=> exact ⟨hr.1.mono d,trivial⟩
 | nilp=> exact ⟨hr.1.mono d,trivial⟩
 | po T o=> exact ⟨hr.1.mono d,trivial⟩
theorem ZGb(h:Rel cfg B st g a w){live:Name->Bool}{v:Value}{x x':V U}(hr:RelV cfg g st.dead live v x)(hx:x.lend st=some x'):RelV cfg (g.lendG st w) ZI (Z92 ([]:List (List (C U)))) v x':=by
 cases x with
 | c y=> cases hx;exact ZAz h (c:=y) hr
 | agg cs=>
  cases hx
  obtain ⟨vs,h1,h2,s⟩:=hr
  refine ⟨vs,h1,by simp [h2],fun j u c d hc=> ?_⟩
  rw [Qt] at hc
  cases hj:cs[j]? with
  | none=> grind
  | some c0=>
   simp [hj] at hc
   subst hc
   exact ZAz h (s j u c0 d hj)
 | fn f=> cases hx;exact hr
 | _=> cases hx
theorem ZlL {Γ:Known U} (hΓ:∀ f s,Γ f=some s->Contract P cfg f s) (h:Rel cfg B st g a w) {o:Oper} {c:Call} {gx:Operand} {f:FuncId} {args:List (V U)} {ps:List Prop} {e:Eff U}
  (ho:o.op= .call c) (hc:c.callee= .value gx) (hg:a.eval gx= .func (.func f) #[] #[])
  (hargs:c.args.toList.length=args.length/\∀ (j:Nat) u x,(c.args.toList.map a.eval)[j]?=some u->args[j]?=some x->RelV cfg g st.dead (fun nm=> (st.mem nm).isSome) u x)
  (he:Zgx Γ st f args=some (ps,e)) (hps:All ps):
  Does P o a w fun v w'=> ∃ g',Out cfg B st g e v w' g':=by
 unfold Zgx at he
 split at he
 case h_2=> cases he
 rename_i s vs hs ar
 have a1:∃ c0:C U,s.fn2 vs [] []=some (ps,.c c0,[],[])/\e={ val:=some (.c c0) }/\∀ (g1 g2:Gh) (d1 d2:Tok->Bool) v,RelC cfg g1 d1 v c0->RelC cfg g2 d2 v c0:=by
  split at he
  .rename_i k n ah
   simp only [oP] at he
   obtain ⟨rfl,rfl⟩:=he
   exact ⟨_,ah,rfl,fun g1 g2 d1 d2 v hr=> by have:=hr.1;cases this;exact ⟨.int _ _,trivial⟩⟩
  .rename_i b ah
   simp only [oP] at he
   obtain ⟨rfl,rfl⟩:=he
   exact ⟨_,ah,rfl,fun g1 g2 d1 d2 v hr=> by have:=hr.1;cases this;exact ⟨.bool _,trivial⟩⟩
  .cases he
 obtain ⟨c0,ah,rfl,a6⟩:=a1
 obtain ⟨⟨fn,ay,be,az⟩,aq⟩:=hΓ f s hs
 have a7:vs.length=args.length:=mapM_lend_len ar
 have ai:Entry cfg w (g.lendG st w) (c.args.toList.map a.eval) vs [] []:=by
  refine ⟨⟨fun c v hv=> ?_,fun c t d=> ?_⟩,fun c t d=> ?_,by grind,fun j v x hv hx=> ?_,fun k cs hk=> by simp at hk,fun t d=> rfl,fun t x hx=> by cases hx⟩
  .simp only [Gh.lendG] at hv ⊢
   split at hv
   .grind
   .rename_i hl
    obtain ⟨h1,h2⟩:=h.inv.im c v hv
    grind
  .simp only [Gh.lendG] at d
   split at d
   .cases d
   .cases hgt:g.tag c with
    | none=> grind
    | some t0=> exact h.inv.it c t0 hgt
  .simp only [Gh.lendG] at d
   split at d
   .cases d
   .cases hgt:g.tag c with
    | none=> grind
    | some t0=> grind
  .obtain ⟨x0,h1,h2⟩:=mapM_lend ar j x hx
   exact ZGb h (hargs.2 j v x0 hv h1) h2
 have al:=aq vs [] [] _ _ [] [] ah hps (QQ _) w (g.lendG st w) _ ai
 refine .inr (.inr ⟨f,(c.args.toList.map a.eval).toArray,w,?_,Calls.mono al ?_⟩)
 .have hb:fn.body.isNone=false:=by cases hfb:fn.body <;> simp_all
  simp only [execOp,ho,resolve,hc,hg,Deferred.ofValue,Sem.run_bind,Sem.run_pure,Result.andThen_ok,invoke,callFunc,run_program,ay]
  simp [az,hb]
  apply Xh
  simp
 .rintro e' w' ⟨v,g',rfl,L⟩
  refine ⟨v,rfl,g,?_⟩
  have a8:∀ c t,g.tag c=some t->ZbG st g c=false->w'.cell? c=w.cell? c:=fun c t d hl=> (L.fr.outer c _ (ZlK (w:=w) d hl)).2
  have a0:∀ c v,w.cell? c=some v->ZbG st g c=true->w'.cell? c=some v:=by
   intro c v hv hl
   have:(g.lendG st w).m c=some v:=by simp only [Gh.lendG,hl,if_true,hv]
   exact (L.inv.im c v (L.fr.mono c v this)).1
  have au:∀ c v,g.m c=some v->w'.cell? c=some v:=fun c v hv=> (L.inv.im c v (L.fr.mono c v (ZuF h.inv hv))).1
  have aj:∀ c t,g.tag c=some t->w'.cell? c=w.cell? c:=by
   intro c t d
   cases hl:ZbG st g c with
   | false=> grind
   | true=>
    obtain ⟨_,v,hv⟩:=h.inv.it c t d
    grind
  have af:Zm st ({ val:=some (.c c0) }:Eff U)=st.dead:=by funext t;simp [Zm]
  refine ⟨⟨fun c v hv=> ⟨au c v hv,(h.inv.im c v hv).2⟩,fun c t d=> ?_⟩,?_,by rw [af];exact .refl _ _ _,?_,?_,?_,?_⟩
  .obtain ⟨h1,v,h2⟩:=h.inv.it c t d
   exact ⟨(L.fr.frz c (h.inv.lt d)).trans h1,v,(aj c t d).trans h2⟩
  .refine ⟨h.fr.stay.trans L.fr.stay,h.fr.xad,h.fr.mono,fun c t d=> ?_,h.fr.outer',fun b hb ax=> ?_,fun c hc=> (L.fr.frz c (QS hc h.fr.stay.size)).trans (h.fr.frz c hc)⟩
   .obtain ⟨h1,h2⟩:=h.fr.outer c t d
    grind
   .obtain ⟨h1,h2⟩:=h.fr.clean b hb ax
    refine ⟨(L.fr.clean b (QS hb h.fr.stay.size) fun o s t d=> ?_).1.trans h1,h2⟩
    simp only [Gh.lendG] at d
    split at d
    .cases d
    .cases hgt:g.tag ⟨b,o,s⟩ with
     | none=> grind
     | some t0=> grind
  .rw [af]
   intro nm cs hm j cc hj
   obtain ⟨v0,h4,h5,h6⟩:=h.mem nm cs hm j cc hj
   grind
  .rw [af]
   exact a6 _ _ _ _ _ L.val
  .intro t x hx
   rw [af]
   have hx:st.ls t=some x:=by simpa [JI,Zx] using hx
   obtain ⟨h1,h2⟩:=h.ls t x hx
   exact ⟨h1,h2.keep (.refl g st.dead (fun _=> true)) h1 au fun c a5=> aj c _ a5⟩
  .intro t h0 h7 h8
   rw [af] at h8
   exact h.fresh t h0 (by trivial) h8
where
 mapM_lend_len {xs:List (V U)} {vs:List (V U)} (hm:xs.mapM (V.lend st)=some vs):vs.length=xs.length:=by
  induction xs generalizing vs with
  | nil=> grind
  | cons y xs ih=>
   rw [X4] at hm
   cases h1:V.lend st y with
   | none=> grind
   | some v=>
    cases h2:xs.mapM (V.lend st) with
    | none=> grind
    | some r=>
     simp [h1,h2] at hm
     grind
 mapM_lend {xs:List (V U)} {vs:List (V U)} (hm:xs.mapM (V.lend st)=some vs) (j:Nat) (x:V U) (hx:vs[j]?=some x):∃ x0,xs[j]?=some x0/\x0.lend st=some x:=by
  induction xs generalizing vs j with
  | nil=> grind
  | cons y xs ih=>
   rw [X4] at hm
   cases h1:V.lend st y with
   | none=> grind
   | some v=>
    cases h2:xs.mapM (V.lend st) with
    | none=> simp [h1,h2] at hm
    | some r=>
     grind
theorem ZjS{α β:Type}{f:α->Option β}:∀ {xs:List α} {ys:List β},xs.mapM f=some ys->ys.length=xs.length/\∀ (j:Nat) y,ys[j]?=some y->∃ x,xs[j]?=some x/\f x=some y
 | [],ys,h=> by grind
 | x ::xs,ys,h=> by
  rw [X4] at h
  cases h1:f x with
  | none=> simp [h1] at h
  | some v=>
   cases h2:xs.mapM f with
   | none=> grind
   | some r=>
    simp [h1,h2] at h
    subst h
    obtain ⟨s,d⟩:=ZjS h2
    grind
theorem ZvI{g2:Gh}{dead:Tok->Bool}(hm:g2.m=g.m){v:Value}{c:C U}(h:RelC cfg g dead v c):RelC cfg g2 ZI v c.bare:=by
 cases c with
 | slice T l tl=> exact ⟨by rw [hm];exact h.1.tl _,trivial⟩
 | mref t=> exact ⟨.jk _ h.1.one,trivial⟩
 | xp k=> exact ⟨.jk _ h.1.one,trivial⟩
 | _=> exact ⟨by rw [hm];exact h.1,trivial⟩
theorem ZGy{g2:Gh}{dead:Tok->Bool}{live l2:Name->Bool}(hm:g2.m=g.m){v:Value}{x x':V U}(h:RelV cfg g dead live v x)(hx:x.bare=some x'):RelV cfg g2 ZI l2 v x':=by
 cases x with
 | c y=> cases hx;exact ZvI hm (c:=y) h
 | agg cs=>
  cases hx
  obtain ⟨vs,h1,h2,s⟩:=h
  refine ⟨vs,h1,by simp [h2],fun j u c d hc=> ?_⟩
  rw [Qt] at hc
  cases hj:cs[j]? with
  | none=> grind
  | some c0=>
   simp [hj] at hc
   subst hc
   exact ZvI hm (s j u c0 d hj)
 | fn f=> cases hx;exact h
 | _=> cases hx
theorem RelC.plain{g1 g2:Gh}{d1 d2:Tok->Bool}{v:Value}{c:C U}(hm:g2.m=g1.m)(hc:c.plain=true)(h:RelC cfg g1 d1 v c):RelC cfg g2 d2 v c:=by
 refine ⟨by rw [hm];exact h.1,?_⟩
 cases c with
 | slice T l tl=> cases tl <;> first | trivial | cases hc
 | mref t=> cases hc
 | xp k=> cases hc
 | _=> trivial
theorem ZkB{ax:Nat->Addr}{xs ys:List (V U)}{os:List (Name × List (C U))}(hb:Z3H st xs=some (ys,os))(hax:∀ (k:Nat) x,os[k]?=some x->ax k=g.ad x.1):
  os.length<=1/\ys.length=xs.length/\(∀ (k:Nat) x,os[k]?=some x->∃ cs,st.mem x.1=some cs/\x.2=cs.map C.bare)/\
  ∀ (j:Nat) v x y,xs[j]?=some x->ys[j]?=some y->RelV cfg g st.dead (fun nm=> (st.mem nm).isSome) v x->RelV cfg (g.callee (YO os 0) [] ax) ZI (Z92 (os.map (·.2))) v y:=by
 unfold Z3H at hb
 split at hb
 .rename_i nm
  split at hb
  .rename_i cs s
   cases hb
   refine ⟨Qf _,rfl,fun k x d=> ?_,fun j v x y d h hr=> ?_⟩
   .have:k=0:=by have:=(Q5.1 d).1;simp at this;exact this
    subst this
    simp at d
    subst d
    exact ⟨cs,s,rfl⟩
   .have:j=0:=by have:=(Q5.1 d).1;simp at this;exact this
    subst this
    simp at d h
    subst d h
    have e:ax 0=g.ad nm:=hax 0 _ rfl
    refine ⟨rfl,?_⟩
    have h2:v= .pointer (some ((g.ad nm).add 0)):=hr.2
    rw [h2,<-e]
    try rfl
  .cases hb
 .split at hb
  .rename_i vs u
   cases hb
   obtain ⟨h1,h2⟩:=ZjS u
   refine ⟨QQ _,h1,fun k x d=> by simp at d,fun j v x y d h hr=> ?_⟩
   obtain ⟨x0,h3,h4⟩:=h2 j y h
   rw [d] at h3
   cases h3
   exact ZGy (g:=g) (g2:=g.callee (YO [] 0) [] ax) rfl hr h4
  .cases hb
theorem Zqo {Γ:Known U} (hΓ:∀ f s,Γ f=some s->Contract P cfg f s) (h:Rel cfg B st g a w) {o:Oper} {c:Call} {gx:Operand} {f:FuncId} {args:List (V U)} {ps:List Prop} {e:Eff U} {d:Nat}
  (ho:o.op= .call c) (hc:c.callee= .value gx) (hg:a.eval gx= .func (.func f) #[] #[])
  (hargs:c.args.toList.length=args.length/\∀ (j:Nat) u x,(c.args.toList.map a.eval)[j]?=some u->args[j]?=some x->RelV cfg g st.dead (fun nm=> (st.mem nm).isSome) u x)
  (he:Zrd Γ st d f args=some (ps,e)) (hps:All ps):
  Does P o a w fun v w'=> ∃ g',Out cfg B st g e v w' g':=by
 unfold Zrd at he
 split at he
 case h_2=> cases he
 rename_i s vs os hs b2
 split at he
 case h_2=> cases he
 rename_i cf k xs bo
 split at he
 case isFalse=> cases he
 rename_i bf
 simp only [Q4,Qy,QF,Nat.beq_eq] at bf
 obtain ⟨⟨⟨hk,b4⟩,bz⟩,hn⟩:=bf
 subst hk
 simp only [oP] at he
 obtain ⟨rfl,rfl⟩:=he
 obtain ⟨⟨fn,bv,cg,bn⟩,bc⟩:=hΓ f s hs
 let ax:Nat->Addr:=fun k=> ((os[k]?).map fun x=> g.ad x.1).getD ⟨0,0,none⟩
 have a7:∀ (k:Nat) x,os[k]?=some x->ax k=g.ad x.1:=fun k x hx=> by simp [ax,hx]
 obtain ⟨ca,be,bd,am⟩:=ZkB (cfg:=cfg) b2 a7
 have bm:ZkK os:=fun i j x y hx hy _=> by have:=(Q5.1 hx).1;have:=(Q5.1 hy).1;omega
 let gc:=g.callee (YO os 0) [] ax
 let nms:=os.map (·.1)++[Name.loc d]
 have ar:∀ c t,gc.tag c=some (.outer t)↔(g.tag c=some t/\(∀ nm,t= .obj nm->YO os 0 nm=none)/\(∀ u,t= .tok u->Ym [] u=none)):=fun c t=> ZeZ
 have ay:Entry cfg w gc (c.args.toList.map a.eval) vs (os.map (·.2)) []:=by
  refine ⟨⟨fun c v hv=> ?_,fun c t ht=> ?_⟩,fun c t ht=> ?_,by rw [Xj,hargs.1,be],fun j v x hv hx=> ?_,fun k cs hk j c hj=> ?_,fun t ht=> (by simp only [gc,Gh.callee,ht,if_true]),fun t x hx=> by cases hx⟩
  .obtain ⟨h1,h2⟩:=h.inv.im c v hv
   exact ⟨h1,Z5z h2⟩
  .obtain ⟨t0,az⟩:=Z5y ht
   exact h.inv.it c t0 az
  .simp only [gc,Gh.callee] at ht
   split at ht
   .split at ht
    .cases ht;exact .inr (.inl ⟨_,rfl⟩)
    .cases ht;exact .inl ⟨_,rfl⟩
   .split at ht
    .cases ht;exact .inr (.inr ⟨_,rfl⟩)
    .cases ht;exact .inl ⟨_,rfl⟩
   .cases ht;exact .inl ⟨_,rfl⟩
   .cases ht
  .have hj:j < args.length:=by have:=(Q5.1 hx).1;omega
   exact am j v _ x (Q0 hj) hx (hargs.2 j v _ hv (Q0 hj))
  .rw [Qt] at hk
   cases hx:os[k]? with
   | none=> simp [hx] at hk
   | some x=>
    simp [hx] at hk
    subst hk
    obtain ⟨a6,h1,h2⟩:=bd k x hx
    rw [h2,Qt] at hj
    cases hj0:a6[j]? with
    | none=> simp [hj0] at hj
    | some c0=>
     simp [hj0] at hj
     subst hj
     obtain ⟨v,h4,h5,h6⟩:=h.mem x.1 a6 h1 j _ hj0
     have ai:gc.ad (.x k)=g.ad x.1:=a7 k x hx
     have bp:YO os 0 x.1=some k:=by have:=Zag (k:=0) bm hx rfl;simpa using this
     rw [ai]
     exact ⟨v,h4,by simp only [gc,Gh.callee,h5,bp],ZvI (g:=g) (g2:=gc) rfl h6⟩
 have a3:=bc vs (os.map (·.2)) [] _ _ xs [] bo hps (by rw [Xj];omega) w gc _ ay
 refine .inr (.inr ⟨f,(c.args.toList.map a.eval).toArray,w,?_,Calls.mono a3 ?_⟩)
 .have hb:fn.body.isNone=false:=by cases hfb:fn.body <;> simp_all
  simp only [execOp,ho,resolve,hc,hg,Deferred.ofValue,Sem.run_bind,Sem.run_pure,Result.andThen_ok,invoke,callFunc,run_program,bv]
  simp [bn,hb]
  apply Xh
  simp
 .rintro e' w' ⟨v,g',rfl,L⟩
  let g1:Gh:={ m:=g'.m,tag:=fun c=> (match g'.tag c with | some (.outer t)=> some t | some (.obj (.x k))=> (nms[k]?).map .obj | _=> none),ad:=fun nm=> if nm= .loc d then g'.ad (.x os.length) else g.ad nm,bs:=g.bs }
  have b8:gc.m=g.m:=rfl
  have ah:∀ c t,g.tag c=some t->(∀ nm,t= .obj nm->YO os 0 nm=none)->g1.tag c=some t/\w'.cell? c=w.cell? c:=by
   intro c t h1 h2
   have:=L.fr.outer c t ((ar c t).2 ⟨h1,h2,fun u _=> rfl⟩)
   exact ⟨by simp only [g1,this.1],this.2⟩
  have b1:∀ c t,g1.tag c=some t->∃ t',g'.tag c=some t':=by
   intro c t ht
   simp only [g1] at ht
   cases hgt:g'.tag c with
   | none=> simp [hgt] at ht
   | some t'=> exact ⟨t',rfl⟩
  have ai:∀ nm,nm≠.loc d->g1.ad nm=g.ad nm:=fun nm a2=> by simp only [g1,if_neg a2]
  have bw:∀ (k:Nat) x,os[k]?=some x->g'.ad (.x k)=g.ad x.1:=fun k x hx=> by
   have hk:=(Q5.1 hx).1
   exact (L.ad k (fun e=> by cases e;omega)).trans (a7 k x hx)
  have br:∀ (k:Nat) x,os[k]?=some x->x.1≠.loc d:=fun k x hx e=> by
   obtain ⟨a6,h1,_⟩:=bd k x hx
   rw [e,hn] at h1
   cases h1
  have hz:∀ (k:Nat) nm cs,(nms.zip xs)[k]?=some (nm,cs)->nms[k]?=some nm/\xs[k]?=some cs:=fun k nm cs hk=> by
   rw [XL] at hk
   exact hk
  have aw:Zm st ({ val:=some (.ptr (.loc d) 0),mem:=nms.zip xs }:Eff U)=st.dead:=by funext t;simp [Zm]
  have ak:Keeps g g1 st.dead st.dead (fun nm=> (st.mem nm).isSome) (ZW st ({ val:=some (.ptr (.loc d) 0),mem:=nms.zip xs }:Eff U)):=by
   refine ⟨fun c v hv=> L.fr.mono c v hv,fun c t hd ht=> (ah c _ ht fun nm e=> by cases e).1,fun t ht=> ht,fun nm hl=> ⟨?_,ai nm fun e=> ?_⟩,fun t v _ hv=> hv,fun k=> ai _ (by simp)⟩
   .simp only [ZW]
    rcases YG st.mem (nms.zip xs) nm with ⟨k,cs,_,h2⟩ | ⟨_,h2⟩
    .rw [h2];try rfl
    .rw [h2];exact hl
   .subst e
    simp [hn] at hl
  have a9:(nms.zip xs)[os.length]?=some (.loc d,xs[os.length]'V0):=by
   rw [XL]
   exact ⟨by simp [nms],Q0 _⟩
  refine ⟨v,rfl,g1,⟨fun c v hv=> ?_,fun c t ht=> ?_⟩,?_,by rw [aw];exact ak,?_,?_,?_,?_⟩
  .obtain ⟨h1,h2⟩:=L.inv.im c v hv
   exact ⟨h1,by simp only [g1,h2]⟩
  .obtain ⟨t',a5⟩:=b1 c t ht
   exact L.inv.it c t' a5
  .refine ⟨h.fr.stay.trans L.fr.stay,fun k=> (ai _ (by simp)).trans (h.fr.xad k),fun c v hv=> L.fr.mono c v (h.fr.mono c v hv),fun c t ht=> ?_,fun c t ht=> ?_,fun b hb bg=> ?_,fun c hc=> (L.fr.frz c (QS hc h.fr.stay.size)).trans (h.fr.frz c hc)⟩
   .obtain ⟨h1,h2⟩:=h.fr.outer c t ht
    obtain ⟨h3,h4⟩:=ah c _ h1 (fun nm e=> by cases e)
    exact ⟨h3,h4.trans h2⟩
   .simp only [g1] at ht
    split at ht
    .rename_i t' a5
     cases ht
     exact h.fr.outer' c t ((ar c _).1 (L.fr.outer' c _ a5)).1
    .cases hx:nms[‹Nat›]? with
     | none=> simp [hx] at ht
     | some x=> simp [hx] at ht
    .cases ht
   .obtain ⟨h1,h2⟩:=h.fr.clean b hb bg
    have am:∀ o s t,g.tag ⟨b,o,s⟩=some t->∃ t',t= .outer t':=fun o s t ht=> bg o s t (by rw [<-h2];exact ht)
    have au:∀ o s t,gc.tag ⟨b,o,s⟩=some t->∃ t',t= .outer t':=by
     intro o s t ht
     obtain ⟨t0,az⟩:=Z5y ht
     obtain ⟨t1,rfl⟩:=am o s t0 az
     have:=(ar ⟨b,o,s⟩ (.outer t1)).2 ⟨az,(fun nm e=> by cases e),(fun u e=> by cases e)⟩
     rw [ht] at this
     cases this
     exact ⟨_,rfl⟩
    obtain ⟨h3,h4⟩:=L.fr.clean b (QS hb h.fr.stay.size) au
    refine ⟨h3.trans h1,fun o s=> ?_⟩
    rw [<-h2 o s]
    have h5:g'.tag ⟨b,o,s⟩=gc.tag ⟨b,o,s⟩:=h4 o s
    cases hgt:g.tag ⟨b,o,s⟩ with
    | none=>
     have h6:gc.tag ⟨b,o,s⟩=none:=Z5z hgt
     simp only [g1,h5,h6]
    | some t=>
     obtain ⟨t1,rfl⟩:=am o s t hgt
     exact (ah _ _ hgt (fun nm e=> by cases e)).1
  .rw [aw]
   intro nm a0 hm j cc hj
   rcases YG st.mem (nms.zip xs) nm with ⟨k,cs,h1,h2⟩ | ⟨h1,h2⟩
   .rw [h2] at hm
    cases hm
    obtain ⟨aj,bh⟩:=hz k nm a0 h1
    obtain ⟨v0,h4,h5,h6⟩:=L.x k a0 bh j cc hj
    have h7:RelC cfg g1 st.dead v0 cc:=RelC.plain (g1:=g') (g2:=g1) rfl (bz a0 (QK bh) cc (QK hj)) h6
    have h8:g1.ad nm=g'.ad (.x k):=by
     rcases XD k os.length with hk | hk
     .have a8:os[k]?=some os[k]:=Q0 hk
      have e:nm=os[k].1:=by simp only [nms] at aj;rw [QG (by simpa using hk),List.getElem?_map,a8] at aj;simpa using aj.symm
      rw [e,ai _ (br k _ a8),bw k _ a8]
     .have bq:k=os.length:=by have:=(Q5.1 aj).1;simp [nms] at this;omega
      subst bq
      have e:nm= .loc d:=by simp [nms] at aj;exact aj.symm
      rw [e]
      simp only [g1,if_true]
    rw [h8]
    exact ⟨v0,h4,by simp only [g1,h5,aj,Qe],h7⟩
   .rw [h2] at hm
    obtain ⟨v0,h4,h5,h6⟩:=h.mem nm a0 hm j cc hj
    have b0:YO os 0 nm=none:=Zb7 (fun i x hx e=> by
     have hi:=(Q5.1 hx).1
     have h9:(nms.zip xs)[i]?=some (nm,xs[i]'V0):=by
      rw [XL]
      refine ⟨?_,Q0 _⟩
      simp only [nms]
      rw [QG (by simpa using hi),List.getElem?_map,hx,<-e]
      try rfl
     exact h1 i _ h9 rfl) 0
    obtain ⟨h7,h8⟩:=ah _ _ h5 (fun cb e=> by cases e;exact b0)
    have a2:nm≠.loc d:=fun e=> by subst e;rw [hn] at hm;cases hm
    rw [ai nm a2]
    exact ⟨v0,h8.trans h4,h7,h6.keep ak⟩
  .have hv:v= .pointer (some ((g'.ad (.x os.length)).add 0)):=L.val.2
   refine ⟨?_,?_⟩
   .simp only [ZW]
    rcases YG st.mem (nms.zip xs) (.loc d) with ⟨k,cs,_,h2⟩ | ⟨h1,_⟩
    .rw [h2];try rfl
    .exact absurd rfl (h1 _ _ a9)
   .rw [hv]
    simp only [g1,if_true]
  .intro t x hx
   rw [aw]
   have hx:st.ls t=some x:=by simpa [JI,Zx] using hx
   obtain ⟨h1,h2⟩:=h.ls t x hx
   exact ⟨h1,h2.keep ak h1 (fun c v hv=> (L.inv.im c v (L.fr.mono c v hv)).1) fun c bx=> (ah c _ bx fun nm e=> by cases e).2⟩
  .intro t h0 h7 h8
   rw [aw] at h8
   exact h.fresh t h0 (by trivial) h8
end Go.AM
