import Derived.Test.YtcljdbpmjdgooaaEmF
set_option linter.unusedSimpArgs false
set_option linter.unusedVariables false
namespace Go.AM
variable {U:Uni} {P:Program} {cfg:Cfg U} {B:Base} {st:FSt U} {g:Gh} {a:Act} {w:World}
theorem RelL.sim{vs:List Value}{cs:List (C U)}{dead:Tok->Bool}(h:RelL cfg g dead vs cs){j:Nat}{v:Value}{c:C U}(hv:vs[j]?=some v)(hc:cs[j]?=some c):SimC cfg g.m v c:=(h.2 j v c hv hc).1
theorem Z5u (ok:CfgOk P cfg) {T:U.Ty} {cs:List (C U)} {x:U.El T} {vs:List Value} {m:Addr->Option Value} (hd:cfg.dec T cs=some x) (hl:vs.length=cs.length)
  (h:∀ (j:Nat) v c,vs[j]?=some v->cs[j]?=some c->SimC cfg m v c):
  vs.length=cfg.sz T/\∀ (j:Nat) c,(cfg.enc T x)[j]?=some c->∃ v,vs[j]?=some v/\SimC cfg m v c:=by
 obtain ⟨h1,h2⟩:=ok.dec_ok T cs x hd
 have h3:=ok.enc_len T x
 refine ⟨by omega,fun j c hc=> ?_⟩
 have hj:j < (cfg.enc T x).length:=(Q1.1 hc).1
 have hv:vs[j]?=some (vs[j]'(by omega)):=Q0 _
 have hcs:cs[j]?=some (cs[j]'(by omega)):=Q0 _
 exact ⟨_,hv,(h j _ _ hv hcs).wk (h2 j _ _ hcs hc)⟩
theorem Z3q (h:Rel cfg B st g a w) {w1:World} (hw:SameHeap w w1) {T:U.Ty} {l:List (U.El T)} {arr:Array Value} (e:TypeId) {cap:Nat} {tl:Tail} {d:Nat} {kl:List Tok}
  (hcap:l.length<=cap) (hsz:arr.size=cap*cfg.sz T) (htl:tl= .own (.r d 0)\/(tl= .full/\l.length=cap)) (henc:∀ x,(cfg.enc T x).length=cfg.sz T)
  (hrows:∀ i x,l[i]?=some x->∀ j c,(cfg.enc T x)[j]?=some c->∃ v,arr[i*cfg.sz T+j]?=some v/\SimC cfg g.m v c):
  ∃ g',Out cfg B st g { val:=some (.c (.slice T l tl)),kill:=kl } (.slice (some ⟨w.heap.size,0,none⟩) l.length cap) (w1.alloc (.cells arr e)) g':=by
 let im:Nat->Bool:=fun i=> decide (i < l.length*cfg.sz T)
 let tg:Nat->Option Tag:=fun i=> if l.length*cfg.sz T<=i/\i < arr.size then some (.tok (.r d 0)) else none
 obtain ⟨h1,h2,h3,h4,h5⟩:=Zba h hw arr e im tg g.ad (by
  grind) (fun _ _=> rfl) (fun _=> rfl)
 refine ⟨g.new w.heap.size arr im tg g.ad,h1,h2,?_,?_,?_,h.ls_keep rfl (h3 kl.contains _ (fun nm hs=> hs)) (fun c v hv=> h5 _ _ (h.inv.im c v hv).1) (fun c t _ ht=> by obtain ⟨_,v,hv⟩:=h.inv.it c _ ht;grind) (fun _ _ h=> h) (Z7n h),h.fresh_keep rfl (fun _=> rfl)⟩
 .exact h3 kl.contains _ (fun nm hs=> hs)
 .have k:=h3 kl.contains (fun nm=> (st.mem nm).isSome) (fun _ hs=> hs)
  intro nm cs hm j c hj
  refine Z7o h k h5 ?_ nm cs hm j c hj
  intro c t ht
  have:=h.inv.lt ht
  simp only [Gh.new]
  grind
 .have k:=h3 kl.contains (fun nm=> (st.mem nm).isSome) (fun _ hs=> hs)
  refine ⟨.of_rows tl rfl hcap ?_,?_⟩
  .intro i x hx j c hc
   obtain ⟨v,h6,h7⟩:=hrows i x hx j c hc
   refine ⟨v,?_,h7.mono k.m⟩
   have hi:i < l.length:=(Q1.1 hx).1
   have hj:j < cfg.sz T:=by have:=(Q1.1 hc).1;rw [henc] at this;exact this
   have hlt:i*cfg.sz T+j < l.length*cfg.sz T:=by
    have:(i+1)*cfg.sz T<=l.length*cfg.sz T:=Q8 _ hi
    rw [Qr] at this;omega
   rw [Addr.add_lit,Qq]
   simp only [Gh.new,and_self,if_true,im,hlt,decide_true]
   exact h6
  .rcases htl with rfl | ⟨rfl,hfull⟩
   .intro _ _ b len cap' hv j hj1 hj2
    simp only [Value.slice.injEq,Option.some.injEq] at hv
    obtain ⟨rfl,rfl,rfl⟩:=hv
    rw [Addr.add_lit,Qq]
    simp only [Gh.new,and_self,if_true,tg]
    grind
   .intro b len cap' hv
    grind
theorem Z6b(ok:CfgOk P cfg){T:U.Ty}:∀ (parts:List (Nat × Value)) (ps:List (Nat × V U)) (i:Nat) (l:List (U.El T)) (vs:Array Value),YE cfg T i ps=some l->parts.length=ps.length->
  (∀ (j:Nat) x y,parts[j]?=some x->ps[j]?=some y->x.1=y.1/\RelV cfg g st.dead (fun nm=> (st.mem nm).isSome) x.2 y.2)->(i+parts.length)*cfg.sz T<=vs.size->
  l.length=ps.length/\∃ vs',Instr.fill (fun k=> some (k*cfg.sz T,cfg.sz T)) vs parts=some vs'/\vs'.size=vs.size/\(∀ q,q < i*cfg.sz T->vs'[q]?=vs[q]?)/\
   ∀ r x,l[r]?=some x->∀ j c,(cfg.enc T x)[j]?=some c->∃ v,vs'[(i+r)*cfg.sz T+j]?=some v/\SimC cfg g.m v c
 | [],[],i,l,vs,he,_,_,_=> by
  simp only [YE,Option.some.injEq] at he
  subst he
  exact ⟨rfl,vs,rfl,rfl,fun _ _=> rfl,fun r x hx=> by simp at hx⟩
 | (k,v) ::parts,(k',y) ::ps,i,l,vs,he,hl,hr,hsz=> by
  obtain ⟨hk,hv⟩:=hr 0 _ _ rfl rfl
  simp only at hk hv
  subst hk
  simp only [YE] at he
  split at he
  .rename_i hki
   subst hki
   split at he
   .rename_i cs hcs
    split at he
    .rename_i x hx
     cases hrec:YE cfg T (k+1) ps with
     | none=> grind
     | some l'=>
      simp only [hrec,Q5,Option.some.injEq] at he
      subst he
      have hrel:=hv.cells hcs
      obtain ⟨hvl,hvc⟩:=Z5u ok hx hrel.1 (fun j v c h1 h2=> hrel.sim h1 h2)
      have hl:parts.length=ps.length:=by simpa using hl
      have hsz:(k+(parts.length+1))*cfg.sz T<=vs.size:=hsz
      have hle:(k+1)*cfg.sz T<=(k+(parts.length+1))*cfg.sz T:=Q8 _ (by omega)
      have hk1:(k+1)*cfg.sz T=k*cfg.sz T+cfg.sz T:=by rw [Qr];omega
      have hvs:v.cells.size=cfg.sz T:=by simpa using hvl
      let vs1:Array Value:=v.cells.zipIdx.foldl (fun cs (c,j)=> cs.setIfInBounds (k*cfg.sz T+j) c) vs
      have hvs1:vs1.toList=vs.toList.take (k*cfg.sz T)++v.cells.toList++vs.toList.drop (k*cfg.sz T+v.cells.toList.length):=by
       show (v.cells.zipIdx.foldl (fun cs (c,j)=> cs.setIfInBounds (k*cfg.sz T+j) c) vs).toList=_
       rw [<-Array.foldl_toList,Array.toList_zipIdx]
       have:=Z90 (k*cfg.sz T) v.cells.toList 0 vs (by simp;omega)
       simpa using this
      have hs1:vs1.size=vs.size:=by
       have:=congrArg List.length hvs1
       simp at this
       omega
      obtain ⟨h1,vs',h2,h3,h4,h5⟩:=Z6b ok parts ps (k+1) l' vs1 hrec hl
       (fun j x y hx hy=> hr (j+1) x y (by simpa using hx) (by simpa using hy)) (by grind)
      have get1:∀ q:Nat,vs1[q]?=vs1.toList[q]?:=fun q=> (Array.getElem?_toList ..).symm
      refine ⟨by simp [h1],vs',?_,by rw [h3,hs1],?_,?_⟩
      .simp only [Instr.fill]
       grind
      .intro q hq
       rw [h4 q (by omega),get1,hvs1,QM,Qf (by simp;omega),QL hq]
       simp
      .intro r x' hx' j c hc
       cases r with
       | zero=>
        simp only [XR,Option.some.injEq] at hx'
        subst hx'
        obtain ⟨u,h6,h7⟩:=hvc j c hc
        refine ⟨u,?_,h7⟩
        have hj:j < cfg.sz T:=by have:=(Q1.1 hc).1;rw [ok.enc_len] at this;exact this
        rw [Xo,h4 _ (by omega),get1,hvs1,QM,Qe (by simp;omega)]
        have e:k*cfg.sz T+j - (vs.toList.take (k*cfg.sz T)).length=j:=by simp;omega
        grind
       | succ r=>
        grind
    .cases he
   .cases he
  .cases he
theorem Z6d (ok:CfgOk P cfg) (h:Rel cfg B st g a w) {o:Oper} {t:TypeId} {n:Nat} {parts:Array (Nat × Operand)} {T:U.Ty} {ps:List (Nat × V U)} {l:List (U.El T)} (ho:o.op= .buildSlice t n parts)
  (hT:cfg.slT t=some T) (hl:parts.size=ps.length) (hn:ps.length=n) (hsmall:n*cfg.sz T<=16777216)
  (hr:∀ (j:Nat) x y,parts[j]?=some x->ps[j]?=some y->x.1=y.1/\RelV cfg g st.dead (fun nm=> (st.mem nm).isSome) (a.eval x.2) y.2) (he:YE cfg T 0 ps=some l):
  Does P o a w fun v w'=> ∃ g',Out cfg B st g { val:=some (.c (.slice T l .full)) } v w' g':=by
 obtain ⟨hE,hU⟩:=Y8 ok hT
 obtain ⟨i,ag,zs,z,h1,h2,h3,h4,h5,h6⟩:=ok.el T
 obtain ⟨z',hz,hZ⟩:=Jw ok h5 w
 have hzz:z'=z:=by
  simp [zeroValue,typeInfo,h1,h4] at hz;exact hz.symm
 subst hzz
 have hzl:z'.cells.size=cfg.sz T:=by have:=(YH (g:=g) (st:=st) (cfg:=cfg) hZ).1;simp at this;omega
 let vs0:Array Value:=if n*cfg.sz T=0 then (Array.range (n*cfg.sz T)).map ((#[]:Array Value)[· % 0]!) else (Array.range (n*cfg.sz T)).map (z'.cells[· % z'.cells.size]!)
 have hvs0:vs0.size=n*cfg.sz T:=by simp only [vs0];split <;> simp
 obtain ⟨hl2,vs',h7,h8,_,h9⟩:=Z6b (g:=g) (st:=st) ok (parts.toList.map fun x=> (x.1,a.eval x.2)) ps 0 l vs0 he (by simpa using hl) (by
  grind) (by grind)
 have hlen:l.length=n:=by omega
 obtain ⟨g',hout⟩:=Z3q (T:=T) (l:=l) (arr:=vs') (d:=0) (kl:=[]) h (SameHeap.refl w) (P.elem t) (cap:=n) (tl:= .full) (by omega) (by rw [h8,hvs0]) (.inr ⟨rfl,hlen⟩) (ok.enc_len T)
  (fun i x hx j c hc=> by grind)
 rw [hlen] at hout
 refine .inl ⟨_,_,?_,g',hout⟩
 have hsz:=Yd ok T w
 rw [<-hE] at hsz hz
 simp only [execOp,ho]
 apply Z41
 simp only [Instr.buildSlice,Sem.run_bind,run_underlying hU,Result.andThen_ok,hsz]
 rw [if_neg (by omega)]
 by_cases h0:n*cfg.sz T=0
 .simp only [h0,if_true]
  simp only [vs0,h0,if_true] at h7
  have h7':Instr.fill (fun i=> some (i*cfg.sz T,cfg.sz T)) ((Array.range 0).map ((#[]:Array Value)[· % (#[]:Array Value).size]!)) (parts.map fun x=> (x.1,a.eval x.2)).toList=some vs':=by
   rw [Xr];exact h7
  simp only [Sem.run_bind,Sem.run_pure,Result.andThen_ok,h7']
  try rfl
 .simp only [h0,if_false]
  simp only [vs0,h0,if_false] at h7
  have h7':Instr.fill (fun i=> some (i*cfg.sz T,cfg.sz T)) ((Array.range (n*cfg.sz T)).map (z'.cells[· % z'.cells.size]!)) (parts.map fun x=> (x.1,a.eval x.2)).toList=some vs':=by
   rw [Xr];exact h7
  simp only [Sem.run_bind,Sem.run_pure,Result.andThen_ok,hz,h7']
  try rfl
theorem Z1s(ok:CfgOk P cfg){m:Addr->Option Value}{T:U.Ty}{l:List (U.El T)}{tl:Tail}{b:Addr}{len cap:Nat}(hs:SimC cfg m (.slice (some b) len cap) (.slice T l tl)):
  ∃ vs:List Value,vs.length=len*cfg.sz T/\(∀ (j:Nat) v,vs[j]?=some v->m (b.add j)=some v/\v.oneCell'=true)/\
   ∀ (i:Nat) x,l[i]?=some x->∀ (j:Nat) c,(cfg.enc T x)[j]?=some c->∃ v,vs[i*cfg.sz T+j]?=some v/\SimC cfg m v c:=by
 have hl:l.length=len:=by cases hs;assumption
 have hr:=hs.rows
 have hpos:=ok.sz_pos T
 let f:Nat->Value:=fun j=> (m (b.add j)).getD undef
 have hf:∀ j,j < len*cfg.sz T->m (b.add j)=some (f j)/\(f j).oneCell'=true:=by
  intro j hj
  have hi:j / cfg.sz T < l.length:=by rw [hl];exact Xm (by grind)
  have hjj:j % cfg.sz T < (cfg.enc T (l[j / cfg.sz T])).length:=by rw [ok.enc_len];exact XA _ hpos
  obtain ⟨v,h1,h2⟩:=hr _ _ (Q0 hi) _ _ (Q0 hjj)
  have e:j / cfg.sz T*cfg.sz T+j % cfg.sz T=j:=by rw [X6];exact XK _ _
  rw [e] at h1
  simp only [f,h1]
  exact ⟨rfl,h2.one.1⟩
 refine ⟨(List.range (len*cfg.sz T)).map f,by simp,?_,?_⟩
 .grind
 .intro i x hx j c hc
  obtain ⟨v,h1,h2⟩:=hr i x hx j c hc
  have hi:i < l.length:=(Q1.1 hx).1
  have hj:j < cfg.sz T:=by have:=(Q1.1 hc).1;rw [ok.enc_len] at this;exact this
  have hlt:i*cfg.sz T+j < len*cfg.sz T:=by
   have:(i+1)*cfg.sz T<=len*cfg.sz T:=Q8 _ (by omega)
   rw [Qr] at this;omega
  grind
theorem Z16 {T:U.Ty} {l l':List (U.El T)} {vs vs':List Value} {m:Addr->Option Value} (hl:vs.length=l.length*cfg.sz T) (henc:∀ x,(cfg.enc T x).length=cfg.sz T)
  (h:∀ (i:Nat) x,l[i]?=some x->∀ (j:Nat) c,(cfg.enc T x)[j]?=some c->∃ v,vs[i*cfg.sz T+j]?=some v/\SimC cfg m v c)
  (h':∀ (i:Nat) x,l'[i]?=some x->∀ (j:Nat) c,(cfg.enc T x)[j]?=some c->∃ v,vs'[i*cfg.sz T+j]?=some v/\SimC cfg m v c):
  ∀ (i:Nat) x,(l++l')[i]?=some x->∀ (j:Nat) c,(cfg.enc T x)[j]?=some c->∃ v,(vs++vs')[i*cfg.sz T+j]?=some v/\SimC cfg m v c:=by
 intro i x hx j c hc
 have hj:j < cfg.sz T:=by have:=(Q1.1 hc).1;rw [henc] at this;exact this
 rw [Qm] at hx
 split at hx
 .grind
 .rename_i hge
  obtain ⟨v,h1,h2⟩:=h' _ x hx j c hc
  refine ⟨v,?_,h2⟩
  have e1:l.length*cfg.sz T<=i*cfg.sz T:=Q8 _ (by omega)
  rw [Qe (by omega),hl,<-h1]
  congr 1
  rw [Ke];omega
theorem Z7e (ok:CfgOk P cfg) (h:Rel cfg B st g a w) {o:Oper} {t:TypeId} {p q:Operand} {T:U.Ty} {n m:Int} {ag:Bool} {zs:List (C U)} {z:U.El T} (ho:o.op= .makeSlice t p q)
  (hT:cfg.slT t=some T) (hp:a.eval p= .int .i64 n) (hq:a.eval q= .int .i64 m) (hz:cfg.var (cfg.elT T)=some (ag,zs)) (hd:cfg.dec T zs=some z)
  (hn:0<=n/\n*cfg.bytes T<=140737488355328/\n<=9223372036854775807) (hm:m=n):
  Does P o a w fun v w'=> ∃ g',Out cfg B st g { val:=some (.c (.slice T (List.replicate n.toNat z) .full)) } v w' g':=by
 have hm':=hm.symm
 subst hm'
 obtain ⟨k,rfl⟩:=Ql hn.1
 simp only [K0] at*
 rw [Qj]
 obtain ⟨hE,hU⟩:=Y8 ok hT
 obtain ⟨i,ag',zs',z',h1,h2,h3,h4,h5,h6⟩:=ok.el T
 rw [hz] at h5
 simp only [Option.some.injEq,Prod.mk.injEq] at h5
 obtain ⟨rfl,rfl⟩:=h5
 obtain ⟨z'',hzv,hZ⟩:=Jw ok hz w
 have hzz:z''=z':=by
  simp [zeroValue,typeInfo,h1,h4] at hzv;exact hzv.symm
 subst hzz
 have hrel:=YH (g:=g) (st:=st) (cfg:=cfg) hZ
 have hzl:z''.cells.size=cfg.sz T:=by have:=hrel.1;simp at this;omega
 have hpos:=ok.sz_pos T
 obtain ⟨hvl,hvc⟩:=Z5u ok hd hrel.1 (fun j v c h1 h2=> hrel.sim h1 h2)
 let arr:Array Value:=(Array.range (k*cfg.sz T)).map (z''.cells[· % z''.cells.size]!)
 obtain ⟨g',hout⟩:=Z3q (T:=T) (l:=List.replicate k z) (arr:=arr) (d:=0) (kl:=[]) h (SameHeap.refl w) (P.elem t) (cap:=k) (tl:= .full) (by simp) (by simp [arr]) (.inr ⟨rfl,by simp⟩) (ok.enc_len T)
  (by
   intro i x hx j c hc
   obtain ⟨hi,hx⟩:=Q1.1 hx
   simp at hx hi
   subst hx
   obtain ⟨v,h7,h8⟩:=hvc j c hc
   have hj:j < cfg.sz T:=by have:=(Q1.1 hc).1;rw [ok.enc_len] at this;exact this
   have hlt:i*cfg.sz T+j < k*cfg.sz T:=by
    have:(i+1)*cfg.sz T<=k*cfg.sz T:=Q8 _ (by omega)
    rw [Qr] at this;omega
   refine ⟨v,?_,h8⟩
   have h9:z''.cells[j]?=some v:=by rw [<-h7];simp
   have hjz:j < z''.cells.size:=by omega
   have e:(i*cfg.sz T+j) % z''.cells.size=j:=by rw [hzl,X6,XW,Xf hj]
   grind)
 rw [Qv] at hout
 refine .inl ⟨_,_,?_,g',hout⟩
 have hsz:=Yd ok T w
 rw [<-hE] at hsz hzv
 have hinfo:(typeInfo (P.elem t)).run P w= .ok i w:=by rw [hE];simp [typeInfo,h1]
 have hw:IntKind.i64.wrap (k:Int)=k:=by simp [IntKind.wrap,IntKind.signed,IntKind.bits];omega
 have hle:¬(281474976710656 < (i.bytes:Int)*(k:Int)):=by
  rw [h3,Kb];have:=hn.2.1;omega
 have hn0:¬(k:Int) < 0:=by omega
 simp only [execOp,ho]
 apply Z41
 simp only [hp,hq]
 by_cases h0:k*cfg.sz T=0
 .have harr:arr=#[]:=by simp only [arr,h0];simp
  simp [Instr.makeSlice,run_underlying hU,asInt,asIntOf,hinfo,hw,hle,hn0,hsz,h0,newRow,harr]
  grind
 .have hc1:(decide ((k:Int) < 0) || decide ((i.bytes:Int)*(k:Int) > 2 ^ 48) || decide ((k:Int) < 0) || decide ((k:Int) > (k:Int)))=false:=by
   simp [hle,hn0]
  simp only [Instr.makeSlice,Sem.run_bind,run_underlying hU,Result.andThen_ok,asInt,asIntOf,Sem.run_pure,hinfo,hw,hc1]
  simp only [Qs,if_false,Sem.run_bind,run_askRoom,Result.andThen_ok,hsz,Qj,h0,hzv,Sem.run_pure]
  try rfl
open Classical in
noncomputable def Gh.grown(g:Gh)(w':World)(b:Addr)(lo mid hi:Nat)(t:Tok):Gh:=
 {m:=fun c=> if ∃ j,lo<=j/\j < mid/\c=b.add j then w'.cell? c else g.m c
  tag:=fun c=> if ∃ j,lo<=j/\j < mid/\c=b.add j then none else if ∃ j,mid<=j/\j < hi/\c=b.add j then some (.tok t) else g.tag c
  ad:=g.ad
  bs:=g.bs }
theorem Z7i (ok:CfgOk P cfg) (h:Rel cfg B st g a w) {T:U.Ty} {l l':List (U.El T)} {tl:Tail} {b:Addr} {len cap n:Nat} {vs:List Value} {d:Nat} {kl:List Tok}
  (hx:RelC cfg g st.dead (.slice (some b) len cap) (.slice T l tl)) (hl:l.length=len) (hc:len<=cap) (hfit:len+n<=cap) (hln:l'.length=n)
  (hvl:vs.length=n*cfg.sz T) (hvo:∀ v∈vs,v.oneCell'=true)
  (hvr:∀ (i:Nat) x,l'[i]?=some x->∀ (j:Nat) c,(cfg.enc T x)[j]?=some c->∃ v,vs[i*cfg.sz T+j]?=some v/\SimC cfg g.m v c)
  (htl:(tl= .full/\kl=[])\/∃ u,tl= .own u/\st.dead u=false/\u.isA=false/\kl=[u]):
  ∃ w' g',(storeCells (b.add (len*cfg.sz T)) vs).run P w= .ok () w'/\Out cfg B st g { val:=some (.c (.slice T (l++l') (.own (.r d 0)))),kill:=kl } (.slice (some b) (len+n) cap) w' g':=by
 have hmul:(len+n)*cfg.sz T=len*cfg.sz T+n*cfg.sz T:=Qr ..
 have hcapm:(len+n)*cfg.sz T<=cap*cfg.sz T:=Q8 _ hfit
 have hkA:∀ u,kl=[u]->u.isA=false:=by
  rcases htl with ⟨_,rfl⟩ | ⟨u,_,_,hu,rfl⟩
  .intro u h;cases h
  .intro u h;cases h;exact hu
 have htag:∀ j,len*cfg.sz T<=j->j < cap*cfg.sz T->∃ u,kl=[u]/\g.tag (b.add j)=some (.tok u):=by
  intro j h1 h2
  rcases htl with ⟨rfl,_⟩ | ⟨u,rfl,hu,_,rfl⟩
  .have:=hx.2 _ _ _ rfl
   subst this
   omega
  .exact ⟨u,rfl,hx.2 hu (hkA u rfl) b len cap rfl j h1 h2⟩
 obtain ⟨w',h1,h2,h3,h4,h5,h6⟩:=Y2 (P:=P) (b.add (len*cfg.sz T)) vs 0 w hvo (by
  intro j hj
  rw [Go.Deep.add_add,Qq]
  obtain ⟨u,_,ht⟩:=htag (len*cfg.sz T+j) (by omega) (by omega)
  obtain ⟨h7,v,h8⟩:=h.inv.it _ _ ht
  exact ⟨⟨v,h8⟩,h7⟩)
 simp only [Qq,Go.Deep.add_add] at h2 h3 h4
 let g':=g.grown w' b (len*cfg.sz T) ((len+n)*cfg.sz T) (cap*cfg.sz T) (.r d 0)
 have hS:∀ c,(∃ j,len*cfg.sz T<=j/\j < cap*cfg.sz T/\c=b.add j)->∃ u,kl=[u]/\g.tag c=some (.tok u):=by
  rintro c ⟨j,hj1,hj2,rfl⟩
  exact htag j hj1 hj2
 have hnew:∀ c,(∃ j,len*cfg.sz T<=j/\j < (len+n)*cfg.sz T/\c=b.add j)->∃ v,w'.cell? c=some v:=by
  rintro c ⟨j,hj1,hj2,rfl⟩
  have:=h3 (j - len*cfg.sz T) _ (Q0 (by omega))
  rw [show len*cfg.sz T+(j - len*cfg.sz T)=j by omega] at this
  exact ⟨_,this⟩
 have hmc:∀ c v,g.m c=some v->w'.cell? c=some v/\¬(∃ j,len*cfg.sz T<=j/\j < cap*cfg.sz T/\c=b.add j):=by
  intro c v hv
  obtain ⟨h7,h8⟩:=h.inv.im c v hv
  have hno:¬(∃ j,len*cfg.sz T<=j/\j < cap*cfg.sz T/\c=b.add j):=fun hc=> by
   obtain ⟨u,_,h9⟩:=hS c hc
   rw [h8] at h9;cases h9
  refine ⟨?_,hno⟩
  rw [h4 c fun j hj e=> hno ⟨_,by omega,by omega,e⟩]
  exact h7
 have hmk:∀ c v,g.m c=some v->g'.m c=some v:=by
  intro c v hv
  have:=(hmc c v hv).2
  simp only [g',Gh.grown]
  rw [if_neg (fun ⟨j,a1,a2,a3⟩=> this ⟨j,a1,by omega,a3⟩)]
  exact hv
 have htagk:∀ c,¬(∃ j,len*cfg.sz T<=j/\j < cap*cfg.sz T/\c=b.add j)->g'.tag c=g.tag c:=by
  intro c hno
  simp only [g',Gh.grown]
  rw [if_neg (fun ⟨j,a1,a2,a3⟩=> hno ⟨j,a1,by omega,a3⟩),if_neg (fun ⟨j,a1,a2,a3⟩=> hno ⟨j,by omega,a2,a3⟩)]
 have hinv:Inv g'.m g'.tag w':=by
  refine ⟨fun c v hv=> ?_,fun c t ht=> ?_⟩
  .simp only [g',Gh.grown] at hv ⊢
   split at hv
   .rename_i hc
    rw [if_pos hc]
    exact ⟨hv,rfl⟩
   .rename_i hc
    rw [if_neg hc]
    obtain ⟨h7,h8⟩:=hmc c v hv
    refine ⟨h7,?_⟩
    rw [if_neg (fun ⟨j,a1,a2,a3⟩=> h8 ⟨j,by omega,a2,a3⟩)]
    exact (h.inv.im c v hv).2
  .have hold:∀ t',g.tag c=some t'->w'.frozen? c=false/\∃ v,w'.cell? c=some v:=by
    intro t' ht'
    obtain ⟨h7,u,h8⟩:=h.inv.it c t' ht'
    exact ⟨(h5 c).trans h7,h2.some c u h8⟩
   simp only [g',Gh.grown] at ht
   split at ht
   .cases ht
   .split at ht
    .rename_i hc
     obtain ⟨j,a1,a2,a3⟩:=hc
     obtain ⟨u,_,h7⟩:=hS c ⟨j,by omega,a2,a3⟩
     exact hold _ h7
    .exact hold t ht
 have hkeep:Keeps g g' st.dead (fun t=> st.dead t || kl.contains t) (fun nm=> (st.mem nm).isSome) (fun nm=> (st.mem nm).isSome):=by
  refine ⟨hmk,fun c t hd _ ht=> ?_,fun t ht=> ?_,fun nm hn=> ⟨hn,rfl⟩,fun _ _ _ h=> h,fun _=> rfl,fun t _ _ h=> h⟩
  .rw [htagk c ?_]
   .exact ht
   .intro hc
    obtain ⟨u,hu,h7⟩:=hS c hc
    rw [ht] at h7
    cases h7
    rw [hu] at hd
    simp at hd
  .simp only [Qi] at ht
   exact ht.1
 refine ⟨w',g',h1,hinv,?_,hkeep,?_,?_,h.ls_keep rfl hkeep (fun c v hv=> (hmc c v hv).1) (fun c t hd ht=> ?_) (fun _ _ h=> h) (fun c u hA ht=> by
  rw [htagk c ?_]
  .exact ht
  .intro hc
   obtain ⟨u,hu,h7⟩:=hS c hc
   rw [ht] at h7
   cases h7
   rw [hkA _ hu] at hA;cases hA),h.fresh_keep rfl (fun _=> rfl)⟩
 .refine h.fr.step h.inv h2 ?_ hmk ?_ ?_ (fun _=> rfl)
  .rintro c ⟨j,hj,rfl⟩
   obtain ⟨u,_,ht⟩:=htag (len*cfg.sz T+j) (by omega) (by omega)
   exact ⟨_,ht,fun t' e=> by cases e⟩
  .intro c t
   by_cases hc:∃ j,len*cfg.sz T<=j/\j < cap*cfg.sz T/\c=b.add j
   .obtain ⟨u,_,h7⟩:=hS c hc
    constructor
    .intro h8;rw [h7] at h8;cases h8
    .intro h8
     simp only [g',Gh.grown] at h8
     split at h8
     .cases h8
     .split at h8
      .cases h8
      .exact h8
   .rw [htagk c hc]
  .intro bb _ hall o s
   refine htagk _ fun hc=> ?_
   obtain ⟨u,_,h7⟩:=hS _ hc
   obtain ⟨t',h8⟩:=hall _ _ _ h7
   cases h8
 .intro nm cs hm j c hj
  obtain ⟨v,h7,h8,h9⟩:=h.mem nm cs hm j c hj
  have hno:¬(∃ i,len*cfg.sz T<=i/\i < cap*cfg.sz T/\(g.ad nm).add j=b.add i):=fun hc=> by
   obtain ⟨u,_,h10⟩:=hS _ hc
   rw [h8] at h10;cases h10
  refine ⟨v,?_,(htagk _ hno).trans h8,h9.keep hkeep⟩
  show w'.cell? ((g.ad nm).add j)=some v
  rw [h4 _ fun i hi e=> hno ⟨_,by omega,by omega,e⟩]
  exact h7
 .refine ⟨.of_rows _ (by simp [hl,hln]) hfit ?_,?_⟩
  .obtain ⟨us,hu1,hu2,hu3⟩:=Z1s ok hx.1
   have:=Z16 (m:=g.m) (vs:=us) (vs':=vs) (by rw [hu1,hl]) (ok.enc_len T) hu3 hvr
   intro i x hi j c hj
   obtain ⟨v,h7,h8⟩:=this i x hi j c hj
   refine ⟨v,?_,h8.mono hmk⟩
   by_cases hlt:i*cfg.sz T+j < len*cfg.sz T
   .rw [Qf (by omega)] at h7
    exact hmk _ _ (hu2 _ _ h7).1
   .rw [Qe (by omega),hu1] at h7
    have h9:=h3 _ _ h7
    rw [show len*cfg.sz T+(i*cfg.sz T+j - len*cfg.sz T)=i*cfg.sz T+j by omega] at h9
    have h10:=(Q1.1 h7).1
    simp only [g',Gh.grown]
    rw [if_pos ⟨i*cfg.sz T+j,by omega,by omega,rfl⟩]
    exact h9
  .intro _ _ b' len' cap' hv j hj1 hj2
   simp only [Value.slice.injEq,Option.some.injEq] at hv
   obtain ⟨rfl,rfl,rfl⟩:=hv
   simp only [g',Gh.grown]
   rw [if_neg (fun ⟨i,a1,a2,a3⟩=> by have:=YP a3;omega),if_pos ⟨j,hj1,hj2,rfl⟩]
 .refine h4 c fun j hj e=> ?_
  obtain ⟨u,hu,h7⟩:=htag (len*cfg.sz T+j) (by omega) (by omega)
  rw [e,h7] at ht
  cases ht
  rw [Tok.root_of (hkA _ hu),hu] at hd
  simp [Zb] at hd
theorem Z1c(w:World)(need old:Nat)(e:TypeId):need<=grownCap w need old e:=by
 exact Nat.le_add_right _ _
theorem ZbD (ok:CfgOk P cfg) (h:Rel cfg B st g a w) {o:Oper} {d:Nat} {t:TypeId} {x y:C U} {px py:Operand} {ps:List Prop} {e:Eff U}
  (ho:o.op= .call { callee:= .builtin .append,args:=#[px,py],argTypes:=#[t,t] })
  (hx:RelC cfg g st.dead (a.eval px) x) (hy:RelC cfg g st.dead (a.eval py) y) (he:Z3W cfg st d t x y=some (ps,e)) (hps:All ps):
  Does P o a w fun v w'=> ∃ g',Out cfg B st g e v w' g':=by
 unfold Z3W at he
 split at he
 .cases he
 rename_i T hT
 split at he
 case h_2=> cases he
 rename_i l tl l' tl' hsx hsy
 obtain ⟨hE,hU⟩:=Y8 ok hT
 obtain ⟨hx',b,len,cap,hvx,hl,hc,hb⟩:=Z10 hx hsx
 obtain ⟨hy',b',n,cap',hvy,hl',hc',hb'⟩:=Z10 hy hsy
 rw [hvx] at hx'
 rw [hvy] at hy'
 have hU':P.underlying t=some (.slice (cfg.elT T)):=by rw [hE] at hU;exact hU
 obtain ⟨i,ag,zs,z,hi,hisz,hib,hz,hvar,hzs⟩:=ok.el T
 have hroom:(l.length+l'.length)*cfg.bytes T<=140737488355328:=by
  split at he
  .cases he
  .simp only [Option.some.injEq,Prod.mk.injEq] at he;rw [<-he.1] at hps;exact hps.1
  .split at he
   .cases he
   .simp only [Option.some.injEq,Prod.mk.injEq] at he;rw [<-he.1] at hps;exact hps.1
 have htl:∃ kl,e={ val:=some (.c (.slice T (l++l') (.own (.r d 0)))),kill:=kl }/\((tl= .full/\kl=[])\/∃ u,tl= .own u/\st.dead u=false/\u.isA=false/\kl=[u]):=by
  split at he
  .cases he
  .simp only [Option.some.injEq,Prod.mk.injEq] at he;exact ⟨[],he.2.symm,.inl ⟨rfl,rfl⟩⟩
  .split at he
   .cases he
   .rename_i u _ hu
    simp only [Option.some.injEq,Prod.mk.injEq] at he
    simp only [Qi] at hu
    exact ⟨[u],he.2.symm,.inr ⟨u,rfl,hu.1,hu.2,rfl⟩⟩
 obtain ⟨kl,rfl,htl⟩:=htl
 rw [hl,hl'] at hroom
 have hbp:=ok.bytes_pos T
 have hbig:len+n<=140737488355328:=Xh (Xt _ hbp) hroom
 have hnew:∃ vs:List Value,vs.length=n*cfg.sz T/\(∀ v∈vs,v.oneCell'=true)/\(∀ w:World,(∀ c v,g.m c=some v->w.cell? c=some v)->(Builtin.firstCells i.size n (.slice b' n cap')).run P w= .ok vs.toArray w)/\
   (∀ (k:Nat) x,l'[k]?=some x->∀ (j:Nat) c,(cfg.enc T x)[j]?=some c->∃ v,vs[k*cfg.sz T+j]?=some v/\SimC cfg g.m v c)/\
   (∀ a',b'=some a'->∀ (j:Nat) v,vs[j]?=some v->g.m (a'.add j)=some v):=by
  cases b' with
  | none=>
   obtain ⟨rfl,rfl⟩:=hb' rfl
   have hl0:l'=[]:=Q6 hl'
   subst hl0
   exact ⟨[],by simp,by simp,fun w _=> run_firstCells_none w _ _ _ _,fun k x hx=> by simp at hx,fun a' ha=> by cases ha⟩
  | some a'=>
   obtain ⟨vs,h1,h2,h3⟩:=Z1s ok hy'.1
   refine ⟨vs,h1,fun v hv=> ?_,fun w hw=> ?_,h3,fun a'' ha j v hv=> ?_⟩
   .obtain ⟨j,hj,rfl⟩:=QZ hv
    exact (h2 j _ (Q0 hj)).2
   .exact run_firstCells_some w i.size n a' n cap' vs (by grind) (fun j v hv=> hw _ _ (h2 j v hv).1)
   grind
 obtain ⟨vs,hvl,hvo,hvrun,hvr,hvm⟩:=hnew
 have hmw:∀ c v,g.m c=some v->w.cell? c=some v:=fun c v hv=> (h.inv.im c v hv).1
 have hargs:(execOp a.eval o).run P w=((Builtin.append_ #[t,t] o.type #[.slice b len cap,.slice b' n cap']).run P w).andThen fun v w=> .ok (.value v) w:=by
  simp only [execOp,ho,resolve,Sem.run_bind,Sem.run_pure,Result.andThen_ok,invoke,builtin]
  simp [hvx,hvy]
 have hul:∀ w,(underlying t).run P w= .ok (.slice (cfg.elT T)) w:=fun w=> run_underlying hU' w
 by_cases hfit:len+n<=cap
 .cases b with
  | none=>
   obtain ⟨rfl,rfl⟩:=hb rfl
   have hn0:n=0:=by omega
   subst hn0
   have hl0:l=[]:=Q6 hl
   have hl1:l'=[]:=Q6 hl'
   subst hl0 hl1
   have hv0:vs=[]:=Q6 (by omega)
   subst hv0
   have hk0:Keeps g g st.dead (Zb st ({ val:=some (.c (.slice T ([]++[]) (.own (.r d 0)))),kill:=kl }:Eff U)) (fun nm=> (st.mem nm).isSome) (ZK st ({ val:=some (.c (.slice T ([]++[]) (.own (.r d 0)))),kill:=kl }:Eff U)):=
    ⟨fun _ _ h=> h,fun _ _ _ _ h=> h,fun t ht=> by simp only [Zb,Qi] at ht;exact ht.1,fun nm hn=> ⟨hn,rfl⟩,fun _ _ _ h=> h,fun _=> rfl,fun _ _ _ h=> h⟩
   refine .inl ⟨.slice none 0 0,w,?_,g,h.inv,h.fr,hk0,?_,⟨.snil T _,fun _ _ a len cap hv=> by simp at hv⟩,h.ls_keep rfl hk0 (fun c v hv=> (h.inv.im c v hv).1) (fun _ _ _ _=> rfl) (fun _ _ h=> h) (fun _ _ _ h=> h),h.fresh_keep rfl (fun _=> rfl)⟩
   .rw [hargs]
    simp [Builtin.append_,hul,sizeOf,typeInfo,hi,Builtin.lenOf,hvrun w hmw]
   .intro nm cs hm j c hj
    obtain ⟨v,h7,h8,h9⟩:=h.mem nm cs hm j c hj
    exact ⟨v,h7,h8,h9.keep hk0⟩
  | some b=>
   obtain ⟨w',g',h1,h2⟩:=Z7i (P:=P) (d:=d) ok h hx' hl hc hfit hl' hvl hvo hvr htl
   refine .inl ⟨_,w',?_,g',h2⟩
   rw [hargs]
   rw [<-hisz] at h1
   simp [Builtin.append_,hul,sizeOf,typeInfo,hi,Builtin.lenOf,hvrun w hmw,hfit,h1]
 .have hgrow:cap < len+n:=by omega
  have hnpos:0 < n:=by omega
  have hn63:¬((len+n:Nat):Int) > 9223372036854775807:=by omega
  have hnext:Builtin.nextslicecap (len+n) cap*i.bytes<=281474976710656:=growslice_fits hgrow (by grind)
  have hcapw:=Z1c w (len+n) cap (cfg.elT T)
  have hold:∃ us:List Value,us.length=len*cfg.sz T/\(∀ w:World,(∀ c v,g.m c=some v->w.cell? c=some v)->(Builtin.firstCells i.size len (.slice b len cap)).run P w= .ok us.toArray w)/\
    ∀ (k:Nat) x,l[k]?=some x->∀ (j:Nat) c,(cfg.enc T x)[j]?=some c->∃ v,us[k*cfg.sz T+j]?=some v/\SimC cfg g.m v c:=by
   cases b with
   | none=>
    obtain ⟨rfl,rfl⟩:=hb rfl
    have hl0:l=[]:=Q6 hl
    subst hl0
    exact ⟨[],by simp,fun w _=> run_firstCells_none w _ _ _ _,fun k x hx=> by simp at hx⟩
   | some b=>
    obtain ⟨us,h1,h2,h3⟩:=Z1s ok hx'.1
    exact ⟨us,h1,fun w hw=> run_firstCells_some w i.size len b len cap us (by grind) (fun j v hv=> hw _ _ (h2 j v hv).1),h3⟩
  obtain ⟨us,hul2,hurun,hur⟩:=hold
  have hzl:z.cells.size=cfg.sz T:=by
   obtain ⟨z',hz',hZ⟩:=Jw ok hvar w
   have:z'=z:=by simp [zeroValue,typeInfo,hi,hz] at hz';exact hz'.symm
   subst this
   have:=(YH (g:=g) (st:=st) (cfg:=cfg) hZ).1;simp at this;omega
  let nc:=grownCap w (len+n) cap (cfg.elT T)
  let arr:Array Value:=us.toArray++vs.toArray++Builtin.zeroCells z.cells (nc - (len+n))
  have hnc:len+n<=nc:=hcapw
  have harr:arr.size=nc*cfg.sz T:=by
   have e1:(len+n)*cfg.sz T+(nc - (len+n))*cfg.sz T=nc*cfg.sz T:=by rw [<-Qr];congr 1;omega
   rw [Qr] at e1
   simp [arr,Builtin.zeroCells,hul2,hvl,hzl]
   omega
  have hrows:=Z16 (m:=g.m) (vs:=us) (vs':=vs) (by rw [hul2,hl]) (ok.enc_len T) hur hvr
  obtain ⟨g',hout⟩:=Z3q (T:=T) (l:=l++l') (arr:=arr) (d:=d) (kl:=kl) h (SameHeap.drew w) (cfg.elT T) (cap:=nc) (tl:= .own (.r d 0)) (by grind) harr (.inl rfl) (ok.enc_len T)
   (fun k x hx j c hc=> by
    obtain ⟨v,h1,h2⟩:=hrows k x hx j c hc
    grind)
  rw [show (l++l').length=len+n by simp [hl,hl']] at hout
  refine .inl ⟨_,_,?_,g',hout⟩
  have hmd:∀ c v,g.m c=some v->w.drew.cell? c=some v:=fun c v hv=> (hmw c v hv)
  rw [hargs]
  have h48:¬(Builtin.nextslicecap (len+n) cap*i.bytes > 2 ^ 48):=by omega
  have hb0:¬i.bytes=0:=by omega
  have h63:¬((9223372036854775807:Int) < (len:Int)+(n:Int)):=by omega
  simp [Builtin.append_,hul,sizeOf,typeInfo,zeroValue,hi,hz,Builtin.lenOf,hfit,h63,h48,Question.forced,hurun w.drew hmd,hvrun w.drew hmd,newRow]
  refine ⟨rfl,?_⟩
  simp only [arr,nc,grownCap,Xx]
end Go.AM
