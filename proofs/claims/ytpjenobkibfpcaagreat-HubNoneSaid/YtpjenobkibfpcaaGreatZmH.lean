import Derived.Test.YtpjenobkibfpcaaGreatZmF
set_option linter.unusedSimpArgs false
set_option linter.unusedVariables false
namespace Go.AM
variable {U:Uni} {P:Program} {cfg:Cfg U} {B:Base} {st:FSt U} {g:Gh} {a:Act} {w:World}
theorem RelL.sim{vs:List Value}{cs:List (C U)}{dead:Tok->Bool}(h:RelL cfg g dead vs cs){j:Nat}{v:Value}{c:C U}(hv:vs[j]?=some v)(hc:cs[j]?=some c):SimC cfg g.m v c:=(h.2 j v c hv hc).1
theorem Z7T (ok:CfgOk P cfg) {T:U.Ty} {cs:List (C U)} {x:U.El T} {vs:List Value} {m:Addr->Option Value} (hd:cfg.dec T cs=some x) (hl:vs.length=cs.length)
  (h:∀ (j:Nat) v c,vs[j]?=some v->cs[j]?=some c->SimC cfg m v c):
  vs.length=cfg.sz T/\∀ (j:Nat) c,(cfg.enc T x)[j]?=some c->∃ v,vs[j]?=some v/\SimC cfg m v c:=by
 obtain ⟨h1,u⟩:=ok.dec_ok T cs x hd
 have h3:=ok.enc_len T x
 refine ⟨V1,fun j c hc=> ?_⟩
 have hj:j < (cfg.enc T x).length:=(Q2.1 hc).1
 have s:vs[j]?=some (vs[j]'V1):=Q0 _
 have b:cs[j]?=some (cs[j]'V1):=Q0 _
 exact ⟨_,s,(h j _ _ s b).wk (u j _ _ b hc)⟩
theorem Z4k (h:Rel cfg B st g a w) {w1:World} (hw:SameHeap w w1) {T:U.Ty} {l:List (U.El T)} {arr:Array Value} (e:TypeId) {cap:Nat} {tl:Tail} {d:Nat} {kl:List Tok}
  (hcap:l.length<=cap) (hsz:arr.size=cap*cfg.sz T) (htl:tl= .own (.r d 0)\/(tl= .full/\l.length=cap)) (henc:∀ x,(cfg.enc T x).length=cfg.sz T)
  (hrows:∀ i x,l[i]?=some x->∀ j c,(cfg.enc T x)[j]?=some c->∃ v,arr[i*cfg.sz T+j]?=some v/\SimC cfg g.m v c):
  ∃ g',Out cfg B st g { val:=some (.c (.slice T l tl)),kill:=kl } (.slice (some ⟨w.heap.size,0,none⟩) l.length cap) (w1.alloc (.cells arr e)) g':=by
 let im:Nat->Bool:=fun i=> decide (i < l.length*cfg.sz T)
 let tg:Nat->Option Tag:=fun i=> if l.length*cfg.sz T<=i/\i < arr.size then some (.tok (.r d 0)) else none
 obtain ⟨h1,h2,h3,h4,h5⟩:=Zjs h hw arr e im tg g.ad (by
  grind) (fun _ _=> rfl) (fun _=> rfl)
 refine ⟨g.new w.heap.size arr im tg g.ad,h1,h2,?_,?_,?_,h.ls_keep rfl (h3 kl.contains _ (fun nm s=> s)) (fun c v u=> h5 _ _ (h.inv.im c v u).1) (fun c t _ ht=> by obtain ⟨_,v,u⟩:=h.inv.it c _ ht;grind),h.fresh_keep rfl (fun _=> rfl)⟩
 .exact h3 kl.contains _ (fun nm s=> s)
 .have k:=h3 kl.contains (fun nm=> (st.mem nm).isSome) (fun _ s=> s)
  intro nm cs hm j c hj
  refine ZfX h k h5 ?_ nm cs hm j c hj
  intro c t ht
  have:=h.inv.lt ht
  simp only [Gh.new]
  grind
 .have k:=h3 kl.contains (fun nm=> (st.mem nm).isSome) (fun _ s=> s)
  refine ⟨.of_rows tl rfl hcap ?_,?_⟩
  .intro i x hx j c hc
   obtain ⟨v,h6,h7⟩:=hrows i x hx j c hc
   refine ⟨v,?_,h7.mono k.m⟩
   have hi:i < l.length:=(Q2.1 hx).1
   have hj:j < cfg.sz T:=by have:=(Q2.1 hc).1;rw [henc] at this;exact this
   have af:i*cfg.sz T+j < l.length*cfg.sz T:=by
    have:(i+1)*cfg.sz T<=l.length*cfg.sz T:=Q7 _ hi
    rw [Qt] at this;omega
   rw [Addr.add_lit,QB]
   simp only [Gh.new,and_self,if_true,im,af,decide_true]
   exact h6
  .rcases htl with rfl | ⟨rfl,hfull⟩
   .intro _ b len aa u j av ak
    simp only [Value.slice.injEq,Option.some.injEq] at u
    obtain ⟨rfl,rfl,rfl⟩:=u
    rw [Addr.add_lit,QB]
    simp only [Gh.new,and_self,if_true,tg]
    grind
   .intro b len aa u
    grind
theorem Z8L(ok:CfgOk P cfg){T:U.Ty}:∀ (parts:List (Nat × Value)) (ps:List (Nat × V U)) (i:Nat) (l:List (U.El T)) (vs:Array Value),Yu cfg T i ps=some l->parts.length=ps.length->
  (∀ (j:Nat) x y,parts[j]?=some x->ps[j]?=some y->x.1=y.1/\RelV cfg g st.dead (fun nm=> (st.mem nm).isSome) x.2 y.2)->(i+parts.length)*cfg.sz T<=vs.size->
  l.length=ps.length/\∃ b,Instr.fill (fun k=> some (k*cfg.sz T,cfg.sz T)) vs parts=some b/\b.size=vs.size/\(∀ q,q < i*cfg.sz T->b[q]?=vs[q]?)/\
   ∀ r x,l[r]?=some x->∀ j c,(cfg.enc T x)[j]?=some c->∃ v,b[(i+r)*cfg.sz T+j]?=some v/\SimC cfg g.m v c
 | [],[],i,l,vs,he,_,_,_=> by
  simp only [Yu,Option.some.injEq] at he
  subst he
  exact ⟨rfl,vs,rfl,rfl,fun _ _=> rfl,fun r x hx=> by simp at hx⟩
 | (k,v) ::parts,(k',y) ::ps,i,l,vs,he,hl,hr,ae=> by
  obtain ⟨hk,hv⟩:=hr 0 _ _ rfl rfl
  simp only at hk hv
  subst hk
  simp only [Yu] at he
  split at he
  .rename_i ai
   subst ai
   split at he
   .rename_i cs aj
    split at he
    .rename_i x hx
     cases hrec:Yu cfg T (k+1) ps with
     | none=> grind
     | some l'=>
      simp only [hrec,Q9,Option.some.injEq] at he
      subst he
      have aa:=hv.cells aj
      obtain ⟨al,am⟩:=Z7T ok hx aa.1 (fun j v c h1 h2=> aa.sim h1 h2)
      have hl:parts.length=ps.length:=by simpa using hl
      have ae:(k+(parts.length+1))*cfg.sz T<=vs.size:=ae
      have az:(k+1)*cfg.sz T<=(k+(parts.length+1))*cfg.sz T:=Q7 _ V1
      have av:(k+1)*cfg.sz T=k*cfg.sz T+cfg.sz T:=by rw [Qt];omega
      have ay:v.cells.size=cfg.sz T:=by simpa using al
      let vs1:Array Value:=v.cells.zipIdx.foldl (fun cs (c,j)=> cs.setIfInBounds (k*cfg.sz T+j) c) vs
      have h:vs1.toList=vs.toList.take (k*cfg.sz T)++v.cells.toList++vs.toList.drop (k*cfg.sz T+v.cells.toList.length):=by
       show (v.cells.zipIdx.foldl (fun cs (c,j)=> cs.setIfInBounds (k*cfg.sz T+j) c) vs).toList=_
       rw [<-Array.foldl_toList,Array.toList_zipIdx]
       have:=ZcM (k*cfg.sz T) v.cells.toList 0 vs (by simp;omega)
       simpa using this
      have ak:vs1.size=vs.size:=by
       have:=congrArg List.length h
       simp at this
       omega
      obtain ⟨h1,b,h2,h3,h4,h5⟩:=Z8L ok parts ps (k+1) l' vs1 hrec hl
       (fun j x y hx hy=> hr (j+1) x y (by simpa using hx) (by simpa using hy)) (by grind)
      have s:∀ q:Nat,vs1[q]?=vs1.toList[q]?:=fun q=> (Array.getElem?_toList ..).symm
      refine ⟨by simp [h1],b,?_,by rw [h3,ak],?_,?_⟩
      .simp only [Instr.fill]
       grind
      .intro q hq
       rw [h4 q V1,s,h,Ql,Qv (by simp;omega),X6 hq]
       simp
      .intro r x' af j c hc
       cases r with
       | zero=>
        simp only [XH,Option.some.injEq] at af
        subst af
        obtain ⟨u,h6,h7⟩:=am j c hc
        refine ⟨u,?_,h7⟩
        have hj:j < cfg.sz T:=by have:=(Q2.1 hc).1;rw [ok.enc_len] at this;exact this
        rw [XT,h4 _ V1,s,h,Ql,Qj (by simp;omega)]
        have e:k*cfg.sz T+j - (vs.toList.take (k*cfg.sz T)).length=j:=by simp;omega
        grind
       | succ r=>
        grind
    .cases he
   .cases he
  .cases he
theorem Z8Q (ok:CfgOk P cfg) (h:Rel cfg B st g a w) {o:Oper} {t:TypeId} {n:Nat} {parts:Array (Nat × Operand)} {T:U.Ty} {ps:List (Nat × V U)} {l:List (U.El T)} (ho:o.op= .buildSlice t n parts)
  (hT:cfg.slT t=some T) (hl:parts.size=ps.length) (hn:ps.length=n) (hsmall:n*cfg.sz T<=16777216)
  (hr:∀ (j:Nat) x y,parts[j]?=some x->ps[j]?=some y->x.1=y.1/\RelV cfg g st.dead (fun nm=> (st.mem nm).isSome) (a.eval x.2) y.2) (he:Yu cfg T 0 ps=some l):
  Does P o a w fun v w'=> ∃ g',Out cfg B st g { val:=some (.c (.slice T l .full)) } v w' g':=by
 obtain ⟨hE,hU⟩:=YA ok hT
 obtain ⟨i,ag,zs,z,h1,h2,h3,h4,h5,h6⟩:=ok.el T
 obtain ⟨z',hz,hZ⟩:=Z0Q ok h5 w
 have ai:z'=z:=by
  simp [zeroValue,typeInfo,h1,h4] at hz;exact hz.symm
 subst ai
 have aj:z'.cells.size=cfg.sz T:=by have:=(Js (g:=g) (st:=st) (cfg:=cfg) hZ).1;simp at this;omega
 let vs0:Array Value:=if n*cfg.sz T=0 then (Array.range (n*cfg.sz T)).map ((#[]:Array Value)[· % 0]!) else (Array.range (n*cfg.sz T)).map (z'.cells[· % z'.cells.size]!)
 have ae:vs0.size=n*cfg.sz T:=by simp only [vs0];split <;> simp
 obtain ⟨aq,vs',h7,h8,_,h9⟩:=Z8L (g:=g) (st:=st) ok (parts.toList.map fun x=> (x.1,a.eval x.2)) ps 0 l vs0 he (by simpa using hl) (by
  grind) (by grind)
 have b:l.length=n:=V1
 obtain ⟨g',s⟩:=Z4k (T:=T) (l:=l) (arr:=vs') (d:=0) (kl:=[]) h (SameHeap.refl w) (P.elem t) (cap:=n) (tl:= .full) V1 (by rw [h8,ae]) (.inr ⟨rfl,b⟩) (ok.enc_len T)
  (fun i x hx j c hc=> by grind)
 rw [b] at s
 refine .inl ⟨_,_,?_,g',s⟩
 have ab:=Yx ok T w
 rw [<-hE] at ab hz
 simp only [execOp,ho]
 apply Z6Y
 simp only [Instr.buildSlice,Sem.run_bind,run_underlying hU,Result.andThen_ok,ab]
 rw [Y7]
 by_cases h0:n*cfg.sz T=0
 .simp only [h0,if_true]
  simp only [vs0,h0,if_true] at h7
  have u:Instr.fill (fun i=> some (i*cfg.sz T,cfg.sz T)) ((Array.range 0).map ((#[]:Array Value)[· % (#[]:Array Value).size]!)) (parts.map fun x=> (x.1,a.eval x.2)).toList=some vs':=by
   rw [Xp];exact h7
  simp only [Sem.run_bind,Sem.run_pure,Result.andThen_ok,u]
  try rfl
 .simp only [h0,if_false]
  simp only [vs0,h0,if_false] at h7
  have u:Instr.fill (fun i=> some (i*cfg.sz T,cfg.sz T)) ((Array.range (n*cfg.sz T)).map (z'.cells[· % z'.cells.size]!)) (parts.map fun x=> (x.1,a.eval x.2)).toList=some vs':=by
   rw [Xp];exact h7
  simp only [Sem.run_bind,Sem.run_pure,Result.andThen_ok,hz,u]
  try rfl
theorem Z2e(ok:CfgOk P cfg){m:Addr->Option Value}{T:U.Ty}{l:List (U.El T)}{tl:Tail}{b:Addr}{len cap:Nat}(hs:SimC cfg m (.slice (some b) len cap) (.slice T l tl)):
  ∃ vs:List Value,vs.length=len*cfg.sz T/\(∀ (j:Nat) v,vs[j]?=some v->m (b.add j)=some v/\v.oneCell'=true)/\
   ∀ (i:Nat) x,l[i]?=some x->∀ (j:Nat) c,(cfg.enc T x)[j]?=some c->∃ v,vs[i*cfg.sz T+j]?=some v/\SimC cfg m v c:=by
 have hl:l.length=len:=by cases hs;assumption
 have hr:=hs.rows
 have h:=ok.sz_pos T
 let f:Nat->Value:=fun j=> (m (b.add j)).getD undef
 have hf:∀ j,j < len*cfg.sz T->m (b.add j)=some (f j)/\(f j).oneCell'=true:=by
  intro j hj
  have hi:j / cfg.sz T < l.length:=by rw [hl];exact Xn (by grind)
  have u:j % cfg.sz T < (cfg.enc T (l[j / cfg.sz T])).length:=by rw [ok.enc_len];exact XE _ h
  obtain ⟨v,s,h2⟩:=hr _ _ (Q0 hi) _ _ (Q0 u)
  have e:j / cfg.sz T*cfg.sz T+j % cfg.sz T=j:=by rw [Xg];exact XB _ _
  rw [e] at s
  simp only [f,s]
  exact ⟨rfl,h2.one.1⟩
 refine ⟨(List.range (len*cfg.sz T)).map f,by simp,?_,?_⟩
 .grind
 .intro i x hx j c hc
  obtain ⟨v,s,h2⟩:=hr i x hx j c hc
  have hi:i < l.length:=(Q2.1 hx).1
  have hj:j < cfg.sz T:=by have:=(Q2.1 hc).1;rw [ok.enc_len] at this;exact this
  have ah:i*cfg.sz T+j < len*cfg.sz T:=by
   have:(i+1)*cfg.sz T<=len*cfg.sz T:=Q7 _ V1
   rw [Qt] at this;omega
  grind
theorem Z1O {T:U.Ty} {l l':List (U.El T)} {vs vs':List Value} {m:Addr->Option Value} (hl:vs.length=l.length*cfg.sz T) (henc:∀ x,(cfg.enc T x).length=cfg.sz T)
  (h:∀ (i:Nat) x,l[i]?=some x->∀ (j:Nat) c,(cfg.enc T x)[j]?=some c->∃ v,vs[i*cfg.sz T+j]?=some v/\SimC cfg m v c)
  (h':∀ (i:Nat) x,l'[i]?=some x->∀ (j:Nat) c,(cfg.enc T x)[j]?=some c->∃ v,vs'[i*cfg.sz T+j]?=some v/\SimC cfg m v c):
  ∀ (i:Nat) x,(l++l')[i]?=some x->∀ (j:Nat) c,(cfg.enc T x)[j]?=some c->∃ v,(vs++vs')[i*cfg.sz T+j]?=some v/\SimC cfg m v c:=by
 intro i x b j c hc
 have hj:j < cfg.sz T:=by have:=(Q2.1 hc).1;rw [henc] at this;exact this
 rw [Qs] at b
 split at b
 .grind
 .rename_i u
  obtain ⟨v,h1,s⟩:=h' _ x b j c hc
  refine ⟨v,?_,s⟩
  have e1:l.length*cfg.sz T<=i*cfg.sz T:=Q7 _ V1
  rw [Qj V1,hl,<-h1]
  congr 1
  rw [K7];omega
theorem Z9N (ok:CfgOk P cfg) (h:Rel cfg B st g a w) {o:Oper} {t:TypeId} {p q:Operand} {T:U.Ty} {n m:Int} {ag:Bool} {zs:List (C U)} {z:U.El T} (ho:o.op= .makeSlice t p q)
  (hT:cfg.slT t=some T) (hp:a.eval p= .int .i64 n) (hq:a.eval q= .int .i64 m) (hz:cfg.var (cfg.elT T)=some (ag,zs)) (hd:cfg.dec T zs=some z)
  (hn:0<=n/\n*cfg.bytes T<=140737488355328/\n<=9223372036854775807) (hm:m=n):
  Does P o a w fun v w'=> ∃ g',Out cfg B st g { val:=some (.c (.slice T (List.replicate n.toNat z) .full)) } v w' g':=by
 have aq:=hm.symm
 subst aq
 obtain ⟨k,rfl⟩:=QP hn.1
 simp only [XX] at*
 rw [X9]
 obtain ⟨hE,hU⟩:=YA ok hT
 obtain ⟨i,a3,a0,z',h1,h2,h3,h4,h5,h6⟩:=ok.el T
 rw [hz] at h5
 simp only [oP] at h5
 obtain ⟨rfl,rfl⟩:=h5
 obtain ⟨b,aa,hZ⟩:=Z0Q ok hz w
 have ao:b=z':=by
  simp [zeroValue,typeInfo,h1,h4] at aa;exact aa.symm
 subst ao
 have u:=Js (g:=g) (st:=st) (cfg:=cfg) hZ
 have al:b.cells.size=cfg.sz T:=by have:=u.1;simp at this;omega
 have ay:=ok.sz_pos T
 obtain ⟨bb,au⟩:=Z7T ok hd u.1 (fun j v c h1 h2=> u.sim h1 h2)
 let arr:Array Value:=(Array.range (k*cfg.sz T)).map (b.cells[· % b.cells.size]!)
 obtain ⟨g',ab⟩:=Z4k (T:=T) (l:=List.replicate k z) (arr:=arr) (d:=0) (kl:=[]) h (SameHeap.refl w) (P.elem t) (cap:=k) (tl:= .full) (by simp) (by simp [arr]) (.inr ⟨rfl,by simp⟩) (ok.enc_len T)
  (by
   intro i x hx j c hc
   obtain ⟨hi,hx⟩:=Q2.1 hx
   simp at hx hi
   subst hx
   obtain ⟨v,h7,h8⟩:=au j c hc
   have hj:j < cfg.sz T:=by have:=(Q2.1 hc).1;rw [ok.enc_len] at this;exact this
   have a7:i*cfg.sz T+j < k*cfg.sz T:=by
    have:(i+1)*cfg.sz T<=k*cfg.sz T:=Q7 _ V1
    rw [Qt] at this;omega
   refine ⟨v,?_,h8⟩
   have h9:b.cells[j]?=some v:=by rw [<-h7];simp
   have a6:j < b.cells.size:=V1
   have e:(i*cfg.sz T+j) % b.cells.size=j:=by rw [al,Xg,XR,XM hj]
   grind)
 rw [X5] at ab
 refine .inl ⟨_,_,?_,g',ab⟩
 have ae:=Yx ok T w
 rw [<-hE] at ae aa
 have s:(typeInfo (P.elem t)).run P w= .ok i w:=by rw [hE];simp [typeInfo,h1]
 have hw:IntKind.i64.wrap (k:Int)=k:=by simp [IntKind.wrap,IntKind.signed,IntKind.bits];omega
 have ah:¬(281474976710656 < (i.bytes:Int)*(k:Int)):=by
  rw [h3,Int.mul_comm];have:=hn.2.1;omega
 have af:¬(k:Int) < 0:=V1
 simp only [execOp,ho]
 apply Z6Y
 simp only [hp,hq]
 by_cases h0:k*cfg.sz T=0
 .have ai:arr=#[]:=by simp only [arr,h0];simp
  simp [Instr.makeSlice,run_underlying hU,asInt,asIntOf,s,hw,ah,af,ae,h0,newRow,ai]
  grind
 .have ar:(decide ((k:Int) < 0) || decide ((i.bytes:Int)*(k:Int) > 2 ^ 48) || decide ((k:Int) < 0) || decide ((k:Int) > (k:Int)))=false:=by
   simp [ah,af]
  simp only [Instr.makeSlice,Sem.run_bind,run_underlying hU,Result.andThen_ok,asInt,asIntOf,Sem.run_pure,s,hw,ar]
  simp only [Xi,if_false,Sem.run_bind,run_askRoom,Result.andThen_ok,ae,X9,h0,aa,Sem.run_pure]
  try rfl
open Classical in
noncomputable def Gh.grown(g:Gh)(w':World)(b:Addr)(lo mid hi:Nat)(t:Tok):Gh:=
 {m:=fun c=> if ∃ j,lo<=j/\j < mid/\c=b.add j then w'.cell? c else g.m c
  tag:=fun c=> if ∃ j,lo<=j/\j < mid/\c=b.add j then none else if ∃ j,mid<=j/\j < hi/\c=b.add j then some (.tok t) else g.tag c
  ad:=g.ad
  bs:=g.bs }
theorem Z9V (ok:CfgOk P cfg) (h:Rel cfg B st g a w) {T:U.Ty} {l l':List (U.El T)} {tl:Tail} {b:Addr} {len cap n:Nat} {vs:List Value} {d:Nat} {kl:List Tok}
  (hx:RelC cfg g st.dead (.slice (some b) len cap) (.slice T l tl)) (hl:l.length=len) (hc:len<=cap) (hfit:len+n<=cap) (hln:l'.length=n)
  (hvl:vs.length=n*cfg.sz T) (hvo:∀ v∈vs,v.oneCell'=true)
  (hvr:∀ (i:Nat) x,l'[i]?=some x->∀ (j:Nat) c,(cfg.enc T x)[j]?=some c->∃ v,vs[i*cfg.sz T+j]?=some v/\SimC cfg g.m v c)
  (htl:(tl= .full/\kl=[])\/∃ u,tl= .own u/\st.dead u=false/\kl=[u]):
  ∃ w' g',(storeCells (b.add (len*cfg.sz T)) vs).run P w= .ok () w'/\Out cfg B st g { val:=some (.c (.slice T (l++l') (.own (.r d 0)))),kill:=kl } (.slice (some b) (len+n) cap) w' g':=by
 have bj:(len+n)*cfg.sz T=len*cfg.sz T+n*cfg.sz T:=Qt ..
 have bh:(len+n)*cfg.sz T<=cap*cfg.sz T:=Q7 _ hfit
 have ak:∀ j,len*cfg.sz T<=j->j < cap*cfg.sz T->∃ u,kl=[u]/\g.tag (b.add j)=some (.tok u):=by
  intro j h1 h2
  rcases htl with ⟨rfl,_⟩ | ⟨u,rfl,hu,rfl⟩
  .have:=hx.2 _ _ _ rfl
   subst this
   omega
  .exact ⟨u,rfl,hx.2 hu b len cap rfl j h1 h2⟩
 obtain ⟨w',h1,h2,h3,h4,h5,h6⟩:=YB (P:=P) (b.add (len*cfg.sz T)) vs 0 w hvo (by
  intro j hj
  rw [Go.Deep.add_add,QB]
  obtain ⟨u,_,ht⟩:=ak (len*cfg.sz T+j) V1 V1
  obtain ⟨h7,v,h8⟩:=h.inv.it _ _ ht
  exact ⟨⟨v,h8⟩,h7⟩)
 simp only [QB,Go.Deep.add_add] at h2 h3 h4
 let g':=g.grown w' b (len*cfg.sz T) ((len+n)*cfg.sz T) (cap*cfg.sz T) (.r d 0)
 have hS:∀ c,(∃ j,len*cfg.sz T<=j/\j < cap*cfg.sz T/\c=b.add j)->∃ u,kl=[u]/\g.tag c=some (.tok u):=by
  rintro c ⟨j,ao,am,rfl⟩
  exact ak j ao am
 have bm:∀ c,(∃ j,len*cfg.sz T<=j/\j < (len+n)*cfg.sz T/\c=b.add j)->∃ v,w'.cell? c=some v:=by
  rintro c ⟨j,ao,am,rfl⟩
  have:=h3 (j - len*cfg.sz T) _ (Q0 V1)
  rw [show len*cfg.sz T+(j - len*cfg.sz T)=j by omega] at this
  exact ⟨_,this⟩
 have ax:∀ c v,g.m c=some v->w'.cell? c=some v/\¬(∃ j,len*cfg.sz T<=j/\j < cap*cfg.sz T/\c=b.add j):=by
  intro c v hv
  obtain ⟨h7,h8⟩:=h.inv.im c v hv
  have ah:¬(∃ j,len*cfg.sz T<=j/\j < cap*cfg.sz T/\c=b.add j):=fun hc=> by
   obtain ⟨u,_,h9⟩:=hS c hc
   rw [h8] at h9;cases h9
  refine ⟨?_,ah⟩
  rw [h4 c fun j hj e=> ah ⟨_,V1,V1,e⟩]
  exact h7
 have aq:∀ c v,g.m c=some v->g'.m c=some v:=by
  intro c v hv
  have:=(ax c v hv).2
  simp only [g',Gh.grown]
  rw [if_neg (fun ⟨j,a1,a2,a3⟩=> this ⟨j,a1,V1,a3⟩)]
  exact hv
 have ae:∀ c,¬(∃ j,len*cfg.sz T<=j/\j < cap*cfg.sz T/\c=b.add j)->g'.tag c=g.tag c:=by
  intro c ah
  simp only [g',Gh.grown]
  rw [if_neg (fun ⟨j,a1,a2,a3⟩=> ah ⟨j,a1,V1,a3⟩),if_neg (fun ⟨j,a1,a2,a3⟩=> ah ⟨j,V1,a2,a3⟩)]
 have a8:Inv g'.m g'.tag w':=by
  refine ⟨fun c v hv=> ?_,fun c t ht=> ?_⟩
  .simp only [g',Gh.grown] at hv ⊢
   split at hv
   .rename_i hc
    rw [if_pos hc]
    exact ⟨hv,rfl⟩
   .rename_i hc
    rw [if_neg hc]
    obtain ⟨h7,h8⟩:=ax c v hv
    refine ⟨h7,?_⟩
    rw [if_neg (fun ⟨j,a1,a2,a3⟩=> h8 ⟨j,V1,a2,a3⟩)]
    exact (h.inv.im c v hv).2
  .have ar:∀ t',g.tag c=some t'->w'.frozen? c=false/\∃ v,w'.cell? c=some v:=by
    intro t' be
    obtain ⟨h7,u,h8⟩:=h.inv.it c t' be
    exact ⟨(h5 c).trans h7,h2.some c u h8⟩
   simp only [g',Gh.grown] at ht
   split at ht
   .cases ht
   .split at ht
    .rename_i hc
     obtain ⟨j,a1,a2,a3⟩:=hc
     obtain ⟨u,_,h7⟩:=hS c ⟨j,V1,a2,a3⟩
     exact ar _ h7
    .exact ar t ht
 have ai:Keeps g g' st.dead (fun t=> st.dead t || kl.contains t) (fun nm=> (st.mem nm).isSome) (fun nm=> (st.mem nm).isSome):=by
  refine ⟨aq,fun c t hd ht=> ?_,fun t ht=> ?_,fun nm hn=> ⟨hn,rfl⟩,fun _ _ _ h=> h,fun _=> rfl⟩
  .rw [ae c ?_]
   .exact ht
   .intro hc
    obtain ⟨u,hu,h7⟩:=hS c hc
    rw [ht] at h7
    cases h7
    rw [hu] at hd
    simp at hd
  .simp only [QA] at ht
   exact ht.1
 refine ⟨w',g',h1,a8,?_,ai,?_,?_,h.ls_keep rfl ai (fun c v hv=> (ax c v hv).1) (fun c t hd ht=> ?_),h.fresh_keep rfl (fun _=> rfl)⟩
 .refine h.fr.step h.inv h2 ?_ aq ?_ ?_ (fun _=> rfl)
  .rintro c ⟨j,hj,rfl⟩
   obtain ⟨u,_,ht⟩:=ak (len*cfg.sz T+j) V1 V1
   exact ⟨_,ht,fun t' e=> by cases e⟩
  .intro c t
   by_cases hc:∃ j,len*cfg.sz T<=j/\j < cap*cfg.sz T/\c=b.add j
   .obtain ⟨u,_,h7⟩:=hS c hc
    constructor
    .intro h8;rw [h7] at h8;cases h8
    .intro h8
     simp only [g',Gh.grown] at h8
     split at h8
     .cases h8
     .split at h8
      .cases h8
      .exact h8
   .rw [ae c hc]
  .intro bb _ a6 o s
   refine ae _ fun hc=> ?_
   obtain ⟨u,_,h7⟩:=hS _ hc
   obtain ⟨t',h8⟩:=a6 _ _ _ h7
   cases h8
 .intro nm cs hm j c hj
  obtain ⟨v,h7,h8,h9⟩:=h.mem nm cs hm j c hj
  have ah:¬(∃ i,len*cfg.sz T<=i/\i < cap*cfg.sz T/\(g.ad nm).add j=b.add i):=fun hc=> by
   obtain ⟨u,_,aw⟩:=hS _ hc
   rw [h8] at aw;cases aw
  refine ⟨v,?_,(ae _ ah).trans h8,h9.keep ai⟩
  show w'.cell? ((g.ad nm).add j)=some v
  rw [h4 _ fun i hi e=> ah ⟨_,V1,V1,e⟩]
  exact h7
 .refine ⟨.of_rows _ (by simp [hl,hln]) hfit ?_,?_⟩
  .obtain ⟨us,a7,bf,bd⟩:=Z2e ok hx.1
   have:=Z1O (m:=g.m) (vs:=us) (vs':=vs) (by rw [a7,hl]) (ok.enc_len T) bd hvr
   intro i x hi j c hj
   obtain ⟨v,h7,h8⟩:=this i x hi j c hj
   refine ⟨v,?_,h8.mono aq⟩
   by_cases hlt:i*cfg.sz T+j < len*cfg.sz T
   .rw [Qv V1] at h7
    exact aq _ _ (bf _ _ h7).1
   .rw [Qj V1,a7] at h7
    have h9:=h3 _ _ h7
    rw [show len*cfg.sz T+(i*cfg.sz T+j - len*cfg.sz T)=i*cfg.sz T+j by omega] at h9
    have aw:=(Q2.1 h7).1
    simp only [g',Gh.grown]
    rw [if_pos ⟨i*cfg.sz T+j,V1,V1,rfl⟩]
    exact h9
  .intro _ b' bl bn hv j ao am
   simp only [Value.slice.injEq,Option.some.injEq] at hv
   obtain ⟨rfl,rfl,rfl⟩:=hv
   simp only [g',Gh.grown]
   rw [if_neg (fun ⟨i,a1,a2,a3⟩=> by have:=Z0o a3;omega),if_pos ⟨j,ao,am,rfl⟩]
 .refine h4 c fun j hj e=> ?_
  obtain ⟨u,hu,h7⟩:=ak (len*cfg.sz T+j) V1 V1
  rw [e,h7] at ht
  cases ht
  rw [hu] at hd
  simp [Zh] at hd
theorem Z4f(w:World)(need old:Nat)(e:TypeId):need<=grownCap w need old e:=by
 exact Nat.le_add_right _ _
theorem ZgJ (ok:CfgOk P cfg) (h:Rel cfg B st g a w) {o:Oper} {d:Nat} {t:TypeId} {x y:C U} {px py:Operand} {ps:List Prop} {e:Eff U}
  (ho:o.op= .call { callee:= .builtin .append,args:=#[px,py],argTypes:=#[t,t] })
  (hx:RelC cfg g st.dead (a.eval px) x) (hy:RelC cfg g st.dead (a.eval py) y) (he:Z5s cfg st d t x y=some (ps,e)) (hps:All ps):
  Does P o a w fun v w'=> ∃ g',Out cfg B st g e v w' g':=by
 unfold Z5s at he
 split at he
 .cases he
 rename_i T hT
 split at he
 case h_2=> cases he
 rename_i l tl l' cf bx bn
 obtain ⟨hE,hU⟩:=YA ok hT
 obtain ⟨ax,b,len,cap,a5,hl,hc,hb⟩:=Z2G hx bx
 obtain ⟨a9,b',n,ai,bf,ah,ct,b0⟩:=Z2G hy bn
 rw [a5] at ax
 rw [bf] at a9
 have bw:P.underlying t=some (.slice (cfg.elT T)):=by rw [hE] at hU;exact hU
 obtain ⟨i,ag,zs,z,hi,bc,ck,hz,bb,cl⟩:=ok.el T
 have ae:(l.length+l'.length)*cfg.bytes T<=140737488355328:=by
  split at he
  .cases he
  .simp only [oP] at he;rw [<-he.1] at hps;exact hps.1
  .split at he
   .cases he
   .simp only [oP] at he;rw [<-he.1] at hps;exact hps.1
 have av:∃ kl,e={ val:=some (.c (.slice T (l++l') (.own (.r d 0)))),kill:=kl }/\((tl= .full/\kl=[])\/∃ u,tl= .own u/\st.dead u=false/\kl=[u]):=by
  split at he
  .cases he
  .simp only [oP] at he;exact ⟨[],he.2.symm,.inl ⟨rfl,rfl⟩⟩
  .split at he
   .cases he
   .rename_i u _ hu
    simp only [oP] at he
    exact ⟨[u],he.2.symm,.inr ⟨u,rfl,by simpa using hu,rfl⟩⟩
 obtain ⟨kl,rfl,av⟩:=av
 rw [hl,ah] at ae
 have bk:=ok.bytes_pos T
 have b9:len+n<=140737488355328:=X3 (XG _ bk) ae
 have a4:∃ vs:List Value,vs.length=n*cfg.sz T/\(∀ v∈vs,v.oneCell'=true)/\(∀ w:World,(∀ c v,g.m c=some v->w.cell? c=some v)->(Builtin.firstCells i.size n (.slice b' n ai)).run P w= .ok vs.toArray w)/\
   (∀ (k:Nat) x,l'[k]?=some x->∀ (j:Nat) c,(cfg.enc T x)[j]?=some c->∃ v,vs[k*cfg.sz T+j]?=some v/\SimC cfg g.m v c)/\
   (∀ a',b'=some a'->∀ (j:Nat) v,vs[j]?=some v->g.m (a'.add j)=some v):=by
  cases b' with
  | none=>
   obtain ⟨rfl,rfl⟩:=b0 rfl
   have af:l'=[]:=Q3 ah
   subst af
   exact ⟨[],by simp,by simp,fun w _=> run_firstCells_none w _ _ _ _,fun k x hx=> by simp at hx,fun a' ha=> by cases ha⟩
  | some a'=>
   obtain ⟨vs,h1,h2,h3⟩:=Z2e ok a9.1
   refine ⟨vs,h1,fun v hv=> ?_,fun w hw=> ?_,h3,fun cb ha j v hv=> ?_⟩
   .obtain ⟨j,hj,rfl⟩:=Xe hv
    exact (h2 j _ (Q0 hj)).2
   .exact run_firstCells_some w i.size n a' n ai vs (by grind) (fun j v hv=> hw _ _ (h2 j v hv).1)
   grind
 obtain ⟨vs,a8,bm,aa,be,cc⟩:=a4
 have au:∀ c v,g.m c=some v->w.cell? c=some v:=fun c v hv=> (h.inv.im c v hv).1
 have s:(execOp a.eval o).run P w=((Builtin.append_ #[t,t] o.type #[.slice b len cap,.slice b' n ai]).run P w).andThen fun v w=> .ok (.value v) w:=by
  simp only [execOp,ho,resolve,Sem.run_bind,Sem.run_pure,Result.andThen_ok,invoke,builtin]
  simp [a5,bf]
 have ar:∀ w,(underlying t).run P w= .ok (.slice (cfg.elT T)) w:=fun w=> run_underlying bw w
 by_cases hfit:len+n<=cap
 .cases b with
  | none=>
   obtain ⟨rfl,rfl⟩:=hb rfl
   have br:n=0:=V1
   subst br
   have af:l=[]:=Q3 hl
   have bq:l'=[]:=Q3 ah
   subst af bq
   have bu:vs=[]:=Q3 V1
   subst bu
   have a1:Keeps g g st.dead (Zh st ({ val:=some (.c (.slice T ([]++[]) (.own (.r d 0)))),kill:=kl }:Eff U)) (fun nm=> (st.mem nm).isSome) (ZJ st ({ val:=some (.c (.slice T ([]++[]) (.own (.r d 0)))),kill:=kl }:Eff U)):=
    ⟨fun _ _ h=> h,fun _ _ _ h=> h,fun t ht=> by simp only [Zh,QA] at ht;exact ht.1,fun nm hn=> ⟨hn,rfl⟩,fun _ _ _ h=> h,fun _=> rfl⟩
   refine .inl ⟨.slice none 0 0,w,?_,g,h.inv,h.fr,a1,?_,⟨.snil T _,fun _ a len cap hv=> by simp at hv⟩,h.ls_keep rfl a1 (fun c v hv=> (h.inv.im c v hv).1) (fun _ _ _ _=> rfl),h.fresh_keep rfl (fun _=> rfl)⟩
   .rw [s]
    simp [Builtin.append_,ar,sizeOf,typeInfo,hi,Builtin.lenOf,aa w au]
   .intro nm cs hm j c hj
    obtain ⟨v,h7,h8,h9⟩:=h.mem nm cs hm j c hj
    exact ⟨v,h7,h8,h9.keep a1⟩
  | some b=>
   obtain ⟨w',g',h1,h2⟩:=Z9V (P:=P) (d:=d) ok h ax hl hc hfit ah a8 bm be av
   refine .inl ⟨_,w',?_,g',h2⟩
   rw [s]
   rw [<-bc] at h1
   simp [Builtin.append_,ar,sizeOf,typeInfo,hi,Builtin.lenOf,aa w au,hfit,h1]
 .have a0:cap < len+n:=V1
  have bo:0 < n:=V1
  have b8:¬((len+n:Nat):Int) > 9223372036854775807:=V1
  have bj:Builtin.nextslicecap (len+n) cap*i.bytes<=281474976710656:=growslice_fits a0 (by grind)
  have ay:=Z4f w (len+n) cap (cfg.elT T)
  have a3:∃ us:List Value,us.length=len*cfg.sz T/\(∀ w:World,(∀ c v,g.m c=some v->w.cell? c=some v)->(Builtin.firstCells i.size len (.slice b len cap)).run P w= .ok us.toArray w)/\
    ∀ (k:Nat) x,l[k]?=some x->∀ (j:Nat) c,(cfg.enc T x)[j]?=some c->∃ v,us[k*cfg.sz T+j]?=some v/\SimC cfg g.m v c:=by
   cases b with
   | none=>
    obtain ⟨rfl,rfl⟩:=hb rfl
    have af:l=[]:=Q3 hl
    subst af
    exact ⟨[],by simp,fun w _=> run_firstCells_none w _ _ _ _,fun k x hx=> by simp at hx⟩
   | some b=>
    obtain ⟨us,h1,h2,h3⟩:=Z2e ok ax.1
    exact ⟨us,h1,fun w hw=> run_firstCells_some w i.size len b len cap us (by grind) (fun j v hv=> hw _ _ (h2 j v hv).1),h3⟩
  obtain ⟨us,ak,a2,bi⟩:=a3
  have bz:z.cells.size=cfg.sz T:=by
   obtain ⟨z',a6,hZ⟩:=Z0Q ok bb w
   have:z'=z:=by simp [zeroValue,typeInfo,hi,hz] at a6;exact a6.symm
   subst this
   have:=(Js (g:=g) (st:=st) (cfg:=cfg) hZ).1;simp at this;omega
  let nc:=grownCap w (len+n) cap (cfg.elT T)
  let arr:Array Value:=us.toArray++vs.toArray++Builtin.zeroCells z.cells (nc - (len+n))
  have cr:len+n<=nc:=ay
  have a7:arr.size=nc*cfg.sz T:=by
   have e1:(len+n)*cfg.sz T+(nc - (len+n))*cfg.sz T=nc*cfg.sz T:=by rw [<-Qt];congr 1;omega
   rw [Qt] at e1
   simp [arr,Builtin.zeroCells,ak,a8,bz]
   omega
  have ao:=Z1O (m:=g.m) (vs:=us) (vs':=vs) (by rw [ak,hl]) (ok.enc_len T) bi be
  obtain ⟨g',al⟩:=Z4k (T:=T) (l:=l++l') (arr:=arr) (d:=d) (kl:=kl) h (SameHeap.drew w) (cfg.elT T) (cap:=nc) (tl:= .own (.r d 0)) (by grind) a7 (.inl rfl) (ok.enc_len T)
   (fun k x hx j c hc=> by
    obtain ⟨v,h1,h2⟩:=ao k x hx j c hc
    grind)
  rw [show (l++l').length=len+n by simp [hl,ah]] at al
  refine .inl ⟨_,_,?_,g',al⟩
  have bd:∀ c v,g.m c=some v->w.drew.cell? c=some v:=fun c v hv=> (au c v hv)
  rw [s]
  have bv:¬(Builtin.nextslicecap (len+n) cap*i.bytes > 2 ^ 48):=V1
  have cm:¬i.bytes=0:=V1
  have bt:¬((9223372036854775807:Int) < (len:Int)+(n:Int)):=V1
  simp [Builtin.append_,ar,sizeOf,typeInfo,zeroValue,hi,hz,Builtin.lenOf,hfit,bt,bv,Question.forced,a2 w.drew bd,aa w.drew bd,newRow]
  refine ⟨rfl,?_⟩
  simp only [arr,nc,grownCap,XZ]
def Gh.setBs(g:Gh)(t:Tok)(v:Value × Nat):Gh:={ g with bs:=fun u=> if u=t then some v else g.bs u }
theorem Fr.setBs{t:Tok}{v:Value × Nat}(h:Fr B g w):Fr B (g.setBs t v) w:=⟨h.stay,h.xad,h.mono,h.outer,h.outer',h.clean,h.frz⟩
theorem Keeps.setBs{g':Gh}{dead dead2:Tok->Bool}{live live2:Name->Bool}{t:Tok}{v:Value × Nat}(k:Keeps g g' dead dead2 live live2)(hf:g.bs t=none):Keeps g (g'.setBs t v) dead dead2 live live2:=
 ⟨k.m,k.tok,k.dead,k.ad,fun u x h b=> by
  simp only [Gh.setBs]
  split
  .grind
  .exact k.bs u x h b,k.adx⟩
def ZA(d:Nat)(T:U.Ty)(l:List (U.El T))(f:Nat)(kl:List Tok):Eff U:={ val:=some (.c (.mref (.r d 0))),kill:=kl,ls:=[(.r d 0,⟨T,l,f⟩)] }
theorem Z8y{d:Nat}{T:U.Ty}{l:List (U.El T)}{f:Nat}{kl:List Tok}{t:Tok}{x:LC U}(h:J8 st.ls (ZA d T l f kl) t=some x):
  (t= .r d 0/\x=⟨T,l,f⟩)\/(t≠.r d 0/\st.ls t=some x/\kl.contains t=false):=by
 unfold J8 at h
 cases hk:kl.contains t with
 | true=> simp only [ZA,hk,cond_true,reduceCtorEq] at h
 | false=>
  simp only [ZA,hk,cond_false,Zn] at h
  grind
theorem Z1u{d:Nat}{T:U.Ty}{l:List (U.El T)}{f:Nat}{kl:List Tok}{t:Tok}(h:J8 st.ls (ZA d T l f kl) t=none)(hd:Zh st (ZA d T l f kl) t=false):
  t≠.r d 0/\st.ls t=none/\st.dead t=false:=by
 simp only [Zh,QA] at hd
 unfold J8 at h
 rw [hd.2] at h
 simp only [ZA,cond_false,Zn] at h
 grind
theorem Z3a (h:Rel cfg B st g a w) {w1:World} (hw:SameHeap w w1) {T:U.Ty} {l:List (U.El T)} {arr:Array Value} (e:TypeId) {cap d f:Nat} {kl:List Tok}
  (hcap:l.length<=cap) (hf:f<=l.length) (hsz:arr.size=cap*cfg.sz T) (henc:∀ x,(cfg.enc T x).length=cfg.sz T)
  (hls:st.ls (.r d 0)=none) (hdd:st.dead (.r d 0)=false) (hkl:kl.contains (.r d 0)=false)
  (hrows:∀ i x,l[i]?=some x->∀ j c,(cfg.enc T x)[j]?=some c->∃ v,arr[i*cfg.sz T+j]?=some v/\SimC cfg g.m v c):
  ∃ g',Out cfg B st g (ZA d T l f kl) (.slice (some ⟨w.heap.size,0,none⟩) l.length cap) (w1.alloc (.cells arr e)) g':=by
 let im:Nat->Bool:=fun i=> decide (i < f*cfg.sz T)
 let tg:Nat->Option Tag:=fun i=> if f*cfg.sz T<=i/\i < arr.size then some (.tok (.r d 0)) else none
 obtain ⟨h1,h2,h3,h4,h5⟩:=Zjs h hw arr e im tg g.ad (by
  grind) (fun _ _=> rfl) (fun _=> rfl)
 have b:=h.fresh (.r d 0) rfl hls hdd
 have ah:Keeps g (g.new w.heap.size arr im tg g.ad) st.dead (Zh st (ZA d T l f kl)) (fun nm=> (st.mem nm).isSome) (ZJ st (ZA d T l f kl)):=h3 kl.contains _ (fun nm hs=> hs)
 have hk:=ah.setBs (t:= .r d 0) (v:=(.slice (some ⟨w.heap.size,0,none⟩) l.length cap,cfg.sz T)) b
 have ae:Zh st (ZA d T l f kl) (.r d 0)=false:=by simp only [Zh,ZA,hdd,hkl,Xh]
 refine ⟨(g.new w.heap.size arr im tg g.ad).setBs (.r d 0) (.slice (some ⟨w.heap.size,0,none⟩) l.length cap,cfg.sz T),h1,h2.setBs,hk,?_,⟨.mref _ _ ⟨rfl,rfl⟩,fun _=> ⟨cfg.sz T,by simp [Gh.setBs]⟩⟩,?_,?_⟩
 .intro nm cs hm j c hj
  refine ZfX h hk h5 ?_ nm cs hm j c hj
  intro c t ht
  have:=h.inv.lt ht
  simp only [Gh.setBs,Gh.new]
  grind
 .intro t x hx
  rcases Z8y hx with ⟨rfl,rfl⟩ | ⟨hne,hx,hkt⟩
  .refine ⟨ae,.inr ⟨⟨w.heap.size,0,none⟩,l.length,cap,by simp [Gh.setBs],rfl,hcap,hf,?_,?_⟩⟩
   .intro i y hy j c hc
    obtain ⟨v,u,h7⟩:=hrows i y hy j c hc
    have hi:i < l.length:=(Q2.1 hy).1
    have hj:j < cfg.sz T:=by have:=(Q2.1 hc).1;rw [henc] at this;exact this
    have az:i*cfg.sz T+j < arr.size:=(QE.1 u).1
    simp only [Addr.add_lit,QB]
    refine ⟨v,(h4 _).trans u,h7.mono hk.m,fun s=> ?_,fun s=> ?_⟩
    .have:(i+1)*cfg.sz T<=f*cfg.sz T:=Q7 _ s
     rw [Qt] at this
     simp only [Gh.setBs,Gh.new,and_self,if_true,im]
     grind
    .have:f*cfg.sz T<=i*cfg.sz T:=Q7 _ s
     simp only [Gh.setBs,Gh.new,and_self,if_true,tg]
     grind
   .intro j a1 a2
    dsimp only at a1 a2
    have:f*cfg.sz T<=l.length*cfg.sz T:=Q7 _ hf
    simp only [Addr.add_lit,QB]
    simp only [Gh.setBs,Gh.new,and_self,if_true,tg]
    grind
  .obtain ⟨u,h7⟩:=h.ls t x hx
   have hd:Zh st (ZA d T l f kl) t=false:=by simp only [Zh,ZA,u,hkt,Xh]
   exact ⟨hd,h7.keep hk hd (fun c v hv=> h5 _ _ (h.inv.im c v hv).1) (fun c ht=> by obtain ⟨_,v,hv⟩:=h.inv.it c _ ht;grind)⟩
 .intro t h0 u h7
  obtain ⟨h8,h9,aj⟩:=Z1u u h7
  simp only [Gh.setBs]
  rw [if_neg h8]
  exact h.fresh t h0 h9 aj
structure Src (cfg:Cfg U) (g:Gh) (w:World) (T:U.Ty) (l:List (U.El T)) (f:Nat) (kl:List Tok) (b:Addr) (len cap:Nat):Prop where
 hl:l.length=len
 hc:len<=cap
 hf:f<=len
 rows:∀ i y,l[i]?=some y->∀ j c,(cfg.enc T y)[j]?=some c->∃ u,w.cell? (b.add (i*cfg.sz T+j))=some u/\SimC cfg g.m u c/\
  (i < f->g.m (b.add (i*cfg.sz T+j))=some u)/\(f<=i->∃ t,kl=[t]/\g.tag (b.add (i*cfg.sz T+j))=some (.tok t))
 tail:∀ j,len*cfg.sz T<=j->j < cap*cfg.sz T->∃ t,kl=[t]/\g.tag (b.add j)=some (.tok t)
theorem Src.own(ok:CfgOk P cfg){T:U.Ty}{l:List (U.El T)}{f:Nat}{kl:List Tok}{b:Addr}{len cap:Nat}(s:Src cfg g w T l f kl b len cap):
  ∀ j,f*cfg.sz T<=j->j < cap*cfg.sz T->∃ t,kl=[t]/\g.tag (b.add j)=some (.tok t):=by
 intro j h1 h2
 have h:=ok.sz_pos T
 rcases Xu j (len*cfg.sz T) with h3 | h3
 .have hi:j / cfg.sz T < l.length:=by rw [s.hl];exact Xn (by grind)
  have aa:j % cfg.sz T < (cfg.enc T (l[j / cfg.sz T])).length:=by rw [ok.enc_len];exact XE _ h
  obtain ⟨u,_,_,_,h4⟩:=s.rows _ _ (Q0 hi) _ _ (Q0 aa)
  have e:j / cfg.sz T*cfg.sz T+j % cfg.sz T=j:=by rw [Xg];exact XB _ _
  rw [e] at h4
  exact h4 ((XO h).2 h1)
 .exact s.tail j h3 h2
theorem Src.list(ok:CfgOk P cfg){T:U.Ty}{l:List (U.El T)}{f:Nat}{kl:List Tok}{b:Addr}{len cap:Nat}(s:Src cfg g w T l f kl b len cap):
  ∃ vs:List Value,vs.length=len*cfg.sz T/\(∀ (j:Nat) v,vs[j]?=some v->w.cell? (b.add j)=some v)/\
   ∀ (i:Nat) x,l[i]?=some x->∀ (j:Nat) c,(cfg.enc T x)[j]?=some c->∃ v,vs[i*cfg.sz T+j]?=some v/\SimC cfg g.m v c:=by
 have h:=ok.sz_pos T
 let fn:Nat->Value:=fun j=> (w.cell? (b.add j)).getD undef
 have hf:∀ j,j < len*cfg.sz T->w.cell? (b.add j)=some (fn j):=by
  intro j hj
  have hi:j / cfg.sz T < l.length:=by rw [s.hl];exact Xn (by grind)
  have u:j % cfg.sz T < (cfg.enc T (l[j / cfg.sz T])).length:=by rw [ok.enc_len];exact XE _ h
  obtain ⟨v,h1,_⟩:=s.rows _ _ (Q0 hi) _ _ (Q0 u)
  have e:j / cfg.sz T*cfg.sz T+j % cfg.sz T=j:=by rw [Xg];exact XB _ _
  rw [e] at h1
  simp only [fn,h1,Xz]
 refine ⟨(List.range (len*cfg.sz T)).map fn,by simp,?_,?_⟩
 .grind
 .intro i x hx j c hc
  obtain ⟨v,h1,h2,_⟩:=s.rows i x hx j c hc
  have hi:i < l.length:=(Q2.1 hx).1
  have hj:j < cfg.sz T:=by have:=(Q2.1 hc).1;rw [ok.enc_len] at this;exact this
  have af:i*cfg.sz T+j < len*cfg.sz T:=by
   have:(i+1)*cfg.sz T<=len*cfg.sz T:=Q7 _ (by have:=s.hl;omega)
   rw [Qt] at this;omega
  grind
open Classical in
noncomputable def Gh.renamed(g:Gh)(b:Addr)(lo hi:Nat)(t:Tok)(v:Value × Nat):Gh:=
 {m:=g.m
  tag:=fun c=> if ∃ j,lo<=j/\j < hi/\c=b.add j then some (.tok t) else g.tag c
  ad:=g.ad
  bs:=fun u=> if u=t then some v else g.bs u }
theorem Z5J (ok:CfgOk P cfg) (h:Rel cfg B st g a w) {T:U.Ty} {l l':List (U.El T)} {b:Addr} {f len cap n:Nat} {vs:List Value} {d:Nat} {kl:List Tok}
  (s:Src cfg g w T l f kl b len cap) (hfit:len+n<=cap) (hln:l'.length=n)
  (hvl:vs.length=n*cfg.sz T) (hvo:∀ v∈vs,v.oneCell'=true)
  (hvr:∀ (i:Nat) x,l'[i]?=some x->∀ (j:Nat) c,(cfg.enc T x)[j]?=some c->∃ v,vs[i*cfg.sz T+j]?=some v/\SimC cfg g.m v c)
  (hls:st.ls (.r d 0)=none) (hdd:st.dead (.r d 0)=false) (hkl:kl.contains (.r d 0)=false):
  ∃ w' g',(storeCells (b.add (len*cfg.sz T)) vs).run P w= .ok () w'/\Out cfg B st g (ZA d T (l++l') f kl) (.slice (some b) (len+n) cap) w' g':=by
 have bj:(len+n)*cfg.sz T=len*cfg.sz T+n*cfg.sz T:=Qt ..
 have bf:(len+n)*cfg.sz T<=cap*cfg.sz T:=Q7 _ hfit
 have bt:f*cfg.sz T<=len*cfg.sz T:=Q7 _ s.hf
 have ak:=s.own ok
 have hl:=s.hl
 obtain ⟨w',h1,h2,h3,h4,h5,h6⟩:=YB (P:=P) (b.add (len*cfg.sz T)) vs 0 w hvo (by
  intro j hj
  rw [Go.Deep.add_add,QB]
  obtain ⟨u,_,ht⟩:=s.tail (len*cfg.sz T+j) V1 V1
  obtain ⟨h7,v,h8⟩:=h.inv.it _ _ ht
  exact ⟨⟨v,h8⟩,h7⟩)
 simp only [QB,Go.Deep.add_add] at h2 h3 h4
 let g':=g.renamed b (f*cfg.sz T) (cap*cfg.sz T) (.r d 0) (.slice (some b) (len+n) cap,cfg.sz T)
 have aw:=h.fresh (.r d 0) rfl hls hdd
 have bd:Zh st (ZA d T (l++l') f kl) (.r d 0)=false:=by simp only [Zh,ZA,hdd,hkl,Xh]
 have aj:∀ c,(∃ t,g.tag c=some t/\∀ u,kl=[u]->t≠.tok u)\/g.tag c=none->¬∃ j,f*cfg.sz T<=j/\j < cap*cfg.sz T/\c=b.add j:=by
  rintro c hc ⟨j,a1,a2,rfl⟩
  obtain ⟨u,hu,ht⟩:=ak j a1 a2
  rcases hc with ⟨t,h7,h8⟩ | h7
  .rw [ht] at h7;cases h7;exact h8 u hu rfl
  .rw [ht] at h7;cases h7
 have ab:∀ c,(¬∃ j,f*cfg.sz T<=j/\j < cap*cfg.sz T/\c=b.add j)->g'.tag c=g.tag c:=by
  intro c hc
  simp only [g',Gh.renamed]
  rw [if_neg hc]
 have ai:∀ c,(¬∃ j,f*cfg.sz T<=j/\j < cap*cfg.sz T/\c=b.add j)->w'.cell? c=w.cell? c:=by
  intro c hc
  exact h4 c fun j hj e=> hc ⟨_,V1,V1,e⟩
 have a7:∀ c v,g.m c=some v->w'.cell? c=some v:=by
  intro c v hv
  obtain ⟨h7,h8⟩:=h.inv.im c v hv
  rw [ai c (aj c (.inr h8))]
  exact h7
 have a4:∀ t,Zh st (ZA d T (l++l') f kl) t=false->∀ u,kl=[u]->t≠u:=by
  intro t ht u hu e
  subst e
  simp [Zh,ZA,hu] at ht
 have ae:Keeps g g' st.dead (Zh st (ZA d T (l++l') f kl)) (fun nm=> (st.mem nm).isSome) (ZJ st (ZA d T (l++l') f kl)):=by
  refine ⟨fun _ _ h=> h,fun c t hd ht=> ?_,fun t ht=> ?_,fun nm hn=> ⟨hn,rfl⟩,fun t v hd hv=> ?_,fun _=> rfl⟩
  .rw [ab c (aj c (.inl ⟨_,ht,fun u hu e=> by cases e;exact a4 _ hd _ hu rfl⟩))]
   exact ht
  .simp only [Zh,QA] at ht
   exact ht.1
  .simp only [g',Gh.renamed]
   split
   .rename_i e;subst e;rw [aw] at hv;cases hv
   .exact hv
 refine ⟨w',g',h1,⟨fun c v hv=> ?_,fun c t ht=> ?_⟩,?_,ae,?_,⟨.mref _ _ ⟨rfl,rfl⟩,fun _=> ⟨cfg.sz T,by simp [g',Gh.renamed]⟩⟩,?_,?_⟩
 .exact ⟨a7 c v hv,by rw [ab c (aj c (.inr (h.inv.im c v hv).2))];exact (h.inv.im c v hv).2⟩
 .have ar:∀ t',g.tag c=some t'->w'.frozen? c=false/\∃ v,w'.cell? c=some v:=by
   intro t' a9
   obtain ⟨h7,u,h8⟩:=h.inv.it c t' a9
   exact ⟨(h5 c).trans h7,h2.some c u h8⟩
  by_cases hc:∃ j,f*cfg.sz T<=j/\j < cap*cfg.sz T/\c=b.add j
  .obtain ⟨j,a1,a2,rfl⟩:=hc
   obtain ⟨u,_,h7⟩:=ak j a1 a2
   exact ar _ h7
  .rw [ab c hc] at ht
   exact ar t ht
 .refine h.fr.step h.inv h2 ?_ (fun _ _ h=> h) ?_ ?_ (fun _=> rfl)
  .rintro c ⟨j,hj,rfl⟩
   obtain ⟨u,_,ht⟩:=s.tail (len*cfg.sz T+j) V1 V1
   exact ⟨_,ht,fun t' e=> by cases e⟩
  .intro c t
   by_cases hc:∃ j,f*cfg.sz T<=j/\j < cap*cfg.sz T/\c=b.add j
   .have h8:g'.tag c=some (.tok (.r d 0)):=by simp only [g',Gh.renamed];rw [if_pos hc]
    obtain ⟨j,a1,a2,rfl⟩:=hc
    obtain ⟨u,_,h7⟩:=ak j a1 a2
    rw [h7,h8]
    constructor <;> intro e <;> cases e
   .rw [ab c hc]
  .intro bb _ a3 o sp
   refine ab _ fun hc=> ?_
   obtain ⟨j,a1,a2,e⟩:=hc
   obtain ⟨u,_,h7⟩:=ak j a1 a2
   rw [<-e] at h7
   obtain ⟨t',h8⟩:=a3 _ _ _ h7
   cases h8
 .intro nm cs hm j c hj
  obtain ⟨v,h7,h8,h9⟩:=h.mem nm cs hm j c hj
  have a6:=aj _ (.inl ⟨_,h8,fun u _ e=> by cases e⟩)
  exact ⟨v,(ai _ a6).trans h7,(ab _ a6).trans h8,h9.keep ae⟩
 .intro t x hx
  rcases Z8y hx with ⟨rfl,rfl⟩ | ⟨hne,hx,hkt⟩
  .refine ⟨bd,.inr ⟨b,len+n,cap,by simp [g',Gh.renamed],by simp [hl,hln],hfit,by have:=s.hf;simp only;omega,?_,?_⟩⟩
   .intro i y hy j c hc
    simp only at hy hc ⊢
    have hj:j < cfg.sz T:=by have:=(Q2.1 hc).1;rw [ok.enc_len] at this;exact this
    have hi:i < len+n:=by have:=(Q2.1 hy).1;simp [hl,hln] at this;exact this
    have bv:i*cfg.sz T+j < (len+n)*cfg.sz T:=by
     have:(i+1)*cfg.sz T<=(len+n)*cfg.sz T:=Q7 _ hi
     rw [Qt] at this;omega
    have av:f<=i->g'.tag (b.add (i*cfg.sz T+j))=some (.tok (.r d 0)):=by
     intro bi
     have:f*cfg.sz T<=i*cfg.sz T:=Q7 _ bi
     simp only [g',Gh.renamed]
     rw [if_pos ⟨_,V1,V1,rfl⟩]
    rw [Qs] at hy
    split at hy
    .rename_i bl
     obtain ⟨u,h7,h8,h9,a5⟩:=s.rows i y hy j c hc
     refine ⟨u,?_,h8.mono ae.m,h9,av⟩
     have bk:i*cfg.sz T+j < len*cfg.sz T:=by
      have:(i+1)*cfg.sz T<=len*cfg.sz T:=Q7 _ V1
      rw [Qt] at this;omega
     rw [h4 _ fun j' bu e=> by have:=Z0o e;omega]
     exact h7
    .rename_i be
     rw [hl] at hy be
     obtain ⟨u,h7,h8⟩:=hvr _ y hy j c hc
     have e1:len*cfg.sz T<=i*cfg.sz T:=Q7 _ V1
     have h9:=h3 _ _ h7
     rw [show len*cfg.sz T+((i - len)*cfg.sz T+j)=i*cfg.sz T+j by rw [K7];omega] at h9
     exact ⟨u,h9,h8.mono ae.m,fun bo=> by have:=s.hf;omega,av⟩
   .intro j a1 a2
    dsimp only at a1 a2
    simp only [g',Gh.renamed]
    rw [if_pos ⟨j,V1,a2,rfl⟩]
  .obtain ⟨h7,h8⟩:=h.ls t x hx
   have hd:Zh st (ZA d T (l++l') f kl) t=false:=by simp only [Zh,ZA,h7,hkt,Xh]
   exact ⟨hd,h8.keep ae hd a7 (fun c ht=> ai c (aj c (.inl ⟨_,ht,fun u hu e=> by cases e;exact a4 _ hd _ hu rfl⟩)))⟩
 .intro t h0 h7 h8
  obtain ⟨h9,a5,bc⟩:=Z1u h7 h8
  simp only [g',Gh.renamed]
  rw [if_neg h9]
  exact h.fresh t h0 a5 bc
theorem Zia(h:Rel cfg B st g a w){T:U.Ty}{d:Nat}{kl:List Tok}(hls:st.ls (.r d 0)=none)(hdd:st.dead (.r d 0)=false)(hkl:kl.contains (.r d 0)=false):
  Out cfg B st g (ZA d T [] 0 kl) (.slice none 0 0) w (g.setBs (.r d 0) (.slice none 0 0,cfg.sz T)):=by
 have b:=h.fresh (.r d 0) rfl hls hdd
 have af:Zh st (ZA d T [] 0 kl) (.r d 0)=false:=by simp only [Zh,ZA,hdd,hkl,Xh]
 have ah:Keeps g g st.dead (Zh st (ZA d T [] 0 kl)) (fun nm=> (st.mem nm).isSome) (ZJ st (ZA d T [] 0 kl)):=
  ⟨fun _ _ h=> h,fun _ _ _ h=> h,fun t ht=> by simp only [Zh,QA] at ht;exact ht.1,fun nm hn=> ⟨hn,rfl⟩,fun _ _ _ h=> h,fun _=> rfl⟩
 have hk:=ah.setBs (t:= .r d 0) (v:=(.slice none 0 0,cfg.sz T)) b
 refine ⟨h.inv,h.fr.setBs,hk,?_,⟨.mref _ _ ⟨rfl,rfl⟩,fun _=> ⟨cfg.sz T,by simp [Gh.setBs]⟩⟩,?_,?_⟩
 .intro nm cs hm j c hj
  obtain ⟨v,s,u,h9⟩:=h.mem nm cs hm j c hj
  exact ⟨v,s,u,h9.keep hk⟩
 .intro t x hx
  rcases Z8y hx with ⟨rfl,rfl⟩ | ⟨hne,hx,hkt⟩
  .exact ⟨af,.inl ⟨by simp [Gh.setBs],rfl,rfl⟩⟩
  .obtain ⟨s,u⟩:=h.ls t x hx
   have hd:Zh st (ZA d T [] 0 kl) t=false:=by simp only [Zh,ZA,s,hkt,Xh]
   exact ⟨hd,u.keep hk hd (fun c v hv=> (h.inv.im c v hv).1) (fun _ _=> rfl)⟩
 .intro t h0 s u
  obtain ⟨h9,aj,ae⟩:=Z1u s u
  simp only [Gh.setBs]
  rw [if_neg h9]
  exact h.fresh t h0 aj ae
theorem Zer(h:Rel cfg B st g a w){T:U.Ty}{x:C U}{l:List (U.El T)}{f:Nat}{u:Option Tok}{v:Value}(hx:RelC cfg g st.dead v x)(he:Z5M cfg st T x=some (l,f,u)):
  ∃ b len aa,v= .slice b len aa/\l.length=len/\len<=aa/\(b=none->len=0/\aa=0/\f=0)/\(∀ b',b=some b'->Src cfg g w T l f u.toList b' len aa):=by
 have af:(∀ t,x≠.mref t)->(match Zdl cfg T x with
   | some (l,.full)=> some (l,l.length,none)
   | some (l,.own t)=> if st.dead t then none else some (l,l.length,some t)
   | _=> none)=some (l,f,u)->∃ b len aa,v= .slice b len aa/\l.length=len/\len<=aa/\(b=none->len=0/\aa=0/\f=0)/\(∀ b',b=some b'->Src cfg g w T l f u.toList b' len aa):=by
  intro _ he
  cases hs:Zdl cfg T x with
  | none=> grind
  | some p=>
   obtain ⟨l0,tl⟩:=p
   rw [hs] at he
   obtain ⟨ah,b,len,aa,rfl,hl,hc,hb⟩:=Z2G hx hs
   have ao:∀ b',b=some b'->∀ i y,l0[i]?=some y->∀ j c,(cfg.enc T y)[j]?=some c->∃ u,w.cell? (b'.add (i*cfg.sz T+j))=some u/\SimC cfg g.m u c/\g.m (b'.add (i*cfg.sz T+j))=some u:=by
    rintro b' rfl i y hy j c hc
    obtain ⟨u,h1,h2⟩:=ah.1.rows i y hy j c hc
    exact ⟨u,(h.inv.im _ _ h1).1,h2,h1⟩
   cases tl with
   | unk=> cases he
   | full=>
    simp only [oP] at he
    obtain ⟨rfl,rfl,rfl⟩:=he
    refine ⟨b,len,aa,rfl,hl,hc,fun e=> ⟨(hb e).1,(hb e).2,by grind⟩,fun b' e=> ⟨hl,hc,V1,fun i y hy j c aq=> ?_,fun j a1 a2=> ?_⟩⟩
    .grind
    .have:=ah.2 _ _ _ rfl
     grind
   | own t=>
    simp only at he
    split at he
    .cases he
    .rename_i hd
     simp only [oP] at he
     obtain ⟨rfl,rfl,rfl⟩:=he
     refine ⟨b,len,aa,rfl,hl,hc,fun e=> ⟨(hb e).1,(hb e).2,by grind⟩,fun b' e=> ⟨hl,hc,V1,fun i y hy j c aq=> ?_,fun j a1 a2=> ?_⟩⟩
     .grind
     .subst e
      exact ⟨t,rfl,ah.2 (by simpa using hd) b' len aa rfl j a1 a2⟩
 cases x with
 | mref t=>
  simp only [Z5M] at he
  split at he
  .rename_i y hy
   split at he
   .rename_i hT _
    subst hT
    simp only [oP] at he
    obtain ⟨rfl,rfl,rfl⟩:=he
    obtain ⟨hd,hL⟩:=h.ls t y hy
    obtain ⟨s,hs⟩:=hx.2 hd
    rcases hL with ⟨h4,h5,h6⟩ | ⟨b,len,aa,h4,h5,h6,h7,h8,h9⟩
    .grind
    .rw [hs] at h4
     cases h4
     refine ⟨some b,len,aa,rfl,h5,h6,fun e=> (by cases e),fun b' e=> ?_⟩
     cases e
     refine ⟨h5,h6,h7,fun i y hy j c hc=> ?_,fun j a1 a2=> ⟨t,rfl,h9 j a1 a2⟩⟩
     grind
   .cases he
  .cases he
 | _=> exact af (fun t e=> by cases e) he
theorem Zdn (ok:CfgOk P cfg) (h:Rel cfg B st g a w) {o:Oper} {d:Nat} {t:TypeId} {x y:C U} {px py:Operand} {ps:List Prop} {e:Eff U}
  (ho:o.op= .call { callee:= .builtin .append,args:=#[px,py],argTypes:=#[t,t] })
  (hx:RelC cfg g st.dead (a.eval px) x) (hy:RelC cfg g st.dead (a.eval py) y) (he:Z2I cfg st d t x y=some (ps,e)) (hps:All ps):
  Does P o a w fun v w'=> ∃ g',Out cfg B st g e v w' g':=by
 unfold Z2I at he
 split at he
 .cases he
 rename_i T hT
 split at he
 case h_2=> cases he
 rename_i l f u l' cf b2 bp
 split at he
 case isFalse=> cases he
 rename_i a6
 simp only [Q1,Qu,QG] at a6
 obtain ⟨⟨au,aw⟩,a1⟩:=a6
 simp only [oP] at he
 obtain ⟨rfl,rfl⟩:=he
 obtain ⟨hE,hU⟩:=YA ok hT
 obtain ⟨b,len,cap,bl,hl,hc,hb,ah⟩:=Zer h hx b2
 obtain ⟨bb,b',n,aj,bf,af,cn,b4⟩:=Z2G hy bp
 rw [bf] at bb
 have b0:P.underlying t=some (.slice (cfg.elT T)):=by rw [hE] at hU;exact hU
 obtain ⟨i,ag,zs,z,hi,ar,cg,hz,bc,ch⟩:=ok.el T
 have ab:(l.length+l'.length)*cfg.bytes T<=140737488355328:=hps.1
 rw [hl,af] at ab
 have bm:=ok.bytes_pos T
 have ca:len+n<=140737488355328:=X3 (XG _ bm) ab
 have a7:∃ vs:List Value,vs.length=n*cfg.sz T/\(∀ v∈vs,v.oneCell'=true)/\(∀ w:World,(∀ c v,g.m c=some v->w.cell? c=some v)->(Builtin.firstCells i.size n (.slice b' n aj)).run P w= .ok vs.toArray w)/\
   (∀ (k:Nat) x,l'[k]?=some x->∀ (j:Nat) c,(cfg.enc T x)[j]?=some c->∃ v,vs[k*cfg.sz T+j]?=some v/\SimC cfg g.m v c):=by
  cases b' with
  | none=>
   obtain ⟨rfl,rfl⟩:=b4 rfl
   have ae:l'=[]:=Q3 af
   subst ae
   exact ⟨[],by simp,by simp,fun w _=> run_firstCells_none w _ _ _ _,fun k x hx=> by simp at hx⟩
  | some a'=>
   obtain ⟨vs,h1,h2,h3⟩:=Z2e ok bb.1
   refine ⟨vs,h1,fun v hv=> ?_,fun w hw=> ?_,h3⟩
   .obtain ⟨j,hj,rfl⟩:=Xe hv
    exact (h2 j _ (Q0 hj)).2
   .exact run_firstCells_some w i.size n a' n aj vs (by grind) (fun j v hv=> hw _ _ (h2 j v hv).1)
 obtain ⟨vs,ba,bo,aa,bd⟩:=a7
 have ax:∀ c v,g.m c=some v->w.cell? c=some v:=fun c v hv=> (h.inv.im c v hv).1
 have s:(execOp a.eval o).run P w=((Builtin.append_ #[t,t] o.type #[.slice b len cap,.slice b' n aj]).run P w).andThen fun v w=> .ok (.value v) w:=by
  simp only [execOp,ho,resolve,Sem.run_bind,Sem.run_pure,Result.andThen_ok,invoke,builtin]
  simp [bl,bf]
 have av:∀ w,(underlying t).run P w= .ok (.slice (cfg.elT T)) w:=fun w=> run_underlying b0 w
 have be:({ val:=some (.c (.mref (.r d 0))),kill:=u.toList,ls:=[(.r d 0,⟨T,l++l',f⟩)] }:Eff U)=ZA d T (l++l') f u.toList:=rfl
 rw [be]
 by_cases hfit:len+n<=cap
 .cases b with
  | none=>
   obtain ⟨rfl,rfl,rfl⟩:=hb rfl
   have bu:n=0:=V1
   subst bu
   have ae:l=[]:=Q3 hl
   have br:l'=[]:=Q3 af
   subst ae br
   have bw:vs=[]:=Q3 V1
   subst bw
   refine .inl ⟨.slice none 0 0,w,?_,_,Zia h au aw a1⟩
   rw [s]
   simp [Builtin.append_,av,sizeOf,typeInfo,hi,Builtin.lenOf,aa w ax]
  | some b=>
   obtain ⟨w',g',h1,h2⟩:=Z5J (P:=P) (d:=d) ok h (ah b rfl) hfit af ba bo bd au aw a1
   refine .inl ⟨_,w',?_,g',h2⟩
   rw [s]
   rw [<-ar] at h1
   simp [Builtin.append_,av,sizeOf,typeInfo,hi,Builtin.lenOf,aa w ax,hfit,h1]
 .have a0:cap < len+n:=V1
  have bq:0 < n:=V1
  have b9:¬((len+n:Nat):Int) > 9223372036854775807:=V1
  have bk:Builtin.nextslicecap (len+n) cap*i.bytes<=281474976710656:=growslice_fits a0 (by grind)
  have az:=Z4f w (len+n) cap (cfg.elT T)
  have a5:∃ us:List Value,us.length=len*cfg.sz T/\(∀ w':World,(∀ c v,w.cell? c=some v->w'.cell? c=some v)->(Builtin.firstCells i.size len (.slice b len cap)).run P w'= .ok us.toArray w')/\
    ∀ (k:Nat) x,l[k]?=some x->∀ (j:Nat) c,(cfg.enc T x)[j]?=some c->∃ v,us[k*cfg.sz T+j]?=some v/\SimC cfg g.m v c:=by
   cases b with
   | none=>
    obtain ⟨rfl,rfl,rfl⟩:=hb rfl
    have ae:l=[]:=Q3 hl
    subst ae
    exact ⟨[],by simp,fun w _=> run_firstCells_none w _ _ _ _,fun k x hx=> by simp at hx⟩
   | some b=>
    obtain ⟨us,h1,h2,h3⟩:=(ah b rfl).list ok
    exact ⟨us,h1,fun w' hw=> run_firstCells_some w' i.size len b len cap us (by rw [ar];exact h1) (fun j v hv=> hw _ _ (h2 j v hv)),h3⟩
  obtain ⟨us,ao,a2,bj⟩:=a5
  have b3:z.cells.size=cfg.sz T:=by
   obtain ⟨z',a8,hZ⟩:=Z0Q ok bc w
   have:z'=z:=by simp [zeroValue,typeInfo,hi,hz] at a8;exact a8.symm
   subst this
   have:=(Js (g:=g) (st:=st) (cfg:=cfg) hZ).1;simp at this;omega
  let nc:=grownCap w (len+n) cap (cfg.elT T)
  let arr:Array Value:=us.toArray++vs.toArray++Builtin.zeroCells z.cells (nc - (len+n))
  have cm:len+n<=nc:=az
  have a9:arr.size=nc*cfg.sz T:=by
   have e1:(len+n)*cfg.sz T+(nc - (len+n))*cfg.sz T=nc*cfg.sz T:=by rw [<-Qt];congr 1;omega
   rw [Qt] at e1
   simp [arr,Builtin.zeroCells,ao,ba,b3]
   omega
  have bx:f<=(l++l').length:=by
   rw [Qa]
   cases b with
   | none=> grind
   | some b=> have:=(ah b rfl).hf;omega
  have bi:=Z1O (m:=g.m) (vs:=us) (vs':=vs) (by rw [ao,hl]) (ok.enc_len T) bj bd
  obtain ⟨g',aq⟩:=Z3a (T:=T) (l:=l++l') (arr:=arr) (d:=d) (kl:=u.toList) (f:=f) h (SameHeap.drew w) (cfg.elT T) (cap:=nc) (by grind) bx a9 (ok.enc_len T) au aw a1
   (fun k x hx j c hc=> by
    grind)
  rw [show (l++l').length=len+n by simp [hl,af]] at aq
  refine .inl ⟨_,_,?_,g',aq⟩
  have b1:∀ c v,g.m c=some v->w.drew.cell? c=some v:=fun c v hv=> (ax c v hv)
  have bh:∀ c v,w.cell? c=some v->w.drew.cell? c=some v:=fun _ _ hv=> hv
  rw [s]
  have bz:¬(Builtin.nextslicecap (len+n) cap*i.bytes > 2 ^ 48):=V1
  have cj:¬i.bytes=0:=V1
  have bv:¬((9223372036854775807:Int) < (len:Int)+(n:Int)):=V1
  simp [Builtin.append_,av,sizeOf,typeInfo,zeroValue,hi,hz,Builtin.lenOf,hfit,bv,bz,Question.forced,a2 w.drew bh,aa w.drew b1,newRow]
  refine ⟨rfl,?_⟩
  simp only [arr,nc,grownCap,XZ]
theorem Zdm (ok:CfgOk P cfg) (h:Rel cfg B st g a w) {o:Oper} {d:Nat} {t t':TypeId} {x y:C U} {px py:Operand} {ps:List Prop} {e:Eff U}
  (ho:o.op= .call { callee:= .builtin .append,args:=#[px,py],argTypes:=#[t,t'] })
  (hx:RelC cfg g st.dead (a.eval px) x) (hy:RelC cfg g st.dead (a.eval py) y) (he:Z2H cfg st d t t' x y=some (ps,e)) (hps:All ps):
  Does P o a w fun v w'=> ∃ g',Out cfg B st g e v w' g':=by
 unfold Z2H at he
 split at he
 case h_2=> cases he
 rename_i T m0 nn hT bp
 split at he
 case h_2=> cases he
 rename_i l f u zel cj bt
 split at he
 case isFalse=> cases he
 rename_i bh
 simp only [Q1,Qu,QG] at bh
 obtain ⟨⟨a2,a5⟩,bb⟩:=bh
 simp only [oP] at he
 obtain ⟨rfl,rfl⟩:=he
 obtain ⟨ba,ai⟩:=hps.1
 obtain ⟨n,rfl⟩:=QP ba
 simp only [XX,X9] at*
 obtain ⟨hE,hU⟩:=YA ok hT
 obtain ⟨b,len,cap,b0,hl,hc,hb,am⟩:=Zer h hx cj
 have ck:a.eval py= .int .i64 n:=by
  have h1:=hy.1
  generalize a.eval py=q at h1 ⊢
  cases h1;rfl
 have ch:P.underlying t=some (.slice (cfg.elT T)):=by rw [hE] at hU;exact hU
 obtain ⟨_,it,zt,dt,_,b6,_,cu,_,_,b8,_⟩:=ok.var _ _ _ bp
 have bo:=b8 rfl _ _ rfl
 subst bo
 obtain ⟨i,ag,zs,z,hi,al,ca,hz,a0,c4⟩:=ok.el T
 rw [a0] at bt
 have cb:cfg.dec T zs=some zel:=bt
 rw [hl] at ai
 have b1:=ok.bytes_pos T
 have aq:(len+n)*cfg.bytes T<=140737488355328:=by
  have:(((len+n)*cfg.bytes T:Nat):Int)<=140737488355328:=by rw [Int.natCast_mul,Int.natCast_add];exact ai
  omega
 have cq:len+n<=140737488355328:=X3 (XG _ b1) aq
 obtain ⟨s,bf,hZ⟩:=Z0Q ok a0 w
 have b9:s=z:=by simp [zeroValue,typeInfo,hi,hz] at bf;exact bf.symm
 subst b9
 have af:=Js (g:=g) (st:=st) (cfg:=cfg) hZ
 have av:s.cells.size=cfg.sz T:=by have:=af.1;simp at this;omega
 have bi:=ok.sz_pos T
 obtain ⟨_,b3⟩:=Z7T ok cb af.1 (fun j v c h1 h2=> af.sim h1 h2)
 have bj:∃ vs:List Value,vs.length=n*cfg.sz T/\(∀ v∈vs,v.oneCell'=true)/\(Builtin.zeroCells s.cells n).toList=vs/\
   (∀ (k:Nat) x,(List.replicate n zel)[k]?=some x->∀ (j:Nat) c,(cfg.enc T x)[j]?=some c->∃ v,vs[k*cfg.sz T+j]?=some v/\SimC cfg g.m v c):=by
  refine ⟨_,by simp [Builtin.zeroCells,av],?_,rfl,?_⟩
  .intro v hv
   simp only [Builtin.zeroCells,Xp,Xx] at hv
   obtain ⟨q,_,rfl⟩:=hv
   have hq:q % s.cells.size < s.cells.size:=XE _ V1
   rw [getElem!_pos s.cells _ hq]
   exact af.one _ (by simp)
  .intro k x hx j c hc
   obtain ⟨hk,hx⟩:=Q2.1 hx
   simp at hx hk
   subst hx
   obtain ⟨v,h7,h8⟩:=b3 j c hc
   have hj:j < cfg.sz T:=by have:=(Q2.1 hc).1;rw [ok.enc_len] at this;exact this
   have b7:k*cfg.sz T+j < n*cfg.sz T:=by
    have:(k+1)*cfg.sz T<=n*cfg.sz T:=Q7 _ V1
    rw [Qt] at this;omega
   refine ⟨v,?_,h8⟩
   have h9:s.cells[j]?=some v:=by rw [<-h7];simp
   have bn:j < s.cells.size:=V1
   have e:(k*cfg.sz T+j) % s.cells.size=j:=by rw [av,Xg,XR,XM hj]
   have cl:s.cells[j]! =v:=by
    rw [getElem!_pos s.cells j bn]
    rw [QH bn] at h9
    exact Option.some.inj h9
   have bm:k*cfg.sz T+j < n*s.cells.size:=by rw [av];exact b7
   simp [Builtin.zeroCells,bm,e,cl]
 obtain ⟨vs,bl,b5,bw,bq⟩:=bj
 have ax:Builtin.zeroCells s.cells n=vs.toArray:=by rw [<-bw]
 have cw:∀ c v,g.m c=some v->w.cell? c=some v:=fun c v hv=> (h.inv.im c v hv).1
 have aa:(execOp a.eval o).run P w=((Builtin.append_ #[t,t'] o.type #[.slice b len cap,.int .i64 n]).run P w).andThen fun v w=> .ok (.value v) w:=by
  simp only [execOp,ho,resolve,Sem.run_bind,Sem.run_pure,Result.andThen_ok,invoke,builtin]
  simp [b0,ck]
 have ar:∀ w,(underlying t).run P w= .ok (.slice (cfg.elT T)) w:=fun w=> run_underlying ch w
 have ae:∀ w,(underlying t').run P w= .ok (.int .i64) w:=fun w=> run_underlying b6 w
 have br:({ val:=some (.c (.mref (.r d 0))),kill:=u.toList,ls:=[(.r d 0,⟨T,l++List.replicate n zel,f⟩)] }:Eff U)=ZA d T (l++List.replicate n zel) f u.toList:=rfl
 rw [br]
 have ab:IntKind.i64.wrap (n:Int)=n:=by simp [IntKind.wrap,IntKind.signed,IntKind.bits];omega
 have ak:¬(n:Int) < 0:=V1
 have aj:¬(n:Int)*(i.bytes:Int) > 281474976710656:=by
  rw [ca]
  have:n*cfg.bytes T<=(len+n)*cfg.bytes T:=Q7 _ V1
  have:((n*cfg.bytes T:Nat):Int)<=140737488355328:=V1
  rw [Int.natCast_mul] at this
  omega
 have b2:(List.replicate n zel).length=n:=X5
 by_cases hfit:len+n<=cap
 .cases b with
  | none=>
   obtain ⟨rfl,rfl,rfl⟩:=hb rfl
   have ba:n=0:=V1
   subst ba
   have a4:l=[]:=Q3 hl
   subst a4
   refine .inl ⟨.slice none 0 0,w,?_,_,Zia h a2 a5 bb⟩
   rw [aa]
   simp [Builtin.append_,ar,ae,sizeOf,typeInfo,hi,asInt,asIntOf,ab]
   grind
  | some b=>
   obtain ⟨w',g',h1,h2⟩:=Z5J (P:=P) (d:=d) ok h (am b rfl) hfit b2 bl b5 bq a2 a5 bb
   refine .inl ⟨_,w',?_,g',h2⟩
   rw [aa]
   rw [<-al] at h1
   have a6:(zeroValue (cfg.elT T)).run P w= .ok s w:=by simp [zeroValue,typeInfo,hi,hz]
   by_cases h0:n*i.size=0
   .have ce:vs=[]:=Q3 (by grind)
    subst ce
    simp [Builtin.append_,ar,ae,sizeOf,typeInfo,hi,asInt,asIntOf,ab,ak,aj,hfit,h0,h1]
   .simp [Builtin.append_,ar,ae,sizeOf,typeInfo,hi,asInt,asIntOf,ab,ak,aj,hfit,h0,a6,ax,h1]
 .have a9:cap < len+n:=V1
  have a7:0 < n:=V1
  have cp:¬((len+n:Nat):Int) > 9223372036854775807:=V1
  have bz:Builtin.nextslicecap (len+n) cap*i.bytes<=281474976710656:=growslice_fits a9 (by grind)
  have a8:=Z4f w (len+n) cap (cfg.elT T)
  have bg:∃ us:List Value,us.length=len*cfg.sz T/\(∀ w':World,(∀ c v,w.cell? c=some v->w'.cell? c=some v)->(Builtin.firstCells i.size len (.slice b len cap)).run P w'= .ok us.toArray w')/\
    ∀ (k:Nat) x,l[k]?=some x->∀ (j:Nat) c,(cfg.enc T x)[j]?=some c->∃ v,us[k*cfg.sz T+j]?=some v/\SimC cfg g.m v c:=by
   cases b with
   | none=>
    obtain ⟨rfl,rfl,rfl⟩:=hb rfl
    have a4:l=[]:=Q3 hl
    subst a4
    exact ⟨[],by simp,fun w _=> run_firstCells_none w _ _ _ _,fun k x hx=> by simp at hx⟩
   | some b=>
    obtain ⟨us,h1,h2,h3⟩:=(am b rfl).list ok
    exact ⟨us,h1,fun w' hw=> run_firstCells_some w' i.size len b len cap us (by rw [al];exact h1) (fun j v hv=> hw _ _ (h2 j v hv)),h3⟩
  obtain ⟨us,ay,bd,bx⟩:=bg
  let nc:=grownCap w (len+n) cap (cfg.elT T)
  let arr:Array Value:=us.toArray++vs.toArray++Builtin.zeroCells s.cells (nc - (len+n))
  have c8:len+n<=nc:=a8
  have bk:arr.size=nc*cfg.sz T:=by
   have e1:(len+n)*cfg.sz T+(nc - (len+n))*cfg.sz T=nc*cfg.sz T:=by rw [<-Qt];congr 1;omega
   rw [Qt] at e1
   simp [arr,Builtin.zeroCells,ay,bl,av]
   omega
  have cf:f<=(l++List.replicate n zel).length:=by
   rw [Qa]
   cases b with
   | none=> grind
   | some b=> have:=(am b rfl).hf;omega
  have a3:=Z1O (m:=g.m) (vs:=us) (vs':=vs) (by rw [ay,hl]) (ok.enc_len T) bx bq
  obtain ⟨g',az⟩:=Z3a (T:=T) (l:=l++List.replicate n zel) (arr:=arr) (d:=d) (kl:=u.toList) (f:=f) h (SameHeap.drew w) (cfg.elT T) (cap:=nc) (by grind) cf bk (ok.enc_len T) a2 a5 bb
   (fun k x hx j c hc=> by
    obtain ⟨v,h1,h2⟩:=a3 k x hx j c hc
    grind)
  rw [show (l++List.replicate n zel).length=len+n by simp [hl]] at az
  refine .inl ⟨_,_,?_,g',az⟩
  have bv:∀ c v,w.cell? c=some v->w.drew.cell? c=some v:=fun _ _ hv=> hv
  rw [aa]
  have cg:¬(Builtin.nextslicecap (len+n) cap*i.bytes > 2 ^ 48):=V1
  have c5:¬i.bytes=0:=V1
  have cc:¬((9223372036854775807:Int) < (len:Int)+(n:Int)):=V1
  have h0:¬n*i.size=0:=by rw [al];have:=Nat.mul_pos a7 bi;omega
  have a6:∀ w:World,(zeroValue (cfg.elT T)).run P w= .ok s w:=fun w=> by simp [zeroValue,typeInfo,hi,hz]
  simp [Builtin.append_,ar,ae,sizeOf,typeInfo,hi,asInt,asIntOf,ab,ak,aj,hfit,cc,cg,h0,a6,ax,Question.forced,bd w.drew bv,newRow]
  refine ⟨rfl,?_⟩
  simp only [arr,nc,grownCap,XZ]
theorem Z8x (ok:CfgOk P cfg) (h:Rel cfg B st g a w) {o:Oper} {t:TypeId} {p q:Operand} {T:U.Ty} {n m:Int} {ag:Bool} {zs:List (C U)} {z:U.El T} {d:Nat} (hls:st.ls (.r d 0)=none) (hdd:st.dead (.r d 0)=false) (ho:o.op= .makeSlice t p q)
  (hT:cfg.slT t=some T) (hp:a.eval p= .int .i64 n) (hq:a.eval q= .int .i64 m) (hz:cfg.var (cfg.elT T)=some (ag,zs)) (hd:cfg.dec T zs=some z)
  (hn:0<=n/\n*cfg.bytes T<=140737488355328/\n<=9223372036854775807) (hm:m=n):
  Does P o a w fun v w'=> ∃ g',Out cfg B st g { val:=some (.c (.mref (.r d 0))),ls:=[(.r d 0,⟨T,List.replicate n.toNat z,0⟩)] } v w' g':=by
 have aq:=hm.symm
 subst aq
 obtain ⟨k,rfl⟩:=QP hn.1
 simp only [XX] at*
 rw [X9]
 obtain ⟨hE,hU⟩:=YA ok hT
 obtain ⟨i,a3,a0,z',h1,h2,h3,h4,h5,h6⟩:=ok.el T
 rw [hz] at h5
 simp only [oP] at h5
 obtain ⟨rfl,rfl⟩:=h5
 obtain ⟨b,aa,hZ⟩:=Z0Q ok hz w
 have ao:b=z':=by
  simp [zeroValue,typeInfo,h1,h4] at aa;exact aa.symm
 subst ao
 have u:=Js (g:=g) (st:=st) (cfg:=cfg) hZ
 have al:b.cells.size=cfg.sz T:=by have:=u.1;simp at this;omega
 have ay:=ok.sz_pos T
 obtain ⟨bb,au⟩:=Z7T ok hd u.1 (fun j v c h1 h2=> u.sim h1 h2)
 let arr:Array Value:=(Array.range (k*cfg.sz T)).map (b.cells[· % b.cells.size]!)
 obtain ⟨g',ab⟩:=Z3a (T:=T) (l:=List.replicate k z) (arr:=arr) (d:=d) (f:=0) (kl:=[]) h (SameHeap.refl w) (P.elem t) (cap:=k) (by simp) (by simp) (by simp [arr]) (ok.enc_len T) hls hdd rfl
  (by
   intro i x hx j c hc
   obtain ⟨hi,hx⟩:=Q2.1 hx
   simp at hx hi
   subst hx
   obtain ⟨v,h7,h8⟩:=au j c hc
   have hj:j < cfg.sz T:=by have:=(Q2.1 hc).1;rw [ok.enc_len] at this;exact this
   have a7:i*cfg.sz T+j < k*cfg.sz T:=by
    have:(i+1)*cfg.sz T<=k*cfg.sz T:=Q7 _ V1
    rw [Qt] at this;omega
   refine ⟨v,?_,h8⟩
   have h9:b.cells[j]?=some v:=by rw [<-h7];simp
   have a6:j < b.cells.size:=V1
   have e:(i*cfg.sz T+j) % b.cells.size=j:=by rw [al,Xg,XR,XM hj]
   grind)
 rw [X5] at ab
 refine .inl ⟨_,_,?_,g',ab⟩
 have ae:=Yx ok T w
 rw [<-hE] at ae aa
 have s:(typeInfo (P.elem t)).run P w= .ok i w:=by rw [hE];simp [typeInfo,h1]
 have hw:IntKind.i64.wrap (k:Int)=k:=by simp [IntKind.wrap,IntKind.signed,IntKind.bits];omega
 have ah:¬(281474976710656 < (i.bytes:Int)*(k:Int)):=by
  rw [h3,Int.mul_comm];have:=hn.2.1;omega
 have af:¬(k:Int) < 0:=V1
 simp only [execOp,ho]
 apply Z6Y
 simp only [hp,hq]
 by_cases h0:k*cfg.sz T=0
 .have ai:arr=#[]:=by simp only [arr,h0];simp
  simp [Instr.makeSlice,run_underlying hU,asInt,asIntOf,s,hw,ah,af,ae,h0,newRow,ai]
  grind
 .have ar:(decide ((k:Int) < 0) || decide ((i.bytes:Int)*(k:Int) > 2 ^ 48) || decide ((k:Int) < 0) || decide ((k:Int) > (k:Int)))=false:=by
   simp [ah,af]
  simp only [Instr.makeSlice,Sem.run_bind,run_underlying hU,Result.andThen_ok,asInt,asIntOf,Sem.run_pure,s,hw,ar]
  simp only [Xi,if_false,Sem.run_bind,run_askRoom,Result.andThen_ok,ae,X9,h0,aa,Sem.run_pure]
  try rfl
theorem Z7X (ok:CfgOk P cfg) (h:Rel cfg B st g a w) {o:Oper} {t:TypeId} {n:Nat} {parts:Array (Nat × Operand)} {T:U.Ty} {ps:List (Nat × V U)} {l:List (U.El T)} {d:Nat} (hls:st.ls (.r d 0)=none) (hdd:st.dead (.r d 0)=false) (ho:o.op= .buildSlice t n parts)
  (hT:cfg.slT t=some T) (hl:parts.size=ps.length) (hn:ps.length=n) (hsmall:n*cfg.sz T<=16777216)
  (hr:∀ (j:Nat) x y,parts[j]?=some x->ps[j]?=some y->x.1=y.1/\RelV cfg g st.dead (fun nm=> (st.mem nm).isSome) (a.eval x.2) y.2) (he:Yu cfg T 0 ps=some l):
  Does P o a w fun v w'=> ∃ g',Out cfg B st g { val:=some (.c (.mref (.r d 0))),ls:=[(.r d 0,⟨T,l,0⟩)] } v w' g':=by
 obtain ⟨hE,hU⟩:=YA ok hT
 obtain ⟨i,ag,zs,z,h1,h2,h3,h4,h5,h6⟩:=ok.el T
 obtain ⟨u,hz,hZ⟩:=Z0Q ok h5 w
 have ai:u=z:=by
  simp [zeroValue,typeInfo,h1,h4] at hz;exact hz.symm
 subst ai
 have aj:u.cells.size=cfg.sz T:=by have:=(Js (g:=g) (st:=st) (cfg:=cfg) hZ).1;simp at this;omega
 let vs0:Array Value:=if n*cfg.sz T=0 then (Array.range (n*cfg.sz T)).map ((#[]:Array Value)[· % 0]!) else (Array.range (n*cfg.sz T)).map (u.cells[· % u.cells.size]!)
 have ae:vs0.size=n*cfg.sz T:=by simp only [vs0];split <;> simp
 obtain ⟨aq,vs',h7,h8,_,h9⟩:=Z8L (g:=g) (st:=st) ok (parts.toList.map fun x=> (x.1,a.eval x.2)) ps 0 l vs0 he (by simpa using hl) (by
  grind) (by grind)
 have aa:l.length=n:=V1
 obtain ⟨g',b⟩:=Z3a (T:=T) (l:=l) (arr:=vs') (d:=d) (f:=0) (kl:=[]) h (SameHeap.refl w) (P.elem t) (cap:=n) V1 (QI _) (by rw [h8,ae]) (ok.enc_len T) hls hdd rfl
  (fun i x hx j c hc=> by grind)
 rw [aa] at b
 refine .inl ⟨_,_,?_,g',b⟩
 have ab:=Yx ok T w
 rw [<-hE] at ab hz
 simp only [execOp,ho]
 apply Z6Y
 simp only [Instr.buildSlice,Sem.run_bind,run_underlying hU,Result.andThen_ok,ab]
 rw [Y7]
 by_cases h0:n*cfg.sz T=0
 .simp only [h0,if_true]
  simp only [vs0,h0,if_true] at h7
  have s:Instr.fill (fun i=> some (i*cfg.sz T,cfg.sz T)) ((Array.range 0).map ((#[]:Array Value)[· % (#[]:Array Value).size]!)) (parts.map fun x=> (x.1,a.eval x.2)).toList=some vs':=by
   rw [Xp];exact h7
  simp only [Sem.run_bind,Sem.run_pure,Result.andThen_ok,s]
  try rfl
 .simp only [h0,if_false]
  simp only [vs0,h0,if_false] at h7
  have s:Instr.fill (fun i=> some (i*cfg.sz T,cfg.sz T)) ((Array.range (n*cfg.sz T)).map (u.cells[· % u.cells.size]!)) (parts.map fun x=> (x.1,a.eval x.2)).toList=some vs':=by
   rw [Xp];exact h7
  simp only [Sem.run_bind,Sem.run_pure,Result.andThen_ok,hz,s]
  try rfl
theorem ZeJ (ok:CfgOk P cfg) (h:Rel cfg B st g a w) {o:Oper} {t:TypeId} {p x:Operand} {ag:Bool} {zs new:List (C U)} {u:Tok} {y:LC U} {n off:Nat} {v:V U} {e:U.El y.T} (ho:o.op= .store t p x)
  (ht:cfg.var t=some (ag,zs)) (hp:RelV cfg g st.dead (fun nm=> (st.mem nm).isSome) (a.eval p) (.mp u n off)) (hv:RelV cfg g st.dead (fun nm=> (st.mem nm).isSome) (a.eval x) v)
  (hnew:v.cells=some new) (hy:st.ls u=some y) (hl:new.length=zs.length) (hf:y.f<=n)
  (hset:(Y2 (cfg.enc y.T (y.l.getD n (cfg.dflt y.T))) off new).bind (cfg.dec y.T)=some e):
  Does P o a w fun v w'=> ∃ g',Out cfg B st g { ls:=[(u,⟨y.T,y.l.set n e,y.f⟩)] } v w' g':=by
 obtain ⟨b,len,bc,bf,bl,hn,a0,ax,bj,ae,aq⟩:=ZqC h hy hp
 obtain ⟨bi,_⟩:=h.ls u y hy
 obtain ⟨hs,_,_⟩:=Z1L ok ht w
 have ak:=hv.cells hnew
 cases hsc:Y2 (cfg.enc y.T (y.l.getD n (cfg.dflt y.T))) off new with
 | none=> grind
 | some cs'=>
 rw [hsc] at hset
 have a6:cfg.dec y.T cs'=some e:=hset
 obtain ⟨bm,bo⟩:=ok.dec_ok _ _ _ a6
 have ba:y.l[n]?=some (y.l.getD n (cfg.dflt y.T)):=by simp [List.getD,Q0 hn]
 have bq:=ok.enc_len y.T (y.l.getD n (cfg.dflt y.T))
 have b2:off+new.length<=cfg.sz y.T:=by
  unfold Y2 at hsc
  split at hsc
  .omega
  .cases hsc
 have bb:(a.eval x).cells.toList.length=new.length:=ak.1
 have ai:∀ j,j < cfg.sz y.T->∃ u' c,(cfg.enc y.T (y.l.getD n (cfg.dflt y.T)))[j]?=some c/\w.cell? (b.add (n*cfg.sz y.T+j))=some u'/\SimC cfg g.m u' c/\g.tag (b.add (n*cfg.sz y.T+j))=some (.tok u):=by
  intro j hj
  have hg:(cfg.enc y.T (y.l.getD n (cfg.dflt y.T)))[j]?=some ((cfg.enc y.T (y.l.getD n (cfg.dflt y.T)))[j]'V1):=Q0 _
  obtain ⟨u',h1,h2,_,h4⟩:=ae n _ ba j _ hg
  exact ⟨u',_,hg,h1,h2,h4 hf⟩
 obtain ⟨w',h1,h2,h3,h4,h5,h6⟩:=YB (P:=P) (b.add (n*cfg.sz y.T+off)) (a.eval x).cells.toList 0 w ak.one (by
  intro j hj
  rw [Go.Deep.add_add,QB]
  obtain ⟨u',_,_,hu,_,ab⟩:=ai (off+j) V1
  rw [show n*cfg.sz y.T+(off+j)=n*cfg.sz y.T+off+j by omega] at hu ab
  exact ⟨⟨u',hu⟩,(h.inv.it _ _ ab).1⟩)
 simp only [QB,Go.Deep.add_add] at h2 h3 h4
 refine .inr (.inl ⟨w',?_,g,?_⟩)
 .have bk:(a.eval x).cells.size=zs.length:=by simpa using bb.trans hl
  simp only [execOp,ho,bl]
  simp [Instr.storeAt,Instr.sureAddr,storeVar,hs,bk,h1]
 .have ah:∀ c,(∃ j,j < (a.eval x).cells.toList.length/\c=b.add (n*cfg.sz y.T+off+j))->g.tag c=some (.tok u):=by
   rintro c ⟨j,hj,rfl⟩
   obtain ⟨_,_,_,_,_,ab⟩:=ai (off+j) V1
   rw [show n*cfg.sz y.T+(off+j)=n*cfg.sz y.T+off+j by omega] at ab
   exact ab
  have af:∀ c,g.tag c≠some (.tok u)->w'.cell? c=w.cell? c:=fun c hc=> h4 c fun j hj e=> hc (ah c ⟨j,hj,e⟩)
  have ay:∀ c v,g.m c=some v->w'.cell? c=some v:=fun c v hv=> by
   obtain ⟨h7,h8⟩:=h.inv.im c v hv
   grind
  have al:Zh st ({ ls:=[(u,⟨y.T,y.l.set n e,y.f⟩)] }:Eff U)=st.dead:=by funext t;simp [Zh]
  have ao:Keeps g g st.dead (Zh st ({ ls:=[(u,⟨y.T,y.l.set n e,y.f⟩)] }:Eff U)) (fun nm=> (st.mem nm).isSome) (ZJ st ({ ls:=[(u,⟨y.T,y.l.set n e,y.f⟩)] }:Eff U)):=by
   rw [al];exact .refl _ _ _
  refine ⟨⟨fun c v hv=> ⟨ay c v hv,(h.inv.im c v hv).2⟩,fun c t a2=> ?_⟩,?_,ao,?_,trivial,?_,?_⟩
  .obtain ⟨h7,u',h8⟩:=h.inv.it c t a2
   grind
  .exact h.fr.step h.inv h2 (fun c hc=> ⟨_,ah c hc,fun t' e=> by cases e⟩) (fun _ _ h=> h) (fun _ _=> XQ) (fun _ _ _ _ _=> rfl) (fun _=> rfl)
  .rw [al]
   intro nm bd hm j c hj
   obtain ⟨v0,b0,ab,bx⟩:=h.mem nm bd hm j c hj
   grind
  .intro t z hz
   rw [al]
   unfold J8 at hz
   simp only [Xt,cond_false,Zn] at hz
   split at hz
   .rename_i et
    subst et
    cases hz
    refine ⟨bi,.inr ⟨b,len,bc,bf,by simp [a0],ax,bj,?_,aq⟩⟩
    intro i q hq j c hc
    simp only at hq hc ⊢
    have hj:j < cfg.sz y.T:=by have:=(Q2.1 hc).1;rw [ok.enc_len] at this;exact this
    by_cases hin:i=n
    .subst hin
     rw [K0] at hq
     simp only [if_true,hn] at hq
     cases hq
     obtain ⟨u',c0,g1,g2,g3,g4⟩:=ai j hj
     have bp:cs'.length=cfg.sz y.T:=by rw [bm];exact ok.enc_len _ _
     have a3:cs'[j]?=some (cs'[j]'V1):=Q0 _
     have a5:=bo j _ c a3 hc
     have s:cs'[j]?=if off<=j/\j < off+new.length then new[j - off]? else (cfg.enc y.T (y.l.getD i (cfg.dflt y.T)))[j]?:=by
      unfold Y2 at hsc
      rw [V0] at hsc
      simp only [Option.some.injEq] at hsc
      rw [<-hsc,Ql,Qs]
      simp only [Qg]
      rw [Xj V1]
      split
      .grind
      .rename_i h7
       rw [Qs]
       split
       .rename_i h8;grind
       .rename_i h8
        rw [Y7,Qk]
        congr 1;omega
     rw [a3] at s
     split at s
     .rename_i hr
      have a1:(a.eval x).cells.toList[j - off]?=some ((a.eval x).cells.toList[j - off]'V1):=Q0 _
      have h7:=h3 (j - off) _ a1
      rw [show i*cfg.sz y.T+off+(j - off)=i*cfg.sz y.T+j by omega] at h7
      exact ⟨_,h7,(ak.2 _ _ _ a1 s.symm).1.wk a5,fun hi=> by omega,fun _=> g4⟩
     .rename_i hr
      rw [g1] at s
      cases s
      refine ⟨u',?_,g3.wk a5,fun hi=> by omega,fun _=> g4⟩
      rw [h4 _ fun j' bn e=> by have:=Z0o e;omega]
      exact g2
    .rw [List.getElem?_set_ne (Ne.symm hin)] at hq
     obtain ⟨u',g1,g2,g3,g4⟩:=ae i q hq j c hc
     refine ⟨u',?_,g2,g3,g4⟩
     rw [h4 _ fun j' bn e=> by
      have:=Z0o e
      rcases Xu i n with hlt | hge
      .have:(i+1)*cfg.sz y.T<=n*cfg.sz y.T:=Q7 _ hlt
       grind
      .have:(n+1)*cfg.sz y.T<=i*cfg.sz y.T:=Q7 _ V1
       grind]
     exact g1
   .rename_i b6
    obtain ⟨h7,h8⟩:=h.ls t z hz
    exact ⟨h7,h8.keep (.refl g st.dead (fun _=> true)) h7 ay (fun c a2=> af c (by grind))⟩
  .rw [al]
   intro t h0 h7 h8
   unfold J8 at h7
   simp only [Xt,cond_false,Zn] at h7
   split at h7
   .cases h7
   .exact h.fresh t h0 h7 h8
end Go.AM
namespace Go.AM
variable {U:Uni} {P:Program} {cfg:Cfg U} {B:Base} {st:FSt U} {g:Gh} {a:Act} {w:World}
def ZB:Tok->Bool:=fun _=> false
def Z7t(X:List (List (C U))):Name->Bool
 | .x k=> (X[k]?).isSome
 | .loc _=> false
structure Entry (cfg:Cfg U) (w:World) (g:Gh) (vs:List Value) (args:List (V U)) (X:List (List (C U))) (L:List (Tok × LC U)):Prop where
 inv:Inv g.m g.tag w
 tags:∀ a t,g.tag a=some t->(∃ t',t= .outer t')\/(∃ k,t= .obj (.x k))\/∃ u,t= .tok u
 len:vs.length=args.length
 args:∀ (j:Nat) v x,vs[j]?=some v->args[j]?=some x->RelV cfg g ZB (Z7t X) v x
 x:∀ (k:Nat) cs,X[k]?=some cs->∀ (j:Nat) c,cs[j]?=some c->∃ v,w.cell? ((g.ad (.x k)).add j)=some v/\g.tag ((g.ad (.x k)).add j)=some (.obj (.x k))/\RelC cfg g ZB v c
 bs:∀ t,t.isR=true->g.bs t=none
 ls:∀ t x,Zn (fun _=> none) L t=some x->LRel cfg w g t x
structure Leave (cfg:Cfg U) (w:World) (g:Gh) (w':World) (g':Gh) (v:Value) (r:V U) (X:List (List (C U))) (L:List (Tok × LC U)):Prop where
 inv:Inv g'.m g'.tag w'
 fr:Fr ⟨w,g.m,g.tag,fun k=> g'.ad (.x k)⟩ g' w'
 tags:∀ a t,g'.tag a=some t->(∃ t',t= .outer t')\/(∃ k,k < X.length/\t= .obj (.x k))\/∃ u,t= .tok u
 ad:∀ k,r≠.ptr (.x k) 0->g'.ad (.x k)=g.ad (.x k)
 val:RelV cfg g' ZB (fun _=> false) v r
 x:∀ (k:Nat) cs,X[k]?=some cs->∀ (j:Nat) c,cs[j]?=some c->∃ v,w'.cell? ((g'.ad (.x k)).add j)=some v/\g'.tag ((g'.ad (.x k)).add j)=some (.obj (.x k))/\RelC cfg g' ZB v c
 ls:∀ t x,Zn (fun _=> none) L t=some x->LRel cfg w' g' t x
def Contract(P:Program)(cfg:Cfg U)(f:FuncId)(s:Fs U):Prop:=
 (∃ fn, P.funcs[f]? = some fn ∧ fn.body.isSome = true ∧ (fn.name == "runtime.NumGoroutine") = false) ∧
 ∀ args X L ps r X' L',s.fn2 args X L=some (ps,r,X',L')->All ps->X'.length<=X.length+1->∀ w g vs,Entry cfg w g vs args X L->
  Calls P f vs.toArray w fun e w'=> ∃ v g',e= .returned v/\Leave cfg w g w' g' v r X' L'
def Ztg(P:Program)(cfg:Cfg U)(f:FuncId)(s:Fs U):Prop:=
 ∀ args X ps r X',s.fn args X=some (ps,r,X')->All ps->X'.length<=X.length+1->∀ w g vs,Entry cfg w g vs args X []->
  Calls P f vs.toArray w fun e w'=> ∃ v g',e= .returned v/\Leave cfg w g w' g' v r X' []
theorem YJ {f : FuncId} {s : Fs U} (h0 : ∃ fn, P.funcs[f]? = some fn ∧ fn.body.isSome = true ∧ (fn.name == "runtime.NumGoroutine") = false) (hd : s.fn2 = Z9E s.fn) (h : Ztg P cfg f s) : Contract P cfg f s := by
 refine ⟨h0,fun args X L ps r X' L' b=> ?_⟩
 rw [hd] at b
 unfold Z9E at b
 split at b
 .split at b
  .rename_i u
   cases b
   exact h args X _ _ _ u
  .cases b
 .cases b
theorem Contract.one{f:FuncId}{s:Fs U}(h:Contract P cfg f s)(hd:s.fn2=Z9E s.fn):Ztg P cfg f s:=by
 intro args X u r X' b
 exact h.2 args X [] u r X' [] (by rw [hd];simp only [Z9E,b])
theorem SimC.tl{m:Addr->Option Value}{v:Value}{T:U.Ty}{l:List (U.El T)}{tl:Tail}(tl':Tail)(h:SimC cfg m v (.slice T l tl)):SimC cfg m v (.slice T l tl'):=by
 cases h with
 | snil=> exact .snil T tl'
 | slice _ _ _ b len cap vs hl hc hm hs=> exact .slice T l tl' b len cap vs hl hc hm hs
def Ext(s s':List (Tok × Tok)):Prop:=(∀ t t':Tok,Y3 s t=some t'->Y3 s' t=some t')/\∀ t t':Tok,JU s t=some t'->JU s' t=some t'
theorem Ext.refl(s:List (Tok × Tok)):Ext s s:=⟨fun _ _ h=> h,fun _ _ h=> h⟩
theorem Ext.trans{a b c:List (Tok × Tok)}(h:Ext a b)(k:Ext b c):Ext a c:=⟨fun t u s=> k.1 _ _ (h.1 _ _ s),fun t u s=> k.2 _ _ (h.2 _ _ s)⟩
theorem Ext.cons{seen:List (Tok × Tok)}{t nm:Tok}(h1:Y3 seen t=none)(h2:JU seen nm=none):Ext seen ((t,nm) ::seen):=by
 refine ⟨fun u h b=> ?_,fun u h b=> ?_⟩
 .simp only [Y3]
  grind
 .simp only [JU]
  grind
theorem Zcb:∀ {s:List (Tok × Tok)} {t t':Tok},Y3 s t=some t'->(s.map (·.1)).contains t=true
 | (x,y) ::r,t,t',h=> by
  simp only [Y3] at h
  split at h
  .grind
  .have:=Zcb h
   grind
def Zep(g:Gh)(s:List (Tok × Tok))(t:Tok):Option (Value × Nat):=
 match JU s t with
 | none=> none
 | some u=> g.bs u
def Gh.callee(g:Gh)(nx:Name->Option Nat)(s:List (Tok × Tok))(ax:Nat->Addr):Gh:=
 {m:=g.m
  tag:=fun c=> match g.tag c with
   | some (.obj nm)=> match nx nm with
    | some k=> some (.obj (.x k))
    | none=> some (.outer (.obj nm))
   | some (.tok t)=> match Y3 s t with
    | some t'=> some (.tok t')
    | none=> some (.outer (.tok t))
   | some (.outer t)=> some (.outer (.outer t))
   | none=> none
  ad:=fun nm=> match nm with
   | .x k=> ax k
   | .loc s=> g.ad (.loc s)
  bs:=fun t=> if t.isR=true then none else Zep g s t }
theorem JJ{m:Tok->Option (LC U)}{s:List (Tok × Tok)}:∀ (l:List Tok) {t:Tok} {x:LC U},Zn (fun _=> none) (Jo m s l) t=some x->∃ u,JU s t=some u/\Y3 s u=some t/\m u=some x/\t.isR=false
 | [],t,x,h=> by trivial
 | t0 ::l,t,x,h=> by
  simp only [Jo] at h
  split at h
  .rename_i u hu
   split at h
   .rename_i t' y h1 h2
    split at h
    .rename_i hc
     obtain ⟨b,aa⟩:=hc
     subst b
     simp only [Zn] at h
     split at h
     .grind
     .exact JJ l h
    .exact JJ l h
   .exact JJ l h
  .exact JJ l h
section pass
variable {nx:Name->Option Nat} {ax:Nat->Addr}
structure Ren (ok:Tok->Bool) (g:Gh) (s:List (Tok × Tok)) (g2:Gh):Prop where
 m:g2.m=g.m
 tok:∀ c t t',g.tag c=some (.tok t)->Y3 s t=some t'->g2.tag c=some (.tok t')
 bs:∀ t t' v,ok t=true->JU s t=some t'->g.bs t'=some v->g2.bs t=some v
def Z1B(t:Tok):Bool:= !t.isR
theorem Gh.callee_ren(s:List (Tok × Tok)):Ren Z1B g s (g.callee nx s ax):=
 ⟨rfl,fun c t u b h=> by simp only [Gh.callee,b,h],fun t u v b h h3=> by
  simp only [Z1B,QG] at b
  simp only [Gh.callee,b,Zep,h]
  exact h3⟩
theorem ZcV{s:List (Tok × Tok)}{c:Addr}{t:Tag}:(g.callee nx s ax).tag c=some (.outer t)↔(g.tag c=some t/\(∀ nm,t= .obj nm->nx nm=none)/\(∀ u,t= .tok u->Y3 s u=none)):=by
 simp only [Gh.callee]
 cases hgt:g.tag c with
 | none=> simp
 | some t0=>
  cases t0 with
  | obj nm=>
   cases hn:nx nm with
   | none=>
    simp only [hn]
    constructor
    .intro h;cases h;exact ⟨rfl,fun aa e=> by cases e;exact hn,fun u e=> by cases e⟩
    .rintro ⟨b,_,_⟩;cases b;rfl
   | some k=>
    simp only [hn]
    constructor
    .intro h;cases h
    .rintro ⟨b,h2,_⟩;cases b;rw [h2 nm rfl] at hn;cases hn
  | tok u=>
   cases hn:Y3 s u with
   | none=>
    simp only [hn]
    constructor
    .intro h;cases h;exact ⟨rfl,fun aa e=> by (cases e),fun u' e=> by cases e;exact hn⟩
    .rintro ⟨b,_,_⟩;cases b;rfl
   | some k=>
    simp only [hn]
    constructor
    .intro h;cases h
    .rintro ⟨b,_,h2⟩;cases b;rw [h2 u rfl] at hn;cases hn
  | outer t0=>
   simp only
   constructor
   .intro h;cases h;exact ⟨rfl,fun aa e=> by (cases e),fun u' e=> by (cases e)⟩
   .rintro ⟨b,_,_⟩;cases b;rfl
theorem Z4r{s:List (Tok × Tok)}{c:Addr}{t:Tag}(ht:(g.callee nx s ax).tag c=some t):∃ t0,g.tag c=some t0:=by
 simp only [Gh.callee] at ht
 cases hgt:g.tag c with
 | none=> simp [hgt] at ht
 | some t0=> exact ⟨t0,rfl⟩
theorem Z4s{s:List (Tok × Tok)}{c:Addr}(hc:g.tag c=none):(g.callee nx s ax).tag c=none:=by
 simp only [Gh.callee,hc]
theorem Z68{okT mine:Tok->Bool}{nm:Tok}{c:C U}{seen:List (Tok × Tok)}(hmine:∀ t,mine t=true->st.dead t=false)(hok:okT nm=true):
  Ext seen (Jm mine nm c seen).2/\∀ u,Ext (Jm mine nm c seen).2 u->∀ g2,Ren okT g u g2->∀ v,RelC cfg g st.dead v c->RelC cfg g2 ZB v (Jm mine nm c seen).1:=by
 unfold Jm
 split
 .rename_i T l t
  split
  .rename_i hc
   simp only [Q1,Qu] at hc
   refine ⟨Ext.cons hc.1.2 hc.2,fun u hs g2 s v h=> ⟨by rw [s.m];exact h.1.tl _,?_⟩⟩
   intro _ b len ai hv j h1 h2
   have h3:=h.2 (hmine t hc.1.1) b len ai hv j h1 h2
   have h4:Y3 u t=some nm:=hs.1 t nm (by simp [Y3])
   exact s.tok _ _ _ h3 h4
  .exact ⟨.refl _,fun u _ g2 s v h=> ⟨by rw [s.m];exact h.1.tl _,trivial⟩⟩
 .rename_i t
  split
  .rename_i hc
   simp only [Q1,Qu] at hc
   refine ⟨Ext.cons hc.1.2 hc.2,fun u hs g2 s v h=> ⟨.mref _ _ h.1.one,fun _=> ?_⟩⟩
   obtain ⟨sz,h3⟩:=h.2 (hmine t hc.1.1)
   have h4:JU u nm=some t:=hs.2 nm t (by simp [JU])
   exact ⟨sz,s.bs _ _ _ hok h4 h3⟩
  .exact ⟨.refl _,fun u _ g2 s v h=> ⟨.jk _ h.1.one,trivial⟩⟩
 .exact ⟨.refl _,fun u _ g2 s v h=> ⟨.jk _ h.1.one,trivial⟩⟩
 .rename_i ao aj ak
  refine ⟨.refl _,fun u _ g2 s v h=> ⟨by rw [s.m];exact h.1,?_⟩⟩
  have h2:=h.2
  cases c with
  | slice T l tl=>
   cases tl with
   | unk=> trivial
   | full=> exact h2
   | own t=> grind
  | mref t=> grind
  | xp k=> grind
  | _=> trivial
theorem Z4H{okT mine:Tok->Bool}{nm:Nat->Tok}(hmine:∀ t,mine t=true->st.dead t=false)(hok:∀ j,okT (nm j)=true):∀ (cs:List (C U)) (j:Nat) (seen:List (Tok × Tok)),
  Ext seen (Yn mine nm j cs seen).2/\(Yn mine nm j cs seen).1.length=cs.length/\
   ∀ s,Ext (Yn mine nm j cs seen).2 s->∀ h,Ren okT g s h->∀ (i:Nat) v c u,cs[i]?=some c->(Yn mine nm j cs seen).1[i]?=some u->RelC cfg g st.dead v c->RelC cfg h ZB v u
 | [],j,seen=> ⟨.refl _,rfl,fun s _ h _ i v c u hc=> by simp at hc⟩
 | c ::cs,j,seen=> by
  obtain ⟨h1,h2⟩:=Z68 (cfg:=cfg) (g:=g) (okT:=okT) (nm:=nm j) (c:=c) (seen:=seen) hmine (hok j)
  obtain ⟨h3,h4,h5⟩:=Z4H (okT:=okT) (mine:=mine) (nm:=nm) hmine hok cs (j+1) (Jm mine (nm j) c seen).2
  refine ⟨h1.trans h3,by simp [Yn,h4],fun s hs h hg i v c0 u hc b hr=> ?_⟩
  cases i with
  | zero=>
   simp [Yn] at hc b
   subst hc b
   exact h2 s (h3.trans hs) h hg v hr
  | succ i=>
   simp [Yn] at hc b
   exact h5 s hs h hg i v c0 u hc b hr
theorem ZnD{mine:Tok->Bool}{nm:Tok}{c:C U}{seen:List (Tok × Tok)}(hmine:∀ t,mine t=true->st.dead t=false)(hok:Z1B nm=true):
  Ext seen (Jm mine nm c seen).2/\∀ b,Ext (Jm mine nm c seen).2 b->∀ v,RelC cfg g st.dead v c->RelC cfg (g.callee nx b ax) ZB v (Jm mine nm c seen).1:=
 let ⟨h1,h2⟩:=Z68 (cfg:=cfg) (g:=g) (nm:=nm) (c:=c) (seen:=seen) hmine hok
 ⟨h1,fun b h v s=> h2 b h _ (Gh.callee_ren b) v s⟩
theorem ZhA{mine:Tok->Bool}{nm:Nat->Tok}(hmine:∀ t,mine t=true->st.dead t=false)(hok:∀ j,Z1B (nm j)=true)(cs:List (C U))(j:Nat)(seen:List (Tok × Tok)):
  Ext seen (Yn mine nm j cs seen).2/\(Yn mine nm j cs seen).1.length=cs.length/\
   ∀ b,Ext (Yn mine nm j cs seen).2 b->∀ (i:Nat) v c c',cs[i]?=some c->(Yn mine nm j cs seen).1[i]?=some c'->RelC cfg g st.dead v c->RelC cfg (g.callee nx b ax) ZB v c':=
 let ⟨h1,h2,h3⟩:=Z4H (cfg:=cfg) (g:=g) (mine:=mine) (nm:=nm) hmine hok cs j seen
 ⟨h1,h2,fun b s i v c c' hc h u=> h3 b s _ (Gh.callee_ren b) i v c c' hc h u⟩
theorem Zqi{mine:Tok->Bool}{nm:Nat->Tok}{live lx:Name->Bool}(hmine:∀ t,mine t=true->st.dead t=false)(hok:∀ j,Z1B (nm j)=true){x x':V U}{seen seen':List (Tok × Tok)}(he:Zqj mine nm x seen=some (x',seen')):
  Ext seen seen'/\∀ b,Ext seen' b->∀ v,RelV cfg g st.dead live v x->RelV cfg (g.callee nx b ax) ZB lx v x':=by
 unfold Zqj at he
 split at he
 .rename_i c
  simp only [oP] at he
  obtain ⟨rfl,rfl⟩:=he
  obtain ⟨h1,h2⟩:=ZnD (cfg:=cfg) (g:=g) (nx:=nx) (ax:=ax) (nm:=nm 0) (c:=c) (seen:=seen) hmine (hok 0)
  trivial
 .rename_i cs
  simp only [oP] at he
  obtain ⟨rfl,rfl⟩:=he
  obtain ⟨s,h4,h5⟩:=ZhA (cfg:=cfg) (g:=g) (nx:=nx) (ax:=ax) (mine:=mine) (nm:=nm) hmine hok cs 0 seen
  refine ⟨s,fun b hs v h=> ?_⟩
  obtain ⟨vs,rfl,hl,hh⟩:=h
  refine ⟨vs,rfl,V1,fun j u c hu hc=> ?_⟩
  grind
 .rename_i f
  simp only [oP] at he
  obtain ⟨rfl,rfl⟩:=he
  exact ⟨.refl _,fun b _ v h=> h⟩
 .cases he
def ZiH(os:List (Name × List (C U))):Prop:=∀ (i j:Nat) x y,os[i]?=some x->os[j]?=some y->x.1=y.1->i=j
theorem Z4i:∀ {os:List (Name × List (C U))} {nm:Name} {i:Nat} {x:Name × List (C U)},os[i]?=some x->x.1=nm->Z7O os nm=true
 | (b,cs) ::os,nm,0,x,h,e=> by simp at h;subst h;simp [Z7O];exact .inl e
 | (b,cs) ::os,nm,i+1,x,h,e=> by
  simp at h
  simp only [Z7O,Z4i h e]
  split <;> rfl
theorem Z44:∀ {os:List (Name × List (C U))} {k:Nat} {nm:Name} {i:Nat},Yj os k nm=some i->∃ x,k<=i/\os[i - k]?=some x/\x.1=nm
 | (b,cs) ::os,k,nm,i,h=> by
  simp only [Yj] at h
  split at h
  .simp_all
  .obtain ⟨x,u,s,h3⟩:=Z44 h
   grind
theorem Z8t:∀ {os:List (Name × List (C U))} {k:Nat} {nm:Name} {i:Nat} {x:Name × List (C U)},ZiH os->os[i]?=some x->x.1=nm->Yj os k nm=some (k+i)
 | (b,cs) ::os,k,nm,0,x,_,h,e=> by simp at h;subst h;simp [Yj];grind
 | (b,cs) ::os,k,nm,i+1,x,hap,h,e=> by
  simp only [Yj]
  rw [if_neg (fun e'=> by have:=hap 0 (i+1) (b,cs) x rfl h (by simp [e',e]);omega)]
  have:=Z8t (k:=k+1) (nm:=nm) (fun i j x y u s he=> by have:=hap (i+1) (j+1) x y (by simpa using u) (by simpa using s) he;omega) (by simpa using h) e
  grind
theorem Z9j{os:List (Name × List (C U))}{nm:Name}(h:∀ (i:Nat) x,os[i]?=some x->x.1≠nm)(k:Nat):Yj os k nm=none:=by
 cases hn:Yj os k nm with
 | none=> rfl
 | some i=>
  obtain ⟨x,_,b,s⟩:=Z44 hn
  grind
theorem Z3Z{ps:Nat->Bool}:∀ (xs:List (V U)) (i:Nat) (os:List (Name × List (C U))) (seen:List (Tok × Tok)) (ys:List (V U)) (os':List (Name × List (C U))) (seen':List (Tok × Tok)),
  Yc st ps i xs os seen=some (ys,os',seen')->ZiH os->
  Ext seen seen'/\(∃ ae,os'=os++ae)/\ZiH os'/\ys.length=xs.length/\
  (∀ (k:Nat) x,os'[k]?=some x->os.length<=k->∃ cs,st.mem x.1=some cs/\x.2.length=cs.length/\
   ∀ s',Ext seen' s'->∀ nx ax (i:Nat) v c c',cs[i]?=some c->x.2[i]?=some c'->RelC cfg g st.dead v c->RelC cfg (g.callee nx s' ax) ZB v c')/\
  (∀ s',Ext seen' s'->∀ nx ax,(∀ (k:Nat) x,os'[k]?=some x->ax k=g.ad x.1)->∀ (j:Nat) v x y,xs[j]?=some x->ys[j]?=some y->RelV cfg g st.dead (fun nm=> (st.mem nm).isSome) v x->
   RelV cfg (g.callee nx s' ax) ZB (fun nm=> match nm with | .x k=> (os'[k]?).isSome | .loc _=> false) v y)
 | [],i,os,seen,ys,os',seen',h,hap=> by
  simp only [Yc,oP] at h
  obtain ⟨rfl,rfl,rfl⟩:=h
  exact ⟨.refl _,⟨[],by simp⟩,hap,rfl,fun k x b hk=> by grind,fun s' _ nx ax _ j v x y b=> by simp at b⟩
 | x0 ::xs,i,os,seen,ys,os',seen',h,hap=> by
  simp only [Yc] at h
  split at h
  .rename_i nm mk hp
   split at h
   .cases h
   .rename_i cs a0
    split at h
    .cases h
    .rename_i ar
     split at h
     .rename_i vs ao s1 af
      simp only [oP] at h
      obtain ⟨rfl,rfl,rfl⟩:=h
      have s:∀ t,(fun t=> !st.dead t) t=true->st.dead t=false:=fun t ht=> by simpa using ht
      have aq:ZiH (os++[(nm,(Yn (fun t=> !st.dead t) (.x os.length) 0 cs seen).1)]):=by
       intro p q x y b hy he
       rw [Qs] at b hy
       have u:∀ (r:Nat) (z z0:Name × List (C U)),[z0][r]?=some z->r=0/\z=z0:=by
        intro r z z0 hz
        cases r with
        | zero=> simp at hz;exact ⟨rfl,hz.symm⟩
        | succ r=> simp at hz
       split at b <;> split at hy
       .exact hap p q x y b hy he
       .obtain ⟨_,rfl⟩:=u _ _ _ hy
        exact absurd (Z4i b he) ar
       .obtain ⟨_,rfl⟩:=u _ _ _ b
        exact absurd (Z4i hy he.symm) ar
       .grind
      obtain ⟨r1,⟨ae,r2⟩,r3,r4,r5,r6⟩:=Z3Z xs (i+1) _ _ _ _ _ af aq
      have hC:=fun nx ax=> ZhA (cfg:=cfg) (g:=g) (nx:=nx) (ax:=ax) (mine:=fun t=> !st.dead t) (nm:= .x os.length) s (fun _=> rfl) cs 0 seen
      have ah:ao[os.length]?=some (nm,(Yn (fun t=> !st.dead t) (.x os.length) 0 cs seen).1):=by
       rw [r2,Ql,Qj (Qb _)];simp
      refine ⟨(hC (fun _=> none) (fun _=> ⟨0,0,none⟩)).1.trans r1,⟨(nm,(Yn (fun t=> !st.dead t) (.x os.length) 0 cs seen).1) ::ae,by rw [r2];simp⟩,r3,by simp [r4],?_,?_⟩
      .intro k x b hk
       by_cases e:k=os.length
       .subst e
        rw [ah] at b
        cases b
        exact ⟨cs,a0,(hC (fun _=> none) (fun _=> ⟨0,0,none⟩)).2.1,fun s' hs nx ax q v c c' h1 h2 h3=> (hC nx ax).2.2 s' (r1.trans hs) q v c c' h1 h2 h3⟩
       .exact r5 k x b (by simp;omega)
      .intro s' hs nx ax ai j v x y b hy hr
       cases j with
       | zero=>
        simp at b hy
        subst b hy
        have:=ai _ _ ah
        simp only at this
        cases x0 <;> simp only [ZnA,reduceCtorEq] at hp
        case ptr nm0 off0=>
         cases hp
         obtain ⟨_,rfl⟩:=hr
         exact ⟨by simp [ah],by simp [Gh.callee,this]⟩
        case clo f0 nms0=>
         split at hp
         .grind
         .rename_i f1 bc ay
          cases ay
          cases hp
          obtain ⟨_,rfl⟩:=hr
          refine ⟨fun n hn=> ?_,by simp [Gh.callee,this]⟩
          grind
         .cases hp
       | succ j=> exact r6 s' hs nx ax ai j v x y (by simpa using b) (by simpa using hy) hr
     .cases h
  .rename_i hp
   split at h
   .cases h
   .rename_i v' a3 hv
    split at h
    .rename_i vs ao s1 af
     simp only [oP] at h
     obtain ⟨rfl,rfl,rfl⟩:=h
     obtain ⟨r1,r2,r3,r4,r5,r6⟩:=Z3Z xs (i+1) _ _ _ _ _ af hap
     have s:∀ t,(fun t=> ps i && !st.dead t) t=true->st.dead t=false:=fun t ht=> by grind
     have hV:=fun nx ax lx=> Zqi (cfg:=cfg) (g:=g) (nx:=nx) (ax:=ax) (live:=fun nm=> (st.mem nm).isSome) (lx:=lx) s (fun _=> rfl) hv
     refine ⟨(hV (fun _=> none) (fun _=> ⟨0,0,none⟩) (fun _=> true)).1.trans r1,r2,r3,by simp [r4],r5,?_⟩
     intro s' hs nx ax ai j v x y b hy hr
     cases j with
     | zero=>
      simp at b hy
      subst b hy
      exact (hV nx ax _).2 s' (r1.trans hs) v hr
     | succ j=> grind
    .cases h
end pass
def Gh.back(g':Gh)(os:List (Name × List (C U)))(d:Nat)(ad:Name->Addr)(L:List (Tok × LC U))(bs:Tok->Option (Value × Nat)):Gh:=
 {m:=g'.m
  tag:=fun c=> match g'.tag c with
   | some (.outer t)=> some t
   | some (.obj (.x k))=> (os[k]?).map fun x=> .obj x.1
   | some (.tok t)=> (ZF d t).map .tok
   | _=> none
  ad:=ad
  bs:=fun t=> match bs t with
   | some v=> some v
   | none=> match Z06 d t with
    | some t'=> match Zn (fun _=> none) L t' with
     | some _=> g'.bs t'
     | none=> none
    | none=> none }
theorem Z1F{d:Nat}{t t':Tok}(h:ZF d t=some t'):Z06 d t'=some t:=by
 unfold ZF at h
 split at h
 .rename_i j
  cases h
  simp only [Z06,if_true]
  grind
 .rename_i k j
  split at h
  .rename_i b
   cases h
   simp only [Z06,if_true]
   grind
  .cases h
 .cases h
section back
variable {g':Gh} {os:List (Name × List (C U))} {d:Nat} {ad:Name->Addr} {L:List (Tok × LC U)} {bs:Tok->Option (Value × Nat)} {dead:Tok->Bool} {live lv:Name->Bool} {fx:Nat->Option Nat}
theorem RelC.back(hbs:∀ t t',Jx d L t=some t'->bs t'=none)(hx:∀ k k',fx k=some k'->g'.ad (.x k)=ad (.x k')){v:Value}{c:C U}(h:RelC cfg g' ZB v c):RelC cfg (g'.back os d ad L bs) dead v (c.mapTok (ZF d) (Jx d L) fx):=by
 obtain ⟨s,u⟩:=h
 cases c with
 | slice T l tl=>
  cases tl with
  | unk=> trivial
  | full=> trivial
  | own t=>
   simp only [C.mapTok]
   cases hb:ZF d t with
   | none=> exact ⟨s.tl _,trivial⟩
   | some t'=>
    refine ⟨s.tl _,fun _ b len aa hv j ae ab=> ?_⟩
    have:=u rfl b len aa hv j ae ab
    simp only [Gh.back,this,hb,Q9]
 | mref t=>
  simp only [C.mapTok]
  cases hb:Jx d L t with
  | none=> exact ⟨.jk _ s.one,trivial⟩
  | some t'=>
   refine ⟨.mref _ _ s.one,fun _=> ?_⟩
   obtain ⟨sz,hs⟩:=u rfl
   refine ⟨sz,?_⟩
   have h0:=hbs t t' hb
   unfold Jx at hb
   cases hL:Zn (fun _=> none) L t with
   | none=> grind
   | some x=>
    rw [hL] at hb
    simp only [Gh.back,h0,Z1F hb,hL,hs]
 | xp k=>
  simp only [C.mapTok]
  cases hk:fx k with
  | none=> exact ⟨.jk _ s.one,trivial⟩
  | some k'=>
   refine ⟨.xp _ _ s.one,?_⟩
   have h3:v= .pointer (some (g'.ad (.x k))):=u
   show v= .pointer (some (ad (.x k')))
   grind
 | _=> trivial
theorem RelL.back(hbs:∀ t t',Jx d L t=some t'->bs t'=none)(hx:∀ k k',fx k=some k'->g'.ad (.x k)=ad (.x k')){vs:List Value}{cs:List (C U)}(h:RelL cfg g' ZB vs cs):RelL cfg (g'.back os d ad L bs) dead vs (cs.map (C.mapTok (ZF d) (Jx d L) fx)):=by
 refine ⟨by simp [h.1],fun j v c b hc=> ?_⟩
 rw [Qi] at hc
 cases hcj:cs[j]? with
 | none=> grind
 | some c0=>
  simp [hcj] at hc
  subst hc
  exact (h.2 j v c0 b hcj).back hbs hx
theorem RelV.back(hbs:∀ t t',Jx d L t=some t'->bs t'=none)(hx:∀ k k',fx k=some k'->g'.ad (.x k)=ad (.x k')){v:Value}:∀ {x:V U},RelV cfg g' ZB (fun _=> false) v x->RelV cfg (g'.back os d ad L bs) dead live v (x.mapTok (ZF d) (Jx d L) fx)
 | .c x,h=> RelC.back hbs hx (c:=x) h
 | .agg cs,h=> by obtain ⟨vs,h1,h2⟩:=h;exact ⟨vs,h1,h2.back hbs hx⟩
 | .tup ws,h=> by
  obtain ⟨vs,h1,h2,h3⟩:=h
  refine ⟨vs,h1,by simp [h2],fun j u w hu hw=> ?_⟩
  rw [Qi] at hw
  cases hj:ws[j]? with
  | none=> grind
  | some w0=>
   simp [hj] at hw
   subst hw
   have:=h3 j u w0 hu hj
   obtain ⟨ag,cs⟩:=w0
   cases ag with
   | true=> obtain ⟨vs,s,h5⟩:=this;exact ⟨vs,s,h5.back hbs hx⟩
   | false=> obtain ⟨c,s,h5⟩:=this;simp only at s;subst s;exact ⟨_,rfl,h5.back hbs hx⟩
 | .ptr ..,_=> trivial
 | .ap ..,_=> trivial
 | .ep cs,h=> by
  obtain ⟨b,h1,h2⟩:=h
  refine ⟨b,h1,fun j c hc=> ?_⟩
  rw [Qi] at hc
  cases hcj:cs[j]? with
  | none=> grind
  | some c0=>
   simp [hcj] at hc
   subst hc
   obtain ⟨u,h3,s⟩:=h2 j c0 hcj
   exact ⟨u,h3,s.back hbs hx⟩
 | .fn f,h=> h
 | .mp ..,_=> trivial
 | .vw ..,_=> trivial
 | .clo ..,_=> trivial
 | .gd b x,h=> ⟨fun hb=> RelV.back hbs hx (h.1 hb),h.2⟩
 | .nb _ _,h=> h
 | .junk,_=> trivial
end back
theorem Z9t{d:Nat}:∀ {L l:List (Tok × LC U)},JE st d L=some l->
  (∀ t x,Zn (fun _=> none) L t=some x->∃ b,ZF d t=some b/\st.ls b=none/\st.dead b=false/\Zn st.ls l b=some x)/\
  (∀ b x,Zn st.ls l b=some x->(st.ls b=some x/\∀ t,ZF d t=some b->Zn (fun _=> none) L t=none)\/∃ t,Zn (fun _=> none) L t=some x/\ZF d t=some b/\st.dead b=false)
 | [],l,h=> by
  simp only [JE,Option.some.injEq] at h
  subst h
  exact ⟨fun t x s=> by trivial,fun b x s=> .inl ⟨s,fun t _=> rfl⟩⟩
 | (t0,x0) ::L,l,h=> by
  simp only [JE] at h
  split at h
  case h_2=> cases h
  rename_i t1 l1 h1 h2
  split at h
  case isFalse=> cases h
  rename_i hc
  simp only [Q1,Qu,QG] at hc
  simp only [Option.some.injEq] at h
  subst h
  obtain ⟨ae,af⟩:=Z9t h2
  have inj:∀ {t:Tok},ZF d t=some t1->t=t0:=by
   intro t ht
   have e1:=Z1F ht
   have e2:=Z1F h1
   rw [e1] at e2
   exact Option.some.inj e2
  refine ⟨fun t x s=> ?_,fun b x s=> ?_⟩
  .simp only [Zn] at s
   split at s
   .rename_i e
    subst e
    cases s
    exact ⟨t1,h1,hc.1,hc.2,by simp [Zn]⟩
   .rename_i e
    obtain ⟨b,u,g2,g3,g4⟩:=ae t x s
    refine ⟨b,u,g2,g3,?_⟩
    simp only [Zn]
    grind
  .simp only [Zn] at s
   split at s
   .rename_i e
    subst e
    cases s
    exact .inr ⟨t0,by simp [Zn],h1,hc.2⟩
   .rename_i e
    rcases af b x s with ⟨u,g2⟩ | ⟨t,u,g2,g3⟩
    .refine .inl ⟨u,fun t ht=> ?_⟩
     simp only [Zn]
     grind
    .refine .inr ⟨t,?_,g2,g3⟩
     simp only [Zn]
     grind
theorem Z7r{d:Nat}{L:List (Tok × LC U)}{fx:Nat->Option Nat}:∀ {os:List (Name × List (C U))} {xs:List (List (C U))} {m:List (Name × List (C U))},Z4P d L fx os xs=some m->
  xs.length=os.length/\m.length=os.length/\∀ (k:Nat) x cs,os[k]?=some x->xs[k]?=some cs->m[k]?=some (x.1,cs.map (C.mapTok (ZF d) (Jx d L) fx))
 | [],[],m,h=> by simp only [Z4P,Option.some.injEq] at h;grind
 | (nm,_) ::os,cs0 ::xs,m,h=> by
  simp only [Z4P] at h
  cases hr:Z4P d L fx os xs with
  | none=> simp [hr] at h
  | some m'=>
   simp only [hr,Q9,Option.some.injEq] at h
   subst h
   obtain ⟨s,b,u⟩:=Z7r hr
   grind
theorem Ye(m0:Name->Option (List (C U))):∀ (m:List (Name × List (C U))) (nm:Name),(∃ (k:Nat) (cs:List (C U)),m[k]?=some (nm,cs)/\ZD m0 m nm=some cs)\/((∀ (k:Nat) x,m[k]?=some x->x.1≠nm)/\ZD m0 m nm=m0 nm)
 | [],nm=> .inr ⟨fun k x b=> by simp at b,rfl⟩
 | (a,cs) ::r,nm=> by
  simp only [ZD]
  split
  .rename_i e
   subst e
   exact .inl ⟨0,cs,rfl,rfl⟩
  .rename_i e
   rcases Ye m0 r nm with ⟨k,cs',h1,h2⟩ | ⟨h1,h2⟩
   .exact .inl ⟨k+1,cs',by simpa using h1,h2⟩
   grind
theorem Ze5{xs:List Operand}{vs:List (V U)}(hm:xs.mapM st.opnd=some vs)(hop:∀ x∈xs,∀ v,st.opnd x=some v->RelV cfg g st.dead (fun nm=> (st.mem nm).isSome) (a.eval x) v):
  (xs.map a.eval).length=vs.length/\∀ (j:Nat) u x,(xs.map a.eval)[j]?=some u->vs[j]?=some x->RelV cfg g st.dead (fun nm=> (st.mem nm).isSome) u x:=by
 have b:∀ {xs:List Operand} {vs:List (V U)},xs.mapM st.opnd=some vs->xs.length=vs.length:=by
  intro xs
  induction xs with
  | nil=> grind
  | cons y xs ih=>
   intro vs h
   rw [QQ] at h
   cases h1:st.opnd y with
   | none=> simp [h1] at h
   | some v=>
    cases h2:xs.mapM st.opnd with
    | none=> grind
    | some r=>
     simp [h1,h2] at h
     grind
 refine ⟨by simp [b hm],fun j u x s hx=> ?_⟩
 rw [Qi] at s
 cases hj:xs[j]? with
 | none=> grind
 | some y=>
  simp [hj] at s
  subst s
  obtain ⟨v,h1,h2⟩:=Z49 hm j y hj
  grind
theorem Zid(os:List (Name × List (C U))):∀ (cs0 cs:List (C U)),cs.length=cs0.length->(Zie os cs0 cs).length=cs.length
 | [],cs,h=> by rfl
 | c0 ::cs0,[],h=> by cases h
 | c0 ::cs0,c ::cs,h=> by
  have b:=Zid os cs0 cs (by simpa using h)
  cases c0 <;> simp [Zie,b]
theorem Zeg(os:List (Name × List (C U))):∀ (cs0 cs:List (C U)) (j:Nat) (c0 c:C U),cs.length=cs0.length->cs0[j]?=some c0->(Zie os cs0 cs)[j]?=some c->
  cs[j]?=some c\/∃ k k',c0= .xp k/\Yj os 0 (.x k)=some k'/\c= .xp k'
 | [],cs,j,c0,c,_,h,_=> by simp at h
 | d0 ::cs0,[],j,c0,c,hl,_,_=> by cases hl
 | d0 ::cs0,d ::cs,0,c0,c,hl,h0,h=> by
  simp at h0
  subst h0
  cases d0 with
  | xp k=>
   simp only [Zie] at h
   grind
  | _=> exact .inl (by trivial)
 | d0 ::cs0,d ::cs,j+1,c0,c,hl,h0,h=> by
  have b:=Zeg os cs0 cs j c0 c (by simpa using hl) (by simpa using h0)
  cases d0 <;> (simp only [Zie,List.getElem?_cons_succ] at h ⊢;exact b h)
theorem ZcW {Γ:Known U} (hΓ:∀ f s,Γ f=some s->Contract P cfg f s) (h:Rel cfg B st g a w) {o:Oper} {c:Call} {gx:Operand} {f:FuncId} {args:List (V U)} {ps:List Prop} {e:Eff U} {d:Nat}
  (ho:o.op= .call c) (hc:c.callee= .value gx) {caps:List Value} (hg:a.eval gx= .func (.func f) #[] caps.toArray)
  (hargs:(c.args.toList.map a.eval++caps).length=args.length/\∀ (j:Nat) u x,(c.args.toList.map a.eval++caps)[j]?=some u->args[j]?=some x->RelV cfg g st.dead (fun nm=> (st.mem nm).isSome) u x)
  (he:Z3p Γ st d f args=some (ps,e)) (hps:All ps):
  Does P o a w fun v w'=> ∃ g',Out cfg B st g e v w' g':=by
 unfold Z3p at he
 split at he
 .cases he
 rename_i s hs
 split at he
 .cases he
 rename_i ys os toks bm
 split at he
 .cases he
 rename_i dc r xs L0 cw
 rw [cond_eq_ite] at he
 split at he
 .cases he
 rename_i ba
 have ba:∀ k,r≠.ptr (.x k) 0:=fun k e=> ba (by rw [e];rfl)
 split at he
 case h_2=> cases he
 rename_i m ll cp ca
 simp only [oP] at he
 obtain ⟨rfl,rfl⟩:=he
 obtain ⟨q1,q2⟩:=Z9t ca
 obtain ⟨⟨fn,cu,c8,cn⟩,bt⟩:=hΓ f s hs
 obtain ⟨p1,_,p3,p4,p5,p6⟩:=Z3Z (cfg:=cfg) (g:=g) _ _ _ _ _ _ _ bm (fun i j x y hx=> by simp at hx)
 obtain ⟨b1,b2,b3⟩:=Z7r cp
 let ax:Nat->Addr:=fun k=> ((os[k]?).map fun x=> g.ad x.1).getD ⟨0,0,none⟩
 have az:∀ (k:Nat) x,os[k]?=some x->ax k=g.ad x.1:=fun k x hx=> by simp [ax,hx]
 let gc:=g.callee (Yj os 0) toks ax
 let XS:=os.map fun x=> Zo9 st os (x.2,x.1)
 have au:∀ c t,gc.tag c=some (.outer t)↔(g.tag c=some t/\(∀ nm,t= .obj nm->Yj os 0 nm=none)/\(∀ u,t= .tok u->Y3 toks u=none)):=fun c t=> ZcV
 have ay:∀ c t,gc.tag c=some t->∃ t0,g.tag c=some t0:=fun c t=> Z4r
 have av:∀ c,g.tag c=none->gc.tag c=none:=fun c=> Z4s
 have a9:Entry cfg w gc (c.args.toList.map a.eval++caps) (ys.take args.length) XS (bif s.wr then Jo st.ls toks (toks.map (·.2)) else []):=by
  refine ⟨⟨fun c v hv=> ?_,fun c t ht=> ?_⟩,fun c t ht=> ?_,by rw [hargs.1,Qg,p4,Qa];omega,fun j v x hv hx=> ?_,fun k cs hk j c hj=> ?_,fun t ht=> (by simp only [gc,Gh.callee,ht,if_true]),fun t x hx=> ?_⟩
  .obtain ⟨h1,h2⟩:=h.inv.im c v hv
   exact ⟨h1,av c h2⟩
  .obtain ⟨t0,a8⟩:=ay c t ht
   exact h.inv.it c t0 a8
  .simp only [gc,Gh.callee] at ht
   split at ht
   .split at ht
    .cases ht;exact .inr (.inl ⟨_,rfl⟩)
    .cases ht;exact .inl ⟨_,rfl⟩
   .split at ht
    .cases ht;exact .inr (.inr ⟨_,rfl⟩)
    .cases ht;exact .inl ⟨_,rfl⟩
   .cases ht;exact .inl ⟨_,rfl⟩
   .cases ht
  .rw [QW] at hx
   split at hx
   case isFalse=> cases hx
   rename_i hj
   have bc:=Q0 hj
   have b5:(args++Z0E st args)[j]?=some args[j]:=by rw [Qv hj];exact bc
   have:=p6 toks (.refl _) (Yj os 0) ax az j v _ x b5 hx (hargs.2 j v _ hv bc)
   have hl:Z7t XS=fun nm:Name=> match nm with | .x k=> (os[k]?).isSome | .loc _=> false:=by
    funext nm;cases nm <;> simp [Z7t,XS]
   rw [hl]
   exact this
  .simp only [XS] at hk
   rw [Qi] at hk
   cases hx:os[k]? with
   | none=> simp [hx] at hk
   | some x=>
    simp [hx] at hk
    subst hk
    obtain ⟨bu,h1,h2,h3⟩:=p5 k x hx (by simp)
    simp only [Zo9,h1] at hj
    have al:j < bu.length:=by have:=(Q2.1 hj).1;rw [Zid os _ _ h2] at this;omega
    obtain ⟨v,h4,h5,h6⟩:=h.mem x.1 bu h1 j _ (Q0 al)
    have bg:gc.ad (.x k)=g.ad x.1:=az k x hx
    rw [bg]
    refine ⟨v,h4,?_,?_⟩
    rotate_left
    .rcases Zeg os _ _ j _ c h2 (Q0 al) hj with hj1 | ⟨q,q',e0,hq,rfl⟩
     .exact h3 toks (.refl _) _ _ j v _ c (Q0 al) hj1 h6
     .rw [e0] at h6
      have e1:v= .pointer (some (g.ad (.x q))):=h6.2
      obtain ⟨y,_,hy,cb⟩:=Z44 hq
      refine ⟨.xp _ _ h6.1.one,?_⟩
      show v= .pointer (some (ax q'))
      rw [az q' y (by simpa using hy),cb,e1]
    have hn:Yj os 0 x.1=some k:=by have:=Z8t (k:=0) p3 hx rfl;simpa using this
    simp only [gc,Gh.callee,h5,hn]
  .have hx:Zn (fun _=> none) (Jo st.ls toks (toks.map (·.2))) t=some x:=by
    cases hw:s.wr with
    | true=> rw [hw] at hx;exact hx
    | false=> rw [hw] at hx;cases hx
   obtain ⟨u,h5,h6,h7,h8⟩:=JJ _ hx
   obtain ⟨_,hL⟩:=h.ls u x h7
   have ao:gc.bs t=g.bs u:=by simp only [gc,Gh.callee,h8,Xi,if_false,Zep,h5]
   have bq:∀ c,g.tag c=some (.tok u)->gc.tag c=some (.tok t):=fun c hc=> by simp only [gc,Gh.callee,hc,h6]
   rcases hL with ⟨e1,e2⟩ | ⟨b,len,cap,e1,e2,e3,e4,e5,e6⟩
   .exact .inl ⟨ao.trans e1,e2⟩
   .refine .inr ⟨b,len,cap,ao.trans e1,e2,e3,e4,fun i y hy j c hc=> ?_,fun j a1 a2=> bq _ (e6 j a1 a2)⟩
    obtain ⟨v,e7,e8,e9,bh⟩:=e5 i y hy j c hc
    exact ⟨v,e7,e8,e9,fun hi=> bq _ (bh hi)⟩
 have bf:=bt (ys.take args.length) XS _ _ r xs L0 cw hps (by rw [b1];simp [XS]) w gc _ a9
 refine .inr (.inr ⟨f,(c.args.toList.map a.eval++caps).toArray,w,?_,Calls.mono bf ?_⟩)
 .have hb:fn.body.isNone=false:=by cases hfb:fn.body <;> simp_all
  simp only [execOp,ho,resolve,hc,hg,Deferred.ofValue,Sem.run_bind,Sem.run_pure,Result.andThen_ok,invoke,callFunc,run_program,cu]
  simp [cn,hb]
 .rintro e' w' ⟨v,g',rfl,L⟩
  refine ⟨v,rfl,g'.back os d g.ad L0 g.bs,?_⟩
  have c5:gc.m=g.m:=rfl
  have ae:∀ c t,g.tag c=some t->(∀ nm,t= .obj nm->Yj os 0 nm=none)->(∀ u,t= .tok u->Y3 toks u=none)->(g'.back os d g.ad L0 g.bs).tag c=some t/\w'.cell? c=w.cell? c:=by
   intro c t h1 h2 h3
   have:=L.fr.outer c t ((au c t).2 ⟨h1,h2,h3⟩)
   exact ⟨by simp only [Gh.back,this.1],this.2⟩
  have bk:∀ c t,(g'.back os d g.ad L0 g.bs).tag c=some t->∃ t',g'.tag c=some t':=by
   intro c t ht
   simp only [Gh.back] at ht
   cases hgt:g'.tag c with
   | none=> simp [hgt] at ht
   | some t'=> exact ⟨t',rfl⟩
  have bb:∀ t,Zh st ({ val:=some (r.mapTok (ZF d) (Jx d L0) (Z5L os)),mem:=m,kill:=toks.map (·.1),ls:=ll }:Eff U) t=false->st.dead t=false/\Y3 toks t=none:=by
   intro t ht
   simp only [Zh,QA] at ht
   refine ⟨ht.1,?_⟩
   cases hn:Y3 toks t with
   | none=> rfl
   | some t'=> have:=Zcb hn;rw [ht.2] at this;cases this
  have ak:Keeps g (g'.back os d g.ad L0 g.bs) st.dead (Zh st ({ val:=some (r.mapTok (ZF d) (Jx d L0) (Z5L os)),mem:=m,kill:=toks.map (·.1),ls:=ll }:Eff U)) (fun nm=> (st.mem nm).isSome) (ZJ st ({ val:=some (r.mapTok (ZF d) (Jx d L0) (Z5L os)),mem:=m,kill:=toks.map (·.1),ls:=ll }:Eff U)):=by
   refine ⟨fun c v hv=> L.fr.mono c v hv,fun c t hd ht=> ?_,fun t ht=> (bb t ht).1,fun nm hn=> ⟨?_,rfl⟩,fun t v _ hv=> by simp only [Gh.back,hv],fun _=> rfl⟩
   .exact (ae c _ ht (fun nm e=> by cases e) (fun u e=> by cases e;exact (bb _ hd).2)).1
   .simp only [ZJ]
    rcases Ye st.mem m nm with ⟨k,cs,_,h2⟩ | ⟨_,h2⟩
    .rw [h2];try rfl
    .rw [h2];exact hn
  have ao:∀ t t',Jx d L0 t=some t'->g.bs t'=none:=by
   intro t t' hb
   unfold Jx at hb
   cases hx:Zn (fun _=> none) L0 t with
   | none=> rw [hx] at hb;cases hb
   | some x=>
    rw [hx] at hb
    obtain ⟨t2,g1,g2,g3,_⟩:=q1 t x hx
    simp only at hb
    rw [hb] at g1
    cases g1
    refine h.fresh t' ?_ g2 g3
    unfold ZF at hb
    split at hb
    .cases hb;rfl
    .split at hb
     .cases hb;rfl
     .cases hb
    .cases hb
  have bw:∀ k k',Z5L os k=some k'->g'.ad (.x k)=g.ad (.x k'):=by
   intro k k' hk
   unfold Z5L at hk
   split at hk
   .rename_i hx
    cases hk
    exact (L.ad k (ba k)).trans (az k _ hx)
   .cases hk
  have b0:∀ t x,J8 st.ls ({ val:=some (r.mapTok (ZF d) (Jx d L0) (Z5L os)),mem:=m,kill:=toks.map (·.1),ls:=ll }:Eff U) t=some x->(toks.map (·.1)).contains t=false/\Zn st.ls ll t=some x:=by
   intro t x hx
   unfold J8 at hx
   cases hk:(toks.map (·.1)).contains t with
   | true=> simp only [hk,cond_true,reduceCtorEq] at hx
   | false=> simp only [hk,cond_false] at hx;exact ⟨rfl,hx⟩
  refine ⟨⟨fun c v hv=> ?_,fun c t ht=> ?_⟩,?_,ak,?_,L.val.back ao bw,?_,?_⟩
  .obtain ⟨h1,h2⟩:=L.inv.im c v hv
   exact ⟨h1,by simp only [Gh.back,h2]⟩
  .obtain ⟨t',bj⟩:=bk c t ht
   exact L.inv.it c t' bj
  .refine ⟨h.fr.stay.trans L.fr.stay,h.fr.xad,fun c v hv=> L.fr.mono c v (h.fr.mono c v hv),fun c t ht=> ?_,fun c t ht=> ?_,fun b hb br=> ?_,fun c hc=> (L.fr.frz c (QJ hc h.fr.stay.size)).trans (h.fr.frz c hc)⟩
   .obtain ⟨h1,h2⟩:=h.fr.outer c t ht
    obtain ⟨h3,h4⟩:=ae c _ h1 (fun nm e=> by cases e) (fun u e=> by cases e)
    exact ⟨h3,h4.trans h2⟩
   .simp only [Gh.back] at ht
    split at ht
    .rename_i t' bj
     cases ht
     have:=(au c _).1 (L.fr.outer' c _ bj)
     exact h.fr.outer' c t this.1
    .cases hx:os[‹Nat›]? with
     | none=> simp [hx] at ht
     | some x=> simp [hx] at ht
    .cases hx:ZF d ‹Tok› with
     | none=> simp [hx] at ht
     | some x=> simp [hx] at ht
    .cases ht
   .obtain ⟨h1,h2⟩:=h.fr.clean b hb br
    have bd:∀ o s t,g.tag ⟨b,o,s⟩=some t->∃ t',t= .outer t':=fun o s t ht=> br o s t (by rw [<-h2];exact ht)
    have a7:∀ o s t,gc.tag ⟨b,o,s⟩=some t->∃ t',t= .outer t':=by
     intro o s t ht
     obtain ⟨t0,a8⟩:=ay _ _ ht
     obtain ⟨t1,rfl⟩:=bd o s t0 a8
     have:=(au ⟨b,o,s⟩ (.outer t1)).2 ⟨a8,(fun nm e=> by cases e),(fun u e=> by cases e)⟩
     rw [ht] at this
     cases this
     exact ⟨_,rfl⟩
    obtain ⟨h3,h4⟩:=L.fr.clean b (QJ hb h.fr.stay.size) a7
    refine ⟨h3.trans h1,fun o s=> ?_⟩
    rw [<-h2 o s]
    have h5:g'.tag ⟨b,o,s⟩=gc.tag ⟨b,o,s⟩:=h4 o s
    cases hgt:g.tag ⟨b,o,s⟩ with
    | none=>
     simp only [Gh.back,h5,av _ hgt]
    | some t=>
     obtain ⟨t1,rfl⟩:=bd o s t hgt
     exact (ae _ _ hgt (fun nm e=> by cases e) (fun u e=> by cases e)).1
  .intro nm cs hm j cc hj
   rcases Ye st.mem m nm with ⟨k,cs',h1,h2⟩ | ⟨h1,h2⟩
   .rw [h2] at hm
    cases hm
    have hk:k < os.length:=by have:=(Q2.1 h1).1;omega
    have bi:os[k]?=some os[k]:=Q0 hk
    have bx:xs[k]?=some (xs[k]'V1):=Q0 _
    have h3:=b3 k _ _ bi bx
    rw [h1] at h3
    simp only [oP] at h3
    obtain ⟨rfl,rfl⟩:=h3
    rw [Qi] at hj
    cases al:(xs[k]'V1)[j]? with
    | none=> simp [al] at hj
    | some c0=>
     simp [al] at hj
     subst hj
     obtain ⟨v0,h4,h5,h6⟩:=L.x k _ bx j c0 al
     have bg:g'.ad (.x k)=g.ad os[k].1:=(L.ad k (ba k)).trans (az k _ bi)
     rw [bg] at h4 h5
     refine ⟨v0,h4,?_,h6.back ao bw⟩
     show (g'.back os d g.ad L0 g.bs).tag ((g.ad os[k].1).add j)=_
     simp only [Gh.back,h5,bi,Q9]
   .rw [h2] at hm
    obtain ⟨v0,h4,h5,h6⟩:=h.mem nm cs hm j cc hj
    have hn:Yj os 0 nm=none:=Z9j (fun i x hx e=> by
     have hi:i < m.length:=by have:=(Q2.1 hx).1;omega
     have ct:xs[i]?=some (xs[i]'V1):=Q0 _
     exact h1 i _ (b3 i x _ hx ct) e) 0
    obtain ⟨h7,h8⟩:=ae _ _ h5 (fun c9 e=> by cases e;exact hn) (fun u e=> by cases e)
    exact ⟨v0,h8.trans h4,h7,h6.keep ak⟩
  .intro t x hx
   obtain ⟨hk,hx⟩:=b0 t x hx
   rcases q2 t x hx with ⟨g1,_⟩ | ⟨t0,g1,g2,g3⟩
   .obtain ⟨g3,g4⟩:=h.ls t x g1
    have hd:Zh st ({ val:=some (r.mapTok (ZF d) (Jx d L0) (Z5L os)),mem:=m,kill:=toks.map (·.1),ls:=ll }:Eff U) t=false:=by simp only [Zh,g3,hk,Xh]
    exact ⟨hd,g4.keep ak hd (fun c v hv=> (L.inv.im c v (L.fr.mono c v hv)).1) (fun c cm=> (ae c _ cm (fun nm e=> by cases e) (fun u e=> by cases e;exact (bb _ hd).2)).2)⟩
   .have hd:Zh st ({ val:=some (r.mapTok (ZF d) (Jx d L0) (Z5L os)),mem:=m,kill:=toks.map (·.1),ls:=ll }:Eff U) t=false:=by simp only [Zh,g3,hk,Xh]
    have cg:Jx d L0 t0=some t:=by unfold Jx;rw [g1];exact g2
    have bl:=ao _ _ cg
    have bv:(g'.back os d g.ad L0 g.bs).bs t=g'.bs t0:=by simp only [Gh.back,bl,Z1F g2,g1]
    have bz:∀ c,g'.tag c=some (.tok t0)->(g'.back os d g.ad L0 g.bs).tag c=some (.tok t):=by
     intro c hc
     simp only [Gh.back,hc,g2,Q9]
    refine ⟨hd,?_⟩
    rcases L.ls t0 x g1 with ⟨e1,e2⟩ | ⟨b,len,cap,e1,e2,e3,e4,e5,e6⟩
    .exact .inl ⟨bv.trans e1,e2⟩
    .refine .inr ⟨b,len,cap,bv.trans e1,e2,e3,e4,fun i y hy j c hc=> ?_,fun j a1 a2=> bz _ (e6 j a1 a2)⟩
     obtain ⟨u,e7,e8,e9,bh⟩:=e5 i y hy j c hc
     exact ⟨u,e7,e8,e9,fun hi=> bz _ (bh hi)⟩
  .intro t ht hn hd
   have cx:st.dead t=false:=(bb t hd).1
   have hk:(toks.map (·.1)).contains t=false:=by simp only [Zh,QA] at hd;exact hd.2
   have bp:Zn st.ls ll t=none:=by
    unfold J8 at hn
    simp only [hk,cond_false] at hn
    exact hn
   have b6:st.ls t=none:=by
    cases hx:st.ls t with
    | none=> rfl
    | some x=>
     exfalso
     have:∀ (l:List (Tok × LC U)),Zn st.ls l t=none->False:=by
      intro l
      induction l with
      | nil=> intro h;rw [Zn,hx] at h;cases h
      | cons y l ih=>
       obtain ⟨a,b⟩:=y
       intro h
       simp only [Zn] at h
       split at h
       .cases h
       .exact ih h
     exact this _ bp
   have bl:=h.fresh t ht b6 cx
   simp only [Gh.back,bl]
   cases hu:Z06 d t with
   | none=> rfl
   | some t'=>
    simp only
    cases hx:Zn (fun _=> none) L0 t' with
    | none=> rfl
    | some x=>
     simp only
     obtain ⟨t2,g1,g2,g3,g4⟩:=q1 t' x hx
     cases hg:g'.bs t' with
     | none=> rfl
     | some v=>
      exfalso
      have:t2=t:=by
       cases t with
       | r d' m=>
        simp only [Z06] at hu
        split at hu
        .rename_i e
         subst e
         split at hu
         .cases hu
          simp only [ZF,Option.some.injEq] at g1
          rw [<-g1];congr 1;omega
         .cases hu
          simp only [ZF] at g1
          split at g1
          .cases g1;congr 1;omega
          .cases g1
        .cases hu
       | _=> simp [Z06] at hu
      subst this
      rw [bp] at g4
      cases g4
def Z9O(st:FSt U)(g:Gh)(c:Addr):Bool:=
 match g.tag c with
 | some (.tok t)=> (st.ls t).isSome
 | _=> false
def Gh.lendG(g:Gh)(st:FSt U)(w:World):Gh:=
 {m:=fun c=> if Z9O st g c=true then w.cell? c else g.m c
  tag:=fun c=> if Z9O st g c=true then none else (g.tag c).map .outer
  ad:=g.ad
  bs:=fun _=> none }
theorem ZrI{c:Addr}(h:Z9O st g c=true):∃ t x,g.tag c=some (.tok t)/\st.ls t=some x:=by
 unfold Z9O at h
 split at h
 .rename_i t b
  cases hx:st.ls t with
  | none=> grind
  | some x=> grind
 .cases h
theorem ZrJ{c:Addr}(h:∀ t,g.tag c≠some (.tok t)):Z9O st g c=false:=by
 cases hc:Z9O st g c with
 | false=> rfl
 | true=> obtain ⟨t,_,b,_⟩:=ZrI hc;grind
theorem ZrK(h:Inv g.m g.tag w){c:Addr}{v:Value}(hv:g.m c=some v):(g.lendG st w).m c=some v:=by
 have:Z9O st g c=false:=ZrJ fun t e=> by rw [(h.im c v hv).2] at e;cases e
 simp only [Gh.lendG,this,Xi,if_false,hv]
theorem ZjD{c:Addr}{t:Tag}(ht:g.tag c=some t)(hc:Z9O st g c=false):(g.lendG st w).tag c=some (.outer t):=by
 simp only [Gh.lendG,hc,Xi,if_false,ht,Q9]
theorem Zx3(h:Rel cfg B st g a w){v:Value}{c:C U}(hr:RelC cfg g st.dead v c):RelC cfg (g.lendG st w) ZB v (c.lend st):=by
 have hm:=fun c v hv=> ZrK (st:=st) (w:=w) h.inv (c:=c) (v:=v) hv
 cases c with
 | slice T l tl=> cases tl with
  | unk=> exact ⟨hr.1.mono hm,trivial⟩
  | full=> exact ⟨hr.1.mono hm,hr.2⟩
  | own u=> exact ⟨(hr.1.tl .unk).mono hm,trivial⟩
 | mref t=>
  simp only [C.lend]
  cases hx:st.ls t with
  | none=> exact ⟨.jk _ hr.1.one,trivial⟩
  | some x=>
   obtain ⟨hd,hL⟩:=h.ls t x hx
   obtain ⟨s,hs⟩:=hr.2 hd
   refine ⟨?_,trivial⟩
   rcases hL with ⟨e1,e2,_⟩ | ⟨b,len,cap,e1,e2,e3,e4,e5,_⟩
   .rw [hs] at e1
    cases e1
    obtain ⟨T,l,f⟩:=x
    simp only at e2
    subst e2
    exact .snil T _
   .rw [hs] at e1
    cases e1
    refine .of_rows _ e2 e3 fun i y hy j c hc=> ?_
    obtain ⟨u,e7,e8,e9,ab⟩:=e5 i y hy j c hc
    refine ⟨u,?_,e8.mono hm⟩
    rcases Xu i x.f with hi | hi
    .grind
    .simp only [Gh.lendG,Z9O,ab hi,hx,Option.isSome_some,if_true]
     exact e7
 | jk=> exact ⟨.jk _ hr.1.one,trivial⟩
 | xp k=> exact ⟨.jk _ hr.1.one,trivial⟩
 | int k n=> exact ⟨hr.1.mono hm,trivial⟩
 | bool b=> exact ⟨hr.1.mono hm,trivial⟩
 | nils=> exact ⟨hr.1.mono hm,trivial⟩
 | nilp=> exact ⟨hr.1.mono hm,trivial⟩
 | po T o=> exact ⟨hr.1.mono hm,trivial⟩
theorem ZCg(h:Rel cfg B st g a w){live:Name->Bool}{v:Value}{x x':V U}(hr:RelV cfg g st.dead live v x)(hx:x.lend st=some x'):RelV cfg (g.lendG st w) ZB (Z7t ([]:List (List (C U)))) v x':=by
 cases x with
 | c y=> cases hx;exact Zx3 h (c:=y) hr
 | agg cs=>
  cases hx
  obtain ⟨vs,h1,b,s⟩:=hr
  refine ⟨vs,h1,by simp [b],fun j u c hu hc=> ?_⟩
  rw [Qi] at hc
  cases hj:cs[j]? with
  | none=> grind
  | some c0=>
   simp [hj] at hc
   subst hc
   exact Zx3 h (s j u c0 hu hj)
 | fn f=> cases hx;exact hr
 | _=> cases hx
theorem ZjE {Γ:Known U} (hΓ:∀ f s,Γ f=some s->Contract P cfg f s) (h:Rel cfg B st g a w) {o:Oper} {c:Call} {gx:Operand} {f:FuncId} {args:List (V U)} {ps:List Prop} {e:Eff U}
  (ho:o.op= .call c) (hc:c.callee= .value gx) (hg:a.eval gx= .func (.func f) #[] #[])
  (hargs:c.args.toList.length=args.length/\∀ (j:Nat) u x,(c.args.toList.map a.eval)[j]?=some u->args[j]?=some x->RelV cfg g st.dead (fun nm=> (st.mem nm).isSome) u x)
  (he:Zex Γ st f args=some (ps,e)) (hps:All ps):
  Does P o a w fun v w'=> ∃ g',Out cfg B st g e v w' g':=by
 unfold Zex at he
 split at he
 case h_2=> cases he
 rename_i s vs hs av
 have a4:∃ c0:C U,s.fn2 vs [] []=some (ps,.c c0,[],[])/\e={ val:=some (.c c0) }/\∀ (g1 g2:Gh) (d1 d2:Tok->Bool) v,RelC cfg g1 d1 v c0->RelC cfg g2 d2 v c0:=by
  split at he
  .rename_i k n ai
   simp only [oP] at he
   obtain ⟨rfl,rfl⟩:=he
   exact ⟨_,ai,rfl,fun g1 g2 d1 d2 v hr=> by have:=hr.1;cases this;exact ⟨.int _ _,trivial⟩⟩
  .rename_i b ai
   simp only [oP] at he
   obtain ⟨rfl,rfl⟩:=he
   exact ⟨_,ai,rfl,fun g1 g2 d1 d2 v hr=> by have:=hr.1;cases this;exact ⟨.bool _,trivial⟩⟩
  .cases he
 obtain ⟨c0,ai,rfl,a7⟩:=a4
 obtain ⟨⟨fn,a3,bf,a2⟩,au⟩:=hΓ f s hs
 have a8:vs.length=args.length:=mapM_lend_len av
 have aj:Entry cfg w (g.lendG st w) (c.args.toList.map a.eval) vs [] []:=by
  refine ⟨⟨fun c v hv=> ?_,fun c t ht=> ?_⟩,fun c t ht=> ?_,by grind,fun j v x hv hx=> ?_,fun k cs hk=> by simp at hk,fun t ht=> rfl,fun t x hx=> by cases hx⟩
  .simp only [Gh.lendG] at hv ⊢
   split at hv
   .grind
   .rename_i hl
    obtain ⟨h1,h2⟩:=h.inv.im c v hv
    grind
  .simp only [Gh.lendG] at ht
   split at ht
   .cases ht
   .cases hgt:g.tag c with
    | none=> grind
    | some t0=> exact h.inv.it c t0 hgt
  .simp only [Gh.lendG] at ht
   split at ht
   .cases ht
   .cases hgt:g.tag c with
    | none=> grind
    | some t0=> grind
  .obtain ⟨x0,h1,h2⟩:=mapM_lend av j x hx
   exact ZCg h (hargs.2 j v x0 hv h1) h2
 have ao:=au vs [] [] _ _ [] [] ai hps (QI _) w (g.lendG st w) _ aj
 refine .inr (.inr ⟨f,(c.args.toList.map a.eval).toArray,w,?_,Calls.mono ao ?_⟩)
 .have hb:fn.body.isNone=false:=by cases hfb:fn.body <;> simp_all
  simp only [execOp,ho,resolve,hc,hg,Deferred.ofValue,Sem.run_bind,Sem.run_pure,Result.andThen_ok,invoke,callFunc,run_program,a3]
  simp [a2,hb]
  apply X8
  simp
 .rintro e' w' ⟨v,g',rfl,L⟩
  refine ⟨v,rfl,g,?_⟩
  have ba:∀ c t,g.tag c=some t->Z9O st g c=false->w'.cell? c=w.cell? c:=fun c t ht hl=> (L.fr.outer c _ (ZjD (w:=w) ht hl)).2
  have a6:∀ c v,w.cell? c=some v->Z9O st g c=true->w'.cell? c=some v:=by
   intro c v hv hl
   have:(g.lendG st w).m c=some v:=by simp only [Gh.lendG,hl,if_true,hv]
   exact (L.inv.im c v (L.fr.mono c v this)).1
  have ar:∀ c v,g.m c=some v->w'.cell? c=some v:=fun c v hv=> (L.inv.im c v (L.fr.mono c v (ZrK h.inv hv))).1
  have ak:∀ c t,g.tag c=some t->w'.cell? c=w.cell? c:=by
   intro c t ht
   cases hl:Z9O st g c with
   | false=> grind
   | true=>
    obtain ⟨_,v,hv⟩:=h.inv.it c t ht
    grind
  have ah:Zh st ({ val:=some (.c c0) }:Eff U)=st.dead:=by funext t;simp [Zh]
  refine ⟨⟨fun c v hv=> ⟨ar c v hv,(h.inv.im c v hv).2⟩,fun c t ht=> ?_⟩,?_,by rw [ah];exact .refl _ _ _,?_,?_,?_,?_⟩
  .obtain ⟨h1,v,h2⟩:=h.inv.it c t ht
   exact ⟨(L.fr.frz c (h.inv.lt ht)).trans h1,v,(ak c t ht).trans h2⟩
  .refine ⟨h.fr.stay.trans L.fr.stay,h.fr.xad,h.fr.mono,fun c t ht=> ?_,h.fr.outer',fun b hb a1=> ?_,fun c hc=> (L.fr.frz c (QJ hc h.fr.stay.size)).trans (h.fr.frz c hc)⟩
   .obtain ⟨h1,h2⟩:=h.fr.outer c t ht
    grind
   .obtain ⟨h1,h2⟩:=h.fr.clean b hb a1
    refine ⟨(L.fr.clean b (QJ hb h.fr.stay.size) fun o s t ht=> ?_).1.trans h1,h2⟩
    simp only [Gh.lendG] at ht
    split at ht
    .cases ht
    .cases hgt:g.tag ⟨b,o,s⟩ with
     | none=> grind
     | some t0=> grind
  .rw [ah]
   intro nm cs hm j cc hj
   obtain ⟨v0,h4,h5,h6⟩:=h.mem nm cs hm j cc hj
   grind
  .rw [ah]
   exact a7 _ _ _ _ _ L.val
  .intro t x hx
   rw [ah]
   have hx:st.ls t=some x:=by simpa [J8,Zn] using hx
   obtain ⟨h1,h2⟩:=h.ls t x hx
   exact ⟨h1,h2.keep (.refl g st.dead (fun _=> true)) h1 ar fun c a0=> ak c _ a0⟩
  .intro t h0 h7 h8
   rw [ah] at h8
   exact h.fresh t h0 (by trivial) h8
where
 mapM_lend_len {xs:List (V U)} {vs:List (V U)} (hm:xs.mapM (V.lend st)=some vs):vs.length=xs.length:=by
  induction xs generalizing vs with
  | nil=> grind
  | cons y xs ih=>
   rw [QQ] at hm
   cases h1:V.lend st y with
   | none=> grind
   | some v=>
    cases h2:xs.mapM (V.lend st) with
    | none=> grind
    | some r=>
     simp [h1,h2] at hm
     grind
 mapM_lend {xs:List (V U)} {vs:List (V U)} (hm:xs.mapM (V.lend st)=some vs) (j:Nat) (x:V U) (hx:vs[j]?=some x):∃ x0,xs[j]?=some x0/\x0.lend st=some x:=by
  induction xs generalizing vs j with
  | nil=> grind
  | cons y xs ih=>
   rw [QQ] at hm
   cases h1:V.lend st y with
   | none=> grind
   | some v=>
    cases h2:xs.mapM (V.lend st) with
    | none=> simp [h1,h2] at hm
    | some r=>
     grind
theorem ZhT{α β:Type}{f:α->Option β}:∀ {xs:List α} {ys:List β},xs.mapM f=some ys->ys.length=xs.length/\∀ (j:Nat) y,ys[j]?=some y->∃ x,xs[j]?=some x/\f x=some y
 | [],ys,h=> by grind
 | x ::xs,ys,h=> by
  rw [QQ] at h
  cases h1:f x with
  | none=> simp [h1] at h
  | some v=>
   cases h2:xs.mapM f with
   | none=> grind
   | some r=>
    simp [h1,h2] at h
    subst h
    obtain ⟨b,s⟩:=ZhT h2
    grind
theorem ZsQ{g2:Gh}{dead:Tok->Bool}(hm:g2.m=g.m){v:Value}{c:C U}(h:RelC cfg g dead v c):RelC cfg g2 ZB v c.bare:=by
 cases c with
 | slice T l tl=> exact ⟨by rw [hm];exact h.1.tl _,trivial⟩
 | mref t=> exact ⟨.jk _ h.1.one,trivial⟩
 | xp k=> exact ⟨.jk _ h.1.one,trivial⟩
 | _=> exact ⟨by rw [hm];exact h.1,trivial⟩
theorem ZCF{g2:Gh}{dead:Tok->Bool}{live l2:Name->Bool}(hm:g2.m=g.m){v:Value}{x x':V U}(h:RelV cfg g dead live v x)(hx:x.bare=some x'):RelV cfg g2 ZB l2 v x':=by
 cases x with
 | c y=> cases hx;exact ZsQ hm (c:=y) h
 | agg cs=>
  cases hx
  obtain ⟨vs,h1,b,s⟩:=h
  refine ⟨vs,h1,by simp [b],fun j u c hu hc=> ?_⟩
  rw [Qi] at hc
  cases hj:cs[j]? with
  | none=> grind
  | some c0=>
   simp [hj] at hc
   subst hc
   exact ZsQ hm (s j u c0 hu hj)
 | fn f=> cases hx;exact h
 | _=> cases hx
theorem RelC.plain{g1 g2:Gh}{d1 d2:Tok->Bool}{v:Value}{c:C U}(hm:g2.m=g1.m)(hc:c.plain=true)(h:RelC cfg g1 d1 v c):RelC cfg g2 d2 v c:=by
 refine ⟨by rw [hm];exact h.1,?_⟩
 cases c with
 | slice T l tl=> cases tl <;> first | trivial | cases hc
 | mref t=> cases hc
 | xp k=> cases hc
 | _=> trivial
theorem Ziq{ax:Nat->Addr}{xs ys:List (V U)}{os:List (Name × List (C U))}(hb:Z2F st xs=some (ys,os))(hax:∀ (k:Nat) x,os[k]?=some x->ax k=g.ad x.1):
  os.length<=1/\ys.length=xs.length/\(∀ (k:Nat) x,os[k]?=some x->∃ cs,st.mem x.1=some cs/\x.2=cs.map C.bare)/\
  ∀ (j:Nat) v x y,xs[j]?=some x->ys[j]?=some y->RelV cfg g st.dead (fun nm=> (st.mem nm).isSome) v x->RelV cfg (g.callee (Yj os 0) [] ax) ZB (Z7t (os.map (·.2))) v y:=by
 unfold Z2F at hb
 split at hb
 .rename_i nm
  split at hb
  .rename_i cs u
   cases hb
   refine ⟨Qb _,rfl,fun k x b=> ?_,fun j v x y b h hr=> ?_⟩
   .have:k=0:=by have:=(Q2.1 b).1;simp at this;exact this
    subst this
    simp at b
    subst b
    exact ⟨cs,u,rfl⟩
   .have:j=0:=by have:=(Q2.1 b).1;simp at this;exact this
    subst this
    simp at b h
    subst b h
    have e:ax 0=g.ad nm:=hax 0 _ rfl
    refine ⟨rfl,?_⟩
    have s:v= .pointer (some ((g.ad nm).add 0)):=hr.2
    rw [s,<-e]
    try rfl
  .cases hb
 .split at hb
  .rename_i vs aa
   cases hb
   obtain ⟨h1,s⟩:=ZhT aa
   refine ⟨QI _,h1,fun k x b=> by simp at b,fun j v x y b h hr=> ?_⟩
   obtain ⟨x0,h3,h4⟩:=s j y h
   rw [b] at h3
   cases h3
   exact ZCF (g:=g) (g2:=g.callee (Yj [] 0) [] ax) rfl hr h4
  .cases hb
theorem ZnP {Γ:Known U} (hΓ:∀ f s,Γ f=some s->Contract P cfg f s) (h:Rel cfg B st g a w) {o:Oper} {c:Call} {gx:Operand} {f:FuncId} {args:List (V U)} {ps:List Prop} {e:Eff U} {d:Nat}
  (ho:o.op= .call c) (hc:c.callee= .value gx) (hg:a.eval gx= .func (.func f) #[] #[])
  (hargs:c.args.toList.length=args.length/\∀ (j:Nat) u x,(c.args.toList.map a.eval)[j]?=some u->args[j]?=some x->RelV cfg g st.dead (fun nm=> (st.mem nm).isSome) u x)
  (he:Zoy Γ st d f args=some (ps,e)) (hps:All ps):
  Does P o a w fun v w'=> ∃ g',Out cfg B st g e v w' g':=by
 unfold Zoy at he
 split at he
 case h_2=> cases he
 rename_i s vs os hs bl
 split at he
 case h_2=> cases he
 rename_i ca k xs b2
 split at he
 case isFalse=> cases he
 rename_i bh
 simp only [Q1,Qo,Qu,Nat.beq_eq] at bh
 obtain ⟨⟨⟨hk,ch⟩,bm⟩,hn⟩:=bh
 subst hk
 simp only [oP] at he
 obtain ⟨rfl,rfl⟩:=he
 obtain ⟨⟨fn,bz,b7,br⟩,bd⟩:=hΓ f s hs
 let ax:Nat->Addr:=fun k=> ((os[k]?).map fun x=> g.ad x.1).getD ⟨0,0,none⟩
 have a9:∀ (k:Nat) x,os[k]?=some x->ax k=g.ad x.1:=fun k x hx=> by simp [ax,hx]
 obtain ⟨b6,be,bg,ao⟩:=Ziq (cfg:=cfg) bl a9
 have bu:ZiH os:=fun i j x y hx hy _=> by have:=(Q2.1 hx).1;have:=(Q2.1 hy).1;omega
 let gc:=g.callee (Yj os 0) [] ax
 let nms:=os.map (·.1)++[Name.loc d]
 have aq:∀ c t,gc.tag c=some (.outer t)↔(g.tag c=some t/\(∀ nm,t= .obj nm->Yj os 0 nm=none)/\(∀ u,t= .tok u->Y3 [] u=none)):=fun c t=> ZcV
 have ay:Entry cfg w gc (c.args.toList.map a.eval) vs (os.map (·.2)) []:=by
  refine ⟨⟨fun c v hv=> ?_,fun c t ht=> ?_⟩,fun c t ht=> ?_,by rw [Xa,hargs.1,be],fun j v x hv hx=> ?_,fun k cs hk j c hj=> ?_,fun t ht=> (by simp only [gc,Gh.callee,ht,if_true]),fun t x hx=> by cases hx⟩
  .obtain ⟨h1,h2⟩:=h.inv.im c v hv
   exact ⟨h1,Z4s h2⟩
  .obtain ⟨t0,aw⟩:=Z4r ht
   exact h.inv.it c t0 aw
  .simp only [gc,Gh.callee] at ht
   split at ht
   .split at ht
    .cases ht;exact .inr (.inl ⟨_,rfl⟩)
    .cases ht;exact .inl ⟨_,rfl⟩
   .split at ht
    .cases ht;exact .inr (.inr ⟨_,rfl⟩)
    .cases ht;exact .inl ⟨_,rfl⟩
   .cases ht;exact .inl ⟨_,rfl⟩
   .cases ht
  .have hj:j < args.length:=by have:=(Q2.1 hx).1;omega
   exact ao j v _ x (Q0 hj) hx (hargs.2 j v _ hv (Q0 hj))
  .rw [Qi] at hk
   cases hx:os[k]? with
   | none=> simp [hx] at hk
   | some x=>
    simp [hx] at hk
    subst hk
    obtain ⟨a3,h1,h2⟩:=bg k x hx
    rw [h2,Qi] at hj
    cases hj0:a3[j]? with
    | none=> simp [hj0] at hj
    | some c0=>
     simp [hj0] at hj
     subst hj
     obtain ⟨v,h4,h5,h6⟩:=h.mem x.1 a3 h1 j _ hj0
     have ak:gc.ad (.x k)=g.ad x.1:=a9 k x hx
     have bn:Yj os 0 x.1=some k:=by have:=Z8t (k:=0) bu hx rfl;simpa using this
     rw [ak]
     exact ⟨v,h4,by simp only [gc,Gh.callee,h5,bn],ZsQ (g:=g) (g2:=gc) rfl h6⟩
 have a2:=bd vs (os.map (·.2)) [] _ _ xs [] b2 hps (by rw [Xa];omega) w gc _ ay
 refine .inr (.inr ⟨f,(c.args.toList.map a.eval).toArray,w,?_,Calls.mono a2 ?_⟩)
 .have hb:fn.body.isNone=false:=by cases hfb:fn.body <;> simp_all
  simp only [execOp,ho,resolve,hc,hg,Deferred.ofValue,Sem.run_bind,Sem.run_pure,Result.andThen_ok,invoke,callFunc,run_program,bz]
  simp [br,hb]
  apply X8
  simp
 .rintro e' w' ⟨v,g',rfl,L⟩
  let g1:Gh:={ m:=g'.m,tag:=fun c=> (match g'.tag c with | some (.outer t)=> some t | some (.obj (.x k))=> (nms[k]?).map .obj | _=> none),ad:=fun nm=> if nm= .loc d then g'.ad (.x os.length) else g.ad nm,bs:=g.bs }
  have b5:gc.m=g.m:=rfl
  have ah:∀ c t,g.tag c=some t->(∀ nm,t= .obj nm->Yj os 0 nm=none)->g1.tag c=some t/\w'.cell? c=w.cell? c:=by
   intro c t h1 h2
   have:=L.fr.outer c t ((aq c t).2 ⟨h1,h2,fun u _=> rfl⟩)
   exact ⟨by simp only [g1,this.1],this.2⟩
  have bo:∀ c t,g1.tag c=some t->∃ t',g'.tag c=some t':=by
   intro c t ht
   simp only [g1] at ht
   cases hgt:g'.tag c with
   | none=> simp [hgt] at ht
   | some t'=> exact ⟨t',rfl⟩
  have ak:∀ nm,nm≠.loc d->g1.ad nm=g.ad nm:=fun nm a8=> by simp only [g1,if_neg a8]
  have bp:∀ (k:Nat) x,os[k]?=some x->g'.ad (.x k)=g.ad x.1:=fun k x hx=> by
   have hk:=(Q2.1 hx).1
   exact (L.ad k (fun e=> by cases e;omega)).trans (a9 k x hx)
  have bx:∀ (k:Nat) x,os[k]?=some x->x.1≠.loc d:=fun k x hx e=> by
   obtain ⟨a3,h1,_⟩:=bg k x hx
   rw [e,hn] at h1
   cases h1
  have hz:∀ (k:Nat) nm cs,(nms.zip xs)[k]?=some (nm,cs)->nms[k]?=some nm/\xs[k]?=some cs:=fun k nm cs hk=> by
   rw [XC] at hk
   exact hk
  have a0:Zh st ({ val:=some (.ptr (.loc d) 0),mem:=nms.zip xs }:Eff U)=st.dead:=by funext t;simp [Zh]
  have ai:Keeps g g1 st.dead st.dead (fun nm=> (st.mem nm).isSome) (ZJ st ({ val:=some (.ptr (.loc d) 0),mem:=nms.zip xs }:Eff U)):=by
   refine ⟨fun c v hv=> L.fr.mono c v hv,fun c t hd ht=> (ah c _ ht fun nm e=> by cases e).1,fun t ht=> ht,fun nm hl=> ⟨?_,ak nm fun e=> ?_⟩,fun t v _ hv=> hv,fun k=> ak _ (by simp)⟩
   .simp only [ZJ]
    rcases Ye st.mem (nms.zip xs) nm with ⟨k,cs,_,h2⟩ | ⟨_,h2⟩
    .rw [h2];try rfl
    .rw [h2];exact hl
   .subst e
    simp [hn] at hl
  have a4:(nms.zip xs)[os.length]?=some (.loc d,xs[os.length]'V1):=by
   rw [XC]
   exact ⟨by simp [nms],Q0 _⟩
  refine ⟨v,rfl,g1,⟨fun c v hv=> ?_,fun c t ht=> ?_⟩,?_,by rw [a0];exact ai,?_,?_,?_,?_⟩
  .obtain ⟨h1,h2⟩:=L.inv.im c v hv
   exact ⟨h1,by simp only [g1,h2]⟩
  .obtain ⟨t',a6⟩:=bo c t ht
   exact L.inv.it c t' a6
  .refine ⟨h.fr.stay.trans L.fr.stay,fun k=> (ak _ (by simp)).trans (h.fr.xad k),fun c v hv=> L.fr.mono c v (h.fr.mono c v hv),fun c t ht=> ?_,fun c t ht=> ?_,fun b hb bc=> ?_,fun c hc=> (L.fr.frz c (QJ hc h.fr.stay.size)).trans (h.fr.frz c hc)⟩
   .obtain ⟨h1,h2⟩:=h.fr.outer c t ht
    obtain ⟨h3,h4⟩:=ah c _ h1 (fun nm e=> by cases e)
    exact ⟨h3,h4.trans h2⟩
   .simp only [g1] at ht
    split at ht
    .rename_i t' a6
     cases ht
     exact h.fr.outer' c t ((aq c _).1 (L.fr.outer' c _ a6)).1
    .cases hx:nms[‹Nat›]? with
     | none=> simp [hx] at ht
     | some x=> simp [hx] at ht
    .cases ht
   .obtain ⟨h1,h2⟩:=h.fr.clean b hb bc
    have ao:∀ o s t,g.tag ⟨b,o,s⟩=some t->∃ t',t= .outer t':=fun o s t ht=> bc o s t (by rw [<-h2];exact ht)
    have au:∀ o s t,gc.tag ⟨b,o,s⟩=some t->∃ t',t= .outer t':=by
     intro o s t ht
     obtain ⟨t0,aw⟩:=Z4r ht
     obtain ⟨t1,rfl⟩:=ao o s t0 aw
     have:=(aq ⟨b,o,s⟩ (.outer t1)).2 ⟨aw,(fun nm e=> by cases e),(fun u e=> by cases e)⟩
     rw [ht] at this
     cases this
     exact ⟨_,rfl⟩
    obtain ⟨h3,h4⟩:=L.fr.clean b (QJ hb h.fr.stay.size) au
    refine ⟨h3.trans h1,fun o s=> ?_⟩
    rw [<-h2 o s]
    have h5:g'.tag ⟨b,o,s⟩=gc.tag ⟨b,o,s⟩:=h4 o s
    cases hgt:g.tag ⟨b,o,s⟩ with
    | none=>
     have h6:gc.tag ⟨b,o,s⟩=none:=Z4s hgt
     simp only [g1,h5,h6]
    | some t=>
     obtain ⟨t1,rfl⟩:=ao o s t hgt
     exact (ah _ _ hgt (fun nm e=> by cases e)).1
  .rw [a0]
   intro nm az hm j cc hj
   rcases Ye st.mem (nms.zip xs) nm with ⟨k,cs,h1,h2⟩ | ⟨h1,h2⟩
   .rw [h2] at hm
    cases hm
    obtain ⟨aj,bf⟩:=hz k nm az h1
    obtain ⟨v0,h4,h5,h6⟩:=L.x k az bf j cc hj
    have h7:RelC cfg g1 st.dead v0 cc:=RelC.plain (g1:=g') (g2:=g1) rfl (bm az (Qz bf) cc (Qz hj)) h6
    have h8:g1.ad nm=g'.ad (.x k):=by
     rcases Xu k os.length with hk | hk
     .have a5:os[k]?=some os[k]:=Q0 hk
      have e:nm=os[k].1:=by simp only [nms] at aj;rw [Qv (by simpa using hk),List.getElem?_map,a5] at aj;simpa using aj.symm
      rw [e,ak _ (bx k _ a5),bp k _ a5]
     .have bv:k=os.length:=by have:=(Q2.1 aj).1;simp [nms] at this;omega
      subst bv
      have e:nm= .loc d:=by simp [nms] at aj;exact aj.symm
      rw [e]
      simp only [g1,if_true]
    rw [h8]
    exact ⟨v0,h4,by simp only [g1,h5,aj,Q9],h7⟩
   .rw [h2] at hm
    obtain ⟨v0,h4,h5,h6⟩:=h.mem nm az hm j cc hj
    have bt:Yj os 0 nm=none:=Z9j (fun i x hx e=> by
     have hi:=(Q2.1 hx).1
     have h9:(nms.zip xs)[i]?=some (nm,xs[i]'V1):=by
      rw [XC]
      refine ⟨?_,Q0 _⟩
      simp only [nms]
      rw [Qv (by simpa using hi),List.getElem?_map,hx,<-e]
      try rfl
     exact h1 i _ h9 rfl) 0
    obtain ⟨h7,h8⟩:=ah _ _ h5 (fun b9 e=> by cases e;exact bt)
    have a8:nm≠.loc d:=fun e=> by subst e;rw [hn] at hm;cases hm
    rw [ak nm a8]
    exact ⟨v0,h8.trans h4,h7,h6.keep ai⟩
  .have hv:v= .pointer (some ((g'.ad (.x os.length)).add 0)):=L.val.2
   refine ⟨?_,?_⟩
   .simp only [ZJ]
    rcases Ye st.mem (nms.zip xs) (.loc d) with ⟨k,cs,_,h2⟩ | ⟨h1,_⟩
    .rw [h2];try rfl
    .exact absurd rfl (h1 _ _ a4)
   .rw [hv]
    simp only [g1,if_true]
  .intro t x hx
   rw [a0]
   have hx:st.ls t=some x:=by simpa [J8,Zn] using hx
   obtain ⟨h1,h2⟩:=h.ls t x hx
   exact ⟨h1,h2.keep ai h1 (fun c v hv=> (L.inv.im c v (L.fr.mono c v hv)).1) fun c bq=> (ah c _ bq fun nm e=> by cases e).2⟩
  .intro t h0 h7 h8
   rw [a0] at h8
   exact h.fresh t h0 (by trivial) h8
end Go.AM
