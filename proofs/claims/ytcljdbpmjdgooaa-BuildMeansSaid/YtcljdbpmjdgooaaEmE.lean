import Derived.Test.YtcljdbpmjdgooaaEmD
import Derived.Laws.StructEq
set_option linter.unusedSimpArgs false
set_option linter.unusedVariables false
namespace Go.AM
variable {U:Uni} {P:Program} {cfg:Cfg U} {B:Base} {st:FSt U} {g:Gh} {a:Act} {w:World} {live:Name->Bool}
theorem ZaY{p x:V U}{u:Value}{off n:Nat}(hp:RelV cfg g st.dead live u p)(he:Z4m p off n=some x):
  ∃ b,u= .pointer (some b)/\RelV cfg g st.dead live (.pointer (some (b.add off))) x:=by
 unfold Z4m at he
 split at he
 .simp only [Option.some.injEq] at he
  subst he
  obtain ⟨h1,rfl⟩:=hp
  exact ⟨_,rfl,h1,by rw [Go.Deep.add_add]⟩
 .rename_i cs
  split at he
  .rename_i hle
   simp only [Option.some.injEq] at he
   subst he
   obtain ⟨b,rfl,hb⟩:=hp
   refine ⟨b,rfl,b.add off,rfl,fun j c hc=> ?_⟩
   rw [Qh] at hc
   rw [Go.Deep.add_add]
   grind
  .cases he
 .cases he
theorem Z09(ok:CfgOk P cfg){t:TypeId}{ag:Bool}{zs:List (C U)}(ht:cfg.var t=some (ag,zs))(w:World):
  (sizeOf t).run P w= .ok zs.length w/\(isAgg t).run P w= .ok ag w/\zs.length≠0:=by
 obtain ⟨hpos,i,z,d,h1,h2,h3,h4,h5,h6,_⟩:=ok.var _ _ _ ht
 refine ⟨by simp [sizeOf,typeInfo,h1,h3],?_,by omega⟩
 rw [<-h4]
 cases d <;> simp [isAgg,run_underlying h2,TypeDesc.ag]
theorem Z2t (ok:CfgOk P cfg) {t ft:TypeId} {f off:Nat} {ag:Bool} {zs:List (C U)} (hf:cfg.fld t f=some (off,ft)) (ht:cfg.var ft=some (ag,zs))
  {p x:V U} {u:Value} (hp:RelV cfg g st.dead live u p) (he:Z4m p off zs.length=some x):
  ∃ r,(Instr.fieldAt t u f).run P w= .ok r w/\RelV cfg g st.dead live r x:=by
 obtain ⟨fs,fd,h1,h2,h3,h4⟩:=ok.fld _ _ _ _ hf
 obtain ⟨b,rfl,hb⟩:=ZaY hp he
 obtain ⟨hs,_,hn⟩:=Z09 ok ht w
 have hn':zs≠[]:=fun h=> hn (by simp [h])
 refine ⟨_,?_,hb⟩
 simp [Instr.fieldAt,run_underlying h1,h2,Instr.sureAddr,fieldPlace,h4,hs,h3,hn']
theorem Z4s (ok:CfgOk P cfg) {t:TypeId} {ag:Bool} {zs:List (C U)} (ht:cfg.var t=some (ag,zs)) {vs:Array Value} {cs:List (C U)} {off:Nat} {x:V U}
  (hr:RelL cfg g st.dead vs.toList cs) (hle:off+zs.length<=cs.length) (he:mkV ag ((cs.drop off).take zs.length)=some x):
  ∃ r,(part t vs off).run P w= .ok r w/\RelV cfg g st.dead live r x:=by
 obtain ⟨hs,ha,hn⟩:=Z09 ok ht w
 have hsub:=hr.sub off zs.length
 refine ⟨_,?_,hsub.mkV he⟩
 have hsize:vs.size=cs.length:=by have:=hr.1;simpa using this
 cases ag with
 | true=>
  simp only [part,Sem.run_bind,ha,Result.andThen_ok,if_true,hs,Sem.run_pure]
  congr 2
  grind
 | false=>
  obtain ⟨hpos,i,z,d,h1,h2,h3,h4,h5,h6,_⟩:=ok.var _ _ _ ht
  have hz2:zs.length=1:=by
   have:=congrArg List.length h6.2.2
   rw [h6.2.1 rfl] at this;simpa using this.symm
  have hlt:off < vs.size:=by omega
  simp [part,ha,hlt,hz2,List.getD,Qh]
theorem ZcD (ok:CfgOk P cfg) {t ft:TypeId} {f off:Nat} {ag:Bool} {zs:List (C U)} (hf:cfg.fld t f=some (off,ft)) (ht:cfg.var ft=some (ag,zs))
  {cs:List (C U)} {x:V U} {u:Value} (hp:RelV cfg g st.dead live u (.agg cs)) (hle:off+zs.length<=cs.length) (he:mkV ag ((cs.drop off).take zs.length)=some x):
  ∃ r,(Instr.field t u f).run P w= .ok r w/\RelV cfg g st.dead live r x:=by
 obtain ⟨fs,fd,h1,h2,h3,h4⟩:=ok.fld _ _ _ _ hf
 obtain ⟨vs,rfl,hv⟩:=hp
 obtain ⟨r,hr,hx⟩:=Z4s (w:=w) (live:=live) ok ht hv hle he
 refine ⟨r,?_,hx⟩
 simp [Instr.field,run_underlying h1,h2,asAgg,h3,h4,hr]
theorem Z7g (ok:CfgOk P cfg) {t:TypeId} {T:U.Ty} {l:List (U.El T)} {tl:Tail} {k:IntKind} {n:Int} {u:Value} (ht:cfg.slT t=some T)
  (hu:RelC cfg g st.dead u (.slice T l tl)) (hn:0<=n/\n < l.length):
  ∃ r,(Instr.indexAt t u (.int k n)).run P w= .ok r w/\RelV cfg g st.dead live r (.ep (cfg.enc T (l.getD n.toNat (cfg.dflt T)))):=by
 obtain ⟨hE,hU⟩:=Y8 ok ht
 have hsz:=Yd ok T w
 rw [<-hE] at hsz
 have h1:=hu.1
 cases h1 with
 | snil=> grind
 | slice _ _ _ b len cap vs hl hc hm hs=>
  have hlt:n.toNat < l.length:=by omega
  have hx:l[n.toNat]?=some (l.getD n.toNat (cfg.dflt T)):=by simp [List.getD,Q0 hlt]
  refine ⟨.pointer (some (b.add (n.toNat*cfg.sz T))),?_,b.add (n.toNat*cfg.sz T),rfl,?_⟩
  .rw [run_indexAt_slice w t b len cap k n hU,if_pos ⟨hn.1,by omega⟩,hsz];try rfl
  .intro j c hc
   rw [Go.Deep.add_add]
   refine ⟨_,hm _ _ hx j c hc,hs _ _ hx j c hc,?_⟩
   have hpl:=ok.enc_plain _ _ c (QC hc)
   cases c with
   | slice S l' tl'=> cases tl' <;> first | trivial | (simp [C.plain] at hpl)
   | mref t=> trivial
   | _=> trivial
theorem Z4p{g:Gh}{dead:Tok->Bool}{v:Value}{c:C U}(h:c.plain=true):TailOk cfg g dead v c:=by
 cases c with
 | slice S l' tl'=> cases tl' <;> first | trivial | (simp [C.plain] at h)
 | mref t=> trivial
 | _=> trivial
theorem Ziu(h:Rel cfg B st g a w){u:Tok}{x:LC U}(hx:st.ls u=some x){v:Value}{n off:Nat}(hp:RelV cfg g st.dead live v (.mp u n off)):
  ∃ b len cap,g.bs u=some (.slice (some b) len cap,cfg.sz x.T)/\v= .pointer (some (b.add (n*cfg.sz x.T+off)))/\n < x.l.length/\x.l.length=len/\len<=cap/\x.f<=len/\
   (∀ i y,x.l[i]?=some y->∀ j c,(cfg.enc x.T y)[j]?=some c->∃ u',w.cell? (b.add (i*cfg.sz x.T+j))=some u'/\SimC cfg g.m u' c/\
    (i < x.f->g.m (b.add (i*cfg.sz x.T+j))=some u')/\(x.f<=i->g.tag (b.add (i*cfg.sz x.T+j))=some (.tok u)))/\
   ∀ j,len*cfg.sz x.T<=j->j < cap*cfg.sz x.T->g.tag (b.add j)=some (.tok u):=by
 obtain ⟨hd,hL⟩:=h.ls u x hx
 obtain ⟨b,len,cap,s,h1,h2,h3⟩:=hp hd
 rcases hL.flat h1 with ⟨h4,_⟩ | ⟨b',len',cap',h4,h5,h6,h7,h8,h9⟩
 .rw [h1] at h4;cases h4
 .rw [h1] at h4
  cases h4
  exact ⟨b,len,cap,h1,h3,by omega,h5,h6,h7,h8,h9⟩
theorem Zgg (ok:CfgOk P cfg) (h:Rel cfg B st g a w) {t:TypeId} {ag:Bool} {zs:List (C U)} (ht:cfg.var t=some (ag,zs)) {u:Tok} {x:LC U} {n off:Nat} {y:V U} {v:Value} (hx:st.ls u=some x)
  (hp:RelV cfg g st.dead (fun nm=> (st.mem nm).isSome) v (.mp u n off)) (hle:off+zs.length<=cfg.sz x.T) (he:mkV ag (((cfg.enc x.T (x.l.getD n (cfg.dflt x.T))).drop off).take zs.length)=some y):
  ∃ r,(Instr.loadAt t v).run P w= .ok r w/\RelV cfg g st.dead (fun nm=> (st.mem nm).isSome) r y:=by
 obtain ⟨b,len,cap,h1,rfl,h3,h4,h5,h6,h7,h8⟩:=Ziu h hx hp
 have hel:x.l[n]?=some (x.l.getD n (cfg.dflt x.T)):=by simp [List.getD,Q0 h3]
 have hlen:=ok.enc_len x.T (x.l.getD n (cfg.dflt x.T))
 let f:Nat->Value:=fun j=> (w.cell? (b.add (n*cfg.sz x.T+off+j))).getD undef
 have hf:∀ j c,((((cfg.enc x.T (x.l.getD n (cfg.dflt x.T))).drop off).take zs.length)[j]?=some c)->w.cell? ((b.add (n*cfg.sz x.T+off)).add j)=some (f j)/\RelC cfg g st.dead (f j) c:=by
  intro j c hc
  rw [QV,Qh] at hc
  split at hc
  .obtain ⟨v,h9,h10,_,_⟩:=h7 n _ hel (off+j) c hc
   rw [Go.Deep.add_add]
   rw [show n*cfg.sz x.T+(off+j)=n*cfg.sz x.T+off+j by omega] at h9
   simp only [f,h9]
   exact ⟨rfl,h10,Z4p (ok.enc_plain _ _ c (QC hc))⟩
  .cases hc
 have hll:(((cfg.enc x.T (x.l.getD n (cfg.dflt x.T))).drop off).take zs.length).length=zs.length:=by rw [Qd,Xq];omega
 have hrel:=RelL.of_get (cfg:=cfg) (g:=g) (st:=st) (f:=f) (fun j c hc=> (hf j c hc).2)
 refine ⟨_,?_,hrel.mkV he⟩
 simp only [Instr.loadAt,Instr.sureAddr,Sem.run_bind,Sem.run_pure,Result.andThen_ok]
 refine Z0f ok ht (by grind) ?_
 intro j v hv
 have hj:j < (((cfg.enc x.T (x.l.getD n (cfg.dflt x.T))).drop off).take zs.length).length:=by
  have:=(Q1.1 hv).1
  rw [QG,List.length_range] at this
  exact this
 rw [Qa,Xs hj] at hv
 simp only [Q5,Option.some.injEq] at hv
 subst hv
 exact (hf j _ (Q0 hj)).1
theorem Zf7(h:Rel cfg B st g a w){u:Tok}{x:LC U}(hT:cfg.aT x.T=none)(hx:st.ls u=some x){v:Value}(hv:RelC cfg g st.dead v (.mref u)):
  ∃ b len cap,v= .slice b len cap/\x.l.length=len/\g.bs u=some (v,cfg.sz x.T)/\(b=none->len=0/\cap=0)/\len<=cap:=by
 obtain ⟨hd,hL⟩:=h.ls u x hx
 obtain ⟨s,hs⟩:=hv.2 hd
 rcases hL.flatT hT with ⟨h4,h5,_⟩ | ⟨b',len',cap',h4,h5,h6,_⟩
 .rw [hs] at h4
  cases h4
  exact ⟨none,0,0,rfl,by rw [h5];rfl,hs,fun _=> ⟨rfl,rfl⟩,Qn _⟩
 .rw [hs] at h4
  cases h4
  exact ⟨some b',len',cap',rfl,h5,hs,fun h=> (by cases h),h6⟩
theorem Z66 (ok:CfgOk P cfg) (h:Rel cfg B st g a w) {t:TypeId} {u:Tok} {x:LC U} {k:IntKind} {n:Int} {v:Value} (ht:cfg.slT t=some x.T) (hx:st.ls u=some x)
  (hv:RelC cfg g st.dead v (.mref u)) (hn:0<=n/\n < x.l.length):
  ∃ r,(Instr.indexAt t v (.int k n)).run P w= .ok r w/\RelV cfg g st.dead live r (.mp u n.toNat 0):=by
 obtain ⟨hE,hU⟩:=Y8 ok ht
 have hsz:=Yd ok x.T w
 rw [<-hE] at hsz
 obtain ⟨b,len,cap,rfl,h1,h2,h3,h4⟩:=Zf7 h (ok.aSl _ _ ht) hx hv
 cases b with
 | none=> grind
 | some b=>
  refine ⟨.pointer (some (b.add (n.toNat*cfg.sz x.T))),?_,fun _=> ⟨b,len,cap,_,h2,by omega,rfl⟩⟩
  rw [run_indexAt_slice w t b len cap k n hU,if_pos ⟨hn.1,by omega⟩,hsz];try rfl
theorem Z6c (ok:CfgOk P cfg) {t ft:TypeId} {f off:Nat} {z:Bool × List (C U)} (hf:cfg.fld t f=some (off,ft)) (ht:cfg.var ft=some z) (h:Rel cfg B st g a w) {u:Tok} {x:LC U} (hx:st.ls u=some x)
  {n o':Nat} {v:Value} (hp:RelV cfg g st.dead live v (.mp u n o')):
  ∃ r,(Instr.fieldAt t v f).run P w= .ok r w/\RelV cfg g st.dead live r (.mp u n (o'+off)):=by
 obtain ⟨fs,fd,h1,h2,h3,h4⟩:=ok.fld _ _ _ _ hf
 obtain ⟨hd,_⟩:=h.ls u x hx
 obtain ⟨b,len,cap,s,h5,h6,rfl⟩:=hp hd
 obtain ⟨ag,zs⟩:=z
 obtain ⟨hs,_,hn⟩:=Z09 ok ht w
 have hn':zs≠[]:=fun h=> hn (by simp [h])
 refine ⟨.pointer (some (b.add (n*s+(o'+off)))),?_,fun _=> ⟨b,len,cap,s,h5,h6,rfl⟩⟩
 simp [Instr.fieldAt,run_underlying h1,h2,Instr.sureAddr,fieldPlace,h4,hs,h3,hn',Go.Deep.add_add,Nat.add_assoc]
theorem Z0q (ok:CfgOk P cfg) {t et:TypeId} {len:Nat} {ag:Bool} {zs:List (C U)} {k:IntKind} {n:Int} {u:Value} {nm:Name} {off:Nat}
  (ht:cfg.arr t=some (len,et)) (hz:cfg.var et=some (ag,zs)) (hu:RelV cfg g st.dead live u (.ptr nm off)) (hn:0<=n/\n < len):
  ∃ r,(Instr.indexAt t u (.int k n)).run P w= .ok r w/\RelV cfg g st.dead live r (.ptr nm (off+n.toNat*zs.length)):=by
 have h1:=ok.arr _ _ _ ht
 have hl:P.arrayLen t=len:=by simp [Program.arrayLen,h1]
 have he:P.elem t=et:=by simp [Program.elem,h1]
 obtain ⟨hs,_,_⟩:=Z09 ok hz w
 obtain ⟨h2,rfl⟩:=hu
 refine ⟨.pointer (some (((g.ad nm).add off).add (n.toNat*zs.length))),?_,h2,by rw [Go.Deep.add_add]⟩
 rw [run_indexAt_array w t _ k n (by grind),hl,he,if_pos hn,hs];try rfl
theorem Z8T (ok:CfgOk P cfg) {t et:TypeId} {len:Nat} {k0:IntKind} {n0:Int} {k:IntKind} {n:Int} {u:Value} {nm:Name} {off:Nat}
  (ht:cfg.arr t=some (len,et)) (hz:cfg.var et=some (false,[.int k0 n0])) (hu:RelV cfg g st.dead live u (.ptr nm off)) (hn:0<=n/\n < len):
  ∃ r,(Instr.indexAt t u (.int k n)).run P w= .ok r w/\RelV cfg g st.dead live r (.ap nm off k0 len n):=by
 obtain ⟨r,h1,h2,h3⟩:=Z0q (w:=w) (k:=k) (g:=g) (st:=st) (live:=live) ok ht hz hu hn
 exact ⟨r,h1,h2,hn,by rw [h3];simp⟩
theorem Z65 (ok:CfgOk P cfg) {t et:TypeId} {len:Nat} {k0:IntKind} {n0:Int} {k:IntKind} {n:Int} {u:Value} {cs:List (C U)} {l:List Int}
  (ht:cfg.arr t=some (len,et)) (hz:cfg.var et=some (false,[.int k0 n0])) (hu:RelV cfg g st.dead live u (.agg cs)) (hlen:len=cs.length) (hl:JV k0 cs=some l) (hn:0<=n/\n < len):
  ∃ r,(Instr.index t u (.int k n)).run P w= .ok r w/\RelV cfg g st.dead live r (.c (.int k0 (l.getD n.toNat 0))):=by
 have h1:=ok.arr _ _ _ ht
 obtain ⟨hs,_,_⟩:=Z09 ok hz w
 obtain ⟨vs,rfl,hv⟩:=hu
 obtain ⟨h2,h3⟩:=Z0w hl
 have hget:l[n.toNat]?=some (l.getD n.toNat 0):=by simp [List.getD,Q0 (show n.toNat < l.length by omega)]
 have hc:=h3 _ _ hget
 have he:mkV false ((cs.drop (n.toNat*1)).take 1)=some (.c (.int k0 (l.getD n.toNat 0))):=by
  have:(cs.drop (n.toNat*1)).take 1=[.int k0 (l.getD n.toNat 0)]:=by
   rw [Nat.mul_one]
   apply List.ext_getElem?
   intro j
   rw [QV,Qh]
   cases j with
   | zero=> simpa using hc
   | succ j=> simp
  rw [this];try rfl
 obtain ⟨r,hr,hx⟩:=Z4s (w:=w) (live:=live) ok hz hv (off:=n.toNat*1) (by simp;omega) (by simpa using he)
 refine ⟨r,?_,hx⟩
 have hr':(part et vs (n.toNat*[C.int (U:=U) k0 n0].length)).run P w= .ok r w:=by simpa using hr
 simp [Instr.index,run_underlying h1,asIntOf,hn,hs]
 simpa using hr
theorem Z7f (ok:CfgOk P cfg) {t et:TypeId} {len:Nat} {ag:Bool} {zs:List (C U)} {k:IntKind} {n:Int} {u:Value} {cs:List (C U)} {x:V U}
  (ht:cfg.arr t=some (len,et)) (hz:cfg.var et=some (ag,zs)) (hu:RelV cfg g st.dead live u (.agg cs)) (hn:0<=n/\n < len)
  (hle:n.toNat*zs.length+zs.length<=cs.length) (he:mkV ag ((cs.drop (n.toNat*zs.length)).take zs.length)=some x):
  ∃ r,(Instr.index t u (.int k n)).run P w= .ok r w/\RelV cfg g st.dead live r x:=by
 have h1:=ok.arr _ _ _ ht
 obtain ⟨hs,_,_⟩:=Z09 ok hz w
 obtain ⟨vs,rfl,hv⟩:=hu
 obtain ⟨r,hr,hx⟩:=Z4s (w:=w) (live:=live) ok hz hv hle he
 refine ⟨r,?_,hx⟩
 simp [Instr.index,run_underlying h1,asIntOf,hn,hs,hr]
theorem Z9v {ws:List (Bool × List (C U))} {i:Nat} {ag:Bool} {cs:List (C U)} {x:V U} {u:Value} (hu:RelV cfg g st.dead live u (.tup ws))
  (hi:ws[i]?=some (ag,cs)) (he:mkV ag cs=some x):∃ r,(Instr.extract u i).run P w= .ok r w/\RelV cfg g st.dead live r x:=by
 obtain ⟨vs,rfl,h1,h2⟩:=hu
 have hlt:i < vs.size:=by have:=(Q1.1 hi).1;omega
 have h3:=h2 i _ _ (QB hlt) hi
 refine ⟨vs[i],by simp [Instr.extract,hlt],?_⟩
 cases ag with
 | true=>
  simp only [mkV,Option.some.injEq] at he
  subst he
  exact h3
 | false=>
  obtain ⟨c,hc,hr⟩:=h3
  simp only at hc
  subst hc
  simp only [mkV,Option.some.injEq] at he
  subst he
  exact hr
theorem ZgF(ok:CfgOk P cfg)(h:Rel cfg B st g a w){t ty:TypeId}{x:V U}{c:C U}{u:Value}(hu:RelV cfg g st.dead live u x)(he:lenOf cfg st t x=some c):
  ∃ r,(Builtin.len_ #[t] ty #[u]).run P w= .ok r w/\RelC cfg g st.dead r c:=by
 unfold lenOf at he
 split at he
 .rename_i t'
  split at he
  .rename_i S x hS hx
   split at he
   .rename_i hST _
    simp only [Option.some.injEq] at he
    subst he
    obtain ⟨hE,hU⟩:=Y8 ok hS
    obtain ⟨b,len,cap,rfl,h1,_⟩:=Zf7 h (ok.aSl _ _ (hST▸hS)) hx hu
    refine ⟨_,run_len_slice w t ty b len cap hU,?_,trivial⟩
    rw [h1];exact .int _ _
   .cases he
  .cases he
 .split at he
  .rename_i S hS
   simp only [Option.some.injEq] at he
   subst he
   obtain ⟨hE,hU⟩:=Y8 ok hS
   have h1:SimC cfg g.m u .nils:=hu.1
   cases h1
   exact ⟨_,run_len_slice w t ty none 0 0 hU,.int _ _,trivial⟩
  .cases he
 .rename_i T l tl
  split at he
  .rename_i S hS
   split at he
   .rename_i hST _
    simp only [Option.some.injEq] at he
    subst he
    obtain ⟨hE,hU⟩:=Y8 ok hS
    have h1:SimC cfg g.m u (.slice T l tl):=hu.1
    cases h1 with
    | snil=> exact ⟨_,run_len_slice w t ty none 0 0 hU,.int _ _,trivial⟩
    | slice _ _ _ b len cap vs hl hc hm hs=>
     refine ⟨_,run_len_slice w t ty (some b) len cap hU,?_,trivial⟩
     rw [<-hl];exact .int _ _
   .cases he
  .cases he
 .cases he
theorem Z5d{mx:Bool}{x y c:C U}{u v:Value}{ts:Array TypeId}{ty:TypeId}(hx:RelC cfg g st.dead u x)(hy:RelC cfg g st.dead v y)(he:Z3V mx x y=some c):
  ∃ r,(if mx then Builtin.max_ ts ty #[u,v] else Builtin.min_ ts ty #[u,v]).run P w= .ok r w/\RelC cfg g st.dead r c:=by
 unfold Z3V at he
 split at he
 .rename_i k p k' q
  split at he
  .rename_i hk
   subst hk
   simp only [Option.some.injEq] at he
   subst he
   have h1:=hx.1
   have h2:=hy.1
   cases h1;cases h2
   cases mx with
   | true=> exact ⟨.int k (if p < q then q else p),by rfl,.int _ _,trivial⟩
   | false=> exact ⟨.int k (if q < p then q else p),by rfl,.int _ _,trivial⟩
  .cases he
 .cases he
theorem Z90(off:Nat):∀ (vs:List Value) (j:Nat) (cs:Array Value),off+j+vs.length<=cs.size->
  ((vs.zipIdx j).foldl (fun (cs:Array Value) (x:Value × Nat)=> cs.setIfInBounds (off+x.2) x.1) cs).toList=cs.toList.take (off+j)++vs++cs.toList.drop (off+j+vs.length)
 | [],j,cs,h=> by simp
 | v ::vs,j,cs,h=> by
  simp only [List.zipIdx_cons,List.foldl_cons,Qc] at*
  rw [Z90 off vs (j+1) _ (by simp;omega)]
  rw [Array.toList_setIfInBounds]
  have e1:(cs.toList.set (off+j) v).take (off+(j+1))=cs.toList.take (off+j)++[v]:=by
   have hlt:off+j < cs.toList.length:=by simp;omega
   rw [show off+(j+1)=off+j+1 by omega,List.take_succ_eq_append_getElem (by simp;omega)]
   rw [List.take_set_of_le (by omega)]
   simp
  have e2:(cs.toList.set (off+j) v).drop (off+(j+1)+vs.length)=cs.toList.drop (off+j+(vs.length+1)):=by
   rw [List.drop_set_of_lt (by omega)]
   congr 1;omega
  grind
theorem ZaM{vs new:List Value}{cs cn cs':List (C U)}{off:Nat}(h:RelL cfg g st.dead vs cs)(hn:RelL cfg g st.dead new cn)(he:Y9 cs off cn=some cs'):
  off+new.length<=vs.length/\RelL cfg g st.dead (vs.take off++new++vs.drop (off+new.length)) cs':=by
 unfold Y9 at he
 split at he
 .rename_i hle
  simp only [Option.some.injEq] at he
  subst he
  have h1:=h.1
  have h2:=hn.1
  refine ⟨by omega,?_,?_⟩
  .simp;omega
  .intro j v c hv hc
   simp only [QM] at hv hc
   rw [Qm] at hv hc
   simp only [Qd] at hv hc
   rw [Xb (by omega)] at hv
   rw [Xb (by omega)] at hc
   split at hv
   .rename_i hj
    rw [if_pos hj] at hc
    rw [QL hj] at hv hc
    exact h.2 j v c hv hc
   .rename_i hj
    rw [if_neg hj] at hc
    rw [Qm] at hv hc
    rw [h2] at hv
    split at hv
    .rename_i hj2
     rw [if_pos hj2] at hc
     exact hn.2 _ v c hv hc
    .rename_i hj2
     rw [if_neg hj2] at hc
     rw [Qh] at hv hc
     exact h.2 _ v c hv hc
 .cases he
theorem Z38{α β:Type}{f:α->Option β}:∀ {l:List α} {r:List β},l.mapM f=some r->∀ (i:Nat) x,l[i]?=some x->∃ y,r[i]?=some y/\f x=some y
 | [],r,h,i,x,hx=> by simp at hx
 | a ::l,r,h,i,x,hx=> by
  rw [QF] at h
  cases ha:f a with
  | none=> simp [ha] at h
  | some b=>
   cases hl:l.mapM f with
   | none=> grind
   | some r'=>
    simp [ha,hl] at h
    subst h
    cases i with
    | zero=> grind
    | succ i=> simp at hx;obtain ⟨y,h1,h2⟩:=Z38 hl i x hx;grind
theorem Z4D{t:TypeId}{pl:Nat->Option (Nat × Nat)}(hpl:∀ i off n,Zb7 cfg t i=some (off,n)->pl i=some (off,n)):
  ∀ (parts:List (Nat × Value)) (ps:List (Nat × List (C U))) (vs:Array Value) (cs cs':List (C U)),parts.length=ps.length->
   (∀ (j:Nat) x y,parts[j]?=some x->ps[j]?=some y->x.1=y.1/\RelL cfg g st.dead x.2.cells.toList y.2)->
   RelL cfg g st.dead vs.toList cs->JC cfg t cs ps=some cs'->
   ∃ vs',Instr.fill pl vs parts=some vs'/\RelL cfg g st.dead vs'.toList cs'
 | [],[],vs,cs,cs',_,_,h,he=> by
  simp only [JC,Option.some.injEq] at he
  subst he
  exact ⟨vs,rfl,h⟩
 | (i,v) ::r,(i',new) ::ps,vs,cs,cs',hl,hr,h,he=> by
  obtain ⟨hi,hv⟩:=hr 0 _ _ rfl rfl
  simp only at hi hv
  subst hi
  simp only [JC] at he
  split at he
  .rename_i off n hf
   split at he
   .rename_i hlen
    cases hs:Y9 cs off new with
    | none=> grind
    | some cs1=>
     simp only [hs,K7] at he
     obtain ⟨h1,h2⟩:=ZaM h hv hs
     have hplace:=hpl _ _ _ hf
     have hsz:v.cells.size=n:=by have:=hv.1;simp at this;omega
     have hsz2:¬(off+v.cells.size > vs.size):=by simp at h1;omega
     let vs1:Array Value:=v.cells.zipIdx.foldl (fun cs (c,j)=> cs.setIfInBounds (off+j) c) vs
     have hvs1:vs1.toList=vs.toList.take off++v.cells.toList++vs.toList.drop (off+v.cells.toList.length):=by
      show (v.cells.zipIdx.foldl (fun cs (c,j)=> cs.setIfInBounds (off+j) c) vs).toList=_
      rw [<-Array.foldl_toList,Array.toList_zipIdx]
      have:=Z90 off v.cells.toList 0 vs (by simp;omega)
      simpa using this
     obtain ⟨vs',h10,h11⟩:=Z4D hpl r ps vs1 cs1 cs' (by simpa using hl)
      (fun j x y hx hy=> hr (j+1) x y (by simpa using hx) (by simpa using hy)) (by grind) he
     refine ⟨vs',?_,h11⟩
     simp only [Instr.fill,hplace]
     grind
   .cases he
  .cases he
theorem Z6I:∀ (fs:List Field),(fs.all fun fd=> (P.info? fd.type).isSome)=true->∃ places,fs.mapM (fun f=> (P.info? f.type).map fun i=> (f.offset,i.size))=some places
 | [],_=> ⟨[],rfl⟩
 | f ::fs,h=> by
  simp only [List.all_cons,Q3] at h
  obtain ⟨i,hi⟩:=Xa.1 h.1
  obtain ⟨pl,hpl⟩:=Z6I fs h.2
  simp_all
theorem YH{ag:Bool}{z:Value}{zs:List (C U)}(h:Zmn ag z zs):RelL cfg g st.dead z.cells.toList zs:=Z6M h.2.2
theorem ZcN (ok:CfgOk P cfg) {t:TypeId} {zs cs:List (C U)} (ht:cfg.var t=some (true,zs)) {parts:Array (Nat × Value)} {ps:List (Nat × List (C U))} (hl:parts.size=ps.length)
  (hr:∀ (j:Nat) x y,parts[j]?=some x->ps[j]?=some y->x.1=y.1/\RelL cfg g st.dead x.2.cells.toList y.2) (he:JC cfg t zs ps=some cs):
  ∃ r,(Instr.build t parts).run P w= .ok r w/\RelV cfg g st.dead live r (.agg cs):=by
 obtain ⟨hpos,i,z,d,h1,h2,h3,h4,h5,h6,h7,h8,h9,h10⟩:=ok.var _ _ _ ht
 have hz:=YH (g:=g) (st:=st) (cfg:=cfg) h6
 cases d <;> simp only [TypeDesc.ag,Qs] at h4
 case struct fs=>
  obtain ⟨pl,hpl⟩:=Z6I fs.toList (h9 fs rfl)
  obtain ⟨vs',h11,h12⟩:=Z4D (t:=t) (pl:=(pl.toArray[·]?)) (by
   intro k off n hp
   unfold Zb7 at hp
   split at hp
   .rename_i off' ft hf
    split at hp
    .rename_i ag zs' hz'
     cases hp
     obtain ⟨fs',fd,h3',h4',h5',h6'⟩:=ok.fld _ _ _ _ hf
     rw [h2] at h3'
     cases h3'
     obtain ⟨_,ii,_,_,h7',_,h9',_⟩:=ok.var _ _ _ hz'
     obtain ⟨y,h12,h13⟩:=Z38 hpl k fd (by grind)
     grind
    .cases hp
   .split at hp
    .rename_i len et ha
     have:=ok.arr _ _ _ ha
     grind
    .cases hp) parts.toList ps z.cells zs cs (by simpa using hl)
   (fun j x y hx hy=> hr j x y (by simpa using hx) hy) hz he
  refine ⟨_,run_build w t parts vs' ?_,vs',rfl,h12⟩
  simp only [Program.built,h1,h2,h5,hpl]
  exact h11
 case array n e=>
  obtain ⟨ie,hie⟩:=Xa.1 (h10 n e rfl)
  obtain ⟨vs',h11,h12⟩:=Z4D (t:=t) (pl:=fun i=> some (i*ie.size,ie.size)) (by
   intro k off m hp
   unfold Zb7 at hp
   split at hp
   .rename_i off' ft hf
    obtain ⟨fs,fd,h7',_⟩:=ok.fld _ _ _ _ hf
    grind
   .split at hp
    .rename_i len et ha
     split at hp
     .rename_i ag zs' hz'
      cases hp
      have h3':=ok.arr _ _ _ ha
      rw [h2] at h3'
      cases h3'
      obtain ⟨_,ii,_,_,h7',_,h9',_⟩:=ok.var _ _ _ hz'
      grind
     .cases hp
    .cases hp) parts.toList ps z.cells zs cs (by simpa using hl)
   (fun j x y hx hy=> hr j x y (by simpa using hx) hy) hz he
  refine ⟨_,run_build w t parts vs' ?_,vs',rfl,h12⟩
  simp only [Program.built,h1,h2,h5,hie]
  exact h11
theorem SimC.intE{m:Addr->Option Value}{v:Value}{k:IntKind}{n:Int}(h:SimC cfg m v (.int k n)):v= .int k n:=by cases h;rfl
theorem Z4Y{t:TypeId}{k:IntKind}{xs:Array Value}{off:Nat}(hu:P.underlying t=some (.int k))(hlt:off < xs.size):(part t xs off).run P w= .ok xs[off] w:=by
 simp [part,isAgg,run_underlying hu,hlt]
theorem Z42{t:TypeId}{xs:Array Value}{off:Nat}(hu:P.underlying t=some .bool)(hlt:off < xs.size):(part t xs off).run P w= .ok xs[off] w:=by
 simp [part,isAgg,run_underlying hu,hlt]
theorem SimC.boolE{m:Addr->Option Value}{v:Value}{b:Bool}(h:SimC cfg m v (.bool b)):v= .bool b:=by cases h;rfl
theorem ZbT:∀ {zs as:List (C U)},Z40 zs as=true->zs.length=as.length/\∀ (i:Nat) (c:C U),as[i]?=some c->(∃ k n,c=C.int k n/\∃ k n,zs[i]?=some (C.int k n))\/(∃ b,c=C.bool b/\∃ b,zs[i]?=some (C.bool b))
 | [],[],_=> ⟨rfl,fun i c h=> by simp at h⟩
 | [],a ::as,h=> by trivial
 | z ::zs,[],h=> by cases z <;> simp [Z40] at h
 | z ::zs,a ::as,h=> by
  have hr:Z40 zs as=true:=by cases z <;> cases a <;> simp_all [Z40]
  have ih:=ZbT hr
  refine ⟨by simp [ih.1],fun i c hc=> ?_⟩
  cases i with
  | succ i=> grind
  | zero=>
   simp only [XR,Option.some.injEq] at hc ⊢
   subst hc
   cases z <;> cases a <;> simp [Z40] at h ⊢
theorem Z5s {d : Nat} {xs ys : Array Value} {fs : Array Field} {m : Addr → Option Value} (hfs : ∀ (i : Nat) f, fs[i]? = some f → f.name ≠ "_" ∧ f.offset = i) :
  ∀ (l:List Field) (i:Nat) (as bs:List (C U)) (r:Bool),(∀ j,l[j]?=fs[i+j]?)->(∀ (j:Nat) (f:Field) (c:C U),l[j]?=some f->as[j]?=some c->(∀ k n,c=C.int k n->∃ k,P.underlying f.type=some (.int k))/\∀ b,c=C.bool b->P.underlying f.type=some .bool)->
   as.length=l.length->Z9w as bs=some r->(∀ j c,as[j]?=some c->∃ v,xs[i+j]?=some v/\SimC cfg m v c)->(∀ j c,bs[j]?=some c->∃ v,ys[i+j]?=some v/\SimC cfg m v c)->
   (Op.eqFields (d+1) xs ys l).run P w= .ok r w
 | [],i,[],bs,r,_,_,_,he,_,_=> by
  cases bs with
  | nil=> simp only [Z9w,Option.some.injEq] at he;subst he;rfl
  | cons b bs=> trivial
 | f ::l,i,a ::as,bs,r,hl,hk,hn,he,hx,hy=> by
  obtain ⟨h1,h2⟩:=hfs i f (by have:=hl 0;grind)
  have h3:=hk 0 f a rfl rfl
  cases bs with
  | nil=> cases a <;> simp [Z9w] at he
  | cons b bs=>
   obtain ⟨v,hv,sv⟩:=hx 0 a rfl
   obtain ⟨u,hu,su⟩:=hy 0 b rfl
   rw [Xo] at hv hu
   obtain ⟨hvl,rfl⟩:=QI.1 hv
   obtain ⟨hul,rfl⟩:=QI.1 hu
   have ih:=fun r' hr=> Z5s (d:=d) hfs l (i+1) as bs r' (fun j=> by have:=hl (j+1);grind) (fun j f c hf hc=> hk (j+1) f c (by simpa using hf) (by simpa using hc)) (by simpa using hn) hr
    (fun j c hj=> by have:=hx (j+1) c (by simpa using hj);simpa [Nat.add_assoc,Nat.add_comm 1 j] using this) (fun j c hj=> by have:=hy (j+1) c (by simpa using hj);simpa [Nat.add_assoc,Nat.add_comm 1 j] using this)
   cases a <;> cases b <;> simp only [Z9w,reduceCtorEq] at he
   .rename_i k1 n1 k2 n2
    split at he
    .rename_i hk
     subst hk
     cases hr:Z9w as bs with
     | none=> grind
     | some r'=>
      simp only [hr,Q5,Option.some.injEq] at he
      subst he
      have ih:=ih r' hr
      have e1:xs[i]= .int k1 n1:=sv.intE
      have e2:ys[i]= .int k1 n2:=su.intE
      obtain ⟨k,h3⟩:=h3.1 _ _ rfl
      simp only [Op.eqFields,h1,ne_eq,not_false_eq_true,if_true,Sem.run_bind,h2,Z4Y h3 hvl,Z4Y h3 hul,Result.andThen_ok,e1,e2,run_equalIn_int w d f.type k1 k n1 n2 h3]
      cases hb:(n1==n2) with
      | true=> simpa using ih
      | false=> simp
    .cases he
   .rename_i b1 b2
    cases hr:Z9w as bs with
    | none=> grind
    | some r'=>
     simp only [hr,Q5,Option.some.injEq] at he
     subst he
     have ih:=ih r' hr
     have e1:xs[i]= .bool b1:=sv.boolE
     have e2:ys[i]= .bool b2:=su.boolE
     have h3:=h3.2 _ rfl
     simp only [Op.eqFields,h1,ne_eq,not_false_eq_true,if_true,Sem.run_bind,h2,Z42 h3 hvl,Z42 h3 hul,Result.andThen_ok,e1,e2,run_equalIn_bool w d f.type b1 b2 h3]
     cases hb:(b1==b2) with
     | true=> simpa using ih
     | false=> simp
theorem Z72(ok:CfgOk P cfg){t:TypeId}{p q:Operand}{as bs:List (C U)}{r:Bool}{u v:Value}(ht:cfg.eqs t=true)(hu:RelV cfg g st.dead live u (.agg as))(hv:RelV cfg g st.dead live v (.agg bs))(he:Z9w as bs=some r){ag:Bool}{zs:List (C U)}(hz:cfg.var t=some (ag,zs))(hsk:Z40 zs as=true):
  (do eqGuard .eql t p q u v;binOp .eql t u v:Sem Value).run P w= .ok (.bool r) w/\(do eqGuard .neq t p q u v;binOp .neq t u v:Sem Value).run P w= .ok (.bool (!r)) w:=by
 obtain ⟨fs,h1,h0,h2,h3,h4⟩:=ok.eqs t ht
 obtain ⟨xs,rfl,hx⟩:=hu
 obtain ⟨ys,rfl,hy⟩:=hv
 have hf:P.fieldsOf t=fs:=by simp [Program.fieldsOf,h1]
 obtain ⟨hlen,hkk⟩:=ZbT hsk
 have hl:as.length=fs.size:=hlen.symm.trans (h0 _ _ hz)
 have hrun:=Z5s (P:=P) (cfg:=cfg) (w:=w) (d:=9998) (xs:=xs) (ys:=ys) (m:=g.m) (fun i f hf=> ⟨(h4 i f hf).1,(h4 i f hf).2.1⟩) fs.toList 0 as bs r (fun j=> by simp)
  (fun j f c hf hc=> by
   grind) (by simpa using hl) he
  (fun j c hj=> by
   have hjl:j < xs.toList.length:=by have h5:=(Q1.1 hj).1;have:=hx.1;omega
   have hg:=Q0 hjl
   exact ⟨_,by grind,(hx.2 j _ c hg hj).1⟩)
  (fun j c hj=> by
   have hjl:j < ys.toList.length:=by have h5:=(Q1.1 hj).1;have:=hy.1;omega
   have hg:=Q0 hjl
   exact ⟨_,by grind,(hy.2 j _ c hg hj).1⟩)
 have he2:(Op.equalIn 10000 t (.agg xs) (.agg ys)).run P w= .ok r w:=by
  rw [run_equalIn_agg w 9999 t xs ys (by grind) h2,hf]
  exact hrun
 refine ⟨?_,?_⟩
 .simp only [Sem.run_bind,run_eqGuard_agg w .eql t p q xs ys h3,Result.andThen_ok,run_eql_struct,he2]
 .simp only [Sem.run_bind,run_eqGuard_agg w .neq t p q xs ys h3,Result.andThen_ok,run_neq_struct,he2]
end Go.AM
