import Derived.Test.YtcljdbpmjdgooaaEmR
set_option linter.unusedSimpArgs false
set_option linter.unusedVariables false
namespace Go.AM
variable {U:Uni} {P:Program} {cfg:Cfg U} {B:Base} {st:FSt U} {g:Gh} {a:Act} {w:World} {live:Name->Bool}
theorem Z1H{α:Type}{l:List α}{i:Nat}{x:α}(h:i < l.length):l[i]?=some (l.getD i x):=by simp [List.getD,Q0 h]
theorem Z78(h:Rel cfg B st g a w){A:AV U}(hA:st.ar cfg=some A):
  st.dead .A=false/\∃ x f,st.ls .A=some x/\x.T=A.T/\cfg.aT A.T=some f/\ARel w g (A.S ::A.P.toList) A.v:=by
 unfold FSt.ar at hA
 split at hA
 case h_2=> cases hA
 rename_i x hx
 split at hA
 case h_2=> cases hA
 rename_i f hf
 obtain ⟨hd,hL⟩:=h.ls .A x hx
 rcases hL with ⟨_,e,_⟩ | ⟨f',hf',_,hL⟩
 .cases e
 rw [hf] at hf'
 cases hf'
 split at hA
 .rename_i y hy
  cases hA
  rw [hy] at hL
  exact ⟨hd,x,f,hx,rfl,hf,hL⟩
 .rename_i y y' hy
  cases hA
  rw [hy] at hL
  exact ⟨hd,x,f,hx,rfl,hf,hL⟩
 .cases hA
theorem Zeh(h:Rel cfg B st g a w){A:AV U}(hA:st.strip.ar cfg=some A){v:Value}(hv:RelC cfg g st.dead v (.mref .A)):∃ b,v= .pointer (some b):=by
 obtain ⟨hd,x,f,_,_,_,hR⟩:=Z78 h (show st.ar cfg=some A from hA)
 obtain ⟨b,s,hb⟩:=hR.ptr
 obtain ⟨s',hs⟩:=hv.2 hd
 rw [hb] at hs
 cases hs
 exact ⟨b,rfl⟩
theorem ARel.now{l:List AState}{n:Nat}{S:AState}(h:ARel w g (S ::l) n):∃ b v hs,ANow w g n S b v hs:=by
 match l,h with
 | [],⟨b,v,hs,h1,_⟩=> exact ⟨b,v,hs,h1⟩
 | [P],⟨b,v,hs,h1,_⟩=> exact ⟨b,v,hs,h1⟩
theorem Zby (h:Rel cfg B st g a w) {g':Gh} {w':World} {S:Addr->Prop} (he:Evo w w' S) (hS:∀ c,S c->∃ t,t.isA=true/\g.tag c=some (.tok t))
  (hm:g'.m=g.m) (had:g'.ad=g.ad) (ht:∀ c t,g.tag c=some t->g'.tag c=some t)
  (hn:∀ c t,g'.tag c=some t->g.tag c=some t\/(w.heap.size<=c.block/\(∃ u,t= .tok u)/\w'.frozen? c=false/\∃ v,w'.cell? c=some v))
  (hb:∀ t v,g.bs t=some v->g'.bs t=some v) (hb0:∀ t,t.isA=false->g'.bs t=g.bs t) {x':LC U} (hd:st.dead .A=false)
  (hL:LRel cfg w' g' .A x') {val:Option (V U)} {v:Value} (hval:RelV cfg g' st.dead (fun nm=> (st.mem nm).isSome) v (val.getD .junk)):
  Out cfg B st g { val:=val,ls:=[(.A,x')] } v w' g':=by
 have hde:Zb st ({ val:=val,ls:=[(.A,x')] }:Eff U)=st.dead:=by funext t;simp [Zb]
 have hli:ZK st ({ val:=val,ls:=[(.A,x')] }:Eff U)=fun nm=> (st.mem nm).isSome:=rfl
 have hcell:∀ c t,g.tag c=some t->(∀ u,u.isA=true->t≠.tok u)->w'.cell? c=w.cell? c:=fun c t hc hu=> he.cell c (h.inv.lt hc) fun hs=> by
  obtain ⟨u,h1,h2⟩:=hS c hs
  rw [hc] at h2
  cases h2
  exact hu u h1 rfl
 have hmc:∀ c v,g.m c=some v->w'.cell? c=some v:=fun c v hv=> by
  obtain ⟨h1,h2⟩:=h.inv.im c v hv
  rw [he.cell c (h.inv.lt' hv) fun hs=> by obtain ⟨u,_,h3⟩:=hS c hs;rw [h2] at h3;cases h3]
  exact h1
 have hkeep:Keeps g g' st.dead st.dead (fun nm=> (st.mem nm).isSome) (fun nm=> (st.mem nm).isSome):=
  ⟨fun c v hv=> by rw [hm];exact hv,fun c t _ _ hc=> ht c _ hc,fun _ h=> h,fun nm hl=> ⟨hl,by rw [had]⟩,fun t v _ hv=> hb t v hv,fun k=> by rw [had],fun t _ v hv=> hb t v hv⟩
 refine ⟨⟨fun c v hv=> ?_,fun c t hc=> ?_⟩,?_,by rw [hde,hli];exact hkeep,?_,by rw [hde,hli];exact hval,?_,?_⟩
 .rw [hm] at hv
  refine ⟨hmc c v hv,?_⟩
  cases hc:g'.tag c with
  | none=> rfl
  | some t=>
   have h2:=(h.inv.im c v hv).2
   have h3:=h.inv.lt' hv
   rcases hn c t hc with h4 | ⟨h4,_⟩
   .rw [h2] at h4;cases h4
   .omega
 .rcases hn c t hc with h4 | ⟨_,_,h5,h6⟩
  .obtain ⟨h5,v,h6⟩:=h.inv.it c t h4
   exact ⟨(he.frozen c (h.inv.lt h4)).trans h5,he.some c v h6⟩
  .exact ⟨h5,h6⟩
 .refine h.fr.step h.inv he (fun c hs=> ?_) (fun c v hv=> by rw [hm];exact hv) (fun c t=> ⟨fun hc=> ht c _ hc,fun hc=> ?_⟩) (fun b hb hcl o s=> ?_) (fun k=> by rw [had]) (fun v _ hv=> hb _ v hv)
  .obtain ⟨u,_,h2⟩:=hS c hs
   exact ⟨_,h2,fun t' e=> by cases e⟩
  .rcases hn c _ hc with h4 | ⟨_,⟨u,e⟩,_⟩
   .exact h4
   .cases e
  .cases hc:g.tag ⟨b,o,s⟩ with
   | some t=> exact ht _ _ hc
   | none=>
    cases hc':g'.tag ⟨b,o,s⟩ with
    | none=> rfl
    | some t=>
     rcases hn _ t hc' with h4 | ⟨h4,_⟩
     .rw [hc] at h4;cases h4
     .exact absurd hb (Nat.not_lt.2 h4)
 .intro nm cs hcs j c hj
  rw [hde]
  obtain ⟨v,h1,h2,h3⟩:=h.mem nm cs hcs j c hj
  rw [had]
  exact ⟨v,(hcell _ _ h2 fun u _ e=> by cases e).trans h1,ht _ _ h2,h3.keep hkeep⟩
 .intro t x hx
  rw [hde]
  simp only [Ye,Qx,cond_false,Z7] at hx
  split at hx
  .rename_i e
   subst e
   cases hx
   exact ⟨hd,hL⟩
  .rename_i hne
   obtain ⟨h1,h2⟩:=h.ls t x hx
   refine ⟨h1,h2.keep hkeep h1 hmc (fun c u hr hc=> hcell c _ hc fun u' hu e=> ?_) (fun e=> absurd e hne) (fun e=> absurd e hne)⟩
   cases e
   exact hne (by rw [<-hr];cases u <;> first | rfl | cases hu)
 .intro t h0 h1 h2
  simp only [Ye,Qx,cond_false,Z7] at h1
  rw [hde] at h2
  split at h1
  .cases h1
  .rename_i hne
   have hA:t.isA=false:=by cases t <;> first | rfl | exact absurd rfl hne
   rw [hb0 t hA]
   exact h.fresh t h0 h1 h2
theorem SimC.int_eq'{m:Addr->Option Value}{v:Value}{k:IntKind}{n:Int}(h:SimC cfg m v (.int k n)):v= .int k n:=by
 cases h;rfl
def Z2w(bs:Tok->Option (Value × Nat))(n:Nat)(v:Value)(hs:Nat->Value):Tok->Option (Value × Nat)
 | .S m k=> if m=n then (match k with | 0=> some (v,1) | i+1=> some (hs i,1)) else bs (.S m k)
 | t=> bs t
theorem J7(ok:CfgOk P cfg){T:U.Ty}{f0:U.El T->AState}(hf0:cfg.aT T=some f0){l:List AState}{v:Nat}{val:Option (V U)}{e:Eff U}(he:YG cfg T l v val=some e):
  ∃ l',e={ val:=val,ls:=[(.A,⟨T,l',v⟩)] }/\l'.map f0=l:=by
 unfold YG at he
 split at he
 case h_2=> cases he
 rename_i l' hl
 cases he
 refine ⟨l',rfl,?_⟩
 clear val
 induction l generalizing l' with
 | nil=> simp at hl;subst hl;rfl
 | cons S l ih=>
  rw [QF] at hl
  cases h1:cfg.aOf T S with
  | none=> simp [h1] at hl
  | some y=>
   cases h2:l.mapM (cfg.aOf T) with
   | none=> simp [h1,h2] at hl
   | some r=>
    simp [h1,h2] at hl
    subst hl
    obtain ⟨f,hf,e⟩:=ok.aOf _ _ _ h1
    rw [hf0] at hf
    cases hf
    rw [Xe,e,ih r h2]
theorem Zif(ok:CfgOk P cfg){Γ:Known U}(hna:Γ.na=true->B.ab=none)(h:Rel cfg B st g a w){d:Nat}{f:FuncId}{r r':List Prop × Eff U}{o:Oper}(hr:Does P o a w fun v w'=> ∃ g',Out cfg B st g r.2 v w' g')(he:Z4b cfg Γ st d f r=some r'):
  r'.1=r.1/\Does P o a w fun v w'=> ∃ g',Out cfg B st g r'.2 v w' g':=by
 unfold Z4b at he
 split at he
 case h_2=> cases he;exact ⟨rfl,hr⟩
 rename_i s hs
 split at he
 .cases he;exact ⟨rfl,hr⟩
 rename_i T hT
 split at he
 case h_2=> cases he
 rename_i d1 d' x y z hr2
 rw [cond_eq_ite] at he
 split at he
 case isFalse=> cases he
 rename_i hc
 simp only [Q3,Qp,Qo] at hc
 obtain ⟨⟨hn,hls,hdd,hde1,hde2⟩,hmd⟩:=hc
 have hde1:=Q4 hde1
 have hde2:=Q4 hde2
 rw [hde1,hde2] at hr2
 clear hde1 hde2
 have hab:=hna hn
 cases h1:YG cfg T [⟨[],x,y,z⟩] 0 (some (.c (.mref .A))) with
 | none=> simp only [h1,QN,reduceCtorEq] at he
 | some e'=>
 simp only [h1,Q5,Option.some.injEq] at he
 subst he
 refine ⟨rfl,?_⟩
 have hTf:∃ f0,cfg.aT T=some f0:=by
  unfold YG at h1
  split at h1
  case h_2=> cases h1
  rename_i l hl
  rw [QF] at hl
  cases h2:cfg.aOf T ⟨[],x,y,z⟩ with
  | none=> simp [h2] at hl
  | some q=> obtain ⟨f0,h3,_⟩:=ok.aOf _ _ _ h2;exact ⟨f0,h3⟩
 obtain ⟨f0,hf0⟩:=hTf
 obtain ⟨l',rfl,hl'⟩:=J7 ok hf0 h1
 rw [hr2] at hr
 have key:∀ v w' g',Out cfg B st g { val:=some (.ptr (.loc d) 0),mem:=[(.loc d,[.nils,.int .i64 x,.int .i64 y,.int .i64 z])] } v w' g'->
   ∃ g',Out cfg B st g { val:=some (.c (.mref .A)),ls:=[(.A,⟨T,l',0⟩)] } v w' g':=by
  intro v w' g' O
  have hfree:∀ t:Tok,t.isA=true->g'.bs t=none:=fun t ht=> O.fresh t (by rw [hab,ht];simp) (by
   have:t.root= .A:=by cases t <;> first | rfl | cases ht
   rw [this];simp [Ye,Z7,hls]) (by
   have:t.root= .A:=by cases t <;> first | rfl | cases ht
   rw [this];simp [Zb,hdd])
  have hcell:=O.mem (.loc d) [.nils,.int .i64 x,.int .i64 y,.int .i64 z] (by simp [Zz])
  have hv:v= .pointer (some (g'.ad (.loc d))):=by have:=O.val.2;rw [Addr.add_zero'] at this;exact this
  let g2:Gh:={ m:=g'.m,tag:=fun c=> match g'.tag c with | some (.obj nm)=> if nm= .loc d then some (.tok .A) else some (.obj nm) | t=> t,ad:=g'.ad,bs:=Z2w (fun t=> match t with | .A=> some (v,0) | t=> g'.bs t) 1 (.slice none 0 0) fun _=> .slice none 0 0 }
  have htg:∀ c t,t≠.obj (.loc d)->g'.tag c=some t->g2.tag c=some t:=by
   intro c t ht hc
   simp only [g2,hc]
   cases t with
   | obj nm=> simp only;rw [if_neg (fun e=> ht (by rw [e]))]
   | _=> rfl
  have htn:∀ c t,g2.tag c=some t->g'.tag c=some t\/(t= .tok .A/\g'.tag c=some (.obj (.loc d))):=by
   intro c t hc
   simp only [g2] at hc
   split at hc
   .rename_i nm hnm
    split at hc
    .rename_i e;subst e;cases hc;exact .inr ⟨rfl,hnm⟩
    .cases hc;exact .inl hnm
   .exact .inl hc
  have hbk:∀ t u,g'.bs t=some u->g2.bs t=some u:=by
   intro t u hu
   cases hA:t.isA with
   | true=> rw [hfree t hA] at hu;cases hu
   | false=> cases t <;> first | exact hu | cases hA
  have hbn:∀ t:Tok,t.isA=false->g2.bs t=g'.bs t:=fun t hA=> by cases t <;> first | rfl | cases hA
  have hk2:∀ dead:Tok->Bool,Keeps g' g2 dead dead (fun _=> false) (fun _=> false):=fun dead=>
   ⟨fun _ _ h=> h,fun c t _ _ hc=> htg c _ (by simp) hc,fun _ h=> h,fun _ h=> (by cases h),fun t u _ hu=> hbk t u hu,fun _=> rfl,fun t _ u hu=> hbk t u hu⟩
  have hdd2:∀ e:Eff U,e.kill=[]->Zb st e=st.dead:=fun e he=> by funext t;simp [Zb,he]
  have hd0:=hdd2 { val:=some (.ptr (.loc d) 0),mem:=[(.loc d,[.nils,.int .i64 x,.int .i64 y,.int .i64 z])] } rfl
  have hkeep:Keeps g g2 st.dead st.dead (fun nm=> (st.mem nm).isSome) (fun nm=> (st.mem nm).isSome):=by
   have k:=O.keep
   rw [hd0] at k
   refine ⟨k.m,fun c t hd hA hc=> htg c _ (by simp) (k.tok c t hd hA hc),fun _ h=> h,fun nm hn=> ⟨hn,(k.ad nm hn).2⟩,fun t u hd hu=> hbk t u (k.bs t u hd hu),k.adx,fun t hA u hu=> hbk t u (k.ar t hA u hu)⟩
  refine ⟨g2,⟨fun c u hu=> ?_,fun c t hc=> ?_⟩,?_,?_,fun nm cs hcs j c hj=> ?_,?_,fun t q hq=> ?_,fun t h0 h2 h3=> ?_⟩
  .obtain ⟨h2,h3⟩:=O.inv.im c u hu
   exact ⟨h2,by simp only [g2,h3]⟩
  .rcases htn c t hc with h2 | ⟨_,h2⟩ <;> exact O.inv.it c _ h2
  .refine O.fr.step O.inv (Evo.refl w' (fun _=> False)) (fun c hc=> hc.elim) (fun _ _ h=> h) (fun c t=> ⟨htg c _ (by simp),fun hc=> ?_⟩) (fun b _ hall o s=> ?_) (fun _=> rfl) (fun u hu=> by rw [hab] at hu;cases hu)
   .rcases htn c _ hc with h2 | ⟨h2,_⟩
    .exact h2
    .cases h2
   .cases hc:g'.tag ⟨b,o,s⟩ with
    | none=> simp only [g2,hc]
    | some t=> obtain ⟨t',rfl⟩:=hall o s t hc;exact htg _ _ (by simp) hc
  .rw [hdd2 _ rfl];exact hkeep
  .rw [hdd2 _ rfl]
   have hne:nm≠.loc d:=fun e=> by
    have h2:st.mem nm=some cs:=hcs
    rw [e,hmd] at h2;cases h2
   obtain ⟨u,h2,h3,h4⟩:=O.mem nm cs (by simp only [Zz];rw [if_neg hne];exact hcs) j c hj
   rw [hd0] at h4
   exact ⟨u,h2,htg _ _ (by simpa using hne) h3,h4.keep (hk2 _)⟩
  .exact ⟨.mref _ _ (by rw [hv];exact ⟨rfl,rfl⟩),fun _=> ⟨0,rfl⟩⟩
  .rw [hdd2 _ rfl]
   simp only [Ye,Qx,cond_false,Z7] at hq
   split at hq
   .rename_i e
    subst e
    cases hq
    refine ⟨hdd,.inr ⟨f0,hf0,rfl,?_⟩⟩
    show ARel w' g2 (l'.map f0) 0
    rw [hl']
    have hT2:∀ j,j < 4->g2.tag ((g'.ad (.loc d)).add j)=some (.tok .A):=fun j hj=> by
     obtain ⟨u,_,h3,_⟩:=hcell j _ (Q0 (by simpa using hj))
     simp only [g2,h3,if_true]
    obtain ⟨u0,c0,_,r0,_⟩:=hcell 0 _ rfl
    obtain ⟨u1,c1,_,r1,_⟩:=hcell 1 _ rfl
    obtain ⟨u2,c2,_,r2,_⟩:=hcell 2 _ rfl
    obtain ⟨u3,c3,_,r3,_⟩:=hcell 3 _ rfl
    refine ⟨g'.ad (.loc d),.slice none 0 0,fun _=> .slice none 0 0,⟨⟨0,by rw [<-hv];rfl⟩,hT2,?_,?_,?_,?_,⟨.inl ⟨rfl,rfl⟩,fun i l hl=> by simp at hl⟩,rfl,fun i hi=> by simp at hi⟩,fun m i hm=> ?_⟩
    .cases r0;exact c0
    .cases r1;exact c1
    .cases r2;exact c2
    .cases r3;exact c3
    .simp only [g2,Z2w]
     rw [if_neg (by omega)]
     exact hfree _ rfl
   .rename_i hne
    obtain ⟨h2,h3⟩:=O.ls t q (by simp only [Ye,Qx,cond_false,Z7];exact hq)
    rw [hd0] at h2
    refine ⟨h2,h3.keep (hk2 st.dead) h2 (fun c u hu=> (O.inv.im c u hu).1) (fun _ _ _ _=> rfl) (fun e=> absurd e hne) (fun e=> absurd e hne)⟩
  .simp only [Ye,Qx,cond_false,Z7] at h2
   rw [hdd2 _ rfl] at h3
   split at h2
   .cases h2
   .rename_i hne
    have hA:t.isA=false:=by cases t <;> first | rfl | exact absurd rfl hne
    rw [hbn t hA]
    exact O.fresh t h0 (by simp only [Ye,Qx,cond_false,Z7];exact h2) (by rw [hd0];exact h3)
 rcases hr with ⟨u,w',h2,g',h3⟩ | ⟨w',h2,g',h3⟩ | ⟨f,args,w',h2,h3⟩
 .exact .inl ⟨u,w',h2,key _ _ _ h3⟩
 .exact .inr (.inl ⟨w',h2,key _ _ _ h3⟩)
 .exact .inr (.inr ⟨f,args,w',h2,Calls.mono h3 fun e w'' ⟨u,he,g',h4⟩=> ⟨u,he,key _ _ _ h4⟩⟩)
theorem Z9A (ok:CfgOk P cfg) (h:Rel cfg B st g a w) {A:AV U} (hA:st.ar cfg=some A) {t ft:TypeId} {f off:Nat} {z:Bool × List (C U)} (hf:cfg.fld t f=some (off,ft)) (ht:cfg.var ft=some z) (ho:off < 4)
  {v:Value} (hv:RelC cfg g st.dead v (.mref .A)):∃ r,(Instr.fieldAt t v f).run P w= .ok r w/\RelV cfg g st.dead live r (.ar A.v (.fp off)):=by
 obtain ⟨hd,x,f0,hx,hT,hf0,hR⟩:=Z78 h hA
 obtain ⟨b,s,hb⟩:=hR.ptr
 obtain ⟨s',hs'⟩:=hv.2 hd
 rw [hb] at hs'
 cases hs'
 obtain ⟨fs,fd,h1,h2,h3,h4⟩:=ok.fld _ _ _ _ hf
 obtain ⟨ag,zs⟩:=z
 obtain ⟨hs,_,hn⟩:=Z09 ok ht w
 have hn':zs≠[]:=fun h=> hn (by simp [h])
 refine ⟨.pointer (some (b.add off)),?_,ho,b,s,hb,rfl⟩
 simp [Instr.fieldAt,run_underlying h1,h2,Instr.sureAddr,fieldPlace,h4,hs,h3,hn']
theorem Z0z(ok:CfgOk P cfg){t:TypeId}{z:C U}(ht:cfg.var t=some (false,[z])){b:Addr}{v:Value}(hv:w.cell? b=some v):(Instr.loadAt t (.pointer (some b))).run P w= .ok v w:=by
 have:=Z0f (w:=w) ok ht (b:=b) (vs:=[v]) rfl (fun j u hu=> by
  cases j with
  | zero=> simp at hu;subst hu;rw [Addr.add_zero'];exact hv
  | succ j=> simp at hu)
 simp [Instr.loadAt,Instr.sureAddr,this]
theorem ZbA (ok:CfgOk P cfg) (h:Rel cfg B st g a w) {A:AV U} (hA:st.ar cfg=some A) {t:TypeId} {zs:List (C U)} (ht:cfg.var t=some (false,zs)) {n:Nat} {k:AK} {v:Value} (hv:ARV g n v k)
  {y:V U} (he:Z4H A n zs k=some y):∃ r,(Instr.loadAt t v).run P w= .ok r w/\RelV cfg g st.dead live r y:=by
 obtain ⟨hd,x,f0,hx,hT,hf0,hR⟩:=Z78 h hA
 obtain ⟨b,hv0,hs,hN⟩:=hR.now
 obtain ⟨s,hbs⟩:=hN.bs
 unfold Z4H at he
 split at he
 .rename_i off
  obtain ⟨_,b',s',h1,rfl⟩:=hv
  rw [hbs] at h1
  cases h1
  split at he
  .rw [cond_eq_ite] at he
   split at he
   case isFalse=> cases he
   rename_i hn
   cases he
   have hn:=Q4 hn
   subst hn
   exact ⟨_,Z0z ok ht hN.c0,hN.h0⟩
  .cases he;exact ⟨_,Z0z ok ht hN.c1,.int _ _,trivial⟩
  .cases he;exact ⟨_,Z0z ok ht hN.c2,.int _ _,trivial⟩
  .cases he;exact ⟨_,Z0z ok ht hN.c3,.int _ _,trivial⟩
  .cases he
 .rename_i i
  split at he
  .rw [cond_eq_ite] at he
   split at he
   case isFalse=> cases he
   rename_i hn
   cases he
   have hn:=Q4 hn
   subst hn
   obtain ⟨b',len,cap,h1,h2,rfl⟩:=hv
   have h3:=hN.h0
   rw [h1] at h3
   cases h3
   rcases hN.own.1 with ⟨e,_⟩ | ⟨b2,len2,cap2,e,h4,h5,h6,h7⟩
   .cases e
   cases e
   exact ⟨_,Z0z ok ht (h6 i h2),⟨b',len,cap,h1,h2⟩,hN.hi i (by omega)⟩
  .cases he
 .rename_i i j
  split at he
  .rw [cond_eq_ite] at he
   split at he
   case isFalse=> cases he
   rename_i hn
   cases he
   have hn:=Q4 hn
   subst hn
   obtain ⟨⟨b',len,cap,h1,h2⟩,b'',len',cap',h3,h4,rfl⟩:=hv
   have h5:=hN.h0
   rw [h1] at h5
   cases h5
   rcases hN.own.1 with ⟨e,_⟩ | ⟨b2,len2,cap2,e,h5,h6,h7,h8⟩
   .cases e
   cases e
   have h9:=hN.hi i (by omega)
   rw [h3] at h9
   have hh:hs i= .slice (some b'') len' cap':=by simp only [Option.some.injEq,Prod.mk.injEq,and_true] at h9;exact h9.symm
   have hl:A.S.segs[i]?=some (A.S.segs.getD i []):=Z1H (by omega)
   rcases hN.own.2 i _ hl with ⟨e,_⟩ | ⟨b3,len3,cap3,e,g1,g2,g3,g4⟩
   .rw [hh] at e;cases e
   rw [hh] at e
   cases e
   have hj:(A.S.segs.getD i [])[j]?=some ((A.S.segs.getD i []).getD j 0):=Z1H (by omega)
   exact ⟨_,Z0z ok ht (g3 j _ hj),.int _ _,trivial⟩
  .cases he
 .cases he
theorem ZcS (ok:CfgOk P cfg) (h:Rel cfg B st g a w) {A:AV U} (hA:st.ar cfg=some A) {t ty:TypeId} {T:U.Ty} (ht:cfg.slT t=some T) {n:Nat} {k:AK} {v:Value} (hv:ARV g n v k)
  {c:C U} (he:ZfP A n k=some c):∃ r,(Builtin.len_ #[t] ty #[v]).run P w= .ok r w/\RelC cfg g st.dead r c:=by
 obtain ⟨hd,x,f0,hx,hT,hf0,hR⟩:=Z78 h hA
 obtain ⟨b,hv0,hs,hN⟩:=hR.now
 obtain ⟨hE,hU⟩:=Y8 ok ht
 have key:∀ {v:Value} {m:Nat},(∃ b cap,v= .slice b m cap)->∃ r,(Builtin.len_ #[t] ty #[v]).run P w= .ok r w/\RelC cfg g st.dead r (.int .i64 m):=by
  rintro v m ⟨b,cap,rfl⟩
  exact ⟨_,run_len_slice w t ty b m cap hU,.int _ _,trivial⟩
 unfold ZfP at he
 split at he
 .rw [cond_eq_ite] at he
  split at he
  case isFalse=> cases he
  rename_i hn
  cases he
  have hn:=Q4 hn
  subst hn
  have h1:g.bs (.S (A.v+1) 0)=some (v,1):=hv
  rw [hN.h0] at h1
  cases h1
  refine key ?_
  rcases hN.own.1 with ⟨e,e'⟩ | ⟨b2,len2,cap2,e,h4,_⟩
  .rw [e,e'];exact ⟨_,_,rfl⟩
  .rw [e,h4];exact ⟨_,_,rfl⟩
 .rename_i i
  rw [cond_eq_ite] at he
  split at he
  case isFalse=> cases he
  rename_i hn
  cases he
  have hn:=Q4 hn
  subst hn
  obtain ⟨⟨b',len,cap,h1,h2⟩,h3⟩:=hv
  have h5:=hN.h0
  rw [h1] at h5
  cases h5
  rcases hN.own.1 with ⟨e,_⟩ | ⟨b2,len2,cap2,e,h5,h6,h7,h8⟩
  .cases e
  cases e
  have h9:=hN.hi i (by omega)
  rw [h3] at h9
  cases h9
  have hl:A.S.segs[i]?=some (A.S.segs.getD i []):=Z1H (by omega)
  refine key ?_
  rcases hN.own.2 i _ hl with ⟨e,e'⟩ | ⟨b3,len3,cap3,e,g1,_⟩
  .rw [e,e'];exact ⟨_,_,rfl⟩
  .rw [e,g1];exact ⟨_,_,rfl⟩
 .cases he
theorem Z9z (ok:CfgOk P cfg) (h:Rel cfg B st g a w) {A:AV U} (hA:st.ar cfg=some A) {t:TypeId} {n:Nat} {k:AK} {T:U.Ty} (ht:cfg.slT t=some T) (hT1:cfg.sz T=1) {v:Value} (hv:ARV g n v k)
  {ik:IntKind} {m:Int} {ps:List Prop} {y:V U} (he:Z7u A n k m=some (ps,y)) (hps:All ps):∃ r,(Instr.indexAt t v (.int ik m)).run P w= .ok r w/\RelV cfg g st.dead live r y:=by
 obtain ⟨hd,x,f0,hx,hT,hf0,hR⟩:=Z78 h hA
 obtain ⟨b,hv0,hs,hN⟩:=hR.now
 obtain ⟨hE,hU⟩:=Y8 ok ht
 have hsz:=Yd ok T w
 rw [<-hE,hT1] at hsz
 unfold Z7u at he
 split at he
 .rw [cond_eq_ite] at he
  split at he
  case isFalse=> cases he
  rename_i hn
  cases he
  have hn:=Q4 hn
  subst hn
  have hp:=hps.1
  have h1:g.bs (.S (A.v+1) 0)=some (v,1):=hv
  have h2:=h1
  rw [hN.h0] at h2
  cases h2
  rcases hN.own.1 with ⟨e,e'⟩ | ⟨b2,len2,cap2,rfl,h4,_⟩
  .rw [e'] at hp;simp at hp;omega
  refine ⟨.pointer (some (b2.add m.toNat)),?_,b2,len2,cap2,h1,by omega,rfl⟩
  rw [run_indexAt_slice w t b2 len2 cap2 ik m hU,if_pos ⟨hp.1,by omega⟩,hsz]
  simp
 .rename_i i
  rw [cond_eq_ite] at he
  split at he
  case isFalse=> cases he
  rename_i hn
  cases he
  have hn:=Q4 hn
  subst hn
  have hp:=hps.1
  obtain ⟨⟨b',len,cap,h1,h2⟩,h3⟩:=hv
  have h5:=hN.h0
  rw [h1] at h5
  cases h5
  rcases hN.own.1 with ⟨e,_⟩ | ⟨b2,len2,cap2,e,h5,h6,h7,h8⟩
  .cases e
  cases e
  have h9:=hN.hi i (by omega)
  rw [h3] at h9
  cases h9
  have hl:A.S.segs[i]?=some (A.S.segs.getD i []):=Z1H (by omega)
  rcases hN.own.2 i _ hl with ⟨e,e'⟩ | ⟨b3,len3,cap3,e,g1,_⟩
  .rw [e'] at hp;simp at hp;omega
  rw [e] at h3 ⊢
  refine ⟨.pointer (some (b3.add m.toNat)),?_,⟨b',len,cap,h1,h2⟩,b3,len3,cap3,h3,by omega,rfl⟩
  rw [run_indexAt_slice w t b3 len3 cap3 ik m hU,if_pos ⟨hp.1,by omega⟩,hsz]
  simp
 .cases he
theorem ZpE{z:Array Value}(h:z.size=1):∃ z0,z=#[z0]:=by
 obtain ⟨l⟩:=z
 match l,h with
 | [x],_=> exact ⟨x,rfl⟩
theorem Zda(ok:CfgOk P cfg){t:TypeId}{ag:Bool}{z:C U}(ht:cfg.var t=some (ag,[z])){c:Addr}{x u:Value}(hx:x.oneCell'=true/\x.cells=#[x])(hu:w.cell? c=some u)(hf:w.frozen? c=false):
  ∃ w',(Instr.storeAt t (.pointer (some c)) x).run P w= .ok () w'/\Evo w w' (fun d=> d=c)/\w'.cell? c=some x/\∀ d,d≠c->w'.cell? d=w.cell? d:=by
 obtain ⟨hs,_,_⟩:=Z09 ok ht w
 obtain ⟨w',h1,h2,h3,h4,h5,h6⟩:=Y2 (P:=P) c [x] 0 w (fun v hv=> by simp at hv;subst hv;exact hx.1) (fun j hj=> by
  have:j=0:=by simpa using hj
  subst this
  rw [Addr.add_zero']
  exact ⟨⟨u,hu⟩,hf⟩)
 have h30:=h3 0 x rfl
 rw [Addr.add_zero'] at h30
 refine ⟨w',?_,h2.weaken (fun d hd=> ?_),h30,fun d hd=> h4 d (fun j hj e=> ?_)⟩
 .simp [Instr.storeAt,Instr.sureAddr,storeVar,hs,hx.2,h1]
 .obtain ⟨j,hj,e⟩:=hd
  have:j=0:=by simpa using hj
  subst this
  rw [Addr.add_zero'] at e
  exact e
 .have:j=0:=by simpa using hj
  subst this
  rw [Addr.add_zero'] at e
  exact hd e
theorem Z3T (ok:CfgOk P cfg) (h:Rel cfg B st g a w) (hd:st.dead .A=false) {o:Oper} {t:TypeId} {p x:Operand} {ag:Bool} {z:C U} (ho:o.op= .store t p x) (ht:cfg.var t=some (ag,[z]))
  {c:Addr} (hp:a.eval p= .pointer (some c)) {u:Tok} (hu:u.isA=true) (hc:g.tag c=some (.tok u)) (hx:(a.eval x).oneCell'=true/\(a.eval x).cells=#[a.eval x])
  {bs':Tok->Option (Value × Nat)} (hb:∀ t v,g.bs t=some v->bs' t=some v) (hb0:∀ t,t.isA=false->bs' t=g.bs t) {x':LC U}
  (hL:∀ w',w'.cell? c=some (a.eval x)->(∀ d,d≠c->w'.cell? d=w.cell? d)->LRel cfg w' { g with bs:=bs' } .A x'):
  Does P o a w fun v w'=> ∃ g',Out cfg B st g { ls:=[(.A,x')] } v w' g':=by
 obtain ⟨hf,u0,hu0⟩:=h.inv.it c _ hc
 obtain ⟨w',h1,h2,h3,h4⟩:=Zda (P:=P) ok ht hx hu0 hf
 refine .inr (.inl ⟨w',?_,{ g with bs:=bs' },?_⟩)
 .simp only [execOp,ho,hp]
  simp [h1]
 .exact Zby (g':={ g with bs:=bs' }) h h2 (fun d e=> by rw [e];exact ⟨u,hu,hc⟩) rfl rfl (fun _ _ h=> h) (fun _ _ h=> .inl h) hb hb0 hd (hL w' h3 h4) trivial
theorem Own1.keep1 {w':World} {g':Gh} {i:Nat} {v:Value} {l:List Int} (ht:∀ a,g.tag a=some (.tok (.S 0 (i+1)))->g'.tag a=some (.tok (.S 0 (i+1)))/\w'.cell? a=w.cell? a)
  (h:Own1 w g i v l):Own1 w' g' i v l:=by
 rcases h with h | ⟨b,len,cap,h1,h2,h3,h4,h5⟩
 .exact .inl h
 .refine .inr ⟨b,len,cap,h1,h2,h3,fun k x hx=> ?_,fun k hk=> (ht _ (h5 k hk)).1⟩
  have hk:k < cap:=by have:=(Q1.1 hx).1;omega
  rw [(ht _ (h5 k hk)).2];exact h4 k x hx
theorem Own2.keep1 {w':World} {g':Gh} {hs:Nat->Value} {v:Value} {L:List (List Int)} (ht:∀ i a,g.tag a=some (.tok (.S 0 i))->g'.tag a=some (.tok (.S 0 i))/\w'.cell? a=w.cell? a)
  (h:Own2 w g hs v L):Own2 w' g' hs v L:=by
 refine ⟨?_,fun i l hl=> (h.2 i l hl).keep1 (ht _)⟩
 rcases h.1 with h | ⟨b,len,cap,h1,h2,h3,h4,h5⟩
 .exact .inl h
 .refine .inr ⟨b,len,cap,h1,h2,h3,fun i hi=> ?_,fun k hk=> (ht _ _ (h5 k hk)).1⟩
  rw [(ht _ _ (h5 i (by omega))).2];exact h4 i hi
theorem ANow.seg{n:Nat}{S:AState}{b:Addr}{v0:Value}{hs:Nat->Value}(hN:ANow w g n S b v0 hs){i:Nat}(hi:∃ b len cap,g.bs (.S (n+1) 0)=some (.slice (some b) len cap,1)/\i < len){v:Value}(hv:g.bs (.S (n+1) (i+1))=some (v,1)):
  i < S.segs.length/\hs i=v/\Own1 w g i v (S.segs.getD i []):=by
 obtain ⟨b',len,cap,h1,h2⟩:=hi
 have h5:=hN.h0
 rw [h1] at h5
 cases h5
 rcases hN.own.1 with ⟨e,_⟩ | ⟨b2,len2,cap2,e,h5,h6,h7,h8⟩
 .cases e
 cases e
 have hi:i < S.segs.length:=by omega
 have h9:=hN.hi i hi
 rw [hv] at h9
 simp only [Option.some.injEq,Prod.mk.injEq,and_true] at h9
 refine ⟨hi,h9.symm,?_⟩
 have:=hN.own.2 i _ (Z1H (x:=[]) hi)
 rw [<-h9] at this
 exact this
theorem Z9y (ok:CfgOk P cfg) (h:Rel cfg B st g a w) {A:AV U} (hA:st.ar cfg=some A) {o:Oper} {t:TypeId} {p x:Operand} {ag:Bool} {z:C U} (ho:o.op= .store t p x) (ht:cfg.var t=some (ag,[z]))
  {n:Nat} {k:AK} (hp:ARV g n (a.eval p) k) {y:V U} (hv:RelV cfg g st.dead (fun nm=> (st.mem nm).isSome) (a.eval x) y) {ps:List Prop} {e:Eff U} (he:Zbz cfg A n k y=some (ps,e)) (hps:All ps):
  Does P o a w fun v w'=> ∃ g',Out cfg B st g e v w' g':=by
 obtain ⟨hd,x0,f0,hx0,hT,hf0,hR⟩:=Z78 h hA
 have fld:∀ {off:Nat} {m:Int} {S':AState} {e:Eff U},A.P=none->ARV g n (a.eval p) (.fp off)->a.eval x= .int .i64 m->(1<=off/\off<=3)->
   (S'.segs=A.S.segs/\S'.x=(if off=1 then m else A.S.x)/\S'.y=(if off=2 then m else A.S.y)/\S'.z=(if off=3 then m else A.S.z))->YG cfg A.T [S'] A.v none=some e->
   Does P o a w fun v w'=> ∃ g',Out cfg B st g e v w' g':=by
  intro off m S' e hP hp hx hoff hS' he
  obtain ⟨l',rfl,hl'⟩:=J7 ok hf0 he
  rw [hP] at hR
  obtain ⟨b,v0,hs,hN,hpend⟩:=hR
  obtain ⟨s,hbs⟩:=hN.bs
  obtain ⟨hlt,b',s',h1,hp'⟩:=hp
  rw [hbs] at h1
  cases h1
  refine Z3T ok h hd ho ht hp' (u:= .A) rfl (hN.tag off hlt) (by rw [hx];exact ⟨rfl,rfl⟩) (bs':=g.bs) (fun _ _ h=> h) (fun _ _=> rfl) (fun w' hw1 hw2=> .inr ⟨f0,hf0,rfl,?_⟩)
  show ARel w' g (l'.map f0) A.v
  rw [hl']
  rw [hx] at hw1
  obtain ⟨e0,e1,e2,e3⟩:=hS'
  have hc:∀ j u,j < 4->j≠off->w.cell? (b.add j)=some u->w'.cell? (b.add j)=some u:=fun j u _ hj hu=> by rw [hw2 _ fun e=> hj (YP e)];exact hu
  have hsame:∀ i c,g.tag c=some (.tok (.S 0 i))->g.tag c=some (.tok (.S 0 i))/\w'.cell? c=w.cell? c:=fun i c hc=> ⟨hc,hw2 c fun e=> by rw [e,hN.tag off hlt] at hc;cases hc⟩
  refine ⟨b,v0,hs,⟨⟨s,hbs⟩,hN.tag,hc 0 _ (by omega) (by omega) hN.c0,?_,?_,?_,by rw [e0];exact hN.own.keep1 hsame,hN.h0,fun i hi=> hN.hi i (by rw [e0] at hi;exact hi)⟩,hpend⟩
  .rw [e1];split
   .rename_i e;subst e;exact hw1
   .rename_i e;exact hc 1 _ (by omega) (K6 e) hN.c1
  .rw [e2];split
   .rename_i e;subst e;exact hw1
   .rename_i e;exact hc 2 _ (by omega) (K6 e) hN.c2
  .rw [e3];split
   .rename_i e;subst e;exact hw1
   .rename_i e;exact hc 3 _ (by omega) (K6 e) hN.c3
 unfold Zbz at he
 split at he
 .rename_i m hP
  have hx:a.eval x= .int .i64 m:=hv.1.int_eq'
  cases h1:YG cfg A.T [{ A.S with x:=m }] A.v none with
  | none=> simp [h1] at he
  | some e'=>
   simp only [h1,Q5,Option.some.injEq,Prod.mk.injEq] at he
   obtain ⟨rfl,rfl⟩:=he
   exact fld (S':={ A.S with x:=m }) hP hp hx (by omega) ⟨rfl,rfl,rfl,rfl⟩ h1
 .rename_i m hP
  have hx:a.eval x= .int .i64 m:=hv.1.int_eq'
  cases h1:YG cfg A.T [{ A.S with y:=m }] A.v none with
  | none=> simp [h1] at he
  | some e'=>
   simp only [h1,Q5,Option.some.injEq,Prod.mk.injEq] at he
   obtain ⟨rfl,rfl⟩:=he
   exact fld (S':={ A.S with y:=m }) hP hp hx (by omega) ⟨rfl,rfl,rfl,rfl⟩ h1
 .rename_i m hP
  have hx:a.eval x= .int .i64 m:=hv.1.int_eq'
  cases h1:YG cfg A.T [{ A.S with z:=m }] A.v none with
  | none=> simp [h1] at he
  | some e'=>
   simp only [h1,Q5,Option.some.injEq,Prod.mk.injEq] at he
   obtain ⟨rfl,rfl⟩:=he
   exact fld (S':={ A.S with z:=m }) hP hp hx (by omega) ⟨rfl,rfl,rfl,rfl⟩ h1
 .rename_i i j m hP
  have hx:a.eval x= .int .u64 m:=hv.1.int_eq'
  rw [cond_eq_ite] at he
  split at he
  case isFalse=> cases he
  rename_i hn
  have hn:=Q4 hn
  subst hn
  cases h1:YG cfg A.T [{ A.S with segs:=A.S.segs.set i ((A.S.segs.getD i []).set j m) }] A.v none with
  | none=> simp only [h1,QN,reduceCtorEq] at he
  | some e'=>
  simp only [h1,Q5,Option.some.injEq,Prod.mk.injEq] at he
  obtain ⟨rfl,rfl⟩:=he
  obtain ⟨l',rfl,hl'⟩:=J7 ok hf0 h1
  rw [hP] at hR
  obtain ⟨b,v0,hs,hN,hpend⟩:=hR
  obtain ⟨s,hbs⟩:=hN.bs
  obtain ⟨hio,b'',len',cap',h3,h4,hp'⟩:=hp
  obtain ⟨hi,hh,ho1⟩:=hN.seg hio h3
  rcases ho1 with ⟨e,_⟩ | ⟨b3,len3,cap3,e,g1,g2,g3,g4⟩
  .cases e
  cases e
  have hcj:=g4 j (by omega)
  refine Z3T ok h hd ho ht hp' (u:= .S 0 (i+1)) rfl hcj (by rw [hx];exact ⟨rfl,rfl⟩) (bs':=g.bs) (fun _ _ h=> h) (fun _ _=> rfl) (fun w' hw1 hw2=> .inr ⟨f0,hf0,rfl,?_⟩)
  show ARel w' g (l'.map f0) A.v
  rw [hl']
  rw [hx] at hw1
  have hsame:∀ u c,u≠.S 0 (i+1)->g.tag c=some (.tok u)->w'.cell? c=w.cell? c:=fun u c hu hc=> hw2 c fun e=> by rw [e,hcj] at hc;cases hc;exact hu rfl
  refine ⟨b,v0,hs,⟨⟨s,hbs⟩,hN.tag,?_,?_,?_,?_,⟨?_,fun i' l hl=> ?_⟩,hN.h0,fun i' hi'=> hN.hi i' (by simpa using hi')⟩,hpend⟩
  .rw [hsame .A _ (by simp) (hN.tag 0 (by omega))];exact hN.c0
  .rw [hsame .A _ (by simp) (hN.tag 1 (by omega))];exact hN.c1
  .rw [hsame .A _ (by simp) (hN.tag 2 (by omega))];exact hN.c2
  .rw [hsame .A _ (by simp) (hN.tag 3 (by omega))];exact hN.c3
  .rcases hN.own.1 with ⟨e,e'⟩ | ⟨b2,len2,cap2,e,h5,h6,h7,h8⟩
   .rw [e'] at hi;simp at hi
   .refine .inr ⟨b2,len2,cap2,e,by simp;exact h5,h6,fun k hk=> ?_,h8⟩
    rw [hsame _ _ (by simp) (h8 k (by omega))];exact h7 k hk
  .by_cases e:i'=i
   .subst e
    simp only [List.getElem?_set_self hi,Option.some.injEq] at hl
    subst hl
    rw [hh]
    refine .inr ⟨b'',len',cap',rfl,by simp;exact g1,g2,fun k y hy=> ?_,g4⟩
    rw [Xd] at hy
    split at hy
    .rename_i e;subst e
     split at hy
     .cases hy;exact hw1
     .cases hy
    .rename_i e
     rw [hw2 _ fun e'=> e (YP e').symm]
     exact g3 k y hy
   .rw [XE (K6 e)] at hl
    exact (hN.own.2 i' l hl).keep1 fun c hc=> ⟨hc,hsame _ c (by simp;omega) hc⟩
 .rename_i n' S2 hP
  rw [cond_eq_ite] at he
  split at he
  case isFalse=> cases he
  rename_i hn
  have hn:=Q4 hn
  subst hn
  cases h1:YG cfg A.T [S2] (A.v+1) none with
  | none=> simp only [h1,QN,reduceCtorEq] at he
  | some e'=>
  simp only [h1,Q5,Option.some.injEq,Prod.mk.injEq] at he
  obtain ⟨rfl,rfl⟩:=he
  obtain ⟨l',rfl,hl'⟩:=J7 ok hf0 h1
  rw [hP] at hR
  obtain ⟨b,v0,hs0,hN,hno,hpend⟩:=hR
  obtain ⟨s,hbs⟩:=hN.bs
  obtain ⟨hlt,b',s',h2,hp'⟩:=hp
  rw [hbs] at h2
  cases h2
  rw [Addr.add_zero'] at hp'
  have h3:g.bs (.S (A.v+2) 0)=some (a.eval x,1):=hv
  rcases hpend with ⟨i,l,v,e1,e2,e3,e4,e5⟩ | ⟨L,v,hs,e2,e3,e4,e5⟩
  .rw [e4 0 (by omega)] at h3;cases h3
  rw [h3] at e3
  simp only [Option.some.injEq,Prod.mk.injEq,and_true] at e3
  subst e3
  have hone:(a.eval x).oneCell'=true/\(a.eval x).cells=#[a.eval x]:=by
   rcases e5.1 with ⟨e,_⟩ | ⟨_,_,_,e,_⟩ <;> rw [e] <;> exact ⟨rfl,rfl⟩
  have hc0:g.tag b=some (.tok .A):=by have:=hN.tag 0 (by omega);rw [Addr.add_zero'] at this;exact this
  refine Z3T ok h hd ho ht hp' (u:= .A) rfl hc0 hone (bs':=Z2w g.bs (A.v+2) (a.eval x) hs) (fun t v hv'=> ?_) (fun t ht=> ?_) (fun w' hw1 hw2=> .inr ⟨f0,hf0,rfl,?_⟩)
  .unfold Z2w
   split
   .rename_i m k
    split
    .rename_i e;subst e
     split
     .rw [h3] at hv';exact hv'
     .rename_i i;rw [e4 (i+1) (by omega)] at hv';cases hv'
    .exact hv'
   .exact hv'
  .cases t <;> first | rfl | cases ht
  .show ARel w' _ (l'.map f0) (A.v+1)
   rw [hl']
   have hc:∀ j u,j < 4->0 < j->w.cell? (b.add j)=some u->w'.cell? (b.add j)=some u:=fun j u _ hj hu=> by
    rw [hw2 _ fun e=> by have e':=e.trans (Addr.add_zero' b).symm;have:=YP e';omega];exact hu
   have hsame:∀ i c,g.tag c=some (.tok (.S 0 i))->g.tag c=some (.tok (.S 0 i))/\w'.cell? c=w.cell? c:=fun i c hc=> ⟨hc,hw2 c fun e=> by rw [e,hc0] at hc;cases hc⟩
   rw [e2]
   refine ⟨b,a.eval x,hs,⟨⟨s,hbs⟩,hN.tag,by rw [Addr.add_zero'];exact hw1,hc 1 _ (by omega) (by omega) hN.c1,hc 2 _ (by omega) (by omega) hN.c2,hc 3 _ (by omega) (by omega) hN.c3,e5.keep1 (g':={ g with bs:=_ }) hsame,?_,fun i hi=> ?_⟩,fun m i hm=> ?_⟩
   .simp [Z2w]
   .simp [Z2w]
   .simp only [Z2w]
    rw [if_neg (by omega)]
    exact hno m i (by omega)
 .rename_i i n' j S2 hP
  rw [cond_eq_ite] at he
  split at he
  case isFalse=> cases he
  rename_i hn
  simp only [Q3] at hn
  have hn1:=Q4 hn.1
  have hn2:=Q4 hn.2
  subst hn1 hn2
  cases h1:YG cfg A.T [S2] (A.v+1) none with
  | none=> simp only [h1,QN,reduceCtorEq] at he
  | some e'=>
  simp only [h1,Q5,Option.some.injEq,Prod.mk.injEq] at he
  obtain ⟨rfl,rfl⟩:=he
  have hij:i=j:=hps.1
  subst hij
  obtain ⟨l',rfl,hl'⟩:=J7 ok hf0 h1
  rw [hP] at hR
  obtain ⟨b,v0,hs0,hN,hno,hpend⟩:=hR
  obtain ⟨s,hbs⟩:=hN.bs
  obtain ⟨b',len,cap,h2,h2',hp'⟩:=hp
  have h3:g.bs (.S (A.v+2) (i+1))=some (a.eval x,1):=hv
  rcases hpend with ⟨i',l,v,e1,e2,e3,e4,e5⟩ | ⟨L,v,hs,e2,e3,e4,e5⟩
  case inr=> rw [e4 (i+1) (by omega)] at h3;cases h3
  have hii:i=i':=by
   rcases Nat.decEq i i' with hne | he
   .rw [e4 (i+1) (by omega)] at h3;cases h3
   .exact he
  subst hii
  rw [h3] at e3
  simp only [Option.some.injEq,Prod.mk.injEq,and_true] at e3
  subst e3
  have hone:(a.eval x).oneCell'=true/\(a.eval x).cells=#[a.eval x]:=by
   rcases e5 with ⟨e,_⟩ | ⟨_,_,_,e,_⟩ <;> rw [e] <;> exact ⟨rfl,rfl⟩
  have h5:=hN.h0
  rw [h2] at h5
  simp only [Option.some.injEq,Prod.mk.injEq,and_true] at h5
  rcases hN.own.1 with ⟨e,_⟩ | ⟨b2,len2,cap2,e,h5',h6,h7,h8⟩
  .rw [e] at h5;cases h5
  rw [e] at h5
  cases h5
  have hci:=h8 i (by omega)
  refine Z3T ok h hd ho ht hp' (u:= .S 0 0) rfl hci hone (bs':=Z2w g.bs (A.v+2) v0 (fun k=> if k=i then a.eval x else hs0 k)) (fun t v hv'=> ?_) (fun t ht=> ?_) (fun w' hw1 hw2=> .inr ⟨f0,hf0,rfl,?_⟩)
  .unfold Z2w
   split
   .rename_i m k
    split
    .rename_i e;subst e
     split
     .rw [e4 0 (by omega)] at hv';cases hv'
     .rename_i k
      by_cases e:k=i
      .subst e;rw [h3] at hv';simp only [if_true];exact hv'
      .rw [e4 (k+1) (by omega)] at hv';cases hv'
    .exact hv'
   .exact hv'
  .cases t <;> first | rfl | cases ht
  .show ARel w' _ (l'.map f0) (A.v+1)
   rw [hl']
   have hsame:∀ u c,u≠.S 0 0->g.tag c=some (.tok u)->w'.cell? c=w.cell? c:=fun u c hu hc=> hw2 c fun e=> by rw [e,hci] at hc;cases hc;exact hu rfl
   rw [e2]
   refine ⟨b,v0,fun k=> if k=i then a.eval x else hs0 k,⟨⟨s,hbs⟩,hN.tag,?_,?_,?_,?_,⟨?_,fun k l2 hl2=> ?_⟩,?_,fun k hk=> ?_⟩,fun m k hm=> ?_⟩
   .rw [hsame .A _ (by simp) (hN.tag 0 (by omega))];exact hN.c0
   .rw [hsame .A _ (by simp) (hN.tag 1 (by omega))];exact hN.c1
   .rw [hsame .A _ (by simp) (hN.tag 2 (by omega))];exact hN.c2
   .rw [hsame .A _ (by simp) (hN.tag 3 (by omega))];exact hN.c3
   .refine .inr ⟨b',len,cap,e,by simp;exact h5',h6,fun k hk=> ?_,h8⟩
    by_cases ek:k=i
    .subst ek;simp only [if_true];exact hw1
    .simp only [if_neg ek];rw [hw2 _ fun e'=> ek (YP e')];exact h7 k hk
   .by_cases ek:k=i
    .subst ek
     simp only [List.getElem?_set_self e1,Option.some.injEq] at hl2
     subst hl2
     simp only [if_true]
     exact e5.keep1 (g':={ g with bs:=_ }) fun c hc=> ⟨hc,hsame _ c (by simp) hc⟩
    .rw [XE (K6 ek)] at hl2
     simp only [if_neg ek]
     exact (hN.own.2 k l2 hl2).keep1 (g':={ g with bs:=_ }) fun c hc=> ⟨hc,hsame _ c (by simp) hc⟩
   .simp [Z2w]
   .simp [Z2w]
   .simp only [Z2w]
    rw [if_neg (by omega)]
    exact hno m k (by omega)
 .cases he
def ZkA(P:Program)(w:World)(b:Option Addr)(len cap:Nat)(us vs:List Value)(r:Value)(w':World):Prop:=
 (b=none/\cap=0/\vs=[]/\r= .slice none 0 0/\w'=w)\/
 (∃ b',b=some b'/\len+vs.length<=cap/\r= .slice (some b') (len+vs.length) cap/\(storeCells (b'.add len) vs).run P w= .ok () w')\/
 ∃ nc arr e,len+vs.length<=nc/\r= .slice (some ⟨w.heap.size,0,none⟩) (len+vs.length) nc/\w'=w.drew.alloc (.cells arr e)/\arr.size=nc/\∀ (j:Nat) v,(us++vs)[j]?=some v->arr[j]?=some v
theorem Z5z {t t' rt E:TypeId} {i:TypeInfo} {z z0:Value} (hU:P.underlying t=some (.slice E)) (hi:P.info? E=some i) (h1:i.size=1) (hz:i.zero=some z) (hzc:z.cells=#[z0]) (hb0:0 < i.bytes)
  {b:Option Addr} {len cap n:Nat} (hb:b=none->len=0/\cap=0) (hc:len<=cap) {us vs:List Value} (hus:us.length=len) (hold:∀ (j:Nat) v,us[j]?=some v->∃ b',b=some b'/\w.cell? (b'.add j)=some v)
  (hvl:vs.length=n) (hvo:∀ v∈vs,v.oneCell'=true) (hroom:(len+n)*i.bytes<=140737488355328)
  (hown:∀ b',b=some b'->∀ j,len<=j->j < cap->(∃ v,w.cell? (b'.add j)=some v)/\w.frozen? (b'.add j)=false) {y:Value}
  (hy:(t'=t/\∃ b' cap',y= .slice b' n cap'/\∀ (j:Nat) v,vs[j]?=some v->∃ a,b'=some a/\w.cell? (a.add j)=some v)\/(P.underlying t'=some (.int .i64)/\y= .int .i64 n/\vs=List.replicate n z0)):
  ∃ r w',(Builtin.append_ #[t,t'] rt #[.slice b len cap,y]).run P w= .ok r w'/\ZkA P w b len cap us vs r w':=by
 subst hvl
 have hbig:len+vs.length<=140737488355328:=Xh (Xt _ hb0) hroom
 have hul:∀ w,(underlying t).run P w= .ok (.slice E) w:=fun w=> run_underlying hU w
 have hzv:∀ w:World,(zeroValue E).run P w= .ok z w:=fun w=> by simp [zeroValue,typeInfo,hi,hz]
 have hstore:∀ b',b=some b'->len+vs.length<=cap->∃ w',(storeCells (b'.add len) vs).run P w= .ok () w':=by
  intro b' e hfit
  obtain ⟨w',h2,_⟩:=Y2 (P:=P) (b'.add len) vs 0 w hvo (by
   intro j hj
   rw [Go.Deep.add_add,Qq]
   exact hown b' e (len+j) (by omega) (by omega))
  exact ⟨w',h2⟩
 have hold':∀ w2:World,(∀ c v,w.cell? c=some v->w2.cell? c=some v)->(Builtin.firstCells 1 len (.slice b len cap)).run P w2= .ok us.toArray w2:=by
  intro w2 hw2
  cases b with
  | none=>
   obtain ⟨rfl,rfl⟩:=hb rfl
   have:us=[]:=Q6 hus
   subst this
   exact run_firstCells_none w2 _ _ _ _
  | some b=> exact run_firstCells_some w2 1 len b len cap us (by omega) (fun j v hv=> by obtain ⟨b',e,h3⟩:=hold j v hv;cases e;exact hw2 _ _ h3)
 have hcd:∀ c v,w.cell? c=some v->w.drew.cell? c=some v:=fun _ _ hv=> hv
 have hnext:cap < len+vs.length->¬(Builtin.nextslicecap (len+vs.length) cap*i.bytes > 2 ^ 48):=fun hg=> by have:=growslice_fits hg hroom;omega
 have hcapw:=Z1c w (len+vs.length) cap E
 have h63:¬((9223372036854775807:Int) < (len:Int)+(vs.length:Int)):=by omega
 have hgrown:∀ nc,nc=grownCap w (len+vs.length) cap E->ZkA P w b len cap us vs (.slice (some ⟨w.heap.size,0,none⟩) (len+vs.length) nc) (w.drew.alloc (.cells (us.toArray++vs.toArray++Builtin.zeroCells z.cells (nc - (len+vs.length))) E)):=by
  rintro nc rfl
  refine .inr (.inr ⟨_,_,_,hcapw,rfl,rfl,?_,fun j v hv=> ?_⟩)
  .simp [Builtin.zeroCells,hzc,hus];omega
  .have hj:=(Q1.1 hv).1
   rw [Array.getElem?_append_left (by simpa using hj)]
   simpa using hv
 rcases hy with ⟨rfl,b',cap',rfl,hnew⟩ | ⟨hU',rfl,hvs⟩
 .have hnew':∀ w2:World,(∀ c v,w.cell? c=some v->w2.cell? c=some v)->(Builtin.firstCells 1 vs.length (.slice b' vs.length cap')).run P w2= .ok vs.toArray w2:=by
   intro w2 hw2
   cases b' with
   | none=>
    have:vs=[]:=by
     cases vs with
     | nil=> rfl
     | cons v vs=> obtain ⟨_,e,_⟩:=hnew 0 v rfl;cases e
    subst this
    exact run_firstCells_none w2 _ _ _ _
   | some b'=> exact run_firstCells_some w2 1 vs.length b' vs.length cap' vs (by omega) (fun j v hv=> by obtain ⟨b'',e,h3⟩:=hnew j v hv;cases e;exact hw2 _ _ h3)
  by_cases hfit:len+vs.length<=cap
  .cases b with
   | none=>
    obtain ⟨rfl,rfl⟩:=hb rfl
    have hv0:vs=[]:=Q6 (by omega)
    subst hv0
    refine ⟨.slice none 0 0,w,?_,.inl ⟨rfl,rfl,rfl,rfl,rfl⟩⟩
    simp [Builtin.append_,hul,sizeOf,typeInfo,hi,h1,Builtin.lenOf,hnew' w (fun _ _ h=> h)]
    have:=hnew' w (fun _ _ h=> h)
    simp at this
    simp [this]
   | some b=>
    obtain ⟨w',hs⟩:=hstore b rfl hfit
    refine ⟨_,w',?_,.inr (.inl ⟨b,rfl,hfit,rfl,hs⟩)⟩
    simp [Builtin.append_,hul,sizeOf,typeInfo,hi,h1,Builtin.lenOf,hnew' w (fun _ _ h=> h),hfit,hs]
  .refine ⟨_,_,?_,hgrown _ rfl⟩
   simp [Builtin.append_,hul,sizeOf,typeInfo,zeroValue,hi,hz,h1,Builtin.lenOf,hfit,h63,hnext (by omega),Question.forced,hold' w.drew hcd,hnew' w.drew hcd,newRow]
   refine ⟨rfl,?_⟩
   simp only [grownCap,<-Xx,List.append_toArray]
 .have hul':∀ w,(underlying t').run P w= .ok (.int .i64) w:=fun w=> run_underlying hU' w
  have hw64:IntKind.i64.wrap (vs.length:Int)=vs.length:=by simp [IntKind.wrap,IntKind.signed,IntKind.bits];omega
  have hneg:¬(vs.length:Int) < 0:=by omega
  have hb48:¬(vs.length:Int)*(i.bytes:Int) > 281474976710656:=by
   have:vs.length*i.bytes<=(len+vs.length)*i.bytes:=Q8 _ (by omega)
   have:((vs.length*i.bytes:Nat):Int)<=140737488355328:=by omega
   rw [Xv] at this
   omega
  have hvz:Builtin.zeroCells z.cells vs.length=vs.toArray:=by
   rw [hzc]
   apply QQ
   simp only [Builtin.zeroCells]
   rw [hvs]
   apply Ka
   .simp
   .intro j h2 h3;simp [Nat.mod_one]
  by_cases hfit:len+vs.length<=cap
  .cases b with
   | none=>
    obtain ⟨rfl,rfl⟩:=hb rfl
    have hv0:vs=[]:=Q6 (by omega)
    subst hv0
    refine ⟨.slice none 0 0,w,?_,.inl ⟨rfl,rfl,rfl,rfl,rfl⟩⟩
    simp [Builtin.append_,hul,hul',sizeOf,typeInfo,hi,h1,asInt,asIntOf,hw64]
    grind
   | some b=>
    obtain ⟨w',hs⟩:=hstore b rfl hfit
    refine ⟨_,w',?_,.inr (.inl ⟨b,rfl,hfit,rfl,hs⟩)⟩
    by_cases h0:vs.length=0
    .have hv0:vs=[]:=Q6 h0
     subst hv0
     have hw:w=w':=by simpa [storeCells] using hs
     subst hw
     have hw0:IntKind.i64.wrap 0=0:=by decide
     have hf0:len<=cap:=hc
     simp [Builtin.append_,hul,hul',sizeOf,typeInfo,hi,h1,asInt,asIntOf,hw0,hf0,storeCells]
    .simp [Builtin.append_,hul,hul',sizeOf,typeInfo,hi,h1,asInt,asIntOf,hw64,hneg,hb48,hfit,h0,hzv,hvz,hs]
  .refine ⟨_,_,?_,hgrown _ rfl⟩
   have h0:¬vs.length=0:=by omega
   simp [Builtin.append_,hul,hul',sizeOf,typeInfo,hi,h1,asInt,asIntOf,hw64,hneg,hb48,hfit,h63,hnext (by omega),h0,hzv,hvz,Question.forced,hold' w.drew hcd,newRow]
   refine ⟨rfl,?_⟩
   simp only [grownCap,<-Xx,List.append_toArray]
def Gh.block(g:Gh)(b n:Nat)(t:Tok)(bs:Tok->Option (Value × Nat)):Gh:=
 {m:=g.m
  tag:=fun c=> if c.block=b/\c.spot=none/\c.off < n then some (.tok t) else g.tag c
  ad:=g.ad
  bs:=bs }
theorem ZfO (h:Rel cfg B st g a w) {b:Option Addr} {len cap:Nat} {us vs:List Value} {r:Value} {w':World} (hg:ZkA P w b len cap us vs r w') {t:Tok} (htA:t.isA=true)
  (htag:∀ b',b=some b'->∀ k,k < cap->g.tag (b'.add k)=some (.tok t)) (hold:∀ (j:Nat) v,us[j]?=some v->∃ b',b=some b'/\w.cell? (b'.add j)=some v) (hus:us.length=len) (hlc:len<=cap)
  (hvo:∀ v∈vs,v.oneCell'=true) (bs':Tok->Option (Value × Nat)):
  ∃ (g':Gh) (S:Addr->Prop),g'.bs=bs'/\Evo w w' S/\(∀ c,S c->∃ u,u.isA=true/\g.tag c=some (.tok u))/\g'.m=g.m/\g'.ad=g.ad/\(∀ c t,g.tag c=some t->g'.tag c=some t)/\
   (∀ c t,g'.tag c=some t->g.tag c=some t\/(w.heap.size<=c.block/\(∃ u,t= .tok u)/\w'.frozen? c=false/\∃ v,w'.cell? c=some v))/\
   (∀ c u,g.tag c=some (.tok u)->u≠t->w'.cell? c=w.cell? c)/\(∀ b',b=some b'->∀ j,j < len->w'.cell? (b'.add j)=w.cell? (b'.add j))/\
   ((r= .slice none 0 0/\us++vs=[])\/∃ b2 cap2,r= .slice (some b2) (len+vs.length) cap2/\len+vs.length<=cap2/\(∀ (j:Nat) v,(us++vs)[j]?=some v->w'.cell? (b2.add j)=some v)/\
    ∀ k,k < cap2->g'.tag (b2.add k)=some (.tok t)):=by
 rcases hg with ⟨rfl,hcap,rfl,rfl,rfl⟩ | ⟨b',rfl,hfit,rfl,hrun⟩ | ⟨nc,arr,e,hnc,rfl,rfl,harr,hcells⟩
 .subst hcap
  have:us=[]:=Q6 (by omega)
  subst this
  exact ⟨{ g with bs:=bs' },fun _=> False,rfl,.refl _ _,fun _ h=> h.elim,rfl,rfl,fun _ _ h=> h,fun _ _ h=> .inl h,fun _ _ _ _=> rfl,fun _ _ _ _=> rfl,.inl ⟨rfl,rfl⟩⟩
 .obtain ⟨w2,h1,h2,h3,h4,h5,h6⟩:=Y2 (P:=P) (b'.add len) vs 0 w hvo (by
   intro j hj
   rw [Go.Deep.add_add,Qq]
   obtain ⟨h7,v,h8⟩:=h.inv.it _ _ (htag b' rfl (len+j) (by omega))
   exact ⟨⟨v,h8⟩,h7⟩)
  simp only [Qq,Go.Deep.add_add] at h2 h3 h4
  rw [h1] at hrun
  have hww:w2=w':=by cases hrun;rfl
  subst hww
  have hold2:∀ j,j < len->w2.cell? (b'.add j)=w.cell? (b'.add j):=fun j hj=> h4 _ fun k hk e=> by have:=YP e;omega
  refine ⟨{ g with bs:=bs' },_,rfl,h2,?_,rfl,rfl,fun _ _ h=> h,fun _ _ h=> .inl h,fun c u hc hu=> h4 c fun j hj e=> ?_,fun b'' e j hj=> by cases e;exact hold2 j hj,.inr ⟨b',cap,rfl,hfit,fun j v hv=> ?_,htag b' rfl⟩⟩
  .rintro c ⟨j,hj,rfl⟩
   exact ⟨t,htA,htag b' rfl (len+j) (by omega)⟩
  .rw [e,htag b' rfl (len+j) (by omega)] at hc
   cases hc
   exact hu rfl
  .rw [Qm] at hv
   split at hv
   .obtain ⟨b'',e,h7⟩:=hold j v hv
    cases e
    rw [hold2 j (by omega)];exact h7
   .have:=h3 _ v hv
    rw [show len+(j - us.length)=j by omega] at this
    exact this
 .have hsz:w.drew.heap.size=w.heap.size:=rfl
  have hlt:∀ c:Addr,c.block < w.heap.size->(w.drew.alloc (.cells arr e)).cell? c=w.cell? c:=fun c hc=> by
   rw [World.cell?_alloc_lt w.drew _ c (by rw [hsz];exact hc)];try rfl
  have hnew:∀ k,(w.drew.alloc (.cells arr e)).cell? ⟨w.heap.size,k,none⟩=arr[k]?:=fun k=> by
   have:=World.cell?_alloc_new w.drew arr e k
   exact this
  have htl:∀ c t,g.tag c=some t->c.block < w.heap.size:=fun c t ht=> h.inv.lt ht
  refine ⟨g.block w.heap.size nc t bs',fun _=> False,rfl,(Evo.drew w _).trans (Evo.alloc w.drew _ _),fun _ h=> h.elim,rfl,rfl,fun c u hc=> ?_,fun c u hc=> ?_,fun c u hc _=> hlt c (htl c _ hc),fun b'' e j hj=> ?_,.inr ⟨⟨w.heap.size,0,none⟩,nc,rfl,hnc,fun j v hv=> ?_,fun k hk=> ?_⟩⟩
  .have:=htl c _ hc
   simp only [Gh.block]
   rw [if_neg (by omega)]
   exact hc
  .simp only [Gh.block] at hc
   split at hc
   .rename_i hcc
    obtain ⟨cb,co,cs⟩:=c
    simp only at hcc
    obtain ⟨rfl,rfl,hco⟩:=hcc
    cases hc
    refine .inr ⟨Qn _,⟨t,rfl⟩,World.frozen?_alloc_new w.drew arr e co,?_⟩
    rw [hnew,QB (by omega)]
    exact ⟨_,rfl⟩
   .exact .inl hc
  .subst e
   exact hlt _ (htl _ _ (htag b'' rfl j (by omega)))
  .rw [Addr.add_lit,Qq,hnew]
   exact hcells j v hv
  .rw [Addr.add_lit,Qq]
   simp only [Gh.block]
   simp only [hk,and_self,if_true]
theorem Own1.us{i:Nat}{v:Value}{l:List Int}(h:Own1 w g i v l):∃ b len cap,v= .slice b len cap/\l.length=len/\len<=cap/\(b=none->len=0/\cap=0)/\
  (∀ (j:Nat) u,(l.map (Value.int .u64))[j]?=some u->∃ b',b=some b'/\w.cell? (b'.add j)=some u)/\∀ b',b=some b'->∀ k,k < cap->g.tag (b'.add k)=some (.tok (.S 0 (i+1))):=by
 rcases h with ⟨rfl,rfl⟩ | ⟨b,len,cap,rfl,h1,h2,h3,h4⟩
 .exact ⟨none,0,0,rfl,rfl,Qn _,fun _=> ⟨rfl,rfl⟩,fun j u hu=> by simp at hu,fun b' e=> by cases e⟩
 .refine ⟨some b,len,cap,rfl,h1,h2,fun e=> (by cases e),fun j u hu=> ⟨b,rfl,?_⟩,fun b' e=> by cases e;exact h4⟩
  rw [Qa] at hu
  cases hj:l[j]? with
  | none=> simp [hj] at hu
  | some x=> simp [hj] at hu;subst hu;exact h3 j x hj
theorem Zkr (ok:CfgOk P cfg) (h:Rel cfg B st g a w) {A:AV U} (hA:st.ar cfg=some A) (hP:A.P=none) {t t' rt:TypeId} (hT:cfg.slT t=some cfg.wT) {i:Nat} {v y:Value} (hv:ARV g A.v v (.iv i)) {news:List Int}
  (hroom:((A.S.segs.getD i []).length+news.length)*8<=140737488355328)
  (hy:(t'=t/\∃ b' cap',y= .slice b' news.length cap'/\∀ (j:Nat) u,(news.map (Value.int .u64))[j]?=some u->∃ a,b'=some a/\w.cell? (a.add j)=some u)\/
   (P.underlying t'=some (.int .i64)/\y= .int .i64 news.length/\news=List.replicate news.length 0/\cfg.var (cfg.elT cfg.wT)=some (false,[.int .u64 0])))
  {e:Eff U} (he:YG cfg A.T [A.S,{ A.S with segs:=A.S.segs.set i (A.S.segs.getD i []++news) }] A.v (some (.ar A.v (.pd (i+1))))=some e):
  ∃ r w',(Builtin.append_ #[t,t'] rt #[v,y]).run P w= .ok r w'/\∃ g',Out cfg B st g e r w' g':=by
 obtain ⟨hd,x0,f0,hx0,hTT,hf0,hR⟩:=Z78 h hA
 obtain ⟨l',rfl,hl'⟩:=J7 ok hf0 he
 rw [hP] at hR
 obtain ⟨b,v0,hs,hN,hpend⟩:=hR
 obtain ⟨s,hbs⟩:=hN.bs
 obtain ⟨hio,h3⟩:=hv
 obtain ⟨hi,hh,ho1⟩:=hN.seg hio h3
 obtain ⟨bb,len,cap,hvv,g1,g2,g3,g4,g5⟩:=ho1.us
 obtain ⟨inf,ag,zs,z,i1,i2,i3,i4,i5,i6⟩:=ok.el cfg.wT
 obtain ⟨_,hsz⟩:=Z6p ok
 obtain ⟨hE,hU⟩:=Y8 ok hT
 rw [hE] at hU
 obtain ⟨zz,hz,hZ⟩:=Jw ok i5 w
 have hzz:zz=z:=by simp [zeroValue,typeInfo,i1,i4] at hz;exact hz.symm
 subst hzz
 have hrel:=YH (g:=g) (st:=st) (cfg:=cfg) hZ
 have hzl:zz.cells.size=1:=by have:=hrel.1;simp at this;omega
 obtain ⟨z0,hzc⟩:∃ z0,zz.cells=#[z0]:=ZpE hzl
 have hvs:∀ v∈news.map (Value.int .u64),v.oneCell'=true:=fun v hv=> by
  obtain ⟨q,_,rfl⟩:=Xi.1 hv;rfl
 obtain ⟨r,w',hrun,hgr⟩:=Z5z (P:=P) (w:=w) (t:=t) (t':=t') (rt:=rt) (us:=(A.S.segs.getD i []).map (Value.int .u64)) (vs:=news.map (Value.int .u64)) (n:=news.length) hU i1 (i2.trans hsz) i4 hzc (by rw [i3,ok.wB.1];omega) g3 g2 (by simpa using g1) g4 (by simp) hvs
  (by rw [i3,ok.wB.1,<-g1];exact hroom) (fun b' e j _ hj=> by
   obtain ⟨h7,u,h8⟩:=h.inv.it _ _ (g5 b' e j hj)
   exact ⟨⟨u,h8⟩,h7⟩) (y:=y) (by
   rcases hy with hy | ⟨h5,h6,h7,h8⟩
   .exact .inl hy
   .refine .inr ⟨h5,h6,?_⟩
    rw [i5] at h8
    simp only [Option.some.injEq,Prod.mk.injEq] at h8
    obtain ⟨rfl,rfl⟩:=h8
    have h9:z0= .int .u64 0:=by
     have:=hrel.sim (j:=0) (v:=z0) (c:= .int .u64 0) (by rw [hzc];rfl) rfl
     exact this.int_eq'
    rw [h9,h7]
    simp)
 rw [<-hvv] at hrun
 refine ⟨r,w',hrun,?_⟩
 have hnone:∀ k,g.bs (.S (A.v+2) k)=none:=fun k=> hpend _ _ (by omega)
 obtain ⟨g',S,hb',hevo,hS,hm,had,htg,hn,hoth,hold,hres⟩:=ZfO (P:=P) h hgr (t:= .S 0 (i+1)) rfl g5 g4 (by simpa using g1) g2 hvs (fun u=> if u= .S (A.v+2) (i+1) then some (r,1) else g.bs u)
 have hown:Own1 w' g' i r (A.S.segs.getD i []++news):=by
  rcases hres with ⟨e1,e2⟩ | ⟨b2,cap2,e1,e2,e3,e4⟩
  .refine .inl ⟨e1,?_⟩
   rw [<-XY] at e2
   exact List.map_eq_nil_iff.1 e2
  .refine .inr ⟨b2,len+news.length,cap2,by simpa using e1,by simp;exact g1,by simpa using e2,fun k q hq=> e3 k _ ?_,e4⟩
   rw [<-XY,Qa,hq];try rfl
 have hkeepA:∀ u c,u≠.S 0 (i+1)->g.tag c=some (.tok u)->g'.tag c=some (.tok u)/\w'.cell? c=w.cell? c:=fun u c hu hc=> ⟨htg c _ hc,hoth c u hc hu⟩
 refine ⟨g',Zby h hevo hS hm had htg hn (fun t v hv=> ?_) (fun t ht=> ?_) hd (.inr ⟨f0,hf0,rfl,?_⟩) ?_⟩
 .rw [hb']
  simp only
  split
  .rename_i e;rw [e,hnone] at hv;cases hv
  .exact hv
 .rw [hb']
  simp only
  rw [if_neg (fun e=> by rw [e] at ht;cases ht)]
 .show ARel w' g' (l'.map f0) A.v
  rw [hl']
  have hbk:∀ u,u≠.S (A.v+2) (i+1)->g'.bs u=g.bs u:=fun u hu=> by rw [hb'];simp only;rw [if_neg hu]
  refine ⟨b,v0,hs,⟨⟨s,by rw [hbk _ (by simp)];exact hbs⟩,fun j hj=> htg _ _ (hN.tag j hj),?_,?_,?_,?_,⟨?_,fun i' l hl=> ?_⟩,by rw [hbk _ (by simp)];exact hN.h0,fun i' hi'=> by rw [hbk _ (by simp)];exact hN.hi i' hi'⟩,fun m k hm=> ?_,
   .inl ⟨i,_,r,hi,rfl,by rw [hb'];simp,fun j hj=> ?_,hown⟩⟩
  .rw [(hkeepA .A _ (by simp) (hN.tag 0 (by omega))).2];exact hN.c0
  .rw [(hkeepA .A _ (by simp) (hN.tag 1 (by omega))).2];exact hN.c1
  .rw [(hkeepA .A _ (by simp) (hN.tag 2 (by omega))).2];exact hN.c2
  .rw [(hkeepA .A _ (by simp) (hN.tag 3 (by omega))).2];exact hN.c3
  .rcases hN.own.1 with e | ⟨b2,len2,cap2,e,h5,h6,h7,h8⟩
   .exact .inl e
   .refine .inr ⟨b2,len2,cap2,e,h5,h6,fun k hk=> ?_,fun k hk=> (hkeepA _ _ (by simp) (h8 k hk)).1⟩
    rw [(hkeepA _ _ (by simp) (h8 k (by omega))).2];exact h7 k hk
  .by_cases e:i'=i
   .subst e
    rw [Z1H (x:=[]) hi] at hl
    cases hl
    rw [hh,hvv]
    cases bb with
    | none=> obtain ⟨e1,e2⟩:=g3 rfl;subst e1 e2;exact .inl ⟨rfl,Q6 g1⟩
    | some bb=>
     refine .inr ⟨bb,len,cap,rfl,g1,g2,fun k q hq=> ?_,fun k hk=> htg _ _ (g5 bb rfl k hk)⟩
     have hk:=(Q1.1 hq).1
     rw [hold bb rfl k (by omega)]
     obtain ⟨b',e,h9⟩:=g4 k (.int .u64 q) (by rw [Qa,hq];rfl)
     cases e
     exact h9
   .exact (hN.own.2 i' l hl).keep1 fun c hc=> hkeepA _ c (by simp;omega) hc
  .rw [hbk _ (by simp;omega)];exact hpend m k (by omega)
  .rw [hbk _ (by simp;omega)];exact hnone j
 .show ARV g' A.v r (.pd (i+1))
  show g'.bs _=_
  rw [hb'];simp
theorem Zmg (ok:CfgOk P cfg) (h:Rel cfg B st g a w) {A:AV U} (hA:st.ar cfg=some A) (hP:A.P=none) {t rt:TypeId} (hT:cfg.slT t=some cfg.wsT) {v y:Value} (hv:ARV g A.v v .ov) {m k:Nat} (hy:ARV g m y (.nl k))
  (hroom:(A.S.segs.length+k)*24<=140737488355328)
  {e:Eff U} (he:YG cfg A.T [A.S,{ A.S with segs:=A.S.segs++List.replicate k [] }] A.v (some (.ar A.v (.pd 0)))=some e):
  ∃ r w',(Builtin.append_ #[t,t] rt #[v,y]).run P w= .ok r w'/\∃ g',Out cfg B st g e r w' g':=by
 obtain ⟨hd,x0,f0,hx0,hTT,hf0,hR⟩:=Z78 h hA
 obtain ⟨l',rfl,hl'⟩:=J7 ok hf0 he
 rw [hP] at hR
 obtain ⟨b,v0,hs,hN,hpend⟩:=hR
 obtain ⟨s,hbs⟩:=hN.bs
 have hv:g.bs (.S (A.v+1) 0)=some (v,1):=hv
 rw [hN.h0] at hv
 simp only [Option.some.injEq,Prod.mk.injEq,and_true] at hv
 subst hv
 obtain ⟨yb,rfl,hyb⟩:=hy
 obtain ⟨inf,ag,zs,z,i1,i2,i3,i4,i5,i6⟩:=ok.el cfg.wsT
 obtain ⟨hsz,_⟩:=Z6p ok
 obtain ⟨hE,hU⟩:=Y8 ok hT
 rw [hE] at hU
 obtain ⟨zz,hz,hZ⟩:=Jw ok i5 w
 have hzz:zz=z:=by simp [zeroValue,typeInfo,i1,i4] at hz;exact hz.symm
 subst hzz
 have hrel:=YH (g:=g) (st:=st) (cfg:=cfg) hZ
 have hzl:zz.cells.size=1:=by have:=hrel.1;simp at this;omega
 obtain ⟨z0,hzc⟩:∃ z0,zz.cells=#[z0]:=ZpE hzl
 let us:List Value:=(List.range A.S.segs.length).map hs
 have husL:us.length=A.S.segs.length:=by simp [us]
 have husg:∀ j u,us[j]?=some u->j < A.S.segs.length/\u=hs j:=fun j u hu=> by
  have hj:=(Q1.1 hu).1
  rw [husL] at hj
  simp only [us,Qa,Xs hj,Q5,Option.some.injEq] at hu
  exact ⟨hj,hu.symm⟩
 have hout:∃ b0 len cap,v0= .slice b0 len cap/\A.S.segs.length=len/\len<=cap/\(b0=none->len=0/\cap=0)/\(∀ (j:Nat) u,us[j]?=some u->∃ b',b0=some b'/\w.cell? (b'.add j)=some u)/\
   ∀ b',b0=some b'->∀ k,k < cap->g.tag (b'.add k)=some (.tok (.S 0 0)):=by
  rcases hN.own.1 with ⟨e1,e2⟩ | ⟨b2,len2,cap2,e,h5,h6,h7,h8⟩
  .refine ⟨none,0,0,e1,by rw [e2];rfl,Qn _,fun _=> ⟨rfl,rfl⟩,fun j u hu=> ?_,fun b' e=> by cases e⟩
   have:=(husg j u hu).1
   rw [e2] at this;simp at this
  .refine ⟨some b2,len2,cap2,e,h5,h6,fun e=> (by cases e),fun j u hu=> ?_,fun b' e=> by cases e;exact h8⟩
   obtain ⟨hj,rfl⟩:=husg j u hu
   exact ⟨b2,rfl,h7 j (by omega)⟩
 obtain ⟨bb,len,cap,hvv,g1,g2,g3,g4,g5⟩:=hout
 have hvs:∀ v∈List.replicate k (Value.slice none 0 0),v.oneCell'=true:=fun v hv=> by
  obtain ⟨_,rfl⟩:=K4.1 hv;rfl
 obtain ⟨r,w',hrun,hgr⟩:=Z5z (P:=P) (w:=w) (t:=t) (t':=t) (rt:=rt) (us:=us) (vs:=List.replicate k (Value.slice none 0 0)) (n:=k) hU i1 (i2.trans hsz) i4 hzc (by rw [i3,ok.wB.2];omega) g3 g2 (by omega) g4 (by simp) hvs
  (by rw [i3,ok.wB.2,<-g1];exact hroom) (fun b' e j _ hj=> by
   obtain ⟨h7,u,h8⟩:=h.inv.it _ _ (g5 b' e j hj)
   exact ⟨⟨u,h8⟩,h7⟩) (y:= .slice (some yb) k k) (.inl ⟨rfl,some yb,k,rfl,fun j u hu=> ⟨yb,rfl,by
    obtain ⟨hj,e⟩:=Q1.1 hu
    simp at hj e
    rw [<-e]
    exact (h.inv.im _ _ (hyb j hj)).1⟩⟩)
 rw [<-hvv] at hrun
 refine ⟨r,w',hrun,?_⟩
 have hnone:∀ k,g.bs (.S (A.v+2) k)=none:=fun k=> hpend _ _ (by omega)
 obtain ⟨g',S,hb',hevo,hS,hm,had,htg,hn,hoth,hold,hres⟩:=ZfO (P:=P) h hgr (t:= .S 0 0) rfl g5 g4 (by omega) g2 hvs (fun u=> if u= .S (A.v+2) 0 then some (r,1) else g.bs u)
 have hkeepA:∀ u c,u≠.S 0 0->g.tag c=some (.tok u)->g'.tag c=some (.tok u)/\w'.cell? c=w.cell? c:=fun u c hu hc=> ⟨htg c _ hc,hoth c u hc hu⟩
 have hown:Own2 w' g' (fun j=> if j < A.S.segs.length then hs j else .slice none 0 0) r (A.S.segs++List.replicate k []):=by
  refine ⟨?_,fun i l hl=> ?_⟩
  .rcases hres with ⟨e1,e2⟩ | ⟨b2,cap2,e1,e2,e3,e4⟩
   .refine .inl ⟨e1,?_⟩
    have h1:=congrArg List.length e2
    simp [husL] at h1
    obtain ⟨h1,rfl⟩:=h1
    simp [h1]
   .refine .inr ⟨b2,len+k,cap2,by simpa using e1,by simp;exact g1,by simpa using e2,fun i hi=> e3 i _ ?_,e4⟩
    rw [Qm,husL]
    split
    .rename_i hlt
     simp only [us,Qa,Xs hlt,Q5,if_pos hlt]
    .rename_i hlt
     rw [QW,if_pos (by omega)]
     simp only [if_neg hlt]
  .rw [Qm] at hl
   simp only
   split at hl
   .rename_i hlt
    rw [if_pos hlt]
    exact (hN.own.2 i l hl).keep1 fun c hc=> hkeepA _ c (by simp) hc
   .rename_i hlt
    rw [if_neg hlt]
    obtain ⟨_,e⟩:=Q1.1 hl
    simp at e
    exact .inl ⟨rfl,e⟩
 refine ⟨g',Zby h hevo hS hm had htg hn (fun t v hv=> ?_) (fun t ht=> ?_) hd (.inr ⟨f0,hf0,rfl,?_⟩) ?_⟩
 .rw [hb']
  simp only
  split
  .rename_i e;rw [e,hnone] at hv;cases hv
  .exact hv
 .rw [hb']
  simp only
  rw [if_neg (fun e=> by rw [e] at ht;cases ht)]
 .show ARel w' g' (l'.map f0) A.v
  rw [hl']
  have hbk:∀ u,u≠.S (A.v+2) 0->g'.bs u=g.bs u:=fun u hu=> by rw [hb'];simp only;rw [if_neg hu]
  refine ⟨b,v0,hs,⟨⟨s,by rw [hbk _ (by simp)];exact hbs⟩,fun j hj=> htg _ _ (hN.tag j hj),?_,?_,?_,?_,⟨?_,fun i' l hl=> ?_⟩,by rw [hbk _ (by simp)];exact hN.h0,fun i' hi'=> by rw [hbk _ (by simp)];exact hN.hi i' hi'⟩,fun m k hm=> ?_,
   .inr ⟨_,r,_,rfl,by rw [hb'];simp,fun j hj=> ?_,hown⟩⟩
  .rw [(hkeepA .A _ (by simp) (hN.tag 0 (by omega))).2];exact hN.c0
  .rw [(hkeepA .A _ (by simp) (hN.tag 1 (by omega))).2];exact hN.c1
  .rw [(hkeepA .A _ (by simp) (hN.tag 2 (by omega))).2];exact hN.c2
  .rw [(hkeepA .A _ (by simp) (hN.tag 3 (by omega))).2];exact hN.c3
  .rw [hvv]
   cases bb with
   | none=> obtain ⟨e1,e2⟩:=g3 rfl;subst e1 e2;exact .inl ⟨rfl,Q6 g1⟩
   | some bb=>
    refine .inr ⟨bb,len,cap,rfl,g1,g2,fun i hi=> ?_,fun k hk=> htg _ _ (g5 bb rfl k hk)⟩
    rw [hold bb rfl i hi]
    obtain ⟨b',e,h9⟩:=g4 i (hs i) (by simp only [us,Qa,Xs (show i < A.S.segs.length by omega),Q5])
    cases e
    exact h9
  .exact (hN.own.2 i' l hl).keep1 fun c hc=> hkeepA _ c (by simp) hc
  .rw [hbk _ (by simp;omega)];exact hpend m k (by omega)
  .rw [hbk _ (by simp;omega)];exact hnone j
 .show ARV g' A.v r (.pd 0)
  show g'.bs _=_
  rw [hb'];simp
theorem Z3x (ok:CfgOk P cfg) (h:Rel cfg B st g a w) {A:AV U} (hA:st.ar cfg=some A) {o:Oper} {t t':TypeId} {px py:Operand} (ho:o.op= .call { callee:= .builtin .append,args:=#[px,py],argTypes:=#[t,t'] })
  {n:Nat} {k:AK} (hT:cfg.slT t=some (ZfQ cfg k)) (hx:ARV g n (a.eval px) k) {y:V U} (hy:RelV cfg g st.dead live (a.eval py) y) {same:Bool} (hs:same=true->t=t') (hi:same=false->∃ z,cfg.var t'=some (false,[.int .i64 z]))
  {ps:List Prop} {e:Eff U} (he:Z11 cfg A n same k y=some (ps,e)) (hps:All ps):Does P o a w fun v w'=> ∃ g',Out cfg B st g e v w' g':=by
 have fin:(∃ r w',(Builtin.append_ #[t,t'] o.type #[a.eval px,a.eval py]).run P w= .ok r w'/\∃ g',Out cfg B st g e r w' g')->Does P o a w fun v w'=> ∃ g',Out cfg B st g e v w' g':=by
  rintro ⟨r,w',h1,h2⟩
  refine .inl ⟨r,w',?_,h2⟩
  simp only [execOp,ho,resolve,Sem.run_bind,Sem.run_pure,Result.andThen_ok,invoke,builtin]
  simp [h1]
 unfold Z11 at he
 split at he
 .rename_i i hP hn
  have hn:=Q4 hn
  subst hn
  split at he
  .rename_i y
   split at he
   case h_2=> cases he
   rename_i l tl hsy
   cases h1:YG cfg A.T [A.S,{ A.S with segs:=A.S.segs.set i (A.S.segs.getD i []++cfg.wO l) }] A.v (some (.ar A.v (.pd (i+1)))) with
   | none=> simp only [h1,QN,reduceCtorEq] at he
   | some e'=>
   simp only [h1,Q5,Option.some.injEq,Prod.mk.injEq] at he
   obtain ⟨rfl,rfl⟩:=he
   obtain ⟨hwl,hw⟩:=ok.wO l
   obtain ⟨_,hsz⟩:=Z6p ok
   obtain ⟨hy',b',m,cap',hvy,hl',hc',hb'⟩:=Z10 (show RelC cfg g st.dead (a.eval py) y from hy) hsy
   rw [hvy] at hy'
   refine fin (Zkr ok h hA hP hT hx (news:=cfg.wO l) (by rw [hwl];exact hps.1) (.inl ⟨(hs rfl).symm,b',cap',by rw [hvy,hwl,hl'],fun j u hu=> ?_⟩) h1)
   rw [Qa] at hu
   cases hj:(cfg.wO l)[j]? with
   | none=> simp [hj] at hu
   | some q=>
    simp [hj] at hu
    subst hu
    have hjl:j < l.length:=by have:=(Q1.1 hj).1;omega
    obtain ⟨q',h3,h4⟩:=hw j _ (Q0 hjl)
    rw [hj] at h3
    cases h3
    cases b' with
    | none=> have:=(hb' rfl).1;omega
    | some b'=>
     obtain ⟨v,h5,h6⟩:=hy'.1.rows j _ (Q0 hjl) 0 (.int .u64 q) (by rw [h4];rfl)
     rw [hsz] at h5
     have h7:=h6.int_eq'
     subst h7
     refine ⟨b',rfl,?_⟩
     have:=(h.inv.im _ _ h5).1
     simpa using this
  .rename_i m
   split at he
   case h_2=> cases he
   rename_i z hz
   rw [cond_eq_ite] at he
   split at he
   case isFalse=> cases he
   rename_i hz0
   have hz0:z=0:=by simpa using hz0
   subst hz0
   cases h1:YG cfg A.T [A.S,{ A.S with segs:=A.S.segs.set i (A.S.segs.getD i []++List.replicate m.toNat 0) }] A.v (some (.ar A.v (.pd (i+1)))) with
   | none=> simp only [h1,QN,reduceCtorEq] at he
   | some e'=>
   simp only [h1,Q5,Option.some.injEq,Prod.mk.injEq] at he
   obtain ⟨rfl,rfl⟩:=he
   obtain ⟨hm0,hroom⟩:=hps.1
   obtain ⟨z',hvt'⟩:=hi rfl
   obtain ⟨_,it,zt,dt,_,hdt,_,hag,_,_,hdi,_⟩:=ok.var _ _ _ hvt'
   have hdt':=hdi rfl _ _ rfl
   subst hdt'
   have hvy:=(show RelC cfg g st.dead (a.eval py) (.int .i64 m) from hy).1.int_eq'
   refine fin (Zkr ok h hA hP hT hx (news:=List.replicate m.toNat 0) (by rw [Qv];omega) (.inr ⟨hdt,?_,?_,hz⟩) h1)
   .rw [hvy,Qv,XJ hm0]
   .rw [Qv]
  .cases he
 .rename_i hP hn
  have hn:=Q4 hn
  subst hn
  split at he
  .rename_i m k
   cases h1:YG cfg A.T [A.S,{ A.S with segs:=A.S.segs++List.replicate k [] }] A.v (some (.ar A.v (.pd 0))) with
   | none=> simp only [h1,QN,reduceCtorEq] at he
   | some e'=>
   simp only [h1,Q5,Option.some.injEq,Prod.mk.injEq] at he
   obtain ⟨rfl,rfl⟩:=he
   obtain rfl:=hs rfl
   exact fin (Zmg ok h hA hP hT hx hy hps.1 h1)
  .cases he
 .cases he
theorem ZcR(ok:CfgOk P cfg)(h:Rel cfg B st g a w){o:Oper}{t:TypeId}{n:Nat}{parts:Array (Nat × Operand)}(ho:o.op= .buildSlice t n parts)(hp:Z1v n parts.toList=true)(hT:cfg.slT t=some cfg.wsT):
  Does P o a w fun v w'=> ∃ g',Out cfg B st g { val:=some (.ar 0 (.nl n)) } v w' g':=by
 unfold Z1v at hp
 split at hp
 case h_2=> cases hp
 rename_i hparts
 have hparts:parts=#[(0,.const (.slice none 0 0))]:=by apply QQ;simpa using hparts
 subst hparts
 obtain ⟨hE,hU⟩:=Y8 ok hT
 obtain ⟨i,ag,zs,z,i1,i2,i3,i4,i5,i6⟩:=ok.el cfg.wsT
 obtain ⟨hsz,_⟩:=Z6p ok
 obtain ⟨zz,hz,hZ⟩:=Jw ok i5 w
 have hzz:zz=z:=by simp [zeroValue,typeInfo,i1,i4] at hz;exact hz.symm
 subst hzz
 have hrel:=YH (g:=g) (st:=st) (cfg:=cfg) hZ
 have hzl:zz.cells.size=1:=by have:=hrel.1;simp at this;omega
 obtain ⟨z0,hzc⟩:=ZpE hzl
 let arr:Array Value:=#[.slice none 0 0]
 obtain ⟨h1,h2,h3,h4,h5⟩:=Zba h (SameHeap.refl w) arr (P.elem t) (fun i=> decide (i < 1)) (fun _=> none) g.ad (by grind) (fun _ _=> rfl) (fun _=> rfl)
 refine .inl ⟨.slice (some ⟨w.heap.size,0,none⟩) 1 1,w.alloc (.cells arr (P.elem t)),?_,g.new w.heap.size arr (fun i=> decide (i < 1)) (fun _=> none) g.ad,h1,h2,h3 _ _ (fun nm hs=> hs),?_,?_,
  h.ls_keep rfl (h3 (fun _=> false) _ (fun nm hs=> hs)) (fun c v hv=> h5 _ _ (h.inv.im c v hv).1) (fun c t _ ht=> by obtain ⟨_,v,hv⟩:=h.inv.it c _ ht;grind) (fun _ _ h=> h) (Z7n h),h.fresh_keep rfl (fun _=> rfl)⟩
 .have hss:=Yd ok cfg.wsT w
  rw [<-hE,hsz] at hss
  rw [<-hE] at hz
  simp only [execOp,ho]
  apply Z41
  have hfill:Instr.fill (fun i=> some (i*1,1)) ((Array.range (1*1)).map (zz.cells[· % zz.cells.size]!)) ((#[(0,Operand.const (.slice none 0 0))]:Array (Nat × Operand)).map fun x=> (x.1,a.eval x.2)).toList=some arr:=by
   rw [hzc]
   have e1:(Array.range (1*1)).map ((#[z0]:Array Value)[· % (#[z0]:Array Value).size]!)=#[z0]:=by apply QQ;simp [Nat.mod_one,List.range_succ]
   rw [e1]
   have e2:(Value.slice none 0 0).cells=#[.slice none 0 0]:=rfl
   simp [Instr.fill,Act.eval,e2,arr]
  simp only [Instr.buildSlice,Sem.run_bind,run_underlying hU,Result.andThen_ok,hss]
  rw [if_neg (by omega)]
  simp only [show ¬(1*1=0) by omega,if_false,Sem.run_bind,Sem.run_pure,Result.andThen_ok,hz,hfill]
  try rfl
 .have k:=h3 (fun _=> false) (fun nm=> (st.mem nm).isSome) (fun _ hs=> hs)
  intro nm cs hm j c hj
  have:=Z7o h k h5 (fun c t ht=> by
   have:=h.inv.lt ht
   simp only [Gh.new]
   grind) nm cs hm j c hj
  rw [Z1M st rfl]
  simpa using this
 .refine ⟨⟨w.heap.size,0,none⟩,rfl,fun i hi=> ?_⟩
  have:i=0:=by omega
  subst this
  rw [Addr.add_zero']
  simp [Gh.new,arr]
end Go.AM
