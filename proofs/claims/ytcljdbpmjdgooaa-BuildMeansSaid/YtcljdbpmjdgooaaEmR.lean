import Derived.Test.YtcljdbpmjdgooaaEmQ
set_option linter.unusedSimpArgs false
set_option linter.unusedVariables false
namespace Go.AM
variable {U:Uni} {P:Program} {cfg:Cfg U} {B:Base} {st:FSt U} {g:Gh} {a:Act} {w:World}
theorem ZaJ (ok:CfgOk P cfg) (h:Rel cfg B st g a w) {live:Name->Bool} {t:TypeId} {u:Tok} {x:LC U} {v:Value} {k:IntKind} {n:Int} (ht:cfg.slT t=some x.T) (hx:st.ls u=some x)
  (hv:RelC cfg g st.dead v (.mref u)) (hn:0<=n/\n<=x.l.length):
  ∃ r,(Instr.sliceAt t v (some (.int k n)) none none).run P w= .ok r w/\RelV cfg g st.dead live r (.vw u n.toNat):=by
 obtain ⟨hE,hU⟩:=Y8 ok ht
 have hsz:=Yd ok x.T w
 rw [<-hE] at hsz
 obtain ⟨hd,hL⟩:=h.ls u x hx
 obtain ⟨s,hs⟩:=hv.2 hd
 have key:∃ b len cap,v= .slice b len cap/\s=cfg.sz x.T/\x.l.length=len:=by
  rcases hL.flatT (ok.aSl _ _ ht) with ⟨h4,h5,_⟩ | ⟨b,len,cap,h4,h5,_⟩ <;> rw [hs] at h4 <;> cases h4
  .grind
  .grind
 obtain ⟨b,len,cap,rfl,rfl,hl⟩:=key
 rw [run_sliceAt_slice w t _ _ _ _ hU,run_slice_l w t b len cap hU _ _ hn.1 (by omega),hsz]
 exact ⟨_,rfl,fun _=> ⟨b,len,cap,_,hs,by omega,rfl⟩⟩
theorem Zcd(h:Rel cfg B st g a w){u:Tok}{y y':LC U}(hy:st.ls u=some y)(e:y'=y){val:Option (V U)}{v:Value}(hval:∀ dead live,RelV cfg g dead live v (val.getD .junk)):
  Out cfg B st g { val:=val,ls:=[(u,y')] } v w g:=by
 subst e
 have hde:Zb st ({ val:=val,ls:=[(u,y')] }:Eff U)=st.dead:=by funext t;simp [Zb]
 have hlo:∀ t,Ye st.ls ({ val:=val,ls:=[(u,y')] }:Eff U) t=st.ls t:=fun t=> by
  simp only [Ye,Qx,cond_false,Z7]
  grind
 refine ⟨h.inv,h.fr,by rw [hde];exact .refl _ _ _,by rw [hde];exact h.mem,hval _ _,fun t x hx=> ?_,fun t h0 h7 h8=> ?_⟩
 .rw [hlo] at hx;rw [hde];exact h.ls t x hx
 .rw [hlo] at h7;rw [hde] at h8;exact h.fresh t h0 h7 h8
theorem Z7C (ok:CfgOk P cfg) (h:Rel cfg B st g a w) {u:Tok} {y:LC U} (hy:st.ls u=some y) {n:Nat} {l':List (U.El y.T)} {vs:List Value} {b:Addr} {len cap s:Nat}
  (hbs:g.bs u=some (.slice (some b) len cap,s)) (hvl:vs.length=l'.length*cfg.sz y.T) (hvo:∀ v∈vs,v.oneCell'=true)
  (hvr:∀ (i:Nat) x,l'[i]?=some x->∀ (j:Nat) c,(cfg.enc y.T x)[j]?=some c->∃ v,vs[i*cfg.sz y.T+j]?=some v/\SimC cfg g.m v c)
  (hf:y.f<=n) (hn:n+l'.length<=len) {val:Option (V U)} {v:Value} (hval:∀ dead live,RelV cfg g dead live v (val.getD .junk)):
  s=cfg.sz y.T/\y.l.length=len/\∃ w',(storeCells (b.add (n*cfg.sz y.T)) vs).run P w= .ok () w'/\Out cfg B st g { val:=val,ls:=[(u,⟨y.T,y.l.take n++(l'++y.l.drop (n+l'.length)),y.f⟩)] } v w' g:=by
 obtain ⟨hdu,hL⟩:=h.ls u y hy
 obtain ⟨hTA,huA⟩:=hL.flatA hbs
 rcases hL.flat hbs with ⟨h4,_⟩ | ⟨b',len',cap',h4,hlen,hcap,hfl,hrows,htail⟩ <;> rw [hbs] at h4 <;> cases h4
 refine ⟨rfl,hlen,?_⟩
 have hpos:=ok.sz_pos y.T
 have hmul:(n+l'.length)*cfg.sz y.T<=len*cfg.sz y.T:=Q8 _ hn
 rw [Qr] at hmul
 have htag:∀ j,n*cfg.sz y.T<=j->j < len*cfg.sz y.T->g.tag (b.add j)=some (.tok u)/\∃ v,w.cell? (b.add j)=some v:=by
  intro j h1 h2
  have hi:j / cfg.sz y.T < y.l.length:=by rw [hlen];exact Xm (by grind)
  have hjj:j % cfg.sz y.T < (cfg.enc y.T (y.l[j / cfg.sz y.T])).length:=by rw [ok.enc_len];exact XA _ hpos
  obtain ⟨v,g1,_,_,g4⟩:=hrows _ _ (Q0 hi) _ _ (Q0 hjj)
  have e:j / cfg.sz y.T*cfg.sz y.T+j % cfg.sz y.T=j:=by rw [X6];exact XK _ _
  rw [e] at g1 g4
  exact ⟨g4 (Xh hf ((XU hpos).2 h1)),v,g1⟩
 obtain ⟨w',h1,h2,h3,h4,h5,h6⟩:=Y2 (P:=P) (b.add (n*cfg.sz y.T)) vs 0 w hvo (by
  intro j hj
  rw [Go.Deep.add_add,Qq]
  obtain ⟨g1,g2⟩:=htag (n*cfg.sz y.T+j) (by omega) (by omega)
  exact ⟨g2,(h.inv.it _ _ g1).1⟩)
 simp only [Qq,Go.Deep.add_add] at h2 h3 h4
 refine ⟨w',h1,?_⟩
 have htagS:∀ c,(∃ j,j < vs.length/\c=b.add (n*cfg.sz y.T+j))->g.tag c=some (.tok u):=by
  rintro c ⟨j,hj,rfl⟩
  exact (htag _ (by omega) (by omega)).1
 have hothers:∀ c,g.tag c≠some (.tok u)->w'.cell? c=w.cell? c:=fun c hc=> h4 c fun j hj e=> hc (htagS c ⟨j,hj,e⟩)
 have hmc:∀ c v,g.m c=some v->w'.cell? c=some v:=fun c v hv=> by
  obtain ⟨h7,h8⟩:=h.inv.im c v hv
  grind
 have hde:∀ L,Zb st ({ val:=val,ls:=L }:Eff U)=st.dead:=fun L=> by funext t;simp [Zb]
 refine ⟨⟨fun c v hv=> ⟨hmc c v hv,(h.inv.im c v hv).2⟩,fun c t htc=> ?_⟩,?_,by rw [hde];exact .refl _ _ _,?_,hval _ _,?_,?_⟩
 .obtain ⟨h7,u',h8⟩:=h.inv.it c t htc
  grind
 .exact h.fr.step h.inv h2 (fun c hc=> ⟨_,htagS c hc,fun t' e=> by cases e⟩) (fun _ _ h=> h) (fun _ _=> Iff.rfl) (fun _ _ _ _ _=> rfl) (fun _=> rfl)
 .rw [hde]
  intro nm cs0 hm j c hj
  obtain ⟨v0,hv0,htg,hr0⟩:=h.mem nm cs0 hm j c hj
  grind
 .intro t z hz
  rw [hde]
  unfold Ye at hz
  simp only [Qx,cond_false,Z7] at hz
  split at hz
  .rename_i et
   subst et
   cases hz
   refine ⟨hdu,.inl ⟨hTA,huA,.inr ⟨b,len,cap,hbs,by simp;omega,hcap,hfl,?_,htail⟩⟩⟩
   intro i q hq j c hc
   simp only at hq hc ⊢
   have hj:j < cfg.sz y.T:=by have:=(Q1.1 hc).1;rw [ok.enc_len] at this;exact this
   have old:y.l[i]?=some q->(i < n\/n+l'.length<=i)->∃ u',w'.cell? (b.add (i*cfg.sz y.T+j))=some u'/\SimC cfg g.m u' c/\(i < y.f->g.m (b.add (i*cfg.sz y.T+j))=some u')/\(y.f<=i->g.tag (b.add (i*cfg.sz y.T+j))=some (.tok t)):=by
    intro h0 hin
    obtain ⟨u',g1,g2,g3,g4⟩:=hrows i q h0 j c hc
    refine ⟨u',?_,g2,g3,g4⟩
    rw [h4 _ fun j' hj' e=> by
     have:=YP e
     rcases hin with hlt | hge
     .have:(i+1)*cfg.sz y.T<=n*cfg.sz y.T:=Q8 _ hlt
      grind
     .have:(n+l'.length)*cfg.sz y.T<=i*cfg.sz y.T:=Q8 _ hge
      grind]
    exact g1
   rw [Qm,Qd,Xb (by omega)] at hq
   split at hq
   .grind
   .rename_i hge
    rw [Qm] at hq
    split at hq
    .rename_i hlt
     obtain ⟨v0,g1,g2⟩:=hvr _ _ hq j c hc
     have g3:=h3 _ _ g1
     have e1:n*cfg.sz y.T+((i - n)*cfg.sz y.T+j)=i*cfg.sz y.T+j:=by
      rw [<-Nat.add_assoc,<-Qr];congr 2;omega
     rw [e1] at g3
     refine ⟨v0,g3,g2,fun hi=> by omega,fun _=> (htag _ ?_ ?_).1⟩
     .omega
     grind
    .rename_i hge2
     rw [Qh] at hq
     exact old (by rw [<-hq];congr 1;omega) (.inr (by omega))
  .rename_i hne
   obtain ⟨h7,h8⟩:=h.ls t z hz
   exact ⟨h7,h8.keep (.refl g st.dead (fun _=> true)) h7 hmc (fun c u' hr htc=> hothers c (fun e=> hne (by rw [htc] at e;cases e;rw [<-hr];exact Tok.root_of huA))) (fun _ _ _ h=> h) (fun _ _ _ _ h=> h)⟩
 .rw [hde]
  intro t h0 h7 h8
  unfold Ye at h7
  simp only [Qx,cond_false,Z7] at h7
  split at h7
  .cases h7
  .exact h.fresh t h0 h7 h8
theorem ZmC(h:Rel cfg B st g a w){live:Name->Bool}{u:Tok}{x:LC U}{n:Nat}{v:Value}(hx:st.ls u=some x)(hv:RelV cfg g st.dead live v (.vw u n)):
  n<=x.l.length/\∃ b m cap,v= .slice b m cap/\m=x.l.length - n/\(b=none->m=0)/\(n < x.l.length->∃ b' cap',g.bs u=some (.slice (some b') x.l.length cap',cfg.sz x.T)/\b=some (b'.add (n*cfg.sz x.T))):=by
 obtain ⟨hd,hL⟩:=h.ls u x hx
 obtain ⟨b,len,cap,s,h1,h2,rfl⟩:=hv hd
 rcases hL.flat h1 with ⟨h4,h5,_⟩ | ⟨b',len',cap',h4,hlen,hcap,_⟩ <;> rw [h1] at h4 <;> cases h4
 .rw [h5]
  exact ⟨h2,_,_,_,rfl,rfl,fun _=> by simp,fun hh=> by simp at hh⟩
 .rw [hlen]
  refine ⟨h2,_,_,_,rfl,rfl,fun e=> ?_,fun hlt=> ⟨b',cap,h1,?_⟩⟩
  .split at e <;> cases e
  .rw [if_neg (by omega)];try rfl
theorem ZcL (ok:CfgOk P cfg) (h:Rel cfg B st g a w) {live:Name->Bool} {o:Oper} {t:TypeId} {u:Tok} {n:Nat} {px:Operand} {ps:List Prop} {e:Eff U}
  (ho:o.op= .call { callee:= .builtin .clear,args:=#[px],argTypes:=#[t] })
  (hx:RelV cfg g st.dead live (a.eval px) (.vw u n)) (he:ZbH cfg st t u n=some (ps,e)) (hps:All ps):
  Does P o a w fun v w'=> ∃ g',Out cfg B st g e v w' g':=by
 unfold ZbH at he
 split at he
 case h_2=> cases he
 rename_i T x hT hls
 split at he
 case h_2=> cases he
 rename_i htT z _ hz
 subst htT
 simp only [Option.some.injEq,Prod.mk.injEq] at he
 obtain ⟨rfl,rfl⟩:=he
 obtain ⟨hE,hU⟩:=Y8 ok hT
 obtain ⟨hn,b,m,cap,hv,hm,hb,hlt⟩:=ZmC h hls hx
 have hex:execOp a.eval o=(do pure (.value (<-Builtin.clear_ #[t] o.type #[.slice b m cap])):Sem Next):=by
  simp only [execOp,ho,resolve,Sem.run_bind,Sem.run_pure,Result.andThen_ok,invoke,builtin]
  simp [hv]
 have hU':P.underlying t=some (.slice (cfg.elT x.T)):=by rw [hE] at hU;exact hU
 by_cases h0:m=0
 .have e1:x.l.length=n:=by omega
  refine .inl ⟨.tuple #[],w,?_,g,Zcd h hls (by rw [<-e1];simp) fun _ _=> trivial⟩
  rw [hex]
  subst h0
  refine Z41 ?_
  cases b <;> simp [Builtin.clear_,run_underlying hU']
 obtain ⟨b',cap',hbs,rfl⟩:=hlt (by omega)
 obtain ⟨i,ag,zs,z',hi,hisz,hib,hz',hvar,hzs⟩:=ok.el x.T
 rw [hvar] at hz
 have hdz:cfg.dec x.T zs=some z:=hz
 obtain ⟨z'',hzv,hZ⟩:=Jw ok hvar w
 have hrel:=YH (g:=g) (st:=st) (cfg:=cfg) hZ
 obtain ⟨hvl,hvc⟩:=Z5u ok hdz hrel.1 (fun j v c h1 h2=> hrel.sim h1 h2)
 have hzl:z''.cells.size=cfg.sz x.T:=by have:=hvl;simp at this;exact this
 have hpos:=ok.sz_pos x.T
 obtain ⟨_,_,w',h1,hout⟩:=Z7C (P:=P) (l':=List.replicate m z) (vs:=(Builtin.zeroCells z''.cells m).toList) (n:=n) (val:=none) (v:= .tuple #[]) ok h hls hbs
  (by simp [Builtin.zeroCells,hzl])
  (by
   intro v hv
   simp only [Builtin.zeroCells,Xr,Xi,Array.toList_range,List.mem_range] at hv
   obtain ⟨j,hj,rfl⟩:=hv
   have hlt':j % z''.cells.size < z''.cells.size:=XA _ (by omega)
   rw [getElem!_pos z''.cells _ hlt']
   exact hrel.one _ (by simp))
  (by
   intro i x0 hx0 j c hc
   obtain ⟨hi,hx0⟩:=Q1.1 hx0
   simp at hx0 hi
   subst hx0
   obtain ⟨v,h7,h8⟩:=hvc j c hc
   have hj:j < cfg.sz x.T:=by have:=(Q1.1 hc).1;rw [ok.enc_len] at this;exact this
   have hlt:i*cfg.sz x.T+j < m*cfg.sz x.T:=by
    have:(i+1)*cfg.sz x.T<=m*cfg.sz x.T:=Q8 _ (by omega)
    rw [Qr] at this;omega
   refine ⟨v,?_,h8⟩
   have h9:z''.cells[j]?=some v:=by rw [<-h7];simp
   have hjz:j < z''.cells.size:=by omega
   have e:(i*cfg.sz x.T+j) % z''.cells.size=j:=by rw [hzl,X6,XW,Xf hj]
   have h10:z''.cells[j]! =v:=by
    rw [getElem!_pos z''.cells j hjz]
    rw [QB hjz] at h9
    exact Option.some.inj h9
   have hlt2:i*cfg.sz x.T+j < m*z''.cells.size:=by rw [hzl];exact hlt
   simp [Builtin.zeroCells,hlt2,e,h10])
  hps.1 (by simp;omega) (fun _ _=> trivial)
 refine .inl ⟨.tuple #[],w',?_,g,?_⟩
 .rw [hex]
  refine Z41 ?_
  obtain ⟨m',rfl⟩:∃ m',m=m'+1:=⟨m - 1,by omega⟩
  rw [hE] at hU
  simp [Builtin.clear_,run_underlying hU',hzv,h1]
 simp_all
theorem Ze3 (ok:CfgOk P cfg) (h:Rel cfg B st g a w) {live:Name->Bool} {o:Oper} {t:TypeId} {u:Tok} {n:Nat} {y:C U} {px py:Operand} {ps:List Prop} {e:Eff U}
  (ho:o.op= .call { callee:= .builtin .copy,args:=#[px,py],argTypes:=#[t,t] })
  (hx:RelV cfg g st.dead live (a.eval px) (.vw u n)) (hy:RelC cfg g st.dead (a.eval py) y) (he:ZfR cfg st t u n y=some (ps,e)) (hps:All ps):
  Does P o a w fun v w'=> ∃ g',Out cfg B st g e v w' g':=by
 unfold ZfR at he
 split at he
 case h_2=> cases he
 rename_i T x hT hls
 split at he
 case h_2=> cases he
 rename_i htT l tl _ hsy
 subst htT
 simp only [Option.some.injEq,Prod.mk.injEq] at he
 obtain ⟨rfl,rfl⟩:=he
 obtain ⟨hE,hU⟩:=Y8 ok hT
 obtain ⟨hn,b,m,cap,hv,hm,hb,hlt⟩:=ZmC h hls hx
 obtain ⟨hy',bs,ls,caps,hvy,hll,hlc,hbn⟩:=Z10 hy hsy
 rw [hvy] at hy'
 have hU':P.underlying t=some (.slice (cfg.elT x.T)):=by rw [hE] at hU;exact hU
 have hsz:=Yd ok x.T w
 have hex:execOp a.eval o=(do pure (.value (<-Builtin.copy_ #[t,t] o.type #[.slice b m cap,.slice bs ls caps])):Sem Next):=by
  simp only [execOp,ho,resolve,Sem.run_bind,Sem.run_pure,Result.andThen_ok,invoke,builtin]
  simp [hv,hvy]
 have hval:∀ (k:Nat) dead (live:Name->Bool),RelV cfg g dead live (goInt k) ((some (V.c (U:=U) (.int .i64 k))).getD .junk):=fun k _ _=> ⟨.int _ _,trivial⟩
 have hcells:∀ k,k<=ls->∃ vs:List Value,(Builtin.firstCells (cfg.sz x.T) k (.slice bs ls caps)).run P w= .ok vs.toArray w/\vs.length=(l.take k).length*cfg.sz x.T/\(∀ v∈vs,v.oneCell'=true)/\
   (∀ (i:Nat) x0,(l.take k)[i]?=some x0->∀ (j:Nat) c,(cfg.enc x.T x0)[j]?=some c->∃ v,vs[i*cfg.sz x.T+j]?=some v/\SimC cfg g.m v c):=by
  intro k hk
  cases bs with
  | none=>
   obtain ⟨rfl,rfl⟩:=hbn rfl
   have hl0:l=[]:=Q6 hll
   subst hl0
   exact ⟨[],run_firstCells_none w _ _ _ _,by simp,by simp,fun i x0 hx0=> by simp at hx0⟩
  | some a'=>
   obtain ⟨vs,h1,h2,h3⟩:=Z1s ok hy'.1
   have hkm:k*cfg.sz x.T<=ls*cfg.sz x.T:=Q8 _ hk
   have hvl:(vs.take (k*cfg.sz x.T)).length=k*cfg.sz x.T:=by rw [Qd];omega
   refine ⟨vs.take (k*cfg.sz x.T),run_firstCells_some w _ k a' ls caps _ hvl fun j v hv=> ?_,by grind,fun v hv=> ?_,fun i x0 hx0 j c hc=> ?_⟩
   .have hj:j < k*cfg.sz x.T:=by have:=(Q1.1 hv).1;omega
    rw [QL hj] at hv
    exact (h.inv.im _ _ (h2 j v hv).1).1
   .obtain ⟨j,hj,rfl⟩:=QZ (XX hv)
    exact (h2 j _ (Q0 hj)).2
   .have hi:i < k:=by have:=(Q1.1 hx0).1;rw [Qd] at this;omega
    rw [QL hi] at hx0
    have hj:j < cfg.sz x.T:=by have:=(Q1.1 hc).1;rw [ok.enc_len] at this;exact this
    have hlt:i*cfg.sz x.T+j < k*cfg.sz x.T:=by
     have:(i+1)*cfg.sz x.T<=k*cfg.sz x.T:=Q8 _ hi
     rw [Qr] at this;omega
    grind
 obtain ⟨k,hk⟩:∃ k,k=Nat.min ls m:=⟨_,rfl⟩
 have hkm:k=min (x.l.length - n) l.length:=by rw [hk,hm,hll];exact Nat.min_comm _ _
 obtain ⟨vs,g1,g2,g3,g4⟩:=hcells k (by omega)
 have hsz':(sizeOf (cfg.elT x.T)).run P w= .ok (cfg.sz x.T) w:=hsz
 have etake:l.take k=l.take (x.l.length - n):=by
  rcases Nat.le_total (x.l.length - n) l.length with h1 | h1
  .rw [hkm,Xb h1]
  .rw [hkm,Nat.min_eq_right h1,Qt (Qn _),Qt h1]
 by_cases h0:n < x.l.length
 .obtain ⟨b',cap',hbs,rfl⟩:=hlt h0
  obtain ⟨_,_,w',h1,hout⟩:=Z7C (P:=P) (l':=l.take k) (vs:=vs) (n:=n) (val:=some (.c (.int .i64 k))) (v:=goInt k) ok h hls hbs g2 g3 g4 hps.1 (by grind) (hval _)
  refine .inl ⟨goInt k,w',?_,g,?_⟩
  .rw [hex]
   refine Z41 ?_
   rw [hk] at g1 ⊢
   simp [Builtin.copy_,run_underlying hU',Builtin.lenOf,hsz',g1,h1]
  .have e1:x.l.take n++(l.take k++x.l.drop (n+(l.take k).length))=cpL x.l n l:=by
    unfold cpL
    rw [etake]
    congr 2
    rw [Qd]
    rcases Nat.le_total (x.l.length - n) l.length with h1 | h1
    .rw [Xb h1,QK (by omega),QK (by omega)]
    .grind
   grind
 .have hm0:m=0:=by omega
  have hk0:k=0:=by omega
  rw [hk0] at g1 g2
  have hv0:vs=[]:=Q6 (by simpa using g2)
  subst hv0
  refine .inl ⟨goInt (0:Nat),w,?_,g,Zcd h hls ?_ ?_⟩
  .rw [hex]
   refine Z41 ?_
   subst hm0
   cases b <;> simp [Builtin.copy_,run_underlying hU',Builtin.lenOf,hsz',g1,storeCells]
  .have e1:n=x.l.length:=by omega
   have e2:cpL x.l n l=x.l:=by
    unfold cpL
    subst e1
    rw [Nat.sub_self,List.take_zero,Qt (Qn _),QK (by omega)]
    simp
   rw [e2]
  grind
end Go.AM
