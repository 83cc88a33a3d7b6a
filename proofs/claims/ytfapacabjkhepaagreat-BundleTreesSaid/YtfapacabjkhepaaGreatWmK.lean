import Derived.Test.YtfapacabjkhepaaGreatWmH
import Derived.WalkSpells
import Derived.Lib.SliceRun
import Derived.Deep.LoopGhost
set_option linter.unusedSimpArgs false
set_option linter.unusedVariables false
namespace Go.AM
variable {U:Uni} {P:Program} {cfg:Cfg U} {B:Base} {st:FSt U} {g:Gh} {a:Act} {w:World}
theorem Zh8 (ok:CfgOk P cfg) (h:Rel cfg B st g a w) {live:Name->Bool} {t:TypeId} {u:Tok} {x:LC U} {v:Value} {k:IntKind} {n:Int} (ht:cfg.slT t=some x.T) (hx:st.ls u=some x)
  (hv:RelC cfg g st.dead v (.mref u)) (hn:0<=n/\n<=x.l.length):
  ∃ r,(Instr.sliceAt t v (some (.int k n)) none none).run P w= .ok r w/\RelV cfg g st.dead live r (.vw u n.toNat):=by
 obtain ⟨hE,hU⟩:=Jf ok ht
 have aa:=Jb ok x.T w
 rw [<-hE] at aa
 obtain ⟨hd,hL⟩:=h.ls u x hx
 obtain ⟨s,hs⟩:=hv.2 hd
 have ab:∃ b len d,v= .slice b len d/\s=cfg.sz x.T/\x.l.length=len:=by
  rcases hL with ⟨h4,h5,_⟩ | ⟨b,len,d,h4,h5,_⟩ <;> rw [hs] at h4 <;> cases h4
  .grind
  .grind
 obtain ⟨b,len,d,rfl,rfl,hl⟩:=ab
 rw [run_sliceAt_slice w t _ _ _ _ hU,run_slice_l w t b len d hU _ _ hn.1 V0,aa]
 exact ⟨_,rfl,fun _=> ⟨b,len,d,_,hs,V0,rfl⟩⟩
theorem ZjF(h:Rel cfg B st g a w){u:Tok}{y y':LC U}(hy:st.ls u=some y)(e:y'=y){val:Option (V U)}{v:Value}(hval:∀ dead live,RelV cfg g dead live v (val.getD .junk)):
  Out cfg B st g { val:=val,ls:=[(u,y')] } v w g:=by
 subst e
 have d:Zt st ({ val:=val,ls:=[(u,y')] }:Eff U)=st.dead:=by funext t;simp [Zt]
 have s:∀ t,JR st.ls ({ val:=val,ls:=[(u,y')] }:Eff U) t=st.ls t:=fun t=> by
  simp only [JR,Xv,cond_false,ZE]
  grind
 refine ⟨h.inv,h.fr,by rw [d];exact .refl _ _ _,by rw [d];exact h.mem,hval _ _,fun t x hx=> ?_,fun t h0 h7 h8=> ?_⟩
 .rw [s] at hx;rw [d];exact h.ls t x hx
 .rw [s] at h7;rw [d] at h8;exact h.fresh t h0 h7 h8
theorem Zd4 (ok:CfgOk P cfg) (h:Rel cfg B st g a w) {u:Tok} {y:LC U} (hy:st.ls u=some y) {n:Nat} {l':List (U.El y.T)} {vs:List Value} {b:Addr} {len cap s:Nat}
  (hbs:g.bs u=some (.slice (some b) len cap,s)) (hvl:vs.length=l'.length*cfg.sz y.T) (hvo:∀ v∈vs,v.oneCell'=true)
  (hvr:∀ (i:Nat) x,l'[i]?=some x->∀ (j:Nat) c,(cfg.enc y.T x)[j]?=some c->∃ v,vs[i*cfg.sz y.T+j]?=some v/\SimC cfg g.m v c)
  (hf:y.f<=n) (hn:n+l'.length<=len) {val:Option (V U)} {v:Value} (hval:∀ dead live,RelV cfg g dead live v (val.getD .junk)):
  s=cfg.sz y.T/\y.l.length=len/\∃ w',(storeCells (b.add (n*cfg.sz y.T)) vs).run P w= .ok () w'/\Out cfg B st g { val:=val,ls:=[(u,⟨y.T,y.l.take n++(l'++y.l.drop (n+l'.length)),y.f⟩)] } v w' g:=by
 obtain ⟨ba,hL⟩:=h.ls u y hy
 rcases hL with ⟨h4,_⟩ | ⟨b',len',cap',h4,hlen,hcap,hfl,hrows,htail⟩ <;> rw [hbs] at h4 <;> cases h4
 refine ⟨rfl,hlen,?_⟩
 have ah:=ok.sz_pos y.T
 have aq:(n+l'.length)*cfg.sz y.T<=len*cfg.sz y.T:=Qd _ hn
 rw [QC] at aq
 have d:∀ j,n*cfg.sz y.T<=j->j < len*cfg.sz y.T->g.tag (b.add j)=some (.tok u)/\∃ v,w.cell? (b.add j)=some v:=by
  intro j h1 h2
  have hi:j / cfg.sz y.T < y.l.length:=by rw [hlen];exact Xo (by grind)
  have a4:j % cfg.sz y.T < (cfg.enc y.T (y.l[j / cfg.sz y.T])).length:=by rw [ok.enc_len];exact Xy _ ah
  obtain ⟨v,g1,_,_,g4⟩:=hrows _ _ (Q2 hi) _ _ (Q2 a4)
  have e:j / cfg.sz y.T*cfg.sz y.T+j % cfg.sz y.T=j:=by rw [Xi];exact XC _ _
  rw [e] at g1 g4
  exact ⟨g4 (X2 hf ((XL ah).2 h1)),v,g1⟩
 obtain ⟨w',h1,h2,h3,h4,h5,h6⟩:=Jg (P:=P) (b.add (n*cfg.sz y.T)) vs 0 w hvo (by
  intro j hj
  rw [Go.Deep.add_add,QM]
  obtain ⟨g1,g2⟩:=d (n*cfg.sz y.T+j) V0 V0
  exact ⟨g2,(h.inv.it _ _ g1).1⟩)
 simp only [QM,Go.Deep.add_add] at h2 h3 h4
 refine ⟨w',h1,?_⟩
 have ab:∀ c,(∃ j,j < vs.length/\c=b.add (n*cfg.sz y.T+j))->g.tag c=some (.tok u):=by
  rintro c ⟨j,hj,rfl⟩
  exact (d _ V0 V0).1
 have aa:∀ c,g.tag c≠some (.tok u)->w'.cell? c=w.cell? c:=fun c hc=> h4 c fun j hj e=> hc (ab c ⟨j,hj,e⟩)
 have ay:∀ c v,g.m c=some v->w'.cell? c=some v:=fun c v hv=> by
  obtain ⟨h7,h8⟩:=h.inv.im c v hv
  grind
 have af:∀ L,Zt st ({ val:=val,ls:=L }:Eff U)=st.dead:=fun L=> by funext t;simp [Zt]
 refine ⟨⟨fun c v hv=> ⟨ay c v hv,(h.inv.im c v hv).2⟩,fun c t aw=> ?_⟩,?_,by rw [af];exact .refl _ _ _,?_,hval _ _,?_,?_⟩
 .obtain ⟨h7,u',h8⟩:=h.inv.it c t aw
  grind
 .exact h.fr.step h.inv h2 (fun c hc=> ⟨_,ab c hc,fun t' e=> by cases e⟩) (fun _ _ h=> h) (fun _ _=> Qu) (fun _ _ _ _ _=> rfl) (fun _=> rfl)
 .rw [af]
  intro nm a7 hm j c hj
  obtain ⟨v0,bl,bg,bj⟩:=h.mem nm a7 hm j c hj
  grind
 .intro t z hz
  rw [af]
  unfold JR at hz
  simp only [Xv,cond_false,ZE] at hz
  split at hz
  .rename_i et
   subst et
   cases hz
   refine ⟨ba,.inr ⟨b,len,cap,hbs,by simp;omega,hcap,hfl,?_,htail⟩⟩
   intro i q hq j c hc
   simp only at hq hc ⊢
   have hj:j < cfg.sz y.T:=by have:=(Q4.1 hc).1;rw [ok.enc_len] at this;exact this
   have old:y.l[i]?=some q->(i < n\/n+l'.length<=i)->∃ u',w'.cell? (b.add (i*cfg.sz y.T+j))=some u'/\SimC cfg g.m u' c/\(i < y.f->g.m (b.add (i*cfg.sz y.T+j))=some u')/\(y.f<=i->g.tag (b.add (i*cfg.sz y.T+j))=some (.tok t)):=by
    intro h0 a9
    obtain ⟨u',g1,g2,g3,g4⟩:=hrows i q h0 j c hc
    refine ⟨u',?_,g2,g3,g4⟩
    rw [h4 _ fun j' bf e=> by
     have:=Z1r e
     rcases a9 with az | ar
     .have:(i+1)*cfg.sz y.T<=n*cfg.sz y.T:=Qd _ az
      grind
     .have:(n+l'.length)*cfg.sz y.T<=i*cfg.sz y.T:=Qd _ ar
      grind]
    exact g1
   rw [QE,Qm,X8 V0] at hq
   split at hq
   .grind
   .rename_i ar
    rw [QE] at hq
    split at hq
    .rename_i az
     obtain ⟨v0,g1,g2⟩:=hvr _ _ hq j c hc
     have g3:=h3 _ _ g1
     have e1:n*cfg.sz y.T+((i - n)*cfg.sz y.T+j)=i*cfg.sz y.T+j:=by
      rw [<-Nat.add_assoc,<-QC];congr 2;omega
     rw [e1] at g3
     refine ⟨v0,g3,g2,fun hi=> by omega,fun _=> (d _ ?_ ?_).1⟩
     .omega
     grind
    .rename_i bb
     rw [Qq] at hq
     exact old (by rw [<-hq];congr 1;omega) (.inr V0)
  .rename_i bh
   obtain ⟨h7,h8⟩:=h.ls t z hz
   exact ⟨h7,h8.keep (.refl g st.dead (fun _=> true)) h7 ay (fun c aw=> aa c (by grind))⟩
 .rw [af]
  intro t h0 h7 h8
  unfold JR at h7
  simp only [Xv,cond_false,ZE] at h7
  split at h7
  .cases h7
  .exact h.fresh t h0 h7 h8
theorem ZzZ(h:Rel cfg B st g a w){live:Name->Bool}{u:Tok}{x:LC U}{n:Nat}{v:Value}(hx:st.ls u=some x)(hv:RelV cfg g st.dead live v (.vw u n)):
  n<=x.l.length/\∃ b m d,v= .slice b m d/\m=x.l.length - n/\(b=none->m=0)/\(n < x.l.length->∃ b' cap',g.bs u=some (.slice (some b') x.l.length cap',cfg.sz x.T)/\b=some (b'.add (n*cfg.sz x.T))):=by
 obtain ⟨hd,hL⟩:=h.ls u x hx
 obtain ⟨b,len,d,s,h1,h2,rfl⟩:=hv hd
 rcases hL with ⟨h4,h5,_⟩ | ⟨b',len',cap',h4,hlen,hcap,_⟩ <;> rw [h1] at h4 <;> cases h4
 .rw [h5]
  exact ⟨h2,_,_,_,rfl,rfl,fun _=> by simp,fun hh=> by simp at hh⟩
 .rw [hlen]
  refine ⟨h2,_,_,_,rfl,rfl,fun e=> ?_,fun ai=> ⟨b',d,h1,?_⟩⟩
  .split at e <;> cases e
  .rw [JC];try rfl
theorem ZkE (ok:CfgOk P cfg) (h:Rel cfg B st g a w) {live:Name->Bool} {o:Oper} {t:TypeId} {u:Tok} {n:Nat} {px:Operand} {ps:List Prop} {e:Eff U}
  (ho:o.op= .call { callee:= .builtin .clear,args:=#[px],argTypes:=#[t] })
  (hx:RelV cfg g st.dead live (a.eval px) (.vw u n)) (he:Ziz cfg st t u n=some (ps,e)) (hps:All ps):
  Does P o a w fun v w'=> ∃ g',Out cfg B st g e v w' g':=by
 unfold Ziz at he
 split at he
 case h_2=> cases he
 rename_i T x hT af
 split at he
 case h_2=> cases he
 rename_i a3 z _ hz
 subst a3
 simp only [oP] at he
 obtain ⟨rfl,rfl⟩:=he
 obtain ⟨hE,hU⟩:=Jf ok hT
 obtain ⟨hn,b,m,aq,hv,hm,hb,ah⟩:=ZzZ h af hx
 have am:execOp a.eval o=(do pure (.value (<-Builtin.clear_ #[t] o.type #[.slice b m aq])):Sem Next):=by
  simp only [execOp,ho,resolve,Sem.run_bind,Sem.run_pure,Result.andThen_ok,invoke,builtin]
  simp [hv]
 have ak:P.underlying t=some (.slice (cfg.elT x.T)):=by rw [hE] at hU;exact hU
 by_cases h0:m=0
 .have e1:x.l.length=n:=V0
  refine .inl ⟨.tuple #[],w,?_,g,ZjF h af (by rw [<-e1];simp) fun _ _=> trivial⟩
  rw [am]
  subst h0
  refine Z8w ?_
  cases b <;> simp [Builtin.clear_,run_underlying ak]
 obtain ⟨b',a7,ax,rfl⟩:=ah V0
 obtain ⟨i,ag,zs,z',hi,bc,bi,bk,ab,bh⟩:=ok.el x.T
 rw [ab] at hz
 have a1:cfg.dec x.T zs=some z:=hz
 obtain ⟨d,ay,hZ⟩:=Z1R ok ab w
 have s:=Z0h (g:=g) (st:=st) (cfg:=cfg) hZ
 obtain ⟨av,a2⟩:=Zak ok a1 s.1 (fun j v c h1 h2=> s.sim h1 h2)
 have ae:d.cells.size=cfg.sz x.T:=by have:=av;simp at this;exact this
 have a6:=ok.sz_pos x.T
 obtain ⟨_,_,w',h1,a5⟩:=Zd4 (P:=P) (l':=List.replicate m z) (vs:=(Builtin.zeroCells d.cells m).toList) (n:=n) (val:=none) (v:= .tuple #[]) ok h af ax
  (by simp [Builtin.zeroCells,ae])
  (by
   intro v hv
   simp only [Builtin.zeroCells,Xs,X3,Array.toList_range,List.mem_range] at hv
   obtain ⟨j,hj,rfl⟩:=hv
   have al:j % d.cells.size < d.cells.size:=Xy _ V0
   rw [getElem!_pos d.cells _ al]
   exact s.one _ (by simp))
  (by
   intro i x0 aa j c hc
   obtain ⟨hi,aa⟩:=Q4.1 aa
   simp at aa hi
   subst aa
   obtain ⟨v,h7,h8⟩:=a2 j c hc
   have hj:j < cfg.sz x.T:=by have:=(Q4.1 hc).1;rw [ok.enc_len] at this;exact this
   have ah:i*cfg.sz x.T+j < m*cfg.sz x.T:=by
    have:(i+1)*cfg.sz x.T<=m*cfg.sz x.T:=Qd _ V0
    rw [QC] at this;omega
   refine ⟨v,?_,h8⟩
   have h9:d.cells[j]?=some v:=by rw [<-h7];simp
   have aj:j < d.cells.size:=V0
   have e:(i*cfg.sz x.T+j) % d.cells.size=j:=by rw [ae,Xi,XN,Xc hj]
   have aw:d.cells[j]! =v:=by
    rw [getElem!_pos d.cells j aj]
    rw [QN aj] at h9
    exact Option.some.inj h9
   have ai:i*cfg.sz x.T+j < m*d.cells.size:=by rw [ae];exact ah
   simp [Builtin.zeroCells,ai,e,aw])
  hps.1 (by simp;omega) (fun _ _=> trivial)
 refine .inl ⟨.tuple #[],w',?_,g,?_⟩
 .rw [am]
  refine Z8w ?_
  obtain ⟨m',rfl⟩:∃ m',m=m'+1:=⟨m - 1,V0⟩
  rw [hE] at hU
  simp [Builtin.clear_,run_underlying ak,ay,h1]
 simp_all
theorem ZmA (ok:CfgOk P cfg) (h:Rel cfg B st g a w) {live:Name->Bool} {o:Oper} {t:TypeId} {u:Tok} {n:Nat} {y:C U} {px py:Operand} {ps:List Prop} {e:Eff U}
  (ho:o.op= .call { callee:= .builtin .copy,args:=#[px,py],argTypes:=#[t,t] })
  (hx:RelV cfg g st.dead live (a.eval px) (.vw u n)) (hy:RelC cfg g st.dead (a.eval py) y) (he:ZpB cfg st t u n y=some (ps,e)) (hps:All ps):
  Does P o a w fun v w'=> ∃ g',Out cfg B st g e v w' g':=by
 unfold ZpB at he
 split at he
 case h_2=> cases he
 rename_i T x hT aj
 split at he
 case h_2=> cases he
 rename_i ba l tl _ a7
 subst ba
 simp only [oP] at he
 obtain ⟨rfl,rfl⟩:=he
 obtain ⟨hE,hU⟩:=Jf ok hT
 obtain ⟨hn,b,m,az,hv,hm,hb,au⟩:=ZzZ h aj hx
 obtain ⟨ak,bs,ls,d,ar,al,bj,ay⟩:=Z4g hy a7
 rw [ar] at ak
 have am:P.underlying t=some (.slice (cfg.elT x.T)):=by rw [hE] at hU;exact hU
 have a4:=Jb ok x.T w
 have aq:execOp a.eval o=(do pure (.value (<-Builtin.copy_ #[t,t] o.type #[.slice b m az,.slice bs ls d])):Sem Next):=by
  simp only [execOp,ho,resolve,Sem.run_bind,Sem.run_pure,Result.andThen_ok,invoke,builtin]
  simp [hv,ar]
 have ao:∀ (k:Nat) dead (live:Name->Bool),RelV cfg g dead live (goInt k) ((some (V.c (U:=U) (.int .i64 k))).getD .junk):=fun k _ _=> ⟨.int _ _,trivial⟩
 have ab:∀ k,k<=ls->∃ vs:List Value,(Builtin.firstCells (cfg.sz x.T) k (.slice bs ls d)).run P w= .ok vs.toArray w/\vs.length=(l.take k).length*cfg.sz x.T/\(∀ v∈vs,v.oneCell'=true)/\
   (∀ (i:Nat) x0,(l.take k)[i]?=some x0->∀ (j:Nat) c,(cfg.enc x.T x0)[j]?=some c->∃ v,vs[i*cfg.sz x.T+j]?=some v/\SimC cfg g.m v c):=by
  intro k hk
  cases bs with
  | none=>
   obtain ⟨rfl,rfl⟩:=ay rfl
   have a2:l=[]:=Q3 al
   subst a2
   exact ⟨[],run_firstCells_none w _ _ _ _,by simp,by simp,fun i x0 aa=> by simp at aa⟩
  | some a'=>
   obtain ⟨vs,s,h2,h3⟩:=Z3K ok ak.1
   have af:k*cfg.sz x.T<=ls*cfg.sz x.T:=Qd _ hk
   have a3:(vs.take (k*cfg.sz x.T)).length=k*cfg.sz x.T:=by rw [Qm];omega
   refine ⟨vs.take (k*cfg.sz x.T),run_firstCells_some w _ k a' ls d _ a3 fun j v hv=> ?_,by grind,fun v hv=> ?_,fun i x0 aa j c hc=> ?_⟩
   .have hj:j < k*cfg.sz x.T:=by have:=(Q4.1 hv).1;omega
    rw [X4 hj] at hv
    exact (h.inv.im _ _ (h2 j v hv).1).1
   .obtain ⟨j,hj,rfl⟩:=Xf (Xp hv)
    exact (h2 j _ (Q2 hj)).2
   .have hi:i < k:=by have:=(Q4.1 aa).1;rw [Qm] at this;omega
    rw [X4 hi] at aa
    have hj:j < cfg.sz x.T:=by have:=(Q4.1 hc).1;rw [ok.enc_len] at this;exact this
    have au:i*cfg.sz x.T+j < k*cfg.sz x.T:=by
     have:(i+1)*cfg.sz x.T<=k*cfg.sz x.T:=Qd _ hi
     rw [QC] at this;omega
    grind
 obtain ⟨k,hk⟩:∃ k,k=Nat.min ls m:=⟨_,rfl⟩
 have af:k=min (x.l.length - n) l.length:=by rw [hk,hm,al];exact Nat.min_comm _ _
 obtain ⟨vs,g1,g2,g3,g4⟩:=ab k V0
 have ae:(sizeOf (cfg.elT x.T)).run P w= .ok (cfg.sz x.T) w:=a4
 have ah:l.take k=l.take (x.l.length - n):=by
  rcases Nat.le_total (x.l.length - n) l.length with s | s
  .rw [af,X8 s]
  .rw [af,Nat.min_eq_right s,Qw (Qc _),Qw s]
 by_cases h0:n < x.l.length
 .obtain ⟨b',be,a5,rfl⟩:=au h0
  obtain ⟨_,_,w',s,bd⟩:=Zd4 (P:=P) (l':=l.take k) (vs:=vs) (n:=n) (val:=some (.c (.int .i64 k))) (v:=goInt k) ok h aj a5 g2 g3 g4 hps.1 (by grind) (ao _)
  refine .inl ⟨goInt k,w',?_,g,?_⟩
  .rw [aq]
   refine Z8w ?_
   rw [hk] at g1 ⊢
   simp [Builtin.copy_,run_underlying am,Builtin.lenOf,ae,g1,s]
  .have e1:x.l.take n++(l.take k++x.l.drop (n+(l.take k).length))=cpL x.l n l:=by
    unfold cpL
    rw [ah]
    congr 2
    rw [Qm]
    rcases Nat.le_total (x.l.length - n) l.length with s | s
    .rw [X8 s,QA V0,QA V0]
    .grind
   grind
 .have a8:m=0:=V0
  have a6:k=0:=V0
  rw [a6] at g1 g2
  have a9:vs=[]:=Q3 (by simpa using g2)
  subst a9
  refine .inl ⟨goInt (0:Nat),w,?_,g,ZjF h aj ?_ ?_⟩
  .rw [aq]
   refine Z8w ?_
   subst a8
   cases b <;> simp [Builtin.copy_,run_underlying am,Builtin.lenOf,ae,g1,storeCells]
  .have e1:n=x.l.length:=V0
   have e2:cpL x.l n l=x.l:=by
    unfold cpL
    subst e1
    rw [Nat.sub_self,List.take_zero,Qw (Qc _),QA V0]
    simp
   rw [e2]
  grind
theorem Z5l(ps:Nat->Bool):∀ (xs:List (V U)) (i:Nat) (os:List (Name × List (C U))) (seen:List (Tok × Tok)),YG st.strip ps i xs os seen=YG st ps i xs os seen
 | [],i,os,seen=> rfl
 | x ::xs,i,os,seen=> by
  simp only [YG,Z5l ps xs]
  try rfl
theorem Zc3:∀ (l h:List Name),Z7h st.strip l h=Z7h st l h
 | [],h=> rfl
 | nm ::l,h=> by
  simp only [Z7h,Zc3 l]
  try rfl
theorem Zch(Γ:Known U)(d:Nat)(f:FuncId)(args:List (V U)):Z7n Γ st.strip d f args=Z7n Γ st d f args:=by
 have hl:∀ (L:List (Tok × LC U)),Z0A st.strip d L=Z0A st d L:=by
  intro L
  induction L with
  | nil=> rfl
  | cons x L ih=>
   obtain ⟨t,x⟩:=x
   simp only [Z0A,ih]
   try rfl
 have h:Z1N st.strip args=Z1N st args:=by simp only [Z1N,Zc3]
 simp only [Z7n,Z5l,hl,h]
 try rfl
theorem Z7P{lo:Option Operand}{x:Option (V U)}(h:Z0I st.strip lo=some x)(hop:∀ y,lo=some y->∀ v,st.strip.opnd y=some v->RelV cfg g st.dead (fun nm=> (st.mem nm).isSome) (a.eval y) v):
  Zra cfg g st.dead (fun nm=> (st.mem nm).isSome) (lo.map a.eval) x:=by
 cases lo with
 | none=> simp only [Z0I,Option.some.injEq] at h;subst h;trivial
 | some y=>
  simp only [Z0I] at h
  cases hy:st.strip.opnd y with
  | none=> simp [hy] at h
  | some v=>
   simp [hy] at h
   subst h
   exact hop y rfl v hy
theorem ZeJ{f:Operand->Option (V U)}:∀ {l:List (Nat × Operand)} {ps:List (Nat × V U)},l.mapM (fun x=> (f x.2).map (x.1,·))=some ps->
  l.length=ps.length/\∀ (j:Nat) x y,l[j]?=some x->ps[j]?=some y->x.1=y.1/\f x.2=some y.2
 | [],ps,h=> by grind
 | x ::l,ps,h=> by
  rw [QV] at h
  cases h1:f x.2 with
  | none=> simp [h1] at h
  | some v=>
   cases h2:l.mapM (fun x=> (f x.2).map (x.1,·)) with
   | none=> grind
   | some r=>
    simp [h1,h2] at h
    subst h
    obtain ⟨d,s⟩:=ZeJ h2
    grind
theorem Zk6{f:Operand->Option (V U)}:∀ {l:List (Nat × Operand)} {ps:List (Nat × List (C U))},l.mapM (fun x=> ((f x.2).bind V.cells).map (x.1,·))=some ps->
  l.length=ps.length/\∀ (j:Nat) x y,l[j]?=some x->ps[j]?=some y->x.1=y.1/\∃ v,f x.2=some v/\v.cells=some y.2:=by
 intro l ps h
 have h':l.mapM (fun x=> ((fun o=> (f o).bind V.cells) x.2).map (x.1,·))=some ps:=h
 generalize hg:(fun o=> (f o).bind V.cells)=F at h'
 have d:∀ {l:List (Nat × Operand)} {ps:List (Nat × List (C U))},l.mapM (fun x=> (F x.2).map (x.1,·))=some ps->
   l.length=ps.length/\∀ (j:Nat) x y,l[j]?=some x->ps[j]?=some y->x.1=y.1/\F x.2=some y.2:=by
  intro l
  induction l with
  | nil=> grind
  | cons x l ih=>
   intro ps h
   rw [QV] at h
   cases h1:F x.2 with
   | none=> simp [h1] at h
   | some v=>
    cases h2:l.mapM (fun x=> (F x.2).map (x.1,·)) with
    | none=> grind
    | some r=>
     simp [h1,h2] at h
     subst h
     obtain ⟨h3,h4⟩:=ih h2
     refine ⟨by simp [h3],fun j y z u hz=> ?_⟩
     cases j with
     | zero=> grind
     | succ j=> grind
 obtain ⟨k1,k2⟩:=d h'
 refine ⟨k1,fun j x y hx u=> ?_⟩
 obtain ⟨k3,s⟩:=k2 j x y hx u
 refine ⟨k3,?_⟩
 rw [<-hg] at s
 simp only at s
 cases hf:f x.2 with
 | none=> grind
 | some v=> grind
theorem SimC.int_eq{m:Addr->Option Value}{v:Value}{k:IntKind}{n:Int}(h:SimC cfg m v (.int k n)):v= .int k n:=by
 cases h;rfl
theorem SimC.bool_eq{m:Addr->Option Value}{v:Value}{b:Bool}(h:SimC cfg m v (.bool b)):v= .bool b:=by
 cases h;rfl
theorem SimC.nilp_eq{m:Addr->Option Value}{v:Value}(h:SimC cfg m v .nilp):v= .pointer none:=by
 cases h;rfl
theorem ZcB(ok:CfgOk P cfg){t:TypeId}(hz:cfg.var t=some (false,[.nilp])):P.underlying t=some (.pointer (P.pointee t)):=by
 obtain ⟨e,d⟩:=ok.ptr t hz
 have:P.pointee t=e:=by simp [Program.pointee,d]
 grind
theorem bind_some{α β:Type}{x:Option α}{f:α->Option β}{b:β}(h:x.bind f=some b):∃ a,x=some a/\f a=some b:=by
 cases x with
 | none=> simp at h
 | some a=> grind
theorem ZsY(ok:CfgOk P cfg){T:U.Ty}{o:Option (U.El T)}{live:Name->Bool}{v:Value}(h:RelV cfg g st.dead live v (.c (.po T o)))(ho:o.isSome=true):RelV cfg g st.dead live v (.ep (cfg.enc T (o.getD (cfg.dflt T)))):=by
 obtain ⟨d,_⟩:=h
 cases o with
 | none=> cases ho
 | some x=>
  cases d with
  | po _ _ b vs hm hs=> exact ⟨b,rfl,fun j c hc=> ⟨_,hm j c hc,hs j c hc,Z7M (ok.enc_plain _ _ c (QW hc))⟩⟩
theorem Z6T {Γ:Known U} (ok:CfgOk P cfg) (hΓ:∀ f s,Γ f=some s->Contract P cfg f s) (h:Rel cfg B st g a w) {o:Oper} (hop:ZAT cfg st g a o) {ps:List Prop} {e:Eff U}
  (he:aop cfg Γ o st.strip=some (ps,e)) (hps:All ps):Does P o a w fun v w'=> ∃ g',Out cfg B st g e v w' g':=by
 have val:∀ {s:Sem Value} {x:V U},(∃ r,s.run P w= .ok r w/\RelV cfg g st.dead (fun nm=> (st.mem nm).isSome) r x)->execOp a.eval o=(do pure (.value (<-s)):Sem Next)->
   Does P o a w fun v w'=> ∃ g',Out cfg B st g { val:=some x } v w' g':=by
  rintro s x ⟨r,h1,h2⟩ h3
  exact Jl h (by simp_all) h2
 have al:∀ {s:Sem Value} {x:C U},(∃ r,s.run P w= .ok r w/\SimC cfg g.m r x/\∀ tag dead r,TailOk cfg tag dead r x)->execOp a.eval o=(do pure (.value (<-s)):Sem Next)->
   Does P o a w fun v w'=> ∃ g',Out cfg B st g { val:=some (.c x) } v w' g':=by
  rintro s x ⟨r,h1,h2,h3⟩ h4
  exact val ⟨r,h1,h2,h3 _ _ _⟩ h4
 obtain ⟨dst,op,type,pos,after,guard⟩:=o
 unfold ZAT at hop
 cases op <;> simp only [aop,reduceCtorEq] at he
 case move x=>
  obtain ⟨v,h1,h2⟩:=bind_some he
  have hr:=hop x (by simp [Op.operands]) v h1
  split at h2 <;> simp only [oP,reduceCtorEq] at h2
  obtain ⟨rfl,rfl⟩:=h2
  exact Jl h (by simp [execOp]) hr
 case assign x=>
  obtain ⟨v,h1,h2⟩:=bind_some he
  have hr:=hop x (by simp [Op.operands]) v h1
  split at h2 <;> simp only [oP,reduceCtorEq] at h2
  obtain ⟨rfl,rfl⟩:=h2
  exact Jl h (by simp [execOp]) hr
 case alloc t=>
  split at he
  .rename_i d ag zs hd hv
   split at he
   .cases he
   .rename_i hn
    simp only [oP] at he
    obtain ⟨rfl,rfl⟩:=he
    exact ZkM ok h rfl hv (by simpa [FSt.strip] using hn)
  .cases he
 case box t x=>
  split at he
  .rename_i d ag zs cs hd hv a2
   split at he
   .cases he
   .rename_i hn
    simp only [oP] at he
    obtain ⟨rfl,rfl⟩:=he
    obtain ⟨v,h1,h2⟩:=bind_some a2
    simp only [XT,not_or] at hn
    exact Zr0 h rfl (hop x (by simp [Op.operands]) v h1) h2 (by simpa [FSt.strip] using hn.1)
  .cases he
 case build t parts=>
  split at he
  .rename_i zs bi hv hm
   cases hf:Z0D cfg t zs bi with
   | none=> grind
   | some cs=>
    simp only [hf,Qf,oP] at he
    obtain ⟨rfl,rfl⟩:=he
    obtain ⟨h1,h2⟩:=Zk6 hm
    refine val (s:=Instr.build t (parts.map fun x=> (x.1,a.eval x.2))) (ZkH ok hv (by simpa using h1) ?_ hf) (by rfl)
    intro j x y hx hy
    rw [Array.getElem?_map] at hx
    cases hj:parts[j]? with
    | none=> grind
    | some p=>
     simp [hj] at hx
     subst hx
     obtain ⟨h3,v,h4,h5⟩:=h2 j p y (by simpa using hj) hy
     refine ⟨h3,(hop p.2 ?_ v h4).cells h5⟩
     simp only [Op.operands]
     grind
  .cases he
 case buildSlice t n parts=>
  split at he
  .rename_i T bi hT hm
   split at he
   .rename_i hn
    cases hf:Ja cfg T 0 bi with
    | none=> grind
    | some l=>
     simp only [hf,Qg] at he
     obtain ⟨h1,h2⟩:=ZeJ hm
     have a4:∀ (j:Nat) x y,parts[j]?=some x->bi[j]?=some y->x.1=y.1/\RelV cfg g st.strip.dead (fun nm=> (st.strip.mem nm).isSome) (a.eval x.2) y.2:=by
      intro j x y hx hy
      obtain ⟨h3,h4⟩:=h2 j x y (by simpa using hx) hy
      refine ⟨h3,hop x.2 ?_ y.2 h4⟩
      simp only [Op.operands]
      have:=QW (l:=parts.toList) (i:=j) (by simpa using hx)
      simp
      exact ⟨x.1,by grind⟩
     cases hmu:st.strip.mu && Z4J parts.toList with
     | false=>
      simp only [hmu,cond_false,oP] at he
      obtain ⟨rfl,rfl⟩:=he
      exact Zbf ok h rfl hT (by simpa using h1) hn.1 hn.2 a4 hf
     | true=>
      simp only [hmu,cond_true,ZcO] at he
      split at he
      .split at he
       .rename_i ar
        simp only [Q0,QG,QS] at ar
        simp only [oP] at he
        obtain ⟨rfl,rfl⟩:=he
        exact Zan ok h ar.1 ar.2 rfl hT (by simpa using h1) hn.1 hn.2 a4 hf
       .cases he
      .cases he
   .cases he
  .cases he
 case load t p=>
  split at he
  .rename_i ag zs u n ak hv hp
   split at he
   .rename_i y hy
    split at he
    .rename_i ba
     cases hr:mkV ag (((cfg.enc y.T (y.l.getD n (cfg.dflt y.T))).drop ak).take zs.length) with
     | none=> grind
     | some v=>
      simp only [hr,Qf,oP] at he
      obtain ⟨rfl,rfl⟩:=he
      exact val (Zq2 ok h hv hy (hop p (by simp [Op.operands]) _ hp) ba hr) (by rfl)
    .cases he
   .cases he
  .rename_i ag zs T o hv hp
   cases hr:rd st.strip (.ep (cfg.enc T (o.getD (cfg.dflt T)))) ag zs.length with
   | none=> grind
   | some v=>
    simp only [hr,Qf,oP] at he
    obtain ⟨rfl,rfl⟩:=he
    exact val (ZdV ok h hv (ZsY ok (hop p (by simp [Op.operands]) _ hp) hps.1) hr) (by rfl)
  .rename_i ag zs p' br bl hv hp
   cases hr:rd st.strip p' ag zs.length with
   | none=> grind
   | some v=>
    simp only [hr,Qf,oP] at he
    obtain ⟨rfl,rfl⟩:=he
    exact val (ZdV ok h hv (hop p (by simp [Op.operands]) p' hp) hr) (by rfl)
  .cases he
 case store t p x=>
  split at he
  .rename_i ag zs nm ak new hv hp az
   split at he
   .rename_i cs a2
    split at he
    .rename_i hl
     cases hs:Yx cs ak new with
     | none=> grind
     | some cs'=>
      simp only [hs,Qf,oP] at he
      obtain ⟨rfl,rfl⟩:=he
      obtain ⟨v,h1,h2⟩:=bind_some az
      exact Zbq ok h rfl hv (hop p (by simp [Op.operands]) _ hp) (hop x (by simp [Op.operands]) v h1) h2 a2 hl hs
    .cases he
   .cases he
  .rename_i ag zs u n ak new hv hp az
   split at he
   .rename_i y hy
    split at he
    .rename_i hl
     split at he
     .rename_i e' b5
      simp only [oP] at he
      obtain ⟨rfl,rfl⟩:=he
      obtain ⟨v,h1,h2⟩:=bind_some az
      exact Zh6 ok h rfl hv (hop p (by simp [Op.operands]) _ hp) (hop x (by simp [Op.operands]) v h1) h2 hy hl hps.1 b5
     .cases he
    .cases he
   .cases he
  .rename_i ag zs nm ak k len n k' y hv hp az
   split at he
   .rename_i cs a2
    split at he
    .rename_i hc
     obtain ⟨ba,hk,hz⟩:=hc
     subst hk
     split at he
     .rename_i l hl
      simp only [oP] at he
      obtain ⟨rfl,rfl⟩:=he
      obtain ⟨v,h1,h2⟩:=bind_some az
      exact Zd3 ok h rfl hv (hop p (by simp [Op.operands]) _ hp) (hop x (by simp [Op.operands]) v h1) h2 a2 hz ba hl
     .cases he
    .cases he
   .cases he
  .cases he
 case nilCheck x=>
  split at he <;> try simp only [oP,reduceCtorEq] at he
  .rename_i nm ak hx
   obtain ⟨rfl,rfl⟩:=he
   have hr:=hop x (by simp [Op.operands]) _ hx
   have h2:=hr.2
   exact Jl h (by simp [execOp,h2]) hr
  .rename_i cs hx
   obtain ⟨rfl,rfl⟩:=he
   have hr:=hop x (by simp [Op.operands]) _ hx
   obtain ⟨b,h2,_⟩:=id hr
   exact Jl h (by simp [execOp,h2]) hr
  .rename_i u n ak hx
   split at he <;> simp only [oP,reduceCtorEq] at he
   rename_i hs
   obtain ⟨rfl,rfl⟩:=he
   have hr:=hop x (by simp [Op.operands]) _ hx
   obtain ⟨y,hy⟩:=Qy.1 hs
   obtain ⟨b,len,co,_,h2,_⟩:=Ztf h hy hr
   exact Jl h (by simp [execOp,h2]) hr
  .rename_i T o hx
   obtain ⟨rfl,rfl⟩:=he
   have hr:=hop x (by simp [Op.operands]) _ hx
   obtain ⟨b,h2,_⟩:=ZsY (live:=fun nm=> (st.mem nm).isSome) ok hr hps.1
   exact Jl h (by simp [execOp,h2]) hr
 case binOp bop t x y t'=>
  split at he
  .rename_i p q hx hy
   split at he
   .rename_i b0 hv
    cases hb:ZpC (U:=U) bop p q with
    | none=> grind
    | some c=>
     simp only [hb,Qf,oP] at he
     obtain ⟨rfl,rfl⟩:=he
     have h1:SimC cfg g.m (a.eval x) (.bool p):=(hop x (by simp [Op.operands]) _ hx).1
     have h2:SimC cfg g.m (a.eval y) (.bool q):=(hop y (by simp [Op.operands]) _ hy).1
     have e1:a.eval x= .bool p:=h1.bool_eq
     have e2:a.eval y= .bool q:=h2.bool_eq
     refine al (s:=do eqGuard bop t x y (.bool p) (.bool q);binOp bop t (.bool p) (.bool q)) (ZkN ok hv hb) ?_
     simp [execOp,e1,e2]
   .cases he
  .rename_i T l tl hx hy
   have h1:SimC cfg g.m (a.eval x) (.slice T l tl):=(hop x (by simp [Op.operands]) _ hx).1
   have h2:SimC cfg g.m (a.eval y) (.nils:C U):=(hop y (by simp [Op.operands]) _ hy).1
   have e2:a.eval y= .slice none 0 0:=by
    generalize a.eval y=u at h2
    cases h2
    try rfl
   have bb:∃ (ao:Option Addr) (n c:Nat),a.eval x= .slice ao n c/\(ao.isNone=true->l=[]):=by
    generalize a.eval x=u at h1
    cases h1 with
    | snil=> grind
    | slice _ _ _ b len co vs=> grind
   obtain ⟨ao,n,c,e1,hn⟩:=bb
   split at he <;> simp only [oP,reduceCtorEq] at he
   .rename_i S hS
    obtain ⟨rfl,rfl⟩:=he
    refine Jl (v:= .bool ao.isNone) h ?_ ⟨_,rfl,hn,fun _=> trivial⟩
    simp [execOp,e1,e2,eqGuard,Lib.run_eql_slice_nil w t _ ao n c 0 0 (ok.sl t S hS)]
   .rename_i S hS
    obtain ⟨rfl,rfl⟩:=he
    refine Jl (v:= .bool (!ao.isNone)) h ?_ ⟨_,rfl,fun _=> trivial,fun hf=> hn (by simpa using hf)⟩
    simp [execOp,e1,e2,eqGuard,run_neq_slice_nil_any w t _ ao n c 0 0 (ok.sl t S hS)]
  .rename_i T o hx hy
   have h1:SimC cfg g.m (a.eval x) (.po T o):=(hop x (by simp [Op.operands]) _ hx).1
   have h2:SimC cfg g.m (a.eval y) (.nilp:C U):=(hop y (by simp [Op.operands]) _ hy).1
   have e2:a.eval y= .pointer none:=by
    generalize a.eval y=u at h2
    cases h2
    try rfl
   have bb:∃ ao:Option Addr,a.eval x= .pointer ao/\ao.isNone=o.isNone:=by
    generalize a.eval x=u at h1
    cases h1 with
    | pnil=> grind
    | po _ y b vs=> grind
   obtain ⟨ao,e1,hn⟩:=bb
   have b4:∀ z,cfg.var t=some (false,z)->z=[.nilp]->P.underlying t=some (.pointer (P.pointee t)):=by
    rintro z hz rfl
    obtain ⟨e,he⟩:=ok.ptr t hz
    have:P.pointee t=e:=by simp [Program.pointee,he]
    rw [this];exact he
   split at he <;> simp only [oP,reduceCtorEq] at he
   .rename_i hv
    obtain ⟨rfl,rfl⟩:=he
    refine al (s:=binOp .eql t (.pointer ao) (.pointer none)) ⟨_,run_eql_pointer_nil _ t ao (b4 _ hv rfl),?_,fun _ _ _=> trivial⟩ (by simp [execOp,e1,e2,eqGuard])
    rw [hn];exact .bool _
   .rename_i hv
    obtain ⟨rfl,rfl⟩:=he
    refine al (s:=binOp .neq t (.pointer ao) (.pointer none)) ⟨_,run_neq_pointer_nil _ t ao (b4 _ hv rfl),?_,fun _ _ _=> trivial⟩ (by simp [execOp,e1,e2,eqGuard])
    rw [hn];cases o <;> exact .bool _
  .rename_i nm ak hx hy
   have e1:a.eval x= .pointer (some ((g.ad nm).add ak)):=(hop x (by simp [Op.operands]) _ hx).2
   have h2:SimC cfg g.m (a.eval y) (.nilp:C U):=(hop y (by simp [Op.operands]) _ hy).1
   have e2:=h2.nilp_eq
   split at he <;> simp only [oP,reduceCtorEq] at he
   .rename_i hv
    obtain ⟨rfl,rfl⟩:=he
    exact al (s:=binOp .eql t (.pointer (some ((g.ad nm).add ak))) (.pointer none)) ⟨_,run_eql_pointer_nil _ t _ (ZcB ok hv),.bool _,fun _ _ _=> trivial⟩ (by simp [execOp,e1,e2,eqGuard])
   .rename_i hv
    obtain ⟨rfl,rfl⟩:=he
    exact al (s:=binOp .neq t (.pointer (some ((g.ad nm).add ak))) (.pointer none)) ⟨_,run_neq_pointer_nil _ t _ (ZcB ok hv),.bool _,fun _ _ _=> trivial⟩ (by simp [execOp,e1,e2,eqGuard])
  .rename_i hx hy
   have h1:SimC cfg g.m (a.eval x) (.nilp:C U):=(hop x (by simp [Op.operands]) _ hx).1
   have h2:SimC cfg g.m (a.eval y) (.nilp:C U):=(hop y (by simp [Op.operands]) _ hy).1
   have e1:=h1.nilp_eq
   have e2:=h2.nilp_eq
   split at he <;> simp only [oP,reduceCtorEq] at he
   .rename_i hv
    obtain ⟨rfl,rfl⟩:=he
    exact al (s:=binOp .eql t (.pointer none) (.pointer none)) ⟨_,run_eql_pointer_nil _ t none (ZcB ok hv),.bool _,fun _ _ _=> trivial⟩ (by simp [execOp,e1,e2,eqGuard])
   .rename_i hv
    obtain ⟨rfl,rfl⟩:=he
    exact al (s:=binOp .neq t (.pointer none) (.pointer none)) ⟨_,run_neq_pointer_nil _ t none (ZcB ok hv),.bool _,fun _ _ _=> trivial⟩ (by simp [execOp,e1,e2,eqGuard])
  .rename_i p q cw bl cp cq hx hy
   cases hb:Zz0 Γ.wr bop p q with
   | none=> simp [hb,Zh2] at he
   | some r=>
    obtain ⟨qs,c⟩:=r
    simp only [hb,Zh2,Qf,oP] at he
    obtain ⟨rfl,rfl⟩:=he
    have h1:=(hop x (by simp [Op.operands]) _ hx).1
    have h2:=(hop y (by simp [Op.operands]) _ hy).1
    exact al (ZmX (p:=x) (q:=y) (t:=t) h1 h2 hb hps) (by rfl)
  .rename_i as bs hx hy
   have h1:=hop x (by simp [Op.operands]) _ hx
   have h2:=hop y (by simp [Op.operands]) _ hy
   split at he
   .rename_i r ag zs ht hr hz
    split at he
    .rename_i hl
     simp only [oP] at he
     obtain ⟨rfl,rfl⟩:=he
     exact al ⟨_,(Zcc (w:=w) (p:=x) (q:=y) ok ht h1 h2 hr hz hl).1,.bool _,fun _ _ _=> trivial⟩ (by rfl)
    .cases he
   .rename_i r ag zs ht hr hz
    split at he
    .rename_i hl
     simp only [oP] at he
     obtain ⟨rfl,rfl⟩:=he
     exact al ⟨_,(Zcc (w:=w) (p:=x) (q:=y) ok ht h1 h2 hr hz hl).2,.bool _,fun _ _ _=> trivial⟩ (by rfl)
    .cases he
   .cases he
  .cases he
 case unOp uop t x=>
  split at he
  .rename_i p hx
   cases hb:aUn Γ.wr uop p with
   | none=> simp [hb,Zh2] at he
   | some r=>
    obtain ⟨qs,c⟩:=r
    simp only [hb,Zh2,Qf,oP] at he
    obtain ⟨rfl,rfl⟩:=he
    exact al (Zr6 (hop x (by simp [Op.operands]) _ hx).1 hb hps) (by rfl)
  .cases he
 case convert src dst' x=>
  split at he
  .rename_i k1 n1 k n0 k2 n hs hd hx
   simp only [oP] at he
   obtain ⟨rfl,rfl⟩:=he
   have h1:SimC cfg g.m (a.eval x) (.int k2 n):=(hop x (by simp [Op.operands]) _ hx).1
   have e1:a.eval x= .int k2 n:=h1.int_eq
   obtain ⟨_,i,z,d,q1,q2,q3,q4,q5,q6,q7,_⟩:=ok.var _ _ _ hs
   obtain ⟨_,i',z',d',r1,r2,r3,r4,r5,r6,r7,_⟩:=ok.var _ _ _ hd
   have cn:=r7 rfl k n0 rfl
   subst cn
   refine al (s:=convert src dst' (a.eval x)) ⟨.int k (k.wrap n),?_,.int _ _,fun _ _ _=> trivial⟩ (by rfl)
   rw [e1]
   simp [convert,run_underlying q2,run_underlying r2,Conv.intToInt]
  .cases he
 case makeSlice t n m=>
  split at he
  .rename_i T n' m' hT hn hm
   split at he
   .rename_i ag zs hz
    split at he
    .rename_i z hd
     have h1:SimC cfg g.m (a.eval n) (.int .i64 n'):=(hop n (by simp [Op.operands]) _ hn).1
     have h2:SimC cfg g.m (a.eval m) (.int .i64 m'):=(hop m (by simp [Op.operands]) _ hm).1
     cases hmu:st.strip.mu with
     | false=>
      simp only [hmu,cond_false] at he
      simp only [oP] at he
      obtain ⟨rfl,rfl⟩:=he
      exact Zcm ok h rfl hT h1.int_eq h2.int_eq hz hd hps.1 hps.2.1
     | true=>
      simp only [hmu,cond_true,Ziy] at he
      split at he
      .split at he
       .rename_i ar
        simp only [Q0,QG,QS] at ar
        simp only [oP] at he
        obtain ⟨rfl,rfl⟩:=he
        exact ZaV ok h ar.1 ar.2 rfl hT h1.int_eq h2.int_eq hz hd hps.1 hps.2.1
       .cases he
      .cases he
    .cases he
   .cases he
  .cases he
 case slice t x lo hi mx=>
  split at he
  .rename_i nm ak hx be bd bf
   split at he
   .rename_i len et T cs ha hT a2
    split at he
    .rename_i hc
     obtain ⟨rfl,bc,cb,cf⟩:=hc
     split at he
     .rename_i l hl
      simp only [oP] at he
      obtain ⟨rfl,rfl⟩:=he
      have nn:∀ {y:Option Operand},Z0I st.strip y=some none->y=none:=by
       intro y hy
       cases y with
       | none=> rfl
       | some z=> simp [Z0I] at hy
      have e1:=nn be
      have e2:=nn bd
      have e3:=nn bf
      subst e1 e2 e3
      exact ZdC ok h rfl ha cf (hop x (by simp [Op.operands]) _ hx) a2 bc cb hl
     .cases he
    .cases he
   .cases he
  .rename_i u k n hx be bd bf
   split at he
   .rename_i S y hS hy
    split at he
    .rename_i bg _
     subst bg
     rw [cond_eq_ite] at he
     split at he
     .simp only [oP] at he
      obtain ⟨rfl,rfl⟩:=he
      have nn:∀ {y:Option Operand},Z0I st.strip y=some none->y=none:=by
       intro y hy
       cases y with
       | none=> rfl
       | some z=> simp [Z0I] at hy
      have e2:=nn bd
      have e3:=nn bf
      subst e2 e3
      cases lo with
      | none=> grind
      | some lo=>
       have hl:st.strip.opnd lo=some (.c (.int k n)):=by simpa [Z0I] using be
       have h1:SimC cfg g.m (a.eval lo) (.int k n):=(hop lo (by simp [Op.operands]) _ hl).1
       obtain ⟨r,h2,h3⟩:=Zh8 (k:=k) (live:=fun nm=> (st.mem nm).isSome) ok h hS hy (hop x (by simp [Op.operands]) _ hx) hps.1
       exact val ⟨r,h2,h3⟩ (by simp [execOp,h1.int_eq])
     .cases he
    .cases he
   .cases he
  .rename_i x' ck cm ch _ hx be bd bf
   cases hb:Zix cfg t x' ck cm ch with
   | none=> simp [hb,Zh2] at he
   | some r=>
    obtain ⟨qs,c⟩:=r
    simp only [hb,Zh2,Qf,oP] at he
    obtain ⟨rfl,rfl⟩:=he
    have ax:=hop x (by simp [Op.operands]) _ hx
    obtain ⟨r,h1,h2⟩:=Ziw (w:=w) (live:=fun nm=> (st.mem nm).isSome) ok ax (Z7P (a:=a) be fun y hy=> hop y (by simp [Op.operands,hy])) (Z7P (a:=a) bd fun y hy=> hop y (by simp [Op.operands,hy]))
     (Z7P (a:=a) bf fun y hy=> hop y (by simp [Op.operands,hy])) hb hps
    exact val (x:= .c c) ⟨r,h1,h2⟩ (by rfl)
  .cases he
 case fieldAddr t x f=>
  split at he
  .rename_i u n o' ak ft hx hf
   split at he
   .rename_i z hz
    split at he
    .rename_i hs
     simp only [oP] at he
     obtain ⟨rfl,rfl⟩:=he
     obtain ⟨y,hy⟩:=Qy.1 hs
     exact val (Zbb ok hf hz h hy (hop x (by simp [Op.operands]) _ hx)) (by rfl)
    .cases he
   .cases he
  .rename_i T o ak ft hx hf
   split at he
   .rename_i ag zs hv
    cases hp:Z7E (.ep (cfg.enc T (o.getD (cfg.dflt T)))) ak zs.length with
    | none=> grind
    | some v=>
     simp only [hp,Qf,oP] at he
     obtain ⟨rfl,rfl⟩:=he
     exact val (Z4Q ok hf hv (ZsY ok (hop x (by simp [Op.operands]) _ hx) hps.1) hp) (by rfl)
   .cases he
  .rename_i p ak ft br bl hx hf
   split at he
   .rename_i ag zs hv
    cases hp:Z7E p ak zs.length with
    | none=> grind
    | some v=>
     simp only [hp,Qf,oP] at he
     obtain ⟨rfl,rfl⟩:=he
     exact val (Z4Q ok hf hv (hop x (by simp [Op.operands]) _ hx) hp) (by rfl)
   .cases he
  .cases he
 case field t x f=>
  split at he
  .rename_i cs ak ft hx hf
   split at he
   .rename_i ag zs hv
    split at he
    .rename_i ba
     cases hp:mkV ag ((cs.drop ak).take zs.length) with
     | none=> grind
     | some v=>
      simp only [hp,Qf,oP] at he
      obtain ⟨rfl,rfl⟩:=he
      exact val (Zku ok hf hv (hop x (by simp [Op.operands]) _ hx) ba hp) (by rfl)
    .cases he
   .cases he
  .cases he
 case indexAddr t x i=>
  split at he
  .rename_i T l tl k n hx hi
   split at he
   .rename_i S hS
    split at he
    .rename_i bg _
     simp only [oP] at he
     obtain ⟨rfl,rfl⟩:=he
     subst bg
     have h1:SimC cfg g.m (a.eval i) (.int k n):=(hop i (by simp [Op.operands]) _ hi).1
     have e1:a.eval i= .int k n:=h1.int_eq
     refine val (Zcp (k:=k) ok hS (hop x (by simp [Op.operands]) _ hx) hps.1) ?_
     simp [execOp,e1]
    .cases he
   .cases he
  .rename_i u k n hx hi
   split at he
   .rename_i S y hS hy
    split at he
    .rename_i bg _
     simp only [oP] at he
     obtain ⟨rfl,rfl⟩:=he
     subst bg
     have h1:SimC cfg g.m (a.eval i) (.int k n):=(hop i (by simp [Op.operands]) _ hi).1
     have e1:a.eval i= .int k n:=h1.int_eq
     refine val (Zb7 (k:=k) ok h hS hy (hop x (by simp [Op.operands]) _ hx) hps.1) ?_
     simp [execOp,e1]
    .cases he
   .cases he
  .rename_i nm ak k n hx hi
   split at he
   .rename_i len et ha
    split at he
    .rename_i k0 n0 hv
     simp only [oP] at he
     obtain ⟨rfl,rfl⟩:=he
     have h1:SimC cfg g.m (a.eval i) (.int k n):=(hop i (by simp [Op.operands]) _ hi).1
     have e1:a.eval i= .int k n:=h1.int_eq
     refine val (ZeX (k:=k) ok ha hv (hop x (by simp [Op.operands]) _ hx) hps.1) ?_
     simp [execOp,e1]
    .rename_i ag zs br hv
     split at he
     .rename_i hn
      simp only [oP] at he
      obtain ⟨rfl,rfl⟩:=he
      have h1:SimC cfg g.m (a.eval i) (.int k n):=(hop i (by simp [Op.operands]) _ hi).1
      have e1:a.eval i= .int k n:=h1.int_eq
      refine val (Z1P (k:=k) ok ha hv (hop x (by simp [Op.operands]) _ hx) hn) ?_
      simp [execOp,e1]
     .cases he
    .cases he
   .cases he
  .cases he
 case index t x i=>
  split at he
  .rename_i cs k n hx hi
   split at he
   .rename_i len et ha
    split at he
    .rename_i k0 n0 hv
     split at he
     .rename_i bc
      split at he
      .rename_i l hl
       simp only [oP] at he
       obtain ⟨rfl,rfl⟩:=he
       have h1:SimC cfg g.m (a.eval i) (.int k n):=(hop i (by simp [Op.operands]) _ hi).1
       have e1:a.eval i= .int k n:=h1.int_eq
       refine val (x:= .c _) (Zb6 (k:=k) ok ha hv (hop x (by simp [Op.operands]) _ hx) bc hl hps.1) ?_
       simp [execOp,e1]
      .cases he
     .cases he
    .rename_i ag zs br hv
     split at he
     .rename_i hn
      cases hp:mkV ag ((cs.drop (n.toNat*zs.length)).take zs.length) with
      | none=> grind
      | some v=>
       simp only [hp,Qf,oP] at he
       obtain ⟨rfl,rfl⟩:=he
       have h1:SimC cfg g.m (a.eval i) (.int k n):=(hop i (by simp [Op.operands]) _ hi).1
       have e1:a.eval i= .int k n:=h1.int_eq
       refine val (Zco (k:=k) ok ha hv (hop x (by simp [Op.operands]) _ hx) ⟨hn.1,hn.2.1⟩ hn.2.2 hp) ?_
       simp [execOp,e1]
     .cases he
    .cases he
   .cases he
  .cases he
 case extract x i=>
  split at he
  .rename_i vs hx
   split at he
   .rename_i ag cs hi
    cases hp:mkV ag cs with
    | none=> grind
    | some v=>
     simp only [hp,Qf,oP] at he
     obtain ⟨rfl,rfl⟩:=he
     exact val (ZfC (hop x (by simp [Op.operands]) _ hx) hi hp) (by rfl)
   .cases he
  .cases he
 case call c=>
  unfold ZiA at he
  split at he
  .rename_i b hb
   unfold Zfo at he
   have bt:execOp a.eval { dst,op:= .call c,type,pos,after,guard }=builtin b c.argTypes type (c.args.map fun | .const _=> true | _=> false) (c.args.map a.eval):=by
    simp only [execOp,resolve,hb]
    try rfl
   split at he
   .rename_i x t aj a1
    have e1:c.args=#[x]:=by apply Xa;simpa using aj
    have e2:c.argTypes=#[t]:=by apply Xa;simpa using a1
    split at he
    .rename_i v hx
     cases hl:lenOf cfg st.strip t v with
     | none=> grind
     | some cc=>
      simp only [hl,Qf,oP] at he
      obtain ⟨rfl,rfl⟩:=he
      have hr:=hop x (by simp [Op.operands,Call.operands,hb,e1]) v hx
      obtain ⟨r,h1,h2⟩:=ZqD (w:=w) (ty:=type) ok h hr (show lenOf cfg st t v=some cc from hl)
      refine val (x:= .c cc) ⟨r,h1,h2⟩ ?_
      rw [bt,e1,e2];simp [builtin]
    .cases he
   .rename_i x y t t' aj a1
    have e1:c.args=#[x,y]:=by apply Xa;simpa using aj
    have e2:c.argTypes=#[t,t']:=by apply Xa;simpa using a1
    split at he
    .rename_i d cx cy hd hx hy
     split at he
     .rename_i bp
      subst bp
      have ax:=hop x (by simp [Op.operands,Call.operands,hb,e1]) _ hx
      have a5:=hop y (by simp [Op.operands,Call.operands,hb,e1]) _ hy
      obtain ⟨callee,args,argTypes⟩:=c
      simp only at hb e1 e2
      subst hb e1 e2
      rw [cond_eq_ite] at he
      split at he
      .exact ZfK ok h rfl ax a5 he hps
      .exact Ziv ok h rfl ax a5 he hps
     .have ax:=hop x (by simp [Op.operands,Call.operands,hb,e1]) _ hx
      have a5:=hop y (by simp [Op.operands,Call.operands,hb,e1]) _ hy
      obtain ⟨callee,args,argTypes⟩:=c
      simp only at hb e1 e2
      subst hb e1 e2
      exact ZfJ ok h rfl ax a5 he hps
    .cases he
   .rename_i x t aj a1
    have e1:c.args=#[x]:=by apply Xa;simpa using aj
    have e2:c.argTypes=#[t]:=by apply Xa;simpa using a1
    split at he
    .rename_i u n hx
     have ax:=hop x (by simp [Op.operands,Call.operands,hb,e1]) _ hx
     obtain ⟨callee,args,argTypes⟩:=c
     simp only at hb e1 e2
     subst hb e1 e2
     exact ZkE ok h rfl ax he hps
    .cases he
   .rename_i x y t t' aj a1
    have e1:c.args=#[x,y]:=by apply Xa;simpa using aj
    have e2:c.argTypes=#[t,t']:=by apply Xa;simpa using a1
    split at he
    .rename_i u n cy hx hy
     split at he
     .rename_i bp
      subst bp
      have ax:=hop x (by simp [Op.operands,Call.operands,hb,e1]) _ hx
      have a5:=hop y (by simp [Op.operands,Call.operands,hb,e1]) _ hy
      obtain ⟨callee,args,argTypes⟩:=c
      simp only at hb e1 e2
      subst hb e1 e2
      exact ZmA ok h rfl ax a5 he hps
     .cases he
    .cases he
   .rename_i x y aj
    have e1:c.args=#[x,y]:=by apply Xa;simpa using aj
    split at he
    .rename_i cx cy hx hy
     cases hl:Z6V false cx cy with
     | none=> grind
     | some cc=>
      simp only [hl,Qf,oP] at he
      obtain ⟨rfl,rfl⟩:=he
      obtain ⟨r,h1,h2⟩:=Z97 (P:=P) (w:=w) (ts:=c.argTypes) (ty:=type) (hop x (by simp [Op.operands,Call.operands,hb,e1]) _ hx) (hop y (by simp [Op.operands,Call.operands,hb,e1]) _ hy) hl
      refine val (x:= .c cc) ⟨r,h1,h2⟩ ?_
      rw [bt,e1];simp [builtin]
    .cases he
   .rename_i x y aj
    have e1:c.args=#[x,y]:=by apply Xa;simpa using aj
    split at he
    .rename_i cx cy hx hy
     cases hl:Z6V true cx cy with
     | none=> grind
     | some cc=>
      simp only [hl,Qf,oP] at he
      obtain ⟨rfl,rfl⟩:=he
      obtain ⟨r,h1,h2⟩:=Z97 (P:=P) (w:=w) (ts:=c.argTypes) (ty:=type) (hop x (by simp [Op.operands,Call.operands,hb,e1]) _ hx) (hop y (by simp [Op.operands,Call.operands,hb,e1]) _ hy) hl
      refine val (x:= .c cc) ⟨r,h1,h2⟩ ?_
      rw [bt,e1];simp [builtin]
    .cases he
   .cases he
  .rename_i gx hg
   split at he
   .rename_i f vs hf bq
    have ar:a.eval gx= .func (.func f) #[] #[]:=hop gx (by simp [Op.operands,Call.operands,hg]) _ hf
    obtain ⟨m1,m2⟩:=Zgx (st:=st.strip) (cfg:=cfg) (g:=g) (a:=a) bq (fun x hx v hv=> hop x (by simp [Op.operands,Call.operands,hg];right;simpa using hx) v hv)
    rw [cond_eq_ite] at he
    split at he
    .have e:ZgU Γ st.strip f vs=ZgU Γ st f vs:=rfl
     rw [e] at he
     exact ZlR hΓ h rfl hg ar ⟨by simpa using m1,fun j u x hu hx=> m2 j u x (by simpa using hu) hx⟩ he hps
    rw [cond_eq_ite] at he
    split at he
    .have e:∀ d,Zr8 Γ st.strip d f vs=Zr8 Γ st d f vs:=fun d=> rfl
     rw [e] at he
     exact Zqi hΓ h rfl hg ar ⟨by simpa using m1,fun j u x hu hx=> m2 j u x (by simpa using hu) hx⟩ he hps
    rw [Zch] at he
    exact Zfe hΓ h rfl hg (caps:=[]) ar ⟨by simpa using m1,fun j u x hu hx=> m2 j u x (by simpa using hu) hx⟩ he hps
   .rename_i f ay vs hf bq
    rw [Zch] at he
    have ar:=hop gx (by simp [Op.operands,Call.operands,hg]) _ hf
    obtain ⟨m1,m2⟩:=Zgx (st:=st.strip) (cfg:=cfg) (g:=g) (a:=a) bq (fun x hx v hv=> hop x (by simp [Op.operands,Call.operands,hg];right;simpa using hx) v hv)
    refine Zfe hΓ h rfl hg (caps:=ay.map fun nm=> Value.pointer (some (g.ad nm))) ar.2 ⟨by simp [<-m1],fun j u x hu hx=> ?_⟩ he hps
    rw [QE] at hu hx
    split at hu
    .rename_i dg
     rw [YC] at hx
     exact m2 j u x hu hx
    .rename_i c1
     rw [JC] at hx
     rw [<-m1] at hx
     rw [Qx] at hu hx
     cases hnm:ay[j - (List.map a.eval c.args.toList).length]? with
     | none=> grind
     | some nm=>
      rw [hnm] at hu hx
      cases hu;cases hx
      exact ⟨ar.1 nm (QW hnm),by rfl⟩
   .cases he
  .cases he
 case makeFunc fn first caps=>
  split at he
  .rename_i f ay cj hm
   simp only [oP] at he
   obtain ⟨rfl,rfl⟩:=he
   have bk:first=#[]:=by apply Xa;simpa using cj
   have bb:∀ (l:List Operand) (ay:List Name),(∀ x∈l,x∈caps.toList)->l.mapM (fun x=> (st.strip.opnd x).bind Zq3)=some ay->
     l.map a.eval=ay.map (fun nm=> Value.pointer (some (g.ad nm)))/\∀ nm∈ay,((st.mem nm).isSome || nm.isX)=true:=by
    intro l
    induction l with
    | nil=> grind
    | cons x l ih=>
     intro ay hl hm
     rw [QV] at hm
     cases h1:(st.strip.opnd x).bind Zq3 with
     | none=> grind
     | some nm=>
      cases h2:l.mapM (fun x=> (st.strip.opnd x).bind Zq3) with
      | none=> grind
      | some r=>
       simp [h1,h2] at hm
       subst hm
       obtain ⟨h3,h4⟩:=ih r (fun y hy=> hl y (by simp [hy])) h2
       obtain ⟨v,h5,h6⟩:=bind_some h1
       have h7:=hop x (by
        have:=hl x (by simp)
        simp only [Op.operands]
        grind) v h5
       unfold Zq3 at h6
       split at h6
       .cases h6
        obtain ⟨h8,h9⟩:=h7
        rw [Addr.add_zero'] at h9
        grind
       .cases h6
   obtain ⟨k1,k2⟩:=bb caps.toList ay (fun x hx=> hx) hm
   refine Jl (v:= .func (.func f) #[] (caps.map a.eval)) h ?_ ⟨k2,?_⟩
   .simp [execOp,Instr.makeFunc,bk]
   .congr 1
    grind
  .cases he
def Wr(cfg:Cfg U)(g:Gh)(t:Tok)(x:LC U)(c:Addr):Prop:=
 ∃ b len cap,g.bs t=some (.slice (some b) len cap,cfg.sz x.T)/\∃ j,x.f*cfg.sz x.T<=j/\j < len*cfg.sz x.T/\c=b.add j
open Classical in
noncomputable def Gh.settled(g:Gh)(w:World)(R:Addr->Prop)(t:Tok):Gh:=
 {m:=fun c=> if R c then w.cell? c else g.m c
  tag:=fun c=> if R c then none else g.tag c
  ad:=g.ad
  bs:=fun u=> if u=t then none else g.bs u }
theorem ZkR(ok:CfgOk P cfg){t:Tok}{x:LC U}(hL:LRel cfg w g t x){c:Addr}(hc:Wr cfg g t x c):g.tag c=some (.tok t)/\∃ v,w.cell? c=some v:=by
 obtain ⟨b,len,aa,h1,j,h2,h3,rfl⟩:=hc
 rcases hL with ⟨e1,_⟩ | ⟨b',len',cap',e1,e2,e3,e4,e5,e6⟩
 .grind
 .rw [h1] at e1
  cases e1
  have d:=ok.sz_pos x.T
  have hi:j / cfg.sz x.T < x.l.length:=by rw [e2];exact Xo (by grind)
  have h:j % cfg.sz x.T < (cfg.enc x.T (x.l[j / cfg.sz x.T])).length:=by rw [ok.enc_len];exact Xy _ d
  obtain ⟨v,u,_,_,s⟩:=e5 _ _ (Q2 hi) _ _ (Q2 h)
  have e:j / cfg.sz x.T*cfg.sz x.T+j % cfg.sz x.T=j:=by rw [Xi];exact XC _ _
  rw [e] at u s
  exact ⟨s ((XL d).2 h2),v,u⟩
section frz
variable {t:Tok} {x:LC U}
theorem Z3J(ok:CfgOk P cfg)(h:Rel cfg B st g a w)(hL:LRel cfg w g t x):∀ c v,g.m c=some v->(g.settled w (Wr cfg g t x) t).m c=some v:=by
 intro c v d
 simp only [Gh.settled]
 rw [if_neg]
 .exact d
 .intro hc
  have:=(ZkR ok hL hc).1
  rw [(h.inv.im c v d).2] at this
  cases this
theorem Z33(ok:CfgOk P cfg)(hL:LRel cfg w g t x){c:Addr}{t':Tag}(hne:t'≠.tok t):g.tag c=some t'↔(g.settled w (Wr cfg g t x) t).tag c=some t':=by
 simp only [Gh.settled]
 split
 .rename_i hc
  rw [(ZkR ok hL hc).1]
  grind
 grind
theorem Z8v(ok:CfgOk P cfg)(h:Rel cfg B st g a w)(hL:LRel cfg w g t x){b:Addr}{len cap:Nat}(hbs:g.bs t=some (.slice (some b) len cap,cfg.sz x.T)):
  x.l.length=len/\len<=cap/\(∀ i y,x.l[i]?=some y->∀ j c,(cfg.enc x.T y)[j]?=some c->∃ v,(g.settled w (Wr cfg g t x) t).m (b.add (i*cfg.sz x.T+j))=some v/\SimC cfg (g.settled w (Wr cfg g t x) t).m v c)/\
   ∀ j,len*cfg.sz x.T<=j->j < cap*cfg.sz x.T->(g.settled w (Wr cfg g t x) t).tag (b.add j)=some (.tok t):=by
 rcases hL with ⟨e1,_⟩ | ⟨b',len',cap',e1,e2,e3,e4,e5,e6⟩
 .grind
 have d:LRel cfg w g t x:= .inr ⟨b',len',cap',e1,e2,e3,e4,e5,e6⟩
 have e0:=e1
 rw [hbs] at e0
 cases e0
 refine ⟨e2,e3,fun i y hy j c hc=> ?_,fun j a1 a2=> ?_⟩
 .obtain ⟨u,e7,e8,e9,ak⟩:=e5 i y hy j c hc
  refine ⟨u,?_,e8.mono (Z3J ok h d)⟩
  rcases Xr i x.f with hi | hi
  .exact Z3J ok h d _ _ (e9 hi)
  .have hj:j < cfg.sz x.T:=by have:=(Q4.1 hc).1;rw [ok.enc_len] at this;exact this
   have s:i < len:=by have:=(Q4.1 hy).1;omega
   have h1:x.f*cfg.sz x.T<=i*cfg.sz x.T:=Qd _ hi
   have h2:(i+1)*cfg.sz x.T<=len*cfg.sz x.T:=Qd _ s
   rw [QC] at h2
   simp only [Gh.settled]
   rw [if_pos ⟨b,len,cap,e1,_,V0,V0,rfl⟩]
   exact e7
 .simp only [Gh.settled]
  rw [if_neg]
  .grind
  .rintro ⟨b2,ab,ae,h1,j2,h2,h3,h4⟩
   rw [e1] at h1
   cases h1
   have:=Z1r h4
   omega
theorem ZuH(ok:CfgOk P cfg)(h:Rel cfg B st g a w)(hd:st.dead t=false)(hL:LRel cfg w g t x){v:Value}{c:C U}(hr:RelC cfg g st.dead v c):
  RelC cfg (g.settled w (Wr cfg g t x) t) st.dead v (c.frz t x):=by
 have d:=Z3J ok h hL
 cases c with
 | slice T l tl=>
  cases tl with
  | unk=> exact ⟨hr.1.mono d,trivial⟩
  | full=> exact ⟨hr.1.mono d,hr.2⟩
  | own u=>
   simp only [C.frz]
   split
   .exact ⟨(hr.1.tl _).mono d,trivial⟩
   .rename_i ai
    exact ⟨hr.1.mono d,fun ab b len aa hv j h1 h2=> (Z33 ok hL (fun e=> by grind)).1 (hr.2 ab b len aa hv j h1 h2)⟩
 | mref u=>
  simp only [C.frz]
  split
  .rename_i e
   subst e
   obtain ⟨s,hs⟩:=hr.2 hd
   rcases hL with ⟨e1,e2,e3⟩ | ⟨b',len',cap',e1,e2⟩
   .rw [hs] at e1
    cases e1
    obtain ⟨T,l,f⟩:=x
    simp only at e2
    subst e2
    exact ⟨.snil T _,fun _ b len aa hv=> by cases hv⟩
   .have af:LRel cfg w g u x:= .inr ⟨b',len',cap',e1,e2⟩
    obtain ⟨r1,r2,r3,r4⟩:=Z8v ok h af e1
    rw [hs] at e1
    cases e1
    refine ⟨.of_rows _ r1 r2 r3,fun _ b len aa hv j h1 h2=> ?_⟩
    grind
  .rename_i ai
   refine ⟨.mref _ _ hr.1.one,fun ab=> ?_⟩
   obtain ⟨s,hs⟩:=hr.2 ab
   refine ⟨s,?_⟩
   simp only [Gh.settled]
   grind
 | jk=> exact ⟨.jk _ hr.1.one,trivial⟩
 | xp k=> exact ⟨.xp _ _ hr.1.one,hr.2⟩
 | int k n=> exact ⟨hr.1.mono d,trivial⟩
 | bool b=> exact ⟨hr.1.mono d,trivial⟩
 | nils=> exact ⟨hr.1.mono d,trivial⟩
 | nilp=> exact ⟨hr.1.mono d,trivial⟩
 | po T o=> exact ⟨hr.1.mono d,trivial⟩
theorem ZGQ(ok:CfgOk P cfg)(h:Rel cfg B st g a w)(hd:st.dead t=false)(hL:LRel cfg w g t x){vs:List Value}{cs:List (C U)}(hr:RelL cfg g st.dead vs cs):
  RelL cfg (g.settled w (Wr cfg g t x) t) st.dead vs (cs.map (C.frz t x)):=by
 refine ⟨by simp [hr.1],fun j v c d hc=> ?_⟩
 rw [Qx] at hc
 cases hj:cs[j]? with
 | none=> grind
 | some c0=>
  simp [hj] at hc
  subst hc
  exact ZuH ok h hd hL (hr.2 j v c0 d hj)
theorem ZGP(ok:CfgOk P cfg)(h:Rel cfg B st g a w)(hd:st.dead t=false)(hL:LRel cfg w g t x){live:Name->Bool}{v:Value}:∀ {y:V U},RelV cfg g st.dead live v y->
  RelV cfg (g.settled w (Wr cfg g t x) t) st.dead live v (y.frz cfg t x)
 | .c y,hr=> ZuH ok h hd hL (c:=y) hr
 | .agg cs,hr=> by obtain ⟨vs,h1,d⟩:=hr;exact ⟨vs,h1,ZGQ ok h hd hL d⟩
 | .tup ws,hr=> by
  obtain ⟨vs,h1,d,h3⟩:=hr
  refine ⟨vs,h1,by simp [d],fun j u y hu hy=> ?_⟩
  rw [Qx] at hy
  cases hj:ws[j]? with
  | none=> grind
  | some w0=>
   simp [hj] at hy
   subst hy
   have:=h3 j u w0 hu hj
   obtain ⟨ag,cs⟩:=w0
   cases ag with
   | true=> obtain ⟨vs,h4,h5⟩:=this;exact ⟨vs,h4,ZGQ ok h hd hL h5⟩
   | false=> obtain ⟨c,h4,h5⟩:=this;simp only at h4;subst h4;exact ⟨_,rfl,ZuH ok h hd hL h5⟩
 | .ptr _ _,hr=> hr
 | .ap ..,hr=> hr
 | .ep cs,hr=> by
  obtain ⟨b,h1,d⟩:=hr
  refine ⟨b,h1,fun j c hc=> ?_⟩
  rw [Qx] at hc
  cases hj:cs[j]? with
  | none=> grind
  | some c0=>
   simp [hj] at hc
   subst hc
   obtain ⟨u,h3,h4⟩:=d j c0 hj
   exact ⟨u,Z3J ok h hL _ _ h3,ZuH ok h hd hL h4⟩
 | .mp u n off,hr=> by
  simp only [V.frz]
  split
  .rename_i e
   subst e
   obtain ⟨b,len,ab,s,h1,d,rfl⟩:=hr hd
   have hs:s=cfg.sz x.T:=by
    rcases hL with ⟨e1,_⟩ | ⟨b',len',cap',e1,_⟩ <;> rw [h1] at e1 <;> cases e1
    try rfl
   subst hs
   obtain ⟨r1,r2,r3,r4⟩:=Z8v ok h hL h1
   refine ⟨_,rfl,fun j c hc=> ?_⟩
   rw [Qq] at hc
   have aj:x.l[n]?=some (x.l.getD n (cfg.dflt x.T)):=by simp [List.getD,Q2 (show n < x.l.length by omega)]
   obtain ⟨u',h5,h6⟩:=r3 n _ aj _ c hc
   rw [Go.Deep.add_add,show n*cfg.sz x.T+off+j=n*cfg.sz x.T+(off+j) by omega]
   exact ⟨u',h5,h6,Z7M (ok.enc_plain _ _ c (QW hc))⟩
  .rename_i ak
   intro af
   obtain ⟨b,len,ab,s,h1,d,h3⟩:=hr af
   refine ⟨b,len,ab,s,?_,d,h3⟩
   simp only [Gh.settled]
   grind
 | .vw u n,hr=> by
  simp only [V.frz]
  split
  .trivial
  .rename_i ak
   intro af
   obtain ⟨b,len,ab,s,h1,d,h3⟩:=hr af
   refine ⟨b,len,ab,s,?_,d,h3⟩
   simp only [Gh.settled]
   grind
 | .fn _,hr=> hr
 | .clo _ _,hr=> hr
 | .gd b y,hr=> ⟨fun hb=> ZGP ok h hd hL (hr.1 hb),hr.2⟩
 | .nb _ _,hr=> hr
 | .junk,_=> trivial
theorem ZyK(ok:CfgOk P cfg)(h:Rel cfg B st g a w)(t:Tok):∃ g',Rel cfg B (st.frz1 cfg t) g' a w:=by
 unfold FSt.frz1
 cases hx:st.ls t with
 | none=> grind
 | some x=>
  obtain ⟨hd,hL⟩:=h.ls t x hx
  have hm:=Z3J ok h hL
  refine ⟨g.settled w (Wr cfg g t x) t,⟨fun c v hv=> ?_,fun c t' ht=> ?_⟩,?_,fun k=> ?_,fun nm cs hn j c hc=> ?_,h.sz,h.df,fun u y hy=> ?_,fun u hu d h2=> ?_⟩
  .by_cases hc:Wr cfg g t x c
   .simp only [Gh.settled] at hv ⊢
    grind
   .simp only [Gh.settled] at hv ⊢
    rw [if_neg hc] at hv ⊢
    exact h.inv.im c v hv
  .simp only [Gh.settled] at ht
   split at ht
   .cases ht
   .exact h.inv.it c t' ht
  .refine h.fr.step h.inv (Evo.refl w (fun _=> False)) (fun c hc=> hc.elim) hm (fun c t'=> Z33 ok hL (by simp)) ?_ (fun _=> rfl)
   intro b _ aj o sp
   simp only [Gh.settled]
   split
   .rename_i hc
    obtain ⟨t',h3⟩:=aj _ _ _ (ZkR ok hL hc).1
    cases h3
   .try rfl
  .have hl:(fun nm=> ((st.mem nm).map fun cs=> cs.map (C.frz t x)).isSome)=fun nm=> (st.mem nm).isSome:=by funext nm;cases st.mem nm <;> rfl
   simp only [hl]
   exact ZGP ok h hd hL (h.env k)
  .simp only at hn
   cases hcs:st.mem nm with
   | none=> grind
   | some cs0=>
    rw [hcs] at hn
    simp only [Qf,Option.some.injEq] at hn
    subst hn
    rw [Qx] at hc
    cases hj:cs0[j]? with
    | none=> grind
    | some c0=>
     simp [hj] at hc
     subst hc
     obtain ⟨v,d,h2,h3⟩:=h.mem nm cs0 hcs j c0 hj
     exact ⟨v,d,(Z33 ok hL (by simp)).1 h2,ZuH ok h hd hL h3⟩
  .simp only at hy
   split at hy
   .cases hy
   .rename_i s
    obtain ⟨d,h2⟩:=h.ls u y hy
    have hk:Keeps g (g.settled w (Wr cfg g t x) t) st.dead (fun u=> st.dead u || decide (u=t)) (fun _=> false) (fun _=> false):=by
     refine ⟨hm,fun c u hu ht=> ?_,fun u hu=> by grind,fun nm hn=> (by cases hn),fun u v hu hv=> ?_,fun _=> rfl⟩
     .simp only [QF,decide_eq_false_iff_not] at hu
      exact (Z33 ok hL (fun e=> by grind)).1 ht
     .simp only [QF,decide_eq_false_iff_not] at hu
      simp only [Gh.settled]
      grind
    exact ⟨d,h2.keep hk (by simp [d,s]) (fun c v hv=> (h.inv.im c v hv).1) (fun _ _=> rfl)⟩
  .simp only at d
   simp only [Gh.settled]
   split
   .try rfl
   .rename_i s
    rw [if_neg s] at d
    exact h.fresh u hu d h2
end frz
theorem Zmv(ok:CfgOk P cfg):∀ (ts:List Tok) {st:FSt U} {g:Gh},Rel cfg B st g a w->∃ g',Rel cfg B (st.frz cfg ts) g' a w
 | [],st,g,h=> ⟨g,h⟩
 | t ::ts,st,g,h=> by
  obtain ⟨s,d⟩:=ZyK ok h t
  exact Zmv ok ts d
theorem ZuG:∀ (ts:List Tok) (st:FSt U),(st.frz cfg ts).n=st.n
 | [],st=> rfl
 | t ::ts,st=> by
  show ((st.frz1 cfg t).frz cfg ts).n=st.n
  rw [ZuG ts]
  unfold FSt.frz1
  grind
theorem ZjJ{α:Type}(st:FSt U)(k:FSt U->α)(ts:List Tok):Z5p cfg st k ts=k (Z5p cfg st id ts):=by cases ts <;> rfl
theorem Zbh{Γ:Known U}{ops:Array Oper}{fz:Bool}{o:Oper}{r:List Oper}:Zfl cfg Γ ops fz (o ::r) st=match Z4S cfg Γ ops o (st.pre cfg Γ fz o) with
  | none=> none
  | some (ps,e)=> match Zfl cfg Γ ops fz r ((st.pre cfg Γ fz o).app o.dst e) with
   | none=> none
   | some (qs,st')=> some (ps++qs,st'):=by
 show Z5p cfg st _ _=_
 rw [ZjJ]
 try rfl
theorem ZBr{Γ:Known U}(ok:CfgOk P cfg)(h:Rel cfg B st g a w)(fz:Bool)(o:Oper):∃ g',Rel cfg B (st.pre cfg Γ fz o) g' a w:=by
 unfold FSt.pre
 generalize (bif fz then ZcD Γ o st else [])=ts
 cases ts with
 | nil=> exact ⟨g,h⟩
 | cons t r=> exact Zmv ok _ h
theorem ZGA{Γ:Known U}(fz:Bool)(o:Oper):(st.pre cfg Γ fz o).n=st.n:=by
 unfold FSt.pre
 generalize (bif fz then ZcD Γ o st else [])=ts
 cases ts with
 | nil=> rfl
 | cons t r=> exact ZuG _ st
theorem ZBs{Γ:Known U}(o:Oper):st.pre cfg Γ false o=st:=rfl
end Go.AM
namespace Go.AM
variable {U:Uni} {P:Program} {cfg:Cfg U} {B:Base} {st:FSt U} {g:Gh} {a:Act} {w:World}
theorem FSt.app_gd(st:FSt U){v:Value}{x:V U}{w':World}{g':Gh}(o:Out cfg B st g { val:=some x } v w' g'):Out cfg B st g { val:=some (.gd true x) } v w' g':=
 ⟨o.inv,o.fr,o.keep,o.mem,⟨fun _=> o.val,fun h=> by cases h⟩,o.ls,o.fresh⟩
theorem FSt.app_gdm(st:FSt U){v:Value}{x:V U}{m:List (Name × List (C U))}{w':World}{g':Gh}(o:Out cfg B st g { val:=some x,mem:=m } v w' g'):Out cfg B st g { val:=some (.gd true x),mem:=m } v w' g':=
 ⟨o.inv,o.fr,o.keep,o.mem,⟨fun _=> o.val,fun h=> by cases h⟩,o.ls,o.fresh⟩
theorem ZkA{v:V U}{b:Bool}(h:v.deX= .c (.bool b)):v= .c (.bool b):=by
 unfold V.deX at h
 grind
theorem Zmr{tyEq:DecidableEq U.Ty}{c c' x:C U}(h:Zkm tyEq true c c'=some x):x=c':=by
 unfold Zkm at h
 split at h
 .split at h
  .rename_i e;subst e;cases h;rfl
  .cases h
 .cases h;rfl
 .cases h;rfl
 .cases h;rfl
 .split at h
  .rename_i e;subst e;cases h;rfl
  .cases h
 .split at h
  .rename_i e _;subst e;cases h;rfl
  .cases h
 .split at h
  .rename_i e _;subst e;cases h;rfl
  .cases h
 .cases h
theorem Zkl{tyEq:DecidableEq U.Ty}{c c' x:C U}(h:Zkm tyEq false c c'=some x):x=c:=by
 unfold Zkm at h
 split at h
 .split at h
  .cases h;rfl
  .cases h
 .cases h;rfl
 .cases h;rfl
 .cases h;rfl
 .split at h
  .cases h;rfl
  .cases h
 .split at h
  .cases h;rfl
  .cases h
 .split at h
  .cases h;rfl
  .cases h
 .cases h
theorem ZeW{tyEq:DecidableEq U.Ty}:∀ {a b x:List (C U)},Zca tyEq true a b=some x->x=b
 | [],[],x,h=> by simp only [Zca,Option.some.injEq] at h;exact h.symm
 | c ::r,c' ::r',x,h=> by
  simp only [Zca] at h
  split at h
  .rename_i y z d s
   cases h
   rw [Zmr d,ZeW s]
  .cases h
theorem Zc9{tyEq:DecidableEq U.Ty}:∀ {a b x:List (C U)},Zca tyEq false a b=some x->x=a
 | [],[],x,h=> by simp only [Zca,Option.some.injEq] at h;exact h.symm
 | c ::r,c' ::r',x,h=> by
  simp only [Zca] at h
  split at h
  .rename_i y z d s
   cases h
   rw [Zkl d,Zc9 s]
  .cases h
theorem ZeV{tyEq:DecidableEq U.Ty}{m0:Name->Option (List (C U))}:∀ {m m':List (Name × List (C U))},Z3h tyEq true m0 m=some m'->m'=m
 | [],m',h=> by simp only [Z3h,Option.some.injEq] at h;exact h.symm
 | (nm,cs) ::r,m',h=> by
  simp only [Z3h] at h
  split at h
  .cases h
  .split at h
   .rename_i y z d s
    cases h
    rw [ZeW d,ZeV s]
   .cases h
theorem Zc7{tyEq:DecidableEq U.Ty}{m0:Name->Option (List (C U))}:∀ {m m':List (Name × List (C U))},Z3h tyEq false m0 m=some m'->∀ nm,ZK m0 m' nm=m0 nm
 | [],m',h,nm=> by simp only [Z3h,Option.some.injEq] at h;subst h;rfl
 | (n0,cs) ::r,m',h,nm=> by
  simp only [Z3h] at h
  split at h
  .cases h
  .rename_i aa d
   split at h
   .rename_i y z u s
    cases h
    simp only [ZK]
    split
    .rename_i e
     subst e
     rw [d,Zc9 u]
    .exact Zc7 s nm
   .cases h
theorem Rel.pureM (h:Rel cfg B st g a w) {v:Value} {x:V U} {m:List (Name × List (C U))} (hm:∀ nm,ZK st.mem m nm=st.mem nm)
  (hv:RelV cfg g st.dead (fun nm=> (st.mem nm).isSome) v x):Out cfg B st g { val:=some x,mem:=m } v w g:=by
 have s:Zt st ({ val:=some x,mem:=m }:Eff U)=st.dead:=by funext t;simp [Zt]
 have hl:Y6 st ({ val:=some x,mem:=m }:Eff U)=fun nm=> (st.mem nm).isSome:=by funext nm;simp only [Y6,hm]
 refine ⟨h.inv,h.fr,?_,?_,?_,by rw [s];exact fun t x hx=> h.ls t x hx,by rw [s];exact fun t h0 h1 u=> h.fresh t h0 h1 u⟩
 .rw [s,hl];exact .refl _ _ _
 .rw [s]
  intro nm cs d
  rw [hm] at d
  exact h.mem nm cs d
 grind
theorem All.map_imp{G:Bool}:∀ {ps:List Prop},All (ps.map fun p=> (G=true->p))->G=true->All ps
 | [],_,_=> trivial
 | _ ::_,h,hG=> ⟨h.1 hG,All.map_imp h.2 hG⟩
theorem Z1m{G:Option Bool}{c:Prop}{v:V U}{b:Bool}{u:V U}(h:All (Zcb G c v))(hv:v= .gd b u)(hG:∀ b,G=some b->b=true)(hc:c):b=true:=by
 subst hv
 cases G with
 | none=> exact h.1 hc
 | some b'=> exact h.1 (hG b' rfl) hc
theorem ZfN(h:Rel cfg B st g a w){ops:Array Oper}{o:Oper}{G:Option Bool}(hG:Z4D ops st o=some G):
  match G with
  | none=> Region.wanted o (yielded ops a.tmps)=true
  | some b=> Region.wanted o (yielded ops a.tmps)=b:=by
 unfold Z4D at hG
 split at hG
 .rename_i hg
  cases hG
  simp [Region.wanted,hg]
 .rename_i j u hg
  split at hG
  .rename_i t ht
   have ae:∀ b0:Bool,a.tmps.getD t undef= .bool b0->Region.wanted o (yielded ops a.tmps)=(if u then b0 else !b0):=by
    intro b0 e1
    have aa:t < a.tmps.size:=by
     rcases Xr t a.tmps.size with h1 | h1
     .exact h1
     .simp [Array.getD,Nat.not_lt.2 h1,undef] at e1
    have e2:a.tmps[t]?=some (.bool b0):=by
     rw [QN aa]
     simpa [Array.getD,aa] using e1
    have hy:yielded ops a.tmps j=some b0:=by simp [yielded,ht,e2]
    simp only [Region.wanted,hg,hy]
    grind
   split at hG
   .rename_i b0 d
    cases hG
    have s:=h.env t
    rw [d] at s
    exact ae b0 (SimC.bool_eq (h:=s.1))
   .rename_i g0 b0 d
    cases hG
    have s:=h.env t
    rw [d] at s
    cases g0 with
    | true=>
     show Region.wanted o (yielded ops a.tmps)=(true && _)
     rw [QK]
     exact ae b0 (SimC.bool_eq (h:=(s.1 rfl).1))
    | false=>
     have e1:=s.2 rfl
     have hy:yielded ops a.tmps j=none:=by
      simp only [yielded,ht,Qg]
      cases e2:a.tmps[t]? with
      | none=> rfl
      | some v=>
       have:a.tmps.getD t undef=v:=by
        obtain ⟨h1,h2⟩:=QL.1 e2
        simp [Array.getD,h1,h2]
       rw [this] at e1
       subst e1
       try rfl
     show Region.wanted o (yielded ops a.tmps)=(false && _)
     simp only [Region.wanted,hg,hy,Bool.false_and]
     try rfl
   .cases hG
  .cases hG
theorem Zce {Γ:Known U} (ok:CfgOk P cfg) (hΓ:∀ f s,Γ f=some s->Contract P cfg f s) (h:Rel cfg B st g a w) {ops:Array Oper} {o:Oper} {ps:List Prop} {e:Eff U}
  (he:Z4S cfg Γ ops o st=some (ps,e)) (hps:All ps) {K:Act->World->Prop} {Q:Exit->Act->World->Prop}
  (hK:∀ g' a' w',Rel cfg B (st.app o.dst e) g' a' w'->K a' w'):
  if Region.wanted o (yielded ops a.tmps) then o.wp P a w K Q else K (a.put o.dst undef) w:=by
 unfold Z4S at he
 split at he
 case isFalse=> cases he
 rename_i hd
 unfold ZAE at hd
 have aw:∀ k,o.dst=some k->k < st.n:=by
  intro k hk
  rw [hk] at hd
  exact Nat.blt_eq.mp hd
 have fin:∀ {e:Eff U},(∀ g' a' w',Rel cfg B (st.app o.dst e) g' a' w'->K a' w')->(Does P o a w fun v w'=> ∃ g',Out cfg B st g e v w' g')->o.wp P a w K Q:=by
  intro e hK hD
  refine Oper.wp_mono ?_ (Does.wp (Q:=Q) hD)
  rintro a' w' ⟨v,rfl,g',hO⟩
  exact hK g' _ _ (h.app hO aw)
 have a5:∀ {v:V U} {m:List (Name × List (C U))},(∀ nm,ZK st.mem m nm=st.mem nm)->(∀ g' a' w',Rel cfg B (st.app o.dst { val:=some (.gd false v),mem:=m }) g' a' w'->K a' w')->Region.wanted o (yielded ops a.tmps)=false->
   if Region.wanted o (yielded ops a.tmps) then o.wp P a w K Q else K (a.put o.dst undef) w:=by
  intro v m hm hK hw
  rw [if_neg (by rw [hw];simp)]
  have hO:Out cfg B st g { val:=some (.gd false v),mem:=m } undef w g:=h.pureM hm ⟨fun hb=> (by cases hb),fun _=> rfl⟩
  exact hK g _ _ (h.app hO aw)
 have am:∀ {v:V U},(∀ g' a' w',Rel cfg B (st.app o.dst { val:=some (.gd false v) }) g' a' w'->K a' w')->Region.wanted o (yielded ops a.tmps)=false->
   if Region.wanted o (yielded ops a.tmps) then o.wp P a w K Q else K (a.put o.dst undef) w:=by
  intro v hK hw
  rw [if_neg (by rw [hw];simp)]
  have hO:Out cfg B st g { val:=some (.gd false v) } undef w g:=h.pure ⟨fun hb=> (by cases hb),fun _=> rfl⟩
  exact hK g _ _ (h.app hO aw)
 split at he
 .rename_i c x y az
  split at he
  .rename_i G c0 x0 y0 hG hc hx hy
   have d:=ZfN h hG
   have get:∀ {z:Operand} {v:V U} {b:Bool},st.opnd z=some v->v.strip= .c (.bool b)->(∀ b' u,v= .gd b' u->b'=true)->a.eval z= .bool b:=by
    intro z v b hz hs hg
    have hr:RelV cfg g st.dead (fun nm=> (st.mem nm).isSome) (a.eval z) v:=by
     cases z with
     | tmp t=> simp only [FSt.opnd,Option.some.injEq] at hz;subst hz;exact h.env t
     | const c=> exact Z3b hz
     | func f=> simp only [FSt.opnd,Option.some.injEq] at hz;subst hz;rfl
     | global g=> trivial
    cases v with
    | gd b' u=>
     have hs:=ZkA (v:=u) hs
     subst hs
     exact SimC.bool_eq (hr.1 (hg _ _ rfl)).1
    | c u=> have hs:=ZkA (v:= .c u) hs;cases hs;exact SimC.bool_eq hr.1
    | _=> trivial
   have one:∀ {b:Bool},(∀ g' a' w',Rel cfg B (st.app o.dst { val:=some (gV G (.c (.bool b))) }) g' a' w'->K a' w')->((∀ q,G=some q->q=true)->Does P o a w fun v w'=> ∃ g',Out cfg B st g { val:=some (.c (.bool b)) } v w' g')->
     if Region.wanted o (yielded ops a.tmps) then o.wp P a w K Q else K (a.put o.dst undef) w:=by
    intro b hK a1
    cases G with
    | none=>
     rw [if_pos d]
     exact fin hK (a1 (fun _ hh=> by cases hh))
    | some Gb=>
     cases Gb with
     | true=>
      rw [if_pos d]
      refine fin (e:={ val:=some (.gd true (.c (.bool b))) }) hK ?_
      have:=a1 (fun _ hh=> by cases hh;rfl)
      rcases this with ⟨u,w',h1,g',h2⟩ | ⟨w',h1,g',h2⟩ | ⟨f,args,w',h1,h2⟩
      .exact .inl ⟨u,w',h1,g',FSt.app_gd st h2⟩
      .exact .inr (.inl ⟨w',h1,g',FSt.app_gd st h2⟩)
      .exact .inr (.inr ⟨f,args,w',h1,Calls.mono h2 fun e a9 ⟨u,he,g',h3⟩=> ⟨u,he,g',FSt.app_gd st h3⟩⟩)
     | false=> exact am hK d
   split at he
   .rename_i cv av bv aq a4 a2
    simp only [oP] at he
    obtain ⟨rfl,rfl⟩:=he
    obtain ⟨ar,bd⟩:=All.append hps
    obtain ⟨af,ai⟩:=All.append bd
    refine one hK fun aj=> ?_
    have ec:=get hc aq (fun b' u hh=> Z1m ar hh aj trivial)
    refine Jl (v:= .bool (bif cv then av else bv)) h ?_ ⟨.bool _,trivial⟩
    cases cv with
    | true=>
     have ex:=get hx a4 (fun b' u hh=> Z1m af hh aj rfl)
     simp [execOp,az,ec,asBool,ex]
    | false=>
     have ey:=get hy a2 (fun b' u hh=> Z1m ai hh aj rfl)
     simp [execOp,az,ec,asBool,ey]
   .rename_i av aq a4 a8
    simp only [oP] at he
    obtain ⟨rfl,rfl⟩:=he
    obtain ⟨ar,af⟩:=All.append hps
    refine one hK fun aj=> ?_
    have ec:=get hc aq (fun b' u hh=> Z1m ar hh aj trivial)
    have ex:=get hx a4 (fun b' u hh=> Z1m af hh aj trivial)
    exact Jl (v:= .bool av) h (by simp [execOp,az,ec,asBool,ex]) ⟨.bool _,trivial⟩
   .rename_i bv aq a2 a8
    simp only [oP] at he
    obtain ⟨rfl,rfl⟩:=he
    obtain ⟨ar,af⟩:=All.append hps
    refine one hK fun aj=> ?_
    have ec:=get hc aq (fun b' u hh=> Z1m ar hh aj trivial)
    have ey:=get hy a2 (fun b' u hh=> Z1m af hh aj trivial)
    exact Jl (v:= .bool bv) h (by simp [execOp,az,ec,asBool,ey]) ⟨.bool _,trivial⟩
   .cases he
  .cases he
 .split at he
  .cases he
  rename_i G hG
  have d:=ZfN h hG
  split at he
  .split at he
   .simp only [oP] at he
    obtain ⟨rfl,rfl⟩:=he
    exact am hK d
   .cases he
  rename_i bu e' ao
  split at he
  .simp only [oP] at he
   obtain ⟨rfl,rfl⟩:=he
   obtain ⟨af,ai⟩:=All.append hps
   rw [if_pos d]
   exact fin hK (Z6T ok hΓ h (fun x hx v hv=> Z8T h none af (fun b hb=> by cases hb) x hx v hv) ao ai)
  .rename_i Gb
   split at he
   .rename_i v
    simp only [oP] at he
    obtain ⟨rfl,rfl⟩:=he
    obtain ⟨af,ai⟩:=All.append hps
    cases Gb with
    | true=>
     rw [if_pos d]
     exact fin (e:={ val:=some (.gd true v) }) hK (by
      have:=Z6T ok hΓ h (fun x hx v hv=> Z8T h (some true) af (fun b hb=> by cases hb;rfl) x hx v hv) ao (All.map_imp ai rfl)
      rcases this with ⟨u,w',h1,g',h2⟩ | ⟨w',h1,g',h2⟩ | ⟨f,args,w',h1,h2⟩
      .exact .inl ⟨u,w',h1,g',FSt.app_gd st h2⟩
      .exact .inr (.inl ⟨w',h1,g',FSt.app_gd st h2⟩)
      .exact .inr (.inr ⟨f,args,w',h1,Calls.mono h2 fun e a9 ⟨u,he,g',h3⟩=> ⟨u,he,g',FSt.app_gd st h3⟩⟩))
    | false=> exact am hK d
   .rename_i v m a8
    split at he
    .rename_i m' bn hj
     simp only [oP] at he
     obtain ⟨rfl,rfl⟩:=he
     obtain ⟨af,ai⟩:=All.append hps
     cases Gb with
     | true=>
      rw [if_pos d]
      have em:=ZeV hj
      subst em
      exact fin (e:={ val:=some (.gd true v),mem:=m' }) hK (by
       have:=Z6T ok hΓ h (fun x hx v hv=> Z8T h (some true) af (fun b hb=> by cases hb;rfl) x hx v hv) ao (All.map_imp ai rfl)
       rcases this with ⟨u,w',h1,g',h2⟩ | ⟨w',h1,g',h2⟩ | ⟨f,args,w',h1,h2⟩
       .exact .inl ⟨u,w',h1,g',FSt.app_gdm st h2⟩
       .exact .inr (.inl ⟨w',h1,g',FSt.app_gdm st h2⟩)
       .exact .inr (.inr ⟨f,args,w',h1,Calls.mono h2 fun e a9 ⟨u,he,g',h3⟩=> ⟨u,he,g',FSt.app_gdm st h3⟩⟩))
     | false=> exact a5 (Zc7 hj) hK d
    .cases he
   .cases Gb with
    | true=>
     simp only [oP] at he
     obtain ⟨rfl,rfl⟩:=he
     obtain ⟨af,ai⟩:=All.append hps
     rw [if_pos d]
     exact fin hK (Z6T ok hΓ h (fun x hx v hv=> Z8T h (some true) af (fun b hb=> by cases hb;rfl) x hx v hv) ao ai)
    | false=>
     simp only [oP] at he
     obtain ⟨rfl,rfl⟩:=he
     exact am hK d
theorem Zfk{Γ:Known U}(ok:CfgOk P cfg)(hΓ:∀ f s,Γ f=some s->Contract P cfg f s){ops:Array Oper}{fz:Bool}{Q:Exit->Act->World->Prop}:∀ (l:List Oper) (st st':FSt U) (g:Gh) (a:Act) (w:World) (ps:List Prop),
  Rel cfg B st g a w->Zfl cfg Γ ops fz l st=some (ps,st')->All ps->(∀ g' d u,Rel cfg B st' g' d u->Q .normal d u)->wpList P ops Q l a w
 | [],st,st',g,a,w,ps,h,he,hps,hQ=> by
  simp only [Zfl,oP] at he
  obtain ⟨rfl,rfl⟩:=he
  exact hQ g a w h
 | o ::l,st,st',g,a,w,ps,h,he,hps,hQ=> by
  rw [Zbh] at he
  split at he
  .cases he
  .rename_i aj e1 h1
   split at he
   .cases he
   .rename_i qs af h2
    simp only [oP] at he
    obtain ⟨rfl,rfl⟩:=he
    obtain ⟨aa,ab⟩:=All.append hps
    obtain ⟨g0,h0⟩:=ZBr ok h fz o
    refine wpList_step fun K hK=> Zce ok hΓ h0 h1 aa fun g' d u h'=> hK d u ?_
    exact Zfk ok hΓ l _ _ g' d u qs h' h2 ab hQ
def V.shut(nm:Name)(T:U.Ty)(x:U.El T):V U->V U
 | .ptr n off=> if n=nm then (if off=0 then .c (.po T (some x)) else .junk) else .ptr n off
 | .ap n off k len i=> if n=nm then .junk else .ap n off k len i
 | .clo f nms=> if nm∈nms then .junk else .clo f nms
 | .gd b v=> .gd b (v.shut nm T x)
 | v=> v
def FSt.shut1(cfg:Cfg U)(st:FSt U)(nm:Name)(T:U.Ty):FSt U:=
 match st.mem nm with
 | none=> st
 | some cs=> match cfg.dec T cs with
  | none=> st
  | some x=> { st with env:=fun k=> (st.env k).shut nm T x,mem:=fun n=> if n=nm then none else st.mem n }
def FSt.shutK(cfg:Cfg U)(st:FSt U)(k:Nat)(T:U.Ty):FSt U:=
 match st.env k with
 | .ptr (.loc s) 0=> st.shut1 cfg (.loc s) T
 | _=> st
def FSt.shuts(cfg:Cfg U)(st:FSt U):List (Nat × U.Ty)->FSt U
 | []=> st
 | x ::r=> (st.shutK cfg x.1 x.2).shuts cfg r
def Z2F{α:Type}(cfg:Cfg U)(st:FSt U)(k:FSt U->α):List (Nat × U.Ty)->α
 | []=> k st
 | x ::r=> k (st.shuts cfg (x ::r))
def Ob(g:Gh)(nm:Name)(n:Nat)(c:Addr):Prop:=∃ j,j < n/\c=(g.ad nm).add j
open Classical in
noncomputable def Gh.shutG(g:Gh)(w:World)(R:Addr->Prop):Gh:=
 {m:=fun c=> if R c then w.cell? c else g.m c
  tag:=fun c=> if R c then none else g.tag c
  ad:=g.ad
  bs:=g.bs }
section shut
variable {nm:Name} {cs:List (C U)}
theorem Zlt(h:Rel cfg B st g a w)(hcs:st.mem nm=some cs){c:Addr}(hc:Ob g nm cs.length c):g.tag c=some (.obj nm)/\∃ v,w.cell? c=some v:=by
 obtain ⟨j,d,rfl⟩:=hc
 obtain ⟨v,u,s,_⟩:=h.mem nm cs hcs j _ (Q2 d)
 grind
theorem Zh9(h:Rel cfg B st g a w)(hcs:st.mem nm=some cs):∀ c v,g.m c=some v->(g.shutG w (Ob g nm cs.length)).m c=some v:=by
 intro c v d
 simp only [Gh.shutG]
 rw [if_neg]
 .exact d
 .intro hc
  have:=(Zlt h hcs hc).1
  rw [(h.inv.im c v d).2] at this
  cases this
theorem ZdD(h:Rel cfg B st g a w)(hcs:st.mem nm=some cs){c:Addr}{t:Tag}(hne:t≠.obj nm):g.tag c=some t↔(g.shutG w (Ob g nm cs.length)).tag c=some t:=by
 simp only [Gh.shutG]
 split
 .rename_i hc
  rw [(Zlt h hcs hc).1]
  grind
 grind
theorem Z1a(h:Rel cfg B st g a w)(hcs:st.mem nm=some cs):Keeps g (g.shutG w (Ob g nm cs.length)) st.dead st.dead (fun _=> false) (fun _=> false):=
 ⟨Zh9 h hcs,fun _ _ _ d=> (ZdD h hcs (by simp)).1 d,fun _ hu=> hu,fun _ u=> (by cases u),fun _ _ _ s=> s,fun _=> rfl⟩
theorem ZA0(ok:CfgOk P cfg)(h:Rel cfg B st g a w)(hcs:st.mem nm=some cs){T:U.Ty}{x:U.El T}(hx:cfg.dec T cs=some x){v:Value}:∀ {y:V U},RelV cfg g st.dead (fun n=> (st.mem n).isSome) v y->
  RelV cfg (g.shutG w (Ob g nm cs.length)) st.dead (fun n=> (if n=nm then none else st.mem n).isSome) v (y.shut nm T x)
 | .c y,hr=> RelC.keep (Z1a h hcs) (c:=y) hr
 | .agg cs,hr=> by obtain ⟨vs,h1,s⟩:=hr;exact ⟨vs,h1,s.keep (Z1a h hcs)⟩
 | .tup ws,hr=> by obtain ⟨vs,h1,s,h3⟩:=hr;exact ⟨vs,h1,s,fun j u w hu hw=> (h3 j u w hu hw).keep (Z1a h hcs)⟩
 | .ptr n off,hr=> by
  obtain ⟨h1,s⟩:=hr
  simp only [V.shut]
  split
  .rename_i e
   subst e
   split
   .rename_i e
    subst e
    obtain ⟨d1,d2⟩:=ok.dec_ok T cs x hx
    have e0:(g.ad n).add 0=g.ad n:=by simp [Addr.add]
    rw [s,e0]
    have ab:∀ j c,(cfg.enc T x)[j]?=some c->∃ u,w.cell? ((g.ad n).add j)=some u/\SimC cfg (g.shutG w (Ob g n cs.length)).m u c/\(g.shutG w (Ob g n cs.length)).m ((g.ad n).add j)=some u:=by
     intro j c hc
     have hj:j < cs.length:=by rw [d1];exact (Q4.1 hc).1
     obtain ⟨u,k1,k2,k3⟩:=h.mem n cs hcs j _ (Q2 hj)
     refine ⟨u,k1,(k3.1.mono (Zh9 h hcs)).wk (d2 j _ _ (Q2 hj) hc),?_⟩
     simp only [Gh.shutG]
     rw [if_pos ⟨j,hj,rfl⟩]
     exact k1
    refine ⟨.po T x _ (fun j=> (w.cell? ((g.ad n).add j)).getD undef) (fun j c hc=> ?_) (fun j c hc=> ?_),trivial⟩
    .obtain ⟨u,k1,_,k3⟩:=ab j c hc
     rw [k1];exact k3
    .obtain ⟨u,k1,k2,_⟩:=ab j c hc
     rw [k1];exact k2
   .exact trivial
  .rename_i d
   exact ⟨by show ((if n=nm then none else st.mem n).isSome || n.isX)=true;rw [if_neg d];exact h1,s⟩
 | .ap n off k len i,hr=> by
  simp only [V.shut]
  split
  .exact trivial
  .rename_i d
   exact ⟨by show ((if n=nm then none else st.mem n).isSome || n.isX)=true;rw [if_neg d];exact hr.1,hr.2⟩
 | .ep cs,hr=> by
  obtain ⟨b,h1,s⟩:=hr
  exact ⟨b,h1,fun j c hc=> let ⟨u,hu,hc⟩:=s j c hc;⟨u,Zh9 h hcs _ _ hu,hc.keep (Z1a h hcs)⟩⟩
 | .mp t n off,hr=> hr
 | .vw t n,hr=> hr
 | .fn _,hr=> hr
 | .clo f nms,hr=> by
  simp only [V.shut]
  split
  .exact trivial
  .rename_i d
   refine ⟨fun n hn=> ?_,hr.2⟩
   show ((if n=nm then none else st.mem n).isSome || n.isX)=true
   rw [if_neg (fun e=> d (by rw [<-e];exact hn))]
   exact hr.1 n hn
 | .gd b y,hr=> ⟨fun hb=> ZA0 ok h hcs hx (hr.1 hb),hr.2⟩
 | .nb _ _,hr=> hr
 | .junk,_=> trivial
theorem ZrW(ok:CfgOk P cfg)(h:Rel cfg B st g a w)(nm:Name)(T:U.Ty):∃ g',Rel cfg B (st.shut1 cfg nm T) g' a w:=by
 unfold FSt.shut1
 cases hcs:st.mem nm with
 | none=> grind
 | some cs=>
  simp only
  cases hx:cfg.dec T cs with
  | none=> grind
  | some x=>
   have hm:=Zh9 h hcs
   refine ⟨g.shutG w (Ob g nm cs.length),⟨fun c v s=> ?_,fun c t' ht=> ?_⟩,?_,fun k=> ZA0 ok h hcs hx (h.env k),fun n ds hn j c hc=> ?_,h.sz,h.df,fun u y hy=> ?_,fun u hu d h2=> h.fresh u hu d h2⟩
   .by_cases hc:Ob g nm cs.length c
    .simp only [Gh.shutG] at s ⊢
     grind
    .simp only [Gh.shutG] at s ⊢
     rw [if_neg hc] at s ⊢
     exact h.inv.im c v s
   .simp only [Gh.shutG] at ht
    split at ht
    .cases ht
    .exact h.inv.it c t' ht
   .refine h.fr.step h.inv (Evo.refl w (fun _=> False)) (fun c hc=> hc.elim) hm (fun c t'=> ZdD h hcs (by simp)) ?_ (fun _=> rfl)
    intro b _ ab o sp
    simp only [Gh.shutG]
    split
    .rename_i hc
     obtain ⟨t',h3⟩:=ab _ _ _ (Zlt h hcs hc).1
     cases h3
    .try rfl
   .simp only at hn
    split at hn
    .cases hn
    .rename_i ak
     obtain ⟨v,d,h2,h3⟩:=h.mem n ds hn j c hc
     exact ⟨v,d,(ZdD h hcs (by grind)).1 h2,h3.keep (Z1a h hcs)⟩
   .obtain ⟨d,h2⟩:=h.ls u y hy
    exact ⟨d,h2.keep (Z1a h hcs) d (fun c v s=> (h.inv.im c v s).1) (fun _ _=> rfl)⟩
end shut
theorem Zxc(nm:Name)(T:U.Ty):(st.shut1 cfg nm T).n=st.n:=by
 unfold FSt.shut1
 grind
theorem ZiQ(ok:CfgOk P cfg):∀ (l:List (Nat × U.Ty)) {st:FSt U} {g:Gh},Rel cfg B st g a w->∃ g',Rel cfg B (st.shuts cfg l) g' a w
 | [],st,g,h=> ⟨g,h⟩
 | x ::r,st,g,h=> by
  have:∃ d,Rel cfg B (st.shutK cfg x.1 x.2) d a w:=by
   unfold FSt.shutK
   split
   .exact ZrW ok h _ _
   .grind
  obtain ⟨d,s⟩:=this
  exact ZiQ ok r s
theorem Znh:∀ (l:List (Nat × U.Ty)) (st:FSt U),(st.shuts cfg l).n=st.n
 | [],st=> rfl
 | x ::r,st=> by
  show ((st.shutK cfg x.1 x.2).shuts cfg r).n=st.n
  rw [Znh r]
  unfold FSt.shutK
  split
  .exact Zxc _ _
  .try rfl
theorem Z6g{α:Type}(st:FSt U)(k:FSt U->α)(l:List (Nat × U.Ty)):Z2F cfg st k l=k (Z2F cfg st id l):=by cases l <;> rfl
theorem Zqb(ok:CfgOk P cfg)(h:Rel cfg B st g a w)(l:List (Nat × U.Ty)):∃ g',Rel cfg B (Z2F cfg st id l) g' a w:=by
 cases l with
 | nil=> exact ⟨g,h⟩
 | cons x r=> exact ZiQ ok (x ::r) h
theorem Zt6(l:List (Nat × U.Ty)):(Z2F cfg st id l).n=st.n:=by
 cases l with
 | nil=> rfl
 | cons x r=> exact Znh (x ::r) st
end Go.AM
namespace Go.AM
variable {U:Uni} {P:Program} {cfg:Cfg U} {B:Base} {st:FSt U} {g:Gh} {a:Act} {w:World}
structure LSt (U:Uni) where
 env:List (Nat × V U)
 mem:List (Name × List (C U))
 ls:List (Tok × LC U)
def ZfB:List (Nat × V U)->Nat->V U
 | [],_=> .junk
 | (a,v) ::r,k=> bif Nat.beq a k then v else ZfB r k
def Z3Z:List (Name × List (C U))->Name->Option (List (C U))
 | [],_=> none
 | (a,cs) ::r,nm=> if a=nm then some cs else Z3Z r nm
def LSt.toF(s:LSt U)(n:Nat):FSt U:={ n:=n,env:=ZfB s.env,mem:=Z3Z s.mem,dead:=ZX,ls:=ZE (fun _=> none) s.ls,mu:=false,vw:=false }
def ZGL(t:Nat)(o:Oper):Bool:=
 match o.op,o.dst with
 | .call c,some d=> match c.callee with
  | .builtin .append=> Nat.beq d t
  | _=> false
 | _,_=> false
def ZAx(ops:List Oper)(o:Oper):Bool:=
 match o.op with
 | .indexAddr _ (.tmp t) _=> ops.any (ZGL t)
 | _=> false
def ZGK(o:Oper):Bool:=
 match o.op with
 | .call c=> match c.callee with
  | .builtin .clear=> true
  | .builtin .copy=> true
  | _=> false
 | _=> false
def LSt.toR(s:LSt U)(n:Nat)(mk:Bool)(ops:Array Oper):FSt U:={ n:=n,env:=ZfB s.env,mem:=Z3Z s.mem,dead:=ZX,ls:=ZE (fun _=> none) s.ls,mu:=mk || ops.toList.any (ZAx ops.toList),vw:=ops.toList.any ZGK }
theorem Zn3{s:LSt U}{n:Nat}{mk:Bool}{ops:Array Oper}(h:Rel cfg B (s.toF n) g a w):Rel cfg B (s.toR n mk ops) g a w:=
 ⟨h.inv,h.fr,h.env,h.mem,h.sz,h.df,h.ls,h.fresh⟩
inductive Sk (U:Uni) where
 | any | own (T:U.Ty) | unk (T:U.Ty) | wr (T:U.Ty) | pt (T:U.Ty)
def sk0:List (Sk U)->Sk U
 | []=> .any
 | k ::_=> k
def Z7e(mine:Tok->Bool)(nm:Tok)(k:Sk U)(c:C U)(seen:List (Tok × Tok)):C U × List (Tok × Tok):=
 match k,c with
 | .own T,.nils=> (.slice T [] (.own nm),seen)
 | .own _,.slice T l .full=> (.slice T l (.own nm),seen)
 | .unk T,.nils=> (.slice T [] .unk,seen)
 | .unk _,.slice T l _=> (.slice T l .unk,seen)
 | .pt T,.nilp=> (.po T none,seen)
 | _,.xp k=> (.xp k,seen)
 | _,c=> Z0b mine nm c seen
def Z16(mine:Tok->Bool)(nm:Nat->Tok):Nat->List (Sk U)->List (C U)->List (Tok × Tok)->List (C U) × List (Tok × Tok)
 | _,_,[],seen=> ([],seen)
 | j,ks,c ::r,seen=> ((Z7e mine (nm j) (sk0 ks) c seen).1 ::(Z16 mine nm (j+1) ks.tail r (Z7e mine (nm j) (sk0 ks) c seen).2).1,(Z16 mine nm (j+1) ks.tail r (Z7e mine (nm j) (sk0 ks) c seen).2).2)
def Z8X(mine:Tok->Bool)(nm:Nat->Tok)(keep:Name->Bool)(ks:List (Sk U))(v:V U)(seen:List (Tok × Tok)):V U × List (Tok × Tok):=
 match v with
 | .c x=> (.c (Z7e mine (nm 0) (sk0 ks) x seen).1,(Z7e mine (nm 0) (sk0 ks) x seen).2)
 | .agg cs=> (.agg (Z16 mine nm 0 ks cs seen).1,(Z16 mine nm 0 ks cs seen).2)
 | .ptr nm off=> (bif keep nm then .ptr nm off else .junk,seen)
 | .ep cs=> (.ep (YU (fun _=> false) nm 0 cs seen).1,(YU (fun _=> false) nm 0 cs seen).2)
 | .fn f=> (.fn f,seen)
 | .clo f nms=> (bif nms.all keep then .clo f nms else .junk,seen)
 | .nb p q=> (.nb p q,seen)
 | _=> (.junk,seen)
def Z0R(st:FSt U)(keep:Name->Bool):List (Nat × List (Sk U))->List (Tok × Tok)->List (Nat × V U) × List (Tok × Tok)
 | [],seen=> ([],seen)
 | (k,ks) ::r,seen=> ((k,(Z8X (fun t=> !st.dead t) (.e k) keep ks (st.env k) seen).1) ::(Z0R st keep r (Z8X (fun t=> !st.dead t) (.e k) keep ks (st.env k) seen).2).1,
   (Z0R st keep r (Z8X (fun t=> !st.dead t) (.e k) keep ks (st.env k) seen).2).2)
def ZfQ:Name->Nat->Tok
 | .loc s,j=> .l s j
 | .x k,j=> .x k j
def JF(st:FSt U):List (Name × List (Sk U))->List (Tok × Tok)->List (Name × List (C U)) × List (Tok × Tok)
 | [],seen=> ([],seen)
 | (nm,ks) ::r,seen=> match st.mem nm with
  | some cs=> ((nm,(Z16 (fun t=> !st.dead t) (ZfQ nm) 0 ks cs seen).1) ::(JF st r (Z16 (fun t=> !st.dead t) (ZfQ nm) 0 ks cs seen).2).1,(JF st r (Z16 (fun t=> !st.dead t) (ZfQ nm) 0 ks cs seen).2).2)
  | none=> JF st r seen
def Z0k(l:List (Name × List (Sk U)))(nm:Name):Bool:=
 match l with
 | []=> false
 | (a,_) ::r=> if a=nm then true else Z0k r nm
def Zp2(nm:Nat->Tok):Nat->List (Sk U)->List Tok
 | _,[]=> []
 | j,.wr _ ::r=> nm j ::Zp2 nm (j+1) r
 | j,_ ::r=> Zp2 nm (j+1) r
def Zp1(lv:List (Nat × List (Sk U)))(lm:List (Name × List (Sk U))):List Tok:=
 (lv.flatMap fun x=> Zp2 (.e x.1) 0 x.2)++lm.flatMap fun x=> Zp2 (ZfQ x.1) 0 x.2
def ZBC(lv:List (Nat × List (Sk U)))(lm:List (Name × List (Sk U)))(st:FSt U):LSt U:=
 {env:=(Z0R st (fun nm=> Z0k lm nm && (st.mem nm).isSome) lv []).1
  mem:=(JF st lm (Z0R st (fun nm=> Z0k lm nm && (st.mem nm).isSome) lv []).2).1
  ls:=match Zp1 lv lm with
   | []=> []
   | c=> Z0e st.ls (JF st lm (Z0R st (fun nm=> Z0k lm nm && (st.mem nm).isSome) lv []).2).2 c }
def Ztc(k:Sk U)(c:C U):List Tok:=
 match k,c with
 | .wr _,_=> []
 | _,.mref t=> [t]
 | _,_=> []
def Ztd:List (Sk U)->List (C U)->List Tok
 | _,[]=> []
 | ks,c ::r=> Ztc (sk0 ks) c++Ztd ks.tail r
def ZGB(ks:List (Sk U)):V U->List Tok
 | .c x=> Ztc (sk0 ks) x
 | .agg cs=> Ztd ks cs
 | _=> []
def Z1A(lv:List (Nat × List (Sk U)))(lm:List (Name × List (Sk U)))(st:FSt U):List Tok:=
 (lv.flatMap fun x=> ZGB x.2 (st.env x.1))++lm.flatMap fun x=> match st.mem x.1 with
  | some cs=> Ztd x.2 cs
  | none=> []
def FSt.prom1(st:FSt U)(k:Nat)(T:U.Ty):FSt U:=
 match st.env k with
 | .c .nils=> if (st.ls (.z (3*k) 0)).isNone && !st.dead (.z (3*k) 0) then
   {st with env:=fun i=> bif Nat.beq i k then .c (.mref (.z (3*k) 0)) else st.env i,ls:=fun t=> if t= .z (3*k) 0 then some ⟨T,[],0⟩ else st.ls t }
  else st
 | _=> st
def ZbO:Name->Nat
 | .loc s=> 3*s+1
 | .x k=> 3*k+2
def FSt.promM(st:FSt U)(nm:Name)(j:Nat)(T:U.Ty):FSt U:=
 match st.mem nm with
 | some cs=> match cs[j]? with
  | some .nils=> if (st.ls (.z (ZbO nm) j)).isNone && !st.dead (.z (ZbO nm) j) then
    {st with mem:=fun n=> if n=nm then some (cs.set j (.mref (.z (ZbO nm) j))) else st.mem n,ls:=fun t=> if t= .z (ZbO nm) j then some ⟨T,[],0⟩ else st.ls t }
   else st
  | _=> st
 | none=> st
def FSt.prom(st:FSt U):List ((Nat ⊕ (Name × Nat)) × U.Ty)->FSt U
 | []=> st
 | (.inl k,T) ::r=> (st.prom1 k T).prom r
 | (.inr x,T) ::r=> (st.promM x.1 x.2 T).prom r
def ZB5(nm:Name):Nat->List (Sk U)->List ((Nat ⊕ (Name × Nat)) × U.Ty)
 | _,[]=> []
 | j,.wr T ::r=> (.inr (nm,j),T) ::ZB5 nm (j+1) r
 | j,_ ::r=> ZB5 nm (j+1) r
def wrs(lm:List (Name × List (Sk U))):List (Nat × List (Sk U))->List ((Nat ⊕ (Name × Nat)) × U.Ty)
 | []=> lm.flatMap fun x=> ZB5 x.1 0 x.2
 | (k,[.wr T]) ::r=> (.inl k,T) ::wrs lm r
 | _ ::r=> wrs lm r
def pts:List (Nat × List (Sk U))->List (Nat × U.Ty)
 | []=> []
 | (k,[.pt T]) ::r=> (k,T) ::pts r
 | _ ::r=> pts r
def ZBz{α:Type}(st:FSt U)(k:FSt U->α):List ((Nat ⊕ (Name × Nat)) × U.Ty)->α
 | []=> k st
 | x ::r=> k (st.prom (x ::r))
def Z57{α:Type}(cfg:Cfg U)(lv:List (Nat × List (Sk U)))(lm:List (Name × List (Sk U)))(st:FSt U)(k:FSt U->α):α:=
 ZBz st (fun st=> Z2F cfg st (fun st=> Z5p cfg st k (Z1A lv lm st)) (pts lv)) (wrs lm lv)
theorem Z5t:∀ {l:List Name} {nm:Name},nm∈l->J6 l nm=true
 | a ::r,nm,h=> by
  simp only [J6]
  split
  .try rfl
  .rename_i e
   rcases Q7.1 h with rfl | h
   .grind
   .exact Z5t h
structure RenA (ok:Tok->Bool) (g:Gh) (s:List (Tok × Tok)) (g2:Gh):Prop extends Ren ok g s g2 where
 adx:∀ k,g2.ad (.x k)=g.ad (.x k)
theorem Zgp{okT mine:Tok->Bool}{nm:Tok}{k:Sk U}{c:C U}{seen:List (Tok × Tok)}(hmine:∀ t,mine t=true->st.dead t=false)(hok:okT nm=true):
  Ext seen (Z7e mine nm k c seen).2/\∀ s,Ext (Z7e mine nm k c seen).2 s->∀ h,RenA okT g s h->∀ v,RelC cfg g st.dead v c->RelC cfg h ZX v (Z7e mine nm k c seen).1:=by
 unfold Z7e
 split
 .rename_i T
  refine ⟨.refl _,fun s _ h u v d=> ?_⟩
  have h1:=d.1
  cases h1
  exact ⟨.snil T _,fun _ a len ae hv=> by simp at hv⟩
 .rename_i T0 T l
  refine ⟨.refl _,fun s _ h u v d=> ⟨by rw [u.m];exact d.1.tl _,fun _ b len ae hv j h1 h2=> ?_⟩⟩
  have:=d.2 _ _ _ hv
  grind
 .rename_i T
  refine ⟨.refl _,fun s _ h u v d=> ?_⟩
  have h1:=d.1
  cases h1
  exact ⟨.snil T _,trivial⟩
 .exact ⟨.refl _,fun s _ h u v d=> ⟨by rw [u.m];exact d.1.tl _,trivial⟩⟩
 .rename_i T
  refine ⟨.refl _,fun s _ h u v d=> ?_⟩
  have h1:=d.1
  cases h1
  exact ⟨.pnil T,trivial⟩
 .refine ⟨.refl _,fun s _ h u v d=> ⟨.xp _ _ d.1.one,?_⟩⟩
  have h2:v= .pointer (some (g.ad (.x _))):=d.2
  show v= .pointer (some (h.ad (.x _)))
  rw [u.adx];exact h2
 .obtain ⟨h1,h2⟩:=Z7N (cfg:=cfg) (st:=st) (g:=g) (nm:=nm) (c:=c) (seen:=seen) hmine hok
  exact ⟨h1,fun s hs h u v d=> h2 s hs h u.toRen v d⟩
theorem Z6m{okT mine:Tok->Bool}{nm:Nat->Tok}(hmine:∀ t,mine t=true->st.dead t=false)(hok:∀ j,okT (nm j)=true):∀ (cs:List (C U)) (j:Nat) (ks:List (Sk U)) (seen:List (Tok × Tok)),
  Ext seen (Z16 mine nm j ks cs seen).2/\(Z16 mine nm j ks cs seen).1.length=cs.length/\
   ∀ h,Ext (Z16 mine nm j ks cs seen).2 h->∀ s,RenA okT g h s->∀ (i:Nat) v c u,cs[i]?=some c->(Z16 mine nm j ks cs seen).1[i]?=some u->RelC cfg g st.dead v c->RelC cfg s ZX v u
 | [],j,ks,seen=> ⟨.refl _,rfl,fun h _ s _ i v c u hc=> by simp at hc⟩
 | c ::cs,j,ks,seen=> by
  obtain ⟨h1,h2⟩:=Zgp (cfg:=cfg) (g:=g) (okT:=okT) (nm:=nm j) (k:=sk0 ks) (c:=c) (seen:=seen) hmine (hok j)
  obtain ⟨h3,h4,h5⟩:=Z6m (okT:=okT) (mine:=mine) (nm:=nm) hmine hok cs (j+1) ks.tail (Z7e mine (nm j) (sk0 ks) c seen).2
  refine ⟨h1.trans h3,by simp [Z16,h4],fun h hs s hg i v c0 u hc d hr=> ?_⟩
  cases i with
  | zero=>
   simp [Z16] at hc d
   subst hc d
   exact h2 h (h3.trans hs) s hg v hr
  | succ i=>
   simp [Z16] at hc d
   exact h5 h hs s hg i v c0 u hc d hr
def Gh.anew(g:Gh)(s:List (Tok × Tok))(keep:Name->Bool)(okT:Tok->Bool):Gh:=
 {m:=g.m
  tag:=fun c=> match g.tag c with
   | some (.tok t)=> (YI s t).map .tok
   | some (.obj nm)=> bif keep nm then some (.obj nm) else none
   | some (.outer t)=> some (.outer t)
   | none=> none
  ad:=g.ad
  bs:=fun t=> bif okT t then ZgN g s t else none }
theorem Gh.anew_ren(s:List (Tok × Tok))(keep:Name->Bool)(okT:Tok->Bool):RenA okT g s (g.anew s keep okT):=
 ⟨⟨rfl,fun c t u h d=> by simp only [Gh.anew,h,d,Qf],fun t u v h d h3=> by simp only [Gh.anew,h,cond_true,ZgN,d];exact h3⟩,fun _=> rfl⟩
theorem Zta{mine:Tok->Bool}{nm:Nat->Tok}{keep live live2:Name->Bool}(hmine:∀ t,mine t=true->st.dead t=false)(hok:∀ j,Z2U (nm j)=true)(hkeep:∀ n,keep n=true->live2 n=true)(ks:List (Sk U))(x:V U)(seen:List (Tok × Tok)):
  Ext seen (Z8X mine nm keep ks x seen).2/\∀ d,Ext (Z8X mine nm keep ks x seen).2 d->∀ v,RelV cfg g st.dead live v x->RelV cfg (g.anew d keep Z2U) ZX live2 v (Z8X mine nm keep ks x seen).1:=by
 cases x with
 | c x=>
  obtain ⟨h1,h2⟩:=Zgp (cfg:=cfg) (g:=g) (nm:=nm 0) (k:=sk0 ks) (c:=x) (seen:=seen) hmine (hok 0)
  exact ⟨h1,fun d hs v s=> h2 d hs _ (Gh.anew_ren d keep Z2U) v s⟩
 | agg cs=>
  obtain ⟨h3,h4,h5⟩:=Z6m (cfg:=cfg) (g:=g) (mine:=mine) (nm:=nm) hmine hok cs 0 ks seen
  refine ⟨h3,fun d hs v s=> ?_⟩
  obtain ⟨vs,rfl,hl,hh⟩:=s
  refine ⟨vs,rfl,V0,fun j u c hu hc=> ?_⟩
  have hj:j < cs.length:=by have:=(Q4.1 hc).1;omega
  exact h5 d hs _ (Gh.anew_ren d keep Z2U) j u _ c (Q2 hj) hc (hh j u _ hu (Q2 hj))
 | ptr n off=>
  refine ⟨.refl _,fun d hs v s=> ?_⟩
  simp only [Z8X]
  cases hk:keep n with
  | true=> exact ⟨by grind,s.2⟩
  | false=> exact trivial
 | ap n off k len i=> exact ⟨.refl _,fun d _ v s=> trivial⟩
 | ep cs=>
  have ai:∀ t,(fun _:Tok=> false) t=true->st.dead t=false:=fun t h=> by cases h
  obtain ⟨h3,h4,h5⟩:=Z6e (cfg:=cfg) (g:=g) (mine:=fun _=> false) (nm:=nm) ai hok cs 0 seen
  refine ⟨h3,fun d hs v s=> ?_⟩
  obtain ⟨b,rfl,hh⟩:=s
  refine ⟨b,rfl,fun j c hc=> ?_⟩
  have hj:j < cs.length:=by have:=(Q4.1 hc).1;rw [h4] at this;exact this
  obtain ⟨u,h6,h7⟩:=hh j _ (Q2 hj)
  exact ⟨u,h6,h5 d hs _ (Gh.anew_ren d keep Z2U).toRen j u _ c (Q2 hj) hc h7⟩
 | fn f=> exact ⟨.refl _,fun d _ v s=> s⟩
 | mp t n off=> exact ⟨.refl _,fun d _ v s=> trivial⟩
 | vw t n=> exact ⟨.refl _,fun d _ v s=> trivial⟩
 | clo f nms=>
  refine ⟨.refl _,fun d _ v s=> ?_⟩
  simp only [Z8X]
  cases hk:nms.all keep with
  | true=> exact ⟨fun nm hn=> by grind,s.2⟩
  | false=> exact trivial
 | nb p q=> exact ⟨.refl _,fun d _ v s=> s⟩
 | tup vs=> exact ⟨.refl _,fun d _ v s=> trivial⟩
 | gd b v=> exact ⟨.refl _,fun d _ v s=> trivial⟩
 | junk=> exact ⟨.refl _,fun d _ v s=> trivial⟩
theorem Zez{keep live2:Name->Bool}(hkeep:∀ n,keep n=true->live2 n=true)(h:Rel cfg B st g a w):∀ (lv:List (Nat × List (Sk U))) (seen:List (Tok × Tok)),
  Ext seen (Z0R st keep lv seen).2/\∀ s,Ext (Z0R st keep lv seen).2 s->∀ k,RelV cfg (g.anew s keep Z2U) ZX live2 (a.tmps.getD k undef) (ZfB (Z0R st keep lv seen).1 k)
 | [],seen=> ⟨.refl _,fun s _ k=> trivial⟩
 | (k0,ks) ::lv,seen=> by
  have d:∀ t,(fun t=> !st.dead t) t=true->st.dead t=false:=fun t ht=> by simpa using ht
  obtain ⟨h1,h2⟩:=Zta (cfg:=cfg) (g:=g) (st:=st) (nm:= .e k0) (keep:=keep) (live:=fun nm=> (st.mem nm).isSome) (live2:=live2) d (fun _=> rfl) hkeep ks (st.env k0) seen
  obtain ⟨h3,h4⟩:=Zez hkeep h lv (Z8X (fun t=> !st.dead t) (.e k0) keep ks (st.env k0) seen).2
  refine ⟨h1.trans h3,fun s u k=> ?_⟩
  simp only [Z0R,ZfB]
  cases hk:Nat.beq k0 k with
  | true=>
   have:=Qb hk
   subst this
   exact h2 s (h3.trans u) _ (h.env k0)
  | false=> exact h4 s u k
theorem Z7T{keep:Name->Bool}(h:Rel cfg B st g a w):∀ (lm:List (Name × List (Sk U))) (seen:List (Tok × Tok)),(∀ n∈lm,(st.mem n.1).isSome=true->keep n.1=true)->
  Ext seen (JF st lm seen).2/\∀ s,Ext (JF st lm seen).2 s->∀ nm cs,Z3Z (JF st lm seen).1 nm=some cs->∀ j c,cs[j]?=some c->
   ∃ v,w.cell? ((g.ad nm).add j)=some v/\(g.anew s keep Z2U).tag ((g.ad nm).add j)=some (.obj nm)/\RelC cfg (g.anew s keep Z2U) ZX v c
 | [],seen,_=> ⟨.refl _,fun s _ nm cs d=> by trivial⟩
 | (n0,ks) ::lm,seen,hk=> by
  have u:∀ t,(fun t=> !st.dead t) t=true->st.dead t=false:=fun t ht=> by simpa using ht
  cases hm:st.mem n0 with
  | none=>
   simp only [JF,hm]
   exact Z7T h lm seen (fun n d=> hk n (by simp [d]))
  | some cs0=>
   obtain ⟨h3,h4,h5⟩:=Z6m (cfg:=cfg) (g:=g) (mine:=fun t=> !st.dead t) (nm:=ZfQ n0) u (okT:=Z2U) (fun j=> by cases n0 <;> rfl) cs0 0 ks seen
   obtain ⟨h6,h7⟩:=Z7T h lm (Z16 (fun t=> !st.dead t) (ZfQ n0) 0 ks cs0 seen).2 (fun n d=> hk n (by simp [d]))
   simp only [JF,hm]
   refine ⟨h3.trans h6,fun s hs nm cs d j c hc=> ?_⟩
   simp only [Z3Z] at d
   split at d
   .rename_i e
    subst e
    cases d
    have hj:j < cs0.length:=by have:=(Q4.1 hc).1;omega
    obtain ⟨v,h8,h9,aa⟩:=h.mem n0 cs0 hm j _ (Q2 hj)
    refine ⟨v,h8,?_,h5 s (h6.trans hs) _ (Gh.anew_ren s keep Z2U) j v _ c (Q2 hj) hc aa⟩
    have ab:=hk (n0,ks) (by simp) (by simp [hm])
    simp only [Gh.anew,h9,ab,cond_true]
   grind
theorem Z7X:∀ (lm:List (Name × List (Sk U))) (seen:List (Tok × Tok)) (nm:Name),(Z0k lm nm && (st.mem nm).isSome)=true->(Z3Z (JF st lm seen).1 nm).isSome=true
 | [],seen,nm,h=> by trivial
 | (n0,ks) ::lm,seen,nm,h=> by
  simp only [Q0] at h
  cases hm:st.mem n0 with
  | none=>
   simp only [JF,hm]
   refine Z7X lm seen nm ?_
   simp only [Q0]
   refine ⟨?_,h.2⟩
   have d:=h.1
   simp only [Z0k] at d
   grind
  | some cs0=>
   simp only [JF,hm,Z3Z]
   split
   .try rfl
   .rename_i e
    refine Z7X lm _ nm ?_
    simp only [Q0]
    refine ⟨?_,h.2⟩
    have d:=h.1
    simp only [Z0k] at d
    grind
theorem Z99:∀ {l:List (Name × List (Sk U))} {x:Name × List (Sk U)},x∈l->Z0k l x.1=true
 | (a,ks) ::r,x,h=> by
  simp only [Z0k]
  split
  .try rfl
  .rename_i e
   rcases Q7.1 h with rfl | h
   .grind
   .exact Z99 h
theorem Zxr(h:Rel cfg B st g a w)(lv:List (Nat × List (Sk U)))(lm:List (Name × List (Sk U))):∃ g',Rel cfg B ((ZBC lv lm st).toF st.n) g' a w:=by
 let keep:Name->Bool:=fun nm=> Z0k lm nm && (st.mem nm).isSome
 let live2:Name->Bool:=fun nm=> (Z3Z (ZBC lv lm st).mem nm).isSome
 have ak:∀ n,keep n=true->live2 n=true:=fun n hn=> Z7X lm _ n hn
 obtain ⟨h1,h2⟩:=Zez (keep:=keep) ak h lv []
 obtain ⟨h3,h4⟩:=Z7T (keep:=keep) h lm (Z0R st keep lv []).2 (fun n hn hs=> by simp only [keep,Z99 hn,hs,Bool.and_self])
 let s:=(JF st lm (Z0R st keep lv []).2).2
 have aj:∀ c,g.tag c=none->(g.anew s keep Z2U).tag c=none:=fun c hc=> by simp only [Gh.anew,hc]
 have d:∀ c t,g.tag c=some (.outer t)↔(g.anew s keep Z2U).tag c=some (.outer t):=by
  intro c t
  simp only [Gh.anew]
  cases hg:g.tag c with
  | none=> simp
  | some t0=>
   cases t0 with
   | obj nm=> grind
   | tok u=> simp_all
   | outer t0=> simp
 refine ⟨g.anew s keep Z2U,⟨fun c v hv=> ?_,fun c t ht=> ?_⟩,?_,?_,?_,h.sz,h.df,fun t x hx=> ⟨rfl,?_⟩,fun t ht _ _=> by simp only [Gh.anew,Z2U,ht,Bool.not_true,cond_false]⟩
 .obtain ⟨h5,h6⟩:=h.inv.im c v hv
  grind
 .cases hg:g.tag c with
  | none=> grind
  | some t0=> exact h.inv.it c t0 hg
 .refine h.fr.step h.inv (Evo.refl w (fun _=> False)) (fun c hc=> hc.elim) (fun _ _ hv=> hv) (fun c t=> d c t) ?_ (fun _=> rfl)
  intro b _ aq o sp
  cases hg:g.tag ⟨b,o,sp⟩ with
  | none=> grind
  | some t=>
   grind
 .intro k
  exact h2 s h3 k
 .intro nm cs hn j c hc
  exact h4 s (.refl _) nm cs hn j c hc
 .have ah:ZE (fun _=> none) (Z0e st.ls s (Zp1 lv lm)) t=some x:=by
   have ae:ZE (fun _=> none) (match Zp1 lv lm with
    | []=> []
    | c=> Z0e st.ls s c) t=some x:=hx
   cases hc:Zp1 lv lm with
   | nil=> rw [hc] at ae;cases ae
   | cons a b=> grind
  obtain ⟨u,h5,h6,h7,h8⟩:=Z0F _ ah
  obtain ⟨_,hL⟩:=h.ls u x h7
  have af:(g.anew s keep Z2U).bs t=g.bs u:=by simp only [Gh.anew,Z2U,h8,Bool.not_false,cond_true,ZgN,h5]
  have ab:∀ c,g.tag c=some (.tok u)->(g.anew s keep Z2U).tag c=some (.tok t):=fun c hc=> by simp only [Gh.anew,hc,h6,Qf]
  rcases hL with ⟨e1,e2⟩ | ⟨b,len,cap,e1,e2,e3,e4,e5,e6⟩
  .exact .inl ⟨af.trans e1,e2⟩
  .refine .inr ⟨b,len,cap,af.trans e1,e2,e3,e4,fun i y hy j c hc=> ?_,fun j a1 a2=> ab _ (e6 j a1 a2)⟩
   obtain ⟨v,e7,e8,e9,ai⟩:=e5 i y hy j c hc
   exact ⟨v,e7,e8,e9,fun hi=> ab _ (ai hi)⟩
theorem ZsQ(h:Rel cfg B st g a w)(k:Nat)(T:U.Ty):∃ g',Rel cfg B (st.prom1 k T) g' a w:=by
 unfold FSt.prom1
 split
 case h_2=> grind
 rename_i hk
 split
 case isFalse=> grind
 rename_i hc
 simp only [Q0,QG,QS] at hc
 have u:=h.fresh (.z (3*k) 0) rfl hc.1 hc.2
 have d:Keeps g (g.setBs (.z (3*k) 0) (.slice none 0 0,cfg.sz T)) st.dead st.dead (fun nm=> (st.mem nm).isSome) (fun nm=> (st.mem nm).isSome):=(Keeps.refl g st.dead _).setBs u
 refine ⟨g.setBs (.z (3*k) 0) (.slice none 0 0,cfg.sz T),h.inv,h.fr.setBs,fun i=> ?_,fun nm cs hm j c hj=> ?_,h.sz,h.df,fun t x hx=> ?_,fun t ht s h2=> ?_⟩
 .simp only
  cases hi:Nat.beq i k with
  | true=>
   have e:=Qb hi
   subst e
   have hr:=h.env i
   rw [hk] at hr
   have s:SimC cfg g.m (a.tmps.getD i undef) .nils:=hr.1
   have hv:a.tmps.getD i undef= .slice none 0 0:=by
    generalize a.tmps.getD i undef=v at s
    cases s
    try rfl
   rw [hv]
   exact ⟨.mref _ _ ⟨rfl,rfl⟩,fun _=> ⟨cfg.sz T,by simp [Gh.setBs]⟩⟩
  | false=> exact (h.env i).keep d
 .obtain ⟨v,s,h2,h3⟩:=h.mem nm cs hm j c hj
  exact ⟨v,s,h2,h3.keep d⟩
 .simp only at hx
  split at hx
  .rename_i e
   subst e
   cases hx
   exact ⟨hc.2,.inl ⟨by simp [Gh.setBs],rfl,rfl⟩⟩
  .obtain ⟨s,h2⟩:=h.ls t x hx
   exact ⟨s,h2.keep d s (fun c v hv=> (h.inv.im c v hv).1) (fun _ _=> rfl)⟩
 .simp only at s
  split at s
  .cases s
  .rename_i ae
   simp only [Gh.setBs]
   rw [if_neg ae]
   exact h.fresh t ht s h2
theorem ZsP(h:Rel cfg B st g a w)(nm:Name)(j0:Nat)(T:U.Ty):∃ g',Rel cfg B (st.promM nm j0 T) g' a w:=by
 unfold FSt.promM
 split
 case h_2=> grind
 rename_i cs aa
 split
 case h_2=> grind
 rename_i af
 split
 case isFalse=> grind
 rename_i hc
 simp only [Q0,QG,QS] at hc
 have ab:=h.fresh (.z (ZbO nm) j0) rfl hc.1 hc.2
 have d:Keeps g (g.setBs (.z (ZbO nm) j0) (.slice none 0 0,cfg.sz T)) st.dead st.dead (fun nm=> (st.mem nm).isSome) (fun nm=> (st.mem nm).isSome):=(Keeps.refl g st.dead _).setBs ab
 have hl:(fun n=> (if n=nm then some (cs.set j0 (.mref (.z (ZbO nm) j0))) else st.mem n:Option (List (C U))).isSome)=fun n=> (st.mem n).isSome:=by
  funext n
  by_cases e:n=nm
  .subst e;simp [aa]
  .simp [e]
 refine ⟨g.setBs (.z (ZbO nm) j0) (.slice none 0 0,cfg.sz T),h.inv,h.fr.setBs,fun i=> ?_,fun n ak hm j c hj=> ?_,h.sz,h.df,fun t x hx=> ?_,fun t ht s u=> ?_⟩
 .simp only [hl]
  exact (h.env i).keep d
 .simp only at hm
  split at hm
  .rename_i e
   subst e
   cases hm
   by_cases e:j=j0
   .subst e
    have ao:=(Q4.1 af).1
    rw [XZ] at hj
    simp only [if_true,ao] at hj
    cases hj
    obtain ⟨v,s,u,h3⟩:=h.mem n cs aa j _ af
    have hv:v= .slice none 0 0:=by
     have h4:=h3.1
     cases h4
     try rfl
    subst hv
    exact ⟨_,s,u,.mref _ _ ⟨rfl,rfl⟩,fun _=> ⟨cfg.sz T,by simp [Gh.setBs]⟩⟩
   .rw [List.getElem?_set_ne (Ne.symm e)] at hj
    obtain ⟨v,s,u,h3⟩:=h.mem n cs aa j c hj
    exact ⟨v,s,u,h3.keep d⟩
  .obtain ⟨v,s,u,h3⟩:=h.mem n ak hm j c hj
   exact ⟨v,s,u,h3.keep d⟩
 .simp only at hx
  split at hx
  .rename_i e
   subst e
   cases hx
   exact ⟨hc.2,.inl ⟨by simp [Gh.setBs],rfl,rfl⟩⟩
  .obtain ⟨s,u⟩:=h.ls t x hx
   exact ⟨s,u.keep d s (fun c v hv=> (h.inv.im c v hv).1) (fun _ _=> rfl)⟩
 .simp only at s
  split at s
  .cases s
  .rename_i al
   simp only [Gh.setBs]
   rw [if_neg al]
   exact h.fresh t ht s u
theorem Zhx:∀ (lv:List ((Nat ⊕ (Name × Nat)) × U.Ty)) {st:FSt U} {g:Gh},Rel cfg B st g a w->∃ g',Rel cfg B (st.prom lv) g' a w
 | [],st,g,h=> ⟨g,h⟩
 | (.inl k,T) ::r,st,g,h=> by
  obtain ⟨s,d⟩:=ZsQ h k T
  exact Zhx r d
 | (.inr x,T) ::r,st,g,h=> by
  obtain ⟨s,d⟩:=ZsP h x.1 x.2 T
  exact Zhx r d
theorem Zlk:∀ (lv:List ((Nat ⊕ (Name × Nat)) × U.Ty)) (st:FSt U),(st.prom lv).n=st.n
 | [],st=> rfl
 | (.inl k,T) ::r,st=> by
  show ((st.prom1 k T).prom r).n=st.n
  rw [Zlk r]
  unfold FSt.prom1
  grind
 | (.inr x,T) ::r,st=> by
  show ((st.promM x.1 x.2 T).prom r).n=st.n
  rw [Zlk r]
  unfold FSt.promM
  grind
theorem ZpQ(ok:CfgOk P cfg)(h:Rel cfg B st g a w)(lv:List (Nat × List (Sk U)))(lm:List (Name × List (Sk U))):∃ g',Rel cfg B (Z57 cfg lv lm st id) g' a w:=by
 have s:∀ {st:FSt U} {g:Gh},Rel cfg B st g a w->∃ g',Rel cfg B (Z2F cfg st (fun st=> Z5p cfg st id (Z1A lv lm st)) (pts lv)) g' a w:=by
  intro st g h
  rw [Z6g]
  obtain ⟨u,d⟩:=Zqb ok h (pts lv)
  generalize Z2F cfg st id (pts lv)=st1 at d ⊢
  cases hn:Z1A lv lm st1 with
  | nil=> exact ⟨u,d⟩
  | cons t r=> exact Zmv ok (t ::r) d
 unfold Z57
 cases hw:wrs lm lv with
 | nil=> exact s h
 | cons x r=>
  obtain ⟨u,d⟩:=Zhx (x ::r) h
  exact s d
theorem ZrY(lv:List (Nat × List (Sk U)))(lm:List (Name × List (Sk U))):(Z57 cfg lv lm st id).n=st.n:=by
 have d:∀ (st:FSt U),(Z2F cfg st (fun st=> Z5p cfg st id (Z1A lv lm st)) (pts lv)).n=st.n:=by
  intro st
  rw [Z6g]
  have h:=Zt6 (cfg:=cfg) (st:=st) (pts lv)
  generalize Z2F cfg st id (pts lv)=st1 at h ⊢
  cases hn:Z1A lv lm st1 with
  | nil=> exact h
  | cons t r=> exact (ZuG _ st1).trans h
 unfold Z57
 cases hw:wrs lm lv with
 | nil=> exact d st
 | cons x r=> exact (d _).trans (Zlk _ st)
theorem ZpR{α:Type}(lv:List (Nat × List (Sk U)))(lm:List (Name × List (Sk U)))(k:FSt U->α):Z57 cfg lv lm st k=k (Z57 cfg lv lm st id):=by
 unfold Z57
 generalize wrs lm lv=ws
 have d:∀ st:FSt U,Z2F cfg st (fun st=> Z5p cfg st k (Z1A lv lm st)) (pts lv)=k (Z2F cfg st (fun st=> Z5p cfg st id (Z1A lv lm st)) (pts lv)):=by
  intro st
  rw [Z6g,Z6g st (fun st=> Z5p cfg st id (Z1A lv lm st))]
  exact ZjJ _ _ _
 cases ws <;> exact d _
inductive AExit where
 | normal | exit (id:Nat) | ret
def AExit.up:AExit->Exit
 | .normal=> .normal
 | .exit id=> .exit id
 | .ret=> .ret
abbrev Zg(U:Uni):=Nat->List (Nat × List (Sk U)) × List (Name × List (Sk U))
def AExit.then{U:Uni}(K:LSt U->Prop)(Q:AExit->LSt U->Prop):AExit->LSt U->Prop
 | .normal,s=> K s
 | e,s=> Q e s
def AExit.inBlock{U:Uni}(id:Nat)(Q:AExit->LSt U->Prop):AExit->LSt U->Prop
 | .exit id',s=> if id'=id then Q .normal s else Q (.exit id') s
 | e,s=> Q e s
def Zl{U:Uni}(body:LSt U->(AExit->LSt U->Prop)->Prop)(s:LSt U)(Q:AExit->LSt U->Prop):Prop:=
 ∃ (I:Nat->LSt U->Prop) (n:Nat),I n s/\∀ k s',I k s'->body s' (AExit.then (fun s2=> ∃ j,j < k/\I j s2) Q)
def Ztb:List Prop->Prop->Prop
 | [],q=> q
 | p ::r,q=> p/\Ztb r q
theorem ZaS:∀ {ps:List Prop} {q:Prop},Ztb ps q->All ps/\q
 | [],_,h=> ⟨trivial,h⟩
 | _ ::_,_,h=> ⟨⟨h.1,(ZaS h.2).1⟩,(ZaS h.2).2⟩
def mkL(Γ:Known U)(o:Oper):Bool:=
 match o.op with
 | .call c=> match c.callee with
  | .value (.func f)=> match Γ f with
   | some s=> s.mkl
   | none=> false
  | _=> false
 | _=> false
def isZ(o:Oper):Bool:=
 match o.op with
 | .call c=> match c.callee,c.argTypes.toList with
  | .builtin .append,[t,t']=> t !=t'
  | _,_=> false
 | _=> false
def ZD5(Γ:Known U)(s:LSt U)(ops:List Oper)(l:List (Nat × List (Sk U)) × List (Name × List (Sk U))):Bool:=
 Γ.ml || !s.ls.isEmpty || (ops.any fun o=> ZAx ops o || mkL Γ o || isZ o) || !(wrs l.2 l.1).isEmpty || !(pts l.1).isEmpty
def Z5o{α:Type}(cfg:Cfg U)(li:Bool)(l:List (Nat × List (Sk U)) × List (Name × List (Sk U)))(st:FSt U)(k:FSt U->α):α:=
 bif li then Z57 cfg l.1 l.2 st k else k st
def ZAS(cfg:Cfg U)(li:Bool)(r:Option (List Prop × FSt U))(l:List (Nat × List (Sk U)) × List (Name × List (Sk U)))(Q:AExit->LSt U->Prop):Prop:=
 match r with
 | some (ps,st)=> Z5o cfg li l st (fun st=> Ztb ps (Q .normal (ZBC l.1 l.2 st)))
 | none=> False
theorem ZjI{α:Type}(li:Bool)(l:List (Nat × List (Sk U)) × List (Name × List (Sk U)))(k:FSt U->α):Z5o cfg li l st k=k (Z5o cfg li l st id):=by
 cases li
 .try rfl
 .exact ZpR _ _ _
theorem ZjH(ok:CfgOk P cfg)(h:Rel cfg B st g a w)(li:Bool)(l:List (Nat × List (Sk U)) × List (Name × List (Sk U))):(∃ g',Rel cfg B (Z5o cfg li l st id) g' a w)/\(Z5o cfg li l st id).n=st.n:=by
 cases li
 .exact ⟨⟨g,h⟩,rfl⟩
 .exact ⟨ZpQ ok h _ _,ZrY _ _⟩
def ZvT{U:Uni}(v:Option (V U))(x y:Prop):Prop:=
 match v with
 | some (.c (.bool b))=> (b=true->x)/\(b=false->y)
 | some (.nb p q)=> (p->x)/\(q->y)
 | _=> False
def awp(cfg:Cfg U)(Γ:Known U)(draws:Array Oper->FSt U->Bool)(n:Nat)(lv:Zg U):Code->LSt U->(AExit->LSt U->Prop)->Prop
 | .skip,s,Q=> Q .normal s
 | .region id ops dr,s,Q=> if (!dr || draws ops (s.toR n Γ.ml ops))=true then ZAS cfg (ZD5 Γ s ops.toList (lv id)) (Zfl cfg Γ ops (!dr && ZD5 Γ s ops.toList (lv id)) ops.toList (s.toR n Γ.ml ops)) (lv id) Q else False
 | .seq x y,s,Q=> awp cfg Γ draws n lv x s (AExit.then (fun s'=> awp cfg Γ draws n lv y s' Q) Q)
 | .cond c x y,s,Q=> ZvT ((s.toF n).opnd c) (awp cfg Γ draws n lv x s Q) (awp cfg Γ draws n lv y s Q)
 | .block id c,s,Q=> awp cfg Γ draws n lv c s (AExit.inBlock id Q)
 | .loop c,s,Q=> Zl (awp cfg Γ draws n lv c) s Q
 | .exit id,s,Q=> Q (.exit id) s
 | .ret,s,Q=> Q .ret s
 | _,_,_=> False
def Zaq(P:Program)(cfg:Cfg U)(Γ:Known U)(draws:Array Oper->FSt U->Bool):Prop:=
 ∀ (B:Base) (st st':FSt U) (g:Gh) (a:Act) (w:World) (id:Nat) (ops:Array Oper) (ps:List Prop) (Q:Exit->Act->World->Prop),draws ops st=true->Rel cfg B st g a w->
  Zfl cfg Γ ops false ops.toList st=some (ps,st')->All ps->(∀ g' a' w',Rel cfg B st' g' a' w'->Q .normal a' w')->(Code.region id ops true).wp P Q a w
theorem Zr1{Γ:Known U}{draws:Array Oper->FSt U->Bool}(ok:CfgOk P cfg)(hΓ:∀ f s,Γ f=some s->Contract P cfg f s)(hdr:Zaq P cfg Γ draws){n:Nat}{lv:Zg U}:∀ (c:Code) (s:LSt U) (Q:AExit->LSt U->Prop) (g:Gh) (a:Act) (w:World),
  awp cfg Γ draws n lv c s Q->Rel cfg B (s.toF n) g a w->c.wp P (fun e a' w'=> ∃ e' s' g',e=AExit.up e'/\Q e' s'/\Rel cfg B (s'.toF n) g' a' w') a w:=by
 intro c
 induction c with
 | skip=> exact fun s Q g a w h u=> wp_skip ⟨.normal,s,g,rfl,h,u⟩
 | region id ops dr=>
  intro s Q g a w h u
  simp only [awp] at h
  split at h
  case isFalse=> exact h.elim
  rename_i hd
  unfold ZAS at h
  split at h
  case h_2=> exact h.elim
  rename_i ps aa aj
  rw [ZjI] at h
  replace h:=ZaS h
  generalize ZD5 Γ s ops.toList (lv id)=li at*
  have fin:∀ g' a' w',Rel cfg B aa g' a' w'->∃ e' s' g',Exit.normal=AExit.up e'/\Q e' s'/\Rel cfg B (s'.toF n) g' a' w':=by
   intro g' a' w' d
   obtain ⟨⟨g1,h1⟩,ax⟩:=ZjH ok d li (lv id)
   obtain ⟨g2,h2⟩:=Zxr h1 (lv id).1 (lv id).2
   have hn:aa.n=n:=by
    have:∀ (l:List Oper) (st aa:FSt U) (ps:List Prop),Zfl cfg Γ ops (!dr && li) l st=some (ps,aa)->aa.n=st.n:=by
     intro l
     induction l with
     | nil=> intro st aa ps he;simp only [Zfl,oP] at he;rw [he.2]
     | cons o l ih=>
      intro st aa ps he
      rw [Zbh] at he
      split at he
      .cases he
      .split at he
       .cases he
       .rename_i h2
        simp only [oP] at he
        obtain ⟨_,rfl⟩:=he
        rw [ih _ _ _ h2]
        have hp:((st.pre cfg Γ (!dr && li) o).app o.dst ‹Eff U›).n=(st.pre cfg Γ (!dr && li) o).n:=by cases o.dst <;> rfl
        rw [hp,ZGA]
    exact this _ _ _ _ aj
   rw [ax,hn] at h2
   exact ⟨.normal,_,g2,rfl,h.2,h2⟩
  cases dr with
  | false=> exact wp_region_list (Zfk ok hΓ ops.toList _ aa g a w ps (Zn3 u) aj h.1 fin)
  | true=>
   simp only [Bool.not_true,Bool.false_or] at hd
   exact hdr B _ aa g a w id ops ps _ hd (Zn3 u) aj h.1 fin
 | seq x y ihx ihy=>
  intro s Q g a w h u
  simp only [awp] at h
  refine wp_seq (wp_mono (ihx s _ g a w h u) ?_)
  rintro e a' w' ⟨e',s',g',rfl,hq,d⟩
  cases e' with
  | normal=> exact ihy s' Q g' a' w' hq d
  | exit id=> exact ⟨.exit id,s',g',rfl,hq,d⟩
  | ret=> exact ⟨.ret,s',g',rfl,hq,d⟩
 | cond c x y ihx ihy=>
  intro s Q g a w h u
  simp only [awp,ZvT] at h
  split at h
  case h_3=> exact h.elim
  case h_2 p q hb=>
   have hv:∃ b,a.eval c= .bool b/\(b=true->p)/\(b=false->q):=by
    have ai:RelV cfg g ZX (fun nm=> ((s.toF n).mem nm).isSome) (a.eval c) (.nb p q):=by
     cases c with
     | tmp t=> simp only [FSt.opnd,Option.some.injEq] at hb;rw [<-hb];exact u.env t
     | const c=> exact Z3b hb
     | func f=> simp [FSt.opnd] at hb
     | global g=> trivial
    exact ai
   obtain ⟨b,hv,hp,hq⟩:=hv
   exact wp_cond_split hv (fun ht=> ihx s Q g a w (h.1 (hp ht)) u) (fun ht=> ihy s Q g a w (h.2 (hq ht)) u)
  rename_i b hb
  have hv:a.eval c= .bool b:=by
   have ai:RelV cfg g ZX (fun nm=> ((s.toF n).mem nm).isSome) (a.eval c) (.c (.bool b)):=by
    cases c with
    | tmp t=> simp only [FSt.opnd,Option.some.injEq] at hb;rw [<-hb];exact u.env t
    | const c=> exact Z3b hb
    | func f=> simp [FSt.opnd] at hb
    | global g=> trivial
   exact SimC.bool_eq ai.1
  exact wp_cond_split hv (fun ht=> ihx s Q g a w (h.1 ht) u) (fun ht=> ihy s Q g a w (h.2 ht) u)
 | block id c ih=>
  intro s Q g a w h u
  simp only [awp] at h
  refine wp_block (wp_mono (ih s _ g a w h u) ?_)
  rintro e a' w' ⟨e',s',g',rfl,hq,d⟩
  cases e' with
  | normal=> exact ⟨.normal,s',g',rfl,hq,d⟩
  | exit id'=>
   simp only [AExit.inBlock,AExit.up,Exit.inBlock] at*
   grind
  | ret=> exact ⟨.ret,s',g',rfl,hq,d⟩
 | loop c ih=>
  intro s Q g a w h u
  simp only [awp,Zl] at h
  obtain ⟨I,k,h0,h1⟩:=h
  refine wp_loop_ghost (fun k a w=> ∃ s g,I k s/\Rel cfg B (s.toF n) g a w) k ⟨s,g,h0,u⟩ ?_
  rintro k a w ⟨s,g,hI,u⟩
  refine wp_mono (ih s _ g a w (h1 k s hI) u) ?_
  rintro e a' w' ⟨e',s',g',rfl,hq,d⟩
  cases e' with
  | normal=>
   obtain ⟨j,hj,ay⟩:=hq
   exact ⟨j,hj,s',g',ay,d⟩
  | exit id=> exact ⟨.exit id,s',g',rfl,hq,d⟩
  | ret=> exact ⟨.ret,s',g',rfl,hq,d⟩
 | exit id=> exact fun s Q g a w h u=> wp_exit ⟨.exit id,s,g,rfl,h,u⟩
 | ret=> exact fun s Q g a w h u=> wp_ret ⟨.ret,s,g,rfl,h,u⟩
 | _=> intro s Q g a w h;simp [awp] at h
def ZGo(cfg:Cfg U)(Γ:Known U)(draws:Array Oper->FSt U->Bool)(n:Nat)(lv:Zg U)(y:Code)(Q:AExit->LSt U->Prop):AExit->LSt U->Prop:=
 AExit.then (fun s'=> awp cfg Γ draws n lv y s' Q) Q
theorem Z4 {U:Uni} {ι:Type} (f:ι->LSt U) (I:ι->Prop) (μ:ι->Nat) {body:LSt U->(AExit->LSt U->Prop)->Prop} {s:LSt U} {Q:AExit->LSt U->Prop} (i0:ι) (hs:s=f i0) (h0:I i0)
  (hb:∀ i,I i->body (f i) (AExit.then (fun d=> ∃ j,d=f j/\I j/\μ j < μ i) Q)):Zl body s Q:=by
 refine ⟨fun k s=> ∃ i,s=f i/\I i/\μ i=k,μ i0,⟨i0,hs,h0,rfl⟩,?_⟩
 grind
def sub:List Nat->Code->Code
 | [],c=> c
 | 0 ::r,.seq a _=> sub r a
 | _ ::r,.seq _ b=> sub r b
 | 0 ::r,.cond _ a _=> sub r a
 | _ ::r,.cond _ _ b=> sub r b
 | _ ::r,.block _ c=> sub r c
 | _ ::r,.loop c=> sub r c
 | _,_=> .skip
def cd(f:Func)(path:List Nat):Code:=sub path (f.body.getD .skip)
attribute [irreducible] awp
end Go.AM
