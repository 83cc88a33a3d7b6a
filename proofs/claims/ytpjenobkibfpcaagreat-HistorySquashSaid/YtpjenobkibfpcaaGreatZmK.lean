import Derived.Test.YtpjenobkibfpcaaGreatZmH
import Derived.WalkSpells
import Derived.Lib.SliceRun
import Derived.Deep.LoopGhost
set_option linter.unusedSimpArgs false
set_option linter.unusedVariables false
namespace Go.AM
variable {U:Uni} {P:Program} {cfg:Cfg U} {B:Base} {st:FSt U} {g:Gh} {a:Act} {w:World}
theorem Zjl (ok:CfgOk P cfg) (h:Rel cfg B st g a w) {live:Name->Bool} {t:TypeId} {u:Tok} {x:LC U} {v:Value} {k:IntKind} {n:Int} (ht:cfg.slT t=some x.T) (hx:st.ls u=some x)
  (hv:RelC cfg g st.dead v (.mref u)) (hn:0<=n/\n<=x.l.length):
  ∃ r,(Instr.sliceAt t v (some (.int k n)) none none).run P w= .ok r w/\RelV cfg g st.dead live r (.vw u n.toNat):=by
 obtain ⟨hE,hU⟩:=JG ok ht
 have ab:=JE ok x.T w
 rw [<-hE] at ab
 obtain ⟨hd,hL⟩:=h.ls u x hx
 obtain ⟨s,hs⟩:=hv.2 hd
 have ae:∃ b len aa,v= .slice b len aa/\s=cfg.sz x.T/\x.l.length=len:=by
  rcases hL with ⟨h4,h5,_⟩ | ⟨b,len,aa,h4,h5,_⟩ <;> rw [hs] at h4 <;> cases h4
  .grind
  .grind
 obtain ⟨b,len,aa,rfl,rfl,hl⟩:=ae
 rw [run_sliceAt_slice w t _ _ _ _ hU,run_slice_l w t b len aa hU _ _ hn.1 JX,ab]
 exact ⟨_,rfl,fun _=> ⟨b,len,aa,_,hs,JX,rfl⟩⟩
theorem Zm9(h:Rel cfg B st g a w){u:Tok}{y y':LC U}(hy:st.ls u=some y)(e:y'=y){val:Option (V U)}{v:Value}(hval:∀ dead live,RelV cfg g dead live v (val.getD .junk)):
  Out cfg B st g { val:=val,ls:=[(u,y')] } v w g:=by
 subst e
 have s:Zq st ({ val:=val,ls:=[(u,y')] }:Eff U)=st.dead:=by funext t;simp [Zq]
 have aa:∀ t,Z0o st.ls ({ val:=val,ls:=[(u,y')] }:Eff U) t=st.ls t:=fun t=> by
  simp only [Z0o,XE,cond_false,ZE]
  grind
 refine ⟨h.inv,h.fr,by rw [s];exact .refl _ _ _,by rw [s];exact h.mem,hval _ _,fun t x hx=> ?_,fun t h0 h7 h8=> ?_⟩
 .rw [aa] at hx;rw [s];exact h.ls t x hx
 .rw [aa] at h7;rw [s] at h8;exact h.fresh t h0 h7 h8
theorem Zff (ok:CfgOk P cfg) (h:Rel cfg B st g a w) {u:Tok} {y:LC U} (hy:st.ls u=some y) {n:Nat} {l':List (U.El y.T)} {vs:List Value} {b:Addr} {len cap s:Nat}
  (hbs:g.bs u=some (.slice (some b) len cap,s)) (hvl:vs.length=l'.length*cfg.sz y.T) (hvo:∀ v∈vs,v.oneCell'=true)
  (hvr:∀ (i:Nat) x,l'[i]?=some x->∀ (j:Nat) c,(cfg.enc y.T x)[j]?=some c->∃ v,vs[i*cfg.sz y.T+j]?=some v/\SimC cfg g.m v c)
  (hf:y.f<=n) (hn:n+l'.length<=len) {val:Option (V U)} {v:Value} (hval:∀ dead live,RelV cfg g dead live v (val.getD .junk)):
  s=cfg.sz y.T/\y.l.length=len/\∃ w',(storeCells (b.add (n*cfg.sz y.T)) vs).run P w= .ok () w'/\Out cfg B st g { val:=val,ls:=[(u,⟨y.T,y.l.take n++(l'++y.l.drop (n+l'.length)),y.f⟩)] } v w' g:=by
 obtain ⟨a4,hL⟩:=h.ls u y hy
 rcases hL with ⟨h4,_⟩ | ⟨b',len',cap',h4,hlen,hcap,hfl,hrows,htail⟩ <;> rw [hbs] at h4 <;> cases h4
 refine ⟨rfl,hlen,?_⟩
 have ai:=ok.sz_pos y.T
 have au:(n+l'.length)*cfg.sz y.T<=len*cfg.sz y.T:=Qf _ hn
 rw [QJ] at au
 have ae:∀ j,n*cfg.sz y.T<=j->j < len*cfg.sz y.T->g.tag (b.add j)=some (.tok u)/\∃ v,w.cell? (b.add j)=some v:=by
  intro j h1 h2
  have hi:j / cfg.sz y.T < y.l.length:=by rw [hlen];exact Xx (by grind)
  have a5:j % cfg.sz y.T < (cfg.enc y.T (y.l[j / cfg.sz y.T])).length:=by rw [ok.enc_len];exact XR _ ai
  obtain ⟨v,g1,_,_,g4⟩:=hrows _ _ (Q4 hi) _ _ (Q4 a5)
  have e:j / cfg.sz y.T*cfg.sz y.T+j % cfg.sz y.T=j:=by rw [Xs];exact XN _ _
  rw [e] at g1 g4
  exact ⟨g4 (QF hf ((K8 ai).2 h1)),v,g1⟩
 obtain ⟨w',h1,h2,h3,h4,h5,h6⟩:=JH (P:=P) (b.add (n*cfg.sz y.T)) vs 0 w hvo (by
  intro j hj
  rw [Go.Deep.add_add,QU]
  obtain ⟨g1,g2⟩:=ae (n*cfg.sz y.T+j) JX JX
  exact ⟨g2,(h.inv.it _ _ g1).1⟩)
 simp only [QU,Go.Deep.add_add] at h2 h3 h4
 refine ⟨w',h1,?_⟩
 have aa:∀ c,(∃ j,j < vs.length/\c=b.add (n*cfg.sz y.T+j))->g.tag c=some (.tok u):=by
  rintro c ⟨j,hj,rfl⟩
  exact (ae _ JX JX).1
 have ab:∀ c,g.tag c≠some (.tok u)->w'.cell? c=w.cell? c:=fun c hc=> h4 c fun j hj e=> hc (aa c ⟨j,hj,e⟩)
 have ay:∀ c v,g.m c=some v->w'.cell? c=some v:=fun c v hv=> by
  obtain ⟨h7,h8⟩:=h.inv.im c v hv
  grind
 have ah:∀ L,Zq st ({ val:=val,ls:=L }:Eff U)=st.dead:=fun L=> by funext t;simp [Zq]
 refine ⟨⟨fun c v hv=> ⟨ay c v hv,(h.inv.im c v hv).2⟩,fun c t av=> ?_⟩,?_,by rw [ah];exact .refl _ _ _,?_,hval _ _,?_,?_⟩
 .obtain ⟨h7,u',h8⟩:=h.inv.it c t av
  grind
 .exact h.fr.step h.inv h2 (fun c hc=> ⟨_,aa c hc,fun t' e=> by cases e⟩) (fun _ _ h=> h) (fun _ _=> QN) (fun _ _ _ _ _=> rfl) (fun _=> rfl)
 .rw [ah]
  intro nm a6 hm j c hj
  obtain ⟨v0,bg,bj,bi⟩:=h.mem nm a6 hm j c hj
  grind
 .intro t z hz
  rw [ah]
  unfold Z0o at hz
  simp only [XE,cond_false,ZE] at hz
  split at hz
  .rename_i et
   subst et
   cases hz
   refine ⟨a4,.inr ⟨b,len,cap,hbs,by simp;omega,hcap,hfl,?_,htail⟩⟩
   intro i q hq j c hc
   simp only at hq hc ⊢
   have hj:j < cfg.sz y.T:=by have:=(Q8.1 hc).1;rw [ok.enc_len] at this;exact this
   have old:y.l[i]?=some q->(i < n\/n+l'.length<=i)->∃ u',w'.cell? (b.add (i*cfg.sz y.T+j))=some u'/\SimC cfg g.m u' c/\(i < y.f->g.m (b.add (i*cfg.sz y.T+j))=some u')/\(y.f<=i->g.tag (b.add (i*cfg.sz y.T+j))=some (.tok t)):=by
    intro h0 a8
    obtain ⟨u',g1,g2,g3,g4⟩:=hrows i q h0 j c hc
    refine ⟨u',?_,g2,g3,g4⟩
    rw [h4 _ fun j' bk e=> by
     have:=Z2h e
     rcases a8 with ar | az
     .have:(i+1)*cfg.sz y.T<=n*cfg.sz y.T:=Qf _ ar
      grind
     .have:(n+l'.length)*cfg.sz y.T<=i*cfg.sz y.T:=Qf _ az
      grind]
    exact g1
   rw [QK,Qr,Xo JX] at hq
   split at hq
   .grind
   .rename_i az
    rw [QK] at hq
    split at hq
    .rename_i ar
     obtain ⟨v0,g1,g2⟩:=hvr _ _ hq j c hc
     have g3:=h3 _ _ g1
     have e1:n*cfg.sz y.T+((i - n)*cfg.sz y.T+j)=i*cfg.sz y.T+j:=by
      rw [<-Nat.add_assoc,<-QJ];congr 2;omega
     rw [e1] at g3
     refine ⟨v0,g3,g2,fun hi=> by omega,fun _=> (ae _ ?_ ?_).1⟩
     .omega
     grind
    .rename_i bd
     rw [Qz] at hq
     exact old (by rw [<-hq];congr 1;omega) (.inr JX)
  .rename_i bm
   obtain ⟨h7,h8⟩:=h.ls t z hz
   exact ⟨h7,h8.keep (.refl g st.dead (fun _=> true)) h7 ay (fun c av=> ab c (by grind))⟩
 .rw [ah]
  intro t h0 h7 h8
  unfold Z0o at h7
  simp only [XE,cond_false,ZE] at h7
  split at h7
  .cases h7
  .exact h.fresh t h0 h7 h8
theorem ZEe(h:Rel cfg B st g a w){live:Name->Bool}{u:Tok}{x:LC U}{n:Nat}{v:Value}(hx:st.ls u=some x)(hv:RelV cfg g st.dead live v (.vw u n)):
  n<=x.l.length/\∃ b m aa,v= .slice b m aa/\m=x.l.length - n/\(b=none->m=0)/\(n < x.l.length->∃ b' cap',g.bs u=some (.slice (some b') x.l.length cap',cfg.sz x.T)/\b=some (b'.add (n*cfg.sz x.T))):=by
 obtain ⟨hd,hL⟩:=h.ls u x hx
 obtain ⟨b,len,aa,s,h1,h2,rfl⟩:=hv hd
 rcases hL with ⟨h4,h5,_⟩ | ⟨b',len',cap',h4,hlen,hcap,_⟩ <;> rw [h1] at h4 <;> cases h4
 .rw [h5]
  exact ⟨h2,_,_,_,rfl,rfl,fun _=> by simp,fun hh=> by simp at hh⟩
 .rw [hlen]
  refine ⟨h2,_,_,_,rfl,rfl,fun e=> ?_,fun ai=> ⟨b',aa,h1,?_⟩⟩
  .split at e <;> cases e
  .rw [J3];try rfl
theorem Zn4 (ok:CfgOk P cfg) (h:Rel cfg B st g a w) {live:Name->Bool} {o:Oper} {t:TypeId} {u:Tok} {n:Nat} {px:Operand} {ps:List Prop} {e:Eff U}
  (ho:o.op= .call { callee:= .builtin .clear,args:=#[px],argTypes:=#[t] })
  (hx:RelV cfg g st.dead live (a.eval px) (.vw u n)) (he:Zlh cfg st t u n=some (ps,e)) (hps:All ps):
  Does P o a w fun v w'=> ∃ g',Out cfg B st g e v w' g':=by
 unfold Zlh at he
 split at he
 case h_2=> cases he
 rename_i T x hT ai
 split at he
 case h_2=> cases he
 rename_i az z _ hz
 subst az
 simp only [oP] at he
 obtain ⟨rfl,rfl⟩:=he
 obtain ⟨hE,hU⟩:=JG ok hT
 obtain ⟨hn,b,m,a3,hv,hm,hb,af⟩:=ZEe h ai hx
 have ao:execOp a.eval o=(do pure (.value (<-Builtin.clear_ #[t] o.type #[.slice b m a3])):Sem Next):=by
  simp only [execOp,ho,resolve,Sem.run_bind,Sem.run_pure,Result.andThen_ok,invoke,builtin]
  simp [hv]
 have ak:P.underlying t=some (.slice (cfg.elT x.T)):=by rw [hE] at hU;exact hU
 by_cases h0:m=0
 .have e1:x.l.length=n:=JX
  refine .inl ⟨.tuple #[],w,?_,g,Zm9 h ai (by rw [<-e1];simp) fun _ _=> trivial⟩
  rw [ao]
  subst h0
  refine Zat ?_
  cases b <;> simp [Builtin.clear_,run_underlying ak]
 obtain ⟨b',a8,a2,rfl⟩:=af JX
 obtain ⟨i,ag,zs,z',hi,a4,bl,bg,ae,be⟩:=ok.el x.T
 rw [ae] at hz
 have au:cfg.dec x.T zs=some z:=hz
 obtain ⟨s,av,hZ⟩:=Z2H ok ae w
 have aa:=Z0M (g:=g) (st:=st) (cfg:=cfg) hZ
 obtain ⟨aw,a1⟩:=ZbK ok au aa.1 (fun j v c h1 h2=> aa.sim h1 h2)
 have ah:s.cells.size=cfg.sz x.T:=by have:=aw;simp at this;exact this
 have a5:=ok.sz_pos x.T
 obtain ⟨_,_,w',h1,bd⟩:=Zff (P:=P) (l':=List.replicate m z) (vs:=(Builtin.zeroCells s.cells m).toList) (n:=n) (val:=none) (v:= .tuple #[]) ok h ai a2
  (by simp [Builtin.zeroCells,ah])
  (by
   intro v hv
   simp only [Builtin.zeroCells,Xz,X8,Array.toList_range,List.mem_range] at hv
   obtain ⟨j,hj,rfl⟩:=hv
   have am:j % s.cells.size < s.cells.size:=XR _ JX
   rw [getElem!_pos s.cells _ am]
   exact aa.one _ (by simp))
  (by
   intro i x0 ab j c hc
   obtain ⟨hi,ab⟩:=Q8.1 ab
   simp at ab hi
   subst ab
   obtain ⟨v,h7,h8⟩:=a1 j c hc
   have hj:j < cfg.sz x.T:=by have:=(Q8.1 hc).1;rw [ok.enc_len] at this;exact this
   have af:i*cfg.sz x.T+j < m*cfg.sz x.T:=by
    have:(i+1)*cfg.sz x.T<=m*cfg.sz x.T:=Qf _ JX
    rw [QJ] at this;omega
   refine ⟨v,?_,h8⟩
   have h9:s.cells[j]?=some v:=by rw [<-h7];simp
   have aj:j < s.cells.size:=JX
   have e:(i*cfg.sz x.T+j) % s.cells.size=j:=by rw [ah,Xs,Kb,K5 hj]
   have a0:s.cells[j]! =v:=by
    rw [getElem!_pos s.cells j aj]
    rw [QY aj] at h9
    exact Option.some.inj h9
   have al:i*cfg.sz x.T+j < m*s.cells.size:=by rw [ah];exact af
   simp [Builtin.zeroCells,al,e,a0])
  hps.1 (by simp;omega) (fun _ _=> trivial)
 refine .inl ⟨.tuple #[],w',?_,g,?_⟩
 .rw [ao]
  refine Zat ?_
  obtain ⟨m',rfl⟩:∃ m',m=m'+1:=⟨m - 1,JX⟩
  rw [hE] at hU
  simp [Builtin.clear_,run_underlying ak,av,h1]
 simp_all
theorem ZoS (ok:CfgOk P cfg) (h:Rel cfg B st g a w) {live:Name->Bool} {o:Oper} {t:TypeId} {u:Tok} {n:Nat} {y:C U} {px py:Operand} {ps:List Prop} {e:Eff U}
  (ho:o.op= .call { callee:= .builtin .copy,args:=#[px,py],argTypes:=#[t,t] })
  (hx:RelV cfg g st.dead live (a.eval px) (.vw u n)) (hy:RelC cfg g st.dead (a.eval py) y) (he:ZsV cfg st t u n y=some (ps,e)) (hps:All ps):
  Does P o a w fun v w'=> ∃ g',Out cfg B st g e v w' g':=by
 unfold ZsV at he
 split at he
 case h_2=> cases he
 rename_i T x hT ak
 split at he
 case h_2=> cases he
 rename_i a7 l tl _ a8
 subst a7
 simp only [oP] at he
 obtain ⟨rfl,rfl⟩:=he
 obtain ⟨hE,hU⟩:=JG ok hT
 obtain ⟨hn,b,m,bb,hv,hm,hb,al⟩:=ZEe h ak hx
 obtain ⟨ar,bs,ls,s,aq,au,bl,a1⟩:=Z5g hy a8
 rw [aq] at ar
 have am:P.underlying t=some (.slice (cfg.elT x.T)):=by rw [hE] at hU;exact hU
 have az:=JE ok x.T w
 have av:execOp a.eval o=(do pure (.value (<-Builtin.copy_ #[t,t] o.type #[.slice b m bb,.slice bs ls s])):Sem Next):=by
  simp only [execOp,ho,resolve,Sem.run_bind,Sem.run_pure,Result.andThen_ok,invoke,builtin]
  simp [hv,aq]
 have ao:∀ (k:Nat) dead (live:Name->Bool),RelV cfg g dead live (goInt k) ((some (V.c (U:=U) (.int .i64 k))).getD .junk):=fun k _ _=> ⟨.int _ _,trivial⟩
 have ae:∀ k,k<=ls->∃ vs:List Value,(Builtin.firstCells (cfg.sz x.T) k (.slice bs ls s)).run P w= .ok vs.toArray w/\vs.length=(l.take k).length*cfg.sz x.T/\(∀ v∈vs,v.oneCell'=true)/\
   (∀ (i:Nat) x0,(l.take k)[i]?=some x0->∀ (j:Nat) c,(cfg.enc x.T x0)[j]?=some c->∃ v,vs[i*cfg.sz x.T+j]?=some v/\SimC cfg g.m v c):=by
  intro k hk
  cases bs with
  | none=>
   obtain ⟨rfl,rfl⟩:=a1 rfl
   have a9:l=[]:=Q5 au
   subst a9
   exact ⟨[],run_firstCells_none w _ _ _ _,by simp,by simp,fun i x0 ab=> by simp at ab⟩
  | some a'=>
   obtain ⟨vs,h1,h2,h3⟩:=Z4J ok ar.1
   have aj:k*cfg.sz x.T<=ls*cfg.sz x.T:=Qf _ hk
   have a4:(vs.take (k*cfg.sz x.T)).length=k*cfg.sz x.T:=by rw [Qr];omega
   refine ⟨vs.take (k*cfg.sz x.T),run_firstCells_some w _ k a' ls s _ a4 fun j v hv=> ?_,by grind,fun v hv=> ?_,fun i x0 ab j c hc=> ?_⟩
   .have hj:j < k*cfg.sz x.T:=by have:=(Q8.1 hv).1;omega
    rw [Xl hj] at hv
    exact (h.inv.im _ _ (h2 j v hv).1).1
   .obtain ⟨j,hj,rfl⟩:=Xp (XK hv)
    exact (h2 j _ (Q4 hj)).2
   .have hi:i < k:=by have:=(Q8.1 ab).1;rw [Qr] at this;omega
    rw [Xl hi] at ab
    have hj:j < cfg.sz x.T:=by have:=(Q8.1 hc).1;rw [ok.enc_len] at this;exact this
    have al:i*cfg.sz x.T+j < k*cfg.sz x.T:=by
     have:(i+1)*cfg.sz x.T<=k*cfg.sz x.T:=Qf _ hi
     rw [QJ] at this;omega
    grind
 obtain ⟨k,hk⟩:∃ k,k=Nat.min ls m:=⟨_,rfl⟩
 have aj:k=min (x.l.length - n) l.length:=by rw [hk,hm,au];exact Nat.min_comm _ _
 obtain ⟨vs,g1,g2,g3,g4⟩:=ae k JX
 have af:(sizeOf (cfg.elT x.T)).run P w= .ok (cfg.sz x.T) w:=az
 have ai:l.take k=l.take (x.l.length - n):=by
  rcases Nat.le_total (x.l.length - n) l.length with h1 | h1
  .rw [aj,Xo h1]
  .rw [aj,Nat.min_eq_right h1,Qy (Qb _),Qy h1]
 by_cases h0:n < x.l.length
 .obtain ⟨b',bc,ba,rfl⟩:=al h0
  obtain ⟨_,_,w',h1,bg⟩:=Zff (P:=P) (l':=l.take k) (vs:=vs) (n:=n) (val:=some (.c (.int .i64 k))) (v:=goInt k) ok h ak ba g2 g3 g4 hps.1 (by grind) (ao _)
  refine .inl ⟨goInt k,w',?_,g,?_⟩
  .rw [av]
   refine Zat ?_
   rw [hk] at g1 ⊢
   simp [Builtin.copy_,run_underlying am,Builtin.lenOf,af,g1,h1]
  .have e1:x.l.take n++(l.take k++x.l.drop (n+(l.take k).length))=cpL x.l n l:=by
    unfold cpL
    rw [ai]
    congr 2
    rw [Qr]
    rcases Nat.le_total (x.l.length - n) l.length with h1 | h1
    .rw [Xo h1,QE JX,QE JX]
    .grind
   grind
 .have a5:m=0:=JX
  have a6:k=0:=JX
  rw [a6] at g1 g2
  have a3:vs=[]:=Q5 (by simpa using g2)
  subst a3
  refine .inl ⟨goInt (0:Nat),w,?_,g,Zm9 h ak ?_ ?_⟩
  .rw [av]
   refine Zat ?_
   subst a5
   cases b <;> simp [Builtin.copy_,run_underlying am,Builtin.lenOf,af,g1,storeCells]
  .have e1:n=x.l.length:=JX
   have e2:cpL x.l n l=x.l:=by
    unfold cpL
    subst e1
    rw [Nat.sub_self,List.take_zero,Qy (Qb _),QE JX]
    simp
   rw [e2]
  grind
theorem Z6W(ps:Nat->Bool):∀ (xs:List (V U)) (i:Nat) (os:List (Name × List (C U))) (seen:List (Tok × Tok)),Ja st.strip ps i xs os seen=Ja st ps i xs os seen
 | [],i,os,seen=> rfl
 | x ::xs,i,os,seen=> by
  simp only [Ja,Z6W ps xs]
  try rfl
theorem Zdy:∀ (l h:List Name),Z8U st.strip l h=Z8U st l h
 | [],h=> rfl
 | nm ::l,h=> by
  simp only [Z8U,Zdy l]
  try rfl
theorem ZdO(Γ:Known U)(d:Nat)(f:FuncId)(args:List (V U)):Z6j Γ st.strip d f args=Z6j Γ st d f args:=by
 have hl:∀ (L:List (Tok × LC U)),Z15 st.strip d L=Z15 st d L:=by
  intro L
  induction L with
  | nil=> rfl
  | cons x L ih=>
   obtain ⟨t,x⟩:=x
   simp only [Z15,ih]
   try rfl
 have h:Z2B st.strip args=Z2B st args:=by simp only [Z2B,Zdy]
 simp only [Z6j,Z6W,hl,h]
 try rfl
theorem Z9v{lo:Option Operand}{x:Option (V U)}(h:Z1o st.strip lo=some x)(hop:∀ y,lo=some y->∀ v,st.strip.opnd y=some v->RelV cfg g st.dead (fun nm=> (st.mem nm).isSome) (a.eval y) v):
  ZuG cfg g st.dead (fun nm=> (st.mem nm).isSome) (lo.map a.eval) x:=by
 cases lo with
 | none=> simp only [Z1o,Option.some.injEq] at h;subst h;trivial
 | some y=>
  simp only [Z1o] at h
  cases hy:st.strip.opnd y with
  | none=> simp [hy] at h
  | some v=>
   simp [hy] at h
   subst h
   exact hop y rfl v hy
theorem ZgN{f:Operand->Option (V U)}:∀ {l:List (Nat × Operand)} {ps:List (Nat × V U)},l.mapM (fun x=> (f x.2).map (x.1,·))=some ps->
  l.length=ps.length/\∀ (j:Nat) x y,l[j]?=some x->ps[j]?=some y->x.1=y.1/\f x.2=some y.2
 | [],ps,h=> by grind
 | x ::l,ps,h=> by
  rw [X7] at h
  cases h1:f x.2 with
  | none=> simp [h1] at h
  | some v=>
   cases h2:l.mapM (fun x=> (f x.2).map (x.1,·)) with
   | none=> grind
   | some r=>
    simp [h1,h2] at h
    subst h
    obtain ⟨s,u⟩:=ZgN h2
    grind
theorem Zmp{f:Operand->Option (V U)}:∀ {l:List (Nat × Operand)} {ps:List (Nat × List (C U))},l.mapM (fun x=> ((f x.2).bind V.cells).map (x.1,·))=some ps->
  l.length=ps.length/\∀ (j:Nat) x y,l[j]?=some x->ps[j]?=some y->x.1=y.1/\∃ v,f x.2=some v/\v.cells=some y.2:=by
 intro l ps h
 have u:l.mapM (fun x=> ((fun o=> (f o).bind V.cells) x.2).map (x.1,·))=some ps:=h
 generalize hg:(fun o=> (f o).bind V.cells)=F at u
 have s:∀ {l:List (Nat × Operand)} {ps:List (Nat × List (C U))},l.mapM (fun x=> (F x.2).map (x.1,·))=some ps->
   l.length=ps.length/\∀ (j:Nat) x y,l[j]?=some x->ps[j]?=some y->x.1=y.1/\F x.2=some y.2:=by
  intro l
  induction l with
  | nil=> grind
  | cons x l ih=>
   intro ps h
   rw [X7] at h
   cases h1:F x.2 with
   | none=> simp [h1] at h
   | some v=>
    cases h2:l.mapM (fun x=> (F x.2).map (x.1,·)) with
    | none=> grind
    | some r=>
     simp [h1,h2] at h
     subst h
     obtain ⟨h3,h4⟩:=ih h2
     refine ⟨by simp [h3],fun j y z hy hz=> ?_⟩
     cases j with
     | zero=> grind
     | succ j=> grind
 obtain ⟨k1,k2⟩:=s u
 refine ⟨k1,fun j x y hx hy=> ?_⟩
 obtain ⟨k3,k4⟩:=k2 j x y hx hy
 refine ⟨k3,?_⟩
 rw [<-hg] at k4
 simp only at k4
 cases hf:f x.2 with
 | none=> grind
 | some v=> grind
theorem SimC.int_eq{m:Addr->Option Value}{v:Value}{k:IntKind}{n:Int}(h:SimC cfg m v (.int k n)):v= .int k n:=by
 cases h;rfl
theorem SimC.bool_eq{m:Addr->Option Value}{v:Value}{b:Bool}(h:SimC cfg m v (.bool b)):v= .bool b:=by
 cases h;rfl
theorem SimC.nilp_eq{m:Addr->Option Value}{v:Value}(h:SimC cfg m v .nilp):v= .pointer none:=by
 cases h;rfl
theorem Zey(ok:CfgOk P cfg){t:TypeId}(hz:cfg.var t=some (false,[.nilp])):P.underlying t=some (.pointer (P.pointee t)):=by
 obtain ⟨e,h⟩:=ok.ptr t hz
 have:P.pointee t=e:=by simp [Program.pointee,h]
 grind
theorem bind_some{α β:Type}{x:Option α}{f:α->Option β}{b:β}(h:x.bind f=some b):∃ a,x=some a/\f a=some b:=by
 cases x with
 | none=> simp at h
 | some a=> grind
theorem ZwQ(ok:CfgOk P cfg){T:U.Ty}{o:Option (U.El T)}{live:Name->Bool}{v:Value}(h:RelV cfg g st.dead live v (.c (.po T o)))(ho:o.isSome=true):RelV cfg g st.dead live v (.ep (cfg.enc T (o.getD (cfg.dflt T)))):=by
 obtain ⟨s,_⟩:=h
 cases o with
 | none=> cases ho
 | some x=>
  cases s with
  | po _ _ b vs hm hs=> exact ⟨b,rfl,fun j c hc=> ⟨_,hm j c hc,hs j c hc,Z9s (ok.enc_plain _ _ c (QS hc))⟩⟩
theorem Z8y {Γ:Known U} (ok:CfgOk P cfg) (hΓ:∀ f s,Γ f=some s->Contract P cfg f s) (h:Rel cfg B st g a w) {o:Oper} (hop:ZEM cfg st g a o) {ps:List Prop} {e:Eff U}
  (he:aop cfg Γ o st.strip=some (ps,e)) (hps:All ps):Does P o a w fun v w'=> ∃ g',Out cfg B st g e v w' g':=by
 have val:∀ {s:Sem Value} {x:V U},(∃ r,s.run P w= .ok r w/\RelV cfg g st.dead (fun nm=> (st.mem nm).isSome) r x)->execOp a.eval o=(do pure (.value (<-s)):Sem Next)->
   Does P o a w fun v w'=> ∃ g',Out cfg B st g { val:=some x } v w' g':=by
  rintro s x ⟨r,h1,h2⟩ h3
  exact JN h (by simp_all) h2
 have al:∀ {s:Sem Value} {x:C U},(∃ r,s.run P w= .ok r w/\SimC cfg g.m r x/\∀ tag dead r,TailOk cfg tag dead r x)->execOp a.eval o=(do pure (.value (<-s)):Sem Next)->
   Does P o a w fun v w'=> ∃ g',Out cfg B st g { val:=some (.c x) } v w' g':=by
  rintro s x ⟨r,h1,h2,h3⟩ h4
  exact val ⟨r,h1,h2,h3 _ _ _⟩ h4
 obtain ⟨dst,op,type,pos,after,guard⟩:=o
 unfold ZEM at hop
 cases op <;> simp only [aop,reduceCtorEq] at he
 case move x=>
  obtain ⟨v,h1,h2⟩:=bind_some he
  have hr:=hop x (by simp [Op.operands]) v h1
  split at h2 <;> simp only [oP,reduceCtorEq] at h2
  obtain ⟨rfl,rfl⟩:=h2
  exact JN h (by simp [execOp]) hr
 case assign x=>
  obtain ⟨v,h1,h2⟩:=bind_some he
  have hr:=hop x (by simp [Op.operands]) v h1
  split at h2 <;> simp only [oP,reduceCtorEq] at h2
  obtain ⟨rfl,rfl⟩:=h2
  exact JN h (by simp [execOp]) hr
 case alloc t=>
  split at he
  .rename_i d ag zs hd hv
   split at he
   .cases he
   .rename_i hn
    simp only [oP] at he
    obtain ⟨rfl,rfl⟩:=he
    exact Znc ok h rfl hv (by simpa [FSt.strip] using hn)
  .cases he
 case box t x=>
  split at he
  .rename_i d ag zs cs hd hv a0
   split at he
   .cases he
   .rename_i hn
    simp only [oP] at he
    obtain ⟨rfl,rfl⟩:=he
    obtain ⟨v,h1,h2⟩:=bind_some a0
    simp only [XC,not_or] at hn
    exact Zuw h rfl (hop x (by simp [Op.operands]) v h1) h2 (by simpa [FSt.strip] using hn.1)
  .cases he
 case build t parts=>
  split at he
  .rename_i zs bi hv hm
   cases hf:Z17 cfg t zs bi with
   | none=> grind
   | some cs=>
    simp only [hf,Qi,oP] at he
    obtain ⟨rfl,rfl⟩:=he
    obtain ⟨h1,h2⟩:=Zmp hm
    refine val (s:=Instr.build t (parts.map fun x=> (x.1,a.eval x.2))) (Zn5 ok hv (by simpa using h1) ?_ hf) (by rfl)
    intro j x y hx hy
    rw [Array.getElem?_map] at hx
    cases hj:parts[j]? with
    | none=> grind
    | some p=>
     simp [hj] at hx
     subst hx
     obtain ⟨h3,v,h4,h5⟩:=h2 j p y (by simpa using hj) hy
     refine ⟨h3,(hop p.2 ?_ v h4).cells h5⟩
     simp only [Op.operands]
     grind
  .cases he
 case buildSlice t n parts=>
  split at he
  .rename_i T bi hT hm
   split at he
   .rename_i hn
    cases hf:JB cfg T 0 bi with
    | none=> grind
    | some l=>
     simp only [hf,Qn] at he
     obtain ⟨h1,h2⟩:=ZgN hm
     have a3:∀ (j:Nat) x y,parts[j]?=some x->bi[j]?=some y->x.1=y.1/\RelV cfg g st.strip.dead (fun nm=> (st.strip.mem nm).isSome) (a.eval x.2) y.2:=by
      intro j x y hx hy
      obtain ⟨h3,h4⟩:=h2 j x y (by simpa using hx) hy
      refine ⟨h3,hop x.2 ?_ y.2 h4⟩
      simp only [Op.operands]
      have:=QS (l:=parts.toList) (i:=j) (by simpa using hx)
      simp
      exact ⟨x.1,by grind⟩
     cases hmu:st.strip.mu && Z66 parts.toList with
     | false=>
      simp only [hmu,cond_false,oP] at he
      obtain ⟨rfl,rfl⟩:=he
      exact ZcM ok h rfl hT (by simpa using h1) hn.1 hn.2 a3 hf
     | true=>
      simp only [hmu,cond_true,ZeW] at he
      split at he
      .split at he
       .rename_i ar
        simp only [Q6,QO,QX] at ar
        simp only [oP] at he
        obtain ⟨rfl,rfl⟩:=he
        exact ZbM ok h ar.1 ar.2 rfl hT (by simpa using h1) hn.1 hn.2 a3 hf
       .cases he
      .cases he
   .cases he
  .cases he
 case load t p=>
  split at he
  .rename_i ag zs u n ak hv hp
   split at he
   .rename_i y hy
    split at he
    .rename_i be
     cases hr:mkV ag (((cfg.enc y.T (y.l.getD n (cfg.dflt y.T))).drop ak).take zs.length) with
     | none=> grind
     | some v=>
      simp only [hr,Qi,oP] at he
      obtain ⟨rfl,rfl⟩:=he
      exact val (Ztn ok h hv hy (hop p (by simp [Op.operands]) _ hp) be hr) (by rfl)
    .cases he
   .cases he
  .rename_i ag zs T o hv hp
   cases hr:rd st.strip (.ep (cfg.enc T (o.getD (cfg.dflt T)))) ag zs.length with
   | none=> grind
   | some v=>
    simp only [hr,Qi,oP] at he
    obtain ⟨rfl,rfl⟩:=he
    exact val (ZfV ok h hv (ZwQ ok (hop p (by simp [Op.operands]) _ hp) hps.1) hr) (by rfl)
  .rename_i ag zs p' br bl hv hp
   cases hr:rd st.strip p' ag zs.length with
   | none=> grind
   | some v=>
    simp only [hr,Qi,oP] at he
    obtain ⟨rfl,rfl⟩:=he
    exact val (ZfV ok h hv (hop p (by simp [Op.operands]) p' hp) hr) (by rfl)
  .cases he
 case store t p x=>
  split at he
  .rename_i ag zs nm ak new hv hp az
   split at he
   .rename_i cs a0
    split at he
    .rename_i hl
     cases hs:YS cs ak new with
     | none=> grind
     | some cs'=>
      simp only [hs,Qi,oP] at he
      obtain ⟨rfl,rfl⟩:=he
      obtain ⟨v,h1,h2⟩:=bind_some az
      exact ZcX ok h rfl hv (hop p (by simp [Op.operands]) _ hp) (hop x (by simp [Op.operands]) v h1) h2 a0 hl hs
    .cases he
   .cases he
  .rename_i ag zs u n ak new hv hp az
   split at he
   .rename_i y hy
    split at he
    .rename_i hl
     split at he
     .rename_i e' b2
      simp only [oP] at he
      obtain ⟨rfl,rfl⟩:=he
      obtain ⟨v,h1,h2⟩:=bind_some az
      exact Zji ok h rfl hv (hop p (by simp [Op.operands]) _ hp) (hop x (by simp [Op.operands]) v h1) h2 hy hl hps.1 b2
     .cases he
    .cases he
   .cases he
  .rename_i ag zs nm ak k len n k' y hv hp az
   split at he
   .rename_i cs a0
    split at he
    .rename_i hc
     obtain ⟨be,hk,hz⟩:=hc
     subst hk
     split at he
     .rename_i l hl
      simp only [oP] at he
      obtain ⟨rfl,rfl⟩:=he
      obtain ⟨v,h1,h2⟩:=bind_some az
      exact Zfe ok h rfl hv (hop p (by simp [Op.operands]) _ hp) (hop x (by simp [Op.operands]) v h1) h2 a0 hz be hl
     .cases he
    .cases he
   .cases he
  .cases he
 case nilCheck x=>
  split at he <;> try simp only [oP,reduceCtorEq] at he
  .rename_i nm ak hx
   obtain ⟨rfl,rfl⟩:=he
   have hr:=hop x (by simp [Op.operands]) _ hx
   have h2:=hr.2
   exact JN h (by simp [execOp,h2]) hr
  .rename_i cs hx
   obtain ⟨rfl,rfl⟩:=he
   have hr:=hop x (by simp [Op.operands]) _ hx
   obtain ⟨b,h2,_⟩:=id hr
   exact JN h (by simp [execOp,h2]) hr
  .rename_i u n ak hx
   split at he <;> simp only [oP,reduceCtorEq] at he
   rename_i hs
   obtain ⟨rfl,rfl⟩:=he
   have hr:=hop x (by simp [Op.operands]) _ hx
   obtain ⟨y,hy⟩:=X4.1 hs
   obtain ⟨b,len,ca,_,h2,_⟩:=Zxc h hy hr
   exact JN h (by simp [execOp,h2]) hr
  .rename_i T o hx
   obtain ⟨rfl,rfl⟩:=he
   have hr:=hop x (by simp [Op.operands]) _ hx
   obtain ⟨b,h2,_⟩:=ZwQ (live:=fun nm=> (st.mem nm).isSome) ok hr hps.1
   exact JN h (by simp [execOp,h2]) hr
 case binOp bop t x y t'=>
  split at he
  .rename_i p q hx hy
   split at he
   .rename_i b0 hv
    cases hb:ZsW (U:=U) bop p q with
    | none=> grind
    | some c=>
     simp only [hb,Qi,oP] at he
     obtain ⟨rfl,rfl⟩:=he
     have h1:SimC cfg g.m (a.eval x) (.bool p):=(hop x (by simp [Op.operands]) _ hx).1
     have h2:SimC cfg g.m (a.eval y) (.bool q):=(hop y (by simp [Op.operands]) _ hy).1
     have e1:a.eval x= .bool p:=h1.bool_eq
     have e2:a.eval y= .bool q:=h2.bool_eq
     refine al (s:=do eqGuard bop t x y (.bool p) (.bool q);binOp bop t (.bool p) (.bool q)) (Znd ok hv hb) ?_
     simp [execOp,e1,e2]
   .cases he
  .rename_i T l tl hx hy
   have h1:SimC cfg g.m (a.eval x) (.slice T l tl):=(hop x (by simp [Op.operands]) _ hx).1
   have h2:SimC cfg g.m (a.eval y) (.nils:C U):=(hop y (by simp [Op.operands]) _ hy).1
   have e2:a.eval y= .slice none 0 0:=by
    generalize a.eval y=u at h2
    cases h2
    try rfl
   have ba:∃ (ao:Option Addr) (n c:Nat),a.eval x= .slice ao n c/\(ao.isNone=true->l=[]):=by
    generalize a.eval x=u at h1
    cases h1 with
    | snil=> grind
    | slice _ _ _ b len ca vs=> grind
   obtain ⟨ao,n,c,e1,hn⟩:=ba
   split at he <;> simp only [oP,reduceCtorEq] at he
   .rename_i S hS
    obtain ⟨rfl,rfl⟩:=he
    refine JN (v:= .bool ao.isNone) h ?_ ⟨_,rfl,hn,fun _=> trivial⟩
    simp [execOp,e1,e2,eqGuard,Lib.run_eql_slice_nil w t _ ao n c 0 0 (ok.sl t S hS)]
   .rename_i S hS
    obtain ⟨rfl,rfl⟩:=he
    refine JN (v:= .bool (!ao.isNone)) h ?_ ⟨_,rfl,fun _=> trivial,fun hf=> hn (by simpa using hf)⟩
    simp [execOp,e1,e2,eqGuard,run_neq_slice_nil_any w t _ ao n c 0 0 (ok.sl t S hS)]
  .rename_i T o hx hy
   have h1:SimC cfg g.m (a.eval x) (.po T o):=(hop x (by simp [Op.operands]) _ hx).1
   have h2:SimC cfg g.m (a.eval y) (.nilp:C U):=(hop y (by simp [Op.operands]) _ hy).1
   have e2:a.eval y= .pointer none:=by
    generalize a.eval y=u at h2
    cases h2
    try rfl
   have ba:∃ ao:Option Addr,a.eval x= .pointer ao/\ao.isNone=o.isNone:=by
    generalize a.eval x=u at h1
    cases h1 with
    | pnil=> grind
    | po _ y b vs=> grind
   obtain ⟨ao,e1,hn⟩:=ba
   have b4:∀ z,cfg.var t=some (false,z)->z=[.nilp]->P.underlying t=some (.pointer (P.pointee t)):=by
    rintro z hz rfl
    obtain ⟨e,he⟩:=ok.ptr t hz
    have:P.pointee t=e:=by simp [Program.pointee,he]
    rw [this];exact he
   split at he <;> simp only [oP,reduceCtorEq] at he
   .rename_i hv
    obtain ⟨rfl,rfl⟩:=he
    refine al (s:=binOp .eql t (.pointer ao) (.pointer none)) ⟨_,run_eql_pointer_nil _ t ao (b4 _ hv rfl),?_,fun _ _ _=> trivial⟩ (by simp [execOp,e1,e2,eqGuard])
    rw [hn];exact .bool _
   .rename_i hv
    obtain ⟨rfl,rfl⟩:=he
    refine al (s:=binOp .neq t (.pointer ao) (.pointer none)) ⟨_,run_neq_pointer_nil _ t ao (b4 _ hv rfl),?_,fun _ _ _=> trivial⟩ (by simp [execOp,e1,e2,eqGuard])
    rw [hn];cases o <;> exact .bool _
  .rename_i nm ak hx hy
   have e1:a.eval x= .pointer (some ((g.ad nm).add ak)):=(hop x (by simp [Op.operands]) _ hx).2
   have h2:SimC cfg g.m (a.eval y) (.nilp:C U):=(hop y (by simp [Op.operands]) _ hy).1
   have e2:=h2.nilp_eq
   split at he <;> simp only [oP,reduceCtorEq] at he
   .rename_i hv
    obtain ⟨rfl,rfl⟩:=he
    exact al (s:=binOp .eql t (.pointer (some ((g.ad nm).add ak))) (.pointer none)) ⟨_,run_eql_pointer_nil _ t _ (Zey ok hv),.bool _,fun _ _ _=> trivial⟩ (by simp [execOp,e1,e2,eqGuard])
   .rename_i hv
    obtain ⟨rfl,rfl⟩:=he
    exact al (s:=binOp .neq t (.pointer (some ((g.ad nm).add ak))) (.pointer none)) ⟨_,run_neq_pointer_nil _ t _ (Zey ok hv),.bool _,fun _ _ _=> trivial⟩ (by simp [execOp,e1,e2,eqGuard])
  .rename_i hx hy
   have h1:SimC cfg g.m (a.eval x) (.nilp:C U):=(hop x (by simp [Op.operands]) _ hx).1
   have h2:SimC cfg g.m (a.eval y) (.nilp:C U):=(hop y (by simp [Op.operands]) _ hy).1
   have e1:=h1.nilp_eq
   have e2:=h2.nilp_eq
   split at he <;> simp only [oP,reduceCtorEq] at he
   .rename_i hv
    obtain ⟨rfl,rfl⟩:=he
    exact al (s:=binOp .eql t (.pointer none) (.pointer none)) ⟨_,run_eql_pointer_nil _ t none (Zey ok hv),.bool _,fun _ _ _=> trivial⟩ (by simp [execOp,e1,e2,eqGuard])
   .rename_i hv
    obtain ⟨rfl,rfl⟩:=he
    exact al (s:=binOp .neq t (.pointer none) (.pointer none)) ⟨_,run_neq_pointer_nil _ t none (Zey ok hv),.bool _,fun _ _ _=> trivial⟩ (by simp [execOp,e1,e2,eqGuard])
  .rename_i p q cv bl cu cp hx hy
   cases hb:ZCs Γ.wr bop p q with
   | none=> simp [hb,Zjc] at he
   | some r=>
    obtain ⟨qs,c⟩:=r
    simp only [hb,Zjc,Qi,oP] at he
    obtain ⟨rfl,rfl⟩:=he
    have h1:=(hop x (by simp [Op.operands]) _ hx).1
    have h2:=(hop y (by simp [Op.operands]) _ hy).1
    exact al (Zpa (p:=x) (q:=y) (t:=t) h1 h2 hb hps) (by rfl)
  .rename_i as bs hx hy
   have h1:=hop x (by simp [Op.operands]) _ hx
   have h2:=hop y (by simp [Op.operands]) _ hy
   split at he
   .rename_i r ag zs ht hr hz
    split at he
    .rename_i hl
     simp only [oP] at he
     obtain ⟨rfl,rfl⟩:=he
     exact al ⟨_,(ZdH (w:=w) (p:=x) (q:=y) ok ht h1 h2 hr hz hl).1,.bool _,fun _ _ _=> trivial⟩ (by rfl)
    .cases he
   .rename_i r ag zs ht hr hz
    split at he
    .rename_i hl
     simp only [oP] at he
     obtain ⟨rfl,rfl⟩:=he
     exact al ⟨_,(ZdH (w:=w) (p:=x) (q:=y) ok ht h1 h2 hr hz hl).2,.bool _,fun _ _ _=> trivial⟩ (by rfl)
    .cases he
   .cases he
  .cases he
 case unOp uop t x=>
  split at he
  .rename_i p hx
   cases hb:aUn Γ.wr uop p with
   | none=> simp [hb,Zjc] at he
   | some r=>
    obtain ⟨qs,c⟩:=r
    simp only [hb,Zjc,Qi,oP] at he
    obtain ⟨rfl,rfl⟩:=he
    exact al (ZuC (hop x (by simp [Op.operands]) _ hx).1 hb hps) (by rfl)
  .cases he
 case convert src dst' x=>
  split at he
  .rename_i k1 n1 k n0 k2 n hs hd hx
   simp only [oP] at he
   obtain ⟨rfl,rfl⟩:=he
   have h1:SimC cfg g.m (a.eval x) (.int k2 n):=(hop x (by simp [Op.operands]) _ hx).1
   have e1:a.eval x= .int k2 n:=h1.int_eq
   obtain ⟨_,i,z,d,q1,q2,q3,q4,q5,q6,q7,_⟩:=ok.var _ _ _ hs
   obtain ⟨_,i',z',d',r1,r2,r3,r4,r5,r6,r7,_⟩:=ok.var _ _ _ hd
   have cj:=r7 rfl k n0 rfl
   subst cj
   refine al (s:=convert src dst' (a.eval x)) ⟨.int k (k.wrap n),?_,.int _ _,fun _ _ _=> trivial⟩ (by rfl)
   rw [e1]
   simp [convert,run_underlying q2,run_underlying r2,Conv.intToInt]
  .cases he
 case makeSlice t n m=>
  split at he
  .rename_i T n' m' hT hn hm
   split at he
   .rename_i ag zs hz
    split at he
    .rename_i z hd
     have h1:SimC cfg g.m (a.eval n) (.int .i64 n'):=(hop n (by simp [Op.operands]) _ hn).1
     have h2:SimC cfg g.m (a.eval m) (.int .i64 m'):=(hop m (by simp [Op.operands]) _ hm).1
     cases hmu:st.strip.mu with
     | false=>
      simp only [hmu,cond_false] at he
      simp only [oP] at he
      obtain ⟨rfl,rfl⟩:=he
      exact ZdU ok h rfl hT h1.int_eq h2.int_eq hz hd hps.1 hps.2.1
     | true=>
      simp only [hmu,cond_true,Zlg] at he
      split at he
      .split at he
       .rename_i ar
        simp only [Q6,QO,QX] at ar
        simp only [oP] at he
        obtain ⟨rfl,rfl⟩:=he
        exact Zcs ok h ar.1 ar.2 rfl hT h1.int_eq h2.int_eq hz hd hps.1 hps.2.1
       .cases he
      .cases he
    .cases he
   .cases he
  .cases he
 case slice t x lo hi mx=>
  split at he
  .rename_i nm ak hx bc bf bb
   split at he
   .rename_i len et T cs ha hT a0
    split at he
    .rename_i hc
     obtain ⟨rfl,a9,ch,ce⟩:=hc
     split at he
     .rename_i l hl
      simp only [oP] at he
      obtain ⟨rfl,rfl⟩:=he
      have nn:∀ {y:Option Operand},Z1o st.strip y=some none->y=none:=by
       intro y hy
       cases y with
       | none=> rfl
       | some z=> simp [Z1o] at hy
      have e1:=nn bc
      have e2:=nn bf
      have e3:=nn bb
      subst e1 e2 e3
      exact Zfw ok h rfl ha ce (hop x (by simp [Op.operands]) _ hx) a0 a9 ch hl
     .cases he
    .cases he
   .cases he
  .rename_i u k n hx bc bf bb
   split at he
   .rename_i S y hS hy
    split at he
    .rename_i a8 _
     subst a8
     rw [cond_eq_ite] at he
     split at he
     .simp only [oP] at he
      obtain ⟨rfl,rfl⟩:=he
      have nn:∀ {y:Option Operand},Z1o st.strip y=some none->y=none:=by
       intro y hy
       cases y with
       | none=> rfl
       | some z=> simp [Z1o] at hy
      have e2:=nn bf
      have e3:=nn bb
      subst e2 e3
      cases lo with
      | none=> grind
      | some lo=>
       have hl:st.strip.opnd lo=some (.c (.int k n)):=by simpa [Z1o] using bc
       have h1:SimC cfg g.m (a.eval lo) (.int k n):=(hop lo (by simp [Op.operands]) _ hl).1
       obtain ⟨r,h2,h3⟩:=Zjl (k:=k) (live:=fun nm=> (st.mem nm).isSome) ok h hS hy (hop x (by simp [Op.operands]) _ hx) hps.1
       exact val ⟨r,h2,h3⟩ (by simp [execOp,h1.int_eq])
     .cases he
    .cases he
   .cases he
  .rename_i x' cb cf cg _ hx bc bf bb
   cases hb:Zlf cfg t x' cb cf cg with
   | none=> simp [hb,Zjc] at he
   | some r=>
    obtain ⟨qs,c⟩:=r
    simp only [hb,Zjc,Qi,oP] at he
    obtain ⟨rfl,rfl⟩:=he
    have ax:=hop x (by simp [Op.operands]) _ hx
    obtain ⟨r,h1,h2⟩:=Zle (w:=w) (live:=fun nm=> (st.mem nm).isSome) ok ax (Z9v (a:=a) bc fun y hy=> hop y (by simp [Op.operands,hy])) (Z9v (a:=a) bf fun y hy=> hop y (by simp [Op.operands,hy]))
     (Z9v (a:=a) bb fun y hy=> hop y (by simp [Op.operands,hy])) hb hps
    exact val (x:= .c c) ⟨r,h1,h2⟩ (by rfl)
  .cases he
 case fieldAddr t x f=>
  split at he
  .rename_i u n o' ak ft hx hf
   split at he
   .rename_i z hz
    split at he
    .rename_i hs
     simp only [oP] at he
     obtain ⟨rfl,rfl⟩:=he
     obtain ⟨y,hy⟩:=X4.1 hs
     exact val (ZcJ ok hf hz h hy (hop x (by simp [Op.operands]) _ hx)) (by rfl)
    .cases he
   .cases he
  .rename_i T o ak ft hx hf
   split at he
   .rename_i ag zs hv
    cases hp:Z9j (.ep (cfg.enc T (o.getD (cfg.dflt T)))) ak zs.length with
    | none=> grind
    | some v=>
     simp only [hp,Qi,oP] at he
     obtain ⟨rfl,rfl⟩:=he
     exact val (Z6f ok hf hv (ZwQ ok (hop x (by simp [Op.operands]) _ hx) hps.1) hp) (by rfl)
   .cases he
  .rename_i p ak ft br bl hx hf
   split at he
   .rename_i ag zs hv
    cases hp:Z9j p ak zs.length with
    | none=> grind
    | some v=>
     simp only [hp,Qi,oP] at he
     obtain ⟨rfl,rfl⟩:=he
     exact val (Z6f ok hf hv (hop x (by simp [Op.operands]) _ hx) hp) (by rfl)
   .cases he
  .cases he
 case field t x f=>
  split at he
  .rename_i cs ak ft hx hf
   split at he
   .rename_i ag zs hv
    split at he
    .rename_i be
     cases hp:mkV ag ((cs.drop ak).take zs.length) with
     | none=> grind
     | some v=>
      simp only [hp,Qi,oP] at he
      obtain ⟨rfl,rfl⟩:=he
      exact val (ZmQ ok hf hv (hop x (by simp [Op.operands]) _ hx) be hp) (by rfl)
    .cases he
   .cases he
  .cases he
 case indexAddr t x i=>
  split at he
  .rename_i T l tl k n hx hi
   split at he
   .rename_i S hS
    split at he
    .rename_i a8 _
     simp only [oP] at he
     obtain ⟨rfl,rfl⟩:=he
     subst a8
     have h1:SimC cfg g.m (a.eval i) (.int k n):=(hop i (by simp [Op.operands]) _ hi).1
     have e1:a.eval i= .int k n:=h1.int_eq
     refine val (ZdX (k:=k) ok hS (hop x (by simp [Op.operands]) _ hx) hps.1) ?_
     simp [execOp,e1]
    .cases he
   .cases he
  .rename_i u k n hx hi
   split at he
   .rename_i S y hS hy
    split at he
    .rename_i a8 _
     simp only [oP] at he
     obtain ⟨rfl,rfl⟩:=he
     subst a8
     have h1:SimC cfg g.m (a.eval i) (.int k n):=(hop i (by simp [Op.operands]) _ hi).1
     have e1:a.eval i= .int k n:=h1.int_eq
     refine val (ZcA (k:=k) ok h hS hy (hop x (by simp [Op.operands]) _ hx) hps.1) ?_
     simp [execOp,e1]
    .cases he
   .cases he
  .rename_i nm ak k n hx hi
   split at he
   .rename_i len et ha
    split at he
    .rename_i k0 n0 hv
     simp only [oP] at he
     obtain ⟨rfl,rfl⟩:=he
     have h1:SimC cfg g.m (a.eval i) (.int k n):=(hop i (by simp [Op.operands]) _ hi).1
     have e1:a.eval i= .int k n:=h1.int_eq
     refine val (Zh5 (k:=k) ok ha hv (hop x (by simp [Op.operands]) _ hx) hps.1) ?_
     simp [execOp,e1]
    .rename_i ag zs br hv
     split at he
     .rename_i hn
      simp only [oP] at he
      obtain ⟨rfl,rfl⟩:=he
      have h1:SimC cfg g.m (a.eval i) (.int k n):=(hop i (by simp [Op.operands]) _ hi).1
      have e1:a.eval i= .int k n:=h1.int_eq
      refine val (Z2D (k:=k) ok ha hv (hop x (by simp [Op.operands]) _ hx) hn) ?_
      simp [execOp,e1]
     .cases he
    .cases he
   .cases he
  .cases he
 case index t x i=>
  split at he
  .rename_i cs k n hx hi
   split at he
   .rename_i len et ha
    split at he
    .rename_i k0 n0 hv
     split at he
     .rename_i a9
      split at he
      .rename_i l hl
       simp only [oP] at he
       obtain ⟨rfl,rfl⟩:=he
       have h1:SimC cfg g.m (a.eval i) (.int k n):=(hop i (by simp [Op.operands]) _ hi).1
       have e1:a.eval i= .int k n:=h1.int_eq
       refine val (x:= .c _) (Zcz (k:=k) ok ha hv (hop x (by simp [Op.operands]) _ hx) a9 hl hps.1) ?_
       simp [execOp,e1]
      .cases he
     .cases he
    .rename_i ag zs br hv
     split at he
     .rename_i hn
      cases hp:mkV ag ((cs.drop (n.toNat*zs.length)).take zs.length) with
      | none=> grind
      | some v=>
       simp only [hp,Qi,oP] at he
       obtain ⟨rfl,rfl⟩:=he
       have h1:SimC cfg g.m (a.eval i) (.int k n):=(hop i (by simp [Op.operands]) _ hi).1
       have e1:a.eval i= .int k n:=h1.int_eq
       refine val (ZdW (k:=k) ok ha hv (hop x (by simp [Op.operands]) _ hx) ⟨hn.1,hn.2.1⟩ hn.2.2 hp) ?_
       simp [execOp,e1]
     .cases he
    .cases he
   .cases he
  .cases he
 case extract x i=>
  split at he
  .rename_i vs hx
   split at he
   .rename_i ag cs hi
    cases hp:mkV ag cs with
    | none=> grind
    | some v=>
     simp only [hp,Qi,oP] at he
     obtain ⟨rfl,rfl⟩:=he
     exact val (ZhD (hop x (by simp [Op.operands]) _ hx) hi hp) (by rfl)
   .cases he
  .cases he
 case call c=>
  unfold Zli at he
  split at he
  .rename_i b hb
   unfold Zhu at he
   have bo:execOp a.eval { dst,op:= .call c,type,pos,after,guard }=builtin b c.argTypes type (c.args.map fun | .const _=> true | _=> false) (c.args.map a.eval):=by
    simp only [execOp,resolve,hb]
    try rfl
   split at he
   .rename_i x t aj a2
    have e1:c.args=#[x]:=by apply Xn;simpa using aj
    have e2:c.argTypes=#[t]:=by apply Xn;simpa using a2
    split at he
    .rename_i v hx
     cases hl:lenOf cfg st.strip t v with
     | none=> grind
     | some cc=>
      simp only [hl,Qi,oP] at he
      obtain ⟨rfl,rfl⟩:=he
      have hr:=hop x (by simp [Op.operands,Call.operands,hb,e1]) v hx
      obtain ⟨r,h1,h2⟩:=ZtX (w:=w) (ty:=type) ok h hr (show lenOf cfg st t v=some cc from hl)
      refine val (x:= .c cc) ⟨r,h1,h2⟩ ?_
      rw [bo,e1,e2];simp [builtin]
    .cases he
   .rename_i x y t t' aj a2
    have e1:c.args=#[x,y]:=by apply Xn;simpa using aj
    have e2:c.argTypes=#[t,t']:=by apply Xn;simpa using a2
    split at he
    .rename_i d cx cy hd hx hy
     split at he
     .rename_i bt
      subst bt
      have ax:=hop x (by simp [Op.operands,Call.operands,hb,e1]) _ hx
      have a4:=hop y (by simp [Op.operands,Call.operands,hb,e1]) _ hy
      obtain ⟨callee,args,argTypes⟩:=c
      simp only at hb e1 e2
      subst hb e1 e2
      rw [cond_eq_ite] at he
      split at he
      .exact ZhL ok h rfl ax a4 he hps
      .exact Zld ok h rfl ax a4 he hps
     .have ax:=hop x (by simp [Op.operands,Call.operands,hb,e1]) _ hx
      have a4:=hop y (by simp [Op.operands,Call.operands,hb,e1]) _ hy
      obtain ⟨callee,args,argTypes⟩:=c
      simp only at hb e1 e2
      subst hb e1 e2
      exact ZhK ok h rfl ax a4 he hps
    .cases he
   .rename_i x t aj a2
    have e1:c.args=#[x]:=by apply Xn;simpa using aj
    have e2:c.argTypes=#[t]:=by apply Xn;simpa using a2
    split at he
    .rename_i u n hx
     have ax:=hop x (by simp [Op.operands,Call.operands,hb,e1]) _ hx
     obtain ⟨callee,args,argTypes⟩:=c
     simp only at hb e1 e2
     subst hb e1 e2
     exact Zn4 ok h rfl ax he hps
    .cases he
   .rename_i x y t t' aj a2
    have e1:c.args=#[x,y]:=by apply Xn;simpa using aj
    have e2:c.argTypes=#[t,t']:=by apply Xn;simpa using a2
    split at he
    .rename_i u n cy hx hy
     split at he
     .rename_i bt
      subst bt
      have ax:=hop x (by simp [Op.operands,Call.operands,hb,e1]) _ hx
      have a4:=hop y (by simp [Op.operands,Call.operands,hb,e1]) _ hy
      obtain ⟨callee,args,argTypes⟩:=c
      simp only at hb e1 e2
      subst hb e1 e2
      exact ZoS ok h rfl ax a4 he hps
     .cases he
    .cases he
   .rename_i x y aj
    have e1:c.args=#[x,y]:=by apply Xn;simpa using aj
    split at he
    .rename_i cx cy hx hy
     cases hl:Z8C false cx cy with
     | none=> grind
     | some cc=>
      simp only [hl,Qi,oP] at he
      obtain ⟨rfl,rfl⟩:=he
      obtain ⟨r,h1,h2⟩:=Zb7 (P:=P) (w:=w) (ts:=c.argTypes) (ty:=type) (hop x (by simp [Op.operands,Call.operands,hb,e1]) _ hx) (hop y (by simp [Op.operands,Call.operands,hb,e1]) _ hy) hl
      refine val (x:= .c cc) ⟨r,h1,h2⟩ ?_
      rw [bo,e1];simp [builtin]
    .cases he
   .rename_i x y aj
    have e1:c.args=#[x,y]:=by apply Xn;simpa using aj
    split at he
    .rename_i cx cy hx hy
     cases hl:Z8C true cx cy with
     | none=> grind
     | some cc=>
      simp only [hl,Qi,oP] at he
      obtain ⟨rfl,rfl⟩:=he
      obtain ⟨r,h1,h2⟩:=Zb7 (P:=P) (w:=w) (ts:=c.argTypes) (ty:=type) (hop x (by simp [Op.operands,Call.operands,hb,e1]) _ hx) (hop y (by simp [Op.operands,Call.operands,hb,e1]) _ hy) hl
      refine val (x:= .c cc) ⟨r,h1,h2⟩ ?_
      rw [bo,e1];simp [builtin]
    .cases he
   .cases he
  .rename_i gx hg
   split at he
   .rename_i f vs hf bp
    have ar:a.eval gx= .func (.func f) #[] #[]:=hop gx (by simp [Op.operands,Call.operands,hg]) _ hf
    obtain ⟨m1,m2⟩:=ZiA (st:=st.strip) (cfg:=cfg) (g:=g) (a:=a) bp (fun x hx v hv=> hop x (by simp [Op.operands,Call.operands,hg];right;simpa using hx) v hv)
    rw [cond_eq_ite] at he
    split at he
    .have e:Zj4 Γ st.strip f vs=Zj4 Γ st f vs:=rfl
     rw [e] at he
     exact Zoq hΓ h rfl hg ar ⟨by simpa using m1,fun j u x hu hx=> m2 j u x (by simpa using hu) hx⟩ he hps
    split at he
    .rename_i r hr
     cases he
     rw [cond_eq_ite] at hr
     split at hr
     .have e:∀ d,ZuE Γ st.strip d f vs=ZuE Γ st d f vs:=fun d=> rfl
      rw [e] at hr
      exact ZtH hΓ h rfl hg ar ⟨by simpa using m1,fun j u x hu hx=> m2 j u x (by simpa using hu) hx⟩ hr hps
     .cases hr
    rw [ZdO] at he
    exact Zhk hΓ h rfl hg (caps:=[]) ar ⟨by simpa using m1,fun j u x hu hx=> m2 j u x (by simpa using hu) hx⟩ he hps
   .rename_i f ay vs hf bp
    rw [ZdO] at he
    have ar:=hop gx (by simp [Op.operands,Call.operands,hg]) _ hf
    obtain ⟨m1,m2⟩:=ZiA (st:=st.strip) (cfg:=cfg) (g:=g) (a:=a) bp (fun x hx v hv=> hop x (by simp [Op.operands,Call.operands,hg];right;simpa using hx) v hv)
    refine Zhk hΓ h rfl hg (caps:=ay.map fun nm=> Value.pointer (some (g.ad nm))) ar.2 ⟨by simp [<-m1],fun j u x hu hx=> ?_⟩ he hps
    rw [QK] at hu hx
    split at hu
    .rename_i cz
     rw [Jq] at hx
     exact m2 j u x hu hx
    .rename_i c8
     rw [J3] at hx
     rw [<-m1] at hx
     rw [Qv] at hu hx
     cases hnm:ay[j - (List.map a.eval c.args.toList).length]? with
     | none=> grind
     | some nm=>
      rw [hnm] at hu hx
      cases hu;cases hx
      exact ⟨ar.1 nm (QS hnm),by rfl⟩
   .cases he
  .cases he
 case makeFunc fn first caps=>
  split at he
  .rename_i f ay cn hm
   simp only [oP] at he
   obtain ⟨rfl,rfl⟩:=he
   have bg:first=#[]:=by apply Xn;simpa using cn
   have ba:∀ (l:List Operand) (ay:List Name),(∀ x∈l,x∈caps.toList)->l.mapM (fun x=> (st.strip.opnd x).bind Ztp)=some ay->
     l.map a.eval=ay.map (fun nm=> Value.pointer (some (g.ad nm)))/\∀ nm∈ay,((st.mem nm).isSome || nm.isX)=true:=by
    intro l
    induction l with
    | nil=> grind
    | cons x l ih=>
     intro ay hl hm
     rw [X7] at hm
     cases h1:(st.strip.opnd x).bind Ztp with
     | none=> grind
     | some nm=>
      cases h2:l.mapM (fun x=> (st.strip.opnd x).bind Ztp) with
      | none=> grind
      | some r=>
       simp [h1,h2] at hm
       subst hm
       obtain ⟨h3,h4⟩:=ih r (fun y hy=> hl y (by simp [hy])) h2
       obtain ⟨v,h5,h6⟩:=bind_some h1
       have h7:=hop x (by
        have:=hl x (by simp)
        simp only [Op.operands]
        grind) v h5
       unfold Ztp at h6
       split at h6
       .cases h6
        obtain ⟨h8,h9⟩:=h7
        rw [Addr.add_zero'] at h9
        grind
       .cases h6
   obtain ⟨k1,k2⟩:=ba caps.toList ay (fun x hx=> hx) hm
   refine JN (v:= .func (.func f) #[] (caps.map a.eval)) h ?_ ⟨k2,?_⟩
   .simp [execOp,Instr.makeFunc,bg]
   .congr 1
    grind
  .cases he
def Wr(cfg:Cfg U)(g:Gh)(t:Tok)(x:LC U)(c:Addr):Prop:=
 ∃ b len cap,g.bs t=some (.slice (some b) len cap,cfg.sz x.T)/\∃ j,x.f*cfg.sz x.T<=j/\j < len*cfg.sz x.T/\c=b.add j
open Classical in
noncomputable def Gh.settled(g:Gh)(w:World)(R:Addr->Prop)(t:Tok):Gh:=
 {m:=fun c=> if R c then w.cell? c else g.m c
  tag:=fun c=> if R c then none else g.tag c
  ad:=g.ad
  bs:=fun u=> if u=t then none else g.bs u }
theorem Znh(ok:CfgOk P cfg){t:Tok}{x:LC U}(hL:LRel cfg w g t x){c:Addr}(hc:Wr cfg g t x c):g.tag c=some (.tok t)/\∃ v,w.cell? c=some v:=by
 obtain ⟨b,len,ah,h1,j,h2,h3,rfl⟩:=hc
 rcases hL with ⟨e1,_⟩ | ⟨b',len',cap',e1,e2,e3,e4,e5,e6⟩
 .grind
 .rw [h1] at e1
  cases e1
  have h:=ok.sz_pos x.T
  have hi:j / cfg.sz x.T < x.l.length:=by rw [e2];exact Xx (by grind)
  have s:j % cfg.sz x.T < (cfg.enc x.T (x.l[j / cfg.sz x.T])).length:=by rw [ok.enc_len];exact XR _ h
  obtain ⟨v,u,_,_,e8⟩:=e5 _ _ (Q4 hi) _ _ (Q4 s)
  have e:j / cfg.sz x.T*cfg.sz x.T+j % cfg.sz x.T=j:=by rw [Xs];exact XN _ _
  rw [e] at u e8
  exact ⟨e8 ((K8 h).2 h2),v,u⟩
section frz
variable {t:Tok} {x:LC U}
theorem Z4I(ok:CfgOk P cfg)(h:Rel cfg B st g a w)(hL:LRel cfg w g t x):∀ c v,g.m c=some v->(g.settled w (Wr cfg g t x) t).m c=some v:=by
 intro c v s
 simp only [Gh.settled]
 rw [if_neg]
 .exact s
 .intro hc
  have:=(Znh ok hL hc).1
  rw [(h.inv.im c v s).2] at this
  cases this
theorem Z46(ok:CfgOk P cfg)(hL:LRel cfg w g t x){c:Addr}{t':Tag}(hne:t'≠.tok t):g.tag c=some t'↔(g.settled w (Wr cfg g t x) t).tag c=some t':=by
 simp only [Gh.settled]
 split
 .rename_i hc
  rw [(Znh ok hL hc).1]
  grind
 grind
theorem Zar(ok:CfgOk P cfg)(h:Rel cfg B st g a w)(hL:LRel cfg w g t x){b:Addr}{len cap:Nat}(hbs:g.bs t=some (.slice (some b) len cap,cfg.sz x.T)):
  x.l.length=len/\len<=cap/\(∀ i y,x.l[i]?=some y->∀ j c,(cfg.enc x.T y)[j]?=some c->∃ v,(g.settled w (Wr cfg g t x) t).m (b.add (i*cfg.sz x.T+j))=some v/\SimC cfg (g.settled w (Wr cfg g t x) t).m v c)/\
   ∀ j,len*cfg.sz x.T<=j->j < cap*cfg.sz x.T->(g.settled w (Wr cfg g t x) t).tag (b.add j)=some (.tok t):=by
 rcases hL with ⟨e1,_⟩ | ⟨b',len',cap',e1,e2,e3,e4,e5,e6⟩
 .grind
 have s:LRel cfg w g t x:= .inr ⟨b',len',cap',e1,e2,e3,e4,e5,e6⟩
 have e0:=e1
 rw [hbs] at e0
 cases e0
 refine ⟨e2,e3,fun i y hy j c hc=> ?_,fun j a1 a2=> ?_⟩
 .obtain ⟨u,e7,e8,e9,ak⟩:=e5 i y hy j c hc
  refine ⟨u,?_,e8.mono (Z4I ok h s)⟩
  rcases XG i x.f with hi | hi
  .exact Z4I ok h s _ _ (e9 hi)
  .have hj:j < cfg.sz x.T:=by have:=(Q8.1 hc).1;rw [ok.enc_len] at this;exact this
   have aa:i < len:=by have:=(Q8.1 hy).1;omega
   have h1:x.f*cfg.sz x.T<=i*cfg.sz x.T:=Qf _ hi
   have h2:(i+1)*cfg.sz x.T<=len*cfg.sz x.T:=Qf _ aa
   rw [QJ] at h2
   simp only [Gh.settled]
   rw [if_pos ⟨b,len,cap,e1,_,JX,JX,rfl⟩]
   exact e7
 .simp only [Gh.settled]
  rw [if_neg]
  .grind
  .rintro ⟨b2,af,ae,h1,j2,h2,h3,h4⟩
   rw [e1] at h1
   cases h1
   have:=Z2h h4
   omega
theorem ZyY(ok:CfgOk P cfg)(h:Rel cfg B st g a w)(hd:st.dead t=false)(hL:LRel cfg w g t x){v:Value}{c:C U}(hr:RelC cfg g st.dead v c):
  RelC cfg (g.settled w (Wr cfg g t x) t) st.dead v (c.frz t x):=by
 have hm:=Z4I ok h hL
 cases c with
 | slice T l tl=>
  cases tl with
  | unk=> exact ⟨hr.1.mono hm,trivial⟩
  | full=> exact ⟨hr.1.mono hm,hr.2⟩
  | own u=>
   simp only [C.frz]
   split
   .exact ⟨(hr.1.tl _).mono hm,trivial⟩
   .rename_i aj
    exact ⟨hr.1.mono hm,fun ab b len ae hv j h1 h2=> (Z46 ok hL (fun e=> by grind)).1 (hr.2 ab b len ae hv j h1 h2)⟩
 | mref u=>
  simp only [C.frz]
  split
  .rename_i e
   subst e
   obtain ⟨s,hs⟩:=hr.2 hd
   rcases hL with ⟨e1,e2,e3⟩ | ⟨b',len',cap',e1,e2⟩
   .rw [hs] at e1
    cases e1
    obtain ⟨T,l,f⟩:=x
    simp only at e2
    subst e2
    exact ⟨.snil T _,fun _ b len ae hv=> by cases hv⟩
   .have ah:LRel cfg w g u x:= .inr ⟨b',len',cap',e1,e2⟩
    obtain ⟨r1,r2,r3,r4⟩:=Zar ok h ah e1
    rw [hs] at e1
    cases e1
    refine ⟨.of_rows _ r1 r2 r3,fun _ b len ae hv j h1 h2=> ?_⟩
    grind
  .rename_i aj
   refine ⟨.mref _ _ hr.1.one,fun ab=> ?_⟩
   obtain ⟨s,hs⟩:=hr.2 ab
   refine ⟨s,?_⟩
   simp only [Gh.settled]
   grind
 | jk=> exact ⟨.jk _ hr.1.one,trivial⟩
 | xp k=> exact ⟨.xp _ _ hr.1.one,hr.2⟩
 | int k n=> exact ⟨hr.1.mono hm,trivial⟩
 | bool b=> exact ⟨hr.1.mono hm,trivial⟩
 | nils=> exact ⟨hr.1.mono hm,trivial⟩
 | nilp=> exact ⟨hr.1.mono hm,trivial⟩
 | po T o=> exact ⟨hr.1.mono hm,trivial⟩
theorem ZKz(ok:CfgOk P cfg)(h:Rel cfg B st g a w)(hd:st.dead t=false)(hL:LRel cfg w g t x){vs:List Value}{cs:List (C U)}(hr:RelL cfg g st.dead vs cs):
  RelL cfg (g.settled w (Wr cfg g t x) t) st.dead vs (cs.map (C.frz t x)):=by
 refine ⟨by simp [hr.1],fun j v c s hc=> ?_⟩
 rw [Qv] at hc
 cases hj:cs[j]? with
 | none=> grind
 | some c0=>
  simp [hj] at hc
  subst hc
  exact ZyY ok h hd hL (hr.2 j v c0 s hj)
theorem ZKy(ok:CfgOk P cfg)(h:Rel cfg B st g a w)(hd:st.dead t=false)(hL:LRel cfg w g t x){live:Name->Bool}{v:Value}:∀ {y:V U},RelV cfg g st.dead live v y->
  RelV cfg (g.settled w (Wr cfg g t x) t) st.dead live v (y.frz cfg t x)
 | .c y,hr=> ZyY ok h hd hL (c:=y) hr
 | .agg cs,hr=> by obtain ⟨vs,h1,h2⟩:=hr;exact ⟨vs,h1,ZKz ok h hd hL h2⟩
 | .tup ws,hr=> by
  obtain ⟨vs,h1,h2,h3⟩:=hr
  refine ⟨vs,h1,by simp [h2],fun j u y hu hy=> ?_⟩
  rw [Qv] at hy
  cases hj:ws[j]? with
  | none=> grind
  | some w0=>
   simp [hj] at hy
   subst hy
   have:=h3 j u w0 hu hj
   obtain ⟨ag,cs⟩:=w0
   cases ag with
   | true=> obtain ⟨vs,h4,h5⟩:=this;exact ⟨vs,h4,ZKz ok h hd hL h5⟩
   | false=> obtain ⟨c,h4,h5⟩:=this;simp only at h4;subst h4;exact ⟨_,rfl,ZyY ok h hd hL h5⟩
 | .ptr _ _,hr=> hr
 | .ap ..,hr=> hr
 | .ep cs,hr=> by
  obtain ⟨b,h1,h2⟩:=hr
  refine ⟨b,h1,fun j c hc=> ?_⟩
  rw [Qv] at hc
  cases hj:cs[j]? with
  | none=> grind
  | some c0=>
   simp [hj] at hc
   subst hc
   obtain ⟨u,h3,h4⟩:=h2 j c0 hj
   exact ⟨u,Z4I ok h hL _ _ h3,ZyY ok h hd hL h4⟩
 | .mp u n off,hr=> by
  simp only [V.frz]
  split
  .rename_i e
   subst e
   obtain ⟨b,len,ae,s,h1,h2,rfl⟩:=hr hd
   have hs:s=cfg.sz x.T:=by
    rcases hL with ⟨e1,_⟩ | ⟨b',len',cap',e1,_⟩ <;> rw [h1] at e1 <;> cases e1
    try rfl
   subst hs
   obtain ⟨r1,r2,r3,r4⟩:=Zar ok h hL h1
   refine ⟨_,rfl,fun j c hc=> ?_⟩
   rw [Qz] at hc
   have ak:x.l[n]?=some (x.l.getD n (cfg.dflt x.T)):=by simp [List.getD,Q4 (show n < x.l.length by omega)]
   obtain ⟨u',h5,h6⟩:=r3 n _ ak _ c hc
   rw [Go.Deep.add_add,show n*cfg.sz x.T+off+j=n*cfg.sz x.T+(off+j) by omega]
   exact ⟨u',h5,h6,Z9s (ok.enc_plain _ _ c (QS hc))⟩
  .rename_i am
   intro af
   obtain ⟨b,len,ae,s,h1,h2,h3⟩:=hr af
   refine ⟨b,len,ae,s,?_,h2,h3⟩
   simp only [Gh.settled]
   grind
 | .vw u n,hr=> by
  simp only [V.frz]
  split
  .trivial
  .rename_i am
   intro af
   obtain ⟨b,len,ae,s,h1,h2,h3⟩:=hr af
   refine ⟨b,len,ae,s,?_,h2,h3⟩
   simp only [Gh.settled]
   grind
 | .fn _,hr=> hr
 | .clo _ _,hr=> hr
 | .gd b y,hr=> ⟨fun hb=> ZKy ok h hd hL (hr.1 hb),hr.2⟩
 | .nb _ _,hr=> hr
 | .junk,_=> trivial
theorem ZC9(ok:CfgOk P cfg)(h:Rel cfg B st g a w)(t:Tok):∃ g',Rel cfg B (st.frz1 cfg t) g' a w:=by
 unfold FSt.frz1
 cases hx:st.ls t with
 | none=> grind
 | some x=>
  obtain ⟨hd,hL⟩:=h.ls t x hx
  have hm:=Z4I ok h hL
  refine ⟨g.settled w (Wr cfg g t x) t,⟨fun c v hv=> ?_,fun c t' ht=> ?_⟩,?_,fun k=> ?_,fun nm cs hn j c hc=> ?_,h.sz,h.df,fun u y hy=> ?_,fun u hu s h2=> ?_⟩
  .by_cases hc:Wr cfg g t x c
   .simp only [Gh.settled] at hv ⊢
    grind
   .simp only [Gh.settled] at hv ⊢
    rw [if_neg hc] at hv ⊢
    exact h.inv.im c v hv
  .simp only [Gh.settled] at ht
   split at ht
   .cases ht
   .exact h.inv.it c t' ht
  .refine h.fr.step h.inv (Evo.refl w (fun _=> False)) (fun c hc=> hc.elim) hm (fun c t'=> Z46 ok hL (by simp)) ?_ (fun _=> rfl)
   intro b _ aj o sp
   simp only [Gh.settled]
   split
   .rename_i hc
    obtain ⟨t',h3⟩:=aj _ _ _ (Znh ok hL hc).1
    cases h3
   .try rfl
  .have hl:(fun nm=> ((st.mem nm).map fun cs=> cs.map (C.frz t x)).isSome)=fun nm=> (st.mem nm).isSome:=by funext nm;cases st.mem nm <;> rfl
   simp only [hl]
   exact ZKy ok h hd hL (h.env k)
  .simp only at hn
   cases hcs:st.mem nm with
   | none=> grind
   | some cs0=>
    rw [hcs] at hn
    simp only [Qi,Option.some.injEq] at hn
    subst hn
    rw [Qv] at hc
    cases hj:cs0[j]? with
    | none=> grind
    | some c0=>
     simp [hj] at hc
     subst hc
     obtain ⟨v,s,h2,h3⟩:=h.mem nm cs0 hcs j c0 hj
     exact ⟨v,s,(Z46 ok hL (by simp)).1 h2,ZyY ok h hd hL h3⟩
  .simp only at hy
   split at hy
   .cases hy
   .rename_i ae
    obtain ⟨s,h2⟩:=h.ls u y hy
    have hk:Keeps g (g.settled w (Wr cfg g t x) t) st.dead (fun u=> st.dead u || decide (u=t)) (fun _=> false) (fun _=> false):=by
     refine ⟨hm,fun c u hu ht=> ?_,fun u hu=> by grind,fun nm hn=> (by cases hn),fun u v hu hv=> ?_,fun _=> rfl⟩
     .simp only [QB,decide_eq_false_iff_not] at hu
      exact (Z46 ok hL (fun e=> by grind)).1 ht
     .simp only [QB,decide_eq_false_iff_not] at hu
      simp only [Gh.settled]
      grind
    exact ⟨s,h2.keep hk (by simp [s,ae]) (fun c v hv=> (h.inv.im c v hv).1) (fun _ _=> rfl)⟩
  .simp only at s
   simp only [Gh.settled]
   split
   .try rfl
   .rename_i ae
    rw [if_neg ae] at s
    exact h.fresh u hu s h2
end frz
theorem ZoL(ok:CfgOk P cfg):∀ (ts:List Tok) {st:FSt U} {g:Gh},Rel cfg B st g a w->∃ g',Rel cfg B (st.frz cfg ts) g' a w
 | [],st,g,h=> ⟨g,h⟩
 | t ::ts,st,g,h=> by
  obtain ⟨u,s⟩:=ZC9 ok h t
  exact ZoL ok ts s
theorem ZyX:∀ (ts:List Tok) (st:FSt U),(st.frz cfg ts).n=st.n
 | [],st=> rfl
 | t ::ts,st=> by
  show ((st.frz1 cfg t).frz cfg ts).n=st.n
  rw [ZyX ts]
  unfold FSt.frz1
  grind
theorem Zmc{α:Type}(st:FSt U)(k:FSt U->α)(ts:List Tok):Z70 cfg st k ts=k (Z70 cfg st id ts):=by cases ts <;> rfl
theorem ZcP{Γ:Known U}{ops:Array Oper}{fz:Bool}{o:Oper}{r:List Oper}:Zhp cfg Γ ops fz (o ::r) st=match Z6i cfg Γ ops o (st.pre cfg Γ fz o) with
  | none=> none
  | some (ps,e)=> match Zhp cfg Γ ops fz r ((st.pre cfg Γ fz o).app o.dst e) with
   | none=> none
   | some (qs,st')=> some (ps++qs,st'):=by
 show Z70 cfg st _ _=_
 rw [Zmc]
 try rfl
theorem ZFr{Γ:Known U}(ok:CfgOk P cfg)(h:Rel cfg B st g a w)(fz:Bool)(o:Oper):∃ g',Rel cfg B (st.pre cfg Γ fz o) g' a w:=by
 unfold FSt.pre
 generalize (bif fz then ZeE Γ o st else [])=ts
 cases ts with
 | nil=> exact ⟨g,h⟩
 | cons t r=> exact ZoL ok _ h
theorem ZKj{Γ:Known U}(fz:Bool)(o:Oper):(st.pre cfg Γ fz o).n=st.n:=by
 unfold FSt.pre
 generalize (bif fz then ZeE Γ o st else [])=ts
 cases ts with
 | nil=> rfl
 | cons t r=> exact ZyX _ st
theorem ZFs{Γ:Known U}(o:Oper):st.pre cfg Γ false o=st:=rfl
end Go.AM
namespace Go.AM
variable {U:Uni} {P:Program} {cfg:Cfg U} {B:Base} {st:FSt U} {g:Gh} {a:Act} {w:World}
theorem FSt.app_gd(st:FSt U){v:Value}{x:V U}{w':World}{g':Gh}(o:Out cfg B st g { val:=some x } v w' g'):Out cfg B st g { val:=some (.gd true x) } v w' g':=
 ⟨o.inv,o.fr,o.keep,o.mem,⟨fun _=> o.val,fun h=> by cases h⟩,o.ls,o.fresh⟩
theorem FSt.app_gdm(st:FSt U){v:Value}{x:V U}{m:List (Name × List (C U))}{w':World}{g':Gh}(o:Out cfg B st g { val:=some x,mem:=m } v w' g'):Out cfg B st g { val:=some (.gd true x),mem:=m } v w' g':=
 ⟨o.inv,o.fr,o.keep,o.mem,⟨fun _=> o.val,fun h=> by cases h⟩,o.ls,o.fresh⟩
theorem Zn0{v:V U}{b:Bool}(h:v.deX= .c (.bool b)):v= .c (.bool b):=by
 unfold V.deX at h
 grind
theorem ZoJ{tyEq:DecidableEq U.Ty}{c c' x:C U}(h:ZmK tyEq true c c'=some x):x=c':=by
 unfold ZmK at h
 split at h
 .split at h
  .rename_i e;subst e;cases h;rfl
  .cases h
 .cases h;rfl
 .cases h;rfl
 .cases h;rfl
 .split at h
  .rename_i e;subst e;cases h;rfl
  .cases h
 .split at h
  .rename_i e _;subst e;cases h;rfl
  .cases h
 .split at h
  .rename_i e _;subst e;cases h;rfl
  .cases h
 .cases h
theorem ZmJ{tyEq:DecidableEq U.Ty}{c c' x:C U}(h:ZmK tyEq false c c'=some x):x=c:=by
 unfold ZmK at h
 split at h
 .split at h
  .cases h;rfl
  .cases h
 .cases h;rfl
 .cases h;rfl
 .cases h;rfl
 .split at h
  .cases h;rfl
  .cases h
 .split at h
  .cases h;rfl
  .cases h
 .split at h
  .cases h;rfl
  .cases h
 .cases h
theorem Zh4{tyEq:DecidableEq U.Ty}:∀ {a b x:List (C U)},ZdE tyEq true a b=some x->x=b
 | [],[],x,h=> by simp only [ZdE,Option.some.injEq] at h;exact h.symm
 | c ::r,c' ::r',x,h=> by
  simp only [ZdE] at h
  split at h
  .rename_i y z u s
   cases h
   rw [ZoJ u,Zh4 s]
  .cases h
theorem ZdD{tyEq:DecidableEq U.Ty}:∀ {a b x:List (C U)},ZdE tyEq false a b=some x->x=a
 | [],[],x,h=> by simp only [ZdE,Option.some.injEq] at h;exact h.symm
 | c ::r,c' ::r',x,h=> by
  simp only [ZdE] at h
  split at h
  .rename_i y z u s
   cases h
   rw [ZmJ u,ZdD s]
  .cases h
theorem Zh3{tyEq:DecidableEq U.Ty}{m0:Name->Option (List (C U))}:∀ {m m':List (Name × List (C U))},Z4Z tyEq true m0 m=some m'->m'=m
 | [],m',h=> by simp only [Z4Z,Option.some.injEq] at h;exact h.symm
 | (nm,cs) ::r,m',h=> by
  simp only [Z4Z] at h
  split at h
  .cases h
  .split at h
   .rename_i y z u s
    cases h
    rw [Zh4 u,Zh3 s]
   .cases h
theorem ZdB{tyEq:DecidableEq U.Ty}{m0:Name->Option (List (C U))}:∀ {m m':List (Name × List (C U))},Z4Z tyEq false m0 m=some m'->∀ nm,ZW m0 m' nm=m0 nm
 | [],m',h,nm=> by simp only [Z4Z,Option.some.injEq] at h;subst h;rfl
 | (n0,cs) ::r,m',h,nm=> by
  simp only [Z4Z] at h
  split at h
  .cases h
  .rename_i u s
   split at h
   .rename_i y z h1 h2
    cases h
    simp only [ZW]
    split
    .rename_i e
     subst e
     rw [s,ZdD h1]
    .exact ZdB h2 nm
   .cases h
theorem Rel.pureM (h:Rel cfg B st g a w) {v:Value} {x:V U} {m:List (Name × List (C U))} (hm:∀ nm,ZW st.mem m nm=st.mem nm)
  (hv:RelV cfg g st.dead (fun nm=> (st.mem nm).isSome) v x):Out cfg B st g { val:=some x,mem:=m } v w g:=by
 have u:Zq st ({ val:=some x,mem:=m }:Eff U)=st.dead:=by funext t;simp [Zq]
 have hl:Yg st ({ val:=some x,mem:=m }:Eff U)=fun nm=> (st.mem nm).isSome:=by funext nm;simp only [Yg,hm]
 refine ⟨h.inv,h.fr,?_,?_,?_,by rw [u];exact fun t x hx=> h.ls t x hx,by rw [u];exact fun t h0 h1 h2=> h.fresh t h0 h1 h2⟩
 .rw [u,hl];exact .refl _ _ _
 .rw [u]
  intro nm cs s
  rw [hm] at s
  exact h.mem nm cs s
 grind
theorem All.map_imp{G:Bool}:∀ {ps:List Prop},All (ps.map fun p=> (G=true->p))->G=true->All ps
 | [],_,_=> trivial
 | _ ::_,h,hG=> ⟨h.1 hG,All.map_imp h.2 hG⟩
theorem Z20{G:Option Bool}{c:Prop}{v:V U}{b:Bool}{u:V U}(h:All (ZdG G c v))(hv:v= .gd b u)(hG:∀ b,G=some b->b=true)(hc:c):b=true:=by
 subst hv
 cases G with
 | none=> exact h.1 hc
 | some b'=> exact h.1 (hG b' rfl) hc
theorem ZhN(h:Rel cfg B st g a w){ops:Array Oper}{o:Oper}{G:Option Bool}(hG:Z61 ops st o=some G):
  match G with
  | none=> Region.wanted o (yielded ops a.tmps)=true
  | some b=> Region.wanted o (yielded ops a.tmps)=b:=by
 unfold Z61 at hG
 split at hG
 .rename_i hg
  cases hG
  simp [Region.wanted,hg]
 .rename_i j ae hg
  split at hG
  .rename_i t ht
   have ab:∀ b0:Bool,a.tmps.getD t undef= .bool b0->Region.wanted o (yielded ops a.tmps)=(if ae then b0 else !b0):=by
    intro b0 e1
    have af:t < a.tmps.size:=by
     rcases XG t a.tmps.size with h1 | h1
     .exact h1
     .simp [Array.getD,Nat.not_lt.2 h1,undef] at e1
    have e2:a.tmps[t]?=some (.bool b0):=by
     rw [QY af]
     simpa [Array.getD,af] using e1
    have hy:yielded ops a.tmps j=some b0:=by simp [yielded,ht,e2]
    simp only [Region.wanted,hg,hy]
    grind
   split at hG
   .rename_i b0 s
    cases hG
    have u:=h.env t
    rw [s] at u
    exact ab b0 (SimC.bool_eq (h:=u.1))
   .rename_i g0 b0 s
    cases hG
    have u:=h.env t
    rw [s] at u
    cases g0 with
    | true=>
     show Region.wanted o (yielded ops a.tmps)=(true && _)
     rw [QL]
     exact ab b0 (SimC.bool_eq (h:=(u.1 rfl).1))
    | false=>
     have e1:=u.2 rfl
     have hy:yielded ops a.tmps j=none:=by
      simp only [yielded,ht,Qn]
      cases e2:a.tmps[t]? with
      | none=> rfl
      | some v=>
       have:a.tmps.getD t undef=v:=by
        obtain ⟨h1,h2⟩:=QV.1 e2
        simp [Array.getD,h1,h2]
       rw [this] at e1
       subst e1
       try rfl
     show Region.wanted o (yielded ops a.tmps)=(false && _)
     simp only [Region.wanted,hg,hy,XU]
     try rfl
   .cases hG
  .cases hG
theorem ZdL {Γ:Known U} (ok:CfgOk P cfg) (hΓ:∀ f s,Γ f=some s->Contract P cfg f s) (h:Rel cfg B st g a w) {ops:Array Oper} {o:Oper} {ps:List Prop} {e:Eff U}
  (he:Z6i cfg Γ ops o st=some (ps,e)) (hps:All ps) {K:Act->World->Prop} {Q:Exit->Act->World->Prop}
  (hK:∀ g' a' w',Rel cfg B (st.app o.dst e) g' a' w'->K a' w'):
  if Region.wanted o (yielded ops a.tmps) then o.wp P a w K Q else K (a.put o.dst undef) w:=by
 unfold Z6i at he
 split at he
 case isFalse=> cases he
 rename_i hd
 unfold ZEF at hd
 have au:∀ k,o.dst=some k->k < st.n:=by
  intro k hk
  rw [hk] at hd
  exact Nat.blt_eq.mp hd
 have fin:∀ {e:Eff U},(∀ g' a' w',Rel cfg B (st.app o.dst e) g' a' w'->K a' w')->(Does P o a w fun v w'=> ∃ g',Out cfg B st g e v w' g')->o.wp P a w K Q:=by
  intro e hK hD
  refine Oper.wp_mono ?_ (Does.wp (Q:=Q) hD)
  rintro a' w' ⟨v,rfl,g',hO⟩
  exact hK g' _ _ (h.app hO au)
 have a4:∀ {v:V U} {m:List (Name × List (C U))},(∀ nm,ZW st.mem m nm=st.mem nm)->(∀ g' a' w',Rel cfg B (st.app o.dst { val:=some (.gd false v),mem:=m }) g' a' w'->K a' w')->Region.wanted o (yielded ops a.tmps)=false->
   if Region.wanted o (yielded ops a.tmps) then o.wp P a w K Q else K (a.put o.dst undef) w:=by
  intro v m hm hK hw
  rw [if_neg (by rw [hw];simp)]
  have hO:Out cfg B st g { val:=some (.gd false v),mem:=m } undef w g:=h.pureM hm ⟨fun hb=> (by cases hb),fun _=> rfl⟩
  exact hK g _ _ (h.app hO au)
 have ao:∀ {v:V U},(∀ g' a' w',Rel cfg B (st.app o.dst { val:=some (.gd false v) }) g' a' w'->K a' w')->Region.wanted o (yielded ops a.tmps)=false->
   if Region.wanted o (yielded ops a.tmps) then o.wp P a w K Q else K (a.put o.dst undef) w:=by
  intro v hK hw
  rw [if_neg (by rw [hw];simp)]
  have hO:Out cfg B st g { val:=some (.gd false v) } undef w g:=h.pure ⟨fun hb=> (by cases hb),fun _=> rfl⟩
  exact hK g _ _ (h.app hO au)
 split at he
 .rename_i c x y a0
  split at he
  .rename_i G c0 x0 y0 hG hc hx hy
   have aa:=ZhN h hG
   have get:∀ {z:Operand} {v:V U} {b:Bool},st.opnd z=some v->v.strip= .c (.bool b)->(∀ b' u,v= .gd b' u->b'=true)->a.eval z= .bool b:=by
    intro z v b hz hs hg
    have hr:RelV cfg g st.dead (fun nm=> (st.mem nm).isSome) (a.eval z) v:=by
     cases z with
     | tmp t=> simp only [FSt.opnd,Option.some.injEq] at hz;subst hz;exact h.env t
     | const c=> exact Z4d hz
     | func f=> simp only [FSt.opnd,Option.some.injEq] at hz;subst hz;rfl
     | global g=> trivial
    cases v with
    | gd b' u=>
     have hs:=Zn0 (v:=u) hs
     subst hs
     exact SimC.bool_eq (hr.1 (hg _ _ rfl)).1
    | c u=> have hs:=Zn0 (v:= .c u) hs;cases hs;exact SimC.bool_eq hr.1
    | _=> trivial
   have one:∀ {b:Bool},(∀ g' a' w',Rel cfg B (st.app o.dst { val:=some (gV G (.c (.bool b))) }) g' a' w'->K a' w')->((∀ q,G=some q->q=true)->Does P o a w fun v w'=> ∃ g',Out cfg B st g { val:=some (.c (.bool b)) } v w' g')->
     if Region.wanted o (yielded ops a.tmps) then o.wp P a w K Q else K (a.put o.dst undef) w:=by
    intro b hK a1
    cases G with
    | none=>
     rw [if_pos aa]
     exact fin hK (a1 (fun _ hh=> by cases hh))
    | some Gb=>
     cases Gb with
     | true=>
      rw [if_pos aa]
      refine fin (e:={ val:=some (.gd true (.c (.bool b))) }) hK ?_
      have:=a1 (fun _ hh=> by cases hh;rfl)
      rcases this with ⟨u,w',h1,g',h2⟩ | ⟨w',h1,g',h2⟩ | ⟨f,args,w',h1,h2⟩
      .exact .inl ⟨u,w',h1,g',FSt.app_gd st h2⟩
      .exact .inr (.inl ⟨w',h1,g',FSt.app_gd st h2⟩)
      .exact .inr (.inr ⟨f,args,w',h1,Calls.mono h2 fun e ba ⟨u,he,g',h3⟩=> ⟨u,he,g',FSt.app_gd st h3⟩⟩)
     | false=> exact ao hK aa
   split at he
   .rename_i cv av bv aw a2 a5
    simp only [oP] at he
    obtain ⟨rfl,rfl⟩:=he
    obtain ⟨ax,a9⟩:=All.append hps
    obtain ⟨ah,ak⟩:=All.append a9
    refine one hK fun aj=> ?_
    have ec:=get hc aw (fun b' u hh=> Z20 ax hh aj trivial)
    refine JN (v:= .bool (bif cv then av else bv)) h ?_ ⟨.bool _,trivial⟩
    cases cv with
    | true=>
     have ex:=get hx a2 (fun b' u hh=> Z20 ah hh aj rfl)
     simp [execOp,a0,ec,asBool,ex]
    | false=>
     have ey:=get hy a5 (fun b' u hh=> Z20 ak hh aj rfl)
     simp [execOp,a0,ec,asBool,ey]
   .rename_i av aw a2 a8
    simp only [oP] at he
    obtain ⟨rfl,rfl⟩:=he
    obtain ⟨ax,ah⟩:=All.append hps
    refine one hK fun aj=> ?_
    have ec:=get hc aw (fun b' u hh=> Z20 ax hh aj trivial)
    have ex:=get hx a2 (fun b' u hh=> Z20 ah hh aj trivial)
    exact JN (v:= .bool av) h (by simp [execOp,a0,ec,asBool,ex]) ⟨.bool _,trivial⟩
   .rename_i bv aw a5 a8
    simp only [oP] at he
    obtain ⟨rfl,rfl⟩:=he
    obtain ⟨ax,ah⟩:=All.append hps
    refine one hK fun aj=> ?_
    have ec:=get hc aw (fun b' u hh=> Z20 ax hh aj trivial)
    have ey:=get hy a5 (fun b' u hh=> Z20 ah hh aj trivial)
    exact JN (v:= .bool bv) h (by simp [execOp,a0,ec,asBool,ey]) ⟨.bool _,trivial⟩
   .cases he
  .cases he
 .split at he
  .cases he
  rename_i G hG
  have aa:=ZhN h hG
  split at he
  .split at he
   .simp only [oP] at he
    obtain ⟨rfl,rfl⟩:=he
    exact ao hK aa
   .cases he
  rename_i bu e' aq
  split at he
  .simp only [oP] at he
   obtain ⟨rfl,rfl⟩:=he
   obtain ⟨ah,ak⟩:=All.append hps
   rw [if_pos aa]
   exact fin hK (Z8y ok hΓ h (fun x hx v hv=> ZaQ h none ah (fun b hb=> by cases hb) x hx v hv) aq ak)
  .rename_i Gb
   split at he
   .rename_i v
    simp only [oP] at he
    obtain ⟨rfl,rfl⟩:=he
    obtain ⟨ah,ak⟩:=All.append hps
    cases Gb with
    | true=>
     rw [if_pos aa]
     exact fin (e:={ val:=some (.gd true v) }) hK (by
      have:=Z8y ok hΓ h (fun x hx v hv=> ZaQ h (some true) ah (fun b hb=> by cases hb;rfl) x hx v hv) aq (All.map_imp ak rfl)
      rcases this with ⟨u,w',h1,g',h2⟩ | ⟨w',h1,g',h2⟩ | ⟨f,args,w',h1,h2⟩
      .exact .inl ⟨u,w',h1,g',FSt.app_gd st h2⟩
      .exact .inr (.inl ⟨w',h1,g',FSt.app_gd st h2⟩)
      .exact .inr (.inr ⟨f,args,w',h1,Calls.mono h2 fun e ba ⟨u,he,g',h3⟩=> ⟨u,he,g',FSt.app_gd st h3⟩⟩))
    | false=> exact ao hK aa
   .rename_i v m a8
    split at he
    .rename_i m' bl hj
     simp only [oP] at he
     obtain ⟨rfl,rfl⟩:=he
     obtain ⟨ah,ak⟩:=All.append hps
     cases Gb with
     | true=>
      rw [if_pos aa]
      have em:=Zh3 hj
      subst em
      exact fin (e:={ val:=some (.gd true v),mem:=m' }) hK (by
       have:=Z8y ok hΓ h (fun x hx v hv=> ZaQ h (some true) ah (fun b hb=> by cases hb;rfl) x hx v hv) aq (All.map_imp ak rfl)
       rcases this with ⟨u,w',h1,g',h2⟩ | ⟨w',h1,g',h2⟩ | ⟨f,args,w',h1,h2⟩
       .exact .inl ⟨u,w',h1,g',FSt.app_gdm st h2⟩
       .exact .inr (.inl ⟨w',h1,g',FSt.app_gdm st h2⟩)
       .exact .inr (.inr ⟨f,args,w',h1,Calls.mono h2 fun e ba ⟨u,he,g',h3⟩=> ⟨u,he,g',FSt.app_gdm st h3⟩⟩))
     | false=> exact a4 (ZdB hj) hK aa
    .cases he
   .cases Gb with
    | true=>
     simp only [oP] at he
     obtain ⟨rfl,rfl⟩:=he
     obtain ⟨ah,ak⟩:=All.append hps
     rw [if_pos aa]
     exact fin hK (Z8y ok hΓ h (fun x hx v hv=> ZaQ h (some true) ah (fun b hb=> by cases hb;rfl) x hx v hv) aq ak)
    | false=>
     simp only [oP] at he
     obtain ⟨rfl,rfl⟩:=he
     exact ao hK aa
theorem Zho{Γ:Known U}(ok:CfgOk P cfg)(hΓ:∀ f s,Γ f=some s->Contract P cfg f s){ops:Array Oper}{fz:Bool}{Q:Exit->Act->World->Prop}:∀ (l:List Oper) (st st':FSt U) (g:Gh) (a:Act) (w:World) (ps:List Prop),
  Rel cfg B st g a w->Zhp cfg Γ ops fz l st=some (ps,st')->All ps->(∀ g' u w',Rel cfg B st' g' u w'->Q .normal u w')->wpList P ops Q l a w
 | [],st,st',g,a,w,ps,h,he,hps,hQ=> by
  simp only [Zhp,oP] at he
  obtain ⟨rfl,rfl⟩:=he
  exact hQ g a w h
 | o ::l,st,st',g,a,w,ps,h,he,hps,hQ=> by
  rw [ZcP] at he
  split at he
  .cases he
  .rename_i am e1 h1
   split at he
   .cases he
   .rename_i qs ak h2
    simp only [oP] at he
    obtain ⟨rfl,rfl⟩:=he
    obtain ⟨ab,af⟩:=All.append hps
    obtain ⟨g0,h0⟩:=ZFr ok h fz o
    refine wpList_step fun K hK=> ZdL ok hΓ h0 h1 ab fun g' u w' h'=> hK u w' ?_
    exact Zho ok hΓ l _ _ g' u w' qs h' h2 af hQ
def V.shut(nm:Name)(T:U.Ty)(x:U.El T):V U->V U
 | .ptr n off=> if n=nm then (if off=0 then .c (.po T (some x)) else .junk) else .ptr n off
 | .ap n off k len i=> if n=nm then .junk else .ap n off k len i
 | .clo f nms=> if nm∈nms then .junk else .clo f nms
 | .gd b v=> .gd b (v.shut nm T x)
 | v=> v
def FSt.shut1(cfg:Cfg U)(st:FSt U)(nm:Name)(T:U.Ty):FSt U:=
 match st.mem nm with
 | none=> st
 | some cs=> match cfg.dec T cs with
  | none=> st
  | some x=> { st with env:=fun k=> (st.env k).shut nm T x,mem:=fun n=> if n=nm then none else st.mem n }
def FSt.shutK(cfg:Cfg U)(st:FSt U)(k:Nat)(T:U.Ty):FSt U:=
 match st.env k with
 | .ptr (.loc s) 0=> st.shut1 cfg (.loc s) T
 | _=> st
def FSt.shuts(cfg:Cfg U)(st:FSt U):List (Nat × U.Ty)->FSt U
 | []=> st
 | x ::r=> (st.shutK cfg x.1 x.2).shuts cfg r
def Z3C{α:Type}(cfg:Cfg U)(st:FSt U)(k:FSt U->α):List (Nat × U.Ty)->α
 | []=> k st
 | x ::r=> k (st.shuts cfg (x ::r))
def Ob(g:Gh)(nm:Name)(n:Nat)(c:Addr):Prop:=∃ j,j < n/\c=(g.ad nm).add j
open Classical in
noncomputable def Gh.shutG(g:Gh)(w:World)(R:Addr->Prop):Gh:=
 {m:=fun c=> if R c then w.cell? c else g.m c
  tag:=fun c=> if R c then none else g.tag c
  ad:=g.ad
  bs:=g.bs }
section shut
variable {nm:Name} {cs:List (C U)}
theorem Zob(h:Rel cfg B st g a w)(hcs:st.mem nm=some cs){c:Addr}(hc:Ob g nm cs.length c):g.tag c=some (.obj nm)/\∃ v,w.cell? c=some v:=by
 obtain ⟨j,s,rfl⟩:=hc
 obtain ⟨v,u,h2,_⟩:=h.mem nm cs hcs j _ (Q4 s)
 grind
theorem Zjm(h:Rel cfg B st g a w)(hcs:st.mem nm=some cs):∀ c v,g.m c=some v->(g.shutG w (Ob g nm cs.length)).m c=some v:=by
 intro c v s
 simp only [Gh.shutG]
 rw [if_neg]
 .exact s
 .intro hc
  have:=(Zob h hcs hc).1
  rw [(h.inv.im c v s).2] at this
  cases this
theorem Zfx(h:Rel cfg B st g a w)(hcs:st.mem nm=some cs){c:Addr}{t:Tag}(hne:t≠.obj nm):g.tag c=some t↔(g.shutG w (Ob g nm cs.length)).tag c=some t:=by
 simp only [Gh.shutG]
 split
 .rename_i hc
  rw [(Zob h hcs hc).1]
  grind
 grind
theorem Z1Q(h:Rel cfg B st g a w)(hcs:st.mem nm=some cs):Keeps g (g.shutG w (Ob g nm cs.length)) st.dead st.dead (fun _=> false) (fun _=> false):=
 ⟨Zjm h hcs,fun _ _ _ ht=> (Zfx h hcs (by simp)).1 ht,fun _ s=> s,fun _ hn=> (by cases hn),fun _ _ _ u=> u,fun _=> rfl⟩
theorem ZEf(ok:CfgOk P cfg)(h:Rel cfg B st g a w)(hcs:st.mem nm=some cs){T:U.Ty}{x:U.El T}(hx:cfg.dec T cs=some x){v:Value}:∀ {y:V U},RelV cfg g st.dead (fun n=> (st.mem n).isSome) v y->
  RelV cfg (g.shutG w (Ob g nm cs.length)) st.dead (fun n=> (if n=nm then none else st.mem n).isSome) v (y.shut nm T x)
 | .c y,hr=> RelC.keep (Z1Q h hcs) (c:=y) hr
 | .agg cs,hr=> by obtain ⟨vs,h1,h2⟩:=hr;exact ⟨vs,h1,h2.keep (Z1Q h hcs)⟩
 | .tup ws,hr=> by obtain ⟨vs,h1,h2,h3⟩:=hr;exact ⟨vs,h1,h2,fun j u w hu hw=> (h3 j u w hu hw).keep (Z1Q h hcs)⟩
 | .ptr n off,hr=> by
  obtain ⟨h1,h2⟩:=hr
  simp only [V.shut]
  split
  .rename_i e
   subst e
   split
   .rename_i e
    subst e
    obtain ⟨d1,d2⟩:=ok.dec_ok T cs x hx
    have e0:(g.ad n).add 0=g.ad n:=by simp [Addr.add]
    rw [h2,e0]
    have ae:∀ j c,(cfg.enc T x)[j]?=some c->∃ u,w.cell? ((g.ad n).add j)=some u/\SimC cfg (g.shutG w (Ob g n cs.length)).m u c/\(g.shutG w (Ob g n cs.length)).m ((g.ad n).add j)=some u:=by
     intro j c hc
     have hj:j < cs.length:=by rw [d1];exact (Q8.1 hc).1
     obtain ⟨u,k1,k2,k3⟩:=h.mem n cs hcs j _ (Q4 hj)
     refine ⟨u,k1,(k3.1.mono (Zjm h hcs)).wk (d2 j _ _ (Q4 hj) hc),?_⟩
     simp only [Gh.shutG]
     rw [if_pos ⟨j,hj,rfl⟩]
     exact k1
    refine ⟨.po T x _ (fun j=> (w.cell? ((g.ad n).add j)).getD undef) (fun j c hc=> ?_) (fun j c hc=> ?_),trivial⟩
    .obtain ⟨u,k1,_,k3⟩:=ae j c hc
     rw [k1];exact k3
    .obtain ⟨u,k1,k2,_⟩:=ae j c hc
     rw [k1];exact k2
   .exact trivial
  .rename_i s
   exact ⟨by show ((if n=nm then none else st.mem n).isSome || n.isX)=true;rw [if_neg s];exact h1,h2⟩
 | .ap n off k len i,hr=> by
  simp only [V.shut]
  split
  .exact trivial
  .rename_i s
   exact ⟨by show ((if n=nm then none else st.mem n).isSome || n.isX)=true;rw [if_neg s];exact hr.1,hr.2⟩
 | .ep cs,hr=> by
  obtain ⟨b,h1,h2⟩:=hr
  exact ⟨b,h1,fun j c hc=> let ⟨u,hu,hc⟩:=h2 j c hc;⟨u,Zjm h hcs _ _ hu,hc.keep (Z1Q h hcs)⟩⟩
 | .mp t n off,hr=> hr
 | .vw t n,hr=> hr
 | .fn _,hr=> hr
 | .clo f nms,hr=> by
  simp only [V.shut]
  split
  .exact trivial
  .rename_i s
   refine ⟨fun n hn=> ?_,hr.2⟩
   show ((if n=nm then none else st.mem n).isSome || n.isX)=true
   rw [if_neg (fun e=> s (by rw [<-e];exact hn))]
   exact hr.1 n hn
 | .gd b y,hr=> ⟨fun hb=> ZEf ok h hcs hx (hr.1 hb),hr.2⟩
 | .nb _ _,hr=> hr
 | .junk,_=> trivial
theorem ZvM(ok:CfgOk P cfg)(h:Rel cfg B st g a w)(nm:Name)(T:U.Ty):∃ g',Rel cfg B (st.shut1 cfg nm T) g' a w:=by
 unfold FSt.shut1
 cases hcs:st.mem nm with
 | none=> grind
 | some cs=>
  simp only
  cases hx:cfg.dec T cs with
  | none=> grind
  | some x=>
   have hm:=Zjm h hcs
   refine ⟨g.shutG w (Ob g nm cs.length),⟨fun c v s=> ?_,fun c t' ht=> ?_⟩,?_,fun k=> ZEf ok h hcs hx (h.env k),fun n ds hn j c hc=> ?_,h.sz,h.df,fun u y hy=> ?_,fun u hu h1 h2=> h.fresh u hu h1 h2⟩
   .by_cases hc:Ob g nm cs.length c
    .simp only [Gh.shutG] at s ⊢
     grind
    .simp only [Gh.shutG] at s ⊢
     rw [if_neg hc] at s ⊢
     exact h.inv.im c v s
   .simp only [Gh.shutG] at ht
    split at ht
    .cases ht
    .exact h.inv.it c t' ht
   .refine h.fr.step h.inv (Evo.refl w (fun _=> False)) (fun c hc=> hc.elim) hm (fun c t'=> Zfx h hcs (by simp)) ?_ (fun _=> rfl)
    intro b _ ab o sp
    simp only [Gh.shutG]
    split
    .rename_i hc
     obtain ⟨t',h3⟩:=ab _ _ _ (Zob h hcs hc).1
     cases h3
    .try rfl
   .simp only at hn
    split at hn
    .cases hn
    .rename_i aq
     obtain ⟨v,h1,h2,h3⟩:=h.mem n ds hn j c hc
     exact ⟨v,h1,(Zfx h hcs (by grind)).1 h2,h3.keep (Z1Q h hcs)⟩
   .obtain ⟨h1,h2⟩:=h.ls u y hy
    exact ⟨h1,h2.keep (Z1Q h hcs) h1 (fun c v s=> (h.inv.im c v s).1) (fun _ _=> rfl)⟩
end shut
theorem ZAm(nm:Name)(T:U.Ty):(st.shut1 cfg nm T).n=st.n:=by
 unfold FSt.shut1
 grind
theorem ZlC(ok:CfgOk P cfg):∀ (l:List (Nat × U.Ty)) {st:FSt U} {g:Gh},Rel cfg B st g a w->∃ g',Rel cfg B (st.shuts cfg l) g' a w
 | [],st,g,h=> ⟨g,h⟩
 | x ::r,st,g,h=> by
  have:∃ s,Rel cfg B (st.shutK cfg x.1 x.2) s a w:=by
   unfold FSt.shutK
   split
   .exact ZvM ok h _ _
   .grind
  obtain ⟨s,u⟩:=this
  exact ZlC ok r u
theorem ZpI:∀ (l:List (Nat × U.Ty)) (st:FSt U),(st.shuts cfg l).n=st.n
 | [],st=> rfl
 | x ::r,st=> by
  show ((st.shutK cfg x.1 x.2).shuts cfg r).n=st.n
  rw [ZpI r]
  unfold FSt.shutK
  split
  .exact ZAm _ _
  .try rfl
theorem Z7H{α:Type}(st:FSt U)(k:FSt U->α)(l:List (Nat × U.Ty)):Z3C cfg st k l=k (Z3C cfg st id l):=by cases l <;> rfl
theorem ZtB(ok:CfgOk P cfg)(h:Rel cfg B st g a w)(l:List (Nat × U.Ty)):∃ g',Rel cfg B (Z3C cfg st id l) g' a w:=by
 cases l with
 | nil=> exact ⟨g,h⟩
 | cons x r=> exact ZlC ok (x ::r) h
theorem Zx3(l:List (Nat × U.Ty)):(Z3C cfg st id l).n=st.n:=by
 cases l with
 | nil=> rfl
 | cons x r=> exact ZpI (x ::r) st
end Go.AM
namespace Go.AM
variable {U:Uni} {P:Program} {cfg:Cfg U} {B:Base} {st:FSt U} {g:Gh} {a:Act} {w:World}
structure LSt (U:Uni) where
 env:List (Nat × V U)
 mem:List (Name × List (C U))
 ls:List (Tok × LC U)
def ZhB:List (Nat × V U)->Nat->V U
 | [],_=> .junk
 | (a,v) ::r,k=> bif Nat.beq a k then v else ZhB r k
def Z2s:List (Name × List (C U))->Name->Option (List (C U))
 | [],_=> none
 | (a,cs) ::r,nm=> if a=nm then some cs else Z2s r nm
def LSt.toF(s:LSt U)(n:Nat):FSt U:={ n:=n,env:=ZhB s.env,mem:=Z2s s.mem,dead:=ZU,ls:=ZE (fun _=> none) s.ls,mu:=false,vw:=false }
def ZKu(t:Nat)(o:Oper):Bool:=
 match o.op,o.dst with
 | .call c,some d=> match c.callee with
  | .builtin .append=> Nat.beq d t
  | _=> false
 | _,_=> false
def ZEv(ops:List Oper)(o:Oper):Bool:=
 match o.op with
 | .indexAddr _ (.tmp t) _=> ops.any (ZKu t)
 | _=> false
def ZKt(o:Oper):Bool:=
 match o.op with
 | .call c=> match c.callee with
  | .builtin .clear=> true
  | .builtin .copy=> true
  | _=> false
 | _=> false
def LSt.toR(s:LSt U)(n:Nat)(mk:Bool)(ops:Array Oper):FSt U:={ n:=n,env:=ZhB s.env,mem:=Z2s s.mem,dead:=ZU,ls:=ZE (fun _=> none) s.ls,mu:=mk || ops.toList.any (ZEv ops.toList),vw:=ops.toList.any ZKt }
theorem Zpk{s:LSt U}{n:Nat}{mk:Bool}{ops:Array Oper}(h:Rel cfg B (s.toF n) g a w):Rel cfg B (s.toR n mk ops) g a w:=
 ⟨h.inv,h.fr,h.env,h.mem,h.sz,h.df,h.ls,h.fresh⟩
inductive Sk (U:Uni) where
 | any | own (T:U.Ty) | unk (T:U.Ty) | wr (T:U.Ty) | pt (T:U.Ty)
def sk0:List (Sk U)->Sk U
 | []=> .any
 | k ::_=> k
def Z8Q(mine:Tok->Bool)(nm:Tok)(k:Sk U)(c:C U)(seen:List (Tok × Tok)):C U × List (Tok × Tok):=
 match k,c with
 | .own T,.nils=> (.slice T [] (.own nm),seen)
 | .own _,.slice T l .full=> (.slice T l (.own nm),seen)
 | .unk T,.nils=> (.slice T [] .unk,seen)
 | .unk _,.slice T l _=> (.slice T l .unk,seen)
 | .pt T,.nilp=> (.po T none,seen)
 | _,.xp k=> (.xp k,seen)
 | _,c=> Z0G mine nm c seen
def Z1N(mine:Tok->Bool)(nm:Nat->Tok):Nat->List (Sk U)->List (C U)->List (Tok × Tok)->List (C U) × List (Tok × Tok)
 | _,_,[],seen=> ([],seen)
 | j,ks,c ::r,seen=> ((Z8Q mine (nm j) (sk0 ks) c seen).1 ::(Z1N mine nm (j+1) ks.tail r (Z8Q mine (nm j) (sk0 ks) c seen).2).1,(Z1N mine nm (j+1) ks.tail r (Z8Q mine (nm j) (sk0 ks) c seen).2).2)
def ZaU(mine:Tok->Bool)(nm:Nat->Tok)(keep:Name->Bool)(ks:List (Sk U))(v:V U)(seen:List (Tok × Tok)):V U × List (Tok × Tok):=
 match v with
 | .c x=> (.c (Z8Q mine (nm 0) (sk0 ks) x seen).1,(Z8Q mine (nm 0) (sk0 ks) x seen).2)
 | .agg cs=> (.agg (Z1N mine nm 0 ks cs seen).1,(Z1N mine nm 0 ks cs seen).2)
 | .ptr nm off=> (bif keep nm then .ptr nm off else .junk,seen)
 | .ep cs=> (.ep (Js (fun _=> false) nm 0 cs seen).1,(Js (fun _=> false) nm 0 cs seen).2)
 | .fn f=> (.fn f,seen)
 | .clo f nms=> (bif nms.all keep then .clo f nms else .junk,seen)
 | .nb p q=> (.nb p q,seen)
 | _=> (.junk,seen)
def Z1A(st:FSt U)(keep:Name->Bool):List (Nat × List (Sk U))->List (Tok × Tok)->List (Nat × V U) × List (Tok × Tok)
 | [],seen=> ([],seen)
 | (k,ks) ::r,seen=> ((k,(ZaU (fun t=> !st.dead t) (.e k) keep ks (st.env k) seen).1) ::(Z1A st keep r (ZaU (fun t=> !st.dead t) (.e k) keep ks (st.env k) seen).2).1,
   (Z1A st keep r (ZaU (fun t=> !st.dead t) (.e k) keep ks (st.env k) seen).2).2)
def ZhU:Name->Nat->Tok
 | .loc s,j=> .l s j
 | .x k,j=> .x k j
def Z09(st:FSt U):List (Name × List (Sk U))->List (Tok × Tok)->List (Name × List (C U)) × List (Tok × Tok)
 | [],seen=> ([],seen)
 | (nm,ks) ::r,seen=> match st.mem nm with
  | some cs=> ((nm,(Z1N (fun t=> !st.dead t) (ZhU nm) 0 ks cs seen).1) ::(Z09 st r (Z1N (fun t=> !st.dead t) (ZhU nm) 0 ks cs seen).2).1,(Z09 st r (Z1N (fun t=> !st.dead t) (ZhU nm) 0 ks cs seen).2).2)
  | none=> Z09 st r seen
def Z0S(l:List (Name × List (Sk U)))(nm:Name):Bool:=
 match l with
 | []=> false
 | (a,_) ::r=> if a=nm then true else Z0S r nm
def Zs3(nm:Nat->Tok):Nat->List (Sk U)->List Tok
 | _,[]=> []
 | j,.wr _ ::r=> nm j ::Zs3 nm (j+1) r
 | j,_ ::r=> Zs3 nm (j+1) r
def Zs2(lv:List (Nat × List (Sk U)))(lm:List (Name × List (Sk U))):List Tok:=
 (lv.flatMap fun x=> Zs3 (.e x.1) 0 x.2)++lm.flatMap fun x=> Zs3 (ZhU x.1) 0 x.2
def ZFx(lv:List (Nat × List (Sk U)))(lm:List (Name × List (Sk U)))(st:FSt U):LSt U:=
 {env:=(Z1A st (fun nm=> Z0S lm nm && (st.mem nm).isSome) lv []).1
  mem:=(Z09 st lm (Z1A st (fun nm=> Z0S lm nm && (st.mem nm).isSome) lv []).2).1
  ls:=match Zs2 lv lm with
   | []=> []
   | c=> Z0I st.ls (Z09 st lm (Z1A st (fun nm=> Z0S lm nm && (st.mem nm).isSome) lv []).2).2 c }
def Zx8(k:Sk U)(c:C U):List Tok:=
 match k,c with
 | .wr _,_=> []
 | _,.mref t=> [t]
 | _,_=> []
def Zx9:List (Sk U)->List (C U)->List Tok
 | _,[]=> []
 | ks,c ::r=> Zx8 (sk0 ks) c++Zx9 ks.tail r
def ZKk(ks:List (Sk U)):V U->List Tok
 | .c x=> Zx8 (sk0 ks) x
 | .agg cs=> Zx9 ks cs
 | _=> []
def Z2n(lv:List (Nat × List (Sk U)))(lm:List (Name × List (Sk U)))(st:FSt U):List Tok:=
 (lv.flatMap fun x=> ZKk x.2 (st.env x.1))++lm.flatMap fun x=> match st.mem x.1 with
  | some cs=> Zx9 x.2 cs
  | none=> []
def FSt.prom1(st:FSt U)(k:Nat)(T:U.Ty):FSt U:=
 match st.env k with
 | .c .nils=> if (st.ls (.z (3*k) 0)).isNone && !st.dead (.z (3*k) 0) then
   {st with env:=fun i=> bif Nat.beq i k then .c (.mref (.z (3*k) 0)) else st.env i,ls:=fun t=> if t= .z (3*k) 0 then some ⟨T,[],0⟩ else st.ls t }
  else st
 | _=> st
def Zdh:Name->Nat
 | .loc s=> 3*s+1
 | .x k=> 3*k+2
def FSt.promM(st:FSt U)(nm:Name)(j:Nat)(T:U.Ty):FSt U:=
 match st.mem nm with
 | some cs=> match cs[j]? with
  | some .nils=> if (st.ls (.z (Zdh nm) j)).isNone && !st.dead (.z (Zdh nm) j) then
    {st with mem:=fun n=> if n=nm then some (cs.set j (.mref (.z (Zdh nm) j))) else st.mem n,ls:=fun t=> if t= .z (Zdh nm) j then some ⟨T,[],0⟩ else st.ls t }
   else st
  | _=> st
 | none=> st
def FSt.prom(st:FSt U):List ((Nat ⊕ (Name × Nat)) × U.Ty)->FSt U
 | []=> st
 | (.inl k,T) ::r=> (st.prom1 k T).prom r
 | (.inr x,T) ::r=> (st.promM x.1 x.2 T).prom r
def ZF5(nm:Name):Nat->List (Sk U)->List ((Nat ⊕ (Name × Nat)) × U.Ty)
 | _,[]=> []
 | j,.wr T ::r=> (.inr (nm,j),T) ::ZF5 nm (j+1) r
 | j,_ ::r=> ZF5 nm (j+1) r
def wrs(lm:List (Name × List (Sk U))):List (Nat × List (Sk U))->List ((Nat ⊕ (Name × Nat)) × U.Ty)
 | []=> lm.flatMap fun x=> ZF5 x.1 0 x.2
 | (k,[.wr T]) ::r=> (.inl k,T) ::wrs lm r
 | _ ::r=> wrs lm r
def pts:List (Nat × List (Sk U))->List (Nat × U.Ty)
 | []=> []
 | (k,[.pt T]) ::r=> (k,T) ::pts r
 | _ ::r=> pts r
def ZFt{α:Type}(st:FSt U)(k:FSt U->α):List ((Nat ⊕ (Name × Nat)) × U.Ty)->α
 | []=> k st
 | x ::r=> k (st.prom (x ::r))
def Z6F{α:Type}(cfg:Cfg U)(lv:List (Nat × List (Sk U)))(lm:List (Name × List (Sk U)))(st:FSt U)(k:FSt U->α):α:=
 ZFt st (fun st=> Z3C cfg st (fun st=> Z70 cfg st k (Z2n lv lm st)) (pts lv)) (wrs lm lv)
theorem Z75:∀ {l:List Name} {nm:Name},nm∈l->Jx l nm=true
 | a ::r,nm,h=> by
  simp only [Jx]
  split
  .try rfl
  .rename_i e
   rcases Qa.1 h with rfl | h
   .grind
   .exact Z75 h
structure RenA (ok:Tok->Bool) (g:Gh) (s:List (Tok × Tok)) (g2:Gh):Prop extends Ren ok g s g2 where
 adx:∀ k,g2.ad (.x k)=g.ad (.x k)
theorem Zis{okT mine:Tok->Bool}{nm:Tok}{k:Sk U}{c:C U}{seen:List (Tok × Tok)}(hmine:∀ t,mine t=true->st.dead t=false)(hok:okT nm=true):
  Ext seen (Z8Q mine nm k c seen).2/\∀ s',Ext (Z8Q mine nm k c seen).2 s'->∀ s,RenA okT g s' s->∀ v,RelC cfg g st.dead v c->RelC cfg s ZU v (Z8Q mine nm k c seen).1:=by
 unfold Z8Q
 split
 .rename_i T
  refine ⟨.refl _,fun s' _ s u v h=> ?_⟩
  have h1:=h.1
  cases h1
  exact ⟨.snil T _,fun _ a len ah hv=> by simp at hv⟩
 .rename_i T0 T l
  refine ⟨.refl _,fun s' _ s u v h=> ⟨by rw [u.m];exact h.1.tl _,fun _ b len ah hv j h1 h2=> ?_⟩⟩
  have:=h.2 _ _ _ hv
  grind
 .rename_i T
  refine ⟨.refl _,fun s' _ s u v h=> ?_⟩
  have h1:=h.1
  cases h1
  exact ⟨.snil T _,trivial⟩
 .exact ⟨.refl _,fun s' _ s u v h=> ⟨by rw [u.m];exact h.1.tl _,trivial⟩⟩
 .rename_i T
  refine ⟨.refl _,fun s' _ s u v h=> ?_⟩
  have h1:=h.1
  cases h1
  exact ⟨.pnil T,trivial⟩
 .refine ⟨.refl _,fun s' _ s u v h=> ⟨.xp _ _ h.1.one,?_⟩⟩
  have h2:v= .pointer (some (g.ad (.x _))):=h.2
  show v= .pointer (some (s.ad (.x _)))
  rw [u.adx];exact h2
 .obtain ⟨h1,h2⟩:=Z9t (cfg:=cfg) (st:=st) (g:=g) (nm:=nm) (c:=c) (seen:=seen) hmine hok
  exact ⟨h1,fun s' hs s u v h=> h2 s' hs s u.toRen v h⟩
theorem Z7K{okT mine:Tok->Bool}{nm:Nat->Tok}(hmine:∀ t,mine t=true->st.dead t=false)(hok:∀ j,okT (nm j)=true):∀ (cs:List (C U)) (j:Nat) (ks:List (Sk U)) (seen:List (Tok × Tok)),
  Ext seen (Z1N mine nm j ks cs seen).2/\(Z1N mine nm j ks cs seen).1.length=cs.length/\
   ∀ s,Ext (Z1N mine nm j ks cs seen).2 s->∀ u,RenA okT g s u->∀ (i:Nat) v c c',cs[i]?=some c->(Z1N mine nm j ks cs seen).1[i]?=some c'->RelC cfg g st.dead v c->RelC cfg u ZU v c'
 | [],j,ks,seen=> ⟨.refl _,rfl,fun s _ u _ i v c c' hc=> by simp at hc⟩
 | c ::cs,j,ks,seen=> by
  obtain ⟨h1,h2⟩:=Zis (cfg:=cfg) (g:=g) (okT:=okT) (nm:=nm j) (k:=sk0 ks) (c:=c) (seen:=seen) hmine (hok j)
  obtain ⟨h3,h4,h5⟩:=Z7K (okT:=okT) (mine:=mine) (nm:=nm) hmine hok cs (j+1) ks.tail (Z8Q mine (nm j) (sk0 ks) c seen).2
  refine ⟨h1.trans h3,by simp [Z1N,h4],fun s hs u hg i v c0 c' hc h hr=> ?_⟩
  cases i with
  | zero=>
   simp [Z1N] at hc h
   subst hc h
   exact h2 s (h3.trans hs) u hg v hr
  | succ i=>
   simp [Z1N] at hc h
   exact h5 s hs u hg i v c0 c' hc h hr
def Gh.anew(g:Gh)(s:List (Tok × Tok))(keep:Name->Bool)(okT:Tok->Bool):Gh:=
 {m:=g.m
  tag:=fun c=> match g.tag c with
   | some (.tok t)=> (YU s t).map .tok
   | some (.obj nm)=> bif keep nm then some (.obj nm) else none
   | some (.outer t)=> some (.outer t)
   | none=> none
  ad:=g.ad
  bs:=fun t=> bif okT t then ZiV g s t else none }
theorem Gh.anew_ren(s:List (Tok × Tok))(keep:Name->Bool)(okT:Tok->Bool):RenA okT g s (g.anew s keep okT):=
 ⟨⟨rfl,fun c t t' h u=> by simp only [Gh.anew,h,u,Qi],fun t t' v h u h3=> by simp only [Gh.anew,h,cond_true,ZiV,u];exact h3⟩,fun _=> rfl⟩
theorem Zx6{mine:Tok->Bool}{nm:Nat->Tok}{keep live live2:Name->Bool}(hmine:∀ t,mine t=true->st.dead t=false)(hok:∀ j,Z3W (nm j)=true)(hkeep:∀ n,keep n=true->live2 n=true)(ks:List (Sk U))(x:V U)(seen:List (Tok × Tok)):
  Ext seen (ZaU mine nm keep ks x seen).2/\∀ s,Ext (ZaU mine nm keep ks x seen).2 s->∀ v,RelV cfg g st.dead live v x->RelV cfg (g.anew s keep Z3W) ZU live2 v (ZaU mine nm keep ks x seen).1:=by
 cases x with
 | c x=>
  obtain ⟨h1,h2⟩:=Zis (cfg:=cfg) (g:=g) (nm:=nm 0) (k:=sk0 ks) (c:=x) (seen:=seen) hmine (hok 0)
  exact ⟨h1,fun s hs v hr=> h2 s hs _ (Gh.anew_ren s keep Z3W) v hr⟩
 | agg cs=>
  obtain ⟨h3,h4,h5⟩:=Z7K (cfg:=cfg) (g:=g) (mine:=mine) (nm:=nm) hmine hok cs 0 ks seen
  refine ⟨h3,fun s hs v hr=> ?_⟩
  obtain ⟨vs,rfl,hl,hh⟩:=hr
  refine ⟨vs,rfl,JX,fun j u c hu hc=> ?_⟩
  have hj:j < cs.length:=by have:=(Q8.1 hc).1;omega
  exact h5 s hs _ (Gh.anew_ren s keep Z3W) j u _ c (Q4 hj) hc (hh j u _ hu (Q4 hj))
 | ptr n off=>
  refine ⟨.refl _,fun s hs v hr=> ?_⟩
  simp only [ZaU]
  cases hk:keep n with
  | true=> exact ⟨by grind,hr.2⟩
  | false=> exact trivial
 | ap n off k len i=> exact ⟨.refl _,fun s _ v hr=> trivial⟩
 | ep cs=>
  have ah:∀ t,(fun _:Tok=> false) t=true->st.dead t=false:=fun t h=> by cases h
  obtain ⟨h3,h4,h5⟩:=Z7F (cfg:=cfg) (g:=g) (mine:=fun _=> false) (nm:=nm) ah hok cs 0 seen
  refine ⟨h3,fun s hs v hr=> ?_⟩
  obtain ⟨b,rfl,hh⟩:=hr
  refine ⟨b,rfl,fun j c hc=> ?_⟩
  have hj:j < cs.length:=by have:=(Q8.1 hc).1;rw [h4] at this;exact this
  obtain ⟨u,h6,h7⟩:=hh j _ (Q4 hj)
  exact ⟨u,h6,h5 s hs _ (Gh.anew_ren s keep Z3W).toRen j u _ c (Q4 hj) hc h7⟩
 | fn f=> exact ⟨.refl _,fun s _ v hr=> hr⟩
 | mp t n off=> exact ⟨.refl _,fun s _ v hr=> trivial⟩
 | vw t n=> exact ⟨.refl _,fun s _ v hr=> trivial⟩
 | clo f nms=>
  refine ⟨.refl _,fun s _ v hr=> ?_⟩
  simp only [ZaU]
  cases hk:nms.all keep with
  | true=> exact ⟨fun nm hn=> by grind,hr.2⟩
  | false=> exact trivial
 | nb p q=> exact ⟨.refl _,fun s _ v hr=> hr⟩
 | tup vs=> exact ⟨.refl _,fun s _ v hr=> trivial⟩
 | gd b v=> exact ⟨.refl _,fun s _ v hr=> trivial⟩
 | junk=> exact ⟨.refl _,fun s _ v hr=> trivial⟩
theorem ZgD{keep live2:Name->Bool}(hkeep:∀ n,keep n=true->live2 n=true)(h:Rel cfg B st g a w):∀ (lv:List (Nat × List (Sk U))) (seen:List (Tok × Tok)),
  Ext seen (Z1A st keep lv seen).2/\∀ u,Ext (Z1A st keep lv seen).2 u->∀ k,RelV cfg (g.anew u keep Z3W) ZU live2 (a.tmps.getD k undef) (ZhB (Z1A st keep lv seen).1 k)
 | [],seen=> ⟨.refl _,fun u _ k=> trivial⟩
 | (k0,ks) ::lv,seen=> by
  have s:∀ t,(fun t=> !st.dead t) t=true->st.dead t=false:=fun t ht=> by simpa using ht
  obtain ⟨h1,h2⟩:=Zx6 (cfg:=cfg) (g:=g) (st:=st) (nm:= .e k0) (keep:=keep) (live:=fun nm=> (st.mem nm).isSome) (live2:=live2) s (fun _=> rfl) hkeep ks (st.env k0) seen
  obtain ⟨h3,h4⟩:=ZgD hkeep h lv (ZaU (fun t=> !st.dead t) (.e k0) keep ks (st.env k0) seen).2
  refine ⟨h1.trans h3,fun u hs k=> ?_⟩
  simp only [Z1A,ZhB]
  cases hk:Nat.beq k0 k with
  | true=>
   have:=Qe hk
   subst this
   exact h2 u (h3.trans hs) _ (h.env k0)
  | false=> exact h4 u hs k
theorem Z9A{keep:Name->Bool}(h:Rel cfg B st g a w):∀ (lm:List (Name × List (Sk U))) (seen:List (Tok × Tok)),(∀ n∈lm,(st.mem n.1).isSome=true->keep n.1=true)->
  Ext seen (Z09 st lm seen).2/\∀ s',Ext (Z09 st lm seen).2 s'->∀ nm cs,Z2s (Z09 st lm seen).1 nm=some cs->∀ j c,cs[j]?=some c->
   ∃ v,w.cell? ((g.ad nm).add j)=some v/\(g.anew s' keep Z3W).tag ((g.ad nm).add j)=some (.obj nm)/\RelC cfg (g.anew s' keep Z3W) ZU v c
 | [],seen,_=> ⟨.refl _,fun s' _ nm cs s=> by trivial⟩
 | (n0,ks) ::lm,seen,hk=> by
  have u:∀ t,(fun t=> !st.dead t) t=true->st.dead t=false:=fun t ht=> by simpa using ht
  cases hm:st.mem n0 with
  | none=>
   simp only [Z09,hm]
   exact Z9A h lm seen (fun n s=> hk n (by simp [s]))
  | some cs0=>
   obtain ⟨h3,h4,h5⟩:=Z7K (cfg:=cfg) (g:=g) (mine:=fun t=> !st.dead t) (nm:=ZhU n0) u (okT:=Z3W) (fun j=> by cases n0 <;> rfl) cs0 0 ks seen
   obtain ⟨h6,h7⟩:=Z9A h lm (Z1N (fun t=> !st.dead t) (ZhU n0) 0 ks cs0 seen).2 (fun n s=> hk n (by simp [s]))
   simp only [Z09,hm]
   refine ⟨h3.trans h6,fun s' hs nm cs s j c hc=> ?_⟩
   simp only [Z2s] at s
   split at s
   .rename_i e
    subst e
    cases s
    have hj:j < cs0.length:=by have:=(Q8.1 hc).1;omega
    obtain ⟨v,h8,h9,ae⟩:=h.mem n0 cs0 hm j _ (Q4 hj)
    refine ⟨v,h8,?_,h5 s' (h6.trans hs) _ (Gh.anew_ren s' keep Z3W) j v _ c (Q4 hj) hc ae⟩
    have ab:=hk (n0,ks) (by simp) (by simp [hm])
    simp only [Gh.anew,h9,ab,cond_true]
   grind
theorem Z9D:∀ (lm:List (Name × List (Sk U))) (seen:List (Tok × Tok)) (nm:Name),(Z0S lm nm && (st.mem nm).isSome)=true->(Z2s (Z09 st lm seen).1 nm).isSome=true
 | [],seen,nm,h=> by trivial
 | (n0,ks) ::lm,seen,nm,h=> by
  simp only [Q6] at h
  cases hm:st.mem n0 with
  | none=>
   simp only [Z09,hm]
   refine Z9D lm seen nm ?_
   simp only [Q6]
   refine ⟨?_,h.2⟩
   have s:=h.1
   simp only [Z0S] at s
   grind
  | some cs0=>
   simp only [Z09,hm,Z2s]
   split
   .try rfl
   .rename_i e
    refine Z9D lm _ nm ?_
    simp only [Q6]
    refine ⟨?_,h.2⟩
    have s:=h.1
    simp only [Z0S] at s
    grind
theorem Zb9:∀ {l:List (Name × List (Sk U))} {x:Name × List (Sk U)},x∈l->Z0S l x.1=true
 | (a,ks) ::r,x,h=> by
  simp only [Z0S]
  split
  .try rfl
  .rename_i e
   rcases Qa.1 h with rfl | h
   .grind
   .exact Zb9 h
theorem ZAG(h:Rel cfg B st g a w)(lv:List (Nat × List (Sk U)))(lm:List (Name × List (Sk U))):∃ g',Rel cfg B ((ZFx lv lm st).toF st.n) g' a w:=by
 let keep:Name->Bool:=fun nm=> Z0S lm nm && (st.mem nm).isSome
 let live2:Name->Bool:=fun nm=> (Z2s (ZFx lv lm st).mem nm).isSome
 have am:∀ n,keep n=true->live2 n=true:=fun n hn=> Z9D lm _ n hn
 obtain ⟨h1,h2⟩:=ZgD (keep:=keep) am h lv []
 obtain ⟨h3,h4⟩:=Z9A (keep:=keep) h lm (Z1A st keep lv []).2 (fun n hn hs=> by simp only [keep,Zb9 hn,hs,Bool.and_self])
 let s:=(Z09 st lm (Z1A st keep lv []).2).2
 have al:∀ c,g.tag c=none->(g.anew s keep Z3W).tag c=none:=fun c hc=> by simp only [Gh.anew,hc]
 have aa:∀ c t,g.tag c=some (.outer t)↔(g.anew s keep Z3W).tag c=some (.outer t):=by
  intro c t
  simp only [Gh.anew]
  cases hg:g.tag c with
  | none=> simp
  | some t0=>
   cases t0 with
   | obj nm=> grind
   | tok u=> simp_all
   | outer t0=> simp
 refine ⟨g.anew s keep Z3W,⟨fun c v hv=> ?_,fun c t ht=> ?_⟩,?_,?_,?_,h.sz,h.df,fun t x hx=> ⟨rfl,?_⟩,fun t ht _ _=> by simp only [Gh.anew,Z3W,ht,Xw,cond_false]⟩
 .obtain ⟨h5,h6⟩:=h.inv.im c v hv
  grind
 .cases hg:g.tag c with
  | none=> grind
  | some t0=> exact h.inv.it c t0 hg
 .refine h.fr.step h.inv (Evo.refl w (fun _=> False)) (fun c hc=> hc.elim) (fun _ _ hv=> hv) (fun c t=> aa c t) ?_ (fun _=> rfl)
  intro b _ ar o sp
  cases hg:g.tag ⟨b,o,sp⟩ with
  | none=> grind
  | some t=>
   grind
 .intro k
  exact h2 s h3 k
 .intro nm cs hn j c hc
  exact h4 s (.refl _) nm cs hn j c hc
 .have ai:ZE (fun _=> none) (Z0I st.ls s (Zs2 lv lm)) t=some x:=by
   have ab:ZE (fun _=> none) (match Zs2 lv lm with
    | []=> []
    | c=> Z0I st.ls s c) t=some x:=hx
   cases hc:Zs2 lv lm with
   | nil=> rw [hc] at ab;cases ab
   | cons a b=> grind
  obtain ⟨u,h5,h6,h7,h8⟩:=Z1j _ ai
  obtain ⟨_,hL⟩:=h.ls u x h7
  have ah:(g.anew s keep Z3W).bs t=g.bs u:=by simp only [Gh.anew,Z3W,h8,Xy,cond_true,ZiV,h5]
  have ae:∀ c,g.tag c=some (.tok u)->(g.anew s keep Z3W).tag c=some (.tok t):=fun c hc=> by simp only [Gh.anew,hc,h6,Qi]
  rcases hL with ⟨e1,e2⟩ | ⟨b,len,cap,e1,e2,e3,e4,e5,e6⟩
  .exact .inl ⟨ah.trans e1,e2⟩
  .refine .inr ⟨b,len,cap,ah.trans e1,e2,e3,e4,fun i y hy j c hc=> ?_,fun j a1 a2=> ae _ (e6 j a1 a2)⟩
   obtain ⟨v,e7,e8,e9,ak⟩:=e5 i y hy j c hc
   exact ⟨v,e7,e8,e9,fun hi=> ae _ (ak hi)⟩
theorem ZwL(h:Rel cfg B st g a w)(k:Nat)(T:U.Ty):∃ g',Rel cfg B (st.prom1 k T) g' a w:=by
 unfold FSt.prom1
 split
 case h_2=> grind
 rename_i hk
 split
 case isFalse=> grind
 rename_i hc
 simp only [Q6,QO,QX] at hc
 have aa:=h.fresh (.z (3*k) 0) rfl hc.1 hc.2
 have s:Keeps g (g.setBs (.z (3*k) 0) (.slice none 0 0,cfg.sz T)) st.dead st.dead (fun nm=> (st.mem nm).isSome) (fun nm=> (st.mem nm).isSome):=(Keeps.refl g st.dead _).setBs aa
 refine ⟨g.setBs (.z (3*k) 0) (.slice none 0 0,cfg.sz T),h.inv,h.fr.setBs,fun i=> ?_,fun nm cs hm j c hj=> ?_,h.sz,h.df,fun t x hx=> ?_,fun t ht u h2=> ?_⟩
 .simp only
  cases hi:Nat.beq i k with
  | true=>
   have e:=Qe hi
   subst e
   have hr:=h.env i
   rw [hk] at hr
   have u:SimC cfg g.m (a.tmps.getD i undef) .nils:=hr.1
   have hv:a.tmps.getD i undef= .slice none 0 0:=by
    generalize a.tmps.getD i undef=v at u
    cases u
    try rfl
   rw [hv]
   exact ⟨.mref _ _ ⟨rfl,rfl⟩,fun _=> ⟨cfg.sz T,by simp [Gh.setBs]⟩⟩
  | false=> exact (h.env i).keep s
 .obtain ⟨v,u,h2,h3⟩:=h.mem nm cs hm j c hj
  exact ⟨v,u,h2,h3.keep s⟩
 .simp only at hx
  split at hx
  .rename_i e
   subst e
   cases hx
   exact ⟨hc.2,.inl ⟨by simp [Gh.setBs],rfl,rfl⟩⟩
  .obtain ⟨u,h2⟩:=h.ls t x hx
   exact ⟨u,h2.keep s u (fun c v hv=> (h.inv.im c v hv).1) (fun _ _=> rfl)⟩
 .simp only at u
  split at u
  .cases u
  .rename_i ah
   simp only [Gh.setBs]
   rw [if_neg ah]
   exact h.fresh t ht u h2
theorem ZwK(h:Rel cfg B st g a w)(nm:Name)(j0:Nat)(T:U.Ty):∃ g',Rel cfg B (st.promM nm j0 T) g' a w:=by
 unfold FSt.promM
 split
 case h_2=> grind
 rename_i cs ab
 split
 case h_2=> grind
 rename_i ah
 split
 case isFalse=> grind
 rename_i hc
 simp only [Q6,QO,QX] at hc
 have ae:=h.fresh (.z (Zdh nm) j0) rfl hc.1 hc.2
 have s:Keeps g (g.setBs (.z (Zdh nm) j0) (.slice none 0 0,cfg.sz T)) st.dead st.dead (fun nm=> (st.mem nm).isSome) (fun nm=> (st.mem nm).isSome):=(Keeps.refl g st.dead _).setBs ae
 have hl:(fun n=> (if n=nm then some (cs.set j0 (.mref (.z (Zdh nm) j0))) else st.mem n:Option (List (C U))).isSome)=fun n=> (st.mem n).isSome:=by
  funext n
  by_cases e:n=nm
  .subst e;simp [ab]
  .simp [e]
 refine ⟨g.setBs (.z (Zdh nm) j0) (.slice none 0 0,cfg.sz T),h.inv,h.fr.setBs,fun i=> ?_,fun n ao hm j c hj=> ?_,h.sz,h.df,fun t x hx=> ?_,fun t ht u h2=> ?_⟩
 .simp only [hl]
  exact (h.env i).keep s
 .simp only at hm
  split at hm
  .rename_i e
   subst e
   cases hm
   by_cases e:j=j0
   .subst e
    have al:=(Q8.1 ah).1
    rw [Kk] at hj
    simp only [if_true,al] at hj
    cases hj
    obtain ⟨v,u,h2,h3⟩:=h.mem n cs ab j _ ah
    have hv:v= .slice none 0 0:=by
     have h4:=h3.1
     cases h4
     try rfl
    subst hv
    exact ⟨_,u,h2,.mref _ _ ⟨rfl,rfl⟩,fun _=> ⟨cfg.sz T,by simp [Gh.setBs]⟩⟩
   .rw [List.getElem?_set_ne (Ne.symm e)] at hj
    obtain ⟨v,u,h2,h3⟩:=h.mem n cs ab j c hj
    exact ⟨v,u,h2,h3.keep s⟩
  .obtain ⟨v,u,h2,h3⟩:=h.mem n ao hm j c hj
   exact ⟨v,u,h2,h3.keep s⟩
 .simp only at hx
  split at hx
  .rename_i e
   subst e
   cases hx
   exact ⟨hc.2,.inl ⟨by simp [Gh.setBs],rfl,rfl⟩⟩
  .obtain ⟨u,h2⟩:=h.ls t x hx
   exact ⟨u,h2.keep s u (fun c v hv=> (h.inv.im c v hv).1) (fun _ _=> rfl)⟩
 .simp only at u
  split at u
  .cases u
  .rename_i aq
   simp only [Gh.setBs]
   rw [if_neg aq]
   exact h.fresh t ht u h2
theorem ZjX:∀ (lv:List ((Nat ⊕ (Name × Nat)) × U.Ty)) {st:FSt U} {g:Gh},Rel cfg B st g a w->∃ g',Rel cfg B (st.prom lv) g' a w
 | [],st,g,h=> ⟨g,h⟩
 | (.inl k,T) ::r,st,g,h=> by
  obtain ⟨u,s⟩:=ZwL h k T
  exact ZjX r s
 | (.inr x,T) ::r,st,g,h=> by
  obtain ⟨u,s⟩:=ZwK h x.1 x.2 T
  exact ZjX r s
theorem ZnV:∀ (lv:List ((Nat ⊕ (Name × Nat)) × U.Ty)) (st:FSt U),(st.prom lv).n=st.n
 | [],st=> rfl
 | (.inl k,T) ::r,st=> by
  show ((st.prom1 k T).prom r).n=st.n
  rw [ZnV r]
  unfold FSt.prom1
  grind
 | (.inr x,T) ::r,st=> by
  show ((st.promM x.1 x.2 T).prom r).n=st.n
  rw [ZnV r]
  unfold FSt.promM
  grind
theorem Ztc(ok:CfgOk P cfg)(h:Rel cfg B st g a w)(lv:List (Nat × List (Sk U)))(lm:List (Name × List (Sk U))):∃ g',Rel cfg B (Z6F cfg lv lm st id) g' a w:=by
 have u:∀ {st:FSt U} {g:Gh},Rel cfg B st g a w->∃ g',Rel cfg B (Z3C cfg st (fun st=> Z70 cfg st id (Z2n lv lm st)) (pts lv)) g' a w:=by
  intro st g h
  rw [Z7H]
  obtain ⟨g1,s⟩:=ZtB ok h (pts lv)
  generalize Z3C cfg st id (pts lv)=st1 at s ⊢
  cases hn:Z2n lv lm st1 with
  | nil=> exact ⟨g1,s⟩
  | cons t r=> exact ZoL ok (t ::r) s
 unfold Z6F
 cases hw:wrs lm lv with
 | nil=> exact u h
 | cons x r=>
  obtain ⟨g1,s⟩:=ZjX (x ::r) h
  exact u s
theorem ZvO(lv:List (Nat × List (Sk U)))(lm:List (Name × List (Sk U))):(Z6F cfg lv lm st id).n=st.n:=by
 have h:∀ (st:FSt U),(Z3C cfg st (fun st=> Z70 cfg st id (Z2n lv lm st)) (pts lv)).n=st.n:=by
  intro st
  rw [Z7H]
  have s:=Zx3 (cfg:=cfg) (st:=st) (pts lv)
  generalize Z3C cfg st id (pts lv)=st1 at s ⊢
  cases hn:Z2n lv lm st1 with
  | nil=> exact s
  | cons t r=> exact (ZyX _ st1).trans s
 unfold Z6F
 cases hw:wrs lm lv with
 | nil=> exact h st
 | cons x r=> exact (h _).trans (ZnV _ st)
theorem Ztd{α:Type}(lv:List (Nat × List (Sk U)))(lm:List (Name × List (Sk U)))(k:FSt U->α):Z6F cfg lv lm st k=k (Z6F cfg lv lm st id):=by
 unfold Z6F
 generalize wrs lm lv=ws
 have h:∀ st:FSt U,Z3C cfg st (fun st=> Z70 cfg st k (Z2n lv lm st)) (pts lv)=k (Z3C cfg st (fun st=> Z70 cfg st id (Z2n lv lm st)) (pts lv)):=by
  intro st
  rw [Z7H,Z7H st (fun st=> Z70 cfg st id (Z2n lv lm st))]
  exact Zmc _ _ _
 cases ws <;> exact h _
inductive AExit where
 | normal | exit (id:Nat) | ret
def AExit.up:AExit->Exit
 | .normal=> .normal
 | .exit id=> .exit id
 | .ret=> .ret
abbrev Za(U:Uni):=Nat->List (Nat × List (Sk U)) × List (Name × List (Sk U))
def AExit.then{U:Uni}(K:LSt U->Prop)(Q:AExit->LSt U->Prop):AExit->LSt U->Prop
 | .normal,s=> K s
 | e,s=> Q e s
def AExit.inBlock{U:Uni}(id:Nat)(Q:AExit->LSt U->Prop):AExit->LSt U->Prop
 | .exit id',s=> if id'=id then Q .normal s else Q (.exit id') s
 | e,s=> Q e s
def Zp{U:Uni}(body:LSt U->(AExit->LSt U->Prop)->Prop)(s:LSt U)(Q:AExit->LSt U->Prop):Prop:=
 ∃ (I:Nat->LSt U->Prop) (n:Nat),I n s/\∀ k s',I k s'->body s' (AExit.then (fun s2=> ∃ j,j < k/\I j s2) Q)
def Zx7:List Prop->Prop->Prop
 | [],q=> q
 | p ::r,q=> p/\Zx7 r q
theorem Zcq:∀ {ps:List Prop} {q:Prop},Zx7 ps q->All ps/\q
 | [],_,h=> ⟨trivial,h⟩
 | _ ::_,_,h=> ⟨⟨h.1,(Zcq h.2).1⟩,(Zcq h.2).2⟩
def mkL(Γ:Known U)(o:Oper):Bool:=
 match o.op with
 | .call c=> match c.callee with
  | .value (.func f)=> match Γ f with
   | some s=> s.mkl
   | none=> false
  | _=> false
 | _=> false
def isZ(o:Oper):Bool:=
 match o.op with
 | .call c=> match c.callee,c.argTypes.toList with
  | .builtin .append,[t,t']=> t !=t'
  | _,_=> false
 | _=> false
def ZGv(Γ:Known U)(s:LSt U)(ops:List Oper)(l:List (Nat × List (Sk U)) × List (Name × List (Sk U))):Bool:=
 Γ.ml || !s.ls.isEmpty || (ops.any fun o=> ZEv ops o || mkL Γ o || isZ o) || !(wrs l.2 l.1).isEmpty || !(pts l.1).isEmpty
def Z6Z{α:Type}(cfg:Cfg U)(li:Bool)(l:List (Nat × List (Sk U)) × List (Name × List (Sk U)))(st:FSt U)(k:FSt U->α):α:=
 bif li then Z6F cfg l.1 l.2 st k else k st
def ZEL(cfg:Cfg U)(li:Bool)(r:Option (List Prop × FSt U))(l:List (Nat × List (Sk U)) × List (Name × List (Sk U)))(Q:AExit->LSt U->Prop):Prop:=
 match r with
 | some (ps,st)=> Z6Z cfg li l st (fun st=> Zx7 ps (Q .normal (ZFx l.1 l.2 st)))
 | none=> False
theorem Zmb{α:Type}(li:Bool)(l:List (Nat × List (Sk U)) × List (Name × List (Sk U)))(k:FSt U->α):Z6Z cfg li l st k=k (Z6Z cfg li l st id):=by
 cases li
 .try rfl
 .exact Ztd _ _ _
theorem Zma(ok:CfgOk P cfg)(h:Rel cfg B st g a w)(li:Bool)(l:List (Nat × List (Sk U)) × List (Name × List (Sk U))):(∃ g',Rel cfg B (Z6Z cfg li l st id) g' a w)/\(Z6Z cfg li l st id).n=st.n:=by
 cases li
 .exact ⟨⟨g,h⟩,rfl⟩
 .exact ⟨Ztc ok h _ _,ZvO _ _⟩
def ZzL{U:Uni}(v:Option (V U))(x y:Prop):Prop:=
 match v with
 | some (.c (.bool b))=> (b=true->x)/\(b=false->y)
 | some (.nb p q)=> (p->x)/\(q->y)
 | _=> False
def awp(cfg:Cfg U)(Γ:Known U)(draws:Array Oper->FSt U->Bool)(n:Nat)(lv:Za U):Code->LSt U->(AExit->LSt U->Prop)->Prop
 | .skip,s,Q=> Q .normal s
 | .region id ops dr,s,Q=> if (!dr || draws ops (s.toR n Γ.ml ops))=true then ZEL cfg (ZGv Γ s ops.toList (lv id)) (Zhp cfg Γ ops (!dr && ZGv Γ s ops.toList (lv id)) ops.toList (s.toR n Γ.ml ops)) (lv id) Q else False
 | .seq x y,s,Q=> awp cfg Γ draws n lv x s (AExit.then (fun s'=> awp cfg Γ draws n lv y s' Q) Q)
 | .cond c x y,s,Q=> ZzL ((s.toF n).opnd c) (awp cfg Γ draws n lv x s Q) (awp cfg Γ draws n lv y s Q)
 | .block id c,s,Q=> awp cfg Γ draws n lv c s (AExit.inBlock id Q)
 | .loop c,s,Q=> Zp (awp cfg Γ draws n lv c) s Q
 | .exit id,s,Q=> Q (.exit id) s
 | .ret,s,Q=> Q .ret s
 | _,_,_=> False
def Z8E(P:Program)(cfg:Cfg U)(Γ:Known U)(draws:Array Oper->FSt U->Bool):Prop:=
 ∀ (B:Base) (st st':FSt U) (g:Gh) (a:Act) (w:World) (id:Nat) (ops:Array Oper) (ps:List Prop) (Q:Exit->Act->World->Prop),draws ops st=true->Rel cfg B st g a w->
  Zhp cfg Γ ops false ops.toList st=some (ps,st')->All ps->(∀ g' a' w',Rel cfg B st' g' a' w'->Q .normal a' w')->(Code.region id ops true).wp P Q a w
theorem Zux{Γ:Known U}{draws:Array Oper->FSt U->Bool}(ok:CfgOk P cfg)(hΓ:∀ f s,Γ f=some s->Contract P cfg f s)(hdr:Z8E P cfg Γ draws){n:Nat}{lv:Za U}:∀ (c:Code) (s:LSt U) (Q:AExit->LSt U->Prop) (g:Gh) (a:Act) (w:World),
  awp cfg Γ draws n lv c s Q->Rel cfg B (s.toF n) g a w->c.wp P (fun e a' w'=> ∃ e' s' g',e=AExit.up e'/\Q e' s'/\Rel cfg B (s'.toF n) g' a' w') a w:=by
 intro c
 induction c with
 | skip=> exact fun s Q g a w h hr=> wp_skip ⟨.normal,s,g,rfl,h,hr⟩
 | region id ops dr=>
  intro s Q g a w h hr
  simp only [awp] at h
  split at h
  case isFalse=> exact h.elim
  rename_i hd
  unfold ZEL at h
  split at h
  case h_2=> exact h.elim
  rename_i ps ab ak
  rw [Zmb] at h
  replace h:=Zcq h
  generalize ZGv Γ s ops.toList (lv id)=li at*
  have fin:∀ g' a' w',Rel cfg B ab g' a' w'->∃ e' s' g',Exit.normal=AExit.up e'/\Q e' s'/\Rel cfg B (s'.toF n) g' a' w':=by
   intro g' a' w' u
   obtain ⟨⟨g1,h1⟩,aw⟩:=Zma ok u li (lv id)
   obtain ⟨g2,h2⟩:=ZAG h1 (lv id).1 (lv id).2
   have hn:ab.n=n:=by
    have:∀ (l:List Oper) (st ab:FSt U) (ps:List Prop),Zhp cfg Γ ops (!dr && li) l st=some (ps,ab)->ab.n=st.n:=by
     intro l
     induction l with
     | nil=> intro st ab ps he;simp only [Zhp,oP] at he;rw [he.2]
     | cons o l ih=>
      intro st ab ps he
      rw [ZcP] at he
      split at he
      .cases he
      .split at he
       .cases he
       .rename_i h2
        simp only [oP] at he
        obtain ⟨_,rfl⟩:=he
        rw [ih _ _ _ h2]
        have hp:((st.pre cfg Γ (!dr && li) o).app o.dst ‹Eff U›).n=(st.pre cfg Γ (!dr && li) o).n:=by cases o.dst <;> rfl
        rw [hp,ZKj]
    exact this _ _ _ _ ak
   rw [aw,hn] at h2
   exact ⟨.normal,_,g2,rfl,h.2,h2⟩
  cases dr with
  | false=> exact wp_region_list (Zho ok hΓ ops.toList _ ab g a w ps (Zpk hr) ak h.1 fin)
  | true=>
   simp only [Xw,K2] at hd
   exact hdr B _ ab g a w id ops ps _ hd (Zpk hr) ak h.1 fin
 | seq x y ihx ihy=>
  intro s Q g a w h hr
  simp only [awp] at h
  refine wp_seq (wp_mono (ihx s _ g a w h hr) ?_)
  rintro e a' w' ⟨e',s',g',rfl,hq,u⟩
  cases e' with
  | normal=> exact ihy s' Q g' a' w' hq u
  | exit id=> exact ⟨.exit id,s',g',rfl,hq,u⟩
  | ret=> exact ⟨.ret,s',g',rfl,hq,u⟩
 | cond c x y ihx ihy=>
  intro s Q g a w h hr
  simp only [awp,ZzL] at h
  split at h
  case h_3=> exact h.elim
  case h_2 p q hb=>
   have hv:∃ b,a.eval c= .bool b/\(b=true->p)/\(b=false->q):=by
    have aj:RelV cfg g ZU (fun nm=> ((s.toF n).mem nm).isSome) (a.eval c) (.nb p q):=by
     cases c with
     | tmp t=> simp only [FSt.opnd,Option.some.injEq] at hb;rw [<-hb];exact hr.env t
     | const c=> exact Z4d hb
     | func f=> simp [FSt.opnd] at hb
     | global g=> trivial
    exact aj
   obtain ⟨b,hv,hp,hq⟩:=hv
   exact wp_cond_split hv (fun ht=> ihx s Q g a w (h.1 (hp ht)) hr) (fun ht=> ihy s Q g a w (h.2 (hq ht)) hr)
  rename_i b hb
  have hv:a.eval c= .bool b:=by
   have aj:RelV cfg g ZU (fun nm=> ((s.toF n).mem nm).isSome) (a.eval c) (.c (.bool b)):=by
    cases c with
    | tmp t=> simp only [FSt.opnd,Option.some.injEq] at hb;rw [<-hb];exact hr.env t
    | const c=> exact Z4d hb
    | func f=> simp [FSt.opnd] at hb
    | global g=> trivial
   exact SimC.bool_eq aj.1
  exact wp_cond_split hv (fun ht=> ihx s Q g a w (h.1 ht) hr) (fun ht=> ihy s Q g a w (h.2 ht) hr)
 | block id c ih=>
  intro s Q g a w h hr
  simp only [awp] at h
  refine wp_block (wp_mono (ih s _ g a w h hr) ?_)
  rintro e a' w' ⟨e',s',g',rfl,hq,u⟩
  cases e' with
  | normal=> exact ⟨.normal,s',g',rfl,hq,u⟩
  | exit id'=>
   simp only [AExit.inBlock,AExit.up,Exit.inBlock] at*
   grind
  | ret=> exact ⟨.ret,s',g',rfl,hq,u⟩
 | loop c ih=>
  intro s Q g a w h hr
  simp only [awp,Zp] at h
  obtain ⟨I,k,h0,h1⟩:=h
  refine wp_loop_ghost (fun k a w=> ∃ s g,I k s/\Rel cfg B (s.toF n) g a w) k ⟨s,g,h0,hr⟩ ?_
  rintro k a w ⟨s,g,hI,hr⟩
  refine wp_mono (ih s _ g a w (h1 k s hI) hr) ?_
  rintro e a' w' ⟨e',s',g',rfl,hq,u⟩
  cases e' with
  | normal=>
   obtain ⟨j,hj,az⟩:=hq
   exact ⟨j,hj,s',g',az,u⟩
  | exit id=> exact ⟨.exit id,s',g',rfl,hq,u⟩
  | ret=> exact ⟨.ret,s',g',rfl,hq,u⟩
 | exit id=> exact fun s Q g a w h hr=> wp_exit ⟨.exit id,s,g,rfl,h,hr⟩
 | ret=> exact fun s Q g a w h hr=> wp_ret ⟨.ret,s,g,rfl,h,hr⟩
 | _=> intro s Q g a w h;simp [awp] at h
def ZKd(cfg:Cfg U)(Γ:Known U)(draws:Array Oper->FSt U->Bool)(n:Nat)(lv:Za U)(y:Code)(Q:AExit->LSt U->Prop):AExit->LSt U->Prop:=
 AExit.then (fun s'=> awp cfg Γ draws n lv y s' Q) Q
theorem Zc {U:Uni} {ι:Type} (f:ι->LSt U) (I:ι->Prop) (μ:ι->Nat) {body:LSt U->(AExit->LSt U->Prop)->Prop} {s:LSt U} {Q:AExit->LSt U->Prop} (i0:ι) (hs:s=f i0) (h0:I i0)
  (hb:∀ i,I i->body (f i) (AExit.then (fun h=> ∃ j,h=f j/\I j/\μ j < μ i) Q)):Zp body s Q:=by
 refine ⟨fun k s=> ∃ i,s=f i/\I i/\μ i=k,μ i0,⟨i0,hs,h0,rfl⟩,?_⟩
 grind
def sub:List Nat->Code->Code
 | [],c=> c
 | 0 ::r,.seq a _=> sub r a
 | _ ::r,.seq _ b=> sub r b
 | 0 ::r,.cond _ a _=> sub r a
 | _ ::r,.cond _ _ b=> sub r b
 | _ ::r,.block _ c=> sub r c
 | _ ::r,.loop c=> sub r c
 | _,_=> .skip
def cd(f:Func)(path:List Nat):Code:=sub path (f.body.getD .skip)
attribute [irreducible] awp
end Go.AM
