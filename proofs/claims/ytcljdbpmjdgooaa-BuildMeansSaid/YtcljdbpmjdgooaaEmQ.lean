import Derived.Test.YtcljdbpmjdgooaaEmG
set_option linter.unusedSimpArgs false
set_option linter.unusedVariables false
namespace Go.AM
variable {U:Uni} {P:Program} {cfg:Cfg U} {B:Base} {st:FSt U} {g:Gh} {a:Act} {w:World}
def Gh.setBs(g:Gh)(t:Tok)(v:Value × Nat):Gh:={ g with bs:=fun u=> if u=t then some v else g.bs u }
theorem Fr.setBs{t:Tok}{v:Value × Nat}(h:Fr B g w)(ht:t.isA=false:=by rfl):Fr B (g.setBs t v) w:=⟨h.stay,h.xad,h.mono,h.outer,h.outer',h.clean,h.frz,fun v hv=> by
 simp only [Gh.setBs];rw [if_neg (fun e=> by rw [<-e] at ht;cases ht)];exact h.ab v hv⟩
theorem Keeps.setBs{g':Gh}{dead dead2:Tok->Bool}{live live2:Name->Bool}{t:Tok}{v:Value × Nat}(k:Keeps g g' dead dead2 live live2)(hf:g.bs t=none):Keeps g (g'.setBs t v) dead dead2 live live2:=
 ⟨k.m,k.tok,k.dead,k.ad,fun u x hd hu=> by
  simp only [Gh.setBs]
  split
  .grind
  .exact k.bs u x hd hu,k.adx,fun u hA x hu=> by
  simp only [Gh.setBs]
  split
  .grind
  .exact k.ar u hA x hu⟩
def ZE(d:Nat)(T:U.Ty)(l:List (U.El T))(f:Nat)(kl:List Tok):Eff U:={ val:=some (.c (.mref (.r d 0))),kill:=kl,ls:=[(.r d 0,⟨T,l,f⟩)] }
theorem Z5Y{d:Nat}{T:U.Ty}{l:List (U.El T)}{f:Nat}{kl:List Tok}{t:Tok}{x:LC U}(h:Ye st.ls (ZE d T l f kl) t=some x):
  (t= .r d 0/\x=⟨T,l,f⟩)\/(t≠.r d 0/\st.ls t=some x/\kl.contains t=false):=by
 unfold Ye at h
 cases hk:kl.contains t with
 | true=> simp only [ZE,hk,cond_true,reduceCtorEq] at h
 | false=>
  simp only [ZE,hk,cond_false,Z7] at h
  grind
theorem Z0V{d:Nat}{T:U.Ty}{l:List (U.El T)}{f:Nat}{kl:List Tok}{t:Tok}(h:Ye st.ls (ZE d T l f kl) t.root=none)(hd:Zb st (ZE d T l f kl) t.root=false):
  t≠.r d 0/\st.ls t.root=none/\st.dead t.root=false:=by
 suffices hh:t.root≠.r d 0/\st.ls t.root=none/\st.dead t.root=false from ⟨fun e=> hh.1 (by rw [e];rfl),hh.2⟩
 generalize t.root=t at*
 simp only [Zb,Qi] at hd
 unfold Ye at h
 rw [hd.2] at h
 simp only [ZE,cond_false,Z7] at h
 grind
theorem Z2g (h:Rel cfg B st g a w) {w1:World} (hw:SameHeap w w1) {T:U.Ty} {l:List (U.El T)} {arr:Array Value} (e:TypeId) {cap d f:Nat} {kl:List Tok}
  (hcap:l.length<=cap) (hf:f<=l.length) (hsz:arr.size=cap*cfg.sz T) (henc:∀ x,(cfg.enc T x).length=cfg.sz T)
  (hTA:cfg.aT T=none) (hls:st.ls (.r d 0)=none) (hdd:st.dead (.r d 0)=false) (hkl:kl.contains (.r d 0)=false)
  (hrows:∀ i x,l[i]?=some x->∀ j c,(cfg.enc T x)[j]?=some c->∃ v,arr[i*cfg.sz T+j]?=some v/\SimC cfg g.m v c):
  ∃ g',Out cfg B st g (ZE d T l f kl) (.slice (some ⟨w.heap.size,0,none⟩) l.length cap) (w1.alloc (.cells arr e)) g':=by
 let im:Nat->Bool:=fun i=> decide (i < f*cfg.sz T)
 let tg:Nat->Option Tag:=fun i=> if f*cfg.sz T<=i/\i < arr.size then some (.tok (.r d 0)) else none
 obtain ⟨h1,h2,h3,h4,h5⟩:=Zba h hw arr e im tg g.ad (by
  grind) (fun _ _=> rfl) (fun _=> rfl)
 have hfree:=h.fresh (.r d 0) rfl hls hdd
 have hk0:Keeps g (g.new w.heap.size arr im tg g.ad) st.dead (Zb st (ZE d T l f kl)) (fun nm=> (st.mem nm).isSome) (ZK st (ZE d T l f kl)):=h3 kl.contains _ (fun nm hs=> hs)
 have hk:=hk0.setBs (t:= .r d 0) (v:=(.slice (some ⟨w.heap.size,0,none⟩) l.length cap,cfg.sz T)) hfree
 have hnd:Zb st (ZE d T l f kl) (.r d 0)=false:=by simp only [Zb,ZE,hdd,hkl,X7]
 refine ⟨(g.new w.heap.size arr im tg g.ad).setBs (.r d 0) (.slice (some ⟨w.heap.size,0,none⟩) l.length cap,cfg.sz T),h1,h2.setBs,hk,?_,⟨.mref _ _ ⟨rfl,rfl⟩,fun _=> ⟨cfg.sz T,by simp [Gh.setBs]⟩⟩,?_,?_⟩
 .intro nm cs hm j c hj
  refine Z7o h hk h5 ?_ nm cs hm j c hj
  intro c t ht
  have:=h.inv.lt ht
  simp only [Gh.setBs,Gh.new]
  grind
 .intro t x hx
  rcases Z5Y hx with ⟨rfl,rfl⟩ | ⟨hne,hx,hkt⟩
  .refine ⟨hnd,.inl ⟨hTA,rfl,.inr ⟨⟨w.heap.size,0,none⟩,l.length,cap,by simp [Gh.setBs],rfl,hcap,hf,?_,?_⟩⟩⟩
   .intro i y hy j c hc
    obtain ⟨v,h6,h7⟩:=hrows i y hy j c hc
    have hi:i < l.length:=(Q1.1 hy).1
    have hj:j < cfg.sz T:=by have:=(Q1.1 hc).1;rw [henc] at this;exact this
    have hlt:i*cfg.sz T+j < arr.size:=(QI.1 h6).1
    simp only [Addr.add_lit,Qq]
    refine ⟨v,(h4 _).trans h6,h7.mono hk.m,fun hif=> ?_,fun hif=> ?_⟩
    .have:(i+1)*cfg.sz T<=f*cfg.sz T:=Q8 _ hif
     rw [Qr] at this
     simp only [Gh.setBs,Gh.new,and_self,if_true,im]
     grind
    .have:f*cfg.sz T<=i*cfg.sz T:=Q8 _ hif
     simp only [Gh.setBs,Gh.new,and_self,if_true,tg]
     grind
   .intro j a1 a2
    dsimp only at a1 a2
    have:f*cfg.sz T<=l.length*cfg.sz T:=Q8 _ hf
    simp only [Addr.add_lit,Qq]
    simp only [Gh.setBs,Gh.new,and_self,if_true,tg]
    grind
  .obtain ⟨h6,h7⟩:=h.ls t x hx
   have hd:Zb st (ZE d T l f kl) t=false:=by simp only [Zb,ZE,h6,hkt,X7]
   exact ⟨hd,h7.keep hk hd (fun c v hv=> h5 _ _ (h.inv.im c v hv).1) (fun c u _ ht=> by obtain ⟨_,v,hv⟩:=h.inv.it c _ ht;grind) (fun _ u hA hu=> by simp only [Gh.setBs];rw [if_neg (fun e=> by subst e;cases hA)];exact hu) (fun _ c u hA ht=> Z7n (arr:=arr) (im:=im) (tg:=tg) (ad:=g.ad) h c u hA ht)⟩
 .intro t h0 h6 h7
  obtain ⟨h8,h9,h10⟩:=Z0V h6 h7
  simp only [Gh.setBs]
  rw [if_neg h8]
  exact h.fresh t h0 h9 h10
structure Src (cfg:Cfg U) (g:Gh) (w:World) (T:U.Ty) (l:List (U.El T)) (f:Nat) (kl:List Tok) (b:Addr) (len cap:Nat):Prop where
 hl:l.length=len
 hc:len<=cap
 hf:f<=len
 rows:∀ i y,l[i]?=some y->∀ j c,(cfg.enc T y)[j]?=some c->∃ u,w.cell? (b.add (i*cfg.sz T+j))=some u/\SimC cfg g.m u c/\
  (i < f->g.m (b.add (i*cfg.sz T+j))=some u)/\(f<=i->∃ t,kl=[t]/\g.tag (b.add (i*cfg.sz T+j))=some (.tok t))
 tail:∀ j,len*cfg.sz T<=j->j < cap*cfg.sz T->∃ t,kl=[t]/\g.tag (b.add j)=some (.tok t)
theorem Src.own(ok:CfgOk P cfg){T:U.Ty}{l:List (U.El T)}{f:Nat}{kl:List Tok}{b:Addr}{len cap:Nat}(s:Src cfg g w T l f kl b len cap):
  ∀ j,f*cfg.sz T<=j->j < cap*cfg.sz T->∃ t,kl=[t]/\g.tag (b.add j)=some (.tok t):=by
 intro j h1 h2
 have hpos:=ok.sz_pos T
 rcases Xz j (len*cfg.sz T) with h3 | h3
 .have hi:j / cfg.sz T < l.length:=by rw [s.hl];exact Xm (by grind)
  have hjj:j % cfg.sz T < (cfg.enc T (l[j / cfg.sz T])).length:=by rw [ok.enc_len];exact XA _ hpos
  obtain ⟨u,_,_,_,h4⟩:=s.rows _ _ (Q0 hi) _ _ (Q0 hjj)
  have e:j / cfg.sz T*cfg.sz T+j % cfg.sz T=j:=by rw [X6];exact XK _ _
  rw [e] at h4
  exact h4 ((XU hpos).2 h1)
 .exact s.tail j h3 h2
theorem Src.list(ok:CfgOk P cfg){T:U.Ty}{l:List (U.El T)}{f:Nat}{kl:List Tok}{b:Addr}{len cap:Nat}(s:Src cfg g w T l f kl b len cap):
  ∃ vs:List Value,vs.length=len*cfg.sz T/\(∀ (j:Nat) v,vs[j]?=some v->w.cell? (b.add j)=some v)/\
   ∀ (i:Nat) x,l[i]?=some x->∀ (j:Nat) c,(cfg.enc T x)[j]?=some c->∃ v,vs[i*cfg.sz T+j]?=some v/\SimC cfg g.m v c:=by
 have hpos:=ok.sz_pos T
 let fn:Nat->Value:=fun j=> (w.cell? (b.add j)).getD undef
 have hf:∀ j,j < len*cfg.sz T->w.cell? (b.add j)=some (fn j):=by
  intro j hj
  have hi:j / cfg.sz T < l.length:=by rw [s.hl];exact Xm (by grind)
  have hjj:j % cfg.sz T < (cfg.enc T (l[j / cfg.sz T])).length:=by rw [ok.enc_len];exact XA _ hpos
  obtain ⟨v,h1,_⟩:=s.rows _ _ (Q0 hi) _ _ (Q0 hjj)
  have e:j / cfg.sz T*cfg.sz T+j % cfg.sz T=j:=by rw [X6];exact XK _ _
  rw [e] at h1
  simp only [fn,h1,Qu]
 refine ⟨(List.range (len*cfg.sz T)).map fn,by simp,?_,?_⟩
 .grind
 .intro i x hx j c hc
  obtain ⟨v,h1,h2,_⟩:=s.rows i x hx j c hc
  have hi:i < l.length:=(Q1.1 hx).1
  have hj:j < cfg.sz T:=by have:=(Q1.1 hc).1;rw [ok.enc_len] at this;exact this
  have hlt:i*cfg.sz T+j < len*cfg.sz T:=by
   have:(i+1)*cfg.sz T<=len*cfg.sz T:=Q8 _ (by have:=s.hl;omega)
   rw [Qr] at this;omega
  grind
open Classical in
noncomputable def Gh.renamed(g:Gh)(b:Addr)(lo hi:Nat)(t:Tok)(v:Value × Nat):Gh:=
 {m:=g.m
  tag:=fun c=> if ∃ j,lo<=j/\j < hi/\c=b.add j then some (.tok t) else g.tag c
  ad:=g.ad
  bs:=fun u=> if u=t then some v else g.bs u }
theorem Z48 (ok:CfgOk P cfg) (h:Rel cfg B st g a w) {T:U.Ty} {l l':List (U.El T)} {b:Addr} {f len cap n:Nat} {vs:List Value} {d:Nat} {kl:List Tok}
  (s:Src cfg g w T l f kl b len cap) (hfit:len+n<=cap) (hln:l'.length=n)
  (hvl:vs.length=n*cfg.sz T) (hvo:∀ v∈vs,v.oneCell'=true)
  (hvr:∀ (i:Nat) x,l'[i]?=some x->∀ (j:Nat) c,(cfg.enc T x)[j]?=some c->∃ v,vs[i*cfg.sz T+j]?=some v/\SimC cfg g.m v c)
  (hTA:cfg.aT T=none) (hkA:∀ u,kl=[u]->u.isA=false) (hls:st.ls (.r d 0)=none) (hdd:st.dead (.r d 0)=false) (hkl:kl.contains (.r d 0)=false):
  ∃ w' g',(storeCells (b.add (len*cfg.sz T)) vs).run P w= .ok () w'/\Out cfg B st g (ZE d T (l++l') f kl) (.slice (some b) (len+n) cap) w' g':=by
 have hmul:(len+n)*cfg.sz T=len*cfg.sz T+n*cfg.sz T:=Qr ..
 have hcapm:(len+n)*cfg.sz T<=cap*cfg.sz T:=Q8 _ hfit
 have hfm:f*cfg.sz T<=len*cfg.sz T:=Q8 _ s.hf
 have hown:=s.own ok
 have hl:=s.hl
 obtain ⟨w',h1,h2,h3,h4,h5,h6⟩:=Y2 (P:=P) (b.add (len*cfg.sz T)) vs 0 w hvo (by
  intro j hj
  rw [Go.Deep.add_add,Qq]
  obtain ⟨u,_,ht⟩:=s.tail (len*cfg.sz T+j) (by omega) (by omega)
  obtain ⟨h7,v,h8⟩:=h.inv.it _ _ ht
  exact ⟨⟨v,h8⟩,h7⟩)
 simp only [Qq,Go.Deep.add_add] at h2 h3 h4
 let g':=g.renamed b (f*cfg.sz T) (cap*cfg.sz T) (.r d 0) (.slice (some b) (len+n) cap,cfg.sz T)
 have hfree:=h.fresh (.r d 0) rfl hls hdd
 have hnd:Zb st (ZE d T (l++l') f kl) (.r d 0)=false:=by simp only [Zb,ZE,hdd,hkl,X7]
 have hnot:∀ c,(∃ t,g.tag c=some t/\∀ u,kl=[u]->t≠.tok u)\/g.tag c=none->¬∃ j,f*cfg.sz T<=j/\j < cap*cfg.sz T/\c=b.add j:=by
  rintro c hc ⟨j,a1,a2,rfl⟩
  obtain ⟨u,hu,ht⟩:=hown j a1 a2
  rcases hc with ⟨t,h7,h8⟩ | h7
  .rw [ht] at h7;cases h7;exact h8 u hu rfl
  .rw [ht] at h7;cases h7
 have htagk:∀ c,(¬∃ j,f*cfg.sz T<=j/\j < cap*cfg.sz T/\c=b.add j)->g'.tag c=g.tag c:=by
  intro c hc
  simp only [g',Gh.renamed]
  rw [if_neg hc]
 have hcellk:∀ c,(¬∃ j,f*cfg.sz T<=j/\j < cap*cfg.sz T/\c=b.add j)->w'.cell? c=w.cell? c:=by
  intro c hc
  exact h4 c fun j hj e=> hc ⟨_,by omega,by omega,e⟩
 have hmc:∀ c v,g.m c=some v->w'.cell? c=some v:=by
  intro c v hv
  obtain ⟨h7,h8⟩:=h.inv.im c v hv
  rw [hcellk c (hnot c (.inr h8))]
  exact h7
 have hdk:∀ t,Zb st (ZE d T (l++l') f kl) t=false->∀ u,kl=[u]->t≠u:=by
  intro t ht u hu e
  subst e
  simp [Zb,ZE,hu] at ht
 have hkeep:Keeps g g' st.dead (Zb st (ZE d T (l++l') f kl)) (fun nm=> (st.mem nm).isSome) (ZK st (ZE d T (l++l') f kl)):=by
  refine ⟨fun _ _ h=> h,fun c t hd _ ht=> ?_,fun t ht=> ?_,fun nm hn=> ⟨hn,rfl⟩,fun t v hd hv=> ?_,fun _=> rfl,fun t hA v hv=> ?_⟩
  rotate_right
  .simp only [g',Gh.renamed]
   rw [if_neg (fun e=> by subst e;cases hA)]
   exact hv
  .rw [htagk c (hnot c (.inl ⟨_,ht,fun u hu e=> by cases e;exact hdk _ hd _ hu rfl⟩))]
   exact ht
  .simp only [Zb,Qi] at ht
   exact ht.1
  .simp only [g',Gh.renamed]
   split
   .rename_i e;subst e;rw [hfree] at hv;cases hv
   .exact hv
 refine ⟨w',g',h1,⟨fun c v hv=> ?_,fun c t ht=> ?_⟩,?_,hkeep,?_,⟨.mref _ _ ⟨rfl,rfl⟩,fun _=> ⟨cfg.sz T,by simp [g',Gh.renamed]⟩⟩,?_,?_⟩
 .exact ⟨hmc c v hv,by rw [htagk c (hnot c (.inr (h.inv.im c v hv).2))];exact (h.inv.im c v hv).2⟩
 .have hold:∀ t',g.tag c=some t'->w'.frozen? c=false/\∃ v,w'.cell? c=some v:=by
   intro t' ht'
   obtain ⟨h7,u,h8⟩:=h.inv.it c t' ht'
   exact ⟨(h5 c).trans h7,h2.some c u h8⟩
  by_cases hc:∃ j,f*cfg.sz T<=j/\j < cap*cfg.sz T/\c=b.add j
  .obtain ⟨j,a1,a2,rfl⟩:=hc
   obtain ⟨u,_,h7⟩:=hown j a1 a2
   exact hold _ h7
  .rw [htagk c hc] at ht
   exact hold t ht
 .refine h.fr.step h.inv h2 ?_ (fun _ _ h=> h) ?_ ?_ (fun _=> rfl)
  .rintro c ⟨j,hj,rfl⟩
   obtain ⟨u,_,ht⟩:=s.tail (len*cfg.sz T+j) (by omega) (by omega)
   exact ⟨_,ht,fun t' e=> by cases e⟩
  .intro c t
   by_cases hc:∃ j,f*cfg.sz T<=j/\j < cap*cfg.sz T/\c=b.add j
   .have h8:g'.tag c=some (.tok (.r d 0)):=by simp only [g',Gh.renamed];rw [if_pos hc]
    obtain ⟨j,a1,a2,rfl⟩:=hc
    obtain ⟨u,_,h7⟩:=hown j a1 a2
    rw [h7,h8]
    constructor <;> intro e <;> cases e
   .rw [htagk c hc]
  .intro bb _ hall o sp
   refine htagk _ fun hc=> ?_
   obtain ⟨j,a1,a2,e⟩:=hc
   obtain ⟨u,_,h7⟩:=hown j a1 a2
   rw [<-e] at h7
   obtain ⟨t',h8⟩:=hall _ _ _ h7
   cases h8
 .intro nm cs hm j c hj
  obtain ⟨v,h7,h8,h9⟩:=h.mem nm cs hm j c hj
  have hno:=hnot _ (.inl ⟨_,h8,fun u _ e=> by cases e⟩)
  exact ⟨v,(hcellk _ hno).trans h7,(htagk _ hno).trans h8,h9.keep hkeep⟩
 .intro t x hx
  rcases Z5Y hx with ⟨rfl,rfl⟩ | ⟨hne,hx,hkt⟩
  .refine ⟨hnd,.inl ⟨hTA,rfl,.inr ⟨b,len+n,cap,by simp [g',Gh.renamed],by simp [hl,hln],hfit,by have:=s.hf;simp only;omega,?_,?_⟩⟩⟩
   .intro i y hy j c hc
    simp only at hy hc ⊢
    have hj:j < cfg.sz T:=by have:=(Q1.1 hc).1;rw [ok.enc_len] at this;exact this
    have hi:i < len+n:=by have:=(Q1.1 hy).1;simp [hl,hln] at this;exact this
    have hlt:i*cfg.sz T+j < (len+n)*cfg.sz T:=by
     have:(i+1)*cfg.sz T<=(len+n)*cfg.sz T:=Q8 _ hi
     rw [Qr] at this;omega
    have htag:f<=i->g'.tag (b.add (i*cfg.sz T+j))=some (.tok (.r d 0)):=by
     intro hfi
     have:f*cfg.sz T<=i*cfg.sz T:=Q8 _ hfi
     simp only [g',Gh.renamed]
     rw [if_pos ⟨_,by omega,by omega,rfl⟩]
    rw [Qm] at hy
    split at hy
    .rename_i hlt2
     obtain ⟨u,h7,h8,h9,h10⟩:=s.rows i y hy j c hc
     refine ⟨u,?_,h8.mono hkeep.m,h9,htag⟩
     have hlt3:i*cfg.sz T+j < len*cfg.sz T:=by
      have:(i+1)*cfg.sz T<=len*cfg.sz T:=Q8 _ (by omega)
      rw [Qr] at this;omega
     rw [h4 _ fun j' hj' e=> by have:=YP e;omega]
     exact h7
    .rename_i hge
     rw [hl] at hy hge
     obtain ⟨u,h7,h8⟩:=hvr _ y hy j c hc
     have e1:len*cfg.sz T<=i*cfg.sz T:=Q8 _ (by omega)
     have h9:=h3 _ _ h7
     rw [show len*cfg.sz T+((i - len)*cfg.sz T+j)=i*cfg.sz T+j by rw [Ke];omega] at h9
     exact ⟨u,h9,h8.mono hkeep.m,fun hif=> by have:=s.hf;omega,htag⟩
   .intro j a1 a2
    dsimp only at a1 a2
    simp only [g',Gh.renamed]
    rw [if_pos ⟨j,by omega,a2,rfl⟩]
  .obtain ⟨h7,h8⟩:=h.ls t x hx
   have hd:Zb st (ZE d T (l++l') f kl) t=false:=by simp only [Zb,ZE,h7,hkt,X7]
   exact ⟨hd,h8.keep hkeep hd hmc (fun c u hr ht=> hcellk c (hnot c (.inl ⟨_,ht,fun u' hu e=> by cases e;exact hdk _ hd _ hu (hr▸Tok.root_of (hkA _ hu))⟩))) (fun _ u hA hu=> by simp only [g',Gh.renamed];rw [if_neg (fun e=> by subst e;cases hA)];exact hu) (fun _ c u hA ht=> by
    rw [htagk c (hnot c (.inl ⟨_,ht,fun u hu e=> by cases e;rw [hkA _ hu] at hA;cases hA⟩))]
    exact ht)⟩
 .intro t h0 h7 h8
  obtain ⟨h9,h10,h11⟩:=Z0V h7 h8
  simp only [g',Gh.renamed]
  rw [if_neg h9]
  exact h.fresh t h0 h10 h11
theorem Zcv(h:Rel cfg B st g a w){T:U.Ty}{d:Nat}{kl:List Tok}(hTA:cfg.aT T=none)(hls:st.ls (.r d 0)=none)(hdd:st.dead (.r d 0)=false)(hkl:kl.contains (.r d 0)=false):
  Out cfg B st g (ZE d T [] 0 kl) (.slice none 0 0) w (g.setBs (.r d 0) (.slice none 0 0,cfg.sz T)):=by
 have hfree:=h.fresh (.r d 0) rfl hls hdd
 have hnd:Zb st (ZE d T [] 0 kl) (.r d 0)=false:=by simp only [Zb,ZE,hdd,hkl,X7]
 have hk0:Keeps g g st.dead (Zb st (ZE d T [] 0 kl)) (fun nm=> (st.mem nm).isSome) (ZK st (ZE d T [] 0 kl)):=
  ⟨fun _ _ h=> h,fun _ _ _ _ h=> h,fun t ht=> by simp only [Zb,Qi] at ht;exact ht.1,fun nm hn=> ⟨hn,rfl⟩,fun _ _ _ h=> h,fun _=> rfl,fun _ _ _ h=> h⟩
 have hk:=hk0.setBs (t:= .r d 0) (v:=(.slice none 0 0,cfg.sz T)) hfree
 refine ⟨h.inv,h.fr.setBs,hk,?_,⟨.mref _ _ ⟨rfl,rfl⟩,fun _=> ⟨cfg.sz T,by simp [Gh.setBs]⟩⟩,?_,?_⟩
 .intro nm cs hm j c hj
  obtain ⟨v,h7,h8,h9⟩:=h.mem nm cs hm j c hj
  exact ⟨v,h7,h8,h9.keep hk⟩
 .intro t x hx
  rcases Z5Y hx with ⟨rfl,rfl⟩ | ⟨hne,hx,hkt⟩
  .exact ⟨hnd,.inl ⟨hTA,rfl,.inl ⟨by simp [Gh.setBs],rfl,rfl⟩⟩⟩
  .obtain ⟨h7,h8⟩:=h.ls t x hx
   have hd:Zb st (ZE d T [] 0 kl) t=false:=by simp only [Zb,ZE,h7,hkt,X7]
   exact ⟨hd,h8.keep hk hd (fun c v hv=> (h.inv.im c v hv).1) (fun _ _ _ _=> rfl) (fun _ u hA hu=> by simp only [Gh.setBs];rw [if_neg (fun e=> by subst e;cases hA)];exact hu) (fun _ _ _ _ h=> h)⟩
 .intro t h0 h7 h8
  obtain ⟨h9,h10,h11⟩:=Z0V h7 h8
  simp only [Gh.setBs]
  rw [if_neg h9]
  exact h.fresh t h0 h10 h11
theorem Zau(h:Rel cfg B st g a w){T:U.Ty}(hTA:cfg.aT T=none){x:C U}{l:List (U.El T)}{f:Nat}{u:Option Tok}{v:Value}(hx:RelC cfg g st.dead v x)(he:Z4a cfg st T x=some (l,f,u)):
  ∃ b len cap,v= .slice b len cap/\l.length=len/\len<=cap/\(b=none->len=0/\cap=0/\f=0)/\(∀ b',b=some b'->Src cfg g w T l f u.toList b' len cap)/\(∀ t,u=some t->t.isA=false):=by
 have other:(∀ t,x≠.mref t)->(match Z9c cfg T x with
   | some (l,.full)=> some (l,l.length,none)
   | some (l,.own t)=> if st.dead t || t.isA then none else some (l,l.length,some t)
   | _=> none)=some (l,f,u)->∃ b len cap,v= .slice b len cap/\l.length=len/\len<=cap/\(b=none->len=0/\cap=0/\f=0)/\(∀ b',b=some b'->Src cfg g w T l f u.toList b' len cap)/\(∀ t,u=some t->t.isA=false):=by
  intro _ he
  cases hs:Z9c cfg T x with
  | none=> grind
  | some p=>
   obtain ⟨l0,tl⟩:=p
   rw [hs] at he
   obtain ⟨hx',b,len,cap,rfl,hl,hc,hb⟩:=Z10 hx hs
   have hrows:∀ b',b=some b'->∀ i y,l0[i]?=some y->∀ j c,(cfg.enc T y)[j]?=some c->∃ u,w.cell? (b'.add (i*cfg.sz T+j))=some u/\SimC cfg g.m u c/\g.m (b'.add (i*cfg.sz T+j))=some u:=by
    rintro b' rfl i y hy j c hc
    obtain ⟨u,h1,h2⟩:=hx'.1.rows i y hy j c hc
    exact ⟨u,(h.inv.im _ _ h1).1,h2,h1⟩
   cases tl with
   | unk=> cases he
   | full=>
    simp only [Option.some.injEq,Prod.mk.injEq] at he
    obtain ⟨rfl,rfl,rfl⟩:=he
    refine ⟨b,len,cap,rfl,hl,hc,fun e=> ⟨(hb e).1,(hb e).2,by grind⟩,fun b' e=> ⟨hl,hc,by omega,fun i y hy j c hcj=> ?_,fun j a1 a2=> ?_⟩,fun t e=> (by cases e)⟩
    .grind
    .have:=hx'.2 _ _ _ rfl
     grind
   | own t=>
    simp only at he
    split at he
    .cases he
    .rename_i hd
     simp only [Option.some.injEq,Prod.mk.injEq] at he
     obtain ⟨rfl,rfl,rfl⟩:=he
     refine ⟨b,len,cap,rfl,hl,hc,fun e=> ⟨(hb e).1,(hb e).2,by grind⟩,fun b' e=> ⟨hl,hc,by omega,fun i y hy j c hcj=> ?_,fun j a1 a2=> ?_⟩,fun t e=> (by cases e;simp only [X4,not_or,Kc] at hd;exact hd.2)⟩
     .grind
     .subst e
      exact ⟨t,rfl,hx'.2 (by simp only [X4,not_or,Kc] at hd;exact hd.1) (by simp only [X4,not_or,Kc] at hd;exact hd.2) b' len cap rfl j a1 a2⟩
 cases x with
 | mref t=>
  simp only [Z4a] at he
  split at he
  .rename_i y hy
   split at he
   .rename_i hT _
    subst hT
    simp only [Option.some.injEq,Prod.mk.injEq] at he
    obtain ⟨rfl,rfl,rfl⟩:=he
    obtain ⟨hd,hL⟩:=h.ls t y hy
    obtain ⟨s,hs⟩:=hx.2 hd
    have hA:t.isA=false:=by
     rcases hL with ⟨_,hA,_⟩ | ⟨f,h4,_⟩
     .exact hA
     .rw [hTA] at h4;cases h4
    rcases hL.flatT hTA with ⟨h4,h5,h6⟩ | ⟨b,len,cap,h4,h5,h6,h7,h8,h9⟩
    .grind
    .rw [hs] at h4
     cases h4
     refine ⟨some b,len,cap,rfl,h5,h6,fun e=> (by cases e),fun b' e=> ?_,fun t' e=> (by cases e;exact hA)⟩
     cases e
     refine ⟨h5,h6,h7,fun i y hy j c hc=> ?_,fun j a1 a2=> ⟨t,rfl,h9 j a1 a2⟩⟩
     grind
   .cases he
  .cases he
 | _=> exact other (fun t e=> by cases e) he
theorem Z9C (ok:CfgOk P cfg) (h:Rel cfg B st g a w) {o:Oper} {d:Nat} {t:TypeId} {x y:C U} {px py:Operand} {ps:List Prop} {e:Eff U}
  (ho:o.op= .call { callee:= .builtin .append,args:=#[px,py],argTypes:=#[t,t] })
  (hx:RelC cfg g st.dead (a.eval px) x) (hy:RelC cfg g st.dead (a.eval py) y) (he:Z1R cfg st d t x y=some (ps,e)) (hps:All ps):
  Does P o a w fun v w'=> ∃ g',Out cfg B st g e v w' g':=by
 unfold Z1R at he
 split at he
 .cases he
 rename_i T hT
 split at he
 case h_2=> cases he
 rename_i l f u l' tl' hsx hsy
 split at he
 case isFalse=> cases he
 rename_i hfr
 simp only [Q3,Qp,Qo] at hfr
 obtain ⟨⟨hls,hdd⟩,hkl⟩:=hfr
 simp only [Option.some.injEq,Prod.mk.injEq] at he
 obtain ⟨rfl,rfl⟩:=he
 obtain ⟨hE,hU⟩:=Y8 ok hT
 obtain ⟨b,len,cap,hvx,hl,hc,hb,hsrc,hua⟩:=Zau h (ok.aSl _ _ hT) hx hsx
 have hkA:∀ u',u.toList=[u']->u'.isA=false:=fun u' e=> hua u' (by cases u <;> simp_all)
 have hTA:=ok.aSl _ _ hT
 obtain ⟨hy',b',n,cap',hvy,hl',hc',hb'⟩:=Z10 hy hsy
 rw [hvy] at hy'
 have hU':P.underlying t=some (.slice (cfg.elT T)):=by rw [hE] at hU;exact hU
 obtain ⟨i,ag,zs,z,hi,hisz,hib,hz,hvar,hzs⟩:=ok.el T
 have hroom:(l.length+l'.length)*cfg.bytes T<=140737488355328:=hps.1
 rw [hl,hl'] at hroom
 have hbp:=ok.bytes_pos T
 have hbig:len+n<=140737488355328:=Xh (Xt _ hbp) hroom
 have hnew:∃ vs:List Value,vs.length=n*cfg.sz T/\(∀ v∈vs,v.oneCell'=true)/\(∀ w:World,(∀ c v,g.m c=some v->w.cell? c=some v)->(Builtin.firstCells i.size n (.slice b' n cap')).run P w= .ok vs.toArray w)/\
   (∀ (k:Nat) x,l'[k]?=some x->∀ (j:Nat) c,(cfg.enc T x)[j]?=some c->∃ v,vs[k*cfg.sz T+j]?=some v/\SimC cfg g.m v c):=by
  cases b' with
  | none=>
   obtain ⟨rfl,rfl⟩:=hb' rfl
   have hl0:l'=[]:=Q6 hl'
   subst hl0
   exact ⟨[],by simp,by simp,fun w _=> run_firstCells_none w _ _ _ _,fun k x hx=> by simp at hx⟩
  | some a'=>
   obtain ⟨vs,h1,h2,h3⟩:=Z1s ok hy'.1
   refine ⟨vs,h1,fun v hv=> ?_,fun w hw=> ?_,h3⟩
   .obtain ⟨j,hj,rfl⟩:=QZ hv
    exact (h2 j _ (Q0 hj)).2
   .exact run_firstCells_some w i.size n a' n cap' vs (by grind) (fun j v hv=> hw _ _ (h2 j v hv).1)
 obtain ⟨vs,hvl,hvo,hvrun,hvr⟩:=hnew
 have hmw:∀ c v,g.m c=some v->w.cell? c=some v:=fun c v hv=> (h.inv.im c v hv).1
 have hargs:(execOp a.eval o).run P w=((Builtin.append_ #[t,t] o.type #[.slice b len cap,.slice b' n cap']).run P w).andThen fun v w=> .ok (.value v) w:=by
  simp only [execOp,ho,resolve,Sem.run_bind,Sem.run_pure,Result.andThen_ok,invoke,builtin]
  simp [hvx,hvy]
 have hul:∀ w,(underlying t).run P w= .ok (.slice (cfg.elT T)) w:=fun w=> run_underlying hU' w
 have heff:({ val:=some (.c (.mref (.r d 0))),kill:=u.toList,ls:=[(.r d 0,⟨T,l++l',f⟩)] }:Eff U)=ZE d T (l++l') f u.toList:=rfl
 rw [heff]
 by_cases hfit:len+n<=cap
 .cases b with
  | none=>
   obtain ⟨rfl,rfl,rfl⟩:=hb rfl
   have hn0:n=0:=by omega
   subst hn0
   have hl0:l=[]:=Q6 hl
   have hl1:l'=[]:=Q6 hl'
   subst hl0 hl1
   have hv0:vs=[]:=Q6 (by omega)
   subst hv0
   refine .inl ⟨.slice none 0 0,w,?_,_,Zcv h hTA hls hdd hkl⟩
   rw [hargs]
   simp [Builtin.append_,hul,sizeOf,typeInfo,hi,Builtin.lenOf,hvrun w hmw]
  | some b=>
   obtain ⟨w',g',h1,h2⟩:=Z48 (P:=P) (d:=d) ok h (hsrc b rfl) hfit hl' hvl hvo hvr hTA hkA hls hdd hkl
   refine .inl ⟨_,w',?_,g',h2⟩
   rw [hargs]
   rw [<-hisz] at h1
   simp [Builtin.append_,hul,sizeOf,typeInfo,hi,Builtin.lenOf,hvrun w hmw,hfit,h1]
 .have hgrow:cap < len+n:=by omega
  have hnpos:0 < n:=by omega
  have hn63:¬((len+n:Nat):Int) > 9223372036854775807:=by omega
  have hnext:Builtin.nextslicecap (len+n) cap*i.bytes<=281474976710656:=growslice_fits hgrow (by grind)
  have hcapw:=Z1c w (len+n) cap (cfg.elT T)
  have hold:∃ us:List Value,us.length=len*cfg.sz T/\(∀ w':World,(∀ c v,w.cell? c=some v->w'.cell? c=some v)->(Builtin.firstCells i.size len (.slice b len cap)).run P w'= .ok us.toArray w')/\
    ∀ (k:Nat) x,l[k]?=some x->∀ (j:Nat) c,(cfg.enc T x)[j]?=some c->∃ v,us[k*cfg.sz T+j]?=some v/\SimC cfg g.m v c:=by
   cases b with
   | none=>
    obtain ⟨rfl,rfl,rfl⟩:=hb rfl
    have hl0:l=[]:=Q6 hl
    subst hl0
    exact ⟨[],by simp,fun w _=> run_firstCells_none w _ _ _ _,fun k x hx=> by simp at hx⟩
   | some b=>
    obtain ⟨us,h1,h2,h3⟩:=(hsrc b rfl).list ok
    exact ⟨us,h1,fun w' hw=> run_firstCells_some w' i.size len b len cap us (by rw [hisz];exact h1) (fun j v hv=> hw _ _ (h2 j v hv)),h3⟩
  obtain ⟨us,hul2,hurun,hur⟩:=hold
  have hzl:z.cells.size=cfg.sz T:=by
   obtain ⟨z',hz',hZ⟩:=Jw ok hvar w
   have:z'=z:=by simp [zeroValue,typeInfo,hi,hz] at hz';exact hz'.symm
   subst this
   have:=(YH (g:=g) (st:=st) (cfg:=cfg) hZ).1;simp at this;omega
  let nc:=grownCap w (len+n) cap (cfg.elT T)
  let arr:Array Value:=us.toArray++vs.toArray++Builtin.zeroCells z.cells (nc - (len+n))
  have hnc:len+n<=nc:=hcapw
  have harr:arr.size=nc*cfg.sz T:=by
   have e1:(len+n)*cfg.sz T+(nc - (len+n))*cfg.sz T=nc*cfg.sz T:=by rw [<-Qr];congr 1;omega
   rw [Qr] at e1
   simp [arr,Builtin.zeroCells,hul2,hvl,hzl]
   omega
  have hfl:f<=(l++l').length:=by
   rw [Qb]
   cases b with
   | none=> grind
   | some b=> have:=(hsrc b rfl).hf;omega
  have hrows:=Z16 (m:=g.m) (vs:=us) (vs':=vs) (by rw [hul2,hl]) (ok.enc_len T) hur hvr
  obtain ⟨g',hout⟩:=Z2g (T:=T) (l:=l++l') (arr:=arr) (d:=d) (kl:=u.toList) (f:=f) h (SameHeap.drew w) (cfg.elT T) (cap:=nc) (by grind) hfl harr (ok.enc_len T) (ok.aSl _ _ hT) hls hdd hkl
   (fun k x hx j c hc=> by
    grind)
  rw [show (l++l').length=len+n by simp [hl,hl']] at hout
  refine .inl ⟨_,_,?_,g',hout⟩
  have hmd:∀ c v,g.m c=some v->w.drew.cell? c=some v:=fun c v hv=> (hmw c v hv)
  have hcd:∀ c v,w.cell? c=some v->w.drew.cell? c=some v:=fun _ _ hv=> hv
  rw [hargs]
  have h48:¬(Builtin.nextslicecap (len+n) cap*i.bytes > 2 ^ 48):=by omega
  have hb0:¬i.bytes=0:=by omega
  have h63:¬((9223372036854775807:Int) < (len:Int)+(n:Int)):=by omega
  simp [Builtin.append_,hul,sizeOf,typeInfo,zeroValue,hi,hz,Builtin.lenOf,hfit,h63,h48,Question.forced,hurun w.drew hcd,hvrun w.drew hmd,newRow]
  refine ⟨rfl,?_⟩
  simp only [arr,nc,grownCap,Xx]
theorem Z9B (ok:CfgOk P cfg) (h:Rel cfg B st g a w) {o:Oper} {d:Nat} {t t':TypeId} {x y:C U} {px py:Operand} {ps:List Prop} {e:Eff U}
  (ho:o.op= .call { callee:= .builtin .append,args:=#[px,py],argTypes:=#[t,t'] })
  (hx:RelC cfg g st.dead (a.eval px) x) (hy:RelC cfg g st.dead (a.eval py) y) (he:Z1Q cfg st d t t' x y=some (ps,e)) (hps:All ps):
  Does P o a w fun v w'=> ∃ g',Out cfg B st g e v w' g':=by
 unfold Z1Q at he
 split at he
 case h_2=> cases he
 rename_i T m0 nn hT hvt'
 split at he
 case h_2=> cases he
 rename_i l f u zel hsx hze
 split at he
 case isFalse=> cases he
 rename_i hfr
 simp only [Q3,Qp,Qo] at hfr
 obtain ⟨⟨hls,hdd⟩,hkl⟩:=hfr
 simp only [Option.some.injEq,Prod.mk.injEq] at he
 obtain ⟨rfl,rfl⟩:=he
 obtain ⟨hn0,hroom⟩:=hps.1
 obtain ⟨n,rfl⟩:=Ql hn0
 simp only [K0,Qj] at*
 obtain ⟨hE,hU⟩:=Y8 ok hT
 obtain ⟨b,len,cap,hvx,hl,hc,hb,hsrc,hua⟩:=Zau h (ok.aSl _ _ hT) hx hsx
 have hkA:∀ u',u.toList=[u']->u'.isA=false:=fun u' e=> hua u' (by cases u <;> simp_all)
 have hTA:=ok.aSl _ _ hT
 have hvy:a.eval py= .int .i64 n:=by
  have h1:=hy.1
  generalize a.eval py=q at h1 ⊢
  cases h1;rfl
 have hU':P.underlying t=some (.slice (cfg.elT T)):=by rw [hE] at hU;exact hU
 obtain ⟨_,it,zt,dt,_,hdt,_,hag,_,_,hdi,_⟩:=ok.var _ _ _ hvt'
 have hdt':=hdi rfl _ _ rfl
 subst hdt'
 obtain ⟨i,ag,zs,z,hi,hisz,hib,hz,hvar,hzs⟩:=ok.el T
 rw [hvar] at hze
 have hdz:cfg.dec T zs=some zel:=hze
 rw [hl] at hroom
 have hbp:=ok.bytes_pos T
 have hroomN:(len+n)*cfg.bytes T<=140737488355328:=by
  have:(((len+n)*cfg.bytes T:Nat):Int)<=140737488355328:=by rw [Xv,Xw];exact hroom
  omega
 have hbig:len+n<=140737488355328:=Xh (Xt _ hbp) hroomN
 obtain ⟨z0,hz0,hZ⟩:=Jw ok hvar w
 have hzz:z0=z:=by simp [zeroValue,typeInfo,hi,hz] at hz0;exact hz0.symm
 subst hzz
 have hrel:=YH (g:=g) (st:=st) (cfg:=cfg) hZ
 have hzl:z0.cells.size=cfg.sz T:=by have:=hrel.1;simp at this;omega
 have hpos:=ok.sz_pos T
 obtain ⟨_,hvc⟩:=Z5u ok hdz hrel.1 (fun j v c h1 h2=> hrel.sim h1 h2)
 have hnew:∃ vs:List Value,vs.length=n*cfg.sz T/\(∀ v∈vs,v.oneCell'=true)/\(Builtin.zeroCells z0.cells n).toList=vs/\
   (∀ (k:Nat) x,(List.replicate n zel)[k]?=some x->∀ (j:Nat) c,(cfg.enc T x)[j]?=some c->∃ v,vs[k*cfg.sz T+j]?=some v/\SimC cfg g.m v c):=by
  refine ⟨_,by simp [Builtin.zeroCells,hzl],?_,rfl,?_⟩
  .intro v hv
   simp only [Builtin.zeroCells,Xr,Xi] at hv
   obtain ⟨q,_,rfl⟩:=hv
   have hq:q % z0.cells.size < z0.cells.size:=XA _ (by omega)
   rw [getElem!_pos z0.cells _ hq]
   exact hrel.one _ (by simp)
  .intro k x hx j c hc
   obtain ⟨hk,hx⟩:=Q1.1 hx
   simp at hx hk
   subst hx
   obtain ⟨v,h7,h8⟩:=hvc j c hc
   have hj:j < cfg.sz T:=by have:=(Q1.1 hc).1;rw [ok.enc_len] at this;exact this
   have hlt:k*cfg.sz T+j < n*cfg.sz T:=by
    have:(k+1)*cfg.sz T<=n*cfg.sz T:=Q8 _ (by omega)
    rw [Qr] at this;omega
   refine ⟨v,?_,h8⟩
   have h9:z0.cells[j]?=some v:=by rw [<-h7];simp
   have hjz:j < z0.cells.size:=by omega
   have e:(k*cfg.sz T+j) % z0.cells.size=j:=by rw [hzl,X6,XW,Xf hj]
   have h10:z0.cells[j]! =v:=by
    rw [getElem!_pos z0.cells j hjz]
    rw [QB hjz] at h9
    exact Option.some.inj h9
   have hlt':k*cfg.sz T+j < n*z0.cells.size:=by rw [hzl];exact hlt
   simp [Builtin.zeroCells,hlt',e,h10]
 obtain ⟨vs,hvl,hvo,hvz,hvr⟩:=hnew
 have hvz':Builtin.zeroCells z0.cells n=vs.toArray:=by rw [<-hvz]
 have hmw:∀ c v,g.m c=some v->w.cell? c=some v:=fun c v hv=> (h.inv.im c v hv).1
 have hargs:(execOp a.eval o).run P w=((Builtin.append_ #[t,t'] o.type #[.slice b len cap,.int .i64 n]).run P w).andThen fun v w=> .ok (.value v) w:=by
  simp only [execOp,ho,resolve,Sem.run_bind,Sem.run_pure,Result.andThen_ok,invoke,builtin]
  simp [hvx,hvy]
 have hul:∀ w,(underlying t).run P w= .ok (.slice (cfg.elT T)) w:=fun w=> run_underlying hU' w
 have hul':∀ w,(underlying t').run P w= .ok (.int .i64) w:=fun w=> run_underlying hdt w
 have heff:({ val:=some (.c (.mref (.r d 0))),kill:=u.toList,ls:=[(.r d 0,⟨T,l++List.replicate n zel,f⟩)] }:Eff U)=ZE d T (l++List.replicate n zel) f u.toList:=rfl
 rw [heff]
 have hw64:IntKind.i64.wrap (n:Int)=n:=by simp [IntKind.wrap,IntKind.signed,IntKind.bits];omega
 have hneg:¬(n:Int) < 0:=by omega
 have hb48:¬(n:Int)*(i.bytes:Int) > 281474976710656:=by
  rw [hib]
  have:n*cfg.bytes T<=(len+n)*cfg.bytes T:=Q8 _ (by omega)
  have:((n*cfg.bytes T:Nat):Int)<=140737488355328:=by omega
  rw [Xv] at this
  omega
 have hl':(List.replicate n zel).length=n:=Qv
 by_cases hfit:len+n<=cap
 .cases b with
  | none=>
   obtain ⟨rfl,rfl,rfl⟩:=hb rfl
   have hn0:n=0:=by omega
   subst hn0
   have hl0:l=[]:=Q6 hl
   subst hl0
   refine .inl ⟨.slice none 0 0,w,?_,_,Zcv h hTA hls hdd hkl⟩
   rw [hargs]
   simp [Builtin.append_,hul,hul',sizeOf,typeInfo,hi,asInt,asIntOf,hw64]
   grind
  | some b=>
   obtain ⟨w',g',h1,h2⟩:=Z48 (P:=P) (d:=d) ok h (hsrc b rfl) hfit hl' hvl hvo hvr hTA hkA hls hdd hkl
   refine .inl ⟨_,w',?_,g',h2⟩
   rw [hargs]
   rw [<-hisz] at h1
   have hzv:(zeroValue (cfg.elT T)).run P w= .ok z0 w:=by simp [zeroValue,typeInfo,hi,hz]
   by_cases h0:n*i.size=0
   .have hv0:vs=[]:=Q6 (by grind)
    subst hv0
    simp [Builtin.append_,hul,hul',sizeOf,typeInfo,hi,asInt,asIntOf,hw64,hneg,hb48,hfit,h0,h1]
   .simp [Builtin.append_,hul,hul',sizeOf,typeInfo,hi,asInt,asIntOf,hw64,hneg,hb48,hfit,h0,hzv,hvz',h1]
 .have hgrow:cap < len+n:=by omega
  have hnpos:0 < n:=by omega
  have hn63:¬((len+n:Nat):Int) > 9223372036854775807:=by omega
  have hnext:Builtin.nextslicecap (len+n) cap*i.bytes<=281474976710656:=growslice_fits hgrow (by grind)
  have hcapw:=Z1c w (len+n) cap (cfg.elT T)
  have hold:∃ us:List Value,us.length=len*cfg.sz T/\(∀ w':World,(∀ c v,w.cell? c=some v->w'.cell? c=some v)->(Builtin.firstCells i.size len (.slice b len cap)).run P w'= .ok us.toArray w')/\
    ∀ (k:Nat) x,l[k]?=some x->∀ (j:Nat) c,(cfg.enc T x)[j]?=some c->∃ v,us[k*cfg.sz T+j]?=some v/\SimC cfg g.m v c:=by
   cases b with
   | none=>
    obtain ⟨rfl,rfl,rfl⟩:=hb rfl
    have hl0:l=[]:=Q6 hl
    subst hl0
    exact ⟨[],by simp,fun w _=> run_firstCells_none w _ _ _ _,fun k x hx=> by simp at hx⟩
   | some b=>
    obtain ⟨us,h1,h2,h3⟩:=(hsrc b rfl).list ok
    exact ⟨us,h1,fun w' hw=> run_firstCells_some w' i.size len b len cap us (by rw [hisz];exact h1) (fun j v hv=> hw _ _ (h2 j v hv)),h3⟩
  obtain ⟨us,hul2,hurun,hur⟩:=hold
  let nc:=grownCap w (len+n) cap (cfg.elT T)
  let arr:Array Value:=us.toArray++vs.toArray++Builtin.zeroCells z0.cells (nc - (len+n))
  have hnc:len+n<=nc:=hcapw
  have harr:arr.size=nc*cfg.sz T:=by
   have e1:(len+n)*cfg.sz T+(nc - (len+n))*cfg.sz T=nc*cfg.sz T:=by rw [<-Qr];congr 1;omega
   rw [Qr] at e1
   simp [arr,Builtin.zeroCells,hul2,hvl,hzl]
   omega
  have hfl:f<=(l++List.replicate n zel).length:=by
   rw [Qb]
   cases b with
   | none=> grind
   | some b=> have:=(hsrc b rfl).hf;omega
  have hrows:=Z16 (m:=g.m) (vs:=us) (vs':=vs) (by rw [hul2,hl]) (ok.enc_len T) hur hvr
  obtain ⟨g',hout⟩:=Z2g (T:=T) (l:=l++List.replicate n zel) (arr:=arr) (d:=d) (kl:=u.toList) (f:=f) h (SameHeap.drew w) (cfg.elT T) (cap:=nc) (by grind) hfl harr (ok.enc_len T) (ok.aSl _ _ hT) hls hdd hkl
   (fun k x hx j c hc=> by
    obtain ⟨v,h1,h2⟩:=hrows k x hx j c hc
    grind)
  rw [show (l++List.replicate n zel).length=len+n by simp [hl]] at hout
  refine .inl ⟨_,_,?_,g',hout⟩
  have hcd:∀ c v,w.cell? c=some v->w.drew.cell? c=some v:=fun _ _ hv=> hv
  rw [hargs]
  have h48:¬(Builtin.nextslicecap (len+n) cap*i.bytes > 2 ^ 48):=by omega
  have hb0:¬i.bytes=0:=by omega
  have h63:¬((9223372036854775807:Int) < (len:Int)+(n:Int)):=by omega
  have h0:¬n*i.size=0:=by rw [hisz];have:=Nat.mul_pos hnpos hpos;omega
  have hzv:∀ w:World,(zeroValue (cfg.elT T)).run P w= .ok z0 w:=fun w=> by simp [zeroValue,typeInfo,hi,hz]
  simp [Builtin.append_,hul,hul',sizeOf,typeInfo,hi,asInt,asIntOf,hw64,hneg,hb48,hfit,h63,h48,h0,hzv,hvz',Question.forced,hurun w.drew hcd,newRow]
  refine ⟨rfl,?_⟩
  simp only [arr,nc,grownCap,Xx]
theorem Z5X (ok:CfgOk P cfg) (h:Rel cfg B st g a w) {o:Oper} {t:TypeId} {p q:Operand} {T:U.Ty} {n m:Int} {ag:Bool} {zs:List (C U)} {z:U.El T} {d:Nat} (hls:st.ls (.r d 0)=none) (hdd:st.dead (.r d 0)=false) (ho:o.op= .makeSlice t p q)
  (hT:cfg.slT t=some T) (hp:a.eval p= .int .i64 n) (hq:a.eval q= .int .i64 m) (hz:cfg.var (cfg.elT T)=some (ag,zs)) (hd:cfg.dec T zs=some z)
  (hn:0<=n/\n*cfg.bytes T<=140737488355328/\n<=9223372036854775807) (hm:m=n):
  Does P o a w fun v w'=> ∃ g',Out cfg B st g { val:=some (.c (.mref (.r d 0))),ls:=[(.r d 0,⟨T,List.replicate n.toNat z,0⟩)] } v w' g':=by
 have hm':=hm.symm
 subst hm'
 obtain ⟨k,rfl⟩:=Ql hn.1
 simp only [K0] at*
 rw [Qj]
 obtain ⟨hE,hU⟩:=Y8 ok hT
 obtain ⟨i,ag',zs',z',h1,h2,h3,h4,h5,h6⟩:=ok.el T
 rw [hz] at h5
 simp only [Option.some.injEq,Prod.mk.injEq] at h5
 obtain ⟨rfl,rfl⟩:=h5
 obtain ⟨z'',hzv,hZ⟩:=Jw ok hz w
 have hzz:z''=z':=by
  simp [zeroValue,typeInfo,h1,h4] at hzv;exact hzv.symm
 subst hzz
 have hrel:=YH (g:=g) (st:=st) (cfg:=cfg) hZ
 have hzl:z''.cells.size=cfg.sz T:=by have:=hrel.1;simp at this;omega
 have hpos:=ok.sz_pos T
 obtain ⟨hvl,hvc⟩:=Z5u ok hd hrel.1 (fun j v c h1 h2=> hrel.sim h1 h2)
 let arr:Array Value:=(Array.range (k*cfg.sz T)).map (z''.cells[· % z''.cells.size]!)
 obtain ⟨g',hout⟩:=Z2g (T:=T) (l:=List.replicate k z) (arr:=arr) (d:=d) (f:=0) (kl:=[]) h (SameHeap.refl w) (P.elem t) (cap:=k) (by simp) (by simp) (by simp [arr]) (ok.enc_len T) (ok.aSl _ _ hT) hls hdd rfl
  (by
   intro i x hx j c hc
   obtain ⟨hi,hx⟩:=Q1.1 hx
   simp at hx hi
   subst hx
   obtain ⟨v,h7,h8⟩:=hvc j c hc
   have hj:j < cfg.sz T:=by have:=(Q1.1 hc).1;rw [ok.enc_len] at this;exact this
   have hlt:i*cfg.sz T+j < k*cfg.sz T:=by
    have:(i+1)*cfg.sz T<=k*cfg.sz T:=Q8 _ (by omega)
    rw [Qr] at this;omega
   refine ⟨v,?_,h8⟩
   have h9:z''.cells[j]?=some v:=by rw [<-h7];simp
   have hjz:j < z''.cells.size:=by omega
   have e:(i*cfg.sz T+j) % z''.cells.size=j:=by rw [hzl,X6,XW,Xf hj]
   grind)
 rw [Qv] at hout
 refine .inl ⟨_,_,?_,g',hout⟩
 have hsz:=Yd ok T w
 rw [<-hE] at hsz hzv
 have hinfo:(typeInfo (P.elem t)).run P w= .ok i w:=by rw [hE];simp [typeInfo,h1]
 have hw:IntKind.i64.wrap (k:Int)=k:=by simp [IntKind.wrap,IntKind.signed,IntKind.bits];omega
 have hle:¬(281474976710656 < (i.bytes:Int)*(k:Int)):=by
  rw [h3,Kb];have:=hn.2.1;omega
 have hn0:¬(k:Int) < 0:=by omega
 simp only [execOp,ho]
 apply Z41
 simp only [hp,hq]
 by_cases h0:k*cfg.sz T=0
 .have harr:arr=#[]:=by simp only [arr,h0];simp
  simp [Instr.makeSlice,run_underlying hU,asInt,asIntOf,hinfo,hw,hle,hn0,hsz,h0,newRow,harr]
  grind
 .have hc1:(decide ((k:Int) < 0) || decide ((i.bytes:Int)*(k:Int) > 2 ^ 48) || decide ((k:Int) < 0) || decide ((k:Int) > (k:Int)))=false:=by
   simp [hle,hn0]
  simp only [Instr.makeSlice,Sem.run_bind,run_underlying hU,Result.andThen_ok,asInt,asIntOf,Sem.run_pure,hinfo,hw,hc1]
  simp only [Qs,if_false,Sem.run_bind,run_askRoom,Result.andThen_ok,hsz,Qj,h0,hzv,Sem.run_pure]
  try rfl
theorem Z5w (ok:CfgOk P cfg) (h:Rel cfg B st g a w) {o:Oper} {t:TypeId} {n:Nat} {parts:Array (Nat × Operand)} {T:U.Ty} {ps:List (Nat × V U)} {l:List (U.El T)} {d:Nat} (hls:st.ls (.r d 0)=none) (hdd:st.dead (.r d 0)=false) (ho:o.op= .buildSlice t n parts)
  (hT:cfg.slT t=some T) (hl:parts.size=ps.length) (hn:ps.length=n) (hsmall:n*cfg.sz T<=16777216)
  (hr:∀ (j:Nat) x y,parts[j]?=some x->ps[j]?=some y->x.1=y.1/\RelV cfg g st.dead (fun nm=> (st.mem nm).isSome) (a.eval x.2) y.2) (he:YE cfg T 0 ps=some l):
  Does P o a w fun v w'=> ∃ g',Out cfg B st g { val:=some (.c (.mref (.r d 0))),ls:=[(.r d 0,⟨T,l,0⟩)] } v w' g':=by
 obtain ⟨hE,hU⟩:=Y8 ok hT
 obtain ⟨i,ag,zs,z,h1,h2,h3,h4,h5,h6⟩:=ok.el T
 obtain ⟨z',hz,hZ⟩:=Jw ok h5 w
 have hzz:z'=z:=by
  simp [zeroValue,typeInfo,h1,h4] at hz;exact hz.symm
 subst hzz
 have hzl:z'.cells.size=cfg.sz T:=by have:=(YH (g:=g) (st:=st) (cfg:=cfg) hZ).1;simp at this;omega
 let vs0:Array Value:=if n*cfg.sz T=0 then (Array.range (n*cfg.sz T)).map ((#[]:Array Value)[· % 0]!) else (Array.range (n*cfg.sz T)).map (z'.cells[· % z'.cells.size]!)
 have hvs0:vs0.size=n*cfg.sz T:=by simp only [vs0];split <;> simp
 obtain ⟨hl2,vs',h7,h8,_,h9⟩:=Z6b (g:=g) (st:=st) ok (parts.toList.map fun x=> (x.1,a.eval x.2)) ps 0 l vs0 he (by simpa using hl) (by
  grind) (by grind)
 have hlen:l.length=n:=by omega
 obtain ⟨g',hout⟩:=Z2g (T:=T) (l:=l) (arr:=vs') (d:=d) (f:=0) (kl:=[]) h (SameHeap.refl w) (P.elem t) (cap:=n) (by omega) (XI _) (by rw [h8,hvs0]) (ok.enc_len T) (ok.aSl _ _ hT) hls hdd rfl
  (fun i x hx j c hc=> by grind)
 rw [hlen] at hout
 refine .inl ⟨_,_,?_,g',hout⟩
 have hsz:=Yd ok T w
 rw [<-hE] at hsz hz
 simp only [execOp,ho]
 apply Z41
 simp only [Instr.buildSlice,Sem.run_bind,run_underlying hU,Result.andThen_ok,hsz]
 rw [if_neg (by omega)]
 by_cases h0:n*cfg.sz T=0
 .simp only [h0,if_true]
  simp only [vs0,h0,if_true] at h7
  have h7':Instr.fill (fun i=> some (i*cfg.sz T,cfg.sz T)) ((Array.range 0).map ((#[]:Array Value)[· % (#[]:Array Value).size]!)) (parts.map fun x=> (x.1,a.eval x.2)).toList=some vs':=by
   rw [Xr];exact h7
  simp only [Sem.run_bind,Sem.run_pure,Result.andThen_ok,h7']
  try rfl
 .simp only [h0,if_false]
  simp only [vs0,h0,if_false] at h7
  have h7':Instr.fill (fun i=> some (i*cfg.sz T,cfg.sz T)) ((Array.range (n*cfg.sz T)).map (z'.cells[· % z'.cells.size]!)) (parts.map fun x=> (x.1,a.eval x.2)).toList=some vs':=by
   rw [Xr];exact h7
  simp only [Sem.run_bind,Sem.run_pure,Result.andThen_ok,hz,h7']
  try rfl
theorem ZaG (ok:CfgOk P cfg) (h:Rel cfg B st g a w) {o:Oper} {t:TypeId} {p x:Operand} {ag:Bool} {zs new:List (C U)} {u:Tok} {y:LC U} {n off:Nat} {v:V U} {e:U.El y.T} (ho:o.op= .store t p x)
  (ht:cfg.var t=some (ag,zs)) (hp:RelV cfg g st.dead (fun nm=> (st.mem nm).isSome) (a.eval p) (.mp u n off)) (hv:RelV cfg g st.dead (fun nm=> (st.mem nm).isSome) (a.eval x) v)
  (hnew:v.cells=some new) (hy:st.ls u=some y) (hl:new.length=zs.length) (hf:y.f<=n)
  (hset:(Y9 (cfg.enc y.T (y.l.getD n (cfg.dflt y.T))) off new).bind (cfg.dec y.T)=some e):
  Does P o a w fun v w'=> ∃ g',Out cfg B st g { ls:=[(u,⟨y.T,y.l.set n e,y.f⟩)] } v w' g':=by
 obtain ⟨b,len,cap,hbs,hpv,hn,hlen,hcap,hfl,hrows,htail⟩:=Ziu h hy hp
 obtain ⟨hdu,hLu⟩:=h.ls u y hy
 obtain ⟨hTA,huA⟩:=hLu.flatA hbs
 obtain ⟨hs,_,_⟩:=Z09 ok ht w
 have hrel:=hv.cells hnew
 cases hsc:Y9 (cfg.enc y.T (y.l.getD n (cfg.dflt y.T))) off new with
 | none=> grind
 | some cs'=>
 rw [hsc] at hset
 have hdec:cfg.dec y.T cs'=some e:=hset
 obtain ⟨hd1,hd2⟩:=ok.dec_ok _ _ _ hdec
 have hel:y.l[n]?=some (y.l.getD n (cfg.dflt y.T)):=by simp [List.getD,Q0 hn]
 have henc:=ok.enc_len y.T (y.l.getD n (cfg.dflt y.T))
 have hle:off+new.length<=cfg.sz y.T:=by
  unfold Y9 at hsc
  split at hsc
  .omega
  .cases hsc
 have hvl:(a.eval x).cells.toList.length=new.length:=hrel.1
 have hrow:∀ j,j < cfg.sz y.T->∃ u' c,(cfg.enc y.T (y.l.getD n (cfg.dflt y.T)))[j]?=some c/\w.cell? (b.add (n*cfg.sz y.T+j))=some u'/\SimC cfg g.m u' c/\g.tag (b.add (n*cfg.sz y.T+j))=some (.tok u):=by
  intro j hj
  have hg:(cfg.enc y.T (y.l.getD n (cfg.dflt y.T)))[j]?=some ((cfg.enc y.T (y.l.getD n (cfg.dflt y.T)))[j]'(by omega)):=Q0 _
  obtain ⟨u',h1,h2,_,h4⟩:=hrows n _ hel j _ hg
  exact ⟨u',_,hg,h1,h2,h4 hf⟩
 obtain ⟨w',h1,h2,h3,h4,h5,h6⟩:=Y2 (P:=P) (b.add (n*cfg.sz y.T+off)) (a.eval x).cells.toList 0 w hrel.one (by
  intro j hj
  rw [Go.Deep.add_add,Qq]
  obtain ⟨u',_,_,hu,_,htg⟩:=hrow (off+j) (by omega)
  rw [show n*cfg.sz y.T+(off+j)=n*cfg.sz y.T+off+j by omega] at hu htg
  exact ⟨⟨u',hu⟩,(h.inv.it _ _ htg).1⟩)
 simp only [Qq,Go.Deep.add_add] at h2 h3 h4
 refine .inr (.inl ⟨w',?_,g,?_⟩)
 .have hsz:(a.eval x).cells.size=zs.length:=by simpa using hvl.trans hl
  simp only [execOp,ho,hpv]
  simp [Instr.storeAt,Instr.sureAddr,storeVar,hs,hsz,h1]
 .have htagS:∀ c,(∃ j,j < (a.eval x).cells.toList.length/\c=b.add (n*cfg.sz y.T+off+j))->g.tag c=some (.tok u):=by
   rintro c ⟨j,hj,rfl⟩
   obtain ⟨_,_,_,_,_,htg⟩:=hrow (off+j) (by omega)
   rw [show n*cfg.sz y.T+(off+j)=n*cfg.sz y.T+off+j by omega] at htg
   exact htg
  have hothers:∀ c,g.tag c≠some (.tok u)->w'.cell? c=w.cell? c:=fun c hc=> h4 c fun j hj e=> hc (htagS c ⟨j,hj,e⟩)
  have hmc:∀ c v,g.m c=some v->w'.cell? c=some v:=fun c v hv=> by
   obtain ⟨h7,h8⟩:=h.inv.im c v hv
   grind
  have hde:Zb st ({ ls:=[(u,⟨y.T,y.l.set n e,y.f⟩)] }:Eff U)=st.dead:=by funext t;simp [Zb]
  have hkeep:Keeps g g st.dead (Zb st ({ ls:=[(u,⟨y.T,y.l.set n e,y.f⟩)] }:Eff U)) (fun nm=> (st.mem nm).isSome) (ZK st ({ ls:=[(u,⟨y.T,y.l.set n e,y.f⟩)] }:Eff U)):=by
   rw [hde];exact .refl _ _ _
  refine ⟨⟨fun c v hv=> ⟨hmc c v hv,(h.inv.im c v hv).2⟩,fun c t htc=> ?_⟩,?_,hkeep,?_,trivial,?_,?_⟩
  .obtain ⟨h7,u',h8⟩:=h.inv.it c t htc
   grind
  .exact h.fr.step h.inv h2 (fun c hc=> ⟨_,htagS c hc,fun t' e=> by cases e⟩) (fun _ _ h=> h) (fun _ _=> Iff.rfl) (fun _ _ _ _ _=> rfl) (fun _=> rfl)
  .rw [hde]
   intro nm cs0 hm j c hj
   obtain ⟨v0,hv0,htg,hr0⟩:=h.mem nm cs0 hm j c hj
   grind
  .intro t z hz
   rw [hde]
   unfold Ye at hz
   simp only [Qx,cond_false,Z7] at hz
   split at hz
   .rename_i et
    subst et
    cases hz
    refine ⟨hdu,.inl ⟨hTA,huA,.inr ⟨b,len,cap,hbs,by simp [hlen],hcap,hfl,?_,htail⟩⟩⟩
    intro i q hq j c hc
    simp only at hq hc ⊢
    have hj:j < cfg.sz y.T:=by have:=(Q1.1 hc).1;rw [ok.enc_len] at this;exact this
    by_cases hin:i=n
    .subst hin
     rw [Xd] at hq
     simp only [if_true,hn] at hq
     cases hq
     obtain ⟨u',c0,g1,g2,g3,g4⟩:=hrow j hj
     have hc'l:cs'.length=cfg.sz y.T:=by rw [hd1];exact ok.enc_len _ _
     have hcj:cs'[j]?=some (cs'[j]'(by omega)):=Q0 _
     have hwk:=hd2 j _ c hcj hc
     have hget:cs'[j]?=if off<=j/\j < off+new.length then new[j - off]? else (cfg.enc y.T (y.l.getD i (cfg.dflt y.T)))[j]?:=by
      unfold Y9 at hsc
      rw [if_pos (by omega)] at hsc
      simp only [Option.some.injEq] at hsc
      rw [<-hsc,QM,Qm]
      simp only [Qd]
      rw [Xb (by omega)]
      split
      .grind
      .rename_i h7
       rw [Qm]
       split
       .rename_i h8;grind
       .rename_i h8
        rw [if_neg (by omega),Qh]
        congr 1;omega
     rw [hcj] at hget
     split at hget
     .rename_i hr
      have hx':(a.eval x).cells.toList[j - off]?=some ((a.eval x).cells.toList[j - off]'(by omega)):=Q0 _
      have h7:=h3 (j - off) _ hx'
      rw [show i*cfg.sz y.T+off+(j - off)=i*cfg.sz y.T+j by omega] at h7
      exact ⟨_,h7,(hrel.2 _ _ _ hx' hget.symm).1.wk hwk,fun hi=> by omega,fun _=> g4⟩
     .rename_i hr
      rw [g1] at hget
      cases hget
      refine ⟨u',?_,g3.wk hwk,fun hi=> by omega,fun _=> g4⟩
      rw [h4 _ fun j' hj' e=> by have:=YP e;omega]
      exact g2
    .rw [XE (K6 hin)] at hq
     obtain ⟨u',g1,g2,g3,g4⟩:=hrows i q hq j c hc
     refine ⟨u',?_,g2,g3,g4⟩
     rw [h4 _ fun j' hj' e=> by
      have:=YP e
      rcases Xz i n with hlt | hge
      .have:(i+1)*cfg.sz y.T<=n*cfg.sz y.T:=Q8 _ hlt
       grind
      .have:(n+1)*cfg.sz y.T<=i*cfg.sz y.T:=Q8 _ (by omega)
       grind]
     exact g1
   .rename_i hne
    obtain ⟨h7,h8⟩:=h.ls t z hz
    exact ⟨h7,h8.keep (.refl g st.dead (fun _=> true)) h7 hmc (fun c u' hr htc=> hothers c (fun e=> hne (by rw [htc] at e;cases e;rw [<-hr];exact Tok.root_of huA))) (fun _ _ _ h=> h) (fun _ _ _ _ h=> h)⟩
  .rw [hde]
   intro t h0 h7 h8
   unfold Ye at h7
   simp only [Qx,cond_false,Z7] at h7
   split at h7
   .cases h7
   .exact h.fresh t h0 h7 h8
theorem Z6p(ok:CfgOk P cfg):cfg.sz cfg.wsT=1/\cfg.sz cfg.wT=1:=by
 obtain ⟨_,h1⟩:=ok.wsI [[]]
 obtain ⟨y,_,h2⟩:=h1 0 [] rfl
 obtain ⟨_,h3⟩:=ok.wI [0]
 obtain ⟨z,_,h4⟩:=h3 0 0 rfl
 rw [<-ok.enc_len _ y,<-ok.enc_len _ z,h2,h4]
 exact ⟨rfl,rfl⟩
theorem Zld(ok:CfgOk P cfg){m:Addr->Option Value}(hm:∀ (c:Addr) (u:Tok) (v:Value),u.isA=true->g.tag c=some (.tok u)->w.cell? c=some v->m c=some v){i:Nat}{v:Value}{l:List Int}(h:Own1 w g i v l):SimC cfg m v (.slice cfg.wT (cfg.wI l) .unk):=by
 obtain ⟨h1,h2⟩:=ok.wI l
 rcases h with ⟨rfl,rfl⟩ | ⟨b,len,cap,rfl,h3,h4,h5,h6⟩
 .have:cfg.wI []=[]:=Q6 h1
  rw [this]
  exact .snil _ _
 .refine .of_rows _ (h1.trans h3) h4 fun k y hy j c hc=> ?_
  have hk:k < l.length:=by have:=(Q1.1 hy).1;omega
  obtain ⟨y',h7,h8⟩:=h2 k _ (Q0 hk)
  rw [hy] at h7
  cases h7
  rw [h8] at hc
  have hj:j=0:=by have:=(Q1.1 hc).1;simp at this;omega
  subst hj
  cases hc
  rw [(Z6p ok).2,Nat.mul_one,Xo]
  exact ⟨_,hm _ _ _ rfl (h6 k (by omega)) (h5 k _ (Q0 hk)),.int _ _⟩
theorem ZbS(ok:CfgOk P cfg){m:Addr->Option Value}(hm:∀ (c:Addr) (u:Tok) (v:Value),u.isA=true->g.tag c=some (.tok u)->w.cell? c=some v->m c=some v){hs:Nat->Value}{v:Value}{L:List (List Int)}(h:Own2 w g hs v L):SimC cfg m v (.slice cfg.wsT (cfg.wsI L) .unk):=by
 obtain ⟨h1,h2⟩:=ok.wsI L
 rcases h.1 with ⟨rfl,rfl⟩ | ⟨b,len,cap,rfl,h3,h4,h5,h6⟩
 .have:cfg.wsI []=[]:=Q6 h1
  rw [this]
  exact .snil _ _
 .refine .of_rows _ (h1.trans h3) h4 fun k y hy j c hc=> ?_
  have hk:k < L.length:=by have:=(Q1.1 hy).1;omega
  obtain ⟨y',h7,h8⟩:=h2 k _ (Q0 hk)
  rw [hy] at h7
  cases h7
  rw [h8] at hc
  have hj:j=0:=by have:=(Q1.1 hc).1;simp at this;omega
  subst hj
  cases hc
  rw [(Z6p ok).1,Nat.mul_one,Xo]
  exact ⟨_,hm _ _ _ rfl (h6 k (by omega)) (h5 k (by omega)),Zld ok hm (h.2 k _ (Q0 hk))⟩
theorem Zkq (ok:CfgOk P cfg) {m:Addr->Option Value} (hm:∀ (c:Addr) (u:Tok) (v:Value),u.isA=true->g.tag c=some (.tok u)->w.cell? c=some v->m c=some v) {T:U.Ty} {f:U.El T->AState} (hf:cfg.aT T=some f) {y:U.El T} {n:Nat} (hL:ARel w g [f y] n)
  {v:Value} {s:Nat} (hs:g.bs .A=some (v,s)):SimC cfg m v (.po T (some y)):=by
 obtain ⟨b,v0,hh,hN,_⟩:=hL
 obtain ⟨s',hb⟩:=hN.bs
 rw [hb] at hs
 cases hs
 have ha:=ok.aT T f y hf
 refine .po T y b (fun j=> match j with | 0=> v0 | 1=> .int .i64 (f y).x | 2=> .int .i64 (f y).y | _=> .int .i64 (f y).z) (fun j c hc=> ?_) (fun j c hc=> ?_)
 .rw [ha] at hc
  have hj:j < 4:=by have:=(Q1.1 hc).1;simpa using this
  have ht:=hN.tag j hj
  match j,hj with
  | 0,_=> exact hm _ _ _ rfl ht hN.c0
  | 1,_=> exact hm _ _ _ rfl ht hN.c1
  | 2,_=> exact hm _ _ _ rfl ht hN.c2
  | 3,_=> exact hm _ _ _ rfl ht hN.c3
 .rw [ha] at hc
  have hj:j < 4:=by have:=(Q1.1 hc).1;simpa using this
  match j,hj with
  | 0,_=> cases hc;exact ZbS ok hm hN.own
  | 1,_=> cases hc;exact .int _ _
  | 2,_=> cases hc;exact .int _ _
  | 3,_=> cases hc;exact .int _ _
end Go.AM
