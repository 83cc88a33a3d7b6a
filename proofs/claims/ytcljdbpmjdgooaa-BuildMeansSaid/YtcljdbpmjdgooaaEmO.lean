import Derived.Test.YtcljdbpmjdgooaaEmI
set_option linter.unusedSimpArgs false
set_option linter.unusedVariables false
namespace Go.AM
variable {U:Uni} {P:Program} {cfg:Cfg U} {B:Base} {st:FSt U} {g:Gh} {a:Act} {w:World}
def Wr(cfg:Cfg U)(g:Gh)(t:Tok)(x:LC U)(c:Addr):Prop:=
 ∃ b len cap,g.bs t=some (.slice (some b) len cap,cfg.sz x.T)/\∃ j,x.f*cfg.sz x.T<=j/\j < len*cfg.sz x.T/\c=b.add j
open Classical in
noncomputable def Gh.settled(g:Gh)(w:World)(R:Addr->Prop)(t:Tok):Gh:=
 {m:=fun c=> if R c then w.cell? c else g.m c
  tag:=fun c=> if R c then none else g.tag c
  ad:=g.ad
  bs:=fun u=> if u=t then none else g.bs u }
theorem ZcZ(ok:CfgOk P cfg){t:Tok}{x:LC U}(hL:LRel0 cfg w g t x){c:Addr}(hc:Wr cfg g t x c):g.tag c=some (.tok t)/\∃ v,w.cell? c=some v:=by
 obtain ⟨b,len,cap,h1,j,h2,h3,rfl⟩:=hc
 rcases hL with ⟨e1,_⟩ | ⟨b',len',cap',e1,e2,e3,e4,e5,e6⟩
 .grind
 .rw [h1] at e1
  cases e1
  have hpos:=ok.sz_pos x.T
  have hi:j / cfg.sz x.T < x.l.length:=by rw [e2];exact Xm (by grind)
  have hjj:j % cfg.sz x.T < (cfg.enc x.T (x.l[j / cfg.sz x.T])).length:=by rw [ok.enc_len];exact XA _ hpos
  obtain ⟨v,e7,_,_,e8⟩:=e5 _ _ (Q0 hi) _ _ (Q0 hjj)
  have e:j / cfg.sz x.T*cfg.sz x.T+j % cfg.sz x.T=j:=by rw [X6];exact XK _ _
  rw [e] at e7 e8
  exact ⟨e8 ((XU hpos).2 h2),v,e7⟩
section frz
variable {t:Tok} {x:LC U}
theorem Z0x(ok:CfgOk P cfg)(h:Rel cfg B st g a w)(hL:LRel0 cfg w g t x):∀ c v,g.m c=some v->(g.settled w (Wr cfg g t x) t).m c=some v:=by
 intro c v hv
 simp only [Gh.settled]
 rw [if_neg]
 .exact hv
 .intro hc
  have:=(ZcZ ok hL hc).1
  rw [(h.inv.im c v hv).2] at this
  cases this
theorem Z0e(ok:CfgOk P cfg)(hL:LRel0 cfg w g t x){c:Addr}{t':Tag}(hne:t'≠.tok t):g.tag c=some t'↔(g.settled w (Wr cfg g t x) t).tag c=some t':=by
 simp only [Gh.settled]
 split
 .rename_i hc
  rw [(ZcZ ok hL hc).1]
  grind
 grind
theorem Z4X(ok:CfgOk P cfg)(h:Rel cfg B st g a w)(hL:LRel0 cfg w g t x){b:Addr}{len cap:Nat}(hbs:g.bs t=some (.slice (some b) len cap,cfg.sz x.T)):
  x.l.length=len/\len<=cap/\(∀ i y,x.l[i]?=some y->∀ j c,(cfg.enc x.T y)[j]?=some c->∃ v,(g.settled w (Wr cfg g t x) t).m (b.add (i*cfg.sz x.T+j))=some v/\SimC cfg (g.settled w (Wr cfg g t x) t).m v c)/\
   ∀ j,len*cfg.sz x.T<=j->j < cap*cfg.sz x.T->(g.settled w (Wr cfg g t x) t).tag (b.add j)=some (.tok t):=by
 rcases hL with ⟨e1,_⟩ | ⟨b',len',cap',e1,e2,e3,e4,e5,e6⟩
 .grind
 have hL':LRel0 cfg w g t x:= .inr ⟨b',len',cap',e1,e2,e3,e4,e5,e6⟩
 have e0:=e1
 rw [hbs] at e0
 cases e0
 refine ⟨e2,e3,fun i y hy j c hc=> ?_,fun j a1 a2=> ?_⟩
 .obtain ⟨u,e7,e8,e9,e10⟩:=e5 i y hy j c hc
  refine ⟨u,?_,e8.mono (Z0x ok h hL')⟩
  rcases Xz i x.f with hi | hi
  .exact Z0x ok h hL' _ _ (e9 hi)
  .have hj:j < cfg.sz x.T:=by have:=(Q1.1 hc).1;rw [ok.enc_len] at this;exact this
   have hil:i < len:=by have:=(Q1.1 hy).1;omega
   have h1:x.f*cfg.sz x.T<=i*cfg.sz x.T:=Q8 _ hi
   have h2:(i+1)*cfg.sz x.T<=len*cfg.sz x.T:=Q8 _ hil
   rw [Qr] at h2
   simp only [Gh.settled]
   rw [if_pos ⟨b,len,cap,e1,_,by omega,by omega,rfl⟩]
   exact e7
 .simp only [Gh.settled]
  rw [if_neg]
  .grind
  .rintro ⟨b2,len2,cap2,h1,j2,h2,h3,h4⟩
   rw [e1] at h1
   cases h1
   have:=YP h4
   omega
theorem ZjA(ok:CfgOk P cfg)(h:Rel cfg B st g a w)(hA:t.isA=false)(hd:st.dead t=false)(hL:LRel0 cfg w g t x){v:Value}{c:C U}(hr:RelC cfg g st.dead v c):
  RelC cfg (g.settled w (Wr cfg g t x) t) st.dead v (c.frz t x):=by
 have hm:=Z0x ok h hL
 cases c with
 | slice T l tl=>
  cases tl with
  | unk=> exact ⟨hr.1.mono hm,trivial⟩
  | full=> exact ⟨hr.1.mono hm,hr.2⟩
  | own u=>
   simp only [C.frz]
   split
   .exact ⟨(hr.1.tl _).mono hm,trivial⟩
   .rename_i hne
    exact ⟨hr.1.mono hm,fun hdu huA b len cap hv j h1 h2=> (Z0e ok hL (fun e=> by grind)).1 (hr.2 hdu huA b len cap hv j h1 h2)⟩
 | mref u=>
  simp only [C.frz]
  split
  .rename_i e
   subst e
   rw [hA,cond_false]
   obtain ⟨s,hs⟩:=hr.2 hd
   rcases hL with ⟨e1,e2,e3⟩ | ⟨b',len',cap',e1,e2⟩
   .rw [hs] at e1
    cases e1
    obtain ⟨T,l,f⟩:=x
    simp only at e2
    subst e2
    exact ⟨.snil T _,fun _ _ b len cap hv=> by cases hv⟩
   .have hL':LRel0 cfg w g u x:= .inr ⟨b',len',cap',e1,e2⟩
    obtain ⟨r1,r2,r3,r4⟩:=Z4X ok h hL' e1
    rw [hs] at e1
    cases e1
    refine ⟨.of_rows _ r1 r2 r3,fun _ _ b len cap hv j h1 h2=> ?_⟩
    grind
  .rename_i hne
   refine ⟨.mref _ _ hr.1.one,fun hdu=> ?_⟩
   obtain ⟨s,hs⟩:=hr.2 hdu
   refine ⟨s,?_⟩
   simp only [Gh.settled]
   grind
 | jk=> exact ⟨.jk _ hr.1.one,trivial⟩
 | xp k=> exact ⟨.xp _ _ hr.1.one,hr.2⟩
 | int k n=> exact ⟨hr.1.mono hm,trivial⟩
 | bool b=> exact ⟨hr.1.mono hm,trivial⟩
 | nils=> exact ⟨hr.1.mono hm,trivial⟩
 | nilp=> exact ⟨hr.1.mono hm,trivial⟩
 | po T o=> exact ⟨hr.1.mono hm,trivial⟩
theorem Zro(ok:CfgOk P cfg)(h:Rel cfg B st g a w)(hA:t.isA=false)(hd:st.dead t=false)(hL:LRel0 cfg w g t x){vs:List Value}{cs:List (C U)}(hr:RelL cfg g st.dead vs cs):
  RelL cfg (g.settled w (Wr cfg g t x) t) st.dead vs (cs.map (C.frz t x)):=by
 refine ⟨by simp [hr.1],fun j v c hv hc=> ?_⟩
 rw [Qa] at hc
 cases hj:cs[j]? with
 | none=> grind
 | some c0=>
  simp [hj] at hc
  subst hc
  exact ZjA ok h hA hd hL (hr.2 j v c0 hv hj)
theorem Zrn(ok:CfgOk P cfg)(h:Rel cfg B st g a w)(hA:t.isA=false)(hd:st.dead t=false)(hL:LRel0 cfg w g t x){live:Name->Bool}{v:Value}:∀ {y:V U},RelV cfg g st.dead live v y->
  RelV cfg (g.settled w (Wr cfg g t x) t) st.dead live v (y.frz cfg t x)
 | .c y,hr=> ZjA ok h hA hd hL (c:=y) hr
 | .agg cs,hr=> by obtain ⟨vs,h1,h2⟩:=hr;exact ⟨vs,h1,Zro ok h hA hd hL h2⟩
 | .tup ws,hr=> by
  obtain ⟨vs,h1,h2,h3⟩:=hr
  refine ⟨vs,h1,by simp [h2],fun j u y hu hy=> ?_⟩
  rw [Qa] at hy
  cases hj:ws[j]? with
  | none=> grind
  | some w0=>
   simp [hj] at hy
   subst hy
   have:=h3 j u w0 hu hj
   obtain ⟨ag,cs⟩:=w0
   cases ag with
   | true=> obtain ⟨vs,h4,h5⟩:=this;exact ⟨vs,h4,Zro ok h hA hd hL h5⟩
   | false=> obtain ⟨c,h4,h5⟩:=this;simp only at h4;subst h4;exact ⟨_,rfl,ZjA ok h hA hd hL h5⟩
 | .ptr _ _,hr=> hr
 | .ap ..,hr=> hr
 | .ep cs,hr=> by
  obtain ⟨b,h1,h2⟩:=hr
  refine ⟨b,h1,fun j c hc=> ?_⟩
  rw [Qa] at hc
  cases hj:cs[j]? with
  | none=> grind
  | some c0=>
   simp [hj] at hc
   subst hc
   obtain ⟨u,h3,h4⟩:=h2 j c0 hj
   exact ⟨u,Z0x ok h hL _ _ h3,ZjA ok h hA hd hL h4⟩
 | .mp u n off,hr=> by
  simp only [V.frz]
  split
  .rename_i e
   subst e
   obtain ⟨b,len,cap,s,h1,h2,rfl⟩:=hr hd
   have hs:s=cfg.sz x.T:=by
    rcases hL with ⟨e1,_⟩ | ⟨b',len',cap',e1,_⟩ <;> rw [h1] at e1 <;> cases e1
    try rfl
   subst hs
   obtain ⟨r1,r2,r3,r4⟩:=Z4X ok h hL h1
   refine ⟨_,rfl,fun j c hc=> ?_⟩
   rw [Qh] at hc
   have hel:x.l[n]?=some (x.l.getD n (cfg.dflt x.T)):=by simp [List.getD,Q0 (show n < x.l.length by omega)]
   obtain ⟨u',h5,h6⟩:=r3 n _ hel _ c hc
   rw [Go.Deep.add_add,show n*cfg.sz x.T+off+j=n*cfg.sz x.T+(off+j) by omega]
   exact ⟨u',h5,h6,Z4p (ok.enc_plain _ _ c (QC hc))⟩
  .rename_i hne
   intro hdu
   obtain ⟨b,len,cap,s,h1,h2,h3⟩:=hr hdu
   refine ⟨b,len,cap,s,?_,h2,h3⟩
   simp only [Gh.settled]
   grind
 | .vw u n,hr=> by
  simp only [V.frz]
  split
  .trivial
  .rename_i hne
   intro hdu
   obtain ⟨b,len,cap,s,h1,h2,h3⟩:=hr hdu
   refine ⟨b,len,cap,s,?_,h2,h3⟩
   simp only [Gh.settled]
   grind
 | .fn _,hr=> hr
 | .clo _ _,hr=> hr
 | .gd b y,hr=> ⟨fun hb=> Zrn ok h hA hd hL (hr.1 hb),hr.2⟩
 | .nb _ _,hr=> hr
 | .ar n k,hr=> by
  simp only [V.frz]
  rw [if_neg (fun e=> by rw [e] at hA;cases hA)]
  have hb:∀ u v,u.isA=true->g.bs u=some v->(g.settled w (Wr cfg g t x) t).bs u=some v:=fun u v hu hv=> by
   simp only [Gh.settled]
   rw [if_neg (fun e=> by rw [e,hA] at hu;cases hu)];exact hv
  cases k with
  | fp off=> obtain ⟨h0,b,s,h1,h2⟩:=hr;exact ⟨h0,b,s,hb _ _ rfl h1,h2⟩
  | ov=> exact hb _ _ rfl hr
  | oe i=> obtain ⟨b,len,cap,h1,h2⟩:=hr;exact ⟨b,len,cap,hb _ _ rfl h1,h2⟩
  | iv i=> obtain ⟨⟨b,len,cap,h1,h2⟩,h3⟩:=hr;exact ⟨⟨b,len,cap,hb _ _ rfl h1,h2⟩,hb _ _ rfl h3⟩
  | ie i j=> obtain ⟨⟨b,len,cap,h1,h2⟩,b',len',cap',h3,h4⟩:=hr;exact ⟨⟨b,len,cap,hb _ _ rfl h1,h2⟩,b',len',cap',hb _ _ rfl h3,h4⟩
  | pd i=> exact hb _ _ rfl hr
  | nl m=> obtain ⟨b,h1,h2⟩:=hr;exact ⟨b,h1,fun i hi=> Z0x ok h hL _ _ (h2 i hi)⟩
 | .junk,_=> trivial
theorem Zm5(ok:CfgOk P cfg)(h:Rel cfg B st g a w)(hA:t.isA=false)(hd:st.dead t=false)(hL:LRel0 cfg w g t x):
  ∃ g',Rel cfg B { st with env:=fun k=> (st.env k).frz cfg t x,mem:=fun nm=> (st.mem nm).map fun cs=> cs.map (C.frz t x),ls:=fun u=> if u=t then none else st.ls u } g' a w:=by
  have hm:=Z0x ok h hL
  refine ⟨g.settled w (Wr cfg g t x) t,⟨fun c v hv=> ?_,fun c t' ht=> ?_⟩,?_,fun k=> ?_,fun nm cs hn j c hc=> ?_,h.sz,h.df,fun u y hy=> ?_,fun u hu h1 h2=> ?_⟩
  .by_cases hc:Wr cfg g t x c
   .simp only [Gh.settled] at hv ⊢
    grind
   .simp only [Gh.settled] at hv ⊢
    rw [if_neg hc] at hv ⊢
    exact h.inv.im c v hv
  .simp only [Gh.settled] at ht
   split at ht
   .cases ht
   .exact h.inv.it c t' ht
  .refine h.fr.step h.inv (Evo.refl w (fun _=> False)) (fun c hc=> hc.elim) hm (fun c t'=> Z0e ok hL (by simp)) ?_ (fun _=> rfl) (fun v _ hv=> by simp only [Gh.settled];rw [if_neg (fun e=> by rw [<-e] at hA;cases hA)];exact hv)
   intro b _ hall o sp
   simp only [Gh.settled]
   split
   .rename_i hc
    obtain ⟨t',h3⟩:=hall _ _ _ (ZcZ ok hL hc).1
    cases h3
   .try rfl
  .have hl:(fun nm=> ((st.mem nm).map fun cs=> cs.map (C.frz t x)).isSome)=fun nm=> (st.mem nm).isSome:=by funext nm;cases st.mem nm <;> rfl
   simp only [hl]
   exact Zrn ok h hA hd hL (h.env k)
  .simp only at hn
   cases hcs:st.mem nm with
   | none=> grind
   | some cs0=>
    rw [hcs] at hn
    simp only [Q5,Option.some.injEq] at hn
    subst hn
    rw [Qa] at hc
    cases hj:cs0[j]? with
    | none=> grind
    | some c0=>
     simp [hj] at hc
     subst hc
     obtain ⟨v,h1,h2,h3⟩:=h.mem nm cs0 hcs j c0 hj
     exact ⟨v,h1,(Z0e ok hL (by simp)).1 h2,ZjA ok h hA hd hL h3⟩
  .simp only at hy
   split at hy
   .cases hy
   .rename_i hne
    obtain ⟨h1,h2⟩:=h.ls u y hy
    have hk:Keeps g (g.settled w (Wr cfg g t x) t) st.dead (fun u=> st.dead u || decide (u=t)) (fun _=> false) (fun _=> false):=by
     refine ⟨hm,fun c u hu _ ht=> ?_,fun u hu=> by grind,fun nm hn=> (by cases hn),fun u v hu hv=> ?_,fun _=> rfl,fun u hu v hv=> ?_⟩
     .simp only [Qi,decide_eq_false_iff_not] at hu
      exact (Z0e ok hL (fun e=> by grind)).1 ht
     .simp only [Qi,decide_eq_false_iff_not] at hu
      simp only [Gh.settled]
      grind
     .simp only [Gh.settled]
      rw [if_neg (fun e=> by rw [e,hA] at hu;cases hu)];exact hv
    exact ⟨h1,h2.keep hk (by simp [h1,hne]) (fun c v hv=> (h.inv.im c v hv).1) (fun _ _ _ _=> rfl) (fun _ u hu hb=> by simp only [Gh.settled];split <;> first | rfl | exact hb) (fun _ c u hu ht=> (Z0e ok hL (fun e=> by cases e;rw [hA] at hu;cases hu)).1 ht)⟩
  .simp only at h1
   simp only [Gh.settled]
   split
   .try rfl
   .rename_i hne
    have hr:u.root≠t:=fun e=> by
     rcases u with _ | _ | _ | _ | _ | _ | _ <;> simp only [Tok.root] at e <;> first | exact hne e | (rw [<-e] at hA;cases hA)
    rw [if_neg hr] at h1
    exact h.fresh u hu h1 h2
end frz
section frzA
variable {x:LC U}
open Classical in
noncomputable def Gh.still(g:Gh)(w:World):Gh:=
 {m:=fun c=> if ∃ u:Tok,u.isA=true/\g.tag c=some (.tok u) then w.cell? c else g.m c
  tag:=fun c=> if ∃ u:Tok,u.isA=true/\g.tag c=some (.tok u) then none else g.tag c
  ad:=g.ad
  bs:=g.bs }
theorem Z7k(h:Rel cfg B st g a w):∀ c v,g.m c=some v->(g.still w).m c=some v:=by
 intro c v hv
 simp only [Gh.still]
 rw [if_neg]
 .exact hv
 .rintro ⟨u,_,hu⟩
  rw [(h.inv.im c v hv).2] at hu
  cases hu
theorem Zlb(c:Addr)(u:Tok)(hu:u.isA=true)(hc:g.tag c=some (.tok u)){v:Value}(hv:w.cell? c=some v):(g.still w).m c=some v:=by
 simp only [Gh.still]
 rw [if_pos ⟨u,hu,hc⟩]
 exact hv
theorem Z5H{c:Addr}{t:Tag}(hne:∀ u:Tok,u.isA=true->t≠.tok u):g.tag c=some t↔(g.still w).tag c=some t:=by
 simp only [Gh.still]
 split
 .rename_i hc
  obtain ⟨u,hu,hc⟩:=hc
  rw [hc]
  constructor
  .intro e;cases e;exact absurd rfl (hne u hu)
  .intro e;cases e
 .exact Iff.rfl
theorem ZbN{m:Addr->Option Value}(h:m=(g.still w).m):∀ (c:Addr) (u:Tok) (v:Value),u.isA=true->g.tag c=some (.tok u)->w.cell? c=some v->m c=some v:=by
 intro c u v hu hc hv
 rw [h]
 exact Zlb c u hu hc hv
def Z49(dead:Tok->Bool):Tok->Bool:=fun u=> dead u || u.isA
theorem Z7B(ok:CfgOk P cfg)(h:Rel cfg B st g a w)(hd:st.dead .A=false){f:U.El x.T->AState}(hf:cfg.aT x.T=some f){y:U.El x.T}(hy:x.l=[y])(hL:ARel w g [f y] x.f){v:Value}{c:C U}(hr:RelC cfg g st.dead v c):
  RelC cfg (g.still w) (Z49 st.dead) v (c.frz .A x):=by
 have hm:=Z7k h
 cases c with
 | slice T l tl=>
  cases tl with
  | unk=> exact ⟨hr.1.mono hm,trivial⟩
  | full=> exact ⟨hr.1.mono hm,hr.2⟩
  | own u=>
   simp only [C.frz]
   split
   .exact ⟨(hr.1.tl _).mono hm,trivial⟩
   .refine ⟨hr.1.mono hm,fun hdu huA b len cap hv j h1 h2=> (Z5H fun u' hu' e=> ?_).1 (hr.2 ?_ huA b len cap hv j h1 h2)⟩
    .cases e;rw [huA] at hu';cases hu'
    .simp only [Z49,Qi] at hdu;exact hdu.1
 | mref u=>
  simp only [C.frz]
  split
  .rename_i e
   subst e
   obtain ⟨s,hs⟩:=hr.2 hd
   refine ⟨?_,trivial⟩
   show SimC cfg _ _ (.po x.T x.l.head?)
   rw [hy]
   exact Zkq ok (ZbN rfl) hf hL hs
  .refine ⟨.mref _ _ hr.1.one,fun hdu=> hr.2 ?_⟩
   simp only [Z49,Qi] at hdu;exact hdu.1
 | jk=> exact ⟨.jk _ hr.1.one,trivial⟩
 | xp k=> exact ⟨.xp _ _ hr.1.one,hr.2⟩
 | int k n=> exact ⟨hr.1.mono hm,trivial⟩
 | bool b=> exact ⟨hr.1.mono hm,trivial⟩
 | nils=> exact ⟨hr.1.mono hm,trivial⟩
 | nilp=> exact ⟨hr.1.mono hm,trivial⟩
 | po T o=> exact ⟨hr.1.mono hm,trivial⟩
theorem Zhi(ok:CfgOk P cfg)(h:Rel cfg B st g a w)(hd:st.dead .A=false){f:U.El x.T->AState}(hf:cfg.aT x.T=some f){y:U.El x.T}(hy:x.l=[y])(hL:ARel w g [f y] x.f){vs:List Value}{cs:List (C U)}(hr:RelL cfg g st.dead vs cs):
  RelL cfg (g.still w) (Z49 st.dead) vs (cs.map (C.frz .A x)):=by
 refine ⟨by simp [hr.1],fun j v c hv hc=> ?_⟩
 rw [Qa] at hc
 cases hj:cs[j]? with
 | none=> grind
 | some c0=>
  simp [hj] at hc
  subst hc
  exact Z7B ok h hd hf hy hL (hr.2 j v c0 hv hj)
theorem Zhh(ok:CfgOk P cfg)(h:Rel cfg B st g a w)(hd:st.dead .A=false){f:U.El x.T->AState}(hf:cfg.aT x.T=some f){y:U.El x.T}(hy:x.l=[y])(hL:ARel w g [f y] x.f){live:Name->Bool}{v:Value}:∀ {z:V U},RelV cfg g st.dead live v z->
  RelV cfg (g.still w) (Z49 st.dead) live v (z.frz cfg .A x)
 | .c z,hr=> Z7B ok h hd hf hy hL (c:=z) hr
 | .agg cs,hr=> by obtain ⟨vs,h1,h2⟩:=hr;exact ⟨vs,h1,Zhi ok h hd hf hy hL h2⟩
 | .tup ws,hr=> by
  obtain ⟨vs,h1,h2,h3⟩:=hr
  refine ⟨vs,h1,by simp [h2],fun j u z hu hz=> ?_⟩
  rw [Qa] at hz
  cases hj:ws[j]? with
  | none=> grind
  | some w0=>
   simp [hj] at hz
   subst hz
   have:=h3 j u w0 hu hj
   obtain ⟨ag,cs⟩:=w0
   cases ag with
   | true=> obtain ⟨vs,h4,h5⟩:=this;exact ⟨vs,h4,Zhi ok h hd hf hy hL h5⟩
   | false=> obtain ⟨c,h4,h5⟩:=this;simp only at h4;subst h4;exact ⟨_,rfl,Z7B ok h hd hf hy hL h5⟩
 | .ptr _ _,hr=> hr
 | .ap ..,hr=> hr
 | .ep cs,hr=> by
  obtain ⟨b,h1,h2⟩:=hr
  refine ⟨b,h1,fun j c hc=> ?_⟩
  rw [Qa] at hc
  cases hj:cs[j]? with
  | none=> grind
  | some c0=>
   simp [hj] at hc
   subst hc
   obtain ⟨u,h3,h4⟩:=h2 j c0 hj
   exact ⟨u,Z7k h _ _ h3,Z7B ok h hd hf hy hL h4⟩
 | .mp u n off,hr=> by
  simp only [V.frz]
  split
  .rename_i e
   subst e
   obtain ⟨b,len,cap,s,h1,_⟩:=hr hd
   obtain ⟨b',s',h2⟩:=hL.ptr
   rw [h1] at h2;cases h2
  .intro hdu
   simp only [Z49,Qi] at hdu
   exact hr hdu.1
 | .vw u n,hr=> by
  simp only [V.frz]
  split
  .trivial
  .intro hdu
   simp only [Z49,Qi] at hdu
   exact hr hdu.1
 | .fn _,hr=> hr
 | .clo _ _,hr=> hr
 | .gd b z,hr=> ⟨fun hb=> Zhh ok h hd hf hy hL (hr.1 hb),hr.2⟩
 | .nb _ _,hr=> hr
 | .ar n k,hr=> by
  simp only [V.frz,if_true]
  unfold V.frzA
  split
  .obtain ⟨b,h1,h2⟩:=hr
   exact ⟨b,h1,fun i hi=> Z7k h _ _ (h2 i hi)⟩
  .rw [cond_eq_ite]
   split
   .rename_i hn
    have hn:=Q4 hn
    subst hn
    split
    .rename_i f' y' hf' hy'
     rw [hf] at hf'
     cases hf'
     rw [hy] at hy'
     cases hy'
     obtain ⟨b,v0,hh,hN,_⟩:=hL
     have h1:g.bs (.S (x.f+1) 0)=some (v,1):=hr
     rw [hN.h0] at h1
     cases h1
     exact ⟨ZbS ok (ZbN rfl) hN.own,trivial⟩
    .trivial
   .trivial
  .trivial
 | .junk,_=> trivial
theorem Zm3(ok:CfgOk P cfg)(h:Rel cfg B st g a w)(hx:st.ls .A=some x)(hd:st.dead .A=false){f:U.El x.T->AState}(hf:cfg.aT x.T=some f){y:U.El x.T}(hy:x.l=[y])(hL:ARel w g [f y] x.f):
  ∃ g',Rel cfg B { st with env:=fun k=> (st.env k).frz cfg .A x,mem:=fun nm=> (st.mem nm).map fun cs=> cs.map (C.frz .A x),ls:=fun u=> if u= .A then none else st.ls u,dead:=fun u=> st.dead u || u.isA } g' a w:=by
 have hm:=Z7k h
 have htg:∀ c t,g.tag c=some t->(∀ u:Tok,u.isA=true->t≠.tok u)->(g.still w).tag c=some t:=fun c t h1 h2=> (Z5H h2).1 h1
 refine ⟨g.still w,⟨fun c v hv=> ?_,fun c t' ht=> ?_⟩,?_,fun k=> ?_,fun nm cs hn j c hc=> ?_,h.sz,h.df,fun u z hz=> ?_,fun u hu h1 h2=> ?_⟩
 .simp only [Gh.still] at hv ⊢
  split at hv
  .rename_i hc;rw [if_pos hc];exact ⟨hv,rfl⟩
  .rename_i hc;rw [if_neg hc];exact h.inv.im c v hv
 .simp only [Gh.still] at ht
  split at ht
  .cases ht
  .exact h.inv.it c t' ht
 .refine h.fr.step h.inv (Evo.refl w (fun _=> False)) (fun c hc=> hc.elim) hm (fun c t'=> Z5H fun u _ e=> by cases e) ?_ (fun _=> rfl)
  intro b _ hall o sp
  simp only [Gh.still]
  split
  .rename_i hc
   obtain ⟨u,_,hc⟩:=hc
   obtain ⟨t',h3⟩:=hall _ _ _ hc
   cases h3
  .try rfl
 .have hl:(fun nm=> ((st.mem nm).map fun cs=> cs.map (C.frz .A x)).isSome)=fun nm=> (st.mem nm).isSome:=by funext nm;cases st.mem nm <;> rfl
  simp only [hl]
  exact Zhh ok h hd hf hy hL (h.env k)
 .simp only at hn
  cases hcs:st.mem nm with
  | none=> grind
  | some cs0=>
   rw [hcs] at hn
   simp only [Q5,Option.some.injEq] at hn
   subst hn
   rw [Qa] at hc
   cases hj:cs0[j]? with
   | none=> grind
   | some c0=>
    simp [hj] at hc
    subst hc
    obtain ⟨v,h1,h2,h3⟩:=h.mem nm cs0 hcs j c0 hj
    exact ⟨v,h1,htg _ _ h2 (fun u _ e=> by cases e),Z7B ok h hd hf hy hL h3⟩
 .simp only at hz
  split at hz
  .cases hz
  .rename_i hne
   obtain ⟨h1,h2⟩:=h.ls u z hz
   have huA:u.isA=false:=by
    rcases h2 with ⟨_,h2,_⟩ | ⟨_,_,h2,_⟩
    .exact h2
    .exact absurd h2 hne
   have hk:Keeps g (g.still w) st.dead (Z49 st.dead) (fun _=> false) (fun _=> false):=by
    refine ⟨hm,fun c u _ huA ht=> htg c _ ht (fun u' hu' e=> by cases e;rw [huA] at hu';cases hu'),fun u hu=> ?_,fun nm hn=> (by cases hn),fun u v _ hv=> hv,fun _=> rfl,fun u _ v hv=> hv⟩
    simp only [Z49,Qi] at hu
    exact hu.1
   refine ⟨by simp only [h1,huA,X7],h2.keep hk (by simp [Z49,h1,huA]) (fun c v hv=> (h.inv.im c v hv).1) (fun _ _ _ _=> rfl) (fun e=> absurd e hne) (fun e=> absurd e hne)⟩
 .simp only at h1 h2
  simp only [Qi] at h2
  have hne:u.root≠.A:=fun e=> by rw [e] at h2;cases h2.2
  rw [if_neg hne] at h1
  exact h.fresh u hu h1 h2.1
end frzA
theorem Zm4(ok:CfgOk P cfg)(h:Rel cfg B st g a w)(t:Tok):∃ g',Rel cfg B (st.frz1 cfg t) g' a w:=by
 unfold FSt.frz1
 split
 .exact ⟨g,h⟩
 .rename_i x hx
  obtain ⟨hd,hL⟩:=h.ls t x hx
  rcases hL with ⟨_,hA,hL⟩ | ⟨f,hf,rfl,hL⟩
  .simp only [hA,Bool.false_and,cond_false,Bool.or_false]
   exact Zm5 ok h hA hd hL
  .rw [cond_eq_ite]
   split
   .exact ⟨g,h⟩
   .rename_i hn
    match hy:x.l with
    | []=> rw [hy] at hL;cases hL
    | [y]=>
     rw [hy] at hL
     simp only [Tok.isA,K5]
     exact Zm3 ok h hx hd hf hy hL
    | y ::z ::r=> rw [hy] at hn;simp [Tok.isA] at hn
theorem Ze2(ok:CfgOk P cfg):∀ (ts:List Tok) {st:FSt U} {g:Gh},Rel cfg B st g a w->∃ g',Rel cfg B (st.frz cfg ts) g' a w
 | [],st,g,h=> ⟨g,h⟩
 | t ::ts,st,g,h=> by
  obtain ⟨g1,h1⟩:=Zm4 ok h t
  exact Ze2 ok ts h1
theorem Zjz:∀ (ts:List Tok) (st:FSt U),(st.frz cfg ts).n=st.n
 | [],st=> rfl
 | t ::ts,st=> by
  show ((st.frz1 cfg t).frz cfg ts).n=st.n
  rw [Zjz ts]
  unfold FSt.frz1
  grind
theorem Zcg{α:Type}(st:FSt U)(k:FSt U->α)(ts:List Tok):Z34 cfg st k ts=k (Z34 cfg st id ts):=by cases ts <;> rfl
theorem Z6f{Γ:Known U}{ops:Array Oper}{fz:Bool}{o:Oper}{r:List Oper}:Z9e cfg Γ ops fz (o ::r) st=match JK cfg Γ ops o (st.pre cfg Γ fz o) with
  | none=> none
  | some (ps,e)=> match Z9e cfg Γ ops fz r ((st.pre cfg Γ fz o).app o.dst e) with
   | none=> none
   | some (qs,st')=> some (ps++qs,st'):=by
 show Z34 cfg st _ _=_
 rw [Zcg]
 try rfl
theorem ZnG{Γ:Known U}(ok:CfgOk P cfg)(h:Rel cfg B st g a w)(fz:Bool)(o:Oper):∃ g',Rel cfg B (st.pre cfg Γ fz o) g' a w:=by
 unfold FSt.pre
 generalize (bif fz then Z7p Γ o st else [])=ts
 cases ts with
 | nil=> exact ⟨g,h⟩
 | cons t r=> exact Ze2 ok _ h
theorem Zr9{Γ:Known U}(fz:Bool)(o:Oper):(st.pre cfg Γ fz o).n=st.n:=by
 unfold FSt.pre
 generalize (bif fz then Z7p Γ o st else [])=ts
 cases ts with
 | nil=> rfl
 | cons t r=> exact Zjz _ st
theorem ZnH{Γ:Known U}(o:Oper):st.pre cfg Γ false o=st:=rfl
end Go.AM
