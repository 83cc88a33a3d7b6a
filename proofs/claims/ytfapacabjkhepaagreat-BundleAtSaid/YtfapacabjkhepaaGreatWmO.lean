import Derived.Test.YtfapacabjkhepaaGreatWmI
set_option linter.unusedSimpArgs false
set_option linter.unusedVariables false
namespace Go.AM
variable {U:Uni} {P:Program} {cfg:Cfg U} {B:Base} {st:FSt U} {g:Gh} {a:Act} {w:World}
def Wr(cfg:Cfg U)(g:Gh)(t:Tok)(x:LC U)(c:Addr):Prop:=
 ∃ b len cap,g.bs t=some (.slice (some b) len cap,cfg.sz x.T)/\∃ j,x.f*cfg.sz x.T<=j/\j < len*cfg.sz x.T/\c=b.add j
open Classical in
noncomputable def Gh.settled(g:Gh)(w:World)(R:Addr->Prop)(t:Tok):Gh:=
 {m:=fun c=> if R c then w.cell? c else g.m c
  tag:=fun c=> if R c then none else g.tag c
  ad:=g.ad
  bs:=fun u=> if u=t then none else g.bs u }
theorem Zmb(ok:CfgOk P cfg){t:Tok}{x:LC U}(hL:LRel cfg w g t x){c:Addr}(hc:Wr cfg g t x c):g.tag c=some (.tok t)/\∃ v,w.cell? c=some v:=by
 obtain ⟨b,len,cap,h1,j,h2,h3,rfl⟩:=hc
 rcases hL with ⟨e1,_⟩ | ⟨b',len',cap',e1,e2,e3,e4,e5,e6⟩
 .grind
 .rw [h1] at e1
  cases e1
  have hpos:=ok.sz_pos x.T
  have hi:j / cfg.sz x.T < x.l.length:=by rw [e2];exact Xs (by grind)
  have hjj:j % cfg.sz x.T < (cfg.enc x.T (x.l[j / cfg.sz x.T])).length:=by rw [ok.enc_len];exact XF _ hpos
  obtain ⟨v,e7,_,_,e8⟩:=e5 _ _ (Q4 hi) _ _ (Q4 hjj)
  have e:j / cfg.sz x.T*cfg.sz x.T+j % cfg.sz x.T=j:=by rw [Xl];exact XC _ _
  rw [e] at e7 e8
  exact ⟨e8 ((XO hpos).2 h2),v,e7⟩
section frz
variable {t:Tok} {x:LC U}
theorem Z4j(ok:CfgOk P cfg)(h:Rel cfg B st g a w)(hL:LRel cfg w g t x):∀ c v,g.m c=some v->(g.settled w (Wr cfg g t x) t).m c=some v:=by
 intro c v hv
 simp only [Gh.settled]
 rw [if_neg]
 .exact hv
 .intro hc
  have:=(Zmb ok hL hc).1
  rw [(h.inv.im c v hv).2] at this
  cases this
theorem Z3B(ok:CfgOk P cfg)(hL:LRel cfg w g t x){c:Addr}{t':Tag}(hne:t'≠.tok t):g.tag c=some t'↔(g.settled w (Wr cfg g t x) t).tag c=some t':=by
 simp only [Gh.settled]
 split
 .rename_i hc
  rw [(Zmb ok hL hc).1]
  grind
 grind
theorem Z9G(ok:CfgOk P cfg)(h:Rel cfg B st g a w)(hL:LRel cfg w g t x){b:Addr}{len cap:Nat}(hbs:g.bs t=some (.slice (some b) len cap,cfg.sz x.T)):
  x.l.length=len/\len<=cap/\(∀ i y,x.l[i]?=some y->∀ j c,(cfg.enc x.T y)[j]?=some c->∃ v,(g.settled w (Wr cfg g t x) t).m (b.add (i*cfg.sz x.T+j))=some v/\SimC cfg (g.settled w (Wr cfg g t x) t).m v c)/\
   ∀ j,len*cfg.sz x.T<=j->j < cap*cfg.sz x.T->(g.settled w (Wr cfg g t x) t).tag (b.add j)=some (.tok t):=by
 rcases hL with ⟨e1,_⟩ | ⟨b',len',cap',e1,e2,e3,e4,e5,e6⟩
 .grind
 have hL':LRel cfg w g t x:= .inr ⟨b',len',cap',e1,e2,e3,e4,e5,e6⟩
 have e0:=e1
 rw [hbs] at e0
 cases e0
 refine ⟨e2,e3,fun i y hy j c hc=> ?_,fun j a1 a2=> ?_⟩
 .obtain ⟨u,e7,e8,e9,e10⟩:=e5 i y hy j c hc
  refine ⟨u,?_,e8.mono (Z4j ok h hL')⟩
  rcases XQ i x.f with hi | hi
  .exact Z4j ok h hL' _ _ (e9 hi)
  .have hj:j < cfg.sz x.T:=by have:=(Q5.1 hc).1;rw [ok.enc_len] at this;exact this
   have hil:i < len:=by have:=(Q5.1 hy).1;omega
   have h1:x.f*cfg.sz x.T<=i*cfg.sz x.T:=Qe _ hi
   have h2:(i+1)*cfg.sz x.T<=len*cfg.sz x.T:=Qe _ hil
   rw [QB] at h2
   simp only [Gh.settled]
   rw [if_pos ⟨b,len,cap,e1,_,YL,YL,rfl⟩]
   exact e7
 .simp only [Gh.settled]
  rw [if_neg]
  .grind
  .rintro ⟨b2,len2,cap2,h1,j2,h2,h3,h4⟩
   rw [e1] at h1
   cases h1
   have:=Z1R h4
   omega
theorem Zwj(ok:CfgOk P cfg)(h:Rel cfg B st g a w)(hd:st.dead t=false)(hL:LRel cfg w g t x){v:Value}{c:C U}(hr:RelC cfg g st.dead v c):
  RelC cfg (g.settled w (Wr cfg g t x) t) st.dead v (c.frz t x):=by
 have hm:=Z4j ok h hL
 cases c with
 | slice T l tl=>
  cases tl with
  | unk=> exact ⟨hr.1.mono hm,trivial⟩
  | full=> exact ⟨hr.1.mono hm,hr.2⟩
  | own u=>
   simp only [C.frz]
   split
   .exact ⟨(hr.1.tl _).mono hm,trivial⟩
   .rename_i hne
    exact ⟨hr.1.mono hm,fun hdu b len cap hv j h1 h2=> (Z3B ok hL (fun e=> by grind)).1 (hr.2 hdu b len cap hv j h1 h2)⟩
 | mref u=>
  simp only [C.frz]
  split
  .rename_i e
   subst e
   obtain ⟨s,hs⟩:=hr.2 hd
   rcases hL with ⟨e1,e2,e3⟩ | ⟨b',len',cap',e1,e2⟩
   .rw [hs] at e1
    cases e1
    obtain ⟨T,l,f⟩:=x
    simp only at e2
    subst e2
    exact ⟨.snil T _,fun _ b len cap hv=> by cases hv⟩
   .have hL':LRel cfg w g u x:= .inr ⟨b',len',cap',e1,e2⟩
    obtain ⟨r1,r2,r3,r4⟩:=Z9G ok h hL' e1
    rw [hs] at e1
    cases e1
    refine ⟨.of_rows _ r1 r2 r3,fun _ b len cap hv j h1 h2=> ?_⟩
    grind
  .rename_i hne
   refine ⟨.mref _ _ hr.1.one,fun hdu=> ?_⟩
   obtain ⟨s,hs⟩:=hr.2 hdu
   refine ⟨s,?_⟩
   simp only [Gh.settled]
   grind
 | jk=> exact ⟨.jk _ hr.1.one,trivial⟩
 | xp k=> exact ⟨.xp _ _ hr.1.one,hr.2⟩
 | int k n=> exact ⟨hr.1.mono hm,trivial⟩
 | bool b=> exact ⟨hr.1.mono hm,trivial⟩
 | nils=> exact ⟨hr.1.mono hm,trivial⟩
 | nilp=> exact ⟨hr.1.mono hm,trivial⟩
 | po T o=> exact ⟨hr.1.mono hm,trivial⟩
theorem ZHW(ok:CfgOk P cfg)(h:Rel cfg B st g a w)(hd:st.dead t=false)(hL:LRel cfg w g t x){vs:List Value}{cs:List (C U)}(hr:RelL cfg g st.dead vs cs):
  RelL cfg (g.settled w (Wr cfg g t x) t) st.dead vs (cs.map (C.frz t x)):=by
 refine ⟨by simp [hr.1],fun j v c hv hc=> ?_⟩
 rw [Qy] at hc
 cases hj:cs[j]? with
 | none=> grind
 | some c0=>
  simp [hj] at hc
  subst hc
  exact Zwj ok h hd hL (hr.2 j v c0 hv hj)
theorem ZHV(ok:CfgOk P cfg)(h:Rel cfg B st g a w)(hd:st.dead t=false)(hL:LRel cfg w g t x){live:Name->Bool}{v:Value}:∀ {y:V U},RelV cfg g st.dead live v y->
  RelV cfg (g.settled w (Wr cfg g t x) t) st.dead live v (y.frz cfg t x)
 | .c y,hr=> Zwj ok h hd hL (c:=y) hr
 | .agg cs,hr=> by obtain ⟨vs,h1,h2⟩:=hr;exact ⟨vs,h1,ZHW ok h hd hL h2⟩
 | .tup ws,hr=> by
  obtain ⟨vs,h1,h2,h3⟩:=hr
  refine ⟨vs,h1,by simp [h2],fun j u y hu hy=> ?_⟩
  rw [Qy] at hy
  cases hj:ws[j]? with
  | none=> grind
  | some w0=>
   simp [hj] at hy
   subst hy
   have:=h3 j u w0 hu hj
   obtain ⟨ag,cs⟩:=w0
   cases ag with
   | true=> obtain ⟨vs,h4,h5⟩:=this;exact ⟨vs,h4,ZHW ok h hd hL h5⟩
   | false=> obtain ⟨c,h4,h5⟩:=this;simp only at h4;subst h4;exact ⟨_,rfl,Zwj ok h hd hL h5⟩
 | .ptr _ _,hr=> hr
 | .ap ..,hr=> hr
 | .ep cs,hr=> by
  obtain ⟨b,h1,h2⟩:=hr
  refine ⟨b,h1,fun j c hc=> ?_⟩
  rw [Qy] at hc
  cases hj:cs[j]? with
  | none=> grind
  | some c0=>
   simp [hj] at hc
   subst hc
   obtain ⟨u,h3,h4⟩:=h2 j c0 hj
   exact ⟨u,Z4j ok h hL _ _ h3,Zwj ok h hd hL h4⟩
 | .mp u n off,hr=> by
  simp only [V.frz]
  split
  .rename_i e
   subst e
   obtain ⟨b,len,cap,s,h1,h2,rfl⟩:=hr hd
   have hs:s=cfg.sz x.T:=by
    rcases hL with ⟨e1,_⟩ | ⟨b',len',cap',e1,_⟩ <;> rw [h1] at e1 <;> cases e1
    try rfl
   subst hs
   obtain ⟨r1,r2,r3,r4⟩:=Z9G ok h hL h1
   refine ⟨_,rfl,fun j c hc=> ?_⟩
   rw [Qu] at hc
   have hel:x.l[n]?=some (x.l.getD n (cfg.dflt x.T)):=by simp [List.getD,Q4 (show n < x.l.length by omega)]
   obtain ⟨u',h5,h6⟩:=r3 n _ hel _ c hc
   rw [Go.Deep.add_add,show n*cfg.sz x.T+off+j=n*cfg.sz x.T+(off+j) by omega]
   exact ⟨u',h5,h6,Z8V (ok.enc_plain _ _ c (X3 hc))⟩
  .rename_i hne
   intro hdu
   obtain ⟨b,len,cap,s,h1,h2,h3⟩:=hr hdu
   refine ⟨b,len,cap,s,?_,h2,h3⟩
   simp only [Gh.settled]
   grind
 | .vw u n,hr=> by
  simp only [V.frz]
  split
  .trivial
  .rename_i hne
   intro hdu
   obtain ⟨b,len,cap,s,h1,h2,h3⟩:=hr hdu
   refine ⟨b,len,cap,s,?_,h2,h3⟩
   simp only [Gh.settled]
   grind
 | .fn _,hr=> hr
 | .clo _ _,hr=> hr
 | .gd b y,hr=> ⟨fun hb=> ZHV ok h hd hL (hr.1 hb),hr.2⟩
 | .nb _ _,hr=> hr
 | .junk,_=> trivial
theorem ZA2(ok:CfgOk P cfg)(h:Rel cfg B st g a w)(t:Tok):∃ g',Rel cfg B (st.frz1 cfg t) g' a w:=by
 unfold FSt.frz1
 cases hx:st.ls t with
 | none=> grind
 | some x=>
  obtain ⟨hd,hL⟩:=h.ls t x hx
  have hm:=Z4j ok h hL
  refine ⟨g.settled w (Wr cfg g t x) t,⟨fun c v hv=> ?_,fun c t' ht=> ?_⟩,?_,fun k=> ?_,fun nm cs hn j c hc=> ?_,h.sz,h.df,fun u y hy=> ?_,fun u hu h1 h2=> ?_⟩
  .by_cases hc:Wr cfg g t x c
   .simp only [Gh.settled] at hv ⊢
    grind
   .simp only [Gh.settled] at hv ⊢
    rw [if_neg hc] at hv ⊢
    exact h.inv.im c v hv
  .simp only [Gh.settled] at ht
   split at ht
   .cases ht
   .exact h.inv.it c t' ht
  .refine h.fr.step h.inv (Evo.refl w (fun _=> False)) (fun c hc=> hc.elim) hm (fun c t'=> Z3B ok hL (by simp)) ?_ (fun _=> rfl)
   intro b _ hall o sp
   simp only [Gh.settled]
   split
   .rename_i hc
    obtain ⟨t',h3⟩:=hall _ _ _ (Zmb ok hL hc).1
    cases h3
   .try rfl
  .have hl:(fun nm=> ((st.mem nm).map fun cs=> cs.map (C.frz t x)).isSome)=fun nm=> (st.mem nm).isSome:=by funext nm;cases st.mem nm <;> rfl
   simp only [hl]
   exact ZHV ok h hd hL (h.env k)
  .simp only at hn
   cases hcs:st.mem nm with
   | none=> grind
   | some cs0=>
    rw [hcs] at hn
    simp only [Qf,Option.some.injEq] at hn
    subst hn
    rw [Qy] at hc
    cases hj:cs0[j]? with
    | none=> grind
    | some c0=>
     simp [hj] at hc
     subst hc
     obtain ⟨v,h1,h2,h3⟩:=h.mem nm cs0 hcs j c0 hj
     exact ⟨v,h1,(Z3B ok hL (by simp)).1 h2,Zwj ok h hd hL h3⟩
  .simp only at hy
   split at hy
   .cases hy
   .rename_i hne
    obtain ⟨h1,h2⟩:=h.ls u y hy
    have hk:Keeps g (g.settled w (Wr cfg g t x) t) st.dead (fun u=> st.dead u || decide (u=t)) (fun _=> false) (fun _=> false):=by
     refine ⟨hm,fun c u hu ht=> ?_,fun u hu=> by grind,fun nm hn=> (by cases hn),fun u v hu hv=> ?_,fun _=> rfl⟩
     .simp only [QE,decide_eq_false_iff_not] at hu
      exact (Z3B ok hL (fun e=> by grind)).1 ht
     .simp only [QE,decide_eq_false_iff_not] at hu
      simp only [Gh.settled]
      grind
    exact ⟨h1,h2.keep hk (by simp [h1,hne]) (fun c v hv=> (h.inv.im c v hv).1) (fun _ _=> rfl)⟩
  .simp only at h1
   simp only [Gh.settled]
   split
   .try rfl
   .rename_i hne
    rw [if_neg hne] at h1
    exact h.fresh u hu h1 h2
end frz
theorem ZnJ(ok:CfgOk P cfg):∀ (ts:List Tok) {st:FSt U} {g:Gh},Rel cfg B st g a w->∃ g',Rel cfg B (st.frz cfg ts) g' a w
 | [],st,g,h=> ⟨g,h⟩
 | t ::ts,st,g,h=> by
  obtain ⟨g1,h1⟩:=ZA2 ok h t
  exact ZnJ ok ts h1
theorem Zwi:∀ (ts:List Tok) (st:FSt U),(st.frz cfg ts).n=st.n
 | [],st=> rfl
 | t ::ts,st=> by
  show ((st.frz1 cfg t).frz cfg ts).n=st.n
  rw [Zwi ts]
  unfold FSt.frz1
  grind
theorem ZkZ{α:Type}(st:FSt U)(k:FSt U->α)(ts:List Tok):Z6q cfg st k ts=k (Z6q cfg st id ts):=by cases ts <;> rfl
theorem Zct{Γ:Known U}{ops:Array Oper}{fz:Bool}{o:Oper}{r:List Oper}:ZgB cfg Γ ops fz (o ::r) st=match Z5R cfg Γ ops o (st.pre cfg Γ fz o) with
  | none=> none
  | some (ps,e)=> match ZgB cfg Γ ops fz r ((st.pre cfg Γ fz o).app o.dst e) with
   | none=> none
   | some (qs,st')=> some (ps++qs,st'):=by
 show Z6q cfg st _ _=_
 rw [ZkZ]
 try rfl
theorem ZCM{Γ:Known U}(ok:CfgOk P cfg)(h:Rel cfg B st g a w)(fz:Bool)(o:Oper):∃ g',Rel cfg B (st.pre cfg Γ fz o) g' a w:=by
 unfold FSt.pre
 generalize (bif fz then ZdX Γ o st else [])=ts
 cases ts with
 | nil=> exact ⟨g,h⟩
 | cons t r=> exact ZnJ ok _ h
theorem ZHH{Γ:Known U}(fz:Bool)(o:Oper):(st.pre cfg Γ fz o).n=st.n:=by
 unfold FSt.pre
 generalize (bif fz then ZdX Γ o st else [])=ts
 cases ts with
 | nil=> rfl
 | cons t r=> exact Zwi _ st
theorem ZCN{Γ:Known U}(o:Oper):st.pre cfg Γ false o=st:=rfl
end Go.AM
