import Derived.Test.YtfapacabjkhepaaVKL21n
import Derived.Test.YtfapacabjkhepaaVKP20
set_option linter.unusedSimpArgs false
set_option linter.unusedVariables false
namespace Go.AM.Ytfapacabjkhepaa
open Go.AM Go.Proofs
mutual
theorem Z90:∀ e:Edit,Zq (Zq e)=e
 | .mk k o n w ks l os=> by
  simp only [Zq]
  rw [ZmF,Za1 ks,Za0 os]
theorem Za1:∀ ks:List (KidOf Edit),Y4 (Y4 ks)=ks
 | []=> rfl
 | k ::r=> by simp only [Y4];rw [Zf7 k,Za1 r]
theorem Zf7:∀ k:KidOf Edit,YL (YL k)=k
 | ⟨a,e⟩=> by simp only [YL];rw [Z90 e]
theorem Za0:∀ os:List (OpOf Edit),Y9 (Y9 os)=os
 | []=> rfl
 | o ::r=> by simp only [Y9];rw [Zgq o,Za0 r]
theorem Zgq:∀ o:OpOf Edit,ZY (ZY o)=o
 | ⟨k,n,l,e⟩=> by
  have h:=Z90 e
  simp only [ZY]
  split
  .rename_i c;subst c;rfl
  .split
   .rename_i c;subst c;rfl
   .split
    .rename_i c;subst c;simp only [ZY];rw [h];try rfl
    .rename_i c1 c2 c3;simp only [ZY];rw [if_neg c1,if_neg c2,if_neg c3]
end
theorem ZmA{a n m:Int}(hn:isW n)(hw:ZM n m=true):mix 0 (mix a n m) m=n:=by
 unfold ZM at hw
 have hw:mix n 0 m=0:=of_decide_eq_true hw
 refine Z2q (Z0S _ _ _) hn fun i hi=> ?_
 have e:=congrArg (fun x=> Zg x i) hw
 simp only [Z1o hi,YA] at e
 rw [Z1o hi,YA]
 by_cases h:YT m i=true
 .rw [if_pos h,Z1o hi,YA,if_pos h]
 .rw [if_neg h] at e ⊢
  exact e.symm
theorem Zmz{a n o m:Int}(ha:isW a)(ho:mix 0 a m=o):mix (mix a n m) o m=a:=by
 refine Z2q (Z0S _ _ _) ha fun i hi=> ?_
 rw [Z1o hi,YA]
 by_cases h:YT m i=true
 .rw [if_pos h,<-ho,Z1o hi,YA,if_pos h]
 .rw [if_neg h,Z1o hi,YA,if_neg h]
theorem Z5W{α β:Type}{z:α}{f:β->Option α}{p:β->Int}:∀ {ws:List β} {out:List α},(∀ w∈ws,∃ v,f w=some v)->∃ r,mg z f p ws out=some r
 | [],out,_=> ⟨out,rfl⟩
 | w ::s,out,h=> by
  obtain ⟨v,hv⟩:=h w Q4
  rw [mg,hv,Qe]
  exact Z5W fun x hx=> h x (Q0 _ hx)
theorem Zf3{l:List Int}(h:∀ x∈l,isW x)(i:Nat):isW (l.getD i 0):=by
 by_cases hi:i < l.length
 .exact h _ (Zh hi _)
 .rw [Qd,Qq V0];show 0<=(0:Int)/\(0:Int) < _;omega
theorem Zis{tw:List Int}{ws:List WEdit}{r:List Int}(hw:Zp (-1) ws=true)(it:∀ x∈tw,isW x)(iw:∀ w∈ws,Z1j w)(h:wsD tw ws tw=some r):∃ v,wsD r (ws.map YH) r=some v/\Znj v tw:=by
 rw [Z8Z] at h
 obtain ⟨a1,a2⟩:=Z2Y V0 (Z0F hw) h
 have key:∀ w∈ws,(if mix 0 (r.getD (YH w).at_.toNat 0) (YH w).mask=(YH w).old then some (mix (r.getD (YH w).at_.toNat 0) (YH w).new (YH w).mask) else none)=some (tw.getD w.at_.toNat 0):=by
  intro w hm
  obtain ⟨v,hv,hr⟩:=a1 w hm
  split at hv
  .rename_i c
   cases hv
   have ok:=YQ hw w hm
   show (if mix 0 (r.getD w.at_.toNat 0) w.mask=w.new then some (mix (r.getD w.at_.toNat 0) w.old w.mask) else none)=_
   rw [hr,ZmA (iw w hm).2.2.2 ok.2.2.2.2,if_pos rfl,Zmz (Zf3 it _) c]
  .cases hv
 have hw':Zp (-1) (ws.map YH)=true:=by rw [Z3Y];exact hw
 obtain ⟨v,hv⟩:=Z5W (z:=0) (p:=WEdit.at_) (out:=r) (f:=fun w=> if mix 0 (r.getD w.at_.toNat 0) w.mask=w.old then some (mix (r.getD w.at_.toNat 0) w.new w.mask) else none) (ws:=ws.map YH) (fun w hm=> by
  obtain ⟨x,hx,rfl⟩:=Xr.1 hm
  exact ⟨_,key x hx⟩)
 obtain ⟨b1,b2⟩:=Z2Y V0 (Z0F hw') hv
 refine ⟨v,by rw [Z8Z];exact hv,fun i=> ?_⟩
 by_cases hi:∃ w∈ws,w.at_.toNat=i
 .obtain ⟨w,hm,rfl⟩:=hi
  obtain ⟨y,hy,hr⟩:=b1 (YH w) (List.mem_map_of_mem hm)
  have:=key w hm
  rw [this] at hy
  cases hy
  exact hr
 .have h1:∀ w∈ws,w.at_.toNat≠i:=fun w hm e=> hi ⟨w,hm,e⟩
  rw [b2 i (fun w hm=> by obtain ⟨x,hx,rfl⟩:=Xr.1 hm;exact h1 x hx),a2 i h1]
theorem Z6z:∀ {ks:List Kid} {k:Kid},k∈Y4 ks->∃ q∈ks,k=YL q
 | [],k,h=> by cases h
 | a ::r,k,h=> by
  rw [Y4] at h
  rcases Q6.1 h with rfl | h
  .exact ⟨a,Q4,rfl⟩
  .obtain ⟨q,hq,e⟩:=Z6z h
   exact ⟨q,Q0 _ hq,e⟩
theorem ZcQ:∀ {ks:List Kid} {k:Kid},k∈ks->YL k∈Y4 ks
 | [],k,h=> by cases h
 | a ::r,k,h=> by
  rw [Y4]
  rcases Q6.1 h with rfl | h
  .exact Q4
  .exact Q0 _ (ZcQ h)
theorem Z1d(k:Kid):(YL k).at_=k.at_/\(YL k).e=Zq k.e:=by cases k;exact ⟨rfl,rfl⟩
theorem ZmO {tk:List Tree} {ks:List Kid} {r:List Tree} {d:Int} (hk:Zu (-1) ks d=true) (h:Je false tk ks tk=some r)
  (ih:∀ k∈ks,∀ u,doE false k.e (tk.getD k.at_.toNat Tree.nil)=some u->∃ v,doE false (Zq k.e) u=some v/\Eqv v (tk.getD k.at_.toNat Tree.nil)):∃ v,Je false r (Y4 ks) r=some v/\Zku v tk:=by
 rw [Z63] at h
 obtain ⟨a1,a2⟩:=Z2Y V0 (Z1r hk) h
 have key:∀ k∈ks,∃ v,JS false r (YL k)=some v/\Eqv v (tk.getD k.at_.toNat Tree.nil):=by
  intro k hm
  obtain ⟨u,hu,hr⟩:=a1 k hm
  rw [Z3Q] at hu
  obtain ⟨v,hv,he⟩:=ih k hm u hu
  refine ⟨v,?_,he⟩
  rw [Z3Q,(Z1d k).1,(Z1d k).2,hr]
  exact hv
 have hk':=Z4h ks _ _ hk
 obtain ⟨v,hv⟩:=Z5W (z:=Tree.nil) (p:=KidOf.at_) (out:=r) (f:=JS false r) (ws:=Y4 ks) (fun k hm=> by
  obtain ⟨q,hq,rfl⟩:=Z6z hm
  obtain ⟨v,hv,_⟩:=key q hq
  exact ⟨v,hv⟩)
 obtain ⟨b1,b2⟩:=Z2Y V0 (Z1r hk') hv
 refine ⟨v,by rw [Z63];exact hv,fun i=> ?_⟩
 by_cases hi:∃ k∈ks,k.at_.toNat=i
 .obtain ⟨k,hm,rfl⟩:=hi
  obtain ⟨y,hy,hr⟩:=b1 (YL k) (ZcQ hm)
  obtain ⟨x,hx,he⟩:=key k hm
  rw [hx] at hy
  cases hy
  rw [(Z1d k).1] at hr
  rw [hr]
  exact he
 .have h1:∀ k∈ks,k.at_.toNat≠i:=fun k hm e=> hi ⟨k,hm,e⟩
  rw [b2 i (fun k hm=> by obtain ⟨q,hq,rfl⟩:=Z6z hm;rw [(Z1d q).1];exact h1 q hq),a2 i h1]
  exact rfl
theorem Znw(n:Int)(l:List Tree)(e:Edit):ZY ⟨0,n,l,e⟩=⟨0,n,l,e⟩:=rfl
theorem Znv(n:Int)(l:List Tree)(e:Edit):ZY ⟨1,n,l,e⟩=⟨2,n,l,e⟩:=rfl
theorem Znu(n:Int)(l:List Tree)(e:Edit):ZY ⟨2,n,l,e⟩=⟨1,n,l,e⟩:=rfl
theorem Znt(n:Int)(l:List Tree)(e:Edit):ZY ⟨3,n,l,e⟩=⟨3,n,l,Zq e⟩:=rfl
mutual
theorem Z7k:∀ (e:Edit) (d:Int) (t u:Tree),Z0 e d=true->ZK e->RT_ t->doE false e t=some u->∃ v,doE false (Zq e) u=some v/\Eqv v t
 | .mk k o n w ks l os,d,t,u,hr,he,ht,h=> by
  have ri:=Zs hr
  have h1:=ZdS ks
  have h2:=ZdR os
  have hkid:=ht.kids
  have hta:=Zfk ht.2
  have hea:(∀ x∈w,Z1j x)/\JX ks/\JP os:=by simp only [ZK] at he;exact ⟨he.2.2.2.1,he.2.2.2.2.2.1,he.2.2.2.2.2.2⟩
  rw [Z2N,Ye] at h
  unfold Z7D at h
  simp only [Zq]
  have hraw:∀ u:Tree,Z7D false (.mk k n o (w.map YH) (Y4 ks) l (Y9 os)) u=if k=0 then some u else if k=1 then (if Yp (Z1 n) (Z1 u)=true then some o else none) else if k=2 then (if u.kind=1 then (wsD u.words (w.map YH) u.words).bind fun a=> (Je false u.kids (Y4 ks) u.kids).map fun b=> .mk 1 a b else none) else if k=3 then (if u.kind=l then (Z0d (ZC false (Y9 os) u.kids [])).map fun b=> .mk l [] b else none) else none:=fun _=> rfl
  have fin:∀ x v,x=some v->Eqv v t->Z7D false (.mk k n o (w.map YH) (Y4 ks) l (Y9 os)) u=x->∃ v,doE false (.mk k n o (w.map YH) (Y4 ks) l (Y9 os)) u=some v/\Eqv v t:=by
   rintro x v rfl hv hx
   exact ⟨v,by rw [Z2N,Ye];exact hx,hv⟩
  split at h
  .rename_i c
   cases h
   refine fin _ t rfl rfl ?_
   replace c:k=0:=c
   rw [hraw,if_pos c]
  .rename_i c0
   replace c0:¬k=0:=c0
   split at h
   .rename_i c1
    replace c1:k=1:=c1
    split at h
    .rename_i c
     cases h
     refine fin _ o rfl (Yk.1 c) ?_
     rw [hraw,if_neg c0,if_pos c1]
     show (if Yp (Z1 n) (Z1 n)=true then some o else none)=some o
     rw [ZiF]
     try rfl
    .cases h
   .rename_i c1
    replace c1:¬k=1:=c1
    split at h
    .rename_i c2
     replace c2:k=2:=c2
     split at h
     .rename_i c
      obtain ⟨a,ha,hb⟩:=Ql.1 h
      obtain ⟨b,hb2,e⟩:=Qb.1 hb
      obtain ⟨va,hva,ea⟩:=Zis ri.words hta.2.1 hea.1 ha
      obtain ⟨vb,hvb,eb⟩:=ZmO ri.kids hb2 (fun q hq x hx=> h1 (d - 1) q hq _ x (ZP ri.kids q hq).2 hea.2.1 (Z9Y hkid.1 _) hx)
      subst e
      refine fin _ (.mk 1 va vb) rfl ((Z2n rfl c).2 ⟨ea,eb⟩) ?_
      rw [hraw,if_neg c0,if_neg c1,if_pos c2,if_pos (show (Tree.mk 1 a b).kind=1 from rfl)]
      have q1:wsD a (w.map YH) a=some va:=hva
      have q2:Je false b (Y4 ks) b=some vb:=hvb
      show ((wsD a (w.map YH) a).bind fun a_1=> (Je false b (Y4 ks) b).map fun b_1=> Tree.mk 1 a_1 b_1)=_
      rw [q1,Qe,q2]
      try rfl
     .cases h
    .rename_i c2
     replace c2:¬k=2:=c2
     split at h
     .rename_i c3
      replace c3:k=3:=c3
      split at h
      .rename_i c
       obtain ⟨b,hb,e⟩:=Qb.1 h
       unfold Z0d at hb
       obtain ⟨x,hx,hy⟩:=Ql.1 hb
       split at hy
       .rename_i z0
        cases hy
        subst e
        obtain ⟨X,e1,hX⟩:=h2 (d - 1) t.kids [] x (fun q hq=> ⟨_,Go.AM.rightOs_mem ri.ops q hq⟩) hea.2.2 hkid.1 hx
        obtain ⟨Y,hY,e2⟩:=hX [] []
        have hl:2<=l/\l<=9:=ri.list c3
        have c:t.kind=l:=c
        rw [QF] at e1
        rw [Qp,<-e1,QF] at hY
        rw [Q3 z0] at e2
        refine fin _ (.mk l [] Y) rfl ((Zi2 (a:= .mk l [] Y) (by show l≠0;omega) (by show l≠1;omega)).2 ⟨c.symm,(hkid.2 V0 V0 V0).symm,by show Z7 Y=Z7 t.kids;rw [<-e2];simp [Z7]⟩) ?_
        rw [hraw,if_neg c0,if_neg c1,if_neg c2,if_pos c3,if_pos (show (Tree.mk (Edit.mk k o n w ks l os).list [] x.1).kind=l from rfl)]
        show (Z0d (ZC false (Y9 os) x.1 [])).map (fun b=> Tree.mk l [] b)=_
        rw [hY]
        try rfl
       .cases hy
      .cases h
     .cases h
theorem ZdS:∀ (ks:List (KidOf Edit)) (d:Int),∀ k∈ks,∀ (t u:Tree),Z0 k.e d=true->JX ks->RT_ t->doE false k.e t=some u->∃ v,doE false (Zq k.e) u=some v/\Eqv v t
 | [],d,k,hk=> by cases hk
 | ⟨a,e⟩ ::r,d,k,hk=> by
  have h1:=Z7k e d
  have h2:=ZdS r d
  intro t u hr hg ht h
  simp only [JX,Z0N] at hg
  rcases Q6.1 hk with rfl | hk
  .exact h1 t u hr hg.1.2 ht h
  .exact h2 k hk t u hr hg.2 ht h
theorem ZdR:∀ (os:List (OpOf Edit)) (d:Int) (rest out:List Tree) (x:List Tree × List Tree),(∀ o∈os,∃ l,Zc l o d=true)->JP os->(∀ t∈rest,RT_ t)->ZC false os rest out=some x->
  ∃ X,x.1=out++X/\∀ z out2,∃ Y,ZC false (Y9 os) (X++z) out2=some (out2++Y,z)/\Z7 Y++Z7 x.2=Z7 rest
 | [],d,rest,out,x,_,_,_,h=> by
  rw [ZC] at h
  cases h
  exact ⟨[],by simp,fun z out2=> ⟨[],by rw [Y9,ZC];simp,by simp [Z7]⟩⟩
 | o ::s,d,rest,out,x,hr,hg,ht,h=> by
  rw [ZC] at h
  obtain ⟨y,hy,hx⟩:=Ql.1 h
  simp only [JP] at hg
  obtain ⟨X0,e0,h0⟩:=ZlW o d rest out y (hr o Q4) hg.1 ht hy
  have hsuf:∀ t∈y.2,RT_ t:=by
   obtain ⟨m,hm⟩:=Z2M (os:=[o]) (by rw [Z8O];exact hy)
   rw [hm]
   exact fun t h=> ht t (QZ h)
  obtain ⟨X1,e1,h1⟩:=ZdR s d y.2 y.1 x (fun q hq=> hr q (Q0 _ hq)) hg.2 hsuf hx
  refine ⟨X0++X1,by rw [e1,e0,Qa],fun z out2=> ?_⟩
  obtain ⟨Y0,p0,q0⟩:=h0 (X1++z) out2
  obtain ⟨Y1,p1,q1⟩:=h1 z (out2++Y0)
  refine ⟨Y0++Y1,?_,?_⟩
  .rw [Y9,ZC,Qa,p0,Qe,p1,Qa]
  .rw [Yj,Qa,q1,q0]
theorem ZlW:∀ (o:OpOf Edit) (d:Int) (rest out:List Tree) (y:List Tree × List Tree),(∃ l,Zc l o d=true)->YD o->(∀ t∈rest,RT_ t)->Z0K false o rest out=some y->
  ∃ X,y.1=out++X/\∀ z out2,∃ Y,Z0K false (ZY o) (X++z) out2=some (out2++Y,z)/\Z7 Y++Z7 y.2=Z7 rest
 | ⟨k,n,l,e⟩,d,rest,out,y,⟨li,hr⟩,hg,ht,h=> by
  have ie:=Z7k e d (rest.getD 0 Tree.nil)
  have r1:=Z52 hr
  simp only [YD] at hg
  rw [Z0K] at h
  split at h
  .rename_i c
   subst c
   split at h
   .rename_i c
    cases h
    refine ⟨rest.take n.toNat,rfl,fun z out2=> ⟨rest.take n.toNat,?_,?_⟩⟩
    .have hl:(rest.take n.toNat).length=n.toNat:=by rw [Qj];omega
     rw [Znw,Z0K,if_pos rfl,if_pos (by rw [Qh];omega),List.take_left' hl,List.drop_left' hl]
    .rw [<-Yj,Qv]
   .cases h
  .rename_i c0
   split at h
   .rename_i c
    subst c
    split at h
    .rename_i c
     cases h
     refine ⟨[],by simp,fun z out2=> ⟨l,?_,?_⟩⟩
     .rw [Znv,Z0K,JI,JI,if_pos rfl]
      try rfl
     .rw [((Z1a l rest).1 c).2,<-Yj,Qv]
    .cases h
   .rename_i c1
    split at h
    .rename_i c
     subst c
     cases h
     refine ⟨l,rfl,fun z out2=> ⟨[],?_,by simp [Z7]⟩⟩
     have hg2:Jd l (l++z)=true:=by rw [Z1a];exact ⟨by simp,by rw [List.take_left' rfl]⟩
     rw [Znu,Z0K,JI,if_pos rfl,if_pos hg2,List.drop_left' rfl,Qp]
    .rename_i c2
     split at h
     .cases h
     .rename_i z0
      have hk:k=3:=by rcases r1 with h | h | h | h <;> first | exact absurd h c0 | exact absurd h c1 | exact absurd h c2 | exact h
      subst hk
      obtain ⟨u,hu,ey⟩:=Qb.1 h
      cases ey
      obtain ⟨v,hv,hev⟩:=ie u (Jv hr rfl) hg.2.2.2 (Z9Y ht 0) hu
      refine ⟨[u],rfl,fun z out2=> ⟨[v],?_,?_⟩⟩
      .rw [Znt,Z0K,JI,JI,JI,if_neg (by simp)]
       show (doE false (Zq e) u).map _=_
       rw [hv]
       try rfl
      .cases rest with
       | nil=> exact absurd rfl z0
       | cons a q=>
        show Z7 ([v]++q)=Z7 (a ::q)
        simp only [Z7,Qw,QF,X4]
        rw [show Z1 v=Z1 a from hev]
end
theorem ZaD:∀ {ks:List Kid} {k:Kid},k∈ks->Zd k.e<=Zx ks
 | ⟨_,_⟩ ::r,k,h=> by
  rcases Q6.1 h with rfl | h
  .simp only [Zx,Yw];omega
  .have:=ZaD h;simp only [Zx];omega
theorem ZaB:∀ {os:List Op} {o:Op},o∈os->ZA o<=Zr os
 | a ::r,o,h=> by
  rcases Q6.1 h with rfl | h
  .simp only [Zr];omega
  .have:=ZaB h;simp only [Zr];omega
theorem ZmD(o:Op):Zd o.e<=ZA o:=by obtain ⟨k,n,l,e⟩:=o;simp only [ZA];omega
theorem Z19{e:Edit}{k:Kid}(h:k∈e.kids):Zd k.e < Zd e:=by
 obtain ⟨kk,o,n,w,ks,l,os⟩:=e
 have:=ZaD (ks:=ks) h
 simp only [Zd];omega
theorem Z2g{e:Edit}{o:Op}(h:o∈e.ops):Zd o.e < Zd e:=by
 obtain ⟨kk,ol,n,w,ks,l,os⟩:=e
 have:=ZaB (os:=os) h
 have:=ZmD o
 simp only [Zd];omega
mutual
theorem JE:∀ (t:Tree) (d m:Int),m < 0->Z9 t d=true->Z9 t m=true
 | .mk k w ks,d,m,hm,h=> by
  rw [Z9] at h ⊢
  by_cases h0:k=0
  .rw [if_pos h0] at h ⊢;exact h
  .rw [if_neg h0] at h ⊢
   by_cases h1:k=10
   .rw [if_pos h1] at h ⊢;exact h
   .rw [if_neg h1] at h ⊢
    by_cases h2:d=0
    .rw [if_pos h2] at h;cases h
    .rw [if_neg h2] at h
     rw [JI]
     by_cases h3:k=1
     .rw [if_pos h3,Q1] at h ⊢
      exact ⟨h.1,Z6N 1 ks (d - 1) (m - 1) V0 h.2⟩
     .rw [if_neg h3,Q1] at h ⊢
      exact ⟨h.1,Z6N k ks (d - 1) (m - 1) V0 h.2⟩
theorem Z6N(list:Int):∀ (ks:List Tree) (d m:Int),m < 0->Ya list ks d=true->Ya list ks m=true
 | [],_,_,_,_=> rfl
 | t ::r,d,m,hm,h=> by
  simp only [Ya,Q1] at h ⊢
  exact ⟨⟨h.1.1,JE t d m hm h.1.2⟩,Z6N list r d m hm h.2⟩
end
theorem Z26{list d:Int}:∀ {ks:List Tree},Ya list ks d=true↔∀ t∈ks,Z0r list t=true/\Z9 t d=true
 | []=> by simp [Ya]
 | t ::r=> by
  simp only [Ya,Q1,Z26 (ks:=r),Q6,forall_eq_or_imp]
theorem Z50{t:Tree}(h:Z9 t (-1)=true):t.kind≠0->t.kind≠10->
  (t.kind=1->t.words.length < 65536/\t.kids.length < 65536)/\(t.kind≠1->(2<=t.kind/\t.kind<=9)/\t.words=[]/\t.kids.length < 1048576)/\∀ k∈t.kids,Z0r t.kind k=true/\Z9 k (-1)=true:=by
 obtain ⟨k,w,ks⟩:=t
 intro h0 h1
 have h0:k≠0:=h0
 have h1:k≠10:=h1
 rw [Z9,if_neg h0,if_neg h1,if_neg V2] at h
 by_cases h3:k=1
 .rw [if_pos h3,Q1,decide_eq_true_eq,Z26] at h
  subst h3
  exact ⟨fun _=> h.1,fun e=> absurd rfl e,fun x hx=> ⟨(h.2 x hx).1,JE _ _ _ V2 (h.2 x hx).2⟩⟩
 .rw [if_neg h3,Q1,decide_eq_true_eq,Z26] at h
  exact ⟨fun e=> absurd e h3,fun _=> ⟨⟨h.1.1,h.1.2.1⟩,Q3 h.1.2.2.1,h.1.2.2.2⟩,fun x hx=> ⟨(h.2 x hx).1,JE _ _ _ V2 (h.2 x hx).2⟩⟩
theorem Zfm{w:List Int}{ks:List Tree}(h1:w.length < 65536)(h2:ks.length < 65536)(h:∀ k∈ks,Z0r 1 k=true/\Z9 k (-1)=true):Z9 (.mk 1 w ks) (-1)=true:=by
 rw [Z9,if_neg V2,if_neg V2,if_neg V2,if_pos rfl,Q1,decide_eq_true_eq,Z26]
 exact ⟨⟨h1,h2⟩,fun x hx=> ⟨(h x hx).1,JE _ _ _ V2 (h x hx).2⟩⟩
theorem Zch{l:Int}{ks:List Tree}(hl:2<=l/\l<=9)(h2:ks.length < 1048576)(h:∀ k∈ks,Z0r l k=true/\Z9 k (-1)=true):Z9 (.mk l [] ks) (-1)=true:=by
 rw [Z9,JI,JI,if_neg V2,JI,Q1,decide_eq_true_eq,Z26]
 exact ⟨⟨hl.1,hl.2,rfl,h2⟩,fun x hx=> ⟨(h x hx).1,JE _ _ _ V2 (h x hx).2⟩⟩
theorem Z2v{D list:Int}:∀ {l:List Tree},Yr D list l=true->∀ t∈l,Z9 (.mk list [] [t]) D=true
 | a ::r,h,t,ht=> by
  simp only [Yr,Q1] at h
  rcases Q6.1 ht with rfl | ht
  .exact h.1
  .exact Z2v h.2 t ht
theorem Jh{D list:Int}(hl:2<=list/\list<=9){l:List Tree}(h:Yr D list l=true):∀ t∈l,Z0r list t=true/\Z9 t (-1)=true:=by
 intro t ht
 have:=Z50 (JE _ _ (-1) V2 (Z2v h t ht)) (by show list≠0;omega) (by show list≠10;omega)
 exact this.2.2 t (by simp)
inductive Run:List Op->List Tree->List Tree->Prop
 | nil:Run [] [] []
 | keep {o r a s d}:o.kind=0->(a.length:Int)=o.n->Run r s d->Run (o ::r) (a++s) (a++d)
 | gone {o r a s d}:o.kind=1->Z7 o.l=Z7 a->Run r s d->Run (o ::r) (a++s) d
 | come {o r s d}:o.kind=2->Run r s d->Run (o ::r) s (o.l++d)
 | into {o r x y s d}:o.kind=3->doE false o.e x=some y->Run r s d->Run (o ::r) (x ::s) (y ::d)
def kOk(o:Op):Prop:=(o.kind=0/\0<=o.n)\/o.kind=1\/o.kind=2\/o.kind=3
theorem ZnT:∀ {os:List Op} {s d:List Tree},Run os s d->∀ out,ZC false os s out=some (out++d,[]):=by
 intro os s d h
 induction h with
 | nil=> intro out;simp [ZC]
 | keep h0 hn hr0 ih=>
  rename_i o r a s d
  intro out
  rw [ZC,Yx,if_pos h0,if_pos (by rw [Qh];omega),show o.n.toNat=a.length by omega]
  simp only [Qe,List.take_left,List.drop_left]
  rw [ih,Qa]
 | gone h1 hn hr0 ih=>
  rename_i o r a s d
  intro out
  have hl:=Z1V hn
  rw [ZC,Yx,JI,if_pos h1,if_pos]
  .simp only [Qe]
   rw [hl,List.drop_left,ih]
  .rw [Z1a,hl,List.take_left]
   exact ⟨by simp,hn⟩
 | come h2 hr0 ih=>
  intro out
  rw [ZC,Yx,JI,JI,if_pos h2]
  simp only [Qe]
  rw [ih,Qa]
 | into h3 he hr0 ih=>
  intro out
  rw [ZC,Yx,JI,JI,JI,if_neg (by simp)]
  simp only [Qt,he,Qf,Qe,QQ,QV]
  rw [ih,Qa]
  try rfl
theorem Zd8:∀ {os:List Op} {s out:List Tree} {x:List Tree × List Tree},(∀ o∈os,kOk o)->ZC false os s out=some x->x.2=[]->∃ d,x.1=out++d/\Run os s d
 | [],s,out,x,_,h,hx=> by
  rw [ZC] at h
  cases h
  have hx:s=[]:=hx
  subst hx
  exact ⟨[],by simp,.nil⟩
 | o ::r,s,out,x,hk,h,hx=> by
  rw [ZC,Yx] at h
  have hr:∀ o∈r,kOk o:=fun o ho=> hk o (Q0 _ ho)
  rcases hk o Q4 with h0 | h1 | h2 | h3
  .rw [if_pos h0.1] at h
   split at h
   .rename_i hl
    simp only [Qe] at h
    obtain ⟨d,e,hd⟩:=Zd8 hr h hx
    refine ⟨s.take o.n.toNat++d,by rw [e,Qa],?_⟩
    have:=Run.keep (a:=s.take o.n.toNat) h0.1 (by rw [Qj];omega) hd
    rwa [Qv] at this
   .cases h
  .rw [JI,if_pos h1] at h
   split at h
   .rename_i hg
    obtain ⟨g1,g2⟩:=(Z1a _ _).1 hg
    simp only [Qe] at h
    obtain ⟨d,e,hd⟩:=Zd8 hr h hx
    refine ⟨d,e,?_⟩
    have:=Run.gone (a:=s.take o.l.length) h1 g2 hd
    rwa [Qv] at this
   .cases h
  .rw [JI,JI,if_pos h2] at h
   simp only [Qe] at h
   obtain ⟨d,e,hd⟩:=Zd8 hr h hx
   exact ⟨o.l++d,by rw [e,Qa],.come h2 hd⟩
  .rw [JI,JI,JI] at h
   split at h
   .cases h
   .rename_i hl
    obtain ⟨y,hy,h⟩:=Ql.1 h
    obtain ⟨z,hz,rfl⟩:=Qb.1 hy
    obtain ⟨d,e,hd⟩:=Zd8 hr h hx
    cases s with
    | nil=> simp at hl
    | cons x0 s=>
     refine ⟨z ::d,by rw [e];simp,.into h3 (by simpa using hz) (by simpa using hd)⟩
theorem Z61{os:List Op}{s d:List Tree}(hk:∀ o∈os,kOk o):Z0d (ZC false os s [])=some d↔Run os s d:=by
 constructor
 .intro h
  unfold Z0d at h
  obtain ⟨x,hx,h⟩:=Ql.1 h
  split at h
  .rename_i hl
   cases h
   obtain ⟨d,e,hd⟩:=Zd8 hk hx (Q3 hl)
   rw [e];exact hd
  .cases h
 .intro h
  have:=ZnT h []
  unfold Z0d
  rw [this]
  simp
theorem ZmS{list d:Int}{o:Op}(h:Zc list o d=true):kOk o:=by
 have:=ZT h
 cases this with
 | keep n h1=> exact .inl ⟨rfl,by show 0<=n;omega⟩
 | gone=> exact .inr (.inl rfl)
 | come=> exact .inr (.inr (.inl rfl))
 | into=> exact .inr (.inr (.inr rfl))
theorem ZsC:∀ {os:List Op} {s d:List Tree},Run os s d->(∀ o∈os,YV o)->(s.length:Int)=JU os/\(d.length:Int)=Z0f os:=by
 intro os s d h
 induction h with
 | nil=> intro _;simp [JU,Z0f]
 | keep h0 hn hr0 ih=>
  rename_i o r a s d
  intro hk
  obtain ⟨i1,i2⟩:=ih fun o ho=> hk o (Q0 _ ho)
  have ho:=hk o Q4
  have hl:Z5 o=o.n:=by
   rcases ho with h | h | h
   .unfold Z5;rw [JI,h.2.1];simp
   .omega
   .omega
  simp only [JU,Z0f,Qh]
  rw [JI,JI,hl]
  omega
 | gone h1 hn hr0 ih=>
  rename_i o r a s d
  intro hk
  obtain ⟨i1,i2⟩:=ih fun o ho=> hk o (Q0 _ ho)
  have ho:=hk o Q4
  have hl:Z5 o=a.length:=by
   have:=Z1V hn
   rcases ho with h | h | h
   .omega
   .unfold Z5;rw [JI,h.2.1];omega
   .omega
  simp only [JU,Z0f,Qh]
  rw [JI,if_pos h1,hl]
  omega
 | come h2 hr0 ih=>
  rename_i o r s d
  intro hk
  obtain ⟨i1,i2⟩:=ih fun o ho=> hk o (Q0 _ ho)
  have ho:=hk o Q4
  have hl:Z5 o=o.l.length:=by
   rcases ho with h | h | h
   .omega
   .unfold Z5;rw [JI,h.2.1];omega
   .omega
  simp only [JU,Z0f,Qh]
  rw [if_pos h2,JI,hl]
  omega
 | into h3 he hr0 ih=>
  rename_i o r x y s d
  intro hk
  obtain ⟨i1,i2⟩:=ih fun o ho=> hk o (Q0 _ ho)
  have hl:Z5 o=1:=by unfold Z5;rw [if_pos h3]
  simp only [JU,Z0f,Q7]
  rw [JI,JI,hl]
  omega
theorem Zi6{r:Bool}{tk:List Tree}:∀ {ks:List Kid} {out b:List Tree},Je r tk ks out=some b->(∀ k∈ks,k.at_<=65534)->
  b.length<=max out.length 65535/\∀ y∈b,y∈out\/y=Tree.nil\/∃ k∈ks,doE r k.e (tk.getD k.at_.toNat Tree.nil)=some y
 | [],out,b,h,_=> by
  rw [Je] at h
  cases h
  exact ⟨V0,fun y hy=> .inl hy⟩
 | k ::s,out,b,h,ha=> by
  rw [Je,Z3Q] at h
  obtain ⟨v,hv,hb⟩:=Ql.1 h
  obtain ⟨i1,i2⟩:=Zi6 hb fun x hx=> ha x (Q0 _ hx)
  have:=ha k Q4
  rw [Z6a] at i1
  refine ⟨V0,fun y hy=> ?_⟩
  rcases i2 y hy with h1 | h1 | ⟨q,hq,h1⟩
  .rcases Z6I h1 with h1 | h1 | h1
   .exact .inl h1
   .exact .inr (.inl h1)
   .subst h1
    exact .inr (.inr ⟨k,Q4,hv⟩)
  .exact .inr (.inl h1)
  .exact .inr (.inr ⟨q,Q0 _ hq,h1⟩)
theorem ZsB:∀ {os:List Op} {s d:List Tree},Run os s d->∀ y∈d,y∈s\/(∃ o∈os,o.kind=2/\y∈o.l)\/∃ o∈os,o.kind=3/\∃ x∈s,doE false o.e x=some y:=by
 intro os s d h
 induction h with
 | nil=> intro y hy;cases hy
 | keep h0 hn hr0 ih=>
  intro y hy
  rcases Qi.1 hy with hy | hy
  .exact .inl (QN _ hy)
  .rcases ih y hy with h | ⟨o,ho,h⟩ | ⟨o,ho,hk,x,hx,h⟩
   .exact .inl (QP _ h)
   .exact .inr (.inl ⟨o,Q0 _ ho,h⟩)
   .exact .inr (.inr ⟨o,Q0 _ ho,hk,x,QP _ hx,h⟩)
 | gone h1 hn hr0 ih=>
  intro y hy
  rcases ih y hy with h | ⟨o,ho,h⟩ | ⟨o,ho,hk,x,hx,h⟩
  .exact .inl (QP _ h)
  .exact .inr (.inl ⟨o,Q0 _ ho,h⟩)
  .exact .inr (.inr ⟨o,Q0 _ ho,hk,x,QP _ hx,h⟩)
 | come h2 hr0 ih=>
  intro y hy
  rcases Qi.1 hy with hy | hy
  .exact .inr (.inl ⟨_,Q4,h2,hy⟩)
  .rcases ih y hy with h | ⟨o,ho,h⟩ | ⟨o,ho,hk,x,hx,h⟩
   .exact .inl h
   .exact .inr (.inl ⟨o,Q0 _ ho,h⟩)
   .exact .inr (.inr ⟨o,Q0 _ ho,hk,x,hx,h⟩)
 | into h3 he hr0 ih=>
  intro y hy
  rcases Q6.1 hy with rfl | hy
  .exact .inr (.inr ⟨_,Q4,h3,_,Q4,he⟩)
  .rcases ih y hy with h | ⟨o,ho,h⟩ | ⟨o,ho,hk,x,hx,h⟩
   .exact .inl (Q0 _ h)
   .exact .inr (.inl ⟨o,Q0 _ ho,h⟩)
   .exact .inr (.inr ⟨o,Q0 _ ho,hk,x,Q0 _ hx,h⟩)
theorem Zxm{y:Tree}(h:y.kind≠10):Z0r 1 y=true:=by
 unfold Z0r
 rw [if_neg V2,if_neg V2]
 exact decide_eq_true h
theorem Z6Z{list d:Int}{os:List Op}(h:Zt list os d=true):∀ o∈os,YV o:=fun o ho=> Z6M (rightOs_mem h ho)
theorem Z1L{o:Op}(h:YV o):0<=Z5 o:=by have:=Jq h;omega
theorem Z4q{e:Edit}{d:Int}{t u:Tree}(hr:Z0 e d=true)(h:doE false e t=some u):(e.kind=1->u=e.new)/\(e.kind=2->u.kind=1/\t.kind=1)/\(e.kind=3->u.kind=e.list/\t.kind=e.list)/\(e.kind=0->u=t):=by
 rw [JO,Ye] at h
 refine ⟨fun hk=> ?_,fun hk=> ?_,fun hk=> ?_,fun hk=> ?_⟩
 .rw [JI,if_pos hk] at h
  split at h
  .exact (Option.some.inj h).symm
  .cases h
 .rw [JI,JI,if_pos hk] at h
  split at h
  .rename_i ht
   obtain ⟨a,ha,h⟩:=Ql.1 h
   obtain ⟨b,hb,rfl⟩:=Qb.1 h
   exact ⟨rfl,ht⟩
  .cases h
 .rw [JI,JI,JI,if_pos hk] at h
  split at h
  .rename_i ht
   obtain ⟨b,hb,rfl⟩:=Qb.1 h
   exact ⟨rfl,ht⟩
  .cases h
 .rw [if_pos hk] at h
  exact (Option.some.inj h).symm
theorem Z3O:∀ (n:Nat) (e:Edit) (d:Int) (t u:Tree),Zd e<=n->Z0 e d=true->Z9 t (-1)=true->doE false e t=some u->Z9 u (-1)=true/\(e.kind≠0->u.kind≠10):=by
 intro n
 induction n with
 | zero=> intro e d t u hm;obtain ⟨k,o,nw,w,ks,l,os⟩:=e;simp only [Zd] at hm;omega
 | succ n ih=>
  intro e d t u hm hr ht h
  have R:=Zs hr
  obtain ⟨k1,k2,k3,k0⟩:=Z4q hr h
  have hk:=R.kind
  by_cases h0:e.kind=0
  .rw [k0 h0];exact ⟨ht,fun q=> absurd h0 q⟩
  by_cases h1:e.kind=1
  .rw [k1 h1]
   obtain ⟨r1,r2,r3,r4⟩:=R.rep h1
   exact ⟨JE _ _ _ V2 r2,fun _=> r4⟩
  by_cases h2:e.kind=2
  .obtain ⟨u1,t1⟩:=k2 h2
   refine ⟨?_,fun _=> by omega⟩
   rw [JO,Ye,if_neg h0,if_neg h1,if_pos h2,if_pos t1] at h
   obtain ⟨a,ha,h⟩:=Ql.1 h
   obtain ⟨b,hb,rfl⟩:=Qb.1 h
   obtain ⟨p1,_,p3⟩:=Z50 ht V0 V0
   have p1:=p1 t1
   rw [t1] at p3
   have hl:=Zf0 R.words ha
   have ha':=ZP R.kids
   obtain ⟨m1,m2⟩:=Zi6 hb fun k hk=> (ha' k hk).1.2.1
   refine Zfm V0 V0 fun y hy=> ?_
   rcases m2 y hy with h | rfl | ⟨k,hk,h⟩
   .exact p3 y h
   .exact ⟨rfl,rfl⟩
   .have hx:Z9 (t.kids.getD k.at_.toNat Tree.nil) (-1)=true:=by
     by_cases hi:k.at_.toNat < t.kids.length
     .rw [Qd,Q2 hi]
      exact (p3 _ (Xx hi)).2
     .rw [Qd,Qq V0];try rfl
    obtain ⟨g1,g2⟩:=ih k.e _ _ y (by have:=Z19 hk;omega) (ha' k hk).2 hx h
    exact ⟨Zxm (g2 (ha' k hk).1.2.2),g1⟩
  .have h3:e.kind=3:=V0
   obtain ⟨u1,t1⟩:=k3 h3
   have hli:=R.list h3
   refine ⟨?_,fun _=> by omega⟩
   rw [JO,Ye,if_neg h0,if_neg h1,if_neg h2,if_pos h3,if_pos t1] at h
   obtain ⟨b,hb,rfl⟩:=Qb.1 h
   have ho:∀ o∈e.ops,Zc e.list o (d - 1)=true:=fun o h=> rightOs_mem R.ops h
   have hrun:=(Z61 (fun o h=> ZmS (ho o h))).1 hb
   obtain ⟨_,q2⟩:=ZsC hrun (Z6Z R.ops)
   obtain ⟨q3,q4⟩:=Z3v e.ops 0 (fun o h=> Z1L (Z6Z R.ops o h)) V2 V2
   have q5:=R.len.2
   obtain ⟨_,_,p3⟩:=Z50 ht V0 V0
   rw [t1] at p3
   refine Zch hli V0 fun y hy=> ?_
   rcases ZsB hrun y hy with h | ⟨o,hoo,hk2,hyl⟩ | ⟨o,hoo,hk3,x,hx,h⟩
   .exact p3 y h
   .have:=ZT (ho o hoo)
    cases this with
    | come l h1 h2=> exact Jh hli h1 y hyl
    | keep | gone | into=> exact absurd hk2 (by simp)
   .have:=ZT (ho o hoo)
    cases this with
    | into e' g1 g2 g3 g4=>
     obtain ⟨f1,f2⟩:=ih e' _ x y (by have:=Z2g hoo;dsimp only at this;omega) g1 (p3 x hx).2 h
     refine ⟨?_,f1⟩
     obtain ⟨j1,j2,_,_⟩:=Z4q g1 h
     unfold Z0r
     rw [JI]
     by_cases hl9:e.list=9
     .rw [if_pos hl9]
      refine decide_eq_true ?_
      rcases g4 with q | q | q
      .omega
      .exact (j2 q).1
      .rw [j1 q.1];exact q.2.2
     .rw [if_neg hl9]
      exact decide_eq_true (f2 g2)
    | keep | gone | come=> exact absurd hk3 (by simp)
theorem Jo{o:Op}{r:List Op}{s d:List Tree}(h0:o.kind=0):Run (o ::r) s d↔∃ a s' d',s=a++s'/\d=a++d'/\(a.length:Int)=o.n/\Run r s' d':=by
 constructor
 .intro h
  cases h with
  | keep _ h2 h3=> exact ⟨_,_,_,rfl,rfl,h2,h3⟩
  | gone h1=> omega
  | come h1=> omega
  | into h1=> omega
 .rintro ⟨a,s',d',rfl,rfl,h2,h3⟩
  exact .keep h0 h2 h3
theorem Yc{o:Op}{r:List Op}{s d:List Tree}(h0:o.kind=1):Run (o ::r) s d↔∃ a s',s=a++s'/\Z7 o.l=Z7 a/\Run r s' d:=by
 constructor
 .intro h
  cases h with
  | gone _ h2 h3=> exact ⟨_,_,rfl,h2,h3⟩
  | keep h1=> omega
  | come h1=> omega
  | into h1=> omega
 .rintro ⟨a,s',rfl,h2,h3⟩
  exact .gone h0 h2 h3
theorem Yd{o:Op}{r:List Op}{s d:List Tree}(h0:o.kind=2):Run (o ::r) s d↔∃ d',d=o.l++d'/\Run r s d':=by
 constructor
 .intro h
  cases h with
  | come _ h3=> exact ⟨_,rfl,h3⟩
  | keep h1=> omega
  | gone h1=> omega
  | into h1=> omega
 .rintro ⟨d',rfl,h3⟩
  exact .come h0 h3
theorem JW{o:Op}{r:List Op}{s d:List Tree}(h0:o.kind=3):Run (o ::r) s d↔∃ x s' y d',s=x ::s'/\d=y ::d'/\doE false o.e x=some y/\Run r s' d':=by
 constructor
 .intro h
  cases h with
  | into _ h2 h3=> exact ⟨_,_,_,_,rfl,rfl,h2,h3⟩
  | keep h1=> omega
  | gone h1=> omega
  | come h1=> omega
 .rintro ⟨x,s',y,d',rfl,rfl,h2,h3⟩
  exact .into h0 h2 h3
theorem Z5M{o:Op}{p r:List Op}(h:∀ s d,Run p s d↔Run r s d)(hk:kOk o)(s d:List Tree):Run (o ::p) s d↔Run (o ::r) s d:=by
 rcases hk with h0 | h1 | h2 | h3
 .rw [Jo h0.1,Jo h0.1];simp only [h]
 .rw [Yc h1,Yc h1];simp only [h]
 .rw [Yd h2,Yd h2];simp only [h]
 .rw [JW h3,JW h3];simp only [h]
theorem Ys{o:Op}(h:YV o):kOk o:=by
 rcases h with h | h | h
 .exact .inl ⟨h.1,V0⟩
 .rcases h.1 with h1 | h1
  .exact .inr (.inl h1)
  .exact .inr (.inr (.inl h1))
 .exact .inr (.inr (.inr h.1))
theorem Z7S{o:Op}(h:YV o)(h0:o.kind=0):Z5 o=o.n:=by
 rcases h with h | h | h
 .unfold Z5;rw [JI,h.2.1];simp
 .omega
 .omega
theorem YK{o:Op}(h:YV o)(h0:o.kind=1\/o.kind=2):Z5 o=o.l.length:=by
 rcases h with h | h | h
 .omega
 .unfold Z5;rw [JI,h.2.1];omega
 .omega
theorem Z0w{o:Op}(h0:o.kind=3):Z5 o=1:=by unfold Z5;rw [if_pos h0]
theorem Zfi{o:Op}{r:List Op}{s m:List Tree}(ho:YV o)(hk:o.kind≠1)(h:Run (o ::r) s m):∃ m1 s' m',m=m1++m'/\(m1.length:Int)=Z5 o/\Run r s' m':=by
 rcases Ys ho with h0 | h1 | h2 | h3
 .obtain ⟨a,s',d',_,rfl,hl,hr⟩:=(Jo h0.1).1 h
  exact ⟨a,s',d',rfl,by rw [Z7S ho h0.1];exact hl,hr⟩
 .exact absurd h1 hk
 .obtain ⟨d',rfl,hr⟩:=(Yd h2).1 h
  exact ⟨o.l,s,d',rfl,by rw [YK ho (.inr h2)],hr⟩
 .obtain ⟨x,s',y,d',_,rfl,_,hr⟩:=(JW h3).1 h
  exact ⟨[y],s',d',rfl,by rw [Z0w h3];rfl,hr⟩
theorem ZiO{o:Op}{r:List Op}{m d:List Tree}(ho:YV o)(hk:o.kind≠2)(h:Run (o ::r) m d):∃ m1 m' d',m=m1++m'/\(m1.length:Int)=Z5 o/\Run r m' d':=by
 rcases Ys ho with h0 | h1 | h2 | h3
 .obtain ⟨a,s',d',rfl,_,hl,hr⟩:=(Jo h0.1).1 h
  exact ⟨a,s',d',rfl,by rw [Z7S ho h0.1];exact hl,hr⟩
 .obtain ⟨a,s',rfl,hn,hr⟩:=(Yc h1).1 h
  exact ⟨a,s',d,rfl,by rw [YK ho (.inl h1),Z1V hn],hr⟩
 .exact absurd h2 hk
 .obtain ⟨x,s',y,d',rfl,_,_,hr⟩:=(JW h3).1 h
  exact ⟨[x],s',d',rfl,by rw [Z0w h3];rfl,hr⟩
theorem Zm7{o:Op}{r:List Op}{n:Int}(ho:YV o)(h1:1<=n)(hn:¬Z5 o<=n)(s d:List Tree):Run (o ::r) s d↔Run (ZO o n ::Z07 o n ::r) s d:=by
 unfold ZO Z07
 rw [if_neg hn]
 rcases Ys ho with h0 | hg | hc | hi
 .have hl:=Z7S ho h0.1
  rw [if_pos h0.1,if_pos h0.1,Jo h0.1,Jo (o:=⟨o.kind,n,o.l,o.e⟩) h0.1]
  constructor
  .rintro ⟨a,s',d',rfl,rfl,ha,hr⟩
   refine ⟨a.take n.toNat,a.drop n.toNat++s',a.drop n.toNat++d',by rw [<-Qa,Qv],by rw [<-Qa,Qv],by rw [Qj];dsimp only;omega,?_⟩
   exact (Jo (o:=⟨o.kind,o.n - n,o.l,o.e⟩) h0.1).2 ⟨a.drop n.toNat,s',d',rfl,rfl,by rw [QI];dsimp only;omega,hr⟩
  .rintro ⟨a,s',d',rfl,rfl,ha,hr⟩
   obtain ⟨b,s2,d2,rfl,rfl,hb,hr2⟩:=(Jo (o:=⟨o.kind,o.n - n,o.l,o.e⟩) h0.1).1 hr
   dsimp only at ha hb
   exact ⟨a++b,s2,d2,by rw [Qa],by rw [Qa],by rw [Qh];omega,hr2⟩
 .have hl:=YK ho (.inl hg)
  rw [JI,JI,Yc hg,Yc (o:=⟨o.kind,o.n,o.l.take n.toNat,o.e⟩) hg]
  constructor
  .rintro ⟨a,s',rfl,ha,hr⟩
   have hla:=Z1V ha
   refine ⟨a.take n.toNat,a.drop n.toNat++s',by rw [<-Qa,Qv],EqvL.take ha _,?_⟩
   exact (Yc (o:=⟨o.kind,o.n,o.l.drop n.toNat,o.e⟩) hg).2 ⟨a.drop n.toNat,s',rfl,EqvL.drop ha _,hr⟩
  .rintro ⟨a,s',rfl,ha,hr⟩
   obtain ⟨b,s2,rfl,hb,hr2⟩:=(Yc (o:=⟨o.kind,o.n,o.l.drop n.toNat,o.e⟩) hg).1 hr
   refine ⟨a++b,s2,by rw [Qa],?_,hr2⟩
   have:=JF ha hb
   rwa [Qv] at this
 .rw [JI,JI,Yd hc,Yd (o:=⟨o.kind,o.n,o.l.take n.toNat,o.e⟩) hc]
  constructor
  .rintro ⟨d',rfl,hr⟩
   refine ⟨o.l.drop n.toNat++d',by rw [<-Qa,Qv],?_⟩
   exact (Yd (o:=⟨o.kind,o.n,o.l.drop n.toNat,o.e⟩) hc).2 ⟨d',rfl,hr⟩
  .rintro ⟨d',rfl,hr⟩
   obtain ⟨d2,rfl,hr2⟩:=(Yd (o:=⟨o.kind,o.n,o.l.drop n.toNat,o.e⟩) hc).1 hr
   exact ⟨d2,by rw [<-Qa,Qv],hr2⟩
 .rw [Z0w hi] at hn
  omega
def Z2A:List Piece->List Op
 | []=> []
 | x ::r=> (if x.of=2 then [] else [x.p])++Z2A r
def Z2z:List Piece->List Op
 | []=> []
 | x ::r=> (if x.of=1 then [] else [x.q])++Z2z r
def Part(l:List Op)(o:Op):Prop:=∃ o'∈l,o.kind=o'.kind/\o.e=o'.e/\ZA o<=ZA o'/\∀ t∈o.l,t∈o'.l
structure POk (p q:List Op) (x:Piece):Prop where
 of:x.of=0\/x.of=1\/x.of=2
 pp:x.of≠2->Part p x.p/\YV x.p
 qq:x.of≠1->Part q x.q/\YV x.q
 one:x.of=1->x.p.kind=1
 two:x.of=2->x.q.kind=2
 both:x.of=0->x.p.kind≠1/\x.q.kind≠2/\Z5 x.p=Z5 x.q
 pn:x.of=2->x.p=Op.nil
 qn:x.of=1->x.q=Op.nil
theorem Part.mono{l l':List Op}{o:Op}(h:Part l o)(hl:∀ x∈l,Part l' x):Part l' o:=by
 obtain ⟨o',h1,h2,h3,h5,h4⟩:=h
 obtain ⟨o2,g1,g2,g3,g5,g4⟩:=hl o' h1
 exact ⟨o2,g1,h2.trans g2,h3.trans g3,X5 h5 g5,fun t ht=> g4 t (h4 t ht)⟩
theorem Part.self{l:List Op}{o:Op}(h:o∈l):Part l o:=⟨o,h,rfl,rfl,Qm _,fun _ h=> h⟩
theorem POk.mono{p q p' q':List Op}{x:Piece}(h:POk p q x)(hp:∀ x∈p,Part p' x)(hq:∀ x∈q,Part q' x):POk p' q' x:=
 ⟨h.of,fun e=> ⟨(h.pp e).1.mono hp,(h.pp e).2⟩,fun e=> ⟨(h.qq e).1.mono hq,(h.qq e).2⟩,h.one,h.two,h.both,h.pn,h.qn⟩
theorem Zgu{o:Op}{r:List Op}{n:Int}(h:∀ x∈o ::r,YV x)(h1:1<=n)(hn:n<=Z5 o):
  YV (ZO o n)/\Z5 (ZO o n)=n/\(ZO o n).kind=o.kind/\Part (o ::r) (ZO o n)/\(∀ x∈Y8 (o ::r) n,YV x/\Part (o ::r) x)/\∀ s d,Run (o ::r) s d↔Run (ZO o n ::Y8 (o ::r) n) s d:=by
 have ho:=h o Q4
 have hr:∀ x∈r,YV x/\Part (o ::r) x:=fun x hx=> ⟨h x (Q0 _ hx),Part.self (Q0 _ hx)⟩
 unfold Y8
 simp only [Qt,QQ,QV]
 by_cases hl:Z5 o<=n
 .rw [if_pos hl]
  have e:ZO o n=o:=by unfold ZO;rw [if_pos hl]
  rw [e]
  exact ⟨ho,V0,rfl,Part.self Q4,hr,fun s d=> Qz⟩
 .rw [if_neg hl]
  obtain ⟨_,v2,v3,v4⟩:=Z7i (a:=1) ho h1 hl
  obtain ⟨b1,b2⟩:=Zdk ho h1 hl
  refine ⟨v2,v3,Z41 o n,?_,?_,Zm7 ho h1 hl⟩
  .refine ⟨o,Q4,Z41 o n,?_,v4,?_⟩
   .unfold ZO;split;rfl;split <;> rfl
   .intro t ht
    unfold ZO at ht
    split at ht
    .exact ht
    .split at ht
     .exact ht
     .exact X9 ht
  .intro x hx
   rcases Q6.1 hx with rfl | hx
   .refine ⟨b1,o,Q4,?_,?_,b2,?_⟩
    .unfold Z07;split <;> rfl
    .unfold Z07;split <;> rfl
    .intro t ht
     unfold Z07 at ht
     split at ht
     .exact ht
     .exact QZ ht
   .exact hr x hx
theorem ZH{d:List Tree}{s:List Tree}(h:Run [] s d):s=[]/\d=[]:=by cases h;exact ⟨rfl,rfl⟩
theorem Z7O:∀ (k:Nat) (p q:List Op) (out:List Piece),p.length+q.length<=k->(∀ o∈p,YV o)->(∀ o∈q,YV o)->
  ((Yo 1 2 p q out).2.1=true->∃ ps,(Yo 1 2 p q out).1=out++ps/\(∀ x∈ps,POk p q x)/\(∀ s m,Run p s m↔Run (Z2A ps) s m)/\∀ m d,Run q m d↔Run (Z2z ps) m d)/\
  ((Yo 1 2 p q out).2.1=false->∀ s m d,Run p s m->Run q m d->False):=by
 intro k
 induction k with
 | zero=>
  intro p q out hk hp hq
  have e1:p=[]:=Q3 V0
  have e2:q=[]:=Q3 V0
  subst e1 e2
  have e:Yo 1 2 [] [] out=(out,true,[],[]):=by
   rw [Yo,dif_neg (by simp [sgl]),dif_neg (by simp [sgl]),dif_pos (by simp)]
   try rfl
  rw [e]
  exact ⟨fun _=> ⟨[],by simp,fun x hx=> (by cases hx),fun s m=> Qz,fun m d=> Qz⟩,fun h=> by cases h⟩
 | succ k ih=>
  intro p q out hk hp hq
  rw [Yo]
  by_cases h1:sgl 1 p=true
  .rw [dif_pos h1]
   obtain ⟨g1,g2⟩:=Z2B.1 h1
   cases p with
   | nil=> exact absurd rfl g1
   | cons a p'=>
    simp only [Qt] at g2
    simp only [Qt,QQ,QV]
    have ha:=hp a Q4
    obtain ⟨i1,i2⟩:=ih p' q (out++[⟨1,a,Op.nil⟩]) (by simp only [Q7] at hk;omega) (fun o ho=> hp o (Q0 _ ho)) hq
    refine ⟨fun h=> ?_,fun h s m d r1 r2=> ?_⟩
    .obtain ⟨ps,e,hps,hP,hQ⟩:=i1 h
     refine ⟨⟨1,a,Op.nil⟩ ::ps,by rw [e,Qa];rfl,fun x hx=> ?_,fun s m=> ?_,fun m d=> ?_⟩
     .rcases Q6.1 hx with rfl | hx
      .exact ⟨.inr (.inl rfl),fun _=> ⟨Part.self Q4,ha⟩,fun e=> absurd rfl e,fun _=> g2,fun e=> (by cases e),fun e=> (by cases e),fun e=> (by cases e),fun _=> rfl⟩
      .exact (hps x hx).mono (fun x hx=> Part.self (Q0 _ hx)) (fun x hx=> Part.self hx)
     .show _↔Run (a ::Z2A ps) s m
      exact Z5M hP (Ys ha) s m
     .exact hQ m d
    .obtain ⟨b,s',_,_,hr⟩:=(Yc g2).1 r1
     exact i2 h s' m d hr r2
  .rw [dif_neg h1]
   by_cases h2:sgl 2 q=true
   .rw [dif_pos h2]
    obtain ⟨g1,g2⟩:=Z2B.1 h2
    cases q with
    | nil=> exact absurd rfl g1
    | cons a q'=>
     simp only [Qt] at g2
     simp only [Qt,QQ,QV]
     have ha:=hq a Q4
     obtain ⟨i1,i2⟩:=ih p q' (out++[⟨2,Op.nil,a⟩]) (by simp only [Q7] at hk;omega) hp (fun o ho=> hq o (Q0 _ ho))
     refine ⟨fun h=> ?_,fun h s m d r1 r2=> ?_⟩
     .obtain ⟨ps,e,hps,hP,hQ⟩:=i1 h
      refine ⟨⟨2,Op.nil,a⟩ ::ps,by rw [e,Qa];rfl,fun x hx=> ?_,fun s m=> ?_,fun m d=> ?_⟩
      .rcases Q6.1 hx with rfl | hx
       .exact ⟨.inr (.inr rfl),fun e=> absurd rfl e,fun _=> ⟨Part.self Q4,ha⟩,fun e=> (by cases e),fun _=> g2,fun e=> (by cases e),fun _=> rfl,fun e=> (by cases e)⟩
       .exact (hps x hx).mono (fun x hx=> Part.self hx) (fun x hx=> Part.self (Q0 _ hx))
      .exact hP s m
      .show _↔Run (a ::Z2z ps) m d
       exact Z5M hQ (Ys ha) m d
     .obtain ⟨d',_,hr⟩:=(Yd g2).1 r2
      exact i2 h s m d' r1 hr
   .rw [dif_neg h2]
    by_cases h3:p.length=0\/q.length=0
    .rw [dif_pos h3]
     by_cases h4:p.length=0
     .have e1:p=[]:=Q3 h4
      subst e1
      by_cases h5:q.length=0
      .have e2:q=[]:=Q3 h5
       subst e2
       rw [if_pos rfl]
       exact ⟨fun _=> ⟨[],by simp,fun x hx=> (by cases hx),fun s m=> Qz,fun m d=> Qz⟩,fun h=> by cases h⟩
      .rw [if_neg (by rw [decide_eq_false h5];decide)]
       refine ⟨fun h=> (by cases h),fun _ s m d r1 r2=> ?_⟩
       cases q with
       | nil=> exact h5 rfl
       | cons a q'=>
        have ha:=hq a Q4
        obtain ⟨_,rfl⟩:=ZH r1
        obtain ⟨m1,m',d',e,hl,_⟩:=ZiO ha (fun e=> h2 (Z2B.2 ⟨by simp,by simpa using e⟩)) r2
        have:=Jq ha
        have e:=congrArg List.length e
        simp at e
        omega
     .have h5:q.length=0:=V0
      have e2:q=[]:=Q3 h5
      subst e2
      rw [if_neg (by rw [decide_eq_false h4];decide)]
      refine ⟨fun h=> (by cases h),fun _ s m d r1 r2=> ?_⟩
      cases p with
      | nil=> exact h4 rfl
      | cons a p'=>
       have ha:=hp a Q4
       obtain ⟨rfl,_⟩:=ZH r2
       obtain ⟨m1,s',m',e,hl,_⟩:=Zfi ha (fun e=> h1 (Z2B.2 ⟨by simp,by simpa using e⟩)) r1
       have:=Jq ha
       have e:=congrArg List.length e
       simp at e
       omega
    .rw [dif_neg h3]
     cases p with
     | nil=> simp at h3
     | cons a p'=>
      cases q with
      | nil=> simp at h3
      | cons b q'=>
       have ha:=hp a Q4
       have hb:=hq b Q4
       have ka:a.kind≠1:=fun e=> h1 (Z2B.2 ⟨by simp,by simpa using e⟩)
       have kb:b.kind≠2:=fun e=> h2 (Z2B.2 ⟨by simp,by simpa using e⟩)
       have la:=Jq ha
       have lb:=Jq hb
       simp only [Qt]
       generalize hn:min (Z5 a) (Z5 b)=n
       have hn1:1<=n:=V0
       have hna:n<=Z5 a:=V0
       have hnb:n<=Z5 b:=V0
       obtain ⟨a1,a2,a3,a4,a5,a6⟩:=Zgu hp hn1 hna
       obtain ⟨b1,b2,b3,b4,b5,b6⟩:=Zgu hq hn1 hnb
       have hlt:(Y8 (a ::p') n).length+(Y8 (b ::q') n).length<=k:=by
        have x1:=J7 (a ::p') n (by simp)
        have x2:=J7 (b ::q') n (by simp)
        simp only [Q7] at hk x1 x2
        rcases Int.le_total (Z5 a) (Z5 b) with h | h
        .have:=J6 (a ::p') n (by simp) (by simp only [Qt];omega)
         simp only [Q7] at this
         omega
        .have:=J6 (b ::q') n (by simp) (by simp only [Qt];omega)
         simp only [Q7] at this
         omega
       obtain ⟨i1,i2⟩:=ih (Y8 (a ::p') n) (Y8 (b ::q') n) (out++[⟨0,ZO a n,ZO b n⟩]) hlt (fun o ho=> (a5 o ho).1) (fun o ho=> (b5 o ho).1)
       refine ⟨fun h=> ?_,fun h s m d r1 r2=> ?_⟩
       .obtain ⟨ps,e,hps,hP,hQ⟩:=i1 h
        refine ⟨⟨0,ZO a n,ZO b n⟩ ::ps,by rw [e,Qa];rfl,fun x hx=> ?_,fun s m=> ?_,fun m d=> ?_⟩
        .rcases Q6.1 hx with rfl | hx
         .exact ⟨.inl rfl,fun _=> ⟨a4,a1⟩,fun _=> ⟨b4,b1⟩,fun e=> (by cases e),fun e=> (by cases e),fun _=> ⟨V3,V3,V3⟩,fun e=> (by cases e),fun e=> (by cases e)⟩
         .exact (hps x hx).mono (fun x hx=> (a5 x hx).2) (fun x hx=> (b5 x hx).2)
        .rw [a6 s m]
         exact Z5M hP (Ys a1) s m
        .rw [b6 m d]
         exact Z5M hQ (Ys b1) m d
       .rw [a6] at r1
        rw [b6] at r2
        obtain ⟨m1,s',m',e,hl,r3⟩:=Zfi a1 V0 r1
        obtain ⟨m2,m3,d',e',hl',r4⟩:=ZiO b1 V0 r2
        obtain ⟨_,e2⟩:=Ke (e.symm.trans e') V0
        subst e2
        exact i2 h s' m' d' r3 r4
theorem Zgo{e:Edit}{d:Int}{x y l:Tree}(hr:Z0 e d=true)(he:ZK e)(hx:RT_ x)(hl:RT_ l)(h:doE false e x=some y)(hy:Eqv y l):∃ z,doE false (ZE (Zq e)) l=some z/\Eqv z x:=by
 obtain ⟨v,hv,hvx⟩:=Z7k e d x y hr he hx h
 have h1:=Z2O (Zq e) d y l (Yn e d hr) hy
 have h2:=Z70 (Zq e) d l (Yn e d hr) hl
 rw [hv] at h1
 cases hw:doE false (Zq e) l with
 | none=> rw [hw] at h1;exact h1.elim
 | some w=>
  rw [hw] at h1 h2
  cases hz:doE false (ZE (Zq e)) l with
  | none=> rw [hz] at h2;exact h2.elim
  | some z=>
   rw [hz] at h2
   have h1:Eqv v w:=h1
   have h2:Eqv z w:=h2
   exact ⟨z,rfl,h2.trans (h1.symm.trans hvx)⟩
theorem Zgp{e:Edit}{d:Int}{x z l:Tree}(hr:Z0 e d=true)(he:ZK e)(hl:RT_ l)(h:doE false (ZE (Zq e)) l=some z)(hz:Eqv z x):∃ y,doE false e x=some y/\Eqv y l:=by
 have h2:=Z70 (Zq e) d l (Yn e d hr) hl
 rw [h] at h2
 cases hw:doE false (Zq e) l with
 | none=> rw [hw] at h2;exact h2.elim
 | some w=>
  rw [hw] at h2
  have h2:Eqv z w:=h2
  obtain ⟨v,hv,hvl⟩:=Z7k (Zq e) d l w (Yn e d hr) (Z3g e he) hl hw
  rw [Z90] at hv
  have h1:=Z2O e d w x hr (h2.symm.trans hz)
  rw [hv] at h1
  cases hy:doE false e x with
  | none=> rw [hy] at h1;exact h1.elim
  | some y=>
   rw [hy] at h1
   have h1:Eqv v y:=h1
   exact ⟨y,rfl,h1.symm.trans hvl⟩
structure ComOk (c:Edit × Bool) (p q:Edit):Prop where
 fwd:∀ {t w},RT_ t->c.2=true->doE false c.1 t=some w->∃ u v,doE false p t=some u/\doE false q u=some v/\Eqv w v
 bwd:∀ {t u v},RT_ t->doE false p t=some u->doE false q u=some v->c.2=true/\∃ w,doE false c.1 t=some w/\Eqv w v
def ROp(o:Op):Prop:=(o.kind=3->(∃ d,Z0 o.e d=true)/\ZK o.e)/\∀ t∈o.l,RT_ t
theorem Zcd{o:Op}{r:List Op}{s d:List Tree}(hk:kOk o):Run (o ::r) s d↔∃ s1 s2 d1 d2,s=s1++s2/\d=d1++d2/\Run [o] s1 d1/\Run r s2 d2:=by
 constructor
 .intro h
  rcases hk with h0 | h1 | h2 | h3
  .obtain ⟨a,s',d',rfl,rfl,hl,hr⟩:=(Jo h0.1).1 h
   exact ⟨a,s',a,d',rfl,rfl,(Jo h0.1).2 ⟨a,[],[],by simp,by simp,hl,.nil⟩,hr⟩
  .obtain ⟨a,s',rfl,hl,hr⟩:=(Yc h1).1 h
   exact ⟨a,s',[],d,rfl,rfl,(Yc h1).2 ⟨a,[],by simp,hl,.nil⟩,hr⟩
  .obtain ⟨d',rfl,hr⟩:=(Yd h2).1 h
   exact ⟨[],s,o.l,d',rfl,rfl,(Yd h2).2 ⟨[],by simp,.nil⟩,hr⟩
  .obtain ⟨x,s',y,d',rfl,rfl,he,hr⟩:=(JW h3).1 h
   exact ⟨[x],s',[y],d',rfl,rfl,.into h3 he .nil,hr⟩
 .rintro ⟨s1,s2,d1,d2,rfl,rfl,h1,h2⟩
  rcases hk with h0 | hg | hc | h3
  .obtain ⟨a,s',d',rfl,rfl,hl,hr⟩:=(Jo h0.1).1 h1
   obtain ⟨rfl,rfl⟩:=ZH hr
   rw [Qp]
   exact .keep h0.1 hl h2
  .obtain ⟨a,s',rfl,hl,hr⟩:=(Yc hg).1 h1
   obtain ⟨rfl,rfl⟩:=ZH hr
   rw [Qp]
   exact .gone hg hl h2
  .obtain ⟨d',rfl,hr⟩:=(Yd hc).1 h1
   obtain ⟨rfl,rfl⟩:=ZH hr
   rw [Qp]
   exact .come hc h2
  .obtain ⟨x,s',y,d',rfl,rfl,he,hr⟩:=(JW h3).1 h1
   obtain ⟨rfl,rfl⟩:=ZH hr
   exact .into h3 he h2
theorem Zaa{o:Op}{s d:List Tree}(ho:YV o)(hk:o.kind≠1)(h:Run [o] s d):(d.length:Int)=Z5 o:=by
 obtain ⟨m1,s',m',rfl,hl,hr⟩:=Zfi ho hk h
 obtain ⟨_,rfl⟩:=ZH hr
 simpa using hl
theorem Zcc{o:Op}{s d:List Tree}(ho:YV o)(hk:o.kind≠2)(h:Run [o] s d):(s.length:Int)=Z5 o:=by
 obtain ⟨m1,s',m',rfl,hl,hr⟩:=ZiO ho hk h
 obtain ⟨rfl,_⟩:=ZH hr
 simpa using hl
theorem Z7t{o:Op}{s:List Tree}(h0:o.kind=0)(hl:(s.length:Int)=o.n):Run [o] s s:=
 (Jo h0).2 ⟨s,[],[],by simp,by simp,hl,.nil⟩
theorem Z6d{o:Op}{s d:List Tree}(h0:o.kind=0)(h:Run [o] s d):d=s:=by
 obtain ⟨a,s',d',rfl,rfl,hl,hr⟩:=(Jo h0).1 h
 obtain ⟨rfl,rfl⟩:=ZH hr
 try rfl
theorem Z2a{l:List Tree}(h:(l.length:Int)=1):l=[l.getD 0 Tree.nil]:=by
 match l,h with
 | [a],_=> rfl
 | [],h=> simp at h
 | a ::b ::r,h=> simp only [Q7] at h;omega
theorem Zi3{a b c d:List Tree}(h:EqvL a b)(h':EqvL c d):EqvL (a++c) (b++d):=JF h h'
theorem Zmj {f:Edit->Edit->Edit × Bool} {p0 q0:List Op} {x:Piece} (hx:POk p0 q0 x) (hp:x.of≠2->ROp x.p) (hq:x.of≠1->ROp x.q) (hf:x.p.kind=3->x.q.kind=3->x.of=0->ComOk (f x.p.e x.q.e) x.p.e x.q.e)
  {s w:List Tree} (hs:∀ t∈s,RT_ t) (hok:(ZI f x).ok=true) (hr:Run (if (ZI f x).is then [(ZI f x).op] else []) s w):
  ∃ m d,Run (if x.of=2 then [] else [x.p]) s m/\Run (if x.of=1 then [] else [x.q]) m d/\EqvL w d:=by
 rcases hx.of with h0 | h1 | h2
 .obtain ⟨pk,qk,hl⟩:=hx.both h0
  obtain ⟨_,op⟩:=hx.pp V0
  obtain ⟨_,oq⟩:=hx.qq V0
  have rp:=hp V0
  have rq:=hq V0
  rw [JI,JI]
  by_cases kq0:x.q.kind=0
  .have e:ZI f x=⟨x.p,true,true⟩:=by unfold ZI;rw [if_pos (.inr ⟨h0,kq0⟩)]
   rw [e] at hr
   exact ⟨w,w,hr,Z7t kq0 (by rw [Zaa op pk hr,hl,Z7S oq kq0]),rfl⟩
  by_cases kp0:x.p.kind=0
  .have e:ZI f x=⟨x.q,true,true⟩:=by unfold ZI;rw [JI,if_pos (.inr kp0)]
   rw [e] at hr
   exact ⟨s,w,Z7t kp0 (by rw [Zcc oq qk hr,<-hl,Z7S op kp0]),hr,rfl⟩
  by_cases k21:x.p.kind=2/\x.q.kind=1
  .have lp:=YK op (.inr k21.1)
   have lq:=YK oq (.inl k21.2)
   have e:ZI f x=⟨Op.nil,false,ZfW x.p.l (x.q.l.take x.p.l.length)⟩:=by unfold ZI;rw [JI,JI,if_pos k21]
   rw [e] at hr hok
   obtain ⟨rfl,rfl⟩:=ZH hr
   have hok:ZfW x.p.l (x.q.l.take x.p.l.length)=true:=hok
   unfold ZfW at hok
   rw [Z1f,Qr V0] at hok
   exact ⟨x.p.l,[],(Yd k21.1).2 ⟨[],by simp,.nil⟩,(Yc k21.2).2 ⟨x.p.l,[],by simp,hok.symm,.nil⟩,rfl⟩
  by_cases kp2:x.p.kind=2
  .have kq3:x.q.kind=3:=by rcases Ys oq with h | h | h | h <;> omega
   have lp:=YK op (.inr kp2)
   rw [hl,Z0w kq3] at lp
   have e:ZI f x=⟨⟨2,0,[(doB x.q.e (x.p.l.getD 0 Tree.nil)).1],Edit.nil⟩,true,(doB x.q.e (x.p.l.getD 0 Tree.nil)).2⟩:=by unfold ZI;rw [JI,JI,if_neg k21,if_pos kp2]
   rw [e] at hr hok
   have hp1:=Z2a lp.symm
   cases hy:doE false x.q.e (x.p.l.getD 0 Tree.nil) with
   | none=> unfold doB at hok;rw [hy] at hok;cases hok
   | some y=>
    have e2:(doB x.q.e (x.p.l.getD 0 Tree.nil)).1=Z1 y:=by unfold doB;rw [hy];try rfl
    rw [e2] at hr
    obtain ⟨d',rfl,hr'⟩:=(Yd (o:=⟨2,0,[Z1 y],Edit.nil⟩) rfl).1 hr
    obtain ⟨rfl,rfl⟩:=ZH hr'
    refine ⟨[x.p.l.getD 0 Tree.nil],[y],(Yd kp2).2 ⟨[],by rw [Qp];exact hp1.symm,.nil⟩,.into kq3 hy .nil,?_⟩
    show Z7 ([Z1 y]++[])=Z7 [y]
    simp [Z7,ZZ]
  have kp3:x.p.kind=3:=by rcases Ys op with h | h | h | h <;> omega
  by_cases kq1:x.q.kind=1
  .have lq:=YK oq (.inl kq1)
   rw [<-hl,Z0w kp3] at lq
   have e:ZI f x=⟨⟨1,0,[(doB (ZE (Zq x.p.e)) (x.q.l.getD 0 Tree.nil)).1],Edit.nil⟩,true,(doB (ZE (Zq x.p.e)) (x.q.l.getD 0 Tree.nil)).2⟩:=by unfold ZI;rw [JI,JI,if_neg k21,if_neg kp2,if_pos kq1]
   rw [e] at hr hok
   have hq1:=Z2a lq.symm
   have hql:RT_ (x.q.l.getD 0 Tree.nil):=rq.2 _ (by rw [hq1];simp)
   cases hz:doE false (ZE (Zq x.p.e)) (x.q.l.getD 0 Tree.nil) with
   | none=> unfold doB at hok;rw [hz] at hok;cases hok
   | some z=>
    have e2:(doB (ZE (Zq x.p.e)) (x.q.l.getD 0 Tree.nil)).1=Z1 z:=by unfold doB;rw [hz];try rfl
    rw [e2] at hr
    obtain ⟨a,s',rfl,hn,hr'⟩:=(Yc (o:=⟨1,0,[Z1 z],Edit.nil⟩) rfl).1 hr
    obtain ⟨rfl,rfl⟩:=ZH hr'
    have hl1:=Z1V hn
    have ha1:=Z2a (l:=a) (by rw [<-hl1];rfl)
    rw [ha1] at hn
    have hzx:Eqv z (a.getD 0 Tree.nil):=by
     have:=Jr.1 hn
     unfold Eqv
     rw [<-this,ZZ]
    obtain ⟨⟨dd,rd⟩,re⟩:=rp.1 kp3
    obtain ⟨y,hy,hyl⟩:=Zgp rd re hql hz hzx
    refine ⟨[y],[],?_,?_,rfl⟩
    .rw [Qp,ha1]
     exact .into kp3 hy .nil
    .refine (Yc kq1).2 ⟨[y],[],by simp,?_,.nil⟩
     rw [hq1]
     exact (Jr.2 hyl).symm
  .have kq3:x.q.kind=3:=by rcases Ys oq with h | h | h | h <;> omega
   have e:ZI f x=⟨⟨3,0,[],(f x.p.e x.q.e).1⟩,true,(f x.p.e x.q.e).2⟩:=by unfold ZI;rw [JI,JI,if_neg k21,if_neg kp2,if_neg kq1]
   rw [e] at hr hok
   obtain ⟨x0,s',y0,d',rfl,rfl,hd,hr'⟩:=(JW (o:=⟨3,0,[],(f x.p.e x.q.e).1⟩) rfl).1 hr
   obtain ⟨rfl,rfl⟩:=ZH hr'
   obtain ⟨u,v,hu,hv,hw⟩:=(hf kp3 kq3 h0).fwd (hs x0 (by simp)) hok hd
   exact ⟨[u],[v],.into kp3 hu .nil,.into kq3 hv .nil,Jr.2 hw⟩
 .have e:ZI f x=⟨x.p,true,true⟩:=by unfold ZI;rw [if_pos (.inl h1)]
  rw [e] at hr
  rw [JI,if_pos h1]
  obtain ⟨a,s',rfl,hn,hr'⟩:=(Yc (hx.one h1)).1 hr
  obtain ⟨rfl,rfl⟩:=ZH hr'
  exact ⟨[],[],(Yc (hx.one h1)).2 ⟨a,[],rfl,hn,.nil⟩,.nil,rfl⟩
 .have e:ZI f x=⟨x.q,true,true⟩:=by unfold ZI;rw [JI,if_pos (.inl h2)]
  rw [e] at hr
  rw [if_pos h2,JI]
  obtain ⟨d',rfl,hr'⟩:=(Yd (hx.two h2)).1 hr
  obtain ⟨rfl,rfl⟩:=ZH hr'
  exact ⟨[],_,.nil,(Yd (hx.two h2)).2 ⟨[],rfl,.nil⟩,rfl⟩
theorem Zmk {f:Edit->Edit->Edit × Bool} {p0 q0:List Op} {x:Piece} (hx:POk p0 q0 x) (hp:x.of≠2->ROp x.p) (hq:x.of≠1->ROp x.q) (hf:x.p.kind=3->x.q.kind=3->x.of=0->ComOk (f x.p.e x.q.e) x.p.e x.q.e)
  {s m d:List Tree} (hs:∀ t∈s,RT_ t) (h1r:Run (if x.of=2 then [] else [x.p]) s m) (h2r:Run (if x.of=1 then [] else [x.q]) m d):
  (ZI f x).ok=true/\∃ w,Run (if (ZI f x).is then [(ZI f x).op] else []) s w/\EqvL w d:=by
 rcases hx.of with h0 | h1 | h2
 .obtain ⟨pk,qk,hl⟩:=hx.both h0
  obtain ⟨_,op⟩:=hx.pp V0
  obtain ⟨_,oq⟩:=hx.qq V0
  have rp:=hp V0
  have rq:=hq V0
  rw [JI] at h1r h2r
  by_cases kq0:x.q.kind=0
  .have e:ZI f x=⟨x.p,true,true⟩:=by unfold ZI;rw [if_pos (.inr ⟨h0,kq0⟩)]
   rw [e]
   have:=Z6d kq0 h2r
   subst this
   exact ⟨rfl,d,h1r,rfl⟩
  by_cases kp0:x.p.kind=0
  .have e:ZI f x=⟨x.q,true,true⟩:=by unfold ZI;rw [JI,if_pos (.inr kp0)]
   rw [e]
   have:=Z6d kp0 h1r
   subst this
   exact ⟨rfl,d,h2r,rfl⟩
  by_cases k21:x.p.kind=2/\x.q.kind=1
  .have lp:=YK op (.inr k21.1)
   have lq:=YK oq (.inl k21.2)
   have e:ZI f x=⟨Op.nil,false,ZfW x.p.l (x.q.l.take x.p.l.length)⟩:=by unfold ZI;rw [JI,JI,if_pos k21]
   rw [e]
   obtain ⟨d',rfl,hr'⟩:=(Yd k21.1).1 h1r
   obtain ⟨rfl,rfl⟩:=ZH hr'
   rw [Qp] at h2r
   obtain ⟨a,s',ha,hn,hr2⟩:=(Yc k21.2).1 h2r
   obtain ⟨rfl,rfl⟩:=ZH hr2
   rw [Qp] at ha
   subst ha
   refine ⟨?_,[],.nil,rfl⟩
   show ZfW x.p.l (x.q.l.take x.p.l.length)=true
   unfold ZfW
   rw [Z1f,Qr V0]
   exact hn.symm
  by_cases kp2:x.p.kind=2
  .have kq3:x.q.kind=3:=by rcases Ys oq with h | h | h | h <;> omega
   have lp:=YK op (.inr kp2)
   rw [hl,Z0w kq3] at lp
   have e:ZI f x=⟨⟨2,0,[(doB x.q.e (x.p.l.getD 0 Tree.nil)).1],Edit.nil⟩,true,(doB x.q.e (x.p.l.getD 0 Tree.nil)).2⟩:=by unfold ZI;rw [JI,JI,if_neg k21,if_pos kp2]
   rw [e]
   have hp1:=Z2a lp.symm
   obtain ⟨d',rfl,hr'⟩:=(Yd kp2).1 h1r
   obtain ⟨rfl,rfl⟩:=ZH hr'
   rw [Qp,hp1] at h2r
   obtain ⟨x0,s',y0,d',e1,rfl,hd,hr'⟩:=(JW kq3).1 h2r
   cases e1
   obtain ⟨_,rfl⟩:=ZH hr'
   have e2:doB x.q.e (x.p.l.getD 0 Tree.nil)=(Z1 y0,true):=by unfold doB;rw [hd];try rfl
   rw [e2]
   refine ⟨rfl,[Z1 y0],(Yd (o:=⟨2,0,[Z1 y0],Edit.nil⟩) rfl).2 ⟨[],by simp,.nil⟩,?_⟩
   exact Jr.2 (ZZ y0)
  have kp3:x.p.kind=3:=by rcases Ys op with h | h | h | h <;> omega
  obtain ⟨x0,s',y0,d',rfl,rfl,hd,hr'⟩:=(JW kp3).1 h1r
  obtain ⟨rfl,rfl⟩:=ZH hr'
  have hx0:=hs x0 (by simp)
  obtain ⟨⟨dd,rd⟩,re⟩:=rp.1 kp3
  by_cases kq1:x.q.kind=1
  .have lq:=YK oq (.inl kq1)
   rw [<-hl,Z0w kp3] at lq
   have e:ZI f x=⟨⟨1,0,[(doB (ZE (Zq x.p.e)) (x.q.l.getD 0 Tree.nil)).1],Edit.nil⟩,true,(doB (ZE (Zq x.p.e)) (x.q.l.getD 0 Tree.nil)).2⟩:=by unfold ZI;rw [JI,JI,if_neg k21,if_neg kp2,if_pos kq1]
   rw [e]
   have hq1:=Z2a lq.symm
   have hql:RT_ (x.q.l.getD 0 Tree.nil):=rq.2 _ (by rw [hq1];simp)
   obtain ⟨a,s2,ha,hn,hr2⟩:=(Yc kq1).1 h2r
   obtain ⟨rfl,rfl⟩:=ZH hr2
   rw [Qp] at ha
   subst ha
   rw [hq1] at hn
   obtain ⟨z,hz,hzx⟩:=Zgo rd re hx0 hql hd (Jr.1 hn).symm
   have e2:doB (ZE (Zq x.p.e)) (x.q.l.getD 0 Tree.nil)=(Z1 z,true):=by unfold doB;rw [hz];try rfl
   rw [e2]
   refine ⟨rfl,[],(Yc (o:=⟨1,0,[Z1 z],Edit.nil⟩) rfl).2 ⟨[x0],[],by simp,?_,.nil⟩,rfl⟩
   refine Jr.2 ?_
   rw [ZZ]
   exact hzx
  .have kq3:x.q.kind=3:=by rcases Ys oq with h | h | h | h <;> omega
   have e:ZI f x=⟨⟨3,0,[],(f x.p.e x.q.e).1⟩,true,(f x.p.e x.q.e).2⟩:=by unfold ZI;rw [JI,JI,if_neg k21,if_neg kp2,if_neg kq1]
   rw [e]
   obtain ⟨x1,s2,y1,d2,e1,rfl,hd2,hr2⟩:=(JW kq3).1 h2r
   cases e1
   obtain ⟨_,rfl⟩:=ZH hr2
   obtain ⟨c2,w,hw,hwv⟩:=(hf kp3 kq3 h0).bwd hx0 hd hd2
   exact ⟨c2,[w],(JW (o:=⟨3,0,[],(f x.p.e x.q.e).1⟩) rfl).2 ⟨x0,[],w,[],rfl,rfl,hw,.nil⟩,Jr.2 hwv⟩
 .have e:ZI f x=⟨x.p,true,true⟩:=by unfold ZI;rw [if_pos (.inl h1)]
  rw [JI] at h1r
  rw [if_pos h1] at h2r
  rw [e]
  obtain ⟨rfl,rfl⟩:=ZH h2r
  exact ⟨rfl,[],h1r,rfl⟩
 .have e:ZI f x=⟨x.q,true,true⟩:=by unfold ZI;rw [JI,if_pos (.inl h2)]
  rw [if_pos h2] at h1r
  rw [JI] at h2r
  rw [e]
  obtain ⟨rfl,rfl⟩:=ZH h1r
  exact ⟨rfl,d,h2r,rfl⟩
theorem Z4f:∀ {a b:List Op} {s d:List Tree},(∀ o∈a,kOk o)->(Run (a++b) s d↔∃ s1 s2 d1 d2,s=s1++s2/\d=d1++d2/\Run a s1 d1/\Run b s2 d2)
 | [],b,s,d,_=> by
  constructor
  .intro h;exact ⟨[],s,[],d,rfl,rfl,.nil,h⟩
  .rintro ⟨s1,s2,d1,d2,rfl,rfl,h1,h2⟩
   obtain ⟨rfl,rfl⟩:=ZH h1
   exact h2
 | o ::a,b,s,d,hk=> by
  have ho:=hk o Q4
  have ih:=fun s d=> Z4f (a:=a) (b:=b) (s:=s) (d:=d) fun x hx=> hk x (Q0 _ hx)
  rw [Qw,Zcd ho]
  constructor
  .rintro ⟨s1,s2,d1,d2,rfl,rfl,h1,h2⟩
   obtain ⟨s3,s4,d3,d4,rfl,rfl,h3,h4⟩:=(ih _ _).1 h2
   exact ⟨s1++s3,s4,d1++d3,d4,by rw [Qa],by rw [Qa],(Zcd ho).2 ⟨s1,s3,d1,d3,rfl,rfl,h1,h3⟩,h4⟩
  .rintro ⟨s1,s2,d1,d2,rfl,rfl,h1,h2⟩
   obtain ⟨s3,s4,d3,d4,rfl,rfl,h3,h4⟩:=(Zcd ho).1 h1
   exact ⟨s3,s4++s2,d3,d4++d2,by rw [Qa],by rw [Qa],h3,(ih _ _).2 ⟨s4,s2,d4,d2,rfl,rfl,h4,h2⟩⟩
theorem ZjY{f:Edit->Edit->Edit × Bool}{p0 q0:List Op}{x:Piece}(hx:POk p0 q0 x):kOk (ZI f x).op:=by
 unfold ZI
 split
 .rename_i h
  exact Ys (hx.pp V0).2
 .split
  .rename_i h1 h2
   refine Ys (hx.qq ?_).2
   omega
  .split
   .exact .inl ⟨rfl,Xg 0⟩
   .split
    .exact .inr (.inr (.inl rfl))
    .split
     .exact .inr (.inl rfl)
     .exact .inr (.inr (.inr rfl))
theorem Zcz{f:Edit->Edit->Edit × Bool}{p0 q0:List Op}:∀ {ps:List Piece} {ops:List Op} {s w:List Tree},(∀ x∈ps,POk p0 q0 x)->(∀ x∈ps,(x.of≠2->ROp x.p)/\(x.of≠1->ROp x.q))->
  (∀ x∈ps,x.p.kind=3->x.q.kind=3->x.of=0->ComOk (f x.p.e x.q.e) x.p.e x.q.e)->(∀ t∈s,RT_ t)->Z0u f ps=some ops->Run ops s w->∃ m d,Run (Z2A ps) s m/\Run (Z2z ps) m d/\EqvL w d
 | [],ops,s,w,_,_,_,_,h,hr=> by
  cases h
  obtain ⟨rfl,rfl⟩:=ZH hr
  exact ⟨[],[],.nil,.nil,rfl⟩
 | x ::r,ops,s,w,hx,hp,hf,hs,h,hr=> by
  rw [Z0u] at h
  split at h
  .rename_i hok
   obtain ⟨l,hl,rfl⟩:=Qb.1 h
   have hx0:=hx x Q4
   have hk:∀ o∈(if (ZI f x).is then [(ZI f x).op] else []),kOk o:=by
    intro o ho
    split at ho
    .rw [Q9.1 ho];exact ZjY hx0
    .cases ho
   obtain ⟨s1,s2,w1,w2,rfl,rfl,r1,r2⟩:=(Z4f hk).1 hr
   obtain ⟨m1,d1,a1,a2,a3⟩:=Zmj hx0 (hp x Q4).1 (hp x Q4).2 (hf x Q4) (fun t ht=> hs t (QN _ ht)) hok r1
   obtain ⟨m2,d2,b1,b2,b3⟩:=Zcz (fun y hy=> hx y (Q0 _ hy)) (fun y hy=> hp y (Q0 _ hy)) (fun y hy=> hf y (Q0 _ hy)) (fun t ht=> hs t (QP _ ht)) hl r2
   refine ⟨m1++m2,d1++d2,?_,?_,Zi3 a3 b3⟩
   .refine (Z4f ?_).2 ⟨s1,s2,m1,m2,rfl,rfl,a1,b1⟩
    intro o ho
    split at ho
    .cases ho
    .rw [Q9.1 ho];exact Ys (hx0.pp (by assumption)).2
   .refine (Z4f ?_).2 ⟨m1,m2,d1,d2,rfl,rfl,a2,b2⟩
    intro o ho
    split at ho
    .cases ho
    .rw [Q9.1 ho];exact Ys (hx0.qq (by assumption)).2
  .cases h
theorem ZcA{f:Edit->Edit->Edit × Bool}{p0 q0:List Op}:∀ {ps:List Piece} {s m d:List Tree},(∀ x∈ps,POk p0 q0 x)->(∀ x∈ps,(x.of≠2->ROp x.p)/\(x.of≠1->ROp x.q))->
  (∀ x∈ps,x.p.kind=3->x.q.kind=3->x.of=0->ComOk (f x.p.e x.q.e) x.p.e x.q.e)->(∀ t∈s,RT_ t)->Run (Z2A ps) s m->Run (Z2z ps) m d->∃ ops w,Z0u f ps=some ops/\Run ops s w/\EqvL w d
 | [],s,m,d,_,_,_,_,h1,h2=> by
  obtain ⟨rfl,rfl⟩:=ZH h1
  obtain ⟨_,rfl⟩:=ZH h2
  exact ⟨[],[],rfl,.nil,rfl⟩
 | x ::r,s,m,d,hx,hp,hf,hs,h1,h2=> by
  have hx0:=hx x Q4
  have kp:∀ o∈(if x.of=2 then [] else [x.p]),kOk o:=by
   intro o ho
   split at ho
   .cases ho
   .rw [Q9.1 ho];exact Ys (hx0.pp (by assumption)).2
  have kq:∀ o∈(if x.of=1 then [] else [x.q]),kOk o:=by
   intro o ho
   split at ho
   .cases ho
   .rw [Q9.1 ho];exact Ys (hx0.qq (by assumption)).2
  obtain ⟨s1,s2,m1,m2,rfl,rfl,a1,a2⟩:=(Z4f kp).1 h1
  obtain ⟨m3,m4,d1,d2,hm,rfl,b1,b2⟩:=(Z4f kq).1 h2
  have hlen:m1.length=m3.length:=by
   rcases hx0.of with h0 | g1 | g2
   .obtain ⟨pk,qk,hl⟩:=hx0.both h0
    rw [JI] at a1 b1
    have:=Zaa (hx0.pp V0).2 pk a1
    have:=Zcc (hx0.qq V0).2 qk b1
    omega
   .rw [JI] at a1
    rw [if_pos g1] at b1
    obtain ⟨a,s',rfl,hn,hr'⟩:=(Yc (hx0.one g1)).1 a1
    obtain ⟨rfl,rfl⟩:=ZH hr'
    obtain ⟨rfl,_⟩:=ZH b1
    try rfl
   .rw [if_pos g2] at a1
    rw [JI] at b1
    obtain ⟨_,rfl⟩:=ZH a1
    obtain ⟨d',rfl,hr'⟩:=(Yd (hx0.two g2)).1 b1
    obtain ⟨rfl,_⟩:=ZH hr'
    try rfl
  obtain ⟨rfl,rfl⟩:=Ke hm hlen
  obtain ⟨hok,w1,c1,c2⟩:=Zmk hx0 (hp x Q4).1 (hp x Q4).2 (hf x Q4) (fun t ht=> hs t (QN _ ht)) a1 b1
  obtain ⟨ops,w2,e1,e2,e3⟩:=ZcA (fun y hy=> hx y (Q0 _ hy)) (fun y hy=> hp y (Q0 _ hy)) (fun y hy=> hf y (Q0 _ hy)) (fun t ht=> hs t (QP _ ht)) a2 b2
  refine ⟨(if (ZI f x).is then [(ZI f x).op] else [])++ops,w1++w2,?_,?_,Zi3 c2 e3⟩
  .rw [Z0u,if_pos hok,e1];try rfl
  .refine (Z4f ?_).2 ⟨s1,s2,w1,w2,rfl,rfl,c1,e2⟩
   intro o ho
   split at ho
   .rw [Q9.1 ho];exact ZjY hx0
   .cases ho
section
variable {β:Type} {at_:β->Int} {one:β->β->β × Bool}
structure MSpec (at_:β->Int) (one:β->β->β × Bool) (last:Int) (p q L:List β):Prop where
 asc_:asc at_ last L
 of:∀ x∈L,(x∈p/\∀ b∈q,at_ b≠at_ x)\/(x∈q/\∀ a∈p,at_ a≠at_ x)\/∃ a∈p,∃ b∈q,at_ a=at_ b/\(one a b).2=true/\x=(one a b).1
 left:∀ a∈p,(∀ b∈q,at_ b≠at_ a)->a∈L
 right:∀ b∈q,(∀ a∈p,at_ a≠at_ b)->b∈L
 both:∀ a∈p,∀ b∈q,at_ a=at_ b->(one a b).2=true/\(one a b).1∈L
theorem Z2e(hone:∀ a b,at_ a=at_ b->(one a b).2=true->at_ (one a b).1=at_ a):∀ (k:Nat) (p q:List β) (last:Int),p.length+q.length<=k->asc at_ last p->asc at_ last q->
  (Zm at_ one p q=none->∃ a∈p,∃ b∈q,at_ a=at_ b/\(one a b).2=false)/\∀ L,Zm at_ one p q=some L->MSpec at_ one last p q L:=by
 intro k
 induction k with
 | zero=>
  intro p q last hk hp hq
  have e1:p=[]:=Q3 V0
  have e2:q=[]:=Q3 V0
  subst e1 e2
  rw [Zm]
  refine ⟨fun h=> (by cases h),fun L h=> ?_⟩
  cases h
  exact ⟨trivial,fun x hx=> (by cases hx),fun a ha=> (by cases ha),fun a ha=> (by cases ha),fun a ha=> (by cases ha)⟩
 | succ k ih=>
  intro p q last hk hp hq
  match p,q with
  | [],q=>
   rw [Zm]
   refine ⟨fun h=> (by cases h),fun L h=> ?_⟩
   cases h
   exact ⟨hq,fun x hx=> .inr (.inl ⟨hx,fun a ha=> (by cases ha)⟩),fun a ha=> (by cases ha),fun b hb _=> hb,fun a ha=> (by cases ha)⟩
  | a ::p,[]=>
   rw [Zm]
   refine ⟨fun h=> (by cases h),fun L h=> ?_⟩
   cases h
   exact ⟨hp,fun x hx=> .inl ⟨hx,fun a ha=> (by cases ha)⟩,fun b hb _=> hb,fun a ha=> (by cases ha),fun a _ b hb=> (by cases hb)⟩
  | a ::p,b ::q=>
   have gp:=fun x hx=> Zdn hp.2 x hx
   have gq:=fun x hx=> Zdn hq.2 x hx
   simp only [Q7] at hk
   rw [Zm]
   by_cases h1:at_ a < at_ b
   .rw [if_pos h1]
    obtain ⟨i1,i2⟩:=ih p (b ::q) (at_ a) (by simp only [Q7];omega) hp.2 ⟨h1,hq.2⟩
    refine ⟨fun h=> ?_,fun L h=> ?_⟩
    .rw [XH] at h
     obtain ⟨x,hx,y,hy,e⟩:=i1 h
     exact ⟨x,Q0 _ hx,y,hy,e⟩
    .obtain ⟨L',hL,rfl⟩:=Qb.1 h
     have S:=i2 L' hL
     have na:∀ y∈b ::q,at_ y≠at_ a:=by
      intro y hy
      rcases Q6.1 hy with rfl | hy
      .omega
      .have:=gq y hy;omega
     refine ⟨⟨hp.1,S.asc_⟩,fun x hx=> ?_,fun x hx hn=> ?_,fun y hy hn=> ?_,fun x hx y hy e=> ?_⟩
     .rcases Q6.1 hx with rfl | hx
      .exact .inl ⟨Q4,na⟩
      .rcases S.of x hx with ⟨h2,h3⟩ | ⟨h2,h3⟩ | ⟨c,hc,d,hd,h2⟩
       .exact .inl ⟨Q0 _ h2,h3⟩
       .refine .inr (.inl ⟨h2,fun c hc=> ?_⟩)
        rcases Q6.1 hc with rfl | hc
        .exact (na x h2).symm
        .exact h3 c hc
       .exact .inr (.inr ⟨c,Q0 _ hc,d,hd,h2⟩)
     .rcases Q6.1 hx with rfl | hx
      .exact Q4
      .exact Q0 _ (S.left x hx hn)
     .exact Q0 _ (S.right y hy fun c hc=> hn c (Q0 _ hc))
     .rcases Q6.1 hx with rfl | hx
      .exact absurd e.symm (na y hy)
      .obtain ⟨h2,h3⟩:=S.both x hx y hy e
       exact ⟨h2,Q0 _ h3⟩
   .rw [if_neg h1]
    by_cases h2:at_ b < at_ a
    .rw [if_pos h2]
     obtain ⟨i1,i2⟩:=ih (a ::p) q (at_ b) (by simp only [Q7];omega) ⟨h2,hp.2⟩ hq.2
     refine ⟨fun h=> ?_,fun L h=> ?_⟩
     .rw [XH] at h
      obtain ⟨x,hx,y,hy,e⟩:=i1 h
      exact ⟨x,hx,y,Q0 _ hy,e⟩
     .obtain ⟨L',hL,rfl⟩:=Qb.1 h
      have S:=i2 L' hL
      have nb:∀ y∈a ::p,at_ y≠at_ b:=by
       intro y hy
       rcases Q6.1 hy with rfl | hy
       .omega
       .have:=gp y hy;omega
      refine ⟨⟨hq.1,S.asc_⟩,fun x hx=> ?_,fun x hx hn=> ?_,fun y hy hn=> ?_,fun x hx y hy e=> ?_⟩
      .rcases Q6.1 hx with rfl | hx
       .exact .inr (.inl ⟨Q4,nb⟩)
       .rcases S.of x hx with ⟨h3,h4⟩ | ⟨h3,h4⟩ | ⟨c,hc,d,hd,h3⟩
        .refine .inl ⟨h3,fun c hc=> ?_⟩
         rcases Q6.1 hc with rfl | hc
         .exact (nb x h3).symm
         .exact h4 c hc
        .exact .inr (.inl ⟨Q0 _ h3,h4⟩)
        .exact .inr (.inr ⟨c,hc,d,Q0 _ hd,h3⟩)
      .exact Q0 _ (S.left x hx fun c hc=> hn c (Q0 _ hc))
      .rcases Q6.1 hy with rfl | hy
       .exact Q4
       .exact Q0 _ (S.right y hy hn)
      .rcases Q6.1 hy with rfl | hy
       .exact absurd e (nb x hx)
       .obtain ⟨h3,h4⟩:=S.both x hx y hy e
        exact ⟨h3,Q0 _ h4⟩
    .rw [if_neg h2]
     have e0:at_ a=at_ b:=V0
     by_cases h3:(one a b).2=true
     .rw [if_pos h3]
      obtain ⟨i1,i2⟩:=ih p q (at_ a) V0 hp.2 (by rw [e0];exact hq.2)
      refine ⟨fun h=> ?_,fun L h=> ?_⟩
      .rw [XH] at h
       obtain ⟨x,hx,y,hy,e⟩:=i1 h
       exact ⟨x,Q0 _ hx,y,Q0 _ hy,e⟩
      .obtain ⟨L',hL,rfl⟩:=Qb.1 h
       have S:=i2 L' hL
       have hat:=hone a b e0 h3
       have na:∀ y∈q,at_ y≠at_ a:=fun y hy=> by have:=gq y hy;omega
       have nb:∀ y∈p,at_ y≠at_ b:=fun y hy=> by have:=gp y hy;omega
       refine ⟨⟨by rw [hat];exact hp.1,by rw [hat];exact S.asc_⟩,fun x hx=> ?_,fun x hx hn=> ?_,fun y hy hn=> ?_,fun x hx y hy e=> ?_⟩
       .rcases Q6.1 hx with rfl | hx
        .exact .inr (.inr ⟨a,Q4,b,Q4,e0,h3,rfl⟩)
        .rcases S.of x hx with ⟨h4,h5⟩ | ⟨h4,h5⟩ | ⟨c,hc,d,hd,h4⟩
         .refine .inl ⟨Q0 _ h4,fun c hc=> ?_⟩
          rcases Q6.1 hc with rfl | hc
          .exact (nb x h4).symm
          .exact h5 c hc
         .refine .inr (.inl ⟨Q0 _ h4,fun c hc=> ?_⟩)
          rcases Q6.1 hc with rfl | hc
          .exact (na x h4).symm
          .exact h5 c hc
         .exact .inr (.inr ⟨c,Q0 _ hc,d,Q0 _ hd,h4⟩)
       .rcases Q6.1 hx with rfl | hx
        .exact absurd e0.symm (hn b Q4)
        .exact Q0 _ (S.left x hx fun c hc=> hn c (Q0 _ hc))
       .rcases Q6.1 hy with rfl | hy
        .exact absurd e0 (hn a Q4)
        .exact Q0 _ (S.right y hy fun c hc=> hn c (Q0 _ hc))
       .rcases Q6.1 hx with rfl | hx
        .rcases Q6.1 hy with rfl | hy
         .exact ⟨h3,Q4⟩
         .exact absurd e.symm (na y hy)
        .rcases Q6.1 hy with rfl | hy
         .exact absurd e (nb x hx)
         .obtain ⟨h4,h5⟩:=S.both x hx y hy e
          exact ⟨h4,Q0 _ h5⟩
     .rw [if_neg h3]
      refine ⟨fun _=> ⟨a,Q4,b,Q4,e0,by simpa using h3⟩,fun L h=> by cases h⟩
variable {α:Type} {z:α} {F:β->α->Option α} {R:α->α->Prop}
def Z1h(z:α)(F:β->α->Option α)(at_:β->Int)(l:List α)(w:β):Option α:=F w (l.getD (at_ w).toNat z)
theorem Z4v{last:Int}(hl: -1<=last){l:List β}(h:asc at_ last l):∀ w∈l,0<=at_ w:=fun w hw=> by have:=Zdn h w hw;omega
theorem Zfj (hone:∀ a b,at_ a=at_ b->(one a b).2=true->at_ (one a b).1=at_ a) (Rr:∀ x,R x x) {p q L:List β} {l r:List α} (hp:asc at_ (-1) p) (hq:asc at_ (-1) q)
  (hf:∀ a∈p,∀ b∈q,at_ a=at_ b->∀ w,(one a b).2=true->F (one a b).1 (l.getD (at_ a).toNat z)=some w->∃ u v,F a (l.getD (at_ a).toNat z)=some u/\F b u=some v/\R w v)
  (h:Zm at_ one p q=some L) (hr:mg z (Z1h z F at_ l) at_ L l=some r):
  ∃ r1 r2,mg z (Z1h z F at_ l) at_ p l=some r1/\mg z (Z1h z F at_ r1) at_ q r1=some r2/\∀ i,R (r.getD i z) (r2.getD i z):=by
 have S:=(Z2e hone _ p q (-1) (Qm _) hp hq).2 L h
 obtain ⟨g1,g2⟩:=Z2Y V0 S.asc_ hr
 have np:=Z4v V2 hp
 have nq:=Z4v V2 hq
 have k1:∀ a∈p,∃ u,Z1h z F at_ l a=some u:=by
  intro a ha
  by_cases hb:∃ b∈q,at_ b=at_ a
  .obtain ⟨b,hb,e⟩:=hb
   obtain ⟨c1,c2⟩:=S.both a ha b hb e.symm
   obtain ⟨v,hv,_⟩:=g1 _ c2
   unfold Z1h at hv
   rw [hone a b e.symm c1] at hv
   obtain ⟨u,_,hu,_⟩:=hf a ha b hb e.symm v c1 hv
   exact ⟨u,hu⟩
  .obtain ⟨v,hv,_⟩:=g1 a (S.left a ha fun b hbq e=> hb ⟨b,hbq,e⟩)
   exact ⟨v,hv⟩
 obtain ⟨r1,h1⟩:=Z5W (z:=z) (p:=at_) (out:=l) (f:=Z1h z F at_ l) k1
 obtain ⟨a1,a2⟩:=Z2Y V0 hp h1
 have k2:∀ b∈q,∃ v,Z1h z F at_ r1 b=some v:=by
  intro b hb
  by_cases ha:∃ a∈p,at_ a=at_ b
  .obtain ⟨a,ha,e⟩:=ha
   obtain ⟨c1,c2⟩:=S.both a ha b hb e
   obtain ⟨w,hw,_⟩:=g1 _ c2
   unfold Z1h at hw
   rw [hone a b e c1] at hw
   obtain ⟨u,v,hu,hv,_⟩:=hf a ha b hb e w c1 hw
   obtain ⟨u',hu',e'⟩:=a1 a ha
   unfold Z1h at hu'
   rw [hu] at hu'
   cases hu'
   unfold Z1h
   rw [<-e,e']
   exact ⟨v,hv⟩
  .obtain ⟨v,hv,_⟩:=g1 b (S.right b hb fun a hap e=> ha ⟨a,hap,e⟩)
   refine ⟨v,?_⟩
   unfold Z1h at hv ⊢
   rw [a2 _ fun a hap e=> ha ⟨a,hap,by have:=np a hap;have:=nq b hb;omega⟩]
   exact hv
 obtain ⟨r2,h2⟩:=Z5W (z:=z) (p:=at_) (out:=r1) (f:=Z1h z F at_ r1) k2
 obtain ⟨b1,b2⟩:=Z2Y V0 hq h2
 refine ⟨r1,r2,h1,h2,fun i=> ?_⟩
 by_cases hb:∃ b∈q,(at_ b).toNat=i
 .obtain ⟨b,hb,rfl⟩:=hb
  obtain ⟨v,hv,e2⟩:=b1 b hb
  rw [e2]
  by_cases ha:∃ a∈p,at_ a=at_ b
  .obtain ⟨a,ha,e⟩:=ha
   obtain ⟨c1,c2⟩:=S.both a ha b hb e
   obtain ⟨w,hw,ew⟩:=g1 _ c2
   unfold Z1h at hw
   rw [hone a b e c1] at hw ew
   obtain ⟨u,v',hu,hv',hR⟩:=hf a ha b hb e w c1 hw
   obtain ⟨u',hu',e'⟩:=a1 a ha
   unfold Z1h at hu' hv
   rw [hu] at hu'
   cases hu'
   rw [<-e,e',hv'] at hv
   cases hv
   rw [<-e,ew]
   exact hR
  .obtain ⟨w,hw,ew⟩:=g1 b (S.right b hb fun a hap e=> ha ⟨a,hap,e⟩)
   rw [ew]
   unfold Z1h at hw hv
   rw [a2 _ fun a hap e=> ha ⟨a,hap,by have:=np a hap;have:=nq b hb;omega⟩,hw] at hv
   cases hv
   exact Rr _
 .rw [b2 i fun b hbq e=> hb ⟨b,hbq,e⟩]
  by_cases ha:∃ a∈p,(at_ a).toNat=i
  .obtain ⟨a,ha,rfl⟩:=ha
   obtain ⟨w,hw,ew⟩:=g1 a (S.left a ha fun b hbq e=> hb ⟨b,hbq,V0⟩)
   obtain ⟨u,hu,eu⟩:=a1 a ha
   rw [hw] at hu
   cases hu
   rw [ew,eu]
   exact Rr _
  .rw [a2 i fun a hap e=> ha ⟨a,hap,e⟩,g2 i ?_]
   .exact Rr _
   .intro w hw e
    rcases S.of w hw with ⟨h3,_⟩ | ⟨h3,_⟩ | ⟨a,hap,b,hbq,e3,c1,rfl⟩
    .exact ha ⟨w,h3,e⟩
    .exact hb ⟨w,h3,e⟩
    .rw [hone a b e3 c1] at e
     exact ha ⟨a,hap,e⟩
theorem ZkH (hone:∀ a b,at_ a=at_ b->(one a b).2=true->at_ (one a b).1=at_ a) (Rr:∀ x,R x x) {p q:List β} {l r1 r2:List α} (hp:asc at_ (-1) p) (hq:asc at_ (-1) q)
  (hf:∀ a∈p,∀ b∈q,at_ a=at_ b->∀ u v,F a (l.getD (at_ a).toNat z)=some u->F b u=some v->(one a b).2=true/\∃ w,F (one a b).1 (l.getD (at_ a).toNat z)=some w/\R w v)
  (h1:mg z (Z1h z F at_ l) at_ p l=some r1) (h2:mg z (Z1h z F at_ r1) at_ q r1=some r2):
  ∃ L r,Zm at_ one p q=some L/\mg z (Z1h z F at_ l) at_ L l=some r/\∀ i,R (r.getD i z) (r2.getD i z):=by
 have np:=Z4v V2 hp
 have nq:=Z4v V2 hq
 obtain ⟨a1,a2⟩:=Z2Y V0 hp h1
 obtain ⟨b1,b2⟩:=Z2Y V0 hq h2
 have both:∀ a∈p,∀ b∈q,at_ a=at_ b->(one a b).2=true/\∃ w,F (one a b).1 (l.getD (at_ a).toNat z)=some w/\R w (r2.getD (at_ a).toNat z):=by
  intro a ha b hb e
  obtain ⟨u,hu,eu⟩:=a1 a ha
  obtain ⟨v,hv,ev⟩:=b1 b hb
  unfold Z1h at hu hv
  rw [<-e,eu] at hv
  have:=hf a ha b hb e u v hu hv
  rw [e,ev,<-e]
  exact this
 cases h:Zm at_ one p q with
 | none=>
  obtain ⟨a,ha,b,hb,e,h3⟩:=(Z2e hone _ p q (-1) (Qm _) hp hq).1 h
  rw [(both a ha b hb e).1] at h3
  cases h3
 | some L=>
  have S:=(Z2e hone _ p q (-1) (Qm _) hp hq).2 L h
  have k1:∀ w∈L,∃ v,Z1h z F at_ l w=some v:=by
   intro w hw
   rcases S.of w hw with ⟨h3,h4⟩ | ⟨h3,h4⟩ | ⟨a,ha,b,hb,e,c1,rfl⟩
   .obtain ⟨u,hu,_⟩:=a1 w h3
    exact ⟨u,hu⟩
   .obtain ⟨v,hv,_⟩:=b1 w h3
    refine ⟨v,?_⟩
    unfold Z1h at hv ⊢
    rw [a2 _ fun a hap e=> h4 a hap (by have:=np a hap;have:=nq w h3;omega)] at hv
    exact hv
   .obtain ⟨_,w,hw,_⟩:=both a ha b hb e
    refine ⟨w,?_⟩
    unfold Z1h
    rw [hone a b e c1]
    exact hw
  obtain ⟨r,hr⟩:=Z5W (z:=z) (p:=at_) (out:=l) (f:=Z1h z F at_ l) k1
  refine ⟨L,r,rfl,hr,?_⟩
  obtain ⟨r1',r2',e1,e2,hR⟩:=Zfj (R:=fun x y=> x=y\/R x y) hone (fun x=> .inl rfl) hp hq (by
   intro a ha b hb e w c1 hw
   obtain ⟨u,hu,eu⟩:=a1 a ha
   obtain ⟨v,hv,ev⟩:=b1 b hb
   unfold Z1h at hu hv
   rw [<-e,eu] at hv
   obtain ⟨_,w',hw',hR⟩:=hf a ha b hb e u v hu hv
   rw [hw] at hw'
   cases hw'
   exact ⟨u,v,hu,hv,.inr hR⟩) h hr
  rw [h1] at e1
  cases e1
  rw [h2] at e2
  cases e2
  intro i
  rcases hR i with h | h
  .rw [h];exact Rr _
  .exact h
end
end Go.AM.Ytfapacabjkhepaa
namespace Go.AM.Ytfapacabjkhepaa
open Go.AM Go.Proofs
theorem Z3s(m:Int)(h0:0<=m)(h1:m < 256)(i:Nat):YT m (i:Int)=(BitVec.ofInt 8 m).toNat.testBit i:=by
 obtain ⟨n,rfl⟩:=X7 h0
 have e:(BitVec.ofInt 8 ((n:Nat):Int)).toNat=n:=by simp;omega
 rw [e,Nat.testBit_eq_decide_div_mod_eq]
 unfold YT
 rw [decide_eq_decide,QY]
 have:((n:Int) / 2 ^ i % 2:Int)=((n / 2 ^ i % 2:Nat):Int):=by rw [K7,K8,Kf];try rfl
 rw [this];omega
theorem ZlO{a b:Int}(ha:0<=a/\a < 256)(hb:0<=b/\b < 256):(0<=Zil a b/\Zil a b < 256)/\∀ i:Nat,YT (Zil a b) (i:Int)=(YT a (i:Int) && YT b (i:Int)):=by
 have hlt:(BitVec.ofInt 8 a &&& BitVec.ofInt 8 b).toNat < 256:=(BitVec.ofInt 8 a &&& BitVec.ofInt 8 b).isLt
 have e:Zil a b=((BitVec.ofInt 8 a &&& BitVec.ofInt 8 b).toNat:Int):=by
  show IntKind.wrap .u8 ((BitVec.ofInt 8 a &&& BitVec.ofInt 8 b).toNat:Int)=_
  exact Zb9 V0 V0
 refine ⟨by rw [e];omega,fun i=> ?_⟩
 rw [Z3s _ (by rw [e];omega) (by rw [e];omega),e,Z3s a ha.1 ha.2,Z3s b hb.1 hb.2]
 have:(BitVec.ofInt 8 (((BitVec.ofInt 8 a &&& BitVec.ofInt 8 b).toNat:Nat):Int)).toNat=(BitVec.ofInt 8 a &&& BitVec.ofInt 8 b).toNat:=by
  generalize (BitVec.ofInt 8 a &&& BitVec.ofInt 8 b).toNat=k at hlt ⊢
  simp
  omega
 rw [this,Kb,Kc]
theorem Zoz{a b:Int}(ha:0<=a/\a < 256)(hb:0<=b/\b < 256):(0<=orM a b/\orM a b < 256)/\∀ i:Nat,YT (orM a b) (i:Int)=(YT a (i:Int) || YT b (i:Int)):=by
 have hlt:(BitVec.ofInt 8 a ||| BitVec.ofInt 8 b).toNat < 256:=(BitVec.ofInt 8 a ||| BitVec.ofInt 8 b).isLt
 have e:orM a b=((BitVec.ofInt 8 a ||| BitVec.ofInt 8 b).toNat:Int):=by
  show IntKind.wrap .u8 ((BitVec.ofInt 8 a ||| BitVec.ofInt 8 b).toNat:Int)=_
  exact Zb9 V0 V0
 refine ⟨by rw [e];omega,fun i=> ?_⟩
 rw [Z3s _ (by rw [e];omega) (by rw [e];omega),e,Z3s a ha.1 ha.2,Z3s b hb.1 hb.2]
 have:(BitVec.ofInt 8 (((BitVec.ofInt 8 a ||| BitVec.ofInt 8 b).toNat:Nat):Int)).toNat=(BitVec.ofInt 8 a ||| BitVec.ofInt 8 b).toNat:=by
  generalize (BitVec.ofInt 8 a ||| BitVec.ofInt 8 b).toNat=k at hlt ⊢
  simp
  omega
 rw [this,BitVec.toNat_or,Nat.testBit_or]
def doW(w:WEdit)(x:Int):Option Int:=if mix 0 x w.mask=w.old then some (mix x w.new w.mask) else none
theorem Zdh(i:Nat):Zg 0 i=0:=by unfold Zg;simp
theorem Z2t{w m:Int}(h:ZM w m=true){i:Nat}(hi:i < 8)(hn:YT m i=false):Zg w i=0:=by
 have h:mix w 0 m=0:=of_decide_eq_true h
 have e:=congrArg (fun x=> Zg x i) h
 simp only [Z1o hi,YA,hn,Zdh] at e
 simpa using e
theorem JL{a b m:Int}{i:Nat}(hi:i < 8):Zg (mix a b m) i=if YT m i=true then Zg b i else Zg a i:=by rw [Z1o hi];try rfl
theorem Znq{a b:WEdit}(ra:Z1j a)(rb:Z1j b)(oa:ZM a.old a.mask=true/\ZM a.new a.mask=true)(ob:ZM b.old b.mask=true/\ZM b.new b.mask=true){x:Int}(hx:isW x):
  (∀ w,(YP a b).2=true->doW (YP a b).1 x=some w->∃ u v,doW a x=some u/\doW b u=some v/\w=v)/\
  (∀ u v,doW a x=some u->doW b u=some v->(YP a b).2=true/\∃ w,doW (YP a b).1 x=some w/\w=v):=by
 have A:=ZlO ra.2.1 rb.2.1
 have O:=Zoz ra.2.1 rb.2.1
 have hfin:mix (mix x a.new a.mask) b.new b.mask=mix x (mix a.new b.new b.mask) (orM a.mask b.mask):=by
  refine Z2q (Z0S _ _ _) (Z0S _ _ _) fun i hi=> ?_
  rw [JL hi,JL hi,JL hi,JL hi,O.2]
  cases YT a.mask i <;> cases YT b.mask i <;> simp
 refine ⟨fun w hc hw=> ?_,fun u v hu hv=> ?_⟩
 .unfold YP at hc hw
  by_cases ho:Z9M a b=true
  .rw [if_pos ho] at hw
   unfold doW at hw
   simp only at hw
   split at hw
   .rename_i hold
    cases hw
    have hok:mix 0 a.new (Zil a.mask b.mask)=mix 0 b.old (Zil a.mask b.mask):=of_decide_eq_true ho
    have e1:mix 0 x a.mask=a.old:=by
     refine Z2q (Z0S _ _ _) ra.2.2.1 fun i hi=> ?_
     have e:=congrArg (fun y=> Zg y i) hold
     simp only [JL hi,O.2] at e
     rw [JL hi]
     cases hn:YT a.mask i with
     | true=> rw [hn] at e;simpa using e
     | false=> rw [Z2t oa.1 hi hn,Zdh];simp
    have e2:mix 0 (mix x a.new a.mask) b.mask=b.old:=by
     refine Z2q (Z0S _ _ _) rb.2.2.1 fun i hi=> ?_
     have e:=congrArg (fun y=> Zg y i) hold
     have e':=congrArg (fun y=> Zg y i) hok
     simp only [JL hi,O.2] at e
     simp only [JL hi,A.2] at e'
     rw [JL hi,JL hi]
     cases hb:YT b.mask i with
     | true=>
      cases ha:YT a.mask i with
      | true=> rw [ha,hb] at e';simpa using e'
      | false=> rw [ha,hb] at e;simpa using e
     | false=> rw [Z2t ob.1 hi hb,Zdh];simp
    refine ⟨mix x a.new a.mask,mix (mix x a.new a.mask) b.new b.mask,?_,?_,hfin.symm⟩
    .unfold doW;rw [if_pos e1]
    .unfold doW;rw [if_pos e2]
   .cases hw
  .rw [if_neg ho] at hc;cases hc
 .unfold doW at hu hv
  split at hu
  .rename_i e1
   cases hu
   split at hv
   .rename_i e2
    cases hv
    have ho:Z9M a b=true:=by
     refine decide_eq_true (Z2q (Z0S _ _ _) (Z0S _ _ _) fun i hi=> ?_)
     have e:=congrArg (fun y=> Zg y i) e2
     simp only [JL hi] at e
     rw [JL hi,JL hi,A.2]
     cases ha:YT a.mask i <;> cases hb:YT b.mask i <;> rw [ha,hb] at e <;> simp at e ⊢
     exact e
    unfold YP
    rw [if_pos ho]
    refine ⟨rfl,mix x (mix a.new b.new b.mask) (orM a.mask b.mask),?_,hfin.symm⟩
    unfold doW
    simp only
    rw [if_pos]
    refine Z2q (Z0S _ _ _) (Z0S _ _ _) fun i hi=> ?_
    have e:=congrArg (fun y=> Zg y i) e1
    have e':=congrArg (fun y=> Zg y i) e2
    simp only [JL hi] at e e'
    rw [JL hi,JL hi,O.2]
    cases ha:YT a.mask i <;> cases hb:YT b.mask i <;> rw [ha] at e e' <;> rw [hb] at e' <;> simp at e e' ⊢
    all_goals first | exact e' | exact e | exact (Zdh i).symm.trans e' | exact (Zdh i).trans ((Zdh i).symm.trans e')
   .cases hv
  .cases hu
theorem Z7h(tw:List Int)(ws:List WEdit)(out:List Int):wsD tw ws out=mg 0 (Z1h 0 doW WEdit.at_ tw) WEdit.at_ ws out:=Z8Z tw ws out
theorem Z5I(tk:List Tree)(ks:List Kid)(out:List Tree):Je false tk ks out=mg Tree.nil (Z1h Tree.nil (fun k:Kid=> doE false k.e) KidOf.at_ tk) KidOf.at_ ks out:=by
 rw [Z63]
 congr 1
 funext k
 exact Z3Q false tk k
theorem ZlI(a b:WEdit)(h:(YP a b).2=true):(YP a b).1.at_=a.at_:=by
 unfold YP at h ⊢
 split
 .try rfl
 .rename_i hn;rw [if_neg hn] at h;cases h
theorem Jj{e:Edit}{d:Int}(h:Z0 e d=true):∀ o∈e.ops,YV o:=Z6Z (Zs h).ops
theorem Z6t {f g:Edit->Edit->Edit × Bool} {p q:Edit} {d d':Int} (hp:Z0 p d=true) (hq:Z0 q d'=true)
  (h:∀ a b,Zd a+Zd b < Zd p+Zd q->(∃ d,Z0 a d=true)->(∃ d,Z0 b d=true)->f a b=g a b):Jm f p q=Jm g p q:=by
 have rp:=Zs hp
 have rq:=Zs hq
 have hk:Zm KidOf.at_ (Z0L f) p.kids q.kids=Zm KidOf.at_ (Z0L g) p.kids q.kids:=by
  have key:∀ (k:Nat) (a b:List Kid),a.length+b.length<=k->(∀ x∈a,x∈p.kids)->(∀ x∈b,x∈q.kids)->Zm KidOf.at_ (Z0L f) a b=Zm KidOf.at_ (Z0L g) a b:=by
   intro k
   induction k with
   | zero=>
    intro a b hn _ _
    have e1:a=[]:=Q3 V0
    subst e1
    rw [Zm,Zm]
   | succ k ihk=>
    intro a b hn ha hb
    match a,b with
    | [],b=> rw [Zm,Zm]
    | x ::a,[]=> rw [Zm,Zm]
    | x ::a,y ::b=>
     simp only [Q7] at hn
     have hx:=Z19 (ha x Q4)
     have hy:=Z19 (hb y Q4)
     have e:Z0L f x y=Z0L g x y:=by
      unfold Z0L
      rw [h x.e y.e V0 ⟨_,(ZP rp.kids x (ha x Q4)).2⟩ ⟨_,(ZP rq.kids y (hb y Q4)).2⟩]
     rw [Zm,Zm,e,ihk a (y ::b) (by simp only [Q7];omega) (fun z hz=> ha z (Q0 _ hz)) hb,ihk (x ::a) b (by simp only [Q7];omega) ha (fun z hz=> hb z (Q0 _ hz)),
      ihk a b V0 (fun z hz=> ha z (Q0 _ hz)) (fun z hz=> hb z (Q0 _ hz))]
  exact key _ _ _ (Qm _) (fun x hx=> hx) (fun x hx=> hx)
 have ho:Z0J f p.ops q.ops=Z0J g p.ops q.ops:=by
  unfold Z0J
  obtain ⟨i1,_⟩:=Z7O _ p.ops q.ops [] (Qm _) (Jj hp) (Jj hq)
  by_cases hb:(Yo 1 2 p.ops q.ops []).2.1=true
  .rw [if_pos hb,if_pos hb]
   obtain ⟨ps,e,hps,hA,hB⟩:=i1 hb
   rw [e,QF]
   clear e i1 hb hA hB
   induction ps with
   | nil=> rfl
   | cons x r ihr=>
    have hx:=hps x Q4
    have e:ZI f x=ZI g x:=by
     unfold ZI
     by_cases h1:x.of=1\/(x.of=0/\x.q.kind=0)
     .rw [if_pos h1,if_pos h1]
     rw [if_neg h1,if_neg h1]
     by_cases h2:x.of=2\/x.p.kind=0
     .rw [if_pos h2,if_pos h2]
     rw [if_neg h2,if_neg h2]
     by_cases h3:x.p.kind=2/\x.q.kind=1
     .rw [if_pos h3,if_pos h3]
     rw [if_neg h3,if_neg h3]
     by_cases h4:x.p.kind=2
     .rw [if_pos h4,if_pos h4]
     rw [if_neg h4,if_neg h4]
     by_cases h5:x.q.kind=1
     .rw [if_pos h5,if_pos h5]
     rw [if_neg h5,if_neg h5]
     have h0:x.of=0:=by rcases hx.of with h | h | h <;> omega
     obtain ⟨hpk,hqk,hl⟩:=hx.both h0
     obtain ⟨⟨o1,m1,k1,e1,_⟩,op⟩:=hx.pp V0
     obtain ⟨⟨o2,m2,k2,e2,_⟩,oq⟩:=hx.qq V0
     have kp3:x.p.kind=3:=by rcases Ys op with h | h | h | h <;> omega
     have kq3:x.q.kind=3:=by rcases Ys oq with h | h | h | h <;> omega
     have:=Z2g m1
     have:=Z2g m2
     have r1:=Jv (rightOs_mem rp.ops m1) V0
     have r2:=Jv (rightOs_mem rq.ops m2) V0
     rw [e1,e2,h o1.e o2.e V0 ⟨_,r1⟩ ⟨_,r2⟩]
    rw [Z0u,Z0u,e,ihr fun y hy=> hps y (Q0 _ hy)]
  .rw [if_neg hb,if_neg hb]
 unfold Jm
 rw [hk,ho]
theorem ZeP:∀ (n m:Nat) (p q:Edit) (d d':Int),Z0 p d=true->Z0 q d'=true->Zd p+Zd q<=n->n<=m->Z9N m p q=Z9N n p q:=by
 intro n
 induction n with
 | zero=> intro m p q d d' _ _ h;obtain ⟨k,o,nw,w,ks,l,os⟩:=p;simp only [Zd] at h;omega
 | succ n ih=>
  intro m p q d d' hp hq h hm
  obtain ⟨m,rfl⟩:∃ k,m=k+1:=⟨m - 1,V0⟩
  show Jm (Z9N m) p q=Jm (Z9N n) p q
  exact Z6t hp hq fun a b hab ⟨d1,h1⟩ ⟨d2,h2⟩=> ih m a b d1 d2 h1 h2 V0 V0
theorem Zn6{p q:Edit}{d d':Int}(hp:Z0 p d=true)(hq:Z0 q d'=true):Y7 p q=Jm Y7 p q:=by
 have e:Y7 p q=Z9N (Zd p+Zd q+1) p q:=(ZeP _ _ p q d d' hp hq (Qm _) V0).symm
 rw [e]
 show Jm (Z9N (Zd p+Zd q)) p q=Jm Y7 p q
 exact Z6t hp hq fun a b hab ⟨d1,h1⟩ ⟨d2,h2⟩=> ZeP _ _ a b d1 d2 h1 h2 (Qm _) V0
end Go.AM.Ytfapacabjkhepaa
