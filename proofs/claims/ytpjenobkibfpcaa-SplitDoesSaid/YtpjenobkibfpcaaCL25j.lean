import Derived.Test.YtpjenobkibfpcaaKL21a
import Derived.Test.YtpjenobkibfpcaaKL22
set_option linter.unusedSimpArgs false
set_option linter.unusedVariables false
namespace Go.AM.Ytpjenobkibfpcaa
open Go.AM Go.Proofs
def Rx(x y:List Tree × List Tree):Prop:=EqvL x.1 y.1∧EqvL x.2 y.2
theorem Rx.rfl'(a:Option (List Tree × List Tree)):OptR Rx a a:=by cases a;exact trivial;exact ⟨rfl,rfl⟩
theorem Rx.of{a b:Option (List Tree × List Tree)}(h:a=b):OptR Rx a b:=by rw [h];exact Rx.rfl' b
theorem OptR.trans'{α:Type}{R:α→α→Prop}(ht:∀ x y z,R x y→R y z→R x z){a b c:Option α}(h1:OptR R a b)(h2:OptR R b c):OptR R a c:=by
 cases a <;> cases b <;> cases c <;> first | exact trivial | exact h1.elim | exact h2.elim | exact ht _ _ _ h1 h2
theorem Rx.trans{a b c:Option (List Tree × List Tree)}(h1:OptR Rx a b)(h2:OptR Rx b c):OptR Rx a c:=
 OptR.trans' (fun _ _ _ p q=> ⟨Eq.trans p.1 q.1,Eq.trans p.2 q.2⟩) h1 h2
theorem Z3x(r:Bool):∀ (a b:List Op) (rest out:List Tree),ZB r (a++b) rest out=(ZB r a rest out).bind fun x=> ZB r b x.2 x.1
 | [],b,rest,out=> by rw [ZB];try rfl
 | o ::s,b,rest,out=> by
  rw [List.cons_append,ZB,ZB]
  cases h:Z48 r o rest out with
  | none=> rfl
  | some x=> rw [Option.bind_some,Option.bind_some];exact Z3x r s b _ _
theorem Zcw(r:Bool)(o:Op)(rest out:List Tree):ZB r [o] rest out=Z48 r o rest out:=by
 rw [ZB]
 cases Z48 r o rest out with
 | none=> rfl
 | some x=> rw [Option.bind_some,ZB]
theorem Z5c(r:Bool)(a:List Op)(o:Op)(rest out:List Tree):ZB r (a++[o]) rest out=(ZB r a rest out).bind fun x=> Z48 r o x.2 x.1:=by
 rw [Z3x]
 congr 1
 funext x
 exact Zcw r o _ _
theorem Z5b{r:Bool}:∀ {os:List Op} {rest out:List Tree} {x:List Tree × List Tree},ZB r os rest out=some x→∃ n,x.2=rest.drop n
 | [],rest,out,x,h=> by rw [ZB] at h;cases h;exact ⟨0,by simp⟩
 | o ::s,rest,out,x,h=> by
  rw [ZB] at h
  obtain ⟨y,hy,hx⟩:=Option.bind_eq_some_iff.1 h
  obtain ⟨n,hn⟩:=Z5b hx
  have:∃ m,y.2=rest.drop m:=by
   rw [ZT] at hy
   split at hy
   ·split at hy
    ·cases hy;exact ⟨_,rfl⟩
    ·cases hy
   ·split at hy
    ·split at hy
     ·cases hy;exact ⟨_,rfl⟩
     ·cases hy
    ·split at hy
     ·cases hy;exact ⟨0,by simp⟩
     ·split at hy
      ·cases hy
      ·obtain ⟨u,_,e⟩:=Option.map_eq_some_iff.1 hy
       cases e
       exact ⟨1,rfl⟩
  obtain ⟨m,hm⟩:=this
  exact ⟨m+n,by rw [hn,hm,List.drop_drop]⟩
theorem Zma(rest:List Tree):Jc [] rest=true:=by unfold Jc;rw [Z47.2 (by simp)];simp
theorem Zhg(l rest:List Tree):Jc (Z5 l) rest=Jc l rest:=by
 unfold Jc
 rw [Z9S,show (Z5 l).length=l.length by simp [Z5]]
theorem Z26(l rest:List Tree):Jc l rest=true↔l.length≤rest.length∧Z5 l=Z5 (rest.take l.length):=by
 unfold Jc
 rw [Bool.and_eq_true,decide_eq_true_eq,Z47]
theorem Zmc(a b rest:List Tree):Jc (a++b) rest=(Jc a rest && Jc b (rest.drop a.length)):=by
 rw [Bool.eq_iff_iff,Bool.and_eq_true,Z26,Z26,Z26]
 simp only [List.length_append,List.length_drop]
 constructor
 ·rintro ⟨h1,h2⟩
  rw [J2,List.take_add,J2] at h2
  obtain ⟨h3,h4⟩:=List.append_inj h2 (by simp [Z5];omega)
  exact ⟨⟨by omega,h3⟩,by omega,h4⟩
 ·rintro ⟨⟨h1,h2⟩,h3,h4⟩
  refine ⟨by omega,?_⟩
  rw [J2,List.take_add,J2,h2,h4]
theorem Z8u(s:Wst)(rest out:List Tree):ZB false (Z1 s).out rest out=(ZB false s.out rest out).bind fun x=> if Jc s.gone x.2=true then some (x.1++s.brought,x.2.drop s.gone.length) else none:=by
 simp only [Z1,JN]
 rw [Z3x]
 congr 1
 funext x
 rw [Z3x]
 have h1:ZB false (if s.gone.length=0 then [] else [⟨1,0,s.gone,Edit.nil⟩]) x.2 x.1=if Jc s.gone x.2=true then some (x.1,x.2.drop s.gone.length) else none:=by
  split
  ·rename_i h
   rw [List.eq_nil_of_length_eq_zero h,Zma,if_pos rfl,ZB]
   try rfl
  ·rw [Zcw,ZT]
   rw [if_neg (by show ¬(1:Int)=0;omega),if_pos rfl]
 have h2:∀ y:List Tree × List Tree,ZB false (if s.brought.length=0 then [] else [⟨2,0,s.brought,Edit.nil⟩]) y.2 y.1=some (y.1++s.brought,y.2):=by
  intro y
  split
  ·rename_i h
   rw [List.eq_nil_of_length_eq_zero h,List.append_nil,ZB]
  ·rw [Zcw,ZT]
   rw [if_neg (by show ¬(2:Int)=0;omega),if_neg (by show ¬(2:Int)=1;omega),if_pos rfl]
 rw [h1]
 split
 ·rw [Option.bind_some,h2]
 ·try rfl
theorem ZrX{F:List Op}{n:Int}(hF:∀ o∈F,0≤o.n)(hn:0≤n)(rest out:List Tree):ZB false (Z0T F n) rest out=ZB false (F++[⟨0,n,[],Edit.nil⟩]) rest out:=by
 rcases YX F n with h | ⟨a,o,h1,h2,h3⟩
 ·rw [h]
 ·rw [h3,h1,Z5c,Z5c,Z5c]
  cases hx:ZB false a rest out with
  | none=> rfl
  | some x=>
   have ho:=hF o (by rw [h1];simp)
   simp only [Option.bind_some]
   rw [ZT,ZT,if_pos h2,if_pos h2]
   simp only
   have e:(o.n+n).toNat=o.n.toNat+n.toNat:=by omega
   rw [e]
   by_cases c:o.n.toNat≤x.2.length
   ·rw [if_pos c,Option.bind_some,ZT,if_pos rfl]
    simp only [List.length_drop]
    by_cases c2:n.toNat≤x.2.length - o.n.toNat
    ·rw [if_pos c2,if_pos (by omega),List.drop_drop,List.append_assoc,←List.take_add]
    ·rw [if_neg c2,if_neg (by omega)]
   ·rw [if_neg c,if_neg (by omega)]
    try rfl
def N0s(s:Wst):Prop:=∀ o∈s.out,0≤o.n
theorem N0s.flush{s:Wst}(h:N0s s):∀ o∈(Z1 s).out,0≤o.n:=by
 intro o ho
 simp only [Z1,JN,List.mem_append] at ho
 rcases ho with ho | ho | ho
 ·exact h o ho
 ·split at ho
  ·cases ho
  ·simp only [List.mem_singleton] at ho;subst ho;exact Int.le_refl 0
 ·split at ho
  ·cases ho
  ·simp only [List.mem_singleton] at ho;subst ho;exact Int.le_refl 0
theorem N0s.keep{s:Wst}(h:N0s s){n:Int}(hn:0≤n):N0s (ZL s n):=by
 intro o ho
 simp only [ZL] at ho
 rcases YX (Z1 s).out n with e | ⟨a,p,h1,h2,h3⟩
 ·rw [e] at ho
  rcases List.mem_append.1 ho with ho | ho
  ·exact h.flush o ho
  ·simp only [List.mem_singleton] at ho;subst ho;exact hn
 ·rw [h3] at ho
  rcases List.mem_append.1 ho with ho | ho
  ·exact h.flush o (by rw [h1];simp [ho])
  ·simp only [List.mem_singleton] at ho;subst ho
   have:=h.flush p (by rw [h1];simp)
   show 0≤p.n+n
   omega
theorem Zjv{list d:Int}{o:Op}(h:Z7 list o d=true):0≤o.n:=by
 have r:=Zx h
 cases r with
 | keep n h1=> show 0≤n;omega
 | gone | come | into=> exact Int.le_refl 0
theorem N0s.op{list d:Int}{s:Wst}{o:Op}(h:N0s s)(hr:Z7 list o d=true):N0s (Z0l list o s):=by
 rw [Z1j]
 split
 ·exact h.keep (Zjv hr)
 ·split
  ·exact h
  ·split
   ·exact h
   ·split
    ·split
     ·exact h.keep (by omega)
     ·intro p hp
      rcases List.mem_append.1 hp with hp | hp
      ·exact h.flush p hp
      ·simp only [List.mem_singleton] at hp;subst hp;exact Int.le_refl 0
    ·exact h
def K9(list:Int)(l:List Tree):Prop:=(∀ t∈l,RT_ t)∧(list=9→∀ t∈l,t.kind=1)
theorem K9.drop{list:Int}{l:List Tree}(h:K9 list l)(n:Nat):K9 list (l.drop n):=⟨fun t ht=> h.1 t (List.mem_of_mem_drop ht),fun e t ht=> h.2 e t (List.mem_of_mem_drop ht)⟩
theorem Zjw{d:Int}:∀ {l:List Tree},Yd 9 l d=true→∀ t∈l,t.kind=1
 | [],_,t,ht=> by cases ht
 | a ::r,h,t,ht=> by
  simp only [Yd,Bool.and_eq_true] at h
  rcases List.mem_cons.1 ht with rfl | ht
  ·have:=h.1.1
   simpa [Z1t] using this
  ·exact Zjw h.2 t ht
theorem RT_.k9{t:Tree}(h:RT_ t):K9 t.kind t.kids:=by
 refine ⟨h.kids.1,fun e=> ?_⟩
 obtain ⟨⟨d,h⟩,_⟩:=h
 obtain ⟨k,w,ks⟩:=t
 have e:k=9:=e
 subst e
 rw [Ze,if_neg (by omega),if_neg (by omega)] at h
 split at h
 ·cases h
 ·rw [if_neg (by omega)] at h
  simp only [Bool.and_eq_true] at h
  exact Zjw h.2
theorem ZqY {list d:Int} {s:Wst} {o:Op} (hs:N0s s) (hr:Z7 list o d=true) {rest:List Tree} (hk:K9 list rest) (out:List Tree)
  (ih:∀ y,RT_ y→Z4 o.e d=true→OptR Eqv (doE false (ZA o.e) y) (doE false o.e y)):
  OptR Rx (ZB false (Z1 (Z0l list o s)).out rest out) ((ZB false (Z1 s).out rest out).bind fun x=> Z48 false o x.2 x.1):=by
 have keep:∀ n:Int,0≤n→ZB false (Z1 (ZL s n)).out rest out=(ZB false (Z1 s).out rest out).bind fun x=> Z48 false ⟨0,n,[],Edit.nil⟩ x.2 x.1:=by
  intro n hn
  have e:(Z1 (ZL s n)).out=Z0T (Z1 s).out n:=by simp [Z1,JN,ZL]
  rw [e,ZrX hs.flush hn,Z5c]
 rw [Z1j]
 have r1:=Zbx hr
 by_cases h0:o.kind=0
 ·rw [if_pos h0,keep _ (Zjv hr)]
  refine Rx.of ?_
  congr 1
  funext x
  rw [ZT,ZT,if_pos rfl,if_pos h0]
 ·rw [if_neg h0]
  by_cases h1:o.kind=1
  ·rw [if_pos h1,Z8u,Z8u]
   refine Rx.of ?_
   rw [Option.bind_assoc]
   congr 1
   funext x
   simp only
   rw [Zmc,Zhg]
   by_cases c:Jc s.gone x.2=true
   ·rw [if_pos c,c,Bool.true_and,Option.bind_some,ZT,if_neg h0,if_pos h1]
    simp only
    rw [List.drop_drop,show (s.gone++Z5 o.l).length=s.gone.length+o.l.length by simp [Z5]]
   ·rw [if_neg c,if_neg (by simp only [Bool.and_eq_true];exact fun h=> c h.1)]
    try rfl
  ·rw [if_neg h1]
   by_cases h2:o.kind=2
   ·rw [if_pos h2,Z8u,Z8u,Option.bind_assoc]
    refine OptR.bind (R:=Eq) (OptR.rfl' _) ?_
    rintro x _ rfl
    simp only
    split
    ·rw [Option.bind_some,ZT,if_neg h0,if_neg h1,if_pos h2]
     refine ⟨?_,rfl⟩
     show Z5 (x.1++(s.brought++Z5 o.l))=Z5 (x.1++s.brought++o.l)
     simp only [J2,Z9S,List.append_assoc]
    ·exact trivial
   ·have h3:o.kind=3:=by rcases r1 with h | h | h | h <;> first | exact absurd h h0 | exact absurd h h1 | exact absurd h h2 | exact h
    rw [if_neg h2,if_pos h3]
    have hre:=J0 hr h3
    have ra:=Zx hr
    by_cases hi:Z6j list (ZA o.e)=true
    ·rw [if_pos hi,keep 1 (by omega)]
     cases hx:ZB false (Z1 s).out rest out with
     | none=> exact trivial
     | some x=>
      obtain ⟨m,hm⟩:=Z5b hx
      have hk2:=hk.drop m
      rw [←hm] at hk2
      simp only [Option.bind_some]
      rw [ZT,ZT,if_pos rfl,if_neg h0,if_neg h1,if_neg h2]
      cases hx2:x.2 with
      | nil=> exact trivial
      | cons y q=>
       rw [hx2] at hk2
       have hek:o.e.kind≠0:=by
        cases ra with
        | into e _ h=> exact h
        | keep | gone | come=> exact absurd h3 (by simp)
       simp only [Z6j,decide_eq_true_eq,Z3h] at hi
       rcases hi with hi | ⟨hl9,he2,hw,hks⟩
       ·exact absurd hi hek
       ·have hy:=hk2.2 hl9 y List.mem_cons_self
        have hn:=Z41 o.e
        rw [if_neg (by omega),if_pos he2] at hn
        have e1:o.e.words=[]:=by rw [hn] at hw;exact List.eq_nil_of_length_eq_zero hw
        have e2:o.e.kids=[]:=by
         rw [hn] at hks
         have:(Jj o.e.kids).length=0:=hks
         cases hh:o.e.kids with
         | nil=> rfl
         | cons a b=> rw [hh] at this;simp [Jj] at this
        have hd:doE false o.e y=some (.mk 1 y.words y.kids):=by
         rw [Z17,if_neg hek,if_neg (by omega),if_pos he2,if_pos hy,e1,e2,wsD,Option.bind_some,JX]
         try rfl
        rw [if_neg (show ¬(y ::q).length=0 by simp),List.getD_cons_zero,hd,if_pos (show Int.toNat 1≤(y ::q).length by simp)]
        refine ⟨?_,rfl⟩
        show Z5 (x.1++[y])=Z5 (x.1++[Tree.mk 1 y.words y.kids])
        rw [show Tree.mk 1 y.words y.kids=y by rw [←hy];exact Tree.eta y]
    ·rw [if_neg hi]
     have e:(Z1 ⟨(Z1 s).out++[⟨3,0,[],ZA o.e⟩],[],[]⟩).out=(Z1 s).out++[⟨3,0,[],ZA o.e⟩]:=by simp [Z1,JN]
     rw [e,Z5c]
     cases hx:ZB false (Z1 s).out rest out with
     | none=> exact trivial
     | some x=>
      obtain ⟨m,hm⟩:=Z5b hx
      have hk2:=hk.drop m
      rw [←hm] at hk2
      simp only [Option.bind_some]
      rw [ZT,ZT,if_neg h0,if_neg h1,if_neg h2,if_neg (by show ¬(3:Int)=0;omega),if_neg (by show ¬(3:Int)=1;omega),if_neg (by show ¬(3:Int)=2;omega)]
      refine OptR.ite Iff.rfl (fun _=> trivial) fun _=> ?_
      exact (ih _ (Zq6 hk2.1 0) hre).map fun u v h=> ⟨JU rfl (Z5I.2 h),rfl⟩
mutual
theorem Zid:∀ (e:Edit) (d:Int) (t:Tree),Z4 e d=true→RT_ t→OptR Eqv (doE false (ZA e) t) (doE false e t)
 | .mk k o n w ks l os,d,t,hr,ht=> by
  have ri:=Zw hr
  have h1:=ZgK ks
  have h2:=ZgJ l os
  have hkid:=ht.kids.1
  have hn:ZA (.mk k o n w ks l os)=if k=1 then .mk k (Z3 o) (Z3 n) [] [] l [] else if k=2 then .mk k Tree.nil Tree.nil w (Jj ks) l [] else if k=3 then .mk k Tree.nil Tree.nil [] [] l (Z1 (ZY l os ⟨[],[],[]⟩)).out else .mk k Tree.nil Tree.nil [] [] l []:=by rw [ZA]
  rw [Z8y,Z8y,YQ,YQ]
  by_cases c1:k=1
  ·subst c1
   rw [if_pos rfl] at hn
   unfold Zi6
   rw [hn]
   refine OptR.ite Iff.rfl (fun _=> rfl) fun _=> OptR.ite Iff.rfl (fun _=> ?_) (fun h=> absurd rfl h)
   show OptR Eqv (if YT (Z3 (Z3 o)) (Z3 t)=true then some (Z3 n) else none) (if YT (Z3 o) (Z3 t)=true then some n else none)
   rw [Z2m]
   exact OptR.ite Iff.rfl (fun _=> Z2m n) (fun _=> trivial)
  ·by_cases c2:k=2
   ·subst c2
    rw [if_neg c1,if_pos rfl] at hn
    unfold Zi6
    rw [hn]
    refine OptR.ite Iff.rfl (fun _=> rfl) fun _=> OptR.ite Iff.rfl (fun h=> absurd h c1) fun _=> OptR.ite Iff.rfl (fun _=> ?_) (fun h=> absurd rfl h)
    refine OptR.ite Iff.rfl (fun ht1=> ?_) (fun _=> trivial)
    refine OptR.bind (R:=Eq) (OptR.rfl' _) ?_
    rintro a _ rfl
    exact (h1 (d - 1) t.kids t.kids t.kids (fun k hk=> (ZK ri.kids k hk).2) hkid rfl).map fun x y h=> Z4Q _ _ h
   ·by_cases c3:k=3
    ·subst c3
     rw [if_neg c1,if_neg c2,if_pos rfl] at hn
     unfold Zi6
     rw [hn]
     refine OptR.ite Iff.rfl (fun _=> rfl) fun _=> OptR.ite Iff.rfl (fun h=> absurd h c1) fun _=> OptR.ite Iff.rfl (fun h=> absurd h c2) fun _=> OptR.ite Iff.rfl (fun _=> ?_) (fun h=> absurd rfl h)
     refine OptR.ite Iff.rfl (fun ht1=> ?_) (fun _=> trivial)
     have hk9:=ht.k9
     rw [ht1] at hk9
     have:=h2 (d - 1) ⟨[],[],[]⟩ t.kids [] (fun o ho=> Go.AM.rightOs_mem ri.ops o ho) (fun o ho=> by cases ho) hk9
     exact (Zhj this).map fun x y h=> Z4Q _ _ h
    ·have e0:k=0:=by have:=ri.kind;have:0≤k∧k≤3:=this;omega
     subst e0
     rw [if_neg c1,if_neg c2,if_neg c3] at hn
     unfold Zi6
     rw [hn]
     exact OptR.ite Iff.rfl (fun _=> rfl) fun h=> absurd rfl h
theorem ZgK:∀ (ks:List (KidOf Edit)) (d:Int) (tk a b:List Tree),(∀ k∈ks,Z4 k.e d=true)→(∀ t∈tk,RT_ t)→EqvL a b→OptR EqvL (JX false tk (Jj ks) a) (JX false tk ks b)
 | [],d,tk,a,b,_,_,h=> by rw [Jj];exact h
 | k ::r,d,tk,a,b,hr,ht,h=> by
  rw [Jj,JX,JX]
  have e:(Z11 k).at_=k.at_:=by cases k;rfl
  rw [e]
  refine (ZlO k d tk (hr k List.mem_cons_self) ht).bind fun x y hxy=> ZgK r d tk _ _ (fun q hq=> hr q (List.mem_cons_of_mem _ hq)) ht (ZdO h hxy)
theorem ZlO:∀ (k:KidOf Edit) (d:Int) (tk:List Tree),Z4 k.e d=true→(∀ t∈tk,RT_ t)→OptR Eqv (Z2S false tk (Z11 k)) (Z2S false tk k)
 | ⟨a,e⟩,d,tk,hr,ht=> by rw [Z11,Z2S,Z2S];exact Zid e d _ hr (Zq6 ht _)
theorem ZgJ(list:Int):∀ (os:List (OpOf Edit)) (d:Int) (s:Wst) (rest out:List Tree),(∀ o∈os,Z7 list o d=true)→N0s s→K9 list rest→OptR Rx (ZB false (Z1 (ZY list os s)).out rest out) (ZB false ((Z1 s).out++os) rest out)
 | [],d,s,rest,out,_,_,_=> by rw [ZY,List.append_nil];exact Rx.rfl' _
 | o ::r,d,s,rest,out,hr,hs,hk=> by
  have ho:=hr o List.mem_cons_self
  have st:=ZqY hs ho hk out (Zom o d)
  rw [ZY]
  refine Rx.trans (ZgJ list r d _ rest out (fun q hq=> hr q (List.mem_cons_of_mem _ hq)) (hs.op ho) hk) ?_
  rw [Z3x,Z3x]
  have e:∀ x:List Tree × List Tree,ZB false (o ::r) x.2 x.1=(Z48 false o x.2 x.1).bind fun y=> ZB false r y.2 y.1:=fun x=> by rw [ZB]
  rw [show (fun x:List Tree × List Tree=> ZB false (o ::r) x.2 x.1)=fun x=> (Z48 false o x.2 x.1).bind fun y=> ZB false r y.2 y.1 from funext e,←Option.bind_assoc]
  exact st.bind fun x y hxy=> Zcx r _ _ _ _ hxy.2 hxy.1 (fun q hq=> ⟨_,_,hr q (List.mem_cons_of_mem _ hq)⟩)
theorem Zom:∀ (o:OpOf Edit) (d:Int),∀ y,RT_ y→Z4 o.e d=true→OptR Eqv (doE false (ZA o.e) y) (doE false o.e y)
 | ⟨_,_,_,e⟩,d,y,hy,hr=> Zid e d y hr hy
end
end Go.AM.Ytpjenobkibfpcaa
namespace Go.AM.Ytpjenobkibfpcaa
open Go.AM Go.Proofs
theorem Za1:∀ {ks:List Kid} {k:Kid},k∈ks→Z6 k.e≤Zi ks
 | ⟨_,_⟩ ::r,k,h=> by
  rcases List.mem_cons.1 h with rfl | h
  ·simp only [Zi,ZO];omega
  ·have:=Za1 h;simp only [Zi];omega
theorem Z4V:∀ {os:List Op} {o:Op},o∈os→Zn o≤Zc os
 | a ::r,o,h=> by
  rcases List.mem_cons.1 h with rfl | h
  ·simp only [Zc];omega
  ·have:=Z4V h;simp only [Zc];omega
theorem ZlX(o:Op):Z6 o.e≤Zn o:=by obtain ⟨k,n,l,e⟩:=o;simp only [Zn];omega
theorem J9{e:Edit}{k:Kid}(h:k∈e.kids):Z6 k.e < Z6 e:=by
 obtain ⟨kk,o,n,w,ks,l,os⟩:=e
 have:=Za1 (ks:=ks) h
 simp only [Z6];omega
theorem JK{e:Edit}{o:Op}(h:o∈e.ops):Z6 o.e < Z6 e:=by
 obtain ⟨kk,ol,n,w,ks,l,os⟩:=e
 have:=Z4V (os:=os) h
 have:=ZlX o
 simp only [Z6];omega
mutual
theorem Jn:∀ (t:Tree) (d m:Int),m < 0→Ze t d=true→Ze t m=true
 | .mk k w ks,d,m,hm,h=> by
  rw [Ze] at h ⊢
  by_cases h0:k=0
  ·rw [if_pos h0] at h ⊢;exact h
  ·rw [if_neg h0] at h ⊢
   by_cases h1:k=10
   ·rw [if_pos h1] at h ⊢;exact h
   ·rw [if_neg h1] at h ⊢
    by_cases h2:d=0
    ·rw [if_pos h2] at h;cases h
    ·rw [if_neg h2] at h
     rw [if_neg (by omega)]
     by_cases h3:k=1
     ·rw [if_pos h3,Bool.and_eq_true] at h ⊢
      exact ⟨h.1,Z6w 1 ks (d - 1) (m - 1) (by omega) h.2⟩
     ·rw [if_neg h3,Bool.and_eq_true] at h ⊢
      exact ⟨h.1,Z6w k ks (d - 1) (m - 1) (by omega) h.2⟩
theorem Z6w(list:Int):∀ (ks:List Tree) (d m:Int),m < 0→Yd list ks d=true→Yd list ks m=true
 | [],_,_,_,_=> rfl
 | t ::r,d,m,hm,h=> by
  simp only [Yd,Bool.and_eq_true] at h ⊢
  exact ⟨⟨h.1.1,Jn t d m hm h.1.2⟩,Z6w list r d m hm h.2⟩
end
theorem Z2b{list d:Int}:∀ {ks:List Tree},Yd list ks d=true↔∀ t∈ks,Z1t list t=true∧Ze t d=true
 | []=> by simp [Yd]
 | t ::r=> by
  simp only [Yd,Bool.and_eq_true,Z2b (ks:=r),List.mem_cons,forall_eq_or_imp]
theorem Z4z{t:Tree}(h:Ze t (-1)=true):t.kind≠0→t.kind≠10→
  (t.kind=1→t.words.length < 65536∧t.kids.length < 65536)∧(t.kind≠1→(2≤t.kind∧t.kind≤9)∧t.words=[]∧t.kids.length < 1048576)∧∀ k∈t.kids,Z1t t.kind k=true∧Ze k (-1)=true:=by
 obtain ⟨k,w,ks⟩:=t
 intro h0 h1
 have h0:k≠0:=h0
 have h1:k≠10:=h1
 rw [Ze,if_neg h0,if_neg h1,if_neg (by decide)] at h
 by_cases h3:k=1
 ·rw [if_pos h3,Bool.and_eq_true,decide_eq_true_eq,Z2b] at h
  subst h3
  exact ⟨fun _=> h.1,fun e=> absurd rfl e,fun x hx=> ⟨(h.2 x hx).1,Jn _ _ _ (by decide) (h.2 x hx).2⟩⟩
 ·rw [if_neg h3,Bool.and_eq_true,decide_eq_true_eq,Z2b] at h
  exact ⟨fun e=> absurd e h3,fun _=> ⟨⟨h.1.1,h.1.2.1⟩,List.eq_nil_of_length_eq_zero h.1.2.2.1,h.1.2.2.2⟩,fun x hx=> ⟨(h.2 x hx).1,Jn _ _ _ (by decide) (h.2 x hx).2⟩⟩
theorem ZeB{w:List Int}{ks:List Tree}(h1:w.length < 65536)(h2:ks.length < 65536)(h:∀ k∈ks,Z1t 1 k=true∧Ze k (-1)=true):Ze (.mk 1 w ks) (-1)=true:=by
 rw [Ze,if_neg (by decide),if_neg (by decide),if_neg (by decide),if_pos rfl,Bool.and_eq_true,decide_eq_true_eq,Z2b]
 exact ⟨⟨h1,h2⟩,fun x hx=> ⟨(h x hx).1,Jn _ _ _ (by decide) (h x hx).2⟩⟩
theorem Zbv{l:Int}{ks:List Tree}(hl:2≤l∧l≤9)(h2:ks.length < 1048576)(h:∀ k∈ks,Z1t l k=true∧Ze k (-1)=true):Ze (.mk l [] ks) (-1)=true:=by
 rw [Ze,if_neg (by omega),if_neg (by omega),if_neg (by decide),if_neg (by omega),Bool.and_eq_true,decide_eq_true_eq,Z2b]
 exact ⟨⟨hl.1,hl.2,rfl,h2⟩,fun x hx=> ⟨(h x hx).1,Jn _ _ _ (by decide) (h x hx).2⟩⟩
theorem Z2z{D list:Int}:∀ {l:List Tree},Yg D list l=true→∀ t∈l,Ze (.mk list [] [t]) D=true
 | a ::r,h,t,ht=> by
  simp only [Yg,Bool.and_eq_true] at h
  rcases List.mem_cons.1 ht with rfl | ht
  ·exact h.1
  ·exact Z2z h.2 t ht
theorem Z05{D list:Int}(hl:2≤list∧list≤9){l:List Tree}(h:Yg D list l=true):∀ t∈l,Z1t list t=true∧Ze t (-1)=true:=by
 intro t ht
 have:=Z4z (Jn _ _ (-1) (by decide) (Z2z h t ht)) (by show list≠0;omega) (by show list≠10;omega)
 exact this.2.2 t (by simp)
inductive Run:List Op→List Tree→List Tree→Prop
 | nil:Run [] [] []
 | keep {o r a s d}:o.kind=0→(a.length:Int)=o.n→Run r s d→Run (o ::r) (a++s) (a++d)
 | gone {o r a s d}:o.kind=1→Z5 o.l=Z5 a→Run r s d→Run (o ::r) (a++s) d
 | come {o r s d}:o.kind=2→Run r s d→Run (o ::r) s (o.l++d)
 | into {o r x y s d}:o.kind=3→doE false o.e x=some y→Run r s d→Run (o ::r) (x ::s) (y ::d)
def kOk(o:Op):Prop:=(o.kind=0∧0≤o.n)∨o.kind=1∨o.kind=2∨o.kind=3
theorem ZtR:∀ {os:List Op} {s d:List Tree},Run os s d→∀ out,ZB false os s out=some (out++d,[]):=by
 intro os s d h
 induction h with
 | nil=> intro out;simp [ZB]
 | keep h0 hn hr0 ih=>
  rename_i o r a s d
  intro out
  rw [ZB,ZT,if_pos h0,if_pos (by rw [List.length_append];omega),show o.n.toNat=a.length by omega]
  simp only [Option.bind_some,List.take_left,List.drop_left]
  rw [ih,List.append_assoc]
 | gone h1 hn hr0 ih=>
  rename_i o r a s d
  intro out
  have hl:=Z3i hn
  rw [ZB,ZT,if_neg (by omega),if_pos h1,if_pos]
  ·simp only [Option.bind_some]
   rw [hl,List.drop_left,ih]
  ·rw [Z26,hl,List.take_left]
   exact ⟨by simp,hn⟩
 | come h2 hr0 ih=>
  intro out
  rw [ZB,ZT,if_neg (by omega),if_neg (by omega),if_pos h2]
  simp only [Option.bind_some]
  rw [ih,List.append_assoc]
 | into h3 he hr0 ih=>
  intro out
  rw [ZB,ZT,if_neg (by omega),if_neg (by omega),if_neg (by omega),if_neg (by simp)]
  simp only [List.getD_cons_zero,he,Option.map_some,Option.bind_some,List.drop_succ_cons,List.drop_zero]
  rw [ih,List.append_assoc]
  try rfl
theorem Zcv:∀ {os:List Op} {s out:List Tree} {x:List Tree × List Tree},(∀ o∈os,kOk o)→ZB false os s out=some x→x.2=[]→∃ d,x.1=out++d∧Run os s d
 | [],s,out,x,_,h,hx=> by
  rw [ZB] at h
  cases h
  have hx:s=[]:=hx
  subst hx
  exact ⟨[],by simp,.nil⟩
 | o ::r,s,out,x,hk,h,hx=> by
  rw [ZB,ZT] at h
  have hr:∀ o∈r,kOk o:=fun o ho=> hk o (List.mem_cons_of_mem _ ho)
  rcases hk o List.mem_cons_self with h0 | h1 | h2 | h3
  ·rw [if_pos h0.1] at h
   split at h
   ·rename_i hl
    simp only [Option.bind_some] at h
    obtain ⟨d,e,hd⟩:=Zcv hr h hx
    refine ⟨s.take o.n.toNat++d,by rw [e,List.append_assoc],?_⟩
    have:=Run.keep (a:=s.take o.n.toNat) h0.1 (by rw [List.length_take];omega) hd
    rwa [List.take_append_drop] at this
   ·cases h
  ·rw [if_neg (by omega),if_pos h1] at h
   split at h
   ·rename_i hg
    obtain ⟨g1,g2⟩:=(Z26 _ _).1 hg
    simp only [Option.bind_some] at h
    obtain ⟨d,e,hd⟩:=Zcv hr h hx
    refine ⟨d,e,?_⟩
    have:=Run.gone (a:=s.take o.l.length) h1 g2 hd
    rwa [List.take_append_drop] at this
   ·cases h
  ·rw [if_neg (by omega),if_neg (by omega),if_pos h2] at h
   simp only [Option.bind_some] at h
   obtain ⟨d,e,hd⟩:=Zcv hr h hx
   exact ⟨o.l++d,by rw [e,List.append_assoc],.come h2 hd⟩
  ·rw [if_neg (by omega),if_neg (by omega),if_neg (by omega)] at h
   split at h
   ·cases h
   ·rename_i hl
    obtain ⟨y,hy,h⟩:=Option.bind_eq_some_iff.1 h
    obtain ⟨z,hz,rfl⟩:=Option.map_eq_some_iff.1 hy
    obtain ⟨d,e,hd⟩:=Zcv hr h hx
    cases s with
    | nil=> simp at hl
    | cons x0 s=>
     refine ⟨z ::d,by rw [e];simp,.into h3 (by simpa using hz) (by simpa using hd)⟩
theorem Zki{os:List Op}{s d:List Tree}(hk:∀ o∈os,kOk o):Z1H (ZB false os s [])=some d↔Run os s d:=by
 constructor
 ·intro h
  unfold Z1H at h
  obtain ⟨x,hx,h⟩:=Option.bind_eq_some_iff.1 h
  split at h
  ·rename_i hl
   cases h
   obtain ⟨d,e,hd⟩:=Zcv hk hx (List.eq_nil_of_length_eq_zero hl)
   rw [e];exact hd
  ·cases h
 ·intro h
  have:=ZtR h []
  unfold Z1H
  rw [this]
  simp
theorem Ze2{list d:Int}{o:Op}(h:Z7 list o d=true):kOk o:=by
 have:=Zx h
 cases this with
 | keep n h1=> exact .inl ⟨rfl,by show 0≤n;omega⟩
 | gone=> exact .inr (.inl rfl)
 | come=> exact .inr (.inr (.inl rfl))
 | into=> exact .inr (.inr (.inr rfl))
theorem Zjq:∀ {os:List Op} {s d:List Tree},Run os s d→(∀ o∈os,YG o)→(s.length:Int)=Y3 os∧(d.length:Int)=YO os:=by
 intro os s d h
 induction h with
 | nil=> intro _;simp [Y3,YO]
 | keep h0 hn hr0 ih=>
  rename_i o r a s d
  intro hk
  obtain ⟨i1,i2⟩:=ih fun o ho=> hk o (List.mem_cons_of_mem _ ho)
  have ho:=hk o List.mem_cons_self
  have hl:Z0 o=o.n:=by
   rcases ho with h | h | h
   ·unfold Z0;rw [if_neg (by omega),h.2.1];simp
   ·omega
   ·omega
  simp only [Y3,YO,List.length_append]
  rw [if_neg (by omega),if_neg (by omega),hl]
  omega
 | gone h1 hn hr0 ih=>
  rename_i o r a s d
  intro hk
  obtain ⟨i1,i2⟩:=ih fun o ho=> hk o (List.mem_cons_of_mem _ ho)
  have ho:=hk o List.mem_cons_self
  have hl:Z0 o=a.length:=by
   have:=Z3i hn
   rcases ho with h | h | h
   ·omega
   ·unfold Z0;rw [if_neg (by omega),h.2.1];omega
   ·omega
  simp only [Y3,YO,List.length_append]
  rw [if_neg (by omega),if_pos h1,hl]
  omega
 | come h2 hr0 ih=>
  rename_i o r s d
  intro hk
  obtain ⟨i1,i2⟩:=ih fun o ho=> hk o (List.mem_cons_of_mem _ ho)
  have ho:=hk o List.mem_cons_self
  have hl:Z0 o=o.l.length:=by
   rcases ho with h | h | h
   ·omega
   ·unfold Z0;rw [if_neg (by omega),h.2.1];omega
   ·omega
  simp only [Y3,YO,List.length_append]
  rw [if_pos h2,if_neg (by omega),hl]
  omega
 | into h3 he hr0 ih=>
  rename_i o r x y s d
  intro hk
  obtain ⟨i1,i2⟩:=ih fun o ho=> hk o (List.mem_cons_of_mem _ ho)
  have hl:Z0 o=1:=by unfold Z0;rw [if_pos h3]
  simp only [Y3,YO,List.length_cons]
  rw [if_neg (by omega),if_neg (by omega),hl]
  omega
end Go.AM.Ytpjenobkibfpcaa
namespace Go.AM.Ytpjenobkibfpcaa
open Go.AM Go.Proofs
theorem Zhl{r:Bool}{tk:List Tree}:∀ {ks:List Kid} {out b:List Tree},JX r tk ks out=some b→(∀ k∈ks,k.at_≤65534)→
  b.length≤max out.length 65535∧∀ y∈b,y∈out∨y=Tree.nil∨∃ k∈ks,doE r k.e (tk.getD k.at_.toNat Tree.nil)=some y
 | [],out,b,h,_=> by
  rw [JX] at h
  cases h
  exact ⟨by omega,fun y hy=> .inl hy⟩
 | k ::s,out,b,h,ha=> by
  rw [JX,Z8x] at h
  obtain ⟨v,hv,hb⟩:=Option.bind_eq_some_iff.1 h
  obtain ⟨i1,i2⟩:=Zhl hb fun x hx=> ha x (List.mem_cons_of_mem _ hx)
  have:=ha k List.mem_cons_self
  rw [Z2Y] at i1
  refine ⟨by omega,fun y hy=> ?_⟩
  rcases i2 y hy with h1 | h1 | ⟨q,hq,h1⟩
  ·rcases Z6r h1 with h1 | h1 | h1
   ·exact .inl h1
   ·exact .inr (.inl h1)
   ·subst h1
    exact .inr (.inr ⟨k,List.mem_cons_self,hv⟩)
  ·exact .inr (.inl h1)
  ·exact .inr (.inr ⟨q,List.mem_cons_of_mem _ hq,h1⟩)
theorem Zr3:∀ {os:List Op} {s d:List Tree},Run os s d→∀ y∈d,y∈s∨(∃ o∈os,o.kind=2∧y∈o.l)∨∃ o∈os,o.kind=3∧∃ x∈s,doE false o.e x=some y:=by
 intro os s d h
 induction h with
 | nil=> intro y hy;cases hy
 | keep h0 hn hr0 ih=>
  intro y hy
  rcases List.mem_append.1 hy with hy | hy
  ·exact .inl (List.mem_append_left _ hy)
  ·rcases ih y hy with h | ⟨o,ho,h⟩ | ⟨o,ho,hk,x,hx,h⟩
   ·exact .inl (List.mem_append_right _ h)
   ·exact .inr (.inl ⟨o,List.mem_cons_of_mem _ ho,h⟩)
   ·exact .inr (.inr ⟨o,List.mem_cons_of_mem _ ho,hk,x,List.mem_append_right _ hx,h⟩)
 | gone h1 hn hr0 ih=>
  intro y hy
  rcases ih y hy with h | ⟨o,ho,h⟩ | ⟨o,ho,hk,x,hx,h⟩
  ·exact .inl (List.mem_append_right _ h)
  ·exact .inr (.inl ⟨o,List.mem_cons_of_mem _ ho,h⟩)
  ·exact .inr (.inr ⟨o,List.mem_cons_of_mem _ ho,hk,x,List.mem_append_right _ hx,h⟩)
 | come h2 hr0 ih=>
  intro y hy
  rcases List.mem_append.1 hy with hy | hy
  ·exact .inr (.inl ⟨_,List.mem_cons_self,h2,hy⟩)
  ·rcases ih y hy with h | ⟨o,ho,h⟩ | ⟨o,ho,hk,x,hx,h⟩
   ·exact .inl h
   ·exact .inr (.inl ⟨o,List.mem_cons_of_mem _ ho,h⟩)
   ·exact .inr (.inr ⟨o,List.mem_cons_of_mem _ ho,hk,x,hx,h⟩)
 | into h3 he hr0 ih=>
  intro y hy
  rcases List.mem_cons.1 hy with rfl | hy
  ·exact .inr (.inr ⟨_,List.mem_cons_self,h3,_,List.mem_cons_self,he⟩)
  ·rcases ih y hy with h | ⟨o,ho,h⟩ | ⟨o,ho,hk,x,hx,h⟩
   ·exact .inl (List.mem_cons_of_mem _ h)
   ·exact .inr (.inl ⟨o,List.mem_cons_of_mem _ ho,h⟩)
   ·exact .inr (.inr ⟨o,List.mem_cons_of_mem _ ho,hk,x,List.mem_cons_of_mem _ hx,h⟩)
theorem ZuX{y:Tree}(h:y.kind≠10):Z1t 1 y=true:=by
 unfold Z1t
 rw [if_neg (by decide),if_neg (by decide)]
 exact decide_eq_true h
theorem Z6M{list d:Int}{os:List Op}(h:Zq list os d=true):∀ o∈os,YG o:=fun o ho=> Yh (rightOs_mem h ho)
theorem Z0z{o:Op}(h:YG o):0≤Z0 o:=by have:=YH h;omega
theorem Z8w{e:Edit}{d:Int}{t u:Tree}(hr:Z4 e d=true)(h:doE false e t=some u):(e.kind=1→u=e.new)∧(e.kind=2→u.kind=1∧t.kind=1)∧(e.kind=3→u.kind=e.list∧t.kind=e.list)∧(e.kind=0→u=t):=by
 rw [Z17,YQ] at h
 refine ⟨fun hk=> ?_,fun hk=> ?_,fun hk=> ?_,fun hk=> ?_⟩
 ·rw [if_neg (by omega),if_pos hk] at h
  split at h
  ·exact (Option.some.inj h).symm
  ·cases h
 ·rw [if_neg (by omega),if_neg (by omega),if_pos hk] at h
  split at h
  ·rename_i ht
   obtain ⟨a,ha,h⟩:=Option.bind_eq_some_iff.1 h
   obtain ⟨b,hb,rfl⟩:=Option.map_eq_some_iff.1 h
   exact ⟨rfl,ht⟩
  ·cases h
 ·rw [if_neg (by omega),if_neg (by omega),if_neg (by omega),if_pos hk] at h
  split at h
  ·rename_i ht
   obtain ⟨b,hb,rfl⟩:=Option.map_eq_some_iff.1 h
   exact ⟨rfl,ht⟩
  ·cases h
 ·rw [if_pos hk] at h
  exact (Option.some.inj h).symm
theorem Z3w:∀ (n:Nat) (e:Edit) (d:Int) (t u:Tree),Z6 e≤n→Z4 e d=true→Ze t (-1)=true→doE false e t=some u→Ze u (-1)=true∧(e.kind≠0→u.kind≠10):=by
 intro n
 induction n with
 | zero=> intro e d t u hm;obtain ⟨k,o,nw,w,ks,l,os⟩:=e;simp only [Z6] at hm;omega
 | succ n ih=>
  intro e d t u hm hr ht h
  have R:=Zw hr
  obtain ⟨k1,k2,k3,k0⟩:=Z8w hr h
  have hk:=R.kind
  by_cases h0:e.kind=0
  ·rw [k0 h0];exact ⟨ht,fun q=> absurd h0 q⟩
  by_cases h1:e.kind=1
  ·rw [k1 h1]
   obtain ⟨r1,r2,r3,r4⟩:=R.rep h1
   exact ⟨Jn _ _ _ (by decide) r2,fun _=> r4⟩
  by_cases h2:e.kind=2
  ·obtain ⟨u1,t1⟩:=k2 h2
   refine ⟨?_,fun _=> by omega⟩
   rw [Z17,YQ,if_neg h0,if_neg h1,if_pos h2,if_pos t1] at h
   obtain ⟨a,ha,h⟩:=Option.bind_eq_some_iff.1 h
   obtain ⟨b,hb,rfl⟩:=Option.map_eq_some_iff.1 h
   obtain ⟨p1,_,p3⟩:=Z4z ht (by omega) (by omega)
   have p1:=p1 t1
   rw [t1] at p3
   have hl:=Zel R.words ha
   have ha':=ZK R.kids
   obtain ⟨m1,m2⟩:=Zhl hb fun k hk=> (ha' k hk).1.2.1
   refine ZeB (by omega) (by omega) fun y hy=> ?_
   rcases m2 y hy with h | rfl | ⟨k,hk,h⟩
   ·exact p3 y h
   ·exact ⟨rfl,rfl⟩
   ·have hx:Ze (t.kids.getD k.at_.toNat Tree.nil) (-1)=true:=by
     by_cases hi:k.at_.toNat < t.kids.length
     ·rw [List.getD_eq_getElem?_getD,List.getElem?_eq_getElem hi]
      exact (p3 _ (List.getElem_mem hi)).2
     ·rw [List.getD_eq_getElem?_getD,List.getElem?_eq_none (by omega)];try rfl
    obtain ⟨g1,g2⟩:=ih k.e _ _ y (by have:=J9 hk;omega) (ha' k hk).2 hx h
    exact ⟨ZuX (g2 (ha' k hk).1.2.2),g1⟩
  ·have h3:e.kind=3:=by omega
   obtain ⟨u1,t1⟩:=k3 h3
   have hli:=R.list h3
   refine ⟨?_,fun _=> by omega⟩
   rw [Z17,YQ,if_neg h0,if_neg h1,if_neg h2,if_pos h3,if_pos t1] at h
   obtain ⟨b,hb,rfl⟩:=Option.map_eq_some_iff.1 h
   have ho:∀ o∈e.ops,Z7 e.list o (d - 1)=true:=fun o h=> rightOs_mem R.ops h
   have hrun:=(Zki (fun o h=> Ze2 (ho o h))).1 hb
   obtain ⟨_,q2⟩:=Zjq hrun (Z6M R.ops)
   obtain ⟨q3,q4⟩:=YW e.ops 0 (fun o h=> Z0z (Z6M R.ops o h)) (by decide) (by decide)
   have q5:=R.len.2
   obtain ⟨_,_,p3⟩:=Z4z ht (by omega) (by omega)
   rw [t1] at p3
   refine Zbv hli (by omega) fun y hy=> ?_
   rcases Zr3 hrun y hy with h | ⟨o,hoo,hk2,hyl⟩ | ⟨o,hoo,hk3,x,hx,h⟩
   ·exact p3 y h
   ·have:=Zx (ho o hoo)
    cases this with
    | come l h1 h2=> exact Z05 hli h1 y hyl
    | keep | gone | into=> exact absurd hk2 (by simp)
   ·have:=Zx (ho o hoo)
    cases this with
    | into e' g1 g2 g3 g4=>
     obtain ⟨f1,f2⟩:=ih e' _ x y (by have:=JK hoo;dsimp only at this;omega) g1 (p3 x hx).2 h
     refine ⟨?_,f1⟩
     obtain ⟨j1,j2,_,_⟩:=Z8w g1 h
     unfold Z1t
     rw [if_neg (by omega)]
     by_cases hl9:e.list=9
     ·rw [if_pos hl9]
      refine decide_eq_true ?_
      rcases g4 with q | q | q
      ·omega
      ·exact (j2 q).1
      ·rw [j1 q.1];exact q.2.2
     ·rw [if_neg hl9]
      exact decide_eq_true (f2 g2)
    | keep | gone | come=> exact absurd hk3 (by simp)
end Go.AM.Ytpjenobkibfpcaa
namespace Go.AM.Ytpjenobkibfpcaa
open Go.AM Go.Proofs
theorem Z1f{o:Op}{r:List Op}{s d:List Tree}(h0:o.kind=0):Run (o ::r) s d↔∃ a s' d',s=a++s'∧d=a++d'∧(a.length:Int)=o.n∧Run r s' d':=by
 constructor
 ·intro h
  cases h with
  | keep _ h2 h3=> exact ⟨_,_,_,rfl,rfl,h2,h3⟩
  | gone h1=> omega
  | come h1=> omega
  | into h1=> omega
 ·rintro ⟨a,s',d',rfl,rfl,h2,h3⟩
  exact .keep h0 h2 h3
theorem Z1g{o:Op}{r:List Op}{s d:List Tree}(h0:o.kind=1):Run (o ::r) s d↔∃ a s',s=a++s'∧Z5 o.l=Z5 a∧Run r s' d:=by
 constructor
 ·intro h
  cases h with
  | gone _ h2 h3=> exact ⟨_,_,rfl,h2,h3⟩
  | keep h1=> omega
  | come h1=> omega
  | into h1=> omega
 ·rintro ⟨a,s',rfl,h2,h3⟩
  exact .gone h0 h2 h3
theorem Z1h{o:Op}{r:List Op}{s d:List Tree}(h0:o.kind=2):Run (o ::r) s d↔∃ d',d=o.l++d'∧Run r s d':=by
 constructor
 ·intro h
  cases h with
  | come _ h3=> exact ⟨_,rfl,h3⟩
  | keep h1=> omega
  | gone h1=> omega
  | into h1=> omega
 ·rintro ⟨d',rfl,h3⟩
  exact .come h0 h3
theorem Z7m{o:Op}{r:List Op}{s d:List Tree}(h0:o.kind=3):Run (o ::r) s d↔∃ x s' y d',s=x ::s'∧d=y ::d'∧doE false o.e x=some y∧Run r s' d':=by
 constructor
 ·intro h
  cases h with
  | into _ h2 h3=> exact ⟨_,_,_,_,rfl,rfl,h2,h3⟩
  | keep h1=> omega
  | gone h1=> omega
  | come h1=> omega
 ·rintro ⟨x,s',y,d',rfl,rfl,h2,h3⟩
  exact .into h0 h2 h3
theorem Z5t{o:Op}{p r:List Op}(h:∀ s d,Run p s d↔Run r s d)(hk:kOk o)(s d:List Tree):Run (o ::p) s d↔Run (o ::r) s d:=by
 rcases hk with h0 | h1 | h2 | h3
 ·rw [Z1f h0.1,Z1f h0.1];simp only [h]
 ·rw [Z1g h1,Z1g h1];simp only [h]
 ·rw [Z1h h2,Z1h h2];simp only [h]
 ·rw [Z7m h3,Z7m h3];simp only [h]
theorem Z10{o:Op}(h:YG o):kOk o:=by
 rcases h with h | h | h
 ·exact .inl ⟨h.1,by omega⟩
 ·rcases h.1 with h1 | h1
  ·exact .inr (.inl h1)
  ·exact .inr (.inr (.inl h1))
 ·exact .inr (.inr (.inr h.1))
theorem Z7C{o:Op}(h:YG o)(h0:o.kind=0):Z0 o=o.n:=by
 rcases h with h | h | h
 ·unfold Z0;rw [if_neg (by omega),h.2.1];simp
 ·omega
 ·omega
theorem Yz{o:Op}(h:YG o)(h0:o.kind=1∨o.kind=2):Z0 o=o.l.length:=by
 rcases h with h | h | h
 ·omega
 ·unfold Z0;rw [if_neg (by omega),h.2.1];omega
 ·omega
theorem Z2N{o:Op}(h0:o.kind=3):Z0 o=1:=by unfold Z0;rw [if_pos h0]
theorem Zjp{o:Op}{r:List Op}{s m:List Tree}(ho:YG o)(hk:o.kind≠1)(h:Run (o ::r) s m):∃ m1 s' m',m=m1++m'∧(m1.length:Int)=Z0 o∧Run r s' m':=by
 rcases Z10 ho with h0 | h1 | h2 | h3
 ·obtain ⟨a,s',d',_,rfl,hl,hr⟩:=(Z1f h0.1).1 h
  exact ⟨a,s',d',rfl,by rw [Z7C ho h0.1];exact hl,hr⟩
 ·exact absurd h1 hk
 ·obtain ⟨d',rfl,hr⟩:=(Z1h h2).1 h
  exact ⟨o.l,s,d',rfl,by rw [Yz ho (.inr h2)],hr⟩
 ·obtain ⟨x,s',y,d',_,rfl,_,hr⟩:=(Z7m h3).1 h
  exact ⟨[y],s',d',rfl,by rw [Z2N h3];rfl,hr⟩
theorem Znt{o:Op}{r:List Op}{m d:List Tree}(ho:YG o)(hk:o.kind≠2)(h:Run (o ::r) m d):∃ m1 m' d',m=m1++m'∧(m1.length:Int)=Z0 o∧Run r m' d':=by
 rcases Z10 ho with h0 | h1 | h2 | h3
 ·obtain ⟨a,s',d',rfl,_,hl,hr⟩:=(Z1f h0.1).1 h
  exact ⟨a,s',d',rfl,by rw [Z7C ho h0.1];exact hl,hr⟩
 ·obtain ⟨a,s',rfl,hn,hr⟩:=(Z1g h1).1 h
  exact ⟨a,s',d,rfl,by rw [Yz ho (.inl h1),Z3i hn],hr⟩
 ·exact absurd h2 hk
 ·obtain ⟨x,s',y,d',rfl,_,_,hr⟩:=(Z7m h3).1 h
  exact ⟨[x],s',d',rfl,by rw [Z2N h3];rfl,hr⟩
theorem Zlu{o:Op}{r:List Op}{n:Int}(ho:YG o)(h1:1≤n)(hn:¬Z0 o≤n)(s d:List Tree):Run (o ::r) s d↔Run (ZH o n ::JR o n ::r) s d:=by
 unfold ZH JR
 rw [if_neg hn]
 rcases Z10 ho with h0 | hg | hc | hi
 ·have hl:=Z7C ho h0.1
  rw [if_pos h0.1,if_pos h0.1,Z1f h0.1,Z1f (o:=⟨o.kind,n,o.l,o.e⟩) h0.1]
  constructor
  ·rintro ⟨a,s',d',rfl,rfl,ha,hr⟩
   refine ⟨a.take n.toNat,a.drop n.toNat++s',a.drop n.toNat++d',by rw [←List.append_assoc,List.take_append_drop],by rw [←List.append_assoc,List.take_append_drop],by rw [List.length_take];dsimp only;omega,?_⟩
   exact (Z1f (o:=⟨o.kind,o.n - n,o.l,o.e⟩) h0.1).2 ⟨a.drop n.toNat,s',d',rfl,rfl,by rw [List.length_drop];dsimp only;omega,hr⟩
  ·rintro ⟨a,s',d',rfl,rfl,ha,hr⟩
   obtain ⟨b,s2,d2,rfl,rfl,hb,hr2⟩:=(Z1f (o:=⟨o.kind,o.n - n,o.l,o.e⟩) h0.1).1 hr
   dsimp only at ha hb
   exact ⟨a++b,s2,d2,by rw [List.append_assoc],by rw [List.append_assoc],by rw [List.length_append];omega,hr2⟩
 ·have hl:=Yz ho (.inl hg)
  rw [if_neg (by omega),if_neg (by omega),Z1g hg,Z1g (o:=⟨o.kind,o.n,o.l.take n.toNat,o.e⟩) hg]
  constructor
  ·rintro ⟨a,s',rfl,ha,hr⟩
   have hla:=Z3i ha
   refine ⟨a.take n.toNat,a.drop n.toNat++s',by rw [←List.append_assoc,List.take_append_drop],EqvL.take ha _,?_⟩
   exact (Z1g (o:=⟨o.kind,o.n,o.l.drop n.toNat,o.e⟩) hg).2 ⟨a.drop n.toNat,s',rfl,EqvL.drop ha _,hr⟩
  ·rintro ⟨a,s',rfl,ha,hr⟩
   obtain ⟨b,s2,rfl,hb,hr2⟩:=(Z1g (o:=⟨o.kind,o.n,o.l.drop n.toNat,o.e⟩) hg).1 hr
   refine ⟨a++b,s2,by rw [List.append_assoc],?_,hr2⟩
   have:=JU ha hb
   rwa [List.take_append_drop] at this
 ·rw [if_neg (by omega),if_neg (by omega),Z1h hc,Z1h (o:=⟨o.kind,o.n,o.l.take n.toNat,o.e⟩) hc]
  constructor
  ·rintro ⟨d',rfl,hr⟩
   refine ⟨o.l.drop n.toNat++d',by rw [←List.append_assoc,List.take_append_drop],?_⟩
   exact (Z1h (o:=⟨o.kind,o.n,o.l.drop n.toNat,o.e⟩) hc).2 ⟨d',rfl,hr⟩
  ·rintro ⟨d',rfl,hr⟩
   obtain ⟨d2,rfl,hr2⟩:=(Z1h (o:=⟨o.kind,o.n,o.l.drop n.toNat,o.e⟩) hc).1 hr
   exact ⟨d2,by rw [←List.append_assoc,List.take_append_drop],hr2⟩
 ·rw [Z2N hi] at hn
  omega
def Z4h:List Piece→List Op
 | []=> []
 | x ::r=> (if x.of=2 then [] else [x.p])++Z4h r
def Z4g:List Piece→List Op
 | []=> []
 | x ::r=> (if x.of=1 then [] else [x.q])++Z4g r
def Part(l:List Op)(o:Op):Prop:=∃ o'∈l,o.kind=o'.kind∧o.e=o'.e∧Zn o≤Zn o'∧∀ t∈o.l,t∈o'.l
structure POk (p q:List Op) (x:Piece):Prop where
 of:x.of=0∨x.of=1∨x.of=2
 pp:x.of≠2→Part p x.p∧YG x.p
 qq:x.of≠1→Part q x.q∧YG x.q
 one:x.of=1→x.p.kind=1
 two:x.of=2→x.q.kind=2
 both:x.of=0→x.p.kind≠1∧x.q.kind≠2∧Z0 x.p=Z0 x.q
 pn:x.of=2→x.p=Op.nil
 qn:x.of=1→x.q=Op.nil
theorem Part.mono{l l':List Op}{o:Op}(h:Part l o)(hl:∀ x∈l,Part l' x):Part l' o:=by
 obtain ⟨o',h1,h2,h3,h5,h4⟩:=h
 obtain ⟨o2,g1,g2,g3,g5,g4⟩:=hl o' h1
 exact ⟨o2,g1,h2.trans g2,h3.trans g3,Nat.le_trans h5 g5,fun t ht=> g4 t (h4 t ht)⟩
theorem Part.self{l:List Op}{o:Op}(h:o∈l):Part l o:=⟨o,h,rfl,rfl,Nat.le_refl _,fun _ h=> h⟩
theorem POk.mono{p q p' q':List Op}{x:Piece}(h:POk p q x)(hp:∀ x∈p,Part p' x)(hq:∀ x∈q,Part q' x):POk p' q' x:=
 ⟨h.of,fun e=> ⟨(h.pp e).1.mono hp,(h.pp e).2⟩,fun e=> ⟨(h.qq e).1.mono hq,(h.qq e).2⟩,h.one,h.two,h.both,h.pn,h.qn⟩
theorem ZfZ{o:Op}{r:List Op}{n:Int}(h:∀ x∈o ::r,YG x)(h1:1≤n)(hn:n≤Z0 o):
  YG (ZH o n)∧Z0 (ZH o n)=n∧(ZH o n).kind=o.kind∧Part (o ::r) (ZH o n)∧(∀ x∈ZV (o ::r) n,YG x∧Part (o ::r) x)∧∀ s d,Run (o ::r) s d↔Run (ZH o n ::ZV (o ::r) n) s d:=by
 have ho:=h o List.mem_cons_self
 have hr:∀ x∈r,YG x∧Part (o ::r) x:=fun x hx=> ⟨h x (List.mem_cons_of_mem _ hx),Part.self (List.mem_cons_of_mem _ hx)⟩
 unfold ZV
 simp only [List.getD_cons_zero,List.drop_succ_cons,List.drop_zero]
 by_cases hl:Z0 o≤n
 ·rw [if_pos hl]
  have e:ZH o n=o:=by unfold ZH;rw [if_pos hl]
  rw [e]
  exact ⟨ho,by omega,rfl,Part.self List.mem_cons_self,hr,fun s d=> Iff.rfl⟩
 ·rw [if_neg hl]
  obtain ⟨_,v2,v3,v4⟩:=Z70 (a:=1) ho h1 hl
  obtain ⟨b1,b2⟩:=ZcI ho h1 hl
  refine ⟨v2,v3,Z3I o n,?_,?_,Zlu ho h1 hl⟩
  ·refine ⟨o,List.mem_cons_self,Z3I o n,?_,v4,?_⟩
   ·unfold ZH;split;rfl;split <;> rfl
   ·intro t ht
    unfold ZH at ht
    split at ht
    ·exact ht
    ·split at ht
     ·exact ht
     ·exact List.mem_of_mem_take ht
  ·intro x hx
   rcases List.mem_cons.1 hx with rfl | hx
   ·refine ⟨b1,o,List.mem_cons_self,?_,?_,b2,?_⟩
    ·unfold JR;split <;> rfl
    ·unfold JR;split <;> rfl
    ·intro t ht
     unfold JR at ht
     split at ht
     ·exact ht
     ·exact List.mem_of_mem_drop ht
   ·exact hr x hx
theorem Zjr{d:List Tree}{s:List Tree}(h:Run [] s d):s=[]∧d=[]:=by cases h;exact ⟨rfl,rfl⟩
theorem ZbU:∀ (k:Nat) (p q:List Op) (out:List Piece),p.length+q.length≤k→(∀ o∈p,YG o)→(∀ o∈q,YG o)→
  ((ZX 1 2 p q out).2.1=true→∃ ps,(ZX 1 2 p q out).1=out++ps∧(∀ x∈ps,POk p q x)∧(∀ s m,Run p s m↔Run (Z4h ps) s m)∧∀ m d,Run q m d↔Run (Z4g ps) m d)∧
  ((ZX 1 2 p q out).2.1=false→∀ s m d,Run p s m→Run q m d→False):=by
 intro k
 induction k with
 | zero=>
  intro p q out hk hp hq
  have e1:p=[]:=List.eq_nil_of_length_eq_zero (by omega)
  have e2:q=[]:=List.eq_nil_of_length_eq_zero (by omega)
  subst e1 e2
  have e:ZX 1 2 [] [] out=(out,true,[],[]):=by
   rw [ZX,dif_neg (by simp [sgl]),dif_neg (by simp [sgl]),dif_pos (by simp)]
   try rfl
  rw [e]
  exact ⟨fun _=> ⟨[],by simp,fun x hx=> (by cases hx),fun s m=> Iff.rfl,fun m d=> Iff.rfl⟩,fun h=> by cases h⟩
 | succ k ih=>
  intro p q out hk hp hq
  rw [ZX]
  by_cases h1:sgl 1 p=true
  ·rw [dif_pos h1]
   obtain ⟨g1,g2⟩:=Z2D.1 h1
   cases p with
   | nil=> exact absurd rfl g1
   | cons a p'=>
    simp only [List.getD_cons_zero] at g2
    simp only [List.getD_cons_zero,List.drop_succ_cons,List.drop_zero]
    have ha:=hp a List.mem_cons_self
    obtain ⟨i1,i2⟩:=ih p' q (out++[⟨1,a,Op.nil⟩]) (by simp only [List.length_cons] at hk;omega) (fun o ho=> hp o (List.mem_cons_of_mem _ ho)) hq
    refine ⟨fun h=> ?_,fun h s m d r1 r2=> ?_⟩
    ·obtain ⟨ps,e,hps,hP,hQ⟩:=i1 h
     refine ⟨⟨1,a,Op.nil⟩ ::ps,by rw [e,List.append_assoc];rfl,fun x hx=> ?_,fun s m=> ?_,fun m d=> ?_⟩
     ·rcases List.mem_cons.1 hx with rfl | hx
      ·exact ⟨.inr (.inl rfl),fun _=> ⟨Part.self List.mem_cons_self,ha⟩,fun e=> absurd rfl e,fun _=> g2,fun e=> (by cases e),fun e=> (by cases e),fun e=> (by cases e),fun _=> rfl⟩
      ·exact (hps x hx).mono (fun x hx=> Part.self (List.mem_cons_of_mem _ hx)) (fun x hx=> Part.self hx)
     ·show _↔Run (a ::Z4h ps) s m
      exact Z5t hP (Z10 ha) s m
     ·exact hQ m d
    ·obtain ⟨b,s',_,_,hr⟩:=(Z1g g2).1 r1
     exact i2 h s' m d hr r2
  ·rw [dif_neg h1]
   by_cases h2:sgl 2 q=true
   ·rw [dif_pos h2]
    obtain ⟨g1,g2⟩:=Z2D.1 h2
    cases q with
    | nil=> exact absurd rfl g1
    | cons a q'=>
     simp only [List.getD_cons_zero] at g2
     simp only [List.getD_cons_zero,List.drop_succ_cons,List.drop_zero]
     have ha:=hq a List.mem_cons_self
     obtain ⟨i1,i2⟩:=ih p q' (out++[⟨2,Op.nil,a⟩]) (by simp only [List.length_cons] at hk;omega) hp (fun o ho=> hq o (List.mem_cons_of_mem _ ho))
     refine ⟨fun h=> ?_,fun h s m d r1 r2=> ?_⟩
     ·obtain ⟨ps,e,hps,hP,hQ⟩:=i1 h
      refine ⟨⟨2,Op.nil,a⟩ ::ps,by rw [e,List.append_assoc];rfl,fun x hx=> ?_,fun s m=> ?_,fun m d=> ?_⟩
      ·rcases List.mem_cons.1 hx with rfl | hx
       ·exact ⟨.inr (.inr rfl),fun e=> absurd rfl e,fun _=> ⟨Part.self List.mem_cons_self,ha⟩,fun e=> (by cases e),fun _=> g2,fun e=> (by cases e),fun _=> rfl,fun e=> (by cases e)⟩
       ·exact (hps x hx).mono (fun x hx=> Part.self hx) (fun x hx=> Part.self (List.mem_cons_of_mem _ hx))
      ·exact hP s m
      ·show _↔Run (a ::Z4g ps) m d
       exact Z5t hQ (Z10 ha) m d
     ·obtain ⟨d',_,hr⟩:=(Z1h g2).1 r2
      exact i2 h s m d' r1 hr
   ·rw [dif_neg h2]
    by_cases h3:p.length=0∨q.length=0
    ·rw [dif_pos h3]
     by_cases h4:p.length=0
     ·have e1:p=[]:=List.eq_nil_of_length_eq_zero h4
      subst e1
      by_cases h5:q.length=0
      ·have e2:q=[]:=List.eq_nil_of_length_eq_zero h5
       subst e2
       rw [if_pos rfl]
       exact ⟨fun _=> ⟨[],by simp,fun x hx=> (by cases hx),fun s m=> Iff.rfl,fun m d=> Iff.rfl⟩,fun h=> by cases h⟩
      ·rw [if_neg (by rw [decide_eq_false h5];decide)]
       refine ⟨fun h=> (by cases h),fun _ s m d r1 r2=> ?_⟩
       cases q with
       | nil=> exact h5 rfl
       | cons a q'=>
        have ha:=hq a List.mem_cons_self
        obtain ⟨_,rfl⟩:=Zjr r1
        obtain ⟨m1,m',d',e,hl,_⟩:=Znt ha (fun e=> h2 (Z2D.2 ⟨by simp,by simpa using e⟩)) r2
        have:=YH ha
        have e:=congrArg List.length e
        simp at e
        omega
     ·have h5:q.length=0:=by omega
      have e2:q=[]:=List.eq_nil_of_length_eq_zero h5
      subst e2
      rw [if_neg (by rw [decide_eq_false h4];decide)]
      refine ⟨fun h=> (by cases h),fun _ s m d r1 r2=> ?_⟩
      cases p with
      | nil=> exact h4 rfl
      | cons a p'=>
       have ha:=hp a List.mem_cons_self
       obtain ⟨rfl,_⟩:=Zjr r2
       obtain ⟨m1,s',m',e,hl,_⟩:=Zjp ha (fun e=> h1 (Z2D.2 ⟨by simp,by simpa using e⟩)) r1
       have:=YH ha
       have e:=congrArg List.length e
       simp at e
       omega
    ·rw [dif_neg h3]
     cases p with
     | nil=> simp at h3
     | cons a p'=>
      cases q with
      | nil=> simp at h3
      | cons b q'=>
       have ha:=hp a List.mem_cons_self
       have hb:=hq b List.mem_cons_self
       have ka:a.kind≠1:=fun e=> h1 (Z2D.2 ⟨by simp,by simpa using e⟩)
       have kb:b.kind≠2:=fun e=> h2 (Z2D.2 ⟨by simp,by simpa using e⟩)
       have la:=YH ha
       have lb:=YH hb
       simp only [List.getD_cons_zero]
       generalize hn:min (Z0 a) (Z0 b)=n
       have hn1:1≤n:=by omega
       have hna:n≤Z0 a:=by omega
       have hnb:n≤Z0 b:=by omega
       obtain ⟨a1,a2,a3,a4,a5,a6⟩:=ZfZ hp hn1 hna
       obtain ⟨b1,b2,b3,b4,b5,b6⟩:=ZfZ hq hn1 hnb
       have hlt:(ZV (a ::p') n).length+(ZV (b ::q') n).length≤k:=by
        have x1:=YS (a ::p') n (by simp)
        have x2:=YS (b ::q') n (by simp)
        simp only [List.length_cons] at hk x1 x2
        rcases Int.le_total (Z0 a) (Z0 b) with h | h
        ·have:=YR (a ::p') n (by simp) (by simp only [List.getD_cons_zero];omega)
         simp only [List.length_cons] at this
         omega
        ·have:=YR (b ::q') n (by simp) (by simp only [List.getD_cons_zero];omega)
         simp only [List.length_cons] at this
         omega
       obtain ⟨i1,i2⟩:=ih (ZV (a ::p') n) (ZV (b ::q') n) (out++[⟨0,ZH a n,ZH b n⟩]) hlt (fun o ho=> (a5 o ho).1) (fun o ho=> (b5 o ho).1)
       refine ⟨fun h=> ?_,fun h s m d r1 r2=> ?_⟩
       ·obtain ⟨ps,e,hps,hP,hQ⟩:=i1 h
        refine ⟨⟨0,ZH a n,ZH b n⟩ ::ps,by rw [e,List.append_assoc];rfl,fun x hx=> ?_,fun s m=> ?_,fun m d=> ?_⟩
        ·rcases List.mem_cons.1 hx with rfl | hx
         ·exact ⟨.inl rfl,fun _=> ⟨a4,a1⟩,fun _=> ⟨b4,b1⟩,fun e=> (by cases e),fun e=> (by cases e),fun _=> ⟨by dsimp only;omega,by dsimp only;omega,by dsimp only;omega⟩,fun e=> (by cases e),fun e=> (by cases e)⟩
         ·exact (hps x hx).mono (fun x hx=> (a5 x hx).2) (fun x hx=> (b5 x hx).2)
        ·rw [a6 s m]
         exact Z5t hP (Z10 a1) s m
        ·rw [b6 m d]
         exact Z5t hQ (Z10 b1) m d
       ·rw [a6] at r1
        rw [b6] at r2
        obtain ⟨m1,s',m',e,hl,r3⟩:=Zjp a1 (by omega) r1
        obtain ⟨m2,m3,d',e',hl',r4⟩:=Znt b1 (by omega) r2
        obtain ⟨_,e2⟩:=List.append_inj (e.symm.trans e') (by omega)
        subst e2
        exact i2 h s' m' d' r3 r4
end Go.AM.Ytpjenobkibfpcaa
namespace Go.AM.Ytpjenobkibfpcaa
open Go.AM Go.Proofs
section
variable {β:Type} {at_:β→Int} {one:β→β→β × Bool}
structure MSpec (at_:β→Int) (one:β→β→β × Bool) (last:Int) (p q L:List β):Prop where
 asc_:asc at_ last L
 of:∀ x∈L,(x∈p∧∀ b∈q,at_ b≠at_ x)∨(x∈q∧∀ a∈p,at_ a≠at_ x)∨∃ a∈p,∃ b∈q,at_ a=at_ b∧(one a b).2=true∧x=(one a b).1
 left:∀ a∈p,(∀ b∈q,at_ b≠at_ a)→a∈L
 right:∀ b∈q,(∀ a∈p,at_ a≠at_ b)→b∈L
 both:∀ a∈p,∀ b∈q,at_ a=at_ b→(one a b).2=true∧(one a b).1∈L
theorem Zc6(hone:∀ a b,at_ a=at_ b→(one a b).2=true→at_ (one a b).1=at_ a):∀ (k:Nat) (p q:List β) (last:Int),p.length+q.length≤k→asc at_ last p→asc at_ last q→
  (Zm at_ one p q=none→∃ a∈p,∃ b∈q,at_ a=at_ b∧(one a b).2=false)∧∀ L,Zm at_ one p q=some L→MSpec at_ one last p q L:=by
 intro k
 induction k with
 | zero=>
  intro p q last hk hp hq
  have e1:p=[]:=List.eq_nil_of_length_eq_zero (by omega)
  have e2:q=[]:=List.eq_nil_of_length_eq_zero (by omega)
  subst e1 e2
  rw [Zm]
  refine ⟨fun h=> (by cases h),fun L h=> ?_⟩
  cases h
  exact ⟨trivial,fun x hx=> (by cases hx),fun a ha=> (by cases ha),fun a ha=> (by cases ha),fun a ha=> (by cases ha)⟩
 | succ k ih=>
  intro p q last hk hp hq
  match p,q with
  | [],q=>
   rw [Zm]
   refine ⟨fun h=> (by cases h),fun L h=> ?_⟩
   cases h
   exact ⟨hq,fun x hx=> .inr (.inl ⟨hx,fun a ha=> (by cases ha)⟩),fun a ha=> (by cases ha),fun b hb _=> hb,fun a ha=> (by cases ha)⟩
  | a ::p,[]=>
   rw [Zm]
   refine ⟨fun h=> (by cases h),fun L h=> ?_⟩
   cases h
   exact ⟨hp,fun x hx=> .inl ⟨hx,fun a ha=> (by cases ha)⟩,fun b hb _=> hb,fun a ha=> (by cases ha),fun a _ b hb=> (by cases hb)⟩
  | a ::p,b ::q=>
   have gp:=fun x hx=> ZiW hp.2 x hx
   have gq:=fun x hx=> ZiW hq.2 x hx
   simp only [List.length_cons] at hk
   rw [Zm]
   by_cases h1:at_ a < at_ b
   ·rw [if_pos h1]
    obtain ⟨i1,i2⟩:=ih p (b ::q) (at_ a) (by simp only [List.length_cons];omega) hp.2 ⟨h1,hq.2⟩
    refine ⟨fun h=> ?_,fun L h=> ?_⟩
    ·rw [Option.map_eq_none_iff] at h
     obtain ⟨x,hx,y,hy,e⟩:=i1 h
     exact ⟨x,List.mem_cons_of_mem _ hx,y,hy,e⟩
    ·obtain ⟨L',hL,rfl⟩:=Option.map_eq_some_iff.1 h
     have S:=i2 L' hL
     have na:∀ y∈b ::q,at_ y≠at_ a:=by
      intro y hy
      rcases List.mem_cons.1 hy with rfl | hy
      ·omega
      ·have:=gq y hy;omega
     refine ⟨⟨hp.1,S.asc_⟩,fun x hx=> ?_,fun x hx hn=> ?_,fun y hy hn=> ?_,fun x hx y hy e=> ?_⟩
     ·rcases List.mem_cons.1 hx with rfl | hx
      ·exact .inl ⟨List.mem_cons_self,na⟩
      ·rcases S.of x hx with ⟨h2,h3⟩ | ⟨h2,h3⟩ | ⟨c,hc,d,hd,h2⟩
       ·exact .inl ⟨List.mem_cons_of_mem _ h2,h3⟩
       ·refine .inr (.inl ⟨h2,fun c hc=> ?_⟩)
        rcases List.mem_cons.1 hc with rfl | hc
        ·exact (na x h2).symm
        ·exact h3 c hc
       ·exact .inr (.inr ⟨c,List.mem_cons_of_mem _ hc,d,hd,h2⟩)
     ·rcases List.mem_cons.1 hx with rfl | hx
      ·exact List.mem_cons_self
      ·exact List.mem_cons_of_mem _ (S.left x hx hn)
     ·exact List.mem_cons_of_mem _ (S.right y hy fun c hc=> hn c (List.mem_cons_of_mem _ hc))
     ·rcases List.mem_cons.1 hx with rfl | hx
      ·exact absurd e.symm (na y hy)
      ·obtain ⟨h2,h3⟩:=S.both x hx y hy e
       exact ⟨h2,List.mem_cons_of_mem _ h3⟩
   ·rw [if_neg h1]
    by_cases h2:at_ b < at_ a
    ·rw [if_pos h2]
     obtain ⟨i1,i2⟩:=ih (a ::p) q (at_ b) (by simp only [List.length_cons];omega) ⟨h2,hp.2⟩ hq.2
     refine ⟨fun h=> ?_,fun L h=> ?_⟩
     ·rw [Option.map_eq_none_iff] at h
      obtain ⟨x,hx,y,hy,e⟩:=i1 h
      exact ⟨x,hx,y,List.mem_cons_of_mem _ hy,e⟩
     ·obtain ⟨L',hL,rfl⟩:=Option.map_eq_some_iff.1 h
      have S:=i2 L' hL
      have nb:∀ y∈a ::p,at_ y≠at_ b:=by
       intro y hy
       rcases List.mem_cons.1 hy with rfl | hy
       ·omega
       ·have:=gp y hy;omega
      refine ⟨⟨hq.1,S.asc_⟩,fun x hx=> ?_,fun x hx hn=> ?_,fun y hy hn=> ?_,fun x hx y hy e=> ?_⟩
      ·rcases List.mem_cons.1 hx with rfl | hx
       ·exact .inr (.inl ⟨List.mem_cons_self,nb⟩)
       ·rcases S.of x hx with ⟨h3,h4⟩ | ⟨h3,h4⟩ | ⟨c,hc,d,hd,h3⟩
        ·refine .inl ⟨h3,fun c hc=> ?_⟩
         rcases List.mem_cons.1 hc with rfl | hc
         ·exact (nb x h3).symm
         ·exact h4 c hc
        ·exact .inr (.inl ⟨List.mem_cons_of_mem _ h3,h4⟩)
        ·exact .inr (.inr ⟨c,hc,d,List.mem_cons_of_mem _ hd,h3⟩)
      ·exact List.mem_cons_of_mem _ (S.left x hx fun c hc=> hn c (List.mem_cons_of_mem _ hc))
      ·rcases List.mem_cons.1 hy with rfl | hy
       ·exact List.mem_cons_self
       ·exact List.mem_cons_of_mem _ (S.right y hy hn)
      ·rcases List.mem_cons.1 hy with rfl | hy
       ·exact absurd e (nb x hx)
       ·obtain ⟨h3,h4⟩:=S.both x hx y hy e
        exact ⟨h3,List.mem_cons_of_mem _ h4⟩
    ·rw [if_neg h2]
     have e0:at_ a=at_ b:=by omega
     by_cases h3:(one a b).2=true
     ·rw [if_pos h3]
      obtain ⟨i1,i2⟩:=ih p q (at_ a) (by omega) hp.2 (by rw [e0];exact hq.2)
      refine ⟨fun h=> ?_,fun L h=> ?_⟩
      ·rw [Option.map_eq_none_iff] at h
       obtain ⟨x,hx,y,hy,e⟩:=i1 h
       exact ⟨x,List.mem_cons_of_mem _ hx,y,List.mem_cons_of_mem _ hy,e⟩
      ·obtain ⟨L',hL,rfl⟩:=Option.map_eq_some_iff.1 h
       have S:=i2 L' hL
       have hat:=hone a b e0 h3
       have na:∀ y∈q,at_ y≠at_ a:=fun y hy=> by have:=gq y hy;omega
       have nb:∀ y∈p,at_ y≠at_ b:=fun y hy=> by have:=gp y hy;omega
       refine ⟨⟨by rw [hat];exact hp.1,by rw [hat];exact S.asc_⟩,fun x hx=> ?_,fun x hx hn=> ?_,fun y hy hn=> ?_,fun x hx y hy e=> ?_⟩
       ·rcases List.mem_cons.1 hx with rfl | hx
        ·exact .inr (.inr ⟨a,List.mem_cons_self,b,List.mem_cons_self,e0,h3,rfl⟩)
        ·rcases S.of x hx with ⟨h4,h5⟩ | ⟨h4,h5⟩ | ⟨c,hc,d,hd,h4⟩
         ·refine .inl ⟨List.mem_cons_of_mem _ h4,fun c hc=> ?_⟩
          rcases List.mem_cons.1 hc with rfl | hc
          ·exact (nb x h4).symm
          ·exact h5 c hc
         ·refine .inr (.inl ⟨List.mem_cons_of_mem _ h4,fun c hc=> ?_⟩)
          rcases List.mem_cons.1 hc with rfl | hc
          ·exact (na x h4).symm
          ·exact h5 c hc
         ·exact .inr (.inr ⟨c,List.mem_cons_of_mem _ hc,d,List.mem_cons_of_mem _ hd,h4⟩)
       ·rcases List.mem_cons.1 hx with rfl | hx
        ·exact absurd e0.symm (hn b List.mem_cons_self)
        ·exact List.mem_cons_of_mem _ (S.left x hx fun c hc=> hn c (List.mem_cons_of_mem _ hc))
       ·rcases List.mem_cons.1 hy with rfl | hy
        ·exact absurd e0 (hn a List.mem_cons_self)
        ·exact List.mem_cons_of_mem _ (S.right y hy fun c hc=> hn c (List.mem_cons_of_mem _ hc))
       ·rcases List.mem_cons.1 hx with rfl | hx
        ·rcases List.mem_cons.1 hy with rfl | hy
         ·exact ⟨h3,List.mem_cons_self⟩
         ·exact absurd e.symm (na y hy)
        ·rcases List.mem_cons.1 hy with rfl | hy
         ·exact absurd e (nb x hx)
         ·obtain ⟨h4,h5⟩:=S.both x hx y hy e
          exact ⟨h4,List.mem_cons_of_mem _ h5⟩
     ·rw [if_neg h3]
      refine ⟨fun _=> ⟨a,List.mem_cons_self,b,List.mem_cons_self,e0,by simpa using h3⟩,fun L h=> by cases h⟩
variable {α:Type} {z:α} {F:β→α→Option α} {R:α→α→Prop}
end
end Go.AM.Ytpjenobkibfpcaa
namespace Go.AM.Ytpjenobkibfpcaa
open Go.AM Go.Proofs
theorem Z3m(m:Int)(h0:0≤m)(h1:m < 256)(i:Nat):JY m (i:Int)=(BitVec.ofInt 8 m).toNat.testBit i:=by
 obtain ⟨n,rfl⟩:=Int.eq_ofNat_of_zero_le h0
 have e:(BitVec.ofInt 8 ((n:Nat):Int)).toNat=n:=by simp;omega
 rw [e,Nat.testBit_eq_decide_div_mod_eq]
 unfold JY
 rw [decide_eq_decide,Int.toNat_natCast]
 have:((n:Int) / 2 ^ i % 2:Int)=((n / 2 ^ i % 2:Nat):Int):=by rw [Int.natCast_emod,Int.natCast_ediv,Int.natCast_pow];try rfl
 rw [this];omega
theorem Zsg{a b:Int}(ha:0≤a∧a < 256)(hb:0≤b∧b < 256):(0≤Zmw a b∧Zmw a b < 256)∧∀ i:Nat,JY (Zmw a b) (i:Int)=(JY a (i:Int) && JY b (i:Int)):=by
 have hlt:(BitVec.ofInt 8 a &&& BitVec.ofInt 8 b).toNat < 256:=(BitVec.ofInt 8 a &&& BitVec.ofInt 8 b).isLt
 have e:Zmw a b=((BitVec.ofInt 8 a &&& BitVec.ofInt 8 b).toNat:Int):=by
  show IntKind.wrap .u8 ((BitVec.ofInt 8 a &&& BitVec.ofInt 8 b).toNat:Int)=_
  exact Zav (by omega) (by omega)
 refine ⟨by rw [e];omega,fun i=> ?_⟩
 rw [Z3m _ (by rw [e];omega) (by rw [e];omega),e,Z3m a ha.1 ha.2,Z3m b hb.1 hb.2]
 have:(BitVec.ofInt 8 (((BitVec.ofInt 8 a &&& BitVec.ofInt 8 b).toNat:Nat):Int)).toNat=(BitVec.ofInt 8 a &&& BitVec.ofInt 8 b).toNat:=by
  generalize (BitVec.ofInt 8 a &&& BitVec.ofInt 8 b).toNat=k at hlt ⊢
  simp
  omega
 rw [this,BitVec.toNat_and,Nat.testBit_and]
theorem ZtZ{a b:Int}(ha:0≤a∧a < 256)(hb:0≤b∧b < 256):(0≤orM a b∧orM a b < 256)∧∀ i:Nat,JY (orM a b) (i:Int)=(JY a (i:Int) || JY b (i:Int)):=by
 have hlt:(BitVec.ofInt 8 a ||| BitVec.ofInt 8 b).toNat < 256:=(BitVec.ofInt 8 a ||| BitVec.ofInt 8 b).isLt
 have e:orM a b=((BitVec.ofInt 8 a ||| BitVec.ofInt 8 b).toNat:Int):=by
  show IntKind.wrap .u8 ((BitVec.ofInt 8 a ||| BitVec.ofInt 8 b).toNat:Int)=_
  exact Zav (by omega) (by omega)
 refine ⟨by rw [e];omega,fun i=> ?_⟩
 rw [Z3m _ (by rw [e];omega) (by rw [e];omega),e,Z3m a ha.1 ha.2,Z3m b hb.1 hb.2]
 have:(BitVec.ofInt 8 (((BitVec.ofInt 8 a ||| BitVec.ofInt 8 b).toNat:Nat):Int)).toNat=(BitVec.ofInt 8 a ||| BitVec.ofInt 8 b).toNat:=by
  generalize (BitVec.ofInt 8 a ||| BitVec.ofInt 8 b).toNat=k at hlt ⊢
  simp
  omega
 rw [this,BitVec.toNat_or,Nat.testBit_or]
theorem Ztt(i:Nat):Zd 0 i=0:=by unfold Zd;simp
theorem Z9v{w m:Int}(h:Yl w m=true){i:Nat}(hi:i < 8)(hn:JY m i=false):Zd w i=0:=by
 have h:mix w 0 m=0:=of_decide_eq_true h
 have e:=congrArg (fun x=> Zd x i) h
 simp only [ZgR hi,YU,hn,Ztt] at e
 simpa using e
theorem Zou{a b m:Int}{i:Nat}(hi:i < 8):Zd (mix a b m) i=if JY m i=true then Zd b i else Zd a i:=by rw [ZgR hi];try rfl
theorem Zs9(a b:WEdit)(h:(JQ a b).2=true):(JQ a b).1.at_=a.at_:=by
 unfold JQ at h ⊢
 split
 ·try rfl
 ·rename_i hn;rw [if_neg hn] at h;cases h
theorem JE{e:Edit}{d:Int}(h:Z4 e d=true):∀ o∈e.ops,YG o:=Z6M (Zw h).ops
theorem Z6l {f g:Edit→Edit→Edit × Bool} {p q:Edit} {d d':Int} (hp:Z4 p d=true) (hq:Z4 q d'=true)
  (h:∀ a b,Z6 a+Z6 b < Z6 p+Z6 q→(∃ d,Z4 a d=true)→(∃ d,Z4 b d=true)→f a b=g a b):Ju f p q=Ju g p q:=by
 have rp:=Zw hp
 have rq:=Zw hq
 have hk:Zm KidOf.at_ (Z1o f) p.kids q.kids=Zm KidOf.at_ (Z1o g) p.kids q.kids:=by
  have key:∀ (k:Nat) (a b:List Kid),a.length+b.length≤k→(∀ x∈a,x∈p.kids)→(∀ x∈b,x∈q.kids)→Zm KidOf.at_ (Z1o f) a b=Zm KidOf.at_ (Z1o g) a b:=by
   intro k
   induction k with
   | zero=>
    intro a b hn _ _
    have e1:a=[]:=List.eq_nil_of_length_eq_zero (by omega)
    subst e1
    rw [Zm,Zm]
   | succ k ihk=>
    intro a b hn ha hb
    match a,b with
    | [],b=> rw [Zm,Zm]
    | x ::a,[]=> rw [Zm,Zm]
    | x ::a,y ::b=>
     simp only [List.length_cons] at hn
     have hx:=J9 (ha x List.mem_cons_self)
     have hy:=J9 (hb y List.mem_cons_self)
     have e:Z1o f x y=Z1o g x y:=by
      unfold Z1o
      rw [h x.e y.e (by omega) ⟨_,(ZK rp.kids x (ha x List.mem_cons_self)).2⟩ ⟨_,(ZK rq.kids y (hb y List.mem_cons_self)).2⟩]
     rw [Zm,Zm,e,ihk a (y ::b) (by simp only [List.length_cons];omega) (fun z hz=> ha z (List.mem_cons_of_mem _ hz)) hb,ihk (x ::a) b (by simp only [List.length_cons];omega) ha (fun z hz=> hb z (List.mem_cons_of_mem _ hz)),
      ihk a b (by omega) (fun z hz=> ha z (List.mem_cons_of_mem _ hz)) (fun z hz=> hb z (List.mem_cons_of_mem _ hz))]
  exact key _ _ _ (Nat.le_refl _) (fun x hx=> hx) (fun x hx=> hx)
 have ho:Z1y f p.ops q.ops=Z1y g p.ops q.ops:=by
  unfold Z1y
  obtain ⟨i1,_⟩:=ZbU _ p.ops q.ops [] (Nat.le_refl _) (JE hp) (JE hq)
  by_cases hb:(ZX 1 2 p.ops q.ops []).2.1=true
  ·rw [if_pos hb,if_pos hb]
   obtain ⟨ps,e,hps,hA,hB⟩:=i1 hb
   rw [e,List.nil_append]
   clear e i1 hb hA hB
   induction ps with
   | nil=> rfl
   | cons x r ihr=>
    have hx:=hps x List.mem_cons_self
    have e:YZ f x=YZ g x:=by
     unfold YZ
     by_cases h1:x.of=1∨(x.of=0∧x.q.kind=0)
     ·rw [if_pos h1,if_pos h1]
     rw [if_neg h1,if_neg h1]
     by_cases h2:x.of=2∨x.p.kind=0
     ·rw [if_pos h2,if_pos h2]
     rw [if_neg h2,if_neg h2]
     by_cases h3:x.p.kind=2∧x.q.kind=1
     ·rw [if_pos h3,if_pos h3]
     rw [if_neg h3,if_neg h3]
     by_cases h4:x.p.kind=2
     ·rw [if_pos h4,if_pos h4]
     rw [if_neg h4,if_neg h4]
     by_cases h5:x.q.kind=1
     ·rw [if_pos h5,if_pos h5]
     rw [if_neg h5,if_neg h5]
     have h0:x.of=0:=by rcases hx.of with h | h | h <;> omega
     obtain ⟨hpk,hqk,hl⟩:=hx.both h0
     obtain ⟨⟨o1,m1,k1,e1,_⟩,op⟩:=hx.pp (by omega)
     obtain ⟨⟨o2,m2,k2,e2,_⟩,oq⟩:=hx.qq (by omega)
     have kp3:x.p.kind=3:=by rcases Z10 op with h | h | h | h <;> omega
     have kq3:x.q.kind=3:=by rcases Z10 oq with h | h | h | h <;> omega
     have:=JK m1
     have:=JK m2
     have r1:=J0 (rightOs_mem rp.ops m1) (by omega)
     have r2:=J0 (rightOs_mem rq.ops m2) (by omega)
     rw [e1,e2,h o1.e o2.e (by omega) ⟨_,r1⟩ ⟨_,r2⟩]
    rw [Z0J,Z0J,e,ihr fun y hy=> hps y (List.mem_cons_of_mem _ hy)]
  ·rw [if_neg hb,if_neg hb]
 unfold Ju
 rw [hk,ho]
theorem Zea:∀ (n m:Nat) (p q:Edit) (d d':Int),Z4 p d=true→Z4 q d'=true→Z6 p+Z6 q≤n→n≤m→Zd3 m p q=Zd3 n p q:=by
 intro n
 induction n with
 | zero=> intro m p q d d' _ _ h;obtain ⟨k,o,nw,w,ks,l,os⟩:=p;simp only [Z6] at h;omega
 | succ n ih=>
  intro m p q d d' hp hq h hm
  obtain ⟨m,rfl⟩:∃ k,m=k+1:=⟨m - 1,by omega⟩
  show Ju (Zd3 m) p q=Ju (Zd3 n) p q
  exact Z6l hp hq fun a b hab ⟨d1,h1⟩ ⟨d2,h2⟩=> ih m a b d1 d2 h1 h2 (by omega) (by omega)
theorem Zeb{p q:Edit}{d d':Int}(hp:Z4 p d=true)(hq:Z4 q d'=true):Y2 p q=Ju Y2 p q:=by
 have e:Y2 p q=Zd3 (Z6 p+Z6 q+1) p q:=(Zea _ _ p q d d' hp hq (Nat.le_refl _) (by omega)).symm
 rw [e]
 show Ju (Zd3 (Z6 p+Z6 q)) p q=Ju Y2 p q
 exact Z6l hp hq fun a b hab ⟨d1,h1⟩ ⟨d2,h2⟩=> Zea _ _ a b d1 d2 h1 h2 (Nat.le_refl _) (by omega)
end Go.AM.Ytpjenobkibfpcaa
namespace Go.AM.Ytpjenobkibfpcaa
open Go.AM Go.Proofs
theorem Zpm(t:Tree):Eqv (Z3 t) t:=Z2m t
theorem Zxk{e:Edit}(h:e.kind=0)(t:Tree):doE false e t=some t:=by rw [Z17,YQ,if_pos h]
theorem Zv4{e:Edit}(h:e.kind=2)(t:Tree):doE false e t=if t.kind=1 then (wsD t.words e.words t.words).bind fun a=> (JX false t.kids e.kids t.kids).map fun b=> .mk 1 a b else none:=by
 rw [Z17,YQ,if_neg (by omega),if_neg (by omega),if_pos h]
theorem Zs6{e:Edit}(h:e.kind=3)(t:Tree):doE false e t=if t.kind=e.list then (Z1H (ZB false e.ops t.kids [])).map fun b=> .mk e.list [] b else none:=by
 rw [Z17,YQ,if_neg (by omega),if_neg (by omega),if_neg (by omega),if_pos h]
theorem Ztq(w:List WEdit)(ks:List Kid)(t:Tree):doE false (.mk 2 Tree.nil Tree.nil w ks 0 []) t=if t.kind=1 then (wsD t.words w t.words).bind fun a=> (JX false t.kids ks t.kids).map fun b=> .mk 1 a b else none:=Zv4 rfl t
theorem Zxj(l:Int)(os:List Op)(t:Tree):doE false (.mk 3 Tree.nil Tree.nil [] [] l os) t=if t.kind=l then (Z1H (ZB false os t.kids [])).map fun b=> .mk l [] b else none:=Zs6 rfl t
theorem YK{e:Edit}(h:Ym e):rng e.old∧rng e.new∧(∀ x∈e.words,Z2w x)∧Z0k e.kids∧JC e.ops:=by
 obtain ⟨k,o,n,w,ks,l,os⟩:=e
 exact ⟨h.2.1,h.2.2.1,h.2.2.2.1,h.2.2.2.2.2.1,h.2.2.2.2.2.2⟩
end Go.AM.Ytpjenobkibfpcaa
namespace Go.AM.Ytpjenobkibfpcaa
open Go.AM Go.Proofs
structure Alike (c r:Edit × Bool):Prop where
 ok:c.2=r.2
 nrm:c.2=true→ZA c.1=ZA r.1
end Go.AM.Ytpjenobkibfpcaa
namespace Go.AM.Ytpjenobkibfpcaa
open Go.AM Go.Proofs
theorem Z9o(e:Edit):18≤ctE e:=by
 have:=Z4a e
 have:=Y8 e.old
 have:=Y8 e.new
 omega
theorem ZkI(o n:Tree):ctE (.mk 1 o n [] [] 0 [])=16+Zk o+Zk n:=by simp [ctE,Z03,YA]
mutual
theorem Z8z:∀ (e:Edit),ctE (ZM e)=ctE e
 | .mk k o n w ks l os=> by
  have h1:=Ze6 ks
  have h2:=Ze5 os
  simp only [ZM,ctE,List.length_map]
  omega
theorem Ze6:∀ (ks:List (KidOf Edit)),Z03 (Jy ks)=Z03 ks
 | []=> rfl
 | k ::r=> by
  have h1:=ZiP k
  have h2:=Ze6 r
  simp only [Jy,Z03]
  omega
theorem ZiP:∀ (k:KidOf Edit),Z2u (Z19 k)=Z2u k
 | ⟨a,e⟩=> by
  have:=Z8z e
  simp only [Z19,Z2u]
  omega
theorem Ze5:∀ (os:List (OpOf Edit)),YA (J5 os)=YA os
 | []=> rfl
 | o ::r=> by
  have h1:=Zmi o
  have h2:=Ze5 r
  simp only [J5,YA]
  omega
theorem Zmi:∀ (o:OpOf Edit),Z1u (YJ o)=Z1u o
 | ⟨k,n,l,e⟩=> by
  have:=Z8z e
  rw [Jl]
  dsimp only
  split
  ·try rfl
  ·split
   ·try rfl
   ·split
    ·simp only [Z1u];omega
    ·try rfl
end
theorem Z3z:∀ (a b:List Op),YA (a++b)=YA a+YA b
 | [],b=> by simp [YA]
 | o ::r,b=> by simp only [List.cons_append,YA,Z3z r b];omega
def ctW(w:Wst):Nat:=YA w.out+(Za w.gone+if w.gone.length=0 then 0 else 34)+(Za w.brought+if w.brought.length=0 then 0 else 34)
theorem Z5e:ctE Edit.nil=18:=rfl
theorem ZcB(w:Wst):YA (Z1 w).out=ctW w:=by
 simp only [Z1,JN,ctW,Z3z]
 by_cases h1:w.gone.length=0
 ·rw [if_pos h1,if_pos h1,List.eq_nil_of_length_eq_zero h1]
  by_cases h2:w.brought.length=0
  ·rw [if_pos h2,if_pos h2,List.eq_nil_of_length_eq_zero h2];simp [YA,Za]
  ·rw [if_neg h2,if_neg h2];simp only [YA,Z1u,Z5e,Za];omega
 ·rw [if_neg h1,if_neg h1]
  by_cases h2:w.brought.length=0
  ·rw [if_pos h2,if_pos h2,List.eq_nil_of_length_eq_zero h2];simp only [YA,Z1u,Z5e,Za];omega
  ·rw [if_neg h2,if_neg h2];simp only [YA,Z1u,Z5e];omega
theorem ZkG(w:Wst)(n:Int):ctW (ZL w n)≤ctW w+34:=by
 have h:=ZcB w
 have e:ctW (ZL w n)=YA (Z0T (Z1 w).out n):=by simp [ZL,ctW,Za]
 rw [e,←h]
 rcases YX (Z1 w).out n with e | ⟨a,q,e1,_,e3⟩
 ·rw [e,Z3z];simp only [YA,Z1u,Z5e,Za];omega
 ·rw [e3,e1,Z3z,Z3z];simp only [YA,Z1u,Z49];omega
mutual
theorem Z9n:∀ (e:Edit),ctE (ZA e)≤ctE e
 | .mk k o n w ks l os=> by
  have h1:=Zhp ks
  have h2:=Zho l os ⟨[],[],[]⟩
  have h3:=Yi o
  have h4:=Yi n
  have:=Y8 o
  have:=Y8 n
  have hf:=ZcB (ZY l os ⟨[],[],[]⟩)
  have hz:ctW ⟨[],[],[]⟩=0:=rfl
  rw [ZA]
  split
  ·simp only [ctE,Z03,YA,List.length_nil];omega
  ·split
   ·simp only [ctE,YA,Z0n];omega
   ·split
    ·simp only [ctE,Z03,Z0n,List.length_nil];omega
    ·simp only [ctE,Z03,YA,Z0n,List.length_nil];omega
theorem Zhp:∀ (ks:List (KidOf Edit)),Z03 (Jj ks)≤Z03 ks
 | []=> Nat.le_refl _
 | k ::r=> by
  have h1:=Zmj k
  have h2:=Zhp r
  simp only [Jj,Z03]
  omega
theorem Zmj:∀ (k:KidOf Edit),Z2u (Z11 k)≤Z2u k
 | ⟨a,e⟩=> by
  have:=Z9n e
  simp only [Z11,Z2u]
  omega
theorem Zho(list:Int):∀ (os:List (OpOf Edit)) (w:Wst),ctW (ZY list os w)≤ctW w+YA os
 | [],w=> Nat.le_refl _
 | o ::r,w=> by
  have h1:=Zpu list o w
  have h2:=Zho list r (Z0l list o w)
  simp only [ZY,YA]
  omega
theorem Zpu(list:Int):∀ (o:OpOf Edit) (w:Wst),ctW (Z0l list o w)≤ctW w+Z1u o
 | ⟨k,n,l,e⟩,w=> by
  have he:=Z9n e
  have h18:=Z9o e
  have hl:=Z4X l
  have hc:=fun a b=> Jo a b
  rw [Z0l]
  simp only [Z1u]
  split
  ·have:=ZkG w n;omega
  ·split
   ·have:=Jo w.gone (Z5 l)
    simp only [ctW]
    split <;> split <;> omega
   ·split
    ·have:=Jo w.brought (Z5 l)
     simp only [ctW]
     split <;> split <;> split <;> omega
    ·split
     ·split
      ·have:=ZkG w 1;omega
      ·have hf:=ZcB w
       show YA ((Z1 w).out++[⟨3,0,[],ZA e⟩])+_+_≤_
       rw [Z3z,hf]
       simp only [YA,Z1u,Za,List.length_nil,if_pos]
       omega
     ·omega
end
def Jq(φ:Op→Int):List Op→Int
 | []=> 0
 | o ::r=> φ o+Jq φ r
def ZmG(φ:Op→Int):Prop:=∀ o n,YG o→1≤n→¬Z0 o≤n→φ (ZH o n)+φ (JR o n)=φ o
theorem ZfY{φ:Op→Int}(hφ:ZmG φ){p:List Op}{n:Int}(hp:∀ o∈p,YG o)(hl:p.length≠0)(h1:1≤n):φ (ZH (p.getD 0 Op.nil) n)+Jq φ (ZV p n)=Jq φ p∧∀ o∈ZV p n,YG o:=by
 cases p with
 | nil=> exact absurd rfl hl
 | cons o r=>
  have ho:=hp o List.mem_cons_self
  unfold ZV
  simp only [List.getD_cons_zero,List.drop_succ_cons,List.drop_zero]
  by_cases h:Z0 o≤n
  ·rw [if_pos h]
   have e:ZH o n=o:=by unfold ZH;rw [if_pos h]
   rw [e]
   exact ⟨rfl,fun x hx=> hp x (List.mem_cons_of_mem _ hx)⟩
  ·rw [if_neg h]
   refine ⟨by simp only [Jq];have:=hφ o n ho h1 h;omega,fun x hx=> ?_⟩
   rcases List.mem_cons.1 hx with rfl | hx
   ·exact (ZcI ho h1 h).1
   ·exact hp x (List.mem_cons_of_mem _ hx)
theorem ZbT{φ ψ:Op→Int}(hφ:ZmG φ)(hψ:ZmG ψ)(a:Int):∀ (k:Nat) (p q:List Op) (out:List Piece),p.length+q.length≤k→(∀ o∈p,YG o)→(∀ o∈q,YG o)→(ZX a 2 p q out).2.1=true→
  ∃ ps,(ZX a 2 p q out).1=out++ps∧Jq φ (Z4h ps)=Jq φ p∧Jq ψ (Z4g ps)=Jq ψ q∧ps.length≤p.length+q.length:=by
 intro k
 induction k with
 | zero=>
  intro p q out hk hp hq h
  have e1:p=[]:=List.eq_nil_of_length_eq_zero (by omega)
  have e2:q=[]:=List.eq_nil_of_length_eq_zero (by omega)
  subst e1 e2
  rw [ZX,dif_neg (by simp [sgl]),dif_neg (by simp [sgl]),dif_pos (by simp)]
  exact ⟨[],by simp,rfl,rfl,by simp⟩
 | succ k ih=>
  intro p q out hk hp hq h
  rw [ZX] at h ⊢
  by_cases h1:sgl a p=true
  ·rw [dif_pos h1] at h ⊢
   obtain ⟨g1,_⟩:=Z2D.1 h1
   cases p with
   | nil=> exact absurd rfl g1
   | cons o r=>
    simp only [List.getD_cons_zero,List.drop_succ_cons,List.drop_zero] at h ⊢
    obtain ⟨ps,e,f1,f2,f3⟩:=ih r q _ (by simp only [List.length_cons] at hk;omega) (fun x hx=> hp x (List.mem_cons_of_mem _ hx)) hq h
    refine ⟨⟨1,o,Op.nil⟩ ::ps,by rw [e,List.append_assoc];rfl,?_,?_,by simp only [List.length_cons];omega⟩
    ·show Jq φ (o ::Z4h ps)=_
     simp only [Jq];omega
    ·exact f2
  ·rw [dif_neg h1] at h ⊢
   by_cases h2:sgl 2 q=true
   ·rw [dif_pos h2] at h ⊢
    obtain ⟨g1,_⟩:=Z2D.1 h2
    cases q with
    | nil=> exact absurd rfl g1
    | cons o r=>
     simp only [List.getD_cons_zero,List.drop_succ_cons,List.drop_zero] at h ⊢
     obtain ⟨ps,e,f1,f2,f3⟩:=ih p r _ (by simp only [List.length_cons] at hk;omega) hp (fun x hx=> hq x (List.mem_cons_of_mem _ hx)) h
     refine ⟨⟨2,Op.nil,o⟩ ::ps,by rw [e,List.append_assoc];rfl,f1,?_,by simp only [List.length_cons];omega⟩
     show Jq ψ (o ::Z4g ps)=_
     simp only [Jq];omega
   ·rw [dif_neg h2] at h ⊢
    by_cases h3:p.length=0∨q.length=0
    ·rw [dif_pos h3] at h ⊢
     by_cases h4:decide (p.length=0)=decide (q.length=0)
     ·rw [if_pos h4]
      have h5:p.length=0∧q.length=0:=by
       have:=decide_eq_decide.1 h4
       omega
      rw [List.eq_nil_of_length_eq_zero h5.1,List.eq_nil_of_length_eq_zero h5.2]
      exact ⟨[],by simp,rfl,rfl,by simp⟩
     ·rw [if_neg h4] at h;cases h
    ·rw [dif_neg h3] at h ⊢
     have l1:p.length≠0:=by omega
     have l2:q.length≠0:=by omega
     have p1:=YH (hp _ (Zh (l:=p) (i:=0) (by omega) Op.nil))
     have p2:=YH (hq _ (Zh (l:=q) (i:=0) (by omega) Op.nil))
     generalize hn:min (Z0 (p.getD 0 Op.nil)) (Z0 (q.getD 0 Op.nil))=n at h ⊢
     obtain ⟨s1,s2⟩:=ZfY hφ hp l1 (n:=n) (by omega)
     obtain ⟨t1,t2⟩:=ZfY hψ hq l2 (n:=n) (by omega)
     have c1:=YS p n l1
     have c2:=YS q n l2
     have c3:Z0 (p.getD 0 Op.nil)≤n→(ZV p n).length < p.length:=fun h=> YR p _ l1 h
     have c4:Z0 (q.getD 0 Op.nil)≤n→(ZV q n).length < q.length:=fun h=> YR q _ l2 h
     obtain ⟨ps,e,f1,f2,f3⟩:=ih (ZV p n) (ZV q n) _ (by omega) s2 t2 h
     refine ⟨⟨0,ZH (p.getD 0 Op.nil) n,ZH (q.getD 0 Op.nil) n⟩ ::ps,by rw [e,List.append_assoc];rfl,?_,?_,by simp only [List.length_cons];omega⟩
     ·show Jq φ (ZH (p.getD 0 Op.nil) n ::Z4h ps)=_
      simp only [Jq];omega
     ·show Jq ψ (ZH (q.getD 0 Op.nil) n ::Z4g ps)=_
      simp only [Jq];omega
def φA(o:Op):Int:=if o.kind=2 then 0 else Z0 o
def φB(o:Op):Int:=if o.kind=1 then 0 else Z0 o
def φC(o:Op):Int:=Za o.l+ctE o.e - 18
theorem ZhJ:∀ l,Jq φA l=Y3 l
 | []=> rfl
 | o ::r=> by simp only [Jq,Y3,φA,ZhJ r]
theorem ZhI:∀ l,Jq φB l=YO l
 | []=> rfl
 | o ::r=> by simp only [Jq,YO,φB,ZhI r]
theorem Zer:∀ l,Jq φC l+34*l.length=YA l
 | []=> rfl
 | o ::r=> by
  have:=Zer r
  simp only [Jq,YA,φC,Z49,List.length_cons]
  omega
theorem ZcJ(o:Op)(n:Int):(JR o n).kind=o.kind:=by unfold JR;split <;> rfl
theorem Zhu{o:Op}{n:Int}(ho:YG o)(h1:1≤n)(hn:¬Z0 o≤n):Z0 (JR o n)=Z0 o - n:=by
 obtain ⟨_,_,v3,_⟩:=Z70 (a:=1) ho h1 hn
 have hl:=YL o
 rcases ho with ⟨k0,k1,k2,k3⟩ | ⟨k0,k1,k2,k3⟩ | ⟨k0,k1,k2⟩
 ·unfold JR
  rw [if_pos k0,YL]
  dsimp only
  rw [if_neg (by omega)] at hl ⊢
  omega
 ·unfold JR
  rw [if_neg (by omega),YL]
  dsimp only
  rw [if_neg (by omega)] at hl ⊢
  rw [List.length_drop]
  omega
 ·rw [if_pos k0] at hl
  omega
theorem Ztw:ZmG φA:=by
 intro o n ho h1 hn
 obtain ⟨_,_,v3,_⟩:=Z70 (a:=1) ho h1 hn
 have:=Zhu ho h1 hn
 unfold φA
 rw [Z3I,ZcJ,v3,this]
 split <;> omega
theorem Ztv:ZmG φB:=by
 intro o n ho h1 hn
 obtain ⟨_,_,v3,_⟩:=Z70 (a:=1) ho h1 hn
 have:=Zhu ho h1 hn
 unfold φB
 rw [Z3I,ZcJ,v3,this]
 split <;> omega
theorem Ztu:ZmG φC:=by
 intro o n ho h1 hn
 have hl:=YL o
 unfold φC ZH JR
 rw [if_neg hn]
 rcases ho with ⟨k0,k1,k2,k3⟩ | ⟨k0,k1,k2,k3⟩ | ⟨k0,k1,k2⟩
 ·rw [if_pos k0,if_pos k0]
  dsimp only
  rw [k3,k1,Z5e]
  simp [Za]
 ·rw [if_neg (by omega),if_neg (by omega)]
  dsimp only
  have:=Jo (o.l.take n.toNat) (o.l.drop n.toNat)
  rw [List.take_append_drop] at this
  rw [k3,Z5e]
  omega
 ·rw [if_pos k0] at hl
  omega
end Go.AM.Ytpjenobkibfpcaa
