import Derived.Test.YtpjenobkibfpcaaKL21t
import Derived.Test.YtpjenobkibfpcaaKP20
set_option linter.unusedSimpArgs false
set_option linter.unusedVariables false
namespace Go.AM.Ytpjenobkibfpcaa
open Go.AM Go.Proofs
theorem Zau:∀ {ks:List Kid} {k:Kid},k∈ks→Zc k.e≤Zw ks
 | ⟨_,_⟩ ::r,k,h=> by
  rcases List.mem_cons.1 h with rfl | h
  ·simp only [Zw,YQ];omega
  ·have:=Zau h;simp only [Zw];omega
theorem Z3g:∀ {os:List Op} {o:Op},o∈os→Zx o≤Zs os
 | a ::r,o,h=> by
  rcases List.mem_cons.1 h with rfl | h
  ·simp only [Zs];omega
  ·have:=Z3g h;simp only [Zs];omega
theorem ZmV(o:Op):Zc o.e≤Zx o:=by obtain ⟨k,n,l,e⟩:=o;simp only [Zx];omega
theorem J4{e:Edit}{k:Kid}(h:k∈e.kids):Zc k.e < Zc e:=by
 obtain ⟨kk,o,n,w,ks,l,os⟩:=e
 have:=Zau (ks:=ks) h
 simp only [Zc];omega
theorem JY{e:Edit}{o:Op}(h:o∈e.ops):Zc o.e < Zc e:=by
 obtain ⟨kk,ol,n,w,ks,l,os⟩:=e
 have:=Z3g (os:=os) h
 have:=ZmV o
 simp only [Zc];omega
mutual
theorem Jk:∀ (t:Tree) (d m:Int),m < 0→Z9 t d=true→Z9 t m=true
 | .mk k w ks,d,m,hm,h=> by
  rw [Z9] at h ⊢
  by_cases h0:k=0
  ·rw [if_pos h0] at h ⊢;exact h
  ·rw [if_neg h0] at h ⊢
   by_cases h1:k=10
   ·rw [if_pos h1] at h ⊢;exact h
   ·rw [if_neg h1] at h ⊢
    by_cases h2:d=0
    ·rw [if_pos h2] at h;cases h
    ·rw [if_neg h2] at h
     rw [if_neg (by omega)]
     by_cases h3:k=1
     ·rw [if_pos h3,Bool.and_eq_true] at h ⊢
      exact ⟨h.1,Z71 1 ks (d - 1) (m - 1) (by omega) h.2⟩
     ·rw [if_neg h3,Bool.and_eq_true] at h ⊢
      exact ⟨h.1,Z71 k ks (d - 1) (m - 1) (by omega) h.2⟩
theorem Z71(list:Int):∀ (ks:List Tree) (d m:Int),m < 0→Y7 list ks d=true→Y7 list ks m=true
 | [],_,_,_,_=> rfl
 | t ::r,d,m,hm,h=> by
  simp only [Y7,Bool.and_eq_true] at h ⊢
  exact ⟨⟨h.1.1,Jk t d m hm h.1.2⟩,Z71 list r d m hm h.2⟩
end
theorem RT_.neg{t:Tree}(h:RT_ t):Z9 t (-1)=true:=by
 obtain ⟨⟨d,h⟩,_⟩:=h
 exact Jk t d (-1) (by decide) h
theorem Z2v{list d:Int}:∀ {ks:List Tree},Y7 list ks d=true↔∀ t∈ks,Jz list t=true∧Z9 t d=true
 | []=> by simp [Y7]
 | t ::r=> by
  simp only [Y7,Bool.and_eq_true,Z2v (ks:=r),List.mem_cons,forall_eq_or_imp]
theorem Z5k{t:Tree}(h:Z9 t (-1)=true):t.kind≠0→t.kind≠10→
  (t.kind=1→t.words.length < 65536∧t.kids.length < 65536)∧(t.kind≠1→(2≤t.kind∧t.kind≤9)∧t.words=[]∧t.kids.length < 1048576)∧∀ k∈t.kids,Jz t.kind k=true∧Z9 k (-1)=true:=by
 obtain ⟨k,w,ks⟩:=t
 intro h0 h1
 have h0:k≠0:=h0
 have h1:k≠10:=h1
 rw [Z9,if_neg h0,if_neg h1,if_neg (by decide)] at h
 by_cases h3:k=1
 ·rw [if_pos h3,Bool.and_eq_true,decide_eq_true_eq,Z2v] at h
  subst h3
  exact ⟨fun _=> h.1,fun e=> absurd rfl e,fun x hx=> ⟨(h.2 x hx).1,Jk _ _ _ (by decide) (h.2 x hx).2⟩⟩
 ·rw [if_neg h3,Bool.and_eq_true,decide_eq_true_eq,Z2v] at h
  exact ⟨fun e=> absurd e h3,fun _=> ⟨⟨h.1.1,h.1.2.1⟩,List.eq_nil_of_length_eq_zero h.1.2.2.1,h.1.2.2.2⟩,fun x hx=> ⟨(h.2 x hx).1,Jk _ _ _ (by decide) (h.2 x hx).2⟩⟩
theorem Zf5{w:List Int}{ks:List Tree}(h1:w.length < 65536)(h2:ks.length < 65536)(h:∀ k∈ks,Jz 1 k=true∧Z9 k (-1)=true):Z9 (.mk 1 w ks) (-1)=true:=by
 rw [Z9,if_neg (by decide),if_neg (by decide),if_neg (by decide),if_pos rfl,Bool.and_eq_true,decide_eq_true_eq,Z2v]
 exact ⟨⟨h1,h2⟩,fun x hx=> ⟨(h x hx).1,Jk _ _ _ (by decide) (h x hx).2⟩⟩
theorem Zc6{l:Int}{ks:List Tree}(hl:2≤l∧l≤9)(h2:ks.length < 1048576)(h:∀ k∈ks,Jz l k=true∧Z9 k (-1)=true):Z9 (.mk l [] ks) (-1)=true:=by
 rw [Z9,if_neg (by omega),if_neg (by omega),if_neg (by decide),if_neg (by omega),Bool.and_eq_true,decide_eq_true_eq,Z2v]
 exact ⟨⟨hl.1,hl.2,rfl,h2⟩,fun x hx=> ⟨(h x hx).1,Jk _ _ _ (by decide) (h x hx).2⟩⟩
theorem Z32{D list:Int}:∀ {l:List Tree},Yn D list l=true→∀ t∈l,Z9 (.mk list [] [t]) D=true
 | a ::r,h,t,ht=> by
  simp only [Yn,Bool.and_eq_true] at h
  rcases List.mem_cons.1 ht with rfl | ht
  ·exact h.1
  ·exact Z32 h.2 t ht
theorem Jc{D list:Int}(hl:2≤list∧list≤9){l:List Tree}(h:Yn D list l=true):∀ t∈l,Jz list t=true∧Z9 t (-1)=true:=by
 intro t ht
 have:=Z5k (Jk _ _ (-1) (by decide) (Z32 h t ht)) (by show list≠0;omega) (by show list≠10;omega)
 exact this.2.2 t (by simp)
inductive Run:List Op→List Tree→List Tree→Prop
 | nil:Run [] [] []
 | keep {o r a s d}:o.kind=0→(a.length:Int)=o.n→Run r s d→Run (o ::r) (a++s) (a++d)
 | gone {o r a s d}:o.kind=1→Z5 o.l=Z5 a→Run r s d→Run (o ::r) (a++s) d
 | come {o r s d}:o.kind=2→Run r s d→Run (o ::r) s (o.l++d)
 | into {o r x y s d}:o.kind=3→doE false o.e x=some y→Run r s d→Run (o ::r) (x ::s) (y ::d)
def kOk(o:Op):Prop:=(o.kind=0∧0≤o.n)∨o.kind=1∨o.kind=2∨o.kind=3
theorem Zoy:∀ {os:List Op} {s d:List Tree},Run os s d→∀ out,ZE false os s out=some (out++d,[]):=by
 intro os s d h
 induction h with
 | nil=> intro out;simp [ZE]
 | keep h0 hn hr0 ih=>
  rename_i o r a s d
  intro out
  rw [ZE,YD,if_pos h0,if_pos (by rw [List.length_append];omega),show o.n.toNat=a.length by omega]
  simp only [Option.bind_some,List.take_left,List.drop_left]
  rw [ih,List.append_assoc]
 | gone h1 hn hr0 ih=>
  rename_i o r a s d
  intro out
  have hl:=Z29 hn
  rw [ZE,YD,if_neg (by omega),if_pos h1,if_pos]
  ·simp only [Option.bind_some]
   rw [hl,List.drop_left,ih]
  ·rw [Z17,hl,List.take_left]
   exact ⟨by simp,hn⟩
 | come h2 hr0 ih=>
  intro out
  rw [ZE,YD,if_neg (by omega),if_neg (by omega),if_pos h2]
  simp only [Option.bind_some]
  rw [ih,List.append_assoc]
 | into h3 he hr0 ih=>
  intro out
  rw [ZE,YD,if_neg (by omega),if_neg (by omega),if_neg (by omega),if_neg (by simp)]
  simp only [List.getD_cons_zero,he,Option.map_some,Option.bind_some,List.drop_succ_cons,List.drop_zero]
  rw [ih,List.append_assoc]
  try rfl
theorem Zd2:∀ {os:List Op} {s out:List Tree} {x:List Tree × List Tree},(∀ o∈os,kOk o)→ZE false os s out=some x→x.2=[]→∃ d,x.1=out++d∧Run os s d
 | [],s,out,x,_,h,hx=> by
  rw [ZE] at h
  cases h
  have hx:s=[]:=hx
  subst hx
  exact ⟨[],by simp,.nil⟩
 | o ::r,s,out,x,hk,h,hx=> by
  rw [ZE,YD] at h
  have hr:∀ o∈r,kOk o:=fun o ho=> hk o (List.mem_cons_of_mem _ ho)
  rcases hk o List.mem_cons_self with h0 | h1 | h2 | h3
  ·rw [if_pos h0.1] at h
   split at h
   ·rename_i hl
    simp only [Option.bind_some] at h
    obtain ⟨d,e,hd⟩:=Zd2 hr h hx
    refine ⟨s.take o.n.toNat++d,by rw [e,List.append_assoc],?_⟩
    have:=Run.keep (a:=s.take o.n.toNat) h0.1 (by rw [List.length_take];omega) hd
    rwa [List.take_append_drop] at this
   ·cases h
  ·rw [if_neg (by omega),if_pos h1] at h
   split at h
   ·rename_i hg
    obtain ⟨g1,g2⟩:=(Z17 _ _).1 hg
    simp only [Option.bind_some] at h
    obtain ⟨d,e,hd⟩:=Zd2 hr h hx
    refine ⟨d,e,?_⟩
    have:=Run.gone (a:=s.take o.l.length) h1 g2 hd
    rwa [List.take_append_drop] at this
   ·cases h
  ·rw [if_neg (by omega),if_neg (by omega),if_pos h2] at h
   simp only [Option.bind_some] at h
   obtain ⟨d,e,hd⟩:=Zd2 hr h hx
   exact ⟨o.l++d,by rw [e,List.append_assoc],.come h2 hd⟩
  ·rw [if_neg (by omega),if_neg (by omega),if_neg (by omega)] at h
   split at h
   ·cases h
   ·rename_i hl
    obtain ⟨y,hy,h⟩:=Option.bind_eq_some_iff.1 h
    obtain ⟨z,hz,rfl⟩:=Option.map_eq_some_iff.1 hy
    obtain ⟨d,e,hd⟩:=Zd2 hr h hx
    cases s with
    | nil=> simp at hl
    | cons x0 s=>
     refine ⟨z ::d,by rw [e];simp,.into h3 (by simpa using hz) (by simpa using hd)⟩
theorem Z4M{os:List Op}{s d:List Tree}(hk:∀ o∈os,kOk o):Z19 (ZE false os s [])=some d↔Run os s d:=by
 constructor
 ·intro h
  unfold Z19 at h
  obtain ⟨x,hx,h⟩:=Option.bind_eq_some_iff.1 h
  split at h
  ·rename_i hl
   cases h
   obtain ⟨d,e,hd⟩:=Zd2 hk hx (List.eq_nil_of_length_eq_zero hl)
   rw [e];exact hd
  ·cases h
 ·intro h
  have:=Zoy h []
  unfold Z19
  rw [this]
  simp
theorem Zet{list d:Int}{o:Op}(h:Za list o d=true):kOk o:=by
 have:=ZC h
 cases this with
 | keep n h1=> exact .inl ⟨rfl,by show 0≤n;omega⟩
 | gone=> exact .inr (.inl rfl)
 | come=> exact .inr (.inr (.inl rfl))
 | into=> exact .inr (.inr (.inr rfl))
theorem Zs1:∀ {os:List Op} {s d:List Tree},Run os s d→(∀ o∈os,YI o)→(s.length:Int)=J8 os∧(d.length:Int)=Jn os:=by
 intro os s d h
 induction h with
 | nil=> intro _;simp [J8,Jn]
 | keep h0 hn hr0 ih=>
  rename_i o r a s d
  intro hk
  obtain ⟨i1,i2⟩:=ih fun o ho=> hk o (List.mem_cons_of_mem _ ho)
  have ho:=hk o List.mem_cons_self
  have hl:Z2 o=o.n:=by
   rcases ho with h | h | h
   ·unfold Z2;rw [if_neg (by omega),h.2.1];simp
   ·omega
   ·omega
  simp only [J8,Jn,List.length_append]
  rw [if_neg (by omega),if_neg (by omega),hl]
  omega
 | gone h1 hn hr0 ih=>
  rename_i o r a s d
  intro hk
  obtain ⟨i1,i2⟩:=ih fun o ho=> hk o (List.mem_cons_of_mem _ ho)
  have ho:=hk o List.mem_cons_self
  have hl:Z2 o=a.length:=by
   have:=Z29 hn
   rcases ho with h | h | h
   ·omega
   ·unfold Z2;rw [if_neg (by omega),h.2.1];omega
   ·omega
  simp only [J8,Jn,List.length_append]
  rw [if_neg (by omega),if_pos h1,hl]
  omega
 | come h2 hr0 ih=>
  rename_i o r s d
  intro hk
  obtain ⟨i1,i2⟩:=ih fun o ho=> hk o (List.mem_cons_of_mem _ ho)
  have ho:=hk o List.mem_cons_self
  have hl:Z2 o=o.l.length:=by
   rcases ho with h | h | h
   ·omega
   ·unfold Z2;rw [if_neg (by omega),h.2.1];omega
   ·omega
  simp only [J8,Jn,List.length_append]
  rw [if_pos h2,if_neg (by omega),hl]
  omega
 | into h3 he hr0 ih=>
  rename_i o r x y s d
  intro hk
  obtain ⟨i1,i2⟩:=ih fun o ho=> hk o (List.mem_cons_of_mem _ ho)
  have hl:Z2 o=1:=by unfold Z2;rw [if_pos h3]
  simp only [J8,Jn,List.length_cons]
  rw [if_neg (by omega),if_neg (by omega),hl]
  omega
end Go.AM.Ytpjenobkibfpcaa
namespace Go.AM.Ytpjenobkibfpcaa
open Go.AM Go.Proofs
theorem ZhV{r:Bool}{tk:List Tree}:∀ {ks:List Kid} {out b:List Tree},Jf r tk ks out=some b→(∀ k∈ks,k.at_≤65534)→
  b.length≤max out.length 65535∧∀ y∈b,y∈out∨y=Tree.nil∨∃ k∈ks,doE r k.e (tk.getD k.at_.toNat Tree.nil)=some y
 | [],out,b,h,_=> by
  rw [Jf] at h
  cases h
  exact ⟨by omega,fun y hy=> .inl hy⟩
 | k ::s,out,b,h,ha=> by
  rw [Jf,Z4a] at h
  obtain ⟨v,hv,hb⟩:=Option.bind_eq_some_iff.1 h
  obtain ⟨i1,i2⟩:=ZhV hb fun x hx=> ha x (List.mem_cons_of_mem _ hx)
  have:=ha k List.mem_cons_self
  rw [JD] at i1
  refine ⟨by omega,fun y hy=> ?_⟩
  rcases i2 y hy with h1 | h1 | ⟨q,hq,h1⟩
  ·rcases Z2t h1 with h1 | h1 | h1
   ·exact .inl h1
   ·exact .inr (.inl h1)
   ·subst h1
    exact .inr (.inr ⟨k,List.mem_cons_self,hv⟩)
  ·exact .inr (.inl h1)
  ·exact .inr (.inr ⟨q,List.mem_cons_of_mem _ hq,h1⟩)
theorem Zs0:∀ {os:List Op} {s d:List Tree},Run os s d→∀ y∈d,y∈s∨(∃ o∈os,o.kind=2∧y∈o.l)∨∃ o∈os,o.kind=3∧∃ x∈s,doE false o.e x=some y:=by
 intro os s d h
 induction h with
 | nil=> intro y hy;cases hy
 | keep h0 hn hr0 ih=>
  intro y hy
  rcases List.mem_append.1 hy with hy | hy
  ·exact .inl (List.mem_append_left _ hy)
  ·rcases ih y hy with h | ⟨o,ho,h⟩ | ⟨o,ho,hk,x,hx,h⟩
   ·exact .inl (List.mem_append_right _ h)
   ·exact .inr (.inl ⟨o,List.mem_cons_of_mem _ ho,h⟩)
   ·exact .inr (.inr ⟨o,List.mem_cons_of_mem _ ho,hk,x,List.mem_append_right _ hx,h⟩)
 | gone h1 hn hr0 ih=>
  intro y hy
  rcases ih y hy with h | ⟨o,ho,h⟩ | ⟨o,ho,hk,x,hx,h⟩
  ·exact .inl (List.mem_append_right _ h)
  ·exact .inr (.inl ⟨o,List.mem_cons_of_mem _ ho,h⟩)
  ·exact .inr (.inr ⟨o,List.mem_cons_of_mem _ ho,hk,x,List.mem_append_right _ hx,h⟩)
 | come h2 hr0 ih=>
  intro y hy
  rcases List.mem_append.1 hy with hy | hy
  ·exact .inr (.inl ⟨_,List.mem_cons_self,h2,hy⟩)
  ·rcases ih y hy with h | ⟨o,ho,h⟩ | ⟨o,ho,hk,x,hx,h⟩
   ·exact .inl h
   ·exact .inr (.inl ⟨o,List.mem_cons_of_mem _ ho,h⟩)
   ·exact .inr (.inr ⟨o,List.mem_cons_of_mem _ ho,hk,x,hx,h⟩)
 | into h3 he hr0 ih=>
  intro y hy
  rcases List.mem_cons.1 hy with rfl | hy
  ·exact .inr (.inr ⟨_,List.mem_cons_self,h3,_,List.mem_cons_self,he⟩)
  ·rcases ih y hy with h | ⟨o,ho,h⟩ | ⟨o,ho,hk,x,hx,h⟩
   ·exact .inl (List.mem_cons_of_mem _ h)
   ·exact .inr (.inl ⟨o,List.mem_cons_of_mem _ ho,h⟩)
   ·exact .inr (.inr ⟨o,List.mem_cons_of_mem _ ho,hk,x,List.mem_cons_of_mem _ hx,h⟩)
theorem Zw8{y:Tree}(h:y.kind≠10):Jz 1 y=true:=by
 unfold Jz
 rw [if_neg (by decide),if_neg (by decide)]
 exact decide_eq_true h
theorem Z7i{list d:Int}{os:List Op}(h:Zt list os d=true):∀ o∈os,YI o:=fun o ho=> Z70 (rightOs_mem h ho)
theorem Z0J{o:Op}(h:YI o):0≤Z2 o:=by have:=YV h;omega
theorem Z4R{e:Edit}{d:Int}{t u:Tree}(hr:Z0 e d=true)(h:doE false e t=some u):(e.kind=1→u=e.new)∧(e.kind=2→u.kind=1∧t.kind=1)∧(e.kind=3→u.kind=e.list∧t.kind=e.list)∧(e.kind=0→u=t):=by
 rw [Z0R,Yp] at h
 refine ⟨fun hk=> ?_,fun hk=> ?_,fun hk=> ?_,fun hk=> ?_⟩
 ·rw [if_neg (by omega),if_pos hk] at h
  split at h
  ·exact (Option.some.inj h).symm
  ·cases h
 ·rw [if_neg (by omega),if_neg (by omega),if_pos hk] at h
  split at h
  ·rename_i ht
   obtain ⟨a,ha,h⟩:=Option.bind_eq_some_iff.1 h
   obtain ⟨b,hb,rfl⟩:=Option.map_eq_some_iff.1 h
   exact ⟨rfl,ht⟩
  ·cases h
 ·rw [if_neg (by omega),if_neg (by omega),if_neg (by omega),if_pos hk] at h
  split at h
  ·rename_i ht
   obtain ⟨b,hb,rfl⟩:=Option.map_eq_some_iff.1 h
   exact ⟨rfl,ht⟩
  ·cases h
 ·rw [if_pos hk] at h
  exact (Option.some.inj h).symm
theorem Z2q:∀ (n:Nat) (e:Edit) (d:Int) (t u:Tree),Zc e≤n→Z0 e d=true→Z9 t (-1)=true→doE false e t=some u→Z9 u (-1)=true∧(e.kind≠0→u.kind≠10):=by
 intro n
 induction n with
 | zero=> intro e d t u hm;obtain ⟨k,o,nw,w,ks,l,os⟩:=e;simp only [Zc] at hm;omega
 | succ n ih=>
  intro e d t u hm hr ht h
  have R:=Zp hr
  obtain ⟨k1,k2,k3,k0⟩:=Z4R hr h
  have hk:=R.kind
  by_cases h0:e.kind=0
  ·rw [k0 h0];exact ⟨ht,fun q=> absurd h0 q⟩
  by_cases h1:e.kind=1
  ·rw [k1 h1]
   obtain ⟨r1,r2,r3,r4⟩:=R.rep h1
   exact ⟨Jk _ _ _ (by decide) r2,fun _=> r4⟩
  by_cases h2:e.kind=2
  ·obtain ⟨u1,t1⟩:=k2 h2
   refine ⟨?_,fun _=> by omega⟩
   rw [Z0R,Yp,if_neg h0,if_neg h1,if_pos h2,if_pos t1] at h
   obtain ⟨a,ha,h⟩:=Option.bind_eq_some_iff.1 h
   obtain ⟨b,hb,rfl⟩:=Option.map_eq_some_iff.1 h
   obtain ⟨p1,_,p3⟩:=Z5k ht (by omega) (by omega)
   have p1:=p1 t1
   rw [t1] at p3
   have hl:=ZeN R.words ha
   have ha':=ZG R.kids
   obtain ⟨m1,m2⟩:=ZhV hb fun k hk=> (ha' k hk).1.2.1
   refine Zf5 (by omega) (by omega) fun y hy=> ?_
   rcases m2 y hy with h | rfl | ⟨k,hk,h⟩
   ·exact p3 y h
   ·exact ⟨rfl,rfl⟩
   ·have hx:Z9 (t.kids.getD k.at_.toNat Tree.nil) (-1)=true:=by
     by_cases hi:k.at_.toNat < t.kids.length
     ·rw [List.getD_eq_getElem?_getD,List.getElem?_eq_getElem hi]
      exact (p3 _ (List.getElem_mem hi)).2
     ·rw [List.getD_eq_getElem?_getD,List.getElem?_eq_none (by omega)];try rfl
    obtain ⟨g1,g2⟩:=ih k.e _ _ y (by have:=J4 hk;omega) (ha' k hk).2 hx h
    exact ⟨Zw8 (g2 (ha' k hk).1.2.2),g1⟩
  ·have h3:e.kind=3:=by omega
   obtain ⟨u1,t1⟩:=k3 h3
   have hli:=R.list h3
   refine ⟨?_,fun _=> by omega⟩
   rw [Z0R,Yp,if_neg h0,if_neg h1,if_neg h2,if_pos h3,if_pos t1] at h
   obtain ⟨b,hb,rfl⟩:=Option.map_eq_some_iff.1 h
   have ho:∀ o∈e.ops,Za e.list o (d - 1)=true:=fun o h=> rightOs_mem R.ops h
   have hrun:=(Z4M (fun o h=> Zet (ho o h))).1 hb
   obtain ⟨_,q2⟩:=Zs1 hrun (Z7i R.ops)
   obtain ⟨q3,q4⟩:=Z2P e.ops 0 (fun o h=> Z0J (Z7i R.ops o h)) (by decide) (by decide)
   have q5:=R.len.2
   obtain ⟨_,_,p3⟩:=Z5k ht (by omega) (by omega)
   rw [t1] at p3
   refine Zc6 hli (by omega) fun y hy=> ?_
   rcases Zs0 hrun y hy with h | ⟨o,hoo,hk2,hyl⟩ | ⟨o,hoo,hk3,x,hx,h⟩
   ·exact p3 y h
   ·have:=ZC (ho o hoo)
    cases this with
    | come l h1 h2=> exact Jc hli h1 y hyl
    | keep | gone | into=> exact absurd hk2 (by simp)
   ·have:=ZC (ho o hoo)
    cases this with
    | into e' g1 g2 g3 g4=>
     obtain ⟨f1,f2⟩:=ih e' _ x y (by have:=JY hoo;dsimp only at this;omega) g1 (p3 x hx).2 h
     refine ⟨?_,f1⟩
     obtain ⟨j1,j2,_,_⟩:=Z4R g1 h
     unfold Jz
     rw [if_neg (by omega)]
     by_cases hl9:e.list=9
     ·rw [if_pos hl9]
      refine decide_eq_true ?_
      rcases g4 with q | q | q
      ·omega
      ·exact (j2 q).1
      ·rw [j1 q.1];exact q.2.2
     ·rw [if_neg hl9]
      exact decide_eq_true (f2 g2)
    | keep | gone | come=> exact absurd hk3 (by simp)
theorem ZqC{e:Edit}{d:Int}{t u:Tree}(hr:Z0 e d=true)(ht:RT_ t)(he:ZS e)(h:doE false e t=some u):RT_ u:=
 ⟨⟨-1,(Z2q _ e d t u (Nat.le_refl _) hr ht.neg h).1⟩,Z6X false e t u he ht.2 h⟩
end Go.AM.Ytpjenobkibfpcaa
namespace Go.AM.Ytpjenobkibfpcaa
open Go.AM Go.Proofs
theorem Ji{o:Op}{r:List Op}{s d:List Tree}(h0:o.kind=0):Run (o ::r) s d↔∃ a s' d',s=a++s'∧d=a++d'∧(a.length:Int)=o.n∧Run r s' d':=by
 constructor
 ·intro h
  cases h with
  | keep _ h2 h3=> exact ⟨_,_,_,rfl,rfl,h2,h3⟩
  | gone h1=> omega
  | come h1=> omega
  | into h1=> omega
 ·rintro ⟨a,s',d',rfl,rfl,h2,h3⟩
  exact .keep h0 h2 h3
theorem Y9{o:Op}{r:List Op}{s d:List Tree}(h0:o.kind=1):Run (o ::r) s d↔∃ a s',s=a++s'∧Z5 o.l=Z5 a∧Run r s' d:=by
 constructor
 ·intro h
  cases h with
  | gone _ h2 h3=> exact ⟨_,_,rfl,h2,h3⟩
  | keep h1=> omega
  | come h1=> omega
  | into h1=> omega
 ·rintro ⟨a,s',rfl,h2,h3⟩
  exact .gone h0 h2 h3
theorem Ya{o:Op}{r:List Op}{s d:List Tree}(h0:o.kind=2):Run (o ::r) s d↔∃ d',d=o.l++d'∧Run r s d':=by
 constructor
 ·intro h
  cases h with
  | come _ h3=> exact ⟨_,rfl,h3⟩
  | keep h1=> omega
  | gone h1=> omega
  | into h1=> omega
 ·rintro ⟨d',rfl,h3⟩
  exact .come h0 h3
theorem JS{o:Op}{r:List Op}{s d:List Tree}(h0:o.kind=3):Run (o ::r) s d↔∃ x s' y d',s=x ::s'∧d=y ::d'∧doE false o.e x=some y∧Run r s' d':=by
 constructor
 ·intro h
  cases h with
  | into _ h2 h3=> exact ⟨_,_,_,_,rfl,rfl,h2,h3⟩
  | keep h1=> omega
  | gone h1=> omega
  | come h1=> omega
 ·rintro ⟨x,s',y,d',rfl,rfl,h2,h3⟩
  exact .into h0 h2 h3
theorem Z67{o:Op}{p r:List Op}(h:∀ s d,Run p s d↔Run r s d)(hk:kOk o)(s d:List Tree):Run (o ::p) s d↔Run (o ::r) s d:=by
 rcases hk with h0 | h1 | h2 | h3
 ·rw [Ji h0.1,Ji h0.1];simp only [h]
 ·rw [Y9 h1,Y9 h1];simp only [h]
 ·rw [Ya h2,Ya h2];simp only [h]
 ·rw [JS h3,JS h3];simp only [h]
theorem Yo{o:Op}(h:YI o):kOk o:=by
 rcases h with h | h | h
 ·exact .inl ⟨h.1,by omega⟩
 ·rcases h.1 with h1 | h1
  ·exact .inr (.inl h1)
  ·exact .inr (.inr (.inl h1))
 ·exact .inr (.inr (.inr h.1))
theorem Z8a{o:Op}(h:YI o)(h0:o.kind=0):Z2 o=o.n:=by
 rcases h with h | h | h
 ·unfold Z2;rw [if_neg (by omega),h.2.1];simp
 ·omega
 ·omega
theorem YK{o:Op}(h:YI o)(h0:o.kind=1∨o.kind=2):Z2 o=o.l.length:=by
 rcases h with h | h | h
 ·omega
 ·unfold Z2;rw [if_neg (by omega),h.2.1];omega
 ·omega
theorem Z0k{o:Op}(h0:o.kind=3):Z2 o=1:=by unfold Z2;rw [if_pos h0]
theorem Zf2{o:Op}{r:List Op}{s m:List Tree}(ho:YI o)(hk:o.kind≠1)(h:Run (o ::r) s m):∃ m1 s' m',m=m1++m'∧(m1.length:Int)=Z2 o∧Run r s' m':=by
 rcases Yo ho with h0 | h1 | h2 | h3
 ·obtain ⟨a,s',d',_,rfl,hl,hr⟩:=(Ji h0.1).1 h
  exact ⟨a,s',d',rfl,by rw [Z8a ho h0.1];exact hl,hr⟩
 ·exact absurd h1 hk
 ·obtain ⟨d',rfl,hr⟩:=(Ya h2).1 h
  exact ⟨o.l,s,d',rfl,by rw [YK ho (.inr h2)],hr⟩
 ·obtain ⟨x,s',y,d',_,rfl,_,hr⟩:=(JS h3).1 h
  exact ⟨[y],s',d',rfl,by rw [Z0k h3];rfl,hr⟩
theorem Zix{o:Op}{r:List Op}{m d:List Tree}(ho:YI o)(hk:o.kind≠2)(h:Run (o ::r) m d):∃ m1 m' d',m=m1++m'∧(m1.length:Int)=Z2 o∧Run r m' d':=by
 rcases Yo ho with h0 | h1 | h2 | h3
 ·obtain ⟨a,s',d',rfl,_,hl,hr⟩:=(Ji h0.1).1 h
  exact ⟨a,s',d',rfl,by rw [Z8a ho h0.1];exact hl,hr⟩
 ·obtain ⟨a,s',rfl,hn,hr⟩:=(Y9 h1).1 h
  exact ⟨a,s',d,rfl,by rw [YK ho (.inl h1),Z29 hn],hr⟩
 ·exact absurd h2 hk
 ·obtain ⟨x,s',y,d',rfl,_,_,hr⟩:=(JS h3).1 h
  exact ⟨[x],s',d',rfl,by rw [Z0k h3];rfl,hr⟩
theorem Zmu{o:Op}{r:List Op}{n:Int}(ho:YI o)(h1:1≤n)(hn:¬Z2 o≤n)(s d:List Tree):Run (o ::r) s d↔Run (ZP o n ::Z03 o n ::r) s d:=by
 unfold ZP Z03
 rw [if_neg hn]
 rcases Yo ho with h0 | hg | hc | hi
 ·have hl:=Z8a ho h0.1
  rw [if_pos h0.1,if_pos h0.1,Ji h0.1,Ji (o:=⟨o.kind,n,o.l,o.e⟩) h0.1]
  constructor
  ·rintro ⟨a,s',d',rfl,rfl,ha,hr⟩
   refine ⟨a.take n.toNat,a.drop n.toNat++s',a.drop n.toNat++d',by rw [←List.append_assoc,List.take_append_drop],by rw [←List.append_assoc,List.take_append_drop],by rw [List.length_take];dsimp only;omega,?_⟩
   exact (Ji (o:=⟨o.kind,o.n - n,o.l,o.e⟩) h0.1).2 ⟨a.drop n.toNat,s',d',rfl,rfl,by rw [List.length_drop];dsimp only;omega,hr⟩
  ·rintro ⟨a,s',d',rfl,rfl,ha,hr⟩
   obtain ⟨b,s2,d2,rfl,rfl,hb,hr2⟩:=(Ji (o:=⟨o.kind,o.n - n,o.l,o.e⟩) h0.1).1 hr
   dsimp only at ha hb
   exact ⟨a++b,s2,d2,by rw [List.append_assoc],by rw [List.append_assoc],by rw [List.length_append];omega,hr2⟩
 ·have hl:=YK ho (.inl hg)
  rw [if_neg (by omega),if_neg (by omega),Y9 hg,Y9 (o:=⟨o.kind,o.n,o.l.take n.toNat,o.e⟩) hg]
  constructor
  ·rintro ⟨a,s',rfl,ha,hr⟩
   have hla:=Z29 ha
   refine ⟨a.take n.toNat,a.drop n.toNat++s',by rw [←List.append_assoc,List.take_append_drop],EqvL.take ha _,?_⟩
   exact (Y9 (o:=⟨o.kind,o.n,o.l.drop n.toNat,o.e⟩) hg).2 ⟨a.drop n.toNat,s',rfl,EqvL.drop ha _,hr⟩
  ·rintro ⟨a,s',rfl,ha,hr⟩
   obtain ⟨b,s2,rfl,hb,hr2⟩:=(Y9 (o:=⟨o.kind,o.n,o.l.drop n.toNat,o.e⟩) hg).1 hr
   refine ⟨a++b,s2,by rw [List.append_assoc],?_,hr2⟩
   have:=Z13 ha hb
   rwa [List.take_append_drop] at this
 ·rw [if_neg (by omega),if_neg (by omega),Ya hc,Ya (o:=⟨o.kind,o.n,o.l.take n.toNat,o.e⟩) hc]
  constructor
  ·rintro ⟨d',rfl,hr⟩
   refine ⟨o.l.drop n.toNat++d',by rw [←List.append_assoc,List.take_append_drop],?_⟩
   exact (Ya (o:=⟨o.kind,o.n,o.l.drop n.toNat,o.e⟩) hc).2 ⟨d',rfl,hr⟩
  ·rintro ⟨d',rfl,hr⟩
   obtain ⟨d2,rfl,hr2⟩:=(Ya (o:=⟨o.kind,o.n,o.l.drop n.toNat,o.e⟩) hc).1 hr
   exact ⟨d2,by rw [←List.append_assoc,List.take_append_drop],hr2⟩
 ·rw [Z0k hi] at hn
  omega
def Z37:List Piece→List Op
 | []=> []
 | x ::r=> (if x.of=2 then [] else [x.p])++Z37 r
def Z36:List Piece→List Op
 | []=> []
 | x ::r=> (if x.of=1 then [] else [x.q])++Z36 r
def Part(l:List Op)(o:Op):Prop:=∃ o'∈l,o.kind=o'.kind∧o.e=o'.e∧Zx o≤Zx o'∧∀ t∈o.l,t∈o'.l
structure POk (p q:List Op) (x:Piece):Prop where
 of:x.of=0∨x.of=1∨x.of=2
 pp:x.of≠2→Part p x.p∧YI x.p
 qq:x.of≠1→Part q x.q∧YI x.q
 one:x.of=1→x.p.kind=1
 two:x.of=2→x.q.kind=2
 both:x.of=0→x.p.kind≠1∧x.q.kind≠2∧Z2 x.p=Z2 x.q
 pn:x.of=2→x.p=Op.nil
 qn:x.of=1→x.q=Op.nil
theorem Part.mono{l l':List Op}{o:Op}(h:Part l o)(hl:∀ x∈l,Part l' x):Part l' o:=by
 obtain ⟨o',h1,h2,h3,h5,h4⟩:=h
 obtain ⟨o2,g1,g2,g3,g5,g4⟩:=hl o' h1
 exact ⟨o2,g1,h2.trans g2,h3.trans g3,Nat.le_trans h5 g5,fun t ht=> g4 t (h4 t ht)⟩
theorem Part.self{l:List Op}{o:Op}(h:o∈l):Part l o:=⟨o,h,rfl,rfl,Nat.le_refl _,fun _ h=> h⟩
theorem POk.mono{p q p' q':List Op}{x:Piece}(h:POk p q x)(hp:∀ x∈p,Part p' x)(hq:∀ x∈q,Part q' x):POk p' q' x:=
 ⟨h.of,fun e=> ⟨(h.pp e).1.mono hp,(h.pp e).2⟩,fun e=> ⟨(h.qq e).1.mono hq,(h.qq e).2⟩,h.one,h.two,h.both,h.pn,h.qn⟩
theorem ZgG{o:Op}{r:List Op}{n:Int}(h:∀ x∈o ::r,YI x)(h1:1≤n)(hn:n≤Z2 o):
  YI (ZP o n)∧Z2 (ZP o n)=n∧(ZP o n).kind=o.kind∧Part (o ::r) (ZP o n)∧(∀ x∈Y2 (o ::r) n,YI x∧Part (o ::r) x)∧∀ s d,Run (o ::r) s d↔Run (ZP o n ::Y2 (o ::r) n) s d:=by
 have ho:=h o List.mem_cons_self
 have hr:∀ x∈r,YI x∧Part (o ::r) x:=fun x hx=> ⟨h x (List.mem_cons_of_mem _ hx),Part.self (List.mem_cons_of_mem _ hx)⟩
 unfold Y2
 simp only [List.getD_cons_zero,List.drop_succ_cons,List.drop_zero]
 by_cases hl:Z2 o≤n
 ·rw [if_pos hl]
  have e:ZP o n=o:=by unfold ZP;rw [if_pos hl]
  rw [e]
  exact ⟨ho,by omega,rfl,Part.self List.mem_cons_self,hr,fun s d=> Iff.rfl⟩
 ·rw [if_neg hl]
  obtain ⟨_,v2,v3,v4⟩:=Z7z (a:=1) ho h1 hl
  obtain ⟨b1,b2⟩:=Zdf ho h1 hl
  refine ⟨v2,v3,Z4k o n,?_,?_,Zmu ho h1 hl⟩
  ·refine ⟨o,List.mem_cons_self,Z4k o n,?_,v4,?_⟩
   ·unfold ZP;split;rfl;split <;> rfl
   ·intro t ht
    unfold ZP at ht
    split at ht
    ·exact ht
    ·split at ht
     ·exact ht
     ·exact List.mem_of_mem_take ht
  ·intro x hx
   rcases List.mem_cons.1 hx with rfl | hx
   ·refine ⟨b1,o,List.mem_cons_self,?_,?_,b2,?_⟩
    ·unfold Z03;split <;> rfl
    ·unfold Z03;split <;> rfl
    ·intro t ht
     unfold Z03 at ht
     split at ht
     ·exact ht
     ·exact List.mem_of_mem_drop ht
   ·exact hr x hx
theorem ZL{d:List Tree}{s:List Tree}(h:Run [] s d):s=[]∧d=[]:=by cases h;exact ⟨rfl,rfl⟩
theorem Z87:∀ (k:Nat) (p q:List Op) (out:List Piece),p.length+q.length≤k→(∀ o∈p,YI o)→(∀ o∈q,YI o)→
  ((Y4 1 2 p q out).2.1=true→∃ ps,(Y4 1 2 p q out).1=out++ps∧(∀ x∈ps,POk p q x)∧(∀ s m,Run p s m↔Run (Z37 ps) s m)∧∀ m d,Run q m d↔Run (Z36 ps) m d)∧
  ((Y4 1 2 p q out).2.1=false→∀ s m d,Run p s m→Run q m d→False):=by
 intro k
 induction k with
 | zero=>
  intro p q out hk hp hq
  have e1:p=[]:=List.eq_nil_of_length_eq_zero (by omega)
  have e2:q=[]:=List.eq_nil_of_length_eq_zero (by omega)
  subst e1 e2
  have e:Y4 1 2 [] [] out=(out,true,[],[]):=by
   rw [Y4,dif_neg (by simp [sgl]),dif_neg (by simp [sgl]),dif_pos (by simp)]
   try rfl
  rw [e]
  exact ⟨fun _=> ⟨[],by simp,fun x hx=> (by cases hx),fun s m=> Iff.rfl,fun m d=> Iff.rfl⟩,fun h=> by cases h⟩
 | succ k ih=>
  intro p q out hk hp hq
  rw [Y4]
  by_cases h1:sgl 1 p=true
  ·rw [dif_pos h1]
   obtain ⟨g1,g2⟩:=Z38.1 h1
   cases p with
   | nil=> exact absurd rfl g1
   | cons a p'=>
    simp only [List.getD_cons_zero] at g2
    simp only [List.getD_cons_zero,List.drop_succ_cons,List.drop_zero]
    have ha:=hp a List.mem_cons_self
    obtain ⟨i1,i2⟩:=ih p' q (out++[⟨1,a,Op.nil⟩]) (by simp only [List.length_cons] at hk;omega) (fun o ho=> hp o (List.mem_cons_of_mem _ ho)) hq
    refine ⟨fun h=> ?_,fun h s m d r1 r2=> ?_⟩
    ·obtain ⟨ps,e,hps,hP,hQ⟩:=i1 h
     refine ⟨⟨1,a,Op.nil⟩ ::ps,by rw [e,List.append_assoc];rfl,fun x hx=> ?_,fun s m=> ?_,fun m d=> ?_⟩
     ·rcases List.mem_cons.1 hx with rfl | hx
      ·exact ⟨.inr (.inl rfl),fun _=> ⟨Part.self List.mem_cons_self,ha⟩,fun e=> absurd rfl e,fun _=> g2,fun e=> (by cases e),fun e=> (by cases e),fun e=> (by cases e),fun _=> rfl⟩
      ·exact (hps x hx).mono (fun x hx=> Part.self (List.mem_cons_of_mem _ hx)) (fun x hx=> Part.self hx)
     ·show _↔Run (a ::Z37 ps) s m
      exact Z67 hP (Yo ha) s m
     ·exact hQ m d
    ·obtain ⟨b,s',_,_,hr⟩:=(Y9 g2).1 r1
     exact i2 h s' m d hr r2
  ·rw [dif_neg h1]
   by_cases h2:sgl 2 q=true
   ·rw [dif_pos h2]
    obtain ⟨g1,g2⟩:=Z38.1 h2
    cases q with
    | nil=> exact absurd rfl g1
    | cons a q'=>
     simp only [List.getD_cons_zero] at g2
     simp only [List.getD_cons_zero,List.drop_succ_cons,List.drop_zero]
     have ha:=hq a List.mem_cons_self
     obtain ⟨i1,i2⟩:=ih p q' (out++[⟨2,Op.nil,a⟩]) (by simp only [List.length_cons] at hk;omega) hp (fun o ho=> hq o (List.mem_cons_of_mem _ ho))
     refine ⟨fun h=> ?_,fun h s m d r1 r2=> ?_⟩
     ·obtain ⟨ps,e,hps,hP,hQ⟩:=i1 h
      refine ⟨⟨2,Op.nil,a⟩ ::ps,by rw [e,List.append_assoc];rfl,fun x hx=> ?_,fun s m=> ?_,fun m d=> ?_⟩
      ·rcases List.mem_cons.1 hx with rfl | hx
       ·exact ⟨.inr (.inr rfl),fun e=> absurd rfl e,fun _=> ⟨Part.self List.mem_cons_self,ha⟩,fun e=> (by cases e),fun _=> g2,fun e=> (by cases e),fun _=> rfl,fun e=> (by cases e)⟩
       ·exact (hps x hx).mono (fun x hx=> Part.self hx) (fun x hx=> Part.self (List.mem_cons_of_mem _ hx))
      ·exact hP s m
      ·show _↔Run (a ::Z36 ps) m d
       exact Z67 hQ (Yo ha) m d
     ·obtain ⟨d',_,hr⟩:=(Ya g2).1 r2
      exact i2 h s m d' r1 hr
   ·rw [dif_neg h2]
    by_cases h3:p.length=0∨q.length=0
    ·rw [dif_pos h3]
     by_cases h4:p.length=0
     ·have e1:p=[]:=List.eq_nil_of_length_eq_zero h4
      subst e1
      by_cases h5:q.length=0
      ·have e2:q=[]:=List.eq_nil_of_length_eq_zero h5
       subst e2
       rw [if_pos rfl]
       exact ⟨fun _=> ⟨[],by simp,fun x hx=> (by cases hx),fun s m=> Iff.rfl,fun m d=> Iff.rfl⟩,fun h=> by cases h⟩
      ·rw [if_neg (by rw [decide_eq_false h5];decide)]
       refine ⟨fun h=> (by cases h),fun _ s m d r1 r2=> ?_⟩
       cases q with
       | nil=> exact h5 rfl
       | cons a q'=>
        have ha:=hq a List.mem_cons_self
        obtain ⟨_,rfl⟩:=ZL r1
        obtain ⟨m1,m',d',e,hl,_⟩:=Zix ha (fun e=> h2 (Z38.2 ⟨by simp,by simpa using e⟩)) r2
        have:=YV ha
        have e:=congrArg List.length e
        simp at e
        omega
     ·have h5:q.length=0:=by omega
      have e2:q=[]:=List.eq_nil_of_length_eq_zero h5
      subst e2
      rw [if_neg (by rw [decide_eq_false h4];decide)]
      refine ⟨fun h=> (by cases h),fun _ s m d r1 r2=> ?_⟩
      cases p with
      | nil=> exact h4 rfl
      | cons a p'=>
       have ha:=hp a List.mem_cons_self
       obtain ⟨rfl,_⟩:=ZL r2
       obtain ⟨m1,s',m',e,hl,_⟩:=Zf2 ha (fun e=> h1 (Z38.2 ⟨by simp,by simpa using e⟩)) r1
       have:=YV ha
       have e:=congrArg List.length e
       simp at e
       omega
    ·rw [dif_neg h3]
     cases p with
     | nil=> simp at h3
     | cons a p'=>
      cases q with
      | nil=> simp at h3
      | cons b q'=>
       have ha:=hp a List.mem_cons_self
       have hb:=hq b List.mem_cons_self
       have ka:a.kind≠1:=fun e=> h1 (Z38.2 ⟨by simp,by simpa using e⟩)
       have kb:b.kind≠2:=fun e=> h2 (Z38.2 ⟨by simp,by simpa using e⟩)
       have la:=YV ha
       have lb:=YV hb
       simp only [List.getD_cons_zero]
       generalize hn:min (Z2 a) (Z2 b)=n
       have hn1:1≤n:=by omega
       have hna:n≤Z2 a:=by omega
       have hnb:n≤Z2 b:=by omega
       obtain ⟨a1,a2,a3,a4,a5,a6⟩:=ZgG hp hn1 hna
       obtain ⟨b1,b2,b3,b4,b5,b6⟩:=ZgG hq hn1 hnb
       have hlt:(Y2 (a ::p') n).length+(Y2 (b ::q') n).length≤k:=by
        have x1:=J7 (a ::p') n (by simp)
        have x2:=J7 (b ::q') n (by simp)
        simp only [List.length_cons] at hk x1 x2
        rcases Int.le_total (Z2 a) (Z2 b) with h | h
        ·have:=J6 (a ::p') n (by simp) (by simp only [List.getD_cons_zero];omega)
         simp only [List.length_cons] at this
         omega
        ·have:=J6 (b ::q') n (by simp) (by simp only [List.getD_cons_zero];omega)
         simp only [List.length_cons] at this
         omega
       obtain ⟨i1,i2⟩:=ih (Y2 (a ::p') n) (Y2 (b ::q') n) (out++[⟨0,ZP a n,ZP b n⟩]) hlt (fun o ho=> (a5 o ho).1) (fun o ho=> (b5 o ho).1)
       refine ⟨fun h=> ?_,fun h s m d r1 r2=> ?_⟩
       ·obtain ⟨ps,e,hps,hP,hQ⟩:=i1 h
        refine ⟨⟨0,ZP a n,ZP b n⟩ ::ps,by rw [e,List.append_assoc];rfl,fun x hx=> ?_,fun s m=> ?_,fun m d=> ?_⟩
        ·rcases List.mem_cons.1 hx with rfl | hx
         ·exact ⟨.inl rfl,fun _=> ⟨a4,a1⟩,fun _=> ⟨b4,b1⟩,fun e=> (by cases e),fun e=> (by cases e),fun _=> ⟨by dsimp only;omega,by dsimp only;omega,by dsimp only;omega⟩,fun e=> (by cases e),fun e=> (by cases e)⟩
         ·exact (hps x hx).mono (fun x hx=> (a5 x hx).2) (fun x hx=> (b5 x hx).2)
        ·rw [a6 s m]
         exact Z67 hP (Yo a1) s m
        ·rw [b6 m d]
         exact Z67 hQ (Yo b1) m d
       ·rw [a6] at r1
        rw [b6] at r2
        obtain ⟨m1,s',m',e,hl,r3⟩:=Zf2 a1 (by omega) r1
        obtain ⟨m2,m3,d',e',hl',r4⟩:=Zix b1 (by omega) r2
        obtain ⟨_,e2⟩:=List.append_inj (e.symm.trans e') (by omega)
        subst e2
        exact i2 h s' m' d' r3 r4
end Go.AM.Ytpjenobkibfpcaa
namespace Go.AM.Ytpjenobkibfpcaa
open Go.AM Go.Proofs
theorem Zgx{e:Edit}{d:Int}{x y l:Tree}(hr:Z0 e d=true)(he:ZS e)(hx:RT_ x)(hl:RT_ l)(h:doE false e x=some y)(hy:Eqv y l):∃ z,doE false (ZR (Zv e)) l=some z∧Eqv z x:=by
 obtain ⟨v,hv,hvx⟩:=Zb4 e d x y hr he hx h
 have h1:=Z92 (Zv e) d y l (Yw e d hr) hy
 have h2:=ZcB (Zv e) d l (Yw e d hr) hl
 rw [hv] at h1
 cases hw:doE false (Zv e) l with
 | none=> rw [hw] at h1;exact h1.elim
 | some w=>
  rw [hw] at h1 h2
  cases hz:doE false (ZR (Zv e)) l with
  | none=> rw [hz] at h2;exact h2.elim
  | some z=>
   rw [hz] at h2
   have h1:Eqv v w:=h1
   have h2:Eqv z w:=h2
   exact ⟨z,rfl,h2.trans (h1.symm.trans hvx)⟩
theorem Zgy{e:Edit}{d:Int}{x z l:Tree}(hr:Z0 e d=true)(he:ZS e)(hl:RT_ l)(h:doE false (ZR (Zv e)) l=some z)(hz:Eqv z x):∃ y,doE false e x=some y∧Eqv y l:=by
 have h2:=ZcB (Zv e) d l (Yw e d hr) hl
 rw [h] at h2
 cases hw:doE false (Zv e) l with
 | none=> rw [hw] at h2;exact h2.elim
 | some w=>
  rw [hw] at h2
  have h2:Eqv z w:=h2
  obtain ⟨v,hv,hvl⟩:=Zb4 (Zv e) d l w (Yw e d hr) (Z3O e he) hl hw
  rw [Z98] at hv
  have h1:=Z92 e d w x hr (h2.symm.trans hz)
  rw [hv] at h1
  cases hy:doE false e x with
  | none=> rw [hy] at h1;exact h1.elim
  | some y=>
   rw [hy] at h1
   have h1:Eqv v y:=h1
   exact ⟨y,rfl,h1.symm.trans hvl⟩
structure ComOk (c:Edit × Bool) (p q:Edit):Prop where
 fwd:∀ {t w},RT_ t→c.2=true→doE false c.1 t=some w→∃ u v,doE false p t=some u∧doE false q u=some v∧Eqv w v
 bwd:∀ {t u v},RT_ t→doE false p t=some u→doE false q u=some v→c.2=true∧∃ w,doE false c.1 t=some w∧Eqv w v
def ROp(o:Op):Prop:=(o.kind=3→(∃ d,Z0 o.e d=true)∧ZS o.e)∧∀ t∈o.l,RT_ t
theorem Zc2{o:Op}{r:List Op}{s d:List Tree}(hk:kOk o):Run (o ::r) s d↔∃ s1 s2 d1 d2,s=s1++s2∧d=d1++d2∧Run [o] s1 d1∧Run r s2 d2:=by
 constructor
 ·intro h
  rcases hk with h0 | h1 | h2 | h3
  ·obtain ⟨a,s',d',rfl,rfl,hl,hr⟩:=(Ji h0.1).1 h
   exact ⟨a,s',a,d',rfl,rfl,(Ji h0.1).2 ⟨a,[],[],by simp,by simp,hl,.nil⟩,hr⟩
  ·obtain ⟨a,s',rfl,hl,hr⟩:=(Y9 h1).1 h
   exact ⟨a,s',[],d,rfl,rfl,(Y9 h1).2 ⟨a,[],by simp,hl,.nil⟩,hr⟩
  ·obtain ⟨d',rfl,hr⟩:=(Ya h2).1 h
   exact ⟨[],s,o.l,d',rfl,rfl,(Ya h2).2 ⟨[],by simp,.nil⟩,hr⟩
  ·obtain ⟨x,s',y,d',rfl,rfl,he,hr⟩:=(JS h3).1 h
   exact ⟨[x],s',[y],d',rfl,rfl,.into h3 he .nil,hr⟩
 ·rintro ⟨s1,s2,d1,d2,rfl,rfl,h1,h2⟩
  rcases hk with h0 | hg | hc | h3
  ·obtain ⟨a,s',d',rfl,rfl,hl,hr⟩:=(Ji h0.1).1 h1
   obtain ⟨rfl,rfl⟩:=ZL hr
   rw [List.append_nil]
   exact .keep h0.1 hl h2
  ·obtain ⟨a,s',rfl,hl,hr⟩:=(Y9 hg).1 h1
   obtain ⟨rfl,rfl⟩:=ZL hr
   rw [List.append_nil]
   exact .gone hg hl h2
  ·obtain ⟨d',rfl,hr⟩:=(Ya hc).1 h1
   obtain ⟨rfl,rfl⟩:=ZL hr
   rw [List.append_nil]
   exact .come hc h2
  ·obtain ⟨x,s',y,d',rfl,rfl,he,hr⟩:=(JS h3).1 h1
   obtain ⟨rfl,rfl⟩:=ZL hr
   exact .into h3 he h2
theorem Za3{o:Op}{s d:List Tree}(ho:YI o)(hk:o.kind≠1)(h:Run [o] s d):(d.length:Int)=Z2 o:=by
 obtain ⟨m1,s',m',rfl,hl,hr⟩:=Zf2 ho hk h
 obtain ⟨_,rfl⟩:=ZL hr
 simpa using hl
theorem Zc1{o:Op}{s d:List Tree}(ho:YI o)(hk:o.kind≠2)(h:Run [o] s d):(s.length:Int)=Z2 o:=by
 obtain ⟨m1,s',m',rfl,hl,hr⟩:=Zix ho hk h
 obtain ⟨rfl,_⟩:=ZL hr
 simpa using hl
theorem Z80{o:Op}{s:List Tree}(h0:o.kind=0)(hl:(s.length:Int)=o.n):Run [o] s s:=
 (Ji h0).2 ⟨s,[],[],by simp,by simp,hl,.nil⟩
theorem Z6D{o:Op}{s d:List Tree}(h0:o.kind=0)(h:Run [o] s d):d=s:=by
 obtain ⟨a,s',d',rfl,rfl,hl,hr⟩:=(Ji h0).1 h
 obtain ⟨rfl,rfl⟩:=ZL hr
 try rfl
theorem Z2H{l:List Tree}(h:(l.length:Int)=1):l=[l.getD 0 Tree.nil]:=by
 match l,h with
 | [a],_=> rfl
 | [],h=> simp at h
 | a ::b ::r,h=> simp only [List.length_cons] at h;omega
theorem ZhT{a b c d:List Tree}(h:EqvL a b)(h':EqvL c d):EqvL (a++c) (b++d):=Z13 h h'
theorem ZmE {f:Edit→Edit→Edit × Bool} {p0 q0:List Op} {x:Piece} (hx:POk p0 q0 x) (hp:x.of≠2→ROp x.p) (hq:x.of≠1→ROp x.q) (hf:x.p.kind=3→x.q.kind=3→x.of=0→ComOk (f x.p.e x.q.e) x.p.e x.q.e)
  {s w:List Tree} (hs:∀ t∈s,RT_ t) (hok:(ZF f x).ok=true) (hr:Run (if (ZF f x).is then [(ZF f x).op] else []) s w):
  ∃ m d,Run (if x.of=2 then [] else [x.p]) s m∧Run (if x.of=1 then [] else [x.q]) m d∧EqvL w d:=by
 rcases hx.of with h0 | h1 | h2
 ·obtain ⟨pk,qk,hl⟩:=hx.both h0
  obtain ⟨_,op⟩:=hx.pp (by omega)
  obtain ⟨_,oq⟩:=hx.qq (by omega)
  have rp:=hp (by omega)
  have rq:=hq (by omega)
  rw [if_neg (by omega),if_neg (by omega)]
  by_cases kq0:x.q.kind=0
  ·have e:ZF f x=⟨x.p,true,true⟩:=by unfold ZF;rw [if_pos (.inr ⟨h0,kq0⟩)]
   rw [e] at hr
   exact ⟨w,w,hr,Z80 kq0 (by rw [Za3 op pk hr,hl,Z8a oq kq0]),rfl⟩
  by_cases kp0:x.p.kind=0
  ·have e:ZF f x=⟨x.q,true,true⟩:=by unfold ZF;rw [if_neg (by omega),if_pos (.inr kp0)]
   rw [e] at hr
   exact ⟨s,w,Z80 kp0 (by rw [Zc1 oq qk hr,←hl,Z8a op kp0]),hr,rfl⟩
  by_cases k21:x.p.kind=2∧x.q.kind=1
  ·have lp:=YK op (.inr k21.1)
   have lq:=YK oq (.inl k21.2)
   have e:ZF f x=⟨Op.nil,false,ZfU x.p.l (x.q.l.take x.p.l.length)⟩:=by unfold ZF;rw [if_neg (by omega),if_neg (by omega),if_pos k21]
   rw [e] at hr hok
   obtain ⟨rfl,rfl⟩:=ZL hr
   have hok:ZfU x.p.l (x.q.l.take x.p.l.length)=true:=hok
   unfold ZfU at hok
   rw [Z1W,List.take_of_length_le (by omega)] at hok
   exact ⟨x.p.l,[],(Ya k21.1).2 ⟨[],by simp,.nil⟩,(Y9 k21.2).2 ⟨x.p.l,[],by simp,hok.symm,.nil⟩,rfl⟩
  by_cases kp2:x.p.kind=2
  ·have kq3:x.q.kind=3:=by rcases Yo oq with h | h | h | h <;> omega
   have lp:=YK op (.inr kp2)
   rw [hl,Z0k kq3] at lp
   have e:ZF f x=⟨⟨2,0,[(doB x.q.e (x.p.l.getD 0 Tree.nil)).1],Edit.nil⟩,true,(doB x.q.e (x.p.l.getD 0 Tree.nil)).2⟩:=by unfold ZF;rw [if_neg (by omega),if_neg (by omega),if_neg k21,if_pos kp2]
   rw [e] at hr hok
   have hp1:=Z2H lp.symm
   cases hy:doE false x.q.e (x.p.l.getD 0 Tree.nil) with
   | none=> unfold doB at hok;rw [hy] at hok;cases hok
   | some y=>
    have e2:(doB x.q.e (x.p.l.getD 0 Tree.nil)).1=Z7 y:=by unfold doB;rw [hy];try rfl
    rw [e2] at hr
    obtain ⟨d',rfl,hr'⟩:=(Ya (o:=⟨2,0,[Z7 y],Edit.nil⟩) rfl).1 hr
    obtain ⟨rfl,rfl⟩:=ZL hr'
    refine ⟨[x.p.l.getD 0 Tree.nil],[y],(Ya kp2).2 ⟨[],by rw [List.append_nil];exact hp1.symm,.nil⟩,.into kq3 hy .nil,?_⟩
    show Z5 ([Z7 y]++[])=Z5 [y]
    simp [Z5,J0]
  have kp3:x.p.kind=3:=by rcases Yo op with h | h | h | h <;> omega
  by_cases kq1:x.q.kind=1
  ·have lq:=YK oq (.inl kq1)
   rw [←hl,Z0k kp3] at lq
   have e:ZF f x=⟨⟨1,0,[(doB (ZR (Zv x.p.e)) (x.q.l.getD 0 Tree.nil)).1],Edit.nil⟩,true,(doB (ZR (Zv x.p.e)) (x.q.l.getD 0 Tree.nil)).2⟩:=by unfold ZF;rw [if_neg (by omega),if_neg (by omega),if_neg k21,if_neg kp2,if_pos kq1]
   rw [e] at hr hok
   have hq1:=Z2H lq.symm
   have hql:RT_ (x.q.l.getD 0 Tree.nil):=rq.2 _ (by rw [hq1];simp)
   cases hz:doE false (ZR (Zv x.p.e)) (x.q.l.getD 0 Tree.nil) with
   | none=> unfold doB at hok;rw [hz] at hok;cases hok
   | some z=>
    have e2:(doB (ZR (Zv x.p.e)) (x.q.l.getD 0 Tree.nil)).1=Z7 z:=by unfold doB;rw [hz];try rfl
    rw [e2] at hr
    obtain ⟨a,s',rfl,hn,hr'⟩:=(Y9 (o:=⟨1,0,[Z7 z],Edit.nil⟩) rfl).1 hr
    obtain ⟨rfl,rfl⟩:=ZL hr'
    have hl1:=Z29 hn
    have ha1:=Z2H (l:=a) (by rw [←hl1];rfl)
    rw [ha1] at hn
    have hzx:Eqv z (a.getD 0 Tree.nil):=by
     have:=JF.1 hn
     unfold Eqv
     rw [←this,J0]
    obtain ⟨⟨dd,rd⟩,re⟩:=rp.1 kp3
    obtain ⟨y,hy,hyl⟩:=Zgy rd re hql hz hzx
    refine ⟨[y],[],?_,?_,rfl⟩
    ·rw [List.append_nil,ha1]
     exact .into kp3 hy .nil
    ·refine (Y9 kq1).2 ⟨[y],[],by simp,?_,.nil⟩
     rw [hq1]
     exact (JF.2 hyl).symm
  ·have kq3:x.q.kind=3:=by rcases Yo oq with h | h | h | h <;> omega
   have e:ZF f x=⟨⟨3,0,[],(f x.p.e x.q.e).1⟩,true,(f x.p.e x.q.e).2⟩:=by unfold ZF;rw [if_neg (by omega),if_neg (by omega),if_neg k21,if_neg kp2,if_neg kq1]
   rw [e] at hr hok
   obtain ⟨x0,s',y0,d',rfl,rfl,hd,hr'⟩:=(JS (o:=⟨3,0,[],(f x.p.e x.q.e).1⟩) rfl).1 hr
   obtain ⟨rfl,rfl⟩:=ZL hr'
   obtain ⟨u,v,hu,hv,hw⟩:=(hf kp3 kq3 h0).fwd (hs x0 (by simp)) hok hd
   exact ⟨[u],[v],.into kp3 hu .nil,.into kq3 hv .nil,JF.2 hw⟩
 ·have e:ZF f x=⟨x.p,true,true⟩:=by unfold ZF;rw [if_pos (.inl h1)]
  rw [e] at hr
  rw [if_neg (by omega),if_pos h1]
  obtain ⟨a,s',rfl,hn,hr'⟩:=(Y9 (hx.one h1)).1 hr
  obtain ⟨rfl,rfl⟩:=ZL hr'
  exact ⟨[],[],(Y9 (hx.one h1)).2 ⟨a,[],rfl,hn,.nil⟩,.nil,rfl⟩
 ·have e:ZF f x=⟨x.q,true,true⟩:=by unfold ZF;rw [if_neg (by omega),if_pos (.inl h2)]
  rw [e] at hr
  rw [if_pos h2,if_neg (by omega)]
  obtain ⟨d',rfl,hr'⟩:=(Ya (hx.two h2)).1 hr
  obtain ⟨rfl,rfl⟩:=ZL hr'
  exact ⟨[],_,.nil,(Ya (hx.two h2)).2 ⟨[],rfl,.nil⟩,rfl⟩
theorem ZmF {f:Edit→Edit→Edit × Bool} {p0 q0:List Op} {x:Piece} (hx:POk p0 q0 x) (hp:x.of≠2→ROp x.p) (hq:x.of≠1→ROp x.q) (hf:x.p.kind=3→x.q.kind=3→x.of=0→ComOk (f x.p.e x.q.e) x.p.e x.q.e)
  {s m d:List Tree} (hs:∀ t∈s,RT_ t) (h1r:Run (if x.of=2 then [] else [x.p]) s m) (h2r:Run (if x.of=1 then [] else [x.q]) m d):
  (ZF f x).ok=true∧∃ w,Run (if (ZF f x).is then [(ZF f x).op] else []) s w∧EqvL w d:=by
 rcases hx.of with h0 | h1 | h2
 ·obtain ⟨pk,qk,hl⟩:=hx.both h0
  obtain ⟨_,op⟩:=hx.pp (by omega)
  obtain ⟨_,oq⟩:=hx.qq (by omega)
  have rp:=hp (by omega)
  have rq:=hq (by omega)
  rw [if_neg (by omega)] at h1r h2r
  by_cases kq0:x.q.kind=0
  ·have e:ZF f x=⟨x.p,true,true⟩:=by unfold ZF;rw [if_pos (.inr ⟨h0,kq0⟩)]
   rw [e]
   have:=Z6D kq0 h2r
   subst this
   exact ⟨rfl,d,h1r,rfl⟩
  by_cases kp0:x.p.kind=0
  ·have e:ZF f x=⟨x.q,true,true⟩:=by unfold ZF;rw [if_neg (by omega),if_pos (.inr kp0)]
   rw [e]
   have:=Z6D kp0 h1r
   subst this
   exact ⟨rfl,d,h2r,rfl⟩
  by_cases k21:x.p.kind=2∧x.q.kind=1
  ·have lp:=YK op (.inr k21.1)
   have lq:=YK oq (.inl k21.2)
   have e:ZF f x=⟨Op.nil,false,ZfU x.p.l (x.q.l.take x.p.l.length)⟩:=by unfold ZF;rw [if_neg (by omega),if_neg (by omega),if_pos k21]
   rw [e]
   obtain ⟨d',rfl,hr'⟩:=(Ya k21.1).1 h1r
   obtain ⟨rfl,rfl⟩:=ZL hr'
   rw [List.append_nil] at h2r
   obtain ⟨a,s',ha,hn,hr2⟩:=(Y9 k21.2).1 h2r
   obtain ⟨rfl,rfl⟩:=ZL hr2
   rw [List.append_nil] at ha
   subst ha
   refine ⟨?_,[],.nil,rfl⟩
   show ZfU x.p.l (x.q.l.take x.p.l.length)=true
   unfold ZfU
   rw [Z1W,List.take_of_length_le (by omega)]
   exact hn.symm
  by_cases kp2:x.p.kind=2
  ·have kq3:x.q.kind=3:=by rcases Yo oq with h | h | h | h <;> omega
   have lp:=YK op (.inr kp2)
   rw [hl,Z0k kq3] at lp
   have e:ZF f x=⟨⟨2,0,[(doB x.q.e (x.p.l.getD 0 Tree.nil)).1],Edit.nil⟩,true,(doB x.q.e (x.p.l.getD 0 Tree.nil)).2⟩:=by unfold ZF;rw [if_neg (by omega),if_neg (by omega),if_neg k21,if_pos kp2]
   rw [e]
   have hp1:=Z2H lp.symm
   obtain ⟨d',rfl,hr'⟩:=(Ya kp2).1 h1r
   obtain ⟨rfl,rfl⟩:=ZL hr'
   rw [List.append_nil,hp1] at h2r
   obtain ⟨x0,s',y0,d',e1,rfl,hd,hr'⟩:=(JS kq3).1 h2r
   cases e1
   obtain ⟨_,rfl⟩:=ZL hr'
   have e2:doB x.q.e (x.p.l.getD 0 Tree.nil)=(Z7 y0,true):=by unfold doB;rw [hd];try rfl
   rw [e2]
   refine ⟨rfl,[Z7 y0],(Ya (o:=⟨2,0,[Z7 y0],Edit.nil⟩) rfl).2 ⟨[],by simp,.nil⟩,?_⟩
   exact JF.2 (J0 y0)
  have kp3:x.p.kind=3:=by rcases Yo op with h | h | h | h <;> omega
  obtain ⟨x0,s',y0,d',rfl,rfl,hd,hr'⟩:=(JS kp3).1 h1r
  obtain ⟨rfl,rfl⟩:=ZL hr'
  have hx0:=hs x0 (by simp)
  obtain ⟨⟨dd,rd⟩,re⟩:=rp.1 kp3
  by_cases kq1:x.q.kind=1
  ·have lq:=YK oq (.inl kq1)
   rw [←hl,Z0k kp3] at lq
   have e:ZF f x=⟨⟨1,0,[(doB (ZR (Zv x.p.e)) (x.q.l.getD 0 Tree.nil)).1],Edit.nil⟩,true,(doB (ZR (Zv x.p.e)) (x.q.l.getD 0 Tree.nil)).2⟩:=by unfold ZF;rw [if_neg (by omega),if_neg (by omega),if_neg k21,if_neg kp2,if_pos kq1]
   rw [e]
   have hq1:=Z2H lq.symm
   have hql:RT_ (x.q.l.getD 0 Tree.nil):=rq.2 _ (by rw [hq1];simp)
   obtain ⟨a,s2,ha,hn,hr2⟩:=(Y9 kq1).1 h2r
   obtain ⟨rfl,rfl⟩:=ZL hr2
   rw [List.append_nil] at ha
   subst ha
   rw [hq1] at hn
   obtain ⟨z,hz,hzx⟩:=Zgx rd re hx0 hql hd (JF.1 hn).symm
   have e2:doB (ZR (Zv x.p.e)) (x.q.l.getD 0 Tree.nil)=(Z7 z,true):=by unfold doB;rw [hz];try rfl
   rw [e2]
   refine ⟨rfl,[],(Y9 (o:=⟨1,0,[Z7 z],Edit.nil⟩) rfl).2 ⟨[x0],[],by simp,?_,.nil⟩,rfl⟩
   refine JF.2 ?_
   rw [J0]
   exact hzx
  ·have kq3:x.q.kind=3:=by rcases Yo oq with h | h | h | h <;> omega
   have e:ZF f x=⟨⟨3,0,[],(f x.p.e x.q.e).1⟩,true,(f x.p.e x.q.e).2⟩:=by unfold ZF;rw [if_neg (by omega),if_neg (by omega),if_neg k21,if_neg kp2,if_neg kq1]
   rw [e]
   obtain ⟨x1,s2,y1,d2,e1,rfl,hd2,hr2⟩:=(JS kq3).1 h2r
   cases e1
   obtain ⟨_,rfl⟩:=ZL hr2
   obtain ⟨c2,w,hw,hwv⟩:=(hf kp3 kq3 h0).bwd hx0 hd hd2
   exact ⟨c2,[w],(JS (o:=⟨3,0,[],(f x.p.e x.q.e).1⟩) rfl).2 ⟨x0,[],w,[],rfl,rfl,hw,.nil⟩,JF.2 hwv⟩
 ·have e:ZF f x=⟨x.p,true,true⟩:=by unfold ZF;rw [if_pos (.inl h1)]
  rw [if_neg (by omega)] at h1r
  rw [if_pos h1] at h2r
  rw [e]
  obtain ⟨rfl,rfl⟩:=ZL h2r
  exact ⟨rfl,[],h1r,rfl⟩
 ·have e:ZF f x=⟨x.q,true,true⟩:=by unfold ZF;rw [if_neg (by omega),if_pos (.inl h2)]
  rw [if_pos h2] at h1r
  rw [if_neg (by omega)] at h2r
  rw [e]
  obtain ⟨rfl,rfl⟩:=ZL h1r
  exact ⟨rfl,d,h2r,rfl⟩
theorem Z4y:∀ {a b:List Op} {s d:List Tree},(∀ o∈a,kOk o)→(Run (a++b) s d↔∃ s1 s2 d1 d2,s=s1++s2∧d=d1++d2∧Run a s1 d1∧Run b s2 d2)
 | [],b,s,d,_=> by
  constructor
  ·intro h;exact ⟨[],s,[],d,rfl,rfl,.nil,h⟩
  ·rintro ⟨s1,s2,d1,d2,rfl,rfl,h1,h2⟩
   obtain ⟨rfl,rfl⟩:=ZL h1
   exact h2
 | o ::a,b,s,d,hk=> by
  have ho:=hk o List.mem_cons_self
  have ih:=fun s d=> Z4y (a:=a) (b:=b) (s:=s) (d:=d) fun x hx=> hk x (List.mem_cons_of_mem _ hx)
  rw [List.cons_append,Zc2 ho]
  constructor
  ·rintro ⟨s1,s2,d1,d2,rfl,rfl,h1,h2⟩
   obtain ⟨s3,s4,d3,d4,rfl,rfl,h3,h4⟩:=(ih _ _).1 h2
   exact ⟨s1++s3,s4,d1++d3,d4,by rw [List.append_assoc],by rw [List.append_assoc],(Zc2 ho).2 ⟨s1,s3,d1,d3,rfl,rfl,h1,h3⟩,h4⟩
  ·rintro ⟨s1,s2,d1,d2,rfl,rfl,h1,h2⟩
   obtain ⟨s3,s4,d3,d4,rfl,rfl,h3,h4⟩:=(Zc2 ho).1 h1
   exact ⟨s3,s4++s2,d3,d4++d2,by rw [List.append_assoc],by rw [List.append_assoc],h3,(ih _ _).2 ⟨s4,s2,d4,d2,rfl,rfl,h4,h2⟩⟩
theorem Zjs{f:Edit→Edit→Edit × Bool}{p0 q0:List Op}{x:Piece}(hx:POk p0 q0 x):kOk (ZF f x).op:=by
 unfold ZF
 split
 ·rename_i h
  exact Yo (hx.pp (by omega)).2
 ·split
  ·rename_i h1 h2
   refine Yo (hx.qq ?_).2
   omega
  ·split
   ·exact .inl ⟨rfl,Int.le_refl 0⟩
   ·split
    ·exact .inr (.inr (.inl rfl))
    ·split
     ·exact .inr (.inl rfl)
     ·exact .inr (.inr (.inr rfl))
theorem Zcu{f:Edit→Edit→Edit × Bool}{p0 q0:List Op}:∀ {ps:List Piece} {ops:List Op} {s w:List Tree},(∀ x∈ps,POk p0 q0 x)→(∀ x∈ps,(x.of≠2→ROp x.p)∧(x.of≠1→ROp x.q))→
  (∀ x∈ps,x.p.kind=3→x.q.kind=3→x.of=0→ComOk (f x.p.e x.q.e) x.p.e x.q.e)→(∀ t∈s,RT_ t)→JN f ps=some ops→Run ops s w→∃ m d,Run (Z37 ps) s m∧Run (Z36 ps) m d∧EqvL w d
 | [],ops,s,w,_,_,_,_,h,hr=> by
  cases h
  obtain ⟨rfl,rfl⟩:=ZL hr
  exact ⟨[],[],.nil,.nil,rfl⟩
 | x ::r,ops,s,w,hx,hp,hf,hs,h,hr=> by
  rw [JN] at h
  split at h
  ·rename_i hok
   obtain ⟨l,hl,rfl⟩:=Option.map_eq_some_iff.1 h
   have hx0:=hx x List.mem_cons_self
   have hk:∀ o∈(if (ZF f x).is then [(ZF f x).op] else []),kOk o:=by
    intro o ho
    split at ho
    ·rw [List.mem_singleton.1 ho];exact Zjs hx0
    ·cases ho
   obtain ⟨s1,s2,w1,w2,rfl,rfl,r1,r2⟩:=(Z4y hk).1 hr
   obtain ⟨m1,d1,a1,a2,a3⟩:=ZmE hx0 (hp x List.mem_cons_self).1 (hp x List.mem_cons_self).2 (hf x List.mem_cons_self) (fun t ht=> hs t (List.mem_append_left _ ht)) hok r1
   obtain ⟨m2,d2,b1,b2,b3⟩:=Zcu (fun y hy=> hx y (List.mem_cons_of_mem _ hy)) (fun y hy=> hp y (List.mem_cons_of_mem _ hy)) (fun y hy=> hf y (List.mem_cons_of_mem _ hy)) (fun t ht=> hs t (List.mem_append_right _ ht)) hl r2
   refine ⟨m1++m2,d1++d2,?_,?_,ZhT a3 b3⟩
   ·refine (Z4y ?_).2 ⟨s1,s2,m1,m2,rfl,rfl,a1,b1⟩
    intro o ho
    split at ho
    ·cases ho
    ·rw [List.mem_singleton.1 ho];exact Yo (hx0.pp (by assumption)).2
   ·refine (Z4y ?_).2 ⟨m1,m2,d1,d2,rfl,rfl,a2,b2⟩
    intro o ho
    split at ho
    ·cases ho
    ·rw [List.mem_singleton.1 ho];exact Yo (hx0.qq (by assumption)).2
  ·cases h
theorem Zcv{f:Edit→Edit→Edit × Bool}{p0 q0:List Op}:∀ {ps:List Piece} {s m d:List Tree},(∀ x∈ps,POk p0 q0 x)→(∀ x∈ps,(x.of≠2→ROp x.p)∧(x.of≠1→ROp x.q))→
  (∀ x∈ps,x.p.kind=3→x.q.kind=3→x.of=0→ComOk (f x.p.e x.q.e) x.p.e x.q.e)→(∀ t∈s,RT_ t)→Run (Z37 ps) s m→Run (Z36 ps) m d→∃ ops w,JN f ps=some ops∧Run ops s w∧EqvL w d
 | [],s,m,d,_,_,_,_,h1,h2=> by
  obtain ⟨rfl,rfl⟩:=ZL h1
  obtain ⟨_,rfl⟩:=ZL h2
  exact ⟨[],[],rfl,.nil,rfl⟩
 | x ::r,s,m,d,hx,hp,hf,hs,h1,h2=> by
  have hx0:=hx x List.mem_cons_self
  have kp:∀ o∈(if x.of=2 then [] else [x.p]),kOk o:=by
   intro o ho
   split at ho
   ·cases ho
   ·rw [List.mem_singleton.1 ho];exact Yo (hx0.pp (by assumption)).2
  have kq:∀ o∈(if x.of=1 then [] else [x.q]),kOk o:=by
   intro o ho
   split at ho
   ·cases ho
   ·rw [List.mem_singleton.1 ho];exact Yo (hx0.qq (by assumption)).2
  obtain ⟨s1,s2,m1,m2,rfl,rfl,a1,a2⟩:=(Z4y kp).1 h1
  obtain ⟨m3,m4,d1,d2,hm,rfl,b1,b2⟩:=(Z4y kq).1 h2
  have hlen:m1.length=m3.length:=by
   rcases hx0.of with h0 | g1 | g2
   ·obtain ⟨pk,qk,hl⟩:=hx0.both h0
    rw [if_neg (by omega)] at a1 b1
    have:=Za3 (hx0.pp (by omega)).2 pk a1
    have:=Zc1 (hx0.qq (by omega)).2 qk b1
    omega
   ·rw [if_neg (by omega)] at a1
    rw [if_pos g1] at b1
    obtain ⟨a,s',rfl,hn,hr'⟩:=(Y9 (hx0.one g1)).1 a1
    obtain ⟨rfl,rfl⟩:=ZL hr'
    obtain ⟨rfl,_⟩:=ZL b1
    try rfl
   ·rw [if_pos g2] at a1
    rw [if_neg (by omega)] at b1
    obtain ⟨_,rfl⟩:=ZL a1
    obtain ⟨d',rfl,hr'⟩:=(Ya (hx0.two g2)).1 b1
    obtain ⟨rfl,_⟩:=ZL hr'
    try rfl
  obtain ⟨rfl,rfl⟩:=List.append_inj hm hlen
  obtain ⟨hok,w1,c1,c2⟩:=ZmF hx0 (hp x List.mem_cons_self).1 (hp x List.mem_cons_self).2 (hf x List.mem_cons_self) (fun t ht=> hs t (List.mem_append_left _ ht)) a1 b1
  obtain ⟨ops,w2,e1,e2,e3⟩:=Zcv (fun y hy=> hx y (List.mem_cons_of_mem _ hy)) (fun y hy=> hp y (List.mem_cons_of_mem _ hy)) (fun y hy=> hf y (List.mem_cons_of_mem _ hy)) (fun t ht=> hs t (List.mem_append_right _ ht)) a2 b2
  refine ⟨(if (ZF f x).is then [(ZF f x).op] else [])++ops,w1++w2,?_,?_,ZhT c2 e3⟩
  ·rw [JN,if_pos hok,e1];try rfl
  ·refine (Z4y ?_).2 ⟨s1,s2,w1,w2,rfl,rfl,c1,e2⟩
   intro o ho
   split at ho
   ·rw [List.mem_singleton.1 ho];exact Zjs hx0
   ·cases ho
end Go.AM.Ytpjenobkibfpcaa
namespace Go.AM.Ytpjenobkibfpcaa
open Go.AM Go.Proofs
section
variable {β:Type} {at_:β→Int} {one:β→β→β × Bool}
structure MSpec (at_:β→Int) (one:β→β→β × Bool) (last:Int) (p q L:List β):Prop where
 asc_:asc at_ last L
 of:∀ x∈L,(x∈p∧∀ b∈q,at_ b≠at_ x)∨(x∈q∧∀ a∈p,at_ a≠at_ x)∨∃ a∈p,∃ b∈q,at_ a=at_ b∧(one a b).2=true∧x=(one a b).1
 left:∀ a∈p,(∀ b∈q,at_ b≠at_ a)→a∈L
 right:∀ b∈q,(∀ a∈p,at_ a≠at_ b)→b∈L
 both:∀ a∈p,∀ b∈q,at_ a=at_ b→(one a b).2=true∧(one a b).1∈L
theorem Z2L(hone:∀ a b,at_ a=at_ b→(one a b).2=true→at_ (one a b).1=at_ a):∀ (k:Nat) (p q:List β) (last:Int),p.length+q.length≤k→asc at_ last p→asc at_ last q→
  (Zj at_ one p q=none→∃ a∈p,∃ b∈q,at_ a=at_ b∧(one a b).2=false)∧∀ L,Zj at_ one p q=some L→MSpec at_ one last p q L:=by
 intro k
 induction k with
 | zero=>
  intro p q last hk hp hq
  have e1:p=[]:=List.eq_nil_of_length_eq_zero (by omega)
  have e2:q=[]:=List.eq_nil_of_length_eq_zero (by omega)
  subst e1 e2
  rw [Zj]
  refine ⟨fun h=> (by cases h),fun L h=> ?_⟩
  cases h
  exact ⟨trivial,fun x hx=> (by cases hx),fun a ha=> (by cases ha),fun a ha=> (by cases ha),fun a ha=> (by cases ha)⟩
 | succ k ih=>
  intro p q last hk hp hq
  match p,q with
  | [],q=>
   rw [Zj]
   refine ⟨fun h=> (by cases h),fun L h=> ?_⟩
   cases h
   exact ⟨hq,fun x hx=> .inr (.inl ⟨hx,fun a ha=> (by cases ha)⟩),fun a ha=> (by cases ha),fun b hb _=> hb,fun a ha=> (by cases ha)⟩
  | a ::p,[]=>
   rw [Zj]
   refine ⟨fun h=> (by cases h),fun L h=> ?_⟩
   cases h
   exact ⟨hp,fun x hx=> .inl ⟨hx,fun a ha=> (by cases ha)⟩,fun b hb _=> hb,fun a ha=> (by cases ha),fun a _ b hb=> (by cases hb)⟩
  | a ::p,b ::q=>
   have gp:=fun x hx=> Zdi hp.2 x hx
   have gq:=fun x hx=> Zdi hq.2 x hx
   simp only [List.length_cons] at hk
   rw [Zj]
   by_cases h1:at_ a < at_ b
   ·rw [if_pos h1]
    obtain ⟨i1,i2⟩:=ih p (b ::q) (at_ a) (by simp only [List.length_cons];omega) hp.2 ⟨h1,hq.2⟩
    refine ⟨fun h=> ?_,fun L h=> ?_⟩
    ·rw [Option.map_eq_none_iff] at h
     obtain ⟨x,hx,y,hy,e⟩:=i1 h
     exact ⟨x,List.mem_cons_of_mem _ hx,y,hy,e⟩
    ·obtain ⟨L',hL,rfl⟩:=Option.map_eq_some_iff.1 h
     have S:=i2 L' hL
     have na:∀ y∈b ::q,at_ y≠at_ a:=by
      intro y hy
      rcases List.mem_cons.1 hy with rfl | hy
      ·omega
      ·have:=gq y hy;omega
     refine ⟨⟨hp.1,S.asc_⟩,fun x hx=> ?_,fun x hx hn=> ?_,fun y hy hn=> ?_,fun x hx y hy e=> ?_⟩
     ·rcases List.mem_cons.1 hx with rfl | hx
      ·exact .inl ⟨List.mem_cons_self,na⟩
      ·rcases S.of x hx with ⟨h2,h3⟩ | ⟨h2,h3⟩ | ⟨c,hc,d,hd,h2⟩
       ·exact .inl ⟨List.mem_cons_of_mem _ h2,h3⟩
       ·refine .inr (.inl ⟨h2,fun c hc=> ?_⟩)
        rcases List.mem_cons.1 hc with rfl | hc
        ·exact (na x h2).symm
        ·exact h3 c hc
       ·exact .inr (.inr ⟨c,List.mem_cons_of_mem _ hc,d,hd,h2⟩)
     ·rcases List.mem_cons.1 hx with rfl | hx
      ·exact List.mem_cons_self
      ·exact List.mem_cons_of_mem _ (S.left x hx hn)
     ·exact List.mem_cons_of_mem _ (S.right y hy fun c hc=> hn c (List.mem_cons_of_mem _ hc))
     ·rcases List.mem_cons.1 hx with rfl | hx
      ·exact absurd e.symm (na y hy)
      ·obtain ⟨h2,h3⟩:=S.both x hx y hy e
       exact ⟨h2,List.mem_cons_of_mem _ h3⟩
   ·rw [if_neg h1]
    by_cases h2:at_ b < at_ a
    ·rw [if_pos h2]
     obtain ⟨i1,i2⟩:=ih (a ::p) q (at_ b) (by simp only [List.length_cons];omega) ⟨h2,hp.2⟩ hq.2
     refine ⟨fun h=> ?_,fun L h=> ?_⟩
     ·rw [Option.map_eq_none_iff] at h
      obtain ⟨x,hx,y,hy,e⟩:=i1 h
      exact ⟨x,hx,y,List.mem_cons_of_mem _ hy,e⟩
     ·obtain ⟨L',hL,rfl⟩:=Option.map_eq_some_iff.1 h
      have S:=i2 L' hL
      have nb:∀ y∈a ::p,at_ y≠at_ b:=by
       intro y hy
       rcases List.mem_cons.1 hy with rfl | hy
       ·omega
       ·have:=gp y hy;omega
      refine ⟨⟨hq.1,S.asc_⟩,fun x hx=> ?_,fun x hx hn=> ?_,fun y hy hn=> ?_,fun x hx y hy e=> ?_⟩
      ·rcases List.mem_cons.1 hx with rfl | hx
       ·exact .inr (.inl ⟨List.mem_cons_self,nb⟩)
       ·rcases S.of x hx with ⟨h3,h4⟩ | ⟨h3,h4⟩ | ⟨c,hc,d,hd,h3⟩
        ·refine .inl ⟨h3,fun c hc=> ?_⟩
         rcases List.mem_cons.1 hc with rfl | hc
         ·exact (nb x h3).symm
         ·exact h4 c hc
        ·exact .inr (.inl ⟨List.mem_cons_of_mem _ h3,h4⟩)
        ·exact .inr (.inr ⟨c,hc,d,List.mem_cons_of_mem _ hd,h3⟩)
      ·exact List.mem_cons_of_mem _ (S.left x hx fun c hc=> hn c (List.mem_cons_of_mem _ hc))
      ·rcases List.mem_cons.1 hy with rfl | hy
       ·exact List.mem_cons_self
       ·exact List.mem_cons_of_mem _ (S.right y hy hn)
      ·rcases List.mem_cons.1 hy with rfl | hy
       ·exact absurd e (nb x hx)
       ·obtain ⟨h3,h4⟩:=S.both x hx y hy e
        exact ⟨h3,List.mem_cons_of_mem _ h4⟩
    ·rw [if_neg h2]
     have e0:at_ a=at_ b:=by omega
     by_cases h3:(one a b).2=true
     ·rw [if_pos h3]
      obtain ⟨i1,i2⟩:=ih p q (at_ a) (by omega) hp.2 (by rw [e0];exact hq.2)
      refine ⟨fun h=> ?_,fun L h=> ?_⟩
      ·rw [Option.map_eq_none_iff] at h
       obtain ⟨x,hx,y,hy,e⟩:=i1 h
       exact ⟨x,List.mem_cons_of_mem _ hx,y,List.mem_cons_of_mem _ hy,e⟩
      ·obtain ⟨L',hL,rfl⟩:=Option.map_eq_some_iff.1 h
       have S:=i2 L' hL
       have hat:=hone a b e0 h3
       have na:∀ y∈q,at_ y≠at_ a:=fun y hy=> by have:=gq y hy;omega
       have nb:∀ y∈p,at_ y≠at_ b:=fun y hy=> by have:=gp y hy;omega
       refine ⟨⟨by rw [hat];exact hp.1,by rw [hat];exact S.asc_⟩,fun x hx=> ?_,fun x hx hn=> ?_,fun y hy hn=> ?_,fun x hx y hy e=> ?_⟩
       ·rcases List.mem_cons.1 hx with rfl | hx
        ·exact .inr (.inr ⟨a,List.mem_cons_self,b,List.mem_cons_self,e0,h3,rfl⟩)
        ·rcases S.of x hx with ⟨h4,h5⟩ | ⟨h4,h5⟩ | ⟨c,hc,d,hd,h4⟩
         ·refine .inl ⟨List.mem_cons_of_mem _ h4,fun c hc=> ?_⟩
          rcases List.mem_cons.1 hc with rfl | hc
          ·exact (nb x h4).symm
          ·exact h5 c hc
         ·refine .inr (.inl ⟨List.mem_cons_of_mem _ h4,fun c hc=> ?_⟩)
          rcases List.mem_cons.1 hc with rfl | hc
          ·exact (na x h4).symm
          ·exact h5 c hc
         ·exact .inr (.inr ⟨c,List.mem_cons_of_mem _ hc,d,List.mem_cons_of_mem _ hd,h4⟩)
       ·rcases List.mem_cons.1 hx with rfl | hx
        ·exact absurd e0.symm (hn b List.mem_cons_self)
        ·exact List.mem_cons_of_mem _ (S.left x hx fun c hc=> hn c (List.mem_cons_of_mem _ hc))
       ·rcases List.mem_cons.1 hy with rfl | hy
        ·exact absurd e0 (hn a List.mem_cons_self)
        ·exact List.mem_cons_of_mem _ (S.right y hy fun c hc=> hn c (List.mem_cons_of_mem _ hc))
       ·rcases List.mem_cons.1 hx with rfl | hx
        ·rcases List.mem_cons.1 hy with rfl | hy
         ·exact ⟨h3,List.mem_cons_self⟩
         ·exact absurd e.symm (na y hy)
        ·rcases List.mem_cons.1 hy with rfl | hy
         ·exact absurd e (nb x hx)
         ·obtain ⟨h4,h5⟩:=S.both x hx y hy e
          exact ⟨h4,List.mem_cons_of_mem _ h5⟩
     ·rw [if_neg h3]
      refine ⟨fun _=> ⟨a,List.mem_cons_self,b,List.mem_cons_self,e0,by simpa using h3⟩,fun L h=> by cases h⟩
variable {α:Type} {z:α} {F:β→α→Option α} {R:α→α→Prop}
def Z1q(z:α)(F:β→α→Option α)(at_:β→Int)(l:List α)(w:β):Option α:=F w (l.getD (at_ w).toNat z)
theorem Z4V{last:Int}(hl: -1≤last){l:List β}(h:asc at_ last l):∀ w∈l,0≤at_ w:=fun w hw=> by have:=Zdi h w hw;omega
theorem Zf3 (hone:∀ a b,at_ a=at_ b→(one a b).2=true→at_ (one a b).1=at_ a) (Rr:∀ x,R x x) {p q L:List β} {l r:List α} (hp:asc at_ (-1) p) (hq:asc at_ (-1) q)
  (hf:∀ a∈p,∀ b∈q,at_ a=at_ b→∀ w,(one a b).2=true→F (one a b).1 (l.getD (at_ a).toNat z)=some w→∃ u v,F a (l.getD (at_ a).toNat z)=some u∧F b u=some v∧R w v)
  (h:Zj at_ one p q=some L) (hr:mg z (Z1q z F at_ l) at_ L l=some r):
  ∃ r1 r2,mg z (Z1q z F at_ l) at_ p l=some r1∧mg z (Z1q z F at_ r1) at_ q r1=some r2∧∀ i,R (r.getD i z) (r2.getD i z):=by
 have S:=(Z2L hone _ p q (-1) (Nat.le_refl _) hp hq).2 L h
 obtain ⟨g1,g2⟩:=Z3A (by omega) S.asc_ hr
 have np:=Z4V (by decide) hp
 have nq:=Z4V (by decide) hq
 have k1:∀ a∈p,∃ u,Z1q z F at_ l a=some u:=by
  intro a ha
  by_cases hb:∃ b∈q,at_ b=at_ a
  ·obtain ⟨b,hb,e⟩:=hb
   obtain ⟨c1,c2⟩:=S.both a ha b hb e.symm
   obtain ⟨v,hv,_⟩:=g1 _ c2
   unfold Z1q at hv
   rw [hone a b e.symm c1] at hv
   obtain ⟨u,_,hu,_⟩:=hf a ha b hb e.symm v c1 hv
   exact ⟨u,hu⟩
  ·obtain ⟨v,hv,_⟩:=g1 a (S.left a ha fun b hbq e=> hb ⟨b,hbq,e⟩)
   exact ⟨v,hv⟩
 obtain ⟨r1,h1⟩:=Z6i (z:=z) (p:=at_) (out:=l) (f:=Z1q z F at_ l) k1
 obtain ⟨a1,a2⟩:=Z3A (by omega) hp h1
 have k2:∀ b∈q,∃ v,Z1q z F at_ r1 b=some v:=by
  intro b hb
  by_cases ha:∃ a∈p,at_ a=at_ b
  ·obtain ⟨a,ha,e⟩:=ha
   obtain ⟨c1,c2⟩:=S.both a ha b hb e
   obtain ⟨w,hw,_⟩:=g1 _ c2
   unfold Z1q at hw
   rw [hone a b e c1] at hw
   obtain ⟨u,v,hu,hv,_⟩:=hf a ha b hb e w c1 hw
   obtain ⟨u',hu',e'⟩:=a1 a ha
   unfold Z1q at hu'
   rw [hu] at hu'
   cases hu'
   unfold Z1q
   rw [←e,e']
   exact ⟨v,hv⟩
  ·obtain ⟨v,hv,_⟩:=g1 b (S.right b hb fun a hap e=> ha ⟨a,hap,e⟩)
   refine ⟨v,?_⟩
   unfold Z1q at hv ⊢
   rw [a2 _ fun a hap e=> ha ⟨a,hap,by have:=np a hap;have:=nq b hb;omega⟩]
   exact hv
 obtain ⟨r2,h2⟩:=Z6i (z:=z) (p:=at_) (out:=r1) (f:=Z1q z F at_ r1) k2
 obtain ⟨b1,b2⟩:=Z3A (by omega) hq h2
 refine ⟨r1,r2,h1,h2,fun i=> ?_⟩
 by_cases hb:∃ b∈q,(at_ b).toNat=i
 ·obtain ⟨b,hb,rfl⟩:=hb
  obtain ⟨v,hv,e2⟩:=b1 b hb
  rw [e2]
  by_cases ha:∃ a∈p,at_ a=at_ b
  ·obtain ⟨a,ha,e⟩:=ha
   obtain ⟨c1,c2⟩:=S.both a ha b hb e
   obtain ⟨w,hw,ew⟩:=g1 _ c2
   unfold Z1q at hw
   rw [hone a b e c1] at hw ew
   obtain ⟨u,v',hu,hv',hR⟩:=hf a ha b hb e w c1 hw
   obtain ⟨u',hu',e'⟩:=a1 a ha
   unfold Z1q at hu' hv
   rw [hu] at hu'
   cases hu'
   rw [←e,e',hv'] at hv
   cases hv
   rw [←e,ew]
   exact hR
  ·obtain ⟨w,hw,ew⟩:=g1 b (S.right b hb fun a hap e=> ha ⟨a,hap,e⟩)
   rw [ew]
   unfold Z1q at hw hv
   rw [a2 _ fun a hap e=> ha ⟨a,hap,by have:=np a hap;have:=nq b hb;omega⟩,hw] at hv
   cases hv
   exact Rr _
 ·rw [b2 i fun b hbq e=> hb ⟨b,hbq,e⟩]
  by_cases ha:∃ a∈p,(at_ a).toNat=i
  ·obtain ⟨a,ha,rfl⟩:=ha
   obtain ⟨w,hw,ew⟩:=g1 a (S.left a ha fun b hbq e=> hb ⟨b,hbq,by omega⟩)
   obtain ⟨u,hu,eu⟩:=a1 a ha
   rw [hw] at hu
   cases hu
   rw [ew,eu]
   exact Rr _
  ·rw [a2 i fun a hap e=> ha ⟨a,hap,e⟩,g2 i ?_]
   ·exact Rr _
   ·intro w hw e
    rcases S.of w hw with ⟨h3,_⟩ | ⟨h3,_⟩ | ⟨a,hap,b,hbq,e3,c1,rfl⟩
    ·exact ha ⟨w,h3,e⟩
    ·exact hb ⟨w,h3,e⟩
    ·rw [hone a b e3 c1] at e
     exact ha ⟨a,hap,e⟩
theorem Zk3 (hone:∀ a b,at_ a=at_ b→(one a b).2=true→at_ (one a b).1=at_ a) (Rr:∀ x,R x x) {p q:List β} {l r1 r2:List α} (hp:asc at_ (-1) p) (hq:asc at_ (-1) q)
  (hf:∀ a∈p,∀ b∈q,at_ a=at_ b→∀ u v,F a (l.getD (at_ a).toNat z)=some u→F b u=some v→(one a b).2=true∧∃ w,F (one a b).1 (l.getD (at_ a).toNat z)=some w∧R w v)
  (h1:mg z (Z1q z F at_ l) at_ p l=some r1) (h2:mg z (Z1q z F at_ r1) at_ q r1=some r2):
  ∃ L r,Zj at_ one p q=some L∧mg z (Z1q z F at_ l) at_ L l=some r∧∀ i,R (r.getD i z) (r2.getD i z):=by
 have np:=Z4V (by decide) hp
 have nq:=Z4V (by decide) hq
 obtain ⟨a1,a2⟩:=Z3A (by omega) hp h1
 obtain ⟨b1,b2⟩:=Z3A (by omega) hq h2
 have both:∀ a∈p,∀ b∈q,at_ a=at_ b→(one a b).2=true∧∃ w,F (one a b).1 (l.getD (at_ a).toNat z)=some w∧R w (r2.getD (at_ a).toNat z):=by
  intro a ha b hb e
  obtain ⟨u,hu,eu⟩:=a1 a ha
  obtain ⟨v,hv,ev⟩:=b1 b hb
  unfold Z1q at hu hv
  rw [←e,eu] at hv
  have:=hf a ha b hb e u v hu hv
  rw [e,ev,←e]
  exact this
 cases h:Zj at_ one p q with
 | none=>
  obtain ⟨a,ha,b,hb,e,h3⟩:=(Z2L hone _ p q (-1) (Nat.le_refl _) hp hq).1 h
  rw [(both a ha b hb e).1] at h3
  cases h3
 | some L=>
  have S:=(Z2L hone _ p q (-1) (Nat.le_refl _) hp hq).2 L h
  have k1:∀ w∈L,∃ v,Z1q z F at_ l w=some v:=by
   intro w hw
   rcases S.of w hw with ⟨h3,h4⟩ | ⟨h3,h4⟩ | ⟨a,ha,b,hb,e,c1,rfl⟩
   ·obtain ⟨u,hu,_⟩:=a1 w h3
    exact ⟨u,hu⟩
   ·obtain ⟨v,hv,_⟩:=b1 w h3
    refine ⟨v,?_⟩
    unfold Z1q at hv ⊢
    rw [a2 _ fun a hap e=> h4 a hap (by have:=np a hap;have:=nq w h3;omega)] at hv
    exact hv
   ·obtain ⟨_,w,hw,_⟩:=both a ha b hb e
    refine ⟨w,?_⟩
    unfold Z1q
    rw [hone a b e c1]
    exact hw
  obtain ⟨r,hr⟩:=Z6i (z:=z) (p:=at_) (out:=l) (f:=Z1q z F at_ l) k1
  refine ⟨L,r,rfl,hr,?_⟩
  obtain ⟨r1',r2',e1,e2,hR⟩:=Zf3 (R:=fun x y=> x=y∨R x y) hone (fun x=> .inl rfl) hp hq (by
   intro a ha b hb e w c1 hw
   obtain ⟨u,hu,eu⟩:=a1 a ha
   obtain ⟨v,hv,ev⟩:=b1 b hb
   unfold Z1q at hu hv
   rw [←e,eu] at hv
   obtain ⟨_,w',hw',hR⟩:=hf a ha b hb e u v hu hv
   rw [hw] at hw'
   cases hw'
   exact ⟨u,v,hu,hv,.inr hR⟩) h hr
  rw [h1] at e1
  cases e1
  rw [h2] at e2
  cases e2
  intro i
  rcases hR i with h | h
  ·rw [h];exact Rr _
  ·exact h
end
end Go.AM.Ytpjenobkibfpcaa
namespace Go.AM.Ytpjenobkibfpcaa
open Go.AM Go.Proofs
theorem Z41(m:Int)(h0:0≤m)(h1:m < 256)(i:Nat):YC m (i:Int)=(BitVec.ofInt 8 m).toNat.testBit i:=by
 obtain ⟨n,rfl⟩:=Int.eq_ofNat_of_zero_le h0
 have e:(BitVec.ofInt 8 ((n:Nat):Int)).toNat=n:=by simp;omega
 rw [e,Nat.testBit_eq_decide_div_mod_eq]
 unfold YC
 rw [decide_eq_decide,Int.toNat_natCast]
 have:((n:Int) / 2 ^ i % 2:Int)=((n / 2 ^ i % 2:Nat):Int):=by rw [Int.natCast_emod,Int.natCast_ediv,Int.natCast_pow];try rfl
 rw [this];omega
theorem ZlV{a b:Int}(ha:0≤a∧a < 256)(hb:0≤b∧b < 256):(0≤Zi8 a b∧Zi8 a b < 256)∧∀ i:Nat,YC (Zi8 a b) (i:Int)=(YC a (i:Int) && YC b (i:Int)):=by
 have hlt:(BitVec.ofInt 8 a &&& BitVec.ofInt 8 b).toNat < 256:=(BitVec.ofInt 8 a &&& BitVec.ofInt 8 b).isLt
 have e:Zi8 a b=((BitVec.ofInt 8 a &&& BitVec.ofInt 8 b).toNat:Int):=by
  show IntKind.wrap .u8 ((BitVec.ofInt 8 a &&& BitVec.ofInt 8 b).toNat:Int)=_
  exact Zb2 (by omega) (by omega)
 refine ⟨by rw [e];omega,fun i=> ?_⟩
 rw [Z41 _ (by rw [e];omega) (by rw [e];omega),e,Z41 a ha.1 ha.2,Z41 b hb.1 hb.2]
 have:(BitVec.ofInt 8 (((BitVec.ofInt 8 a &&& BitVec.ofInt 8 b).toNat:Nat):Int)).toNat=(BitVec.ofInt 8 a &&& BitVec.ofInt 8 b).toNat:=by
  generalize (BitVec.ofInt 8 a &&& BitVec.ofInt 8 b).toNat=k at hlt ⊢
  simp
  omega
 rw [this,BitVec.toNat_and,Nat.testBit_and]
theorem Zpp{a b:Int}(ha:0≤a∧a < 256)(hb:0≤b∧b < 256):(0≤orM a b∧orM a b < 256)∧∀ i:Nat,YC (orM a b) (i:Int)=(YC a (i:Int) || YC b (i:Int)):=by
 have hlt:(BitVec.ofInt 8 a ||| BitVec.ofInt 8 b).toNat < 256:=(BitVec.ofInt 8 a ||| BitVec.ofInt 8 b).isLt
 have e:orM a b=((BitVec.ofInt 8 a ||| BitVec.ofInt 8 b).toNat:Int):=by
  show IntKind.wrap .u8 ((BitVec.ofInt 8 a ||| BitVec.ofInt 8 b).toNat:Int)=_
  exact Zb2 (by omega) (by omega)
 refine ⟨by rw [e];omega,fun i=> ?_⟩
 rw [Z41 _ (by rw [e];omega) (by rw [e];omega),e,Z41 a ha.1 ha.2,Z41 b hb.1 hb.2]
 have:(BitVec.ofInt 8 (((BitVec.ofInt 8 a ||| BitVec.ofInt 8 b).toNat:Nat):Int)).toNat=(BitVec.ofInt 8 a ||| BitVec.ofInt 8 b).toNat:=by
  generalize (BitVec.ofInt 8 a ||| BitVec.ofInt 8 b).toNat=k at hlt ⊢
  simp
  omega
 rw [this,BitVec.toNat_or,Nat.testBit_or]
def doW(w:WEdit)(x:Int):Option Int:=if mix 0 x w.mask=w.old then some (mix x w.new w.mask) else none
theorem Zdd(i:Nat):Zd 0 i=0:=by unfold Zd;simp
theorem Z1l{w m:Int}(h:ZK w m=true){i:Nat}(hi:i < 8)(hn:YC m i=false):Zd w i=0:=by
 have h:mix w 0 m=0:=of_decide_eq_true h
 have e:=congrArg (fun x=> Zd x i) h
 simp only [Z1v hi,Yx,hn,Zdd] at e
 simpa using e
theorem Jv{a b m:Int}{i:Nat}(hi:i < 8):Zd (mix a b m) i=if YC m i=true then Zd b i else Zd a i:=by rw [Z1v hi];try rfl
theorem ZnL{a b:WEdit}(ra:Z1s a)(rb:Z1s b)(oa:ZK a.old a.mask=true∧ZK a.new a.mask=true)(ob:ZK b.old b.mask=true∧ZK b.new b.mask=true){x:Int}(hx:isW x):
  (∀ w,(YM a b).2=true→doW (YM a b).1 x=some w→∃ u v,doW a x=some u∧doW b u=some v∧w=v)∧
  (∀ u v,doW a x=some u→doW b u=some v→(YM a b).2=true∧∃ w,doW (YM a b).1 x=some w∧w=v):=by
 have A:=ZlV ra.2.1 rb.2.1
 have O:=Zpp ra.2.1 rb.2.1
 have hfin:mix (mix x a.new a.mask) b.new b.mask=mix x (mix a.new b.new b.mask) (orM a.mask b.mask):=by
  refine Z2Y (Z0s _ _ _) (Z0s _ _ _) fun i hi=> ?_
  rw [Jv hi,Jv hi,Jv hi,Jv hi,O.2]
  cases YC a.mask i <;> cases YC b.mask i <;> simp
 refine ⟨fun w hc hw=> ?_,fun u v hu hv=> ?_⟩
 ·unfold YM at hc hw
  by_cases ho:Z9L a b=true
  ·rw [if_pos ho] at hw
   unfold doW at hw
   simp only at hw
   split at hw
   ·rename_i hold
    cases hw
    have hok:mix 0 a.new (Zi8 a.mask b.mask)=mix 0 b.old (Zi8 a.mask b.mask):=of_decide_eq_true ho
    have e1:mix 0 x a.mask=a.old:=by
     refine Z2Y (Z0s _ _ _) ra.2.2.1 fun i hi=> ?_
     have e:=congrArg (fun y=> Zd y i) hold
     simp only [Jv hi,O.2] at e
     rw [Jv hi]
     cases hn:YC a.mask i with
     | true=> rw [hn] at e;simpa using e
     | false=> rw [Z1l oa.1 hi hn,Zdd];simp
    have e2:mix 0 (mix x a.new a.mask) b.mask=b.old:=by
     refine Z2Y (Z0s _ _ _) rb.2.2.1 fun i hi=> ?_
     have e:=congrArg (fun y=> Zd y i) hold
     have e':=congrArg (fun y=> Zd y i) hok
     simp only [Jv hi,O.2] at e
     simp only [Jv hi,A.2] at e'
     rw [Jv hi,Jv hi]
     cases hb:YC b.mask i with
     | true=>
      cases ha:YC a.mask i with
      | true=> rw [ha,hb] at e';simpa using e'
      | false=> rw [ha,hb] at e;simpa using e
     | false=> rw [Z1l ob.1 hi hb,Zdd];simp
    refine ⟨mix x a.new a.mask,mix (mix x a.new a.mask) b.new b.mask,?_,?_,hfin.symm⟩
    ·unfold doW;rw [if_pos e1]
    ·unfold doW;rw [if_pos e2]
   ·cases hw
  ·rw [if_neg ho] at hc;cases hc
 ·unfold doW at hu hv
  split at hu
  ·rename_i e1
   cases hu
   split at hv
   ·rename_i e2
    cases hv
    have ho:Z9L a b=true:=by
     refine decide_eq_true (Z2Y (Z0s _ _ _) (Z0s _ _ _) fun i hi=> ?_)
     have e:=congrArg (fun y=> Zd y i) e2
     simp only [Jv hi] at e
     rw [Jv hi,Jv hi,A.2]
     cases ha:YC a.mask i <;> cases hb:YC b.mask i <;> rw [ha,hb] at e <;> simp at e ⊢
     exact e
    unfold YM
    rw [if_pos ho]
    refine ⟨rfl,mix x (mix a.new b.new b.mask) (orM a.mask b.mask),?_,hfin.symm⟩
    unfold doW
    simp only
    rw [if_pos]
    refine Z2Y (Z0s _ _ _) (Z0s _ _ _) fun i hi=> ?_
    have e:=congrArg (fun y=> Zd y i) e1
    have e':=congrArg (fun y=> Zd y i) e2
    simp only [Jv hi] at e e'
    rw [Jv hi,Jv hi,O.2]
    cases ha:YC a.mask i <;> cases hb:YC b.mask i <;> rw [ha] at e e' <;> rw [hb] at e' <;> simp at e e' ⊢
    all_goals first | exact e' | exact e | exact (Zdd i).symm.trans e' | exact (Zdd i).trans ((Zdd i).symm.trans e')
   ·cases hv
  ·cases hu
theorem Z7y(tw:List Int)(ws:List WEdit)(out:List Int):wsD tw ws out=mg 0 (Z1q 0 doW WEdit.at_ tw) WEdit.at_ ws out:=ZeM tw ws out
theorem Z5W(tk:List Tree)(ks:List Kid)(out:List Tree):Jf false tk ks out=mg Tree.nil (Z1q Tree.nil (fun k:Kid=> doE false k.e) KidOf.at_ tk) KidOf.at_ ks out:=by
 rw [Zbf]
 congr 1
 funext k
 exact Z4a false tk k
theorem Zls(a b:WEdit)(h:(YM a b).2=true):(YM a b).1.at_=a.at_:=by
 unfold YM at h ⊢
 split
 ·try rfl
 ·rename_i hn;rw [if_neg hn] at h;cases h
theorem YZ{e:Edit}{d:Int}(h:Z0 e d=true):∀ o∈e.ops,YI o:=Z7i (Zp h).ops
theorem Z6Q {f g:Edit→Edit→Edit × Bool} {p q:Edit} {d d':Int} (hp:Z0 p d=true) (hq:Z0 q d'=true)
  (h:∀ a b,Zc a+Zc b < Zc p+Zc q→(∃ d,Z0 a d=true)→(∃ d,Z0 b d=true)→f a b=g a b):Jx f p q=Jx g p q:=by
 have rp:=Zp hp
 have rq:=Zp hq
 have hk:Zj KidOf.at_ (Z0x f) p.kids q.kids=Zj KidOf.at_ (Z0x g) p.kids q.kids:=by
  have key:∀ (k:Nat) (a b:List Kid),a.length+b.length≤k→(∀ x∈a,x∈p.kids)→(∀ x∈b,x∈q.kids)→Zj KidOf.at_ (Z0x f) a b=Zj KidOf.at_ (Z0x g) a b:=by
   intro k
   induction k with
   | zero=>
    intro a b hn _ _
    have e1:a=[]:=List.eq_nil_of_length_eq_zero (by omega)
    subst e1
    rw [Zj,Zj]
   | succ k ihk=>
    intro a b hn ha hb
    match a,b with
    | [],b=> rw [Zj,Zj]
    | x ::a,[]=> rw [Zj,Zj]
    | x ::a,y ::b=>
     simp only [List.length_cons] at hn
     have hx:=J4 (ha x List.mem_cons_self)
     have hy:=J4 (hb y List.mem_cons_self)
     have e:Z0x f x y=Z0x g x y:=by
      unfold Z0x
      rw [h x.e y.e (by omega) ⟨_,(ZG rp.kids x (ha x List.mem_cons_self)).2⟩ ⟨_,(ZG rq.kids y (hb y List.mem_cons_self)).2⟩]
     rw [Zj,Zj,e,ihk a (y ::b) (by simp only [List.length_cons];omega) (fun z hz=> ha z (List.mem_cons_of_mem _ hz)) hb,ihk (x ::a) b (by simp only [List.length_cons];omega) ha (fun z hz=> hb z (List.mem_cons_of_mem _ hz)),
      ihk a b (by omega) (fun z hz=> ha z (List.mem_cons_of_mem _ hz)) (fun z hz=> hb z (List.mem_cons_of_mem _ hz))]
  exact key _ _ _ (Nat.le_refl _) (fun x hx=> hx) (fun x hx=> hx)
 have ho:Z08 f p.ops q.ops=Z08 g p.ops q.ops:=by
  unfold Z08
  obtain ⟨i1,_⟩:=Z87 _ p.ops q.ops [] (Nat.le_refl _) (YZ hp) (YZ hq)
  by_cases hb:(Y4 1 2 p.ops q.ops []).2.1=true
  ·rw [if_pos hb,if_pos hb]
   obtain ⟨ps,e,hps,hA,hB⟩:=i1 hb
   rw [e,List.nil_append]
   clear e i1 hb hA hB
   induction ps with
   | nil=> rfl
   | cons x r ihr=>
    have hx:=hps x List.mem_cons_self
    have e:ZF f x=ZF g x:=by
     unfold ZF
     by_cases h1:x.of=1∨(x.of=0∧x.q.kind=0)
     ·rw [if_pos h1,if_pos h1]
     rw [if_neg h1,if_neg h1]
     by_cases h2:x.of=2∨x.p.kind=0
     ·rw [if_pos h2,if_pos h2]
     rw [if_neg h2,if_neg h2]
     by_cases h3:x.p.kind=2∧x.q.kind=1
     ·rw [if_pos h3,if_pos h3]
     rw [if_neg h3,if_neg h3]
     by_cases h4:x.p.kind=2
     ·rw [if_pos h4,if_pos h4]
     rw [if_neg h4,if_neg h4]
     by_cases h5:x.q.kind=1
     ·rw [if_pos h5,if_pos h5]
     rw [if_neg h5,if_neg h5]
     have h0:x.of=0:=by rcases hx.of with h | h | h <;> omega
     obtain ⟨hpk,hqk,hl⟩:=hx.both h0
     obtain ⟨⟨o1,m1,k1,e1,_⟩,op⟩:=hx.pp (by omega)
     obtain ⟨⟨o2,m2,k2,e2,_⟩,oq⟩:=hx.qq (by omega)
     have kp3:x.p.kind=3:=by rcases Yo op with h | h | h | h <;> omega
     have kq3:x.q.kind=3:=by rcases Yo oq with h | h | h | h <;> omega
     have:=JY m1
     have:=JY m2
     have r1:=YE (rightOs_mem rp.ops m1) (by omega)
     have r2:=YE (rightOs_mem rq.ops m2) (by omega)
     rw [e1,e2,h o1.e o2.e (by omega) ⟨_,r1⟩ ⟨_,r2⟩]
    rw [JN,JN,e,ihr fun y hy=> hps y (List.mem_cons_of_mem _ hy)]
  ·rw [if_neg hb,if_neg hb]
 unfold Jx
 rw [hk,ho]
theorem ZeB:∀ (n m:Nat) (p q:Edit) (d d':Int),Z0 p d=true→Z0 q d'=true→Zc p+Zc q≤n→n≤m→Zb0 m p q=Zb0 n p q:=by
 intro n
 induction n with
 | zero=> intro m p q d d' _ _ h;obtain ⟨k,o,nw,w,ks,l,os⟩:=p;simp only [Zc] at h;omega
 | succ n ih=>
  intro m p q d d' hp hq h hm
  obtain ⟨m,rfl⟩:∃ k,m=k+1:=⟨m - 1,by omega⟩
  show Jx (Zb0 m) p q=Jx (Zb0 n) p q
  exact Z6Q hp hq fun a b hab ⟨d1,h1⟩ ⟨d2,h2⟩=> ih m a b d1 d2 h1 h2 (by omega) (by omega)
theorem ZeC{p q:Edit}{d d':Int}(hp:Z0 p d=true)(hq:Z0 q d'=true):Y5 p q=Jx Y5 p q:=by
 have e:Y5 p q=Zb0 (Zc p+Zc q+1) p q:=(ZeB _ _ p q d d' hp hq (Nat.le_refl _) (by omega)).symm
 rw [e]
 show Jx (Zb0 (Zc p+Zc q)) p q=Jx Y5 p q
 exact Z6Q hp hq fun a b hab ⟨d1,h1⟩ ⟨d2,h2⟩=> ZeB _ _ a b d1 d2 h1 h2 (Nat.le_refl _) (by omega)
end Go.AM.Ytpjenobkibfpcaa
namespace Go.AM.Ytpjenobkibfpcaa
open Go.AM Go.Proofs
theorem Zd1(t:Tree):Eqv (Z7 t) t:=J0 t
theorem ZqD{e:Edit}(h:e.kind=0)(t:Tree):doE false e t=some t:=by rw [Z0R,Yp,if_pos h]
theorem Znh{e:Edit}(h:e.kind=1)(t:Tree):doE false e t=if Jo (Z7 e.old) (Z7 t)=true then some e.new else none:=by rw [Z0R,Yp,if_neg (by omega),if_pos h]
theorem Zng{e:Edit}(h:e.kind=2)(t:Tree):doE false e t=if t.kind=1 then (wsD t.words e.words t.words).bind fun a=> (Jf false t.kids e.kids t.kids).map fun b=> .mk 1 a b else none:=by
 rw [Z0R,Yp,if_neg (by omega),if_neg (by omega),if_pos h]
theorem Znf{e:Edit}(h:e.kind=3)(t:Tree):doE false e t=if t.kind=e.list then (Z19 (ZE false e.ops t.kids [])).map fun b=> .mk e.list [] b else none:=by
 rw [Z0R,Yp,if_neg (by omega),if_neg (by omega),if_neg (by omega),if_pos h]
theorem Zlo(o n t:Tree):doE false (.mk 1 o n [] [] 0 []) t=if Jo (Z7 o) (Z7 t)=true then some n else none:=Znh rfl t
theorem ZuJ(w:List WEdit)(ks:List Kid)(t:Tree):doE false (.mk 2 Tree.nil Tree.nil w ks 0 []) t=if t.kind=1 then (wsD t.words w t.words).bind fun a=> (Jf false t.kids ks t.kids).map fun b=> .mk 1 a b else none:=Zng rfl t
theorem ZuI(l:Int)(os:List Op)(t:Tree):doE false (.mk 3 Tree.nil Tree.nil [] [] l os) t=if t.kind=l then (Z19 (ZE false os t.kids [])).map fun b=> .mk l [] b else none:=Znf rfl t
theorem Z93{e:Edit}{t v:Tree}(h:doE false e t=some v):doB e t=(Z7 v,true):=by unfold doB;rw [h];try rfl
theorem ZhX{e:Edit}{t:Tree}(h:doE false e t=none):(doB e t).2=false:=by unfold doB;rw [h];try rfl
theorem Yg{e:Edit}(h:ZS e):rng e.old∧rng e.new∧(∀ x∈e.words,Z1s x)∧JT e.kids∧JL e.ops:=by
 obtain ⟨k,o,n,w,ks,l,os⟩:=e
 exact ⟨h.2.1,h.2.2.1,h.2.2.2.1,h.2.2.2.2.2.1,h.2.2.2.2.2.2⟩
theorem Zbb{e:Edit}{d:Int}(hr:Z0 e d=true)(he:ZS e){o:Op}(h:Part e.ops o):ROp o:=by
 obtain ⟨o',m,k,e1,_,l⟩:=h
 have ro:=rightOs_mem (Zp hr).ops m
 have rg:=JE (Yg he).2.2.2.2 m
 have rg':=Z04 rg
 refine ⟨fun h3=> ⟨⟨_,by rw [e1];exact YE ro (by omega)⟩,by rw [e1];exact rg'.2.2.2⟩,fun t ht=> ?_⟩
 have ht':=l t ht
 refine ⟨?_,YX rg'.2.2.1 ht'⟩
 have R:=ZC ro
 by_cases h3:e.kind=3
 ·have hli:=(Zp hr).list h3
  generalize e.list=li at R hli
  cases R with
  | keep=> cases ht'
  | into=> cases ht'
  | gone l1 h1=> exact ⟨-1,(Jc hli h1 t ht').2⟩
  | come l1 h1=> exact ⟨-1,(Jc hli h1 t ht').2⟩
 ·have:=(Zp hr).ops0 h3
  rw [this.2] at m
  cases m
theorem ZfS{t:Tree}(h:RT_ t):∀ k∈t.kids,RT_ k:=h.kids.1
theorem ZqH {f:Edit→Edit→Edit × Bool} {p q:Edit} {d d':Int} (hp:Z0 p d=true) (hq:Z0 q d'=true) (gp:ZS p) (gq:ZS q) (k3:p.kind=3) (l3:q.kind=3) (hl:p.list=q.list)
  (ih:∀ a b,Zc a+Zc b < Zc p+Zc q→(∃ d,Z0 a d=true)→(∃ d,Z0 b d=true)→ZS a→ZS b→ComOk (f a b) a b):
  ComOk (.mk 3 Tree.nil Tree.nil [] [] p.list (ofO (Z08 f p.ops q.ops)),(Z08 f p.ops q.ops).isSome) p q:=by
 have hli:=(Zp hp).list k3
 have kp:∀ o∈p.ops,kOk o:=fun o ho=> Yo (YZ hp o ho)
 have kq:∀ o∈q.ops,kOk o:=fun o ho=> Yo (YZ hq o ho)
 obtain ⟨i1,i2⟩:=Z87 _ p.ops q.ops [] (Nat.le_refl _) (YZ hp) (YZ hq)
 have facts:∀ ps:List Piece,(∀ x∈ps,POk p.ops q.ops x)→(∀ x∈ps,(x.of≠2→ROp x.p)∧(x.of≠1→ROp x.q))∧∀ x∈ps,x.p.kind=3→x.q.kind=3→x.of=0→ComOk (f x.p.e x.q.e) x.p.e x.q.e:=by
  intro ps hps
  refine ⟨fun x hx=> ⟨fun h=> Zbb hp gp ((hps x hx).pp h).1,fun h=> Zbb hq gq ((hps x hx).qq h).1⟩,fun x hx h1 h2 h0=> ?_⟩
  have hx':=hps x hx
  have s1:=(Zbb hp gp (hx'.pp (by omega)).1).1 h1
  have s2:=(Zbb hq gq (hx'.qq (by omega)).1).1 h2
  obtain ⟨o1,m1,_,e1,_⟩:=(hx'.pp (by omega)).1
  obtain ⟨o2,m2,_,e2,_⟩:=(hx'.qq (by omega)).1
  have:=JY m1
  have:=JY m2
  exact ih _ _ (by rw [e1,e2];omega) s1.1 s2.1 s1.2 s2.2
 refine ⟨fun {t w} ht hc hw=> ?_,fun {t u v} ht hu hv=> ?_⟩
 ·rw [ZuI] at hw
  split at hw
  ·rename_i ht3
   obtain ⟨b,hb,rfl⟩:=Option.map_eq_some_iff.1 hw
   cases hco:Z08 f p.ops q.ops with
   | none=> simp only at hc;rw [hco] at hc;cases hc
   | some ops=>
    rw [hco] at hb
    unfold Z08 at hco
    split at hco
    ·rename_i hb1
     obtain ⟨ps,e,hps,hP,hQ⟩:=i1 hb1
     rw [e,List.nil_append] at hco
     obtain ⟨f1,f2⟩:=facts ps hps
     have kops:∀ o∈ops,kOk o:=by
      have:∀ (ps:List Piece) (ops:List Op),(∀ x∈ps,POk p.ops q.ops x)→JN f ps=some ops→∀ o∈ops,kOk o:=by
       intro ps
       induction ps with
       | nil=> intro ops _ h o ho;cases h;cases ho
       | cons x r ihp=>
        intro ops hps h o ho
        rw [JN] at h
        split at h
        ·obtain ⟨l,hl,rfl⟩:=Option.map_eq_some_iff.1 h
         rcases List.mem_append.1 ho with ho | ho
         ·split at ho
          ·rw [List.mem_singleton.1 ho];exact Zjs (hps x List.mem_cons_self)
          ·cases ho
         ·exact ihp l (fun y hy=> hps y (List.mem_cons_of_mem _ hy)) hl o ho
        ·cases h
      exact this ps ops hps hco
     have hr:=(Z4M kops).1 hb
     obtain ⟨m,dd,r1,r2,he⟩:=Zcu hps f1 f2 (ZfS ht) hco hr
     refine ⟨.mk p.list [] m,.mk q.list [] dd,?_,?_,?_⟩
     ·rw [Znf k3,if_pos ht3,(Z4M kp).2 ((hP _ _).2 r1)];try rfl
     ·rw [Znf l3,if_pos (show (Tree.mk p.list [] m).kind=q.list from hl)]
      simp only [Tree.kids_mk]
      rw [(Z4M kq).2 ((hQ _ _).2 r2)];try rfl
     ·rw [hl]
      exact Z5D _ _ he
    ·cases hco
  ·cases hw
 ·rw [Znf k3] at hu
  split at hu
  ·rename_i ht3
   obtain ⟨m,hm,rfl⟩:=Option.map_eq_some_iff.1 hu
   rw [Znf l3,if_pos (show (Tree.mk p.list [] m).kind=q.list from hl)] at hv
   simp only [Tree.kids_mk] at hv
   obtain ⟨dd,hd,rfl⟩:=Option.map_eq_some_iff.1 hv
   have r1:=(Z4M kp).1 hm
   have r2:=(Z4M kq).1 hd
   cases hb1:(Y4 1 2 p.ops q.ops []).2.1 with
   | false=> exact (i2 hb1 _ _ _ r1 r2).elim
   | true=>
    obtain ⟨ps,e,hps,hP,hQ⟩:=i1 hb1
    obtain ⟨f1,f2⟩:=facts ps hps
    obtain ⟨ops,w,c1,c2,c3⟩:=Zcv hps f1 f2 (ZfS ht) ((hP _ _).1 r1) ((hQ _ _).1 r2)
    have hco:Z08 f p.ops q.ops=some ops:=by unfold Z08;rw [if_pos hb1,e,List.nil_append,c1]
    have kops:Z19 (ZE false ops t.kids [])=some w:=by
     have:=Zoy c2 []
     unfold Z19
     rw [this]
     simp
    rw [hco]
    refine ⟨rfl,.mk p.list [] w,?_,?_⟩
    ·rw [ZuI,if_pos ht3]
     show (Z19 (ZE false ops t.kids [])).map _=_
     rw [kops];try rfl
    ·rw [←hl]
     exact Z5D _ _ c3
  ·cases hu
theorem Zjr {f:Edit→Edit→Edit × Bool} {p q:Edit} {d d':Int} (hp:Z0 p d=true) (hq:Z0 q d'=true) (gp:ZS p) (gq:ZS q) (k2:p.kind=2) (l2:q.kind=2)
  (ih:∀ a b,Zc a+Zc b < Zc p+Zc q→(∃ d,Z0 a d=true)→(∃ d,Z0 b d=true)→ZS a→ZS b→ComOk (f a b) a b):
  ComOk (if (Zj WEdit.at_ YM p.words q.words).isSome then
   (.mk 2 Tree.nil Tree.nil (ofO (Zj WEdit.at_ YM p.words q.words)) (ofO (Zj KidOf.at_ (Z0x f) p.kids q.kids)) 0 [],(Zj KidOf.at_ (Z0x f) p.kids q.kids).isSome) else (Edit.nil,false)) p q:=by
 have rp:=Zp hp
 have rq:=Zp hq
 have wp:=Z0X rp.words
 have wq:=Z0X rq.words
 have ap:=Z2Q rp.kids
 have aq:=Z2Q rq.kids
 have g1:=Yg gp
 have g2:=Yg gq
 have hw:∀ a∈p.words,∀ b∈q.words,∀ x,isW x→(∀ w,(YM a b).2=true→doW (YM a b).1 x=some w→∃ u v,doW a x=some u∧doW b u=some v∧w=v)∧
   (∀ u v,doW a x=some u→doW b u=some v→(YM a b).2=true∧∃ w,doW (YM a b).1 x=some w∧w=v):=by
  intro a ha b hb x hx
  have oa:=Y8 rp.words a ha
  have ob:=Y8 rq.words b hb
  exact ZnL (g1.2.2.1 a ha) (g2.2.2.1 b hb) oa.2.2.2 ob.2.2.2 hx
 have hk:∀ a∈p.kids,∀ b∈q.kids,ComOk (f a.e b.e) a.e b.e:=by
  intro a ha b hb
  have:=J4 ha
  have:=J4 hb
  exact ih _ _ (by omega) ⟨_,(ZG rp.kids a ha).2⟩ ⟨_,(ZG rq.kids b hb).2⟩ (YB g1.2.2.2.1 ha).2 (YB g2.2.2.2.1 hb).2
 have hkat:∀ a b:Kid,a.at_=b.at_→(Z0x f a b).2=true→(Z0x f a b).1.at_=a.at_:=fun a b _ _=> rfl
 have hwat:∀ a b:WEdit,a.at_=b.at_→(YM a b).2=true→(YM a b).1.at_=a.at_:=fun a b _ h=> Zls a b h
 refine ⟨fun {t w} ht hc hw'=> ?_,fun {t u v} ht hu hv=> ?_⟩
 ·cases hm:Zj WEdit.at_ YM p.words q.words with
  | none=> rw [hm] at hc;cases hc
  | some L=>
   cases hn:Zj KidOf.at_ (Z0x f) p.kids q.kids with
   | none=> rw [hm,hn] at hc;cases hc
   | some M=>
    rw [hm,hn] at hw'
    rw [if_pos (show (some L).isSome=true from rfl)] at hw'
    rw [ZuJ] at hw'
    split at hw'
    ·rename_i t1
     obtain ⟨a,ha,hw'⟩:=Option.bind_eq_some_iff.1 hw'
     obtain ⟨b,hb,rfl⟩:=Option.map_eq_some_iff.1 hw'
     have ha:wsD t.words L t.words=some a:=ha
     have hb:Jf false t.kids M t.kids=some b:=hb
     rw [Z7y] at ha
     rw [Z5W] at hb
     obtain ⟨a1,a2,x1,x2,x3⟩:=Zf3 (R:=Eq) hwat (fun x=> rfl) wp wq (fun a ha b hb e w hc hw2=> (hw a ha b hb _ (ZeQ (Zf4 ht.2).2.1 _)).1 w hc hw2) hm ha
     obtain ⟨b1,b2,y1,y2,y3⟩:=Zf3 (R:=Eqv) hkat (fun x=> rfl) ap aq (fun a ha b hb e w hc hw2=> (hk a ha b hb).fwd (Z9R (ZfS ht) _) hc hw2) hn hb
     refine ⟨.mk 1 a1 b1,.mk 1 a2 b2,?_,?_,?_⟩
     ·rw [Zng k2,if_pos t1,Z7y,x1,Z5W,y1];try rfl
     ·rw [Zng l2,if_pos (show (Tree.mk 1 a1 b1).kind=1 from rfl)]
      simp only [Tree.words_mk,Tree.kids_mk]
      rw [Z7y,x2,Z5W,y2];try rfl
     ·exact (Z2U rfl rfl).2 ⟨x3,y3⟩
    ·cases hw'
 ·rw [Zng k2] at hu
  split at hu
  ·rename_i t1
   obtain ⟨a1,x1,hu⟩:=Option.bind_eq_some_iff.1 hu
   obtain ⟨b1,y1,rfl⟩:=Option.map_eq_some_iff.1 hu
   rw [Zng l2,if_pos (show (Tree.mk 1 a1 b1).kind=1 from rfl)] at hv
   simp only [Tree.words_mk,Tree.kids_mk] at hv
   obtain ⟨a2,x2,hv⟩:=Option.bind_eq_some_iff.1 hv
   obtain ⟨b2,y2,rfl⟩:=Option.map_eq_some_iff.1 hv
   rw [Z7y] at x1 x2
   rw [Z5W] at y1 y2
   obtain ⟨L,a,hm,ha,x3⟩:=Zk3 (R:=Eq) hwat (fun x=> rfl) wp wq (fun a ha b hb e u v h1 h2=> (hw a ha b hb _ (ZeQ (Zf4 ht.2).2.1 _)).2 u v h1 h2) x1 x2
   obtain ⟨M,b,hn,hb,y3⟩:=Zk3 (R:=Eqv) hkat (fun x=> rfl) ap aq (fun a ha b hb e u v h1 h2=> (hk a ha b hb).bwd (Z9R (ZfS ht) _) h1 h2) y1 y2
   rw [hm,hn,if_pos (show (some L).isSome=true from rfl)]
   refine ⟨rfl,.mk 1 a b,?_,(Z2U rfl rfl).2 ⟨x3,y3⟩⟩
   rw [ZuJ,if_pos t1]
   show (wsD t.words L t.words).bind _=_
   rw [Z7y,ha]
   show (Jf false t.kids M t.kids).map _=_
   rw [Z5W,hb];try rfl
  ·cases hu
theorem Znn {p q:Edit} {d d':Int} (hp:Z0 p d=true) (hq:Z0 q d'=true) (p0:¬p.kind=0) (p1:¬p.kind=1) (q0:¬q.kind=0) (q1:¬q.kind=1) (hd:p.kind≠q.kind∨p.list≠q.list)
  {t u v:Tree} (hu:doE false p t=some u) (hv:doE false q u=some v):False:=by
 have rp:=Zp hp
 have rq:=Zp hq
 have pk:=rp.kind
 have qk:=rq.kind
 obtain ⟨_,a2,a3,_⟩:=Z4R hp hu
 obtain ⟨_,b2,b3,_⟩:=Z4R hq hv
 by_cases p2:p.kind=2
 ·have u1:=(a2 p2).1
  by_cases q2:q.kind=2
  ·have e1:=(rp.ops0 (by omega)).1
   have e2:=(rq.ops0 (by omega)).1
   rcases hd with h | h
   ·exact h (p2.trans q2.symm)
   ·exact h (e1.trans e2.symm)
  ·have e1:=(b3 (by omega)).2
   have e2:=rq.list (by omega)
   omega
 ·have u1:=(a3 (by omega)).1
  have e0:=rp.list (by omega)
  by_cases q2:q.kind=2
  ·have e1:=(b2 q2).2
   omega
  ·have e1:=(b3 (by omega)).2
   rcases hd with h | h
   ·exact h (by omega)
   ·exact h (u1.symm.trans e1)
theorem Ztf:∀ (n:Nat) (p q:Edit) (d d':Int),Zc p+Zc q≤n→Z0 p d=true→Z0 q d'=true→ZS p→ZS q→ComOk (Zb0 n p q) p q:=by
 intro n
 induction n with
 | zero=> intro p q d d' h;obtain ⟨k,o,nw,w,ks,l,os⟩:=p;simp only [Zc] at h;omega
 | succ n ih=>
  intro p q d d' hn hp hq gp gq
  have rp:=Zp hp
  have rq:=Zp hq
  have ih':∀ a b,Zc a+Zc b < Zc p+Zc q→(∃ d,Z0 a d=true)→(∃ d,Z0 b d=true)→ZS a→ZS b→ComOk (Zb0 n a b) a b:=by
   rintro a b hm ⟨d1,h1⟩ ⟨d2,h2⟩ g1 g2
   exact ih a b d1 d2 (by omega) h1 h2 g1 g2
  show ComOk (Jx (Zb0 n) p q) p q
  unfold Jx
  by_cases p0:p.kind=0
  ·rw [if_pos p0]
   exact ⟨fun {t w} _ _ hw=> ⟨t,w,ZqD p0 t,hw,rfl⟩,fun {t u v} _ hu hv=> by rw [ZqD p0] at hu;cases hu;exact ⟨rfl,v,hv,rfl⟩⟩
  rw [if_neg p0]
  by_cases q0:q.kind=0
  ·rw [if_pos q0]
   exact ⟨fun {t w} _ _ hw=> ⟨w,w,hw,ZqD q0 w,rfl⟩,fun {t u v} _ hu hv=> by rw [ZqD q0] at hv;cases hv;exact ⟨rfl,u,hu,rfl⟩⟩
  rw [if_neg q0]
  by_cases p1:p.kind=1
  ·rw [if_pos p1]
   refine ⟨fun {t w} _ hc hw=> ?_,fun {t u v} _ hu hv=> ?_⟩
   ·rw [Zlo] at hw
    split at hw
    ·rename_i hs
     cases hv:doE false q p.new with
     | none=> rw [ZhX hv] at hc;cases hc
     | some v=>
      rw [Z93 hv] at hw
      cases hw
      exact ⟨p.new,v,by rw [Znh p1,if_pos hs],hv,Zd1 v⟩
    ·cases hw
   ·rw [Znh p1] at hu
    split at hu
    ·rename_i hs
     cases hu
     rw [Z93 hv]
     refine ⟨rfl,Z7 v,?_,Zd1 v⟩
     rw [Zlo,if_pos hs]
    ·cases hu
  rw [if_neg p1]
  by_cases q1:q.kind=1
  ·rw [if_pos q1]
   have ho:RT_ q.old:=⟨⟨_,(rq.rep q1).1⟩,(Yg gq).1⟩
   refine ⟨fun {t w} ht hc hw=> ?_,fun {t u v} ht hu hv=> ?_⟩
   ·rw [Zlo] at hw
    split at hw
    ·rename_i hs
     cases hw
     cases hz:doE false (ZR (Zv p)) q.old with
     | none=> rw [ZhX hz] at hc;cases hc
     | some z=>
      rw [Z93 hz,Jd,J0] at hs
      obtain ⟨y,hy,hyl⟩:=Zgy hp gp ho hz hs
      refine ⟨y,q.new,hy,?_,rfl⟩
      rw [Znh q1,if_pos]
      rw [Jd]
      exact hyl.symm
    ·cases hw
   ·rw [Znh q1] at hv
    split at hv
    ·rename_i hs
     cases hv
     rw [Jd] at hs
     obtain ⟨z,hz,hzx⟩:=Zgx hp gp ht ho hu hs.symm
     rw [Z93 hz]
     refine ⟨rfl,q.new,?_,rfl⟩
     rw [Zlo,if_pos]
     rw [Jd,J0]
     exact hzx
    ·cases hv
  rw [if_neg q1]
  have pk:=rp.kind
  have qk:=rq.kind
  by_cases hd:p.kind≠q.kind∨p.list≠q.list
  ·rw [if_pos hd]
   exact ⟨fun {t w} _ hc _=> (by cases hc),fun {t u v} _ hu hv=> (Znn hp hq p0 p1 q0 q1 hd hu hv).elim⟩
  rw [if_neg hd]
  by_cases p2:p.kind=2
  ·rw [if_pos p2]
   exact Zjr hp hq gp gq p2 (by omega) ih'
  ·rw [if_neg p2]
   exact ZqH hp hq gp gq (by omega) (by omega) (by omega) ih'
theorem Zwf{p q:Edit}{d d':Int}(hp:Z0 p d=true)(hq:Z0 q d'=true)(gp:ZS p)(gq:ZS q):ComOk (Y5 p q) p q:=Ztf _ p q d d' (Nat.le_refl _) hp hq gp gq
end Go.AM.Ytpjenobkibfpcaa
namespace Go.AM.Ytpjenobkibfpcaa
open Go.AM Go.Proofs
structure Alike (c r:Edit × Bool):Prop where
 ok:c.2=r.2
 nrm:c.2=true→ZR c.1=ZR r.1
end Go.AM.Ytpjenobkibfpcaa
namespace Go.AM.Ytpjenobkibfpcaa
open Go.AM Go.Proofs
section
variable {g:Edit→Edit→Edit × Bool}
end
theorem Zvh(l:Int)(os:List Op):ZR (.mk 3 Tree.nil Tree.nil [] [] l os)= .mk 3 Tree.nil Tree.nil [] [] l (Z3 (YL l os ⟨[],[],[]⟩)).out:=by rw [ZR,if_neg (by decide),if_neg (by decide),if_pos rfl]
end Go.AM.Ytpjenobkibfpcaa
