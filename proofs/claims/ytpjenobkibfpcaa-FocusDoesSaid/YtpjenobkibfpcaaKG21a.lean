import Derived.Test.YtpjenobkibfpcaaKL21n
import Derived.Test.YtpjenobkibfpcaaKD22
import Derived.Test.YtpjenobkibfpcaaKRB07
set_option linter.unusedSimpArgs false
set_option linter.unusedVariables false
namespace Go.AM.Ytpjenobkibfpcaa
open Go.AM Go.Proofs
theorem Z7L:∀ {ks:List Kid} {k:Kid},k∈ks→Ze k.e≤ZK ks
 | ⟨_,_⟩ ::r,k,h=> by
  rcases List.mem_cons.1 h with rfl | h
  ·simp only [ZK,Js];omega
  ·have:=Z7L h;simp only [ZK];omega
theorem Z7K:∀ {os:List Op} {o:Op},o∈os→ZW o≤Zf os
 | a ::r,o,h=> by
  rcases List.mem_cons.1 h with rfl | h
  ·simp only [Zf];omega
  ·have:=Z7K h;simp only [Zf];omega
theorem Zih(o:Op):Ze o.e≤ZW o:=by obtain ⟨k,n,l,e⟩:=o;simp only [ZW];omega
theorem Z6Y{e:Edit}{k:Kid}(h:k∈e.kids):Ze k.e < Ze e:=by
 obtain ⟨kk,o,n,w,ks,l,os⟩:=e
 have:=Z7L (ks:=ks) h
 simp only [Ze];omega
theorem Z9I{e:Edit}{o:Op}(h:o∈e.ops):Ze o.e < Ze e:=by
 obtain ⟨kk,ol,n,w,ks,l,os⟩:=e
 have:=Z7K (os:=os) h
 have:=Zih o
 simp only [Ze];omega
mutual
theorem Jk:∀ (t:Tree) (d m:Int),m < 0→Z9 t d=true→Z9 t m=true
 | .mk k w ks,d,m,hm,h=> by
  rw [Z9] at h ⊢
  by_cases h0:k=0
  ·rw [if_pos h0] at h ⊢;exact h
  ·rw [if_neg h0] at h ⊢
   by_cases h1:k=10
   ·rw [if_pos h1] at h ⊢;exact h
   ·rw [if_neg h1] at h ⊢
    by_cases h2:d=0
    ·rw [if_pos h2] at h;cases h
    ·rw [if_neg h2] at h
     rw [if_neg (by omega)]
     by_cases h3:k=1
     ·rw [if_pos h3,Bool.and_eq_true] at h ⊢
      exact ⟨h.1,Z4H 1 ks (d - 1) (m - 1) (by omega) h.2⟩
     ·rw [if_neg h3,Bool.and_eq_true] at h ⊢
      exact ⟨h.1,Z4H k ks (d - 1) (m - 1) (by omega) h.2⟩
theorem Z4H(list:Int):∀ (ks:List Tree) (d m:Int),m < 0→ZM list ks d=true→ZM list ks m=true
 | [],_,_,_,_=> rfl
 | t ::r,d,m,hm,h=> by
  simp only [ZM,Bool.and_eq_true] at h ⊢
  exact ⟨⟨h.1.1,Jk t d m hm h.1.2⟩,Z4H list r d m hm h.2⟩
end
theorem RT_.neg{t:Tree}(h:RT_ t):Z9 t (-1)=true:=by
 obtain ⟨⟨d,h⟩,_⟩:=h
 exact Jk t d (-1) (by decide) h
theorem Z10{list d:Int}:∀ {ks:List Tree},ZM list ks d=true↔∀ t∈ks,Jh list t=true∧Z9 t d=true
 | []=> by simp [ZM]
 | t ::r=> by
  simp only [ZM,Bool.and_eq_true,Z10 (ks:=r),List.mem_cons,forall_eq_or_imp]
theorem Z38{t:Tree}(h:Z9 t (-1)=true):t.kind≠0→t.kind≠10→
  (t.kind=1→t.words.length < 65536∧t.kids.length < 65536)∧(t.kind≠1→(2≤t.kind∧t.kind≤9)∧t.words=[]∧t.kids.length < 1048576)∧∀ k∈t.kids,Jh t.kind k=true∧Z9 k (-1)=true:=by
 obtain ⟨k,w,ks⟩:=t
 intro h0 h1
 have h0:k≠0:=h0
 have h1:k≠10:=h1
 rw [Z9,if_neg h0,if_neg h1,if_neg (by decide)] at h
 by_cases h3:k=1
 ·rw [if_pos h3,Bool.and_eq_true,decide_eq_true_eq,Z10] at h
  subst h3
  exact ⟨fun _=> h.1,fun e=> absurd rfl e,fun x hx=> ⟨(h.2 x hx).1,Jk _ _ _ (by decide) (h.2 x hx).2⟩⟩
 ·rw [if_neg h3,Bool.and_eq_true,decide_eq_true_eq,Z10] at h
  exact ⟨fun e=> absurd e h3,fun _=> ⟨⟨h.1.1,h.1.2.1⟩,List.eq_nil_of_length_eq_zero h.1.2.2.1,h.1.2.2.2⟩,fun x hx=> ⟨(h.2 x hx).1,Jk _ _ _ (by decide) (h.2 x hx).2⟩⟩
theorem Zbq{w:List Int}{ks:List Tree}(h1:w.length < 65536)(h2:ks.length < 65536)(h:∀ k∈ks,Jh 1 k=true∧Z9 k (-1)=true):Z9 (.mk 1 w ks) (-1)=true:=by
 rw [Z9,if_neg (by decide),if_neg (by decide),if_neg (by decide),if_pos rfl,Bool.and_eq_true,decide_eq_true_eq,Z10]
 exact ⟨⟨h1,h2⟩,fun x hx=> ⟨(h x hx).1,Jk _ _ _ (by decide) (h x hx).2⟩⟩
theorem Zeo{l:Int}{ks:List Tree}(hl:2≤l∧l≤9)(h2:ks.length < 1048576)(h:∀ k∈ks,Jh l k=true∧Z9 k (-1)=true):Z9 (.mk l [] ks) (-1)=true:=by
 rw [Z9,if_neg (by omega),if_neg (by omega),if_neg (by decide),if_neg (by omega),Bool.and_eq_true,decide_eq_true_eq,Z10]
 exact ⟨⟨hl.1,hl.2,rfl,h2⟩,fun x hx=> ⟨(h x hx).1,Jk _ _ _ (by decide) (h x hx).2⟩⟩
theorem Z7i{D list:Int}:∀ {l:List Tree},Yo D list l=true→∀ t∈l,Z9 (.mk list [] [t]) D=true
 | a ::r,h,t,ht=> by
  simp only [Yo,Bool.and_eq_true] at h
  rcases List.mem_cons.1 ht with rfl | ht
  ·exact h.1
  ·exact Z7i h.2 t ht
theorem Zae{D list:Int}(hl:2≤list∧list≤9){l:List Tree}(h:Yo D list l=true):∀ t∈l,Jh list t=true∧Z9 t (-1)=true:=by
 intro t ht
 have:=Z38 (Jk _ _ (-1) (by decide) (Z7i h t ht)) (by show list≠0;omega) (by show list≠10;omega)
 exact this.2.2 t (by simp)
inductive Run:List Op→List Tree→List Tree→Prop
 | nil:Run [] [] []
 | keep {o r a s d}:o.kind=0→(a.length:Int)=o.n→Run r s d→Run (o ::r) (a++s) (a++d)
 | gone {o r a s d}:o.kind=1→Z8 o.l=Z8 a→Run r s d→Run (o ::r) (a++s) d
 | come {o r s d}:o.kind=2→Run r s d→Run (o ::r) s (o.l++d)
 | into {o r x y s d}:o.kind=3→doE false o.e x=some y→Run r s d→Run (o ::r) (x ::s) (y ::d)
def kOk(o:Op):Prop:=(o.kind=0∧0≤o.n)∨o.kind=1∨o.kind=2∨o.kind=3
theorem Zpu:∀ {os:List Op} {s d:List Tree},Run os s d→∀ out,ZE false os s out=some (out++d,[]):=by
 intro os s d h
 induction h with
 | nil=> intro out;simp [ZE]
 | keep h0 hn hr0 ih=>
  rename_i o r a s d
  intro out
  rw [ZE,Y6,if_pos h0,if_pos (by rw [List.length_append];omega),show o.n.toNat=a.length by omega]
  simp only [Option.bind_some,List.take_left,List.drop_left]
  rw [ih,List.append_assoc]
 | gone h1 hn hr0 ih=>
  rename_i o r a s d
  intro out
  have hl:=Z6O hn
  rw [ZE,Y6,if_neg (by omega),if_pos h1,if_pos]
  ·simp only [Option.bind_some]
   rw [hl,List.drop_left,ih]
  ·rw [Z2e,hl,List.take_left]
   exact ⟨by simp,hn⟩
 | come h2 hr0 ih=>
  intro out
  rw [ZE,Y6,if_neg (by omega),if_neg (by omega),if_pos h2]
  simp only [Option.bind_some]
  rw [ih,List.append_assoc]
 | into h3 he hr0 ih=>
  intro out
  rw [ZE,Y6,if_neg (by omega),if_neg (by omega),if_neg (by omega),if_neg (by simp)]
  simp only [List.getD_cons_zero,he,Option.map_some,Option.bind_some,List.drop_succ_cons,List.drop_zero]
  rw [ih,List.append_assoc]
  try rfl
theorem Z9X:∀ {os:List Op} {s out:List Tree} {x:List Tree × List Tree},(∀ o∈os,kOk o)→ZE false os s out=some x→x.2=[]→∃ d,x.1=out++d∧Run os s d
 | [],s,out,x,_,h,hx=> by
  rw [ZE] at h
  cases h
  have hx:s=[]:=hx
  subst hx
  exact ⟨[],by simp,.nil⟩
 | o ::r,s,out,x,hk,h,hx=> by
  rw [ZE,Y6] at h
  have hr:∀ o∈r,kOk o:=fun o ho=> hk o (List.mem_cons_of_mem _ ho)
  rcases hk o List.mem_cons_self with h0 | h1 | h2 | h3
  ·rw [if_pos h0.1] at h
   split at h
   ·rename_i hl
    simp only [Option.bind_some] at h
    obtain ⟨d,e,hd⟩:=Z9X hr h hx
    refine ⟨s.take o.n.toNat++d,by rw [e,List.append_assoc],?_⟩
    have:=Run.keep (a:=s.take o.n.toNat) h0.1 (by rw [List.length_take];omega) hd
    rwa [List.take_append_drop] at this
   ·cases h
  ·rw [if_neg (by omega),if_pos h1] at h
   split at h
   ·rename_i hg
    obtain ⟨g1,g2⟩:=(Z2e _ _).1 hg
    simp only [Option.bind_some] at h
    obtain ⟨d,e,hd⟩:=Z9X hr h hx
    refine ⟨d,e,?_⟩
    have:=Run.gone (a:=s.take o.l.length) h1 g2 hd
    rwa [List.take_append_drop] at this
   ·cases h
  ·rw [if_neg (by omega),if_neg (by omega),if_pos h2] at h
   simp only [Option.bind_some] at h
   obtain ⟨d,e,hd⟩:=Z9X hr h hx
   exact ⟨o.l++d,by rw [e,List.append_assoc],.come h2 hd⟩
  ·rw [if_neg (by omega),if_neg (by omega),if_neg (by omega)] at h
   split at h
   ·cases h
   ·rename_i hl
    obtain ⟨y,hy,h⟩:=Option.bind_eq_some_iff.1 h
    obtain ⟨z,hz,rfl⟩:=Option.map_eq_some_iff.1 hy
    obtain ⟨d,e,hd⟩:=Z9X hr h hx
    cases s with
    | nil=> simp at hl
    | cons x0 s=>
     refine ⟨z ::d,by rw [e];simp,.into h3 (by simpa using hz) (by simpa using hd)⟩
theorem ZgF{os:List Op}{s d:List Tree}(hk:∀ o∈os,kOk o):Z2J (ZE false os s [])=some d↔Run os s d:=by
 constructor
 ·intro h
  unfold Z2J at h
  obtain ⟨x,hx,h⟩:=Option.bind_eq_some_iff.1 h
  split at h
  ·rename_i hl
   cases h
   obtain ⟨d,e,hd⟩:=Z9X hk hx (List.eq_nil_of_length_eq_zero hl)
   rw [e];exact hd
  ·cases h
 ·intro h
  have:=Zpu h []
  unfold Z2J
  rw [this]
  simp
theorem Zb0{list d:Int}{o:Op}(h:Zd list o d=true):kOk o:=by
 have:=Y2 h
 cases this with
 | keep n h1=> exact .inl ⟨rfl,by show 0≤n;omega⟩
 | gone=> exact .inr (.inl rfl)
 | come=> exact .inr (.inr (.inl rfl))
 | into=> exact .inr (.inr (.inr rfl))
theorem ZmP:∀ {os:List Op} {s d:List Tree},Run os s d→(∀ o∈os,Z4i o)→(s.length:Int)=Yz os∧(d.length:Int)=YH os:=by
 intro os s d h
 induction h with
 | nil=> intro _;simp [Yz,YH]
 | keep h0 hn hr0 ih=>
  rename_i o r a s d
  intro hk
  obtain ⟨i1,i2⟩:=ih fun o ho=> hk o (List.mem_cons_of_mem _ ho)
  have ho:=hk o List.mem_cons_self
  have hl:Zn o=o.n:=by
   rcases ho with h | h | h
   ·unfold Zn;rw [if_neg (by omega),h.2.1];simp
   ·omega
   ·omega
  simp only [Yz,YH,List.length_append]
  rw [if_neg (by omega),if_neg (by omega),hl]
  omega
 | gone h1 hn hr0 ih=>
  rename_i o r a s d
  intro hk
  obtain ⟨i1,i2⟩:=ih fun o ho=> hk o (List.mem_cons_of_mem _ ho)
  have ho:=hk o List.mem_cons_self
  have hl:Zn o=a.length:=by
   have:=Z6O hn
   rcases ho with h | h | h
   ·omega
   ·unfold Zn;rw [if_neg (by omega),h.2.1];omega
   ·omega
  simp only [Yz,YH,List.length_append]
  rw [if_neg (by omega),if_pos h1,hl]
  omega
 | come h2 hr0 ih=>
  rename_i o r s d
  intro hk
  obtain ⟨i1,i2⟩:=ih fun o ho=> hk o (List.mem_cons_of_mem _ ho)
  have ho:=hk o List.mem_cons_self
  have hl:Zn o=o.l.length:=by
   rcases ho with h | h | h
   ·omega
   ·unfold Zn;rw [if_neg (by omega),h.2.1];omega
   ·omega
  simp only [Yz,YH,List.length_append]
  rw [if_pos h2,if_neg (by omega),hl]
  omega
 | into h3 he hr0 ih=>
  rename_i o r x y s d
  intro hk
  obtain ⟨i1,i2⟩:=ih fun o ho=> hk o (List.mem_cons_of_mem _ ho)
  have hl:Zn o=1:=by unfold Zn;rw [if_pos h3]
  simp only [Yz,YH,List.length_cons]
  rw [if_neg (by omega),if_neg (by omega),hl]
  omega
end Go.AM.Ytpjenobkibfpcaa
namespace Go.AM.Ytpjenobkibfpcaa
open Go.AM Go.Proofs
theorem ZdT{r:Bool}{tk:List Tree}:∀ {ks:List Kid} {out b:List Tree},YZ r tk ks out=some b→(∀ k∈ks,k.at_≤65534)→
  b.length≤max out.length 65535∧∀ y∈b,y∈out∨y=Tree.nil∨∃ k∈ks,doE r k.e (tk.getD k.at_.toNat Tree.nil)=some y
 | [],out,b,h,_=> by
  rw [YZ] at h
  cases h
  exact ⟨by omega,fun y hy=> .inl hy⟩
 | k ::s,out,b,h,ha=> by
  rw [YZ,Z6k] at h
  obtain ⟨v,hv,hb⟩:=Option.bind_eq_some_iff.1 h
  obtain ⟨i1,i2⟩:=ZdT hb fun x hx=> ha x (List.mem_cons_of_mem _ hx)
  have:=ha k List.mem_cons_self
  rw [Z4n] at i1
  refine ⟨by omega,fun y hy=> ?_⟩
  rcases i2 y hy with h1 | h1 | ⟨q,hq,h1⟩
  ·rcases Z4B h1 with h1 | h1 | h1
   ·exact .inl h1
   ·exact .inr (.inl h1)
   ·subst h1
    exact .inr (.inr ⟨k,List.mem_cons_self,hv⟩)
  ·exact .inr (.inl h1)
  ·exact .inr (.inr ⟨q,List.mem_cons_of_mem _ hq,h1⟩)
theorem ZmO:∀ {os:List Op} {s d:List Tree},Run os s d→∀ y∈d,y∈s∨(∃ o∈os,o.kind=2∧y∈o.l)∨∃ o∈os,o.kind=3∧∃ x∈s,doE false o.e x=some y:=by
 intro os s d h
 induction h with
 | nil=> intro y hy;cases hy
 | keep h0 hn hr0 ih=>
  intro y hy
  rcases List.mem_append.1 hy with hy | hy
  ·exact .inl (List.mem_append_left _ hy)
  ·rcases ih y hy with h | ⟨o,ho,h⟩ | ⟨o,ho,hk,x,hx,h⟩
   ·exact .inl (List.mem_append_right _ h)
   ·exact .inr (.inl ⟨o,List.mem_cons_of_mem _ ho,h⟩)
   ·exact .inr (.inr ⟨o,List.mem_cons_of_mem _ ho,hk,x,List.mem_append_right _ hx,h⟩)
 | gone h1 hn hr0 ih=>
  intro y hy
  rcases ih y hy with h | ⟨o,ho,h⟩ | ⟨o,ho,hk,x,hx,h⟩
  ·exact .inl (List.mem_append_right _ h)
  ·exact .inr (.inl ⟨o,List.mem_cons_of_mem _ ho,h⟩)
  ·exact .inr (.inr ⟨o,List.mem_cons_of_mem _ ho,hk,x,List.mem_append_right _ hx,h⟩)
 | come h2 hr0 ih=>
  intro y hy
  rcases List.mem_append.1 hy with hy | hy
  ·exact .inr (.inl ⟨_,List.mem_cons_self,h2,hy⟩)
  ·rcases ih y hy with h | ⟨o,ho,h⟩ | ⟨o,ho,hk,x,hx,h⟩
   ·exact .inl h
   ·exact .inr (.inl ⟨o,List.mem_cons_of_mem _ ho,h⟩)
   ·exact .inr (.inr ⟨o,List.mem_cons_of_mem _ ho,hk,x,hx,h⟩)
 | into h3 he hr0 ih=>
  intro y hy
  rcases List.mem_cons.1 hy with rfl | hy
  ·exact .inr (.inr ⟨_,List.mem_cons_self,h3,_,List.mem_cons_self,he⟩)
  ·rcases ih y hy with h | ⟨o,ho,h⟩ | ⟨o,ho,hk,x,hx,h⟩
   ·exact .inl (List.mem_cons_of_mem _ h)
   ·exact .inr (.inl ⟨o,List.mem_cons_of_mem _ ho,h⟩)
   ·exact .inr (.inr ⟨o,List.mem_cons_of_mem _ ho,hk,x,List.mem_cons_of_mem _ hx,h⟩)
theorem ZqE{y:Tree}(h:y.kind≠10):Jh 1 y=true:=by
 unfold Jh
 rw [if_neg (by decide),if_neg (by decide)]
 exact decide_eq_true h
theorem Z4W{list d:Int}{os:List Op}(h:Zx list os d=true):∀ o∈os,Z4i o:=fun o ho=> Zer (rightOs_mem h ho)
theorem Z5v{o:Op}(h:Z4i o):0≤Zn o:=by have:=Z6K h;omega
theorem Zh0{e:Edit}{d:Int}{t u:Tree}(hr:Z3 e d=true)(h:doE false e t=some u):(e.kind=1→u=e.new)∧(e.kind=2→u.kind=1∧t.kind=1)∧(e.kind=3→u.kind=e.list∧t.kind=e.list)∧(e.kind=0→u=t):=by
 rw [JB,Ye] at h
 refine ⟨fun hk=> ?_,fun hk=> ?_,fun hk=> ?_,fun hk=> ?_⟩
 ·rw [if_neg (by omega),if_pos hk] at h
  split at h
  ·exact (Option.some.inj h).symm
  ·cases h
 ·rw [if_neg (by omega),if_neg (by omega),if_pos hk] at h
  split at h
  ·rename_i ht
   obtain ⟨a,ha,h⟩:=Option.bind_eq_some_iff.1 h
   obtain ⟨b,hb,rfl⟩:=Option.map_eq_some_iff.1 h
   exact ⟨rfl,ht⟩
  ·cases h
 ·rw [if_neg (by omega),if_neg (by omega),if_neg (by omega),if_pos hk] at h
  split at h
  ·rename_i ht
   obtain ⟨b,hb,rfl⟩:=Option.map_eq_some_iff.1 h
   exact ⟨rfl,ht⟩
  ·cases h
 ·rw [if_pos hk] at h
  exact (Option.some.inj h).symm
theorem ZiA:∀ (n:Nat) (e:Edit) (d:Int) (t u:Tree),Ze e≤n→Z3 e d=true→Z9 t (-1)=true→doE false e t=some u→Z9 u (-1)=true∧(e.kind≠0→u.kind≠10):=by
 intro n
 induction n with
 | zero=> intro e d t u hm;obtain ⟨k,o,nw,w,ks,l,os⟩:=e;simp only [Ze] at hm;omega
 | succ n ih=>
  intro e d t u hm hr ht h
  have R:=Yf hr
  obtain ⟨k1,k2,k3,k0⟩:=Zh0 hr h
  have hk:=R.kind
  by_cases h0:e.kind=0
  ·rw [k0 h0];exact ⟨ht,fun q=> absurd h0 q⟩
  by_cases h1:e.kind=1
  ·rw [k1 h1]
   obtain ⟨r1,r2,r3,r4⟩:=R.rep h1
   exact ⟨Jk _ _ _ (by decide) r2,fun _=> r4⟩
  by_cases h2:e.kind=2
  ·obtain ⟨u1,t1⟩:=k2 h2
   refine ⟨?_,fun _=> by omega⟩
   rw [JB,Ye,if_neg h0,if_neg h1,if_pos h2,if_pos t1] at h
   obtain ⟨a,ha,h⟩:=Option.bind_eq_some_iff.1 h
   obtain ⟨b,hb,rfl⟩:=Option.map_eq_some_iff.1 h
   obtain ⟨p1,_,p3⟩:=Z38 ht (by omega) (by omega)
   have p1:=p1 t1
   rw [t1] at p3
   have hl:=Zbf R.words ha
   have ha':=YN R.kids
   obtain ⟨m1,m2⟩:=ZdT hb fun k hk=> (ha' k hk).1.2.1
   refine Zbq (by omega) (by omega) fun y hy=> ?_
   rcases m2 y hy with h | rfl | ⟨k,hk,h⟩
   ·exact p3 y h
   ·exact ⟨rfl,rfl⟩
   ·have hx:Z9 (t.kids.getD k.at_.toNat Tree.nil) (-1)=true:=by
     by_cases hi:k.at_.toNat < t.kids.length
     ·rw [List.getD_eq_getElem?_getD,List.getElem?_eq_getElem hi]
      exact (p3 _ (List.getElem_mem hi)).2
     ·rw [List.getD_eq_getElem?_getD,List.getElem?_eq_none (by omega)];try rfl
    obtain ⟨g1,g2⟩:=ih k.e _ _ y (by have:=Z6Y hk;omega) (ha' k hk).2 hx h
    exact ⟨ZqE (g2 (ha' k hk).1.2.2),g1⟩
  ·have h3:e.kind=3:=by omega
   obtain ⟨u1,t1⟩:=k3 h3
   have hli:=R.list h3
   refine ⟨?_,fun _=> by omega⟩
   rw [JB,Ye,if_neg h0,if_neg h1,if_neg h2,if_pos h3,if_pos t1] at h
   obtain ⟨b,hb,rfl⟩:=Option.map_eq_some_iff.1 h
   have ho:∀ o∈e.ops,Zd e.list o (d - 1)=true:=fun o h=> rightOs_mem R.ops h
   have hrun:=(ZgF (fun o h=> Zb0 (ho o h))).1 hb
   obtain ⟨_,q2⟩:=ZmP hrun (Z4W R.ops)
   obtain ⟨q3,q4⟩:=Z3r e.ops 0 (fun o h=> Z5v (Z4W R.ops o h)) (by decide) (by decide)
   have q5:=R.len.2
   obtain ⟨_,_,p3⟩:=Z38 ht (by omega) (by omega)
   rw [t1] at p3
   refine Zeo hli (by omega) fun y hy=> ?_
   rcases ZmO hrun y hy with h | ⟨o,hoo,hk2,hyl⟩ | ⟨o,hoo,hk3,x,hx,h⟩
   ·exact p3 y h
   ·have:=Y2 (ho o hoo)
    cases this with
    | come l h1 h2=> exact Zae hli h1 y hyl
    | keep | gone | into=> exact absurd hk2 (by simp)
   ·have:=Y2 (ho o hoo)
    cases this with
    | into e' g1 g2 g3 g4=>
     obtain ⟨f1,f2⟩:=ih e' _ x y (by have:=Z9I hoo;dsimp only at this;omega) g1 (p3 x hx).2 h
     refine ⟨?_,f1⟩
     obtain ⟨j1,j2,_,_⟩:=Zh0 g1 h
     unfold Jh
     rw [if_neg (by omega)]
     by_cases hl9:e.list=9
     ·rw [if_pos hl9]
      refine decide_eq_true ?_
      rcases g4 with q | q | q
      ·omega
      ·exact (j2 q).1
      ·rw [j1 q.1];exact q.2.2
     ·rw [if_neg hl9]
      exact decide_eq_true (f2 g2)
    | keep | gone | come=> exact absurd hk3 (by simp)
theorem ZdR{e:Edit}{d:Int}{t u:Tree}(hr:Z3 e d=true)(ht:RT_ t)(he:ZL e)(h:doE false e t=some u):RT_ u:=
 ⟨⟨-1,(ZiA _ e d t u (Nat.le_refl _) hr ht.neg h).1⟩,Zem false e t u he ht.2 h⟩
end Go.AM.Ytpjenobkibfpcaa
namespace Go.AM.Ytpjenobkibfpcaa
open Go.AM Go.Proofs
theorem ZmW{o:Op}(h:Z4i o)(h0:o.kind=0):Zn o=o.n:=by
 rcases h with h | h | h
 ·unfold Zn;rw [if_neg (by omega),h.2.1];simp
 ·omega
 ·omega
theorem Zdc{o:Op}(h:Z4i o)(h0:o.kind=1∨o.kind=2):Zn o=o.l.length:=by
 rcases h with h | h | h
 ·omega
 ·unfold Zn;rw [if_neg (by omega),h.2.1];omega
 ·omega
theorem ZmV{o:Op}(h0:o.kind=3):Zn o=1:=by unfold Zn;rw [if_pos h0]
end Go.AM.Ytpjenobkibfpcaa
namespace Go.AM.Ytpjenobkibfpcaa
open Go.AM Go.Proofs
theorem Z4J{e:Edit}{d:Int}(h:Z3 e d=true):∀ o∈e.ops,Z4i o:=Z4W (Yf h).ops
end Go.AM.Ytpjenobkibfpcaa
namespace Go.AM.Ytpjenobkibfpcaa
open Go.AM Go.Proofs
theorem ZdO(t:Tree):Eqv (Z5 t) t:=Z1d t
theorem ZsX{e:Edit}(h:e.kind=0)(t:Tree):doE false e t=some t:=by rw [JB,Ye,if_pos h]
theorem Zub{e:Edit}(h:e.kind=2)(t:Tree):doE false e t=if t.kind=1 then (wsD t.words e.words t.words).bind fun a=> (YZ false t.kids e.kids t.kids).map fun b=> .mk 1 a b else none:=by
 rw [JB,Ye,if_neg (by omega),if_neg (by omega),if_pos h]
theorem Zua{e:Edit}(h:e.kind=3)(t:Tree):doE false e t=if t.kind=e.list then (Z2J (ZE false e.ops t.kids [])).map fun b=> .mk e.list [] b else none:=by
 rw [JB,Ye,if_neg (by omega),if_neg (by omega),if_neg (by omega),if_pos h]
end Go.AM.Ytpjenobkibfpcaa
namespace Go.AM.Ytpjenobkibfpcaa
open Go.AM Go.Proofs
structure Alike (c r:Edit × Bool):Prop where
 ok:c.2=r.2
 nrm:c.2=true→Yb c.1=Yb r.1
end Go.AM.Ytpjenobkibfpcaa
namespace Go.AM.Ytpjenobkibfpcaa
open Go.AM Go.Proofs
def φA(o:Op):Int:=if o.kind=2 then 0 else Zn o
def φB(o:Op):Int:=if o.kind=1 then 0 else Zn o
def φC(o:Op):Int:=Za o.l+ctE o.e - 18
end Go.AM.Ytpjenobkibfpcaa
namespace Go.AM.Ytpjenobkibfpcaa
open Go.AM Go.Proofs
structure Wk (e:Edit):Prop where
 r:Z3 e (-1)=true
 g:ZL e
end Go.AM.Ytpjenobkibfpcaa
namespace Go.AM.Ytpjenobkibfpcaa
open Go.AM Go.Proofs
theorem Z50:Ze Edit.nil=3:=rfl
theorem Zgt(e:Edit):3≤Ze e:=by
 obtain ⟨k,o,n,w,ks,l,os⟩:=e
 have:=Z1g o
 have:=Z1g n
 simp only [Ze];omega
end Go.AM.Ytpjenobkibfpcaa
namespace Go.AM.Ytpjenobkibfpcaa
open Go.AM Go.Proofs
mutual
def utE:Edit→Nat
 | .mk _ o n w ks _ os=> 16+Zg o+Zg n+65600*w.length+Zjr ks+ZhI os
def Zjr:List (KidOf Edit)→Nat
 | []=> 0
 | k ::r=> ZoH k+Zjr r
def ZoH:KidOf Edit→Nat
 | ⟨_,e⟩=> 65600+utE e
def ZhI:List (OpOf Edit)→Nat
 | []=> 0
 | o ::r=> ZmL o+ZhI r
def ZmL:OpOf Edit→Nat
 | ⟨k,n,l,e⟩=> if k=3 then 16+utE e else 34*(n.toNat+l.length)+Za l
end
theorem Zpr(e:Edit):utE e=16+Zg e.old+Zg e.new+65600*e.words.length+Zjr e.kids+ZhI e.ops:=by cases e;rfl
theorem Zjs(k:Kid):ZoH k=65600+utE k.e:=by cases k;rfl
theorem ZmK(o:Op):ZmL o=if o.kind=3 then 16+utE o.e else 34*(o.n.toNat+o.l.length)+Za o.l:=by cases o;rfl
theorem Zjq:∀ (n:Nat) (e:Edit),Ze e≤n→(∃ d,Z3 e d=true)→Jv e=true→utE e+131100≤65600*Ze e+150000*Ze e:=by
 intro n
 induction n with
 | zero=> intro e h;have:=Zgt e;omega
 | succ n ih=>
  intro e hn ⟨d,hr⟩ hl
  have R:=Yf hr
  have hm:=Zgt e
  have me:Ze e=1+Zg e.old+Zg e.new+e.words.length+e.ops.length+ZK e.kids+Zf e.ops:=by cases e;rfl
  have mo:=Z1g e.old
  have mn:=Z1g e.new
  rw [ZaY,Bool.and_eq_true,Bool.and_eq_true,decide_eq_true_eq] at hl
  obtain ⟨⟨l1,l2⟩,l3⟩:=hl
  have hk:∀ l:List Kid,(∀ k∈l,k∈e.kids)→Z0x l=true→Zjr l≤215600*ZK l:=by
   intro l
   induction l with
   | nil=> intro _ _;exact Nat.le_refl _
   | cons a r ihl=>
    intro h hl
    simp only [Z0x,Bool.and_eq_true,Z7Q] at hl
    have ha:=h a List.mem_cons_self
    have:=Z6Y ha
    have:=ih a.e (by omega) ⟨_,(YN R.kids a ha).2⟩ hl.1
    have:=ihl (fun k hk=> h k (List.mem_cons_of_mem _ hk)) hl.2
    simp only [Zjr,ZK,Zjs,Z6U];omega
  have ook:=Z4J hr
  have ho:∀ l:List Op,(∀ o∈l,o∈e.ops)→Z1D l=true→(ZhI l:Int)≤215600*Zf l+34*Z1Q l+16*l.length:=by
   intro l
   induction l with
   | nil=> intro _ _;simp [ZhI,Zf,Z1Q]
   | cons a r ihl=>
    intro h hl
    simp only [Z1D,Bool.and_eq_true,Z9N] at hl
    have ha:=h a List.mem_cons_self
    have:=ihl (fun k hk=> h k (List.mem_cons_of_mem _ hk)) hl.2
    have hr:=rightOs_mem R.ops ha
    have key:(ZmL a:Int)≤215600*ZW a+34*Zn a+16:=by
     have me:=Z9I ha
     have ml:=Zr a.l
     rw [ZmK,YC]
     have rt:=Y2 hr
     have hp:=Z5w a
     cases rt with
     | keep n h1 h2=> rw [if_neg (show ¬(0:Int)=3 by decide)];rw [if_neg (show ¬(0:Int)=3 by decide)] at hp;simp only [Za,List.length_nil,Z50] at*;omega
     | gone l h1 h2=> rw [if_neg (show ¬(1:Int)=3 by decide)];rw [if_neg (show ¬(1:Int)=3 by decide)] at hp;dsimp only at*;simp only [Z50] at*;omega
     | come l h1 h2=> rw [if_neg (show ¬(2:Int)=3 by decide)];rw [if_neg (show ¬(2:Int)=3 by decide)] at hp;dsimp only at*;simp only [Z50] at*;omega
     | into e' h1 h2=>
      rw [if_pos rfl] at hp ⊢
      have:=ih e' (by dsimp only at me;omega) ⟨_,h1⟩ hl.1
      simp only [Za];omega
    simp only [ZhI,Zf,Z1Q,List.length_cons];omega
  have h1:=hk e.kids (fun k h=> h) l2
  have h2:=ho e.ops (fun k h=> h) l3
  have h3:=kids_sum ook
  have h4:Yz e.ops≤2000∧YH e.ops≤2000:=by
   have ok:∀ o∈e.ops,0≤Zn o:=fun o ho=> Z5v (ook o ho)
   have a:=Z3s e.ops 0 ok (by decide) (by decide)
   have b:=Z3r e.ops 0 ok (by decide) (by decide)
   omega
  rw [Zpr,me]
  omega
where
 kids_sum:∀ {l:List Op},(∀ o∈l,Z4i o)→Z1Q l≤Yz l+YH l
  | [],_=> by simp [Z1Q,Yz,YH]
  | o ::r,h=> by
   have h1:=Z6K (h o List.mem_cons_self)
   have h2:=kids_sum fun x hx=> h x (List.mem_cons_of_mem _ hx)
   simp only [Z1Q,Yz,YH]
   split <;> split <;> omega
def φU(o:Op):Int:=ZmL o
end Go.AM.Ytpjenobkibfpcaa
namespace Go.AM.Ytpjenobkibfpcaa
open Go.AM Go.Proofs
def ZsG(e:Edit):Prop:=utE e≤9000000000∧ZL e∧∃ d,Z3 e d=true
end Go.AM.Ytpjenobkibfpcaa
namespace Go.AM.Ytpjenobkibfpcaa
open Go.AM Go.Proofs
noncomputable section
abbrev Zy(p:Prop):Prop:=p→p
noncomputable section
def Zhp:ArgL (Int × Unit):=(.cons (Yk .u8) .nil)
def Z9q(a:Int × Unit):Prop:=0≤a.1∧a.1 < 256
def ZjZ(a:Int × Unit):V U:= .c (.int .u64 ((JD (a.1).toNat 8:Nat):Int))
def Z5m:Fs U:=fs Zhp (fun a=> [Z9q a]) ZjZ
def ZlL:ArgL (Int × Int × Int × Unit):=(.cons (Yk .u64) (.cons (Yk .u64) (.cons (Yk .u8) .nil)))
def Z3e(a:Int × Int × Int × Unit):Prop:=(0≤a.1∧a.1 < 18446744073709551616)∧(0≤a.2.1∧a.2.1 < 18446744073709551616)∧(0≤a.2.2.1∧a.2.2.1 < 256)
def ZoO(a:Int × Int × Int × Unit):V U:= .c (.int .u64 (mix a.1 a.2.1 a.2.2.1))
def Z2m:Fs U:=fs ZlL (fun a=> [Z3e a]) ZoO
def Zhk:ArgL (Tree × Unit):=(.cons (aEl .tree) .nil)
def Z3g(a:Tree × Unit):Prop:=Zg a.1≤20000000000∧rng a.1
def ZjU(a:Tree × Unit):V U:= .c (.bool (decide (Tree.kind a.1≠10) && Z9 a.1 64))
def Z2u:Fs U:=fs Zhk (fun a=> [Z3g a]) ZjU
def Zha:ArgL (Int × Tree × Unit):=(.cons (Yk .i64) (.cons (aEl .tree) .nil))
def Z9j(a:Int × Tree × Unit):Prop:=Zg a.2.1≤18000000000∧rng a.2.1∧isI a.1
def ZjM(a:Int × Tree × Unit):V U:= .c (.bool (Z9 (Tree.mk a.1 [] [a.2.1]) 64))
def Z5d:Fs U:=fs Zha (fun a=> [Z9j a]) ZjM
def Zh9:ArgL (Int × Edit × Unit):=(.cons (Yk .i64) (.cons (aEl .edit) .nil))
def ZbH(a:Int × Edit × Unit):Prop:=True
def ZjL(a:Int × Edit × Unit):V U:= .c (.bool (Y4 a.1 a.2.1))
def Z2q:Fs U:=fs Zh9 (fun a=> [ZbH a]) ZjL
def Zhj:ArgL (List WEdit × Unit):=(.cons (aSl .wedit) .nil)
def Z6G(a:List WEdit × Unit):Prop:=(a.1).length≤20000000000∧∀ x∈a.1,ZjC x
def ZjT(a:List WEdit × Unit):V U:= .c (.bool (Zs (-1) a.1))
def Z2t:Fs U:=fs Zhj (fun a=> [Z6G a]) ZjT
def Z04:List (FuncId × Fs U):=[]
def Z5L:Zh U:=lvl [([0],[]),([0,3],[]),([0,3,5],[]),([0,3,5,6],[]),([0,3,4,5],[]),([0,3,4,5,12],[]),([0,3,5],[]),([0,3,5],[]),([2],[])]
def Jm(m x3 x5:Int):LSt U:=(L2 [(0,.c (.int .u8 m)),(3,.c (.int .u64 x3)),(5,.c (ci x5))] [])
abbrev Zth(m:Int)(Q:QT):=AW (Z0 Z04) Try.f105 Z5L [] (L2 [(0,.c (.int .u8 m))] []) Q
abbrev ZfE:=awp cfg (Z0 Z04) (ZA cfg (Z0 Z04)) Try.f105.ntmps Z5L
abbrev Zel:=Z6y cfg (Z0 Z04) (ZA cfg (Z0 Z04)) Try.f105.ntmps Z5L
theorem ZsC(m:Int)(Q:QT)(h:Zj (AW (Z0 Z04) Try.f105 Z5L [1,1,0,1,0,0]) (Jm m 0 0) (xB 0 (SW (Z0 Z04) Try.f105 Z5L [1,1,1] Q))):
  Zth m Q:=by
 have e_:(Zth m Q)=(Zj (ZfE (cd Try.f105 [1,1,0,1,0,0])) (Jm m 0 0) (xB 0 (Zel (cd Try.f105 [1,1,1]) Q))):=by kernel_rfl
 exact e_.mpr h
abbrev ZhD(m x3 x5:Int)(N0:NT)(Q:QT):=AW (Z0 Z04) Try.f105 Z5L [1,1,0,1,0,0] (Jm m x3 x5) (xT N0 (xB 0 (SW (Z0 Z04) Try.f105 Z5L [1,1,1] Q)))
theorem Zjo(m x3 x5:Int)(N0:NT)(Q:QT)(h:((decide (x5 < 8))=true→((0:Int)≤x5)∧(((((IntKind.wrap .u8 (BitVec.ofInt (IntKind.bits .u8) (Int.fdiv m (2 ^ (min x5.toNat (IntKind.bits .u8)))) &&& BitVec.ofInt (IntKind.bits .u8) 1).toNat):Int)==1)=true→(InR ((8:Int)*x5))∧((0:Int)≤((8:Int)*x5))∧((InR (x5+1))∧(N0 (Jm m (IntKind.wrap .u64 (BitVec.ofInt (IntKind.bits .u64) x3 ||| BitVec.ofInt (IntKind.bits .u64) (IntKind.wrap .u64 ((255:Int)*2 ^ (min (Int.toNat ((8:Int)*x5)) (IntKind.bits .u64))))).toNat) (x5+1)))))∧((((IntKind.wrap .u8 (BitVec.ofInt (IntKind.bits .u8) (Int.fdiv m (2 ^ (min x5.toNat (IntKind.bits .u8)))) &&& BitVec.ofInt (IntKind.bits .u8) 1).toNat):Int)==1)=false→(InR (x5+1))∧(N0 (Jm m x3 (x5+1))))))∧((decide (x5 < 8))=false→Q .ret (L2 [(2,.c (.int .u64 x3))] []))):
  ZhD m x3 x5 N0 Q:=by
 have e_:(ZhD m x3 x5 N0 Q)=(let zz0:=(((IntKind.wrap .u8 (BitVec.ofInt (IntKind.bits .u8) (Int.fdiv m (2 ^ (min x5.toNat (IntKind.bits .u8)))) &&& BitVec.ofInt (IntKind.bits .u8) 1).toNat):Int)==1);(((decide ((x5:Int) < 8))=true→(((0:Int)≤x5)∧((zz0=true→(InR ((8:Int)*x5))∧((0:Int)≤((8:Int)*x5))∧((InR ((x5:Int)+1))∧(N0 (Jm m (IntKind.wrap .u64 (BitVec.ofInt (IntKind.bits .u64) x3 ||| BitVec.ofInt (IntKind.bits .u64) (IntKind.wrap .u64 ((255:Int)*2 ^ (min (Int.toNat ((8:Int)*x5)) (IntKind.bits .u64))))).toNat) ((x5:Int)+1)))))∧(zz0=false→(InR ((x5:Int)+1))∧(N0 (Jm m x3 ((x5:Int)+1)))))))∧((decide ((x5:Int) < 8))=false→(Q .ret (L2 [(2,.c (.int .u64 x3))] []))))):=by kernel_rfl
 exact e_.mpr ⟨fun c_1=> ⟨(h.1 c_1).1,⟨fun c_2=> ⟨((h.1 c_1).2.1 c_2).1,((h.1 c_1).2.1 c_2).2.1,⟨((h.1 c_1).2.1 c_2).2.2.1,((h.1 c_1).2.1 c_2).2.2.2⟩⟩,fun c_2=> ⟨((h.1 c_1).2.2 c_2).1,((h.1 c_1).2.2 c_2).2⟩⟩⟩,fun c_1=> (h.2 c_1)⟩
def ZoE(m:Int):Prop:=AW (Z0 Z04) Try.f105 Z5L [] (Zl (Zhp.can (m,())) []) (EQ Try.f105 (ZjZ (m,())) [])
theorem Znr(hb:∀ (m:Int) (_:Unit),Z9q (m,())→ZoE m):CT 105 Z5m:=
 Z4 (l:=[]) Zk rfl trivial Z5L Try.func105 rfl rfl 1 (fun _=> rfl) (by decide) (fun ⟨m,_⟩=> hb m ())
def Zl1:List (FuncId × Fs U):=[(105,Z5m)]
def Zqq:Zh U:=lvl [([0,1,2],[]),([6],[])]
abbrev W66(a b m:Int)(Q:QT):=AW (Z0 Zl1) Try.f66 Zqq [] (L2 [(0,.c (.int .u64 a)),(1,.c (.int .u64 b)),(2,.c (.int .u8 m))] []) Q
theorem ZtL(a b m:Int)(Q:QT)(h:(Z9q (m,()))∧(Z9q (m,()))∧(Q .ret (L2 [(6,.c (.int .u64 (IntKind.wrap .u64 (BitVec.ofInt (IntKind.bits .u64) (IntKind.wrap .u64 (BitVec.ofInt (IntKind.bits .u64) a &&& ~~~(BitVec.ofInt (IntKind.bits .u64) ((JD m.toNat 8:Nat):Int))).toNat) ||| BitVec.ofInt (IntKind.bits .u64) (IntKind.wrap .u64 (BitVec.ofInt (IntKind.bits .u64) b &&& BitVec.ofInt (IntKind.bits .u64) ((JD m.toNat 8:Nat):Int)).toNat)).toNat)))] []))):
  W66 a b m Q:=by
 have e_:(W66 a b m Q)=(type_of% h):=by kernel_rfl
 exact e_.mpr ⟨h.1,h.2.1,h.2.2⟩
def ZrI(a b m:Int):Prop:=AW (Z0 Zl1) Try.f66 Zqq [] (Zl (ZlL.can (a,b,m,())) []) (EQ Try.f66 (ZoO (a,b,m,())) [])
theorem Zq2(Zr5:CT 105 Z5m)(hb:∀ (a:Int) (b:Int) (m:Int) (_:Unit),Z3e (a,b,m,())→ZrI a b m):CT 66 Z2m:=
 Z4 (l:=[(105,Z5m)]) Zk rfl (⟨Zr5,trivial⟩) Zqq Try.func66 rfl rfl 3 (fun _=> rfl) (by decide) (fun ⟨a,b,m,_⟩=> hb a b m ())
def ZgS:List (FuncId × Fs U):=[(80,Z2Z)]
def ZkN:Zh U:=lvl [([1],[1]),([2],[])]
abbrev Ztf(t:Tree)(Q:QT):=AW (Z0 ZgS) Try.f122 ZkN [] (L2 [(0,.agg (enc .tree t))] []) Q
theorem Zst(t:Tree)(Q:QT)(h:((t.kind !=10)=true→Zd0 ((Tree.mk t.kind t.words t.kids),()))∧(Q .ret (L2 [(2,.c (.bool (bif (t.kind !=10) then (Z9 (Tree.mk t.kind t.words t.kids) 64) else false)))] []))):
  Ztf t Q:=by
 have e_:(Ztf t Q)=((Zy ((t.kind !=10)=true))∧((t.kind !=10)=true→Zd0 ((Tree.mk t.kind t.words t.kids),()))∧(Zy ((t.kind !=10)=true))∧(Q .ret (L2 [(2,.c (.bool (bif (t.kind !=10) then (Z9 (Tree.mk t.kind t.words t.kids) 64) else false)))] []))):=by kernel_rfl
 exact e_.mpr ⟨id,h.1,(by generalize ((t.kind:Int) !=10)=b0;revert b0;decide),h.2⟩
def Zov(t:Tree):Prop:=AW (Z0 ZgS) Try.f122 ZkN [] (Zl (Zhk.can (t,())) []) (EQ Try.f122 (ZjU (t,())) [])
theorem Znk(c80:CT 80 Z2Z)(hb:∀ (t:Tree) (_:Unit),Z3g (t,())→Zov t):CT 122 Z2u:=
 Z4 (l:=[(80,Z2Z)]) Zk rfl (⟨c80,trivial⟩) ZkN Try.func122 rfl rfl 1 (fun _=> rfl) (by decide) (fun ⟨t,_⟩=> hb t ())
def ZgJ:List (FuncId × Fs U):=[(80,Z2Z)]
def ZkE:Zh U:=lvl [([0,3],[3]),([4],[])]
abbrev Zt2(list:Int)(t:Tree)(Q:QT):=AW (Z0 ZgJ) Try.f186 ZkE [] (L2 [(0,.c (ci list)),(1,.agg (enc .tree t))] []) Q
theorem Zsb(list:Int)(t:Tree)(Q:QT)(h:(Zd0 ((Tree.mk list [] ([(Tree.mk t.kind t.words t.kids)])),()))∧(Q .ret (L2 [(4,.c (.bool (Z9 (Tree.mk list [] ([(Tree.mk t.kind t.words t.kids)])) 64)))] []))):
  Zt2 list t Q:=by
 have e_:(Zt2 list t Q)=(type_of% h):=by kernel_rfl
 exact e_.mpr ⟨h.1,h.2⟩
def Zod(list:Int)(t:Tree):Prop:=AW (Z0 ZgJ) Try.f186 ZkE [] (Zl (Zha.can (list,t,())) []) (EQ Try.f186 (ZjM (list,t,())) [])
theorem Zn5(c80:CT 80 Z2Z)(hb:∀ (list:Int) (t:Tree) (_:Unit),Z9j (list,t,())→Zod list t):CT 186 Z5d:=
 Z4 (l:=[(80,Z2Z)]) Zk rfl (⟨c80,trivial⟩) ZkE Try.func186 rfl rfl 2 (fun _=> rfl) (by decide) (fun ⟨list,t,_⟩=> hb list t ())
def ZgI:List (FuncId × Fs U):=[(120,Z1r)]
def ZkD:Zh U:=lvl [([0,3],[3]),([0,3,5],[3]),([4],[]),([3,13],[3]),([4],[]),([4],[])]
abbrev Zt1(list:Int)(e:Edit)(Q:QT):=AW (Z0 ZgI) Try.f187 ZkD [] (L2 [(0,.c (ci list)),(1,.agg (enc .edit e))] []) Q
theorem Zsa(list:Int)(e:Edit)(Q:QT)(h:(Z6I (list,()))∧(((bif (decide (2≤list∧list≤7)) then true else (e.kind==0))=true→Q .ret (L2 [(4,.c (.bool false))] []))∧((bif (decide (2≤list∧list≤7)) then true else (e.kind==0))=false→((bif (list==8) then true else (e.kind==2))=true→Q .ret (L2 [(4,.c (.bool true))] []))∧((bif (list==8) then true else (e.kind==2))=false→Q .ret (L2 [(4,.c (.bool (bif (bif (e.kind==1) then (e.old.kind==1) else false) then (e.new.kind==1) else false)))] []))))):
  Zt1 list e Q:=by
 have e_:(Zt1 list e Q)=(let zz2:=(bif ((list:Int)==8) then true else (e.kind==2));let zz1:=(decide (2≤list∧list≤7));let zz0:=(bif (e.kind==1) then ((e.old.kind:Int)==1) else false);((Z6I (list,()))∧(Zy ((!zz1)=true))∧(Zy ((!zz1)=true))∧(zz1=false→(!zz1)=true)∧(((bif zz1 then true else (e.kind==0))=true→(Q .ret (L2 [(4,.c (.bool false))] [])))∧((bif zz1 then true else (e.kind==0))=false→(Zy ((!((list:Int)==8))=true))∧(Zy ((!((list:Int)==8))=true))∧(((list:Int)==8)=false→(!((list:Int)==8))=true)∧((zz2=true→(Q .ret (L2 [(4,.c (.bool true))] [])))∧(zz2=false→(Zy ((e.kind==1)=true))∧(Zy ((e.kind==1)=true))∧(Zy ((e.kind==1)=true))∧(Zy ((e.kind==1)=true))∧(Zy (zz0=true))∧(Zy (zz0=true))∧(Zy (zz0=true))∧(Zy (zz0=true))∧(Q .ret (L2 [(4,.c (.bool (bif zz0 then ((e.new.kind:Int)==1) else false)))] [])))))))):=by kernel_rfl
 exact e_.mpr ⟨h.1,id,id,(by generalize (decide (2≤list∧list≤7))=b0;revert b0;decide),⟨fun c_3=> (h.2.1 c_3),fun c_3=> ⟨id,id,(by generalize ((list:Int)==8)=b0;revert b0;decide),⟨fun c_4=> ((h.2.2 c_3).1 c_4),fun c_4=> ⟨id,id,id,(by generalize ((e.kind:Int)==1)=b0;revert b0;decide),id,id,id,(by generalize ((e.old.kind:Int)==1)=b0;generalize ((e.kind:Int)==1)=b1;revert b0 b1;decide),((h.2.2 c_3).2 c_4)⟩⟩⟩⟩⟩
def Zoc(list:Int)(e:Edit):Prop:=AW (Z0 ZgI) Try.f187 ZkD [] (Zl (Zh9.can (list,e,())) []) (EQ Try.f187 (ZjL (list,e,())) [])
theorem Zn4(ZiH:CT 120 Z1r)(hb:∀ (list:Int) (e:Edit) (_:Unit),ZbH (list,e,())→Zoc list e):CT 187 Z2q:=
 Z4 (l:=[(120,Z1r)]) Zk rfl (⟨ZiH,trivial⟩) ZkD Try.func187 rfl rfl 2 (fun _=> rfl) (by decide) (fun ⟨list,e,_⟩=> hb list e ())
def Z03:List (FuncId × Fs U):=[(66,Z2m)]
def Z5K:Zh U:=lvl [([0],[]),([0,5,6,7],[]),([0,5,6,7,8],[]),([0,3,4,5,6,7],[4]),([0,4,5,6,7,39],[4]),([2],[]),([0,5,6,7,53],[]),([2],[]),([0,5,6,7],[]),([2],[])]
def Z0T(l:List WEdit)(x7:Int):LSt U:=(L2 [(0,.c (sU .wedit l .unk)),(5,.c (sU .wedit l .unk)),(6,.c (ci (l.length:Int))),(7,.c (ci x7))] [])
abbrev Zte(l:List WEdit)(Q:QT):=AW (Z0 Z03) Try.f123 Z5K [] (L2 [(0,.c (sU .wedit l .unk))] []) Q
abbrev ZfD:=awp cfg (Z0 Z03) (ZA cfg (Z0 Z03)) Try.f123.ntmps Z5K
abbrev Zek:=Z6y cfg (Z0 Z03) (ZA cfg (Z0 Z03)) Try.f123.ntmps Z5K
theorem Zss(l:List WEdit)(Q:QT)(h:Zj (AW (Z0 Z03) Try.f123 Z5K [1,0,1,0,0]) (Z0T l 0) (xB 0 (SW (Z0 Z03) Try.f123 Z5K [1,1] Q))):
  Zte l Q:=by
 have e_:(Zte l Q)=(Zj (ZfD (cd Try.f123 [1,0,1,0,0])) (Z0T l 0) (xB 0 (Zek (cd Try.f123 [1,1]) Q))):=by kernel_rfl
 exact e_.mpr h
abbrev ZhC(l:List WEdit)(x7:Int)(N0:NT)(Q:QT):=AW (Z0 Z03) Try.f123 Z5K [1,0,1,0,0] (Z0T l x7) (xT N0 (xB 0 (SW (Z0 Z03) Try.f123 Z5K [1,1] Q)))
theorem Zje(l:List WEdit)(x7:Int)(N0:NT)(Q:QT)(h:∀ y_1,y_1=(l.getD x7.toNat (WEdit.mk 0 0 0 0))→∀ y_2,y_2=(List.getD l (Int.toNat (x7 - 1)) (WEdit.mk 0 0 0 0))→((decide (x7 < (l.length:Int)))=true→((0:Int)≤x7∧x7 < (l.length:Int))∧((((!(bif (decide (y_1.at_ < 0)) then true else (decide ((65535:Int)≤y_1.at_)))) && (decide ((0:Int) < x7)))=true→InR (x7 - 1))∧(((!(bif (decide (y_1.at_ < 0)) then true else (decide ((65535:Int)≤y_1.at_)))) && (decide ((0:Int) < x7)))=true→(0:Int)≤(x7 - 1)∧(x7 - 1) < (l.length:Int))∧(((bif (bif (bif (decide (y_1.at_ < 0)) then true else (decide ((65535:Int)≤y_1.at_))) then true else (bif (decide ((0:Int) < x7)) then (decide (y_1.at_≤y_2.at_)) else false)) then true else (y_1.mask==0))=true→Q .ret (L2 [(2,.c (.bool false))] []))∧((bif (bif (bif (decide (y_1.at_ < 0)) then true else (decide ((65535:Int)≤y_1.at_))) then true else (bif (decide ((0:Int) < x7)) then (decide (y_1.at_≤y_2.at_)) else false)) then true else (y_1.mask==0))=false→(Z3e (y_1.old,0,y_1.mask,()))∧((!(((mix y_1.old 0 y_1.mask):Int) !=0))=true→Z3e (y_1.new,0,y_1.mask,()))∧(((bif (((mix y_1.old 0 y_1.mask):Int) !=0) then true else (((mix y_1.new 0 y_1.mask):Int) !=0))=true→Q .ret (L2 [(2,.c (.bool false))] []))∧((bif (((mix y_1.old 0 y_1.mask):Int) !=0) then true else (((mix y_1.new 0 y_1.mask):Int) !=0))=false→(InR (x7+1))∧(N0 (Z0T l (x7+1)))))))))∧((decide (x7 < (l.length:Int)))=false→Q .ret (L2 [(2,.c (.bool true))] []))):
  ZhC l x7 N0 Q:=by
 have e_:(ZhC l x7 N0 Q)=(let y_1:=(l.getD x7.toNat (WEdit.mk 0 0 0 0));let y_2:=(List.getD l (Int.toNat ((x7:Int) - 1)) (WEdit.mk 0 0 0 0));let zz5:=(((mix y_1.new 0 y_1.mask):Int) !=0);let zz4:=(decide (y_1.at_ < 0));let zz3:=(decide ((0:Int) < x7));let zz2:=(bif zz3 then (decide (y_1.at_≤y_2.at_)) else false);let zz1:=(((mix y_1.old 0 y_1.mask):Int) !=0);let zz0:=(bif zz4 then true else (decide ((65535:Int)≤y_1.at_)));(((decide ((x7:Int) < (l.length:Int)))=true→((0:Int)≤x7∧x7 < (l.length:Int))∧((Zy ((!zz4)=true))∧(Zy ((!zz4)=true))∧(zz4=false→(!zz4)=true)∧(Zy ((!zz0)=true))∧(Zy ((!zz0)=true))∧(Zy (((!zz0) && zz3)=true))∧(((!zz0) && zz3)=true→InR ((x7:Int) - 1))∧(Zy (((!zz0) && zz3)=true))∧(Zy (((!zz0) && zz3)=true))∧(((!zz0) && zz3)=true→(0:Int)≤((x7:Int) - 1)∧((x7:Int) - 1) < (l.length:Int))∧(Zy (((!zz0) && zz3)=true))∧(Zy (((!zz0) && zz3)=true))∧(Zy (((!zz0) && zz3)=true))∧(Zy (((!zz0) && zz3)=true))∧(Zy (((!zz0) && zz3)=true))∧((!zz0)=true→(True→(!zz0)=true))∧((!zz0)=true→(zz3=true→((!zz0) && zz3)=true))∧(zz0=false→(!zz0)=true)∧(Zy ((!(bif zz0 then true else zz2))=true))∧(Zy ((!(bif zz0 then true else zz2))=true))∧((bif zz0 then true else zz2)=false→(!(bif zz0 then true else zz2))=true)∧(((bif (bif zz0 then true else zz2) then true else (y_1.mask==0))=true→(Q .ret (L2 [(2,.c (.bool false))] [])))∧((bif (bif zz0 then true else zz2) then true else (y_1.mask==0))=false→(Z3e (y_1.old,0,y_1.mask,()))∧(Zy ((!zz1)=true))∧(Zy ((!zz1)=true))∧(Zy ((!zz1)=true))∧(Zy ((!zz1)=true))∧((!zz1)=true→Z3e (y_1.new,0,y_1.mask,()))∧(Zy ((!zz1)=true))∧(zz1=false→(!zz1)=true)∧(((bif zz1 then true else zz5)=true→(Q .ret (L2 [(2,.c (.bool false))] [])))∧((bif zz1 then true else zz5)=false→(InR ((x7:Int)+1))∧(N0 (Z0T l ((x7:Int)+1)))))))))∧((decide ((x7:Int) < (l.length:Int)))=false→(Q .ret (L2 [(2,.c (.bool true))] []))))):=by kernel_rfl
 exact e_.mpr (by intro y_1 y_2;have hh:=h y_1 rfl y_2 rfl;exact ⟨fun c_5=> ⟨(hh.1 c_5).1,⟨id,id,(by generalize (decide ((y_1.at_:Int) < 0))=b0;revert b0;decide),id,id,id,(hh.1 c_5).2.1,id,id,(hh.1 c_5).2.2.1,id,id,id,id,id,(by generalize (decide ((65535:Int)≤y_1.at_))=b0;generalize (decide ((y_1.at_:Int) < 0))=b1;revert b0 b1;decide),(by generalize (decide ((65535:Int)≤y_1.at_))=b0;generalize (decide ((y_1.at_:Int) < 0))=b1;generalize (decide ((0:Int) < x7))=b2;revert b0 b1 b2;decide),(by generalize (decide ((65535:Int)≤y_1.at_))=b0;generalize (decide ((y_1.at_:Int) < 0))=b1;revert b0 b1;decide),id,id,(by generalize (decide ((y_1.at_:Int)≤y_2.at_))=b0;generalize (decide ((65535:Int)≤y_1.at_))=b1;generalize (decide ((y_1.at_:Int) < 0))=b2;generalize (decide ((0:Int) < x7))=b3;revert b0 b1 b2 b3;decide),⟨fun c_6=> ((hh.1 c_5).2.2.2.1 c_6),fun c_6=> ⟨((hh.1 c_5).2.2.2.2 c_6).1,id,id,id,id,((hh.1 c_5).2.2.2.2 c_6).2.1,id,(by generalize (((mix y_1.old 0 y_1.mask):Int) !=0)=b0;revert b0;decide),⟨fun c_7=> (((hh.1 c_5).2.2.2.2 c_6).2.2.1 c_7),fun c_7=> ⟨(((hh.1 c_5).2.2.2.2 c_6).2.2.2 c_7).1,(((hh.1 c_5).2.2.2.2 c_6).2.2.2 c_7).2⟩⟩⟩⟩⟩⟩,fun c_5=> (hh.2 c_5)⟩)
def Zou(l:List WEdit):Prop:=AW (Z0 Z03) Try.f123 Z5K [] (Zl (Zhj.can (l,())) []) (EQ Try.f123 (ZjT (l,())) [])
theorem Znj(c66:CT 66 Z2m)(hb:∀ (l:List WEdit) (_:Unit),Z6G (l,())→Zou l):CT 123 Z2t:=
 Z4 (l:=[(66,Z2m)]) Zk rfl (⟨c66,trivial⟩) Z5K Try.func123 rfl rfl 1 (fun _=> rfl) (by decide) (fun ⟨l,_⟩=> hb l ())
end
end
end Go.AM.Ytpjenobkibfpcaa
namespace Go.AM.Ytpjenobkibfpcaa
open Go.AM Go.Proofs
theorem Zly:∀ n:Fin 256,∀ i:Fin 8,IntKind.wrap .u8 (BitVec.ofInt (IntKind.bits .u8) (Int.fdiv (n.1:Int) (2 ^ (min (Int.toNat (i.1:Int)) (IntKind.bits .u8)))) &&& BitVec.ofInt (IntKind.bits .u8) 1).toNat=((n.1 / 2 ^ i.1 % 2:Nat):Int):=by decide+kernel
theorem ZmU:∀ n:Fin 256,∀ i:Fin 8,IntKind.wrap .u64 (BitVec.ofInt (IntKind.bits .u64) ((JD n.1 i.1:Nat):Int) ||| BitVec.ofInt (IntKind.bits .u64) (IntKind.wrap .u64 (255*2 ^ (min (Int.toNat (8*(i.1:Int))) (IntKind.bits .u64))))).toNat=((JD n.1 i.1+255*2 ^ (8*i.1):Nat):Int):=by decide+kernel
theorem Zr5:Contract Try.prog cfg 105 Z5m:=by
 refine Znr ?_
 intro m _ hp
 simp only [Z9q] at hp
 obtain ⟨n,rfl⟩:=Int.eq_ofNat_of_zero_le hp.1
 have hn:n < 256:=by omega
 refine ZsC _ _ ?_
 refine Zc (ι:=Nat) (fun i=> Jm n ((JD n i:Nat):Int) i) (fun i=> i≤8) (fun i=> 8 - i) 0 rfl (by omega) ?_
 intro i hi
 refine Zjo _ _ _ _ _ ?_
 (simp only [vcS])
 refine ⟨fun hc=> ⟨by omega,fun hq=> ⟨by unfold InR;omega,by omega,by unfold InR;omega,i+1,?_,by omega,by omega⟩,fun hq=> ⟨by unfold InR;omega,i+1,?_,by omega,by omega⟩⟩,fun hc=> ?_⟩
 ·have h1:=Zly ⟨n,hn⟩ ⟨i,by omega⟩
  have h2:=ZmU ⟨n,hn⟩ ⟨i,by omega⟩
  simp only at h1 h2
  rw [h1] at hq
  rw [h2]
  have e:JD n (i+1)=JD n i+255*2 ^ (8*i):=by simp only [JD];rw [if_pos (by omega)]
  rw [e]
  try rfl
 ·have h1:=Zly ⟨n,hn⟩ ⟨i,by omega⟩
  simp only at h1
  rw [h1] at hq
  have e:JD n (i+1)=JD n i:=by simp only [JD];rw [if_neg (by omega)];omega
  rw [e]
  try rfl
 ·have:i=8:=by omega
  subst this
  exact Ys rfl rfl
theorem Z0L(a:Nat)(h:a < 2 ^ 64):(BitVec.ofInt 64 (a:Int)).toNat=a:=by
 rw [BitVec.toNat_ofInt]
 omega
theorem c66:Contract Try.prog cfg 66 Z2m:=by
 refine Zq2 Zr5 ?_
 intro a b m _ hp
 simp only [Z3e] at hp
 obtain ⟨⟨a0,a1⟩,⟨b0,b1⟩,m0,m1⟩:=hp
 obtain ⟨x,rfl⟩:=Int.eq_ofNat_of_zero_le a0
 obtain ⟨y,rfl⟩:=Int.eq_ofNat_of_zero_le b0
 obtain ⟨n,rfl⟩:=Int.eq_ofNat_of_zero_le m0
 have hn:n < 256:=by omega
 have hx:x < 2 ^ 64:=by omega
 have hy:y < 2 ^ 64:=by omega
 have hw:=Zmb ⟨n,hn⟩
 have hw2:=ZfH ⟨n,hn⟩
 simp only at hw hw2
 rw [←hw2] at hw
 refine ZtL _ _ _ _ ?_
 refine ⟨⟨m0,m1⟩,⟨m0,m1⟩,Ys rfl ?_⟩
 have em:mix x y n=(((x &&& (2 ^ 64 - 1 - JD n 8)) ||| (y &&& JD n 8):Nat):Int):=by rw [←Zkz,←Zky x y n hn]
 have e1:(BitVec.ofInt 64 (x:Int) &&& ~~~(BitVec.ofInt 64 ((JD n 8:Nat):Int))).toNat=x &&& (2 ^ 64 - 1 - JD n 8):=by
  rw [BitVec.toNat_and,BitVec.toNat_not,Z0L x hx,Z0L _ hw]
 have e2:(BitVec.ofInt 64 (y:Int) &&& BitVec.ofInt 64 ((JD n 8:Nat):Int)).toNat=y &&& JD n 8:=by
  rw [BitVec.toNat_and,Z0L y hy,Z0L _ hw]
 have l1:x &&& (2 ^ 64 - 1 - JD n 8) < 2 ^ 64:=Nat.lt_of_le_of_lt Nat.and_le_left hx
 have l2:y &&& JD n 8 < 2 ^ 64:=Nat.lt_of_le_of_lt Nat.and_le_left hy
 have l3:(x &&& (2 ^ 64 - 1 - JD n 8)) ||| (y &&& JD n 8) < 2 ^ 64:=Nat.or_lt_two_pow l1 l2
 have key:IntKind.wrap .u64 ((BitVec.ofInt 64 (IntKind.wrap .u64 ((BitVec.ofInt 64 (x:Int) &&& ~~~(BitVec.ofInt 64 ((JD n 8:Nat):Int))).toNat:Int)) ||| BitVec.ofInt 64 (IntKind.wrap .u64 ((BitVec.ofInt 64 (y:Int) &&& BitVec.ofInt 64 ((JD n 8:Nat):Int)).toNat:Int))).toNat:Int)=mix x y n:=by
  have w1:∀ k:Nat,k < 2 ^ 64→IntKind.wrap .u64 (k:Int)=k:=fun k hk=> Z2V (by omega) (by omega)
  rw [e1,e2,w1 _ l1,w1 _ l2,BitVec.toNat_or,Z0L _ l1,Z0L _ l2,w1 _ l3,em]
 exact key
theorem Zr0:Contract Try.prog cfg 122 Z2u:=by
 refine Znk c80 ?_
 intro t _ hp
 refine Zst _ _ ?_
 (simp only [Tree.eta,Edit.eta,Tree.kind_mk,Tree.words_mk,Tree.kids_mk])
 refine ⟨fun _=> hp,Z2 rfl ?_⟩
 rw [Bool.eq_iff_iff]
 (simp only [vcS])
theorem ZqO:Contract Try.prog cfg 186 Z5d:=by
 refine Zn5 c80 ?_
 intro list t _ hp
 simp only [Z9j] at hp
 refine Zsb _ _ _ ?_
 (simp only [Tree.eta,Edit.eta,Tree.kind_mk,Tree.words_mk,Tree.kids_mk])
 refine ⟨⟨?_,?_⟩,by (repeat' (first | exact trivial | exact rfl | apply And.intro))⟩
 ·simp only [Zg,Za,List.length_nil];omega
 ·simp only [rng,ZO]
  have hi:=hp.2.2
  unfold isI at hi
  exact ⟨hi,by simp,hp.2.1,trivial⟩
theorem ZqN:Contract Try.prog cfg 187 Z2q:=by
 refine Zn4 ZiH ?_
 intro list e _ hp
 refine Zsa _ _ _ ?_
 (simp only [vcS])
 refine ⟨trivial,fun h=> ?_,fun h=> ⟨fun h2=> ?_,fun h2=> ?_⟩⟩
 ·exact Z2 rfl (by show false=Y4 list e;unfold Y4;rw [if_pos h])
 ·exact Z2 rfl (by show true=Y4 list e;unfold Y4;rw [if_neg (by omega),if_pos h2])
 ·refine Z2 rfl ?_
  show _=Y4 list e
  unfold Y4
  rw [if_neg (by omega),if_neg (by omega),Bool.eq_iff_iff]
  (simp only [vcS])
  omega
theorem Zbh(last:Int)(w:WEdit)(r:List WEdit):Zs last (w ::r)=(decide (last < w.at_∧w.at_≤65534∧w.mask≠0) && JY w.old w.mask && JY w.new w.mask && Zs w.at_ r):=rfl
theorem ZqZ:Contract Try.prog cfg 123 Z2t:=by
 refine Znj c66 ?_
 intro l _ hp
 simp only [Z6G] at hp
 refine Zss _ _ ?_
 refine Zc (ι:=Int) (fun i=> Z0T l i) (fun i=> 0≤i∧i≤l.length∧(i≠0→0≤(l.getD (i - 1).toNat (WEdit.mk 0 0 0 0)).at_)∧Zs (if i=0 then -1 else (l.getD (i - 1).toNat (WEdit.mk 0 0 0 0)).at_) (l.drop i.toNat)=Zs (-1) l) (fun i=> ((l.length:Int) - i).toNat) 0 rfl ⟨by omega,by omega,by simp,by simp⟩ ?_
 rintro i ⟨h1,h2,hpos,h3⟩
 refine Zje _ _ _ _ ?_
 rintro y1 hy1 y2 hy2
 (simp only [vcS])
 refine ⟨fun hi=> ?_,fun hi=> ?_⟩
 ·have hm:=hp.2 _ (Zp (l:=l) (i:=i.toNat) (by omega) (WEdit.mk 0 0 0 0))
  rw [Yn h1 hi (WEdit.mk 0 0 0 0),Zbh] at h3
  rw [←hy1] at h3 hm
  rw [←hy2] at h3 hpos
  obtain ⟨r1,r2,r3,r4⟩:=hm
  unfold isW at r3 r4
  have hw:∀ x:Int,JY x y1.mask=decide (mix x 0 y1.mask=0):=fun x=> rfl
  refine ⟨⟨h1,hi⟩,fun _=> by unfold InR;omega,fun _=> ⟨by omega,by omega⟩,fun hq=> ?_,fun hq=> ⟨⟨r3,by dsimp only;omega,r2⟩,fun _=> ⟨r4,by dsimp only;omega,r2⟩,fun hz=> ?_,fun hz=> ⟨by unfold InR;omega,i+1,rfl,⟨by omega,by omega,fun _=> by rw [show i+1 - 1=i by omega,←hy1];omega,?_⟩,by omega⟩⟩⟩
  ·refine Z2 rfl ?_
   show false=Zs (-1) l
   rw [←h3,decide_eq_false]
   ·try rfl
   ·split <;> omega
  ·refine Z2 rfl ?_
   show false=Zs (-1) l
   rw [←h3,hw,hw]
   rcases hz with hz | hz
   ·rw [decide_eq_false hz];simp
   ·rw [decide_eq_false hz];simp
  ·rw [if_neg (by omega),show i+1 - 1=i by omega,←hy1,←h3,hw,hw,decide_eq_true hz.1,decide_eq_true hz.2,decide_eq_true]
   ·simp
   ·split <;> omega
 ·rw [List.drop_of_length_le (by omega)] at h3
  exact Z2 rfl (by show true=Zs (-1) l;rw [←h3];rfl)
end Go.AM.Ytpjenobkibfpcaa
namespace Go.AM
def wr(n:Int):Int:=IntKind.wrap .i64 n
def JQ(o:Op):Int:=if o.kind=3 then 1 else wr (o.n+o.l.length)
def Zcd(n:Int):Int:=if 1048576 < n then 1048576 else n
def Z0f:List Op→Int→Int
 | [],n=> n
 | o ::r,n=> Z0f r (if o.kind=2 then n else Zcd (wr (n+JQ o)))
def Z0o:List Op→Int→Int
 | [],n=> n
 | o ::r,n=> Z0o r (if o.kind=1 then n else Zcd (wr (n+JQ o)))
def Z0j(e:Edit):Bool:=
 if (e.kind≠1∧¬(ZH e.old=true∧ZH e.new=true))∨(e.kind≠2∧¬(e.words.length=0∧e.kids.length=0))∨(e.kind≠3∧(e.list≠0∨e.ops.length≠0)) then false else true
end Go.AM
namespace Go.AM.Ytpjenobkibfpcaa
open Go.AM Go.Proofs
noncomputable section
def Zhd:ArgL (Edit × Unit):=(.cons (aEl .edit) .nil)
def Z6D(a:Edit × Unit):Prop:=Ze a.1≤20000000000
def ZjP(a:Edit × Unit):V U:= .tup [(false,[ci (Z0f a.1.ops 0)]),(false,[ci (Z0o a.1.ops 0)])]
def Z2s:Fs U:=fs Zhd (fun a=> [Z6D a]) ZjP
def Zt:List (FuncId × Fs U):=[]
def ZS:Zh U:=lvl [([1],[1]),([1,4,5],[1]),([4,5,10,11,12],[]),([4,5,10,11,12,13],[]),([4,5,7,10,11,12],[7]),([4,5,7,8,10,11,12],[7]),([4,5,7,8,10,11,12,24],[7]),([4,5,7,8,10,11,12,24],[7]),([4,5,7,8,10,11,12,27],[7]),([4,5,7,8,10,11,12,27],[7]),([4,5,8,10,11,12,34],[]),([4,5,10,11,12],[]),([4,5,10,11,12],[]),([2,3],[])]
def YD(e:Edit)(x4 x5 x12:Int):LSt U:=(L2 [(4,.c (ci x4)),(5,.c (ci x5)),(10,.c (sU .op e.ops .unk)),(11,.c (ci (e.ops.length:Int))),(12,.c (ci x12))] [])
def Z2c(e:Edit)(x4 x5 x12 x8_a:Int):LSt U:=(L2 [(4,.c (ci x4)),(5,.c (ci x5)),(7,.ptr (.loc 7) 0),(8,.c (ci x8_a)),(10,.c (sU .op e.ops .unk)),(11,.c (ci (e.ops.length:Int))),(12,.c (ci x12)),(24,.c (.bool (((OpOf.kind (e.ops.getD x12.toNat Op.nil)):Int)==3)))] [(.loc 7,(enc .op (e.ops.getD x12.toNat Op.nil)))])
def Z2b(e:Edit)(x5 x12 x8_a x4_b:Int):LSt U:=(L2 [(4,.c (ci x4_b)),(5,.c (ci x5)),(7,.ptr (.loc 7) 0),(8,.c (ci x8_a)),(10,.c (sU .op e.ops .unk)),(11,.c (ci (e.ops.length:Int))),(12,.c (ci x12)),(27,.c (.bool (((OpOf.kind (e.ops.getD x12.toNat Op.nil)):Int) !=2)))] [(.loc 7,(enc .op (e.ops.getD x12.toNat Op.nil)))])
abbrev Zt7(e:Edit)(Q:QT):=AW (ZR Zt) Try.f164 ZS [] (L2 [(0,.agg (enc .edit e))] []) Q
theorem Zsh(e:Edit)(Q:QT)(h:Zj (AW (ZR Zt) Try.f164 ZS [1,1,0,1,0,0]) (YD e 0 0 0) (xB 0 (SW (ZR Zt) Try.f164 ZS [1,1,1] Q))):
  Zt7 e Q:=by
 have e_:(Zt7 e Q)=(Zj (AW (ZR Zt) Try.f164 ZS [1,1,0,1,0,0]) (YD e 0 0 0) (xB 0 (SW (ZR Zt) Try.f164 ZS [1,1,1] Q))):=by kernel_rfl
 exact e_.mpr h
abbrev Zhx(e:Edit)(x4 x5 x12:Int)(N0:NT)(Q:QT):=AW (ZR Zt) Try.f164 ZS [1,1,0,1,0,0] (YD e x4 x5 x12) (xT N0 (xB 0 (SW (ZR Zt) Try.f164 ZS [1,1,1] Q)))
theorem Zj6(e:Edit)(x4 x5 x12:Int)(N0:NT)(Q:QT)(h:((decide (x12 < (e.ops.length:Int)))=true→((0:Int)≤x12∧x12 < (e.ops.length:Int))∧(((((OpOf.kind (e.ops.getD x12.toNat Op.nil)):Int)==3)=true→AW (ZR Zt) Try.f164 ZS [1,1,0,1,0,0,1,1,0,0,1,1,1] (Z2c e x4 x5 x12 1) (xB 1 (SW (ZR Zt) Try.f164 ZS [1,1,0,1,0,0,1,1,1] (xT N0 (xB 0 (SW (ZR Zt) Try.f164 ZS [1,1,1] Q))))))∧((((OpOf.kind (e.ops.getD x12.toNat Op.nil)):Int)==3)=false→AW (ZR Zt) Try.f164 ZS [1,1,0,1,0,0,1,1,0,0,1,1,1] (Z2c e x4 x5 x12 (IntKind.wrap .i64 (((OpOf.n (e.ops.getD x12.toNat Op.nil)):Int)+((OpOf.l (e.ops.getD x12.toNat Op.nil)).length:Int)))) (xB 1 (SW (ZR Zt) Try.f164 ZS [1,1,0,1,0,0,1,1,1] (xT N0 (xB 0 (SW (ZR Zt) Try.f164 ZS [1,1,1] Q))))))))∧((decide (x12 < (e.ops.length:Int)))=false→Q .ret (L2 [(2,.c (ci x4)),(3,.c (ci x5))] []))):
  Zhx e x4 x5 x12 N0 Q:=by
 have e_:(Zhx e x4 x5 x12 N0 Q)=(let zz0:=(((OpOf.kind (e.ops.getD x12.toNat Op.nil)):Int)==3);(((decide ((x12:Int) < (e.ops.length:Int)))=true→((0:Int)≤x12∧x12 < (e.ops.length:Int))∧((zz0=true→(AW (ZR Zt) Try.f164 ZS [1,1,0,1,0,0,1,1,0,0,1,1,1] (Z2c e x4 x5 x12 1) (xB 1 (SW (ZR Zt) Try.f164 ZS [1,1,0,1,0,0,1,1,1] (xT N0 (xB 0 (SW (ZR Zt) Try.f164 ZS [1,1,1] Q)))))))∧(zz0=false→AW (ZR Zt) Try.f164 ZS [1,1,0,1,0,0,1,1,0,0,1,1,1] (Z2c e x4 x5 x12 (IntKind.wrap .i64 (((OpOf.n (e.ops.getD x12.toNat Op.nil)):Int)+((OpOf.l (e.ops.getD x12.toNat Op.nil)).length:Int)))) (xB 1 (SW (ZR Zt) Try.f164 ZS [1,1,0,1,0,0,1,1,1] (xT N0 (xB 0 (SW (ZR Zt) Try.f164 ZS [1,1,1] Q))))))))∧((decide ((x12:Int) < (e.ops.length:Int)))=false→(Q .ret (L2 [(2,.c (ci x4)),(3,.c (ci x5))] []))))):=by kernel_rfl
 exact e_.mpr ⟨fun c_1=> ⟨(h.1 c_1).1,⟨fun c_2=> ((h.1 c_1).2.1 c_2),fun c_2=> ((h.1 c_1).2.2 c_2)⟩⟩,fun c_1=> (h.2 c_1)⟩
abbrev Zcu(e:Edit)(x4 x5 x12 x8_a:Int)(N0:NT)(Q:QT):=AW (ZR Zt) Try.f164 ZS [1,1,0,1,0,0,1,1,0,0,1,1,1] (Z2c e x4 x5 x12 x8_a) (xB 1 (SW (ZR Zt) Try.f164 ZS [1,1,0,1,0,0,1,1,1] (xT N0 (xB 0 (SW (ZR Zt) Try.f164 ZS [1,1,1] Q)))))
theorem Zj8(e:Edit)(x4 x5 x12 x8_a:Int)(N0:NT)(Q:QT)(h:((((OpOf.kind (e.ops.getD x12.toNat Op.nil)):Int) !=2)=true→AW (ZR Zt) Try.f164 ZS [1,1,0,1,0,0,1,1,0,0,1,1,1,1] (Z2b e x5 x12 x8_a (if (1048576:Int) < (IntKind.wrap .i64 (x4+x8_a)) then 1048576 else (IntKind.wrap .i64 (x4+x8_a)))) (xB 1 (SW (ZR Zt) Try.f164 ZS [1,1,0,1,0,0,1,1,1] (xT N0 (xB 0 (SW (ZR Zt) Try.f164 ZS [1,1,1] Q))))))∧((((OpOf.kind (e.ops.getD x12.toNat Op.nil)):Int) !=2)=false→AW (ZR Zt) Try.f164 ZS [1,1,0,1,0,0,1,1,0,0,1,1,1,1] (Z2b e x5 x12 x8_a x4) (xB 1 (SW (ZR Zt) Try.f164 ZS [1,1,0,1,0,0,1,1,1] (xT N0 (xB 0 (SW (ZR Zt) Try.f164 ZS [1,1,1] Q))))))):
  Zcu e x4 x5 x12 x8_a N0 Q:=by
 have e_:(Zcu e x4 x5 x12 x8_a N0 Q)=(let zz0:=(((OpOf.kind (e.ops.getD x12.toNat Op.nil)):Int) !=2);((zz0=true→(AW (ZR Zt) Try.f164 ZS [1,1,0,1,0,0,1,1,0,0,1,1,1,1] (Z2b e x5 x12 x8_a (if (1048576:Int) < (IntKind.wrap .i64 ((x4:Int)+x8_a)) then 1048576 else (IntKind.wrap .i64 ((x4:Int)+x8_a)))) (xB 1 (SW (ZR Zt) Try.f164 ZS [1,1,0,1,0,0,1,1,1] (xT N0 (xB 0 (SW (ZR Zt) Try.f164 ZS [1,1,1] Q)))))))∧(zz0=false→AW (ZR Zt) Try.f164 ZS [1,1,0,1,0,0,1,1,0,0,1,1,1,1] (Z2b e x5 x12 x8_a x4) (xB 1 (SW (ZR Zt) Try.f164 ZS [1,1,0,1,0,0,1,1,1] (xT N0 (xB 0 (SW (ZR Zt) Try.f164 ZS [1,1,1] Q)))))))):=by kernel_rfl
 exact e_.mpr ⟨fun c_3=> (h.1 c_3),fun c_3=> (h.2 c_3)⟩
abbrev Zct(e:Edit)(x5 x12 x8_a x4_b:Int)(N0:NT)(Q:QT):=AW (ZR Zt) Try.f164 ZS [1,1,0,1,0,0,1,1,0,0,1,1,1,1] (Z2b e x5 x12 x8_a x4_b) (xB 1 (SW (ZR Zt) Try.f164 ZS [1,1,0,1,0,0,1,1,1] (xT N0 (xB 0 (SW (ZR Zt) Try.f164 ZS [1,1,1] Q)))))
theorem Zj7(e:Edit)(x5 x12 x8_a x4_b:Int)(N0:NT)(Q:QT)(h:((((OpOf.kind (e.ops.getD x12.toNat Op.nil)):Int) !=1)=true→N0 (YD e x4_b (if (1048576:Int) < (IntKind.wrap .i64 (x5+x8_a)) then 1048576 else (IntKind.wrap .i64 (x5+x8_a))) (IntKind.wrap .i64 (x12+1))))∧((((OpOf.kind (e.ops.getD x12.toNat Op.nil)):Int) !=1)=false→N0 (YD e x4_b x5 (IntKind.wrap .i64 (x12+1))))):
  Zct e x5 x12 x8_a x4_b N0 Q:=by
 have e_:(Zct e x5 x12 x8_a x4_b N0 Q)=(((((OpOf.kind (e.ops.getD x12.toNat Op.nil)):Int) !=1)=true→(N0 (YD e x4_b (if (1048576:Int) < (IntKind.wrap .i64 ((x5:Int)+x8_a)) then 1048576 else (IntKind.wrap .i64 ((x5:Int)+x8_a))) (IntKind.wrap .i64 ((x12:Int)+1)))))∧((((OpOf.kind (e.ops.getD x12.toNat Op.nil)):Int) !=1)=false→(N0 (YD e x4_b x5 (IntKind.wrap .i64 ((x12:Int)+1)))))):=by kernel_rfl
 exact e_.mpr ⟨fun c_4=> (h.1 c_4),fun c_4=> (h.2 c_4)⟩
def Zoj(e:Edit):Prop:=AW (ZR Zt) Try.f164 ZS [] (Zl (Zhd.can (e,())) []) (EQ Try.f164 (ZjP (e,())) [])
theorem Zna(hb:∀ (e:Edit) (_:Unit),Z6D (e,())→Zoj e):CT 164 Z2s:=
 Za3 (l:=[]) Zk rfl trivial ZS Try.func164 rfl rfl 1 (fun _=> rfl) (by decide) (fun ⟨e,_⟩=> hb e ())
end
end Go.AM.Ytpjenobkibfpcaa
namespace Go.AM.Ytpjenobkibfpcaa
open Go.AM Go.Proofs
theorem Zcy{n:Int}(h:InR n):wr n=n:=by
 unfold InR at h
 simp [wr,IntKind.wrap,IntKind.signed,IntKind.bits]
 split <;> omega
theorem ZeR{l:List Op}{i:Int}(n:Int)(h0:0≤i)(h:i < l.length):Z0f (l.drop i.toNat) n=Z0f (l.drop (i+1).toNat) (if (l.getD i.toNat Op.nil).kind=2 then n else Zcd (wr (n+JQ (l.getD i.toNat Op.nil)))):=by
 rw [Yn h0 h Op.nil,Z0f]
theorem ZeQ{l:List Op}{i:Int}(n:Int)(h0:0≤i)(h:i < l.length):Z0o (l.drop i.toNat) n=Z0o (l.drop (i+1).toNat) (if (l.getD i.toNat Op.nil).kind=1 then n else Zcd (wr (n+JQ (l.getD i.toNat Op.nil)))):=by
 rw [Yn h0 h Op.nil,Z0o]
theorem ZqT:Contract Try.prog cfg 164 Z2s:=by
 refine Zna ?_
 intro e _ hp
 simp only [Z6D] at hp
 have h1:=Y5 e
 have h2:=Yq e.ops
 refine Zsh _ _ ?_
 refine Zc (ι:=Int × Int × Int) (fun s=> YD e s.1 s.2.1 s.2.2) (fun s=> (0≤s.2.2∧s.2.2≤e.ops.length)∧Z0f (e.ops.drop s.2.2.toNat) s.1=Z0f e.ops 0∧Z0o (e.ops.drop s.2.2.toNat) s.2.1=Z0o e.ops 0) (fun s=> ((e.ops.length:Int) - s.2.2).toNat) (0,0,0) rfl ⟨⟨by simp,by simp⟩,rfl,rfl⟩ ?_
 rintro ⟨n,m,i⟩ ⟨⟨g1,g2⟩,g3,g4⟩
 dsimp only at g1 g2 g3 g4
 refine Zj6 _ _ _ _ _ _ ?_
 (simp only [vcS])
 refine ⟨fun hi=> ⟨⟨g1,hi⟩,?_⟩,fun hi=> ?_⟩
 ·rw [ZeR _ g1 hi] at g3
  rw [ZeQ _ g1 hi] at g4
  have hk:IntKind.wrap .i64 (i+1)=i+1:=Zcy (by unfold InR;omega)
  generalize hy:e.ops.getD i.toNat Op.nil=y at*
  have key:∀ k:Int,k=JQ y→∀ (Q':AExit→LSt U→Prop),Zcu e n m i k (fun s2=> ∃ j:Int × Int × Int,s2=YD e j.1 j.2.1 j.2.2∧((0≤j.2.2∧j.2.2≤e.ops.length)∧Z0f (e.ops.drop j.2.2.toNat) j.1=Z0f e.ops 0∧Z0o (e.ops.drop j.2.2.toNat) j.2.1=Z0o e.ops 0)∧((e.ops.length:Int) - j.2.2).toNat < ((e.ops.length:Int) - i).toNat) Q':=by
   rintro k rfl Q'
   have step2:∀ a:Int,a=(if y.kind=2 then n else Zcd (wr (n+JQ y)))→Zct e m i (JQ y) a (fun s2=> ∃ j:Int × Int × Int,s2=YD e j.1 j.2.1 j.2.2∧((0≤j.2.2∧j.2.2≤e.ops.length)∧Z0f (e.ops.drop j.2.2.toNat) j.1=Z0f e.ops 0∧Z0o (e.ops.drop j.2.2.toNat) j.2.1=Z0o e.ops 0)∧((e.ops.length:Int) - j.2.2).toNat < ((e.ops.length:Int) - i).toNat) Q':=by
    rintro a ha
    refine Zj7 _ _ _ _ _ _ _ ?_
    rw [hy,hk]
    (simp only [vcS])
    rw [←ha] at g3
    refine ⟨fun hb=> ⟨(a,_,i+1),rfl,⟨⟨by dsimp only;omega,by dsimp only;omega⟩,g3,?_⟩,by dsimp only;omega⟩,fun hb=> ⟨(a,_,i+1),rfl,⟨⟨by dsimp only;omega,by dsimp only;omega⟩,g3,?_⟩,by dsimp only;omega⟩⟩
    ·rw [if_neg hb] at g4;exact g4
    ·rw [if_pos hb] at g4;exact g4
   refine Zj8 _ _ _ _ _ _ _ ?_
   rw [hy]
   (simp only [vcS])
   exact ⟨fun hb=> step2 _ (by rw [if_neg hb];rfl),fun hb=> step2 _ (by rw [if_pos hb])⟩
  exact ⟨fun hb=> key _ (by unfold JQ;rw [if_pos hb]) _,fun hb=> key _ (by unfold JQ;rw [if_neg hb];rfl) _⟩
 ·rw [List.drop_of_length_le (by omega)] at g3 g4
  simp only [Z0f,Z0o] at g3 g4
  rw [g3,g4]
  (repeat' (first | exact trivial | exact rfl | apply And.intro))
theorem ZdB:∀ (l:List Op) (n:Int),(∀ o∈l,(0≤o.n∧o.n≤1048576)∧o.l.length≤20000000000)→0≤n→n≤1048576→Z0f l n=JG l n
 | [],_,_,_,_=> rfl
 | o ::r,n,h,h0,hn=> by
  have ho:=h o (List.mem_cons_self ..)
  have hl:=Z5w o
  have ew:JQ o=Zn o:=by
   unfold JQ;rw [hl]
   split
   ·try rfl
   ·exact Zcy (by unfold InR;omega)
  have hb:0≤Zn o∧Zn o≤60000000000:=by rw [hl];split <;> omega
  simp only [Z0f,JG]
  rw [ew,Zcy (by unfold InR;omega)]
  have e2:(if o.kind=2 then n else Zcd (n+Zn o))=min (if o.kind=2 then n else n+Zn o) 1048576:=by
   unfold Zcd;split
   ·omega
   ·split <;> omega
  rw [e2]
  exact ZdB r _ (fun x hx=> h x (List.mem_cons_of_mem _ hx)) (by split <;> omega) (by omega)
theorem ZdA:∀ (l:List Op) (n:Int),(∀ o∈l,(0≤o.n∧o.n≤1048576)∧o.l.length≤20000000000)→0≤n→n≤1048576→Z0o l n=JF l n
 | [],_,_,_,_=> rfl
 | o ::r,n,h,h0,hn=> by
  have ho:=h o (List.mem_cons_self ..)
  have hl:=Z5w o
  have ew:JQ o=Zn o:=by
   unfold JQ;rw [hl]
   split
   ·try rfl
   ·exact Zcy (by unfold InR;omega)
  have hb:0≤Zn o∧Zn o≤60000000000:=by rw [hl];split <;> omega
  simp only [Z0o,JF]
  rw [ew,Zcy (by unfold InR;omega)]
  have e2:(if o.kind=1 then n else Zcd (n+Zn o))=min (if o.kind=1 then n else n+Zn o) 1048576:=by
   unfold Zcd;split
   ·omega
   ·split <;> omega
  rw [e2]
  exact ZdA r _ (fun x hx=> h x (List.mem_cons_of_mem _ hx)) (by split <;> omega) (by omega)
end Go.AM.Ytpjenobkibfpcaa
namespace Go.AM.Ytpjenobkibfpcaa
open Go.AM Go.Proofs
noncomputable section
noncomputable section
def Zhf:ArgL (List Tree × List Tree × Unit × Unit):=(.cons (aSl .tree) (.cons (aSl .tree) (.cons (aFn 106) .nil)))
def Z9m(a:List Tree × List Tree × Unit × Unit):Prop:=Za a.1≤1000000000000∧Za a.2.1≤1000000000000
def ZjR(a:List Tree × List Tree × Unit × Unit):V U:= .c (.bool (eqX (Z8 a.1) (Z8 a.2.1)))
def Z3I:Fs U:=fs Zhf (fun a=> [Z9m a]) ZjR
def Z00:List (FuncId × Fs U):=[(106,Z0t)]
def Z5H:Zh U:=lvl [([0,1,2],[]),([0,1,2,14],[]),([6],[]),([1,2,15,16,17],[]),([1,2,15,16,17,18],[]),([1,2,7,8,15,16,17],[8]),([1,2,8,9,15,16,17],[8,9]),([1,2,15,16,17,30],[]),([6],[]),([1,2,15,16,17],[]),([6],[])]
def Z0Q(a b:List Tree)(f:Unit)(x17:Int):LSt U:=(L2 [(1,.c (sU .tree b .unk)),(2,.fn 106),(15,.c (sU .tree a .unk)),(16,.c (ci (a.length:Int))),(17,.c (ci x17))] [])
abbrev Zt8(a b:List Tree)(f:Unit)(Q:QT):=AW (Z0 Z00) Try.f151 Z5H [] (L2 [(0,.c (sU .tree a .unk)),(1,.c (sU .tree b .unk)),(2,.fn 106)] []) Q
abbrev ZfA:=awp cfg (Z0 Z00) (ZA cfg (Z0 Z00)) Try.f151.ntmps Z5H
abbrev Zeh:=Z6y cfg (Z0 Z00) (ZA cfg (Z0 Z00)) Try.f151.ntmps Z5H
theorem Zsj(a b:List Tree)(f:Unit)(Q:QT)(h:((((a.length:Int):Int) !=(b.length:Int))=true→Q .ret (L2 [(6,.c (.bool false))] []))∧((((a.length:Int):Int) !=(b.length:Int))=false→Zj (AW (Z0 Z00) Try.f151 Z5H [1,1,0,1,0,0]) (Z0Q a b f 0) (xB 0 (SW (Z0 Z00) Try.f151 Z5H [1,1,1] Q)))):
  Zt8 a b f Q:=by
 have e_:(Zt8 a b f Q)=((((a.length:Int) !=(b.length:Int))=true→(Q .ret (L2 [(6,.c (.bool false))] [])))∧(((a.length:Int) !=(b.length:Int))=false→(Zj (ZfA (cd Try.f151 [1,1,0,1,0,0])) (Z0Q a b f 0) (xB 0 (Zeh (cd Try.f151 [1,1,1]) Q))))):=by kernel_rfl
 exact e_.mpr ⟨fun c_4=> (h.1 c_4),fun c_4=> (h.2 c_4)⟩
abbrev Zhy(a b:List Tree)(f:Unit)(x17:Int)(N0:NT)(Q:QT):=AW (Z0 Z00) Try.f151 Z5H [1,1,0,1,0,0] (Z0Q a b f x17) (xT N0 (xB 0 (SW (Z0 Z00) Try.f151 Z5H [1,1,1] Q)))
theorem Zj9(a b:List Tree)(f:Unit)(x17:Int)(N0:NT)(Q:QT)(h:((decide (x17 < (a.length:Int)))=true→((0:Int)≤x17∧x17 < (a.length:Int))∧(((0:Int)≤x17∧x17 < (b.length:Int))∧((Z18 ((Tree.mk (Tree.kind (a.getD x17.toNat Tree.nil)) (Tree.words (a.getD x17.toNat Tree.nil)) (Tree.kids (a.getD x17.toNat Tree.nil))),(Tree.mk (Tree.kind (b.getD x17.toNat Tree.nil)) (Tree.words (b.getD x17.toNat Tree.nil)) (Tree.kids (b.getD x17.toNat Tree.nil))),()))∧(((!(Yr (Z5 (Tree.mk (Tree.kind (a.getD x17.toNat Tree.nil)) (Tree.words (a.getD x17.toNat Tree.nil)) (Tree.kids (a.getD x17.toNat Tree.nil)))) (Z5 (Tree.mk (Tree.kind (b.getD x17.toNat Tree.nil)) (Tree.words (b.getD x17.toNat Tree.nil)) (Tree.kids (b.getD x17.toNat Tree.nil))))))=true→Q .ret (L2 [(6,.c (.bool false))] []))∧((!(Yr (Z5 (Tree.mk (Tree.kind (a.getD x17.toNat Tree.nil)) (Tree.words (a.getD x17.toNat Tree.nil)) (Tree.kids (a.getD x17.toNat Tree.nil)))) (Z5 (Tree.mk (Tree.kind (b.getD x17.toNat Tree.nil)) (Tree.words (b.getD x17.toNat Tree.nil)) (Tree.kids (b.getD x17.toNat Tree.nil))))))=false→(InR (x17+1))∧(N0 (Z0Q a b f (x17+1))))))))∧((decide (x17 < (a.length:Int)))=false→Q .ret (L2 [(6,.c (.bool true))] []))):
  Zhy a b f x17 N0 Q:=by
 have e_:(Zhy a b f x17 N0 Q)=(let zz0:=(!(Yr (Z5 (Tree.mk (Tree.kind (a.getD x17.toNat Tree.nil)) (Tree.words (a.getD x17.toNat Tree.nil)) (Tree.kids (a.getD x17.toNat Tree.nil)))) (Z5 (Tree.mk (Tree.kind (b.getD x17.toNat Tree.nil)) (Tree.words (b.getD x17.toNat Tree.nil)) (Tree.kids (b.getD x17.toNat Tree.nil))))));(((decide ((x17:Int) < (a.length:Int)))=true→((0:Int)≤x17∧x17 < (a.length:Int))∧(((0:Int)≤x17∧x17 < (b.length:Int))∧((Z18 ((Tree.mk (Tree.kind (a.getD x17.toNat Tree.nil)) (Tree.words (a.getD x17.toNat Tree.nil)) (Tree.kids (a.getD x17.toNat Tree.nil))),(Tree.mk (Tree.kind (b.getD x17.toNat Tree.nil)) (Tree.words (b.getD x17.toNat Tree.nil)) (Tree.kids (b.getD x17.toNat Tree.nil))),()))∧((zz0=true→(Q .ret (L2 [(6,.c (.bool false))] [])))∧(zz0=false→(InR ((x17:Int)+1))∧(N0 (Z0Q a b f ((x17:Int)+1))))))))∧((decide ((x17:Int) < (a.length:Int)))=false→(Q .ret (L2 [(6,.c (.bool true))] []))))):=by kernel_rfl
 exact e_.mpr ⟨fun c_5=> ⟨(h.1 c_5).1,⟨(h.1 c_5).2.1,⟨(h.1 c_5).2.2.1,⟨fun c_6=> ((h.1 c_5).2.2.2.1 c_6),fun c_6=> ⟨((h.1 c_5).2.2.2.2 c_6).1,((h.1 c_5).2.2.2.2 c_6).2⟩⟩⟩⟩⟩,fun c_5=> (h.2 c_5)⟩
def Zol(a b:List Tree)(f:Unit):Prop:=AW (Z0 Z00) Try.f151 Z5H [] (Zl (Zhf.can (a,b,f,())) []) (EQ Try.f151 (ZjR (a,b,f,())) [])
theorem Znc(ZiI:CT 106 Z0t)(hb:∀ (a:List Tree) (b:List Tree) (f:Unit) (_:Unit),Z9m (a,b,f,())→Zol a b f):CT 151 Z3I:=
 Z4 (l:=[(106,Z0t)]) Zk rfl (⟨ZiI,trivial⟩) Z5H Try.func151 rfl rfl 3 (fun _=> rfl) (by decide) (fun ⟨a,b,f,_⟩=> hb a b f ())
end
end
end Go.AM.Ytpjenobkibfpcaa
namespace Go.AM.Ytpjenobkibfpcaa
open Go.AM Go.Proofs
theorem ZqV:Contract Try.prog cfg 151 Z3I:=by
 refine Znc ZiI ?_
 intro a b f _ hp
 simp only [Z9m] at hp
 refine Zsj a b f _ ?_
 (simp only [vcS])
 refine ⟨fun hc=> Z2 rfl (Zlm (a:=Z8 a) (b:=Z8 b) (fun h=> hc (by have:=congrArg List.length h;simp [Z8] at this;omega))).symm,fun hc=> ?_⟩
 have hl:a.length=b.length:=by omega
 have hla:=Zr a
 refine Zc (ι:=Int) (fun i=> Z0Q a b f i) (fun i=> 0≤i∧i≤a.length∧∀ j:Nat,(j:Int) < i→Z5 (a.getD j Tree.nil)=Z5 (b.getD j Tree.nil)) (fun i=> ((a.length:Int) - i).toNat) 0 rfl ⟨by omega,by omega,by intro j hj;omega⟩ ?_
 rintro i ⟨h1,h2,h3⟩
 refine Zj9 a b f _ _ _ ?_
 (simp only [vcS])
 (simp only [Tree.eta,Edit.eta,Tree.kind_mk,Tree.words_mk,Tree.kids_mk])
 refine ⟨fun hi=> ⟨⟨h1,hi⟩,⟨h1,by omega⟩,?_,fun hq=> ?_,fun hq=> ⟨by unfold InR;omega,i+1,rfl,⟨by omega,by omega,?_⟩,by omega⟩⟩,fun hi=> ?_⟩
 ·have:=YX (Zp (l:=a) (i:=i.toNat) (by omega) Tree.nil)
  have:=YX (Zp (l:=b) (i:=i.toNat) (by omega) Tree.nil)
  simp only [Z18];omega
 ·refine Z2 rfl (Zlm (a:=Z8 a) (b:=Z8 b) (fun h=> ?_)).symm
  have h5:=ZdM (d:=Tree.nil) h i.toNat
  rw [YK] at hq
  exact hq h5
 ·intro j hj
  by_cases hj2:(j:Int) < i
  ·exact h3 j hj2
  ·rw [JN,show i.toNat=j by omega] at hq
   exact hq
 ·exact Z2 rfl (Z6i (a:=Z8 a) (b:=Z8 b).2 (Zdv Tree.nil hl (fun j hj=> h3 j (by omega)))).symm
end Go.AM.Ytpjenobkibfpcaa
namespace Go.AM.Ytpjenobkibfpcaa
open Go.AM Go.Proofs
noncomputable section
def Ze2:ArgL (List Int × Unit):=(.cons (aSl .u64) .nil)
def Z5u(a:List Int × Unit):Prop:=a.1.length≤1000000000000
def Z5q(a:List Int × Unit):List Int:=a.1
def Z1V:Fs U:=fsL Ze2 (fun a=> [Z5u a]) .u64 Z5q
def Zhg:ArgL (List Tree × Unit):=(.cons (aSl .tree) .nil)
def Z9n(a:List Tree × Unit):Prop:=a.1.length≤1000000000000
def Z8h(a:List Tree × Unit):List Tree:=a.1
def Z3J:Fs U:=fsL Zhg (fun a=> [Z9n a]) .tree Z8h
def Z7d:ArgL (Edit × Tree × Unit):=(.cons (aEl .edit) (.cons (aEl .tree) .nil))
def Z1Z(a:Edit × Tree × Unit):Prop:=(Ze a.1≤20000000000∧ZL a.1∧∃ d,Z3 a.1 d=true)∧Zg a.2.1+ctE a.1≤200000000000∧rng a.2.1
def Zah(a:Edit × Tree × Unit):Nat:=2*Ze a.1+1
def Z3a(a:Edit × Tree × Unit):V U:= .tup [(true,(enc .tree (Z86 a.1 a.2.1))),(false,[.bool ((doE false a.1 a.2.1).isSome)])]
def Z6v:Fs U:=fs Z7d (fun a=> [Z1Z a]) Z3a
def Z4e:ArgL (Edit × Tree × Unit):=(.cons (aEl .edit) (.cons (aEl .tree) .nil))
def Z2E(a:Edit × Tree × Unit):Prop:=Edit.kind a.1=2∧(Ze a.1≤20000000000∧ZL a.1∧∃ d,Z3 a.1 d=true)∧Zg a.2.1+ctE a.1≤200000000000∧rng a.2.1
def Z7H(a:Edit × Tree × Unit):Nat:=2*Ze a.1
def Z2y(a:Edit × Tree × Unit):V U:= .tup [(true,(enc .tree (Z2R (Z85 false a.1 a.2.1)))),(false,[.bool ((Z85 false a.1 a.2.1).isSome)])]
def ZfR:Fs U:=fs Z4e (fun a=> [Z2E a]) Z2y
def Z4d:ArgL (Edit × Tree × Unit):=(.cons (aEl .edit) (.cons (aEl .tree) .nil))
def Z2D(a:Edit × Tree × Unit):Prop:=Edit.kind a.1=3∧(Ze a.1≤20000000000∧ZL a.1∧∃ d,Z3 a.1 d=true)∧Zg a.2.1+ctE a.1≤200000000000∧rng a.2.1
def Z7G(a:Edit × Tree × Unit):Nat:=2*Ze a.1
def Z2x(a:Edit × Tree × Unit):V U:= .tup [(true,(enc .tree (ZkR a.1 (Z4j false a.1 a.2.1)))),(false,[.bool ((Z2J (Z4j false a.1 a.2.1)).isSome)])]
def ZfQ:Fs U:=fs Z4d (fun a=> [Z2D a]) Z2x
def ZdF:List (FuncId × Fs U):=[]
def ZeP:Zh U:=fun i=> match i with
 | 0=> ([(0,[])],[])
 | 1=> ([(0,[]),(4,[])],[])
 | 2=> ([(2,[.wr .u64])],[])
 | 3=> ([(2,[.wr .u64])],[])
 | _=> ([],[])
abbrev Ztr(p:List Nat):=AW (Z9O ZdF) Try.f109 ZeP p
theorem Zpq(l:List Int)(Q:QT)(h:(((l=[])→(Q .ret (⟨[(2,.c (.mref (.e 2 0)))],[],[(.e 2 0,LC.mk (U:=U) .u64 [] 0)]⟩:LSt U)))∧(True→((([]:List Int).length+l.length)*8≤140737488355328)∧(Q .ret (⟨[(2,.c (.mref (.e 2 0)))],[],[(.e 2 0,LC.mk (U:=U) .u64 (([]:List Int)++l) (([]:List Int).length))]⟩:LSt U))))):
  Ztr [] (L2 [(0,.c (sU .u64 l .unk))] []) Q:=
 Eq.mpr (by kernel_rfl) h
def Zm7(l:List Int):Prop:=AW (Z9O ZdF) Try.f109 ZeP [] (Zl (Ze2.can (l,())) []) (Z1R cfg Try.f109.ntmps Try.f109.results.toList (.c (.mref (.r 0 0))) [] [(.r 0 0,LC.mk (U:=U) .u64 (Z5q (l,())) 0)])
theorem ZkC(hb:∀ (l:List Int) (_:Unit),Z5u (l,())→Zm7 l):CT 109 Z1V:=
 Z3F (l:=[]) Zk rfl trivial ZeP Try.func109 rfl rfl 1 (fun _=> rfl) (by decide) (fun ⟨l,_⟩=> hb l ())
def ZgO:List (FuncId × Fs U):=[]
def ZkJ:Zh U:=fun i=> match i with
 | 0=> ([(0,[])],[])
 | 1=> ([(0,[]),(4,[])],[])
 | 2=> ([(2,[.wr .tree])],[])
 | 3=> ([(2,[.wr .tree])],[])
 | _=> ([],[])
abbrev Zug(p:List Nat):=AW (Z9O ZgO) Try.f150 ZkJ p
theorem Zsk(l:List Tree)(Q:QT)(h:(((l=[])→(Q .ret (⟨[(2,.c (.mref (.e 2 0)))],[],[(.e 2 0,LC.mk (U:=U) .tree [] 0)]⟩:LSt U)))∧(True→((([]:List Tree).length+l.length)*56≤140737488355328)∧(Q .ret (⟨[(2,.c (.mref (.e 2 0)))],[],[(.e 2 0,LC.mk (U:=U) .tree (([]:List Tree)++l) (([]:List Tree).length))]⟩:LSt U))))):
  Zug [] (L2 [(0,.c (sU .tree l .unk))] []) Q:=
 Eq.mpr (by kernel_rfl) h
def Zom(l:List Tree):Prop:=AW (Z9O ZgO) Try.f150 ZkJ [] (Zl (Zhg.can (l,())) []) (Z1R cfg Try.f150.ntmps Try.f150.results.toList (.c (.mref (.r 0 0))) [] [(.r 0 0,LC.mk (U:=U) .tree (Z8h (l,())) 0)])
theorem Znd(hb:∀ (l:List Tree) (_:Unit),Z9n (l,())→Zom l):CT 150 Z3J:=
 Z3F (l:=[]) Zk rfl trivial ZkJ Try.func150 rfl rfl 1 (fun _=> rfl) (by decide) (fun ⟨l,_⟩=> hb l ())
def Z71(N:Nat):List (FuncId × Fs U):=(70,fs Z7d (fun a=> [Z1Z a,Zah a < N]) Z3a) ::(107,fs Z4e (fun a=> [Z2E a,Z7H a < N]) Z2y) ::(108,fs Z4d (fun a=> [Z2D a,Z7G a < N]) Z2x) ::[(106,Z0t),(149,Z0r),(91,Z0l),(151,Z3I),(150,Z3J),(66,Z2m),(109,Z1V)]
def Zqp:Zh U:=lvl [([2,3,4],[2,3,4]),([2,3,4,7],[2,3,4]),([2,3,4,7,8],[2,3,4]),([4,5],[4]),([2,3,4,7,11],[2,3,4]),([4,5],[4]),([2,3,4,7,19],[2,3,4]),([4,5],[4]),([2,3,4,26],[2,3,4]),([4,5],[4]),([4,5],[4])]
abbrev A70(N:Nat)(p:List Nat):=AW (Z0 (Z71 N)) Try.f70 Zqp p
theorem ZtH(N:Nat)(e:Edit)(t:Tree)(Q:QT)(h:∀ y_1,y_1=e→∀ y_2,y_2=t→∀ y_3,y_3=(e.old)→(((e.kind==0)=true→(Q .ret (L2 [(4,.ptr (.loc 4) 0),(5,.c (.bool true))] [(.loc 4,(enc .tree t))])))∧((e.kind==0)=false→(((e.kind==1)=true→(Z18 (y_3,y_2,()))∧(Q .ret (L2 [(4,.ptr (.loc 4) 0),(5,.c (.bool (Yr (Z5 y_3) (Z5 y_2))))] [(.loc 4,(enc .tree e.new))])))∧((e.kind==1)=false→(((e.kind==2)=true→(Z2E (y_1,y_2,()))∧(Z7H (y_1,y_2,()) < N)∧(Q .ret (L2 [(4,.ptr (.loc 4) 0),(5,.c (.bool ((Z85 false y_1 y_2).isSome)))] [(.loc 4,(enc .tree (Z2R (Z85 false y_1 y_2))))])))∧((e.kind==2)=false→(((e.kind==3)=true→(Z2D (y_1,y_2,()))∧(Z7G (y_1,y_2,()) < N)∧(Q .ret (L2 [(4,.ptr (.loc 4) 0),(5,.c (.bool ((Z2J (Z4j false y_1 y_2)).isSome)))] [(.loc 4,(enc .tree (ZkR y_1 (Z4j false y_1 y_2))))])))∧((e.kind==3)=false→(Q .ret (L2 [(4,.ptr (.loc 4) 0),(5,.c (.bool false))] [(.loc 4,[ci 0,.nils,.nils])]))))))))))):
  A70 N [] (L2 [(0,.agg (enc .edit e)),(1,.agg (enc .tree t))] []) Q:=
 Eq.mpr (by kernel_rfl) (h _ (Zm _) _ (Zb _) _ (Zb _))
def ZrE(N:Nat)(e:Edit)(t:Tree):Prop:=AW (Z0 (Z71 N)) Try.f70 Zqp [] (Zl (Z7d.can (e,t,())) []) (EQ Try.f70 (Z3a (e,t,())) [])
abbrev Ztm:Prop:=∀ (N:Nat) (e:Edit) (t:Tree) (_:Unit),Z1Z (e,t,())→Zah (e,t,()) < N+1→ZrE N e t
def ZbZ(N:Nat):List (FuncId × Fs U):=(70,fs Z7d (fun a=> [Z1Z a,Zah a < N]) Z3a) ::(107,fs Z4e (fun a=> [Z2E a,Z7H a < N]) Z2y) ::(108,fs Z4d (fun a=> [Z2D a,Z7G a < N]) Z2x) ::[(106,Z0t),(149,Z0r),(91,Z0l),(151,Z3I),(150,Z3J),(66,Z2m),(109,Z1V)]
def ZgB:Zh U:=fun i=> match i with
 | 0=> ([(2,[]),(3,[]),(4,[])],[(.loc 2,[]),(.loc 3,[]),(.loc 4,[])])
 | 1=> ([(2,[]),(3,[]),(4,[]),(16,[])],[(.loc 2,[]),(.loc 3,[]),(.loc 4,[])])
 | 2=> ([(4,[]),(5,[])],[(.loc 4,[])])
 | 3=> ([(2,[]),(3,[]),(4,[]),(6,[])],[(.loc 2,[]),(.loc 3,[]),(.loc 4,[]),(.loc 6,[.any,.wr .u64,.wr .tree])])
 | 4=> ([(2,[]),(3,[]),(4,[]),(6,[]),(26,[]),(27,[]),(28,[])],[(.loc 2,[]),(.loc 3,[]),(.loc 4,[]),(.loc 6,[.any,.wr .u64,.wr .tree])])
 | 5=> ([(2,[]),(3,[]),(4,[]),(6,[]),(26,[]),(27,[]),(28,[]),(29,[])],[(.loc 2,[]),(.loc 3,[]),(.loc 4,[]),(.loc 6,[.any,.wr .u64,.wr .tree])])
 | 6=> ([(2,[]),(3,[]),(4,[]),(6,[]),(8,[]),(26,[]),(27,[]),(28,[])],[(.loc 2,[]),(.loc 3,[]),(.loc 4,[]),(.loc 6,[.any,.wr .u64,.wr .tree]),(.loc 8,[])])
 | 7=> ([(2,[]),(3,[]),(4,[]),(6,[]),(8,[]),(9,[]),(26,[]),(27,[]),(28,[])],[(.loc 2,[]),(.loc 3,[]),(.loc 4,[]),(.loc 6,[.any,.wr .u64,.wr .tree]),(.loc 8,[])])
 | 8=> ([(2,[]),(3,[]),(4,[]),(6,[]),(8,[]),(9,[]),(26,[]),(27,[]),(28,[]),(42,[])],[(.loc 2,[]),(.loc 3,[]),(.loc 4,[]),(.loc 6,[.any,.wr .u64,.wr .tree]),(.loc 8,[])])
 | 9=> ([(4,[]),(5,[])],[(.loc 4,[])])
 | 10=> ([(2,[]),(3,[]),(4,[]),(6,[]),(8,[]),(9,[]),(26,[]),(27,[]),(28,[]),(42,[]),(49,[])],[(.loc 2,[]),(.loc 3,[]),(.loc 4,[]),(.loc 6,[.any,.wr .u64,.wr .tree]),(.loc 8,[])])
 | 11=> ([(2,[]),(3,[]),(4,[]),(6,[]),(8,[]),(9,[]),(26,[]),(27,[]),(28,[]),(42,[])],[(.loc 2,[]),(.loc 3,[]),(.loc 4,[]),(.loc 6,[.any,.wr .u64,.wr .tree]),(.loc 8,[])])
 | 12=> ([(2,[]),(3,[]),(4,[]),(6,[]),(26,[]),(27,[]),(28,[])],[(.loc 2,[]),(.loc 3,[]),(.loc 4,[]),(.loc 6,[.any,.wr .u64,.wr .tree])])
 | 13=> ([(2,[]),(3,[]),(4,[]),(6,[]),(26,[]),(27,[]),(28,[])],[(.loc 2,[]),(.loc 3,[]),(.loc 4,[]),(.loc 6,[.any,.wr .u64,.wr .tree])])
 | 14=> ([(3,[]),(4,[]),(6,[]),(68,[]),(69,[]),(70,[])],[(.loc 3,[]),(.loc 4,[]),(.loc 6,[.any,.wr .u64,.wr .tree])])
 | 15=> ([(3,[]),(4,[]),(6,[]),(68,[]),(69,[]),(70,[]),(71,[])],[(.loc 3,[]),(.loc 4,[]),(.loc 6,[.any,.wr .u64,.wr .tree])])
 | 16=> ([(3,[]),(4,[]),(6,[]),(11,[]),(68,[]),(69,[]),(70,[])],[(.loc 3,[]),(.loc 4,[]),(.loc 6,[.any,.wr .u64,.wr .tree]),(.loc 11,[])])
 | 17=> ([(3,[]),(4,[]),(6,[]),(11,[]),(12,[]),(13,[]),(68,[]),(69,[]),(70,[])],[(.loc 3,[]),(.loc 4,[]),(.loc 6,[.any,.wr .u64,.wr .tree]),(.loc 11,[]),(.loc 12,[])])
 | 18=> ([(3,[]),(4,[]),(6,[]),(11,[]),(12,[]),(68,[]),(69,[]),(70,[]),(85,[])],[(.loc 3,[]),(.loc 4,[]),(.loc 6,[.any,.wr .u64,.wr .tree]),(.loc 11,[]),(.loc 12,[])])
 | 19=> ([(4,[]),(5,[])],[(.loc 4,[])])
 | 20=> ([(3,[]),(4,[]),(6,[]),(11,[]),(12,[]),(68,[]),(69,[]),(70,[]),(85,[]),(92,[])],[(.loc 3,[]),(.loc 4,[]),(.loc 6,[.any,.wr .u64,.wr .tree]),(.loc 11,[]),(.loc 12,[])])
 | 21=> ([(3,[]),(4,[]),(6,[]),(11,[]),(12,[]),(68,[]),(69,[]),(70,[]),(85,[])],[(.loc 3,[]),(.loc 4,[]),(.loc 6,[.any,.wr .u64,.wr .tree]),(.loc 11,[]),(.loc 12,[])])
 | 22=> ([(3,[]),(4,[]),(6,[]),(68,[]),(69,[]),(70,[])],[(.loc 3,[]),(.loc 4,[]),(.loc 6,[.any,.wr .u64,.wr .tree])])
 | 23=> ([(3,[]),(4,[]),(6,[]),(68,[]),(69,[]),(70,[])],[(.loc 3,[]),(.loc 4,[]),(.loc 6,[.any,.wr .u64,.wr .tree])])
 | 24=> ([(4,[]),(5,[])],[(.loc 4,[])])
 | _=> ([],[])
def Z49(e:Edit)(t:Tree)(x28:Int)(rl_6_1:List Int):LSt U:=(⟨[(2,.ptr (.loc 2) 0),(3,.ptr (.loc 3) 0),(4,.ptr (.loc 4) 0),(6,.ptr (.loc 6) 0),(26,.c (sU .wedit e.words .unk)),(27,.c (ci (e.words.length:Int))),(28,.c (ci x28))],[(.loc 2,(enc .edit e)),(.loc 3,(enc .tree t)),(.loc 4,[ci 0,.nils,.nils]),(.loc 6,[ci 1,.mref (.l 6 1),.mref (.l 6 2)])],[(.l 6 1,LC.mk (U:=U) .u64 rl_6_1 0),(.l 6 2,LC.mk (U:=U) .tree t.kids 0)]⟩:LSt U)
def Z48(e:Edit)(t:Tree)(x28:Int)(rl_6_1_a:List Int):LSt U:=(⟨[(2,.ptr (.loc 2) 0),(3,.ptr (.loc 3) 0),(4,.ptr (.loc 4) 0),(6,.ptr (.loc 6) 0),(8,.ptr (.loc 8) 0),(9,.c (.int .u64 (YI (Tree.mk t.kind t.words t.kids) (WEdit.at_ (e.words.getD x28.toNat (WEdit.mk 0 0 0 0)))))),(26,.c (sU .wedit e.words .unk)),(27,.c (ci (e.words.length:Int))),(28,.c (ci x28)),(42,.c (.bool (((mix 0 (YI (Tree.mk t.kind t.words t.kids) (WEdit.at_ (e.words.getD x28.toNat (WEdit.mk 0 0 0 0)))) (WEdit.mask (e.words.getD x28.toNat (WEdit.mk 0 0 0 0)))):Int) !=(WEdit.old (e.words.getD x28.toNat (WEdit.mk 0 0 0 0))))))],[(.loc 2,(enc .edit e)),(.loc 3,(enc .tree t)),(.loc 4,[ci 0,.nils,.nils]),(.loc 6,[ci 1,.mref (.l 6 1),.mref (.l 6 2)]),(.loc 8,(enc .wedit (e.words.getD x28.toNat (WEdit.mk 0 0 0 0))))],[(.l 6 1,LC.mk (U:=U) .u64 rl_6_1_a 0),(.l 6 2,LC.mk (U:=U) .tree t.kids 0)]⟩:LSt U)
def Z47(e:Edit)(t:Tree)(rl_6_1:List Int)(x70_b:Int)(rl_6_2_b:List Tree):LSt U:=(⟨[(3,.ptr (.loc 3) 0),(4,.ptr (.loc 4) 0),(6,.ptr (.loc 6) 0),(68,.c (sU .kid e.kids .unk)),(69,.c (ci (e.kids.length:Int))),(70,.c (ci x70_b))],[(.loc 3,(enc .tree t)),(.loc 4,[ci 0,.nils,.nils]),(.loc 6,[ci 1,.mref (.l 6 1),.mref (.l 6 2)])],[(.l 6 1,LC.mk (U:=U) .u64 rl_6_1 0),(.l 6 2,LC.mk (U:=U) .tree rl_6_2_b 0)]⟩:LSt U)
def Z46(e:Edit)(t:Tree)(rl_6_1:List Int)(x70_b:Int)(rl_6_2_c:List Tree):LSt U:=(⟨[(3,.ptr (.loc 3) 0),(4,.ptr (.loc 4) 0),(6,.ptr (.loc 6) 0),(11,.ptr (.loc 11) 0),(12,.ptr (.loc 12) 0),(68,.c (sU .kid e.kids .unk)),(69,.c (ci (e.kids.length:Int))),(70,.c (ci x70_b)),(85,.c (.bool (!((doE false (Edit.mk (Edit.kind (KidOf.e (e.kids.getD x70_b.toNat (KidOf.mk 0 Edit.nil)))) (Tree.mk (Tree.kind (Edit.old (KidOf.e (e.kids.getD x70_b.toNat (KidOf.mk 0 Edit.nil))))) (Tree.words (Edit.old (KidOf.e (e.kids.getD x70_b.toNat (KidOf.mk 0 Edit.nil))))) (Tree.kids (Edit.old (KidOf.e (e.kids.getD x70_b.toNat (KidOf.mk 0 Edit.nil)))))) (Tree.mk (Tree.kind (Edit.new (KidOf.e (e.kids.getD x70_b.toNat (KidOf.mk 0 Edit.nil))))) (Tree.words (Edit.new (KidOf.e (e.kids.getD x70_b.toNat (KidOf.mk 0 Edit.nil))))) (Tree.kids (Edit.new (KidOf.e (e.kids.getD x70_b.toNat (KidOf.mk 0 Edit.nil)))))) (Edit.words (KidOf.e (e.kids.getD x70_b.toNat (KidOf.mk 0 Edit.nil)))) (Edit.kids (KidOf.e (e.kids.getD x70_b.toNat (KidOf.mk 0 Edit.nil)))) (Edit.list (KidOf.e (e.kids.getD x70_b.toNat (KidOf.mk 0 Edit.nil)))) (Edit.ops (KidOf.e (e.kids.getD x70_b.toNat (KidOf.mk 0 Edit.nil))))) (Tree.mk (Tree.kind (Yu (Tree.mk t.kind t.words t.kids) (KidOf.at_ (e.kids.getD x70_b.toNat (KidOf.mk 0 Edit.nil))))) (Tree.words (Yu (Tree.mk t.kind t.words t.kids) (KidOf.at_ (e.kids.getD x70_b.toNat (KidOf.mk 0 Edit.nil))))) (Tree.kids (Yu (Tree.mk t.kind t.words t.kids) (KidOf.at_ (e.kids.getD x70_b.toNat (KidOf.mk 0 Edit.nil))))))).isSome))))],[(.loc 3,(enc .tree t)),(.loc 4,[ci 0,.nils,.nils]),(.loc 6,[ci 1,.mref (.l 6 1),.mref (.l 6 2)]),(.loc 11,(enc .kid (e.kids.getD x70_b.toNat (KidOf.mk 0 Edit.nil)))),(.loc 12,(enc .tree (Z86 (Edit.mk (Edit.kind (KidOf.e (e.kids.getD x70_b.toNat (KidOf.mk 0 Edit.nil)))) (Tree.mk (Tree.kind (Edit.old (KidOf.e (e.kids.getD x70_b.toNat (KidOf.mk 0 Edit.nil))))) (Tree.words (Edit.old (KidOf.e (e.kids.getD x70_b.toNat (KidOf.mk 0 Edit.nil))))) (Tree.kids (Edit.old (KidOf.e (e.kids.getD x70_b.toNat (KidOf.mk 0 Edit.nil)))))) (Tree.mk (Tree.kind (Edit.new (KidOf.e (e.kids.getD x70_b.toNat (KidOf.mk 0 Edit.nil))))) (Tree.words (Edit.new (KidOf.e (e.kids.getD x70_b.toNat (KidOf.mk 0 Edit.nil))))) (Tree.kids (Edit.new (KidOf.e (e.kids.getD x70_b.toNat (KidOf.mk 0 Edit.nil)))))) (Edit.words (KidOf.e (e.kids.getD x70_b.toNat (KidOf.mk 0 Edit.nil)))) (Edit.kids (KidOf.e (e.kids.getD x70_b.toNat (KidOf.mk 0 Edit.nil)))) (Edit.list (KidOf.e (e.kids.getD x70_b.toNat (KidOf.mk 0 Edit.nil)))) (Edit.ops (KidOf.e (e.kids.getD x70_b.toNat (KidOf.mk 0 Edit.nil))))) (Tree.mk (Tree.kind (Yu (Tree.mk t.kind t.words t.kids) (KidOf.at_ (e.kids.getD x70_b.toNat (KidOf.mk 0 Edit.nil))))) (Tree.words (Yu (Tree.mk t.kind t.words t.kids) (KidOf.at_ (e.kids.getD x70_b.toNat (KidOf.mk 0 Edit.nil))))) (Tree.kids (Yu (Tree.mk t.kind t.words t.kids) (KidOf.at_ (e.kids.getD x70_b.toNat (KidOf.mk 0 Edit.nil)))))))))],[(.l 6 1,LC.mk (U:=U) .u64 rl_6_1 0),(.l 6 2,LC.mk (U:=U) .tree rl_6_2_c 0)]⟩:LSt U)
abbrev Zcx(N:Nat)(p:List Nat):=AW (Z0 (ZbZ N)) Try.f107 ZgB p
abbrev Z4k(N:Nat)(p:List Nat):=SW (Z0 (ZbZ N)) Try.f107 ZgB p
theorem ZsA(N:Nat)(e:Edit)(t:Tree)(Q:QT)(h:(((t.kind !=1)=true→(Q .ret (L2 [(4,.ptr (.loc 4) 0),(5,.c (.bool false))] [(.loc 4,[ci 0,.nils,.nils])])))∧((t.kind !=1)=false→(Z5u (t.words,()))∧(Z9n (t.kids,()))∧(Zj (Zcx N [1,1,1,0,1,0,0]) (Z49 e t 0 t.words) (xB 0 (Z4k N [1,1,1,1] Q)))))):
  Zcx N [] (L2 [(0,.agg (enc .edit e)),(1,.agg (enc .tree t))] []) Q:=
 Eq.mpr (by kernel_rfl) h
theorem Zjl(N:Nat)(e:Edit)(t:Tree)(x28:Int)(rl_6_1:List Int)(N0:NT)(Q:QT)(h:∀ y_1,y_1=t→∀ y_2,y_2=(e.words.getD x28.toNat (WEdit.mk 0 0 0 0))→let z1:=decide (x28 < (e.words.length:Int));let z0:=((mix 0 (YI y_1 y_2.at_) y_2.mask):Int) !=y_2.old;((z1=true→((0:Int)≤x28∧x28 < (e.words.length:Int))∧((Z6E (y_1,y_2.at_,()))∧((Z3e (0,(YI y_1 y_2.at_),y_2.mask,()))∧((z0=true→(Q .ret (L2 [(4,.ptr (.loc 4) 0),(5,.c (.bool false))] [(.loc 4,[ci 0,.nils,.nils])])))∧(z0=false→Zj (Zcx N [1,1,1,0,1,0,0,1,1,0,0,1,1,1,0,0,0]) (Z48 e t x28 rl_6_1) (xB 2 (Z4k N [1,1,1,0,1,0,0,1,1,0,0,1,1,1,1] (xB 1 (Z4k N [1,1,1,0,1,0,0,1,1,1] (xT N0 (xB 0 (Z4k N [1,1,1,1] Q))))))))))))∧(z1=false→(Zj (Zcx N [1,1,1,1,0,1,0,0]) (Z47 e t rl_6_1 0 t.kids) (xB 4 (Z4k N [1,1,1,1,1] Q)))))):
  Zcx N [1,1,1,0,1,0,0] (Z49 e t x28 rl_6_1) (xT N0 (xB 0 (Z4k N [1,1,1,1] Q))):=
 Eq.mpr (by kernel_rfl) (h _ (Zb _) _ rfl)
theorem Zjk(N:Nat)(e:Edit)(t:Tree)(x28:Int)(rl_6_1_a:List Int)(N1 N0:NT)(Q:QT)(h:let z0:=e.words.getD x28.toNat (WEdit.mk 0 0 0 0);let z2:=YI (Tree.mk t.kind t.words t.kids) (WEdit.at_ z0);let z1:=decide (((rl_6_1_a.length:Int):Int)≤(WEdit.at_ z0));((z1=true→((rl_6_1_a.length+([0]).length)*8≤140737488355328)∧(N1 (Z48 e t x28 (rl_6_1_a++([0])))))∧(z1=false→(Z3e (z2,(WEdit.new z0),(WEdit.mask z0),()))∧((0:Int)≤(WEdit.at_ z0)∧(WEdit.at_ z0) < (rl_6_1_a.length:Int))∧((0:Nat)≤(Int.toNat (WEdit.at_ z0)))∧((InR (x28+1))∧(N0 (Z49 e t (x28+1) (List.set rl_6_1_a (Int.toNat (WEdit.at_ z0)) (mix z2 (WEdit.new z0) (WEdit.mask z0))))))))):
  Zcx N [1,1,1,0,1,0,0,1,1,0,0,1,1,1,0,0,0] (Z48 e t x28 rl_6_1_a) (xT N1 (xB 2 (Z4k N [1,1,1,0,1,0,0,1,1,0,0,1,1,1,1] (xB 1 (Z4k N [1,1,1,0,1,0,0,1,1,1] (xT N0 (xB 0 (Z4k N [1,1,1,1] Q)))))))):=
 Eq.mpr (by kernel_rfl) h
theorem Zjj(N:Nat)(e:Edit)(t:Tree)(rl_6_1:List Int)(x70_b:Int)(rl_6_2_b:List Tree)(N2:NT)(Q:QT)(h:∀ y_1,y_1=t→∀ y_2,y_2=(e.kids.getD x70_b.toNat (KidOf.mk 0 Edit.nil))→∀ y_3,y_3=(y_2.e)→∀ y_4,y_4=(Yu y_1 y_2.at_)→let z1:= !((doE false y_3 y_4).isSome);let z0:=decide (x70_b < (e.kids.length:Int));((z0=true→((0:Int)≤x70_b∧x70_b < (e.kids.length:Int))∧((Z7v (y_1,y_2.at_,()))∧(Z1Z (y_3,y_4,()))∧(Zah (y_3,y_4,()) < N)∧((z1=true→(Q .ret (L2 [(4,.ptr (.loc 4) 0),(5,.c (.bool false))] [(.loc 4,[ci 0,.nils,.nils])])))∧(z1=false→Zj (Zcx N [1,1,1,1,0,1,0,0,1,1,0,0,1,1,1,0,0,0]) (Z46 e t rl_6_1 x70_b rl_6_2_b) (xB 6 (Z4k N [1,1,1,1,0,1,0,0,1,1,0,0,1,1,1,1] (xB 5 (Z4k N [1,1,1,1,0,1,0,0,1,1,1] (xT N2 (xB 4 (Z4k N [1,1,1,1,1] Q)))))))))))∧(z0=false→(Q .ret (L2 [(4,.ptr (.loc 4) 0),(5,.c (.bool true))] [(.loc 4,[ci 1,sU .u64 rl_6_1 (.own (.l 4 1)),sU .tree rl_6_2_b (.own (.l 4 2))])]))))):
  Zcx N [1,1,1,1,0,1,0,0] (Z47 e t rl_6_1 x70_b rl_6_2_b) (xT N2 (xB 4 (Z4k N [1,1,1,1,1] Q))):=
 Eq.mpr (by kernel_rfl) (h _ (Zb _) _ rfl _ (Zm _) _ (Zb _))
theorem Zji(N:Nat)(e:Edit)(t:Tree)(rl_6_1:List Int)(x70_b:Int)(rl_6_2_c:List Tree)(N3 N2:NT)(Q:QT)(h:∀ y_1,y_1=t→∀ y_2,y_2=(e.kids.getD x70_b.toNat (KidOf.mk 0 Edit.nil))→∀ y_3,y_3=(y_2.e)→∀ y_4,y_4=(Yu y_1 y_2.at_)→∀ y_5,y_5=(Z86 y_3 y_4)→let z0:=decide (((rl_6_2_c.length:Int):Int)≤y_2.at_);((z0=true→((rl_6_2_c.length+([(Tree.mk 0 [] [])]).length)*56≤140737488355328)∧(N3 (Z46 e t rl_6_1 x70_b (rl_6_2_c++([(Tree.mk 0 [] [])])))))∧(z0=false→((0:Int)≤y_2.at_∧y_2.at_ < (rl_6_2_c.length:Int))∧((0:Nat)≤(Int.toNat y_2.at_))∧((InR (x70_b+1))∧(N2 (Z47 e t rl_6_1 (x70_b+1) (List.set rl_6_2_c (Int.toNat y_2.at_) y_5))))))):
  Zcx N [1,1,1,1,0,1,0,0,1,1,0,0,1,1,1,0,0,0] (Z46 e t rl_6_1 x70_b rl_6_2_c) (xT N3 (xB 6 (Z4k N [1,1,1,1,0,1,0,0,1,1,0,0,1,1,1,1] (xB 5 (Z4k N [1,1,1,1,0,1,0,0,1,1,1] (xT N2 (xB 4 (Z4k N [1,1,1,1,1] Q)))))))):=
 Eq.mpr (by kernel_rfl) (h _ (Zb _) _ rfl _ (Zm _) _ (Zb _) _ (Zb _))
def ZoC(N:Nat)(e:Edit)(t:Tree):Prop:=AW (Z0 (ZbZ N)) Try.f107 ZgB [] (Zl (Z4e.can (e,t,())) []) (EQ Try.f107 (Z2y (e,t,())) [])
abbrev Zpm:Prop:=∀ (N:Nat) (e:Edit) (t:Tree) (_:Unit),Z2E (e,t,())→Z7H (e,t,()) < N+1→ZoC N e t
def ZbY(N:Nat):List (FuncId × Fs U):=(70,fs Z7d (fun a=> [Z1Z a,Zah a < N]) Z3a) ::(107,fs Z4e (fun a=> [Z2E a,Z7H a < N]) Z2y) ::(108,fs Z4d (fun a=> [Z2D a,Z7G a < N]) Z2x) ::[(106,Z0t),(149,Z0r),(91,Z0l),(151,Z3I),(150,Z3J),(66,Z2m),(109,Z1V)]
def ZgA:Zh U:=fun i=> match i with
 | 0=> ([(2,[]),(3,[]),(4,[])],[(.loc 2,[]),(.loc 3,[]),(.loc 4,[])])
 | 1=> ([(2,[]),(3,[]),(4,[]),(18,[])],[(.loc 2,[]),(.loc 3,[]),(.loc 4,[])])
 | 2=> ([(4,[]),(5,[])],[(.loc 4,[])])
 | 3=> ([(2,[]),(3,[]),(4,[]),(6,[])],[(.loc 2,[]),(.loc 3,[]),(.loc 4,[]),(.loc 6,[])])
 | 4=> ([(2,[]),(4,[]),(6,[]),(7,[])],[(.loc 2,[]),(.loc 4,[]),(.loc 6,[])])
 | 5=> ([(4,[]),(6,[]),(7,[]),(26,[]),(27,[]),(28,[])],[(.loc 4,[]),(.loc 6,[.any,.any,.own .tree])])
 | 6=> ([(4,[]),(6,[]),(7,[]),(26,[]),(27,[]),(28,[]),(29,[])],[(.loc 4,[]),(.loc 6,[])])
 | 7=> ([(4,[]),(6,[]),(7,[]),(9,[]),(26,[]),(27,[]),(28,[])],[(.loc 4,[]),(.loc 6,[]),(.loc 9,[])])
 | 8=> ([(4,[]),(6,[]),(7,[]),(9,[]),(10,[]),(26,[]),(27,[]),(28,[])],[(.loc 4,[]),(.loc 6,[]),(.loc 9,[])])
 | 9=> ([(4,[]),(6,[]),(7,[]),(9,[]),(10,[]),(26,[]),(27,[]),(28,[]),(35,[])],[(.loc 4,[]),(.loc 6,[]),(.loc 9,[])])
 | 10=> ([(4,[]),(6,[]),(7,[]),(9,[]),(10,[]),(26,[]),(27,[]),(28,[]),(35,[]),(36,[])],[(.loc 4,[]),(.loc 6,[]),(.loc 9,[])])
 | 11=> ([(4,[]),(6,[]),(7,[]),(26,[]),(27,[]),(28,[]),(97,[])],[(.loc 4,[]),(.loc 6,[])])
 | 12=> ([(4,[]),(6,[]),(7,[]),(9,[]),(10,[]),(26,[]),(27,[]),(28,[]),(35,[]),(44,[])],[(.loc 4,[]),(.loc 6,[]),(.loc 9,[])])
 | 13=> ([(4,[]),(6,[]),(7,[]),(9,[]),(10,[]),(26,[]),(27,[]),(28,[]),(49,[])],[(.loc 4,[]),(.loc 6,[]),(.loc 9,[])])
 | 14=> ([(4,[]),(6,[]),(7,[]),(9,[]),(10,[]),(26,[]),(27,[]),(28,[]),(49,[])],[(.loc 4,[]),(.loc 6,[]),(.loc 9,[])])
 | 15=> ([(4,[]),(6,[]),(7,[]),(9,[]),(10,[]),(26,[]),(27,[]),(28,[]),(49,[])],[(.loc 4,[]),(.loc 6,[]),(.loc 9,[])])
 | 16=> ([(4,[]),(6,[]),(7,[]),(9,[]),(10,[]),(26,[]),(27,[]),(28,[]),(54,[])],[(.loc 4,[]),(.loc 6,[]),(.loc 9,[])])
 | 17=> ([(4,[]),(5,[])],[(.loc 4,[])])
 | 18=> ([(4,[]),(6,[]),(7,[]),(9,[]),(10,[]),(26,[]),(27,[]),(28,[])],[(.loc 4,[]),(.loc 6,[]),(.loc 9,[])])
 | 19=> ([(4,[]),(6,[]),(7,[]),(9,[]),(11,[]),(26,[]),(27,[]),(28,[])],[(.loc 4,[]),(.loc 6,[]),(.loc 9,[])])
 | 20=> ([(4,[]),(6,[]),(7,[]),(12,[]),(13,[]),(26,[]),(27,[]),(28,[])],[(.loc 4,[]),(.loc 6,[]),(.loc 12,[])])
 | 21=> ([(4,[]),(6,[]),(7,[]),(12,[]),(26,[]),(27,[]),(28,[]),(72,[])],[(.loc 4,[]),(.loc 6,[]),(.loc 12,[])])
 | 22=> ([(4,[]),(5,[])],[(.loc 4,[])])
 | 23=> ([(4,[]),(6,[]),(7,[]),(26,[]),(27,[]),(28,[]),(97,[])],[(.loc 4,[]),(.loc 6,[])])
 | 24=> ([(4,[]),(6,[]),(7,[]),(9,[]),(11,[]),(26,[]),(27,[]),(28,[]),(80,[])],[(.loc 4,[]),(.loc 6,[]),(.loc 9,[])])
 | 25=> ([(4,[]),(6,[]),(7,[]),(26,[]),(27,[]),(28,[]),(97,[])],[(.loc 4,[]),(.loc 6,[])])
 | 26=> ([(4,[]),(6,[]),(7,[]),(9,[]),(11,[]),(26,[]),(27,[]),(28,[]),(89,[])],[(.loc 4,[]),(.loc 6,[]),(.loc 9,[])])
 | 27=> ([(4,[]),(6,[]),(7,[]),(26,[]),(27,[]),(28,[]),(97,[])],[(.loc 4,[]),(.loc 6,[])])
 | 28=> ([(4,[]),(5,[])],[(.loc 4,[])])
 | 29=> ([(4,[]),(6,[]),(7,[]),(26,[]),(27,[]),(28,[])],[(.loc 4,[]),(.loc 6,[.any,.any,.own .tree])])
 | 30=> ([(4,[]),(5,[])],[(.loc 4,[])])
 | _=> ([],[])
def JV(e:Edit)(t:Tree)(x28:Int)(x7 ml6_2:List Tree):LSt U:=(L2 [(4,.ptr (.loc 4) 0),(6,.ptr (.loc 6) 0),(7,.c (sU .tree x7 .unk)),(26,.c (sU .op e.ops .unk)),(27,.c (ci (e.ops.length:Int))),(28,.c (ci x28))] [(.loc 4,[ci 0,.nils,.nils]),(.loc 6,[ci t.kind,.nils,sU .tree ml6_2 (.own (.l 6 2))])])
def Z0U(e:Edit)(t:Tree)(x28:Int)(x7_a ml6_2_a:List Tree)(v97_a:V U):LSt U:=(L2 [(4,.ptr (.loc 4) 0),(6,.ptr (.loc 6) 0),(7,.c (sU .tree x7_a .unk)),(26,.c (sU .op e.ops .unk)),(27,.c (ci (e.ops.length:Int))),(28,.c (ci x28)),(97,v97_a)] [(.loc 4,[ci 0,.nils,.nils]),(.loc 6,[ci t.kind,.nils,sU .tree ml6_2_a (.own (.l 6 2))])])
def Z45(e:Edit)(t:Tree)(x28:Int)(x7 ml6_2:List Tree)(x10_b:Int)(v49_b:V U):LSt U:=(L2 [(4,.ptr (.loc 4) 0),(6,.ptr (.loc 6) 0),(7,.c (sU .tree x7 .unk)),(9,.ptr (.loc 9) 0),(10,.c (ci x10_b)),(26,.c (sU .op e.ops .unk)),(27,.c (ci (e.ops.length:Int))),(28,.c (ci x28)),(49,v49_b)] [(.loc 4,[ci 0,.nils,.nils]),(.loc 6,[ci t.kind,.nils,sU .tree ml6_2 (.own (.l 6 2))]),(.loc 9,(enc .op (e.ops.getD x28.toNat Op.nil)))])
abbrev Z7f(N:Nat)(p:List Nat):=AW (Z0 (ZbY N)) Try.f108 ZgA p
abbrev Zcv(N:Nat)(p:List Nat):=SW (Z0 (ZbY N)) Try.f108 ZgA p
theorem Zsz(N:Nat)(e:Edit)(t:Tree)(Q:QT)(h:(((t.kind !=e.list)=true→(Q .ret (L2 [(4,.ptr (.loc 4) 0),(5,.c (.bool false))] [(.loc 4,[ci 0,.nils,.nils])])))∧((t.kind !=e.list)=false→(Zj (Z7f N [1,1,1,1,0,1,0,0]) (JV e t 0 t.kids []) (xB 0 (Zcv N [1,1,1,1,1] Q)))))):
  Z7f N [] (L2 [(0,.agg (enc .edit e)),(1,.agg (enc .tree t))] []) Q:=
 Eq.mpr (by kernel_rfl) h
theorem Zjg(N:Nat)(e:Edit)(t:Tree)(x28:Int)(x7 ml6_2:List Tree)(N0:NT)(Q:QT)(h:∀ y_1,y_1=(e.ops.getD x28.toNat Op.nil)→let z2:=decide (x28 < (e.ops.length:Int));let z1:=xT N0 (xB 0 (Zcv N [1,1,1,1,1] Q));let z0:=xB 1 (Zcv N [1,1,1,1,0,1,0,0,1,1,1] z1);((z2=true→((0:Int)≤x28∧x28 < (e.ops.length:Int))∧(((y_1.kind==2)=true→((ml6_2.length+y_1.l.length)*56≤140737488355328)∧(Z7f N [1,1,1,1,0,1,0,0,1,1,1] (Z0U e t x28 x7 (ml6_2++y_1.l) .junk) z1))∧((y_1.kind==2)=false→(((y_1.kind==1)=true→(Z7f N [1,1,1,1,0,1,0,0,1,1,0,0,1,1,1] (Z45 e t x28 x7 ml6_2 (y_1.l.length:Int) .junk) z0))∧((y_1.kind==1)=false→(((y_1.kind==3)=true→(Z7f N [1,1,1,1,0,1,0,0,1,1,0,0,1,1,1] (Z45 e t x28 x7 ml6_2 1 (.c (.bool (y_1.kind==3)))) z0))∧((y_1.kind==3)=false→Z7f N [1,1,1,1,0,1,0,0,1,1,0,0,1,1,1] (Z45 e t x28 x7 ml6_2 y_1.n (.c (.bool (y_1.kind==3)))) z0)))))))∧(z2=false→(Q .ret (L2 [(4,.ptr (.loc 4) 0),(5,.c (.bool (((x7.length:Int):Int)==0)))] [(.loc 4,[ci t.kind,.nils,sU .tree ml6_2 (.own (.l 4 2))])]))))):
  Z7f N [1,1,1,1,0,1,0,0] (JV e t x28 x7 ml6_2) (xT N0 (xB 0 (Zcv N [1,1,1,1,1] Q))):=
 Eq.mpr (by kernel_rfl) (h _ rfl)
theorem Zjh(N:Nat)(e:Edit)(t:Tree)(x28:Int)(x7_a ml6_2_a:List Tree)(v97_a:V U)(N0:NT)(Q:QT)(h:(InR (x28+1))∧(N0 (JV e t (x28+1) x7_a ml6_2_a))):
  Z7f N [1,1,1,1,0,1,0,0,1,1,1] (Z0U e t x28 x7_a ml6_2_a v97_a) (xT N0 (xB 0 (Zcv N [1,1,1,1,1] Q))):=
 Eq.mpr (by kernel_rfl) h
theorem Z8u(N:Nat)(e:Edit)(t:Tree)(x28:Int)(x7 ml6_2:List Tree)(x10_b:Int)(v49_b:V U)(N0:NT)(Q:QT)(h:∀ y_1,y_1=(e.ops.getD x28.toNat Op.nil)→∀ y_2,y_2=(List.getD (List.take x10_b.toNat x7) (Int.toNat 0) Tree.nil)→∀ y_3,y_3=y_2→∀ y_4,y_4=(y_1.e)→∀ y_5,y_5=(eqX (Z8 y_1.l) (Z8 (List.take x10_b.toNat x7)))→∀ y_6,y_6=(Z86 y_4 y_3)→let z5:= !((doE false y_4 y_3).isSome);let z4:=decide (((x7.length:Int):Int) < x10_b);let z3:=List.drop x10_b.toNat x7;let z2:=List.take x10_b.toNat x7;let z1:=xT N0 (xB 0 (Zcv N [1,1,1,1,1] Q));let z0:=Q .ret (L2 [(4,.ptr (.loc 4) 0),(5,.c (.bool false))] [(.loc 4,[ci 0,.nils,.nils])]);((z4=true→z0)∧(z4=false→(((0:Int)≤x10_b∧x10_b≤(x7.length:Int))∧((0:Int)≤x10_b∧x10_b≤(x7.length:Int))∧(((y_1.kind==0)=true→((ml6_2.length+z2.length)*56≤140737488355328)∧(Z7f N [1,1,1,1,0,1,0,0,1,1,1] (Z0U e t x28 z3 (ml6_2++z2) .junk) z1))∧((y_1.kind==0)=false→(((y_1.kind==1)=true→(Z9m (y_1.l,z2,(),()))∧(((!y_5)=true→z0)∧((!y_5)=false→Z7f N [1,1,1,1,0,1,0,0,1,1,1] (Z0U e t x28 z3 ml6_2 (.c (.bool (!y_5)))) z1)))∧((y_1.kind==1)=false→((0:Int)≤0∧0 < (z2.length:Int))∧(Z1Z (y_4,y_3,()))∧(Zah (y_4,y_3,()) < N)∧((z5=true→z0)∧(z5=false→((ml6_2.length+([y_6]).length)*56≤140737488355328)∧(Z7f N [1,1,1,1,0,1,0,0,1,1,1] (Z0U e t x28 z3 (ml6_2++([y_6])) .junk) z1))))))))))):
  Z7f N [1,1,1,1,0,1,0,0,1,1,0,0,1,1,1] (Z45 e t x28 x7 ml6_2 x10_b v49_b) (xB 1 (Zcv N [1,1,1,1,0,1,0,0,1,1,1] (xT N0 (xB 0 (Zcv N [1,1,1,1,1] Q))))):=
 Eq.mpr (by kernel_rfl) (h _ rfl _ rfl _ (Zb _) _ (Zm _) _ rfl _ (Zb _))
def ZoB(N:Nat)(e:Edit)(t:Tree):Prop:=AW (Z0 (ZbY N)) Try.f108 ZgA [] (Zl (Z4d.can (e,t,())) []) (EQ Try.f108 (Z2x (e,t,())) [])
abbrev Zpl:Prop:=∀ (N:Nat) (e:Edit) (t:Tree) (_:Unit),Z2D (e,t,())→Z7G (e,t,()) < N+1→ZoB N e t
theorem Zn1(ZiI:CT 106 Z0t)(ZiF:CT 149 Z0r)(c91:CT 91 Z0l)(ZqV:CT 151 Z3I)(ZqW:CT 150 Z3J)(c66:CT 66 Z2m)(Zlw:CT 109 Z1V)(b70:Ztm)(Zrd:Zpm)(Zrc:Zpl):
  CT 70 Z6v∧CT 107 ZfR∧CT 108 ZfQ:=by
 have h82 : ∃ fn, Try.prog.funcs[(70 : FuncId)]? = some fn ∧ fn.body.isSome = true ∧ (fn.name == "runtime.NumGoroutine") = false := ⟨Try.f70, Try.func70, rfl, rfl⟩
 have h113 : ∃ fn, Try.prog.funcs[(107 : FuncId)]? = some fn ∧ fn.body.isSome = true ∧ (fn.name == "runtime.NumGoroutine") = false := ⟨Try.f107, Try.func107, rfl, rfl⟩
 have h114 : ∃ fn, Try.prog.funcs[(108 : FuncId)]? = some fn ∧ fn.body.isSome = true ∧ (fn.name == "runtime.NumGoroutine") = false := ⟨Try.f108, Try.func108, rfl, rfl⟩
 have key:∀ N,CT 70 (fs Z7d (fun a=> [Z1Z a,Zah a < N]) Z3a)∧CT 107 (fs Z4e (fun a=> [Z2E a,Z7H a < N]) Z2y)∧CT 108 (fs Z4d (fun a=> [Z2D a,Z7G a < N]) Z2x):=by
  intro N
  induction N with
  | zero=> exact ⟨Z0A h82,Z0A h113,Z0A h114⟩
  | succ N ih=>
   have kn:=Jx (l:=Z71 N) ⟨ih.1,ih.2.1,ih.2.2,ZiI,ZiF,c91,ZqV,ZqW,c66,Zlw,trivial⟩
   exact ⟨ZV (Γ:=Z0 (Z71 N)) Zk rfl kn Zqp Try.func70 rfl rfl (fun a=> by show 2≤_;decide) (fun ⟨e,t,_⟩ h=> b70 N e t () h.1 h.2.1),
    ZV (Γ:=Z0 (Z71 N)) Zk rfl kn ZgB Try.func107 rfl rfl (fun a=> by show 2≤_;decide) (fun ⟨e,t,_⟩ h=> Zrd N e t () h.1 h.2.1),
    ZV (Γ:=Z0 (Z71 N)) Zk rfl kn ZgA Try.func108 rfl rfl (fun a=> by show 2≤_;decide) (fun ⟨e,t,_⟩ h=> Zrc N e t () h.1 h.2.1)⟩
 exact ⟨Z0B h82 fun N=> (key N).1,Z0B h113 fun N=> (key N).2.1,Z0B h114 fun N=> (key N).2.2⟩
end
end Go.AM.Ytpjenobkibfpcaa
