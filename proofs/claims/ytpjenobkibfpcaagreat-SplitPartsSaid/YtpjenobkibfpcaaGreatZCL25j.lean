import Derived.Test.YtpjenobkibfpcaaGreatZKL21n
import Derived.Test.YtpjenobkibfpcaaGreatZKG22a
set_option linter.unusedSimpArgs false
set_option linter.unusedVariables false
namespace Go.AM.YtpjenobkibfpcaaGreat
open Go.AM Go.Proofs
theorem Zcb:∀ {ks:List Kid} {k:Kid},k∈ks→Z9 k.e≤Zq ks
 | ⟨_,_⟩ ::r,k,h=> by
  rcases List.mem_cons.1 h with rfl | h
  ·simp only [Zq,Yd];omega
  ·have:=Zcb h;simp only [Zq];omega
theorem Z6l:∀ {os:List Op} {o:Op},o∈os→Zw o≤Zg os
 | a ::r,o,h=> by
  rcases List.mem_cons.1 h with rfl | h
  ·simp only [Zg];omega
  ·have:=Z6l h;simp only [Zg];omega
theorem Zqw(o:Op):Z9 o.e≤Zw o:=by obtain ⟨k,n,l,e⟩:=o;simp only [Zw];omega
theorem J6{e:Edit}{k:Kid}(h:k∈e.kids):Z9 k.e < Z9 e:=by
 obtain ⟨kk,o,n,w,ks,l,os⟩:=e
 have:=Zcb (ks:=ks) h
 simp only [Z9];omega
theorem Jw{e:Edit}{o:Op}(h:o∈e.ops):Z9 o.e < Z9 e:=by
 obtain ⟨kk,ol,n,w,ks,l,os⟩:=e
 have:=Z6l (os:=os) h
 have:=Zqw o
 simp only [Z9];omega
mutual
theorem JM:∀ (t:Tree) (d m:Int),m < 0→Ze t d=true→Ze t m=true
 | .mk k w ks,d,m,hm,h=> by
  rw [Ze] at h ⊢
  by_cases h0:k=0
  ·rw [if_pos h0] at h ⊢;exact h
  ·rw [if_neg h0] at h ⊢
   by_cases h1:k=10
   ·rw [if_pos h1] at h ⊢;exact h
   ·rw [if_neg h1] at h ⊢
    by_cases h2:d=0
    ·rw [if_pos h2] at h;cases h
    ·rw [if_neg h2] at h
     rw [if_neg (by omega)]
     by_cases h3:k=1
     ·rw [if_pos h3,Bool.and_eq_true] at h ⊢
      exact ⟨h.1,Z84 1 ks (d - 1) (m - 1) (by omega) h.2⟩
     ·rw [if_neg h3,Bool.and_eq_true] at h ⊢
      exact ⟨h.1,Z84 k ks (d - 1) (m - 1) (by omega) h.2⟩
theorem Z84(list:Int):∀ (ks:List Tree) (d m:Int),m < 0→YJ list ks d=true→YJ list ks m=true
 | [],_,_,_,_=> rfl
 | t ::r,d,m,hm,h=> by
  simp only [YJ,Bool.and_eq_true] at h ⊢
  exact ⟨⟨h.1.1,JM t d m hm h.1.2⟩,Z84 list r d m hm h.2⟩
end
theorem Z3a{list d:Int}:∀ {ks:List Tree},YJ list ks d=true↔∀ t∈ks,JR list t=true∧Ze t d=true
 | []=> by simp [YJ]
 | t ::r=> by
  simp only [YJ,Bool.and_eq_true,Z3a (ks:=r),List.mem_cons,forall_eq_or_imp]
theorem Z5X{t:Tree}(h:Ze t (-1)=true):t.kind≠0→t.kind≠10→
  (t.kind=1→t.words.length < 65536∧t.kids.length < 65536)∧(t.kind≠1→(2≤t.kind∧t.kind≤9)∧t.words=[]∧t.kids.length < 1048576)∧∀ k∈t.kids,JR t.kind k=true∧Ze k (-1)=true:=by
 obtain ⟨k,w,ks⟩:=t
 intro h0 h1
 have h0:k≠0:=h0
 have h1:k≠10:=h1
 rw [Ze,if_neg h0,if_neg h1,if_neg (by decide)] at h
 by_cases h3:k=1
 ·rw [if_pos h3,Bool.and_eq_true,decide_eq_true_eq,Z3a] at h
  subst h3
  exact ⟨fun _=> h.1,fun e=> absurd rfl e,fun x hx=> ⟨(h.2 x hx).1,JM _ _ _ (by decide) (h.2 x hx).2⟩⟩
 ·rw [if_neg h3,Bool.and_eq_true,decide_eq_true_eq,Z3a] at h
  exact ⟨fun e=> absurd e h3,fun _=> ⟨⟨h.1.1,h.1.2.1⟩,List.eq_nil_of_length_eq_zero h.1.2.2.1,h.1.2.2.2⟩,fun x hx=> ⟨(h.2 x hx).1,JM _ _ _ (by decide) (h.2 x hx).2⟩⟩
theorem Zh9{w:List Int}{ks:List Tree}(h1:w.length < 65536)(h2:ks.length < 65536)(h:∀ k∈ks,JR 1 k=true∧Ze k (-1)=true):Ze (.mk 1 w ks) (-1)=true:=by
 rw [Ze,if_neg (by decide),if_neg (by decide),if_neg (by decide),if_pos rfl,Bool.and_eq_true,decide_eq_true_eq,Z3a]
 exact ⟨⟨h1,h2⟩,fun x hx=> ⟨(h x hx).1,JM _ _ _ (by decide) (h x hx).2⟩⟩
theorem ZdO{l:Int}{ks:List Tree}(hl:2≤l∧l≤9)(h2:ks.length < 1048576)(h:∀ k∈ks,JR l k=true∧Ze k (-1)=true):Ze (.mk l [] ks) (-1)=true:=by
 rw [Ze,if_neg (by omega),if_neg (by omega),if_neg (by decide),if_neg (by omega),Bool.and_eq_true,decide_eq_true_eq,Z3a]
 exact ⟨⟨hl.1,hl.2,rfl,h2⟩,fun x hx=> ⟨(h x hx).1,JM _ _ _ (by decide) (h x hx).2⟩⟩
theorem Z3y{D list:Int}:∀ {l:List Tree},YH D list l=true→∀ t∈l,Ze (.mk list [] [t]) D=true
 | a ::r,h,t,ht=> by
  simp only [YH,Bool.and_eq_true] at h
  rcases List.mem_cons.1 ht with rfl | ht
  ·exact h.1
  ·exact Z3y h.2 t ht
theorem Z0p{D list:Int}(hl:2≤list∧list≤9){l:List Tree}(h:YH D list l=true):∀ t∈l,JR list t=true∧Ze t (-1)=true:=by
 intro t ht
 have:=Z5X (JM _ _ (-1) (by decide) (Z3y h t ht)) (by show list≠0;omega) (by show list≠10;omega)
 exact this.2.2 t (by simp)
inductive Run:List Op→List Tree→List Tree→Prop
 | nil:Run [] [] []
 | keep {o r a s d}:o.kind=0→(a.length:Int)=o.n→Run r s d→Run (o ::r) (a++s) (a++d)
 | gone {o r a s d}:o.kind=1→Zb o.l=Zb a→Run r s d→Run (o ::r) (a++s) d
 | come {o r s d}:o.kind=2→Run r s d→Run (o ::r) s (o.l++d)
 | into {o r x y s d}:o.kind=3→doE false o.e x=some y→Run r s d→Run (o ::r) (x ::s) (y ::d)
def kOk(o:Op):Prop:=(o.kind=0∧0≤o.n)∨o.kind=1∨o.kind=2∨o.kind=3
theorem ZAm:∀ {os:List Op} {s d:List Tree},Run os s d→∀ out,J0 false os s out=some (out++d,[]):=by
 intro os s d h
 induction h with
 | nil=> intro out;simp [J0]
 | keep h0 hn hr0 ih=>
  rename_i o r a s d
  intro out
  rw [J0,Z0z,if_pos h0,if_pos (by rw [List.length_append];omega),show o.n.toNat=a.length by omega]
  simp only [Option.bind_some,List.take_left,List.drop_left]
  rw [ih,List.append_assoc]
 | gone h1 hn hr0 ih=>
  rename_i o r a s d
  intro out
  have hl:=Z79 hn
  rw [J0,Z0z,if_neg (by omega),if_pos h1,if_pos]
  ·simp only [Option.bind_some]
   rw [hl,List.drop_left,ih]
  ·rw [Zbn,hl,List.take_left]
   exact ⟨by simp,hn⟩
 | come h2 hr0 ih=>
  intro out
  rw [J0,Z0z,if_neg (by omega),if_neg (by omega),if_pos h2]
  simp only [Option.bind_some]
  rw [ih,List.append_assoc]
 | into h3 he hr0 ih=>
  intro out
  rw [J0,Z0z,if_neg (by omega),if_neg (by omega),if_neg (by omega),if_neg (by simp)]
  simp only [List.getD_cons_zero,he,Option.map_some,Option.bind_some,List.drop_succ_cons,List.drop_zero]
  rw [ih,List.append_assoc]
  try rfl
theorem Zf3:∀ {os:List Op} {s out:List Tree} {x:List Tree × List Tree},(∀ o∈os,kOk o)→J0 false os s out=some x→x.2=[]→∃ d,x.1=out++d∧Run os s d
 | [],s,out,x,_,h,hx=> by
  rw [J0] at h
  cases h
  have hx:s=[]:=hx
  subst hx
  exact ⟨[],by simp,.nil⟩
 | o ::r,s,out,x,hk,h,hx=> by
  rw [J0,Z0z] at h
  have hr:∀ o∈r,kOk o:=fun o ho=> hk o (List.mem_cons_of_mem _ ho)
  rcases hk o List.mem_cons_self with h0 | h1 | h2 | h3
  ·rw [if_pos h0.1] at h
   split at h
   ·rename_i hl
    simp only [Option.bind_some] at h
    obtain ⟨d,e,hd⟩:=Zf3 hr h hx
    refine ⟨s.take o.n.toNat++d,by rw [e,List.append_assoc],?_⟩
    have:=Run.keep (a:=s.take o.n.toNat) h0.1 (by rw [List.length_take];omega) hd
    rwa [List.take_append_drop] at this
   ·cases h
  ·rw [if_neg (by omega),if_pos h1] at h
   split at h
   ·rename_i hg
    obtain ⟨g1,g2⟩:=(Zbn _ _).1 hg
    simp only [Option.bind_some] at h
    obtain ⟨d,e,hd⟩:=Zf3 hr h hx
    refine ⟨d,e,?_⟩
    have:=Run.gone (a:=s.take o.l.length) h1 g2 hd
    rwa [List.take_append_drop] at this
   ·cases h
  ·rw [if_neg (by omega),if_neg (by omega),if_pos h2] at h
   simp only [Option.bind_some] at h
   obtain ⟨d,e,hd⟩:=Zf3 hr h hx
   exact ⟨o.l++d,by rw [e,List.append_assoc],.come h2 hd⟩
  ·rw [if_neg (by omega),if_neg (by omega),if_neg (by omega)] at h
   split at h
   ·cases h
   ·rename_i hl
    obtain ⟨y,hy,h⟩:=Option.bind_eq_some_iff.1 h
    obtain ⟨z,hz,rfl⟩:=Option.map_eq_some_iff.1 hy
    obtain ⟨d,e,hd⟩:=Zf3 hr h hx
    cases s with
    | nil=> simp at hl
    | cons x0 s=>
     refine ⟨z ::d,by rw [e];simp,.into h3 (by simpa using hz) (by simpa using hd)⟩
theorem Zo7{os:List Op}{s d:List Tree}(hk:∀ o∈os,kOk o):Z4f (J0 false os s [])=some d↔Run os s d:=by
 constructor
 ·intro h
  unfold Z4f at h
  obtain ⟨x,hx,h⟩:=Option.bind_eq_some_iff.1 h
  split at h
  ·rename_i hl
   cases h
   obtain ⟨d,e,hd⟩:=Zf3 hk hx (List.eq_nil_of_length_eq_zero hl)
   rw [e];exact hd
  ·cases h
 ·intro h
  have:=ZAm h []
  unfold Z4f
  rw [this]
  simp
theorem ZgC{list d:Int}{o:Op}(h:Zc list o d=true):kOk o:=by
 have:=ZC h
 cases this with
 | keep n h1=> exact .inl ⟨rfl,by show 0≤n;omega⟩
 | gone=> exact .inr (.inl rfl)
 | come=> exact .inr (.inr (.inl rfl))
 | into=> exact .inr (.inr (.inr rfl))
theorem Zn3:∀ {os:List Op} {s d:List Tree},Run os s d→(∀ o∈os,J4 o)→(s.length:Int)=ZH os∧(d.length:Int)=Yf os:=by
 intro os s d h
 induction h with
 | nil=> intro _;simp [ZH,Yf]
 | keep h0 hn hr0 ih=>
  rename_i o r a s d
  intro hk
  obtain ⟨i1,i2⟩:=ih fun o ho=> hk o (List.mem_cons_of_mem _ ho)
  have ho:=hk o List.mem_cons_self
  have hl:Z3 o=o.n:=by
   rcases ho with h | h | h
   ·unfold Z3;rw [if_neg (by omega),h.2.1];simp
   ·omega
   ·omega
  simp only [ZH,Yf,List.length_append]
  rw [if_neg (by omega),if_neg (by omega),hl]
  omega
 | gone h1 hn hr0 ih=>
  rename_i o r a s d
  intro hk
  obtain ⟨i1,i2⟩:=ih fun o ho=> hk o (List.mem_cons_of_mem _ ho)
  have ho:=hk o List.mem_cons_self
  have hl:Z3 o=a.length:=by
   have:=Z79 hn
   rcases ho with h | h | h
   ·omega
   ·unfold Z3;rw [if_neg (by omega),h.2.1];omega
   ·omega
  simp only [ZH,Yf,List.length_append]
  rw [if_neg (by omega),if_pos h1,hl]
  omega
 | come h2 hr0 ih=>
  rename_i o r s d
  intro hk
  obtain ⟨i1,i2⟩:=ih fun o ho=> hk o (List.mem_cons_of_mem _ ho)
  have ho:=hk o List.mem_cons_self
  have hl:Z3 o=o.l.length:=by
   rcases ho with h | h | h
   ·omega
   ·unfold Z3;rw [if_neg (by omega),h.2.1];omega
   ·omega
  simp only [ZH,Yf,List.length_append]
  rw [if_pos h2,if_neg (by omega),hl]
  omega
 | into h3 he hr0 ih=>
  rename_i o r x y s d
  intro hk
  obtain ⟨i1,i2⟩:=ih fun o ho=> hk o (List.mem_cons_of_mem _ ho)
  have hl:Z3 o=1:=by unfold Z3;rw [if_pos h3]
  simp only [ZH,Yf,List.length_cons]
  rw [if_neg (by omega),if_neg (by omega),hl]
  omega
end Go.AM.YtpjenobkibfpcaaGreat
namespace Go.AM.YtpjenobkibfpcaaGreat
open Go.AM Go.Proofs
theorem Zky{r:Bool}{tk:List Tree}:∀ {ks:List Kid} {out b:List Tree},Z2c r tk ks out=some b→(∀ k∈ks,k.at_≤65534)→
  b.length≤max out.length 65535∧∀ y∈b,y∈out∨y=Tree.nil∨∃ k∈ks,doE r k.e (tk.getD k.at_.toNat Tree.nil)=some y
 | [],out,b,h,_=> by
  rw [Z2c] at h
  cases h
  exact ⟨by omega,fun y hy=> .inl hy⟩
 | k ::s,out,b,h,ha=> by
  rw [Z2c,Zat] at h
  obtain ⟨v,hv,hb⟩:=Option.bind_eq_some_iff.1 h
  obtain ⟨i1,i2⟩:=Zky hb fun x hx=> ha x (List.mem_cons_of_mem _ hx)
  have:=ha k List.mem_cons_self
  rw [Z42] at i1
  refine ⟨by omega,fun y hy=> ?_⟩
  rcases i2 y hy with h1 | h1 | ⟨q,hq,h1⟩
  ·rcases Z81 h1 with h1 | h1 | h1
   ·exact .inl h1
   ·exact .inr (.inl h1)
   ·subst h1
    exact .inr (.inr ⟨k,List.mem_cons_self,hv⟩)
  ·exact .inr (.inl h1)
  ·exact .inr (.inr ⟨q,List.mem_cons_of_mem _ hq,h1⟩)
theorem Zwd:∀ {os:List Op} {s d:List Tree},Run os s d→∀ y∈d,y∈s∨(∃ o∈os,o.kind=2∧y∈o.l)∨∃ o∈os,o.kind=3∧∃ x∈s,doE false o.e x=some y:=by
 intro os s d h
 induction h with
 | nil=> intro y hy;cases hy
 | keep h0 hn hr0 ih=>
  intro y hy
  rcases List.mem_append.1 hy with hy | hy
  ·exact .inl (List.mem_append_left _ hy)
  ·rcases ih y hy with h | ⟨o,ho,h⟩ | ⟨o,ho,hk,x,hx,h⟩
   ·exact .inl (List.mem_append_right _ h)
   ·exact .inr (.inl ⟨o,List.mem_cons_of_mem _ ho,h⟩)
   ·exact .inr (.inr ⟨o,List.mem_cons_of_mem _ ho,hk,x,List.mem_append_right _ hx,h⟩)
 | gone h1 hn hr0 ih=>
  intro y hy
  rcases ih y hy with h | ⟨o,ho,h⟩ | ⟨o,ho,hk,x,hx,h⟩
  ·exact .inl (List.mem_append_right _ h)
  ·exact .inr (.inl ⟨o,List.mem_cons_of_mem _ ho,h⟩)
  ·exact .inr (.inr ⟨o,List.mem_cons_of_mem _ ho,hk,x,List.mem_append_right _ hx,h⟩)
 | come h2 hr0 ih=>
  intro y hy
  rcases List.mem_append.1 hy with hy | hy
  ·exact .inr (.inl ⟨_,List.mem_cons_self,h2,hy⟩)
  ·rcases ih y hy with h | ⟨o,ho,h⟩ | ⟨o,ho,hk,x,hx,h⟩
   ·exact .inl h
   ·exact .inr (.inl ⟨o,List.mem_cons_of_mem _ ho,h⟩)
   ·exact .inr (.inr ⟨o,List.mem_cons_of_mem _ ho,hk,x,hx,h⟩)
 | into h3 he hr0 ih=>
  intro y hy
  rcases List.mem_cons.1 hy with rfl | hy
  ·exact .inr (.inr ⟨_,List.mem_cons_self,h3,_,List.mem_cons_self,he⟩)
  ·rcases ih y hy with h | ⟨o,ho,h⟩ | ⟨o,ho,hk,x,hx,h⟩
   ·exact .inl (List.mem_cons_of_mem _ h)
   ·exact .inr (.inl ⟨o,List.mem_cons_of_mem _ ho,h⟩)
   ·exact .inr (.inr ⟨o,List.mem_cons_of_mem _ ho,hk,x,List.mem_cons_of_mem _ hx,h⟩)
theorem ZBj{y:Tree}(h:y.kind≠10):JR 1 y=true:=by
 unfold JR
 rw [if_neg (by decide),if_neg (by decide)]
 exact decide_eq_true h
theorem Z8l{list d:Int}{os:List Op}(h:Zp list os d=true):∀ o∈os,J4 o:=fun o ho=> Y9 (rightOs_mem h ho)
theorem Z10{o:Op}(h:J4 o):0≤Z3 o:=by have:=J5 h;omega
theorem Zas{e:Edit}{d:Int}{t u:Tree}(hr:Z2 e d=true)(h:doE false e t=some u):(e.kind=1→u=e.new)∧(e.kind=2→u.kind=1∧t.kind=1)∧(e.kind=3→u.kind=e.list∧t.kind=e.list)∧(e.kind=0→u=t):=by
 rw [Z4g,Z0O] at h
 refine ⟨fun hk=> ?_,fun hk=> ?_,fun hk=> ?_,fun hk=> ?_⟩
 ·rw [if_neg (by omega),if_pos hk] at h
  split at h
  ·exact (Option.some.inj h).symm
  ·cases h
 ·rw [if_neg (by omega),if_neg (by omega),if_pos hk] at h
  split at h
  ·rename_i ht
   obtain ⟨a,ha,h⟩:=Option.bind_eq_some_iff.1 h
   obtain ⟨b,hb,rfl⟩:=Option.map_eq_some_iff.1 h
   exact ⟨rfl,ht⟩
  ·cases h
 ·rw [if_neg (by omega),if_neg (by omega),if_neg (by omega),if_pos hk] at h
  split at h
  ·rename_i ht
   obtain ⟨b,hb,rfl⟩:=Option.map_eq_some_iff.1 h
   exact ⟨rfl,ht⟩
  ·cases h
 ·rw [if_pos hk] at h
  exact (Option.some.inj h).symm
theorem Z4L:∀ (n:Nat) (e:Edit) (d:Int) (t u:Tree),Z9 e≤n→Z2 e d=true→Ze t (-1)=true→doE false e t=some u→Ze u (-1)=true∧(e.kind≠0→u.kind≠10):=by
 intro n
 induction n with
 | zero=> intro e d t u hm;obtain ⟨k,o,nw,w,ks,l,os⟩:=e;simp only [Z9] at hm;omega
 | succ n ih=>
  intro e d t u hm hr ht h
  have R:=Zz hr
  obtain ⟨k1,k2,k3,k0⟩:=Zas hr h
  have hk:=R.kind
  by_cases h0:e.kind=0
  ·rw [k0 h0];exact ⟨ht,fun q=> absurd h0 q⟩
  by_cases h1:e.kind=1
  ·rw [k1 h1]
   obtain ⟨r1,r2,r3,r4⟩:=R.rep h1
   exact ⟨JM _ _ _ (by decide) r2,fun _=> r4⟩
  by_cases h2:e.kind=2
  ·obtain ⟨u1,t1⟩:=k2 h2
   refine ⟨?_,fun _=> by omega⟩
   rw [Z4g,Z0O,if_neg h0,if_neg h1,if_pos h2,if_pos t1] at h
   obtain ⟨a,ha,h⟩:=Option.bind_eq_some_iff.1 h
   obtain ⟨b,hb,rfl⟩:=Option.map_eq_some_iff.1 h
   obtain ⟨p1,_,p3⟩:=Z5X ht (by omega) (by omega)
   have p1:=p1 t1
   rw [t1] at p3
   have hl:=ZgW R.words ha
   have ha':=Y1 R.kids
   obtain ⟨m1,m2⟩:=Zky hb fun k hk=> (ha' k hk).1.2.1
   refine Zh9 (by omega) (by omega) fun y hy=> ?_
   rcases m2 y hy with h | rfl | ⟨k,hk,h⟩
   ·exact p3 y h
   ·exact ⟨rfl,rfl⟩
   ·have hx:Ze (t.kids.getD k.at_.toNat Tree.nil) (-1)=true:=by
     by_cases hi:k.at_.toNat < t.kids.length
     ·rw [List.getD_eq_getElem?_getD,List.getElem?_eq_getElem hi]
      exact (p3 _ (List.getElem_mem hi)).2
     ·rw [List.getD_eq_getElem?_getD,List.getElem?_eq_none (by omega)];try rfl
    obtain ⟨g1,g2⟩:=ih k.e _ _ y (by have:=J6 hk;omega) (ha' k hk).2 hx h
    exact ⟨ZBj (g2 (ha' k hk).1.2.2),g1⟩
  ·have h3:e.kind=3:=by omega
   obtain ⟨u1,t1⟩:=k3 h3
   have hli:=R.list h3
   refine ⟨?_,fun _=> by omega⟩
   rw [Z4g,Z0O,if_neg h0,if_neg h1,if_neg h2,if_pos h3,if_pos t1] at h
   obtain ⟨b,hb,rfl⟩:=Option.map_eq_some_iff.1 h
   have ho:∀ o∈e.ops,Zc e.list o (d - 1)=true:=fun o h=> rightOs_mem R.ops h
   have hrun:=(Zo7 (fun o h=> ZgC (ho o h))).1 hb
   obtain ⟨_,q2⟩:=Zn3 hrun (Z8l R.ops)
   obtain ⟨q3,q4⟩:=YW e.ops 0 (fun o h=> Z10 (Z8l R.ops o h)) (by decide) (by decide)
   have q5:=R.len.2
   obtain ⟨_,_,p3⟩:=Z5X ht (by omega) (by omega)
   rw [t1] at p3
   refine ZdO hli (by omega) fun y hy=> ?_
   rcases Zwd hrun y hy with h | ⟨o,hoo,hk2,hyl⟩ | ⟨o,hoo,hk3,x,hx,h⟩
   ·exact p3 y h
   ·have:=ZC (ho o hoo)
    cases this with
    | come l h1 h2=> exact Z0p hli h1 y hyl
    | keep | gone | into=> exact absurd hk2 (by simp)
   ·have:=ZC (ho o hoo)
    cases this with
    | into e' g1 g2 g3 g4=>
     obtain ⟨f1,f2⟩:=ih e' _ x y (by have:=Jw hoo;dsimp only at this;omega) g1 (p3 x hx).2 h
     refine ⟨?_,f1⟩
     obtain ⟨j1,j2,_,_⟩:=Zas g1 h
     unfold JR
     rw [if_neg (by omega)]
     by_cases hl9:e.list=9
     ·rw [if_pos hl9]
      refine decide_eq_true ?_
      rcases g4 with q | q | q
      ·omega
      ·exact (j2 q).1
      ·rw [j1 q.1];exact q.2.2
     ·rw [if_neg hl9]
      exact decide_eq_true (f2 g2)
    | keep | gone | come=> exact absurd hk3 (by simp)
end Go.AM.YtpjenobkibfpcaaGreat
namespace Go.AM.YtpjenobkibfpcaaGreat
open Go.AM Go.Proofs
theorem Z1R{o:Op}{r:List Op}{s d:List Tree}(h0:o.kind=0):Run (o ::r) s d↔∃ a s' d',s=a++s'∧d=a++d'∧(a.length:Int)=o.n∧Run r s' d':=by
 constructor
 ·intro h
  cases h with
  | keep _ h2 h3=> exact ⟨_,_,_,rfl,rfl,h2,h3⟩
  | gone h1=> omega
  | come h1=> omega
  | into h1=> omega
 ·rintro ⟨a,s',d',rfl,rfl,h2,h3⟩
  exact .keep h0 h2 h3
theorem Z1S{o:Op}{r:List Op}{s d:List Tree}(h0:o.kind=1):Run (o ::r) s d↔∃ a s',s=a++s'∧Zb o.l=Zb a∧Run r s' d:=by
 constructor
 ·intro h
  cases h with
  | gone _ h2 h3=> exact ⟨_,_,rfl,h2,h3⟩
  | keep h1=> omega
  | come h1=> omega
  | into h1=> omega
 ·rintro ⟨a,s',rfl,h2,h3⟩
  exact .gone h0 h2 h3
theorem Z1T{o:Op}{r:List Op}{s d:List Tree}(h0:o.kind=2):Run (o ::r) s d↔∃ d',d=o.l++d'∧Run r s d':=by
 constructor
 ·intro h
  cases h with
  | come _ h3=> exact ⟨_,rfl,h3⟩
  | keep h1=> omega
  | gone h1=> omega
  | into h1=> omega
 ·rintro ⟨d',rfl,h3⟩
  exact .come h0 h3
theorem Z9d{o:Op}{r:List Op}{s d:List Tree}(h0:o.kind=3):Run (o ::r) s d↔∃ x s' y d',s=x ::s'∧d=y ::d'∧doE false o.e x=some y∧Run r s' d':=by
 constructor
 ·intro h
  cases h with
  | into _ h2 h3=> exact ⟨_,_,_,_,rfl,rfl,h2,h3⟩
  | keep h1=> omega
  | gone h1=> omega
  | come h1=> omega
 ·rintro ⟨x,s',y,d',rfl,rfl,h2,h3⟩
  exact .into h0 h2 h3
theorem Z6T{o:Op}{p r:List Op}(h:∀ s d,Run p s d↔Run r s d)(hk:kOk o)(s d:List Tree):Run (o ::p) s d↔Run (o ::r) s d:=by
 rcases hk with h0 | h1 | h2 | h3
 ·rw [Z1R h0.1,Z1R h0.1];simp only [h]
 ·rw [Z1S h1,Z1S h1];simp only [h]
 ·rw [Z1T h2,Z1T h2];simp only [h]
 ·rw [Z9d h3,Z9d h3];simp only [h]
theorem Z1p{o:Op}(h:J4 o):kOk o:=by
 rcases h with h | h | h
 ·exact .inl ⟨h.1,by omega⟩
 ·rcases h.1 with h1 | h1
  ·exact .inr (.inl h1)
  ·exact .inr (.inr (.inl h1))
 ·exact .inr (.inr (.inr h.1))
theorem Z3M{o:Op}(h:J4 o)(h0:o.kind=0):Z3 o=o.n:=by
 rcases h with h | h | h
 ·unfold Z3;rw [if_neg (by omega),h.2.1];simp
 ·omega
 ·omega
theorem Yr{o:Op}(h:J4 o)(h0:o.kind=1∨o.kind=2):Z3 o=o.l.length:=by
 rcases h with h | h | h
 ·omega
 ·unfold Z3;rw [if_neg (by omega),h.2.1];omega
 ·omega
theorem Z11{o:Op}(h0:o.kind=3):Z3 o=1:=by unfold Z3;rw [if_pos h0]
theorem Zn2{o:Op}{r:List Op}{s m:List Tree}(ho:J4 o)(hk:o.kind≠1)(h:Run (o ::r) s m):∃ m1 s' m',m=m1++m'∧(m1.length:Int)=Z3 o∧Run r s' m':=by
 rcases Z1p ho with h0 | h1 | h2 | h3
 ·obtain ⟨a,s',d',_,rfl,hl,hr⟩:=(Z1R h0.1).1 h
  exact ⟨a,s',d',rfl,by rw [Z3M ho h0.1];exact hl,hr⟩
 ·exact absurd h1 hk
 ·obtain ⟨d',rfl,hr⟩:=(Z1T h2).1 h
  exact ⟨o.l,s,d',rfl,by rw [Yr ho (.inr h2)],hr⟩
 ·obtain ⟨x,s',y,d',_,rfl,_,hr⟩:=(Z9d h3).1 h
  exact ⟨[y],s',d',rfl,by rw [Z11 h3];rfl,hr⟩
theorem Zsg{o:Op}{r:List Op}{m d:List Tree}(ho:J4 o)(hk:o.kind≠2)(h:Run (o ::r) m d):∃ m1 m' d',m=m1++m'∧(m1.length:Int)=Z3 o∧Run r m' d':=by
 rcases Z1p ho with h0 | h1 | h2 | h3
 ·obtain ⟨a,s',d',rfl,_,hl,hr⟩:=(Z1R h0.1).1 h
  exact ⟨a,s',d',rfl,by rw [Z3M ho h0.1];exact hl,hr⟩
 ·obtain ⟨a,s',rfl,hn,hr⟩:=(Z1S h1).1 h
  exact ⟨a,s',d,rfl,by rw [Yr ho (.inl h1),Z79 hn],hr⟩
 ·exact absurd h2 hk
 ·obtain ⟨x,s',y,d',rfl,_,_,hr⟩:=(Z9d h3).1 h
  exact ⟨[x],s',d',rfl,by rw [Z11 h3];rfl,hr⟩
theorem Zq4{o:Op}{r:List Op}{n:Int}(ho:J4 o)(h1:1≤n)(hn:¬Z3 o≤n)(s d:List Tree):Run (o ::r) s d↔Run (ZY o n ::Z0e o n ::r) s d:=by
 unfold ZY Z0e
 rw [if_neg hn]
 rcases Z1p ho with h0 | hg | hc | hi
 ·have hl:=Z3M ho h0.1
  rw [if_pos h0.1,if_pos h0.1,Z1R h0.1,Z1R (o:=⟨o.kind,n,o.l,o.e⟩) h0.1]
  constructor
  ·rintro ⟨a,s',d',rfl,rfl,ha,hr⟩
   refine ⟨a.take n.toNat,a.drop n.toNat++s',a.drop n.toNat++d',by rw [←List.append_assoc,List.take_append_drop],by rw [←List.append_assoc,List.take_append_drop],by rw [List.length_take];dsimp only;omega,?_⟩
   exact (Z1R (o:=⟨o.kind,o.n - n,o.l,o.e⟩) h0.1).2 ⟨a.drop n.toNat,s',d',rfl,rfl,by rw [List.length_drop];dsimp only;omega,hr⟩
  ·rintro ⟨a,s',d',rfl,rfl,ha,hr⟩
   obtain ⟨b,s2,d2,rfl,rfl,hb,hr2⟩:=(Z1R (o:=⟨o.kind,o.n - n,o.l,o.e⟩) h0.1).1 hr
   dsimp only at ha hb
   exact ⟨a++b,s2,d2,by rw [List.append_assoc],by rw [List.append_assoc],by rw [List.length_append];omega,hr2⟩
 ·have hl:=Yr ho (.inl hg)
  rw [if_neg (by omega),if_neg (by omega),Z1S hg,Z1S (o:=⟨o.kind,o.n,o.l.take n.toNat,o.e⟩) hg]
  constructor
  ·rintro ⟨a,s',rfl,ha,hr⟩
   have hla:=Z79 ha
   refine ⟨a.take n.toNat,a.drop n.toNat++s',by rw [←List.append_assoc,List.take_append_drop],EqvL.take ha _,?_⟩
   exact (Z1S (o:=⟨o.kind,o.n,o.l.drop n.toNat,o.e⟩) hg).2 ⟨a.drop n.toNat,s',rfl,EqvL.drop ha _,hr⟩
  ·rintro ⟨a,s',rfl,ha,hr⟩
   obtain ⟨b,s2,rfl,hb,hr2⟩:=(Z1S (o:=⟨o.kind,o.n,o.l.drop n.toNat,o.e⟩) hg).1 hr
   refine ⟨a++b,s2,by rw [List.append_assoc],?_,hr2⟩
   have:=Z4s ha hb
   rwa [List.take_append_drop] at this
 ·rw [if_neg (by omega),if_neg (by omega),Z1T hc,Z1T (o:=⟨o.kind,o.n,o.l.take n.toNat,o.e⟩) hc]
  constructor
  ·rintro ⟨d',rfl,hr⟩
   refine ⟨o.l.drop n.toNat++d',by rw [←List.append_assoc,List.take_append_drop],?_⟩
   exact (Z1T (o:=⟨o.kind,o.n,o.l.drop n.toNat,o.e⟩) hc).2 ⟨d',rfl,hr⟩
  ·rintro ⟨d',rfl,hr⟩
   obtain ⟨d2,rfl,hr2⟩:=(Z1T (o:=⟨o.kind,o.n,o.l.drop n.toNat,o.e⟩) hc).1 hr
   exact ⟨d2,by rw [←List.append_assoc,List.take_append_drop],hr2⟩
 ·rw [Z11 hi] at hn
  omega
def Z5D:List Piece→List Op
 | []=> []
 | x ::r=> (if x.of=2 then [] else [x.p])++Z5D r
def Z5C:List Piece→List Op
 | []=> []
 | x ::r=> (if x.of=1 then [] else [x.q])++Z5C r
def Part(l:List Op)(o:Op):Prop:=∃ o'∈l,o.kind=o'.kind∧o.e=o'.e∧Zw o≤Zw o'∧∀ t∈o.l,t∈o'.l
structure POk (p q:List Op) (x:Piece):Prop where
 of:x.of=0∨x.of=1∨x.of=2
 pp:x.of≠2→Part p x.p∧J4 x.p
 qq:x.of≠1→Part q x.q∧J4 x.q
 one:x.of=1→x.p.kind=1
 two:x.of=2→x.q.kind=2
 both:x.of=0→x.p.kind≠1∧x.q.kind≠2∧Z3 x.p=Z3 x.q
 pn:x.of=2→x.p=Op.nil
 qn:x.of=1→x.q=Op.nil
theorem Part.mono{l l':List Op}{o:Op}(h:Part l o)(hl:∀ x∈l,Part l' x):Part l' o:=by
 obtain ⟨o',h1,h2,h3,h5,h4⟩:=h
 obtain ⟨o2,g1,g2,g3,g5,g4⟩:=hl o' h1
 exact ⟨o2,g1,h2.trans g2,h3.trans g3,Nat.le_trans h5 g5,fun t ht=> g4 t (h4 t ht)⟩
theorem Part.self{l:List Op}{o:Op}(h:o∈l):Part l o:=⟨o,h,rfl,rfl,Nat.le_refl _,fun _ h=> h⟩
theorem POk.mono{p q p' q':List Op}{x:Piece}(h:POk p q x)(hp:∀ x∈p,Part p' x)(hq:∀ x∈q,Part q' x):POk p' q' x:=
 ⟨h.of,fun e=> ⟨(h.pp e).1.mono hp,(h.pp e).2⟩,fun e=> ⟨(h.qq e).1.mono hq,(h.qq e).2⟩,h.one,h.two,h.both,h.pn,h.qn⟩
theorem Zj0{o:Op}{r:List Op}{n:Int}(h:∀ x∈o ::r,J4 x)(h1:1≤n)(hn:n≤Z3 o):
  J4 (ZY o n)∧Z3 (ZY o n)=n∧(ZY o n).kind=o.kind∧Part (o ::r) (ZY o n)∧(∀ x∈Yi (o ::r) n,J4 x∧Part (o ::r) x)∧∀ s d,Run (o ::r) s d↔Run (ZY o n ::Yi (o ::r) n) s d:=by
 have ho:=h o List.mem_cons_self
 have hr:∀ x∈r,J4 x∧Part (o ::r) x:=fun x hx=> ⟨h x (List.mem_cons_of_mem _ hx),Part.self (List.mem_cons_of_mem _ hx)⟩
 unfold Yi
 simp only [List.getD_cons_zero,List.drop_succ_cons,List.drop_zero]
 by_cases hl:Z3 o≤n
 ·rw [if_pos hl]
  have e:ZY o n=o:=by unfold ZY;rw [if_pos hl]
  rw [e]
  exact ⟨ho,by omega,rfl,Part.self List.mem_cons_self,hr,fun s d=> Iff.rfl⟩
 ·rw [if_neg hl]
  obtain ⟨_,v2,v3,v4⟩:=Z8A (a:=1) ho h1 hl
  obtain ⟨b1,b2⟩:=Zfe ho h1 hl
  refine ⟨v2,v3,Z4X o n,?_,?_,Zq4 ho h1 hl⟩
  ·refine ⟨o,List.mem_cons_self,Z4X o n,?_,v4,?_⟩
   ·unfold ZY;split;rfl;split <;> rfl
   ·intro t ht
    unfold ZY at ht
    split at ht
    ·exact ht
    ·split at ht
     ·exact ht
     ·exact List.mem_of_mem_take ht
  ·intro x hx
   rcases List.mem_cons.1 hx with rfl | hx
   ·refine ⟨b1,o,List.mem_cons_self,?_,?_,b2,?_⟩
    ·unfold Z0e;split <;> rfl
    ·unfold Z0e;split <;> rfl
    ·intro t ht
     unfold Z0e at ht
     split at ht
     ·exact ht
     ·exact List.mem_of_mem_drop ht
   ·exact hr x hx
theorem Zn4{d:List Tree}{s:List Tree}(h:Run [] s d):s=[]∧d=[]:=by cases h;exact ⟨rfl,rfl⟩
theorem Zeo:∀ (k:Nat) (p q:List Op) (out:List Piece),p.length+q.length≤k→(∀ o∈p,J4 o)→(∀ o∈q,J4 o)→
  ((Yk 1 2 p q out).2.1=true→∃ ps,(Yk 1 2 p q out).1=out++ps∧(∀ x∈ps,POk p q x)∧(∀ s m,Run p s m↔Run (Z5D ps) s m)∧∀ m d,Run q m d↔Run (Z5C ps) m d)∧
  ((Yk 1 2 p q out).2.1=false→∀ s m d,Run p s m→Run q m d→False):=by
 intro k
 induction k with
 | zero=>
  intro p q out hk hp hq
  have e1:p=[]:=List.eq_nil_of_length_eq_zero (by omega)
  have e2:q=[]:=List.eq_nil_of_length_eq_zero (by omega)
  subst e1 e2
  have e:Yk 1 2 [] [] out=(out,true,[],[]):=by
   rw [Yk,dif_neg (by simp [sgl]),dif_neg (by simp [sgl]),dif_pos (by simp)]
   try rfl
  rw [e]
  exact ⟨fun _=> ⟨[],by simp,fun x hx=> (by cases hx),fun s m=> Iff.rfl,fun m d=> Iff.rfl⟩,fun h=> by cases h⟩
 | succ k ih=>
  intro p q out hk hp hq
  rw [Yk]
  by_cases h1:sgl 1 p=true
  ·rw [dif_pos h1]
   obtain ⟨g1,g2⟩:=Z3D.1 h1
   cases p with
   | nil=> exact absurd rfl g1
   | cons a p'=>
    simp only [List.getD_cons_zero] at g2
    simp only [List.getD_cons_zero,List.drop_succ_cons,List.drop_zero]
    have ha:=hp a List.mem_cons_self
    obtain ⟨i1,i2⟩:=ih p' q (out++[⟨1,a,Op.nil⟩]) (by simp only [List.length_cons] at hk;omega) (fun o ho=> hp o (List.mem_cons_of_mem _ ho)) hq
    refine ⟨fun h=> ?_,fun h s m d r1 r2=> ?_⟩
    ·obtain ⟨ps,e,hps,hP,hQ⟩:=i1 h
     refine ⟨⟨1,a,Op.nil⟩ ::ps,by rw [e,List.append_assoc];rfl,fun x hx=> ?_,fun s m=> ?_,fun m d=> ?_⟩
     ·rcases List.mem_cons.1 hx with rfl | hx
      ·exact ⟨.inr (.inl rfl),fun _=> ⟨Part.self List.mem_cons_self,ha⟩,fun e=> absurd rfl e,fun _=> g2,fun e=> (by cases e),fun e=> (by cases e),fun e=> (by cases e),fun _=> rfl⟩
      ·exact (hps x hx).mono (fun x hx=> Part.self (List.mem_cons_of_mem _ hx)) (fun x hx=> Part.self hx)
     ·show _↔Run (a ::Z5D ps) s m
      exact Z6T hP (Z1p ha) s m
     ·exact hQ m d
    ·obtain ⟨b,s',_,_,hr⟩:=(Z1S g2).1 r1
     exact i2 h s' m d hr r2
  ·rw [dif_neg h1]
   by_cases h2:sgl 2 q=true
   ·rw [dif_pos h2]
    obtain ⟨g1,g2⟩:=Z3D.1 h2
    cases q with
    | nil=> exact absurd rfl g1
    | cons a q'=>
     simp only [List.getD_cons_zero] at g2
     simp only [List.getD_cons_zero,List.drop_succ_cons,List.drop_zero]
     have ha:=hq a List.mem_cons_self
     obtain ⟨i1,i2⟩:=ih p q' (out++[⟨2,Op.nil,a⟩]) (by simp only [List.length_cons] at hk;omega) hp (fun o ho=> hq o (List.mem_cons_of_mem _ ho))
     refine ⟨fun h=> ?_,fun h s m d r1 r2=> ?_⟩
     ·obtain ⟨ps,e,hps,hP,hQ⟩:=i1 h
      refine ⟨⟨2,Op.nil,a⟩ ::ps,by rw [e,List.append_assoc];rfl,fun x hx=> ?_,fun s m=> ?_,fun m d=> ?_⟩
      ·rcases List.mem_cons.1 hx with rfl | hx
       ·exact ⟨.inr (.inr rfl),fun e=> absurd rfl e,fun _=> ⟨Part.self List.mem_cons_self,ha⟩,fun e=> (by cases e),fun _=> g2,fun e=> (by cases e),fun _=> rfl,fun e=> (by cases e)⟩
       ·exact (hps x hx).mono (fun x hx=> Part.self hx) (fun x hx=> Part.self (List.mem_cons_of_mem _ hx))
      ·exact hP s m
      ·show _↔Run (a ::Z5C ps) m d
       exact Z6T hQ (Z1p ha) m d
     ·obtain ⟨d',_,hr⟩:=(Z1T g2).1 r2
      exact i2 h s m d' r1 hr
   ·rw [dif_neg h2]
    by_cases h3:p.length=0∨q.length=0
    ·rw [dif_pos h3]
     by_cases h4:p.length=0
     ·have e1:p=[]:=List.eq_nil_of_length_eq_zero h4
      subst e1
      by_cases h5:q.length=0
      ·have e2:q=[]:=List.eq_nil_of_length_eq_zero h5
       subst e2
       rw [if_pos rfl]
       exact ⟨fun _=> ⟨[],by simp,fun x hx=> (by cases hx),fun s m=> Iff.rfl,fun m d=> Iff.rfl⟩,fun h=> by cases h⟩
      ·rw [if_neg (by rw [decide_eq_false h5];decide)]
       refine ⟨fun h=> (by cases h),fun _ s m d r1 r2=> ?_⟩
       cases q with
       | nil=> exact h5 rfl
       | cons a q'=>
        have ha:=hq a List.mem_cons_self
        obtain ⟨_,rfl⟩:=Zn4 r1
        obtain ⟨m1,m',d',e,hl,_⟩:=Zsg ha (fun e=> h2 (Z3D.2 ⟨by simp,by simpa using e⟩)) r2
        have:=J5 ha
        have e:=congrArg List.length e
        simp at e
        omega
     ·have h5:q.length=0:=by omega
      have e2:q=[]:=List.eq_nil_of_length_eq_zero h5
      subst e2
      rw [if_neg (by rw [decide_eq_false h4];decide)]
      refine ⟨fun h=> (by cases h),fun _ s m d r1 r2=> ?_⟩
      cases p with
      | nil=> exact h4 rfl
      | cons a p'=>
       have ha:=hp a List.mem_cons_self
       obtain ⟨rfl,_⟩:=Zn4 r2
       obtain ⟨m1,s',m',e,hl,_⟩:=Zn2 ha (fun e=> h1 (Z3D.2 ⟨by simp,by simpa using e⟩)) r1
       have:=J5 ha
       have e:=congrArg List.length e
       simp at e
       omega
    ·rw [dif_neg h3]
     cases p with
     | nil=> simp at h3
     | cons a p'=>
      cases q with
      | nil=> simp at h3
      | cons b q'=>
       have ha:=hp a List.mem_cons_self
       have hb:=hq b List.mem_cons_self
       have ka:a.kind≠1:=fun e=> h1 (Z3D.2 ⟨by simp,by simpa using e⟩)
       have kb:b.kind≠2:=fun e=> h2 (Z3D.2 ⟨by simp,by simpa using e⟩)
       have la:=J5 ha
       have lb:=J5 hb
       simp only [List.getD_cons_zero]
       generalize hn:min (Z3 a) (Z3 b)=n
       have hn1:1≤n:=by omega
       have hna:n≤Z3 a:=by omega
       have hnb:n≤Z3 b:=by omega
       obtain ⟨a1,a2,a3,a4,a5,a6⟩:=Zj0 hp hn1 hna
       obtain ⟨b1,b2,b3,b4,b5,b6⟩:=Zj0 hq hn1 hnb
       have hlt:(Yi (a ::p') n).length+(Yi (b ::q') n).length≤k:=by
        have x1:=Jg (a ::p') n (by simp)
        have x2:=Jg (b ::q') n (by simp)
        simp only [List.length_cons] at hk x1 x2
        rcases Int.le_total (Z3 a) (Z3 b) with h | h
        ·have:=Jf (a ::p') n (by simp) (by simp only [List.getD_cons_zero];omega)
         simp only [List.length_cons] at this
         omega
        ·have:=Jf (b ::q') n (by simp) (by simp only [List.getD_cons_zero];omega)
         simp only [List.length_cons] at this
         omega
       obtain ⟨i1,i2⟩:=ih (Yi (a ::p') n) (Yi (b ::q') n) (out++[⟨0,ZY a n,ZY b n⟩]) hlt (fun o ho=> (a5 o ho).1) (fun o ho=> (b5 o ho).1)
       refine ⟨fun h=> ?_,fun h s m d r1 r2=> ?_⟩
       ·obtain ⟨ps,e,hps,hP,hQ⟩:=i1 h
        refine ⟨⟨0,ZY a n,ZY b n⟩ ::ps,by rw [e,List.append_assoc];rfl,fun x hx=> ?_,fun s m=> ?_,fun m d=> ?_⟩
        ·rcases List.mem_cons.1 hx with rfl | hx
         ·exact ⟨.inl rfl,fun _=> ⟨a4,a1⟩,fun _=> ⟨b4,b1⟩,fun e=> (by cases e),fun e=> (by cases e),fun _=> ⟨by dsimp only;omega,by dsimp only;omega,by dsimp only;omega⟩,fun e=> (by cases e),fun e=> (by cases e)⟩
         ·exact (hps x hx).mono (fun x hx=> (a5 x hx).2) (fun x hx=> (b5 x hx).2)
        ·rw [a6 s m]
         exact Z6T hP (Z1p a1) s m
        ·rw [b6 m d]
         exact Z6T hQ (Z1p b1) m d
       ·rw [a6] at r1
        rw [b6] at r2
        obtain ⟨m1,s',m',e,hl,r3⟩:=Zn2 a1 (by omega) r1
        obtain ⟨m2,m3,d',e',hl',r4⟩:=Zsg b1 (by omega) r2
        obtain ⟨_,e2⟩:=List.append_inj (e.symm.trans e') (by omega)
        subst e2
        exact i2 h s' m' d' r3 r4
end Go.AM.YtpjenobkibfpcaaGreat
namespace Go.AM.YtpjenobkibfpcaaGreat
open Go.AM Go.Proofs
section
variable {β:Type} {at_:β→Int} {one:β→β→β × Bool}
structure MSpec (at_:β→Int) (one:β→β→β × Bool) (last:Int) (p q L:List β):Prop where
 asc_:asc at_ last L
 of:∀ x∈L,(x∈p∧∀ b∈q,at_ b≠at_ x)∨(x∈q∧∀ a∈p,at_ a≠at_ x)∨∃ a∈p,∃ b∈q,at_ a=at_ b∧(one a b).2=true∧x=(one a b).1
 left:∀ a∈p,(∀ b∈q,at_ b≠at_ a)→a∈L
 right:∀ b∈q,(∀ a∈p,at_ a≠at_ b)→b∈L
 both:∀ a∈p,∀ b∈q,at_ a=at_ b→(one a b).2=true∧(one a b).1∈L
theorem ZeD(hone:∀ a b,at_ a=at_ b→(one a b).2=true→at_ (one a b).1=at_ a):∀ (k:Nat) (p q:List β) (last:Int),p.length+q.length≤k→asc at_ last p→asc at_ last q→
  (Zt at_ one p q=none→∃ a∈p,∃ b∈q,at_ a=at_ b∧(one a b).2=false)∧∀ L,Zt at_ one p q=some L→MSpec at_ one last p q L:=by
 intro k
 induction k with
 | zero=>
  intro p q last hk hp hq
  have e1:p=[]:=List.eq_nil_of_length_eq_zero (by omega)
  have e2:q=[]:=List.eq_nil_of_length_eq_zero (by omega)
  subst e1 e2
  rw [Zt]
  refine ⟨fun h=> (by cases h),fun L h=> ?_⟩
  cases h
  exact ⟨trivial,fun x hx=> (by cases hx),fun a ha=> (by cases ha),fun a ha=> (by cases ha),fun a ha=> (by cases ha)⟩
 | succ k ih=>
  intro p q last hk hp hq
  match p,q with
  | [],q=>
   rw [Zt]
   refine ⟨fun h=> (by cases h),fun L h=> ?_⟩
   cases h
   exact ⟨hq,fun x hx=> .inr (.inl ⟨hx,fun a ha=> (by cases ha)⟩),fun a ha=> (by cases ha),fun b hb _=> hb,fun a ha=> (by cases ha)⟩
  | a ::p,[]=>
   rw [Zt]
   refine ⟨fun h=> (by cases h),fun L h=> ?_⟩
   cases h
   exact ⟨hp,fun x hx=> .inl ⟨hx,fun a ha=> (by cases ha)⟩,fun b hb _=> hb,fun a ha=> (by cases ha),fun a _ b hb=> (by cases hb)⟩
  | a ::p,b ::q=>
   have gp:=fun x hx=> Zmn hp.2 x hx
   have gq:=fun x hx=> Zmn hq.2 x hx
   simp only [List.length_cons] at hk
   rw [Zt]
   by_cases h1:at_ a < at_ b
   ·rw [if_pos h1]
    obtain ⟨i1,i2⟩:=ih p (b ::q) (at_ a) (by simp only [List.length_cons];omega) hp.2 ⟨h1,hq.2⟩
    refine ⟨fun h=> ?_,fun L h=> ?_⟩
    ·rw [Option.map_eq_none_iff] at h
     obtain ⟨x,hx,y,hy,e⟩:=i1 h
     exact ⟨x,List.mem_cons_of_mem _ hx,y,hy,e⟩
    ·obtain ⟨L',hL,rfl⟩:=Option.map_eq_some_iff.1 h
     have S:=i2 L' hL
     have na:∀ y∈b ::q,at_ y≠at_ a:=by
      intro y hy
      rcases List.mem_cons.1 hy with rfl | hy
      ·omega
      ·have:=gq y hy;omega
     refine ⟨⟨hp.1,S.asc_⟩,fun x hx=> ?_,fun x hx hn=> ?_,fun y hy hn=> ?_,fun x hx y hy e=> ?_⟩
     ·rcases List.mem_cons.1 hx with rfl | hx
      ·exact .inl ⟨List.mem_cons_self,na⟩
      ·rcases S.of x hx with ⟨h2,h3⟩ | ⟨h2,h3⟩ | ⟨c,hc,d,hd,h2⟩
       ·exact .inl ⟨List.mem_cons_of_mem _ h2,h3⟩
       ·refine .inr (.inl ⟨h2,fun c hc=> ?_⟩)
        rcases List.mem_cons.1 hc with rfl | hc
        ·exact (na x h2).symm
        ·exact h3 c hc
       ·exact .inr (.inr ⟨c,List.mem_cons_of_mem _ hc,d,hd,h2⟩)
     ·rcases List.mem_cons.1 hx with rfl | hx
      ·exact List.mem_cons_self
      ·exact List.mem_cons_of_mem _ (S.left x hx hn)
     ·exact List.mem_cons_of_mem _ (S.right y hy fun c hc=> hn c (List.mem_cons_of_mem _ hc))
     ·rcases List.mem_cons.1 hx with rfl | hx
      ·exact absurd e.symm (na y hy)
      ·obtain ⟨h2,h3⟩:=S.both x hx y hy e
       exact ⟨h2,List.mem_cons_of_mem _ h3⟩
   ·rw [if_neg h1]
    by_cases h2:at_ b < at_ a
    ·rw [if_pos h2]
     obtain ⟨i1,i2⟩:=ih (a ::p) q (at_ b) (by simp only [List.length_cons];omega) ⟨h2,hp.2⟩ hq.2
     refine ⟨fun h=> ?_,fun L h=> ?_⟩
     ·rw [Option.map_eq_none_iff] at h
      obtain ⟨x,hx,y,hy,e⟩:=i1 h
      exact ⟨x,hx,y,List.mem_cons_of_mem _ hy,e⟩
     ·obtain ⟨L',hL,rfl⟩:=Option.map_eq_some_iff.1 h
      have S:=i2 L' hL
      have nb:∀ y∈a ::p,at_ y≠at_ b:=by
       intro y hy
       rcases List.mem_cons.1 hy with rfl | hy
       ·omega
       ·have:=gp y hy;omega
      refine ⟨⟨hq.1,S.asc_⟩,fun x hx=> ?_,fun x hx hn=> ?_,fun y hy hn=> ?_,fun x hx y hy e=> ?_⟩
      ·rcases List.mem_cons.1 hx with rfl | hx
       ·exact .inr (.inl ⟨List.mem_cons_self,nb⟩)
       ·rcases S.of x hx with ⟨h3,h4⟩ | ⟨h3,h4⟩ | ⟨c,hc,d,hd,h3⟩
        ·refine .inl ⟨h3,fun c hc=> ?_⟩
         rcases List.mem_cons.1 hc with rfl | hc
         ·exact (nb x h3).symm
         ·exact h4 c hc
        ·exact .inr (.inl ⟨List.mem_cons_of_mem _ h3,h4⟩)
        ·exact .inr (.inr ⟨c,hc,d,List.mem_cons_of_mem _ hd,h3⟩)
      ·exact List.mem_cons_of_mem _ (S.left x hx fun c hc=> hn c (List.mem_cons_of_mem _ hc))
      ·rcases List.mem_cons.1 hy with rfl | hy
       ·exact List.mem_cons_self
       ·exact List.mem_cons_of_mem _ (S.right y hy hn)
      ·rcases List.mem_cons.1 hy with rfl | hy
       ·exact absurd e (nb x hx)
       ·obtain ⟨h3,h4⟩:=S.both x hx y hy e
        exact ⟨h3,List.mem_cons_of_mem _ h4⟩
    ·rw [if_neg h2]
     have e0:at_ a=at_ b:=by omega
     by_cases h3:(one a b).2=true
     ·rw [if_pos h3]
      obtain ⟨i1,i2⟩:=ih p q (at_ a) (by omega) hp.2 (by rw [e0];exact hq.2)
      refine ⟨fun h=> ?_,fun L h=> ?_⟩
      ·rw [Option.map_eq_none_iff] at h
       obtain ⟨x,hx,y,hy,e⟩:=i1 h
       exact ⟨x,List.mem_cons_of_mem _ hx,y,List.mem_cons_of_mem _ hy,e⟩
      ·obtain ⟨L',hL,rfl⟩:=Option.map_eq_some_iff.1 h
       have S:=i2 L' hL
       have hat:=hone a b e0 h3
       have na:∀ y∈q,at_ y≠at_ a:=fun y hy=> by have:=gq y hy;omega
       have nb:∀ y∈p,at_ y≠at_ b:=fun y hy=> by have:=gp y hy;omega
       refine ⟨⟨by rw [hat];exact hp.1,by rw [hat];exact S.asc_⟩,fun x hx=> ?_,fun x hx hn=> ?_,fun y hy hn=> ?_,fun x hx y hy e=> ?_⟩
       ·rcases List.mem_cons.1 hx with rfl | hx
        ·exact .inr (.inr ⟨a,List.mem_cons_self,b,List.mem_cons_self,e0,h3,rfl⟩)
        ·rcases S.of x hx with ⟨h4,h5⟩ | ⟨h4,h5⟩ | ⟨c,hc,d,hd,h4⟩
         ·refine .inl ⟨List.mem_cons_of_mem _ h4,fun c hc=> ?_⟩
          rcases List.mem_cons.1 hc with rfl | hc
          ·exact (nb x h4).symm
          ·exact h5 c hc
         ·refine .inr (.inl ⟨List.mem_cons_of_mem _ h4,fun c hc=> ?_⟩)
          rcases List.mem_cons.1 hc with rfl | hc
          ·exact (na x h4).symm
          ·exact h5 c hc
         ·exact .inr (.inr ⟨c,List.mem_cons_of_mem _ hc,d,List.mem_cons_of_mem _ hd,h4⟩)
       ·rcases List.mem_cons.1 hx with rfl | hx
        ·exact absurd e0.symm (hn b List.mem_cons_self)
        ·exact List.mem_cons_of_mem _ (S.left x hx fun c hc=> hn c (List.mem_cons_of_mem _ hc))
       ·rcases List.mem_cons.1 hy with rfl | hy
        ·exact absurd e0 (hn a List.mem_cons_self)
        ·exact List.mem_cons_of_mem _ (S.right y hy fun c hc=> hn c (List.mem_cons_of_mem _ hc))
       ·rcases List.mem_cons.1 hx with rfl | hx
        ·rcases List.mem_cons.1 hy with rfl | hy
         ·exact ⟨h3,List.mem_cons_self⟩
         ·exact absurd e.symm (na y hy)
        ·rcases List.mem_cons.1 hy with rfl | hy
         ·exact absurd e (nb x hx)
         ·obtain ⟨h4,h5⟩:=S.both x hx y hy e
          exact ⟨h4,List.mem_cons_of_mem _ h5⟩
     ·rw [if_neg h3]
      refine ⟨fun _=> ⟨a,List.mem_cons_self,b,List.mem_cons_self,e0,by simpa using h3⟩,fun L h=> by cases h⟩
variable {α:Type} {z:α} {F:β→α→Option α} {R:α→α→Prop}
end
end Go.AM.YtpjenobkibfpcaaGreat
namespace Go.AM.YtpjenobkibfpcaaGreat
open Go.AM Go.Proofs
theorem Z4x(m:Int)(h0:0≤m)(h1:m < 256)(i:Nat):Z0j m (i:Int)=(BitVec.ofInt 8 m).toNat.testBit i:=by
 obtain ⟨n,rfl⟩:=Int.eq_ofNat_of_zero_le h0
 have e:(BitVec.ofInt 8 ((n:Nat):Int)).toNat=n:=by simp;omega
 rw [e,Nat.testBit_eq_decide_div_mod_eq]
 unfold Z0j
 rw [decide_eq_decide,Int.toNat_natCast]
 have:((n:Int) / 2 ^ i % 2:Int)=((n / 2 ^ i % 2:Nat):Int):=by rw [Int.natCast_emod,Int.natCast_ediv,Int.natCast_pow];try rfl
 rw [this];omega
theorem ZxX{a b:Int}(ha:0≤a∧a < 256)(hb:0≤b∧b < 256):(0≤Zr6 a b∧Zr6 a b < 256)∧∀ i:Nat,Z0j (Zr6 a b) (i:Int)=(Z0j a (i:Int) && Z0j b (i:Int)):=by
 have hlt:(BitVec.ofInt 8 a &&& BitVec.ofInt 8 b).toNat < 256:=(BitVec.ofInt 8 a &&& BitVec.ofInt 8 b).isLt
 have e:Zr6 a b=((BitVec.ofInt 8 a &&& BitVec.ofInt 8 b).toNat:Int):=by
  show IntKind.wrap .u8 ((BitVec.ofInt 8 a &&& BitVec.ofInt 8 b).toNat:Int)=_
  exact ZcH (by omega) (by omega)
 refine ⟨by rw [e];omega,fun i=> ?_⟩
 rw [Z4x _ (by rw [e];omega) (by rw [e];omega),e,Z4x a ha.1 ha.2,Z4x b hb.1 hb.2]
 have:(BitVec.ofInt 8 (((BitVec.ofInt 8 a &&& BitVec.ofInt 8 b).toNat:Nat):Int)).toNat=(BitVec.ofInt 8 a &&& BitVec.ofInt 8 b).toNat:=by
  generalize (BitVec.ofInt 8 a &&& BitVec.ofInt 8 b).toNat=k at hlt ⊢
  simp
  omega
 rw [this,BitVec.toNat_and,Nat.testBit_and]
theorem ZAv{a b:Int}(ha:0≤a∧a < 256)(hb:0≤b∧b < 256):(0≤orM a b∧orM a b < 256)∧∀ i:Nat,Z0j (orM a b) (i:Int)=(Z0j a (i:Int) || Z0j b (i:Int)):=by
 have hlt:(BitVec.ofInt 8 a ||| BitVec.ofInt 8 b).toNat < 256:=(BitVec.ofInt 8 a ||| BitVec.ofInt 8 b).isLt
 have e:orM a b=((BitVec.ofInt 8 a ||| BitVec.ofInt 8 b).toNat:Int):=by
  show IntKind.wrap .u8 ((BitVec.ofInt 8 a ||| BitVec.ofInt 8 b).toNat:Int)=_
  exact ZcH (by omega) (by omega)
 refine ⟨by rw [e];omega,fun i=> ?_⟩
 rw [Z4x _ (by rw [e];omega) (by rw [e];omega),e,Z4x a ha.1 ha.2,Z4x b hb.1 hb.2]
 have:(BitVec.ofInt 8 (((BitVec.ofInt 8 a ||| BitVec.ofInt 8 b).toNat:Nat):Int)).toNat=(BitVec.ofInt 8 a ||| BitVec.ofInt 8 b).toNat:=by
  generalize (BitVec.ofInt 8 a ||| BitVec.ofInt 8 b).toNat=k at hlt ⊢
  simp
  omega
 rw [this,BitVec.toNat_or,Nat.testBit_or]
theorem ZzL(i:Nat):Zn 0 i=0:=by unfold Zn;simp
theorem Zbz{w m:Int}(h:Yu w m=true){i:Nat}(hi:i < 8)(hn:Z0j m i=false):Zn w i=0:=by
 have h:mix w 0 m=0:=of_decide_eq_true h
 have e:=congrArg (fun x=> Zn x i) h
 simp only [Zk3 hi,Ji,hn,ZzL] at e
 simpa using e
theorem Ztx{a b m:Int}{i:Nat}(hi:i < 8):Zn (mix a b m) i=if Z0j m i=true then Zn b i else Zn a i:=by rw [Zk3 hi];try rfl
theorem ZxQ(a b:WEdit)(h:(JS a b).2=true):(JS a b).1.at_=a.at_:=by
 unfold JS at h ⊢
 split
 ·try rfl
 ·rename_i hn;rw [if_neg hn] at h;cases h
theorem Z04{e:Edit}{d:Int}(h:Z2 e d=true):∀ o∈e.ops,J4 o:=Z8l (Zz h).ops
theorem Z7V {f g:Edit→Edit→Edit × Bool} {p q:Edit} {d d':Int} (hp:Z2 p d=true) (hq:Z2 q d'=true)
  (h:∀ a b,Z9 a+Z9 b < Z9 p+Z9 q→(∃ d,Z2 a d=true)→(∃ d,Z2 b d=true)→f a b=g a b):JW f p q=JW g p q:=by
 have rp:=Zz hp
 have rq:=Zz hq
 have hk:Zt KidOf.at_ (Z24 f) p.kids q.kids=Zt KidOf.at_ (Z24 g) p.kids q.kids:=by
  have key:∀ (k:Nat) (a b:List Kid),a.length+b.length≤k→(∀ x∈a,x∈p.kids)→(∀ x∈b,x∈q.kids)→Zt KidOf.at_ (Z24 f) a b=Zt KidOf.at_ (Z24 g) a b:=by
   intro k
   induction k with
   | zero=>
    intro a b hn _ _
    have e1:a=[]:=List.eq_nil_of_length_eq_zero (by omega)
    subst e1
    rw [Zt,Zt]
   | succ k ihk=>
    intro a b hn ha hb
    match a,b with
    | [],b=> rw [Zt,Zt]
    | x ::a,[]=> rw [Zt,Zt]
    | x ::a,y ::b=>
     simp only [List.length_cons] at hn
     have hx:=J6 (ha x List.mem_cons_self)
     have hy:=J6 (hb y List.mem_cons_self)
     have e:Z24 f x y=Z24 g x y:=by
      unfold Z24
      rw [h x.e y.e (by omega) ⟨_,(Y1 rp.kids x (ha x List.mem_cons_self)).2⟩ ⟨_,(Y1 rq.kids y (hb y List.mem_cons_self)).2⟩]
     rw [Zt,Zt,e,ihk a (y ::b) (by simp only [List.length_cons];omega) (fun z hz=> ha z (List.mem_cons_of_mem _ hz)) hb,ihk (x ::a) b (by simp only [List.length_cons];omega) ha (fun z hz=> hb z (List.mem_cons_of_mem _ hz)),
      ihk a b (by omega) (fun z hz=> ha z (List.mem_cons_of_mem _ hz)) (fun z hz=> hb z (List.mem_cons_of_mem _ hz))]
  exact key _ _ _ (Nat.le_refl _) (fun x hx=> hx) (fun x hx=> hx)
 have ho:Z2g f p.ops q.ops=Z2g g p.ops q.ops:=by
  unfold Z2g
  obtain ⟨i1,_⟩:=Zeo _ p.ops q.ops [] (Nat.le_refl _) (Z04 hp) (Z04 hq)
  by_cases hb:(Yk 1 2 p.ops q.ops []).2.1=true
  ·rw [if_pos hb,if_pos hb]
   obtain ⟨ps,e,hps,hA,hB⟩:=i1 hb
   rw [e,List.nil_append]
   clear e i1 hb hA hB
   induction ps with
   | nil=> rfl
   | cons x r ihr=>
    have hx:=hps x List.mem_cons_self
    have e:Jl f x=Jl g x:=by
     unfold Jl
     by_cases h1:x.of=1∨(x.of=0∧x.q.kind=0)
     ·rw [if_pos h1,if_pos h1]
     rw [if_neg h1,if_neg h1]
     by_cases h2:x.of=2∨x.p.kind=0
     ·rw [if_pos h2,if_pos h2]
     rw [if_neg h2,if_neg h2]
     by_cases h3:x.p.kind=2∧x.q.kind=1
     ·rw [if_pos h3,if_pos h3]
     rw [if_neg h3,if_neg h3]
     by_cases h4:x.p.kind=2
     ·rw [if_pos h4,if_pos h4]
     rw [if_neg h4,if_neg h4]
     by_cases h5:x.q.kind=1
     ·rw [if_pos h5,if_pos h5]
     rw [if_neg h5,if_neg h5]
     have h0:x.of=0:=by rcases hx.of with h | h | h <;> omega
     obtain ⟨hpk,hqk,hl⟩:=hx.both h0
     obtain ⟨⟨o1,m1,k1,e1,_⟩,op⟩:=hx.pp (by omega)
     obtain ⟨⟨o2,m2,k2,e2,_⟩,oq⟩:=hx.qq (by omega)
     have kp3:x.p.kind=3:=by rcases Z1p op with h | h | h | h <;> omega
     have kq3:x.q.kind=3:=by rcases Z1p oq with h | h | h | h <;> omega
     have:=Jw m1
     have:=Jw m2
     have r1:=Jm (rightOs_mem rp.ops m1) (by omega)
     have r2:=Jm (rightOs_mem rq.ops m2) (by omega)
     rw [e1,e2,h o1.e o2.e (by omega) ⟨_,r1⟩ ⟨_,r2⟩]
    rw [Z1b,Z1b,e,ihr fun y hy=> hps y (List.mem_cons_of_mem _ hy)]
  ·rw [if_neg hb,if_neg hb]
 unfold JW
 rw [hk,ho]
theorem ZgL:∀ (n m:Nat) (p q:Edit) (d d':Int),Z2 p d=true→Z2 q d'=true→Z9 p+Z9 q≤n→n≤m→ZfA m p q=ZfA n p q:=by
 intro n
 induction n with
 | zero=> intro m p q d d' _ _ h;obtain ⟨k,o,nw,w,ks,l,os⟩:=p;simp only [Z9] at h;omega
 | succ n ih=>
  intro m p q d d' hp hq h hm
  obtain ⟨m,rfl⟩:∃ k,m=k+1:=⟨m - 1,by omega⟩
  show JW (ZfA m) p q=JW (ZfA n) p q
  exact Z7V hp hq fun a b hab ⟨d1,h1⟩ ⟨d2,h2⟩=> ih m a b d1 d2 h1 h2 (by omega) (by omega)
theorem ZgM{p q:Edit}{d d':Int}(hp:Z2 p d=true)(hq:Z2 q d'=true):Yt p q=JW Yt p q:=by
 have e:Yt p q=ZfA (Z9 p+Z9 q+1) p q:=(ZgL _ _ p q d d' hp hq (Nat.le_refl _) (by omega)).symm
 rw [e]
 show JW (ZfA (Z9 p+Z9 q)) p q=JW Yt p q
 exact Z7V hp hq fun a b hab ⟨d1,h1⟩ ⟨d2,h2⟩=> ZgL _ _ a b d1 d2 h1 h2 (Nat.le_refl _) (by omega)
end Go.AM.YtpjenobkibfpcaaGreat
namespace Go.AM.YtpjenobkibfpcaaGreat
open Go.AM Go.Proofs
theorem ZEK{e:Edit}(h:e.kind=0)(t:Tree):doE false e t=some t:=by rw [Z4g,Z0O,if_pos h]
theorem ZBq{e:Edit}(h:e.kind=2)(t:Tree):doE false e t=if t.kind=1 then (wsD t.words e.words t.words).bind fun a=> (Z2c false t.kids e.kids t.kids).map fun b=> .mk 1 a b else none:=by
 rw [Z4g,Z0O,if_neg (by omega),if_neg (by omega),if_pos h]
theorem ZxN{e:Edit}(h:e.kind=3)(t:Tree):doE false e t=if t.kind=e.list then (Z4f (J0 false e.ops t.kids [])).map fun b=> .mk e.list [] b else none:=by
 rw [Z4g,Z0O,if_neg (by omega),if_neg (by omega),if_neg (by omega),if_pos h]
theorem ZzJ(w:List WEdit)(ks:List Kid)(t:Tree):doE false (.mk 2 Tree.nil Tree.nil w ks 0 []) t=if t.kind=1 then (wsD t.words w t.words).bind fun a=> (Z2c false t.kids ks t.kids).map fun b=> .mk 1 a b else none:=ZBq rfl t
theorem ZEJ(l:Int)(os:List Op)(t:Tree):doE false (.mk 3 Tree.nil Tree.nil [] [] l os) t=if t.kind=l then (Z4f (J0 false os t.kids [])).map fun b=> .mk l [] b else none:=ZxN rfl t
theorem J9{e:Edit}(h:YI e):rng e.old∧rng e.new∧(∀ x∈e.words,Z39 x)∧Z0q e.kids∧Z02 e.ops:=by
 obtain ⟨k,o,n,w,ks,l,os⟩:=e
 exact ⟨h.2.1,h.2.2.1,h.2.2.2.1,h.2.2.2.2.2.1,h.2.2.2.2.2.2⟩
end Go.AM.YtpjenobkibfpcaaGreat
namespace Go.AM.YtpjenobkibfpcaaGreat
open Go.AM Go.Proofs
theorem Z1r(list:Int):∀ (a b:List Op) (w:Wst),Zr list (a++b) w=Zr list b (Zr list a w)
 | [],_,_=> rfl
 | o ::r,b,w=> by simp only [List.cons_append,Zr,Z1r list r b]
theorem ZeY(o:Op)(n:Int):∀ l:List Op,Ye (l++[o]) n=if o.kind=0 then l++[⟨o.kind,o.n+n,o.l,o.e⟩] else l++[o,⟨0,n,[],Edit.nil⟩]
 | []=> by simp only [List.nil_append,Ye]
 | [a]=> by simp only [List.cons_append,List.nil_append,Ye];split <;> rfl
 | a ::b ::r=> by
  have:=ZeY o n (b ::r)
  simp only [List.cons_append] at this ⊢
  rw [Ye,this]
  split <;> rfl
theorem ZqK(x:List Op):(Z1 ⟨x,[],[]⟩).out=x:=by simp [Z1,YD]
theorem Z6q(w:Wst)(a b:Int):ZG (ZG w a) b=ZG w (a+b):=by
 unfold ZG
 rw [ZqK,Z6r]
structure Alike (c r:Edit × Bool):Prop where
 ok:c.2=r.2
 nrm:c.2=true→Zv c.1=Zv r.1
end Go.AM.YtpjenobkibfpcaaGreat
namespace Go.AM.YtpjenobkibfpcaaGreat
open Go.AM Go.Proofs
section
variable {g:Edit→Edit→Edit × Bool}
end
theorem ZAA(l:Int)(os:List Op):Zv (.mk 3 Tree.nil Tree.nil [] [] l os)= .mk 3 Tree.nil Tree.nil [] [] l (Z1 (Zr l os ⟨[],[],[]⟩)).out:=by rw [Zv,if_neg (by decide),if_neg (by decide),if_pos rfl]
end Go.AM.YtpjenobkibfpcaaGreat
namespace Go.AM.YtpjenobkibfpcaaGreat
open Go.AM Go.Proofs
theorem Zbs(e:Edit):18≤ctE e:=by
 have:=Z5w e
 have:=YA e.old
 have:=YA e.new
 omega
theorem ZoO(o n:Tree):ctE (.mk 1 o n [] [] 0 [])=16+Zu o+Zu n:=by simp [ctE,Z0L,J7]
mutual
theorem Zau:∀ (e:Edit),ctE (ZS e)=ctE e
 | .mk k o n w ks l os=> by
  have h1:=ZgJ ks
  have h2:=ZgI os
  simp only [ZS,ctE,List.length_map]
  omega
theorem ZgJ:∀ (ks:List (KidOf Edit)),Z0L (JZ ks)=Z0L ks
 | []=> rfl
 | k ::r=> by
  have h1:=Zmj k
  have h2:=ZgJ r
  simp only [JZ,Z0L]
  omega
theorem Zmj:∀ (k:KidOf Edit),Z4P (Z1D k)=Z4P k
 | ⟨a,e⟩=> by
  have:=Zau e
  simp only [Z1D,Z4P]
  omega
theorem ZgI:∀ (os:List (OpOf Edit)),J7 (Jt os)=J7 os
 | []=> rfl
 | o ::r=> by
  have h1:=ZqO o
  have h2:=ZgI r
  simp only [Jt,J7]
  omega
theorem ZqO:∀ (o:OpOf Edit),Z3t (J8 o)=Z3t o
 | ⟨k,n,l,e⟩=> by
  have:=Zau e
  rw [JL]
  dsimp only
  split
  ·try rfl
  ·split
   ·try rfl
   ·split
    ·simp only [Z3t];omega
    ·try rfl
end
theorem Z4N:∀ (a b:List Op),J7 (a++b)=J7 a+J7 b
 | [],b=> by simp [J7]
 | o ::r,b=> by simp only [List.cons_append,J7,Z4N r b];omega
def ctW(w:Wst):Nat:=J7 w.out+(Zh w.gone+if w.gone.length=0 then 0 else 34)+(Zh w.brought+if w.brought.length=0 then 0 else 34)
theorem Z6B:ctE Edit.nil=18:=rfl
theorem Zf7(w:Wst):J7 (Z1 w).out=ctW w:=by
 simp only [Z1,YD,ctW,Z4N]
 by_cases h1:w.gone.length=0
 ·rw [if_pos h1,if_pos h1,List.eq_nil_of_length_eq_zero h1]
  by_cases h2:w.brought.length=0
  ·rw [if_pos h2,if_pos h2,List.eq_nil_of_length_eq_zero h2];simp [J7,Zh]
  ·rw [if_neg h2,if_neg h2];simp only [J7,Z3t,Z6B,Zh];omega
 ·rw [if_neg h1,if_neg h1]
  by_cases h2:w.brought.length=0
  ·rw [if_pos h2,if_pos h2,List.eq_nil_of_length_eq_zero h2];simp only [J7,Z3t,Z6B,Zh];omega
  ·rw [if_neg h2,if_neg h2];simp only [J7,Z3t,Z6B];omega
theorem ZoM(w:Wst)(n:Int):ctW (ZG w n)≤ctW w+34:=by
 have h:=Zf7 w
 have e:ctW (ZG w n)=J7 (Ye (Z1 w).out n):=by simp [ZG,ctW,Zh]
 rw [e,←h]
 rcases Jk (Z1 w).out n with e | ⟨a,q,e1,_,e3⟩
 ·rw [e,Z4N];simp only [J7,Z3t,Z6B,Zh];omega
 ·rw [e3,e1,Z4N,Z4N];simp only [J7,Z3t,Z5v];omega
mutual
theorem Zbr:∀ (e:Edit),ctE (Zv e)≤ctE e
 | .mk k o n w ks l os=> by
  have h1:=ZkA ks
  have h2:=Zkz l os ⟨[],[],[]⟩
  have h3:=Ja o
  have h4:=Ja n
  have:=YA o
  have:=YA n
  have hf:=Zf7 (Zr l os ⟨[],[],[]⟩)
  have hz:ctW ⟨[],[],[]⟩=0:=rfl
  rw [Zv]
  split
  ·simp only [ctE,Z0L,J7,List.length_nil];omega
  ·split
   ·simp only [ctE,J7,Z0Q];omega
   ·split
    ·simp only [ctE,Z0L,Z0Q,List.length_nil];omega
    ·simp only [ctE,Z0L,J7,Z0Q,List.length_nil];omega
theorem ZkA:∀ (ks:List (KidOf Edit)),Z0L (J3 ks)≤Z0L ks
 | []=> Nat.le_refl _
 | k ::r=> by
  have h1:=ZqP k
  have h2:=ZkA r
  simp only [J3,Z0L]
  omega
theorem ZqP:∀ (k:KidOf Edit),Z4P (Z0F k)≤Z4P k
 | ⟨a,e⟩=> by
  have:=Zbr e
  simp only [Z0F,Z4P]
  omega
theorem Zkz(list:Int):∀ (os:List (OpOf Edit)) (w:Wst),ctW (Zr list os w)≤ctW w+J7 os
 | [],w=> Nat.le_refl _
 | o ::r,w=> by
  have h1:=ZuK list o w
  have h2:=Zkz list r (Z0r list o w)
  simp only [Zr,J7]
  omega
theorem ZuK(list:Int):∀ (o:OpOf Edit) (w:Wst),ctW (Z0r list o w)≤ctW w+Z3t o
 | ⟨k,n,l,e⟩,w=> by
  have he:=Zbr e
  have h18:=Zbs e
  have hl:=Z6m l
  have hc:=fun a b=> JO a b
  rw [Z0r]
  simp only [Z3t]
  split
  ·have:=ZoM w n;omega
  ·split
   ·have:=JO w.gone (Zb l)
    simp only [ctW]
    split <;> split <;> omega
   ·split
    ·have:=JO w.brought (Zb l)
     simp only [ctW]
     split <;> split <;> split <;> omega
    ·split
     ·split
      ·have:=ZoM w 1;omega
      ·have hf:=Zf7 w
       show J7 ((Z1 w).out++[⟨3,0,[],Zv e⟩])+_+_≤_
       rw [Z4N,hf]
       simp only [J7,Z3t,Zh,List.length_nil,if_pos]
       omega
     ·omega
end
def JQ(φ:Op→Int):List Op→Int
 | []=> 0
 | o ::r=> φ o+JQ φ r
def Zrc(φ:Op→Int):Prop:=∀ o n,J4 o→1≤n→¬Z3 o≤n→φ (ZY o n)+φ (Z0e o n)=φ o
theorem ZiZ{φ:Op→Int}(hφ:Zrc φ){p:List Op}{n:Int}(hp:∀ o∈p,J4 o)(hl:p.length≠0)(h1:1≤n):φ (ZY (p.getD 0 Op.nil) n)+JQ φ (Yi p n)=JQ φ p∧∀ o∈Yi p n,J4 o:=by
 cases p with
 | nil=> exact absurd rfl hl
 | cons o r=>
  have ho:=hp o List.mem_cons_self
  unfold Yi
  simp only [List.getD_cons_zero,List.drop_succ_cons,List.drop_zero]
  by_cases h:Z3 o≤n
  ·rw [if_pos h]
   have e:ZY o n=o:=by unfold ZY;rw [if_pos h]
   rw [e]
   exact ⟨rfl,fun x hx=> hp x (List.mem_cons_of_mem _ hx)⟩
  ·rw [if_neg h]
   refine ⟨by simp only [JQ];have:=hφ o n ho h1 h;omega,fun x hx=> ?_⟩
   rcases List.mem_cons.1 hx with rfl | hx
   ·exact (Zfe ho h1 h).1
   ·exact hp x (List.mem_cons_of_mem _ hx)
theorem Zen{φ ψ:Op→Int}(hφ:Zrc φ)(hψ:Zrc ψ)(a:Int):∀ (k:Nat) (p q:List Op) (out:List Piece),p.length+q.length≤k→(∀ o∈p,J4 o)→(∀ o∈q,J4 o)→(Yk a 2 p q out).2.1=true→
  ∃ ps,(Yk a 2 p q out).1=out++ps∧JQ φ (Z5D ps)=JQ φ p∧JQ ψ (Z5C ps)=JQ ψ q∧ps.length≤p.length+q.length:=by
 intro k
 induction k with
 | zero=>
  intro p q out hk hp hq h
  have e1:p=[]:=List.eq_nil_of_length_eq_zero (by omega)
  have e2:q=[]:=List.eq_nil_of_length_eq_zero (by omega)
  subst e1 e2
  rw [Yk,dif_neg (by simp [sgl]),dif_neg (by simp [sgl]),dif_pos (by simp)]
  exact ⟨[],by simp,rfl,rfl,by simp⟩
 | succ k ih=>
  intro p q out hk hp hq h
  rw [Yk] at h ⊢
  by_cases h1:sgl a p=true
  ·rw [dif_pos h1] at h ⊢
   obtain ⟨g1,_⟩:=Z3D.1 h1
   cases p with
   | nil=> exact absurd rfl g1
   | cons o r=>
    simp only [List.getD_cons_zero,List.drop_succ_cons,List.drop_zero] at h ⊢
    obtain ⟨ps,e,f1,f2,f3⟩:=ih r q _ (by simp only [List.length_cons] at hk;omega) (fun x hx=> hp x (List.mem_cons_of_mem _ hx)) hq h
    refine ⟨⟨1,o,Op.nil⟩ ::ps,by rw [e,List.append_assoc];rfl,?_,?_,by simp only [List.length_cons];omega⟩
    ·show JQ φ (o ::Z5D ps)=_
     simp only [JQ];omega
    ·exact f2
  ·rw [dif_neg h1] at h ⊢
   by_cases h2:sgl 2 q=true
   ·rw [dif_pos h2] at h ⊢
    obtain ⟨g1,_⟩:=Z3D.1 h2
    cases q with
    | nil=> exact absurd rfl g1
    | cons o r=>
     simp only [List.getD_cons_zero,List.drop_succ_cons,List.drop_zero] at h ⊢
     obtain ⟨ps,e,f1,f2,f3⟩:=ih p r _ (by simp only [List.length_cons] at hk;omega) hp (fun x hx=> hq x (List.mem_cons_of_mem _ hx)) h
     refine ⟨⟨2,Op.nil,o⟩ ::ps,by rw [e,List.append_assoc];rfl,f1,?_,by simp only [List.length_cons];omega⟩
     show JQ ψ (o ::Z5C ps)=_
     simp only [JQ];omega
   ·rw [dif_neg h2] at h ⊢
    by_cases h3:p.length=0∨q.length=0
    ·rw [dif_pos h3] at h ⊢
     by_cases h4:decide (p.length=0)=decide (q.length=0)
     ·rw [if_pos h4]
      have h5:p.length=0∧q.length=0:=by
       have:=decide_eq_decide.1 h4
       omega
      rw [List.eq_nil_of_length_eq_zero h5.1,List.eq_nil_of_length_eq_zero h5.2]
      exact ⟨[],by simp,rfl,rfl,by simp⟩
     ·rw [if_neg h4] at h;cases h
    ·rw [dif_neg h3] at h ⊢
     have l1:p.length≠0:=by omega
     have l2:q.length≠0:=by omega
     have p1:=J5 (hp _ (Zi (l:=p) (i:=0) (by omega) Op.nil))
     have p2:=J5 (hq _ (Zi (l:=q) (i:=0) (by omega) Op.nil))
     generalize hn:min (Z3 (p.getD 0 Op.nil)) (Z3 (q.getD 0 Op.nil))=n at h ⊢
     obtain ⟨s1,s2⟩:=ZiZ hφ hp l1 (n:=n) (by omega)
     obtain ⟨t1,t2⟩:=ZiZ hψ hq l2 (n:=n) (by omega)
     have c1:=Jg p n l1
     have c2:=Jg q n l2
     have c3:Z3 (p.getD 0 Op.nil)≤n→(Yi p n).length < p.length:=fun h=> Jf p _ l1 h
     have c4:Z3 (q.getD 0 Op.nil)≤n→(Yi q n).length < q.length:=fun h=> Jf q _ l2 h
     obtain ⟨ps,e,f1,f2,f3⟩:=ih (Yi p n) (Yi q n) _ (by omega) s2 t2 h
     refine ⟨⟨0,ZY (p.getD 0 Op.nil) n,ZY (q.getD 0 Op.nil) n⟩ ::ps,by rw [e,List.append_assoc];rfl,?_,?_,by simp only [List.length_cons];omega⟩
     ·show JQ φ (ZY (p.getD 0 Op.nil) n ::Z5D ps)=_
      simp only [JQ];omega
     ·show JQ ψ (ZY (q.getD 0 Op.nil) n ::Z5C ps)=_
      simp only [JQ];omega
def φA(o:Op):Int:=if o.kind=2 then 0 else Z3 o
def φB(o:Op):Int:=if o.kind=1 then 0 else Z3 o
def φC(o:Op):Int:=Zh o.l+ctE o.e - 18
theorem Zl5:∀ l,JQ φA l=ZH l
 | []=> rfl
 | o ::r=> by simp only [JQ,ZH,φA,Zl5 r]
theorem Zl4:∀ l,JQ φB l=Yf l
 | []=> rfl
 | o ::r=> by simp only [JQ,Yf,φB,Zl4 r]
theorem Zh2:∀ l,JQ φC l+34*l.length=J7 l
 | []=> rfl
 | o ::r=> by
  have:=Zh2 r
  simp only [JQ,J7,φC,Z5v,List.length_cons]
  omega
theorem Zff(o:Op)(n:Int):(Z0e o n).kind=o.kind:=by unfold Z0e;split <;> rfl
theorem ZkF{o:Op}{n:Int}(ho:J4 o)(h1:1≤n)(hn:¬Z3 o≤n):Z3 (Z0e o n)=Z3 o - n:=by
 obtain ⟨_,_,v3,_⟩:=Z8A (a:=1) ho h1 hn
 have hl:=YV o
 rcases ho with ⟨k0,k1,k2,k3⟩ | ⟨k0,k1,k2,k3⟩ | ⟨k0,k1,k2⟩
 ·unfold Z0e
  rw [if_pos k0,YV]
  dsimp only
  rw [if_neg (by omega)] at hl ⊢
  omega
 ·unfold Z0e
  rw [if_neg (by omega),YV]
  dsimp only
  rw [if_neg (by omega)] at hl ⊢
  rw [List.length_drop]
  omega
 ·rw [if_pos k0] at hl
  omega
theorem ZzP:Zrc φA:=by
 intro o n ho h1 hn
 obtain ⟨_,_,v3,_⟩:=Z8A (a:=1) ho h1 hn
 have:=ZkF ho h1 hn
 unfold φA
 rw [Z4X,Zff,v3,this]
 split <;> omega
theorem ZzO:Zrc φB:=by
 intro o n ho h1 hn
 obtain ⟨_,_,v3,_⟩:=Z8A (a:=1) ho h1 hn
 have:=ZkF ho h1 hn
 unfold φB
 rw [Z4X,Zff,v3,this]
 split <;> omega
theorem ZzN:Zrc φC:=by
 intro o n ho h1 hn
 have hl:=YV o
 unfold φC ZY Z0e
 rw [if_neg hn]
 rcases ho with ⟨k0,k1,k2,k3⟩ | ⟨k0,k1,k2,k3⟩ | ⟨k0,k1,k2⟩
 ·rw [if_pos k0,if_pos k0]
  dsimp only
  rw [k3,k1,Z6B]
  simp [Zh]
 ·rw [if_neg (by omega),if_neg (by omega)]
  dsimp only
  have:=JO (o.l.take n.toNat) (o.l.drop n.toNat)
  rw [List.take_append_drop] at this
  rw [k3,Z6B]
  omega
 ·rw [if_pos k0] at hl
  omega
end Go.AM.YtpjenobkibfpcaaGreat
