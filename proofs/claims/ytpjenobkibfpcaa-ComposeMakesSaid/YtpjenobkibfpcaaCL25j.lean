import Derived.Test.YtpjenobkibfpcaaCD25
import Derived.Test.YtpjenobkibfpcaaKB22b
set_option linter.unusedSimpArgs false
set_option linter.unusedVariables false
namespace Go.AM.Ytpjenobkibfpcaa
open Go.AM Go.Proofs
theorem Z1M{o:Op}{r:List Op}{s d:List Tree}(h0:o.kind=0):Run (o ::r) s d↔∃ a s' d',s=a++s'∧d=a++d'∧(a.length:Int)=o.n∧Run r s' d':=by
 constructor
 ·intro h
  cases h with
  | keep _ h2 h3=> exact ⟨_,_,_,rfl,rfl,h2,h3⟩
  | gone h1=> omega
  | come h1=> omega
  | into h1=> omega
 ·rintro ⟨a,s',d',rfl,rfl,h2,h3⟩
  exact .keep h0 h2 h3
theorem Z1N{o:Op}{r:List Op}{s d:List Tree}(h0:o.kind=1):Run (o ::r) s d↔∃ a s',s=a++s'∧Z8 o.l=Z8 a∧Run r s' d:=by
 constructor
 ·intro h
  cases h with
  | gone _ h2 h3=> exact ⟨_,_,rfl,h2,h3⟩
  | keep h1=> omega
  | come h1=> omega
  | into h1=> omega
 ·rintro ⟨a,s',rfl,h2,h3⟩
  exact .gone h0 h2 h3
theorem Z1O{o:Op}{r:List Op}{s d:List Tree}(h0:o.kind=2):Run (o ::r) s d↔∃ d',d=o.l++d'∧Run r s d':=by
 constructor
 ·intro h
  cases h with
  | come _ h3=> exact ⟨_,rfl,h3⟩
  | keep h1=> omega
  | gone h1=> omega
  | into h1=> omega
 ·rintro ⟨d',rfl,h3⟩
  exact .come h0 h3
theorem Z98{o:Op}{r:List Op}{s d:List Tree}(h0:o.kind=3):Run (o ::r) s d↔∃ x s' y d',s=x ::s'∧d=y ::d'∧doE false o.e x=some y∧Run r s' d':=by
 constructor
 ·intro h
  cases h with
  | into _ h2 h3=> exact ⟨_,_,_,_,rfl,rfl,h2,h3⟩
  | keep h1=> omega
  | gone h1=> omega
  | come h1=> omega
 ·rintro ⟨x,s',y,d',rfl,rfl,h2,h3⟩
  exact .into h0 h2 h3
theorem Z6W{o:Op}{p r:List Op}(h:∀ s d,Run p s d↔Run r s d)(hk:kOk o)(s d:List Tree):Run (o ::p) s d↔Run (o ::r) s d:=by
 rcases hk with h0 | h1 | h2 | h3
 ·rw [Z1M h0.1,Z1M h0.1];simp only [h]
 ·rw [Z1N h1,Z1N h1];simp only [h]
 ·rw [Z1O h2,Z1O h2];simp only [h]
 ·rw [Z98 h3,Z98 h3];simp only [h]
theorem YX{o:Op}(h:ZN o):kOk o:=by
 rcases h with h | h | h
 ·exact .inl ⟨h.1,by omega⟩
 ·rcases h.1 with h1 | h1
  ·exact .inr (.inl h1)
  ·exact .inr (.inr (.inl h1))
 ·exact .inr (.inr (.inr h.1))
theorem Z9t{o:Op}(h:ZN o)(h0:o.kind=0):Z2 o=o.n:=by
 rcases h with h | h | h
 ·unfold Z2;rw [if_neg (by omega),h.2.1];simp
 ·omega
 ·omega
theorem JY{o:Op}(h:ZN o)(h0:o.kind=1∨o.kind=2):Z2 o=o.l.length:=by
 rcases h with h | h | h
 ·omega
 ·unfold Z2;rw [if_neg (by omega),h.2.1];omega
 ·omega
theorem JQ{o:Op}(h0:o.kind=3):Z2 o=1:=by unfold Z2;rw [if_pos h0]
theorem ZlZ{o:Op}{r:List Op}{s m:List Tree}(ho:ZN o)(hk:o.kind≠1)(h:Run (o ::r) s m):∃ m1 s' m',m=m1++m'∧(m1.length:Int)=Z2 o∧Run r s' m':=by
 rcases YX ho with h0 | h1 | h2 | h3
 ·obtain ⟨a,s',d',_,rfl,hl,hr⟩:=(Z1M h0.1).1 h
  exact ⟨a,s',d',rfl,by rw [Z9t ho h0.1];exact hl,hr⟩
 ·exact absurd h1 hk
 ·obtain ⟨d',rfl,hr⟩:=(Z1O h2).1 h
  exact ⟨o.l,s,d',rfl,by rw [JY ho (.inr h2)],hr⟩
 ·obtain ⟨x,s',y,d',_,rfl,_,hr⟩:=(Z98 h3).1 h
  exact ⟨[y],s',d',rfl,by rw [JQ h3];rfl,hr⟩
theorem ZqP{o:Op}{r:List Op}{m d:List Tree}(ho:ZN o)(hk:o.kind≠2)(h:Run (o ::r) m d):∃ m1 m' d',m=m1++m'∧(m1.length:Int)=Z2 o∧Run r m' d':=by
 rcases YX ho with h0 | h1 | h2 | h3
 ·obtain ⟨a,s',d',rfl,_,hl,hr⟩:=(Z1M h0.1).1 h
  exact ⟨a,s',d',rfl,by rw [Z9t ho h0.1];exact hl,hr⟩
 ·obtain ⟨a,s',rfl,hn,hr⟩:=(Z1N h1).1 h
  exact ⟨a,s',d,rfl,by rw [JY ho (.inl h1),Z4g hn],hr⟩
 ·exact absurd h2 hk
 ·obtain ⟨x,s',y,d',rfl,_,_,hr⟩:=(Z98 h3).1 h
  exact ⟨[x],s',d',rfl,by rw [JQ h3];rfl,hr⟩
theorem Zov{o:Op}{r:List Op}{n:Int}(ho:ZN o)(h1:1≤n)(hn:¬Z2 o≤n)(s d:List Tree):Run (o ::r) s d↔Run (Zz o n ::JS o n ::r) s d:=by
 unfold Zz JS
 rw [if_neg hn]
 rcases YX ho with h0 | hg | hc | hi
 ·have hl:=Z9t ho h0.1
  rw [if_pos h0.1,if_pos h0.1,Z1M h0.1,Z1M (o:=⟨o.kind,n,o.l,o.e⟩) h0.1]
  constructor
  ·rintro ⟨a,s',d',rfl,rfl,ha,hr⟩
   refine ⟨a.take n.toNat,a.drop n.toNat++s',a.drop n.toNat++d',by rw [←List.append_assoc,List.take_append_drop],by rw [←List.append_assoc,List.take_append_drop],by rw [List.length_take];dsimp only;omega,?_⟩
   exact (Z1M (o:=⟨o.kind,o.n - n,o.l,o.e⟩) h0.1).2 ⟨a.drop n.toNat,s',d',rfl,rfl,by rw [List.length_drop];dsimp only;omega,hr⟩
  ·rintro ⟨a,s',d',rfl,rfl,ha,hr⟩
   obtain ⟨b,s2,d2,rfl,rfl,hb,hr2⟩:=(Z1M (o:=⟨o.kind,o.n - n,o.l,o.e⟩) h0.1).1 hr
   dsimp only at ha hb
   exact ⟨a++b,s2,d2,by rw [List.append_assoc],by rw [List.append_assoc],by rw [List.length_append];omega,hr2⟩
 ·have hl:=JY ho (.inl hg)
  rw [if_neg (by omega),if_neg (by omega),Z1N hg,Z1N (o:=⟨o.kind,o.n,o.l.take n.toNat,o.e⟩) hg]
  constructor
  ·rintro ⟨a,s',rfl,ha,hr⟩
   have hla:=Z4g ha
   refine ⟨a.take n.toNat,a.drop n.toNat++s',by rw [←List.append_assoc,List.take_append_drop],EqvL.take ha _,?_⟩
   exact (Z1N (o:=⟨o.kind,o.n,o.l.drop n.toNat,o.e⟩) hg).2 ⟨a.drop n.toNat,s',rfl,EqvL.drop ha _,hr⟩
  ·rintro ⟨a,s',rfl,ha,hr⟩
   obtain ⟨b,s2,rfl,hb,hr2⟩:=(Z1N (o:=⟨o.kind,o.n,o.l.drop n.toNat,o.e⟩) hg).1 hr
   refine ⟨a++b,s2,by rw [List.append_assoc],?_,hr2⟩
   have:=Z4h ha hb
   rwa [List.take_append_drop] at this
 ·rw [if_neg (by omega),if_neg (by omega),Z1O hc,Z1O (o:=⟨o.kind,o.n,o.l.take n.toNat,o.e⟩) hc]
  constructor
  ·rintro ⟨d',rfl,hr⟩
   refine ⟨o.l.drop n.toNat++d',by rw [←List.append_assoc,List.take_append_drop],?_⟩
   exact (Z1O (o:=⟨o.kind,o.n,o.l.drop n.toNat,o.e⟩) hc).2 ⟨d',rfl,hr⟩
  ·rintro ⟨d',rfl,hr⟩
   obtain ⟨d2,rfl,hr2⟩:=(Z1O (o:=⟨o.kind,o.n,o.l.drop n.toNat,o.e⟩) hc).1 hr
   exact ⟨d2,by rw [←List.append_assoc,List.take_append_drop],hr2⟩
 ·rw [JQ hi] at hn
  omega
def Z1K:List Piece→List Op
 | []=> []
 | x ::r=> (if x.of=2 then [] else [x.p])++Z1K r
def Z1J:List Piece→List Op
 | []=> []
 | x ::r=> (if x.of=1 then [] else [x.q])++Z1J r
def Part(l:List Op)(o:Op):Prop:=∃ o'∈l,o.kind=o'.kind∧o.e=o'.e∧Zs o≤Zs o'∧∀ t∈o.l,t∈o'.l
structure POk (p q:List Op) (x:Piece):Prop where
 of:x.of=0∨x.of=1∨x.of=2
 pp:x.of≠2→Part p x.p∧ZN x.p
 qq:x.of≠1→Part q x.q∧ZN x.q
 one:x.of=1→x.p.kind=1
 two:x.of=2→x.q.kind=2
 both:x.of=0→x.p.kind≠1∧x.q.kind≠2∧Z2 x.p=Z2 x.q
 pn:x.of=2→x.p=Op.nil
 qn:x.of=1→x.q=Op.nil
theorem Part.mono{l l':List Op}{o:Op}(h:Part l o)(hl:∀ x∈l,Part l' x):Part l' o:=by
 obtain ⟨o',h1,h2,h3,h5,h4⟩:=h
 obtain ⟨o2,g1,g2,g3,g5,g4⟩:=hl o' h1
 exact ⟨o2,g1,h2.trans g2,h3.trans g3,Nat.le_trans h5 g5,fun t ht=> g4 t (h4 t ht)⟩
theorem Part.self{l:List Op}{o:Op}(h:o∈l):Part l o:=⟨o,h,rfl,rfl,Nat.le_refl _,fun _ h=> h⟩
theorem POk.mono{p q p' q':List Op}{x:Piece}(h:POk p q x)(hp:∀ x∈p,Part p' x)(hq:∀ x∈q,Part q' x):POk p' q' x:=
 ⟨h.of,fun e=> ⟨(h.pp e).1.mono hp,(h.pp e).2⟩,fun e=> ⟨(h.qq e).1.mono hq,(h.qq e).2⟩,h.one,h.two,h.both,h.pn,h.qn⟩
theorem Zi8{o:Op}{r:List Op}{n:Int}(h:∀ x∈o ::r,ZN x)(h1:1≤n)(hn:n≤Z2 o):
  ZN (Zz o n)∧Z2 (Zz o n)=n∧(Zz o n).kind=o.kind∧Part (o ::r) (Zz o n)∧(∀ x∈ZO (o ::r) n,ZN x∧Part (o ::r) x)∧∀ s d,Run (o ::r) s d↔Run (Zz o n ::ZO (o ::r) n) s d:=by
 have ho:=h o List.mem_cons_self
 have hr:∀ x∈r,ZN x∧Part (o ::r) x:=fun x hx=> ⟨h x (List.mem_cons_of_mem _ hx),Part.self (List.mem_cons_of_mem _ hx)⟩
 unfold ZO
 simp only [List.getD_cons_zero,List.drop_succ_cons,List.drop_zero]
 by_cases hl:Z2 o≤n
 ·rw [if_pos hl]
  have e:Zz o n=o:=by unfold Zz;rw [if_pos hl]
  rw [e]
  exact ⟨ho,by omega,rfl,Part.self List.mem_cons_self,hr,fun s d=> Iff.rfl⟩
 ·rw [if_neg hl]
  obtain ⟨_,v2,v3,v4⟩:=Z5C (a:=1) ho h1 hl
  obtain ⟨b1,b2⟩:=Zan ho h1 hl
  refine ⟨v2,v3,Z0w o n,?_,?_,Zov ho h1 hl⟩
  ·refine ⟨o,List.mem_cons_self,Z0w o n,?_,v4,?_⟩
   ·unfold Zz;split;rfl;split <;> rfl
   ·intro t ht
    unfold Zz at ht
    split at ht
    ·exact ht
    ·split at ht
     ·exact ht
     ·exact List.mem_of_mem_take ht
  ·intro x hx
   rcases List.mem_cons.1 hx with rfl | hx
   ·refine ⟨b1,o,List.mem_cons_self,?_,?_,b2,?_⟩
    ·unfold JS;split <;> rfl
    ·unfold JS;split <;> rfl
    ·intro t ht
     unfold JS at ht
     split at ht
     ·exact ht
     ·exact List.mem_of_mem_drop ht
   ·exact hr x hx
theorem Zm0{d:List Tree}{s:List Tree}(h:Run [] s d):s=[]∧d=[]:=by cases h;exact ⟨rfl,rfl⟩
theorem Z4d:∀ (k:Nat) (p q:List Op) (out:List Piece),p.length+q.length≤k→(∀ o∈p,ZN o)→(∀ o∈q,ZN o)→
  ((ZP 1 2 p q out).2.1=true→∃ ps,(ZP 1 2 p q out).1=out++ps∧(∀ x∈ps,POk p q x)∧(∀ s m,Run p s m↔Run (Z1K ps) s m)∧∀ m d,Run q m d↔Run (Z1J ps) m d)∧
  ((ZP 1 2 p q out).2.1=false→∀ s m d,Run p s m→Run q m d→False):=by
 intro k
 induction k with
 | zero=>
  intro p q out hk hp hq
  have e1:p=[]:=List.eq_nil_of_length_eq_zero (by omega)
  have e2:q=[]:=List.eq_nil_of_length_eq_zero (by omega)
  subst e1 e2
  have e:ZP 1 2 [] [] out=(out,true,[],[]):=by
   rw [ZP,dif_neg (by simp [sgl]),dif_neg (by simp [sgl]),dif_pos (by simp)]
   try rfl
  rw [e]
  exact ⟨fun _=> ⟨[],by simp,fun x hx=> (by cases hx),fun s m=> Iff.rfl,fun m d=> Iff.rfl⟩,fun h=> by cases h⟩
 | succ k ih=>
  intro p q out hk hp hq
  rw [ZP]
  by_cases h1:sgl 1 p=true
  ·rw [dif_pos h1]
   obtain ⟨g1,g2⟩:=Z0r.1 h1
   cases p with
   | nil=> exact absurd rfl g1
   | cons a p'=>
    simp only [List.getD_cons_zero] at g2
    simp only [List.getD_cons_zero,List.drop_succ_cons,List.drop_zero]
    have ha:=hp a List.mem_cons_self
    obtain ⟨i1,i2⟩:=ih p' q (out++[⟨1,a,Op.nil⟩]) (by simp only [List.length_cons] at hk;omega) (fun o ho=> hp o (List.mem_cons_of_mem _ ho)) hq
    refine ⟨fun h=> ?_,fun h s m d r1 r2=> ?_⟩
    ·obtain ⟨ps,e,hps,hP,hQ⟩:=i1 h
     refine ⟨⟨1,a,Op.nil⟩ ::ps,by rw [e,List.append_assoc];rfl,fun x hx=> ?_,fun s m=> ?_,fun m d=> ?_⟩
     ·rcases List.mem_cons.1 hx with rfl | hx
      ·exact ⟨.inr (.inl rfl),fun _=> ⟨Part.self List.mem_cons_self,ha⟩,fun e=> absurd rfl e,fun _=> g2,fun e=> (by cases e),fun e=> (by cases e),fun e=> (by cases e),fun _=> rfl⟩
      ·exact (hps x hx).mono (fun x hx=> Part.self (List.mem_cons_of_mem _ hx)) (fun x hx=> Part.self hx)
     ·show _↔Run (a ::Z1K ps) s m
      exact Z6W hP (YX ha) s m
     ·exact hQ m d
    ·obtain ⟨b,s',_,_,hr⟩:=(Z1N g2).1 r1
     exact i2 h s' m d hr r2
  ·rw [dif_neg h1]
   by_cases h2:sgl 2 q=true
   ·rw [dif_pos h2]
    obtain ⟨g1,g2⟩:=Z0r.1 h2
    cases q with
    | nil=> exact absurd rfl g1
    | cons a q'=>
     simp only [List.getD_cons_zero] at g2
     simp only [List.getD_cons_zero,List.drop_succ_cons,List.drop_zero]
     have ha:=hq a List.mem_cons_self
     obtain ⟨i1,i2⟩:=ih p q' (out++[⟨2,Op.nil,a⟩]) (by simp only [List.length_cons] at hk;omega) hp (fun o ho=> hq o (List.mem_cons_of_mem _ ho))
     refine ⟨fun h=> ?_,fun h s m d r1 r2=> ?_⟩
     ·obtain ⟨ps,e,hps,hP,hQ⟩:=i1 h
      refine ⟨⟨2,Op.nil,a⟩ ::ps,by rw [e,List.append_assoc];rfl,fun x hx=> ?_,fun s m=> ?_,fun m d=> ?_⟩
      ·rcases List.mem_cons.1 hx with rfl | hx
       ·exact ⟨.inr (.inr rfl),fun e=> absurd rfl e,fun _=> ⟨Part.self List.mem_cons_self,ha⟩,fun e=> (by cases e),fun _=> g2,fun e=> (by cases e),fun _=> rfl,fun e=> (by cases e)⟩
       ·exact (hps x hx).mono (fun x hx=> Part.self hx) (fun x hx=> Part.self (List.mem_cons_of_mem _ hx))
      ·exact hP s m
      ·show _↔Run (a ::Z1J ps) m d
       exact Z6W hQ (YX ha) m d
     ·obtain ⟨d',_,hr⟩:=(Z1O g2).1 r2
      exact i2 h s m d' r1 hr
   ·rw [dif_neg h2]
    by_cases h3:p.length=0∨q.length=0
    ·rw [dif_pos h3]
     by_cases h4:p.length=0
     ·have e1:p=[]:=List.eq_nil_of_length_eq_zero h4
      subst e1
      by_cases h5:q.length=0
      ·have e2:q=[]:=List.eq_nil_of_length_eq_zero h5
       subst e2
       rw [if_pos rfl]
       exact ⟨fun _=> ⟨[],by simp,fun x hx=> (by cases hx),fun s m=> Iff.rfl,fun m d=> Iff.rfl⟩,fun h=> by cases h⟩
      ·rw [if_neg (by rw [decide_eq_false h5];decide)]
       refine ⟨fun h=> (by cases h),fun _ s m d r1 r2=> ?_⟩
       cases q with
       | nil=> exact h5 rfl
       | cons a q'=>
        have ha:=hq a List.mem_cons_self
        obtain ⟨_,rfl⟩:=Zm0 r1
        obtain ⟨m1,m',d',e,hl,_⟩:=ZqP ha (fun e=> h2 (Z0r.2 ⟨by simp,by simpa using e⟩)) r2
        have:=ZY ha
        have e:=congrArg List.length e
        simp at e
        omega
     ·have h5:q.length=0:=by omega
      have e2:q=[]:=List.eq_nil_of_length_eq_zero h5
      subst e2
      rw [if_neg (by rw [decide_eq_false h4];decide)]
      refine ⟨fun h=> (by cases h),fun _ s m d r1 r2=> ?_⟩
      cases p with
      | nil=> exact h4 rfl
      | cons a p'=>
       have ha:=hp a List.mem_cons_self
       obtain ⟨rfl,_⟩:=Zm0 r2
       obtain ⟨m1,s',m',e,hl,_⟩:=ZlZ ha (fun e=> h1 (Z0r.2 ⟨by simp,by simpa using e⟩)) r1
       have:=ZY ha
       have e:=congrArg List.length e
       simp at e
       omega
    ·rw [dif_neg h3]
     cases p with
     | nil=> simp at h3
     | cons a p'=>
      cases q with
      | nil=> simp at h3
      | cons b q'=>
       have ha:=hp a List.mem_cons_self
       have hb:=hq b List.mem_cons_self
       have ka:a.kind≠1:=fun e=> h1 (Z0r.2 ⟨by simp,by simpa using e⟩)
       have kb:b.kind≠2:=fun e=> h2 (Z0r.2 ⟨by simp,by simpa using e⟩)
       have la:=ZY ha
       have lb:=ZY hb
       simp only [List.getD_cons_zero]
       generalize hn:min (Z2 a) (Z2 b)=n
       have hn1:1≤n:=by omega
       have hna:n≤Z2 a:=by omega
       have hnb:n≤Z2 b:=by omega
       obtain ⟨a1,a2,a3,a4,a5,a6⟩:=Zi8 hp hn1 hna
       obtain ⟨b1,b2,b3,b4,b5,b6⟩:=Zi8 hq hn1 hnb
       have hlt:(ZO (a ::p') n).length+(ZO (b ::q') n).length≤k:=by
        have x1:=YA (a ::p') n (by simp)
        have x2:=YA (b ::q') n (by simp)
        simp only [List.length_cons] at hk x1 x2
        rcases Int.le_total (Z2 a) (Z2 b) with h | h
        ·have:=Yz (a ::p') n (by simp) (by simp only [List.getD_cons_zero];omega)
         simp only [List.length_cons] at this
         omega
        ·have:=Yz (b ::q') n (by simp) (by simp only [List.getD_cons_zero];omega)
         simp only [List.length_cons] at this
         omega
       obtain ⟨i1,i2⟩:=ih (ZO (a ::p') n) (ZO (b ::q') n) (out++[⟨0,Zz a n,Zz b n⟩]) hlt (fun o ho=> (a5 o ho).1) (fun o ho=> (b5 o ho).1)
       refine ⟨fun h=> ?_,fun h s m d r1 r2=> ?_⟩
       ·obtain ⟨ps,e,hps,hP,hQ⟩:=i1 h
        refine ⟨⟨0,Zz a n,Zz b n⟩ ::ps,by rw [e,List.append_assoc];rfl,fun x hx=> ?_,fun s m=> ?_,fun m d=> ?_⟩
        ·rcases List.mem_cons.1 hx with rfl | hx
         ·exact ⟨.inl rfl,fun _=> ⟨a4,a1⟩,fun _=> ⟨b4,b1⟩,fun e=> (by cases e),fun e=> (by cases e),fun _=> ⟨by dsimp only;omega,by dsimp only;omega,by dsimp only;omega⟩,fun e=> (by cases e),fun e=> (by cases e)⟩
         ·exact (hps x hx).mono (fun x hx=> (a5 x hx).2) (fun x hx=> (b5 x hx).2)
        ·rw [a6 s m]
         exact Z6W hP (YX a1) s m
        ·rw [b6 m d]
         exact Z6W hQ (YX b1) m d
       ·rw [a6] at r1
        rw [b6] at r2
        obtain ⟨m1,s',m',e,hl,r3⟩:=ZlZ a1 (by omega) r1
        obtain ⟨m2,m3,d',e',hl',r4⟩:=ZqP b1 (by omega) r2
        obtain ⟨_,e2⟩:=List.append_inj (e.symm.trans e') (by omega)
        subst e2
        exact i2 h s' m' d' r3 r4
end Go.AM.Ytpjenobkibfpcaa
namespace Go.AM.Ytpjenobkibfpcaa
open Go.AM Go.Proofs
section
variable {β:Type} {at_:β→Int} {one:β→β→β × Bool}
structure MSpec (at_:β→Int) (one:β→β→β × Bool) (last:Int) (p q L:List β):Prop where
 asc_:asc at_ last L
 of:∀ x∈L,(x∈p∧∀ b∈q,at_ b≠at_ x)∨(x∈q∧∀ a∈p,at_ a≠at_ x)∨∃ a∈p,∃ b∈q,at_ a=at_ b∧(one a b).2=true∧x=(one a b).1
 left:∀ a∈p,(∀ b∈q,at_ b≠at_ a)→a∈L
 right:∀ b∈q,(∀ a∈p,at_ a≠at_ b)→b∈L
 both:∀ a∈p,∀ b∈q,at_ a=at_ b→(one a b).2=true∧(one a b).1∈L
theorem Zef(hone:∀ a b,at_ a=at_ b→(one a b).2=true→at_ (one a b).1=at_ a):∀ (k:Nat) (p q:List β) (last:Int),p.length+q.length≤k→asc at_ last p→asc at_ last q→
  (Zd at_ one p q=none→∃ a∈p,∃ b∈q,at_ a=at_ b∧(one a b).2=false)∧∀ L,Zd at_ one p q=some L→MSpec at_ one last p q L:=by
 intro k
 induction k with
 | zero=>
  intro p q last hk hp hq
  have e1:p=[]:=List.eq_nil_of_length_eq_zero (by omega)
  have e2:q=[]:=List.eq_nil_of_length_eq_zero (by omega)
  subst e1 e2
  rw [Zd]
  refine ⟨fun h=> (by cases h),fun L h=> ?_⟩
  cases h
  exact ⟨trivial,fun x hx=> (by cases hx),fun a ha=> (by cases ha),fun a ha=> (by cases ha),fun a ha=> (by cases ha)⟩
 | succ k ih=>
  intro p q last hk hp hq
  match p,q with
  | [],q=>
   rw [Zd]
   refine ⟨fun h=> (by cases h),fun L h=> ?_⟩
   cases h
   exact ⟨hq,fun x hx=> .inr (.inl ⟨hx,fun a ha=> (by cases ha)⟩),fun a ha=> (by cases ha),fun b hb _=> hb,fun a ha=> (by cases ha)⟩
  | a ::p,[]=>
   rw [Zd]
   refine ⟨fun h=> (by cases h),fun L h=> ?_⟩
   cases h
   exact ⟨hp,fun x hx=> .inl ⟨hx,fun a ha=> (by cases ha)⟩,fun b hb _=> hb,fun a ha=> (by cases ha),fun a _ b hb=> (by cases hb)⟩
  | a ::p,b ::q=>
   have gp:=fun x hx=> Z3l hp.2 x hx
   have gq:=fun x hx=> Z3l hq.2 x hx
   simp only [List.length_cons] at hk
   rw [Zd]
   by_cases h1:at_ a < at_ b
   ·rw [if_pos h1]
    obtain ⟨i1,i2⟩:=ih p (b ::q) (at_ a) (by simp only [List.length_cons];omega) hp.2 ⟨h1,hq.2⟩
    refine ⟨fun h=> ?_,fun L h=> ?_⟩
    ·rw [Option.map_eq_none_iff] at h
     obtain ⟨x,hx,y,hy,e⟩:=i1 h
     exact ⟨x,List.mem_cons_of_mem _ hx,y,hy,e⟩
    ·obtain ⟨L',hL,rfl⟩:=Option.map_eq_some_iff.1 h
     have S:=i2 L' hL
     have na:∀ y∈b ::q,at_ y≠at_ a:=by
      intro y hy
      rcases List.mem_cons.1 hy with rfl | hy
      ·omega
      ·have:=gq y hy;omega
     refine ⟨⟨hp.1,S.asc_⟩,fun x hx=> ?_,fun x hx hn=> ?_,fun y hy hn=> ?_,fun x hx y hy e=> ?_⟩
     ·rcases List.mem_cons.1 hx with rfl | hx
      ·exact .inl ⟨List.mem_cons_self,na⟩
      ·rcases S.of x hx with ⟨h2,h3⟩ | ⟨h2,h3⟩ | ⟨c,hc,d,hd,h2⟩
       ·exact .inl ⟨List.mem_cons_of_mem _ h2,h3⟩
       ·refine .inr (.inl ⟨h2,fun c hc=> ?_⟩)
        rcases List.mem_cons.1 hc with rfl | hc
        ·exact (na x h2).symm
        ·exact h3 c hc
       ·exact .inr (.inr ⟨c,List.mem_cons_of_mem _ hc,d,hd,h2⟩)
     ·rcases List.mem_cons.1 hx with rfl | hx
      ·exact List.mem_cons_self
      ·exact List.mem_cons_of_mem _ (S.left x hx hn)
     ·exact List.mem_cons_of_mem _ (S.right y hy fun c hc=> hn c (List.mem_cons_of_mem _ hc))
     ·rcases List.mem_cons.1 hx with rfl | hx
      ·exact absurd e.symm (na y hy)
      ·obtain ⟨h2,h3⟩:=S.both x hx y hy e
       exact ⟨h2,List.mem_cons_of_mem _ h3⟩
   ·rw [if_neg h1]
    by_cases h2:at_ b < at_ a
    ·rw [if_pos h2]
     obtain ⟨i1,i2⟩:=ih (a ::p) q (at_ b) (by simp only [List.length_cons];omega) ⟨h2,hp.2⟩ hq.2
     refine ⟨fun h=> ?_,fun L h=> ?_⟩
     ·rw [Option.map_eq_none_iff] at h
      obtain ⟨x,hx,y,hy,e⟩:=i1 h
      exact ⟨x,hx,y,List.mem_cons_of_mem _ hy,e⟩
     ·obtain ⟨L',hL,rfl⟩:=Option.map_eq_some_iff.1 h
      have S:=i2 L' hL
      have nb:∀ y∈a ::p,at_ y≠at_ b:=by
       intro y hy
       rcases List.mem_cons.1 hy with rfl | hy
       ·omega
       ·have:=gp y hy;omega
      refine ⟨⟨hq.1,S.asc_⟩,fun x hx=> ?_,fun x hx hn=> ?_,fun y hy hn=> ?_,fun x hx y hy e=> ?_⟩
      ·rcases List.mem_cons.1 hx with rfl | hx
       ·exact .inr (.inl ⟨List.mem_cons_self,nb⟩)
       ·rcases S.of x hx with ⟨h3,h4⟩ | ⟨h3,h4⟩ | ⟨c,hc,d,hd,h3⟩
        ·refine .inl ⟨h3,fun c hc=> ?_⟩
         rcases List.mem_cons.1 hc with rfl | hc
         ·exact (nb x h3).symm
         ·exact h4 c hc
        ·exact .inr (.inl ⟨List.mem_cons_of_mem _ h3,h4⟩)
        ·exact .inr (.inr ⟨c,hc,d,List.mem_cons_of_mem _ hd,h3⟩)
      ·exact List.mem_cons_of_mem _ (S.left x hx fun c hc=> hn c (List.mem_cons_of_mem _ hc))
      ·rcases List.mem_cons.1 hy with rfl | hy
       ·exact List.mem_cons_self
       ·exact List.mem_cons_of_mem _ (S.right y hy hn)
      ·rcases List.mem_cons.1 hy with rfl | hy
       ·exact absurd e (nb x hx)
       ·obtain ⟨h3,h4⟩:=S.both x hx y hy e
        exact ⟨h3,List.mem_cons_of_mem _ h4⟩
    ·rw [if_neg h2]
     have e0:at_ a=at_ b:=by omega
     by_cases h3:(one a b).2=true
     ·rw [if_pos h3]
      obtain ⟨i1,i2⟩:=ih p q (at_ a) (by omega) hp.2 (by rw [e0];exact hq.2)
      refine ⟨fun h=> ?_,fun L h=> ?_⟩
      ·rw [Option.map_eq_none_iff] at h
       obtain ⟨x,hx,y,hy,e⟩:=i1 h
       exact ⟨x,List.mem_cons_of_mem _ hx,y,List.mem_cons_of_mem _ hy,e⟩
      ·obtain ⟨L',hL,rfl⟩:=Option.map_eq_some_iff.1 h
       have S:=i2 L' hL
       have hat:=hone a b e0 h3
       have na:∀ y∈q,at_ y≠at_ a:=fun y hy=> by have:=gq y hy;omega
       have nb:∀ y∈p,at_ y≠at_ b:=fun y hy=> by have:=gp y hy;omega
       refine ⟨⟨by rw [hat];exact hp.1,by rw [hat];exact S.asc_⟩,fun x hx=> ?_,fun x hx hn=> ?_,fun y hy hn=> ?_,fun x hx y hy e=> ?_⟩
       ·rcases List.mem_cons.1 hx with rfl | hx
        ·exact .inr (.inr ⟨a,List.mem_cons_self,b,List.mem_cons_self,e0,h3,rfl⟩)
        ·rcases S.of x hx with ⟨h4,h5⟩ | ⟨h4,h5⟩ | ⟨c,hc,d,hd,h4⟩
         ·refine .inl ⟨List.mem_cons_of_mem _ h4,fun c hc=> ?_⟩
          rcases List.mem_cons.1 hc with rfl | hc
          ·exact (nb x h4).symm
          ·exact h5 c hc
         ·refine .inr (.inl ⟨List.mem_cons_of_mem _ h4,fun c hc=> ?_⟩)
          rcases List.mem_cons.1 hc with rfl | hc
          ·exact (na x h4).symm
          ·exact h5 c hc
         ·exact .inr (.inr ⟨c,List.mem_cons_of_mem _ hc,d,List.mem_cons_of_mem _ hd,h4⟩)
       ·rcases List.mem_cons.1 hx with rfl | hx
        ·exact absurd e0.symm (hn b List.mem_cons_self)
        ·exact List.mem_cons_of_mem _ (S.left x hx fun c hc=> hn c (List.mem_cons_of_mem _ hc))
       ·rcases List.mem_cons.1 hy with rfl | hy
        ·exact absurd e0 (hn a List.mem_cons_self)
        ·exact List.mem_cons_of_mem _ (S.right y hy fun c hc=> hn c (List.mem_cons_of_mem _ hc))
       ·rcases List.mem_cons.1 hx with rfl | hx
        ·rcases List.mem_cons.1 hy with rfl | hy
         ·exact ⟨h3,List.mem_cons_self⟩
         ·exact absurd e.symm (na y hy)
        ·rcases List.mem_cons.1 hy with rfl | hy
         ·exact absurd e (nb x hx)
         ·obtain ⟨h4,h5⟩:=S.both x hx y hy e
          exact ⟨h4,List.mem_cons_of_mem _ h5⟩
     ·rw [if_neg h3]
      refine ⟨fun _=> ⟨a,List.mem_cons_self,b,List.mem_cons_self,e0,by simpa using h3⟩,fun L h=> by cases h⟩
variable {α:Type} {z:α} {F:β→α→Option α} {R:α→α→Prop}
end
end Go.AM.Ytpjenobkibfpcaa
namespace Go.AM.Ytpjenobkibfpcaa
open Go.AM Go.Proofs
theorem Z4m(m:Int)(h0:0≤m)(h1:m < 256)(i:Nat):Zx m (i:Int)=(BitVec.ofInt 8 m).toNat.testBit i:=by
 obtain ⟨n,rfl⟩:=Int.eq_ofNat_of_zero_le h0
 have e:(BitVec.ofInt 8 ((n:Nat):Int)).toNat=n:=by simp;omega
 rw [e,Nat.testBit_eq_decide_div_mod_eq]
 unfold Zx
 rw [decide_eq_decide,Int.toNat_natCast]
 have:((n:Int) / 2 ^ i % 2:Int)=((n / 2 ^ i % 2:Nat):Int):=by rw [Int.natCast_emod,Int.natCast_ediv,Int.natCast_pow];try rfl
 rw [this];omega
theorem ZnZ{a b:Int}(ha:0≤a∧a < 256)(hb:0≤b∧b < 256):(0≤Zpw a b∧Zpw a b < 256)∧∀ i:Nat,Zx (Zpw a b) (i:Int)=(Zx a (i:Int) && Zx b (i:Int)):=by
 have hlt:(BitVec.ofInt 8 a &&& BitVec.ofInt 8 b).toNat < 256:=(BitVec.ofInt 8 a &&& BitVec.ofInt 8 b).isLt
 have e:Zpw a b=((BitVec.ofInt 8 a &&& BitVec.ofInt 8 b).toNat:Int):=by
  show IntKind.wrap .u8 ((BitVec.ofInt 8 a &&& BitVec.ofInt 8 b).toNat:Int)=_
  exact Z8L (by omega) (by omega)
 refine ⟨by rw [e];omega,fun i=> ?_⟩
 rw [Z4m _ (by rw [e];omega) (by rw [e];omega),e,Z4m a ha.1 ha.2,Z4m b hb.1 hb.2]
 have:(BitVec.ofInt 8 (((BitVec.ofInt 8 a &&& BitVec.ofInt 8 b).toNat:Nat):Int)).toNat=(BitVec.ofInt 8 a &&& BitVec.ofInt 8 b).toNat:=by
  generalize (BitVec.ofInt 8 a &&& BitVec.ofInt 8 b).toNat=k at hlt ⊢
  simp
  omega
 rw [this,BitVec.toNat_and,Nat.testBit_and]
theorem ZrH{a b:Int}(ha:0≤a∧a < 256)(hb:0≤b∧b < 256):(0≤orM a b∧orM a b < 256)∧∀ i:Nat,Zx (orM a b) (i:Int)=(Zx a (i:Int) || Zx b (i:Int)):=by
 have hlt:(BitVec.ofInt 8 a ||| BitVec.ofInt 8 b).toNat < 256:=(BitVec.ofInt 8 a ||| BitVec.ofInt 8 b).isLt
 have e:orM a b=((BitVec.ofInt 8 a ||| BitVec.ofInt 8 b).toNat:Int):=by
  show IntKind.wrap .u8 ((BitVec.ofInt 8 a ||| BitVec.ofInt 8 b).toNat:Int)=_
  exact Z8L (by omega) (by omega)
 refine ⟨by rw [e];omega,fun i=> ?_⟩
 rw [Z4m _ (by rw [e];omega) (by rw [e];omega),e,Z4m a ha.1 ha.2,Z4m b hb.1 hb.2]
 have:(BitVec.ofInt 8 (((BitVec.ofInt 8 a ||| BitVec.ofInt 8 b).toNat:Nat):Int)).toNat=(BitVec.ofInt 8 a ||| BitVec.ofInt 8 b).toNat:=by
  generalize (BitVec.ofInt 8 a ||| BitVec.ofInt 8 b).toNat=k at hlt ⊢
  simp
  omega
 rw [this,BitVec.toNat_or,Nat.testBit_or]
theorem Zxe(i:Nat):Z0 0 i=0:=by unfold Z0;simp
theorem Z3q{w m:Int}(h:Yl w m=true){i:Nat}(hi:i < 8)(hn:Zx m i=false):Z0 w i=0:=by
 have h:mix w 0 m=0:=of_decide_eq_true h
 have e:=congrArg (fun x=> Z0 x i) h
 simp only [Zj7 hi,J0,hn,Zxe] at e
 simpa using e
theorem Zkx{a b m:Int}{i:Nat}(hi:i < 8):Z0 (mix a b m) i=if Zx m i=true then Z0 b i else Z0 a i:=by rw [Zj7 hi];try rfl
theorem ZvO(a b:WEdit)(h:(J5 a b).2=true):(J5 a b).1.at_=a.at_:=by
 unfold J5 at h ⊢
 split
 ·try rfl
 ·rename_i hn;rw [if_neg hn] at h;cases h
theorem ZJ{e:Edit}{d:Int}(h:Za e d=true):∀ o∈e.ops,ZN o:=Z8u (Zn h).ops
theorem Z84 {f g:Edit→Edit→Edit × Bool} {p q:Edit} {d d':Int} (hp:Za p d=true) (hq:Za q d'=true)
  (h:∀ a b,Z5 a+Z5 b < Z5 p+Z5 q→(∃ d,Za a d=true)→(∃ d,Za b d=true)→f a b=g a b):Jn f p q=Jn g p q:=by
 have rp:=Zn hp
 have rq:=Zn hq
 have hk:Zd KidOf.at_ (Jv f) p.kids q.kids=Zd KidOf.at_ (Jv g) p.kids q.kids:=by
  have key:∀ (k:Nat) (a b:List Kid),a.length+b.length≤k→(∀ x∈a,x∈p.kids)→(∀ x∈b,x∈q.kids)→Zd KidOf.at_ (Jv f) a b=Zd KidOf.at_ (Jv g) a b:=by
   intro k
   induction k with
   | zero=>
    intro a b hn _ _
    have e1:a=[]:=List.eq_nil_of_length_eq_zero (by omega)
    subst e1
    rw [Zd,Zd]
   | succ k ihk=>
    intro a b hn ha hb
    match a,b with
    | [],b=> rw [Zd,Zd]
    | x ::a,[]=> rw [Zd,Zd]
    | x ::a,y ::b=>
     simp only [List.length_cons] at hn
     have hx:=Y9 (ha x List.mem_cons_self)
     have hy:=Y9 (hb y List.mem_cons_self)
     have e:Jv f x y=Jv g x y:=by
      unfold Jv
      rw [h x.e y.e (by omega) ⟨_,(Zp rp.kids x (ha x List.mem_cons_self)).2⟩ ⟨_,(Zp rq.kids y (hb y List.mem_cons_self)).2⟩]
     rw [Zd,Zd,e,ihk a (y ::b) (by simp only [List.length_cons];omega) (fun z hz=> ha z (List.mem_cons_of_mem _ hz)) hb,ihk (x ::a) b (by simp only [List.length_cons];omega) ha (fun z hz=> hb z (List.mem_cons_of_mem _ hz)),
      ihk a b (by omega) (fun z hz=> ha z (List.mem_cons_of_mem _ hz)) (fun z hz=> hb z (List.mem_cons_of_mem _ hz))]
  exact key _ _ _ (Nat.le_refl _) (fun x hx=> hx) (fun x hx=> hx)
 have ho:Z04 f p.ops q.ops=Z04 g p.ops q.ops:=by
  unfold Z04
  obtain ⟨i1,_⟩:=Z4d _ p.ops q.ops [] (Nat.le_refl _) (ZJ hp) (ZJ hq)
  by_cases hb:(ZP 1 2 p.ops q.ops []).2.1=true
  ·rw [if_pos hb,if_pos hb]
   obtain ⟨ps,e,hps,hA,hB⟩:=i1 hb
   rw [e,List.nil_append]
   clear e i1 hb hA hB
   induction ps with
   | nil=> rfl
   | cons x r ihr=>
    have hx:=hps x List.mem_cons_self
    have e:ZF f x=ZF g x:=by
     unfold ZF
     by_cases h1:x.of=1∨(x.of=0∧x.q.kind=0)
     ·rw [if_pos h1,if_pos h1]
     rw [if_neg h1,if_neg h1]
     by_cases h2:x.of=2∨x.p.kind=0
     ·rw [if_pos h2,if_pos h2]
     rw [if_neg h2,if_neg h2]
     by_cases h3:x.p.kind=2∧x.q.kind=1
     ·rw [if_pos h3,if_pos h3]
     rw [if_neg h3,if_neg h3]
     by_cases h4:x.p.kind=2
     ·rw [if_pos h4,if_pos h4]
     rw [if_neg h4,if_neg h4]
     by_cases h5:x.q.kind=1
     ·rw [if_pos h5,if_pos h5]
     rw [if_neg h5,if_neg h5]
     have h0:x.of=0:=by rcases hx.of with h | h | h <;> omega
     obtain ⟨hpk,hqk,hl⟩:=hx.both h0
     obtain ⟨⟨o1,m1,k1,e1,_⟩,op⟩:=hx.pp (by omega)
     obtain ⟨⟨o2,m2,k2,e2,_⟩,oq⟩:=hx.qq (by omega)
     have kp3:x.p.kind=3:=by rcases YX op with h | h | h | h <;> omega
     have kq3:x.q.kind=3:=by rcases YX oq with h | h | h | h <;> omega
     have:=Z01 m1
     have:=Z01 m2
     have r1:=JE (rightOs_mem rp.ops m1) (by omega)
     have r2:=JE (rightOs_mem rq.ops m2) (by omega)
     rw [e1,e2,h o1.e o2.e (by omega) ⟨_,r1⟩ ⟨_,r2⟩]
    rw [Jk,Jk,e,ihr fun y hy=> hps y (List.mem_cons_of_mem _ hy)]
  ·rw [if_neg hb,if_neg hb]
 unfold Jn
 rw [hk,ho]
theorem Zgi:∀ (n m:Nat) (p q:Edit) (d d':Int),Za p d=true→Za q d'=true→Z5 p+Z5 q≤n→n≤m→Z8G m p q=Z8G n p q:=by
 intro n
 induction n with
 | zero=> intro m p q d d' _ _ h;obtain ⟨k,o,nw,w,ks,l,os⟩:=p;simp only [Z5] at h;omega
 | succ n ih=>
  intro m p q d d' hp hq h hm
  obtain ⟨m,rfl⟩:∃ k,m=k+1:=⟨m - 1,by omega⟩
  show Jn (Z8G m) p q=Jn (Z8G n) p q
  exact Z84 hp hq fun a b hab ⟨d1,h1⟩ ⟨d2,h2⟩=> ih m a b d1 d2 h1 h2 (by omega) (by omega)
theorem Zgj{p q:Edit}{d d':Int}(hp:Za p d=true)(hq:Za q d'=true):Yh p q=Jn Yh p q:=by
 have e:Yh p q=Z8G (Z5 p+Z5 q+1) p q:=(Zgi _ _ p q d d' hp hq (Nat.le_refl _) (by omega)).symm
 rw [e]
 show Jn (Z8G (Z5 p+Z5 q)) p q=Jn Yh p q
 exact Z84 hp hq fun a b hab ⟨d1,h1⟩ ⟨d2,h2⟩=> Zgi _ _ a b d1 d2 h1 h2 (Nat.le_refl _) (by omega)
end Go.AM.Ytpjenobkibfpcaa
namespace Go.AM.Ytpjenobkibfpcaa
open Go.AM Go.Proofs
theorem ZV{e:Edit}(h:YT e):rng e.old∧rng e.new∧(∀ x∈e.words,Z2e x)∧Z11 e.kids∧Z0j e.ops:=by
 obtain ⟨k,o,n,w,ks,l,os⟩:=e
 exact ⟨h.2.1,h.2.2.1,h.2.2.2.1,h.2.2.2.2.2.1,h.2.2.2.2.2.2⟩
end Go.AM.Ytpjenobkibfpcaa
namespace Go.AM.Ytpjenobkibfpcaa
open Go.AM Go.Proofs
theorem Zb3(list:Int):∀ (a b:List Op) (w:Wst),Zq list (a++b) w=Zq list b (Zq list a w)
 | [],_,_=> rfl
 | o ::r,b,w=> by simp only [List.cons_append,Zq,Zb3 list r b]
theorem Zpd(x:List Op):(Z3 ⟨x,[],[]⟩).out=x:=by simp [Z3,Z0F]
theorem Zjr(w:Wst)(a b:Int):ZW (ZW w a) b=ZW w (a+b):=by
 unfold ZW
 rw [Zpd,Zcg]
theorem Zg3(list:Int):∀ (n:Nat) (w:Wst),Zq list (List.replicate (n+1) ⟨0,1,[],Edit.nil⟩) w=ZW w ((n:Int)+1)
 | 0,w=> by simp [List.replicate,Zq,YR]
 | n+1,w=> by
  rw [List.replicate_succ,Zq,YR,if_pos rfl,Zg3 list n,Zjr]
  congr 1
  show (1:Int)+(n+1)=_
  omega
theorem Zg6(list:Int):∀ (l:List Tree) (w:Wst),Zq list (l.map fun t=> ⟨1,0,[t],Edit.nil⟩) w=⟨w.out,w.gone++Z8 l,w.brought⟩
 | [],w=> by simp [Zq,Z8]
 | t ::r,w=> by
  rw [List.map_cons,Zq,Zg6 list r,YR,if_neg (show ¬(1:Int)=0 by decide),if_pos rfl]
  simp [Z8]
theorem Zgg(list:Int):∀ (l:List Tree) (w:Wst),Zq list (l.map fun t=> ⟨2,0,[t],Edit.nil⟩) w=⟨w.out,w.gone,w.brought++Z8 l⟩
 | [],w=> by simp [Zq,Z8]
 | t ::r,w=> by
  rw [List.map_cons,Zq,Zgg list r,YR,if_neg (show ¬(2:Int)=0 by decide),if_neg (show ¬(2:Int)=1 by decide),if_pos rfl]
  simp [Z8]
def ux(o:Op):List Op:=(Yq 0 0 o).map opU
theorem Zqz(i a:Int)(o:Op):(Yq i a o).map opU=ux o:=by
 simp only [ux,Yq,List.map_append,List.map_map]
 congr 1
 ·split <;> simp [opU]
 ·congr 1
  split <;> simp [opU]
theorem Z4f(u:AUnit):(opU u).kind=u.kind:=by
 unfold opU
 split
 ·rename_i h;exact h.symm
 ·split
  ·rename_i h;exact h.symm
  ·try rfl
theorem ZqB{o:Op}(h:ZN o)(k:o.kind=0):ux o=List.replicate o.n.toNat ⟨0,1,[],Edit.nil⟩∧1≤o.n:=by
 have hl:o.l=[]:=by rcases h with h | h | h <;> first | exact h.2.1 | omega
 refine ⟨?_,by rcases h with h | h | h <;> omega⟩
 simp only [ux,Yq,hl,if_pos k]
 rw [if_neg (by omega)]
 simp [opU]
theorem Z0W{o:Op}(k:o.kind=1∨o.kind=2):ux o=o.l.map fun t=> ⟨o.kind,0,[t],Edit.nil⟩:=by
 simp only [ux,Yq]
 rw [if_neg (by omega),if_neg (by omega)]
 simp only [List.nil_append,List.append_nil,List.map_map]
 refine List.map_congr_left fun t _=> ?_
 simp only [Function.comp,opU]
 rw [if_neg (by omega),if_neg (by omega)]
theorem ZcZ{o:Op}(h:ZN o)(k:o.kind=3):ux o=[⟨3,0,[],o.e⟩]∧o=⟨3,0,[],o.e⟩:=by
 have hl:o.l=[]∧o.n=0:=by rcases h with h | h | h <;> first | exact ⟨h.2.2,h.2.1⟩ | omega
 constructor
 ·simp only [ux,Yq,hl.1]
  rw [if_neg (by omega),if_pos k]
  simp [opU]
 ·obtain ⟨a,b,c,d⟩:=o
  obtain ⟨rfl,rfl⟩:=hl
  have k:a=3:=k
  rw [k]
theorem ZcD{o x:Op}(h:x∈ux o):x.kind=o.kind:=by
 simp only [ux,List.mem_map] at h
 obtain ⟨u,hu,rfl⟩:=h
 rw [Z4f]
 simp only [Yq,List.mem_append,List.mem_map] at hu
 rcases hu with hu | ⟨t,ht,rfl⟩ | hu
 ·split at hu
  ·rename_i k;rw [List.eq_of_mem_replicate hu];exact k.symm
  ·cases hu
 ·try rfl
 ·split at hu
  ·rename_i k;rw [List.mem_singleton.1 hu];exact k.symm
  ·cases hu
theorem ZxH(list:Int){o:Op}(h:ZN o)(w:Wst):Zq list (ux o) w=Z0k list o w:=by
 rcases YX h with k | k | k | k
 ·obtain ⟨e,hn⟩:=ZqB h k.1
  rw [e,YR,if_pos k.1]
  obtain ⟨m,hm⟩:∃ m:Nat,o.n.toNat=m+1:=⟨o.n.toNat - 1,by omega⟩
  rw [hm,Zg3]
  congr 1;omega
 ·rw [Z0W (.inl k),k,Zg6,YR,if_neg (by omega),if_pos k]
 ·rw [Z0W (.inr k),k,Zgg,YR,if_neg (by omega),if_neg (by omega),if_pos k]
 ·obtain ⟨e1,e2⟩:=ZcZ h k
  rw [e1]
  conv=> rhs;rw [e2]
  try rfl
noncomputable def rp(f:Edit→Edit→Edit × Bool)(x:APair):List Op × Bool:=
 if x.of=1 then ([opU x.p],true) else if x.of=2 then ([opU x.q],true) else JJ f x.p x.q
theorem JG(f:Edit→Edit→Edit × Bool)(x:APair)(r:List APair):Yb f (x ::r)=if (rp f x).2 then (Yb f r).map ((rp f x).1++·) else none:=by
 rw [Yb,rp]
 split
 ·rw [if_pos rfl];try rfl
 ·split
  ·rw [if_pos rfl];try rfl
  ·try rfl
theorem ZaN(f:Edit→Edit→Edit × Bool):∀ (a b:List APair),Yb f (a++b)=(Yb f a).bind fun l=> (Yb f b).map (l++·)
 | [],b=> by
  rw [List.nil_append,Yb,Option.bind_some]
  cases Yb f b <;> rfl
 | x ::a,b=> by
  rw [List.cons_append,JG,JG,ZaN f a b]
  split
  ·cases Yb f a with
   | none=> rfl
   | some l=> cases Yb f b <;> simp
  ·try rfl
theorem ZaO(f:Edit→Edit→Edit × Bool)(h:APair→Op):∀ (m:List APair),(∀ y∈m,rp f y=([h y],true))→Yb f m=some (m.map h)
 | [],_=> rfl
 | y ::r,hy=> by
  rw [JG,hy y List.mem_cons_self,ZaO f h r fun z hz=> hy z (List.mem_cons_of_mem _ hz)]
  try rfl
theorem Z1L{o:Op}{a:Int}{l:List AUnit}(h:Z5w o a l):l.map opU=ux o:=by
 unfold Z5w at h
 rw [Zd2,Zqz] at h
 exact h.symm
theorem ZBv{k:Int}{u:AUnit}(hk:u.kind=k)(h:k=1∨k=2):opU u=⟨k,0,[u.t],Edit.nil⟩:=by
 unfold opU
 rw [if_neg (by omega),if_neg (by omega),hk]
theorem Z0X{k:Int}(hk:k=1∨k=2):∀ {l:List Tree} {m:List AUnit},m.map opU=l.map (fun t=> (⟨k,0,[t],Edit.nil⟩:Op))→l=m.map AUnit.t∧∀ u∈m,u.kind=k
 | [],[],_=> ⟨rfl,fun u hu=> (by cases hu)⟩
 | [],_ ::_,h=> by simp at h
 | _ ::_,[],h=> by simp at h
 | t ::l,u ::m,h=> by
  simp only [List.map_cons,List.cons.injEq] at h
  obtain ⟨i1,i2⟩:=Z0X hk h.2
  have ku:u.kind=k:=by have:=congrArg OpOf.kind h.1;rwa [Z4f] at this
  have e:=h.1
  rw [ZBv ku hk] at e
  have et:u.t=t:=by injection e with _ _ e3;injection e3
  refine ⟨by rw [List.map_cons,←i1,et],fun v hv=> ?_⟩
  rcases List.mem_cons.1 hv with rfl | hv
  ·exact ku
  ·exact i2 v hv
theorem ZaM(f:Edit→Edit→Edit × Bool):∀ (m:List APair),(∀ y∈m,y.of=0∧y.p.kind=2∧y.q.kind=1)→
  ((Z8 (m.map fun y=> y.p.t)=Z8 (m.map fun y=> y.q.t)→Yb f m=some [])∧(¬Z8 (m.map fun y=> y.p.t)=Z8 (m.map fun y=> y.q.t)→Yb f m=none))
 | [],_=> ⟨fun _=> rfl,fun h=> absurd rfl h⟩
 | y ::r,h=> by
  obtain ⟨h0,h1,h2⟩:=h y List.mem_cons_self
  obtain ⟨i1,i2⟩:=ZaM f r fun z hz=> h z (List.mem_cons_of_mem _ hz)
  have e:rp f y=([],YF (Z4 y.p.t) (Z4 y.q.t)):=by
   unfold rp JJ
   rw [if_neg (by omega),if_neg (by omega),if_neg (by omega),if_neg (by omega),if_pos ⟨h1,h2⟩]
  have hc:Z8 ((y ::r).map fun y=> y.p.t)=Z8 ((y ::r).map fun y=> y.q.t)↔Z4 y.p.t=Z4 y.q.t∧Z8 (r.map fun y=> y.p.t)=Z8 (r.map fun y=> y.q.t):=by
   simp [Z8]
  rw [hc,JG,e]
  dsimp only
  refine ⟨fun hh=> ?_,fun hh=> ?_⟩
  ·rw [if_pos (Yw.2 hh.1),i1 hh.2];try rfl
  ·by_cases ht:Z4 y.p.t=Z4 y.q.t
   ·rw [if_pos (Yw.2 ht),i2 fun x=> hh ⟨ht,x⟩];try rfl
   ·rw [if_neg (by rw [Yw];exact ht)]
structure Alike (c r:Edit × Bool):Prop where
 ok:c.2=r.2
 nrm:c.2=true→Zy c.1=Zy r.1
theorem ZrK{list:Int}{e f:Edit}(h:Zy e=Zy f)(w:Wst):Z0k list ⟨3,0,[],e⟩ w=Z0k list ⟨3,0,[],f⟩ w:=by
 rw [YR,YR]
 dsimp only
 rw [h]
theorem Zkr {f g:Edit→Edit→Edit × Bool} {alone:Int} {x:Piece} {m:List APair} (hof:x.of=0∨x.of=1∨x.of=2) (hm:m≠[]) (ha:∀ y∈m,y.of=x.of)
  (hp:x.of≠2→ZN x.p∧Z2 x.p=m.length∧Z5w x.p alone (m.map APair.p)) (hq:x.of≠1→ZN x.q∧Z2 x.q=m.length∧Z5w x.q 2 (m.map APair.q))
  (hb:x.of=0→x.p.kind≠1∧x.q.kind≠2) (hf:x.of=0→x.p.kind=3→x.q.kind=3→Alike (f x.p.e x.q.e) (g x.p.e x.q.e)):
  (ZF f x).ok=(Yb g m).isSome∧∀ L,Yb g m=some L→∀ list w,Zq list (if (ZF f x).is then [(ZF f x).op] else []) w=Zq list L w:=by
 have single:∀ (o:Op),ZN o→∀ (h:APair→Op),(∀ y∈m,rp g y=([h y],true))→m.map h=ux o→ZF f x=⟨o,true,true⟩→
   (ZF f x).ok=(Yb g m).isSome∧∀ L,Yb g m=some L→∀ list w,Zq list (if (ZF f x).is then [(ZF f x).op] else []) w=Zq list L w:=by
  intro o ho h h1 h2 h3
  rw [ZaO g h m h1,h2,h3]
  refine ⟨rfl,fun L hL list w=> ?_⟩
  cases hL
  rw [ZxH list ho]
  try rfl
 by_cases c1:x.of=1
 ·obtain ⟨o1,o2,o3⟩:=hp (by omega)
  refine single x.p o1 (fun y=> opU y.p) (fun y hy=> ?_) ?_ (by unfold ZF;rw [if_pos (.inl c1)])
  ·unfold rp;rw [if_pos (by rw [ha y hy];exact c1)]
  ·rw [←Z1L o3,List.map_map];try rfl
 by_cases c2:x.of=2
 ·obtain ⟨o1,o2,o3⟩:=hq (by omega)
  refine single x.q o1 (fun y=> opU y.q) (fun y hy=> ?_) ?_ (by unfold ZF;rw [if_neg (by omega),if_pos (.inl c2)])
  ·unfold rp;rw [if_neg (by rw [ha y hy];exact c1),if_pos (by rw [ha y hy];exact c2)]
  ·rw [←Z1L o3,List.map_map];try rfl
 have c0:x.of=0:=by omega
 obtain ⟨p1,p2,p3⟩:=hp (by omega)
 obtain ⟨q1,q2,q3⟩:=hq (by omega)
 obtain ⟨b1,b2⟩:=hb c0
 have up:=Z1L p3
 have uq:=Z1L q3
 have kp:∀ y∈m,y.p.kind=x.p.kind:=fun y hy=> by
  have:opU y.p∈ux x.p:=by rw [←up];exact List.mem_map_of_mem (List.mem_map_of_mem hy)
  rw [←Z4f];exact ZcD this
 have kq:∀ y∈m,y.q.kind=x.q.kind:=fun y hy=> by
  have:opU y.q∈ux x.q:=by rw [←uq];exact List.mem_map_of_mem (List.mem_map_of_mem hy)
  rw [←Z4f];exact ZcD this
 have hr:∀ y∈m,rp g y=JJ g y.p y.q:=fun y hy=> by
  unfold rp;rw [if_neg (by rw [ha y hy];exact c1),if_neg (by rw [ha y hy];exact c2)]
 by_cases q0:x.q.kind=0
 ·refine single x.p p1 (fun y=> opU y.p) (fun y hy=> ?_) ?_ (by unfold ZF;rw [if_pos (.inr ⟨c0,q0⟩)])
  ·rw [hr y hy,JJ,if_pos (by rw [kq y hy];exact q0)]
  ·rw [←up,List.map_map];try rfl
 by_cases p0:x.p.kind=0
 ·refine single x.q q1 (fun y=> opU y.q) (fun y hy=> ?_) ?_ (by unfold ZF;rw [if_neg (by omega),if_pos (.inr p0)])
  ·rw [hr y hy,JJ,if_neg (by rw [kq y hy];exact q0),if_pos (by rw [kp y hy];exact p0)]
  ·rw [←uq,List.map_map];try rfl
 have kp':x.p.kind=2∨x.p.kind=3:=by rcases YX p1 with k | k | k | k <;> omega
 have kq':x.q.kind=1∨x.q.kind=3:=by rcases YX q1 with k | k | k | k <;> omega
 by_cases pq:x.p.kind=2∧x.q.kind=1
 ·obtain ⟨t1,_⟩:=Z0X (k:=2) (.inr rfl) (l:=x.p.l) (m:=m.map APair.p) (by rw [up,Z0W (.inr pq.1),pq.1])
  obtain ⟨t2,_⟩:=Z0X (k:=1) (.inl rfl) (l:=x.q.l) (m:=m.map APair.q) (by rw [uq,Z0W (.inl pq.2),pq.2])
  rw [List.map_map] at t1 t2
  have hc:ZF f x=⟨Op.nil,false,Zl9 x.p.l x.q.l⟩:=by
   unfold ZF
   rw [if_neg (by omega),if_neg (by omega),if_pos pq]
   congr 1
   rw [List.take_of_length_le (by rw [t1,t2];simp)]
  obtain ⟨e1,e2⟩:=ZaM g m fun y hy=> ⟨by rw [ha y hy];exact c0,by rw [kp y hy];exact pq.1,by rw [kq y hy];exact pq.2⟩
  rw [hc]
  dsimp only
  unfold Zl9
  rw [t1,t2]
  by_cases he:Z8 (m.map fun y=> y.p.t)=Z8 (m.map fun y=> y.q.t)
  ·rw [e1 he]
   refine ⟨Jm.2 he,fun L hL list w=> ?_⟩
   cases hL
   rw [if_neg (by decide)]
  ·rw [e2 he]
   refine ⟨?_,fun L hL=> by cases hL⟩
   rw [Option.isSome_none,←Bool.not_eq_true,Jm]
   exact he
 have hm1:m.length=1:=by
  have:Z2 x.p=1∨Z2 x.q=1:=by
   by_cases h:x.p.kind=3
   ·exact .inl (JQ h)
   ·exact .inr (JQ (by omega))
  omega
 obtain ⟨y,rfl⟩:∃ y,m=[y]:=by
  match m,hm1 with
  | [y],_=> exact ⟨y,rfl⟩
 have ky:=kp y List.mem_cons_self
 have kz:=kq y List.mem_cons_self
 have e1:Yb g [y]=if (JJ g y.p y.q).2 then some (JJ g y.p y.q).1 else none:=by
  rw [JG,hr y List.mem_cons_self]
  split
  ·simp [Yb]
  ·try rfl
 rw [e1]
 simp only [List.map_cons,List.map_nil] at up uq
 by_cases p2':x.p.kind=2
 ·have q3':x.q.kind=3:=by omega
  rw [Z0W (.inr p2')] at up
  obtain ⟨e2,_⟩:=ZcZ q1 q3'
  rw [e2] at uq
  have et:x.p.l=[y.p.t]:=by
   have:=(Z0X (k:=2) (.inr rfl) (l:=x.p.l) (m:=[y.p]) (by rw [←p2'];simpa using up)).1
   simpa using this
  have ee:y.q.e=x.q.e:=by
   have:=List.cons.inj uq
   have h:=this.1
   unfold opU at h
   rw [if_neg (by omega),if_pos (by omega)] at h
   injection h
  have hc:ZF f x=⟨⟨2,0,[YG (doE true y.q.e y.p.t)],Edit.nil⟩,true,(doE true y.q.e y.p.t).isSome⟩:=by
   unfold ZF
   rw [if_neg (by omega),if_neg (by omega),if_neg pq,if_pos p2',et,ee]
   simp only [List.getD_cons_zero,doB,Z4y,Option.isSome_map]
  have hu:JJ g y.p y.q=([⟨2,0,[YG (doE true y.q.e y.p.t)],Edit.nil⟩],(doE true y.q.e y.p.t).isSome):=by
   unfold JJ
   rw [if_neg (by omega),if_neg (by omega),if_neg (by omega),if_pos (by omega)]
  rw [hc,hu]
  dsimp only
  by_cases hs:(doE true y.q.e y.p.t).isSome=true
  ·rw [if_pos hs]
   exact ⟨hs,fun L hL list w=> by cases hL;rfl⟩
  ·rw [if_neg hs]
   exact ⟨by simpa using hs,fun L hL=> by cases hL⟩
 have p3':x.p.kind=3:=by omega
 obtain ⟨e2,_⟩:=ZcZ p1 p3'
 rw [e2] at up
 have eep:y.p.e=x.p.e:=by
  have h:=(List.cons.inj up).1
  unfold opU at h
  rw [if_neg (by omega),if_pos (by omega)] at h
  injection h
 by_cases q1':x.q.kind=1
 ·rw [Z0W (.inl q1')] at uq
  have et:x.q.l=[y.q.t]:=by
   have:=(Z0X (k:=1) (.inl rfl) (l:=x.q.l) (m:=[y.q]) (by rw [←q1'];simpa using uq)).1
   simpa using this
  have hc:ZF f x=⟨⟨1,0,[YG (doE true (Zy (Zv y.p.e)) y.q.t)],Edit.nil⟩,true,(doE true (Zy (Zv y.p.e)) y.q.t).isSome⟩:=by
   unfold ZF
   rw [if_neg (by omega),if_neg (by omega),if_neg pq,if_neg p2',if_pos q1',et,eep]
   simp only [List.getD_cons_zero,doB,Z4y,Option.isSome_map]
  have hu:JJ g y.p y.q=([⟨1,0,[YG (doE true (Zy (Zv y.p.e)) y.q.t)],Edit.nil⟩],(doE true (Zy (Zv y.p.e)) y.q.t).isSome):=by
   unfold JJ
   rw [if_neg (by omega),if_neg (by omega),if_neg (by omega),if_neg (by omega),if_pos (by omega)]
  rw [hc,hu]
  dsimp only
  by_cases hs:(doE true (Zy (Zv y.p.e)) y.q.t).isSome=true
  ·rw [if_pos hs]
   exact ⟨hs,fun L hL list w=> by cases hL;rfl⟩
  ·rw [if_neg hs]
   exact ⟨by simpa using hs,fun L hL=> by cases hL⟩
 have q3':x.q.kind=3:=by omega
 obtain ⟨e3,_⟩:=ZcZ q1 q3'
 rw [e3] at uq
 have eeq:y.q.e=x.q.e:=by
  have h:=(List.cons.inj uq).1
  unfold opU at h
  rw [if_neg (by omega),if_pos (by omega)] at h
  injection h
 have hc:ZF f x=⟨⟨3,0,[],(f x.p.e x.q.e).1⟩,true,(f x.p.e x.q.e).2⟩:=by
  unfold ZF
  rw [if_neg (by omega),if_neg (by omega),if_neg pq,if_neg p2',if_neg q1']
 have hu:JJ g y.p y.q=([⟨3,0,[],(g x.p.e x.q.e).1⟩],(g x.p.e x.q.e).2):=by
  unfold JJ
  rw [if_neg (by omega),if_neg (by omega),if_neg (by omega),if_neg (by omega),if_neg (by omega),eep,eeq]
 obtain ⟨a1,a2⟩:=hf c0 p3' q3'
 rw [hc,hu]
 dsimp only
 rw [←a1]
 by_cases hs:(f x.p.e x.q.e).2=true
 ·rw [if_pos hs]
  refine ⟨hs,fun L hL list w=> ?_⟩
  cases hL
  rw [if_pos rfl,Zq,Zq,ZrK (a2 hs)]
  try rfl
 ·rw [if_neg hs]
  exact ⟨by simpa using hs,fun L hL=> by cases hL⟩
end Go.AM.Ytpjenobkibfpcaa
namespace Go.AM.Ytpjenobkibfpcaa
open Go.AM Go.Proofs
theorem Z9q{f g:Edit→Edit→Edit × Bool}{alone:Int}{p0 q0:List Op}:∀ {ps:List Piece} {m:List APair},Zbq alone ps m→(∀ x∈ps,POk p0 q0 x)→
  (∀ x∈ps,x.of=0→x.p.kind=3→x.q.kind=3→Alike (f x.p.e x.q.e) (g x.p.e x.q.e))→
  (Jk f ps).isSome=(Yb g m).isSome∧∀ a b,Jk f ps=some a→Yb g m=some b→∀ list w,Zq list a w=Zq list b w
 | [],m,h,_,_=> by
  have h:m=[]:=h
  subst h
  refine ⟨rfl,fun a b ha hb=> ?_⟩
  cases ha;cases hb
  intro _ _;rfl
 | x ::r,m,h,hok,hf=> by
  rw [Z1X] at h
  obtain ⟨m1,m2,rfl,hm,⟨hof,_,ha,hp,hq⟩,hr⟩:=h
  obtain ⟨i1,i2⟩:=Z9q hr (fun y hy=> hok y (List.mem_cons_of_mem _ hy)) fun y hy=> hf y (List.mem_cons_of_mem _ hy)
  have hx:=hok x List.mem_cons_self
  obtain ⟨j1,j2⟩:=Zkr (f:=f) (g:=g) hof hm ha (fun h=> ⟨(hp h).1,(hp h).2.2⟩) (fun h=> ⟨(hq h).1,(hq h).2.2⟩) (fun h=> ⟨(hx.both h).1,(hx.both h).2.1⟩) (hf x List.mem_cons_self)
  rw [Jk,ZaN]
  cases hs:Yb g m1 with
  | none=>
   rw [hs] at j1
   rw [if_neg (by rw [j1];decide)]
   exact ⟨rfl,fun a b ha _=> by cases ha⟩
  | some L=>
   rw [hs] at j1
   rw [if_pos (by rw [j1];rfl),Option.bind_some,Option.isSome_map,Option.isSome_map]
   refine ⟨i1,fun a b ha hb list w=> ?_⟩
   obtain ⟨a',ha',rfl⟩:=Option.map_eq_some_iff.1 ha
   obtain ⟨b',hb',rfl⟩:=Option.map_eq_some_iff.1 hb
   rw [Zb3,Zb3,j2 L hs,i2 a' b' ha' hb']
theorem Zji {f g:Edit→Edit→Edit × Bool} {p q:List Op} (hp:okL p) (hq:okL q)
  (hf:∀ a b:Op,Part p a→Part q b→a.kind=3→b.kind=3→Alike (f a.e b.e) (g a.e b.e)):
  (Z04 f p q).isSome=(Z3z g p q).isSome∧∀ a b,Z04 f p q=some a→Z3z g p q=some b→∀ list w,Zq list a w=Zq list b w:=by
 obtain ⟨ok,l,m,e1,e2,e3,e4⟩:=ZiP 1 (.inl rfl) _ p q [] (ZE 0 1 p) (ZE 0 2 q) [] (Nat.le_refl _) hp hq (Z43 1 p 0) (Z43 2 q 0)
 obtain ⟨i1,_⟩:=Z4d _ p q [] (Nat.le_refl _) (fun o ho=> (hp o ho).1) (fun o ho=> (hq o ho).1)
 unfold Z04 Z3z
 rw [e2,e3,e1]
 cases ok with
 | false=> exact ⟨rfl,fun a b ha _=> by cases ha⟩
 | true=>
  obtain ⟨ps,e,hps,_,_⟩:=i1 e2
  rw [e1,if_pos rfl] at e
  simp only [List.nil_append] at e
  subst e
  simp only [if_true,List.nil_append]
  exact Z9q (e4 rfl).1 hps fun x hx h0 h1 h2=> hf x.p x.q ((hps x hx).pp (by omega)).1 ((hps x hx).qq (by omega)).1 h1 h2
theorem Zg4{last n:Int}(hn:n≤last){l:List WEdit}(h:asc WEdit.at_ last l):Z0V l n=none:=by
 unfold Z0V
 rw [List.find?_eq_none]
 intro w hw
 have:=Z3l h w hw
 simp only [decide_eq_true_eq]
 omega
theorem Z2D(a:WEdit)(r:List WEdit):Z0V (a ::r) a.at_=some a:=by simp [Z0V]
theorem Z2C{a:WEdit}{n:Int}(h:a.at_ < n)(r:List WEdit):Z0V (a ::r) n=Z0V r n:=by
 unfold Z0V
 rw [List.find?_cons_of_neg]
 simp only [decide_eq_true_eq];omega
theorem Z3c(l:List Int):Yd l []=l:=by cases l <;> rw [Yd]
theorem Z7a:∀ (k:Nat) (a b:List Int) (last:Int),a.length+b.length≤k→asc id last a→asc id last b→∀ n∈Yd a b,last < n:=by
 intro k
 induction k with
 | zero=>
  intro a b last hk ha hb n hn
  have e1:a=[]:=List.eq_nil_of_length_eq_zero (by omega)
  have e2:b=[]:=List.eq_nil_of_length_eq_zero (by omega)
  subst e1 e2
  rw [Yd] at hn;cases hn
 | succ k ih=>
  intro a b last hk ha hb n hn
  match a,b with
  | [],b=> rw [Yd] at hn;exact Z3l hb n hn
  | x ::a,[]=> rw [Z3c] at hn;exact Z3l ha n hn
  | x ::a,y ::b=>
   simp only [List.length_cons] at hk
   have h1:last < x:=ha.1
   have h2:last < y:=hb.1
   rw [Yd] at hn
   split at hn
   ·rename_i hxy
    rcases List.mem_cons.1 hn with rfl | hn
    ·exact h1
    ·have:=ih a (y ::b) x (by simp only [List.length_cons];omega) ha.2 ⟨hxy,hb.2⟩ n hn;omega
   ·split at hn
    ·rename_i hxy
     rcases List.mem_cons.1 hn with rfl | hn
     ·exact h2
     ·have:=ih (x ::a) b y (by simp only [List.length_cons];omega) ⟨hxy,ha.2⟩ hb.2 n hn;omega
    ·have hxy:x=y:=by omega
     subst hxy
     rcases List.mem_cons.1 hn with rfl | hn
     ·exact h1
     ·have:=ih a b x (by omega) ha.2 hb.2 n hn;omega
theorem Jg{β:Type}{at_:β→Int}:∀ {l:List β} {last:Int},asc at_ last l→asc id last (l.map at_)
 | [],_,_=> trivial
 | _ ::_,_,h=> ⟨h.1,Jg h.2⟩
theorem Z0J{p q p' q':List WEdit}:∀ {l:List Int},(∀ n∈l,Z0V p n=Z0V p' n∧Z0V q n=Z0V q' n)→Jq p q l=Jq p' q' l
 | [],_=> rfl
 | n ::r,h=> by
  rw [Jq,Jq,(h n List.mem_cons_self).1,(h n List.mem_cons_self).2,Z0J fun m hm=> h m (List.mem_cons_of_mem _ hm)]
theorem ZdI:∀ {p:List WEdit} {last:Int},asc WEdit.at_ last p→Jq p [] (p.map WEdit.at_)=some p
 | [],_,_=> rfl
 | a ::r,last,h=> by
  rw [List.map_cons,Jq,Z2D,show Z0V [] a.at_=none from rfl]
  dsimp only
  rw [Z0J (p':=r) (q':=[]) (fun n hn=> ⟨Z2C (Z3l (Jg h.2) n hn) r,rfl⟩),ZdI h.2]
  try rfl
theorem ZbH:∀ {q:List WEdit} {last:Int},asc WEdit.at_ last q→Jq [] q (q.map WEdit.at_)=some q
 | [],_,_=> rfl
 | a ::r,last,h=> by
  rw [List.map_cons,Jq,Z2D,show Z0V [] a.at_=none from rfl]
  dsimp only
  rw [Z0J (p':=[]) (q':=r) (fun n hn=> ⟨rfl,Z2C (Z3l (Jg h.2) n hn) r⟩),ZbH h.2]
  try rfl
theorem ZbI:∀ (k:Nat) (p q:List WEdit) (last:Int),p.length+q.length≤k→asc WEdit.at_ last p→asc WEdit.at_ last q→
  Jq p q (Yd (p.map WEdit.at_) (q.map WEdit.at_))=Zd WEdit.at_ J5 p q:=by
 intro k
 induction k with
 | zero=>
  intro p q last hk hp hq
  have e1:p=[]:=List.eq_nil_of_length_eq_zero (by omega)
  have e2:q=[]:=List.eq_nil_of_length_eq_zero (by omega)
  subst e1 e2
  rw [List.map_nil,Yd,Zd];try rfl
 | succ k ih=>
  intro p q last hk hp hq
  match p,q with
  | [],q=> rw [List.map_nil,Yd,Zd,ZbH hq]
  | a ::p,[]=> rw [List.map_nil,Z3c,Zd,ZdI hp]
  | a ::p,b ::q=>
   simp only [List.length_cons] at hk
   rw [List.map_cons,List.map_cons,Yd,Zd]
   by_cases h1:a.at_ < b.at_
   ·rw [if_pos h1,if_pos h1,Jq,Z2D,Zg4 (Int.le_refl _) (l:=b ::q) ⟨h1,hq.2⟩]
    dsimp only
    have hb:asc WEdit.at_ a.at_ (b ::q):=⟨h1,hq.2⟩
    rw [show b.at_ ::q.map WEdit.at_=(b ::q).map WEdit.at_ from rfl]
    rw [Z0J (p':=p) (q':=b ::q) (fun n hn=> ⟨Z2C (Z7a _ _ _ a.at_ (Nat.le_refl _) (Jg hp.2) (Jg hb) n hn) p,rfl⟩)]
    rw [ih p (b ::q) a.at_ (by simp only [List.length_cons];omega) hp.2 hb]
   ·rw [if_neg h1,if_neg h1]
    by_cases h2:b.at_ < a.at_
    ·rw [if_pos h2,if_pos h2,Jq,Z2D,Zg4 (Int.le_refl _) (l:=a ::p) ⟨h2,hp.2⟩]
     dsimp only
     have ha:asc WEdit.at_ b.at_ (a ::p):=⟨h2,hp.2⟩
     rw [show a.at_ ::p.map WEdit.at_=(a ::p).map WEdit.at_ from rfl]
     rw [Z0J (p':=a ::p) (q':=q) (fun n hn=> ⟨rfl,Z2C (Z7a _ _ _ b.at_ (Nat.le_refl _) (Jg ha) (Jg hq.2) n hn) q⟩)]
     rw [ih (a ::p) q b.at_ (by simp only [List.length_cons];omega) ha hq.2]
    ·rw [if_neg h2,if_neg h2,Jq]
     have e:a.at_=b.at_:=by omega
     have hq2:asc WEdit.at_ a.at_ q:=by rw [e];exact hq.2
     rw [Z2D,e,Z2D]
     dsimp only
     rw [Z0J (p':=p) (q':=q) (fun n hn=> by
      have:=Z7a _ _ _ a.at_ (Nat.le_refl _) (Jg hp.2) (Jg hq2) n hn
      exact ⟨Z2C this p,Z2C (by omega) q⟩)]
     rw [ih p q a.at_ (by omega) hp.2 hq2]
theorem Zg5{last n:Int}(hn:n≤last){l:List Kid}(h:asc KidOf.at_ last l):Ju l n=Edit.nil:=by
 unfold Ju
 rw [List.find?_eq_none.2]
 ·try rfl
 ·intro w hw
  have:=Z3l h w hw
  simp only [decide_eq_true_eq]
  omega
theorem Z2F(a:Kid)(r:List Kid):Ju (a ::r) a.at_=a.e:=by simp [Ju]
theorem Z2E{a:Kid}{n:Int}(h:a.at_ < n)(r:List Kid):Ju (a ::r) n=Ju r n:=by
 unfold Ju
 rw [List.find?_cons_of_neg]
 simp only [decide_eq_true_eq];omega
theorem Z0K{g:Edit→Edit→Edit × Bool}{p q p' q':List Kid}:∀ {l:List Int},(∀ n∈l,Ju p n=Ju p' n∧Ju q n=Ju q' n)→Je g p q l=Je g p' q' l
 | [],_=> rfl
 | n ::r,h=> by
  rw [Je,Je,(h n List.mem_cons_self).1,(h n List.mem_cons_self).2,Z0K fun m hm=> h m (List.mem_cons_of_mem _ hm)]
section
variable {g:Edit→Edit→Edit × Bool}
theorem ZdL:∀ {p:List Kid} {last:Int},asc KidOf.at_ last p→(∀ k∈p,g k.e Edit.nil=(k.e,true))→Je g p [] (p.map KidOf.at_)=some p
 | [],_,_,_=> rfl
 | a ::r,last,h,hg=> by
  rw [List.map_cons,Je,Z2F,show Ju [] a.at_=Edit.nil from rfl,hg a List.mem_cons_self]
  dsimp only
  rw [if_pos rfl,Z0K (p':=r) (q':=[]) (fun n hn=> ⟨Z2E (Z3l (Jg h.2) n hn) r,rfl⟩),ZdL h.2 fun k hk=> hg k (List.mem_cons_of_mem _ hk)]
  try rfl
theorem ZbJ:∀ {q:List Kid} {last:Int},asc KidOf.at_ last q→(∀ k∈q,g Edit.nil k.e=(k.e,true))→Je g [] q (q.map KidOf.at_)=some q
 | [],_,_,_=> rfl
 | a ::r,last,h,hg=> by
  rw [List.map_cons,Je,Z2F,show Ju [] a.at_=Edit.nil from rfl,hg a List.mem_cons_self]
  dsimp only
  rw [if_pos rfl,Z0K (p':=[]) (q':=r) (fun n hn=> ⟨rfl,Z2E (Z3l (Jg h.2) n hn) r⟩),ZbJ h.2 fun k hk=> hg k (List.mem_cons_of_mem _ hk)]
  try rfl
theorem ZbK:∀ (k:Nat) (p q:List Kid) (last:Int),p.length+q.length≤k→asc KidOf.at_ last p→asc KidOf.at_ last q→(∀ k∈p,g k.e Edit.nil=(k.e,true))→(∀ k∈q,g Edit.nil k.e=(k.e,true))→
  Je g p q (Yd (p.map KidOf.at_) (q.map KidOf.at_))=Zd KidOf.at_ (Jv g) p q:=by
 intro k
 induction k with
 | zero=>
  intro p q last hk hp hq gp gq
  have e1:p=[]:=List.eq_nil_of_length_eq_zero (by omega)
  have e2:q=[]:=List.eq_nil_of_length_eq_zero (by omega)
  subst e1 e2
  rw [List.map_nil,Yd,Zd];try rfl
 | succ k ih=>
  intro p q last hk hp hq gp gq
  match p,q with
  | [],q=> rw [List.map_nil,Yd,Zd,ZbJ hq gq]
  | a ::p,[]=> rw [List.map_nil,Z3c,Zd,ZdL hp gp]
  | a ::p,b ::q=>
   simp only [List.length_cons] at hk
   have gp':∀ k∈p,g k.e Edit.nil=(k.e,true):=fun k hk=> gp k (List.mem_cons_of_mem _ hk)
   have gq':∀ k∈q,g Edit.nil k.e=(k.e,true):=fun k hk=> gq k (List.mem_cons_of_mem _ hk)
   rw [List.map_cons,List.map_cons,Yd,Zd]
   by_cases h1:a.at_ < b.at_
   ·rw [if_pos h1,if_pos h1,Je,Z2F,Zg5 (Int.le_refl _) (l:=b ::q) ⟨h1,hq.2⟩,gp a List.mem_cons_self]
    dsimp only
    have hb:asc KidOf.at_ a.at_ (b ::q):=⟨h1,hq.2⟩
    rw [show b.at_ ::q.map KidOf.at_=(b ::q).map KidOf.at_ from rfl]
    rw [if_pos rfl,Z0K (p':=p) (q':=b ::q) (fun n hn=> ⟨Z2E (Z7a _ _ _ a.at_ (Nat.le_refl _) (Jg hp.2) (Jg hb) n hn) p,rfl⟩)]
    rw [ih p (b ::q) a.at_ (by simp only [List.length_cons];omega) hp.2 hb gp' gq]
   ·rw [if_neg h1,if_neg h1]
    by_cases h2:b.at_ < a.at_
    ·rw [if_pos h2,if_pos h2,Je,Z2F,Zg5 (Int.le_refl _) (l:=a ::p) ⟨h2,hp.2⟩,gq b List.mem_cons_self]
     dsimp only
     have ha:asc KidOf.at_ b.at_ (a ::p):=⟨h2,hp.2⟩
     rw [show a.at_ ::p.map KidOf.at_=(a ::p).map KidOf.at_ from rfl]
     rw [if_pos rfl,Z0K (p':=a ::p) (q':=q) (fun n hn=> ⟨rfl,Z2E (Z7a _ _ _ b.at_ (Nat.le_refl _) (Jg ha) (Jg hq.2) n hn) q⟩)]
     rw [ih (a ::p) q b.at_ (by simp only [List.length_cons];omega) ha hq.2 gp gq']
    ·rw [if_neg h2,if_neg h2,Je]
     have e:a.at_=b.at_:=by omega
     have hq2:asc KidOf.at_ a.at_ q:=by rw [e];exact hq.2
     rw [Z2F,show Ju (b ::q) a.at_=b.e by rw [e];exact Z2F b q]
     rw [Z0K (p':=p) (q':=q) (fun n hn=> by
      have:=Z7a _ _ _ a.at_ (Nat.le_refl _) (Jg hp.2) (Jg hq2) n hn
      exact ⟨Z2E this p,Z2E (by omega) q⟩)]
     rw [ih p q a.at_ (by omega) hp.2 hq2 gp' gq']
     try rfl
end
theorem Zl2{f g:Edit→Edit→Edit × Bool}:∀ (k:Nat) (p q:List Kid),p.length+q.length≤k→(∀ a∈p,∀ b∈q,Alike (f a.e b.e) (g a.e b.e))→
  (Zd KidOf.at_ (Jv f) p q).isSome=(Zd KidOf.at_ (Jv g) p q).isSome∧∀ a b,Zd KidOf.at_ (Jv f) p q=some a→Zd KidOf.at_ (Jv g) p q=some b→Ja a=Ja b:=by
 intro k
 induction k with
 | zero=>
  intro p q hk _
  have e1:p=[]:=List.eq_nil_of_length_eq_zero (by omega)
  have e2:q=[]:=List.eq_nil_of_length_eq_zero (by omega)
  subst e1 e2
  rw [Zd,Zd]
  exact ⟨rfl,fun a b ha hb=> by cases ha;cases hb;rfl⟩
 | succ k ih=>
  intro p q hk h
  match p,q with
  | [],q=> rw [Zd,Zd];exact ⟨rfl,fun a b ha hb=> by cases ha;cases hb;rfl⟩
  | a ::p,[]=> rw [Zd,Zd];exact ⟨rfl,fun a b ha hb=> by cases ha;cases hb;rfl⟩
  | a ::p,b ::q=>
   simp only [List.length_cons] at hk
   rw [Zd,Zd]
   have step:∀ (x y:Kid) (s t:Option (List Kid)),Z20 x=Z20 y→(s.isSome=t.isSome∧∀ a b,s=some a→t=some b→Ja a=Ja b)→
     (s.map (x ::·)).isSome=(t.map (y ::·)).isSome∧∀ a b,s.map (x ::·)=some a→t.map (y ::·)=some b→Ja a=Ja b:=by
    intro x y s t hxy ⟨i1,i2⟩
    refine ⟨by rw [Option.isSome_map,Option.isSome_map,i1],fun c d hc hd=> ?_⟩
    obtain ⟨c',hc',rfl⟩:=Option.map_eq_some_iff.1 hc
    obtain ⟨d',hd',rfl⟩:=Option.map_eq_some_iff.1 hd
    rw [Ja,Ja,hxy,i2 c' d' hc' hd']
   by_cases h1:a.at_ < b.at_
   ·rw [if_pos h1,if_pos h1]
    exact step a a _ _ rfl (ih p (b ::q) (by simp only [List.length_cons];omega) fun x hx y hy=> h x (List.mem_cons_of_mem _ hx) y hy)
   ·rw [if_neg h1,if_neg h1]
    by_cases h2:b.at_ < a.at_
    ·rw [if_pos h2,if_pos h2]
     exact step b b _ _ rfl (ih (a ::p) q (by simp only [List.length_cons];omega) fun x hx y hy=> h x hx y (List.mem_cons_of_mem _ hy))
    ·rw [if_neg h2,if_neg h2]
     obtain ⟨o1,o2⟩:=h a List.mem_cons_self b List.mem_cons_self
     have e:(Jv f a b).2=(Jv g a b).2:=o1
     rw [←e]
     by_cases hc:(Jv f a b).2=true
     ·rw [if_pos hc,if_pos hc]
      refine step _ _ _ _ ?_ (ih p q (by omega) fun x hx y hy=> h x (List.mem_cons_of_mem _ hx) y (List.mem_cons_of_mem _ hy))
      show (⟨a.at_,Zy (f a.e b.e).1⟩:Kid)=⟨a.at_,Zy (g a.e b.e).1⟩
      rw [o2 hc]
     ·rw [if_neg hc,if_neg hc]
      exact ⟨rfl,fun a b ha _=> by cases ha⟩
theorem Z9k(n:Nat){e:Edit}(h:e.kind≠0):JX (n+1) e Edit.nil=(e,true)∧JX (n+1) Edit.nil e=(e,true):=by
 constructor
 ·show YV _ _ _=_
  unfold YV
  rw [if_neg h,if_pos (show Edit.nil.kind=0 from rfl)]
 ·show YV _ _ _=_
  unfold YV
  rw [if_pos (show Edit.nil.kind=0 from rfl)]
theorem ZrL(w:List WEdit)(a:List Kid):Zy (.mk 2 Tree.nil Tree.nil w a 0 [])= .mk 2 Tree.nil Tree.nil w (Ja a) 0 []:=by rw [Zy,if_neg (by decide),if_pos rfl]
theorem Zkv(l:Int)(os:List Op):Zy (.mk 3 Tree.nil Tree.nil [] [] l os)= .mk 3 Tree.nil Tree.nil [] [] l (Z3 (Zq l os ⟨[],[],[]⟩)).out:=by rw [Zy,if_neg (by decide),if_neg (by decide),if_pos rfl]
theorem Zpi:∀ (n:Nat) (p q:Edit) (d d':Int),Z5 p+Z5 q≤n→n≤18000000000→Za p d=true→Za q d'=true→Alike (Z8G n p q) (JX n p q):=by
 intro n
 induction n with
 | zero=> intro p q d d' h;obtain ⟨k,o,nw,w,ks,l,os⟩:=p;simp only [Z5] at h;omega
 | succ n ih=>
  intro p q d d' hn hN hp hq
  have rp:=Zn hp
  have rq:=Zn hq
  show Alike (Jn (Z8G n) p q) (YV (JX n) p q)
  unfold Jn YV
  by_cases p0:p.kind=0
  ·rw [if_pos p0,if_pos p0];exact ⟨rfl,fun _=> rfl⟩
  rw [if_neg p0,if_neg p0]
  by_cases q0:q.kind=0
  ·rw [if_pos q0,if_pos q0];exact ⟨rfl,fun _=> rfl⟩
  rw [if_neg q0,if_neg q0]
  have hB:∀ (e:Edit) (t:Tree),doB e t=(YG (doE true e t),(doE true e t).isSome):=fun e t=> by
   unfold doB;rw [Z4y,Option.isSome_map]
  by_cases p1:p.kind=1
  ·rw [if_pos p1,if_pos p1,hB];exact ⟨rfl,fun _=> rfl⟩
  rw [if_neg p1,if_neg p1]
  by_cases q1:q.kind=1
  ·rw [if_pos q1,if_pos q1,hB];exact ⟨rfl,fun _=> rfl⟩
  rw [if_neg q1,if_neg q1]
  by_cases hk:p.kind=q.kind
  ·by_cases p2:p.kind=2
   ·have l1:=(rp.ops0 (by omega)).1
    have l2:=(rq.ops0 (by omega)).1
    rw [if_neg (by rintro (h | h);exact h hk;exact h (l1.trans l2.symm)),if_neg (show ¬p.kind≠q.kind by omega),if_pos p2,if_pos p2]
    rw [ZbI _ p.words q.words (-1) (Nat.le_refl _) (Z0H rp.words) (Z0H rq.words)]
    have hn1:1≤n∨(p.kids=[]∧q.kids=[]):=by
     by_cases h1:p.kids=[]
     ·by_cases h2:q.kids=[]
      ·exact .inr ⟨h1,h2⟩
      ·obtain ⟨k,hk⟩:=List.exists_mem_of_ne_nil _ h2
       have:=Y9 hk
       left
       obtain ⟨_,⟨k,o,nw,w,ks,l,os⟩⟩:=k
       simp only [Z5] at this
       omega
     ·obtain ⟨k,hk⟩:=List.exists_mem_of_ne_nil _ h1
      have:=Y9 hk
      left
      obtain ⟨_,⟨k,o,nw,w,ks,l,os⟩⟩:=k
      simp only [Z5] at this
      omega
    have hm:Je (JX n) p.kids q.kids (Yd (p.kids.map KidOf.at_) (q.kids.map KidOf.at_))=Zd KidOf.at_ (Jv (JX n)) p.kids q.kids:=by
     rcases hn1 with h | ⟨h1,h2⟩
     ·obtain ⟨m,rfl⟩:∃ m,n=m+1:=⟨n - 1,by omega⟩
      exact ZbK _ p.kids q.kids (-1) (Nat.le_refl _) (Z1T rp.kids) (Z1T rq.kids) (fun k hk=> (Z9k m (Zp rp.kids k hk).1.2.2).1) (fun k hk=> (Z9k m (Zp rq.kids k hk).1.2.2).2)
     ·rw [h1,h2,List.map_nil,Yd,Zd];try rfl
    rw [hm]
    obtain ⟨i1,i2⟩:=Zl2 (f:=Z8G n) (g:=JX n) _ p.kids q.kids (Nat.le_refl _) fun a ha b hb=> by
     have:=Y9 ha
     have:=Y9 hb
     exact ih a.e b.e _ _ (by omega) (by omega) (Zp rp.kids a ha).2 (Zp rq.kids b hb).2
    cases hw:Zd WEdit.at_ J5 p.words q.words with
    | none=> exact ⟨rfl,fun h=> by cases h⟩
    | some L=>
     rw [if_pos (show (some L).isSome=true from rfl)]
     cases hf:Zd KidOf.at_ (Jv (Z8G n)) p.kids q.kids with
     | none=>
      rw [hf] at i1
      cases hg:Zd KidOf.at_ (Jv (JX n)) p.kids q.kids with
      | none=> exact ⟨rfl,fun h=> by cases h⟩
      | some b=> rw [hg] at i1;cases i1
     | some a=>
      rw [hf] at i1
      cases hg:Zd KidOf.at_ (Jv (JX n)) p.kids q.kids with
      | none=> rw [hg] at i1;cases i1
      | some b=>
       refine ⟨rfl,fun _=> ?_⟩
       show Zy (.mk 2 Tree.nil Tree.nil L a 0 [])=Zy (.mk 2 Tree.nil Tree.nil L b 0 [])
       rw [ZrL,ZrL,i2 a b hf hg]
   ·have hp3:p.kind=3:=by have:=rp.kind;omega
    have hq3:q.kind=3:=by omega
    rw [if_neg (show ¬p.kind≠q.kind by omega),if_neg p2]
    by_cases hl:p.list=q.list
    ·rw [if_neg (by rintro (h | h);exact h hk;exact h hl),if_neg p2,if_neg (by omega)]
     have ok:∀ (e:Edit) (d:Int),Za e d=true→Z5 e≤18000000000→okL e.ops:=fun e d h hm o ho=> by
      refine ⟨ZJ h o ho,?_⟩
      obtain ⟨kk,ol,nn,w,ks,l,os⟩:=e
      have:=Z3C (os:=os) ho
      simp only [Z5] at hm
      omega
     obtain ⟨i1,i2⟩:=Zji (f:=Z8G n) (g:=JX n) (ok p d hp (by omega)) (ok q d' hq (by omega)) fun a b ha hb h1 h2=> by
      obtain ⟨o1,m1,k1,e1,_⟩:=ha
      obtain ⟨o2,m2,k2,e2,_⟩:=hb
      have:=Z01 m1
      have:=Z01 m2
      rw [e1,e2]
      exact ih _ _ _ _ (by omega) (by omega) (JE (rightOs_mem rp.ops m1) (by omega)) (JE (rightOs_mem rq.ops m2) (by omega))
     cases hf:Z04 (Z8G n) p.ops q.ops with
     | none=>
      rw [hf] at i1
      cases hg:Z3z (JX n) p.ops q.ops with
      | none=> exact ⟨rfl,fun h=> by cases h⟩
      | some b=> rw [hg] at i1;cases i1
     | some a=>
      rw [hf] at i1
      cases hg:Z3z (JX n) p.ops q.ops with
      | none=> rw [hg] at i1;cases i1
      | some b=>
       refine ⟨rfl,fun _=> ?_⟩
       show Zy (.mk 3 Tree.nil Tree.nil [] [] p.list a)=Zy (.mk 3 Tree.nil Tree.nil [] [] p.list b)
       rw [Zkv,Zkv,i2 a b hf hg]
    ·rw [if_pos (.inr hl),if_neg p2,if_pos hl]
     exact ⟨rfl,fun h=> by cases h⟩
  ·rw [if_pos (.inl hk),if_pos hk]
   exact ⟨rfl,fun h=> by cases h⟩
theorem ZsW{p q:Edit}{d d':Int}(hm:Z5 p+Z5 q≤18000000000)(hp:Za p d=true)(hq:Za q d'=true):Alike (Yh p q) (J2 p q):=
 Zpi _ p q d d' (Nat.le_refl _) hm hp hq
end Go.AM.Ytpjenobkibfpcaa
namespace Go.AM.Ytpjenobkibfpcaa
open Go.AM Go.Proofs
theorem ZeN(e:Edit):18≤ctE e:=by
 have:=Jt e
 have:=ZQ e.old
 have:=ZQ e.new
 omega
theorem Znu(o n:Tree):ctE (.mk 1 o n [] [] 0 [])=16+Zo o+Zo n:=by simp [ctE,Z0n,J4]
mutual
theorem Z5n:∀ (e:Edit),ctE (Zv e)=ctE e
 | .mk k o n w ks l os=> by
  have h1:=Zgf ks
  have h2:=Zge os
  simp only [Zv,ctE,List.length_map]
  omega
theorem Zgf:∀ (ks:List (KidOf Edit)),Z0n (JC ks)=Z0n ks
 | []=> rfl
 | k ::r=> by
  have h1:=Zlb k
  have h2:=Zgf r
  simp only [JC,Z0n]
  omega
theorem Zlb:∀ (k:KidOf Edit),Z4B (Z0q k)=Z4B k
 | ⟨a,e⟩=> by
  have:=Z5n e
  simp only [Z0q,Z4B]
  omega
theorem Zge:∀ (os:List (OpOf Edit)),J4 (Jb os)=J4 os
 | []=> rfl
 | o ::r=> by
  have h1:=Zpg o
  have h2:=Zge r
  simp only [Jb,J4]
  omega
theorem Zpg:∀ (o:OpOf Edit),Z3p (YK o)=Z3p o
 | ⟨k,n,l,e⟩=> by
  have:=Z5n e
  rw [Jo]
  dsimp only
  split
  ·try rfl
  ·split
   ·try rfl
   ·split
    ·simp only [Z3p];omega
    ·try rfl
end
theorem Z4A:∀ (a b:List Op),J4 (a++b)=J4 a+J4 b
 | [],b=> by simp [J4]
 | o ::r,b=> by simp only [List.cons_append,J4,Z4A r b];omega
def ctW(w:Wst):Nat:=J4 w.out+(Zf w.gone+if w.gone.length=0 then 0 else 34)+(Zf w.brought+if w.brought.length=0 then 0 else 34)
theorem Z3k:ctE Edit.nil=18:=rfl
theorem ZeM(w:Wst):J4 (Z3 w).out=ctW w:=by
 simp only [Z3,Z0F,ctW,Z4A]
 by_cases h1:w.gone.length=0
 ·rw [if_pos h1,if_pos h1,List.eq_nil_of_length_eq_zero h1]
  by_cases h2:w.brought.length=0
  ·rw [if_pos h2,if_pos h2,List.eq_nil_of_length_eq_zero h2];simp [J4,Zf]
  ·rw [if_neg h2,if_neg h2];simp only [J4,Z3p,Z3k,Zf];omega
 ·rw [if_neg h1,if_neg h1]
  by_cases h2:w.brought.length=0
  ·rw [if_pos h2,if_pos h2,List.eq_nil_of_length_eq_zero h2];simp only [J4,Z3p,Z3k,Zf];omega
  ·rw [if_neg h2,if_neg h2];simp only [J4,Z3p,Z3k];omega
theorem Znt(w:Wst)(n:Int):ctW (ZW w n)≤ctW w+34:=by
 have h:=ZeM w
 have e:ctW (ZW w n)=J4 (Jj (Z3 w).out n):=by simp [ZW,ctW,Zf]
 rw [e,←h]
 rcases Z0P (Z3 w).out n with e | ⟨a,q,e1,_,e3⟩
 ·rw [e,Z4A];simp only [J4,Z3p,Z3k,Zf];omega
 ·rw [e3,e1,Z4A,Z4A];simp only [J4,Z3p,Z3L];omega
mutual
theorem Z8F:∀ (e:Edit),ctE (Zy e)≤ctE e
 | .mk k o n w ks l os=> by
  have h1:=ZjB ks
  have h2:=ZjA l os ⟨[],[],[]⟩
  have h3:=Y6 o
  have h4:=Y6 n
  have:=ZQ o
  have:=ZQ n
  have hf:=ZeM (Zq l os ⟨[],[],[]⟩)
  have hz:ctW ⟨[],[],[]⟩=0:=rfl
  rw [Zy]
  split
  ·simp only [ctE,Z0n,J4,List.length_nil];omega
  ·split
   ·simp only [ctE,J4,JN];omega
   ·split
    ·simp only [ctE,Z0n,JN,List.length_nil];omega
    ·simp only [ctE,Z0n,J4,JN,List.length_nil];omega
theorem ZjB:∀ (ks:List (KidOf Edit)),Z0n (Ja ks)≤Z0n ks
 | []=> Nat.le_refl _
 | k ::r=> by
  have h1:=Zph k
  have h2:=ZjB r
  simp only [Ja,Z0n]
  omega
theorem Zph:∀ (k:KidOf Edit),Z4B (Z20 k)≤Z4B k
 | ⟨a,e⟩=> by
  have:=Z8F e
  simp only [Z20,Z4B]
  omega
theorem ZjA(list:Int):∀ (os:List (OpOf Edit)) (w:Wst),ctW (Zq list os w)≤ctW w+J4 os
 | [],w=> Nat.le_refl _
 | o ::r,w=> by
  have h1:=ZsU list o w
  have h2:=ZjA list r (Z0k list o w)
  simp only [Zq,J4]
  omega
theorem ZsU(list:Int):∀ (o:OpOf Edit) (w:Wst),ctW (Z0k list o w)≤ctW w+Z3p o
 | ⟨k,n,l,e⟩,w=> by
  have he:=Z8F e
  have h18:=ZeN e
  have hl:=Z6l l
  have hc:=fun a b=> Js a b
  rw [Z0k]
  simp only [Z3p]
  split
  ·have:=Znt w n;omega
  ·split
   ·have:=Js w.gone (Z8 l)
    simp only [ctW]
    split <;> split <;> omega
   ·split
    ·have:=Js w.brought (Z8 l)
     simp only [ctW]
     split <;> split <;> split <;> omega
    ·split
     ·split
      ·have:=Znt w 1;omega
      ·have hf:=ZeM w
       show J4 ((Z3 w).out++[⟨3,0,[],Zy e⟩])+_+_≤_
       rw [Z4A,hf]
       simp only [J4,Z3p,Zf,List.length_nil,if_pos]
       omega
     ·omega
end
def Y2(φ:Op→Int):List Op→Int
 | []=> 0
 | o ::r=> φ o+Y2 φ r
theorem Zia(φ:Op→Int):∀ a b:List Op,Y2 φ (a++b)=Y2 φ a+Y2 φ b
 | [],b=> by simp [Y2]
 | o ::r,b=> by simp only [List.cons_append,Y2,Zia φ r b];omega
def Zlt(φ:Op→Int):Prop:=∀ o n,ZN o→1≤n→¬Z2 o≤n→φ (Zz o n)+φ (JS o n)=φ o
theorem Zi7{φ:Op→Int}(hφ:Zlt φ){p:List Op}{n:Int}(hp:∀ o∈p,ZN o)(hl:p.length≠0)(h1:1≤n):φ (Zz (p.getD 0 Op.nil) n)+Y2 φ (ZO p n)=Y2 φ p∧∀ o∈ZO p n,ZN o:=by
 cases p with
 | nil=> exact absurd rfl hl
 | cons o r=>
  have ho:=hp o List.mem_cons_self
  unfold ZO
  simp only [List.getD_cons_zero,List.drop_succ_cons,List.drop_zero]
  by_cases h:Z2 o≤n
  ·rw [if_pos h]
   have e:Zz o n=o:=by unfold Zz;rw [if_pos h]
   rw [e]
   exact ⟨rfl,fun x hx=> hp x (List.mem_cons_of_mem _ hx)⟩
  ·rw [if_neg h]
   refine ⟨by simp only [Y2];have:=hφ o n ho h1 h;omega,fun x hx=> ?_⟩
   rcases List.mem_cons.1 hx with rfl | hx
   ·exact (Zan ho h1 h).1
   ·exact hp x (List.mem_cons_of_mem _ hx)
theorem Z9s{φ ψ:Op→Int}(hφ:Zlt φ)(hψ:Zlt ψ)(a:Int):∀ (k:Nat) (p q:List Op) (out:List Piece),p.length+q.length≤k→(∀ o∈p,ZN o)→(∀ o∈q,ZN o)→(ZP a 2 p q out).2.1=true→
  ∃ ps,(ZP a 2 p q out).1=out++ps∧Y2 φ (Z1K ps)=Y2 φ p∧Y2 ψ (Z1J ps)=Y2 ψ q∧ps.length≤p.length+q.length:=by
 intro k
 induction k with
 | zero=>
  intro p q out hk hp hq h
  have e1:p=[]:=List.eq_nil_of_length_eq_zero (by omega)
  have e2:q=[]:=List.eq_nil_of_length_eq_zero (by omega)
  subst e1 e2
  rw [ZP,dif_neg (by simp [sgl]),dif_neg (by simp [sgl]),dif_pos (by simp)]
  exact ⟨[],by simp,rfl,rfl,by simp⟩
 | succ k ih=>
  intro p q out hk hp hq h
  rw [ZP] at h ⊢
  by_cases h1:sgl a p=true
  ·rw [dif_pos h1] at h ⊢
   obtain ⟨g1,_⟩:=Z0r.1 h1
   cases p with
   | nil=> exact absurd rfl g1
   | cons o r=>
    simp only [List.getD_cons_zero,List.drop_succ_cons,List.drop_zero] at h ⊢
    obtain ⟨ps,e,f1,f2,f3⟩:=ih r q _ (by simp only [List.length_cons] at hk;omega) (fun x hx=> hp x (List.mem_cons_of_mem _ hx)) hq h
    refine ⟨⟨1,o,Op.nil⟩ ::ps,by rw [e,List.append_assoc];rfl,?_,?_,by simp only [List.length_cons];omega⟩
    ·show Y2 φ (o ::Z1K ps)=_
     simp only [Y2];omega
    ·exact f2
  ·rw [dif_neg h1] at h ⊢
   by_cases h2:sgl 2 q=true
   ·rw [dif_pos h2] at h ⊢
    obtain ⟨g1,_⟩:=Z0r.1 h2
    cases q with
    | nil=> exact absurd rfl g1
    | cons o r=>
     simp only [List.getD_cons_zero,List.drop_succ_cons,List.drop_zero] at h ⊢
     obtain ⟨ps,e,f1,f2,f3⟩:=ih p r _ (by simp only [List.length_cons] at hk;omega) hp (fun x hx=> hq x (List.mem_cons_of_mem _ hx)) h
     refine ⟨⟨2,Op.nil,o⟩ ::ps,by rw [e,List.append_assoc];rfl,f1,?_,by simp only [List.length_cons];omega⟩
     show Y2 ψ (o ::Z1J ps)=_
     simp only [Y2];omega
   ·rw [dif_neg h2] at h ⊢
    by_cases h3:p.length=0∨q.length=0
    ·rw [dif_pos h3] at h ⊢
     by_cases h4:decide (p.length=0)=decide (q.length=0)
     ·rw [if_pos h4]
      have h5:p.length=0∧q.length=0:=by
       have:=decide_eq_decide.1 h4
       omega
      rw [List.eq_nil_of_length_eq_zero h5.1,List.eq_nil_of_length_eq_zero h5.2]
      exact ⟨[],by simp,rfl,rfl,by simp⟩
     ·rw [if_neg h4] at h;cases h
    ·rw [dif_neg h3] at h ⊢
     have l1:p.length≠0:=by omega
     have l2:q.length≠0:=by omega
     have p1:=ZY (hp _ (Zg (l:=p) (i:=0) (by omega) Op.nil))
     have p2:=ZY (hq _ (Zg (l:=q) (i:=0) (by omega) Op.nil))
     generalize hn:min (Z2 (p.getD 0 Op.nil)) (Z2 (q.getD 0 Op.nil))=n at h ⊢
     obtain ⟨s1,s2⟩:=Zi7 hφ hp l1 (n:=n) (by omega)
     obtain ⟨t1,t2⟩:=Zi7 hψ hq l2 (n:=n) (by omega)
     have c1:=YA p n l1
     have c2:=YA q n l2
     have c3:Z2 (p.getD 0 Op.nil)≤n→(ZO p n).length < p.length:=fun h=> Yz p _ l1 h
     have c4:Z2 (q.getD 0 Op.nil)≤n→(ZO q n).length < q.length:=fun h=> Yz q _ l2 h
     obtain ⟨ps,e,f1,f2,f3⟩:=ih (ZO p n) (ZO q n) _ (by omega) s2 t2 h
     refine ⟨⟨0,Zz (p.getD 0 Op.nil) n,Zz (q.getD 0 Op.nil) n⟩ ::ps,by rw [e,List.append_assoc];rfl,?_,?_,by simp only [List.length_cons];omega⟩
     ·show Y2 φ (Zz (p.getD 0 Op.nil) n ::Z1K ps)=_
      simp only [Y2];omega
     ·show Y2 ψ (Zz (q.getD 0 Op.nil) n ::Z1J ps)=_
      simp only [Y2];omega
def φA(o:Op):Int:=if o.kind=2 then 0 else Z2 o
def φB(o:Op):Int:=if o.kind=1 then 0 else Z2 o
def φC(o:Op):Int:=Zf o.l+ctE o.e - 18
theorem Zdb:∀ l,Y2 φA l=Jh l
 | []=> rfl
 | o ::r=> by simp only [Y2,Jh,φA,Zdb r]
theorem Zda:∀ l,Y2 φB l=Jp l
 | []=> rfl
 | o ::r=> by simp only [Y2,Jp,φB,Zda r]
theorem Zgw:∀ l,Y2 φC l+34*l.length=J4 l
 | []=> rfl
 | o ::r=> by
  have:=Zgw r
  simp only [Y2,J4,φC,Z3L,List.length_cons]
  omega
theorem Z8H(o:Op)(n:Int):(JS o n).kind=o.kind:=by unfold JS;split <;> rfl
theorem ZjF{o:Op}{n:Int}(ho:ZN o)(h1:1≤n)(hn:¬Z2 o≤n):Z2 (JS o n)=Z2 o - n:=by
 obtain ⟨_,_,v3,_⟩:=Z5C (a:=1) ho h1 hn
 have hl:=YQ o
 rcases ho with ⟨k0,k1,k2,k3⟩ | ⟨k0,k1,k2,k3⟩ | ⟨k0,k1,k2⟩
 ·unfold JS
  rw [if_pos k0,YQ]
  dsimp only
  rw [if_neg (by omega)] at hl ⊢
  omega
 ·unfold JS
  rw [if_neg (by omega),YQ]
  dsimp only
  rw [if_neg (by omega)] at hl ⊢
  rw [List.length_drop]
  omega
 ·rw [if_pos k0] at hl
  omega
theorem Zxj:Zlt φA:=by
 intro o n ho h1 hn
 obtain ⟨_,_,v3,_⟩:=Z5C (a:=1) ho h1 hn
 have:=ZjF ho h1 hn
 unfold φA
 rw [Z0w,Z8H,v3,this]
 split <;> omega
theorem Zxi:Zlt φB:=by
 intro o n ho h1 hn
 obtain ⟨_,_,v3,_⟩:=Z5C (a:=1) ho h1 hn
 have:=ZjF ho h1 hn
 unfold φB
 rw [Z0w,Z8H,v3,this]
 split <;> omega
theorem Zxh:Zlt φC:=by
 intro o n ho h1 hn
 have hl:=YQ o
 unfold φC Zz JS
 rw [if_neg hn]
 rcases ho with ⟨k0,k1,k2,k3⟩ | ⟨k0,k1,k2,k3⟩ | ⟨k0,k1,k2⟩
 ·rw [if_pos k0,if_pos k0]
  dsimp only
  rw [k3,k1,Z3k]
  simp [Zf]
 ·rw [if_neg (by omega),if_neg (by omega)]
  dsimp only
  have:=Js (o.l.take n.toNat) (o.l.drop n.toNat)
  rw [List.take_append_drop] at this
  rw [k3,Z3k]
  omega
 ·rw [if_pos k0] at hl
  omega
end Go.AM.Ytpjenobkibfpcaa
