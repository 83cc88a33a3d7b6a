import Derived.Test.YtpjenobkibfpcaaKB24c
import Derived.Test.YtpjenobkibfpcaaKB20b
import Derived.Test.YtpjenobkibfpcaaKC34
import Derived.Test.YtpjenobkibfpcaaKD20
set_option linter.unusedSimpArgs false
set_option linter.unusedVariables false
namespace Go.AM.Ytpjenobkibfpcaa
open Go.AM Go.Proofs
def vu(u:AUnit):Op × Bool:=(opU u,u.alone)
def vs(a:Int)(o:Op):List (Op × Bool):=(Yq 0 a o).map vu
def vsL(a:Int)(l:List Op):List (Op × Bool):=l.flatMap (vs a)
theorem ZtP(i a:Int)(o:Op):(Yq i a o).map vu=vs a o:=by
 simp only [vs,Yq,List.map_append,List.map_map]
 congr 1
 ·split <;> simp [vu,opU]
 ·congr 1
  split <;> simp [vu,opU]
theorem Z43(a:Int):∀ (l:List Op) (i:Int),(ZE i a l).map vu=vsL a l
 | [],_=> rfl
 | o ::r,i=> by
  simp only [ZE,List.map_append,ZtP,Z43 a r]
  try rfl
theorem ZpM{a:Int}{o:Op}(h:ZN o):((vs a o).length:Int)=Z2 o:=by
 rw [vs,List.length_map];exact Z5E h 0 a
theorem Zlz{a:Int}{o:Op}(h:ZN o)(ha:a=1∨a=2):∀ x∈vs a o,x.2=decide (o.kind=a):=by
 intro x hx
 simp only [vs,List.mem_map] at hx
 obtain ⟨u,hu,rfl⟩:=hx
 simp only [Yq,List.mem_append,List.mem_map] at hu
 rcases hu with hu | ⟨t,ht,rfl⟩ | hu
 ·split at hu
  ·rw [List.eq_of_mem_replicate hu]
   simp only [vu]
   rw [eq_comm,decide_eq_false_iff_not];omega
  ·cases hu
 ·try rfl
 ·split at hu
  ·rw [List.mem_singleton.1 hu]
   simp only [vu]
   rw [eq_comm,decide_eq_false_iff_not];omega
  ·cases hu
theorem Z5C{a n:Int}{o:Op}(h:ZN o)(h1:1≤n)(hn:¬Z2 o≤n):vs a o=vs a (Zz o n)++vs a (JS o n)∧ZN (Zz o n)∧Z2 (Zz o n)=n∧Zs (Zz o n)≤Zs o:=by
 have hl:=YQ o
 rcases h with ⟨k0,k1,k2,k3⟩ | ⟨k0,k1,k2,k3⟩ | ⟨k0,k1,k2⟩
 ·have e1:Zz o n=⟨o.kind,n,o.l,o.e⟩:=by rw [Zz,if_neg hn,if_pos k0]
  have e2:JS o n=⟨o.kind,o.n - n,o.l,o.e⟩:=by rw [JS,if_pos k0]
  rw [if_neg (by omega),k1] at hl
  simp only [List.length_nil] at hl
  rw [e1,e2]
  refine ⟨?_,Or.inl ⟨k0,k1,by dsimp only;omega,k3⟩,?_,by simp [ZI]⟩
  ·simp only [vs,Yq,k0,k1]
   simp only [if_true,List.map_nil,List.nil_append,List.map_append,List.map_replicate]
   rw [if_neg (by decide)]
   simp only [List.map_nil,List.append_nil]
   rw [List.replicate_append_replicate]
   congr 1
   omega
  ·rw [YQ]
   dsimp only
   rw [if_neg (by omega),k1]
   simp
 ·have e1:Zz o n=⟨o.kind,o.n,o.l.take n.toNat,o.e⟩:=by rw [Zz,if_neg hn,if_neg (by omega)]
  have e2:JS o n=⟨o.kind,o.n,o.l.drop n.toNat,o.e⟩:=by rw [JS,if_neg (by omega)]
  rw [if_neg (by omega)] at hl
  have hm:=Zel n.toNat o.l
  rw [e1,e2]
  refine ⟨?_,Or.inr (Or.inl ⟨k0,k1,?_,k3⟩),?_,by simp only [ZI];omega⟩
  ·simp only [vs,Yq]
   rw [if_neg (by omega),if_neg (by omega)]
   simp only [List.nil_append,List.append_nil]
   rw [←List.map_append,←List.map_append,List.take_append_drop]
  ·intro he
   have:=congrArg List.length he
   simp only [List.length_take,List.length_nil] at this
   omega
  ·rw [YQ]
   dsimp only
   rw [if_neg (by omega),List.length_take]
   omega
 ·rw [if_pos k0] at hl
  omega
def okL(l:List Op):Prop:=∀ o∈l,ZN o∧Zs o≤18000000000
theorem ZiW{l:List Op}(h:okL l):okL (l.drop 1):=fun o ho=> h o (List.mem_of_mem_drop ho)
theorem Z6g{l:List Op}(h:okL l)(hl:l.length≠0):ZN (l.getD 0 Op.nil)∧Zs (l.getD 0 Op.nil)≤18000000000:=h _ (Zg (l:=l) (i:=0) (by omega) Op.nil)
theorem Z4L{a n:Int}{p:List Op}(h:okL p)(hl:p.length≠0)(h1:1≤n)(hn:n≤Z2 (p.getD 0 Op.nil)):
  vsL a p=vs a (Zz (p.getD 0 Op.nil) n)++vsL a (ZO p n)∧ZN (Zz (p.getD 0 Op.nil) n)∧Z2 (Zz (p.getD 0 Op.nil) n)=n∧Zs (Zz (p.getD 0 Op.nil) n)≤18000000000∧okL (ZO p n):=by
 obtain ⟨ha,hb⟩:=Z6g h hl
 obtain _ | ⟨o,r⟩:=p
 ·simp at hl
 have e:(o ::r).getD 0 Op.nil=o:=rfl
 unfold ZO
 simp only [e] at ha hb hn ⊢
 by_cases hc:Z2 o≤n
 ·have t:Zz o n=o:=by rw [Zz,if_pos hc]
  rw [if_pos hc,t]
  exact ⟨rfl,ha,by omega,hb,ZiW h⟩
 ·rw [if_neg hc]
  obtain ⟨g1,g2,g3,g4⟩:=Z5C (a:=a) ha h1 hc
  obtain ⟨b1,b2⟩:=Zan ha h1 hc
  refine ⟨?_,g2,g3,by omega,?_⟩
  ·simp only [vsL,List.flatMap_cons,List.drop_succ_cons,List.drop_zero]
   rw [g1,List.append_assoc]
  ·intro x hx
   rcases List.mem_cons.1 hx with rfl | hx
   ·exact ⟨b1,by omega⟩
   ·exact ZiW h x hx
theorem Z4E(u:AUnit)(P:List AUnit):alo (u ::P)=u.alone:=by
 rw [Bool.eq_iff_iff]
 unfold alo
 rw [decide_eq_true_eq]
 simp
theorem ZbS:∀ (A P Q:List AUnit) (out:List APair),(∀ u∈A,u.alone=true)→ZX (A++P) Q out=ZX P Q (out++A.map (fun u=> ⟨1,u,AUnit.nil⟩))
 | [],P,Q,out,_=> by simp
 | u ::A,P,Q,out,h=> by
  have hu:=h u (List.mem_cons_self ..)
  rw [List.cons_append,ZX,dif_pos (by rw [Z4E];exact hu)]
  have:=ZbS A P Q (out++[⟨1,u,AUnit.nil⟩]) (fun x hx=> h x (List.mem_cons_of_mem _ hx))
  simp only [List.drop_succ_cons,List.drop_zero,List.map_cons]
  rw [show (u ::(A++P)).getD 0 AUnit.nil=u from rfl,this,List.append_assoc]
  try rfl
theorem Z9r:∀ (B P Q:List AUnit) (out:List APair),alo P=false→(∀ u∈B,u.alone=true)→ZX P (B++Q) out=ZX P Q (out++B.map (fun u=> ⟨2,AUnit.nil,u⟩))
 | [],P,Q,out,_,_=> by simp
 | u ::B,P,Q,out,hp,h=> by
  have hu:=h u (List.mem_cons_self ..)
  rw [List.cons_append,ZX,dif_neg (by rw [hp];exact Bool.false_ne_true),dif_pos (by rw [Z4E];exact hu)]
  have:=Z9r B P Q (out++[⟨2,AUnit.nil,u⟩]) hp (fun x hx=> h x (List.mem_cons_of_mem _ hx))
  simp only [List.drop_succ_cons,List.drop_zero,List.map_cons]
  rw [show (u ::(B++Q)).getD 0 AUnit.nil=u from rfl,this,List.append_assoc]
  try rfl
theorem Ze1:∀ (A B P Q:List AUnit) (out:List APair),A.length=B.length→(∀ u∈A,u.alone=false)→(∀ u∈B,u.alone=false)→ZX (A++P) (B++Q) out=ZX P Q (out++List.zipWith (fun u w=> ⟨0,u,w⟩) A B)
 | [],[],P,Q,out,_,_,_=> by simp
 | [],_ ::_,_,_,_,h,_,_=> by simp at h
 | _ ::_,[],_,_,_,h,_,_=> by simp at h
 | u ::A,w ::B,P,Q,out,hl,ha,hb=> by
  have hu:=ha u (List.mem_cons_self ..)
  have hw:=hb w (List.mem_cons_self ..)
  rw [List.cons_append,List.cons_append,ZX,dif_neg (by rw [Z4E,hu];exact Bool.false_ne_true),dif_neg (by rw [Z4E,hw];exact Bool.false_ne_true),dif_neg (by simp)]
  have:=Ze1 A B P Q (out++[⟨0,u,w⟩]) (by simpa using hl) (fun x hx=> ha x (List.mem_cons_of_mem _ hx)) (fun x hx=> hb x (List.mem_cons_of_mem _ hx))
  simp only [List.drop_succ_cons,List.drop_zero,List.zipWith_cons_cons]
  rw [show (u ::(A++P)).getD 0 AUnit.nil=u from rfl,show (w ::(B++Q)).getD 0 AUnit.nil=w from rfl,this,List.append_assoc]
  try rfl
theorem Ztx{a:Int}{p:List Op}{P:List AUnit}(h:okL p)(ha:a=1∨a=2)(e:P.map vu=vsL a p):alo P=sgl a p∧(P.length=0↔p.length=0):=by
 obtain _ | ⟨o,r⟩:=p
 ·have:P=[]:=by simpa [vsL] using e
  rw [this]
  exact ⟨rfl,by simp⟩
 ·have ho:=(h o (List.mem_cons_self ..)).1
  have hl:=ZpM (a:=a) ho
  have hp:=ZY ho
  have hf:=Zlz ho ha
  simp only [vsL,List.flatMap_cons] at e
  obtain _ | ⟨u,P⟩:=P
  ·have:=congrArg List.length e
   simp at this
   omega
  ·cases hv:vs a o with
   | nil=> rw [hv] at hl;simp at hl;omega
   | cons x xs=>
    rw [hv] at e hf
    have h1:vu u=x:=by simpa using (List.cons.inj e).1
    have h2:=hf x (List.mem_cons_self ..)
    rw [←h1] at h2
    refine ⟨?_,by simp⟩
    rw [Z4E,show u.alone=(vu u).2 from rfl,h2]
    simp [sgl]
theorem Znp{a:Int}{o:Op}{A:List AUnit}(h:ZN o)(ha:a=1∨a=2)(e:A.map vu=vs a o):(∀ u∈A,u.alone=decide (o.kind=a))∧(A.length:Int)=Z2 o∧Z5w o a A:=by
 refine ⟨fun u hu=> ?_,?_,?_⟩
 ·exact Zlz h ha (vu u) (by rw [←e];exact List.mem_map_of_mem hu)
 ·rw [←ZpM (a:=a) h,←e,List.length_map]
 ·have:=congrArg (List.map Prod.fst) e
  simp only [vs,List.map_map] at this
  unfold Z5w
  rw [Zd2]
  exact this.symm
theorem Z0r{a:Int}{l:List Op}:sgl a l=true↔(l.length≠0∧(l.getD 0 Op.nil).kind=a):=by unfold sgl;exact decide_eq_true_iff
theorem Z0w(o:Op)(n:Int):(Zz o n).kind=o.kind:=by
 unfold Zz;split
 ·try rfl
 ·split <;> rfl
theorem ZtL{A B:List AUnit}(h:A.length=B.length):(List.zipWith (fun u w=> (⟨0,u,w⟩:APair)) A B).map APair.p=A∧(List.zipWith (fun u w=> (⟨0,u,w⟩:APair)) A B).map APair.q=B:=by
 induction A generalizing B with
 | nil=> cases B with
  | nil=> exact ⟨rfl,rfl⟩
  | cons=> simp at h
 | cons u A ih=> cases B with
  | nil=> simp at h
  | cons w B=>
   have:=ih (B:=B) (by simpa using h)
   simp only [List.zipWith_cons_cons,List.map_cons,this.1,this.2]
   exact ⟨trivial,trivial⟩
theorem ZxB{A B:List AUnit}:∀ y∈List.zipWith (fun u w=> (⟨0,u,w⟩:APair)) A B,y.of=0:=by
 induction A generalizing B with
 | nil=> intro y hy;simp at hy
 | cons u A ih=> cases B with
  | nil=> intro y hy;simp at hy
  | cons w B=>
   intro y hy
   rcases List.mem_cons.1 hy with rfl | hy
   ·try rfl
   ·exact ih y hy
theorem ZiP(a:Int)(ha:a=1∨a=2):∀ (k:Nat) (p q:List Op) (out:List Piece) (P Q:List AUnit) (outm:List APair),p.length+q.length≤k→okL p→okL q→P.map vu=vsL a p→Q.map vu=vsL 2 q→
  ∃ (ok:Bool) (l:List Piece) (m:List APair),(ZP a 2 p q out).1=(if ok=true then out++l else [])∧(ZP a 2 p q out).2.1=ok∧ZX P Q outm=(if ok=true then outm++m else [],ok)
   ∧(ok=true→Zbq a l m∧l.length≤p.length+q.length∧m.length≤P.length+Q.length):=by
 intro k
 induction k with
 | zero=>
  intro p q out P Q outm hk hp hq eP eQ
  have h1:p=[]:=List.length_eq_zero_iff.1 (by omega)
  have h2:q=[]:=List.length_eq_zero_iff.1 (by omega)
  subst h1 h2
  have h3:P=[]:=by simpa [vsL] using eP
  have h4:Q=[]:=by simpa [vsL] using eQ
  subst h3 h4
  refine ⟨true,[],[],?_,?_,?_,fun _=> ⟨rfl,by simp,by simp⟩⟩
  ·rw [ZP];simp [sgl]
  ·rw [ZP];simp [sgl]
  ·rw [ZX];simp [alo]
 | succ k ih=>
  intro p q out P Q outm hk hp hq eP eQ
  obtain ⟨aP,lP⟩:=Ztx hp ha eP
  obtain ⟨aQ,lQ⟩:=Ztx hq (Or.inr rfl) eQ
  rw [ZP]
  by_cases h1:sgl a p=true
  ·rw [dif_pos h1]
   obtain ⟨hl,hkind⟩:=Z0r.1 h1
   obtain ⟨oa,ob⟩:=Z6g hp hl
   obtain ⟨s1,s2,s3,s4,s5⟩:=Z4L (a:=a) hp hl (ZY oa) (Int.le_refl _)
   rw [Z6J] at s1 s5
   rw [Z6K] at s1 s2 s3 s4
   rw [s1] at eP
   obtain ⟨A,P',rfl,eA,eP'⟩:=List.map_eq_append_iff.1 eP
   obtain ⟨f1,f2,f3⟩:=Znp oa ha eA
   rw [decide_eq_true hkind] at f1
   rw [ZbS A P' Q outm f1]
   obtain ⟨ok,l,m,e1,e2,e3,e4⟩:=ih (p.drop 1) q (out++[⟨1,p.getD 0 Op.nil,Op.nil⟩]) P' Q (outm++A.map (fun u=> ⟨1,u,AUnit.nil⟩)) (by simp;omega) s5 hq eP' eQ
   refine ⟨ok,⟨1,p.getD 0 Op.nil,Op.nil⟩ ::l,A.map (fun u=> ⟨1,u,AUnit.nil⟩)++m,by rw [e1,List.append_assoc];rfl,e2,by rw [e3,List.append_assoc],fun hok=> ?_⟩
   obtain ⟨g1,g2,g3⟩:=e4 hok
   have hpos:=ZY oa
   refine ⟨?_,by simp only [List.length_cons,List.length_drop] at g2 ⊢;omega,by simp only [List.length_append,List.length_map] at g3 ⊢;omega⟩
   rw [Z1X]
   refine ⟨A.map (fun u=> ⟨1,u,AUnit.nil⟩),m,rfl,?_,⟨Or.inr (Or.inl rfl),fun h=> by simp at h,?_,fun _=> ⟨oa,ob,?_,?_⟩,fun h=> absurd rfl h⟩,g1⟩
   ·intro he;have:=congrArg List.length he;simp only [List.length_map,List.length_nil] at this;omega
   ·intro y hy;obtain ⟨u,_,rfl⟩:=List.mem_map.1 hy;rfl
   ·rw [List.length_map];exact f2.symm
   ·rw [List.map_map]
    have:(APair.p ∘ fun u=> (⟨1,u,AUnit.nil⟩:APair))=id:=rfl
    rw [this,List.map_id];exact f3
  ·rw [dif_neg h1]
   have nP:alo P=false:=by rw [aP];exact Bool.not_eq_true _▸h1
   by_cases h2:sgl 2 q=true
   ·rw [dif_pos h2]
    obtain ⟨hl,hkind⟩:=Z0r.1 h2
    obtain ⟨oa,ob⟩:=Z6g hq hl
    obtain ⟨s1,s2,s3,s4,s5⟩:=Z4L (a:=2) hq hl (ZY oa) (Int.le_refl _)
    rw [Z6J] at s1 s5
    rw [Z6K] at s1 s2 s3 s4
    rw [s1] at eQ
    obtain ⟨B,Q',rfl,eB,eQ'⟩:=List.map_eq_append_iff.1 eQ
    obtain ⟨f1,f2,f3⟩:=Znp oa (Or.inr rfl) eB
    rw [decide_eq_true hkind] at f1
    rw [Z9r B P Q' outm nP f1]
    obtain ⟨ok,l,m,e1,e2,e3,e4⟩:=ih p (q.drop 1) (out++[⟨2,Op.nil,q.getD 0 Op.nil⟩]) P Q' (outm++B.map (fun u=> ⟨2,AUnit.nil,u⟩)) (by simp;omega) hp s5 eP eQ'
    refine ⟨ok,⟨2,Op.nil,q.getD 0 Op.nil⟩ ::l,B.map (fun u=> ⟨2,AUnit.nil,u⟩)++m,by rw [e1,List.append_assoc];rfl,e2,by rw [e3,List.append_assoc],fun hok=> ?_⟩
    obtain ⟨g1,g2,g3⟩:=e4 hok
    have hpos:=ZY oa
    refine ⟨?_,by simp only [List.length_cons,List.length_drop] at g2 ⊢;omega,by simp only [List.length_append,List.length_map] at g3 ⊢;omega⟩
    rw [Z1X]
    refine ⟨B.map (fun u=> ⟨2,AUnit.nil,u⟩),m,rfl,?_,⟨Or.inr (Or.inr rfl),fun _=> rfl,?_,fun h=> absurd rfl h,fun _=> ⟨oa,ob,?_,?_⟩⟩,g1⟩
    ·intro he;have:=congrArg List.length he;simp only [List.length_map,List.length_nil] at this;omega
    ·intro y hy;obtain ⟨u,_,rfl⟩:=List.mem_map.1 hy;rfl
    ·rw [List.length_map];exact f2.symm
    ·rw [List.map_map]
     have:(APair.q ∘ fun u=> (⟨2,AUnit.nil,u⟩:APair))=id:=rfl
     rw [this,List.map_id];exact f3
   ·rw [dif_neg h2]
    have nQ:alo Q=false:=by rw [aQ];exact Bool.not_eq_true _▸h2
    by_cases h3:p.length=0∨q.length=0
    ·rw [dif_pos h3]
     have e0:ZX P Q outm=if decide (P.length=0)=decide (Q.length=0) then (outm,true) else ([],false):=by
      rw [ZX,dif_neg (by rw [nP];exact Bool.false_ne_true),dif_neg (by rw [nQ];exact Bool.false_ne_true),dif_pos (by rw [lP,lQ];exact h3)]
     have e5:decide (P.length=0)=decide (p.length=0):=decide_eq_decide.2 lP
     have e6:decide (Q.length=0)=decide (q.length=0):=decide_eq_decide.2 lQ
     rw [e5,e6] at e0
     by_cases h4:decide (p.length=0)=decide (q.length=0)
     ·rw [if_pos h4] at e0 ⊢
      exact ⟨true,[],[],by simp,rfl,by rw [e0];simp,fun _=> ⟨rfl,by simp,by simp⟩⟩
     ·rw [if_neg h4] at e0 ⊢
      exact ⟨false,[],[],rfl,rfl,e0,fun h=> by cases h⟩
    ·rw [dif_neg h3]
     have l1:p.length≠0:=by omega
     have l2:q.length≠0:=by omega
     obtain ⟨oa,ob⟩:=Z6g hp l1
     obtain ⟨oc,od⟩:=Z6g hq l2
     have p1:=ZY oa
     have p2:=ZY oc
     generalize hn:min (Z2 (p.getD 0 Op.nil)) (Z2 (q.getD 0 Op.nil))=n
     obtain ⟨s1,s2,s3,s4,s5⟩:=Z4L (a:=a) (n:=n) hp l1 (by omega) (by omega)
     obtain ⟨t1,t2,t3,t4,t5⟩:=Z4L (a:=2) (n:=n) hq l2 (by omega) (by omega)
     have k1:(Zz (p.getD 0 Op.nil) n).kind≠a:=by
      rw [Z0w];intro h;exact h1 (Z0r.2 ⟨l1,h⟩)
     have k2:(Zz (q.getD 0 Op.nil) n).kind≠2:=by
      rw [Z0w];intro h;exact h2 (Z0r.2 ⟨l2,h⟩)
     have c1:=YA p n l1
     have c2:=YA q n l2
     have c3:Z2 (p.getD 0 Op.nil)≤n→(ZO p n).length < p.length:=fun h=> Yz p _ l1 h
     have c4:Z2 (q.getD 0 Op.nil)≤n→(ZO q n).length < q.length:=fun h=> Yz q _ l2 h
     rw [s1] at eP
     rw [t1] at eQ
     obtain ⟨A,P',rfl,eA,eP'⟩:=List.map_eq_append_iff.1 eP
     obtain ⟨B,Q',rfl,eB,eQ'⟩:=List.map_eq_append_iff.1 eQ
     obtain ⟨f1,f2,f3⟩:=Znp s2 ha eA
     obtain ⟨g1,g2,g3⟩:=Znp t2 (Or.inr rfl) eB
     rw [decide_eq_false k1] at f1
     rw [decide_eq_false k2] at g1
     have hAB:A.length=B.length:=by omega
     rw [Ze1 A B P' Q' outm hAB f1 g1]
     obtain ⟨ok,l,m,e1,e2,e3,e4⟩:=ih (ZO p n) (ZO q n) (out++[⟨0,Zz (p.getD 0 Op.nil) n,Zz (q.getD 0 Op.nil) n⟩]) P' Q' (outm++List.zipWith (fun u w=> ⟨0,u,w⟩) A B) (by omega) s5 t5 eP' eQ'
     refine ⟨ok,⟨0,Zz (p.getD 0 Op.nil) n,Zz (q.getD 0 Op.nil) n⟩ ::l,List.zipWith (fun u w=> ⟨0,u,w⟩) A B++m,by rw [e1,List.append_assoc];rfl,e2,by rw [e3,List.append_assoc],fun hok=> ?_⟩
     obtain ⟨i1,i2,i3⟩:=e4 hok
     have hzl:(List.zipWith (fun u w=> (⟨0,u,w⟩:APair)) A B).length=A.length:=by rw [List.length_zipWith,hAB,Nat.min_self]
     obtain ⟨z1,z2⟩:=ZtL hAB
     refine ⟨?_,by simp only [List.length_cons];omega,by simp only [List.length_append,hzl];omega⟩
     rw [Z1X]
     refine ⟨List.zipWith (fun u w=> ⟨0,u,w⟩) A B,m,rfl,?_,⟨Or.inl rfl,fun h=> by simp at h,ZxB,fun _=> ⟨s2,s4,?_,?_⟩,fun _=> ⟨t2,t4,?_,?_⟩⟩,i1⟩
     ·intro he;have:=congrArg List.length he;rw [hzl,List.length_nil] at this;omega
     ·rw [hzl];exact f2.symm
     ·rw [z1];exact f3
     ·rw [hzl,hAB];exact g2.symm
     ·rw [z2];exact g3
end Go.AM.Ytpjenobkibfpcaa
namespace Go.AM.Ytpjenobkibfpcaa
open Go.AM Go.Proofs
theorem ZiY{t:Tree}(h:JR t=true):t=Tree.nil:=by
 obtain ⟨k,w,ks⟩:=t
 have:=of_decide_eq_true h
 simp at this
 obtain ⟨rfl,rfl,rfl⟩:=this
 try rfl
theorem Zfp{e:Edit}(h:Z24 e=true):e=Edit.nil:=by
 obtain ⟨h1,h2,h3,h4,h5,h6,h7⟩:=Zig h
 obtain ⟨k,o,n,w,ks,l,os⟩:=e
 simp at h1 h2 h3 h4 h5 h6 h7
 subst h1 h4 h5 h6 h7
 rw [ZiY h2,ZiY h3]
 try rfl
theorem Z0A{list:Int}{o:Op}{d:Int}(h:Zc list o d=true):ZN o:=by
 rw [JF] at h
 unfold ZN
 split at h
 ·rename_i h0
  simp only [Bool.and_eq_true,decide_eq_true_eq] at h
  exact Or.inl ⟨h0,List.length_eq_zero_iff.1 h.1.2.2,⟨h.1.1,h.1.2.1⟩,Zfp h.2⟩
 ·split at h
  ·cases h
  ·rename_i h0 h1
   split at h
   ·simp only [Bool.and_eq_true,decide_eq_true_eq] at h
    refine Or.inr (Or.inl ⟨by omega,by omega,?_,Zfp h.2⟩)
    exact List.length_pos_iff.1 h.1.2
   ·simp only [Bool.and_eq_true,decide_eq_true_eq] at h
    exact Or.inr (Or.inr ⟨by omega,by omega,List.length_eq_zero_iff.1 h.1.1.1⟩)
end Go.AM.Ytpjenobkibfpcaa
namespace Go.AM
def Z3I(list:Int)(e:Edit):Bool:=decide (e.kind=0∨(list=9∧e.kind=2∧e.words.length=0∧e.kids.length=0))
def Z8(l:List Tree):List Tree:=l.map Z4
def YO(kind:Int):List Op→List Tree
 | []=> []
 | o ::r=> if o.kind=1∨o.kind=2 then (if o.kind=kind then Z8 o.l else [])++YO kind r else []
def ZR:List Op→Int
 | []=> 0
 | o ::r=> if o.kind=1∨o.kind=2 then 1+ZR r else 0
def Z23(w:WEdit):WEdit:=⟨w.at_,w.mask,w.new,w.old⟩
mutual
def Zv:Edit→Edit
 | .mk k o n w ks l os=> .mk k n o (w.map Z23) (JC ks) l (Jb os)
def JC:List (KidOf Edit)→List (KidOf Edit)
 | []=> []
 | k ::r=> Z0q k ::JC r
def Z0q:KidOf Edit→KidOf Edit
 | ⟨a,e⟩=> ⟨a,Zv e⟩
def Jb:List (OpOf Edit)→List (OpOf Edit)
 | []=> []
 | o ::r=> YK o ::Jb r
def YK:OpOf Edit→OpOf Edit
 | ⟨k,n,l,e⟩=> if k=1 then ⟨2,n,l,e⟩ else if k=2 then ⟨1,n,l,e⟩ else if k=3 then ⟨k,n,l,Zv e⟩ else ⟨k,n,l,e⟩
end
def Z8e(k:Int):Int:=if k=1∨k=2 then 3 - k else k
mutual
def JV:Edit→Edit
 | .mk k o n w ks l os=> .mk k n o (w.map Z23) (Z1C ks) l (JP os)
def Z1C:List (KidOf Edit)→List (KidOf Edit)
 | []=> []
 | k ::r=> Z99 k ::Z1C r
def Z99:KidOf Edit→KidOf Edit
 | ⟨a,e⟩=> ⟨a,JV e⟩
def JP:List (OpOf Edit)→List (OpOf Edit)
 | []=> []
 | o ::r=> ZcF o ::JP r
def ZcF:OpOf Edit→OpOf Edit
 | ⟨k,n,l,e⟩=> ⟨Z8e k,n,l,JV e⟩
end
end Go.AM
namespace Go.AM
def Ya{α:Type}(z:α)(l:List α)(i:Nat)(x:α):List α:=(l++List.replicate (i+1 - l.length) z).set i x
def wsD(tw:List Int):List WEdit→List Int→Option (List Int)
 | [],out=> some out
 | w ::r,out=> if mix 0 (tw.getD w.at_.toNat 0) w.mask=w.old then wsD tw r (Ya 0 out w.at_.toNat (mix (tw.getD w.at_.toNat 0) w.new w.mask)) else none
noncomputable def Z3J(l rest:List Tree):Bool:=decide (l.length≤rest.length) && eqX (Z8 l) (Z8 (rest.take l.length))
def Z1V(r:Option (List Tree × List Tree)):Option (List Tree):=r.bind fun x=> if x.2.length=0 then some x.1 else none
def nrD(r:Bool)(t:Tree):Tree:=if r then Z4 t else t
mutual
noncomputable def doE(r:Bool):Edit→Tree→Option Tree
 | .mk k o n w ks l os,t=>
  (if k=0 then some t
  else if k=1 then (if YF (Z4 o) (Z4 t)=true then some n else none)
  else if k=2 then (if t.kind=1 then (wsD t.words w t.words).bind fun a=> (Z22 r t.kids ks t.kids).map fun b=> .mk 1 a b else none)
  else if k=3 then (if t.kind=l then (Z1V (Ji r os t.kids [])).map fun b=> .mk l [] b else none)
  else none).map (nrD r)
noncomputable def Z22(r:Bool)(tk:List Tree):List (KidOf Edit)→List Tree→Option (List Tree)
 | [],out=> some out
 | k ::s,out=> (Z3K r tk k).bind fun u=> Z22 r tk s (Ya Tree.nil out k.at_.toNat u)
noncomputable def Z3K(r:Bool)(tk:List Tree):KidOf Edit→Option Tree
 | ⟨a,e⟩=> doE r e (tk.getD a.toNat Tree.nil)
noncomputable def Ji(r:Bool):List (OpOf Edit)→List Tree→List Tree→Option (List Tree × List Tree)
 | [],rest,out=> some (out,rest)
 | o ::s,rest,out=> (ZeH r o rest out).bind fun x=> Ji r s x.2 x.1
noncomputable def ZeH(r:Bool):OpOf Edit→List Tree→List Tree→Option (List Tree × List Tree)
 | ⟨k,n,l,e⟩,rest,out=>
  if k=0 then (if n.toNat≤rest.length then some (out++rest.take n.toNat,rest.drop n.toNat) else none)
  else if k=1 then (if Z3J l rest=true then some (out,rest.drop l.length) else none)
  else if k=2 then some (out++l,rest)
  else if rest.length=0 then none else (doE r e (rest.getD 0 Tree.nil)).map fun u=> (out++[u],rest.drop 1)
end
theorem Z41(r:Bool)(e:Edit)(t:Tree):doE r e t=(if e.kind=0 then some t
  else if e.kind=1 then (if YF (Z4 e.old) (Z4 t)=true then some e.new else none)
  else if e.kind=2 then (if t.kind=1 then (wsD t.words e.words t.words).bind fun a=> (Z22 r t.kids e.kids t.kids).map fun b=> .mk 1 a b else none)
  else if e.kind=3 then (if t.kind=e.list then (Z1V (Ji r e.ops t.kids [])).map fun b=> .mk e.list [] b else none)
  else none).map (nrD r):=by cases e;rfl
noncomputable def Zkl(r:Bool)(e:Edit)(t:Tree):Option Tree:=
 if e.kind=0 then some t
 else if e.kind=1 then (if YF (Z4 e.old) (Z4 t)=true then some e.new else none)
 else if e.kind=2 then (if t.kind=1 then (wsD t.words e.words t.words).bind fun a=> (Z22 r t.kids e.kids t.kids).map fun b=> .mk 1 a b else none)
 else if e.kind=3 then (if t.kind=e.list then (Z1V (Ji r e.ops t.kids [])).map fun b=> .mk e.list [] b else none)
 else none
theorem ZcP(r:Bool)(e:Edit)(t:Tree):doE r e t=(Zkl r e t).map (nrD r):=Z41 r e t
theorem ZeI(r:Bool)(tk:List Tree)(k:Kid):Z3K r tk k=doE r k.e (tk.getD k.at_.toNat Tree.nil):=by cases k;rfl
theorem Z5m(r:Bool)(o:Op)(rest out:List Tree):ZeH r o rest out=if o.kind=0 then (if o.n.toNat≤rest.length then some (out++rest.take o.n.toNat,rest.drop o.n.toNat) else none)
  else if o.kind=1 then (if Z3J o.l rest=true then some (out,rest.drop o.l.length) else none)
  else if o.kind=2 then some (out++o.l,rest)
  else if rest.length=0 then none else (doE r o.e (rest.getD 0 Tree.nil)).map fun u=> (out++[u],rest.drop 1):=by cases o;rfl
noncomputable def Z2W(r:Bool)(e:Edit)(t:Tree):Option Tree:=
 if t.kind=1 then (wsD t.words e.words t.words).bind fun a=> (Z22 r t.kids e.kids t.kids).map fun b=> .mk 1 a b else none
noncomputable def Z0e(r:Bool)(e:Edit)(t:Tree):Option (List Tree × List Tree):=if t.kind=e.list then Ji r e.ops t.kids [] else none
def YG(o:Option Tree):Tree:=o.getD Tree.nil
def Zhc(e:Edit)(o:Option (List Tree × List Tree)):Tree:=match o with | some x=> .mk e.list [] x.1 | none=> Tree.nil
noncomputable def Zct(e:Edit)(t:Tree):Tree:=
 if e.kind=0 then t else if e.kind=1 then e.new else if e.kind=2 then YG (Z2W false e t) else if e.kind=3 then Zhc e (Z0e false e t) else Tree.nil
theorem Z2z(o:Option Tree):o.map (nrD false)=o:=by cases o <;> rfl
theorem ZaZ{e:Edit}{t u:Tree}(h:doE false e t=some u):Zct e t=u:=by
 rw [Z41,Z2z] at h
 unfold Zct
 split
 ·rename_i h0;rw [if_pos h0] at h;exact Option.some.inj h
 ·rename_i h0;rw [if_neg h0] at h
  split
  ·rename_i h1;rw [if_pos h1] at h
   split at h
   ·exact Option.some.inj h
   ·cases h
  ·rename_i h1;rw [if_neg h1] at h
   split
   ·rename_i h2;rw [if_pos h2] at h
    unfold YG Z2W
    rw [h];try rfl
   ·rename_i h2;rw [if_neg h2] at h
    split
    ·rename_i h3;rw [if_pos h3] at h
     unfold Zhc Z0e
     split at h
     ·rename_i h4;rw [if_pos h4]
      revert h
      cases Ji false e.ops t.kids [] with
      | none=> intro h;cases h
      | some x=>
       intro h
       simp only [Z1V,Option.bind_some] at h
       split at h
       ·exact Option.some.inj h
       ·cases h
     ·cases h
    ·rename_i h3;rw [if_neg h3] at h;cases h
end Go.AM
namespace Go.AM
structure Wst where
 out:List Op
 gone:List Tree
 brought:List Tree
def Z0F(out:List Op)(g b:List Tree):List Op:=
 out++((if g.length=0 then [] else [⟨1,0,g,Edit.nil⟩])++(if b.length=0 then [] else [⟨2,0,b,Edit.nil⟩]))
def Jj:List Op→Int→List Op
 | [],n=> [⟨0,n,[],Edit.nil⟩]
 | [o],n=> if o.kind=0 then [⟨o.kind,o.n+n,o.l,o.e⟩] else [o,⟨0,n,[],Edit.nil⟩]
 | o ::p ::r,n=> o ::Jj (p ::r) n
def Z3(w:Wst):Wst:=⟨Z0F w.out w.gone w.brought,[],[]⟩
def ZW(w:Wst)(n:Int):Wst:=⟨Jj (Z3 w).out n,[],[]⟩
mutual
def Zy:Edit→Edit
 | .mk k o n w ks l os=>
  if k=1 then .mk k (Z4 o) (Z4 n) [] [] l []
  else if k=2 then .mk k Tree.nil Tree.nil w (Ja ks) l []
  else if k=3 then .mk k Tree.nil Tree.nil [] [] l (Z3 (Zq l os ⟨[],[],[]⟩)).out
  else .mk k Tree.nil Tree.nil [] [] l []
def Ja:List (KidOf Edit)→List (KidOf Edit)
 | []=> []
 | k ::r=> Z20 k ::Ja r
def Z20:KidOf Edit→KidOf Edit
 | ⟨a,e⟩=> ⟨a,Zy e⟩
def Zq(list:Int):List (OpOf Edit)→Wst→Wst
 | [],s=> s
 | o ::r,s=> Zq list r (Z0k list o s)
def Z0k(list:Int):OpOf Edit→Wst→Wst
 | ⟨k,n,l,e⟩,s=>
  if k=0 then ZW s n
  else if k=1 then ⟨s.out,s.gone++Z8 l,s.brought⟩
  else if k=2 then ⟨s.out,s.gone,s.brought++Z8 l⟩
  else if k=3 then (if Z3I list (Zy e)=true then ZW s 1 else ⟨(Z3 s).out++[⟨3,0,[],Zy e⟩],[],[]⟩)
  else s
end
theorem Z9w(e:Edit):Zy e=if e.kind=1 then .mk e.kind (Z4 e.old) (Z4 e.new) [] [] e.list []
  else if e.kind=2 then .mk e.kind Tree.nil Tree.nil e.words (Ja e.kids) e.list []
  else if e.kind=3 then .mk e.kind Tree.nil Tree.nil [] [] e.list (Z3 (Zq e.list e.ops ⟨[],[],[]⟩)).out
  else .mk e.kind Tree.nil Tree.nil [] [] e.list []:=by cases e;rfl
theorem Zb4(k:Kid):Z20 k=⟨k.at_,Zy k.e⟩:=by cases k;rfl
theorem YR(list:Int)(o:Op)(s:Wst):Z0k list o s=if o.kind=0 then ZW s o.n
  else if o.kind=1 then ⟨s.out,s.gone++Z8 o.l,s.brought⟩
  else if o.kind=2 then ⟨s.out,s.gone,s.brought++Z8 o.l⟩
  else if o.kind=3 then (if Z3I list (Zy o.e)=true then ZW s 1 else ⟨(Z3 s).out++[⟨3,0,[],Zy o.e⟩],[],[]⟩)
  else s:=by cases o;rfl
theorem ZfP(list:Int):∀ (l:List Op) (s:Wst),Zq list l s=Zq list (l.drop (ZR l).toNat) ⟨s.out,s.gone++YO 1 l,s.brought++YO 2 l⟩
 | [],s=> by simp [Zq,YO,ZR]
 | o ::r,s=> by
  by_cases h:o.kind=1∨o.kind=2
  ·have hg:0≤ZR r:=gapN_nonneg r
   rw [ZR,if_pos h,YO,YO,if_pos h,if_pos h,show (1+ZR r).toNat=(ZR r).toNat+1 by omega,List.drop_succ_cons,Zq,YR,ZfP list r]
   rcases h with h | h
   ·rw [if_neg (by omega),if_pos h,if_pos h,if_neg (by omega)]
    simp
   ·rw [if_neg (by omega),if_neg (by omega),if_pos h,if_neg (by omega),if_pos h]
    simp
  ·rw [ZR,if_neg h,YO,YO,if_neg h,if_neg h]
   simp
where
 gapN_nonneg:∀ (l:List Op),0≤ZR l
  | []=> by simp [ZR]
  | o ::r=> by
   have:=gapN_nonneg r
   rw [ZR];split <;> omega
end Go.AM
namespace Go.AM.Ytpjenobkibfpcaa
open Go.AM Go.Proofs
theorem Zoj(l:List Int):trim (trim l)=trim l:=by
 induction l with
 | nil=> rfl
 | cons x r ih=>
  rw [Z2v]
  split
  ·try rfl
  ·rename_i h
   rw [Z2v,ih,if_neg h]
theorem ZjW(l:List Tree):Yi (Yi l)=Yi l:=by
 induction l with
 | nil=> rfl
 | cons x r ih=>
  rw [JT]
  split
  ·try rfl
  ·rename_i h
   rw [JT,ih,if_neg h]
def Normed:List Tree→Prop
 | []=> True
 | t ::r=> Z4 t=t∧Normed r
theorem Normed.eq:∀ {l:List Tree},Normed l→Yf l=l
 | [],_=> rfl
 | t ::r,h=> by simp only [Yf,h.1,Normed.eq h.2]
theorem Normed.trim:∀ {l:List Tree},Normed l→Normed (Yi l)
 | [],_=> trivial
 | t ::r,h=> by
  rw [JT]
  split
  ·trivial
  ·exact ⟨h.1,Normed.trim h.2⟩
mutual
theorem Z8x:∀ (t:Tree),Z4 (Z4 t)=Z4 t
 | .mk k w ks=> by
  have h:=Z9y ks
  by_cases h0:k=0
  ·simp [Z4,h0,Tree.nil]
  ·by_cases h1:k=1
   ·subst h1
    simp only [Z4,if_neg h0,if_true,Zoj,h.trim.eq,ZjW]
   ·simp only [Z4,if_neg h0,if_neg h1,h.eq]
theorem Z9y:∀ (ks:List Tree),Normed (Yf ks)
 | []=> trivial
 | t ::r=> ⟨Z8x t,Z9y r⟩
end
end Go.AM.Ytpjenobkibfpcaa
namespace Go.AM.Ytpjenobkibfpcaa
open Go.AM Go.Proofs
noncomputable section
abbrev Z0v(p:Prop):Prop:=p→p
noncomputable section
def ZnB:ArgL (List Tree × Unit):=(.cons (aSl .tree) .nil)
def ZaQ(a:List Tree × Unit):Prop:=Zf a.1≤20000000000
def Zr5(a:List Tree × Unit):V U:= .c (sU .tree (Z8 a.1) .unk)
def Z8X:Fs U:=fs ZnB (fun a=> [ZaQ a]) Zr5
def ZnS:ArgL (List Op × Int × Int × Unit):=(.cons (aSl .op) (.cons (JI .i64) (.cons (JI .i64) .nil)))
def Z5d(a:List Op × Int × Int × Unit):Prop:=Zh a.1≤20000000000∧0≤a.2.1∧a.2.1≤(a.1).length
def Zkc(a:List Op × Int × Int × Unit):V U:= .tup [(false,[sU .tree (YO a.2.2.1 ((a.1).drop (a.2.1).toNat)) .unk]),(false,[ci (a.2.1+ZR ((a.1).drop (a.2.1).toNat))])]
def Z6S:Fs U:=fs ZnS (fun a=> [Z5d a]) Zkc
def ZcU:ArgL (Edit × Unit):=(.cons (aEl .edit) .nil)
def Z12(a:Edit × Unit):Prop:=Z5 a.1≤20000000000
def Z6h(a:Edit × Unit):Nat:=2*Z5 a.1
def ZdH(a:Edit × Unit):V U:= .agg (enc .edit (Zv a.1))
def Z92:Fs U:=fs ZcU (fun a=> [Z12 a]) ZdH
def ZcQ:ArgL (Op × Unit):=(.cons (aEl .op) .nil)
def Z63(a:Op × Unit):Prop:=Zs a.1≤20000000000
def ZbX(a:Op × Unit):Nat:=2*Zs a.1+1
def Z5Z(a:Op × Unit):V U:= .agg (enc .op (YK a.1))
def ZlL:Fs U:=fs ZcQ (fun a=> [Z63 a]) Z5Z
def Z1E:List (FuncId × Fs U):=[(45,Z0b)]
def Z9I:Zj U:=fun i=> match i with
 | 0=> ([(0,[])],[])
 | 1=> ([(0,[]),(3,[])],[])
 | 2=> ([(0,[]),(3,[.own .tree]),(4,[])],[])
 | 3=> ([(0,[]),(3,[]),(4,[]),(8,[])],[])
 | 4=> ([(0,[]),(3,[.own .tree]),(4,[])],[])
 | 5=> ([(0,[]),(3,[]),(4,[])],[])
 | 6=> ([(2,[])],[])
 | _=> ([],[])
def Z2H(l:List Tree)(x4:Int)(x3:List Tree):LSt U:=(L2 [(0,.c (sU .tree l .unk)),(3,.c (sU .tree x3 (.own (.e 3 0)))),(4,.c (ci x4))] [])
abbrev ZBJ(l:List Tree)(Q:QT):=AW (Z1 Z1E) Try.f152 Z9I [] (L2 [(0,.c (sU .tree l .unk))] []) Q
abbrev Zln:=awp cfg (Z1 Z1E) (ZS cfg (Z1 Z1E)) Try.f152.ntmps Z9I
abbrev Zk1:=ZaF cfg (Z1 Z1E) (ZS cfg (Z1 Z1E)) Try.f152.ntmps Z9I
theorem ZAM(l:List Tree)(Q:QT)(h:Ze (AW (Z1 Z1E) Try.f152 Z9I [1,1,0,1,0,0]) (Z2H l 0 []) (xB 0 (SW (Z1 Z1E) Try.f152 Z9I [1,1,1] Q))):
  ZBJ l Q:=by
 have e_:(ZBJ l Q)=(Ze (Zln (cd Try.f152 [1,1,0,1,0,0])) (Z2H l 0 []) (xB 0 (Zk1 (cd Try.f152 [1,1,1]) Q))):=by kernel_rfl
 exact e_.mpr h
abbrev Zo2(l:List Tree)(x4:Int)(x3:List Tree)(N0:NT)(Q:QT):=AW (Z1 Z1E) Try.f152 Z9I [1,1,0,1,0,0] (Z2H l x4 x3) (xT N0 (xB 0 (SW (Z1 Z1E) Try.f152 Z9I [1,1,1] Q)))
theorem ZpS(l:List Tree)(x4:Int)(x3:List Tree)(N0:NT)(Q:QT)(h:((decide (x4 < (l.length:Int)))=true→((0:Int)≤x4∧x4 < (l.length:Int))∧(Jy ((Tree.mk (Tree.kind (l.getD x4.toNat Tree.nil)) (Tree.words (l.getD x4.toNat Tree.nil)) (Tree.kids (l.getD x4.toNat Tree.nil))),()))∧((x3.length+([(Tree.mk (Tree.kind (Z4 (Tree.mk (Tree.kind (l.getD x4.toNat Tree.nil)) (Tree.words (l.getD x4.toNat Tree.nil)) (Tree.kids (l.getD x4.toNat Tree.nil))))) (Tree.words (Z4 (Tree.mk (Tree.kind (l.getD x4.toNat Tree.nil)) (Tree.words (l.getD x4.toNat Tree.nil)) (Tree.kids (l.getD x4.toNat Tree.nil))))) (Tree.kids (Z4 (Tree.mk (Tree.kind (l.getD x4.toNat Tree.nil)) (Tree.words (l.getD x4.toNat Tree.nil)) (Tree.kids (l.getD x4.toNat Tree.nil))))))]).length)*56≤140737488355328)∧((InR (x4+1))∧(N0 (Z2H l (x4+1) (x3++([(Tree.mk (Tree.kind (Z4 (Tree.mk (Tree.kind (l.getD x4.toNat Tree.nil)) (Tree.words (l.getD x4.toNat Tree.nil)) (Tree.kids (l.getD x4.toNat Tree.nil))))) (Tree.words (Z4 (Tree.mk (Tree.kind (l.getD x4.toNat Tree.nil)) (Tree.words (l.getD x4.toNat Tree.nil)) (Tree.kids (l.getD x4.toNat Tree.nil))))) (Tree.kids (Z4 (Tree.mk (Tree.kind (l.getD x4.toNat Tree.nil)) (Tree.words (l.getD x4.toNat Tree.nil)) (Tree.kids (l.getD x4.toNat Tree.nil))))))]))))))∧((decide (x4 < (l.length:Int)))=false→Q .ret (L2 [(2,.c (sU .tree x3 (.own (.e 2 0))))] []))):
  Zo2 l x4 x3 N0 Q:=by
 have e_:(Zo2 l x4 x3 N0 Q)=(((decide ((x4:Int) < (l.length:Int)))=true→((0:Int)≤x4∧x4 < (l.length:Int))∧(Jy ((Tree.mk (Tree.kind (l.getD x4.toNat Tree.nil)) (Tree.words (l.getD x4.toNat Tree.nil)) (Tree.kids (l.getD x4.toNat Tree.nil))),()))∧((x3.length+([(Tree.mk (Tree.kind (Z4 (Tree.mk (Tree.kind (l.getD x4.toNat Tree.nil)) (Tree.words (l.getD x4.toNat Tree.nil)) (Tree.kids (l.getD x4.toNat Tree.nil))))) (Tree.words (Z4 (Tree.mk (Tree.kind (l.getD x4.toNat Tree.nil)) (Tree.words (l.getD x4.toNat Tree.nil)) (Tree.kids (l.getD x4.toNat Tree.nil))))) (Tree.kids (Z4 (Tree.mk (Tree.kind (l.getD x4.toNat Tree.nil)) (Tree.words (l.getD x4.toNat Tree.nil)) (Tree.kids (l.getD x4.toNat Tree.nil))))))]).length)*56≤140737488355328)∧((InR ((x4:Int)+1))∧(N0 (Z2H l ((x4:Int)+1) (x3++([(Tree.mk (Tree.kind (Z4 (Tree.mk (Tree.kind (l.getD x4.toNat Tree.nil)) (Tree.words (l.getD x4.toNat Tree.nil)) (Tree.kids (l.getD x4.toNat Tree.nil))))) (Tree.words (Z4 (Tree.mk (Tree.kind (l.getD x4.toNat Tree.nil)) (Tree.words (l.getD x4.toNat Tree.nil)) (Tree.kids (l.getD x4.toNat Tree.nil))))) (Tree.kids (Z4 (Tree.mk (Tree.kind (l.getD x4.toNat Tree.nil)) (Tree.words (l.getD x4.toNat Tree.nil)) (Tree.kids (l.getD x4.toNat Tree.nil))))))]))))))∧((decide ((x4:Int) < (l.length:Int)))=false→(Q .ret (L2 [(2,.c (sU .tree x3 (.own (.e 2 0))))] [])))):=by kernel_rfl
 exact e_.mpr ⟨fun c_1=> ⟨(h.1 c_1).1,(h.1 c_1).2.1,(h.1 c_1).2.2.1,⟨(h.1 c_1).2.2.2.1,(h.1 c_1).2.2.2.2⟩⟩,fun c_1=> (h.2 c_1)⟩
def Zw7(l:List Tree):Prop:=AW (Z1 Z1E) Try.f152 Z9I [] (Zk (ZnB.can (l,())) []) (EQ Try.f152 (Zr5 (l,())) [])
theorem ZuR(c45:CT 45 Z0b)(hb:∀ (l:List Tree) (_:Unit),ZaQ (l,())→Zw7 l):CT 152 Z8X:=
 Z7 (l:=[(45,Z0b)]) Zm rfl (⟨c45,trivial⟩) Z9I Try.func152 rfl rfl 1 (fun _=> rfl) (by decide) (fun ⟨l,_⟩=> hb l ())
def Z1G:List (FuncId × Fs U):=[(152,Z8X)]
def Z9K:Zj U:=fun i=> match i with
 | 0=> ([(0,[]),(1,[]),(2,[])],[])
 | 1=> ([(0,[]),(1,[]),(2,[]),(8,[])],[])
 | 2=> ([(0,[]),(2,[]),(8,[.own .tree]),(9,[])],[])
 | 3=> ([(0,[]),(2,[]),(8,[]),(9,[]),(30,[])],[])
 | 4=> ([(0,[]),(2,[]),(8,[]),(9,[]),(37,[])],[])
 | 5=> ([(0,[]),(2,[]),(8,[]),(9,[])],[])
 | 6=> ([(0,[]),(2,[]),(8,[.own .tree]),(9,[])],[])
 | 7=> ([(6,[]),(7,[])],[])
 | _=> ([],[])
def Z0S(l:List Op)(from_ kind x9:Int)(x8:List Tree):LSt U:=(L2 [(0,.c (sU .op l .unk)),(2,.c (ci kind)),(8,.c (sU .tree x8 (.own (.e 8 0)))),(9,.c (ci x9))] [])
abbrev ZBQ(l:List Op)(from_ kind:Int)(Q:QT):=AW (Z1 Z1G) Try.f110 Z9K [] (L2 [(0,.c (sU .op l .unk)),(1,.c (ci from_)),(2,.c (ci kind))] []) Q
abbrev Zlp:=awp cfg (Z1 Z1G) (ZS cfg (Z1 Z1G)) Try.f110.ntmps Z9K
abbrev Zk3:=ZaF cfg (Z1 Z1G) (ZS cfg (Z1 Z1G)) Try.f110.ntmps Z9K
theorem ZBe(l:List Op)(from_ kind:Int)(Q:QT)(h:Ze (AW (Z1 Z1G) Try.f110 Z9K [1,1,1,0,0,0]) (Z0S l from_ kind from_ []) (xB 0 (SW (Z1 Z1G) Try.f110 Z9K [1,1,1,1] Q))):
  ZBQ l from_ kind Q:=by
 have e_:(ZBQ l from_ kind Q)=(Ze (Zlp (cd Try.f110 [1,1,1,0,0,0])) (Z0S l from_ kind from_ []) (xB 0 (Zk3 (cd Try.f110 [1,1,1,1]) Q))):=by kernel_rfl
 exact e_.mpr h
abbrev Zob(l:List Op)(from_ kind x9:Int)(x8:List Tree)(N0:NT)(Q:QT):=AW (Z1 Z1G) Try.f110 Z9K [1,1,1,0,0,0] (Z0S l from_ kind x9 x8) (xT N0 (xB 0 (SW (Z1 Z1G) Try.f110 Z9K [1,1,1,1] Q)))
theorem Zqj(l:List Op)(from_ kind x9:Int)(x8:List Tree)(N0:NT)(Q:QT)(h:∀ y_1,y_1=(l.getD x9.toNat Op.nil)→((decide (x9 < (l.length:Int)))=true→(0:Int)≤x9∧x9 < (l.length:Int))∧(((decide (x9 < (l.length:Int))) && (!(y_1.kind==1)))=true→(0:Int)≤x9∧x9 < (l.length:Int))∧(((bif (decide (x9 < (l.length:Int))) then (bif (y_1.kind==1) then true else (y_1.kind==2)) else false)=true→((0:Int)≤x9∧x9 < (l.length:Int))∧(((y_1.kind==kind)=true→((0:Int)≤x9∧x9 < (l.length:Int))∧(ZaQ (y_1.l,()))∧((x8.length+(Z8 y_1.l).length)*56≤140737488355328)∧((InR (x9+1))∧(N0 (Z0S l from_ kind (x9+1) (x8++(Z8 y_1.l))))))∧((y_1.kind==kind)=false→(InR (x9+1))∧(N0 (Z0S l from_ kind (x9+1) x8)))))∧((bif (decide (x9 < (l.length:Int))) then (bif (y_1.kind==1) then true else (y_1.kind==2)) else false)=false→Q .ret (L2 [(6,.c (sU .tree x8 (.own (.e 6 0)))),(7,.c (ci x9))] [])))):
  Zob l from_ kind x9 x8 N0 Q:=by
 have e_:(Zob l from_ kind x9 x8 N0 Q)=(let y_1:=(l.getD x9.toNat Op.nil);let zz1:=(y_1.kind==1);let zz0:=(decide ((x9:Int) < (l.length:Int)));(Z0v (zz0=true))∧(Z0v (zz0=true))∧(zz0=true→(0:Int)≤x9∧x9 < (l.length:Int))∧(Z0v (zz0=true))∧(Z0v (zz0=true))∧(Z0v (zz0=true))∧(Z0v (zz0=true))∧(Z0v ((zz0 && (!zz1))=true))∧(Z0v ((zz0 && (!zz1))=true))∧((zz0 && (!zz1))=true→(0:Int)≤x9∧x9 < (l.length:Int))∧(Z0v ((zz0 && (!zz1))=true))∧(Z0v ((zz0 && (!zz1))=true))∧(Z0v ((zz0 && (!zz1))=true))∧(zz0=true→(True→zz0=true))∧(zz0=true→(zz1=false→(zz0 && (!zz1))=true))∧(Z0v (zz0=true))∧(((bif zz0 then (bif zz1 then true else (y_1.kind==2)) else false)=true→((0:Int)≤x9∧x9 < (l.length:Int))∧(((y_1.kind==kind)=true→((0:Int)≤x9∧x9 < (l.length:Int))∧(ZaQ (y_1.l,()))∧((x8.length+(Z8 y_1.l).length)*56≤140737488355328)∧((InR ((x9:Int)+1))∧(N0 (Z0S l from_ kind ((x9:Int)+1) (x8++(Z8 y_1.l))))))∧((y_1.kind==kind)=false→(InR ((x9:Int)+1))∧(N0 (Z0S l from_ kind ((x9:Int)+1) x8)))))∧((bif zz0 then (bif zz1 then true else (y_1.kind==2)) else false)=false→(Q .ret (L2 [(6,.c (sU .tree x8 (.own (.e 6 0)))),(7,.c (ci x9))] []))))):=by kernel_rfl
 exact e_.mpr (by intro y_1;have hh:=h y_1 rfl;exact ⟨id,id,hh.1,id,id,id,id,id,id,hh.2.1,id,id,id,(by generalize (decide ((x9:Int) < (l.length:Int)))=b0;revert b0;decide),(by generalize ((y_1.kind:Int)==1)=b0;generalize (decide ((x9:Int) < (l.length:Int)))=b1;revert b0 b1;decide),(by generalize (decide ((x9:Int) < (l.length:Int)))=b0;revert b0;decide),⟨fun c_2=> ⟨(hh.2.2.1 c_2).1,⟨fun c_3=> ⟨((hh.2.2.1 c_2).2.1 c_3).1,((hh.2.2.1 c_2).2.1 c_3).2.1,((hh.2.2.1 c_2).2.1 c_3).2.2.1,⟨((hh.2.2.1 c_2).2.1 c_3).2.2.2.1,((hh.2.2.1 c_2).2.1 c_3).2.2.2.2⟩⟩,fun c_3=> ⟨((hh.2.2.1 c_2).2.2 c_3).1,((hh.2.2.1 c_2).2.2 c_3).2⟩⟩⟩,fun c_2=> (hh.2.2.2 c_2)⟩⟩)
def Zwz(l:List Op)(from_ kind:Int):Prop:=AW (Z1 Z1G) Try.f110 Z9K [] (Zk (ZnS.can (l,from_,kind,())) []) (EQ Try.f110 (Zkc (l,from_,kind,())) [])
theorem Zvc(Zz2:CT 152 Z8X)(hb:∀ (l:List Op) (from_:Int) (kind:Int) (_:Unit),Z5d (l,from_,kind,())→Zwz l from_ kind):CT 110 Z6S:=
 Z7 (l:=[(152,Z8X)]) Zm rfl (⟨Zz2,trivial⟩) Z9K Try.func110 rfl rfl 3 (fun _=> rfl) (by decide) (fun ⟨l,from_,kind,_⟩=> hb l from_ kind ())
def J7(N:Nat):List (FuncId × Fs U):=(118,fs ZcU (fun a=> [Z12 a,Z6h a < N]) ZdH) ::(163,fs ZcQ (fun a=> [Z63 a,ZbX a < N]) Z5Z) ::[]
def Z1R:Zj U:=fun i=> match i with
 | 0=> ([(1,[]),(2,[])],[(.loc 1,[]),(.loc 2,[])])
 | 1=> ([(1,[]),(2,[]),(3,[])],[(.loc 1,[]),(.loc 2,[]),(.loc 3,[])])
 | 2=> ([(1,[]),(2,[]),(3,[]),(20,[]),(21,[]),(22,[])],[(.loc 1,[]),(.loc 2,[]),(.loc 3,[.any,.any,.any,.any,.any,.any,.any,.own .wedit])])
 | 3=> ([(1,[]),(2,[]),(3,[]),(20,[]),(21,[]),(22,[]),(23,[])],[(.loc 1,[]),(.loc 2,[]),(.loc 3,[])])
 | 4=> ([(1,[]),(2,[]),(3,[]),(5,[]),(20,[]),(21,[]),(22,[])],[(.loc 1,[]),(.loc 2,[]),(.loc 3,[]),(.loc 5,[])])
 | 5=> ([(1,[]),(2,[]),(3,[]),(20,[]),(21,[]),(22,[])],[(.loc 1,[]),(.loc 2,[]),(.loc 3,[])])
 | 6=> ([(1,[]),(2,[]),(3,[]),(20,[]),(21,[]),(22,[])],[(.loc 1,[]),(.loc 2,[]),(.loc 3,[.any,.any,.any,.any,.any,.any,.any,.own .wedit])])
 | 7=> ([(1,[]),(2,[]),(3,[]),(42,[]),(43,[]),(44,[])],[(.loc 1,[]),(.loc 2,[]),(.loc 3,[.any,.any,.any,.any,.any,.any,.any,.any,.own .kid])])
 | 8=> ([(1,[]),(2,[]),(3,[]),(42,[]),(43,[]),(44,[]),(45,[])],[(.loc 1,[]),(.loc 2,[]),(.loc 3,[])])
 | 9=> ([(1,[]),(2,[]),(3,[]),(7,[]),(42,[]),(43,[]),(44,[])],[(.loc 1,[]),(.loc 2,[]),(.loc 3,[]),(.loc 7,[])])
 | 10=> ([(1,[]),(2,[]),(3,[]),(42,[]),(43,[]),(44,[])],[(.loc 1,[]),(.loc 2,[]),(.loc 3,[])])
 | 11=> ([(1,[]),(2,[]),(3,[]),(42,[]),(43,[]),(44,[])],[(.loc 1,[]),(.loc 2,[]),(.loc 3,[.any,.any,.any,.any,.any,.any,.any,.any,.own .kid])])
 | 12=> ([(2,[]),(3,[]),(61,[]),(62,[]),(63,[])],[(.loc 2,[]),(.loc 3,[.any,.any,.any,.any,.any,.any,.any,.any,.any,.any,.own .op])])
 | 13=> ([(2,[]),(3,[]),(61,[]),(62,[]),(63,[]),(64,[])],[(.loc 2,[]),(.loc 3,[])])
 | 14=> ([(2,[]),(3,[]),(9,[]),(61,[]),(62,[]),(63,[])],[(.loc 2,[]),(.loc 3,[]),(.loc 9,[])])
 | 15=> ([(2,[]),(3,[]),(61,[]),(62,[]),(63,[])],[(.loc 2,[]),(.loc 3,[])])
 | 16=> ([(2,[]),(3,[]),(61,[]),(62,[]),(63,[])],[(.loc 2,[]),(.loc 3,[.any,.any,.any,.any,.any,.any,.any,.any,.any,.any,.own .op])])
 | 17=> ([(2,[])],[(.loc 2,[])])
 | _=> ([],[])
def Z2Q(e:Edit)(x22:Int)(ml3_7:List WEdit):LSt U:=(L2 [(1,.ptr (.loc 1) 0),(2,.ptr (.loc 2) 0),(3,.ptr (.loc 3) 0),(20,.c (sU .wedit e.words .unk)),(21,.c (ci (e.words.length:Int))),(22,.c (ci x22))] [(.loc 1,(enc .edit e)),(.loc 2,zc1),(.loc 3,([ci e.kind]++enc .tree e.new++enc .tree e.old++[sU .wedit ml3_7 (.own (.l 3 7)),.nils,ci e.list,.nils]))])
def Z2P(e:Edit)(ml3_7:List WEdit)(x44_a:Int)(ml3_8_a:List Kid):LSt U:=(L2 [(1,.ptr (.loc 1) 0),(2,.ptr (.loc 2) 0),(3,.ptr (.loc 3) 0),(42,.c (sU .kid e.kids .unk)),(43,.c (ci (e.kids.length:Int))),(44,.c (ci x44_a))] [(.loc 1,(enc .edit e)),(.loc 2,zc1),(.loc 3,([ci e.kind]++enc .tree e.new++enc .tree e.old++[sU .wedit ml3_7 (.own (.l 3 7)),sU .kid ml3_8_a (.own (.l 3 8)),ci e.list,.nils]))])
def Z2O(e:Edit)(ml3_7:List WEdit)(ml3_8_a:List Kid)(x63_b:Int)(ml3_10_b:List Op):LSt U:=(L2 [(2,.ptr (.loc 2) 0),(3,.ptr (.loc 3) 0),(61,.c (sU .op e.ops .unk)),(62,.c (ci (e.ops.length:Int))),(63,.c (ci x63_b))] [(.loc 2,zc1),(.loc 3,([ci e.kind]++enc .tree e.new++enc .tree e.old++[sU .wedit ml3_7 (.own (.l 3 7)),sU .kid ml3_8_a (.own (.l 3 8)),ci e.list,sU .op ml3_10_b (.own (.l 3 10))]))])
abbrev ZBP(N:Nat)(e:Edit)(Q:QT):=AW (Z1 (J7 N)) Try.f118 Z1R [] (L2 [(0,.agg (enc .edit e))] []) Q
abbrev Z8J(N:Nat):=awp cfg (Z1 (J7 N)) (ZS cfg (Z1 (J7 N))) Try.f118.ntmps Z1R
abbrev Z8c(N:Nat):=ZaF cfg (Z1 (J7 N)) (ZS cfg (Z1 (J7 N))) Try.f118.ntmps Z1R
theorem ZBc(N:Nat)(e:Edit)(Q:QT)(h:Ze (AW (Z1 (J7 N)) Try.f118 Z1R [1,1,0,1,0,0]) (Z2Q e 0 []) (xB 0 (SW (Z1 (J7 N)) Try.f118 Z1R [1,1,1] Q))):
  ZBP N e Q:=by
 have e_:(ZBP N e Q)=(Ze (Z8J N (cd Try.f118 [1,1,0,1,0,0])) (Z2Q e 0 []) (xB 0 (Z8c N (cd Try.f118 [1,1,1]) Q))):=by kernel_rfl
 exact e_.mpr h
abbrev Zoa(N:Nat)(e:Edit)(x22:Int)(ml3_7:List WEdit)(N0:NT)(Q:QT):=AW (Z1 (J7 N)) Try.f118 Z1R [1,1,0,1,0,0] (Z2Q e x22 ml3_7) (xT N0 (xB 0 (SW (Z1 (J7 N)) Try.f118 Z1R [1,1,1] Q)))
theorem Zqi(N:Nat)(e:Edit)(x22:Int)(ml3_7:List WEdit)(N0:NT)(Q:QT)(h:((decide (x22 < (e.words.length:Int)))=true→((0:Int)≤x22∧x22 < (e.words.length:Int))∧(((ml3_7.length+([(WEdit.mk (WEdit.at_ (e.words.getD x22.toNat (WEdit.mk 0 0 0 0))) (WEdit.mask (e.words.getD x22.toNat (WEdit.mk 0 0 0 0))) (WEdit.new (e.words.getD x22.toNat (WEdit.mk 0 0 0 0))) (WEdit.old (e.words.getD x22.toNat (WEdit.mk 0 0 0 0))))]).length)*32≤140737488355328)∧((InR (x22+1))∧(N0 (Z2Q e (x22+1) (ml3_7++([(WEdit.mk (WEdit.at_ (e.words.getD x22.toNat (WEdit.mk 0 0 0 0))) (WEdit.mask (e.words.getD x22.toNat (WEdit.mk 0 0 0 0))) (WEdit.new (e.words.getD x22.toNat (WEdit.mk 0 0 0 0))) (WEdit.old (e.words.getD x22.toNat (WEdit.mk 0 0 0 0))))])))))))∧((decide (x22 < (e.words.length:Int)))=false→Ze (AW (Z1 (J7 N)) Try.f118 Z1R [1,1,1,0,1,0,0]) (Z2P e ml3_7 0 []) (xB 2 (SW (Z1 (J7 N)) Try.f118 Z1R [1,1,1,1] Q)))):
  Zoa N e x22 ml3_7 N0 Q:=by
 have e_:(Zoa N e x22 ml3_7 N0 Q)=(let zz0:=(decide ((x22:Int) < (e.words.length:Int)));((zz0=true→((0:Int)≤x22∧x22 < (e.words.length:Int))∧(((ml3_7.length+([(WEdit.mk (WEdit.at_ (e.words.getD x22.toNat (WEdit.mk 0 0 0 0))) (WEdit.mask (e.words.getD x22.toNat (WEdit.mk 0 0 0 0))) (WEdit.new (e.words.getD x22.toNat (WEdit.mk 0 0 0 0))) (WEdit.old (e.words.getD x22.toNat (WEdit.mk 0 0 0 0))))]).length)*32≤140737488355328)∧((InR ((x22:Int)+1))∧(N0 (Z2Q e ((x22:Int)+1) (ml3_7++([(WEdit.mk (WEdit.at_ (e.words.getD x22.toNat (WEdit.mk 0 0 0 0))) (WEdit.mask (e.words.getD x22.toNat (WEdit.mk 0 0 0 0))) (WEdit.new (e.words.getD x22.toNat (WEdit.mk 0 0 0 0))) (WEdit.old (e.words.getD x22.toNat (WEdit.mk 0 0 0 0))))])))))))∧(zz0=false→(Ze (Z8J N (cd Try.f118 [1,1,1,0,1,0,0])) (Z2P e ml3_7 0 []) (xB 2 (Z8c N (cd Try.f118 [1,1,1,1]) Q)))))):=by kernel_rfl
 exact e_.mpr ⟨fun c_7=> ⟨(h.1 c_7).1,⟨(h.1 c_7).2.1,⟨(h.1 c_7).2.2.1,(h.1 c_7).2.2.2⟩⟩⟩,fun c_7=> (h.2 c_7)⟩
abbrev Zo9(N:Nat)(e:Edit)(ml3_7:List WEdit)(x44_a:Int)(ml3_8_a:List Kid)(N1:NT)(Q:QT):=AW (Z1 (J7 N)) Try.f118 Z1R [1,1,1,0,1,0,0] (Z2P e ml3_7 x44_a ml3_8_a) (xT N1 (xB 2 (SW (Z1 (J7 N)) Try.f118 Z1R [1,1,1,1] Q)))
theorem Zqh(N:Nat)(e:Edit)(ml3_7:List WEdit)(x44_a:Int)(ml3_8_a:List Kid)(N1:NT)(Q:QT)(h:∀ y_1,y_1=(e.kids.getD x44_a.toNat (KidOf.mk 0 Edit.nil))→∀ y_2,y_2=(y_1.e)→∀ y_3,y_3=(Zv y_2)→((decide (x44_a < (e.kids.length:Int)))=true→((0:Int)≤x44_a∧x44_a < (e.kids.length:Int))∧((Z12 (y_2,()))∧(Z6h (y_2,()) < N)∧((ml3_8_a.length+([(KidOf.mk y_1.at_ y_3:Kid)]).length)*208≤140737488355328)∧((InR (x44_a+1))∧(N1 (Z2P e ml3_7 (x44_a+1) (ml3_8_a++([(KidOf.mk y_1.at_ y_3:Kid)])))))))∧((decide (x44_a < (e.kids.length:Int)))=false→Ze (AW (Z1 (J7 N)) Try.f118 Z1R [1,1,1,1,0,1,0,0]) (Z2O e ml3_7 ml3_8_a 0 []) (xB 4 (SW (Z1 (J7 N)) Try.f118 Z1R [1,1,1,1,1] Q)))):
  Zo9 N e ml3_7 x44_a ml3_8_a N1 Q:=by
 have e_:(Zo9 N e ml3_7 x44_a ml3_8_a N1 Q)=(let y_1:=(e.kids.getD x44_a.toNat (KidOf.mk 0 Edit.nil));let y_2:=(Yx y_1.e);let y_3:=(Yx (Zv y_2));let zz0:=(decide ((x44_a:Int) < (e.kids.length:Int)));((zz0=true→((0:Int)≤x44_a∧x44_a < (e.kids.length:Int))∧((Z12 (y_2,()))∧(Z6h (y_2,()) < N)∧((ml3_8_a.length+([(KidOf.mk y_1.at_ y_3:Kid)]).length)*208≤140737488355328)∧((InR ((x44_a:Int)+1))∧(N1 (Z2P e ml3_7 ((x44_a:Int)+1) (ml3_8_a++([(KidOf.mk y_1.at_ y_3:Kid)])))))))∧(zz0=false→(Ze (Z8J N (cd Try.f118 [1,1,1,1,0,1,0,0])) (Z2O e ml3_7 ml3_8_a 0 []) (xB 4 (Z8c N (cd Try.f118 [1,1,1,1,1]) Q)))))):=by kernel_rfl
 exact e_.mpr (by intro y_1 y_2 y_3;have hh:=h y_1 rfl y_2 (Z9 _) y_3 (Z9 _);exact ⟨fun c_8=> ⟨(hh.1 c_8).1,⟨(hh.1 c_8).2.1,(hh.1 c_8).2.2.1,(hh.1 c_8).2.2.2.1,⟨(hh.1 c_8).2.2.2.2.1,(hh.1 c_8).2.2.2.2.2⟩⟩⟩,fun c_8=> (hh.2 c_8)⟩)
abbrev Zo8(N:Nat)(e:Edit)(ml3_7:List WEdit)(ml3_8_a:List Kid)(x63_b:Int)(ml3_10_b:List Op)(N2:NT)(Q:QT):=AW (Z1 (J7 N)) Try.f118 Z1R [1,1,1,1,0,1,0,0] (Z2O e ml3_7 ml3_8_a x63_b ml3_10_b) (xT N2 (xB 4 (SW (Z1 (J7 N)) Try.f118 Z1R [1,1,1,1,1] Q)))
theorem Zqg(N:Nat)(e:Edit)(ml3_7:List WEdit)(ml3_8_a:List Kid)(x63_b:Int)(ml3_10_b:List Op)(N2:NT)(Q:QT)(h:∀ y_1,y_1=(e.ops.getD x63_b.toNat Op.nil)→∀ y_2,y_2=y_1→∀ y_3,y_3=(YK y_2)→((decide (x63_b < (e.ops.length:Int)))=true→((0:Int)≤x63_b∧x63_b < (e.ops.length:Int))∧((Z63 (y_2,()))∧(ZbX (y_2,()) < N)∧((ml3_10_b.length+([y_3]).length)*240≤140737488355328)∧((InR (x63_b+1))∧(N2 (Z2O e ml3_7 ml3_8_a (x63_b+1) (ml3_10_b++([y_3])))))))∧((decide (x63_b < (e.ops.length:Int)))=false→Q .ret (L2 [(2,.ptr (.loc 2) 0)] [(.loc 2,([ci e.kind]++enc .tree e.new++enc .tree e.old++[sU .wedit ml3_7 (.own (.l 2 7)),sU .kid ml3_8_a (.own (.l 2 8)),ci e.list,sU .op ml3_10_b (.own (.l 2 10))]))]))):
  Zo8 N e ml3_7 ml3_8_a x63_b ml3_10_b N2 Q:=by
 have e_:(Zo8 N e ml3_7 ml3_8_a x63_b ml3_10_b N2 Q)=(let y_1:=(e.ops.getD x63_b.toNat Op.nil);let y_2:=(ZoG y_1);let y_3:=(ZoG (YK y_2));let zz0:=(decide ((x63_b:Int) < (e.ops.length:Int)));((zz0=true→((0:Int)≤x63_b∧x63_b < (e.ops.length:Int))∧((Z63 (y_2,()))∧(ZbX (y_2,()) < N)∧((ml3_10_b.length+([y_3]).length)*240≤140737488355328)∧((InR ((x63_b:Int)+1))∧(N2 (Z2O e ml3_7 ml3_8_a ((x63_b:Int)+1) (ml3_10_b++([y_3])))))))∧(zz0=false→(Q .ret (L2 [(2,.ptr (.loc 2) 0)] [(.loc 2,([ci e.kind]++enc .tree e.new++enc .tree e.old++[sU .wedit ml3_7 (.own (.l 2 7)),sU .kid ml3_8_a (.own (.l 2 8)),ci e.list,sU .op ml3_10_b (.own (.l 2 10))]))]))))):=by kernel_rfl
 exact e_.mpr (by intro y_1 y_2 y_3;have hh:=h y_1 rfl y_2 (J6 _) y_3 (J6 _);exact ⟨fun c_9=> ⟨(hh.1 c_9).1,⟨(hh.1 c_9).2.1,(hh.1 c_9).2.2.1,(hh.1 c_9).2.2.2.1,⟨(hh.1 c_9).2.2.2.2.1,(hh.1 c_9).2.2.2.2.2⟩⟩⟩,fun c_9=> (hh.2 c_9)⟩)
def Zwx(N:Nat)(e:Edit):Prop:=AW (Z1 (J7 N)) Try.f118 Z1R [] (Zk (ZcU.can (e,())) []) (EQ Try.f118 (ZdH (e,())) [])
abbrev Zxw:Prop:=∀ (N:Nat) (e:Edit) (_:Unit),Z12 (e,())→Z6h (e,()) < N+1→Zwx N e
def Zn4(N:Nat):List (FuncId × Fs U):=(118,fs ZcU (fun a=> [Z12 a,Z6h a < N]) ZdH) ::(163,fs ZcQ (fun a=> [Z63 a,ZbX a < N]) Z5Z) ::[]
def Zs6:Zj U:=lvl [([1,2],[1,2]),([1,2,4],[1,2]),([1,2,4,5],[1,2]),([1,2],[1,2]),([1,2,4,8],[1,2]),([1,2],[1,2]),([1,2,11],[1,2]),([1,2],[1,2]),([2],[2])]
abbrev ZBI(N:Nat)(o:Op)(Q:QT):=AW (Z1 (Zn4 N)) Try.f163 Zs6 [] (L2 [(0,.agg (enc .op o))] []) Q
theorem ZAL(N:Nat)(o:Op)(Q:QT)(h:∀ y_1,y_1=(o.e)→((o.kind==1)=true→Q .ret (L2 [(2,.ptr (.loc 2) 0)] [(.loc 2,([ci 2,ci o.n,sU .tree o.l .unk]++enc .edit o.e))]))∧((o.kind==1)=false→((o.kind==2)=true→Q .ret (L2 [(2,.ptr (.loc 2) 0)] [(.loc 2,([ci 1,ci o.n,sU .tree o.l .unk]++enc .edit o.e))]))∧((o.kind==2)=false→((o.kind==3)=true→(Z12 (y_1,()))∧(Z6h (y_1,()) < N)∧(Q .ret (L2 [(2,.ptr (.loc 2) 0)] [(.loc 2,([ci o.kind,ci o.n,sU .tree o.l .unk]++enc .edit (Zv y_1)))])))∧((o.kind==3)=false→Q .ret (L2 [(2,.ptr (.loc 2) 0)] [(.loc 2,(enc .op o))]))))):
  ZBI N o Q:=by
 have e_:(ZBI N o Q)=(let y_1:=(Yx o.e);(((o.kind==1)=true→(Q .ret (L2 [(2,.ptr (.loc 2) 0)] [(.loc 2,([ci 2,ci o.n,sU .tree o.l .unk]++enc .edit o.e))])))∧((o.kind==1)=false→(((o.kind==2)=true→(Q .ret (L2 [(2,.ptr (.loc 2) 0)] [(.loc 2,([ci 1,ci o.n,sU .tree o.l .unk]++enc .edit o.e))])))∧((o.kind==2)=false→(((o.kind==3)=true→(Z12 (y_1,()))∧(Z6h (y_1,()) < N)∧(Q .ret (L2 [(2,.ptr (.loc 2) 0)] [(.loc 2,([ci o.kind,ci o.n,sU .tree o.l .unk]++enc .edit (Zv y_1)))])))∧((o.kind==3)=false→(Q .ret (L2 [(2,.ptr (.loc 2) 0)] [(.loc 2,(enc .op o))]))))))))):=by kernel_rfl
 exact e_.mpr (by intro y_1;have hh:=h y_1 (Z9 _);exact ⟨fun c_10=> (hh.1 c_10),fun c_10=> ⟨fun c_11=> ((hh.2 c_10).1 c_11),fun c_11=> ⟨fun c_12=> ⟨(((hh.2 c_10).2 c_11).1 c_12).1,(((hh.2 c_10).2 c_11).1 c_12).2.1,(((hh.2 c_10).2 c_11).1 c_12).2.2⟩,fun c_12=> (((hh.2 c_10).2 c_11).2 c_12)⟩⟩⟩)
def Zw6(N:Nat)(o:Op):Prop:=AW (Z1 (Zn4 N)) Try.f163 Zs6 [] (Zk (ZcQ.can (o,())) []) (EQ Try.f163 (Z5Z (o,())) [])
abbrev Zxp:Prop:=∀ (N:Nat) (o:Op) (_:Unit),Z63 (o,())→ZbX (o,()) < N+1→Zw6 N o
theorem Zjf(ha:Zxw)(hb:Zxp):CT 118 Z92∧CT 163 ZlL:=
 Z1I (μA:=Z6h) (μB:=ZbX) (l:=[]) Zm rfl trivial Z1R Zs6 Try.func118 Try.func163 rfl rfl rfl rfl 1 1 (fun _=> rfl) (fun _=> rfl) (by decide) (by decide) (fun N ⟨e,_⟩=> ha N e ()) (fun N ⟨o,_⟩=> hb N o ())
end
end
end Go.AM.Ytpjenobkibfpcaa
namespace Go.AM.Ytpjenobkibfpcaa
open Go.AM Go.Proofs
theorem Zz2:Contract Try.prog cfg 152 Z8X:=by
 refine ZuR c45 ?_
 intro l _ hp
 simp only [ZaQ] at hp
 have hl:=ZA l
 refine ZAM _ _ ?_
 refine Z6 (ι:=Int × List Tree) (fun s=> Z2H l s.1 s.2) (fun s=> 0≤s.1∧s.1≤l.length∧s.2.length=s.1∧s.2++Z8 (l.drop s.1.toNat)=Z8 l) (fun s=> ((l.length:Int) - s.1).toNat) (0,[]) rfl ⟨by simp,by simp,by simp,by simp⟩ ?_
 rintro ⟨i,out⟩ ⟨h1,h2,h3,h4⟩
 dsimp only at h1 h2 h3 h4
 refine ZpS _ _ _ _ _ ?_
 (simp only [vcS])
 (simp only [Tree.eta,Edit.eta,Tree.kind_mk,Tree.words_mk,Tree.kids_mk])
 refine ⟨fun hi=> ?_,fun hi=> ?_⟩
 ·have hm:=YJ (Zg (l:=l) (i:=i.toNat) (by omega) Tree.nil)
  rw [Y1 h1 hi Tree.nil] at h4
  simp only [Z8,List.map_cons] at h4
  refine ⟨⟨h1,hi⟩,by simp only [Jy];omega,by simp;omega,by unfold InR;omega,(i+1,out++[Z4 (l.getD i.toNat Tree.nil)]),rfl,⟨by dsimp only;omega,by dsimp only;omega,by simp;omega,?_⟩,by dsimp only;omega⟩
  simp only [List.append_assoc,List.cons_append,List.nil_append]
  exact h4
 ·rw [List.drop_of_length_le (by omega)] at h4
  simp only [Z8,List.map_nil,List.append_nil] at h4
  rw [h4]
  (repeat' (first | exact trivial | exact rfl | apply And.intro))
theorem Zg8{kind:Int}{l:List Op}{i:Int}(h0:0≤i)(h:i < l.length):YO kind (l.drop i.toNat)=if (l.getD i.toNat Op.nil).kind=1∨(l.getD i.toNat Op.nil).kind=2 then (if (l.getD i.toNat Op.nil).kind=kind then Z8 (l.getD i.toNat Op.nil).l else [])++YO kind (l.drop (i+1).toNat) else []:=by
 rw [Y1 h0 h Op.nil,YO]
theorem Zga{l:List Op}{i:Int}(h0:0≤i)(h:i < l.length):ZR (l.drop i.toNat)=if (l.getD i.toNat Op.nil).kind=1∨(l.getD i.toNat Op.nil).kind=2 then 1+ZR (l.drop (i+1).toNat) else 0:=by
 rw [Y1 h0 h Op.nil,ZR]
theorem Zj9(n:Nat):∀ (l:List Op),Zh (l.drop n)≤Zh l:=by
 induction n with
 | zero=> intro l;simp
 | succ n ih=>
  intro l
  cases l with
  | nil=> simp
  | cons t r=> simp only [List.drop_succ_cons,Zh];have:=ih r;omega
theorem Zzj:Contract Try.prog cfg 110 Z6S:=by
 refine Zvc Zz2 ?_
 intro l from_ kind _ hp
 simp only [Z5d] at hp
 obtain ⟨hm,hf0,hf1⟩:=hp
 have hl:=ZM l
 refine ZBe _ _ _ _ ?_
 refine Z6 (ι:=Int × List Tree) (fun s=> Z0S l from_ kind s.1 s.2) (fun s=> from_≤s.1∧s.1≤l.length∧s.2.length+Zh (l.drop s.1.toNat)≤Zh l∧s.2++YO kind (l.drop s.1.toNat)=YO kind (l.drop from_.toNat)∧s.1+ZR (l.drop s.1.toNat)=from_+ZR (l.drop from_.toNat)) (fun s=> ((l.length:Int) - s.1).toNat) (from_,[]) rfl ⟨by simp,by simpa using hf1,by have:=Zj9 from_.toNat l;simpa using this,by simp,rfl⟩ ?_
 rintro ⟨i,out⟩ ⟨h1,h2,h3,h4,h5⟩
 dsimp only at h1 h2 h3 h4 h5
 refine Zqj _ _ _ _ _ _ _ ?_
 rintro y hy
 (simp only [vcS])
 refine ⟨fun hi=> ⟨by omega,hi⟩,fun hi=> ⟨by omega,hi.1⟩,fun hi=> ?_,fun hi=> ?_⟩
 ·obtain ⟨hi,hk⟩:=hi
  have hmem:=ZL (Zg (l:=l) (i:=i.toNat) (by omega) Op.nil)
  have hd:=congrArg Zh (Y1 (show 0≤i by omega) hi Op.nil)
  rw [Z3D] at hd
  rw [Zg8 (by omega) hi] at h4
  rw [Zga (by omega) hi] at h5
  rw [←hy] at h4 h5 hmem hd
  rw [if_pos hk] at h4 h5
  rw [ZI] at hmem hd
  have hkl:=ZA y.l
  have hyl:(Z8 y.l).length=y.l.length:=by simp [Z8]
  refine ⟨⟨by omega,hi⟩,fun hq=> ⟨⟨by omega,hi⟩,by simp only [ZaQ];omega,by rw [hyl];omega,by unfold InR;omega,(i+1,out++Z8 y.l),rfl,⟨by dsimp only;omega,by dsimp only;omega,by simp;omega,?_,by dsimp only;omega⟩,by dsimp only;omega⟩,fun hq=> ⟨by unfold InR;omega,(i+1,out),rfl,⟨by dsimp only;omega,by dsimp only;omega,by dsimp only;omega,?_,by dsimp only;omega⟩,by dsimp only;omega⟩⟩
  ·rw [if_pos hq,←List.append_assoc] at h4;exact h4
  ·rw [if_neg hq,List.nil_append] at h4;exact h4
 ·have e1:YO kind (l.drop i.toNat)=[]∧ZR (l.drop i.toNat)=0:=by
   by_cases hc:i < l.length
   ·rw [Zg8 (by omega) hc,Zga (by omega) hc,←hy,if_neg (by omega),if_neg (by omega)]
    exact ⟨rfl,rfl⟩
   ·rw [List.drop_of_length_le (by omega)]
    exact ⟨rfl,rfl⟩
  rw [e1.1,List.append_nil] at h4
  rw [e1.2] at h5
  have e2:i=from_+ZR (l.drop from_.toNat):=by omega
  simp only [Zkc,←h4,←e2]
  (repeat' (first | exact trivial | exact rfl | apply And.intro))
theorem Jo(o:Op):YK o=if o.kind=1 then ⟨2,o.n,o.l,o.e⟩ else if o.kind=2 then ⟨1,o.n,o.l,o.e⟩ else if o.kind=3 then ⟨o.kind,o.n,o.l,Zv o.e⟩ else ⟨o.kind,o.n,o.l,o.e⟩:=by cases o;rfl
theorem ZqE(e:Edit):Zv e= .mk e.kind e.new e.old (e.words.map Z23) (JC e.kids) e.list (Jb e.ops):=by cases e;rfl
theorem Zd4(k:Kid):Z0q k=⟨k.at_,Zv k.e⟩:=by cases k;rfl
theorem ZD4:Zxp:=by
 intro N o _ hp hN
 simp only [Z63,ZbX] at hp hN
 rw [ZI] at hp hN
 have hpos:=Z7h o.e
 refine ZAL _ _ _ ?_
 rintro y hy
 (simp only [vcS])
 refine ⟨fun h=> ?_,fun h=> ⟨fun h2=> ?_,fun h2=> ⟨fun h3=> ⟨by simp only [Z12,hy];omega,by simp only [Z6h,hy];omega,?_⟩,fun h3=> ?_⟩⟩⟩
 ·have e:YK o=⟨2,o.n,o.l,o.e⟩:=by rw [Jo,if_pos h]
  simp only [Z5Z,e]
  (repeat' (first | exact trivial | exact rfl | apply And.intro))
 ·have e:YK o=⟨1,o.n,o.l,o.e⟩:=by rw [Jo,if_neg h,if_pos h2]
  simp only [Z5Z,e]
  (repeat' (first | exact trivial | exact rfl | apply And.intro))
 ·have e:YK o=⟨o.kind,o.n,o.l,Zv o.e⟩:=by rw [Jo,if_neg h,if_neg h2,if_pos h3]
  simp only [Z5Z,e]
  rw [hy]
  (repeat' (first | exact trivial | exact rfl | apply And.intro))
 ·have e:YK o=⟨o.kind,o.n,o.l,o.e⟩:=by rw [Jo,if_neg h,if_neg h2,if_neg h3]
  simp only [Z5Z,e]
  (repeat' (first | exact trivial | exact rfl | apply And.intro))
theorem ZD5:Zxw:=by
 intro N e _ hp hN
 simp only [Z12,Z6h] at hp hN
 have h1:=Yg e
 have h2:=Ym e.kids
 have h3:=ZM e.ops
 have ha:=ZqE e
 refine ZBc _ _ _ ?_
 refine Z6 (ι:=Int × List WEdit) (fun s=> Z2Q e s.1 s.2) (fun s=> 0≤s.1∧s.1≤e.words.length∧s.2.length=s.1∧s.2++(e.words.drop s.1.toNat).map Z23=e.words.map Z23) (fun s=> ((e.words.length:Int) - s.1).toNat) (0,[]) rfl ⟨by simp,by simp,by simp,by simp⟩ ?_
 rintro ⟨i,ws⟩ ⟨g1,g2,g3,g4⟩
 dsimp only at g1 g2 g3 g4
 refine Zqi _ _ _ _ _ _ ?_
 (simp only [vcS])
 refine ⟨fun hi=> ?_,fun hi=> ?_⟩
 ·rw [Y1 g1 hi (WEdit.mk 0 0 0 0)] at g4
  simp only [List.map_cons] at g4
  refine ⟨⟨g1,hi⟩,by simp;omega,by unfold InR;omega,(i+1,ws++[Z23 (e.words.getD i.toNat (WEdit.mk 0 0 0 0))]),rfl,⟨by dsimp only;omega,by dsimp only;omega,by simp;omega,?_⟩,by dsimp only;omega⟩
  simp only [List.append_assoc,List.cons_append,List.nil_append]
  exact g4
 ·rw [List.drop_of_length_le (by omega)] at g4
  simp only [List.map_nil,List.append_nil] at g4
  refine Z6 (ι:=Int × List Kid) (fun s=> Z2P e ws s.1 s.2) (fun s=> 0≤s.1∧s.1≤e.kids.length∧s.2.length=s.1∧s.2++JC (e.kids.drop s.1.toNat)=JC e.kids) (fun s=> ((e.kids.length:Int) - s.1).toNat) (0,[]) rfl ⟨by simp,by simp,by simp,by simp⟩ ?_
  rintro ⟨j,ks⟩ ⟨f1,f2,f3,f4⟩
  dsimp only at f1 f2 f3 f4
  refine Zqh _ _ _ _ _ _ _ ?_
  rintro y1 hy1 y2 hy2 y3 hy3
  (simp only [vcS])
  refine ⟨fun hj=> ?_,fun hj=> ?_⟩
  ·have hm:=YM (Zg (l:=e.kids) (i:=j.toNat) (by omega) (KidOf.mk 0 Edit.nil))
   rw [Y1 f1 hj (KidOf.mk 0 Edit.nil)] at f4
   rw [←hy1] at f4 hm
   simp only [JC,Zd4] at f4
   rw [←hy2] at f4 hm
   rw [←hy3] at f4
   refine ⟨⟨f1,hj⟩,by simp only [Z12];omega,by simp only [Z6h];omega,by simp;omega,by unfold InR;omega,(j+1,ks++[⟨y1.at_,y3⟩]),rfl,⟨by dsimp only;omega,by dsimp only;omega,by simp;omega,?_⟩,by dsimp only;omega⟩
   simp only [List.append_assoc,List.cons_append,List.nil_append]
   exact f4
  ·rw [List.drop_of_length_le (by omega)] at f4
   simp only [JC,List.append_nil] at f4
   refine Z6 (ι:=Int × List Op) (fun s=> Z2O e ws ks s.1 s.2) (fun s=> 0≤s.1∧s.1≤e.ops.length∧s.2.length=s.1∧s.2++Jb (e.ops.drop s.1.toNat)=Jb e.ops) (fun s=> ((e.ops.length:Int) - s.1).toNat) (0,[]) rfl ⟨by simp,by simp,by simp,by simp⟩ ?_
   rintro ⟨k,os⟩ ⟨d1,d2,d3,d4⟩
   dsimp only at d1 d2 d3 d4
   refine Zqg _ _ _ _ _ _ _ _ ?_
   rintro z1 hz1 z2 hz2 z3 hz3
   (simp only [vcS])
   refine ⟨fun hj=> ?_,fun hj=> ?_⟩
   ·have hm:=ZL (Zg (l:=e.ops) (i:=k.toNat) (by omega) Op.nil)
    rw [Y1 d1 hj Op.nil] at d4
    rw [←hz1,←hz2] at d4 hm
    simp only [Jb] at d4
    rw [←hz3] at d4
    refine ⟨⟨d1,hj⟩,by simp only [Z63];omega,by simp only [ZbX];omega,by simp;omega,by unfold InR;omega,(k+1,os++[z3]),rfl,⟨by dsimp only;omega,by dsimp only;omega,by simp;omega,?_⟩,by dsimp only;omega⟩
    simp only [List.append_assoc,List.cons_append,List.nil_append]
    exact d4
   ·rw [List.drop_of_length_le (by omega)] at d4
    simp only [Jb,List.append_nil] at d4
    rw [g4,f4,d4]
    simp only [ZdH,ha]
    (repeat' (first | exact trivial | exact rfl | apply And.intro))
theorem Zt2:Contract Try.prog cfg 118 Z92∧Contract Try.prog cfg 163 ZlL:=Zjf ZD5 ZD4
end Go.AM.Ytpjenobkibfpcaa
namespace Go.AM.Ytpjenobkibfpcaa
open Go.AM Go.Proofs
theorem Zcg:∀ (l:List Op) (m n:Int),Jj (Jj l m) n=Jj l (m+n)
 | [],m,n=> by simp [Jj]
 | [o],m,n=> by
  by_cases h:o.kind=0
  ·simp [Jj,h,Int.add_assoc]
  ·simp [Jj,h]
 | o ::p ::r,m,n=> by
  have ih:=Zcg (p ::r) m n
  cases hk:Jj (p ::r) m with
  | nil=> cases r <;> simp [Jj] at hk;split at hk <;> cases hk
  | cons x y=>
   rw [hk] at ih
   simp only [Jj]
   rw [hk]
   simp only [Jj]
   rw [ih]
theorem Z0P:∀ (l:List Op) (n:Int),Jj l n=l++[⟨0,n,[],Edit.nil⟩]∨∃ a o,l=a++[o]∧o.kind=0∧Jj l n=a++[⟨o.kind,o.n+n,o.l,o.e⟩]
 | [],n=> Or.inl rfl
 | [o],n=> by
  by_cases h:o.kind=0
  ·exact Or.inr ⟨[],o,rfl,h,by simp [Jj,h]⟩
  ·exact Or.inl (by simp [Jj,h])
 | o ::p ::r,n=> by
  rcases Z0P (p ::r) n with h | ⟨a,q,h1,h2,h3⟩
  ·exact Or.inl (by simp only [Jj,h,List.cons_append])
  ·exact Or.inr ⟨o ::a,q,by rw [h1];rfl,h2,by simp only [Jj,h3,List.cons_append]⟩
def W0:Wst:=⟨[],[],[]⟩
theorem Z80(a b:List Tree):Z8 (a++b)=Z8 a++Z8 b:=by simp [Z8]
end Go.AM.Ytpjenobkibfpcaa
namespace Go.AM
theorem Z9z{t:Tree}(h:JR t=true):t=Tree.nil:=by
 obtain ⟨k,w,ks⟩:=t
 simp only [JR,decide_eq_true_eq] at h
 obtain ⟨h1,h2,h3⟩:=h
 have h1:k=0:=h1
 rw [h1,List.eq_nil_of_length_eq_zero (l:=w) h2,List.eq_nil_of_length_eq_zero (l:=ks) h3]
 try rfl
theorem Zif{e:Edit}(h:Z24 e=true):e=Edit.nil:=by
 obtain ⟨k,o,n,w,ks,l,os⟩:=e
 simp only [Z24,Bool.and_eq_true,decide_eq_true_eq] at h
 obtain ⟨⟨⟨h1,h2⟩,h3⟩,h4,h5,h6,h7⟩:=h
 have h1:k=0:=h1
 have h7:l=0:=h7
 rw [h1,h7,Z9z (t:=o) h2,Z9z (t:=n) h3,List.eq_nil_of_length_eq_zero (l:=w) h4,List.eq_nil_of_length_eq_zero (l:=ks) h5,List.eq_nil_of_length_eq_zero (l:=os) h6]
 try rfl
structure RightE (e:Edit) (d:Int):Prop where
 d0:d≠0
 kind:0≤e.kind∧e.kind≤3
 none:e.kind≠1→e.old=Tree.nil∧e.new=Tree.nil
 words0:e.kind≠2→e.words=[]∧e.kids=[]
 ops0:e.kind≠3→e.list=0∧e.ops=[]
 rep:e.kind=1→Zl e.old (dT d)=true∧Zl e.new (dT d)=true∧e.old.kind≠10∧e.new.kind≠10
 words:Yk (-1) e.words=true
 kids:ZG (-1) e.kids (d - 1)=true
 list:e.kind=3→2≤e.list∧e.list≤9
 ops:ZD e.list e.ops (d - 1)=true
 len:Z2l e.ops 0 < 1048576∧Z2k e.ops 0 < 1048576
theorem Zn{e:Edit}{d:Int}(h:Za e d=true):RightE e d:=by
 obtain ⟨k,o,n,w,ks,l,os⟩:=e
 rw [Za] at h
 split at h
 ·cases h
 ·rename_i a
  split at h
  ·cases h
  ·rename_i b
   have b1:k≠1→o=Tree.nil∧n=Tree.nil:=by
    intro hk
    by_cases x:JR o=true∧JR n=true
    ·exact ⟨Z9z x.1,Z9z x.2⟩
    ·exact absurd (.inl ⟨hk,x⟩) b
   have b2:k≠2→w=[]∧ks=[]:=by
    intro hk
    by_cases x:w.length=0∧ks.length=0
    ·exact ⟨List.eq_nil_of_length_eq_zero x.1,List.eq_nil_of_length_eq_zero x.2⟩
    ·exact absurd (.inr (.inl ⟨hk,x⟩)) b
   have b3:k≠3→l=0∧os=[]:=by
    intro hk
    by_cases x:l≠0∨os.length≠0
    ·exact absurd (.inr (.inr ⟨hk,x⟩)) b
    ·exact ⟨by omega,List.eq_nil_of_length_eq_zero (by omega)⟩
   split at h
   ·rename_i c
    simp only [Bool.and_eq_true,decide_eq_true_eq] at h
    obtain ⟨⟨h1,h2⟩,h3,h4⟩:=h
    have c2:=b2 (by omega)
    have c3:=b3 (by omega)
    obtain ⟨rfl,rfl⟩:=c2
    obtain ⟨rfl,rfl⟩:=c3
    exact ⟨by omega,⟨by show 0≤k;omega,by show k≤3;omega⟩,b1,b2,b3,fun _=> ⟨h1,h2,h3,h4⟩,rfl,rfl,fun e=> by have e:k=3:=e;omega,rfl,by show Z2l [] 0 < _∧Z2k [] 0 < _;simp [Z2l,Z2k]⟩
   ·rename_i c
    simp only [Bool.and_eq_true,decide_eq_true_eq] at h
    obtain ⟨⟨⟨⟨h1,h2⟩,h3⟩,h4⟩,h5⟩:=h
    exact ⟨by omega,⟨by show 0≤k;omega,by show k≤3;omega⟩,b1,b2,b3,fun e=> absurd e c,h1,h2,fun e=> by have e:k=3:=e;show 2≤l∧l≤9;omega,h4,h5⟩
theorem Zp:∀ {ks:List Kid} {last d:Int},ZG last ks d=true→∀ k∈ks,(last < k.at_∧k.at_≤65534∧k.e.kind≠0)∧Za k.e d=true
 | [],_,_,_,_,hk=> by cases hk
 | ⟨a,e⟩ ::r,last,d,h,k,hk=> by
  simp only [ZG,J3,Bool.and_eq_true,decide_eq_true_eq] at h
  obtain ⟨⟨h1,h2⟩,h3⟩:=h
  rcases List.mem_cons.1 hk with rfl | hk
  ·exact ⟨h1,h2⟩
  ·have:=Zp h3 k hk
   have h1:last < a∧a≤65534∧e.kind≠0:=h1
   have h4:a < k.at_:=this.1.1
   exact ⟨⟨by omega,this.1.2⟩,this.2⟩
theorem rightOs_mem{list:Int}:∀ {os:List Op} {d:Int},ZD list os d=true→∀ o∈os,Zc list o d=true
 | [],_,_,_,ho=> by cases ho
 | a ::r,d,h,o,ho=> by
  simp only [ZD,Bool.and_eq_true] at h
  rcases List.mem_cons.1 ho with rfl | ho
  ·exact h.1
  ·exact rightOs_mem h.2 o ho
theorem Jw:∀ {ws:List WEdit} {last:Int},Yk last ws=true→∀ w∈ws,last < w.at_∧w.at_≤65534∧w.mask≠0∧Yl w.old w.mask=true∧Yl w.new w.mask=true
 | [],_,_,_,hw=> by cases hw
 | a ::r,last,h,w,hw=> by
  simp only [Yk,Bool.and_eq_true,decide_eq_true_eq] at h
  obtain ⟨⟨⟨h1,h2⟩,h3⟩,h4⟩:=h
  rcases List.mem_cons.1 hw with rfl | hw
  ·exact ⟨h1.1,h1.2.1,h1.2.2,h2,h3⟩
  ·have:=Jw h4 w hw
   exact ⟨by omega,this.2⟩
inductive RightOp (list:Int) (d:Int):Op→Prop
 | keep (n:Int):1≤n→n≤1048576→RightOp list d ⟨0,n,[],Edit.nil⟩
 | gone (l:List Tree):Yv (dT d) list l=true→0 < l.length→RightOp list d ⟨1,0,l,Edit.nil⟩
 | come (l:List Tree):Yv (dT d) list l=true→0 < l.length→RightOp list d ⟨2,0,l,Edit.nil⟩
 | into (e:Edit):Za e d=true→e.kind≠0→7 < list→(list=8∨e.kind=2∨e.kind=1∧e.old.kind=1∧e.new.kind=1)→RightOp list d ⟨3,0,[],e⟩
theorem Y7{list:Int}{o:Op}{d:Int}(h:Zc list o d=true):RightOp list d o:=by
 obtain ⟨k,n,l,e⟩:=o
 rw [Zc] at h
 split at h
 ·rename_i hk
  simp only [Bool.and_eq_true,decide_eq_true_eq] at h
  obtain ⟨⟨h1,h2,h3⟩,h4⟩:=h
  rw [hk,Zif h4,List.eq_nil_of_length_eq_zero h3]
  exact .keep n h1 h2
 ·rename_i h0
  split at h
  ·cases h
  ·rename_i h1
   have hn:n=0:=by omega
   subst hn
   split at h
   ·rename_i h2
    simp only [Bool.and_eq_true,decide_eq_true_eq] at h
    obtain ⟨⟨h3,h4⟩,h5⟩:=h
    rw [Zif h5]
    by_cases hk:k=1
    ·rw [hk];exact .gone l h3 h4
    ·rw [show k=2 by omega];exact .come l h3 h4
   ·rename_i h2
    simp only [Bool.and_eq_true,decide_eq_true_eq] at h
    obtain ⟨⟨⟨h3,h4,h5⟩,h6⟩,h7⟩:=h
    rw [show k=3 by omega,List.eq_nil_of_length_eq_zero h3]
    exact .into e h6 h4 h5 h7
theorem JE{l d:Int}{o:Op}(h:Zc l o d=true)(hk:o.kind=3):Za o.e d=true:=by
 have r:=Y7 h
 cases r with
 | into e h1=> exact h1
 | keep | gone | come=> exact absurd hk (by simp)
end Go.AM
namespace Go.AM.Ytpjenobkibfpcaa
open Go.AM Go.Proofs
theorem Z7R{α:Type}(z:α)(l:List α)(i:Nat)(x:α):(Ya z l i x).length=max l.length (i+1):=by
 simp only [Ya,List.length_set,List.length_append,List.length_replicate];omega
theorem Zie{α:Type}(z:α)(l:List α)(i:Nat)(x:α)(j:Nat):(Ya z l i x).getD j z=if j=i then x else l.getD j z:=by
 simp only [Ya,List.getD_eq_getElem?_getD,List.getElem?_set,List.length_append,List.length_replicate]
 by_cases h:j=i
 ·subst h;rw [if_pos rfl,if_pos rfl,if_pos (by omega)];try rfl
 ·rw [if_neg (fun e=> h e.symm),if_neg h]
  by_cases hl:j < l.length
  ·rw [List.getElem?_append_left hl]
  ·rw [List.getElem?_append_right (by omega),List.getElem?_eq_none (l:=l) (by omega),List.getElem?_replicate]
   split <;> rfl
theorem Zk0{α β:Type}(f:α→β)(z:α)(l:List α)(i:Nat)(x:α):(Ya z l i x).map f=Ya (f z) (l.map f) i (f x):=by
 simp [Ya,List.map_set]
theorem ZfS:∀ l:List Tree,Yf l=Z8 l
 | []=> rfl
 | t ::r=> by simp [Yf,Z8,ZfS r]
theorem Ze6(l:List Tree)(i:Nat)(x:Tree):Z8 (Ya Tree.nil l i x)=Ya Tree.nil (Z8 l) i (Z4 x):=by
 rw [Z8,Zk0,ZfR];try rfl
theorem ZoQ{a b:List Tree}{i:Nat}{x y:Tree}(h:Z8 a=Z8 b)(hx:Z4 x=Z4 y):Z8 (Ya Tree.nil a i x)=Z8 (Ya Tree.nil b i y):=by
 rw [Ze6,Ze6,h,hx]
theorem Z4h{a b c d:List Tree}(h:Z8 a=Z8 b)(hx:Z8 c=Z8 d):Z8 (a++c)=Z8 (b++d):=by
 rw [Z80,Z80,h,hx]
theorem ZiX(k:Int)(w:List Int){a b:List Tree}(h:Z8 a=Z8 b):Z4 (.mk k w a)=Z4 (.mk k w b):=by
 simp only [Z4,ZfS,h]
theorem Z4g{a b:List Tree}(h:Z8 a=Z8 b):a.length=b.length:=by
 have:=congrArg List.length h
 simpa [Z8] using this
theorem ZfQ{a b:Tree}:Z8 [a]=Z8 [b]↔Z4 a=Z4 b:=by simp [Z8]
def OptR{α β:Type}(R:α→β→Prop):Option α→Option β→Prop
 | none,none=> True
 | some a,some b=> R a b
 | _,_=> False
theorem OptR.rfl'{α:Type}(a:Option α):OptR Eq a a:=by cases a;exact trivial;exact rfl
theorem OptR.bind{α β γ δ:Type}{R:α→β→Prop}{S:γ→δ→Prop}{a:Option α}{b:Option β}{f:α→Option γ}{g:β→Option δ}(h:OptR R a b)(hf:∀ x y,R x y→OptR S (f x) (g y)):OptR S (a.bind f) (b.bind g):=by
 cases a <;> cases b <;> first | exact trivial | exact h.elim | exact hf _ _ h
theorem OptR.map{α β γ δ:Type}{R:α→β→Prop}{S:γ→δ→Prop}{a:Option α}{b:Option β}{f:α→γ}{g:β→δ}(h:OptR R a b)(hf:∀ x y,R x y→S (f x) (g y)):OptR S (a.map f) (b.map g):=by
 cases a <;> cases b <;> first | exact trivial | exact h.elim | exact hf _ _ h
theorem OptR.ite{α β:Type}{R:α→β→Prop}{p q:Prop} [Decidable p] [Decidable q] {a c:Option α}{b d:Option β}(h:p↔q)(h1:p→OptR R a b)(h2:¬p→OptR R c d):OptR R (if p then a else c) (if q then b else d):=by
 by_cases hp:p
 ·rw [if_pos hp,if_pos (h.1 hp)];exact h1 hp
 ·rw [if_neg hp,if_neg (fun hq=> hp (h.2 hq))];exact h2 hp
theorem OptR.mono{α β:Type}{R S:α→β→Prop}{a:Option α}{b:Option β}(h:OptR R a b)(hf:∀ x y,R x y→S x y):OptR S a b:=by
 cases a <;> cases b <;> first | exact trivial | exact h.elim | exact hf _ _ h
theorem OptR.normed{a b:Option Tree}(h:OptR (fun x y=> Z4 x=Z4 y) a b):a.map Z4=b.map Z4:=by
 cases a <;> cases b <;> first | rfl | exact h.elim | exact congrArg some h
def Eqv(x y:Tree):Prop:=Z4 x=Z4 y
def EqvL(x y:List Tree):Prop:=Z8 x=Z8 y
theorem EqvL.take{x y:List Tree}(h:EqvL x y)(n:Nat):EqvL (x.take n) (y.take n):=by unfold EqvL Z8 at*;rw [List.map_take,List.map_take,h]
theorem EqvL.drop{x y:List Tree}(h:EqvL x y)(n:Nat):EqvL (x.drop n) (y.drop n):=by unfold EqvL Z8 at*;rw [List.map_drop,List.map_drop,h]
theorem EqvL.len{x y:List Tree}(h:EqvL x y):x.length=y.length:=Z4g h
theorem ZsO{a b:Option (List Tree × List Tree)}(h:OptR (fun x y=> EqvL x.1 y.1∧EqvL x.2 y.2) a b):OptR EqvL (Z1V a) (Z1V b):=by
 unfold Z1V
 refine h.bind fun x y hxy=> ?_
 exact OptR.ite (by rw [hxy.2.len]) (fun _=> hxy.1) (fun _=> trivial)
mutual
theorem Zla:∀ (e:Edit) (t:Tree),OptR Eqv (doE true e t) (doE false e t)
 | .mk k o n w ks l os,t=> by
  have h1:=Zns ks t.kids t.kids t.kids rfl
  have h2:=Znr os t.kids [] [] rfl
  rw [Z41,Z41,Z2z]
  show OptR Eqv (Option.map (nrD true) _) _
  suffices h:∀ a b,OptR Eqv a b→OptR Eqv (Option.map (nrD true) a) b by
   refine h _ _ ?_
   refine OptR.ite Iff.rfl (fun _=> rfl) fun _=> OptR.ite Iff.rfl (fun _=> OptR.ite Iff.rfl (fun _=> rfl) (fun _=> trivial)) fun _=> OptR.ite Iff.rfl (fun _=> ?_) fun _=> OptR.ite Iff.rfl (fun _=> ?_) (fun _=> trivial)
   ·refine OptR.ite Iff.rfl (fun _=> ?_) (fun _=> trivial)
    refine OptR.bind (R:=Eq) (OptR.rfl' _) ?_
    rintro a _ rfl
    exact h1.map fun x y h=> ZiX _ _ h
   ·refine OptR.ite Iff.rfl (fun _=> ?_) (fun _=> trivial)
    exact (ZsO (h2.mono fun x y h=> ⟨h.1,by rw [h.2];rfl⟩)).map fun x y h=> ZiX _ _ h
  intro a b h
  cases a <;> cases b <;> first | exact trivial | exact h.elim | skip
  unfold Eqv nrD at*
  simp only [Option.map_some,if_true]
  show Z4 (Z4 _)=_
  rw [Z8x]
  exact h
theorem Zns:∀ (ks:List (KidOf Edit)) (tk a b:List Tree),EqvL a b→OptR EqvL (Z22 true tk ks a) (Z22 false tk ks b)
 | [],_,_,_,h=> h
 | k ::r,tk,a,b,h=> by
  rw [Z22,Z22]
  refine (ZsS k tk).bind fun x y hxy=> Zns r tk _ _ (ZoQ h hxy)
theorem ZsS:∀ (k:KidOf Edit) (tk:List Tree),OptR Eqv (Z3K true tk k) (Z3K false tk k)
 | ⟨_,e⟩,tk=> by rw [Z3K,Z3K];exact Zla e _
theorem Znr:∀ (os:List (OpOf Edit)) (rest a b:List Tree),EqvL a b→OptR (fun x y=> EqvL x.1 y.1∧x.2=y.2) (Ji true os rest a) (Ji false os rest b)
 | [],rest,a,b,h=> ⟨h,rfl⟩
 | o ::r,rest,a,b,h=> by
  rw [Ji,Ji]
  refine (ZvL o rest a b h).bind fun x y hxy=> ?_
  rw [hxy.2]
  exact Znr r _ _ _ hxy.1
theorem ZvL:∀ (o:OpOf Edit) (rest a b:List Tree),EqvL a b→OptR (fun x y=> EqvL x.1 y.1∧x.2=y.2) (ZeH true o rest a) (ZeH false o rest b)
 | ⟨k,n,l,e⟩,rest,a,b,h=> by
  have he:=Zla e (rest.getD 0 Tree.nil)
  rw [ZeH,ZeH]
  refine OptR.ite Iff.rfl (fun _=> OptR.ite Iff.rfl (fun _=> ⟨Z4h h rfl,rfl⟩) (fun _=> trivial)) fun _=> OptR.ite Iff.rfl (fun _=> OptR.ite Iff.rfl (fun _=> ⟨h,rfl⟩) (fun _=> trivial)) fun _=> OptR.ite Iff.rfl (fun _=> ⟨Z4h h rfl,rfl⟩) fun _=> OptR.ite Iff.rfl (fun _=> trivial) fun _=> ?_
  exact he.map fun x y h'=> ⟨Z4h h (ZfQ.2 h'),rfl⟩
end
theorem Z4y(e:Edit)(t:Tree):(doE true e t)=(doE false e t).map Z4:=by
 have h:=Zla e t
 have hi:(doE true e t).map Z4=doE true e t:=by
  rw [Z41]
  generalize ite (e.kind=0) _ _=x
  cases x with
  | none=> rfl
  | some u=> simp [nrD,Z8x]
 rw [←hi]
 exact h.normed
end Go.AM.Ytpjenobkibfpcaa
namespace Go.AM.Ytpjenobkibfpcaa
open Go.AM Go.Proofs
theorem Zd3:∀ (ks:List Kid),(JC ks).length=ks.length
 | []=> rfl
 | k ::r=> by simp only [JC,List.length_cons,Zd3 r]
end Go.AM.Ytpjenobkibfpcaa
namespace Go.AM.Ytpjenobkibfpcaa
open Go.AM Go.Proofs
noncomputable section
abbrev Zod(p:Prop):Prop:=p→p
noncomputable section
def ZhQ:ArgL (Edit × Unit):=(.cons (aEl .edit) .nil)
def Z1m(a:Edit × Unit):Prop:=Z5 a.1≤20000000000
def Z82(a:Edit × Unit):Nat:=Z5 a.1
def ZgP(a:Edit × Unit):V U:= .agg (enc .edit (JV a.1))
def Z8Z:Fs U:=fs ZhQ (fun a=> [Z1m a]) ZgP
def Y3(N:Nat):List (FuncId × Fs U):=(140,fs ZhQ (fun a=> [Z1m a,Z82 a < N]) ZgP) ::[]
def Jz:Zj U:=fun i=> match i with
 | 0=> ([(1,[]),(2,[])],[(.loc 1,[]),(.loc 2,[])])
 | 1=> ([(1,[]),(2,[]),(3,[])],[(.loc 1,[]),(.loc 2,[]),(.loc 3,[])])
 | 2=> ([(1,[]),(2,[]),(3,[])],[(.loc 1,[]),(.loc 2,[]),(.loc 3,[])])
 | 3=> ([(1,[]),(2,[]),(3,[])],[(.loc 1,[]),(.loc 2,[]),(.loc 3,[])])
 | 4=> ([(1,[]),(2,[]),(3,[]),(4,[])],[(.loc 1,[]),(.loc 2,[]),(.loc 3,[.any,.any,.any,.any,.any,.any,.any,.own .wedit])])
 | 5=> ([(1,[]),(2,[]),(3,[]),(4,[]),(25,[])],[(.loc 1,[]),(.loc 2,[]),(.loc 3,[])])
 | 6=> ([(1,[]),(2,[]),(3,[]),(4,[])],[(.loc 1,[]),(.loc 2,[]),(.loc 3,[.any,.any,.any,.any,.any,.any,.any,.own .wedit])])
 | 7=> ([(1,[]),(2,[]),(3,[]),(4,[]),(5,[])],[(.loc 1,[]),(.loc 2,[]),(.loc 3,[]),(.loc 5,[])])
 | 8=> ([(1,[]),(2,[]),(3,[]),(4,[]),(5,[]),(6,[])],[(.loc 1,[]),(.loc 2,[]),(.loc 3,[]),(.loc 5,[])])
 | 9=> ([(1,[]),(2,[]),(3,[]),(4,[]),(5,[]),(6,[])],[(.loc 1,[]),(.loc 2,[]),(.loc 3,[]),(.loc 5,[])])
 | 10=> ([(1,[]),(2,[]),(3,[]),(4,[]),(5,[])],[(.loc 1,[]),(.loc 2,[]),(.loc 3,[]),(.loc 5,[])])
 | 11=> ([(1,[]),(2,[]),(3,[]),(4,[])],[(.loc 1,[]),(.loc 2,[]),(.loc 3,[])])
 | 12=> ([(1,[]),(2,[]),(3,[]),(7,[])],[(.loc 1,[]),(.loc 2,[]),(.loc 3,[.any,.any,.any,.any,.any,.any,.any,.any,.own .kid])])
 | 13=> ([(1,[]),(2,[]),(3,[]),(7,[]),(50,[])],[(.loc 1,[]),(.loc 2,[]),(.loc 3,[])])
 | 14=> ([(1,[]),(2,[]),(3,[]),(7,[])],[(.loc 1,[]),(.loc 2,[]),(.loc 3,[.any,.any,.any,.any,.any,.any,.any,.any,.own .kid])])
 | 15=> ([(1,[]),(2,[]),(3,[]),(7,[])],[(.loc 1,[]),(.loc 2,[]),(.loc 3,[])])
 | 16=> ([(1,[]),(2,[]),(3,[]),(8,[])],[(.loc 1,[]),(.loc 2,[]),(.loc 3,[.any,.any,.any,.any,.any,.any,.any,.any,.any,.any,.own .op])])
 | 17=> ([(1,[]),(2,[]),(3,[]),(8,[]),(76,[])],[(.loc 1,[]),(.loc 2,[]),(.loc 3,[])])
 | 18=> ([(1,[]),(2,[]),(3,[]),(8,[])],[(.loc 1,[]),(.loc 2,[]),(.loc 3,[.any,.any,.any,.any,.any,.any,.any,.any,.any,.any,.own .op])])
 | 19=> ([(1,[]),(2,[]),(3,[]),(8,[]),(9,[])],[(.loc 1,[]),(.loc 2,[]),(.loc 3,[]),(.loc 9,[])])
 | 20=> ([(1,[]),(2,[]),(3,[]),(8,[]),(9,[]),(91,[])],[(.loc 1,[]),(.loc 2,[]),(.loc 3,[]),(.loc 9,[])])
 | 21=> ([(1,[]),(2,[]),(3,[]),(8,[]),(9,[]),(91,[])],[(.loc 1,[]),(.loc 2,[]),(.loc 3,[]),(.loc 9,[])])
 | 22=> ([(1,[]),(2,[]),(3,[]),(8,[]),(9,[])],[(.loc 1,[]),(.loc 2,[]),(.loc 3,[]),(.loc 9,[])])
 | 23=> ([(1,[]),(2,[]),(3,[]),(8,[])],[(.loc 1,[]),(.loc 2,[]),(.loc 3,[])])
 | 24=> ([(2,[])],[(.loc 2,[])])
 | _=> ([],[])
def Z2L(e:Edit)(x4:Int)(ml3_7:List WEdit):LSt U:=(L2 [(1,.ptr (.loc 1) 0),(2,.ptr (.loc 2) 0),(3,.ptr (.loc 3) 0),(4,.c (ci x4))] [(.loc 1,(enc .edit e)),(.loc 2,zc1),(.loc 3,([ci e.kind]++enc .tree e.new++enc .tree e.old++[sU .wedit ml3_7 (.own (.l 3 7)),.nils,ci e.list,.nils]))])
def Z2K(e:Edit)(ml3_7:List WEdit)(x7_a:Int)(ml3_8_a:List Kid):LSt U:=(L2 [(1,.ptr (.loc 1) 0),(2,.ptr (.loc 2) 0),(3,.ptr (.loc 3) 0),(7,.c (ci x7_a))] [(.loc 1,(enc .edit e)),(.loc 2,zc1),(.loc 3,([ci e.kind]++enc .tree e.new++enc .tree e.old++[sU .wedit ml3_7 (.own (.l 3 7)),sU .kid ml3_8_a (.own (.l 3 8)),ci e.list,.nils]))])
def Z0Q(e:Edit)(ml3_7:List WEdit)(ml3_8_a:List Kid)(x8_b:Int)(ml3_10_b:List Op):LSt U:=(L2 [(1,.ptr (.loc 1) 0),(2,.ptr (.loc 2) 0),(3,.ptr (.loc 3) 0),(8,.c (ci x8_b))] [(.loc 1,(enc .edit e)),(.loc 2,zc1),(.loc 3,([ci e.kind]++enc .tree e.new++enc .tree e.old++[sU .wedit ml3_7 (.own (.l 3 7)),sU .kid ml3_8_a (.own (.l 3 8)),ci e.list,sU .op ml3_10_b (.own (.l 3 10))]))])
def Z4t(e:Edit)(ml3_7:List WEdit)(ml3_8_a:List Kid)(x8_b:Int)(ml3_10_b:List Op)(ml9_0_c:Int):LSt U:=(L2 [(1,.ptr (.loc 1) 0),(2,.ptr (.loc 2) 0),(3,.ptr (.loc 3) 0),(8,.c (ci x8_b)),(9,.ptr (.loc 9) 0),(91,.c (.bool (bif (((OpOf.kind (e.ops.getD x8_b.toNat Op.nil)):Int)==1) then true else (((OpOf.kind (e.ops.getD x8_b.toNat Op.nil)):Int)==2))))] [(.loc 1,(enc .edit e)),(.loc 2,zc1),(.loc 3,([ci e.kind]++enc .tree e.new++enc .tree e.old++[sU .wedit ml3_7 (.own (.l 3 7)),sU .kid ml3_8_a (.own (.l 3 8)),ci e.list,sU .op ml3_10_b (.own (.l 3 10))])),(.loc 9,([ci ml9_0_c,ci (OpOf.n (e.ops.getD x8_b.toNat Op.nil)),sU .tree (OpOf.l (e.ops.getD x8_b.toNat Op.nil)) .unk]++enc .edit (OpOf.e (e.ops.getD x8_b.toNat Op.nil))))])
abbrev ZBL(N:Nat)(e:Edit)(Q:QT):=AW (Z1 (Y3 N)) Try.f140 Jz [] (L2 [(0,.agg (enc .edit e))] []) Q
abbrev Z3m(N:Nat):=awp cfg (Z1 (Y3 N)) (ZS cfg (Z1 (Y3 N))) Try.f140.ntmps Jz
abbrev Z0y(N:Nat):=ZaF cfg (Z1 (Y3 N)) (ZS cfg (Z1 (Y3 N))) Try.f140.ntmps Jz
theorem ZAY(N:Nat)(e:Edit)(Q:QT)(h:Ze (AW (Z1 (Y3 N)) Try.f140 Jz [1,1,1,1,0,1,0,0]) (Z2L e 0 []) (xB 0 (SW (Z1 (Y3 N)) Try.f140 Jz [1,1,1,1,1] Q))):
  ZBL N e Q:=by
 have e_:(ZBL N e Q)=(Ze (Z3m N (cd Try.f140 [1,1,1,1,0,1,0,0])) (Z2L e 0 []) (xB 0 (Z0y N (cd Try.f140 [1,1,1,1,1]) Q))):=by kernel_rfl
 exact e_.mpr h
abbrev Zo6(N:Nat)(e:Edit)(x4:Int)(ml3_7:List WEdit)(N0:NT)(Q:QT):=AW (Z1 (Y3 N)) Try.f140 Jz [1,1,1,1,0,1,0,0] (Z2L e x4 ml3_7) (xT N0 (xB 0 (SW (Z1 (Y3 N)) Try.f140 Jz [1,1,1,1,1] Q)))
theorem Zq7(N:Nat)(e:Edit)(x4:Int)(ml3_7:List WEdit)(N0:NT)(Q:QT)(h:((decide (x4 < (e.words.length:Int)))=true→((0:Int)≤x4∧x4 < (e.words.length:Int))∧(((ml3_7.length+([(WEdit.mk (WEdit.at_ (e.words.getD x4.toNat (WEdit.mk 0 0 0 0))) (WEdit.mask (e.words.getD x4.toNat (WEdit.mk 0 0 0 0))) (WEdit.new (e.words.getD x4.toNat (WEdit.mk 0 0 0 0))) (WEdit.old (e.words.getD x4.toNat (WEdit.mk 0 0 0 0))))]).length)*32≤140737488355328)∧((InR (x4+1))∧(N0 (Z2L e (x4+1) (ml3_7++([(WEdit.mk (WEdit.at_ (e.words.getD x4.toNat (WEdit.mk 0 0 0 0))) (WEdit.mask (e.words.getD x4.toNat (WEdit.mk 0 0 0 0))) (WEdit.new (e.words.getD x4.toNat (WEdit.mk 0 0 0 0))) (WEdit.old (e.words.getD x4.toNat (WEdit.mk 0 0 0 0))))])))))))∧((decide (x4 < (e.words.length:Int)))=false→Ze (AW (Z1 (Y3 N)) Try.f140 Jz [1,1,1,1,1,0,1,0,0]) (Z2K e ml3_7 0 []) (xB 2 (SW (Z1 (Y3 N)) Try.f140 Jz [1,1,1,1,1,1] Q)))):
  Zo6 N e x4 ml3_7 N0 Q:=by
 have e_:(Zo6 N e x4 ml3_7 N0 Q)=(((decide ((x4:Int) < (e.words.length:Int)))=true→((0:Int)≤x4∧x4 < (e.words.length:Int))∧(((ml3_7.length+([(WEdit.mk (WEdit.at_ (e.words.getD x4.toNat (WEdit.mk 0 0 0 0))) (WEdit.mask (e.words.getD x4.toNat (WEdit.mk 0 0 0 0))) (WEdit.new (e.words.getD x4.toNat (WEdit.mk 0 0 0 0))) (WEdit.old (e.words.getD x4.toNat (WEdit.mk 0 0 0 0))))]).length)*32≤140737488355328)∧((InR ((x4:Int)+1))∧(N0 (Z2L e ((x4:Int)+1) (ml3_7++([(WEdit.mk (WEdit.at_ (e.words.getD x4.toNat (WEdit.mk 0 0 0 0))) (WEdit.mask (e.words.getD x4.toNat (WEdit.mk 0 0 0 0))) (WEdit.new (e.words.getD x4.toNat (WEdit.mk 0 0 0 0))) (WEdit.old (e.words.getD x4.toNat (WEdit.mk 0 0 0 0))))])))))))∧((decide ((x4:Int) < (e.words.length:Int)))=false→(Ze (Z3m N (cd Try.f140 [1,1,1,1,1,0,1,0,0])) (Z2K e ml3_7 0 []) (xB 2 (Z0y N (cd Try.f140 [1,1,1,1,1,1]) Q))))):=by kernel_rfl
 exact e_.mpr ⟨fun c_14=> ⟨(h.1 c_14).1,⟨(h.1 c_14).2.1,⟨(h.1 c_14).2.2.1,(h.1 c_14).2.2.2⟩⟩⟩,fun c_14=> (h.2 c_14)⟩
abbrev Zo5(N:Nat)(e:Edit)(ml3_7:List WEdit)(x7_a:Int)(ml3_8_a:List Kid)(N1:NT)(Q:QT):=AW (Z1 (Y3 N)) Try.f140 Jz [1,1,1,1,1,0,1,0,0] (Z2K e ml3_7 x7_a ml3_8_a) (xT N1 (xB 2 (SW (Z1 (Y3 N)) Try.f140 Jz [1,1,1,1,1,1] Q)))
theorem Zq6(N:Nat)(e:Edit)(ml3_7:List WEdit)(x7_a:Int)(ml3_8_a:List Kid)(N1:NT)(Q:QT)(h:∀ y_1,y_1=(e.kids.getD x7_a.toNat (KidOf.mk 0 Edit.nil))→∀ y_2,y_2=(y_1.e)→∀ y_3,y_3=(JV y_2)→((decide (x7_a < (e.kids.length:Int)))=true→((0:Int)≤x7_a∧x7_a < (e.kids.length:Int))∧((0:Int)≤x7_a∧x7_a < (e.kids.length:Int))∧(Z1m (y_2,()))∧(Z82 (y_2,()) < N)∧((ml3_8_a.length+([(KidOf.mk y_1.at_ y_3:Kid)]).length)*208≤140737488355328)∧((InR (x7_a+1))∧(N1 (Z2K e ml3_7 (x7_a+1) (ml3_8_a++([(KidOf.mk y_1.at_ y_3:Kid)]))))))∧((decide (x7_a < (e.kids.length:Int)))=false→Ze (AW (Z1 (Y3 N)) Try.f140 Jz [1,1,1,1,1,1,0,1,0,0]) (Z0Q e ml3_7 ml3_8_a 0 []) (xB 4 (SW (Z1 (Y3 N)) Try.f140 Jz [1,1,1,1,1,1,1] Q)))):
  Zo5 N e ml3_7 x7_a ml3_8_a N1 Q:=by
 have e_:(Zo5 N e ml3_7 x7_a ml3_8_a N1 Q)=(let y_1:=(e.kids.getD x7_a.toNat (KidOf.mk 0 Edit.nil));let y_2:=(Yx y_1.e);let y_3:=(Yx (JV y_2));let zz0:=(decide ((x7_a:Int) < (e.kids.length:Int)));((zz0=true→((0:Int)≤x7_a∧x7_a < (e.kids.length:Int))∧((0:Int)≤x7_a∧x7_a < (e.kids.length:Int))∧(Z1m (y_2,()))∧(Z82 (y_2,()) < N)∧((ml3_8_a.length+([(KidOf.mk y_1.at_ y_3:Kid)]).length)*208≤140737488355328)∧((InR ((x7_a:Int)+1))∧(N1 (Z2K e ml3_7 ((x7_a:Int)+1) (ml3_8_a++([(KidOf.mk y_1.at_ y_3:Kid)]))))))∧(zz0=false→(Ze (Z3m N (cd Try.f140 [1,1,1,1,1,1,0,1,0,0])) (Z0Q e ml3_7 ml3_8_a 0 []) (xB 4 (Z0y N (cd Try.f140 [1,1,1,1,1,1,1]) Q)))))):=by kernel_rfl
 exact e_.mpr (by intro y_1 y_2 y_3;have hh:=h y_1 rfl y_2 (Z9 _) y_3 (Z9 _);exact ⟨fun c_15=> ⟨(hh.1 c_15).1,(hh.1 c_15).2.1,(hh.1 c_15).2.2.1,(hh.1 c_15).2.2.2.1,(hh.1 c_15).2.2.2.2.1,⟨(hh.1 c_15).2.2.2.2.2.1,(hh.1 c_15).2.2.2.2.2.2⟩⟩,fun c_15=> (hh.2 c_15)⟩)
abbrev Zo4(N:Nat)(e:Edit)(ml3_7:List WEdit)(ml3_8_a:List Kid)(x8_b:Int)(ml3_10_b:List Op)(N2:NT)(Q:QT):=AW (Z1 (Y3 N)) Try.f140 Jz [1,1,1,1,1,1,0,1,0,0] (Z0Q e ml3_7 ml3_8_a x8_b ml3_10_b) (xT N2 (xB 4 (SW (Z1 (Y3 N)) Try.f140 Jz [1,1,1,1,1,1,1] Q)))
theorem Zq5(N:Nat)(e:Edit)(ml3_7:List WEdit)(ml3_8_a:List Kid)(x8_b:Int)(ml3_10_b:List Op)(N2:NT)(Q:QT)(h:((decide (x8_b < (e.ops.length:Int)))=true→((0:Int)≤x8_b∧x8_b < (e.ops.length:Int))∧(((bif (((OpOf.kind (e.ops.getD x8_b.toNat Op.nil)):Int)==1) then true else (((OpOf.kind (e.ops.getD x8_b.toNat Op.nil)):Int)==2))=true→(InR ((3:Int) - (OpOf.kind (e.ops.getD x8_b.toNat Op.nil))))∧(AW (Z1 (Y3 N)) Try.f140 Jz [1,1,1,1,1,1,0,1,0,0,1,0,0,1,1] (Z4t e ml3_7 ml3_8_a x8_b ml3_10_b ((3:Int) - (OpOf.kind (e.ops.getD x8_b.toNat Op.nil)))) (xB 5 (SW (Z1 (Y3 N)) Try.f140 Jz [1,1,1,1,1,1,0,1,0,0,1,1] (xT N2 (xB 4 (SW (Z1 (Y3 N)) Try.f140 Jz [1,1,1,1,1,1,1] Q)))))))∧((bif (((OpOf.kind (e.ops.getD x8_b.toNat Op.nil)):Int)==1) then true else (((OpOf.kind (e.ops.getD x8_b.toNat Op.nil)):Int)==2))=false→AW (Z1 (Y3 N)) Try.f140 Jz [1,1,1,1,1,1,0,1,0,0,1,0,0,1,1] (Z4t e ml3_7 ml3_8_a x8_b ml3_10_b (OpOf.kind (e.ops.getD x8_b.toNat Op.nil))) (xB 5 (SW (Z1 (Y3 N)) Try.f140 Jz [1,1,1,1,1,1,0,1,0,0,1,1] (xT N2 (xB 4 (SW (Z1 (Y3 N)) Try.f140 Jz [1,1,1,1,1,1,1] Q))))))))∧((decide (x8_b < (e.ops.length:Int)))=false→Q .ret (L2 [(2,.ptr (.loc 2) 0)] [(.loc 2,([ci e.kind]++enc .tree e.new++enc .tree e.old++[sU .wedit ml3_7 (.own (.l 2 7)),sU .kid ml3_8_a (.own (.l 2 8)),ci e.list,sU .op ml3_10_b (.own (.l 2 10))]))]))):
  Zo4 N e ml3_7 ml3_8_a x8_b ml3_10_b N2 Q:=by
 have e_:(Zo4 N e ml3_7 ml3_8_a x8_b ml3_10_b N2 Q)=(let zz1:=(((OpOf.kind (e.ops.getD x8_b.toNat Op.nil)):Int)==2);let zz0:=(((OpOf.kind (e.ops.getD x8_b.toNat Op.nil)):Int)==1);(((decide ((x8_b:Int) < (e.ops.length:Int)))=true→((0:Int)≤x8_b∧x8_b < (e.ops.length:Int))∧((Zod ((!zz0)=true))∧(Zod ((!zz0)=true))∧(zz0=false→(!zz0)=true)∧(((bif zz0 then true else zz1)=true→(InR ((3:Int) - (OpOf.kind (e.ops.getD x8_b.toNat Op.nil))))∧(Z3m N (cd Try.f140 [1,1,1,1,1,1,0,1,0,0,1,0,0,1,1]) (Z4t e ml3_7 ml3_8_a x8_b ml3_10_b ((3:Int) - (OpOf.kind (e.ops.getD x8_b.toNat Op.nil)))) (xB 5 (Z0y N (cd Try.f140 [1,1,1,1,1,1,0,1,0,0,1,1]) (xT N2 (xB 4 (Z0y N (cd Try.f140 [1,1,1,1,1,1,1]) Q)))))))∧((bif zz0 then true else zz1)=false→Z3m N (cd Try.f140 [1,1,1,1,1,1,0,1,0,0,1,0,0,1,1]) (Z4t e ml3_7 ml3_8_a x8_b ml3_10_b (OpOf.kind (e.ops.getD x8_b.toNat Op.nil))) (xB 5 (Z0y N (cd Try.f140 [1,1,1,1,1,1,0,1,0,0,1,1]) (xT N2 (xB 4 (Z0y N (cd Try.f140 [1,1,1,1,1,1,1]) Q)))))))))∧((decide ((x8_b:Int) < (e.ops.length:Int)))=false→(Q .ret (L2 [(2,.ptr (.loc 2) 0)] [(.loc 2,([ci e.kind]++enc .tree e.new++enc .tree e.old++[sU .wedit ml3_7 (.own (.l 2 7)),sU .kid ml3_8_a (.own (.l 2 8)),ci e.list,sU .op ml3_10_b (.own (.l 2 10))]))]))))):=by kernel_rfl
 exact e_.mpr ⟨fun c_16=> ⟨(h.1 c_16).1,⟨id,id,(by generalize (((OpOf.kind (e.ops.getD x8_b.toNat Op.nil)):Int)==1)=b0;revert b0;decide),⟨fun c_17=> ⟨((h.1 c_16).2.1 c_17).1,((h.1 c_16).2.1 c_17).2⟩,fun c_17=> ((h.1 c_16).2.2 c_17)⟩⟩⟩,fun c_16=> (h.2 c_16)⟩
abbrev ZhY(N:Nat)(e:Edit)(ml3_7:List WEdit)(ml3_8_a:List Kid)(x8_b:Int)(ml3_10_b:List Op)(ml9_0_c:Int)(N2:NT)(Q:QT):=AW (Z1 (Y3 N)) Try.f140 Jz [1,1,1,1,1,1,0,1,0,0,1,0,0,1,1] (Z4t e ml3_7 ml3_8_a x8_b ml3_10_b ml9_0_c) (xB 5 (SW (Z1 (Y3 N)) Try.f140 Jz [1,1,1,1,1,1,0,1,0,0,1,1] (xT N2 (xB 4 (SW (Z1 (Y3 N)) Try.f140 Jz [1,1,1,1,1,1,1] Q)))))
theorem Zq8(N:Nat)(e:Edit)(ml3_7:List WEdit)(ml3_8_a:List Kid)(x8_b:Int)(ml3_10_b:List Op)(ml9_0_c:Int)(N2:NT)(Q:QT)(h:∀ y_1,y_1=(e.ops.getD x8_b.toNat Op.nil)→∀ y_2,y_2=(y_1.e)→∀ y_3,y_3=(JV y_2)→(Z1m (y_2,()))∧(Z82 (y_2,()) < N)∧(((ml3_10_b.length+([(OpOf.mk ml9_0_c y_1.n y_1.l y_3:Op)]).length)*240≤140737488355328)∧((InR (x8_b+1))∧(N2 (Z0Q e ml3_7 ml3_8_a (x8_b+1) (ml3_10_b++([(OpOf.mk ml9_0_c y_1.n y_1.l y_3:Op)]))))))):
  ZhY N e ml3_7 ml3_8_a x8_b ml3_10_b ml9_0_c N2 Q:=by
 have e_:(ZhY N e ml3_7 ml3_8_a x8_b ml3_10_b ml9_0_c N2 Q)=(let y_1:=(e.ops.getD x8_b.toNat Op.nil);let y_2:=(Yx y_1.e);let y_3:=(Yx (JV y_2));(Z1m (y_2,()))∧(Z82 (y_2,()) < N)∧(((ml3_10_b.length+([(OpOf.mk ml9_0_c y_1.n y_1.l y_3:Op)]).length)*240≤140737488355328)∧((InR ((x8_b:Int)+1))∧(N2 (Z0Q e ml3_7 ml3_8_a ((x8_b:Int)+1) (ml3_10_b++([(OpOf.mk ml9_0_c y_1.n y_1.l y_3:Op)]))))))):=by kernel_rfl
 exact e_.mpr (by intro y_1 y_2 y_3;have hh:=h y_1 rfl y_2 (Z9 _) y_3 (Z9 _);exact ⟨hh.1,hh.2.1,⟨hh.2.2.1,⟨hh.2.2.2.1,hh.2.2.2.2⟩⟩⟩)
def Zwj(N:Nat)(e:Edit):Prop:=AW (Z1 (Y3 N)) Try.f140 Jz [] (Zk (ZhQ.can (e,())) []) (EQ Try.f140 (ZgP (e,())) [])
theorem Zv2(hb:∀ (N:Nat) (e:Edit) (_:Unit),Z1m (e,())→Z82 (e,()) < N+1→Zwj N e):CT 140 Z8Z:=
 YB (μ:=Z82) (l:=[]) Zm rfl trivial Jz Try.func140 rfl rfl 1 (fun _=> rfl) (by decide) (fun N ⟨e,_⟩=> hb N e ())
end
end
end Go.AM.Ytpjenobkibfpcaa
namespace Go.AM.Ytpjenobkibfpcaa
open Go.AM Go.Proofs
theorem Zc7{α β:Type}{f:α→β}(d:α){a b:List α}(hl:a.length=b.length)(h:∀ i:Nat,i < a.length→f (a.getD i d)=f (b.getD i d)):a.map f=b.map f:=by
 apply List.ext_getElem (by simpa using hl)
 intro i h1 h2
 have h1':i < a.length:=by simpa using h1
 have h2':i < b.length:=by simpa using h2
 have:=h i h1'
 simpa [List.getD_eq_getElem?_getD,List.getElem?_eq_getElem h1',List.getElem?_eq_getElem h2'] using this
theorem Z6v{α β:Type}{f:α→β}{d:α}{a b:List α}(h:a.map f=b.map f)(i:Nat):f (a.getD i d)=f (b.getD i d):=by
 have e:=congrArg (fun l=> l[i]?.getD (f d)) h
 simp only [List.getElem?_map] at e
 rw [List.getD_eq_getElem?_getD,List.getD_eq_getElem?_getD]
 cases h1:a[i]? <;> cases h2:b[i]? <;> simp_all
theorem Zox(e:Edit):JV e= .mk e.kind e.new e.old (e.words.map Z23) (Z1C e.kids) e.list (JP e.ops):=by cases e;rfl
theorem Zik(k:Kid):Z99 k=⟨k.at_,JV k.e⟩:=by cases k;rfl
theorem Zdw(o:Op):ZcF o=⟨Z8e o.kind,o.n,o.l,JV o.e⟩:=by cases o;rfl
theorem Zzc:Contract Try.prog cfg 140 Z8Z:=by
 refine Zv2 ?_
 intro N e _ hp hN
 simp only [Z1m,Z82] at hp hN
 have h1:=Yg e
 have h2:=Ym e.kids
 have h3:=ZM e.ops
 have ha:=Zox e
 refine ZAY _ _ _ ?_
 refine Z6 (ι:=Int × List WEdit) (fun s=> Z2L e s.1 s.2) (fun s=> 0≤s.1∧s.1≤e.words.length∧s.2.length=s.1∧s.2++(e.words.drop s.1.toNat).map Z23=e.words.map Z23) (fun s=> ((e.words.length:Int) - s.1).toNat) (0,[]) rfl ⟨by simp,by simp,by simp,by simp⟩ ?_
 rintro ⟨i,ws⟩ ⟨g1,g2,g3,g4⟩
 dsimp only at g1 g2 g3 g4
 refine Zq7 _ _ _ _ _ _ ?_
 (simp only [vcS])
 refine ⟨fun hi=> ?_,fun hi=> ?_⟩
 ·rw [Y1 g1 hi (WEdit.mk 0 0 0 0)] at g4
  simp only [List.map_cons] at g4
  refine ⟨⟨g1,hi⟩,by simp;omega,by unfold InR;omega,(i+1,ws++[Z23 (e.words.getD i.toNat (WEdit.mk 0 0 0 0))]),rfl,⟨by dsimp only;omega,by dsimp only;omega,by simp;omega,?_⟩,by dsimp only;omega⟩
  simp only [List.append_assoc,List.cons_append,List.nil_append]
  exact g4
 ·rw [List.drop_of_length_le (by omega)] at g4
  simp only [List.map_nil,List.append_nil] at g4
  refine Z6 (ι:=Int × List Kid) (fun s=> Z2K e ws s.1 s.2) (fun s=> 0≤s.1∧s.1≤e.kids.length∧s.2.length=s.1∧s.2++Z1C (e.kids.drop s.1.toNat)=Z1C e.kids) (fun s=> ((e.kids.length:Int) - s.1).toNat) (0,[]) rfl ⟨by simp,by simp,by simp,by simp⟩ ?_
  rintro ⟨j,ks⟩ ⟨f1,f2,f3,f4⟩
  dsimp only at f1 f2 f3 f4
  refine Zq6 _ _ _ _ _ _ _ ?_
  rintro y1 hy1 y2 hy2 y3 hy3
  (simp only [vcS])
  refine ⟨fun hj=> ?_,fun hj=> ?_⟩
  ·have hm:=YM (Zg (l:=e.kids) (i:=j.toNat) (by omega) (KidOf.mk 0 Edit.nil))
   rw [Y1 f1 hj (KidOf.mk 0 Edit.nil)] at f4
   rw [←hy1] at f4 hm
   simp only [Z1C,Zik] at f4
   rw [←hy2] at f4 hm
   rw [←hy3] at f4
   refine ⟨⟨f1,hj⟩,⟨f1,hj⟩,by simp only [Z1m];omega,by simp only [Z82];omega,by simp;omega,by unfold InR;omega,(j+1,ks++[⟨y1.at_,y3⟩]),rfl,⟨by dsimp only;omega,by dsimp only;omega,by simp;omega,?_⟩,by dsimp only;omega⟩
   simp only [List.append_assoc,List.cons_append,List.nil_append]
   exact f4
  ·rw [List.drop_of_length_le (by omega)] at f4
   simp only [Z1C,List.append_nil] at f4
   refine Z6 (ι:=Int × List Op) (fun s=> Z0Q e ws ks s.1 s.2) (fun s=> 0≤s.1∧s.1≤e.ops.length∧s.2.length=s.1∧s.2++JP (e.ops.drop s.1.toNat)=JP e.ops) (fun s=> ((e.ops.length:Int) - s.1).toNat) (0,[]) rfl ⟨by simp,by simp,by simp,by simp⟩ ?_
   rintro ⟨k,os⟩ ⟨d1,d2,d3,d4⟩
   dsimp only at d1 d2 d3 d4
   refine Zq5 _ _ _ _ _ _ _ _ ?_
   (simp only [vcS])
   refine ⟨fun hj=> ⟨⟨d1,hj⟩,?_⟩,fun hj=> ?_⟩
   ·have hm:=ZL (Zg (l:=e.ops) (i:=k.toNat) (by omega) Op.nil)
    rw [Y1 d1 hj Op.nil] at d4
    simp only [JP,Zdw] at d4
    rw [ZI] at hm
    have next:∀ kd:Int,kd=Z8e (e.ops.getD k.toNat Op.nil).kind→∀ (R:AExit→LSt U→Prop),(∀ s,(∃ j:Int × List Op,s=Z0Q e ws ks j.1 j.2∧(0≤j.1∧j.1≤e.ops.length∧j.2.length=j.1∧j.2++JP (e.ops.drop j.1.toNat)=JP e.ops)∧((e.ops.length:Int) - j.1).toNat < ((e.ops.length:Int) - k).toNat)→True)→True:=fun _ _ _ _=> trivial
    have key:∀ kd:Int,kd=Z8e (e.ops.getD k.toNat Op.nil).kind→∀ (Q':AExit→LSt U→Prop),ZhY N e ws ks k os kd (fun s2=> ∃ j:Int × List Op,s2=Z0Q e ws ks j.1 j.2∧(0≤j.1∧j.1≤e.ops.length∧j.2.length=j.1∧j.2++JP (e.ops.drop j.1.toNat)=JP e.ops)∧((e.ops.length:Int) - j.1).toNat < ((e.ops.length:Int) - k).toNat) Q':=by
     intro kd hkd Q'
     refine Zq8 _ _ _ _ _ _ _ _ _ ?_
     rintro z1 hz1 z2 hz2 z3 hz3
     rw [←hz1,←hz2] at hm
     rw [←hz1,←hz2,←hz3] at d4
     rw [←hz1] at hkd
     refine ⟨by simp only [Z1m];omega,by simp only [Z82];omega,by simp;omega,by unfold InR;omega,(k+1,os++[⟨kd,z1.n,z1.l,z3⟩]),rfl,⟨by dsimp only;omega,by dsimp only;omega,by simp;omega,?_⟩,by dsimp only;omega⟩
     rw [hkd]
     simp only [List.append_assoc,List.cons_append,List.nil_append]
     exact d4
    refine ⟨fun hq=> ⟨by unfold InR;omega,key _ (by unfold Z8e;rw [if_pos hq]) _⟩,fun hq=> key _ (by unfold Z8e;rw [if_neg (by omega)]) _⟩
   ·rw [List.drop_of_length_le (by omega)] at d4
    simp only [JP,List.append_nil] at d4
    rw [g4,f4,d4]
    simp only [ZgP,ha]
    (repeat' (first | exact trivial | exact rfl | apply And.intro))
end Go.AM.Ytpjenobkibfpcaa
