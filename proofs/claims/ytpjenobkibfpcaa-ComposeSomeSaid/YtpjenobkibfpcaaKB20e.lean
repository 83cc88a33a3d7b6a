import Derived.Test.YtpjenobkibfpcaaCL25i
import Derived.Test.YtpjenobkibfpcaaKP20
import Derived.Test.YtpjenobkibfpcaaKL21t
import Derived.Test.YtpjenobkibfpcaaKB20b
set_option linter.unusedSimpArgs false
set_option linter.unusedVariables false
namespace Go.AM.Ytpjenobkibfpcaa
open Go.AM Go.Proofs
theorem Zd9(e:Edit):18≤ctE e:=by
 have:=Z3E e
 have:=Yh e.old
 have:=Yh e.new
 omega
theorem Zlr(o n:Tree):ctE (.mk 1 o n [] [] 0 [])=16+Zq o+Zq n:=by simp [ctE,Z0i,YS]
mutual
theorem Z94:∀ (e:Edit),ctE (Zv e)=ctE e
 | .mk k o n w ks l os=> by
  have h1:=Zex ks
  have h2:=Zew os
  simp only [Zv,ctE,List.length_map]
  omega
theorem Zex:∀ (ks:List (KidOf Edit)),Z0i (Y3 ks)=Z0i ks
 | []=> rfl
 | k ::r=> by
  have h1:=Zjp k
  have h2:=Zex r
  simp only [Y3,Z0i]
  omega
theorem Zjp:∀ (k:KidOf Edit),Z2X (YN k)=Z2X k
 | ⟨a,e⟩=> by
  have:=Z94 e
  simp only [YN,Z2X]
  omega
theorem Zew:∀ (os:List (OpOf Edit)),YS (Y6 os)=YS os
 | []=> rfl
 | o ::r=> by
  have h1:=Znk o
  have h2:=Zew r
  simp only [Y6,YS]
  omega
theorem Znk:∀ (o:OpOf Edit),Z1Y (ZZ o)=Z1Y o
 | ⟨k,n,l,e⟩=> by
  have:=Z94 e
  rw [JC]
  dsimp only
  split
  ·try rfl
  ·split
   ·try rfl
   ·split
    ·simp only [Z1Y];omega
    ·try rfl
end
theorem Z4c:∀ (a b:List Op),YS (a++b)=YS a+YS b
 | [],b=> by simp [YS]
 | o ::r,b=> by simp only [List.cons_append,YS,Z4c r b];omega
def ctW(w:Wst):Nat:=YS w.out+(Zg w.gone+if w.gone.length=0 then 0 else 34)+(Zg w.brought+if w.brought.length=0 then 0 else 34)
theorem Z2V:ctE Edit.nil=18:=rfl
theorem Zd7(w:Wst):YS (Z3 w).out=ctW w:=by
 simp only [Z3,Z0v,ctW,Z4c]
 by_cases h1:w.gone.length=0
 ·rw [if_pos h1,if_pos h1,List.eq_nil_of_length_eq_zero h1]
  by_cases h2:w.brought.length=0
  ·rw [if_pos h2,if_pos h2,List.eq_nil_of_length_eq_zero h2];simp [YS,Zg]
  ·rw [if_neg h2,if_neg h2];simp only [YS,Z1Y,Z2V,Zg];omega
 ·rw [if_neg h1,if_neg h1]
  by_cases h2:w.brought.length=0
  ·rw [if_pos h2,if_pos h2,List.eq_nil_of_length_eq_zero h2];simp only [YS,Z1Y,Z2V,Zg];omega
  ·rw [if_neg h2,if_neg h2];simp only [YS,Z1Y,Z2V];omega
theorem Zlq(w:Wst)(n:Int):ctW (ZX w n)≤ctW w+34:=by
 have h:=Zd7 w
 have e:ctW (ZX w n)=YS (Z1K (Z3 w).out n):=by simp [ZX,ctW,Zg]
 rw [e,←h]
 rcases Z01 (Z3 w).out n with e | ⟨a,q,e1,_,e3⟩
 ·rw [e,Z4c];simp only [YS,Z1Y,Z2V,Zg];omega
 ·rw [e3,e1,Z4c,Z4c];simp only [YS,Z1Y,Z3m];omega
mutual
theorem Z9K:∀ (e:Edit),ctE (ZR e)≤ctE e
 | .mk k o n w ks l os=> by
  have h1:=ZhZ ks
  have h2:=ZhY l os ⟨[],[],[]⟩
  have h3:=Je o
  have h4:=Je n
  have:=Yh o
  have:=Yh n
  have hf:=Zd7 (YL l os ⟨[],[],[]⟩)
  have hz:ctW ⟨[],[],[]⟩=0:=rfl
  rw [ZR]
  split
  ·simp only [ctE,Z0i,YS,List.length_nil];omega
  ·split
   ·simp only [ctE,YS,Z3X];omega
   ·split
    ·simp only [ctE,Z0i,Z3X,List.length_nil];omega
    ·simp only [ctE,Z0i,YS,Z3X,List.length_nil];omega
theorem ZhZ:∀ (ks:List (KidOf Edit)),Z0i (Z0h ks)≤Z0i ks
 | []=> Nat.le_refl _
 | k ::r=> by
  have h1:=Znl k
  have h2:=ZhZ r
  simp only [Z0h,Z0i]
  omega
theorem Znl:∀ (k:KidOf Edit),Z2X (Z2J k)≤Z2X k
 | ⟨a,e⟩=> by
  have:=Z9K e
  simp only [Z2J,Z2X]
  omega
theorem ZhY(list:Int):∀ (os:List (OpOf Edit)) (w:Wst),ctW (YL list os w)≤ctW w+YS os
 | [],w=> Nat.le_refl _
 | o ::r,w=> by
  have h1:=ZqG list o w
  have h2:=ZhY list r (Z1t list o w)
  simp only [YL,YS]
  omega
theorem ZqG(list:Int):∀ (o:OpOf Edit) (w:Wst),ctW (Z1t list o w)≤ctW w+Z1Y o
 | ⟨k,n,l,e⟩,w=> by
  have he:=Z9K e
  have h18:=Zd9 e
  have hl:=Zaw l
  have hc:=fun a b=> JG a b
  rw [Z1t]
  simp only [Z1Y]
  split
  ·have:=Zlq w n;omega
  ·split
   ·have:=JG w.gone (Z5 l)
    simp only [ctW]
    split <;> split <;> omega
   ·split
    ·have:=JG w.brought (Z5 l)
     simp only [ctW]
     split <;> split <;> split <;> omega
    ·split
     ·split
      ·have:=Zlq w 1;omega
      ·have hf:=Zd7 w
       show YS ((Z3 w).out++[⟨3,0,[],ZR e⟩])+_+_≤_
       rw [Z4c,hf]
       simp only [YS,Z1Y,Zg,List.length_nil,if_pos]
       omega
     ·omega
end
def JI(φ:Op→Int):List Op→Int
 | []=> 0
 | o ::r=> φ o+JI φ r
def ZnG(φ:Op→Int):Prop:=∀ o n,YI o→1≤n→¬Z2 o≤n→φ (ZP o n)+φ (Z03 o n)=φ o
theorem ZgF{φ:Op→Int}(hφ:ZnG φ){p:List Op}{n:Int}(hp:∀ o∈p,YI o)(hl:p.length≠0)(h1:1≤n):φ (ZP (p.getD 0 Op.nil) n)+JI φ (Y2 p n)=JI φ p∧∀ o∈Y2 p n,YI o:=by
 cases p with
 | nil=> exact absurd rfl hl
 | cons o r=>
  have ho:=hp o List.mem_cons_self
  unfold Y2
  simp only [List.getD_cons_zero,List.drop_succ_cons,List.drop_zero]
  by_cases h:Z2 o≤n
  ·rw [if_pos h]
   have e:ZP o n=o:=by unfold ZP;rw [if_pos h]
   rw [e]
   exact ⟨rfl,fun x hx=> hp x (List.mem_cons_of_mem _ hx)⟩
  ·rw [if_neg h]
   refine ⟨by simp only [JI];have:=hφ o n ho h1 h;omega,fun x hx=> ?_⟩
   rcases List.mem_cons.1 hx with rfl | hx
   ·exact (Zdf ho h1 h).1
   ·exact hp x (List.mem_cons_of_mem _ hx)
theorem Zcy{φ ψ:Op→Int}(hφ:ZnG φ)(hψ:ZnG ψ)(a:Int):∀ (k:Nat) (p q:List Op) (out:List Piece),p.length+q.length≤k→(∀ o∈p,YI o)→(∀ o∈q,YI o)→(Y4 a 2 p q out).2.1=true→
  ∃ ps,(Y4 a 2 p q out).1=out++ps∧JI φ (Z37 ps)=JI φ p∧JI ψ (Z36 ps)=JI ψ q∧ps.length≤p.length+q.length:=by
 intro k
 induction k with
 | zero=>
  intro p q out hk hp hq h
  have e1:p=[]:=List.eq_nil_of_length_eq_zero (by omega)
  have e2:q=[]:=List.eq_nil_of_length_eq_zero (by omega)
  subst e1 e2
  rw [Y4,dif_neg (by simp [sgl]),dif_neg (by simp [sgl]),dif_pos (by simp)]
  exact ⟨[],by simp,rfl,rfl,by simp⟩
 | succ k ih=>
  intro p q out hk hp hq h
  rw [Y4] at h ⊢
  by_cases h1:sgl a p=true
  ·rw [dif_pos h1] at h ⊢
   obtain ⟨g1,_⟩:=Z38.1 h1
   cases p with
   | nil=> exact absurd rfl g1
   | cons o r=>
    simp only [List.getD_cons_zero,List.drop_succ_cons,List.drop_zero] at h ⊢
    obtain ⟨ps,e,f1,f2,f3⟩:=ih r q _ (by simp only [List.length_cons] at hk;omega) (fun x hx=> hp x (List.mem_cons_of_mem _ hx)) hq h
    refine ⟨⟨1,o,Op.nil⟩ ::ps,by rw [e,List.append_assoc];rfl,?_,?_,by simp only [List.length_cons];omega⟩
    ·show JI φ (o ::Z37 ps)=_
     simp only [JI];omega
    ·exact f2
  ·rw [dif_neg h1] at h ⊢
   by_cases h2:sgl 2 q=true
   ·rw [dif_pos h2] at h ⊢
    obtain ⟨g1,_⟩:=Z38.1 h2
    cases q with
    | nil=> exact absurd rfl g1
    | cons o r=>
     simp only [List.getD_cons_zero,List.drop_succ_cons,List.drop_zero] at h ⊢
     obtain ⟨ps,e,f1,f2,f3⟩:=ih p r _ (by simp only [List.length_cons] at hk;omega) hp (fun x hx=> hq x (List.mem_cons_of_mem _ hx)) h
     refine ⟨⟨2,Op.nil,o⟩ ::ps,by rw [e,List.append_assoc];rfl,f1,?_,by simp only [List.length_cons];omega⟩
     show JI ψ (o ::Z36 ps)=_
     simp only [JI];omega
   ·rw [dif_neg h2] at h ⊢
    by_cases h3:p.length=0∨q.length=0
    ·rw [dif_pos h3] at h ⊢
     by_cases h4:decide (p.length=0)=decide (q.length=0)
     ·rw [if_pos h4]
      have h5:p.length=0∧q.length=0:=by
       have:=decide_eq_decide.1 h4
       omega
      rw [List.eq_nil_of_length_eq_zero h5.1,List.eq_nil_of_length_eq_zero h5.2]
      exact ⟨[],by simp,rfl,rfl,by simp⟩
     ·rw [if_neg h4] at h;cases h
    ·rw [dif_neg h3] at h ⊢
     have l1:p.length≠0:=by omega
     have l2:q.length≠0:=by omega
     have p1:=YV (hp _ (Zm (l:=p) (i:=0) (by omega) Op.nil))
     have p2:=YV (hq _ (Zm (l:=q) (i:=0) (by omega) Op.nil))
     generalize hn:min (Z2 (p.getD 0 Op.nil)) (Z2 (q.getD 0 Op.nil))=n at h ⊢
     obtain ⟨s1,s2⟩:=ZgF hφ hp l1 (n:=n) (by omega)
     obtain ⟨t1,t2⟩:=ZgF hψ hq l2 (n:=n) (by omega)
     have c1:=J7 p n l1
     have c2:=J7 q n l2
     have c3:Z2 (p.getD 0 Op.nil)≤n→(Y2 p n).length < p.length:=fun h=> J6 p _ l1 h
     have c4:Z2 (q.getD 0 Op.nil)≤n→(Y2 q n).length < q.length:=fun h=> J6 q _ l2 h
     obtain ⟨ps,e,f1,f2,f3⟩:=ih (Y2 p n) (Y2 q n) _ (by omega) s2 t2 h
     refine ⟨⟨0,ZP (p.getD 0 Op.nil) n,ZP (q.getD 0 Op.nil) n⟩ ::ps,by rw [e,List.append_assoc];rfl,?_,?_,by simp only [List.length_cons];omega⟩
     ·show JI φ (ZP (p.getD 0 Op.nil) n ::Z37 ps)=_
      simp only [JI];omega
     ·show JI ψ (ZP (q.getD 0 Op.nil) n ::Z36 ps)=_
      simp only [JI];omega
def φA(o:Op):Int:=if o.kind=2 then 0 else Z2 o
def φB(o:Op):Int:=if o.kind=1 then 0 else Z2 o
def φC(o:Op):Int:=Zg o.l+ctE o.e - 18
theorem Zio:∀ l,JI φA l=J8 l
 | []=> rfl
 | o ::r=> by simp only [JI,J8,φA,Zio r]
theorem Zin:∀ l,JI φB l=Jn l
 | []=> rfl
 | o ::r=> by simp only [JI,Jn,φB,Zin r]
theorem ZeV:∀ l,JI φC l+34*l.length=YS l
 | []=> rfl
 | o ::r=> by
  have:=ZeV r
  simp only [JI,YS,φC,Z3m,List.length_cons]
  omega
theorem Zdg(o:Op)(n:Int):(Z03 o n).kind=o.kind:=by unfold Z03;split <;> rfl
theorem Zi5{o:Op}{n:Int}(ho:YI o)(h1:1≤n)(hn:¬Z2 o≤n):Z2 (Z03 o n)=Z2 o - n:=by
 obtain ⟨_,_,v3,_⟩:=Z7z (a:=1) ho h1 hn
 have hl:=YJ o
 rcases ho with ⟨k0,k1,k2,k3⟩ | ⟨k0,k1,k2,k3⟩ | ⟨k0,k1,k2⟩
 ·unfold Z03
  rw [if_pos k0,YJ]
  dsimp only
  rw [if_neg (by omega)] at hl ⊢
  omega
 ·unfold Z03
  rw [if_neg (by omega),YJ]
  dsimp only
  rw [if_neg (by omega)] at hl ⊢
  rw [List.length_drop]
  omega
 ·rw [if_pos k0] at hl
  omega
theorem ZuN:ZnG φA:=by
 intro o n ho h1 hn
 obtain ⟨_,_,v3,_⟩:=Z7z (a:=1) ho h1 hn
 have:=Zi5 ho h1 hn
 unfold φA
 rw [Z4k,Zdg,v3,this]
 split <;> omega
theorem ZuM:ZnG φB:=by
 intro o n ho h1 hn
 obtain ⟨_,_,v3,_⟩:=Z7z (a:=1) ho h1 hn
 have:=Zi5 ho h1 hn
 unfold φB
 rw [Z4k,Zdg,v3,this]
 split <;> omega
theorem ZuL:ZnG φC:=by
 intro o n ho h1 hn
 have hl:=YJ o
 unfold φC ZP Z03
 rw [if_neg hn]
 rcases ho with ⟨k0,k1,k2,k3⟩ | ⟨k0,k1,k2,k3⟩ | ⟨k0,k1,k2⟩
 ·rw [if_pos k0,if_pos k0]
  dsimp only
  rw [k3,k1,Z2V]
  simp [Zg]
 ·rw [if_neg (by omega),if_neg (by omega)]
  dsimp only
  have:=JG (o.l.take n.toNat) (o.l.drop n.toNat)
  rw [List.take_append_drop] at this
  rw [k3,Z2V]
  omega
 ·rw [if_pos k0] at hl
  omega
end Go.AM.Ytpjenobkibfpcaa
namespace Go.AM.Ytpjenobkibfpcaa
open Go.AM Go.Proofs
theorem Zbw{D list:Int}:∀ {l:List Tree},Yn D list l=true→Yn (-1) list l=true
 | [],_=> rfl
 | t ::r,h=> by
  simp only [Yn,Bool.and_eq_true] at h ⊢
  exact ⟨Jk _ _ _ (by decide) h.1,Zbw h.2⟩
mutual
theorem JU:∀ (e:Edit) (d m:Int),m < 0→Z0 e d=true→Z0 e m=true
 | .mk k o n w ks l os,d,m,hm,h=> by
  have h1:=Za8 ks
  have h2:=Za6 l os
  rw [Z0] at h ⊢
  split at h
  ·cases h
  ·rename_i a
   rw [if_neg (by omega)]
   split at h
   ·cases h
   ·rename_i b
    rw [if_neg b]
    split at h
    ·rename_i c
     rw [if_pos c,Zd6 hm]
     simp only [Bool.and_eq_true] at h ⊢
     exact ⟨⟨Jk _ _ _ (by decide) h.1.1,Jk _ _ _ (by decide) h.1.2⟩,h.2⟩
    ·rename_i c
     rw [if_neg c]
     simp only [Bool.and_eq_true] at h ⊢
     exact ⟨⟨⟨⟨h.1.1.1.1,h1 _ _ (m - 1) (by omega) h.1.1.1.2⟩,h.1.1.2⟩,h2 _ (m - 1) (by omega) h.1.2⟩,h.2⟩
theorem Za8:∀ (ks:List (KidOf Edit)) (last d m:Int),m < 0→Zr last ks d=true→Zr last ks m=true
 | [],_,_,_,_,_=> rfl
 | k ::r,last,d,m,hm,h=> by
  simp only [Zr,Bool.and_eq_true] at h ⊢
  exact ⟨Zfa k last d m hm h.1,Za8 r k.at_ d m hm h.2⟩
theorem Zfa:∀ (k:KidOf Edit) (last d m:Int),m < 0→YY last k d=true→YY last k m=true
 | ⟨a,e⟩,last,d,m,hm,h=> by
  simp only [YY,Bool.and_eq_true] at h ⊢
  exact ⟨h.1,JU e d m hm h.2⟩
theorem Za6(list:Int):∀ (os:List (OpOf Edit)) (d m:Int),m < 0→Zt list os d=true→Zt list os m=true
 | [],_,_,_,_=> rfl
 | o ::r,d,m,hm,h=> by
  simp only [Zt,Bool.and_eq_true] at h ⊢
  exact ⟨ZgX list o d m hm h.1,Za6 list r d m hm h.2⟩
theorem ZgX(list:Int):∀ (o:OpOf Edit) (d m:Int),m < 0→Za list o d=true→Za list o m=true
 | ⟨k,n,l,e⟩,d,m,hm,h=> by
  have he:=JU e d m hm
  rw [Za] at h ⊢
  split at h
  ·rename_i h0;rw [if_pos h0];exact h
  ·rename_i h0
   rw [if_neg h0]
   split at h
   ·cases h
   ·rename_i h1
    rw [if_neg h1]
    split at h
    ·rename_i h2
     rw [if_pos h2,Zd6 hm]
     simp only [Bool.and_eq_true] at h ⊢
     exact ⟨⟨Zbw h.1.1,h.1.2⟩,h.2⟩
    ·rename_i h2
     rw [if_neg h2]
     simp only [Bool.and_eq_true] at h ⊢
     exact ⟨⟨h.1.1,he h.1.2⟩,h.2⟩
end
structure Wk (e:Edit):Prop where
 r:Z0 e (-1)=true
 g:ZS e
theorem Wk.of{e:Edit}{d:Int}(h:Z0 e d=true)(g:ZS e):Wk e:=⟨JU e d _ (by decide) h,g⟩
theorem Jp{n:Int}(h0:0≤n)(h9:n≤9):isI n:=by unfold isI;omega
theorem Ze0{o n:Tree}(h1:Z9 o (-1)=true)(h2:Z9 n (-1)=true)(h3:o.kind≠10)(h4:n.kind≠10):Z0 (.mk 1 o n [] [] 0 []) (-1)=true:=by
 rw [Z0,if_neg (by decide),if_neg (by simp),if_pos rfl,Zd6 (by decide),h1,h2]
 simpa using ⟨h3,h4⟩
theorem Zmz{w:List WEdit}{ks:List Kid}(h1:Zk (-1) w=true)(h2:Zr (-1) ks (-2)=true):Z0 (.mk 2 Tree.nil Tree.nil w ks 0 []) (-1)=true:=by
 rw [Z0,if_neg (by decide),if_neg (by simp [ZT,Tree.nil]),if_neg (by decide),h1,show (-1:Int) - 1= -2 from rfl,h2]
 simp [Zt,Z0d,Z0c]
theorem Zmy{l:Int}{os:List Op}(hl:2≤l∧l≤9)(h:Zt l os (-2)=true)(h1:Z0d os 0 < 1048576)(h2:Z0c os 0 < 1048576):Z0 (.mk 3 Tree.nil Tree.nil [] [] l os) (-1)=true:=by
 rw [Z0,if_neg (by decide),if_neg (by simp [ZT,Tree.nil]),if_neg (by decide),show (-1:Int) - 1= -2 from rfl,h]
 simp only [Zk,Zr,Bool.true_and,Bool.and_true,Bool.and_eq_true,decide_eq_true_eq]
 exact ⟨by omega,h1,h2⟩
theorem Zbp:∀ {l:List WEdit} {last:Int},asc WEdit.at_ last l→(∀ w∈l,w.at_≤65534∧w.mask≠0∧ZK w.old w.mask=true∧ZK w.new w.mask=true)→Zk last l=true
 | [],_,_,_=> rfl
 | a ::r,last,h,hw=> by
  obtain ⟨h1,h2,h3,h4⟩:=hw a List.mem_cons_self
  simp only [Zk,Bool.and_eq_true,decide_eq_true_eq]
  exact ⟨⟨⟨⟨h.1,h1,h2⟩,h3⟩,h4⟩,Zbp h.2 fun w hw'=> hw w (List.mem_cons_of_mem _ hw')⟩
theorem Zc8{d:Int}:∀ {l:List Kid} {last:Int},asc KidOf.at_ last l→(∀ k∈l,k.at_≤65534∧k.e.kind≠0∧Z0 k.e d=true)→Zr last l d=true
 | [],_,_,_=> rfl
 | a ::r,last,h,hw=> by
  obtain ⟨h1,h2,h3⟩:=hw a List.mem_cons_self
  simp only [Zr,Z3e,Bool.and_eq_true,decide_eq_true_eq]
  exact ⟨⟨⟨h.1,h1,h2⟩,h3⟩,Zc8 h.2 fun w hw'=> hw w (List.mem_cons_of_mem _ hw')⟩
theorem Zc7{list d:Int}:∀ {l:List Op},(∀ o∈l,Za list o d=true)→Zt list l d=true
 | [],_=> rfl
 | a ::r,h=> by
  simp only [Zt,Bool.and_eq_true]
  exact ⟨h a List.mem_cons_self,Zc7 fun o ho=> h o (List.mem_cons_of_mem _ ho)⟩
theorem Z3H{D list:Int}:∀ {l:List Tree},(∀ t∈l,Z9 (.mk list [] [t]) D=true)→Yn D list l=true
 | [],_=> rfl
 | t ::r,h=> by
  simp only [Yn,Bool.and_eq_true]
  exact ⟨h t List.mem_cons_self,Z3H fun x hx=> h x (List.mem_cons_of_mem _ hx)⟩
theorem ZdZ{list:Int}(hl:2≤list∧list≤9){t:Tree}(h1:Jz list t=true)(h2:Z9 t (-1)=true):Z9 (.mk list [] [t]) (-1)=true:=
 Zc6 hl (by simp) fun k hk=> by rw [List.mem_singleton.1 hk];exact ⟨h1,h2⟩
theorem Zs7{list n:Int}(h1:1≤n)(h2:n≤1048576)(d:Int):Za list ⟨0,n,[],Edit.nil⟩ d=true:=by
 rw [Za,if_pos rfl,Z2u]
 simp only [List.length_nil,Bool.and_true,decide_eq_true_eq]
 exact ⟨h1,h2,trivial⟩
theorem Z88{list k d:Int}{l:List Tree}(hk:k=1∨k=2)(h:Yn (dT d) list l=true)(hl:l≠[]):Za list ⟨k,0,l,Edit.nil⟩ d=true:=by
 rw [Za,if_neg (by omega),if_neg (by omega),if_pos (by omega),Z2u,h]
 have:=List.length_pos_iff.2 hl
 simp only [Bool.true_and,Bool.and_true,decide_eq_true_eq]
 omega
theorem Zkz{list d:Int}{e:Edit}(h:Z0 e d=true)(h0:e.kind≠0)(hl:7 < list)(hw:list=8∨e.kind=2∨e.kind=1∧e.old.kind=1∧e.new.kind=1):Za list ⟨3,0,[],e⟩ d=true:=by
 rw [Za,if_neg (by decide),if_neg (by decide),if_neg (by decide),h]
 simp only [List.length_nil,Bool.and_true,Bool.and_eq_true,decide_eq_true_eq]
 exact ⟨⟨trivial,h0,hl⟩,hw⟩
def Wl(list:Int)(e:Edit):Prop:=list=8∨e.kind=2∨e.kind=1∧e.old.kind=1∧e.new.kind=1
theorem Z0t(t:Tree):(Z7 t).kind=t.kind:=Z2c t
theorem ZdE{w m:Int}(h:∀ i,i < 8→YC m (i:Nat)=false→Zd w i=0):ZK w m=true:=by
 unfold ZK mix of8
 rw [decide_eq_true_eq]
 have z:∀ i,i < 8→Yx w 0 m i=0:=by
  intro i hi
  unfold Yx
  split
  ·exact Zdd i
  ·rename_i hn;exact h i hi (by simpa using hn)
 rw [z 0 (by omega),z 1 (by omega),z 2 (by omega),z 3 (by omega),z 4 (by omega),z 5 (by omega),z 6 (by omega),z 7 (by omega)]
 try rfl
theorem Zrn {a b:WEdit} (ra:Z1s a) (rb:Z1s b) (ha:a.at_≤65534∧a.mask≠0∧ZK a.old a.mask=true∧ZK a.new a.mask=true) (hb:ZK b.old b.mask=true∧ZK b.new b.mask=true)
  (hc:(YM a b).2=true):((YM a b).1.at_≤65534∧(YM a b).1.mask≠0∧ZK (YM a b).1.old (YM a b).1.mask=true∧ZK (YM a b).1.new (YM a b).1.mask=true)∧Z1s (YM a b).1:=by
 have hw:Z9L a b=true:=by
  unfold YM at hc
  split at hc
  ·assumption
  ·cases hc
 have e:(YM a b).1=⟨a.at_,orM a.mask b.mask,mix b.old a.old a.mask,mix a.new b.new b.mask⟩:=by unfold YM;rw [if_pos hw]
 obtain ⟨m1,m2⟩:=Zpp ra.2.1 rb.2.1
 rw [e]
 dsimp only
 refine ⟨⟨ha.1,fun h=> ?_,ZdE fun i hi hn=> ?_,ZdE fun i hi hn=> ?_⟩,ra.1,m1,Z0s _ _ _,Z0s _ _ _⟩
 ·refine ha.2.1 ?_
  have z:∀ i:Nat,YC a.mask (i:Int)=false:=by
   intro i
   have:=m2 i
   rw [h] at this
   have z0:YC 0 (i:Int)=false:=by unfold YC;simp
   rw [z0] at this
   cases hn:YC a.mask (i:Int) with
   | false=> rfl
   | true=> rw [hn] at this;simp at this
  have h0:=z 0;have h1:=z 1;have h2:=z 2;have h3:=z 3;have h4:=z 4;have h5:=z 5;have h6:=z 6;have h7:=z 7
  have:=ra.2.1
  simp only [YC,decide_eq_false_iff_not,Int.toNat_natCast] at h0 h1 h2 h3 h4 h5 h6 h7
  omega
 ·rw [m2 i] at hn
  simp only [Bool.or_eq_false_iff] at hn
  rw [Jv hi,if_neg (by rw [hn.1];decide)]
  exact Z1l hb.1 hi hn.2
 ·rw [m2 i] at hn
  simp only [Bool.or_eq_false_iff] at hn
  rw [Jv hi,if_neg (by rw [hn.2];decide)]
  exact Z1l ha.2.2.2 hi hn.1
def Z7E{β:Type}(φ:β→Nat):List β→Nat
 | []=> 0
 | a ::r=> φ a+Z7E φ r
theorem Zek{β:Type}{at_:β→Int}{one:β→β→β × Bool}(φ:β→Nat):∀ (k:Nat) (p q L:List β),p.length+q.length≤k→(∀ a∈p,∀ b∈q,(one a b).2=true→φ (one a b).1≤φ a+φ b)→Zj at_ one p q=some L→Z7E φ L≤Z7E φ p+Z7E φ q:=by
 intro k
 induction k with
 | zero=>
  intro p q L hk _ h
  have e1:p=[]:=List.eq_nil_of_length_eq_zero (by omega)
  have e2:q=[]:=List.eq_nil_of_length_eq_zero (by omega)
  subst e1 e2
  rw [Zj] at h
  cases h
  simp [Z7E]
 | succ k ih=>
  intro p q L hk ho h
  match p,q with
  | [],q=> rw [Zj] at h;cases h;simp [Z7E]
  | a ::p,[]=> rw [Zj] at h;cases h;simp [Z7E]
  | a ::p,b ::q=>
   simp only [List.length_cons] at hk
   rw [Zj] at h
   split at h
   ·obtain ⟨L',hL,rfl⟩:=Option.map_eq_some_iff.1 h
    have:=ih p (b ::q) L' (by simp only [List.length_cons];omega) (fun x hx y hy=> ho x (List.mem_cons_of_mem _ hx) y hy) hL
    simp only [Z7E] at this ⊢;omega
   ·split at h
    ·obtain ⟨L',hL,rfl⟩:=Option.map_eq_some_iff.1 h
     have:=ih (a ::p) q L' (by simp only [List.length_cons];omega) (fun x hx y hy=> ho x hx y (List.mem_cons_of_mem _ hy)) hL
     simp only [Z7E] at this ⊢;omega
    ·split at h
     ·rename_i hc
      obtain ⟨L',hL,rfl⟩:=Option.map_eq_some_iff.1 h
      have:=ih p q L' (by omega) (fun x hx y hy=> ho x (List.mem_cons_of_mem _ hx) y (List.mem_cons_of_mem _ hy)) hL
      have:=ho a List.mem_cons_self b List.mem_cons_self hc
      simp only [Z7E] at*;omega
     ·cases h
theorem Zb6:∀ l:List Kid,Z7E Z2X l=Z0i l
 | []=> rfl
 | k ::r=> by simp only [Z7E,Z0i,Zb6 r]
theorem Z7D{β:Type}:∀ l:List β,Z7E (fun _=> 1) l=l.length
 | []=> rfl
 | k ::r=> by simp only [Z7E,List.length_cons,Z7D r];omega
theorem ZgS:∀ {l:List Kid},(∀ k∈l,isI k.at_∧ZS k.e)→JT l
 | [],_=> trivial
 | ⟨a,e⟩ ::r,h=> ⟨h _ List.mem_cons_self,ZgS fun k hk=> h k (List.mem_cons_of_mem _ hk)⟩
theorem ZgR:∀ {l:List Op},(∀ o∈l,YA o)→JL l
 | [],_=> trivial
 | o ::r,h=> ⟨h _ List.mem_cons_self,ZgR fun k hk=> h k (List.mem_cons_of_mem _ hk)⟩
structure ComWk (K:Prop) (c:Edit × Bool) (p q:Edit):Prop where
 wk:c.2=true→Wk c.1
 ct:K→c.2=true→ctE c.1+18≤ctE p+ctE q
 kind:p.kind≠0→q.kind≠0→c.2=true→c.1.kind≠0
 wl:∀ list,7 < list→list≤9→p.kind≠0→q.kind≠0→c.2=true→Wl list p→Wl list q→Wl list c.1
theorem ZfX{e:Edit}{t:Tree}(h:(doB e t).2=true):∃ v,doE false e t=some v∧(doB e t).1=Z7 v:=by
 unfold doB at h ⊢
 cases hv:doE false e t with
 | none=> rw [hv] at h;cases h
 | some v=> exact ⟨v,rfl,rfl⟩
theorem Z3c{t:Tree}{d:Int}(h:Z9 t d=true):Z9 (Z7 t) d=true:=Z3d t d h
theorem Wk.turn{p:Edit}(h:Wk p):Wk (ZR (Zv p)):=⟨Z11 _ _ (Yw _ _ h.r),Z3P _ _ (Yw _ _ h.r) (Z3O _ h.g)⟩
theorem ZaD{list:Int}(hl:2≤list∧list≤9){e:Edit}{t u:Tree}{d:Int}(hr:Z0 e d=true)(hd:doE false e t=some u)(h7:7 < list)(hw:Wl list e)(h0:e.kind≠0)(ht:Z9 t (-1)=true):Jz list u=true:=by
 obtain ⟨j1,j2,_,_⟩:=Z4R hr hd
 unfold Jz
 rw [if_neg (by omega)]
 by_cases hl9:list=9
 ·rw [if_pos hl9]
  refine decide_eq_true ?_
  rcases hw with q | q | q
  ·omega
  ·exact (j2 q).1
  ·rw [j1 q.1];exact q.2.2
 ·rw [if_neg hl9]
  exact decide_eq_true ((Z2q _ e d t u (Nat.le_refl _) hr ht hd).2 h0)
theorem ZcV{list:Int}(h7:7 < list){u:Tree}(h:Jz list u=true):Jz list (Z7 u)=true:=by
 unfold Jz at h ⊢
 rw [if_neg (by omega)] at h ⊢
 rw [Z0t]
 exact h
theorem Zt4 {K:Prop} {f:Edit→Edit→Edit × Bool} {p q:Edit} (wp:Wk p) (wq:Wk q) (p3:p.kind=3) (hl:p.list=q.list)
  (ih:∀ a b,Zc a+Zc b < Zc p+Zc q→Wk a→Wk b→ComWk K (f a b) a b) {ps:List Piece} (e:(Y4 1 2 p.ops q.ops []).1=ps) (hb1:(Y4 1 2 p.ops q.ops []).2.1=true) {ops:List Op} (hc:JN f ps=some ops):
  (∀ o∈ops,Za p.list o (-2)=true∧YA o)∧J8 ops=J8 p.ops∧Jn ops=Jn q.ops∧(K→YS ops≤YS p.ops+YS q.ops):=by
 have rp:=Zp wp.r
 have rq:=Zp wq.r
 have gp:=Yg wp.g
 have gq:=Yg wq.g
 have hli:=rp.list p3
 have op:=YZ wp.r
 have oq:=YZ wq.r
 have rpo:Zt p.list p.ops (-2)=true:=rp.ops
 have rqo:Zt p.list q.ops (-2)=true:=by rw [hl];exact rq.ops
 obtain ⟨i1,_⟩:=Z87 _ p.ops q.ops [] (Nat.le_refl _) op oq
 obtain ⟨ps0,e0,hps,_,_⟩:=i1 hb1
 obtain ⟨ps1,e1,sA,sB,hlen⟩:=Zcy ZuN ZuM 1 _ p.ops q.ops [] (Nat.le_refl _) op oq hb1
 obtain ⟨ps2,e2,sC,sD,_⟩:=Zcy ZuL ZuL 1 _ p.ops q.ops [] (Nat.le_refl _) op oq hb1
 rw [e,List.nil_append] at e0 e1 e2
 subst e0 e1 e2
 have side:∀ x∈ps,(x.of≠2→Za p.list x.p (-2)=true∧YA x.p)∧(x.of≠1→Za p.list x.q (-2)=true∧YA x.q):=by
  have one:∀ (l:List Op) (o:Op),(∀ o'∈l,Za p.list o' (-2)=true)→JL l→Part l o→YI o→Za p.list o (-2)=true∧YA o:=by
   intro l o hr hg ⟨o',m,k,e1,_,lt⟩ ho
   have R:=ZC (hr o' m)
   have G:=Z04 (JE hg m)
   obtain ⟨kk,nn,ll,ee⟩:=o
   have k:kk=o'.kind:=k
   have e1:ee=o'.e:=e1
   have lt:∀ t∈ll,t∈o'.l:=lt
   have gl:Yb ll:=Z4z fun t ht=> YX G.2.2.1 (lt t ht)
   cases R with
   | keep n1 a1 a2=>
    have k:kk=0:=k
    have e1:ee=Edit.nil:=e1
    subst k e1
    rcases ho with h | h | h
    ·have hl:ll=[]:=h.2.1
     subst hl
     have h3:1≤nn∧nn≤1048576:=h.2.2.1
     exact ⟨Zs7 h3.1 h3.2 _,Jp (by decide) (by decide),by unfold isI;omega,trivial,G.2.2.2⟩
    ·have:=h.1;omega
    ·have:=h.1;omega
   | gone l1 a1 a2=>
    have k:kk=1:=k
    have e1:ee=Edit.nil:=e1
    subst k e1
    rcases ho with h | h | h
    ·have:=h.1;omega
    ·have hn:nn=0:=h.2.1
     subst hn
     exact ⟨Z88 (.inl rfl) (Z3H fun t ht=> Z32 a1 t (lt t ht)) h.2.2.1,Jp (by decide) (by decide),Jp (by decide) (by decide),gl,G.2.2.2⟩
    ·have:=h.1;omega
   | come l1 a1 a2=>
    have k:kk=2:=k
    have e1:ee=Edit.nil:=e1
    subst k e1
    rcases ho with h | h | h
    ·have:=h.1;omega
    ·have hn:nn=0:=h.2.1
     subst hn
     exact ⟨Z88 (.inr rfl) (Z3H fun t ht=> Z32 a1 t (lt t ht)) h.2.2.1,Jp (by decide) (by decide),Jp (by decide) (by decide),gl,G.2.2.2⟩
    ·have:=h.1;omega
   | into e2 a1 a2 a3 a4=>
    have k:kk=3:=k
    have e1:ee=e2:=e1
    subst k e1
    rcases ho with h | h | h
    ·have:=h.1;omega
    ·have:=h.1;omega
    ·have hn:nn=0:=h.2.1
     have hl:ll=[]:=h.2.2
     subst hn hl
     exact ⟨Zkz a1 a2 a3 a4,Jp (by decide) (by decide),Jp (by decide) (by decide),trivial,G.2.2.2⟩
  intro x hx
  have X:=hps x hx
  exact ⟨fun h=> one p.ops x.p (fun o ho=> rightOs_mem rpo ho) gp.2.2.2.2 (X.pp h).1 (X.pp h).2,fun h=> one q.ops x.q (fun o ho=> rightOs_mem rqo ho) gq.2.2.2.2 (X.qq h).1 (X.qq h).2⟩
 have one:∀ x∈ps,(ZF f x).ok=true→((ZF f x).is=true→Za p.list (ZF f x).op (-2)=true∧YA (ZF f x).op)∧
   (φA (ZF f x).op*(if (ZF f x).is then 1 else 0)=(if x.of=2 then 0 else φA x.p))∧(φB (ZF f x).op*(if (ZF f x).is then 1 else 0)=(if x.of=1 then 0 else φB x.q))∧
   (K→(ZF f x).is=true→φC (ZF f x).op≤(if x.of=2 then 0 else φC x.p)+(if x.of=1 then 0 else φC x.q)):=by
  intro x hx hok
  have X:=hps x hx
  obtain ⟨s1,s2⟩:=side x hx
  have cnn:∀ o:Op,0≤φC o:=fun o=> by unfold φC;have:=Zd9 o.e;omega
  unfold ZF at hok ⊢
  by_cases c1:x.of=1∨(x.of=0∧x.q.kind=0)
  ·rw [if_pos c1] at hok ⊢
   dsimp only
   have h2:x.of≠2:=by omega
   rw [if_pos rfl,if_neg h2,if_neg h2]
   refine ⟨fun _=> s1 h2,by omega,?_,fun _ _=> ?_⟩
   ·rcases c1 with c | ⟨c,c'⟩
    ·rw [if_pos c];unfold φB;rw [if_pos (X.one c)];try rfl
    ·rw [if_neg (by omega)]
     obtain ⟨b1,b2,b3⟩:=X.both c
     unfold φB
     rw [if_neg b1,if_neg (by omega),b3];omega
   ·have:=cnn x.q
    split <;> omega
  rw [if_neg c1] at hok ⊢
  by_cases c2:x.of=2∨x.p.kind=0
  ·rw [if_pos c2] at hok ⊢
   dsimp only
   have h2:x.of≠1:=by omega
   rw [if_pos rfl,if_neg h2,if_neg h2]
   refine ⟨fun _=> s2 h2,?_,by omega,fun _ _=> ?_⟩
   ·by_cases c:x.of=2
    ·rw [if_pos c];unfold φA;rw [if_pos (X.two c)];try rfl
    ·rw [if_neg c]
     have c0:x.of=0:=by rcases X.of with h | h | h <;> omega
     obtain ⟨b1,b2,b3⟩:=X.both c0
     unfold φA
     rw [if_neg b2,if_neg (by omega),b3];omega
   ·have:=cnn x.p
    split <;> omega
  rw [if_neg c2] at hok ⊢
  have c0:x.of=0:=by rcases X.of with h | h | h <;> omega
  obtain ⟨b1,b2,b3⟩:=X.both c0
  have h1:x.of≠1:=by omega
  have h2:x.of≠2:=by omega
  obtain ⟨u1,u2⟩:=s1 h2
  obtain ⟨v1,v2⟩:=s2 h1
  have ok1:=(X.pp h2).2
  have ok2:=(X.qq h1).2
  have kp:x.p.kind=2∨x.p.kind=3:=by rcases Yo ok1 with k | k | k | k <;> omega
  have kq:x.q.kind=1∨x.q.kind=3:=by rcases Yo ok2 with k | k | k | k <;> omega
  rw [if_neg h2,if_neg h2,if_neg h1,if_neg h1]
  by_cases c3:x.p.kind=2∧x.q.kind=1
  ·rw [if_pos c3] at hok ⊢
   dsimp only
   refine ⟨fun h=> (by cases h),?_,?_,fun _ h=> by cases h⟩
   ·unfold φA;rw [if_pos c3.1];try rfl
   ·unfold φB;rw [if_pos c3.2];try rfl
  rw [if_neg c3] at hok ⊢
  have one3:∀ o:Op,o.kind=3→Za p.list o (-2)=true→YA o→(7 < p.list∧o.e.kind≠0∧Wl p.list o.e∧Wk o.e)∧o.l=[]:=by
   intro o k hr hg
   have R:=ZC hr
   cases R with
   | keep | gone | come=> exact absurd k (by simp)
   | into e a1 a2 a3 a4=> exact ⟨⟨a3,a2,a4,⟨JU _ _ _ (by decide) a1,(Z04 hg).2.2.2⟩⟩,rfl⟩
  have one12:∀ o:Op,(o.kind=1∨o.kind=2)→Z2 o=1→YI o→Za p.list o (-2)=true→YA o→∃ t,o.l=[t]∧Jz p.list t=true∧Z9 t (-1)=true∧rng t∧o.e=Edit.nil:=by
   intro o k h1 ho hr hg
   have hlen:=YK ho k
   have hl1:o.l.length=1:=by omega
   obtain ⟨t,ht⟩:∃ t,o.l=[t]:=by
    match h:o.l,hl1 with
    | [t],_=> exact ⟨t,rfl⟩
   have R:=ZC hr
   have gt:=(Z04 hg).2.2.1
   rw [ht] at gt
   refine ⟨t,ht,?_⟩
   cases R with
   | keep=> exact absurd k (by simp)
   | into=> exact absurd k (by simp)
   | gone l a1 a2=> exact ⟨(Jc hli a1 t (by have ht:l=[t]:=ht;rw [ht];simp)).1,(Jc hli a1 t (by have ht:l=[t]:=ht;rw [ht];simp)).2,gt.1,rfl⟩
   | come l a1 a2=> exact ⟨(Jc hli a1 t (by have ht:l=[t]:=ht;rw [ht];simp)).1,(Jc hli a1 t (by have ht:l=[t]:=ht;rw [ht];simp)).2,gt.1,rfl⟩
  by_cases c4:x.p.kind=2
  ·rw [if_pos c4] at hok ⊢
   have q3':x.q.kind=3:=by omega
   have hl1:Z2 x.q=1:=Z0k q3'
   obtain ⟨t,ht,t1,t2,t3,t4⟩:=one12 x.p (.inr c4) (by omega) ok1 u1 u2
   obtain ⟨⟨e1,e2,e3,e4⟩,e5⟩:=one3 x.q q3' v1 v2
   dsimp only at hok ⊢
   rw [ht,List.getD_cons_zero] at hok ⊢
   obtain ⟨v,hv,ev⟩:=ZfX hok
   rw [if_pos rfl,ev]
   have kv:=ZaD hli e4.r hv e1 e3 e2 t2
   have rv:=(Z2q _ _ _ t v (Nat.le_refl _) e4.r t2 hv).1
   refine ⟨fun _=> ⟨Z88 (.inr rfl) ?_ (by simp),Jp (by decide) (by decide),Jp (by decide) (by decide),⟨Z0g _ (Z6X false _ _ v e4.g t3 hv),trivial⟩,?_⟩,?_,?_,fun _ _=> ?_⟩
   ·rw [Zd6 (by decide)]
    exact Z3H fun y hy=> by rw [List.mem_singleton.1 hy];exact ZdZ hli (ZcV e1 kv) (Z3c rv)
   ·rw [←t4];exact (Z04 u2).2.2.2
   ·unfold φA;rw [if_pos c4];try rfl
   ·show (if (2:Int)=1 then (0:Int) else Z2 _)*1=(if x.q.kind=1 then 0 else Z2 x.q)
    rw [if_neg (by decide),if_neg (by omega),hl1];simp [Z2]
   ·unfold φC
    dsimp only
    rw [ht,t4,e5]
    have:=Z6k false _ _ _ v e4.r hv
    have:=Je v
    simp only [Zg,Z2V]
    omega
  rw [if_neg c4] at hok ⊢
  have p3':x.p.kind=3:=by omega
  have hl0:Z2 x.p=1:=Z0k p3'
  obtain ⟨⟨e1,e2,e3,e4⟩,e5⟩:=one3 x.p p3' u1 u2
  by_cases c5:x.q.kind=1
  ·rw [if_pos c5] at hok ⊢
   obtain ⟨t,ht,t1,t2,t3,t4⟩:=one12 x.q (.inl c5) (by omega) ok2 v1 v2
   dsimp only at hok ⊢
   rw [ht,List.getD_cons_zero] at hok ⊢
   obtain ⟨v,hv,ev⟩:=ZfX hok
   have wt:=e4.turn
   have kt:(ZR (Zv x.p.e)).kind=x.p.e.kind:=by rw [Z3V,Z0Z]
   have wlt:Wl p.list (ZR (Zv x.p.e)):=by
    rcases e3 with h | h | h
    ·exact .inl h
    ·exact .inr (.inl (by omega))
    ·refine .inr (.inr ⟨by omega,?_,?_⟩)
     ·rw [(Z8b (Zv x.p.e) (by rw [Z0Z];exact h.1)).1,Z0t,ZdI];exact h.2.2
     ·rw [(Z8b (Zv x.p.e) (by rw [Z0Z];exact h.1)).2,Z0t,ZdJ];exact h.2.1
   rw [if_pos rfl,ev]
   have kv:=ZaD hli wt.r hv e1 wlt (by omega) t2
   have rv:=(Z2q _ _ _ t v (Nat.le_refl _) wt.r t2 hv).1
   refine ⟨fun _=> ⟨Z88 (.inl rfl) ?_ (by simp),Jp (by decide) (by decide),Jp (by decide) (by decide),⟨Z0g _ (Z6X false _ _ v wt.g t3 hv),trivial⟩,?_⟩,?_,?_,fun _ _=> ?_⟩
   ·rw [Zd6 (by decide)]
    exact Z3H fun y hy=> by rw [List.mem_singleton.1 hy];exact ZdZ hli (ZcV e1 kv) (Z3c rv)
   ·rw [←t4];exact (Z04 v2).2.2.2
   ·show (if (1:Int)=2 then (0:Int) else Z2 _)*1=(if x.p.kind=2 then 0 else Z2 x.p)
    rw [if_neg (by decide),if_neg (by omega),hl0];simp [Z2]
   ·unfold φB;rw [if_pos c5];try rfl
   ·unfold φC
    dsimp only
    rw [ht,t4,e5]
    have:=Z6k false _ _ _ v wt.r hv
    have:=Je v
    have:=Z9K (Zv x.p.e)
    rw [Z94] at this
    simp only [Zg,Z2V]
    omega
  rw [if_neg c5] at hok ⊢
  have q3':x.q.kind=3:=by omega
  have hl1:Z2 x.q=1:=Z0k q3'
  obtain ⟨⟨f1,f2,f3,f4⟩,f5⟩:=one3 x.q q3' v1 v2
  dsimp only at hok ⊢
  rw [if_pos rfl]
  obtain ⟨o1,m1,_,k1,_⟩:=(X.pp h2).1
  obtain ⟨o2,m2,_,k2,_⟩:=(X.qq h1).1
  have:=JY m1
  have:=JY m2
  have H:=ih x.p.e x.q.e (by rw [k1,k2];omega) e4 f4
  refine ⟨fun _=> ⟨Zkz (JU _ _ _ (by decide) (H.wk hok).r) (H.kind e2 f2 hok) e1 (H.wl p.list e1 hli.2 e2 f2 hok e3 f3),Jp (by decide) (by decide),Jp (by decide) (by decide),trivial,(H.wk hok).g⟩,?_,?_,fun hK _=> ?_⟩
  ·show (if (3:Int)=2 then (0:Int) else Z2 _)*1=(if x.p.kind=2 then 0 else Z2 x.p)
   rw [if_neg (by decide),if_neg (by omega),hl0];simp [Z2]
  ·show (if (3:Int)=1 then (0:Int) else Z2 _)*1=(if x.q.kind=1 then 0 else Z2 x.q)
   rw [if_neg (by decide),if_neg (by omega),hl1];simp [Z2]
  ·unfold φC
   dsimp only
   rw [e5,f5]
   have:=H.ct hK hok
   simp only [Zg]
   omega
 have all:∀ (ps:List Piece) (ops:List Op),(∀ x∈ps,(ZF f x).ok=true→((ZF f x).is=true→Za p.list (ZF f x).op (-2)=true∧YA (ZF f x).op)∧
   (φA (ZF f x).op*(if (ZF f x).is then 1 else 0)=(if x.of=2 then 0 else φA x.p))∧(φB (ZF f x).op*(if (ZF f x).is then 1 else 0)=(if x.of=1 then 0 else φB x.q))∧
   (K→(ZF f x).is=true→φC (ZF f x).op≤(if x.of=2 then 0 else φC x.p)+(if x.of=1 then 0 else φC x.q)))→JN f ps=some ops→
   (∀ o∈ops,Za p.list o (-2)=true∧YA o)∧JI φA ops=JI φA (Z37 ps)∧JI φB ops=JI φB (Z36 ps)∧(K→JI φC ops≤JI φC (Z37 ps)+JI φC (Z36 ps))∧ops.length≤ps.length:=by
  intro ps
  induction ps with
  | nil=> intro ops _ h;cases h;exact ⟨fun o ho=> (by cases ho),rfl,rfl,fun _=> (by simp [Z37,Z36,JI]),by simp⟩
  | cons x r ihp=>
   intro ops hx h
   rw [JN] at h
   split at h
   ·rename_i hok
    obtain ⟨l,hl',rfl⟩:=Option.map_eq_some_iff.1 h
    obtain ⟨j1,j2,j3,j4,j5⟩:=ihp l (fun y hy=> hx y (List.mem_cons_of_mem _ hy)) hl'
    obtain ⟨k1,k2,k3,k4⟩:=hx x List.mem_cons_self hok
    have cnn:∀ o:Op,0≤φC o:=fun o=> by unfold φC;have:=Zd9 o.e;omega
    have c1:=cnn x.p
    have c2:=cnn x.q
    have hsP:∀ φ:Op→Int,JI φ (Z37 (x ::r))=(if x.of=2 then 0 else φ x.p)+JI φ (Z37 r):=fun φ=> by
     simp only [Z37]
     split <;> simp [JI]
    have hsQ:∀ φ:Op→Int,JI φ (Z36 (x ::r))=(if x.of=1 then 0 else φ x.q)+JI φ (Z36 r):=fun φ=> by
     simp only [Z36]
     split <;> simp [JI]
    rw [hsP,hsQ,hsP,hsQ]
    by_cases his:(ZF f x).is=true
    ·rw [if_pos his] at k2 k3
     rw [if_pos his]
     have k4:=fun hK=> k4 hK his
     simp only [List.cons_append,List.nil_append,JI,List.length_cons]
     refine ⟨fun o ho=> ?_,by omega,by omega,fun hK=> (by have:=k4 hK;have:=j4 hK;omega),by omega⟩
     rcases List.mem_cons.1 ho with rfl | ho
     ·exact k1 his
     ·exact j1 o ho
    ·rw [if_neg his] at k2 k3
     rw [if_neg his]
     simp only [List.nil_append,List.length_cons]
     refine ⟨j1,by omega,by omega,fun hK=> ?_,by omega⟩
     have:=j4 hK
     have:0≤(if x.of=2 then 0 else φC x.p)+(if x.of=1 then 0 else φC x.q):=by split <;> split <;> omega
     omega
   ·cases h
 obtain ⟨j1,j2,j3,j4,j5⟩:=all ps ops one hc
 rw [Zio] at j2
 rw [Zin] at j3
 rw [sA,Zio] at j2
 rw [sB,Zin] at j3
 have x1:=ZeV ops
 have x2:=ZeV p.ops
 have x3:=ZeV q.ops
 exact ⟨j1,j2,j3,fun hK=> (by have:=j4 hK;omega)⟩
theorem ZrX {K:Prop} {f:Edit→Edit→Edit × Bool} {p q:Edit} (wp:Wk p) (wq:Wk q)
  (ih:∀ a b,Zc a+Zc b < Zc p+Zc q→Wk a→Wk b→ComWk K (f a b) a b):ComWk K (Jx f p q) p q:=by
 have rp:=Zp wp.r
 have rq:=Zp wq.r
 have gp:=Yg wp.g
 have gq:=Yg wq.g
 have cp:=Zd9 p
 have cq:=Zd9 q
 have ap:=Z3E p
 have aq:=Z3E q
 unfold Jx
 by_cases p0:p.kind=0
 ·rw [if_pos p0]
  exact ⟨fun _=> wq,fun _ _=> by dsimp only;omega,fun h=> absurd p0 h,fun _ _ _ h=> absurd p0 h⟩
 rw [if_neg p0]
 by_cases q0:q.kind=0
 ·rw [if_pos q0]
  exact ⟨fun _=> wp,fun _ _=> by dsimp only;omega,fun _ h=> absurd q0 h,fun _ _ _ _ h=> absurd q0 h⟩
 rw [if_neg q0]
 by_cases p1:p.kind=1
 ·rw [if_pos p1]
  obtain ⟨r1,r2,r3,r4⟩:=rp.rep p1
  have key:(doB q p.new).2=true→(Z9 (doB q p.new).1 (-1)=true∧(doB q p.new).1.kind≠10)∧rng (doB q p.new).1∧Zq (doB q p.new).1+18≤Zq p.new+ctE q∧∀ list,7 < list→list≤9→p.new.kind=1→list=9→Wl list q→(doB q p.new).1.kind=1:=by
   intro hb
   obtain ⟨v,hv,e⟩:=ZfX hb
   rw [e]
   obtain ⟨x1,x2⟩:=Z2q _ q _ p.new v (Nat.le_refl _) wq.r r2 hv
   refine ⟨⟨Z3c x1,by rw [Z0t];exact x2 q0⟩,Z0g _ (Z6X false q _ v wq.g gp.2.1 hv),?_,fun list h7 h9 hk h9' hw=> ?_⟩
   ·have:=Z6k false q _ _ v wq.r hv
    have:=Je v
    omega
   ·rw [Z0t]
    obtain ⟨j1,j2,_,_⟩:=Z4R wq.r hv
    rcases hw with h | h | h
    ·omega
    ·exact (j2 h).1
    ·rw [j1 h.1];exact h.2.2
  refine ⟨fun hb=> ?_,fun _ hb=> ?_,fun _ _ _=> (show (1:Int)≠0 by decide),fun list h7 h9 _ _ hb hp hq=> ?_⟩
  ·obtain ⟨⟨k1,k2⟩,k3,_,_⟩:=key hb
   exact ⟨Ze0 r1 k1 r3 k2,Jp (by decide) (by decide),gp.1,k3,by simp,Jp (by decide) (by decide),trivial,trivial⟩
  ·obtain ⟨_,_,k4,_⟩:=key hb
   rw [Zlr]
   omega
  ·by_cases h8:list=8
   ·exact .inl h8
   ·have hp':p.kind=1∧p.old.kind=1∧p.new.kind=1:=by
     rcases hp with h | h | h
     ·exact absurd h h8
     ·omega
     ·exact h
    exact .inr (.inr ⟨rfl,hp'.2.1,(key hb).2.2.2 list h7 h9 hp'.2.2 (by omega) hq⟩)
 rw [if_neg p1]
 by_cases q1:q.kind=1
 ·rw [if_pos q1]
  obtain ⟨r1,r2,r3,r4⟩:=rq.rep q1
  have wt:=wp.turn
  have kt:(ZR (Zv p)).kind=p.kind:=by rw [Z3V,Z0Z]
  have key:(doB (ZR (Zv p)) q.old).2=true→(Z9 (doB (ZR (Zv p)) q.old).1 (-1)=true∧(doB (ZR (Zv p)) q.old).1.kind≠10)∧rng (doB (ZR (Zv p)) q.old).1∧Zq (doB (ZR (Zv p)) q.old).1+18≤Zq q.old+ctE p∧(p.kind=2→(doB (ZR (Zv p)) q.old).1.kind=1):=by
   intro hb
   obtain ⟨v,hv,e⟩:=ZfX hb
   rw [e]
   obtain ⟨x1,x2⟩:=Z2q _ _ _ q.old v (Nat.le_refl _) wt.r r1 hv
   refine ⟨⟨Z3c x1,by rw [Z0t];exact x2 (by omega)⟩,Z0g _ (Z6X false _ _ v wt.g gq.1 hv),?_,fun hk=> ?_⟩
   ·have:=Z6k false _ _ _ v wt.r hv
    have:=Je v
    have:=Z9K (Zv p)
    rw [Z94] at this
    omega
   ·rw [Z0t]
    exact ((Z4R wt.r hv).2.1 (by omega)).1
  refine ⟨fun hb=> ?_,fun _ hb=> ?_,fun _ _ _=> (show (1:Int)≠0 by decide),fun list h7 h9 _ _ hb hp hq=> ?_⟩
  ·obtain ⟨⟨k1,k2⟩,k3,_,_⟩:=key hb
   exact ⟨Ze0 k1 r2 k2 r4,Jp (by decide) (by decide),k3,gq.2.1,by simp,Jp (by decide) (by decide),trivial,trivial⟩
  ·obtain ⟨_,_,k4,_⟩:=key hb
   rw [Zlr]
   omega
  ·by_cases h8:list=8
   ·exact .inl h8
   ·have hq':q.kind=1∧q.old.kind=1∧q.new.kind=1:=by
     rcases hq with h | h | h
     ·exact absurd h h8
     ·omega
     ·exact h
    refine .inr (.inr ⟨rfl,(key hb).2.2.2 ?_,hq'.2.2⟩)
    rcases hp with h | h | h
    ·exact absurd h h8
    ·exact h
    ·exact absurd h.1 p1
 rw [if_neg q1]
 by_cases hd:p.kind≠q.kind∨p.list≠q.list
 ·rw [if_pos hd]
  exact ⟨fun h=> (by cases h),fun _ h=> (by cases h),fun _ _ h=> (by cases h),fun _ _ _ _ _ h=> (by cases h)⟩
 rw [if_neg hd]
 by_cases p2:p.kind=2
 ·rw [if_pos p2]
  have q2:q.kind=2:=by omega
  have awp:=Y8 rp.words
  have awq:=Y8 rq.words
  have akp:=ZG rp.kids
  have akq:=ZG rq.kids
  have hwat:∀ a b:WEdit,a.at_=b.at_→(YM a b).2=true→(YM a b).1.at_=a.at_:=fun a b _ h=> Zls a b h
  have hkat:∀ a b:Kid,a.at_=b.at_→(Z0x f a b).2=true→(Z0x f a b).1.at_=a.at_:=fun a b _ _=> rfl
  have hk:∀ a∈p.kids,∀ b∈q.kids,ComWk K (f a.e b.e) a.e b.e:=by
   intro a ha b hb
   have:=J4 ha
   have:=J4 hb
   exact ih a.e b.e (by omega) (.of (akp a ha).2 (YB gp.2.2.2.1 ha).2) (.of (akq b hb).2 (YB gq.2.2.2.1 hb).2)
  cases hL:Zj WEdit.at_ YM p.words q.words with
  | none=> exact ⟨fun h=> (by cases h),fun _ h=> (by cases h),fun _ _ h=> (by cases h),fun _ _ _ _ _ h=> (by cases h)⟩
  | some L=>
   rw [if_pos (show (some L).isSome=true from rfl)]
   cases hM:Zj KidOf.at_ (Z0x f) p.kids q.kids with
   | none=> exact ⟨fun h=> (by cases h),fun _ h=> (by cases h),fun _ _ h=> (by cases h),fun _ _ _ _ _ h=> (by cases h)⟩
   | some M=>
    have S:=(Z2L hwat _ p.words q.words (-1) (Nat.le_refl _) (Z0X rp.words) (Z0X rq.words)).2 L hL
    have T:=(Z2L hkat _ p.kids q.kids (-1) (Nat.le_refl _) (Z2Q rp.kids) (Z2Q rq.kids)).2 M hM
    have hw:∀ w∈L,(w.at_≤65534∧w.mask≠0∧ZK w.old w.mask=true∧ZK w.new w.mask=true)∧Z1s w:=by
     intro w hw
     rcases S.of w hw with ⟨h,_⟩ | ⟨h,_⟩ | ⟨a,ha,b,hb,_,hc,rfl⟩
     ·exact ⟨(awp w h).2,gp.2.2.1 w h⟩
     ·exact ⟨(awq w h).2,gq.2.2.1 w h⟩
     ·exact Zrn (gp.2.2.1 a ha) (gq.2.2.1 b hb) (awp a ha).2 (awq b hb).2.2.2 hc
    have hm:∀ k∈M,(k.at_≤65534∧k.e.kind≠0∧Z0 k.e (-2)=true)∧isI k.at_∧ZS k.e:=by
     intro k hk'
     rcases T.of k hk' with ⟨h,_⟩ | ⟨h,_⟩ | ⟨a,ha,b,hb,_,hc,rfl⟩
     ·exact ⟨⟨(akp k h).1.2.1,(akp k h).1.2.2,JU _ _ _ (by decide) (akp k h).2⟩,YB gp.2.2.2.1 h⟩
     ·exact ⟨⟨(akq k h).1.2.1,(akq k h).1.2.2,JU _ _ _ (by decide) (akq k h).2⟩,YB gq.2.2.2.1 h⟩
     ·have H:=hk a ha b hb
      have hc:(f a.e b.e).2=true:=hc
      exact ⟨⟨(akp a ha).1.2.1,H.kind (akp a ha).1.2.2 (akq b hb).1.2.2 hc,JU _ _ _ (by decide) (H.wk hc).r⟩,(YB gp.2.2.2.1 ha).1,(H.wk hc).g⟩
    refine ⟨fun _=> ⟨Zmz (Zbp S.asc_ fun w h=> (hw w h).1) (Zc8 T.asc_ fun k h=> (hm k h).1),?_⟩,fun hK _=> ?_,fun _ _ _=> (show (2:Int)≠0 by decide),fun _ _ _ _ _ _ _ _=> .inr (.inl rfl)⟩
    ·exact ⟨Jp (by decide) (by decide),Jj,Jj,fun w h=> (hw w h).2,Jp (by decide) (by decide),ZgS fun k h=> (hm k h).2,trivial⟩
    ·have c1:=Zek (fun _=> 1) _ _ _ _ (Nat.le_refl _) (fun a _ b _ _=> by omega) hL
     have c2:=Zek Z2X _ _ _ _ (Nat.le_refl _) (fun a ha b hb hc=> by
      have H:=hk a ha b hb
      have hc:(f a.e b.e).2=true:=hc
      have:=H.ct hK hc
      rw [Z2W,Z2W,Z2W]
      show 65600+ctE (f a.e b.e).1≤_
      omega) hM
     rw [Z7D,Z7D,Z7D] at c1
     rw [Zb6,Zb6,Zb6] at c2
     have mo:=Yh p.old;have mn:=Yh p.new;have mo':=Yh q.old;have mn':=Yh q.new
     simp only [ctE,YS,ofO,Option.getD_some,Z3X]
     omega
 ·rw [if_neg p2]
  have p3:p.kind=3:=by have:=rp.kind;omega
  have q3:q.kind=3:=by omega
  have hl:p.list=q.list:=by omega
  have hli:=rp.list p3
  have op:=YZ wp.r
  have oq:=YZ wq.r
  unfold Z08
  by_cases hb1:(Y4 1 2 p.ops q.ops []).2.1=true
  ·rw [if_pos hb1]
   cases hc:JN f (Y4 1 2 p.ops q.ops []).1 with
   | none=> exact ⟨fun h=> (by cases h),fun _ h=> (by cases h),fun _ _ h=> (by cases h),fun _ _ _ _ _ h=> (by cases h)⟩
   | some ops=>
    obtain ⟨j1,j2,j3,j4⟩:=Zt4 wp wq p3 hl ih rfl hb1 hc
    have ook:∀ o∈ops,0≤Z2 o:=fun o ho=> Z0J (Z70 (j1 o ho).1)
    have lA:=Z0P ops 0 ook (by decide) (by decide)
    have lB:=Z2P ops 0 ook (by decide) (by decide)
    have mA:=Z0P p.ops 0 (fun o ho=> Z0J (op o ho)) (by decide) (by decide)
    have mB:=Z2P q.ops 0 (fun o ho=> Z0J (oq o ho)) (by decide) (by decide)
    have t1:=rp.len.1
    have t2:=rq.len.2
    refine ⟨fun _=> ⟨?_,?_⟩,fun hK _=> ?_,fun _ _ _=> (show (3:Int)≠0 by decide),fun list h7 h9 _ _ _ hp' hq'=> ?_⟩
    ·refine Zmy hli (Zc7 fun o ho=> (j1 o ho).1) ?_ ?_
     ·rw [show ofO (some ops)=ops from rfl];omega
     ·rw [show ofO (some ops)=ops from rfl];omega
    ·refine ⟨Jp (by decide) (by decide),Jj,Jj,by simp,?_,trivial,ZgR fun o ho=> (j1 o ho).2⟩
     unfold isI;omega
    ·have j4:=j4 hK;have mo:=Yh p.old;have mn:=Yh p.new;have mo':=Yh q.old;have mn':=Yh q.new
     simp only [ctE,Z0i,ofO,Option.getD_some,Z3X,List.length_nil]
     omega
    ·rcases hp' with h | h | h
     ·exact .inl h
     ·omega
     ·omega
  ·rw [if_neg hb1]
   exact ⟨fun h=> (by cases h),fun _ h=> (by cases h),fun _ _ h=> (by cases h),fun _ _ _ _ _ h=> (by cases h)⟩
theorem Zwe:∀ (n:Nat) (p q:Edit),Zc p+Zc q≤n→Wk p→Wk q→ComWk True (Zb0 n p q) p q:=by
 intro n
 induction n with
 | zero=> intro p q h;obtain ⟨k,o,nw,w,ks,l,os⟩:=p;simp only [Zc] at h;omega
 | succ n ih=>
  intro p q hn wp wq
  exact ZrX wp wq fun a b hab wa wb=> ih a b (by omega) wa wb
end Go.AM.Ytpjenobkibfpcaa
namespace Go.AM.Ytpjenobkibfpcaa
open Go.AM Go.Proofs
theorem Z7n:Zc Edit.nil=3:=rfl
theorem ZfB(e:Edit):3≤Zc e:=by
 obtain ⟨k,o,n,w,ks,l,os⟩:=e
 have:=Yh o
 have:=Yh n
 simp only [Zc];omega
end Go.AM.Ytpjenobkibfpcaa
namespace Go.AM.Ytpjenobkibfpcaa
open Go.AM Go.Proofs
mutual
def utE:Edit→Nat
 | .mk _ o n w ks _ os=> 16+Zq o+Zq n+65600*w.length+Zih ks+Zgv os
def Zih:List (KidOf Edit)→Nat
 | []=> 0
 | k ::r=> Zub k+Zih r
def Zub:KidOf Edit→Nat
 | ⟨_,e⟩=> 65600+utE e
def Zgv:List (OpOf Edit)→Nat
 | []=> 0
 | o ::r=> Zoh o+Zgv r
def Zoh:OpOf Edit→Nat
 | ⟨k,n,l,e⟩=> if k=3 then 16+utE e else 34*(n.toNat+l.length)+Zg l
end
theorem Zoi(e:Edit):utE e=16+Zq e.old+Zq e.new+65600*e.words.length+Zih e.kids+Zgv e.ops:=by cases e;rfl
theorem Zgw(k:Kid):Zub k=65600+utE k.e:=by cases k;rfl
theorem ZjM(o:Op):Zoh o=if o.kind=3 then 16+utE o.e else 34*(o.n.toNat+o.l.length)+Zg o.l:=by cases o;rfl
theorem ZyS:∀ (n:Nat) (e:Edit),Zc e≤n→(∃ d,Z0 e d=true)→ctE e≤utE e:=by
 intro n
 induction n with
 | zero=> intro e h;have:=ZfB e;omega
 | succ n ih=>
  intro e hn ⟨d,hr⟩
  have R:=Zp hr
  have hk:∀ l:List Kid,(∀ k∈l,k∈e.kids)→Z0i l≤Zih l:=by
   intro l
   induction l with
   | nil=> intro _;exact Nat.le_refl _
   | cons a r ihl=>
    intro h
    have ha:=h a List.mem_cons_self
    have:=J4 ha
    have:=ih a.e (by omega) ⟨_,(ZG R.kids a ha).2⟩
    have:=ihl fun k hk=> h k (List.mem_cons_of_mem _ hk)
    simp only [Z0i,Zih,Z2W,Zgw];omega
  have ho:∀ l:List Op,(∀ o∈l,o∈e.ops)→YS l≤Zgv l:=by
   intro l
   induction l with
   | nil=> intro _;exact Nat.le_refl _
   | cons a r ihl=>
    intro h
    have ha:=h a List.mem_cons_self
    have:=ihl fun k hk=> h k (List.mem_cons_of_mem _ hk)
    have hr:=rightOs_mem R.ops ha
    have key:Z1Y a≤Zoh a:=by
     have me:=JY ha
     rw [Z3m,ZjM]
     have rt:=ZC hr
     cases rt with
     | keep n h1 h2=> rw [if_neg (show ¬(0:Int)=3 by decide),Z2V];simp only [Zg,List.length_nil];omega
     | gone l h1 h2=> rw [if_neg (show ¬(1:Int)=3 by decide),Z2V];dsimp only;omega
     | come l h1 h2=> rw [if_neg (show ¬(2:Int)=3 by decide),Z2V];dsimp only;omega
     | into e' h1 h2=>
      rw [if_pos rfl]
      have:=ih e' (by dsimp only at me;omega) ⟨_,h1⟩
      simp only [Zg];omega
    simp only [YS,Zgv];omega
  have:=hk e.kids fun k h=> h
  have:=ho e.ops fun k h=> h
  rw [Z3E,Zoi];omega
theorem Zog:∀ (n:Nat) (e:Edit),Zc e≤n→(∃ d,Z0 e d=true)→Z0O e=true→utE e+131100≤65600*Zc e+150000*Zc e:=by
 intro n
 induction n with
 | zero=> intro e h;have:=ZfB e;omega
 | succ n ih=>
  intro e hn ⟨d,hr⟩ hl
  have R:=Zp hr
  have hm:=ZfB e
  have me:Zc e=1+Zq e.old+Zq e.new+e.words.length+e.ops.length+Zw e.kids+Zs e.ops:=by cases e;rfl
  have mo:=Yh e.old
  have mn:=Yh e.new
  rw [Zer,Bool.and_eq_true,Bool.and_eq_true,decide_eq_true_eq] at hl
  obtain ⟨⟨l1,l2⟩,l3⟩:=hl
  have hk:∀ l:List Kid,(∀ k∈l,k∈e.kids)→Z1T l=true→Zih l≤215600*Zw l:=by
   intro l
   induction l with
   | nil=> intro _ _;exact Nat.le_refl _
   | cons a r ihl=>
    intro h hl
    simp only [Z1T,Bool.and_eq_true,ZaA] at hl
    have ha:=h a List.mem_cons_self
    have:=J4 ha
    have:=ih a.e (by omega) ⟨_,(ZG R.kids a ha).2⟩ hl.1
    have:=ihl (fun k hk=> h k (List.mem_cons_of_mem _ hk)) hl.2
    simp only [Zih,Zw,Zgw,Z3Z];omega
  have ook:=YZ hr
  have ho:∀ l:List Op,(∀ o∈l,o∈e.ops)→Z3j l=true→(Zgv l:Int)≤215600*Zs l+34*Z3D l+16*l.length:=by
   intro l
   induction l with
   | nil=> intro _ _;simp [Zgv,Zs,Z3D]
   | cons a r ihl=>
    intro h hl
    simp only [Z3j,Bool.and_eq_true,ZcU] at hl
    have ha:=h a List.mem_cons_self
    have:=ihl (fun k hk=> h k (List.mem_cons_of_mem _ hk)) hl.2
    have hr:=rightOs_mem R.ops ha
    have key:(Zoh a:Int)≤215600*Zx a+34*Z2 a+16:=by
     have me:=JY ha
     have ml:=ZD a.l
     rw [ZjM,ZW]
     have rt:=ZC hr
     have hp:=YJ a
     cases rt with
     | keep n h1 h2=> rw [if_neg (show ¬(0:Int)=3 by decide)];rw [if_neg (show ¬(0:Int)=3 by decide)] at hp;simp only [Zg,List.length_nil,Z7n] at*;omega
     | gone l h1 h2=> rw [if_neg (show ¬(1:Int)=3 by decide)];rw [if_neg (show ¬(1:Int)=3 by decide)] at hp;dsimp only at*;simp only [Z7n] at*;omega
     | come l h1 h2=> rw [if_neg (show ¬(2:Int)=3 by decide)];rw [if_neg (show ¬(2:Int)=3 by decide)] at hp;dsimp only at*;simp only [Z7n] at*;omega
     | into e' h1 h2=>
      rw [if_pos rfl] at hp ⊢
      have:=ih e' (by dsimp only at me;omega) ⟨_,h1⟩ hl.1
      simp only [Zg];omega
    simp only [Zgv,Zs,Z3D,List.length_cons];omega
  have h1:=hk e.kids (fun k h=> h) l2
  have h2:=ho e.ops (fun k h=> h) l3
  have h3:=kids_sum ook
  have h4:J8 e.ops≤2000∧Jn e.ops≤2000:=by
   have ok:∀ o∈e.ops,0≤Z2 o:=fun o ho=> Z0J (ook o ho)
   have a:=Z0P e.ops 0 ok (by decide) (by decide)
   have b:=Z2P e.ops 0 ok (by decide) (by decide)
   omega
  rw [Zoi,me]
  omega
where
 kids_sum:∀ {l:List Op},(∀ o∈l,YI o)→Z3D l≤J8 l+Jn l
  | [],_=> by simp [Z3D,J8,Jn]
  | o ::r,h=> by
   have h1:=YV (h o List.mem_cons_self)
   have h2:=kids_sum fun x hx=> h x (List.mem_cons_of_mem _ hx)
   simp only [Z3D,J8,Jn]
   split <;> split <;> omega
def φU(o:Op):Int:=Zoh o
end Go.AM.Ytpjenobkibfpcaa
namespace Go.AM.Ytpjenobkibfpcaa
open Go.AM Go.Proofs
def refOk(e:Edit):Prop:=utE e≤9000000000∧ZS e∧∃ d,Z0 e d=true
theorem refOk.re{e:Edit}(h:refOk e):Z1R e:=⟨Nat.le_trans (ZyS _ e (Nat.le_refl _) h.2.2) h.1,h.2⟩
end Go.AM.Ytpjenobkibfpcaa
namespace Go.AM.Ytpjenobkibfpcaa
open Go.AM Go.Proofs
noncomputable section
abbrev ZI(p:Prop):Prop:=p→p
noncomputable section
def ZlR:ArgL (Int × Unit):=(.cons (J3 .u8) .nil)
def Zct(a:Int × Unit):Prop:=0≤a.1∧a.1 < 256
def Zp0(a:Int × Unit):V U:= .c (.int .u64 ((Z0U (a.1).toNat 8:Nat):Int))
def Z7V:Fs U:=fs ZlR (fun a=> [Zct a]) Zp0
def Zr0:ArgL (Int × Int × Int × Unit):=(.cons (J3 .u64) (.cons (J3 .u64) (.cons (J3 .u8) .nil)))
def Z2C(a:Int × Int × Int × Unit):Prop:=(0≤a.1∧a.1 < 18446744073709551616)∧(0≤a.2.1∧a.2.1 < 18446744073709551616)∧(0≤a.2.2.1∧a.2.2.1 < 256)
def Zuk(a:Int × Int × Int × Unit):V U:= .c (.int .u64 (mix a.1 a.2.1 a.2.2.1))
def Z1D:Fs U:=fs Zr0 (fun a=> [Z2C a]) Zuk
def ZlM:ArgL (Tree × Unit):=(.cons (aEl .tree) .nil)
def Z5w(a:Tree × Unit):Prop:=Zq a.1≤20000000000∧rng a.1
def ZoV(a:Tree × Unit):V U:= .c (.bool (decide (Tree.kind a.1≠10) && Z9 a.1 64))
def Z4w:Fs U:=fs ZlM (fun a=> [Z5w a]) ZoV
def Zly:ArgL (Int × Tree × Unit):=(.cons (J3 .i64) (.cons (aEl .tree) .nil))
def Zcm(a:Int × Tree × Unit):Prop:=Zq a.2.1≤18000000000∧rng a.2.1∧isI a.1
def ZoK(a:Int × Tree × Unit):V U:= .c (.bool (Z9 (Tree.mk a.1 [] [a.2.1]) 64))
def Z7J:Fs U:=fs Zly (fun a=> [Zcm a]) ZoK
def Zlx:ArgL (Int × Edit × Unit):=(.cons (J3 .i64) (.cons (aEl .edit) .nil))
def Zfq(a:Int × Edit × Unit):Prop:=True
def ZoJ(a:Int × Edit × Unit):V U:= .c (.bool (Yz a.1 a.2.1))
def Z4s:Fs U:=fs Zlx (fun a=> [Zfq a]) ZoJ
def ZlL:ArgL (List WEdit × Unit):=(.cons (aSl .wedit) .nil)
def Z9r(a:List WEdit × Unit):Prop:=(a.1).length≤20000000000∧∀ x∈a.1,Z1s x
def ZoU(a:List WEdit × Unit):V U:= .c (.bool (Zk (-1) a.1))
def Z4v:Fs U:=fs ZlL (fun a=> [Z9r a]) ZoU
def Z1j:List (FuncId × Fs U):=[]
def Z8u:Zh U:=lvl [([0],[]),([0,3],[]),([0,3,5],[]),([0,3,5,6],[]),([0,3,4,5],[]),([0,3,4,5,12],[]),([0,3,5],[]),([0,3,5],[]),([2],[])]
def Z0A(m x3 x5:Int):LSt U:=(L2 [(0,.c (.int .u8 m)),(3,.c (.int .u64 x3)),(5,.c (ci x5))] [])
abbrev Zze(m:Int)(Q:QT):=AW (Z1 Z1j) Try.f105 Z8u [] (L2 [(0,.c (.int .u8 m))] []) Q
abbrev ZjH:=awp cfg (Z1 Z1j) (ZJ cfg (Z1 Z1j)) Try.f105.ntmps Z8u
abbrev Ziw:=Z7Y cfg (Z1 Z1j) (ZJ cfg (Z1 Z1j)) Try.f105.ntmps Z8u
theorem Zyy(m:Int)(Q:QT)(h:Zl (AW (Z1 Z1j) Try.f105 Z8u [1,1,0,1,0,0]) (Z0A m 0 0) (xB 0 (SW (Z1 Z1j) Try.f105 Z8u [1,1,1] Q))):
  Zze m Q:=by
 have e_:(Zze m Q)=(Zl (ZjH (cd Try.f105 [1,1,0,1,0,0])) (Z0A m 0 0) (xB 0 (Ziw (cd Try.f105 [1,1,1]) Q))):=by kernel_rfl
 exact e_.mpr h
abbrev Zm9(m x3 x5:Int)(N0:NT)(Q:QT):=AW (Z1 Z1j) Try.f105 Z8u [1,1,0,1,0,0] (Z0A m x3 x5) (xT N0 (xB 0 (SW (Z1 Z1j) Try.f105 Z8u [1,1,1] Q)))
theorem Zoe(m x3 x5:Int)(N0:NT)(Q:QT)(h:((decide (x5 < 8))=true→((0:Int)≤x5)∧(((((IntKind.wrap .u8 (BitVec.ofInt (IntKind.bits .u8) (Int.fdiv m (2 ^ (min x5.toNat (IntKind.bits .u8)))) &&& BitVec.ofInt (IntKind.bits .u8) 1).toNat):Int)==1)=true→(InR ((8:Int)*x5))∧((0:Int)≤((8:Int)*x5))∧((InR (x5+1))∧(N0 (Z0A m (IntKind.wrap .u64 (BitVec.ofInt (IntKind.bits .u64) x3 ||| BitVec.ofInt (IntKind.bits .u64) (IntKind.wrap .u64 ((255:Int)*2 ^ (min (Int.toNat ((8:Int)*x5)) (IntKind.bits .u64))))).toNat) (x5+1)))))∧((((IntKind.wrap .u8 (BitVec.ofInt (IntKind.bits .u8) (Int.fdiv m (2 ^ (min x5.toNat (IntKind.bits .u8)))) &&& BitVec.ofInt (IntKind.bits .u8) 1).toNat):Int)==1)=false→(InR (x5+1))∧(N0 (Z0A m x3 (x5+1))))))∧((decide (x5 < 8))=false→Q .ret (L2 [(2,.c (.int .u64 x3))] []))):
  Zm9 m x3 x5 N0 Q:=by
 have e_:(Zm9 m x3 x5 N0 Q)=(let zz0:=(((IntKind.wrap .u8 (BitVec.ofInt (IntKind.bits .u8) (Int.fdiv m (2 ^ (min x5.toNat (IntKind.bits .u8)))) &&& BitVec.ofInt (IntKind.bits .u8) 1).toNat):Int)==1);(((decide ((x5:Int) < 8))=true→(((0:Int)≤x5)∧((zz0=true→(InR ((8:Int)*x5))∧((0:Int)≤((8:Int)*x5))∧((InR ((x5:Int)+1))∧(N0 (Z0A m (IntKind.wrap .u64 (BitVec.ofInt (IntKind.bits .u64) x3 ||| BitVec.ofInt (IntKind.bits .u64) (IntKind.wrap .u64 ((255:Int)*2 ^ (min (Int.toNat ((8:Int)*x5)) (IntKind.bits .u64))))).toNat) ((x5:Int)+1)))))∧(zz0=false→(InR ((x5:Int)+1))∧(N0 (Z0A m x3 ((x5:Int)+1)))))))∧((decide ((x5:Int) < 8))=false→(Q .ret (L2 [(2,.c (.int .u64 x3))] []))))):=by kernel_rfl
 exact e_.mpr ⟨fun c_1=> ⟨(h.1 c_1).1,⟨fun c_2=> ⟨((h.1 c_1).2.1 c_2).1,((h.1 c_1).2.1 c_2).2.1,⟨((h.1 c_1).2.1 c_2).2.2.1,((h.1 c_1).2.1 c_2).2.2.2⟩⟩,fun c_2=> ⟨((h.1 c_1).2.2 c_2).1,((h.1 c_1).2.2 c_2).2⟩⟩⟩,fun c_1=> (h.2 c_1)⟩
def Zu8(m:Int):Prop:=AW (Z1 Z1j) Try.f105 Z8u [] (Zn (ZlR.can (m,())) []) (EQ Try.f105 (Zp0 (m,())) [])
theorem ZsM(hb:∀ (m:Int) (_:Unit),Zct (m,())→Zu8 m):CT 105 Z7V:=
 Z6 (l:=[]) Zo rfl trivial Z8u Try.func105 rfl rfl 1 (fun _=> rfl) (by decide) (fun ⟨m,_⟩=> hb m ())
def Zqf:List (FuncId × Fs U):=[(105,Z7V)]
def ZvS:Zh U:=lvl [([0,1,2],[]),([6],[])]
abbrev W66(a b m:Int)(Q:QT):=AW (Z1 Zqf) Try.f66 ZvS [] (L2 [(0,.c (.int .u64 a)),(1,.c (.int .u64 b)),(2,.c (.int .u8 m))] []) Q
theorem ZzN(a b m:Int)(Q:QT)(h:(Zct (m,()))∧(Zct (m,()))∧(Q .ret (L2 [(6,.c (.int .u64 (IntKind.wrap .u64 (BitVec.ofInt (IntKind.bits .u64) (IntKind.wrap .u64 (BitVec.ofInt (IntKind.bits .u64) a &&& ~~~(BitVec.ofInt (IntKind.bits .u64) ((Z0U m.toNat 8:Nat):Int))).toNat) ||| BitVec.ofInt (IntKind.bits .u64) (IntKind.wrap .u64 (BitVec.ofInt (IntKind.bits .u64) b &&& BitVec.ofInt (IntKind.bits .u64) ((Z0U m.toNat 8:Nat):Int)).toNat)).toNat)))] []))):
  W66 a b m Q:=by
 have e_:(W66 a b m Q)=(type_of% h):=by kernel_rfl
 exact e_.mpr ⟨h.1,h.2.1,h.2.2⟩
def Zxl(a b m:Int):Prop:=AW (Z1 Zqf) Try.f66 ZvS [] (Zn (Zr0.can (a,b,m,())) []) (EQ Try.f66 (Zuk (a,b,m,())) [])
theorem Zvw(ZwH:CT 105 Z7V)(hb:∀ (a:Int) (b:Int) (m:Int) (_:Unit),Z2C (a,b,m,())→Zxl a b m):CT 66 Z1D:=
 Z6 (l:=[(105,Z7V)]) Zo rfl (⟨ZwH,trivial⟩) ZvS Try.func66 rfl rfl 3 (fun _=> rfl) (by decide) (fun ⟨a,b,m,_⟩=> hb a b m ())
def Zlf:List (FuncId × Fs U):=[(80,Z5c)]
def Zq0:Zh U:=lvl [([1],[1]),([2],[])]
abbrev Zzb(t:Tree)(Q:QT):=AW (Z1 Zlf) Try.f122 Zq0 [] (L2 [(0,.agg (enc .tree t))] []) Q
theorem Zyo(t:Tree)(Q:QT)(h:((t.kind !=10)=true→Zh7 ((Tree.mk t.kind t.words t.kids),()))∧(Q .ret (L2 [(2,.c (.bool (bif (t.kind !=10) then (Z9 (Tree.mk t.kind t.words t.kids) 64) else false)))] []))):
  Zzb t Q:=by
 have e_:(Zzb t Q)=((ZI ((t.kind !=10)=true))∧((t.kind !=10)=true→Zh7 ((Tree.mk t.kind t.words t.kids),()))∧(ZI ((t.kind !=10)=true))∧(Q .ret (L2 [(2,.c (.bool (bif (t.kind !=10) then (Z9 (Tree.mk t.kind t.words t.kids) 64) else false)))] []))):=by kernel_rfl
 exact e_.mpr ⟨id,h.1,(by generalize ((t.kind:Int) !=10)=b0;revert b0;decide),h.2⟩
def ZtY(t:Tree):Prop:=AW (Z1 Zlf) Try.f122 Zq0 [] (Zn (ZlM.can (t,())) []) (EQ Try.f122 (ZoV (t,())) [])
theorem ZsF(c80:CT 80 Z5c)(hb:∀ (t:Tree) (_:Unit),Z5w (t,())→ZtY t):CT 122 Z4w:=
 Z6 (l:=[(80,Z5c)]) Zo rfl (⟨c80,trivial⟩) Zq0 Try.func122 rfl rfl 1 (fun _=> rfl) (by decide) (fun ⟨t,_⟩=> hb t ())
def Zl0:List (FuncId × Fs U):=[(80,Z5c)]
def ZpL:Zh U:=lvl [([0,3],[3]),([4],[])]
abbrev ZyX(list:Int)(t:Tree)(Q:QT):=AW (Z1 Zl0) Try.f186 ZpL [] (L2 [(0,.c (ci list)),(1,.agg (enc .tree t))] []) Q
theorem ZxX(list:Int)(t:Tree)(Q:QT)(h:(Zh7 ((Tree.mk list [] ([(Tree.mk t.kind t.words t.kids)])),()))∧(Q .ret (L2 [(4,.c (.bool (Z9 (Tree.mk list [] ([(Tree.mk t.kind t.words t.kids)])) 64)))] []))):
  ZyX list t Q:=by
 have e_:(ZyX list t Q)=(type_of% h):=by kernel_rfl
 exact e_.mpr ⟨h.1,h.2⟩
def Ztx(list:Int)(t:Tree):Prop:=AW (Z1 Zl0) Try.f186 ZpL [] (Zn (Zly.can (list,t,())) []) (EQ Try.f186 (ZoK (list,t,())) [])
theorem Zsl(c80:CT 80 Z5c)(hb:∀ (list:Int) (t:Tree) (_:Unit),Zcm (list,t,())→Ztx list t):CT 186 Z7J:=
 Z6 (l:=[(80,Z5c)]) Zo rfl (⟨c80,trivial⟩) ZpL Try.func186 rfl rfl 2 (fun _=> rfl) (by decide) (fun ⟨list,t,_⟩=> hb list t ())
def ZkZ:List (FuncId × Fs U):=[(120,Z1c)]
def ZpK:Zh U:=lvl [([0,3],[3]),([0,3,5],[3]),([4],[]),([3,13],[3]),([4],[]),([4],[])]
abbrev ZyW(list:Int)(e:Edit)(Q:QT):=AW (Z1 ZkZ) Try.f187 ZpK [] (L2 [(0,.c (ci list)),(1,.agg (enc .edit e))] []) Q
theorem ZxW(list:Int)(e:Edit)(Q:QT)(h:(Z7b (list,()))∧(((bif (decide (2≤list∧list≤7)) then true else (e.kind==0))=true→Q .ret (L2 [(4,.c (.bool false))] []))∧((bif (decide (2≤list∧list≤7)) then true else (e.kind==0))=false→((bif (list==8) then true else (e.kind==2))=true→Q .ret (L2 [(4,.c (.bool true))] []))∧((bif (list==8) then true else (e.kind==2))=false→Q .ret (L2 [(4,.c (.bool (bif (bif (e.kind==1) then (e.old.kind==1) else false) then (e.new.kind==1) else false)))] []))))):
  ZyW list e Q:=by
 have e_:(ZyW list e Q)=(let zz2:=(bif ((list:Int)==8) then true else (e.kind==2));let zz1:=(decide (2≤list∧list≤7));let zz0:=(bif (e.kind==1) then ((e.old.kind:Int)==1) else false);((Z7b (list,()))∧(ZI ((!zz1)=true))∧(ZI ((!zz1)=true))∧(zz1=false→(!zz1)=true)∧(((bif zz1 then true else (e.kind==0))=true→(Q .ret (L2 [(4,.c (.bool false))] [])))∧((bif zz1 then true else (e.kind==0))=false→(ZI ((!((list:Int)==8))=true))∧(ZI ((!((list:Int)==8))=true))∧(((list:Int)==8)=false→(!((list:Int)==8))=true)∧((zz2=true→(Q .ret (L2 [(4,.c (.bool true))] [])))∧(zz2=false→(ZI ((e.kind==1)=true))∧(ZI ((e.kind==1)=true))∧(ZI ((e.kind==1)=true))∧(ZI ((e.kind==1)=true))∧(ZI (zz0=true))∧(ZI (zz0=true))∧(ZI (zz0=true))∧(ZI (zz0=true))∧(Q .ret (L2 [(4,.c (.bool (bif zz0 then ((e.new.kind:Int)==1) else false)))] [])))))))):=by kernel_rfl
 exact e_.mpr ⟨h.1,id,id,(by generalize (decide (2≤list∧list≤7))=b0;revert b0;decide),⟨fun c_3=> (h.2.1 c_3),fun c_3=> ⟨id,id,(by generalize ((list:Int)==8)=b0;revert b0;decide),⟨fun c_4=> ((h.2.2 c_3).1 c_4),fun c_4=> ⟨id,id,id,(by generalize ((e.kind:Int)==1)=b0;revert b0;decide),id,id,id,(by generalize ((e.old.kind:Int)==1)=b0;generalize ((e.kind:Int)==1)=b1;revert b0 b1;decide),((h.2.2 c_3).2 c_4)⟩⟩⟩⟩⟩
def Ztw(list:Int)(e:Edit):Prop:=AW (Z1 ZkZ) Try.f187 ZpK [] (Zn (Zlx.can (list,e,())) []) (EQ Try.f187 (ZoJ (list,e,())) [])
theorem Zsk(Zg1:CT 120 Z1c)(hb:∀ (list:Int) (e:Edit) (_:Unit),Zfq (list,e,())→Ztw list e):CT 187 Z4s:=
 Z6 (l:=[(120,Z1c)]) Zo rfl (⟨Zg1,trivial⟩) ZpK Try.func187 rfl rfl 2 (fun _=> rfl) (by decide) (fun ⟨list,e,_⟩=> hb list e ())
def Z1i:List (FuncId × Fs U):=[(66,Z1D)]
def Z8t:Zh U:=lvl [([0],[]),([0,5,6,7],[]),([0,5,6,7,8],[]),([0,3,4,5,6,7],[4]),([0,4,5,6,7,39],[4]),([2],[]),([0,5,6,7,53],[]),([2],[]),([0,5,6,7],[]),([2],[])]
def Z2k(l:List WEdit)(x7:Int):LSt U:=(L2 [(0,.c (sU .wedit l .unk)),(5,.c (sU .wedit l .unk)),(6,.c (ci (l.length:Int))),(7,.c (ci x7))] [])
abbrev Zza(l:List WEdit)(Q:QT):=AW (Z1 Z1i) Try.f123 Z8t [] (L2 [(0,.c (sU .wedit l .unk))] []) Q
abbrev ZjG:=awp cfg (Z1 Z1i) (ZJ cfg (Z1 Z1i)) Try.f123.ntmps Z8t
abbrev Ziv:=Z7Y cfg (Z1 Z1i) (ZJ cfg (Z1 Z1i)) Try.f123.ntmps Z8t
theorem Zyn(l:List WEdit)(Q:QT)(h:Zl (AW (Z1 Z1i) Try.f123 Z8t [1,0,1,0,0]) (Z2k l 0) (xB 0 (SW (Z1 Z1i) Try.f123 Z8t [1,1] Q))):
  Zza l Q:=by
 have e_:(Zza l Q)=(Zl (ZjG (cd Try.f123 [1,0,1,0,0])) (Z2k l 0) (xB 0 (Ziv (cd Try.f123 [1,1]) Q))):=by kernel_rfl
 exact e_.mpr h
abbrev Zm5(l:List WEdit)(x7:Int)(N0:NT)(Q:QT):=AW (Z1 Z1i) Try.f123 Z8t [1,0,1,0,0] (Z2k l x7) (xT N0 (xB 0 (SW (Z1 Z1i) Try.f123 Z8t [1,1] Q)))
theorem Zo1(l:List WEdit)(x7:Int)(N0:NT)(Q:QT)(h:∀ y_1,y_1=(l.getD x7.toNat (WEdit.mk 0 0 0 0))→∀ y_2,y_2=(List.getD l (Int.toNat (x7 - 1)) (WEdit.mk 0 0 0 0))→((decide (x7 < (l.length:Int)))=true→((0:Int)≤x7∧x7 < (l.length:Int))∧((((!(bif (decide (y_1.at_ < 0)) then true else (decide ((65535:Int)≤y_1.at_)))) && (decide ((0:Int) < x7)))=true→InR (x7 - 1))∧(((!(bif (decide (y_1.at_ < 0)) then true else (decide ((65535:Int)≤y_1.at_)))) && (decide ((0:Int) < x7)))=true→(0:Int)≤(x7 - 1)∧(x7 - 1) < (l.length:Int))∧(((bif (bif (bif (decide (y_1.at_ < 0)) then true else (decide ((65535:Int)≤y_1.at_))) then true else (bif (decide ((0:Int) < x7)) then (decide (y_1.at_≤y_2.at_)) else false)) then true else (y_1.mask==0))=true→Q .ret (L2 [(2,.c (.bool false))] []))∧((bif (bif (bif (decide (y_1.at_ < 0)) then true else (decide ((65535:Int)≤y_1.at_))) then true else (bif (decide ((0:Int) < x7)) then (decide (y_1.at_≤y_2.at_)) else false)) then true else (y_1.mask==0))=false→(Z2C (y_1.old,0,y_1.mask,()))∧((!(((mix y_1.old 0 y_1.mask):Int) !=0))=true→Z2C (y_1.new,0,y_1.mask,()))∧(((bif (((mix y_1.old 0 y_1.mask):Int) !=0) then true else (((mix y_1.new 0 y_1.mask):Int) !=0))=true→Q .ret (L2 [(2,.c (.bool false))] []))∧((bif (((mix y_1.old 0 y_1.mask):Int) !=0) then true else (((mix y_1.new 0 y_1.mask):Int) !=0))=false→(InR (x7+1))∧(N0 (Z2k l (x7+1)))))))))∧((decide (x7 < (l.length:Int)))=false→Q .ret (L2 [(2,.c (.bool true))] []))):
  Zm5 l x7 N0 Q:=by
 have e_:(Zm5 l x7 N0 Q)=(let y_1:=(l.getD x7.toNat (WEdit.mk 0 0 0 0));let y_2:=(List.getD l (Int.toNat ((x7:Int) - 1)) (WEdit.mk 0 0 0 0));let zz5:=(((mix y_1.new 0 y_1.mask):Int) !=0);let zz4:=(decide (y_1.at_ < 0));let zz3:=(decide ((0:Int) < x7));let zz2:=(bif zz3 then (decide (y_1.at_≤y_2.at_)) else false);let zz1:=(((mix y_1.old 0 y_1.mask):Int) !=0);let zz0:=(bif zz4 then true else (decide ((65535:Int)≤y_1.at_)));(((decide ((x7:Int) < (l.length:Int)))=true→((0:Int)≤x7∧x7 < (l.length:Int))∧((ZI ((!zz4)=true))∧(ZI ((!zz4)=true))∧(zz4=false→(!zz4)=true)∧(ZI ((!zz0)=true))∧(ZI ((!zz0)=true))∧(ZI (((!zz0) && zz3)=true))∧(((!zz0) && zz3)=true→InR ((x7:Int) - 1))∧(ZI (((!zz0) && zz3)=true))∧(ZI (((!zz0) && zz3)=true))∧(((!zz0) && zz3)=true→(0:Int)≤((x7:Int) - 1)∧((x7:Int) - 1) < (l.length:Int))∧(ZI (((!zz0) && zz3)=true))∧(ZI (((!zz0) && zz3)=true))∧(ZI (((!zz0) && zz3)=true))∧(ZI (((!zz0) && zz3)=true))∧(ZI (((!zz0) && zz3)=true))∧((!zz0)=true→(True→(!zz0)=true))∧((!zz0)=true→(zz3=true→((!zz0) && zz3)=true))∧(zz0=false→(!zz0)=true)∧(ZI ((!(bif zz0 then true else zz2))=true))∧(ZI ((!(bif zz0 then true else zz2))=true))∧((bif zz0 then true else zz2)=false→(!(bif zz0 then true else zz2))=true)∧(((bif (bif zz0 then true else zz2) then true else (y_1.mask==0))=true→(Q .ret (L2 [(2,.c (.bool false))] [])))∧((bif (bif zz0 then true else zz2) then true else (y_1.mask==0))=false→(Z2C (y_1.old,0,y_1.mask,()))∧(ZI ((!zz1)=true))∧(ZI ((!zz1)=true))∧(ZI ((!zz1)=true))∧(ZI ((!zz1)=true))∧((!zz1)=true→Z2C (y_1.new,0,y_1.mask,()))∧(ZI ((!zz1)=true))∧(zz1=false→(!zz1)=true)∧(((bif zz1 then true else zz5)=true→(Q .ret (L2 [(2,.c (.bool false))] [])))∧((bif zz1 then true else zz5)=false→(InR ((x7:Int)+1))∧(N0 (Z2k l ((x7:Int)+1)))))))))∧((decide ((x7:Int) < (l.length:Int)))=false→(Q .ret (L2 [(2,.c (.bool true))] []))))):=by kernel_rfl
 exact e_.mpr (by intro y_1 y_2;have hh:=h y_1 rfl y_2 rfl;exact ⟨fun c_5=> ⟨(hh.1 c_5).1,⟨id,id,(by generalize (decide ((y_1.at_:Int) < 0))=b0;revert b0;decide),id,id,id,(hh.1 c_5).2.1,id,id,(hh.1 c_5).2.2.1,id,id,id,id,id,(by generalize (decide ((65535:Int)≤y_1.at_))=b0;generalize (decide ((y_1.at_:Int) < 0))=b1;revert b0 b1;decide),(by generalize (decide ((65535:Int)≤y_1.at_))=b0;generalize (decide ((y_1.at_:Int) < 0))=b1;generalize (decide ((0:Int) < x7))=b2;revert b0 b1 b2;decide),(by generalize (decide ((65535:Int)≤y_1.at_))=b0;generalize (decide ((y_1.at_:Int) < 0))=b1;revert b0 b1;decide),id,id,(by generalize (decide ((y_1.at_:Int)≤y_2.at_))=b0;generalize (decide ((65535:Int)≤y_1.at_))=b1;generalize (decide ((y_1.at_:Int) < 0))=b2;generalize (decide ((0:Int) < x7))=b3;revert b0 b1 b2 b3;decide),⟨fun c_6=> ((hh.1 c_5).2.2.2.1 c_6),fun c_6=> ⟨((hh.1 c_5).2.2.2.2 c_6).1,id,id,id,id,((hh.1 c_5).2.2.2.2 c_6).2.1,id,(by generalize (((mix y_1.old 0 y_1.mask):Int) !=0)=b0;revert b0;decide),⟨fun c_7=> (((hh.1 c_5).2.2.2.2 c_6).2.2.1 c_7),fun c_7=> ⟨(((hh.1 c_5).2.2.2.2 c_6).2.2.2 c_7).1,(((hh.1 c_5).2.2.2.2 c_6).2.2.2 c_7).2⟩⟩⟩⟩⟩⟩,fun c_5=> (hh.2 c_5)⟩)
def ZtX(l:List WEdit):Prop:=AW (Z1 Z1i) Try.f123 Z8t [] (Zn (ZlL.can (l,())) []) (EQ Try.f123 (ZoU (l,())) [])
theorem ZsE(c66:CT 66 Z1D)(hb:∀ (l:List WEdit) (_:Unit),Z9r (l,())→ZtX l):CT 123 Z4v:=
 Z6 (l:=[(66,Z1D)]) Zo rfl (⟨c66,trivial⟩) Z8t Try.func123 rfl rfl 1 (fun _=> rfl) (by decide) (fun ⟨l,_⟩=> hb l ())
end
end
end Go.AM.Ytpjenobkibfpcaa
namespace Go.AM.Ytpjenobkibfpcaa
open Go.AM Go.Proofs
theorem ZqQ:∀ n:Fin 256,∀ i:Fin 8,IntKind.wrap .u8 (BitVec.ofInt (IntKind.bits .u8) (Int.fdiv (n.1:Int) (2 ^ (min (Int.toNat (i.1:Int)) (IntKind.bits .u8)))) &&& BitVec.ofInt (IntKind.bits .u8) 1).toNat=((n.1 / 2 ^ i.1 % 2:Nat):Int):=by decide+kernel
theorem Zs5:∀ n:Fin 256,∀ i:Fin 8,IntKind.wrap .u64 (BitVec.ofInt (IntKind.bits .u64) ((Z0U n.1 i.1:Nat):Int) ||| BitVec.ofInt (IntKind.bits .u64) (IntKind.wrap .u64 (255*2 ^ (min (Int.toNat (8*(i.1:Int))) (IntKind.bits .u64))))).toNat=((Z0U n.1 i.1+255*2 ^ (8*i.1):Nat):Int):=by decide+kernel
theorem ZwH:Contract Try.prog cfg 105 Z7V:=by
 refine ZsM ?_
 intro m _ hp
 simp only [Zct] at hp
 obtain ⟨n,rfl⟩:=Int.eq_ofNat_of_zero_le hp.1
 have hn:n < 256:=by omega
 refine Zyy _ _ ?_
 refine Ze (ι:=Nat) (fun i=> Z0A n ((Z0U n i:Nat):Int) i) (fun i=> i≤8) (fun i=> 8 - i) 0 rfl (by omega) ?_
 intro i hi
 refine Zoe _ _ _ _ _ ?_
 (simp only [vcS])
 refine ⟨fun hc=> ⟨by omega,fun hq=> ⟨by unfold InR;omega,by omega,by unfold InR;omega,i+1,?_,by omega,by omega⟩,fun hq=> ⟨by unfold InR;omega,i+1,?_,by omega,by omega⟩⟩,fun hc=> ?_⟩
 ·have h1:=ZqQ ⟨n,hn⟩ ⟨i,by omega⟩
  have h2:=Zs5 ⟨n,hn⟩ ⟨i,by omega⟩
  simp only at h1 h2
  rw [h1] at hq
  rw [h2]
  have e:Z0U n (i+1)=Z0U n i+255*2 ^ (8*i):=by simp only [Z0U];rw [if_pos (by omega)]
  rw [e]
  try rfl
 ·have h1:=ZqQ ⟨n,hn⟩ ⟨i,by omega⟩
  simp only at h1
  rw [h1] at hq
  have e:Z0U n (i+1)=Z0U n i:=by simp only [Z0U];rw [if_neg (by omega)];omega
  rw [e]
  try rfl
 ·have:i=8:=by omega
  subst this
  exact Yy rfl rfl
theorem Z28(a:Nat)(h:a < 2 ^ 64):(BitVec.ofInt 64 (a:Int)).toNat=a:=by
 rw [BitVec.toNat_ofInt]
 omega
theorem c66:Contract Try.prog cfg 66 Z1D:=by
 refine Zvw ZwH ?_
 intro a b m _ hp
 simp only [Z2C] at hp
 obtain ⟨⟨a0,a1⟩,⟨b0,b1⟩,m0,m1⟩:=hp
 obtain ⟨x,rfl⟩:=Int.eq_ofNat_of_zero_le a0
 obtain ⟨y,rfl⟩:=Int.eq_ofNat_of_zero_le b0
 obtain ⟨n,rfl⟩:=Int.eq_ofNat_of_zero_le m0
 have hn:n < 256:=by omega
 have hx:x < 2 ^ 64:=by omega
 have hy:y < 2 ^ 64:=by omega
 have hw:=Zrq ⟨n,hn⟩
 have hw2:=ZjK ⟨n,hn⟩
 simp only at hw hw2
 rw [←hw2] at hw
 refine ZzN _ _ _ _ ?_
 refine ⟨⟨m0,m1⟩,⟨m0,m1⟩,Yy rfl ?_⟩
 have em:mix x y n=(((x &&& (2 ^ 64 - 1 - Z0U n 8)) ||| (y &&& Z0U n 8):Nat):Int):=by rw [←ZpB,←ZpA x y n hn]
 have e1:(BitVec.ofInt 64 (x:Int) &&& ~~~(BitVec.ofInt 64 ((Z0U n 8:Nat):Int))).toNat=x &&& (2 ^ 64 - 1 - Z0U n 8):=by
  rw [BitVec.toNat_and,BitVec.toNat_not,Z28 x hx,Z28 _ hw]
 have e2:(BitVec.ofInt 64 (y:Int) &&& BitVec.ofInt 64 ((Z0U n 8:Nat):Int)).toNat=y &&& Z0U n 8:=by
  rw [BitVec.toNat_and,Z28 y hy,Z28 _ hw]
 have l1:x &&& (2 ^ 64 - 1 - Z0U n 8) < 2 ^ 64:=Nat.lt_of_le_of_lt Nat.and_le_left hx
 have l2:y &&& Z0U n 8 < 2 ^ 64:=Nat.lt_of_le_of_lt Nat.and_le_left hy
 have l3:(x &&& (2 ^ 64 - 1 - Z0U n 8)) ||| (y &&& Z0U n 8) < 2 ^ 64:=Nat.or_lt_two_pow l1 l2
 have key:IntKind.wrap .u64 ((BitVec.ofInt 64 (IntKind.wrap .u64 ((BitVec.ofInt 64 (x:Int) &&& ~~~(BitVec.ofInt 64 ((Z0U n 8:Nat):Int))).toNat:Int)) ||| BitVec.ofInt 64 (IntKind.wrap .u64 ((BitVec.ofInt 64 (y:Int) &&& BitVec.ofInt 64 ((Z0U n 8:Nat):Int)).toNat:Int))).toNat:Int)=mix x y n:=by
  have w1:∀ k:Nat,k < 2 ^ 64→IntKind.wrap .u64 (k:Int)=k:=fun k hk=> Z59 (by omega) (by omega)
  rw [e1,e2,w1 _ l1,w1 _ l2,BitVec.toNat_or,Z28 _ l1,Z28 _ l2,w1 _ l3,em]
 exact key
theorem ZwC:Contract Try.prog cfg 122 Z4w:=by
 refine ZsF c80 ?_
 intro t _ hp
 refine Zyo _ _ ?_
 (simp only [Tree.eta,Edit.eta,Tree.kind_mk,Tree.words_mk,Tree.kids_mk])
 refine ⟨fun _=> hp,Z4 rfl ?_⟩
 rw [Bool.eq_iff_iff]
 (simp only [vcS])
theorem Zwm:Contract Try.prog cfg 186 Z7J:=by
 refine Zsl c80 ?_
 intro list t _ hp
 simp only [Zcm] at hp
 refine ZxX _ _ _ ?_
 (simp only [Tree.eta,Edit.eta,Tree.kind_mk,Tree.words_mk,Tree.kids_mk])
 refine ⟨⟨?_,?_⟩,by (repeat' (first | exact trivial | exact rfl | apply And.intro))⟩
 ·simp only [Zq,Zg,List.length_nil];omega
 ·simp only [rng,Yb]
  have hi:=hp.2.2
  unfold isI at hi
  exact ⟨hi,by simp,hp.2.1,trivial⟩
theorem Zwl:Contract Try.prog cfg 187 Z4s:=by
 refine Zsk Zg1 ?_
 intro list e _ hp
 refine ZxW _ _ _ ?_
 (simp only [vcS])
 refine ⟨trivial,fun h=> ?_,fun h=> ⟨fun h2=> ?_,fun h2=> ?_⟩⟩
 ·exact Z4 rfl (by show false=Yz list e;unfold Yz;rw [if_pos h])
 ·exact Z4 rfl (by show true=Yz list e;unfold Yz;rw [if_neg (by omega),if_pos h2])
 ·refine Z4 rfl ?_
  show _=Yz list e
  unfold Yz
  rw [if_neg (by omega),if_neg (by omega),Bool.eq_iff_iff]
  (simp only [vcS])
  omega
theorem ZeP(last:Int)(w:WEdit)(r:List WEdit):Zk last (w ::r)=(decide (last < w.at_∧w.at_≤65534∧w.mask≠0) && ZK w.old w.mask && ZK w.new w.mask && Zk w.at_ r):=rfl
theorem ZwB:Contract Try.prog cfg 123 Z4v:=by
 refine ZsE c66 ?_
 intro l _ hp
 simp only [Z9r] at hp
 refine Zyn _ _ ?_
 refine Ze (ι:=Int) (fun i=> Z2k l i) (fun i=> 0≤i∧i≤l.length∧(i≠0→0≤(l.getD (i - 1).toNat (WEdit.mk 0 0 0 0)).at_)∧Zk (if i=0 then -1 else (l.getD (i - 1).toNat (WEdit.mk 0 0 0 0)).at_) (l.drop i.toNat)=Zk (-1) l) (fun i=> ((l.length:Int) - i).toNat) 0 rfl ⟨by omega,by omega,by simp,by simp⟩ ?_
 rintro i ⟨h1,h2,hpos,h3⟩
 refine Zo1 _ _ _ _ ?_
 rintro y1 hy1 y2 hy2
 (simp only [vcS])
 refine ⟨fun hi=> ?_,fun hi=> ?_⟩
 ·have hm:=hp.2 _ (Zm (l:=l) (i:=i.toNat) (by omega) (WEdit.mk 0 0 0 0))
  rw [YU h1 hi (WEdit.mk 0 0 0 0),ZeP] at h3
  rw [←hy1] at h3 hm
  rw [←hy2] at h3 hpos
  obtain ⟨r1,r2,r3,r4⟩:=hm
  unfold isW at r3 r4
  have hw:∀ x:Int,ZK x y1.mask=decide (mix x 0 y1.mask=0):=fun x=> rfl
  refine ⟨⟨h1,hi⟩,fun _=> by unfold InR;omega,fun _=> ⟨by omega,by omega⟩,fun hq=> ?_,fun hq=> ⟨⟨r3,by dsimp only;omega,r2⟩,fun _=> ⟨r4,by dsimp only;omega,r2⟩,fun hz=> ?_,fun hz=> ⟨by unfold InR;omega,i+1,rfl,⟨by omega,by omega,fun _=> by rw [show i+1 - 1=i by omega,←hy1];omega,?_⟩,by omega⟩⟩⟩
  ·refine Z4 rfl ?_
   show false=Zk (-1) l
   rw [←h3,decide_eq_false]
   ·try rfl
   ·split <;> omega
  ·refine Z4 rfl ?_
   show false=Zk (-1) l
   rw [←h3,hw,hw]
   rcases hz with hz | hz
   ·rw [decide_eq_false hz];simp
   ·rw [decide_eq_false hz];simp
  ·rw [if_neg (by omega),show i+1 - 1=i by omega,←hy1,←h3,hw,hw,decide_eq_true hz.1,decide_eq_true hz.2,decide_eq_true]
   ·simp
   ·split <;> omega
 ·rw [List.drop_of_length_le (by omega)] at h3
  exact Z4 rfl (by show true=Zk (-1) l;rw [←h3];rfl)
end Go.AM.Ytpjenobkibfpcaa
namespace Go.AM
def wr(n:Int):Int:=IntKind.wrap .i64 n
def Z12(o:Op):Int:=if o.kind=3 then 1 else wr (o.n+o.l.length)
def Zg0(n:Int):Int:=if 1048576 < n then 1048576 else n
def Z1x:List Op→Int→Int
 | [],n=> n
 | o ::r,n=> Z1x r (if o.kind=2 then n else Zg0 (wr (n+Z12 o)))
def Z1J:List Op→Int→Int
 | [],n=> n
 | o ::r,n=> Z1J r (if o.kind=1 then n else Zg0 (wr (n+Z12 o)))
def Z1B(e:Edit):Bool:=
 if (e.kind≠1∧¬(ZT e.old=true∧ZT e.new=true))∨(e.kind≠2∧¬(e.words.length=0∧e.kids.length=0))∨(e.kind≠3∧(e.list≠0∨e.ops.length≠0)) then false else true
end Go.AM
namespace Go.AM.Ytpjenobkibfpcaa
open Go.AM Go.Proofs
noncomputable section
def ZlB:ArgL (Edit × Unit):=(.cons (aEl .edit) .nil)
def Z9m(a:Edit × Unit):Prop:=Zc a.1≤20000000000
def ZoN(a:Edit × Unit):V U:= .tup [(false,[ci (Z1x a.1.ops 0)]),(false,[ci (Z1J a.1.ops 0)])]
def Z4u:Fs U:=fs ZlB (fun a=> [Z9m a]) ZoN
def Zz:List (FuncId × Fs U):=[]
def Yj:Zh U:=lvl [([1],[1]),([1,4,5],[1]),([4,5,10,11,12],[]),([4,5,10,11,12,13],[]),([4,5,7,10,11,12],[7]),([4,5,7,8,10,11,12],[7]),([4,5,7,8,10,11,12,24],[7]),([4,5,7,8,10,11,12,24],[7]),([4,5,7,8,10,11,12,27],[7]),([4,5,7,8,10,11,12,27],[7]),([4,5,8,10,11,12,34],[]),([4,5,10,11,12],[]),([4,5,10,11,12],[]),([2,3],[])]
def JH(e:Edit)(x4 x5 x12:Int):LSt U:=(L2 [(4,.c (ci x4)),(5,.c (ci x5)),(10,.c (sU .op e.ops .unk)),(11,.c (ci (e.ops.length:Int))),(12,.c (ci x12))] [])
def Z48(e:Edit)(x4 x5 x12 x8_a:Int):LSt U:=(L2 [(4,.c (ci x4)),(5,.c (ci x5)),(7,.ptr (.loc 7) 0),(8,.c (ci x8_a)),(10,.c (sU .op e.ops .unk)),(11,.c (ci (e.ops.length:Int))),(12,.c (ci x12)),(24,.c (.bool (((OpOf.kind (e.ops.getD x12.toNat Op.nil)):Int)==3)))] [(.loc 7,(enc .op (e.ops.getD x12.toNat Op.nil)))])
def Z47(e:Edit)(x5 x12 x8_a x4_b:Int):LSt U:=(L2 [(4,.c (ci x4_b)),(5,.c (ci x5)),(7,.ptr (.loc 7) 0),(8,.c (ci x8_a)),(10,.c (sU .op e.ops .unk)),(11,.c (ci (e.ops.length:Int))),(12,.c (ci x12)),(27,.c (.bool (((OpOf.kind (e.ops.getD x12.toNat Op.nil)):Int) !=2)))] [(.loc 7,(enc .op (e.ops.getD x12.toNat Op.nil)))])
abbrev Zz2(e:Edit)(Q:QT):=AW (Yd Zz) Try.f164 Yj [] (L2 [(0,.agg (enc .edit e))] []) Q
theorem Zy4(e:Edit)(Q:QT)(h:Zl (AW (Yd Zz) Try.f164 Yj [1,1,0,1,0,0]) (JH e 0 0 0) (xB 0 (SW (Yd Zz) Try.f164 Yj [1,1,1] Q))):
  Zz2 e Q:=by
 have e_:(Zz2 e Q)=(Zl (AW (Yd Zz) Try.f164 Yj [1,1,0,1,0,0]) (JH e 0 0 0) (xB 0 (SW (Yd Zz) Try.f164 Yj [1,1,1] Q))):=by kernel_rfl
 exact e_.mpr h
abbrev Zm0(e:Edit)(x4 x5 x12:Int)(N0:NT)(Q:QT):=AW (Yd Zz) Try.f164 Yj [1,1,0,1,0,0] (JH e x4 x5 x12) (xT N0 (xB 0 (SW (Yd Zz) Try.f164 Yj [1,1,1] Q)))
theorem ZnQ(e:Edit)(x4 x5 x12:Int)(N0:NT)(Q:QT)(h:((decide (x12 < (e.ops.length:Int)))=true→((0:Int)≤x12∧x12 < (e.ops.length:Int))∧(((((OpOf.kind (e.ops.getD x12.toNat Op.nil)):Int)==3)=true→AW (Yd Zz) Try.f164 Yj [1,1,0,1,0,0,1,1,0,0,1,1,1] (Z48 e x4 x5 x12 1) (xB 1 (SW (Yd Zz) Try.f164 Yj [1,1,0,1,0,0,1,1,1] (xT N0 (xB 0 (SW (Yd Zz) Try.f164 Yj [1,1,1] Q))))))∧((((OpOf.kind (e.ops.getD x12.toNat Op.nil)):Int)==3)=false→AW (Yd Zz) Try.f164 Yj [1,1,0,1,0,0,1,1,0,0,1,1,1] (Z48 e x4 x5 x12 (IntKind.wrap .i64 (((OpOf.n (e.ops.getD x12.toNat Op.nil)):Int)+((OpOf.l (e.ops.getD x12.toNat Op.nil)).length:Int)))) (xB 1 (SW (Yd Zz) Try.f164 Yj [1,1,0,1,0,0,1,1,1] (xT N0 (xB 0 (SW (Yd Zz) Try.f164 Yj [1,1,1] Q))))))))∧((decide (x12 < (e.ops.length:Int)))=false→Q .ret (L2 [(2,.c (ci x4)),(3,.c (ci x5))] []))):
  Zm0 e x4 x5 x12 N0 Q:=by
 have e_:(Zm0 e x4 x5 x12 N0 Q)=(let zz0:=(((OpOf.kind (e.ops.getD x12.toNat Op.nil)):Int)==3);(((decide ((x12:Int) < (e.ops.length:Int)))=true→((0:Int)≤x12∧x12 < (e.ops.length:Int))∧((zz0=true→(AW (Yd Zz) Try.f164 Yj [1,1,0,1,0,0,1,1,0,0,1,1,1] (Z48 e x4 x5 x12 1) (xB 1 (SW (Yd Zz) Try.f164 Yj [1,1,0,1,0,0,1,1,1] (xT N0 (xB 0 (SW (Yd Zz) Try.f164 Yj [1,1,1] Q)))))))∧(zz0=false→AW (Yd Zz) Try.f164 Yj [1,1,0,1,0,0,1,1,0,0,1,1,1] (Z48 e x4 x5 x12 (IntKind.wrap .i64 (((OpOf.n (e.ops.getD x12.toNat Op.nil)):Int)+((OpOf.l (e.ops.getD x12.toNat Op.nil)).length:Int)))) (xB 1 (SW (Yd Zz) Try.f164 Yj [1,1,0,1,0,0,1,1,1] (xT N0 (xB 0 (SW (Yd Zz) Try.f164 Yj [1,1,1] Q))))))))∧((decide ((x12:Int) < (e.ops.length:Int)))=false→(Q .ret (L2 [(2,.c (ci x4)),(3,.c (ci x5))] []))))):=by kernel_rfl
 exact e_.mpr ⟨fun c_1=> ⟨(h.1 c_1).1,⟨fun c_2=> ((h.1 c_1).2.1 c_2),fun c_2=> ((h.1 c_1).2.2 c_2)⟩⟩,fun c_1=> (h.2 c_1)⟩
abbrev Zgp(e:Edit)(x4 x5 x12 x8_a:Int)(N0:NT)(Q:QT):=AW (Yd Zz) Try.f164 Yj [1,1,0,1,0,0,1,1,0,0,1,1,1] (Z48 e x4 x5 x12 x8_a) (xB 1 (SW (Yd Zz) Try.f164 Yj [1,1,0,1,0,0,1,1,1] (xT N0 (xB 0 (SW (Yd Zz) Try.f164 Yj [1,1,1] Q)))))
theorem ZnS(e:Edit)(x4 x5 x12 x8_a:Int)(N0:NT)(Q:QT)(h:((((OpOf.kind (e.ops.getD x12.toNat Op.nil)):Int) !=2)=true→AW (Yd Zz) Try.f164 Yj [1,1,0,1,0,0,1,1,0,0,1,1,1,1] (Z47 e x5 x12 x8_a (if (1048576:Int) < (IntKind.wrap .i64 (x4+x8_a)) then 1048576 else (IntKind.wrap .i64 (x4+x8_a)))) (xB 1 (SW (Yd Zz) Try.f164 Yj [1,1,0,1,0,0,1,1,1] (xT N0 (xB 0 (SW (Yd Zz) Try.f164 Yj [1,1,1] Q))))))∧((((OpOf.kind (e.ops.getD x12.toNat Op.nil)):Int) !=2)=false→AW (Yd Zz) Try.f164 Yj [1,1,0,1,0,0,1,1,0,0,1,1,1,1] (Z47 e x5 x12 x8_a x4) (xB 1 (SW (Yd Zz) Try.f164 Yj [1,1,0,1,0,0,1,1,1] (xT N0 (xB 0 (SW (Yd Zz) Try.f164 Yj [1,1,1] Q))))))):
  Zgp e x4 x5 x12 x8_a N0 Q:=by
 have e_:(Zgp e x4 x5 x12 x8_a N0 Q)=(let zz0:=(((OpOf.kind (e.ops.getD x12.toNat Op.nil)):Int) !=2);((zz0=true→(AW (Yd Zz) Try.f164 Yj [1,1,0,1,0,0,1,1,0,0,1,1,1,1] (Z47 e x5 x12 x8_a (if (1048576:Int) < (IntKind.wrap .i64 ((x4:Int)+x8_a)) then 1048576 else (IntKind.wrap .i64 ((x4:Int)+x8_a)))) (xB 1 (SW (Yd Zz) Try.f164 Yj [1,1,0,1,0,0,1,1,1] (xT N0 (xB 0 (SW (Yd Zz) Try.f164 Yj [1,1,1] Q)))))))∧(zz0=false→AW (Yd Zz) Try.f164 Yj [1,1,0,1,0,0,1,1,0,0,1,1,1,1] (Z47 e x5 x12 x8_a x4) (xB 1 (SW (Yd Zz) Try.f164 Yj [1,1,0,1,0,0,1,1,1] (xT N0 (xB 0 (SW (Yd Zz) Try.f164 Yj [1,1,1] Q)))))))):=by kernel_rfl
 exact e_.mpr ⟨fun c_3=> (h.1 c_3),fun c_3=> (h.2 c_3)⟩
abbrev Zgo(e:Edit)(x5 x12 x8_a x4_b:Int)(N0:NT)(Q:QT):=AW (Yd Zz) Try.f164 Yj [1,1,0,1,0,0,1,1,0,0,1,1,1,1] (Z47 e x5 x12 x8_a x4_b) (xB 1 (SW (Yd Zz) Try.f164 Yj [1,1,0,1,0,0,1,1,1] (xT N0 (xB 0 (SW (Yd Zz) Try.f164 Yj [1,1,1] Q)))))
theorem ZnR(e:Edit)(x5 x12 x8_a x4_b:Int)(N0:NT)(Q:QT)(h:((((OpOf.kind (e.ops.getD x12.toNat Op.nil)):Int) !=1)=true→N0 (JH e x4_b (if (1048576:Int) < (IntKind.wrap .i64 (x5+x8_a)) then 1048576 else (IntKind.wrap .i64 (x5+x8_a))) (IntKind.wrap .i64 (x12+1))))∧((((OpOf.kind (e.ops.getD x12.toNat Op.nil)):Int) !=1)=false→N0 (JH e x4_b x5 (IntKind.wrap .i64 (x12+1))))):
  Zgo e x5 x12 x8_a x4_b N0 Q:=by
 have e_:(Zgo e x5 x12 x8_a x4_b N0 Q)=(((((OpOf.kind (e.ops.getD x12.toNat Op.nil)):Int) !=1)=true→(N0 (JH e x4_b (if (1048576:Int) < (IntKind.wrap .i64 ((x5:Int)+x8_a)) then 1048576 else (IntKind.wrap .i64 ((x5:Int)+x8_a))) (IntKind.wrap .i64 ((x12:Int)+1)))))∧((((OpOf.kind (e.ops.getD x12.toNat Op.nil)):Int) !=1)=false→(N0 (JH e x4_b x5 (IntKind.wrap .i64 ((x12:Int)+1)))))):=by kernel_rfl
 exact e_.mpr ⟨fun c_4=> (h.1 c_4),fun c_4=> (h.2 c_4)⟩
def ZtE(e:Edit):Prop:=AW (Yd Zz) Try.f164 Yj [] (Zn (ZlB.can (e,())) []) (EQ Try.f164 (ZoN (e,())) [])
theorem Zsr(hb:∀ (e:Edit) (_:Unit),Z9m (e,())→ZtE e):CT 164 Z4u:=
 Zda (l:=[]) Zo rfl trivial Yj Try.func164 rfl rfl 1 (fun _=> rfl) (by decide) (fun ⟨e,_⟩=> hb e ())
end
end Go.AM.Ytpjenobkibfpcaa
namespace Go.AM.Ytpjenobkibfpcaa
open Go.AM Go.Proofs
theorem Zgt{n:Int}(h:InR n):wr n=n:=by
 unfold InR at h
 simp [wr,IntKind.wrap,IntKind.signed,IntKind.bits]
 split <;> omega
theorem Zj1{l:List Op}{i:Int}(n:Int)(h0:0≤i)(h:i < l.length):Z1x (l.drop i.toNat) n=Z1x (l.drop (i+1).toNat) (if (l.getD i.toNat Op.nil).kind=2 then n else Zg0 (wr (n+Z12 (l.getD i.toNat Op.nil)))):=by
 rw [YU h0 h Op.nil,Z1x]
theorem Zj0{l:List Op}{i:Int}(n:Int)(h0:0≤i)(h:i < l.length):Z1J (l.drop i.toNat) n=Z1J (l.drop (i+1).toNat) (if (l.getD i.toNat Op.nil).kind=1 then n else Zg0 (wr (n+Z12 (l.getD i.toNat Op.nil)))):=by
 rw [YU h0 h Op.nil,Z1J]
theorem Zwr:Contract Try.prog cfg 164 Z4u:=by
 refine Zsr ?_
 intro e _ hp
 simp only [Z9m] at hp
 have h1:=Yr e
 have h2:=massOs_len e.ops
 refine Zy4 _ _ ?_
 refine Ze (ι:=Int × Int × Int) (fun s=> JH e s.1 s.2.1 s.2.2) (fun s=> (0≤s.2.2∧s.2.2≤e.ops.length)∧Z1x (e.ops.drop s.2.2.toNat) s.1=Z1x e.ops 0∧Z1J (e.ops.drop s.2.2.toNat) s.2.1=Z1J e.ops 0) (fun s=> ((e.ops.length:Int) - s.2.2).toNat) (0,0,0) rfl ⟨⟨by simp,by simp⟩,rfl,rfl⟩ ?_
 rintro ⟨n,m,i⟩ ⟨⟨g1,g2⟩,g3,g4⟩
 dsimp only at g1 g2 g3 g4
 refine ZnQ _ _ _ _ _ _ ?_
 (simp only [vcS])
 refine ⟨fun hi=> ⟨⟨g1,hi⟩,?_⟩,fun hi=> ?_⟩
 ·rw [Zj1 _ g1 hi] at g3
  rw [Zj0 _ g1 hi] at g4
  have hk:IntKind.wrap .i64 (i+1)=i+1:=Zgt (by unfold InR;omega)
  generalize hy:e.ops.getD i.toNat Op.nil=y at*
  have key:∀ k:Int,k=Z12 y→∀ (Q':AExit→LSt U→Prop),Zgp e n m i k (fun s2=> ∃ j:Int × Int × Int,s2=JH e j.1 j.2.1 j.2.2∧((0≤j.2.2∧j.2.2≤e.ops.length)∧Z1x (e.ops.drop j.2.2.toNat) j.1=Z1x e.ops 0∧Z1J (e.ops.drop j.2.2.toNat) j.2.1=Z1J e.ops 0)∧((e.ops.length:Int) - j.2.2).toNat < ((e.ops.length:Int) - i).toNat) Q':=by
   rintro k rfl Q'
   have step2:∀ a:Int,a=(if y.kind=2 then n else Zg0 (wr (n+Z12 y)))→Zgo e m i (Z12 y) a (fun s2=> ∃ j:Int × Int × Int,s2=JH e j.1 j.2.1 j.2.2∧((0≤j.2.2∧j.2.2≤e.ops.length)∧Z1x (e.ops.drop j.2.2.toNat) j.1=Z1x e.ops 0∧Z1J (e.ops.drop j.2.2.toNat) j.2.1=Z1J e.ops 0)∧((e.ops.length:Int) - j.2.2).toNat < ((e.ops.length:Int) - i).toNat) Q':=by
    rintro a ha
    refine ZnR _ _ _ _ _ _ _ ?_
    rw [hy,hk]
    (simp only [vcS])
    rw [←ha] at g3
    refine ⟨fun hb=> ⟨(a,_,i+1),rfl,⟨⟨by dsimp only;omega,by dsimp only;omega⟩,g3,?_⟩,by dsimp only;omega⟩,fun hb=> ⟨(a,_,i+1),rfl,⟨⟨by dsimp only;omega,by dsimp only;omega⟩,g3,?_⟩,by dsimp only;omega⟩⟩
    ·rw [if_neg hb] at g4;exact g4
    ·rw [if_pos hb] at g4;exact g4
   refine ZnS _ _ _ _ _ _ _ ?_
   rw [hy]
   (simp only [vcS])
   exact ⟨fun hb=> step2 _ (by rw [if_neg hb];rfl),fun hb=> step2 _ (by rw [if_pos hb])⟩
  exact ⟨fun hb=> key _ (by unfold Z12;rw [if_pos hb]) _,fun hb=> key _ (by unfold Z12;rw [if_neg hb];rfl) _⟩
 ·rw [List.drop_of_length_le (by omega)] at g3 g4
  simp only [Z1x,Z1J] at g3 g4
  rw [g3,g4]
  (repeat' (first | exact trivial | exact rfl | apply And.intro))
theorem ZhF:∀ (l:List Op) (n:Int),(∀ o∈l,(0≤o.n∧o.n≤1048576)∧o.l.length≤20000000000)→0≤n→n≤1048576→Z1x l n=Z0d l n
 | [],_,_,_,_=> rfl
 | o ::r,n,h,h0,hn=> by
  have ho:=h o (List.mem_cons_self ..)
  have hl:=YJ o
  have ew:Z12 o=Z2 o:=by
   unfold Z12;rw [hl]
   split
   ·try rfl
   ·exact Zgt (by unfold InR;omega)
  have hb:0≤Z2 o∧Z2 o≤60000000000:=by rw [hl];split <;> omega
  simp only [Z1x,Z0d]
  rw [ew,Zgt (by unfold InR;omega)]
  have e2:(if o.kind=2 then n else Zg0 (n+Z2 o))=min (if o.kind=2 then n else n+Z2 o) 1048576:=by
   unfold Zg0;split
   ·omega
   ·split <;> omega
  rw [e2]
  exact ZhF r _ (fun x hx=> h x (List.mem_cons_of_mem _ hx)) (by split <;> omega) (by omega)
theorem ZhE:∀ (l:List Op) (n:Int),(∀ o∈l,(0≤o.n∧o.n≤1048576)∧o.l.length≤20000000000)→0≤n→n≤1048576→Z1J l n=Z0c l n
 | [],_,_,_,_=> rfl
 | o ::r,n,h,h0,hn=> by
  have ho:=h o (List.mem_cons_self ..)
  have hl:=YJ o
  have ew:Z12 o=Z2 o:=by
   unfold Z12;rw [hl]
   split
   ·try rfl
   ·exact Zgt (by unfold InR;omega)
  have hb:0≤Z2 o∧Z2 o≤60000000000:=by rw [hl];split <;> omega
  simp only [Z1J,Z0c]
  rw [ew,Zgt (by unfold InR;omega)]
  have e2:(if o.kind=1 then n else Zg0 (n+Z2 o))=min (if o.kind=1 then n else n+Z2 o) 1048576:=by
   unfold Zg0;split
   ·omega
   ·split <;> omega
  rw [e2]
  exact ZhE r _ (fun x hx=> h x (List.mem_cons_of_mem _ hx)) (by split <;> omega) (by omega)
end Go.AM.Ytpjenobkibfpcaa
namespace Go.AM.Ytpjenobkibfpcaa
open Go.AM Go.Proofs
noncomputable section
noncomputable section
def ZlD:ArgL (List Tree × List Tree × Unit × Unit):=(.cons (aSl .tree) (.cons (aSl .tree) (.cons (aFn 106) .nil)))
def Zcp(a:List Tree × List Tree × Unit × Unit):Prop:=Zg a.1≤1000000000000∧Zg a.2.1≤1000000000000
def ZoP(a:List Tree × List Tree × Unit × Unit):V U:= .c (.bool (eqX (Z5 a.1) (Z5 a.2.1)))
def Z61:Fs U:=fs ZlD (fun a=> [Zcp a]) ZoP
def Z1f:List (FuncId × Fs U):=[(106,Jg)]
def Z8q:Zh U:=lvl [([0,1,2],[]),([0,1,2,14],[]),([6],[]),([1,2,15,16,17],[]),([1,2,15,16,17,18],[]),([1,2,7,8,15,16,17],[8]),([1,2,8,9,15,16,17],[8,9]),([1,2,15,16,17,30],[]),([6],[]),([1,2,15,16,17],[]),([6],[])]
def Z2f(a b:List Tree)(f:Unit)(x17:Int):LSt U:=(L2 [(1,.c (sU .tree b .unk)),(2,.fn 106),(15,.c (sU .tree a .unk)),(16,.c (ci (a.length:Int))),(17,.c (ci x17))] [])
abbrev Zz4(a b:List Tree)(f:Unit)(Q:QT):=AW (Z1 Z1f) Try.f151 Z8q [] (L2 [(0,.c (sU .tree a .unk)),(1,.c (sU .tree b .unk)),(2,.fn 106)] []) Q
abbrev ZjD:=awp cfg (Z1 Z1f) (ZJ cfg (Z1 Z1f)) Try.f151.ntmps Z8q
abbrev Zis:=Z7Y cfg (Z1 Z1f) (ZJ cfg (Z1 Z1f)) Try.f151.ntmps Z8q
theorem Zy7(a b:List Tree)(f:Unit)(Q:QT)(h:((((a.length:Int):Int) !=(b.length:Int))=true→Q .ret (L2 [(6,.c (.bool false))] []))∧((((a.length:Int):Int) !=(b.length:Int))=false→Zl (AW (Z1 Z1f) Try.f151 Z8q [1,1,0,1,0,0]) (Z2f a b f 0) (xB 0 (SW (Z1 Z1f) Try.f151 Z8q [1,1,1] Q)))):
  Zz4 a b f Q:=by
 have e_:(Zz4 a b f Q)=((((a.length:Int) !=(b.length:Int))=true→(Q .ret (L2 [(6,.c (.bool false))] [])))∧(((a.length:Int) !=(b.length:Int))=false→(Zl (ZjD (cd Try.f151 [1,1,0,1,0,0])) (Z2f a b f 0) (xB 0 (Zis (cd Try.f151 [1,1,1]) Q))))):=by kernel_rfl
 exact e_.mpr ⟨fun c_4=> (h.1 c_4),fun c_4=> (h.2 c_4)⟩
abbrev Zm1(a b:List Tree)(f:Unit)(x17:Int)(N0:NT)(Q:QT):=AW (Z1 Z1f) Try.f151 Z8q [1,1,0,1,0,0] (Z2f a b f x17) (xT N0 (xB 0 (SW (Z1 Z1f) Try.f151 Z8q [1,1,1] Q)))
theorem ZnT(a b:List Tree)(f:Unit)(x17:Int)(N0:NT)(Q:QT)(h:((decide (x17 < (a.length:Int)))=true→((0:Int)≤x17∧x17 < (a.length:Int))∧(((0:Int)≤x17∧x17 < (b.length:Int))∧((Z1G ((Tree.mk (Tree.kind (a.getD x17.toNat Tree.nil)) (Tree.words (a.getD x17.toNat Tree.nil)) (Tree.kids (a.getD x17.toNat Tree.nil))),(Tree.mk (Tree.kind (b.getD x17.toNat Tree.nil)) (Tree.words (b.getD x17.toNat Tree.nil)) (Tree.kids (b.getD x17.toNat Tree.nil))),()))∧(((!(Jo (Z7 (Tree.mk (Tree.kind (a.getD x17.toNat Tree.nil)) (Tree.words (a.getD x17.toNat Tree.nil)) (Tree.kids (a.getD x17.toNat Tree.nil)))) (Z7 (Tree.mk (Tree.kind (b.getD x17.toNat Tree.nil)) (Tree.words (b.getD x17.toNat Tree.nil)) (Tree.kids (b.getD x17.toNat Tree.nil))))))=true→Q .ret (L2 [(6,.c (.bool false))] []))∧((!(Jo (Z7 (Tree.mk (Tree.kind (a.getD x17.toNat Tree.nil)) (Tree.words (a.getD x17.toNat Tree.nil)) (Tree.kids (a.getD x17.toNat Tree.nil)))) (Z7 (Tree.mk (Tree.kind (b.getD x17.toNat Tree.nil)) (Tree.words (b.getD x17.toNat Tree.nil)) (Tree.kids (b.getD x17.toNat Tree.nil))))))=false→(InR (x17+1))∧(N0 (Z2f a b f (x17+1))))))))∧((decide (x17 < (a.length:Int)))=false→Q .ret (L2 [(6,.c (.bool true))] []))):
  Zm1 a b f x17 N0 Q:=by
 have e_:(Zm1 a b f x17 N0 Q)=(let zz0:=(!(Jo (Z7 (Tree.mk (Tree.kind (a.getD x17.toNat Tree.nil)) (Tree.words (a.getD x17.toNat Tree.nil)) (Tree.kids (a.getD x17.toNat Tree.nil)))) (Z7 (Tree.mk (Tree.kind (b.getD x17.toNat Tree.nil)) (Tree.words (b.getD x17.toNat Tree.nil)) (Tree.kids (b.getD x17.toNat Tree.nil))))));(((decide ((x17:Int) < (a.length:Int)))=true→((0:Int)≤x17∧x17 < (a.length:Int))∧(((0:Int)≤x17∧x17 < (b.length:Int))∧((Z1G ((Tree.mk (Tree.kind (a.getD x17.toNat Tree.nil)) (Tree.words (a.getD x17.toNat Tree.nil)) (Tree.kids (a.getD x17.toNat Tree.nil))),(Tree.mk (Tree.kind (b.getD x17.toNat Tree.nil)) (Tree.words (b.getD x17.toNat Tree.nil)) (Tree.kids (b.getD x17.toNat Tree.nil))),()))∧((zz0=true→(Q .ret (L2 [(6,.c (.bool false))] [])))∧(zz0=false→(InR ((x17:Int)+1))∧(N0 (Z2f a b f ((x17:Int)+1))))))))∧((decide ((x17:Int) < (a.length:Int)))=false→(Q .ret (L2 [(6,.c (.bool true))] []))))):=by kernel_rfl
 exact e_.mpr ⟨fun c_5=> ⟨(h.1 c_5).1,⟨(h.1 c_5).2.1,⟨(h.1 c_5).2.2.1,⟨fun c_6=> ((h.1 c_5).2.2.2.1 c_6),fun c_6=> ⟨((h.1 c_5).2.2.2.2 c_6).1,((h.1 c_5).2.2.2.2 c_6).2⟩⟩⟩⟩⟩,fun c_5=> (h.2 c_5)⟩
def ZtH(a b:List Tree)(f:Unit):Prop:=AW (Z1 Z1f) Try.f151 Z8q [] (Zn (ZlD.can (a,b,f,())) []) (EQ Try.f151 (ZoP (a,b,f,())) [])
theorem Zst(Zg2:CT 106 Jg)(hb:∀ (a:List Tree) (b:List Tree) (f:Unit) (_:Unit),Zcp (a,b,f,())→ZtH a b f):CT 151 Z61:=
 Z6 (l:=[(106,Jg)]) Zo rfl (⟨Zg2,trivial⟩) Z8q Try.func151 rfl rfl 3 (fun _=> rfl) (by decide) (fun ⟨a,b,f,_⟩=> hb a b f ())
end
end
end Go.AM.Ytpjenobkibfpcaa
namespace Go.AM.Ytpjenobkibfpcaa
open Go.AM Go.Proofs
theorem Zwt:Contract Try.prog cfg 151 Z61:=by
 refine Zst Zg2 ?_
 intro a b f _ hp
 simp only [Zcp] at hp
 refine Zy7 a b f _ ?_
 (simp only [vcS])
 refine ⟨fun hc=> Z4 rfl (Zqz (a:=Z5 a) (b:=Z5 b) (fun h=> hc (by have:=congrArg List.length h;simp [Z5] at this;omega))).symm,fun hc=> ?_⟩
 have hl:a.length=b.length:=by omega
 have hla:=ZD a
 refine Ze (ι:=Int) (fun i=> Z2f a b f i) (fun i=> 0≤i∧i≤a.length∧∀ j:Nat,(j:Int) < i→Z7 (a.getD j Tree.nil)=Z7 (b.getD j Tree.nil)) (fun i=> ((a.length:Int) - i).toNat) 0 rfl ⟨by omega,by omega,by intro j hj;omega⟩ ?_
 rintro i ⟨h1,h2,h3⟩
 refine ZnT a b f _ _ _ ?_
 (simp only [vcS])
 (simp only [Tree.eta,Edit.eta,Tree.kind_mk,Tree.words_mk,Tree.kids_mk])
 refine ⟨fun hi=> ⟨⟨h1,hi⟩,⟨h1,by omega⟩,?_,fun hq=> ?_,fun hq=> ⟨by unfold InR;omega,i+1,rfl,⟨by omega,by omega,?_⟩,by omega⟩⟩,fun hi=> ?_⟩
 ·have:=YW (Zm (l:=a) (i:=i.toNat) (by omega) Tree.nil)
  have:=YW (Zm (l:=b) (i:=i.toNat) (by omega) Tree.nil)
  simp only [Z1G];omega
 ·refine Z4 rfl (Zqz (a:=Z5 a) (b:=Z5 b) (fun h=> ?_)).symm
  have h5:=ZaJ (d:=Tree.nil) h i.toNat
  rw [Z1p] at hq
  exact hq h5
 ·intro j hj
  by_cases hj2:(j:Int) < i
  ·exact h3 j hj2
  ·rw [Jd,show i.toNat=j by omega] at hq
   exact hq
 ·exact Z4 rfl (Z1W (a:=Z5 a) (b:=Z5 b).2 (Zhy Tree.nil hl (fun j hj=> h3 j (by omega)))).symm
end Go.AM.Ytpjenobkibfpcaa
