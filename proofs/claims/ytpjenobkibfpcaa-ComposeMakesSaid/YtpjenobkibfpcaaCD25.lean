import Derived.Test.YtpjenobkibfpcaaKB22b
import Derived.Test.YtpjenobkibfpcaaKD20
set_option linter.unusedSimpArgs false
set_option linter.unusedVariables false
namespace Go.AM.Ytpjenobkibfpcaa
open Go.AM Go.Proofs
theorem ZaG:JV Edit.nil=Edit.nil:=by simp [Edit.nil,JV,Z1C,JP]
theorem ZqQ{list d:Int}{o:Op}(h:Zc list o d=true)(hi:o.kind=3→JV o.e=Zv o.e):ZcF o=YK o:=by
 have hok:=Z0A h
 rw [Zdw,Jo]
 unfold ZN at hok
 unfold Z8e
 rcases hok with ⟨k,a,b,c⟩ | ⟨k,a,b,c⟩ | ⟨k,a,b⟩
 ·rw [if_neg (by omega),if_neg (by omega),if_neg (by omega),if_neg (by omega),c,ZaG]
 ·rcases k with k | k
  ·rw [if_pos (Or.inl k),if_pos k,c,ZaG,k];try rfl
  ·rw [if_pos (Or.inr k),if_neg (by omega),if_pos k,c,ZaG,k];try rfl
 ·rw [if_neg (by omega),if_neg (by omega),if_neg (by omega),if_pos k,hi k]
mutual
theorem Z8d:∀ (e:Edit) (d:Int),Za e d=true→JV e=Zv e
 | .mk k o n w ks l os,d,h=> by
  have hin:=Z71 h
  simp only [Edit.kids_mk,Edit.ops_mk,Edit.list_mk] at hin
  have h1:=Zij ks (d - 1) (fun k hk=> (hin.1 k hk).1)
  have h2:=Zii l os (d - 1) hin.2
  rw [JV,Zv,h1,h2]
theorem Zij:∀ (ks:List (KidOf Edit)) (d:Int),(∀ k∈ks,Za k.e d=true)→Z1C ks=JC ks
 | [],_,_=> rfl
 | k ::r,d,h=> by
  have h1:=Zow k d (h k (List.mem_cons_self ..))
  have h2:=Zij r d (fun x hx=> h x (List.mem_cons_of_mem _ hx))
  rw [Z1C,JC,h1,h2]
theorem Zow:∀ (k:KidOf Edit) (d:Int),Za k.e d=true→Z99 k=Z0q k
 | ⟨a,e⟩,d,h=> by
  have h1:=Z8d e d h
  rw [Z99,Z0q,h1]
theorem Zii(list:Int):∀ (os:List (OpOf Edit)) (d:Int),(∀ o∈os,Zc list o d=true)→JP os=Jb os
 | [],_,_=> rfl
 | o ::r,d,h=> by
  have h1:=ZqR list o d (h o (List.mem_cons_self ..))
  have h2:=Zii list r d (fun x hx=> h x (List.mem_cons_of_mem _ hx))
  rw [JP,Jb,h1,h2]
theorem ZqR(list:Int):∀ (o:OpOf Edit) (d:Int),Zc list o d=true→ZcF o=YK o
 | ⟨k,n,l,e⟩,d,h=> by
  refine ZqQ h (fun hk=> ?_)
  simp only at hk
  subst hk
  rw [JF] at h
  simp only [show ¬(3:Int)=0 by decide,show ¬(3:Int) < 3 by decide,if_false] at h
  split at h
  ·cases h
  ·simp only [Bool.and_eq_true] at h
   exact Z8d e d h.1.2
end
end Go.AM.Ytpjenobkibfpcaa
namespace Go.AM.Ytpjenobkibfpcaa
open Go.AM Go.Proofs
theorem Z2B(t:Tree):(Z4 t).kind=t.kind:=by
 obtain ⟨k,w,ks⟩:=t
 simp only [Z4]
 by_cases h0:k=0
 ·rw [if_pos h0,h0];try rfl
 ·rw [if_neg h0]
  by_cases h1:k=1
  ·rw [if_pos h1,h1];try rfl
  ·rw [if_neg h1];try rfl
theorem Zd5:∀ (l:List Int),∃ r,l=trim l++r
 | []=> ⟨[],rfl⟩
 | x ::r=> by
  obtain ⟨s,hs⟩:=Zd5 r
  simp only [trim]
  split
  ·rename_i e
   split
   ·exact ⟨x ::r,rfl⟩
   ·exact ⟨r,rfl⟩
  ·rename_i y t e
   rw [e] at hs
   exact ⟨s,by rw [hs];rfl⟩
theorem Zau:∀ (l:List Tree),∃ r,l=Yi l++r
 | []=> ⟨[],rfl⟩
 | x ::r=> by
  obtain ⟨s,hs⟩:=Zau r
  simp only [Yi]
  split
  ·rename_i e
   split
   ·exact ⟨x ::r,rfl⟩
   ·exact ⟨r,rfl⟩
  ·rename_i y t e
   rw [e] at hs
   exact ⟨s,by rw [hs];rfl⟩
theorem ZdC{list d:Int}:∀ (a b:List Tree),YU list (a++b) d=true→YU list a d=true
 | [],_,_=> rfl
 | t ::r,b,h=> by
  simp only [List.cons_append,YU,Bool.and_eq_true] at h ⊢
  exact ⟨h.1,ZdC r b h.2⟩
theorem Z2f:∀ (l:List Tree),(Yf l).length=l.length
 | []=> rfl
 | t ::r=> by simp only [Yf,List.length_cons,Z2f r]
theorem Zp7{list:Int}{t:Tree}(h:Z2o list t=true):Z2o list (Z4 t)=true:=by
 unfold Z2o at h ⊢
 rw [Z2B]
 split at h
 ·rename_i hl
  rw [if_pos hl]
  simp only [Bool.and_eq_true,decide_eq_true_eq] at h ⊢
  obtain ⟨⟨h1,h2,h3⟩,h4⟩:=h
  obtain ⟨k,w,ks⟩:=t
  simp only [Tree.kind_mk,Tree.kids_mk,Tree.words_mk] at h1 h2 h3 h4
  have:ks=[]:=List.length_eq_zero_iff.1 h2
  subst this
  subst h1
  exact ⟨⟨rfl,rfl,h3⟩,h4⟩
 ·rename_i hl
  rw [if_neg hl]
  exact h
mutual
theorem Z3y:∀ (t:Tree) (d:Int),Zl t d=true→Zl (Z4 t) d=true
 | .mk k w ks,d,h=> by
  have ih:=fun (list:Int) (h:YU list ks (d - 1)=true)=> Z5W ks list (d - 1) h
  simp only [Zl] at h
  simp only [Z4]
  by_cases h0:k=0
  ·rw [if_pos h0];simp [Tree.nil,Zl]
  ·rw [if_neg h0] at h ⊢
   by_cases h10:k=10
   ·subst h10
    rw [if_pos rfl] at h
    rw [if_neg (by decide)]
    simp only [decide_eq_true_eq] at h
    simp only [Zl]
    rw [if_neg (by decide),if_pos trivial,Z2f]
    simpa using h
   ·rw [if_neg h10] at h
    by_cases hd:d=0
    ·rw [if_pos hd] at h;cases h
    ·rw [if_neg hd] at h
     by_cases h1:k=1
     ·subst h1
      rw [if_pos rfl] at h
      rw [if_pos rfl]
      simp only [Bool.and_eq_true,decide_eq_true_eq] at h
      simp only [Zl]
      rw [if_neg (by decide),if_neg (by decide),if_neg hd,if_pos trivial]
      simp only [Bool.and_eq_true,decide_eq_true_eq]
      obtain ⟨r1,e1⟩:=Zd5 w
      obtain ⟨r2,e2⟩:=Zau (Yf ks)
      have l1:=congrArg List.length e1
      have l2:=congrArg List.length e2
      rw [Z2f] at l2
      simp only [List.length_append] at l1 l2
      refine ⟨⟨by omega,by omega⟩,?_⟩
      have:=ih 1 h.2
      rw [e2] at this
      exact ZdC _ _ this
     ·rw [if_neg h1] at h ⊢
      simp only [Bool.and_eq_true,decide_eq_true_eq] at h
      simp only [Zl]
      rw [if_neg h0,if_neg h10,if_neg hd,if_neg h1,Z2f]
      simp only [Bool.and_eq_true,decide_eq_true_eq]
      exact ⟨h.1,ih k h.2⟩
theorem Z5W:∀ (l:List Tree) (list d:Int),YU list l d=true→YU list (Yf l) d=true
 | [],_,_,_=> rfl
 | t ::r,list,d,h=> by
  simp only [YU,Bool.and_eq_true] at h
  have h1:=Z3y t d h.1.2
  have h2:=Z5W r list d h.2
  simp only [Yf,YU,Bool.and_eq_true]
  exact ⟨⟨Zp7 h.1.1,h1⟩,h2⟩
end
end Go.AM.Ytpjenobkibfpcaa
namespace Go.AM.Ytpjenobkibfpcaa
open Go.AM Go.Proofs
theorem Z1g(e:Edit):(Zv e).kind=e.kind:=by cases e;rfl
theorem Zfi(e:Edit):(Zv e).old=e.new:=by cases e;rfl
theorem Zfj(e:Edit):(Zv e).new=e.old:=by cases e;rfl
theorem Z8M:∀ (l:List WEdit) (last:Int),Yk last (l.map Z23)=Yk last l
 | [],_=> rfl
 | w ::r,last=> by
  simp only [List.map_cons,Yk,Z8M r]
  have h1:(Z23 w).at_=w.at_:=rfl
  have h2:(Z23 w).mask=w.mask:=rfl
  have h3:(Z23 w).old=w.new:=rfl
  have h4:(Z23 w).new=w.old:=rfl
  rw [h1,h2,h3,h4,Bool.and_assoc,Bool.and_assoc,Bool.and_assoc,Bool.and_assoc]
  congr 1
  rw [←Bool.and_assoc,←Bool.and_assoc,Bool.and_comm (Yl w.new w.mask)]
theorem ZjU(o:Op):Z2 (YK o)=Z2 o∧((YK o).kind=2↔o.kind=1)∧((YK o).kind=1↔o.kind=2):=by
 rw [Jo]
 by_cases h1:o.kind=1
 ·rw [if_pos h1];simp [Z2,h1]
 ·rw [if_neg h1]
  by_cases h2:o.kind=2
  ·rw [if_pos h2];simp [Z2,h2]
  ·rw [if_neg h2]
   by_cases h3:o.kind=3
   ·rw [if_pos h3];simp [Z2,h3]
   ·rw [if_neg h3];simp [Z2,h1,h2]
theorem Z9O:∀ (l:List Op) (n:Int),Z2l (Jb l) n=Z2k l n∧Z2k (Jb l) n=Z2l l n
 | [],_=> ⟨rfl,rfl⟩
 | o ::r,n=> by
  obtain ⟨h1,h2,h3⟩:=ZjU o
  simp only [Jb,Z2l,Z2k]
  rw [h1]
  constructor
  ·rw [(Z9O r _).1]
   congr 2
   by_cases h:o.kind=1
   ·rw [if_pos (h2.2 h),if_pos h]
   ·rw [if_neg (fun x=> h (h2.1 x)),if_neg h]
  ·rw [(Z9O r _).2]
   congr 2
   by_cases h:o.kind=2
   ·rw [if_pos (h3.2 h),if_pos h]
   ·rw [if_neg (fun x=> h (h3.1 x)),if_neg h]
theorem Z87:∀ (l:List Op),(Jb l).length=l.length
 | []=> rfl
 | o ::r=> by simp only [Jb,List.length_cons,Z87 r]
theorem ZuC{list d:Int}{o:Op}(h:Zc list o d=true)(hi:Za o.e d=true→Za (Zv o.e) d=true):Zc list (YK o) d=true:=by
 have h':=h
 rw [JF] at h
 by_cases k0:o.kind=0
 ·have e:YK o=o:=by rw [Jo,if_neg (by omega),if_neg (by omega),if_neg (by omega)]
  rw [e];exact h'
 ·rw [if_neg k0] at h
  split at h
  ·cases h
  ·rename_i hk
   by_cases k3:o.kind=3
   ·rw [if_neg (by omega)] at h
    have e:YK o=⟨o.kind,o.n,o.l,Zv o.e⟩:=by rw [Jo,if_neg (by omega),if_neg (by omega),if_pos k3]
    rw [e,JF]
    simp only
    rw [if_neg k0,if_neg hk,if_neg (by omega),Z1g,Zfi,Zfj]
    simp only [Bool.and_eq_true,decide_eq_true_eq] at h ⊢
    refine ⟨⟨h.1.1,hi h.1.2⟩,?_⟩
    omega
   ·rw [if_pos (by omega)] at h
    have hk':o.kind=1∨o.kind=2:=by omega
    rcases hk' with k | k
    ·have e:YK o=⟨2,o.n,o.l,o.e⟩:=by rw [Jo,if_pos k]
     rw [e,JF]
     simp only
     rw [if_neg (by decide),if_neg (by omega),if_pos (by decide)]
     exact h
    ·have e:YK o=⟨1,o.n,o.l,o.e⟩:=by rw [Jo,if_neg (by omega),if_pos k]
     rw [e,JF]
     simp only
     rw [if_neg (by decide),if_neg (by omega),if_pos (by decide)]
     exact h
mutual
theorem Jx:∀ (e:Edit) (d:Int),Za e d=true→Za (Zv e) d=true
 | .mk k o n w ks l os,d,h=> by
  have h1:=Z9e ks
  have h2:=Z9b l os
  simp only [Za] at h
  simp only [Zv,Za]
  split at h
  ·cases h
  ·rename_i a
   rw [if_neg a]
   split at h
   ·cases h
   ·rename_i b
    rw [if_neg (by rw [List.length_map,Zd3,Z87];intro hc;apply b;rcases hc with x | x | x;exact Or.inl ⟨x.1,fun y=> x.2 ⟨y.2,y.1⟩⟩;exact Or.inr (Or.inl x);exact Or.inr (Or.inr x))]
    split at h
    ·rename_i c
     rw [if_pos c]
     simp only [Bool.and_eq_true,decide_eq_true_eq] at h ⊢
     exact ⟨⟨h.1.2,h.1.1⟩,h.2.2,h.2.1⟩
    ·rename_i c
     rw [if_neg c]
     simp only [Bool.and_eq_true,decide_eq_true_eq] at h ⊢
     obtain ⟨⟨⟨⟨x1,x2⟩,x3⟩,x4⟩,x5⟩:=h
     refine ⟨⟨⟨⟨by rw [Z8M];exact x1,h1 _ _ x2⟩,x3⟩,h2 _ x4⟩,?_⟩
     rw [(Z9O os 0).1,(Z9O os 0).2]
     exact ⟨x5.2,x5.1⟩
theorem Z9e:∀ (ks:List (KidOf Edit)) (last d:Int),ZG last ks d=true→ZG last (JC ks) d=true
 | [],_,_,_=> rfl
 | k ::r,last,d,h=> by
  simp only [ZG,Bool.and_eq_true] at h
  have h1:=Zf2 k last d h.1
  have h2:=Z9e r k.at_ d h.2
  simp only [JC,ZG,Bool.and_eq_true]
  exact ⟨h1,by rw [Zd4];exact h2⟩
theorem Zf2:∀ (k:KidOf Edit) (last d:Int),J3 last k d=true→J3 last (Z0q k) d=true
 | ⟨a,e⟩,last,d,h=> by
  simp only [J3,Bool.and_eq_true] at h
  have h1:=Jx e d h.2
  simp only [Z0q,J3,Bool.and_eq_true]
  rw [Z1g]
  exact ⟨h.1,h1⟩
theorem Z9b(list:Int):∀ (os:List (OpOf Edit)) (d:Int),ZD list os d=true→ZD list (Jb os) d=true
 | [],_,_=> rfl
 | o ::r,d,h=> by
  simp only [ZD,Bool.and_eq_true] at h
  have h1:=ZgE list o d h.1
  have h2:=Z9b list r d h.2
  simp only [Jb,ZD,Bool.and_eq_true]
  exact ⟨h1,h2⟩
theorem ZgE(list:Int):∀ (o:OpOf Edit) (d:Int),Zc list o d=true→Zc list (YK o) d=true
 | ⟨k,n,l,e⟩,d,h=> ZuC (o:=⟨k,n,l,e⟩) h (fun he=> Jx e d he)
end
end Go.AM.Ytpjenobkibfpcaa
namespace Go.AM.Ytpjenobkibfpcaa
open Go.AM Go.Proofs
theorem Zb8:∀ (a b:List Tree),Zf (a++b)=Zf a+Zf b
 | [],b=> by simp [Zf]
 | t ::r,b=> by simp only [List.cons_append,Zf,Zb8 r b];omega
theorem Z0D:∀ (a b:List Op),Zh (a++b)=Zh a+Zh b
 | [],b=> by simp [Zh]
 | t ::r,b=> by simp only [List.cons_append,Zh,Z0D r b];omega
theorem Z6l:∀ (l:List Tree),Zf (Z8 l)≤Zf l
 | []=> by simp [Z8,Zf]
 | t ::r=> by
  have h:=Z6l r
  have h2:=Y6 t
  simp only [Z8] at h
  simp only [Z8,List.map_cons,Zf]
  omega
theorem Z7f:Z5 Edit.nil=3:=by simp [Edit.nil,Tree.nil,Z5,Zo,Zf,Zt,Zh]
theorem JN:Zo Tree.nil=1:=by simp [Tree.nil,Zo,Zf]
theorem Z7e(t:Tree):1≤Zo t:=by cases t;simp only [Zo];omega
theorem Zjd:∀ (e:Edit),3≤Z5 e
 | .mk k o n w ks l os=> by
  have h1:=Z7e o
  have h2:=Z7e n
  simp only [Z5];omega
def Z69(w:Wst):Nat:=Zh w.out+w.out.length+Zf w.gone+Zf w.brought+(if w.gone.length=0 then 0 else 4)+(if w.brought.length=0 then 0 else 4)
theorem Z0C(o:Op):Zh [o]=Zs o:=by simp [Zh]
theorem Z2A(k n:Int)(l:List Tree)(e:Edit):Zs (OpOf.mk k n l e)=Zf l+Z5 e:=rfl
theorem ZaY(w:Wst):Zh (Z3 w).out+(Z3 w).out.length=Z69 w:=by
 simp only [Z3,Z0F,Z69]
 rw [Z0D,Z0D,List.length_append,List.length_append]
 by_cases hg:w.gone.length=0
 ·have e:w.gone=[]:=List.length_eq_zero_iff.1 hg
  rw [if_pos hg,if_pos hg,e]
  by_cases hb:w.brought.length=0
  ·have e2:w.brought=[]:=List.length_eq_zero_iff.1 hb
   rw [if_pos hb,if_pos hb,e2];simp [Zh,Zf]
  ·rw [if_neg hb,if_neg hb,Z0C,Z2A,Z7f];simp [Zh,Zf];omega
 ·rw [if_neg hg,if_neg hg,Z0C,Z2A,Z7f]
  by_cases hb:w.brought.length=0
  ·have e2:w.brought=[]:=List.length_eq_zero_iff.1 hb
   rw [if_pos hb,if_pos hb,e2];simp [Zh,Zf];omega
  ·rw [if_neg hb,if_neg hb,Z0C,Z2A,Z7f];simp;omega
theorem ZiM(w:Wst)(n:Int):Z69 (ZW w n)≤Z69 w+4:=by
 have h:=ZaY w
 have e:Z69 (ZW w n)=Zh (Jj (Z3 w).out n)+(Jj (Z3 w).out n).length:=by simp [Z69,ZW,Zf]
 rw [e]
 rcases Z0P (Z3 w).out n with e | ⟨a,o,e1,_,e3⟩
 ·rw [e,Z0D,List.length_append,Z0C,Z2A,Z7f];simp [Zf];omega
 ·rw [e3,Z0D,List.length_append,Z0C]
  rw [e1,Z0D,List.length_append,Z0C] at h
  obtain ⟨k,m,l,e⟩:=o
  simp only [Z2A] at h ⊢
  simp at h ⊢
  omega
theorem ZxT{list:Int}{w:Wst}{o:Op}(hi:Z5 (Zy o.e)≤Z5 o.e):Z69 (Z0k list o w)≤Z69 w+Zs o+1:=by
 have h3:=Zjd o.e
 have hm:Zs o=Zf o.l+Z5 o.e:=by cases o;rfl
 have hn:=Z6l o.l
 have hl:(Z8 o.l).length=o.l.length:=by simp [Z8]
 rw [YR]
 split
 ·have:=ZiM w o.n;omega
 ·split
  ·simp only [Z69,Zb8,List.length_append,hl]
   split <;> split <;> split <;> omega
  ·split
   ·simp only [Z69,Zb8,List.length_append,hl]
    split <;> split <;> split <;> omega
   ·split
    ·split
     ·have:=ZiM w 1;omega
     ·have:=ZaY w
      have e:Z69 ⟨(Z3 w).out++[⟨3,0,[],Zy o.e⟩],[],[]⟩=Zh ((Z3 w).out++[(⟨3,0,[],Zy o.e⟩:Op)])+((Z3 w).out++[(⟨3,0,[],Zy o.e⟩:Op)]).length:=by simp [Z69,Zf]
      rw [e,Z0D,List.length_append,Z0C,Z2A]
      simp [Zf];omega
    ·omega
mutual
theorem Zb9:∀ (e:Edit),Z5 (Zy e)≤Z5 e
 | .mk k o n w ks l os=> by
  have h1:=Zek ks
  have h2:=Zmq l os W0
  have h3:=ZaY (Zq l os W0)
  have e0:Z69 W0=0:=rfl
  have po:=Z7e o
  have pn:=Z7e n
  have mo:=Y6 o
  have mn:=Y6 n
  rw [Zy]
  split
  ·simp only [Z5,Zt,Zh,List.length_nil];omega
  ·split
   ·simp only [Z5,Zt,Zh,List.length_nil,JN];omega
   ·split
    ·simp only [Z5,Zt,List.length_nil,JN]
     show 1+1+1+0+(Z3 (Zq l os W0)).out.length+0+Zh (Z3 (Zq l os W0)).out≤_
     omega
    ·simp only [Z5,Zt,Zh,List.length_nil,JN];omega
theorem Zek:∀ (ks:List (KidOf Edit)),Zt (Ja ks)≤Zt ks
 | []=> Nat.le_refl _
 | k ::r=> by
  have h1:=Zjb k
  have h2:=Zek r
  simp only [Ja,Zt];omega
theorem Zjb:∀ (k:KidOf Edit),YI (Z20 k)≤YI k
 | ⟨a,e⟩=> by
  have h:=Zb9 e
  simp only [Z20,YI];exact h
theorem Zmq(list:Int):∀ (os:List (OpOf Edit)) (w:Wst),Z69 (Zq list os w)≤Z69 w+Zh os+os.length
 | [],w=> by simp [Zq,Zh]
 | o ::r,w=> by
  have h1:=ZoJ list o w
  have h2:=Zmq list r (Z0k list o w)
  simp only [Zq,Zh,List.length_cons];omega
theorem ZoJ(list:Int):∀ (o:OpOf Edit) (w:Wst),Z69 (Z0k list o w)≤Z69 w+Zs o+1
 | ⟨k,n,l,e⟩,_=> ZxT (o:=⟨k,n,l,e⟩) (Zb9 e)
end
end Go.AM.Ytpjenobkibfpcaa
namespace Go.AM.Ytpjenobkibfpcaa
open Go.AM Go.Proofs
theorem Z7b(e:Edit):(Zy e).kind=e.kind:=by
 rw [Z9w]
 split
 ·try rfl
 ·split
  ·try rfl
  ·split <;> rfl
theorem Z9v(e:Edit)(h:e.kind=1):(Zy e).old=Z4 e.old∧(Zy e).new=Z4 e.new:=by
 rw [Z9w,if_pos h]
 exact ⟨rfl,rfl⟩
theorem Zk8{D list:Int}{t:Tree}(hD:D≠0)(h:Zl (.mk list [] [t]) D=true):Zl (.mk list [] [Z4 t]) D=true:=by
 have key:=fun (k d:Int) (h:YU k [t] d=true)=> Z5W [t] k d h
 simp only [Yf] at key
 simp only [Zl] at h ⊢
 split at h
 ·simp at h
 ·rename_i h0
  rw [if_neg h0]
  split at h
  ·simp at h
  ·rename_i h1
   rw [if_neg h1]
   try rw [if_neg hD] at h
   try rw [if_neg hD]
   split at h
   ·rename_i h2
    rw [if_pos h2]
    simp only [Bool.and_eq_true] at h ⊢
    exact ⟨h.1,key _ _ h.2⟩
   ·rename_i h2
    rw [if_neg h2]
    simp only [Bool.and_eq_true] at h ⊢
    exact ⟨h.1,key _ _ h.2⟩
theorem Z3O{D list:Int}(hD:D≠0):∀ {l:List Tree},Yv D list l=true→Yv D list (Z8 l)=true
 | [],_=> rfl
 | t ::r,h=> by
  simp only [Yv,Bool.and_eq_true] at h
  have h2:=Z3O hD h.2
  simp only [Z8] at h2
  simp only [Z8,List.map_cons,Yv,Bool.and_eq_true]
  exact ⟨Zk8 hD h.1,h2⟩
theorem Z5F{D list:Int}:∀ {a b:List Tree},Yv D list a=true→Yv D list b=true→Yv D list (a++b)=true
 | [],_,_,h=> h
 | t ::r,b,h,h2=> by
  simp only [Yv,Bool.and_eq_true] at h
  simp only [List.cons_append,Yv,Bool.and_eq_true]
  exact ⟨h.1,Z5F h.2 h2⟩
def rOp(list:Int)(d:Int)(o:Op):Prop:=(o.kind=0→1≤o.n∧o.l.length=0∧Z24 o.e=true)∧(o.kind≠0→Zc list o d=true)
theorem Zrr{list d:Int}{o:Op}(h:Zc list o d=true):rOp list d o:=by
 refine ⟨fun hk=> ?_,fun _=> h⟩
 obtain ⟨k,n,l,e⟩:=o
 simp only at hk
 subst hk
 simp only [Zc,if_true,Bool.and_eq_true,decide_eq_true_eq] at h
 exact ⟨h.1.1,h.1.2.2,h.2⟩
theorem ZxP{list d:Int}{o:Op}(h:rOp list d o)(hn:o.kind=0→o.n≤1048576):Zc list o d=true:=by
 by_cases hk:o.kind=0
 ·have h1:=h.1 hk
  have h2:=hn hk
  obtain ⟨k,n,l,e⟩:=o
  simp only at hk h1 h2
  subst hk
  simp only [Zc,if_true,Bool.and_eq_true,decide_eq_true_eq]
  exact ⟨⟨h1.1,h2,h1.2.1⟩,h1.2.2⟩
 ·exact h.2 hk
theorem Z5U{list:Int}:∀ {os:List Op} {d:Int},ZD list os d=true↔∀ o∈os,Zc list o d=true
 | [],d=> by simp [ZD]
 | o ::r,d=> by
  simp only [ZD,Bool.and_eq_true,List.mem_cons,forall_eq_or_imp]
  rw [Z5U (os:=r)]
theorem Z30:Z24 Edit.nil=true:=rfl
structure OkW (list d:Int) (w:Wst):Prop where
 out:∀ o∈w.out,rOp list d o
 gone:Yv (dT d) list w.gone=true
 brought:Yv (dT d) list w.brought=true
theorem Zb0{list d:Int}{w:Wst}(h:OkW list d w):OkW list d (Z3 w):=by
 refine ⟨?_,rfl,rfl⟩
 simp only [Z3,Z0F]
 intro o ho
 rcases List.mem_append.1 ho with ho | ho
 ·exact h.out o ho
 rcases List.mem_append.1 ho with ho | ho
 ·split at ho
  ·cases ho
  ·rename_i hl
   simp only [List.mem_singleton] at ho
   subst ho
   refine ⟨fun hk=> (by cases hk),fun _=> ?_⟩
   simp only [Zc]
   rw [if_neg (by decide),if_neg (by decide),if_pos (by decide),h.gone,Z30]
   simp only [Bool.and_true,Bool.true_and,decide_eq_true_eq]
   omega
 ·split at ho
  ·cases ho
  ·rename_i hl
   simp only [List.mem_singleton] at ho
   subst ho
   refine ⟨fun hk=> (by cases hk),fun _=> ?_⟩
   simp only [Zc]
   rw [if_neg (by decide),if_neg (by decide),if_pos (by decide),h.brought,Z30]
   simp only [Bool.and_true,Bool.true_and,decide_eq_true_eq]
   omega
theorem ZiV{list d:Int}{w:Wst}{n:Int}(h:OkW list d w)(hn:1≤n):OkW list d (ZW w n):=by
 have hf:=Zb0 h
 refine ⟨?_,rfl,rfl⟩
 simp only [ZW]
 intro o ho
 rcases Z0P (Z3 w).out n with e | ⟨a,q,e1,e2,e3⟩
 ·rw [e] at ho
  rcases List.mem_append.1 ho with ho | ho
  ·exact hf.out o ho
  ·simp only [List.mem_singleton] at ho
   subst ho
   exact ⟨fun _=> ⟨hn,rfl,Z30⟩,fun hk=> absurd rfl hk⟩
 ·rw [e3] at ho
  rcases List.mem_append.1 ho with ho | ho
  ·exact hf.out o (by rw [e1];exact List.mem_append.2 (Or.inl ho))
  ·simp only [List.mem_singleton] at ho
   subst ho
   have hq:=(hf.out q (by rw [e1];simp)).1 e2
   exact ⟨fun _=> ⟨by simp only;omega,hq.2⟩,fun hk=> absurd e2 hk⟩
theorem ZxX{list d:Int}{w:Wst}{o:Op}(h:OkW list d w)(hr:Zc list o d=true)(hi:Za o.e d=true→Za (Zy o.e) d=true):OkW list d (Z0k list o w):=by
 obtain ⟨k,n,l,e⟩:=o
 have hr0:=hr
 rw [Zc] at hr
 rw [YR]
 simp only at hi ⊢
 split at hr
 ·rename_i hk
  rw [if_pos hk]
  simp only [Bool.and_eq_true,decide_eq_true_eq] at hr
  exact ZiV h hr.1.1
 ·rename_i hk
  rw [if_neg hk]
  split at hr
  ·cases hr
  ·rename_i hn
   split at hr
   ·rename_i h3
    simp only [Bool.and_eq_true,decide_eq_true_eq] at hr
    by_cases k1:k=1
    ·rw [if_pos k1]
     exact ⟨h.out,Z5F h.gone (Z3O (Zxd d) hr.1.1),h.brought⟩
    ·rw [if_neg k1,if_pos (by omega)]
     exact ⟨h.out,h.gone,Z5F h.brought (Z3O (Zxd d) hr.1.1)⟩
   ·rename_i h3
    rw [if_neg (by omega),if_neg (by omega),if_pos (by omega)]
    split
    ·exact ZiV h (by decide)
    ·have hf:=Zb0 h
     refine ⟨?_,rfl,rfl⟩
     intro o ho
     rcases List.mem_append.1 ho with ho | ho
     ·exact hf.out o ho
     ·simp only [List.mem_singleton] at ho
      subst ho
      refine ⟨fun hk=> (by cases hk),fun _=> ?_⟩
      simp only [Bool.and_eq_true,decide_eq_true_eq] at hr
      simp only [Zc]
      rw [if_neg (by decide),if_neg (by decide),if_neg (by decide),Z7b,hi hr.1.2]
      simp only [Bool.and_true,Bool.and_eq_true,decide_eq_true_eq]
      refine ⟨⟨rfl,hr.1.1.2⟩,?_⟩
      rcases hr.2 with h | h | h
      ·exact Or.inl h
      ·exact Or.inr (Or.inl h)
      ·rw [(Z9v e h.1).1,(Z9v e h.1).2,Z2B,Z2B]
       exact Or.inr (Or.inr h)
def Jh:List Op→Int
 | []=> 0
 | o ::r=> (if o.kind=2 then 0 else Z2 o)+Jh r
def Jp:List Op→Int
 | []=> 0
 | o ::r=> (if o.kind=1 then 0 else Z2 o)+Jp r
theorem Z46:∀ (a b:List Op),Jh (a++b)=Jh a+Jh b
 | [],b=> by simp [Jh]
 | o ::r,b=> by simp only [List.cons_append,Jh,Z46 r b];omega
theorem Z45:∀ (a b:List Op),Jp (a++b)=Jp a+Jp b
 | [],b=> by simp [Jp]
 | o ::r,b=> by simp only [List.cons_append,Jp,Z45 r b];omega
theorem Z0m:∀ (l:List Op) (n:Int),(∀ o∈l,0≤Z2 o)→0≤n→n≤1048576→Z2l l n=min (n+Jh l) 1048576∧0≤Jh l
 | [],n,_,h1,h2=> by simp only [Z2l,Jh];omega
 | o ::r,n,h,h1,h2=> by
  have ho:=h o (List.mem_cons_self ..)
  simp only [Z2l,Jh]
  have hx:0≤(if o.kind=2 then n else n+Z2 o)∧(if o.kind=2 then n else n+Z2 o)=n+(if o.kind=2 then 0 else Z2 o):=by split <;> omega
  have hy:0≤(if o.kind=2 then 0 else Z2 o):=by split <;> omega
  rw [hx.2]
  rw [hx.2] at hx
  generalize (if o.kind=2 then 0 else Z2 o)=y at*
  obtain ⟨e1,e2⟩:=Z0m r (min (n+y) 1048576) (fun x hx=> h x (List.mem_cons_of_mem _ hx)) (by omega) (by omega)
  rw [e1]
  omega
theorem Z0l:∀ (l:List Op) (n:Int),(∀ o∈l,0≤Z2 o)→0≤n→n≤1048576→Z2k l n=min (n+Jp l) 1048576∧0≤Jp l
 | [],n,_,h1,h2=> by simp only [Z2k,Jp];omega
 | o ::r,n,h,h1,h2=> by
  have ho:=h o (List.mem_cons_self ..)
  simp only [Z2k,Jp]
  have hx:0≤(if o.kind=1 then n else n+Z2 o)∧(if o.kind=1 then n else n+Z2 o)=n+(if o.kind=1 then 0 else Z2 o):=by split <;> omega
  have hy:0≤(if o.kind=1 then 0 else Z2 o):=by split <;> omega
  rw [hx.2]
  rw [hx.2] at hx
  generalize (if o.kind=1 then 0 else Z2 o)=y at*
  obtain ⟨e1,e2⟩:=Z0l r (min (n+y) 1048576) (fun x hx=> h x (List.mem_cons_of_mem _ hx)) (by omega) (by omega)
  rw [e1]
  omega
theorem Z9l{list d:Int}{o:Op}(h:rOp list d o):0≤Z2 o:=by
 unfold Z2
 split
 ·decide
 ·by_cases hk:o.kind=0
  ·have:=(h.1 hk).1;omega
  ·have hr:=h.2 hk
   obtain ⟨k,n,l,e⟩:=o
   simp only at hk ⊢
   rw [Zc,if_neg hk] at hr
   split at hr
   ·cases hr
   ·omega
theorem Zib:∀ {l:List Op} {o:Op},(∀ o∈l,0≤Z2 o)→o∈l→o.kind≠2→Z2 o≤Jh l
 | a ::r,o,h,ho,hk=> by
  have hr:=(Z0m r 0 (fun x hx=> h x (List.mem_cons_of_mem _ hx)) (by decide) (by decide)).2
  have ha:=h a (List.mem_cons_self ..)
  simp only [Jh]
  rcases List.mem_cons.1 ho with rfl | ho
  ·rw [if_neg hk];omega
  ·have:=Zib (fun x hx=> h x (List.mem_cons_of_mem _ hx)) ho hk
   split <;> omega
def sA(w:Wst):Int:=Jh w.out+w.gone.length
def sB(w:Wst):Int:=Jp w.out+w.brought.length
theorem Zax(w:Wst):Jh (Z3 w).out=sA w∧Jp (Z3 w).out=sB w:=by
 simp only [Z3,Z0F,sA,sB,Z46,Z45]
 constructor
 ·by_cases hg:w.gone.length=0
  ·rw [if_pos hg]
   by_cases hb:w.brought.length=0
   ·rw [if_pos hb];simp [Jh];omega
   ·rw [if_neg hb];simp [Jh];omega
  ·rw [if_neg hg]
   by_cases hb:w.brought.length=0
   ·rw [if_pos hb];simp [Jh,Z2]
   ·rw [if_neg hb];simp [Jh,Z2]
 ·by_cases hg:w.gone.length=0
  ·rw [if_pos hg]
   by_cases hb:w.brought.length=0
   ·rw [if_pos hb];simp [Jp];omega
   ·rw [if_neg hb];simp [Jp,Z2]
  ·rw [if_neg hg]
   by_cases hb:w.brought.length=0
   ·rw [if_pos hb];simp [Jp];omega
   ·rw [if_neg hb];simp [Jp,Z2]
theorem Zi9(w:Wst)(n:Int):sA (ZW w n)=sA w+n∧sB (ZW w n)=sB w+n:=by
 have hf:=Zax w
 simp only [ZW]
 have e1:∀ x,sA ⟨x,[],[]⟩=Jh x:=fun x=> by simp [sA]
 have e2:∀ x,sB ⟨x,[],[]⟩=Jp x:=fun x=> by simp [sB]
 rw [e1,e2,←hf.1,←hf.2]
 rcases Z0P (Z3 w).out n with e | ⟨a,q,e1,e2,e3⟩
 ·rw [e,Z46,Z45]
  simp [Jh,Jp,Z2]
 ·rw [e3,e1,Z46,Z45,Z46,Z45]
  simp only [Jh,Jp,Z2,e2]
  simp
  omega
theorem ZxJ{list d:Int}{w:Wst}{o:Op}(hr:Zc list o d=true):sA (Z0k list o w)=sA w+(if o.kind=2 then 0 else Z2 o)∧sB (Z0k list o w)=sB w+(if o.kind=1 then 0 else Z2 o):=by
 have hl:∀ l,((Z8 l).length:Int)=l.length:=fun l=> by simp [Z8]
 obtain ⟨k,n,l,e⟩:=o
 rw [Zc] at hr
 rw [YR]
 simp only [Z2]
 split at hr
 ·rename_i hk
  subst hk
  rw [if_pos rfl]
  simp only [Bool.and_eq_true,decide_eq_true_eq] at hr
  have:=Zi9 w n
  simp
  omega
 ·rename_i hk
  rw [if_neg hk]
  split at hr
  ·cases hr
  ·rename_i hn
   split at hr
   ·rename_i h3
    by_cases k1:k=1
    ·subst k1
     rw [if_pos rfl]
     simp only [sA,sB,List.length_append]
     simp [hl]
     omega
    ·have k2:k=2:=by omega
     subst k2
     rw [if_neg k1,if_pos rfl]
     simp only [sA,sB,List.length_append]
     simp [hl]
     omega
   ·rename_i h3
    have k3:k=3:=by omega
    subst k3
    rw [if_neg (by omega),if_neg (by omega),if_pos rfl]
    split
    ·have:=Zi9 w 1
     simp
     omega
    ·have:=Zax w
     simp only [sA,sB,Z46,Z45,Jh,Jp,Z2] at this ⊢
     simp
     omega
mutual
theorem Z32:∀ (e:Edit) (d:Int),Za e d=true→Za (Zy e) d=true
 | .mk k o n w ks l os,d,h=> by
  have h1:=ZbC ks
  have h2:=Zmv l os
  have h4:=ZlI l os
  rw [Za] at h
  split at h
  ·cases h
  ·rename_i a
   split at h
   ·cases h
   ·rename_i b
    have nn:JR Tree.nil=true:=rfl
    by_cases k1:k=1
    ·subst k1
     rw [if_pos rfl] at h
     have hl:l=0:=by
      apply Classical.byContradiction
      intro hl
      exact b (.inr (.inr ⟨by decide,.inl hl⟩))
     simp only [Bool.and_eq_true,decide_eq_true_eq] at h
     rw [Zy,if_pos rfl,Za,if_neg a,if_neg (by simp [hl]),if_pos rfl]
     simp only [Bool.and_eq_true,decide_eq_true_eq]
     rw [Z2B,Z2B]
     exact ⟨⟨Z3y _ _ h.1.1,Z3y _ _ h.1.2⟩,h.2⟩
    ·rw [if_neg k1] at h
     simp only [Bool.and_eq_true,decide_eq_true_eq] at h
     obtain ⟨⟨⟨⟨x1,x2⟩,x3⟩,x4⟩,x5⟩:=h
     rw [Zy,if_neg k1]
     by_cases k2:k=2
     ·have hl:l=0:=by
       apply Classical.byContradiction
       intro hl
       exact b (.inr (.inr ⟨by omega,.inl hl⟩))
      rw [if_pos k2,Za,if_neg a,if_neg (by simp [nn,hl,k2]),if_neg k1]
      simp only [Bool.and_eq_true,decide_eq_true_eq]
      exact ⟨⟨⟨⟨x1,h1 _ _ x2⟩,x3⟩,rfl⟩,by decide⟩
     ·rw [if_neg k2]
      by_cases k3:k=3
      ·rw [if_pos k3,Za,if_neg a,if_neg (by simp [nn,k3]),if_neg k1]
       simp only [Bool.and_eq_true,decide_eq_true_eq]
       have hall:=Z5U.1 x4
       obtain ⟨y1,y2⟩:=Z0m os 0 (fun o ho=> Z9l (Zrr (hall o ho))) (by decide) (by decide)
       obtain ⟨z1,z2⟩:=Z0l os 0 (fun o ho=> Z9l (Zrr (hall o ho))) (by decide) (by decide)
       have hw:=h2 (d - 1) W0 x4 ⟨fun o ho=> (by cases ho),rfl,rfl⟩
       have hs:=h4 (d - 1) W0 x4
       have hff:=Zb0 hw
       have hsf:=Zax (Zq l os W0)
       have e0:sA W0=0∧sB W0=0:=⟨rfl,rfl⟩
       have hA:=Z0m (Z3 (Zq l os W0)).out 0 (fun o ho=> Z9l (hff.out o ho)) (by decide) (by decide)
       have hB:=Z0l (Z3 (Zq l os W0)).out 0 (fun o ho=> Z9l (hff.out o ho)) (by decide) (by decide)
       refine ⟨⟨⟨⟨rfl,rfl⟩,x3⟩,Z5U.2 (fun o ho=> ZxP (hff.out o ho) (fun hk=> ?_))⟩,?_,?_⟩
       ·have hm:=Zib (fun o ho=> Z9l (hff.out o ho)) ho (by omega)
        unfold Z2 at hm
        rw [if_neg (by omega)] at hm
        omega
       ·show Z2l (Z3 (Zq l os W0)).out 0 < 1048576
        omega
       ·show Z2k (Z3 (Zq l os W0)).out 0 < 1048576
        omega
      ·have hl:l=0:=by
        apply Classical.byContradiction
        intro hl
        exact b (.inr (.inr ⟨k3,.inl hl⟩))
       rw [if_neg k3,Za,if_neg a,if_neg (by simp [nn,hl]),if_neg k1]
       simp only [Bool.and_eq_true,decide_eq_true_eq]
       exact ⟨⟨⟨⟨rfl,rfl⟩,x3⟩,rfl⟩,by decide⟩
theorem ZbC:∀ (ks:List (KidOf Edit)) (last d:Int),ZG last ks d=true→ZG last (Ja ks) d=true
 | [],_,_,_=> rfl
 | k ::r,last,d,h=> by
  simp only [ZG,Bool.and_eq_true] at h
  have h1:=ZgG k last d h.1
  have h2:=ZbC r k.at_ d h.2
  simp only [Ja,ZG,Bool.and_eq_true]
  exact ⟨h1,by rw [Zb4];exact h2⟩
theorem ZgG:∀ (k:KidOf Edit) (last d:Int),J3 last k d=true→J3 last (Z20 k) d=true
 | ⟨a,e⟩,last,d,h=> by
  simp only [J3,Bool.and_eq_true] at h
  have h1:=Z32 e d h.2
  simp only [Z20,J3,Bool.and_eq_true]
  rw [Z7b]
  exact ⟨h.1,h1⟩
theorem Zmv(list:Int):∀ (os:List (OpOf Edit)) (d:Int) (w:Wst),ZD list os d=true→OkW list d w→OkW list d (Zq list os w)
 | [],_,_,_,hw=> hw
 | o ::r,d,w,h,hw=> by
  simp only [ZD,Bool.and_eq_true] at h
  have h1:=ZoO list o d w h.1 hw
  exact Zmv list r d _ h.2 h1
theorem ZoO(list:Int):∀ (o:OpOf Edit) (d:Int) (w:Wst),Zc list o d=true→OkW list d w→OkW list d (Z0k list o w)
 | ⟨k,n,l,e⟩,d,w,h,hw=> ZxX (o:=⟨k,n,l,e⟩) hw h (fun he=> Z32 e d he)
theorem ZlI(list:Int):∀ (os:List (OpOf Edit)) (d:Int) (w:Wst),ZD list os d=true→sA (Zq list os w)=sA w+Jh os∧sB (Zq list os w)=sB w+Jp os
 | [],_,_,_=> by simp [Zq,Jh,Jp]
 | o ::r,d,w,h=> by
  simp only [ZD,Bool.and_eq_true] at h
  have h1:=ZxJ (w:=w) h.1
  have h2:=ZlI list r d (Z0k list o w) h.2
  simp only [Zq,Jh,Jp]
  omega
end
end Go.AM.Ytpjenobkibfpcaa
namespace Go.AM.Ytpjenobkibfpcaa
open Go.AM Go.Proofs
theorem Z5S:∀ {a b:List Tree},Yp (a++b)↔Yp a∧Yp b
 | [],b=> by simp [Yp]
 | t ::r,b=> by simp only [List.cons_append,Yp];rw [Z5S (a:=r),and_assoc]
mutual
theorem Z10:∀ (t:Tree),rng t→rng (Z4 t)
 | .mk k w ks,h=> by
  simp only [rng] at h
  obtain ⟨h1,h2,h3⟩:=h
  have h4:=Zfu ks h3
  simp only [Z4]
  split
  ·simp only [Tree.nil,rng,Yp]
   exact ⟨by decide,by simp,trivial⟩
  ·split
   ·obtain ⟨r1,e1⟩:=Zd5 w
    obtain ⟨r2,e2⟩:=Zau (Yf ks)
    simp only [rng]
    refine ⟨by decide,fun x hx=> h2 x (by rw [e1];exact List.mem_append.2 (Or.inl hx)),?_⟩
    rw [e2] at h4
    exact (Z5S.1 h4).1
   ·simp only [rng]
    exact ⟨h1,h2,h4⟩
theorem Zfu:∀ (l:List Tree),Yp l→Yp (Yf l)
 | [],_=> trivial
 | t ::r,h=> by
  simp only [Yp] at h
  have h1:=Z10 t h.1
  have h2:=Zfu r h.2
  simp only [Yf,Yp]
  exact ⟨h1,h2⟩
end
theorem Z8g:∀ {l:List Tree},Yp l→Yp (Z8 l)
 | [],_=> trivial
 | t ::r,h=> by
  simp only [Yp] at h
  have h2:=Z8g h.2
  simp only [Z8] at h2
  simp only [Z8,List.map_cons,Yp]
  exact ⟨Z10 t h.1,h2⟩
theorem Z1P:rng Tree.nil:=by
 simp only [Tree.nil,rng,Yp]
 exact ⟨by decide,by simp,trivial⟩
mutual
theorem Z6Y:∀ (e:Edit),YT e→YT (Zv e)
 | .mk k o n w ks l os,h=> by
  simp only [YT] at h
  obtain ⟨h1,h2,h3,h4,h5,h6,h7⟩:=h
  have i6:=Zdz ks h6
  have i7:=Zdx os h7
  simp only [Zv,YT]
  refine ⟨h1,h3,h2,fun x hx=> ?_,h5,i6,i7⟩
  obtain ⟨y,hy,rfl⟩:=List.mem_map.1 hx
  have:=h4 y hy
  simp only [Z2e,Z23] at this ⊢
  exact ⟨this.1,this.2.1,this.2.2.2,this.2.2.1⟩
theorem Zdz:∀ (ks:List (KidOf Edit)),Z11 ks→Z11 (JC ks)
 | [],_=> trivial
 | k ::r,h=> by
  simp only [Z11] at h
  have h1:=Zio k h.1
  have h2:=Zdz r h.2
  simp only [JC,Z11]
  exact ⟨h1,h2⟩
theorem Zio:∀ (k:KidOf Edit),Z1j k→Z1j (Z0q k)
 | ⟨a,e⟩,h=> by
  simp only [Z1j] at h
  have h2:=Z6Y e h.2
  simp only [Z0q,Z1j]
  exact ⟨h.1,h2⟩
theorem Zdx:∀ (os:List (OpOf Edit)),Z0j os→Z0j (Jb os)
 | [],_=> trivial
 | o ::r,h=> by
  simp only [Z0j] at h
  have h1:=Zk5 o h.1
  have h2:=Zdx r h.2
  simp only [Jb,Z0j]
  exact ⟨h1,h2⟩
theorem Zk5:∀ (o:OpOf Edit),YH o→YH (YK o)
 | ⟨k,n,l,e⟩,h=> by
  simp only [YH] at h
  have h4:=Z6Y e h.2.2.2
  simp only [YK]
  split
  ·simp only [YH];exact ⟨by unfold isI;omega,h.2⟩
  ·split
   ·simp only [YH];exact ⟨by unfold isI;omega,h.2⟩
   ·split
    ·simp only [YH];exact ⟨h.1,h.2.1,h.2.2.1,h4⟩
    ·simp only [YH];exact h
end
structure RngW (w:Wst):Prop where
 out:∀ o∈w.out,Yp o.l∧YT o.e
 gone:Yp w.gone
 brought:Yp w.brought
theorem Z70:YT Edit.nil:=by
 simp only [Edit.nil,YT,Z11,Z0j]
 exact ⟨by unfold isI;omega,Z1P,Z1P,by simp,by unfold isI;omega,trivial,trivial⟩
theorem Z8f{w:Wst}(h:RngW w):RngW (Z3 w):=by
 refine ⟨?_,trivial,trivial⟩
 simp only [Z3,Z0F]
 intro o ho
 rcases List.mem_append.1 ho with ho | ho
 ·exact h.out o ho
 rcases List.mem_append.1 ho with ho | ho
 ·split at ho
  ·cases ho
  ·simp only [List.mem_singleton] at ho
   subst ho
   exact ⟨h.gone,Z70⟩
 ·split at ho
  ·cases ho
  ·simp only [List.mem_singleton] at ho
   subst ho
   exact ⟨h.brought,Z70⟩
theorem Zfr{w:Wst}{n:Int}(h:RngW w):RngW (ZW w n):=by
 have hf:=Z8f h
 refine ⟨?_,trivial,trivial⟩
 simp only [ZW]
 intro o ho
 rcases Z0P (Z3 w).out n with e | ⟨a,q,e1,e2,e3⟩
 ·rw [e] at ho
  rcases List.mem_append.1 ho with ho | ho
  ·exact hf.out o ho
  ·simp only [List.mem_singleton] at ho
   subst ho
   exact ⟨trivial,Z70⟩
 ·rw [e3] at ho
  rcases List.mem_append.1 ho with ho | ho
  ·exact hf.out o (by rw [e1];exact List.mem_append.2 (Or.inl ho))
  ·simp only [List.mem_singleton] at ho
   subst ho
   exact hf.out q (by rw [e1];simp)
theorem Zm2{list:Int}{w:Wst}{o:Op}(h:RngW w)(hl:Yp o.l)(he:YT (Zy o.e)):RngW (Z0k list o w):=by
 rw [YR]
 split
 ·exact Zfr h
 ·split
  ·exact ⟨h.out,Z5S.2 ⟨h.gone,Z8g hl⟩,h.brought⟩
  ·split
   ·exact ⟨h.out,h.gone,Z5S.2 ⟨h.brought,Z8g hl⟩⟩
   ·split
    ·split
     ·exact Zfr h
     ·refine ⟨?_,trivial,trivial⟩
      intro o ho
      rcases List.mem_append.1 ho with ho | ho
      ·exact (Z8f h).out o ho
      ·simp only [List.mem_singleton] at ho
       subst ho
       exact ⟨trivial,he⟩
    ·exact h
theorem ZbA:∀ {os:List Op},(∀ o∈os,YH o)→Z0j os
 | [],_=> trivial
 | o ::r,h=> by
  simp only [Z0j]
  exact ⟨h o (List.mem_cons_self ..),ZbA (fun x hx=> h x (List.mem_cons_of_mem _ hx))⟩
theorem Zis{list d:Int}{o:Op}(h:Zc list o d=true)(hl:Yp o.l)(he:YT o.e):YH o:=by
 have hn:=ZaI h
 obtain ⟨k,n,l,e⟩:=o
 simp only at hn hl he
 simp only [YH]
 refine ⟨?_,by unfold isI;omega,hl,he⟩
 rw [Zc] at h
 unfold isI
 split at h
 ·omega
 ·split at h
  ·cases h
  ·omega
mutual
theorem Z6Z:∀ (e:Edit) (d:Int),Za e d=true→YT e→YT (Zy e)
 | .mk k o n w ks l os,d,hr,h=> by
  have hin:=Z71 hr
  have hout:=Z71 (Z32 _ _ hr)
  simp only [Edit.kids_mk,Edit.ops_mk,Edit.list_mk] at hin
  simp only [YT] at h
  obtain ⟨h1,h2,h3,h4,h5,h6,h7⟩:=h
  have i6:=Zft ks (d - 1) (fun k hk=> (hin.1 k hk).1) h6
  have i7:=Zfs l os (d - 1) hin.2 h7 W0 ⟨fun o ho=> (by cases ho),trivial,trivial⟩
  rw [Zy] at hout ⊢
  by_cases k1:k=1
  ·rw [if_pos k1]
   simp only [YT]
   exact ⟨h1,Z10 o h2,Z10 n h3,by simp,h5,trivial,trivial⟩
  ·rw [if_neg k1] at hout ⊢
   by_cases k2:k=2
   ·rw [if_pos k2]
    simp only [YT]
    exact ⟨h1,Z1P,Z1P,h4,h5,i6,trivial⟩
   ·rw [if_neg k2] at hout ⊢
    by_cases k3:k=3
    ·rw [if_pos k3] at hout ⊢
     simp only [YT]
     refine ⟨h1,Z1P,Z1P,by simp,h5,trivial,ZbA (fun q hq=> ?_)⟩
     have hx:=hout.2 q hq
     have hy:=(Z8f i7).out q hq
     exact Zis hx hy.1 hy.2
    ·rw [if_neg k3]
     simp only [YT]
     exact ⟨h1,Z1P,Z1P,by simp,h5,trivial,trivial⟩
theorem Zft:∀ (ks:List (KidOf Edit)) (d:Int),(∀ k∈ks,Za k.e d=true)→Z11 ks→Z11 (Ja ks)
 | [],_,_,_=> trivial
 | k ::r,d,hr,h=> by
  simp only [Z11] at h
  have h1:=Zk6 k d (hr k (List.mem_cons_self ..)) h.1
  have h2:=Zft r d (fun x hx=> hr x (List.mem_cons_of_mem _ hx)) h.2
  simp only [Ja,Z11]
  exact ⟨h1,h2⟩
theorem Zk6:∀ (k:KidOf Edit) (d:Int),Za k.e d=true→Z1j k→Z1j (Z20 k)
 | ⟨a,e⟩,d,hr,h=> by
  simp only [Z1j] at h
  have h2:=Z6Z e d hr h.2
  simp only [Z20,Z1j]
  exact ⟨h.1,h2⟩
theorem Zfs(list:Int):∀ (os:List (OpOf Edit)) (d:Int),(∀ o∈os,Zc list o d=true)→Z0j os→∀ (w:Wst),RngW w→RngW (Zq list os w)
 | [],_,_,_,w,hw=> hw
 | o ::r,d,hr,h,w,hw=> by
  simp only [Z0j] at h
  have h1:=ZoA list o d (hr o (List.mem_cons_self ..)) h.1 w hw
  exact Zfs list r d (fun x hx=> hr x (List.mem_cons_of_mem _ hx)) h.2 _ h1
theorem ZoA(list:Int):∀ (o:OpOf Edit) (d:Int),Zc list o d=true→YH o→∀ (w:Wst),RngW w→RngW (Z0k list o w)
 | ⟨k,n,l,e⟩,d,hr,h,w,hw=> by
  simp only [YH] at h
  by_cases k3:k=3
  ·have he:Za e d=true:=by
    rw [Zc,if_neg (by omega),] at hr
    split at hr
    ·cases hr
    ·rw [if_neg (by omega)] at hr
     simp only [Bool.and_eq_true] at hr
     exact hr.1.2
   exact Zm2 (o:=⟨k,n,l,e⟩) hw h.2.2.1 (Z6Z e d he h.2.2.2)
  ·have hs:YT (Zy Edit.nil):=by
    show YT (.mk 0 Tree.nil Tree.nil [] [] 0 [])
    exact Z70
   have e2:Z0k list ⟨k,n,l,e⟩ w=Z0k list ⟨k,n,l,Edit.nil⟩ w:=by
    simp only [Z0k]
    rw [if_neg k3,if_neg k3]
   rw [e2]
   exact Zm2 (o:=⟨k,n,l,Edit.nil⟩) hw h.2.2.1 hs
end
end Go.AM.Ytpjenobkibfpcaa
namespace Go.AM.Ytpjenobkibfpcaa
open Go.AM Go.Proofs
theorem ZkB(t:Tree):t.words.length+Zf t.kids+1=Zo t:=by obtain ⟨k,w,ks⟩:=t;simp only [Zo,Tree.words_mk,Tree.kids_mk];omega
theorem ZfY:∀ (l:List Tree) (i:Nat) (x:Tree),i < l.length→Zf (l.set i x)+Zo (l.getD i Tree.nil)=Zf l+Zo x
 | [],i,x,h=> by simp at h
 | a ::r,0,x,_=> by simp only [List.set_cons_zero,Zf,List.getD_cons_zero];omega
 | a ::r,i+1,x,h=> by
  have:=ZfY r i x (by simpa using h)
  simp only [List.set_cons_succ,Zf,List.getD_cons_succ];omega
theorem ZkC(n:Nat):Zf (List.replicate n Tree.nil)=n:=by
 induction n with
 | zero=> rfl
 | succ n ih=> rw [List.replicate_succ,Zf,ih];simp [Tree.nil,Zo,Zf];omega
theorem Js:∀ (a b:List Tree),Zf (a++b)=Zf a+Zf b
 | [],b=> by simp [Zf]
 | t ::r,b=> by simp only [List.cons_append,Zf,Js r b];omega
theorem ZoZ(l:List Tree)(i:Nat)(x:Tree):Zf (Ya Tree.nil l i x)+Zo (l.getD i Tree.nil)≤Zf l+Zo x+(i+1):=by
 have h:=ZfY (l++List.replicate (i+1 - l.length) Tree.nil) i x (by simp;omega)
 have e:(l++List.replicate (i+1 - l.length) Tree.nil).getD i Tree.nil=l.getD i Tree.nil:=by
  by_cases hi:i < l.length
  ·simp only [List.getD_eq_getElem?_getD];rw [List.getElem?_append_left hi]
  ·simp only [List.getD_eq_getElem?_getD]
   rw [List.getElem?_append_right (by omega),List.getElem?_eq_none (l:=l) (by omega),List.getElem?_replicate]
   split <;> rfl
 rw [e,Js,ZkC] at h
 simp only [Ya]
 omega
theorem Zgs{tw:List Int}:∀ {ws:List WEdit} {last:Int} {out a:List Int},Yk last ws=true→wsD tw ws out=some a→a.length≤max out.length 65535
 | [],_,out,a,_,h=> by rw [wsD] at h;cases h;omega
 | w ::r,last,out,a,hw,h=> by
  have h1:=Jw hw w List.mem_cons_self
  simp only [Yk,Bool.and_eq_true] at hw
  rw [wsD] at h
  split at h
  ·have:=Zgs hw.2 h
   rw [Z7R] at this
   omega
  ·cases h
theorem Z9f{last d:Int}{k:Kid}{r:List Kid}(h:ZG last (k ::r) d=true):(last < k.at_∧k.at_≤65534)∧Za k.e d=true∧ZG k.at_ r d=true:=by
 have:=Zp h k List.mem_cons_self
 simp only [ZG,Bool.and_eq_true] at h
 exact ⟨⟨this.1.1,this.1.2.1⟩,this.2,h.2⟩
theorem ZpJ{tw:List Int}{ws:List WEdit}{last:Int}{out a:List Int}(hw:Yk last ws=true)(h:wsD tw ws out=some a):a.length≤out.length+65600*ws.length:=by
 cases ws with
 | nil=> rw [wsD] at h;cases h;omega
 | cons w r=>
  have:=Zgs hw h
  simp only [List.length_cons]
  omega
theorem Ze5(r:Bool)(v:Tree):Zo (nrD r v)≤Zo v:=by
 unfold nrD
 split
 ·exact Y6 v
 ·exact Nat.le_refl _
mutual
theorem Z9H(r:Bool):∀ (e:Edit) (d:Int) (t v:Tree),Za e d=true→Zkl r e t=some v→Zo v+18≤Zo t+ctE e
 | .mk k o n w ks l os,d,t,v,hr,hv=> by
  have ri:=Zn hr
  have h1:=ZfX r ks t.kids
  have h2:=ZfW r l os
  have ht:=ZkB t
  have po:=ZQ o
  have pn:=ZQ n
  have pt:=ZQ t
  unfold Zkl at hv
  simp only [ctE]
  split at hv
  ·cases hv;omega
  ·split at hv
   ·split at hv
    ·cases hv
     show Zo n+18≤_
     omega
    ·cases hv
   ·split at hv
    ·split at hv
     ·obtain ⟨a,ha,hb⟩:=Option.bind_eq_some_iff.1 hv
      obtain ⟨b,hb,e⟩:=Option.map_eq_some_iff.1 hb
      have l1:=ZpJ ri.words ha
      simp only [Edit.words_mk] at l1
      have l2:=h1 t.kids b _ (-1) (by omega) ri.kids (fun j _=> rfl) hb
      rw [←e]
      simp only [Zo]
      omega
     ·cases hv
    ·split at hv
     ·split at hv
      ·obtain ⟨b,hb,e⟩:=Option.map_eq_some_iff.1 hv
       unfold Z1V at hb
       obtain ⟨x,hx,hy⟩:=Option.bind_eq_some_iff.1 hb
       have l2:=h2 _ t.kids [] x (fun o ho=> Go.AM.rightOs_mem ri.ops o ho) hx
       split at hy
       ·cases hy
        rw [←e]
        simp only [Zo,List.length_nil]
        simp only [Zf] at l2
        omega
       ·cases hy
      ·cases hv
     ·cases hv
theorem ZfX(r:Bool):∀ (ks:List (KidOf Edit)) (tk out b:List Tree) (d last:Int),-1≤last→ZG last ks d=true→(∀ j:Nat,last < (j:Int)→out.getD j Tree.nil=tk.getD j Tree.nil)→Z22 r tk ks out=some b→Zf b≤Zf out+Z0n ks
 | [],tk,out,b,d,last,_,_,_,h=> by rw [Z22] at h;cases h;simp
 | k ::s,tk,out,b,d,last,hl,hr,hj,h=> by
  obtain ⟨h1,h2,h3⟩:=Z9f hr
  rw [Z22] at h
  obtain ⟨u,hu,hb⟩:=Option.bind_eq_some_iff.1 h
  have m1:=Zkz r k tk u d h2 hu
  have m2:=ZoZ out k.at_.toNat u
  rw [hj k.at_.toNat (by omega)] at m2
  have m3:=ZfX r s tk _ b d k.at_ (by omega) h3 (fun j hj'=> by
   rw [Zie,if_neg (by omega)]
   exact hj j (by omega)) hb
  have m4:k.at_.toNat+1≤65600:=by omega
  have e1:Z0n (k ::s)=65600+ctE k.e+Z0n s:=by obtain ⟨a,e⟩:=k;rfl
  rw [e1]
  omega
theorem Zkz(r:Bool):∀ (k:KidOf Edit) (tk:List Tree) (u:Tree) (d:Int),Za k.e d=true→Z3K r tk k=some u→Zo u+18≤Zo (tk.getD k.at_.toNat Tree.nil)+ctE k.e
 | ⟨a,e⟩,tk,u,d,hr,h=> by
  rw [Z3K,ZcP] at h
  obtain ⟨v,hv,hu⟩:=Option.map_eq_some_iff.1 h
  have:=Z9H r e d (tk.getD a.toNat Tree.nil) v hr hv
  have hvu:=Ze5 r v
  rw [hu] at hvu
  dsimp only
  omega
theorem ZfW(r:Bool)(l:Int):∀ (os:List (OpOf Edit)) (d:Int) (rest out:List Tree) (x:List Tree × List Tree),(∀ o∈os,Zc l o d=true)→Ji r os rest out=some x→Zf x.1+Zf x.2≤Zf out+Zf rest+J4 os
 | [],d,rest,out,x,_,h=> by rw [Ji] at h;cases h;simp
 | o ::s,d,rest,out,x,hr,h=> by
  rw [Ji] at h
  obtain ⟨y,hy,hx⟩:=Option.bind_eq_some_iff.1 h
  have m1:=ZoW r l o d rest out y (hr o List.mem_cons_self) hy
  have m2:=ZfW r l s d _ _ x (fun q hq=> hr q (List.mem_cons_of_mem _ hq)) hx
  rw [J4]
  omega
theorem ZoW(r:Bool)(l:Int):∀ (o:OpOf Edit) (d:Int) (rest out:List Tree) (x:List Tree × List Tree),Zc l o d=true→ZeH r o rest out=some x→Zf x.1+Zf x.2≤Zf out+Zf rest+Z3p o
 | ⟨k,n,L,e⟩,d,rest,out,x,hr,h=> by
  have he:=Z9H r e d (rest.getD 0 Tree.nil)
  rw [ZeH] at h
  simp only [Z3p]
  split at h
  ·split at h
   ·cases h
    have:=Js (rest.take n.toNat) (rest.drop n.toNat)
    rw [List.take_append_drop] at this
    dsimp only
    rw [Js];omega
   ·cases h
  ·split at h
   ·split at h
    ·cases h
     have:=Z3e L.length rest
     dsimp only;omega
    ·cases h
   ·split at h
    ·cases h
     dsimp only
     rw [Js];omega
    ·split at h
     ·cases h
     ·obtain ⟨u,hu,e2⟩:=Option.map_eq_some_iff.1 h
      cases e2
      have hk:k=3:=by
       have ra:=Y7 hr
       generalize ho:OpOf.mk k n L e=o at ra
       cases ra <;> (injection ho with h1;try omega)
      rw [ZcP] at hu
      obtain ⟨v,hv,hu⟩:=Option.map_eq_some_iff.1 hu
      have:=he v (JE hr hk) hv
      have hvu:=Ze5 r v
      rw [hu] at hvu
      cases rest with
      | nil=> contradiction
      | cons a q=>
       rw [Js]
       simp only [Zf,List.drop_succ_cons,List.drop_zero,List.getD_cons_zero] at this ⊢
       omega
end
theorem Z2g(r:Bool)(e:Edit)(d:Int)(t u:Tree)(hr:Za e d=true)(h:doE r e t=some u):Zo u+18≤Zo t+ctE e:=by
 rw [ZcP] at h
 obtain ⟨v,hv,hu⟩:=Option.map_eq_some_iff.1 h
 have:=Z9H r e d t v hr hv
 have hvu:=Ze5 r v
 rw [hu] at hvu
 omega
theorem ZxY{f:Nat→Int}(h:∀ i,0≤f i∧f i < 256):isW (of8 f):=by
 have h0:=h 0;have h1:=h 1;have h2:=h 2;have h3:=h 3;have h4:=h 4;have h5:=h 5;have h6:=h 6;have h7:=h 7
 unfold isW of8
 omega
theorem Zh8(a b m:Int):isW (mix a b m):=ZxY (Z6i a b m)
theorem Z9a{l:List Tree}(h:∀ t∈l,rng t):Yp l:=by
 induction l with
 | nil=> exact trivial
 | cons a r ih=> exact ⟨h a List.mem_cons_self,ih fun t ht=> h t (List.mem_cons_of_mem _ ht)⟩
theorem Jc:rng Tree.nil:=⟨by decide,by simp,trivial⟩
theorem Z8b{α:Type}{z x y:α}{l:List α}{i:Nat}(h:y∈Ya z l i x):y∈l∨y=z∨y=x:=by
 rcases List.mem_or_eq_of_mem_set h with h | h
 ·rcases List.mem_append.1 h with h | h
  ·exact .inl h
  ·exact .inr (.inl (List.eq_of_mem_replicate h))
 ·exact .inr (.inr h)
theorem Zm1{ks:List Tree}(h:Yp ks)(i:Nat):rng (ks.getD i Tree.nil):=by
 by_cases hi:i < ks.length
 ·exact Jd h (Zg hi _)
 ·rw [List.getD_eq_getElem?_getD,List.getElem?_eq_none (by omega)]
  exact Jc
theorem ZpK{tw:List Int}:∀ {ws:List WEdit} {out a:List Int},(∀ x∈out,isW x)→wsD tw ws out=some a→∀ x∈a,isW x
 | [],out,a,h,hw=> by rw [wsD] at hw;cases hw;exact h
 | w ::r,out,a,h,hw=> by
  rw [wsD] at hw
  split at hw
  ·refine ZpK (fun x hx=> ?_) hw
   rcases Z8b hx with hx | rfl | rfl
   ·exact h x hx
   ·exact ⟨by omega,by omega⟩
   ·exact Zh8 _ _ _
  ·cases hw
mutual
theorem ZaH(r:Bool):∀ (e:Edit) (t u:Tree),YT e→rng t→doE r e t=some u→rng u
 | .mk k o n w ks l os,t,u,hr,ht,h=> by
  have h1:=Zim r ks
  have h2:=Zil r os
  simp only [YT] at hr
  obtain ⟨r1,r2,r3,r4,r5,r6,r7⟩:=hr
  have hta:isI t.kind∧(∀ x∈t.words,isW x)∧Yp t.kids:=by obtain ⟨k,w,ks⟩:=t;exact ht
  rw [Z41] at h
  obtain ⟨v,hv,hu⟩:=Option.map_eq_some_iff.1 h
  suffices rng v by
   rw [←hu];unfold nrD
   split
   ·exact Z10 v this
   ·exact this
  clear h hu
  split at hv
  ·cases hv;exact ht
  ·split at hv
   ·split at hv
    ·cases hv;exact r3
    ·cases hv
   ·split at hv
    ·split at hv
     ·obtain ⟨a,ha,hb⟩:=Option.bind_eq_some_iff.1 hv
      obtain ⟨b,hb,e⟩:=Option.map_eq_some_iff.1 hb
      rw [←e]
      exact ⟨by decide,ZpK hta.2.1 ha,h1 _ _ _ r6 hta.2.2 hta.2.2 hb⟩
     ·cases hv
    ·split at hv
     ·split at hv
      ·obtain ⟨b,hb,e⟩:=Option.map_eq_some_iff.1 hv
       unfold Z1V at hb
       obtain ⟨x,hx,hy⟩:=Option.bind_eq_some_iff.1 hb
       split at hy
       ·cases hy
        rw [←e]
        exact ⟨r5,by simp,(h2 _ [] _ r7 hta.2.2 trivial hx).1⟩
       ·cases hy
      ·cases hv
     ·cases hv
theorem Zim(r:Bool):∀ (ks:List (KidOf Edit)) (tk out b:List Tree),Z11 ks→Yp tk→Yp out→Z22 r tk ks out=some b→Yp b
 | [],tk,out,b,_,_,ho,h=> by rw [Z22] at h;cases h;exact ho
 | k ::s,tk,out,b,hk,ht,ho,h=> by
  rw [Z22] at h
  obtain ⟨u,hu,hb⟩:=Option.bind_eq_some_iff.1 h
  have m1:=Zoz r k tk u hk.1 ht hu
  refine Zim r s tk _ b hk.2 ht (Z9a fun x hx=> ?_) hb
  rcases Z8b hx with hx | rfl | rfl
  ·exact Jd ho hx
  ·exact Jc
  ·exact m1
theorem Zoz(r:Bool):∀ (k:KidOf Edit) (tk:List Tree) (u:Tree),Z1j k→Yp tk→Z3K r tk k=some u→rng u
 | ⟨a,e⟩,tk,u,hr,ht,h=> by
  rw [Z3K] at h
  exact ZaH r e _ u hr.2 (Zm1 ht _) h
theorem Zil(r:Bool):∀ (os:List (OpOf Edit)) (rest out:List Tree) (x:List Tree × List Tree),Z0j os→Yp rest→Yp out→Ji r os rest out=some x→Yp x.1∧Yp x.2
 | [],rest,out,x,_,hr,ho,h=> by rw [Ji] at h;cases h;exact ⟨ho,hr⟩
 | o ::s,rest,out,x,hs,hr,ho,h=> by
  rw [Ji] at h
  obtain ⟨y,hy,hx⟩:=Option.bind_eq_some_iff.1 h
  have m1:=ZqT r o rest out y hs.1 hr ho hy
  exact Zil r s _ _ x hs.2 m1.2 m1.1 hx
theorem ZqT(r:Bool):∀ (o:OpOf Edit) (rest out:List Tree) (x:List Tree × List Tree),YH o→Yp rest→Yp out→ZeH r o rest out=some x→Yp x.1∧Yp x.2
 | ⟨k,n,L,e⟩,rest,out,x,hs,hr,ho,h=> by
  have he:=ZaH r e (rest.getD 0 Tree.nil)
  simp only [YH] at hs
  have hd:∀ n,Yp (rest.drop n):=fun n=> Z9a fun t ht=> Jd hr (List.mem_of_mem_drop ht)
  have hap:∀ l,Yp l→Yp (out++l):=fun l hl=> Z5S.2 ⟨ho,hl⟩
  rw [ZeH] at h
  split at h
  ·split at h
   ·cases h
    exact ⟨hap _ (Z9a fun t ht=> Jd hr (List.mem_of_mem_take ht)),hd _⟩
   ·cases h
  ·split at h
   ·split at h
    ·cases h
     exact ⟨ho,hd _⟩
    ·cases h
   ·split at h
    ·cases h
     exact ⟨hap _ hs.2.2.1,hr⟩
    ·split at h
     ·cases h
     ·obtain ⟨u,hu,e2⟩:=Option.map_eq_some_iff.1 h
      cases e2
      exact ⟨hap _ ⟨he u hs.2.2.2 (Zm1 hr 0) hu,trivial⟩,hd _⟩
end
end Go.AM.Ytpjenobkibfpcaa
namespace Go.AM.Ytpjenobkibfpcaa
open Go.AM Go.Proofs
section
variable {α β:Type} (z:α) (f:β→Option α) (p:β→Int)
def mg:List β→List α→Option (List α)
 | [],out=> some out
 | w ::r,out=> (f w).bind fun v=> mg r (Ya z out (p w).toNat v)
def asc(last:Int):List β→Prop
 | []=> True
 | w ::r=> last < p w∧asc (p w) r
structure Mg (l0:List α) (ws:List β) (n a i:Int) (out:List α):Prop where
 a0:0≤a∧a≤ws.length
 i0:0≤i∧i≤n
 len:(out.length:Int)=i
 ac:asc p (i - 1) (ws.drop a.toNat)
 lt:∀ w∈ws.drop a.toNat,p w < n
 ex:n=l0.length∨i=n∨∃ w∈ws.drop a.toNat,p w+1=n
 n0:l0.length≤n
 eq:mg z f p (ws.drop a.toNat) (out++l0.drop i.toNat)=mg z f p ws l0
variable {z f p} {l0:List α} {ws:List β} {n a i:Int} {out:List α}
theorem ZjZ(v:α)(i:Nat)(h:out.length=i):Ya z (out++l0.drop i) i v=(out++[v])++l0.drop (i+1):=by
 by_cases hi:i < l0.length
 ·simp only [Ya]
  rw [show i+1 - (out++l0.drop i).length=0 by simp;omega]
  simp only [List.replicate_zero,List.append_nil]
  rw [List.set_append_right _ _ (by omega),show i - out.length=0 by omega,List.drop_eq_getElem_cons hi,List.set_cons_zero,List.append_assoc]
  try rfl
 ·rw [List.drop_of_length_le (by omega),List.drop_of_length_le (by omega)]
  simp only [Ya,List.append_nil]
  rw [show i+1 - out.length=1 by omega,List.replicate_one,List.set_append_right _ _ (by omega),show i - out.length=0 by omega]
  try rfl
theorem Z3l{last:Int}:∀ {l:List β},asc p last l→∀ w∈l,last < p w
 | [],_,_,hw=> by cases hw
 | b ::r,h,w,hw=> by
  rcases List.mem_cons.1 hw with rfl | hw
  ·exact h.1
  ·have:=Z3l h.2 w hw
   have:=h.1
   omega
theorem Mg.cons(m:Mg z f p l0 ws n a i out)(d:β)(ha:a < ws.length):ws.drop a.toNat=ws.getD a.toNat d ::ws.drop (a+1).toNat:=Y1 m.a0.1 ha d
theorem Mg.none(m:Mg z f p l0 ws n a i out)(d:β)(ha:a < ws.length)(hf:f (ws.getD a.toNat d)=Option.none):mg z f p ws l0=Option.none:=by
 rw [←m.eq,m.cons d ha,mg,hf];try rfl
theorem Mg.edit(m:Mg z f p l0 ws n a i out)(d:β)(hi:i < n)(ha:a < ws.length)(hp:p (ws.getD a.toNat d)=i){v:α}(hf:f (ws.getD a.toNat d)=some v):Mg z f p l0 ws n (a+1) (i+1) (out++[v]):=by
 have hc:=m.cons d ha
 have h1:=m.ac;have h2:=m.lt;have h3:=m.ex;have h4:=m.eq;have h5:=m.a0;have h6:=m.i0;have h7:=m.len
 rw [hc] at h1 h2 h3 h4
 refine ⟨by omega,by omega,by simp;omega,?_,fun w hw=> h2 w (List.mem_cons_of_mem _ hw),?_,m.n0,?_⟩
 ·have:=h1.2
  rw [hp] at this
  rw [show i+1 - 1=i by omega]
  exact this
 ·rcases h3 with h3 | h3 | ⟨w,hw,h3⟩
  ·exact .inl h3
  ·omega
  ·rcases List.mem_cons.1 hw with rfl | hw
   ·exact .inr (.inl (by omega))
   ·exact .inr (.inr ⟨w,hw,h3⟩)
 ·rw [mg,hf,Option.bind_some,hp,ZjZ v i.toNat (by omega),show i.toNat+1=(i+1).toNat by omega] at h4
  exact h4
theorem Zy0{l:List β}(h:∃ w,w∈l)(ha:asc p (out.length:Int) l):mg z f p l (out++[z])=mg z f p l out:=by
 cases l with
 | nil=> obtain ⟨w,hw⟩:=h;cases hw
 | cons w r=>
  have h1:=ha.1
  rw [mg,mg]
  congr 1
  funext v
  have:Ya z (out++[z]) (p w).toNat v=Ya z out (p w).toNat v:=by
   simp only [Ya,List.length_append,List.length_singleton,List.append_assoc]
   rw [show (p w).toNat+1 - out.length=((p w).toNat+1 - (out.length+1))+1 by omega,List.replicate_succ]
   try rfl
  rw [this]
theorem Mg.plain(m:Mg z f p l0 ws n a i out)(d:β)(hi:i < n)(hn:¬(a < ws.length∧p (ws.getD a.toNat d)=i)):Mg z f p l0 ws n a (i+1) (out++[l0.getD i.toNat z]):=by
 have h1:=m.ac;have h2:=m.lt;have h3:=m.ex;have h4:=m.eq;have h5:=m.a0;have h6:=m.i0;have h7:=m.len;have h8:=m.n0
 have has:asc p i (ws.drop a.toNat):=by
  by_cases ha:a < ws.length
  ·rw [m.cons d ha] at h1 ⊢
   exact ⟨by have:=h1.1;have:p (ws.getD a.toNat d)≠i:=fun e=> hn ⟨ha,e⟩;omega,h1.2⟩
  ·rw [List.drop_of_length_le (by omega)];exact trivial
 refine ⟨h5,by omega,by simp;omega,by rw [show i+1 - 1=i by omega];exact has,h2,?_,h8,?_⟩
 ·rcases h3 with h3 | h3 | h3
  ·exact .inl h3
  ·omega
  ·exact .inr (.inr h3)
 ·rw [←h4]
  by_cases hl:i.toNat < l0.length
  ·rw [List.drop_eq_getElem_cons hl,show i.toNat+1=(i+1).toNat by omega,List.getD_eq_getElem?_getD,List.getElem?_eq_getElem hl,Option.getD_some]
   simp
  ·have e1:l0.drop i.toNat=[]:=List.drop_of_length_le (by omega)
   have e2:l0.drop (i+1).toNat=[]:=List.drop_of_length_le (by omega)
   rw [e1,e2,List.append_nil,List.append_nil,List.getD_eq_getElem?_getD,List.getElem?_eq_none (by omega),Option.getD_none]
   rcases h3 with h3 | h3 | ⟨w,hw,h3⟩
   ·omega
   ·omega
   ·exact Zy0 ⟨w,hw⟩ (by rw [h7];exact has)
theorem Mg.fin(m:Mg z f p l0 ws n a i out)(hi:¬i < n):mg z f p ws l0=some out:=by
 have h1:=m.ac;have h2:=m.lt;have h6:=m.i0;have h8:=m.n0
 rw [←m.eq]
 have:ws.drop a.toNat=[]:=by
  cases h:ws.drop a.toNat with
  | nil=> rfl
  | cons w r=>
   rw [h] at h1 h2
   have:=h1.1
   have:=h2 w List.mem_cons_self
   omega
 rw [this,mg,List.drop_of_length_le (by omega),List.append_nil]
end
theorem Mg.init{α β:Type}{z:α}{f:β→Option α}{p:β→Int}{l0:List α}{ws:List β}{n:Int}(d:β)(has:asc p (-1) ws)(hn:n=if 0 < ws.length∧(l0.length:Int)≤p (ws.getD (ws.length - 1) d) then p (ws.getD (ws.length - 1) d)+1 else (l0.length:Int)):Mg z f p l0 ws n 0 0 []:=by
 have last:∀ (l:List β) (m:Int),asc p m l→∀ w∈l,p w≤p (l.getD (l.length - 1) d):=by
  intro l
  induction l with
  | nil=> intro m h w hw;cases hw
  | cons b r ih=>
   intro m h w hw
   cases r with
   | nil=>
    rcases List.mem_cons.1 hw with rfl | hw
    ·simp
    ·cases hw
   | cons c s=>
    have e:(b ::c ::s).getD ((b ::c ::s).length - 1) d=(c ::s).getD ((c ::s).length - 1) d:=by simp
    rw [e]
    rcases List.mem_cons.1 hw with rfl | hw
    ·have h1:=ih _ h.2 c List.mem_cons_self
     have h2:=h.2.1
     omega
    ·exact ih _ h.2 w hw
 have hl:=last ws _ has
 have hm:0 < ws.length→ws.getD (ws.length - 1) d∈ws:=fun h=> Zg (by omega) _
 refine ⟨by omega,⟨by omega,?_⟩,rfl,has,fun w hw=> ?_,?_,?_,by simp⟩
 ·rw [hn];split <;> omega
 ·have:=hl w hw
  have hp:0 < ws.length:=List.length_pos_of_mem hw
  rw [hn];split <;> omega
 ·rw [hn];split
  ·rename_i h;exact .inr (.inr ⟨_,hm h.1,rfl⟩)
  ·exact .inl rfl
 ·rw [hn];split <;> omega
theorem ZjQ(tw:List Int):∀ (ws:List WEdit) (out:List Int),wsD tw ws out=mg 0 (fun w=> if mix 0 (tw.getD w.at_.toNat 0) w.mask=w.old then some (mix (tw.getD w.at_.toNat 0) w.new w.mask) else none) WEdit.at_ ws out
 | [],_=> rfl
 | w ::r,out=> by
  rw [wsD,mg]
  split
  ·rw [Option.bind_some];exact ZjQ tw r _
  ·try rfl
theorem ZhA(r:Bool)(tk:List Tree):∀ (ks:List Kid) (out:List Tree),Z22 r tk ks out=mg Tree.nil (Z3K r tk) KidOf.at_ ks out
 | [],_=> by rw [Z22];try rfl
 | k ::s,out=> by
  rw [Z22,mg]
  congr 1
  funext u
  exact ZhA r tk s _
theorem Z0H:∀ {ws:List WEdit} {last:Int},Yk last ws=true→asc WEdit.at_ last ws
 | [],_,_=> trivial
 | w ::r,last,h=> by
  have h1:=Jw h w List.mem_cons_self
  simp only [Yk,Bool.and_eq_true] at h
  exact ⟨h1.1,Z0H h.2⟩
theorem Z1T:∀ {ks:List Kid} {last d:Int},ZG last ks d=true→asc KidOf.at_ last ks
 | [],_,_,_=> trivial
 | k ::r,last,d,h=> by
  obtain ⟨h1,_,h3⟩:=Z9f h
  exact ⟨h1.1,Z1T h3⟩
end Go.AM.Ytpjenobkibfpcaa
namespace Go.AM.Ytpjenobkibfpcaa
open Go.AM Go.Proofs
theorem Z4M{x y x' y':Int}(h:x+256*y=x'+256*y')(hx:0≤x∧x < 256)(hx':0≤x'∧x' < 256):x=x'∧y=y':=by omega
theorem ZuD{f g:Nat→Int}(hf:∀ i,0≤f i∧f i < 256)(hg:∀ i,0≤g i∧g i < 256)(h:of8 f=of8 g):∀ i,i < 8→f i=g i:=by
 unfold of8 at h
 obtain ⟨h0,h⟩:=Z4M h (hf 0) (hg 0)
 obtain ⟨h1,h⟩:=Z4M h (hf 1) (hg 1)
 obtain ⟨h2,h⟩:=Z4M h (hf 2) (hg 2)
 obtain ⟨h3,h⟩:=Z4M h (hf 3) (hg 3)
 obtain ⟨h4,h⟩:=Z4M h (hf 4) (hg 4)
 obtain ⟨h5,h⟩:=Z4M h (hf 5) (hg 5)
 obtain ⟨h6,h7⟩:=Z4M h (hf 6) (hg 6)
 intro i hi
 match i,hi with
 | 0,_=> exact h0
 | 1,_=> exact h1
 | 2,_=> exact h2
 | 3,_=> exact h3
 | 4,_=> exact h4
 | 5,_=> exact h5
 | 6,_=> exact h6
 | 7,_=> exact h7
theorem ZoP{a:Int}(h:isW a):of8 (Z0 a)=a:=by
 obtain ⟨h0,h1⟩:=h
 simp only [of8,Z0]
 omega
theorem Zj7{a b m:Int}{i:Nat}(h:i < 8):Z0 (mix a b m) i=J0 a b m i:=
 ZuD (fun i=> Z0a _ i) (Z6i a b m) (by rw [ZoP (Zh8 a b m)];rfl) i h
section
variable {α β:Type} {z:α} {f:β→Option α} {p:β→Int}
end
end Go.AM.Ytpjenobkibfpcaa
namespace Go.AM.Ytpjenobkibfpcaa
open Go.AM Go.Proofs
theorem Zg7(l rest:List Tree):Z3J l rest=true↔l.length≤rest.length∧Z8 l=Z8 (rest.take l.length):=by
 unfold Z3J
 rw [Bool.and_eq_true,decide_eq_true_eq,Jm]
end Go.AM.Ytpjenobkibfpcaa
namespace Go.AM.Ytpjenobkibfpcaa
open Go.AM Go.Proofs
theorem Zc5:∀ {ks:List Kid} {k:Kid},k∈ks→Z5 k.e≤Zt ks
 | ⟨_,_⟩ ::r,k,h=> by
  rcases List.mem_cons.1 h with rfl | h
  ·simp only [Zt,YI];omega
  ·have:=Zc5 h;simp only [Zt];omega
theorem Z3C:∀ {os:List Op} {o:Op},o∈os→Zs o≤Zh os
 | a ::r,o,h=> by
  rcases List.mem_cons.1 h with rfl | h
  ·simp only [Zh];omega
  ·have:=Z3C h;simp only [Zh];omega
theorem ZoY(o:Op):Z5 o.e≤Zs o:=by obtain ⟨k,n,l,e⟩:=o;simp only [Zs];omega
theorem Y9{e:Edit}{k:Kid}(h:k∈e.kids):Z5 k.e < Z5 e:=by
 obtain ⟨kk,o,n,w,ks,l,os⟩:=e
 have:=Zc5 (ks:=ks) h
 simp only [Z5];omega
theorem Z01{e:Edit}{o:Op}(h:o∈e.ops):Z5 o.e < Z5 e:=by
 obtain ⟨kk,ol,n,w,ks,l,os⟩:=e
 have:=Z3C (os:=os) h
 have:=ZoY o
 simp only [Z5];omega
mutual
theorem JM:∀ (t:Tree) (d m:Int),m < 0→Zl t d=true→Zl t m=true
 | .mk k w ks,d,m,hm,h=> by
  rw [Zl] at h ⊢
  by_cases h0:k=0
  ·rw [if_pos h0] at h ⊢;exact h
  ·rw [if_neg h0] at h ⊢
   by_cases h1:k=10
   ·rw [if_pos h1] at h ⊢;exact h
   ·rw [if_neg h1] at h ⊢
    by_cases h2:d=0
    ·rw [if_pos h2] at h;cases h
    ·rw [if_neg h2] at h
     rw [if_neg (by omega)]
     by_cases h3:k=1
     ·rw [if_pos h3,Bool.and_eq_true] at h ⊢
      exact ⟨h.1,Z8i 1 ks (d - 1) (m - 1) (by omega) h.2⟩
     ·rw [if_neg h3,Bool.and_eq_true] at h ⊢
      exact ⟨h.1,Z8i k ks (d - 1) (m - 1) (by omega) h.2⟩
theorem Z8i(list:Int):∀ (ks:List Tree) (d m:Int),m < 0→YU list ks d=true→YU list ks m=true
 | [],_,_,_,_=> rfl
 | t ::r,d,m,hm,h=> by
  simp only [YU,Bool.and_eq_true] at h ⊢
  exact ⟨⟨h.1.1,JM t d m hm h.1.2⟩,Z8i list r d m hm h.2⟩
end
theorem Z31{list d:Int}:∀ {ks:List Tree},YU list ks d=true↔∀ t∈ks,Z2o list t=true∧Zl t d=true
 | []=> by simp [YU]
 | t ::r=> by
  simp only [YU,Bool.and_eq_true,Z31 (ks:=r),List.mem_cons,forall_eq_or_imp]
theorem Z5T{t:Tree}(h:Zl t (-1)=true):t.kind≠0→t.kind≠10→
  (t.kind=1→t.words.length < 65536∧t.kids.length < 65536)∧(t.kind≠1→(2≤t.kind∧t.kind≤9)∧t.words=[]∧t.kids.length < 1048576)∧∀ k∈t.kids,Z2o t.kind k=true∧Zl k (-1)=true:=by
 obtain ⟨k,w,ks⟩:=t
 intro h0 h1
 have h0:k≠0:=h0
 have h1:k≠10:=h1
 rw [Zl,if_neg h0,if_neg h1,if_neg (by decide)] at h
 by_cases h3:k=1
 ·rw [if_pos h3,Bool.and_eq_true,decide_eq_true_eq,Z31] at h
  subst h3
  exact ⟨fun _=> h.1,fun e=> absurd rfl e,fun x hx=> ⟨(h.2 x hx).1,JM _ _ _ (by decide) (h.2 x hx).2⟩⟩
 ·rw [if_neg h3,Bool.and_eq_true,decide_eq_true_eq,Z31] at h
  exact ⟨fun e=> absurd e h3,fun _=> ⟨⟨h.1.1,h.1.2.1⟩,List.eq_nil_of_length_eq_zero h.1.2.2.1,h.1.2.2.2⟩,fun x hx=> ⟨(h.2 x hx).1,JM _ _ _ (by decide) (h.2 x hx).2⟩⟩
theorem ZgD{w:List Int}{ks:List Tree}(h1:w.length < 65536)(h2:ks.length < 65536)(h:∀ k∈ks,Z2o 1 k=true∧Zl k (-1)=true):Zl (.mk 1 w ks) (-1)=true:=by
 rw [Zl,if_neg (by decide),if_neg (by decide),if_neg (by decide),if_pos rfl,Bool.and_eq_true,decide_eq_true_eq,Z31]
 exact ⟨⟨h1,h2⟩,fun x hx=> ⟨(h x hx).1,JM _ _ _ (by decide) (h x hx).2⟩⟩
theorem ZdA{l:Int}{ks:List Tree}(hl:2≤l∧l≤9)(h2:ks.length < 1048576)(h:∀ k∈ks,Z2o l k=true∧Zl k (-1)=true):Zl (.mk l [] ks) (-1)=true:=by
 rw [Zl,if_neg (by omega),if_neg (by omega),if_neg (by decide),if_neg (by omega),Bool.and_eq_true,decide_eq_true_eq,Z31]
 exact ⟨⟨hl.1,hl.2,rfl,h2⟩,fun x hx=> ⟨(h x hx).1,JM _ _ _ (by decide) (h x hx).2⟩⟩
theorem Z0I{D list:Int}:∀ {l:List Tree},Yv D list l=true→∀ t∈l,Zl (.mk list [] [t]) D=true
 | a ::r,h,t,ht=> by
  simp only [Yv,Bool.and_eq_true] at h
  rcases List.mem_cons.1 ht with rfl | ht
  ·exact h.1
  ·exact Z0I h.2 t ht
theorem Z0i{D list:Int}(hl:2≤list∧list≤9){l:List Tree}(h:Yv D list l=true):∀ t∈l,Z2o list t=true∧Zl t (-1)=true:=by
 intro t ht
 have:=Z5T (JM _ _ (-1) (by decide) (Z0I h t ht)) (by show list≠0;omega) (by show list≠10;omega)
 exact this.2.2 t (by simp)
inductive Run:List Op→List Tree→List Tree→Prop
 | nil:Run [] [] []
 | keep {o r a s d}:o.kind=0→(a.length:Int)=o.n→Run r s d→Run (o ::r) (a++s) (a++d)
 | gone {o r a s d}:o.kind=1→Z8 o.l=Z8 a→Run r s d→Run (o ::r) (a++s) d
 | come {o r s d}:o.kind=2→Run r s d→Run (o ::r) s (o.l++d)
 | into {o r x y s d}:o.kind=3→doE false o.e x=some y→Run r s d→Run (o ::r) (x ::s) (y ::d)
def kOk(o:Op):Prop:=(o.kind=0∧0≤o.n)∨o.kind=1∨o.kind=2∨o.kind=3
theorem ZxK:∀ {os:List Op} {s d:List Tree},Run os s d→∀ out,Ji false os s out=some (out++d,[]):=by
 intro os s d h
 induction h with
 | nil=> intro out;simp [Ji]
 | keep h0 hn hr0 ih=>
  rename_i o r a s d
  intro out
  rw [Ji,Z5m,if_pos h0,if_pos (by rw [List.length_append];omega),show o.n.toNat=a.length by omega]
  simp only [Option.bind_some,List.take_left,List.drop_left]
  rw [ih,List.append_assoc]
 | gone h1 hn hr0 ih=>
  rename_i o r a s d
  intro out
  have hl:=Z4g hn
  rw [Ji,Z5m,if_neg (by omega),if_pos h1,if_pos]
  ·simp only [Option.bind_some]
   rw [hl,List.drop_left,ih]
  ·rw [Zg7,hl,List.take_left]
   exact ⟨by simp,hn⟩
 | come h2 hr0 ih=>
  intro out
  rw [Ji,Z5m,if_neg (by omega),if_neg (by omega),if_pos h2]
  simp only [Option.bind_some]
  rw [ih,List.append_assoc]
 | into h3 he hr0 ih=>
  intro out
  rw [Ji,Z5m,if_neg (by omega),if_neg (by omega),if_neg (by omega),if_neg (by simp)]
  simp only [List.getD_cons_zero,he,Option.map_some,Option.bind_some,List.drop_succ_cons,List.drop_zero]
  rw [ih,List.append_assoc]
  try rfl
theorem ZeG:∀ {os:List Op} {s out:List Tree} {x:List Tree × List Tree},(∀ o∈os,kOk o)→Ji false os s out=some x→x.2=[]→∃ d,x.1=out++d∧Run os s d
 | [],s,out,x,_,h,hx=> by
  rw [Ji] at h
  cases h
  have hx:s=[]:=hx
  subst hx
  exact ⟨[],by simp,.nil⟩
 | o ::r,s,out,x,hk,h,hx=> by
  rw [Ji,Z5m] at h
  have hr:∀ o∈r,kOk o:=fun o ho=> hk o (List.mem_cons_of_mem _ ho)
  rcases hk o List.mem_cons_self with h0 | h1 | h2 | h3
  ·rw [if_pos h0.1] at h
   split at h
   ·rename_i hl
    simp only [Option.bind_some] at h
    obtain ⟨d,e,hd⟩:=ZeG hr h hx
    refine ⟨s.take o.n.toNat++d,by rw [e,List.append_assoc],?_⟩
    have:=Run.keep (a:=s.take o.n.toNat) h0.1 (by rw [List.length_take];omega) hd
    rwa [List.take_append_drop] at this
   ·cases h
  ·rw [if_neg (by omega),if_pos h1] at h
   split at h
   ·rename_i hg
    obtain ⟨g1,g2⟩:=(Zg7 _ _).1 hg
    simp only [Option.bind_some] at h
    obtain ⟨d,e,hd⟩:=ZeG hr h hx
    refine ⟨d,e,?_⟩
    have:=Run.gone (a:=s.take o.l.length) h1 g2 hd
    rwa [List.take_append_drop] at this
   ·cases h
  ·rw [if_neg (by omega),if_neg (by omega),if_pos h2] at h
   simp only [Option.bind_some] at h
   obtain ⟨d,e,hd⟩:=ZeG hr h hx
   exact ⟨o.l++d,by rw [e,List.append_assoc],.come h2 hd⟩
  ·rw [if_neg (by omega),if_neg (by omega),if_neg (by omega)] at h
   split at h
   ·cases h
   ·rename_i hl
    obtain ⟨y,hy,h⟩:=Option.bind_eq_some_iff.1 h
    obtain ⟨z,hz,rfl⟩:=Option.map_eq_some_iff.1 hy
    obtain ⟨d,e,hd⟩:=ZeG hr h hx
    cases s with
    | nil=> simp at hl
    | cons x0 s=>
     refine ⟨z ::d,by rw [e];simp,.into h3 (by simpa using hz) (by simpa using hd)⟩
theorem ZvC{os:List Op}{s d:List Tree}(hk:∀ o∈os,kOk o):Z1V (Ji false os s [])=some d↔Run os s d:=by
 constructor
 ·intro h
  unfold Z1V at h
  obtain ⟨x,hx,h⟩:=Option.bind_eq_some_iff.1 h
  split at h
  ·rename_i hl
   cases h
   obtain ⟨d,e,hd⟩:=ZeG hk hx (List.eq_nil_of_length_eq_zero hl)
   rw [e];exact hd
  ·cases h
 ·intro h
  have:=ZxK h []
  unfold Z1V
  rw [this]
  simp
theorem Zp9{list d:Int}{o:Op}(h:Zc list o d=true):kOk o:=by
 have:=Y7 h
 cases this with
 | keep n h1=> exact .inl ⟨rfl,by show 0≤n;omega⟩
 | gone=> exact .inr (.inl rfl)
 | come=> exact .inr (.inr (.inl rfl))
 | into=> exact .inr (.inr (.inr rfl))
theorem Zux:∀ {os:List Op} {s d:List Tree},Run os s d→(∀ o∈os,ZN o)→(s.length:Int)=Jh os∧(d.length:Int)=Jp os:=by
 intro os s d h
 induction h with
 | nil=> intro _;simp [Jh,Jp]
 | keep h0 hn hr0 ih=>
  rename_i o r a s d
  intro hk
  obtain ⟨i1,i2⟩:=ih fun o ho=> hk o (List.mem_cons_of_mem _ ho)
  have ho:=hk o List.mem_cons_self
  have hl:Z2 o=o.n:=by
   rcases ho with h | h | h
   ·unfold Z2;rw [if_neg (by omega),h.2.1];simp
   ·omega
   ·omega
  simp only [Jh,Jp,List.length_append]
  rw [if_neg (by omega),if_neg (by omega),hl]
  omega
 | gone h1 hn hr0 ih=>
  rename_i o r a s d
  intro hk
  obtain ⟨i1,i2⟩:=ih fun o ho=> hk o (List.mem_cons_of_mem _ ho)
  have ho:=hk o List.mem_cons_self
  have hl:Z2 o=a.length:=by
   have:=Z4g hn
   rcases ho with h | h | h
   ·omega
   ·unfold Z2;rw [if_neg (by omega),h.2.1];omega
   ·omega
  simp only [Jh,Jp,List.length_append]
  rw [if_neg (by omega),if_pos h1,hl]
  omega
 | come h2 hr0 ih=>
  rename_i o r s d
  intro hk
  obtain ⟨i1,i2⟩:=ih fun o ho=> hk o (List.mem_cons_of_mem _ ho)
  have ho:=hk o List.mem_cons_self
  have hl:Z2 o=o.l.length:=by
   rcases ho with h | h | h
   ·omega
   ·unfold Z2;rw [if_neg (by omega),h.2.1];omega
   ·omega
  simp only [Jh,Jp,List.length_append]
  rw [if_pos h2,if_neg (by omega),hl]
  omega
 | into h3 he hr0 ih=>
  rename_i o r x y s d
  intro hk
  obtain ⟨i1,i2⟩:=ih fun o ho=> hk o (List.mem_cons_of_mem _ ho)
  have hl:Z2 o=1:=by unfold Z2;rw [if_pos h3]
  simp only [Jh,Jp,List.length_cons]
  rw [if_neg (by omega),if_neg (by omega),hl]
  omega
end Go.AM.Ytpjenobkibfpcaa
namespace Go.AM.Ytpjenobkibfpcaa
open Go.AM Go.Proofs
theorem Zjz{r:Bool}{tk:List Tree}:∀ {ks:List Kid} {out b:List Tree},Z22 r tk ks out=some b→(∀ k∈ks,k.at_≤65534)→
  b.length≤max out.length 65535∧∀ y∈b,y∈out∨y=Tree.nil∨∃ k∈ks,doE r k.e (tk.getD k.at_.toNat Tree.nil)=some y
 | [],out,b,h,_=> by
  rw [Z22] at h
  cases h
  exact ⟨by omega,fun y hy=> .inl hy⟩
 | k ::s,out,b,h,ha=> by
  rw [Z22,ZeI] at h
  obtain ⟨v,hv,hb⟩:=Option.bind_eq_some_iff.1 h
  obtain ⟨i1,i2⟩:=Zjz hb fun x hx=> ha x (List.mem_cons_of_mem _ hx)
  have:=ha k List.mem_cons_self
  rw [Z7R] at i1
  refine ⟨by omega,fun y hy=> ?_⟩
  rcases i2 y hy with h1 | h1 | ⟨q,hq,h1⟩
  ·rcases Z8b h1 with h1 | h1 | h1
   ·exact .inl h1
   ·exact .inr (.inl h1)
   ·subst h1
    exact .inr (.inr ⟨k,List.mem_cons_self,hv⟩)
  ·exact .inr (.inl h1)
  ·exact .inr (.inr ⟨q,List.mem_cons_of_mem _ hq,h1⟩)
theorem Zuw:∀ {os:List Op} {s d:List Tree},Run os s d→∀ y∈d,y∈s∨(∃ o∈os,o.kind=2∧y∈o.l)∨∃ o∈os,o.kind=3∧∃ x∈s,doE false o.e x=some y:=by
 intro os s d h
 induction h with
 | nil=> intro y hy;cases hy
 | keep h0 hn hr0 ih=>
  intro y hy
  rcases List.mem_append.1 hy with hy | hy
  ·exact .inl (List.mem_append_left _ hy)
  ·rcases ih y hy with h | ⟨o,ho,h⟩ | ⟨o,ho,hk,x,hx,h⟩
   ·exact .inl (List.mem_append_right _ h)
   ·exact .inr (.inl ⟨o,List.mem_cons_of_mem _ ho,h⟩)
   ·exact .inr (.inr ⟨o,List.mem_cons_of_mem _ ho,hk,x,List.mem_append_right _ hx,h⟩)
 | gone h1 hn hr0 ih=>
  intro y hy
  rcases ih y hy with h | ⟨o,ho,h⟩ | ⟨o,ho,hk,x,hx,h⟩
  ·exact .inl (List.mem_append_right _ h)
  ·exact .inr (.inl ⟨o,List.mem_cons_of_mem _ ho,h⟩)
  ·exact .inr (.inr ⟨o,List.mem_cons_of_mem _ ho,hk,x,List.mem_append_right _ hx,h⟩)
 | come h2 hr0 ih=>
  intro y hy
  rcases List.mem_append.1 hy with hy | hy
  ·exact .inr (.inl ⟨_,List.mem_cons_self,h2,hy⟩)
  ·rcases ih y hy with h | ⟨o,ho,h⟩ | ⟨o,ho,hk,x,hx,h⟩
   ·exact .inl h
   ·exact .inr (.inl ⟨o,List.mem_cons_of_mem _ ho,h⟩)
   ·exact .inr (.inr ⟨o,List.mem_cons_of_mem _ ho,hk,x,hx,h⟩)
 | into h3 he hr0 ih=>
  intro y hy
  rcases List.mem_cons.1 hy with rfl | hy
  ·exact .inr (.inr ⟨_,List.mem_cons_self,h3,_,List.mem_cons_self,he⟩)
  ·rcases ih y hy with h | ⟨o,ho,h⟩ | ⟨o,ho,hk,x,hx,h⟩
   ·exact .inl (List.mem_cons_of_mem _ h)
   ·exact .inr (.inl ⟨o,List.mem_cons_of_mem _ ho,h⟩)
   ·exact .inr (.inr ⟨o,List.mem_cons_of_mem _ ho,hk,x,List.mem_cons_of_mem _ hx,h⟩)
theorem ZyP{y:Tree}(h:y.kind≠10):Z2o 1 y=true:=by
 unfold Z2o
 rw [if_neg (by decide),if_neg (by decide)]
 exact decide_eq_true h
theorem Z8u{list d:Int}{os:List Op}(h:ZD list os d=true):∀ o∈os,ZN o:=fun o ho=> Z0A (rightOs_mem h ho)
theorem YY{o:Op}(h:ZN o):0≤Z2 o:=by have:=ZY h;omega
theorem Zal{e:Edit}{d:Int}{t u:Tree}(hr:Za e d=true)(h:doE false e t=some u):(e.kind=1→u=e.new)∧(e.kind=2→u.kind=1∧t.kind=1)∧(e.kind=3→u.kind=e.list∧t.kind=e.list)∧(e.kind=0→u=t):=by
 rw [Z41,Z2z] at h
 refine ⟨fun hk=> ?_,fun hk=> ?_,fun hk=> ?_,fun hk=> ?_⟩
 ·rw [if_neg (by omega),if_pos hk] at h
  split at h
  ·exact (Option.some.inj h).symm
  ·cases h
 ·rw [if_neg (by omega),if_neg (by omega),if_pos hk] at h
  split at h
  ·rename_i ht
   obtain ⟨a,ha,h⟩:=Option.bind_eq_some_iff.1 h
   obtain ⟨b,hb,rfl⟩:=Option.map_eq_some_iff.1 h
   exact ⟨rfl,ht⟩
  ·cases h
 ·rw [if_neg (by omega),if_neg (by omega),if_neg (by omega),if_pos hk] at h
  split at h
  ·rename_i ht
   obtain ⟨b,hb,rfl⟩:=Option.map_eq_some_iff.1 h
   exact ⟨rfl,ht⟩
  ·cases h
 ·rw [if_pos hk] at h
  exact (Option.some.inj h).symm
theorem Z4x:∀ (n:Nat) (e:Edit) (d:Int) (t u:Tree),Z5 e≤n→Za e d=true→Zl t (-1)=true→doE false e t=some u→Zl u (-1)=true∧(e.kind≠0→u.kind≠10):=by
 intro n
 induction n with
 | zero=> intro e d t u hm;obtain ⟨k,o,nw,w,ks,l,os⟩:=e;simp only [Z5] at hm;omega
 | succ n ih=>
  intro e d t u hm hr ht h
  have R:=Zn hr
  obtain ⟨k1,k2,k3,k0⟩:=Zal hr h
  have hk:=R.kind
  by_cases h0:e.kind=0
  ·rw [k0 h0];exact ⟨ht,fun q=> absurd h0 q⟩
  by_cases h1:e.kind=1
  ·rw [k1 h1]
   obtain ⟨r1,r2,r3,r4⟩:=R.rep h1
   exact ⟨JM _ _ _ (by decide) r2,fun _=> r4⟩
  by_cases h2:e.kind=2
  ·obtain ⟨u1,t1⟩:=k2 h2
   refine ⟨?_,fun _=> by omega⟩
   rw [Z41,Z2z,if_neg h0,if_neg h1,if_pos h2,if_pos t1] at h
   obtain ⟨a,ha,h⟩:=Option.bind_eq_some_iff.1 h
   obtain ⟨b,hb,rfl⟩:=Option.map_eq_some_iff.1 h
   obtain ⟨p1,_,p3⟩:=Z5T ht (by omega) (by omega)
   have p1:=p1 t1
   rw [t1] at p3
   have hl:=Zgs R.words ha
   have ha':=Zp R.kids
   obtain ⟨m1,m2⟩:=Zjz hb fun k hk=> (ha' k hk).1.2.1
   refine ZgD (by omega) (by omega) fun y hy=> ?_
   rcases m2 y hy with h | rfl | ⟨k,hk,h⟩
   ·exact p3 y h
   ·exact ⟨rfl,rfl⟩
   ·have hx:Zl (t.kids.getD k.at_.toNat Tree.nil) (-1)=true:=by
     by_cases hi:k.at_.toNat < t.kids.length
     ·rw [List.getD_eq_getElem?_getD,List.getElem?_eq_getElem hi]
      exact (p3 _ (List.getElem_mem hi)).2
     ·rw [List.getD_eq_getElem?_getD,List.getElem?_eq_none (by omega)];try rfl
    obtain ⟨g1,g2⟩:=ih k.e _ _ y (by have:=Y9 hk;omega) (ha' k hk).2 hx h
    exact ⟨ZyP (g2 (ha' k hk).1.2.2),g1⟩
  ·have h3:e.kind=3:=by omega
   obtain ⟨u1,t1⟩:=k3 h3
   have hli:=R.list h3
   refine ⟨?_,fun _=> by omega⟩
   rw [Z41,Z2z,if_neg h0,if_neg h1,if_neg h2,if_pos h3,if_pos t1] at h
   obtain ⟨b,hb,rfl⟩:=Option.map_eq_some_iff.1 h
   have ho:∀ o∈e.ops,Zc e.list o (d - 1)=true:=fun o h=> rightOs_mem R.ops h
   have hrun:=(ZvC (fun o h=> Zp9 (ho o h))).1 hb
   obtain ⟨_,q2⟩:=Zux hrun (Z8u R.ops)
   obtain ⟨q3,q4⟩:=Z0l e.ops 0 (fun o h=> YY (Z8u R.ops o h)) (by decide) (by decide)
   have q5:=R.len.2
   obtain ⟨_,_,p3⟩:=Z5T ht (by omega) (by omega)
   rw [t1] at p3
   refine ZdA hli (by omega) fun y hy=> ?_
   rcases Zuw hrun y hy with h | ⟨o,hoo,hk2,hyl⟩ | ⟨o,hoo,hk3,x,hx,h⟩
   ·exact p3 y h
   ·have:=Y7 (ho o hoo)
    cases this with
    | come l h1 h2=> exact Z0i hli h1 y hyl
    | keep | gone | into=> exact absurd hk2 (by simp)
   ·have:=Y7 (ho o hoo)
    cases this with
    | into e' g1 g2 g3 g4=>
     obtain ⟨f1,f2⟩:=ih e' _ x y (by have:=Z01 hoo;dsimp only at this;omega) g1 (p3 x hx).2 h
     refine ⟨?_,f1⟩
     obtain ⟨j1,j2,_,_⟩:=Zal g1 h
     unfold Z2o
     rw [if_neg (by omega)]
     by_cases hl9:e.list=9
     ·rw [if_pos hl9]
      refine decide_eq_true ?_
      rcases g4 with q | q | q
      ·omega
      ·exact (j2 q).1
      ·rw [j1 q.1];exact q.2.2
     ·rw [if_neg hl9]
      exact decide_eq_true (f2 g2)
    | keep | gone | come=> exact absurd hk3 (by simp)
end Go.AM.Ytpjenobkibfpcaa
namespace Go.AM
def Z1d(m:Nat):Nat→Nat
 | 0=> 0
 | i+1=> Z1d m i+if m / 2 ^ i % 2=1 then 255*2 ^ (8*i) else 0
def ZeY:Nat→Nat→Nat
 | 0,_=> 0
 | k+1,m=> (if m % 2=1 then 255 else 0)+256*ZeY k (m / 2)
def ZbR:Nat→Nat→Nat→Nat
 | 0,_,_=> 0
 | k+1,a,m=> (if m % 2=1 then a % 256 else 0)+256*ZbR k (a / 256) (m / 2)
def Zj8:Nat→Nat→Nat→Nat→Nat
 | 0,_,_,_=> 0
 | k+1,a,b,m=> (if m % 2=1 then b % 256 else a % 256)+256*Zj8 k (a / 256) (b / 256) (m / 2)
theorem Zpv(x y u v:Nat)(hu:u < 256)(hv:v < 256):(u+256*x) &&& (v+256*y)=(u &&& v)+256*(x &&& y):=by
 have h:u &&& v < 256:=Nat.and_lt_two_pow (n:=8) u hv
 apply Nat.eq_of_testBit_eq
 intro j
 rw [Nat.add_comm u,Nat.add_comm v,Nat.add_comm (u &&& v),Nat.testBit_and]
 rw [show (256:Nat)=2 ^ 8 from rfl,Nat.testBit_two_pow_mul_add _ hu,Nat.testBit_two_pow_mul_add _ hv,Nat.testBit_two_pow_mul_add _ h]
 split <;> rw [Nat.testBit_and]
theorem ZrG(x y u v:Nat)(hu:u < 256)(hv:v < 256):(u+256*x) ||| (v+256*y)=(u ||| v)+256*(x ||| y):=by
 have h:u ||| v < 256:=Nat.or_lt_two_pow (n:=8) hu hv
 apply Nat.eq_of_testBit_eq
 intro j
 rw [Nat.add_comm u,Nat.add_comm v,Nat.add_comm (u ||| v),Nat.testBit_or]
 rw [show (256:Nat)=2 ^ 8 from rfl,Nat.testBit_two_pow_mul_add _ hu,Nat.testBit_two_pow_mul_add _ hv,Nat.testBit_two_pow_mul_add _ h]
 split <;> rw [Nat.testBit_or]
theorem ZeU:∀ (k a m:Nat),a &&& ZeY k m=ZbR k a m
 | 0,a,m=> by simp [ZeY,ZbR]
 | k+1,a,m=> by
  have e:a=a % 256+256*(a / 256):=by omega
  simp only [ZeY,ZbR]
  rw [←ZeU k (a / 256) (m / 2)]
  have h:a &&& ((if m % 2=1 then 255 else 0)+256*ZeY k (m / 2))=(a % 256+256*(a / 256)) &&& ((if m % 2=1 then 255 else 0)+256*ZeY k (m / 2)):=by rw [←e]
  rw [h,Zpv _ _ _ _ (by omega) (by split <;> omega)]
  congr 1
  split
  ·have:=Nat.and_two_pow_sub_one_eq_mod (a % 256) 8
   simp only [show (2:Nat) ^ 8 - 1=255 from rfl,show (2:Nat) ^ 8=256 from rfl,Nat.mod_mod] at this
   exact this
  ·simp
theorem Zms:∀ (k a b m n:Nat),(∀ i < k,m / 2 ^ i % 2+n / 2 ^ i % 2=1)→ZbR k a n ||| ZbR k b m=Zj8 k a b m
 | 0,a,b,m,n,_=> by simp [ZbR,Zj8]
 | k+1,a,b,m,n,h=> by
  simp only [ZbR,Zj8]
  have h0:=h 0 (by omega)
  simp only [Nat.pow_zero,Nat.div_one] at h0
  rw [ZrG _ _ _ _ (by split <;> omega) (by split <;> omega),Zms k (a / 256) (b / 256) (m / 2) (n / 2) (fun i hi=> by
   have:=h (i+1) (by omega)
   rw [Nat.div_div_eq_div_mul,Nat.div_div_eq_div_mul]
   rw [Nat.pow_succ,Nat.mul_comm] at this
   exact this)]
  congr 1
  by_cases hm:m % 2=1
  ·rw [if_pos hm,if_pos hm,if_neg (by omega)];simp
  ·rw [if_neg hm,if_neg hm,if_pos (by omega)];simp
theorem Zly:∀ m:Fin 256,Z1d m.1 8=ZeY 8 m.1:=by decide+kernel
theorem ZpL:∀ m:Fin 256,2 ^ 64 - 1 - ZeY 8 m.1=ZeY 8 (255 - m.1):=by decide+kernel
theorem Zt6:∀ m:Fin 256,∀ i:Fin 8,m.1 / 2 ^ i.1 % 2+(255 - m.1) / 2 ^ i.1 % 2=1:=by decide+kernel
theorem ZtO:∀ m:Fin 256,ZeY 8 m.1 < 2 ^ 64:=by decide+kernel
theorem ZrS(a b m:Nat)(hm:m < 256):(a &&& (2 ^ 64 - 1 - Z1d m 8)) ||| (b &&& Z1d m 8)=Zj8 8 a b m:=by
 have h1:=Zly ⟨m,hm⟩
 have h2:=ZpL ⟨m,hm⟩
 simp only at h1 h2
 rw [h1,h2,ZeU,ZeU]
 exact Zms 8 a b m (255 - m) (fun i hi=> Zt6 ⟨m,hm⟩ ⟨i,hi⟩)
def ofK:Nat→(Nat→Nat)→Nat
 | 0,_=> 0
 | k+1,f=> f 0+256*ofK k (fun i=> f (i+1))
theorem ZfO:∀ (k:Nat) {f g:Nat→Nat},(∀ i,f i=g i)→ofK k f=ofK k g
 | 0,_,_,_=> rfl
 | k+1,f,g,h=> by simp only [ofK,h 0,ZfO k (fun i=> h (i+1))]
theorem Zmx:∀ (k a b m:Nat),Zj8 k a b m=ofK k (fun i=> if m / 2 ^ i % 2=1 then b / 256 ^ i % 256 else a / 256 ^ i % 256)
 | 0,_,_,_=> rfl
 | k+1,a,b,m=> by
  simp only [Zj8,ofK,Nat.pow_zero,Nat.div_one]
  rw [Zmx k,ZfO k (g:=fun i=> if m / 2 ^ (i+1) % 2=1 then b / 256 ^ (i+1) % 256 else a / 256 ^ (i+1) % 256) (fun i=> ?_)]
  rw [Nat.div_div_eq_div_mul,Nat.div_div_eq_div_mul,Nat.div_div_eq_div_mul,Nat.pow_succ',Nat.pow_succ']
theorem ZrT(a b m:Nat):((Zj8 8 a b m:Nat):Int)=mix a b m:=by
 have nm:∀ i:Nat,Zx (m:Int) (i:Int)=decide (m / 2 ^ i % 2=1):=by
  intro i
  unfold Zx
  rw [decide_eq_decide,Int.toNat_natCast]
  have:((m:Int) / 2 ^ i % 2:Int)=((m / 2 ^ i % 2:Nat):Int):=by rw [Int.natCast_emod,Int.natCast_ediv,Int.natCast_pow];try rfl
  rw [this];omega
 have by_:∀ (x i:Nat),Z0 (x:Int) i=((x / 256 ^ i % 256:Nat):Int):=by
  intro x i
  unfold Z0
  rw [Int.natCast_emod,Int.natCast_ediv,Int.natCast_pow]
  try rfl
 have mx:∀ i:Nat,J0 (a:Int) (b:Int) (m:Int) i=((if m / 2 ^ i % 2=1 then b / 256 ^ i % 256 else a / 256 ^ i % 256:Nat):Int):=by
  intro i
  unfold J0
  rw [nm,by_,by_]
  by_cases h:m / 2 ^ i % 2=1
  ·rw [decide_eq_true h,if_pos rfl,if_pos h]
  ·rw [decide_eq_false h,if_neg Bool.false_ne_true,if_neg h]
 rw [Zmx]
 generalize hf:(fun i=> if m / 2 ^ i % 2=1 then b / 256 ^ i % 256 else a / 256 ^ i % 256)=f
 have hx:∀ i,J0 (a:Int) (b:Int) (m:Int) i=(f i:Int):=by intro i;rw [mx,←hf]
 have e:ofK 8 f=f 0+256*(f 1+256*(f 2+256*(f 3+256*(f 4+256*(f 5+256*(f 6+256*(f 7+256*0))))))):=rfl
 rw [e]
 simp only [mix,of8,hx]
 omega
end Go.AM
namespace Go.AM
def Zpw(a b:Int):Int:=IntKind.wrap .u8 (BitVec.ofInt (IntKind.bits .u8) a &&& BitVec.ofInt (IntKind.bits .u8) b).toNat
def orM(a b:Int):Int:=IntKind.wrap .u8 (BitVec.ofInt (IntKind.bits .u8) a ||| BitVec.ofInt (IntKind.bits .u8) b).toNat
def Z6D(p q:WEdit):Bool:=decide (mix 0 p.new (Zpw p.mask q.mask)=mix 0 q.old (Zpw p.mask q.mask))
def J5(p q:WEdit):WEdit × Bool:=
 if Z6D p q then (⟨p.at_,orM p.mask q.mask,mix q.old p.old p.mask,mix p.new q.new q.mask⟩,true) else (⟨0,0,0,0⟩,false)
def Zd{α:Type}(at_:α→Int)(one:α→α→α × Bool):List α→List α→Option (List α)
 | [],q=> some q
 | a ::p,[]=> some (a ::p)
 | a ::p,b ::q=>
  if at_ a < at_ b then (Zd at_ one p (b ::q)).map (a ::·)
  else if at_ b < at_ a then (Zd at_ one (a ::p) q).map (b ::·)
  else if (one a b).2 then (Zd at_ one p q).map ((one a b).1 ::·) else none
termination_by p q=> p.length+q.length
def ofO{α:Type}(o:Option (List α)):List α:=o.getD []
structure PRes where
 op:Op
 is:Bool
 ok:Bool
noncomputable def doB(e:Edit)(t:Tree):Tree × Bool:=(YG ((doE false e t).map Z4),(doE false e t).isSome)
noncomputable def Zl9(a b:List Tree):Bool:=eqX (Z8 a) (Z8 b)
noncomputable def ZF(f:Edit→Edit→Edit × Bool)(x:Piece):PRes:=
 if x.of=1∨(x.of=0∧x.q.kind=0) then ⟨x.p,true,true⟩
 else if x.of=2∨x.p.kind=0 then ⟨x.q,true,true⟩
 else if x.p.kind=2∧x.q.kind=1 then ⟨Op.nil,false,Zl9 x.p.l (x.q.l.take x.p.l.length)⟩
 else if x.p.kind=2 then ⟨⟨2,0,[(doB x.q.e (x.p.l.getD 0 Tree.nil)).1],Edit.nil⟩,true,(doB x.q.e (x.p.l.getD 0 Tree.nil)).2⟩
 else if x.q.kind=1 then ⟨⟨1,0,[(doB (Zy (Zv x.p.e)) (x.q.l.getD 0 Tree.nil)).1],Edit.nil⟩,true,(doB (Zy (Zv x.p.e)) (x.q.l.getD 0 Tree.nil)).2⟩
 else ⟨⟨3,0,[],(f x.p.e x.q.e).1⟩,true,(f x.p.e x.q.e).2⟩
noncomputable def Jk(f:Edit→Edit→Edit × Bool):List Piece→Option (List Op)
 | []=> some []
 | x ::r=> if (ZF f x).ok then (Jk f r).map ((if (ZF f x).is then [(ZF f x).op] else [])++·) else none
noncomputable def Z04(f:Edit→Edit→Edit × Bool)(p q:List Op):Option (List Op):=
 if (ZP 1 2 p q []).2.1 then Jk f (ZP 1 2 p q []).1 else none
def Jv(f:Edit→Edit→Edit × Bool)(a b:Kid):Kid × Bool:=(⟨a.at_,(f a.e b.e).1⟩,(f a.e b.e).2)
noncomputable def Jn(f:Edit→Edit→Edit × Bool)(p q:Edit):Edit × Bool:=
 if p.kind=0 then (q,true)
 else if q.kind=0 then (p,true)
 else if p.kind=1 then (.mk 1 p.old (doB q p.new).1 [] [] 0 [],(doB q p.new).2)
 else if q.kind=1 then (.mk 1 (doB (Zy (Zv p)) q.old).1 q.new [] [] 0 [],(doB (Zy (Zv p)) q.old).2)
 else if p.kind≠q.kind∨p.list≠q.list then (Edit.nil,false)
 else if p.kind=2 then
  if (Zd WEdit.at_ J5 p.words q.words).isSome then
   (.mk 2 Tree.nil Tree.nil (ofO (Zd WEdit.at_ J5 p.words q.words)) (ofO (Zd KidOf.at_ (Jv f) p.kids q.kids)) 0 [],(Zd KidOf.at_ (Jv f) p.kids q.kids).isSome)
  else (Edit.nil,false)
 else (.mk 3 Tree.nil Tree.nil [] [] p.list (ofO (Z04 f p.ops q.ops)),(Z04 f p.ops q.ops).isSome)
noncomputable def Z8G:Nat→Edit→Edit→Edit × Bool
 | 0,_,_=> (Edit.nil,false)
 | n+1,p,q=> Jn (Z8G n) p q
noncomputable def Yh(p q:Edit):Edit × Bool:=Z8G (Z5 p+Z5 q) p q
def Z0V(l:List WEdit)(at_:Int):Option WEdit:=l.find? (fun w=> decide (w.at_=at_))
def Ju(l:List Kid)(at_:Int):Edit:=((l.find? (fun k=> decide (k.at_=at_))).map KidOf.e).getD Edit.nil
def Yd:List Int→List Int→List Int
 | [],b=> b
 | a ::p,[]=> a ::p
 | a ::p,b ::q=> if a < b then a ::Yd p (b ::q) else if b < a then b ::Yd (a ::p) q else a ::Yd p q
termination_by p q=> p.length+q.length
def Jq(p q:List WEdit):List Int→Option (List WEdit)
 | []=> some []
 | n ::r=> match Z0V p n,Z0V q n with
  | some x,none=> (Jq p q r).map (x ::·)
  | none,some y=> (Jq p q r).map (y ::·)
  | some x,some y=> if (J5 x y).2 then (Jq p q r).map ((J5 x y).1 ::·) else none
  | none,none=> (Jq p q r).map ((⟨0,0,0,0⟩:WEdit) ::·)
noncomputable def Je(f:Edit→Edit→Edit × Bool)(p q:List Kid):List Int→Option (List Kid)
 | []=> some []
 | n ::r=> if (f (Ju p n) (Ju q n)).2 then (Je f p q r).map (⟨n,(f (Ju p n) (Ju q n)).1⟩ ::·) else none
noncomputable def JJ(f:Edit→Edit→Edit × Bool)(p q:AUnit):List Op × Bool:=
 if q.kind=0 then ([opU p],true)
 else if p.kind=0 then ([opU q],true)
 else if p.kind=2∧q.kind=1 then ([],YF (Z4 p.t) (Z4 q.t))
 else if p.kind=2 then ([⟨2,0,[YG (doE true q.e p.t)],Edit.nil⟩],(doE true q.e p.t).isSome)
 else if q.kind=1 then ([⟨1,0,[YG (doE true (Zy (Zv p.e)) q.t)],Edit.nil⟩],(doE true (Zy (Zv p.e)) q.t).isSome)
 else ([⟨3,0,[],(f p.e q.e).1⟩],(f p.e q.e).2)
noncomputable def Yb(f:Edit→Edit→Edit × Bool):List APair→Option (List Op)
 | []=> some []
 | x ::r=>
  if x.of=1 then (Yb f r).map (opU x.p ::·)
  else if x.of=2 then (Yb f r).map (opU x.q ::·)
  else if (JJ f x.p x.q).2 then (Yb f r).map ((JJ f x.p x.q).1++·) else none
noncomputable def Z3z(f:Edit→Edit→Edit × Bool)(p q:List Op):Option (List Op):=
 if (ZX (ZE 0 1 p) (ZE 0 2 q) []).2 then Yb f (ZX (ZE 0 1 p) (ZE 0 2 q) []).1 else none
noncomputable def YV(f:Edit→Edit→Edit × Bool)(p q:Edit):Edit × Bool:=
 if p.kind=0 then (q,true)
 else if q.kind=0 then (p,true)
 else if p.kind=1 then (.mk 1 p.old (YG (doE true q p.new)) [] [] 0 [],(doE true q p.new).isSome)
 else if q.kind=1 then (.mk 1 (YG (doE true (Zy (Zv p)) q.old)) q.new [] [] 0 [],(doE true (Zy (Zv p)) q.old).isSome)
 else if p.kind≠q.kind then (Edit.nil,false)
 else if p.kind=2 then
  match Jq p.words q.words (Yd (p.words.map WEdit.at_) (q.words.map WEdit.at_)),Je f p.kids q.kids (Yd (p.kids.map KidOf.at_) (q.kids.map KidOf.at_)) with
  | some w,some k=> (.mk 2 Tree.nil Tree.nil w k 0 [],true)
  | _,_=> (Edit.nil,false)
 else if p.list≠q.list then (Edit.nil,false)
 else match Z3z f p.ops q.ops with
  | some l=> (.mk 3 Tree.nil Tree.nil [] [] p.list l,true)
  | none=> (Edit.nil,false)
noncomputable def JX:Nat→Edit→Edit→Edit × Bool
 | 0,_,_=> (Edit.nil,false)
 | n+1,p,q=> YV (JX n) p q
noncomputable def J2(p q:Edit):Edit × Bool:=JX (Z5 p+Z5 q) p q
def JK(e:Edit):Prop:=ctE e≤9000000000∧YT e∧∃ d,Za e d=true
def ZsI(k:Kid):Prop:=Z4B k≤9000000000∧Z1j k∧∃ d,Za k.e d=true
def Zcs(l:List Kid):Prop:=Z0n l≤9000000000∧Z11 l∧∀ k∈l,∃ d,Za k.e d=true
def Zoy(l:List Op):Prop:=J4 l≤9000000000∧Z0j l∧∀ o∈l,∃ list d,Zc list o d=true
def ZqL(o:Op):Prop:=ZN o∧Z3p o≤9000000000∧YH o∧(o.kind=3→∃ d,Za o.e d=true)
structure PcOk (x:Piece):Prop where
 of:x.of=0∨x.of=1∨x.of=2
 pp:x.of≠2→ZqL x.p
 qq:x.of≠1→ZqL x.q
 both:x.of=0→x.p.kind≠1∧x.q.kind≠2∧Z2 x.p=Z2 x.q
end Go.AM
