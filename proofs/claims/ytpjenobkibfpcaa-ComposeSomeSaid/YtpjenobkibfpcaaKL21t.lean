import Derived.Test.YtpjenobkibfpcaaKP20
import Derived.Test.YtpjenobkibfpcaaKE07
set_option linter.unusedSimpArgs false
set_option linter.unusedVariables false
namespace Go.AM.Ytpjenobkibfpcaa
open Go.AM Go.Proofs
theorem JD{α:Type}(z:α)(l:List α)(i:Nat)(x:α):(ZV z l i x).length=max l.length (i+1):=by
 simp only [ZV,List.length_set,List.length_append,List.length_replicate];omega
theorem Yu{α:Type}(z:α)(l:List α)(i:Nat)(x:α)(j:Nat):(ZV z l i x).getD j z=if j=i then x else l.getD j z:=by
 simp only [ZV,List.getD_eq_getElem?_getD,List.getElem?_set,List.length_append,List.length_replicate]
 by_cases h:j=i
 ·subst h;rw [if_pos rfl,if_pos rfl,if_pos (by omega)];try rfl
 ·rw [if_neg (fun e=> h e.symm),if_neg h]
  by_cases hl:j < l.length
  ·rw [List.getElem?_append_left hl]
  ·rw [List.getElem?_append_right (by omega),List.getElem?_eq_none (l:=l) (by omega),List.getElem?_replicate]
   split <;> rfl
theorem Ziq{α β:Type}(f:α→β)(z:α)(l:List α)(i:Nat)(x:α):(ZV z l i x).map f=ZV (f z) (l.map f) i (f x):=by
 simp [ZV,List.map_set]
theorem Z3W:∀ l:List Tree,Yl l=Z5 l
 | []=> rfl
 | t ::r=> by simp [Yl,Z5,Z3W r]
theorem ZcF(l:List Tree)(i:Nat)(x:Tree):Z5 (ZV Tree.nil l i x)=ZV Tree.nil (Z5 l) i (Z7 x):=by
 rw [Z5,Ziq,Zef];try rfl
theorem ZmM{a b:List Tree}{i:Nat}{x y:Tree}(h:Z5 a=Z5 b)(hx:Z7 x=Z7 y):Z5 (ZV Tree.nil a i x)=Z5 (ZV Tree.nil b i y):=by
 rw [ZcF,ZcF,h,hx]
theorem Z13{a b c d:List Tree}(h:Z5 a=Z5 b)(hx:Z5 c=Z5 d):Z5 (a++c)=Z5 (b++d):=by
 rw [Ye,Ye,h,hx]
theorem Z5D(k:Int)(w:List Int){a b:List Tree}(h:Z5 a=Z5 b):Z7 (.mk k w a)=Z7 (.mk k w b):=by
 simp only [Z7,Z3W,h]
theorem Z29{a b:List Tree}(h:Z5 a=Z5 b):a.length=b.length:=by
 have:=congrArg List.length h
 simpa [Z5] using this
theorem JF{a b:Tree}:Z5 [a]=Z5 [b]↔Z7 a=Z7 b:=by simp [Z5]
def OptR{α β:Type}(R:α→β→Prop):Option α→Option β→Prop
 | none,none=> True
 | some a,some b=> R a b
 | _,_=> False
theorem OptR.rfl'{α:Type}(a:Option α):OptR Eq a a:=by cases a;exact trivial;exact rfl
theorem OptR.bind{α β γ δ:Type}{R:α→β→Prop}{S:γ→δ→Prop}{a:Option α}{b:Option β}{f:α→Option γ}{g:β→Option δ}(h:OptR R a b)(hf:∀ x y,R x y→OptR S (f x) (g y)):OptR S (a.bind f) (b.bind g):=by
 cases a <;> cases b <;> first | exact trivial | exact h.elim | exact hf _ _ h
theorem OptR.map{α β γ δ:Type}{R:α→β→Prop}{S:γ→δ→Prop}{a:Option α}{b:Option β}{f:α→γ}{g:β→δ}(h:OptR R a b)(hf:∀ x y,R x y→S (f x) (g y)):OptR S (a.map f) (b.map g):=by
 cases a <;> cases b <;> first | exact trivial | exact h.elim | exact hf _ _ h
theorem OptR.ite{α β:Type}{R:α→β→Prop}{p q:Prop} [Decidable p] [Decidable q] {a c:Option α}{b d:Option β}(h:p↔q)(h1:p→OptR R a b)(h2:¬p→OptR R c d):OptR R (if p then a else c) (if q then b else d):=by
 by_cases hp:p
 ·rw [if_pos hp,if_pos (h.1 hp)];exact h1 hp
 ·rw [if_neg hp,if_neg (fun hq=> hp (h.2 hq))];exact h2 hp
def Eqv(x y:Tree):Prop:=Z7 x=Z7 y
def EqvL(x y:List Tree):Prop:=Z5 x=Z5 y
theorem EqvL.take{x y:List Tree}(h:EqvL x y)(n:Nat):EqvL (x.take n) (y.take n):=by unfold EqvL Z5 at*;rw [List.map_take,List.map_take,h]
theorem EqvL.drop{x y:List Tree}(h:EqvL x y)(n:Nat):EqvL (x.drop n) (y.drop n):=by unfold EqvL Z5 at*;rw [List.map_drop,List.map_drop,h]
theorem EqvL.len{x y:List Tree}(h:EqvL x y):x.length=y.length:=Z29 h
theorem ZcE(l:List Tree)(i:Nat):(Z5 l).getD i Tree.nil=Z7 (l.getD i Tree.nil):=by rw [←Z3W];exact Z0q l i
theorem EqvL.get{x y:List Tree}(h:EqvL x y)(i:Nat):Eqv (x.getD i Tree.nil) (y.getD i Tree.nil):=by
 unfold Eqv;rw [←ZcE,←ZcE,h]
theorem ZhU{a b:Option (List Tree × List Tree)}(h:OptR (fun x y=> EqvL x.1 y.1∧EqvL x.2 y.2) a b):OptR EqvL (Z19 a) (Z19 b):=by
 unfold Z19
 refine h.bind fun x y hxy=> ?_
 exact OptR.ite (by rw [hxy.2.len]) (fun _=> hxy.1) (fun _=> trivial)
def ZnF(a b:List Int):Prop:=∀ i:Nat,a.getD i 0=b.getD i 0
def ZjI(a b:List Tree):Prop:=∀ i:Nat,Eqv (a.getD i Tree.nil) (b.getD i Tree.nil)
theorem Z2U{a b:Tree}(ha:a.kind=1)(hb:b.kind=1):Eqv a b↔ZnF a.words b.words∧ZjI a.kids b.kids:=by
 unfold Eqv ZnF ZjI
 rw [YP,ha,hb]
 simp [Eqv]
theorem ZhR{a b:Tree}(h0:a.kind≠0)(h1:a.kind≠1):Eqv a b↔a.kind=b.kind∧a.words=b.words∧EqvL a.kids b.kids:=by
 unfold Eqv EqvL
 rw [YP,if_neg h1,←Z3W,←Z3W,Z8f]
 simp [h0,and_assoc]
theorem Eqv.kind{a b:Tree}(h:Eqv a b):a.kind=b.kind:=((YP a b).1 h).1
theorem ZjJ{tw tv:List Int}(h:ZnF tw tv):∀ (ws:List WEdit) (a b:List Int),ZnF a b→OptR ZnF (wsD tw ws a) (wsD tv ws b)
 | [],_,_,hab=> hab
 | w ::r,a,b,hab=> by
  rw [wsD,wsD,h w.at_.toNat]
  refine OptR.ite Iff.rfl (fun _=> ZjJ h r _ _ fun i=> ?_) (fun _=> trivial)
  rw [Yu,Yu]
  split
  ·try rfl
  ·exact hab i
theorem Zna(l:List Tree){a b:List Tree}(h:EqvL a b):JA l a=JA l b:=by
 unfold JA
 rw [h.len,show Z5 (a.take l.length)=Z5 (b.take l.length) from h.take _]
mutual
theorem Z92:∀ (e:Edit) (d:Int) (t s:Tree),Z0 e d=true→Eqv t s→OptR Eqv (doE false e t) (doE false e s)
 | .mk k o n w ks l os,d,t,s,hr,h=> by
  have h1:=ZhW ks t.kids s.kids
  have h2:=Zd3 os t.kids s.kids [] []
  have hk:=h.kind
  have hrt:=ZiA hr
  rw [Z0R,Z0R,Yp,Yp]
  show OptR Eqv (if k=0 then _ else _) (if k=0 then _ else _)
  refine OptR.ite Iff.rfl (fun _=> h) fun _=> OptR.ite Iff.rfl (fun _=> ?_) fun _=> OptR.ite Iff.rfl (fun k2=> ?_) fun _=> OptR.ite Iff.rfl (fun k3=> ?_) (fun _=> trivial)
  ·rw [show Z7 t=Z7 s from h]
   exact OptR.ite Iff.rfl (fun _=> rfl) (fun _=> trivial)
  ·refine OptR.ite (by rw [hk]) (fun ht=> ?_) (fun _=> trivial)
   have hs:s.kind=1:=by rw [←hk];exact ht
   obtain ⟨hw,hks⟩:=(Z2U ht hs).1 h
   refine (ZjJ hw w t.words s.words hw).bind fun a b hab=> ?_
   refine (h1 hks hrt.1 t.kids s.kids hks).map fun x y hxy=> ?_
   exact (Z2U rfl rfl).2 ⟨hab,hxy⟩
  ·refine OptR.ite (by rw [hk]) (fun ht=> ?_) (fun _=> trivial)
   have hl:=hrt.2.2
   have hos:=hrt.2.1
   replace ht:t.kind=l:=ht
   replace hl:2≤l∧l≤9:=hl k3
   obtain ⟨_,_,hks⟩:=(ZhR (by omega) (by omega)).1 h
   exact (ZhU (h2 hks rfl hos)).map fun x y hxy=> Z5D _ _ hxy
theorem ZhW:∀ (ks:List (KidOf Edit)) (tk sk:List Tree),ZjI tk sk→(∀ k∈ks,∃ d,Z0 k.e d=true)→∀ a b,ZjI a b→OptR ZjI (Jf false tk ks a) (Jf false sk ks b)
 | [],_,_,_,_,_,_,hab=> hab
 | k ::r,tk,sk,h,hr,a,b,hab=> by
  rw [Jf,Jf]
  obtain ⟨d,hd⟩:=hr k List.mem_cons_self
  refine (Znj k d tk sk h hd).bind fun x y hxy=> ZhW r tk sk h (fun q hq=> hr q (List.mem_cons_of_mem _ hq)) _ _ fun i=> ?_
  rw [Yu,Yu]
  split
  ·exact hxy
  ·exact hab i
theorem Znj:∀ (k:KidOf Edit) (d:Int) (tk sk:List Tree),ZjI tk sk→Z0 k.e d=true→OptR Eqv (Z1A false tk k) (Z1A false sk k)
 | ⟨a,e⟩,d,tk,sk,h,hr=> by rw [Z1A,Z1A];exact Z92 e d _ _ hr (h _)
theorem Zd3:∀ (os:List (OpOf Edit)) (rt rs a b:List Tree),EqvL rt rs→EqvL a b→(∀ o∈os,∃ l d,Za l o d=true)→OptR (fun x y=> EqvL x.1 y.1∧EqvL x.2 y.2) (ZE false os rt a) (ZE false os rs b)
 | [],_,_,_,_,h,hab,_=> ⟨hab,h⟩
 | o ::r,rt,rs,a,b,h,hab,hr=> by
  rw [ZE,ZE]
  refine (ZqE o rt rs a b h hab (hr o List.mem_cons_self)).bind fun x y hxy=> Zd3 r _ _ _ _ hxy.2 hxy.1 (fun q hq=> hr q (List.mem_cons_of_mem _ hq))
theorem ZqE:∀ (o:OpOf Edit) (rt rs a b:List Tree),EqvL rt rs→EqvL a b→(∃ l d,Za l o d=true)→OptR (fun x y=> EqvL x.1 y.1∧EqvL x.2 y.2) (Z1z false o rt a) (Z1z false o rs b)
 | ⟨k,n,l,e⟩,rt,rs,a,b,h,hab,hr=> by
  obtain ⟨li,d,hr⟩:=hr
  have he:=fun h3=> Z92 e d (rt.getD 0 Tree.nil) (rs.getD 0 Tree.nil) (YE hr h3) (h.get 0)
  have hlen:=h.len
  rw [Z1z,Z1z]
  refine OptR.ite Iff.rfl (fun _=> OptR.ite (by rw [hlen]) (fun _=> ⟨Z13 hab (h.take _),h.drop _⟩) (fun _=> trivial)) fun k0=> OptR.ite Iff.rfl (fun _=> ?_) fun k1=> OptR.ite Iff.rfl (fun _=> ⟨Z13 hab rfl,h⟩) fun k2=> OptR.ite (by rw [hlen]) (fun _=> trivial) fun _=> ?_
  ·rw [Zna l h]
   exact OptR.ite Iff.rfl (fun _=> ⟨hab,h.drop _⟩) (fun _=> trivial)
  ·have h03:k=0∨k=1∨k=2∨k=3:=by
    have r:=ZC hr
    generalize ho:OpOf.mk k n l e=o at r
    cases r <;> (injection ho with h1;subst h1;decide)
   exact (he (by show k=3;omega)).map fun x y h'=> ⟨Z13 hab (JF.2 h'),h.drop _⟩
end
end Go.AM.Ytpjenobkibfpcaa
namespace Go.AM.Ytpjenobkibfpcaa
open Go.AM Go.Proofs
theorem Zii(w:WEdit):YG (YG w)=w:=by cases w;rfl
theorem ZmX(l:List WEdit):(l.map YG).map YG=l:=by
 rw [List.map_map]
 have:YG ∘ YG=id:=by funext w;exact Zii w
 rw [this,List.map_id]
theorem Zbr:∀ (ks:List Kid),(Y3 ks).length=ks.length
 | []=> rfl
 | k ::r=> by simp only [Y3,List.length_cons,Zbr r]
end Go.AM.Ytpjenobkibfpcaa
namespace Go.AM.Ytpjenobkibfpcaa
open Go.AM Go.Proofs
theorem Zhy{α β:Type}{f:α→β}(d:α){a b:List α}(hl:a.length=b.length)(h:∀ i:Nat,i < a.length→f (a.getD i d)=f (b.getD i d)):a.map f=b.map f:=by
 apply List.ext_getElem (by simpa using hl)
 intro i h1 h2
 have h1':i < a.length:=by simpa using h1
 have h2':i < b.length:=by simpa using h2
 have:=h i h1'
 simpa [List.getD_eq_getElem?_getD,List.getElem?_eq_getElem h1',List.getElem?_eq_getElem h2'] using this
theorem ZaJ{α β:Type}{f:α→β}{d:α}{a b:List α}(h:a.map f=b.map f)(i:Nat):f (a.getD i d)=f (b.getD i d):=by
 have e:=congrArg (fun l=> l[i]?.getD (f d)) h
 simp only [List.getElem?_map] at e
 rw [List.getD_eq_getElem?_getD,List.getD_eq_getElem?_getD]
 cases h1:a[i]? <;> cases h2:b[i]? <;> simp_all
end Go.AM.Ytpjenobkibfpcaa
namespace Go.AM.Ytpjenobkibfpcaa
open Go.AM Go.Proofs
theorem Z2c(t:Tree):(Z7 t).kind=t.kind:=by
 obtain ⟨k,w,ks⟩:=t
 simp only [Z7]
 by_cases h0:k=0
 ·rw [if_pos h0,h0];try rfl
 ·rw [if_neg h0]
  by_cases h1:k=1
  ·rw [if_pos h1,h1];try rfl
  ·rw [if_neg h1];try rfl
theorem Zbt:∀ (l:List Int),∃ r,l=trim l++r
 | []=> ⟨[],rfl⟩
 | x ::r=> by
  obtain ⟨s,hs⟩:=Zbt r
  simp only [trim]
  split
  ·rename_i e
   split
   ·exact ⟨x ::r,rfl⟩
   ·exact ⟨r,rfl⟩
  ·rename_i y t e
   rw [e] at hs
   exact ⟨s,by rw [hs];rfl⟩
theorem Z99:∀ (l:List Tree),∃ r,l=Yf l++r
 | []=> ⟨[],rfl⟩
 | x ::r=> by
  obtain ⟨s,hs⟩:=Z99 r
  simp only [Yf]
  split
  ·rename_i e
   split
   ·exact ⟨x ::r,rfl⟩
   ·exact ⟨r,rfl⟩
  ·rename_i y t e
   rw [e] at hs
   exact ⟨s,by rw [hs];rfl⟩
theorem Zc9{list d:Int}:∀ (a b:List Tree),Y7 list (a++b) d=true→Y7 list a d=true
 | [],_,_=> rfl
 | t ::r,b,h=> by
  simp only [List.cons_append,Y7,Bool.and_eq_true] at h ⊢
  exact ⟨h.1,Zc9 r b h.2⟩
theorem Z1S:∀ (l:List Tree),(Yl l).length=l.length
 | []=> rfl
 | t ::r=> by simp only [Yl,List.length_cons,Z1S r]
theorem Zn6{list:Int}{t:Tree}(h:Jz list t=true):Jz list (Z7 t)=true:=by
 unfold Jz at h ⊢
 rw [Z2c]
 split at h
 ·rename_i hl
  rw [if_pos hl]
  simp only [Bool.and_eq_true,decide_eq_true_eq] at h ⊢
  obtain ⟨⟨h1,h2,h3⟩,h4⟩:=h
  obtain ⟨k,w,ks⟩:=t
  simp only [Tree.kind_mk,Tree.kids_mk,Tree.words_mk] at h1 h2 h3 h4
  have:ks=[]:=List.length_eq_zero_iff.1 h2
  subst this
  subst h1
  exact ⟨⟨rfl,rfl,h3⟩,h4⟩
 ·rename_i hl
  rw [if_neg hl]
  exact h
mutual
theorem Z3d:∀ (t:Tree) (d:Int),Z9 t d=true→Z9 (Z7 t) d=true
 | .mk k w ks,d,h=> by
  have ih:=fun (list:Int) (h:Y7 list ks (d - 1)=true)=> Z5m ks list (d - 1) h
  simp only [Z9] at h
  simp only [Z7]
  by_cases h0:k=0
  ·rw [if_pos h0];simp [Tree.nil,Z9]
  ·rw [if_neg h0] at h ⊢
   by_cases h10:k=10
   ·subst h10
    rw [if_pos rfl] at h
    rw [if_neg (by decide)]
    simp only [decide_eq_true_eq] at h
    simp only [Z9]
    rw [if_neg (by decide),if_pos trivial,Z1S]
    simpa using h
   ·rw [if_neg h10] at h
    by_cases hd:d=0
    ·rw [if_pos hd] at h;cases h
    ·rw [if_neg hd] at h
     by_cases h1:k=1
     ·subst h1
      rw [if_pos rfl] at h
      rw [if_pos rfl]
      simp only [Bool.and_eq_true,decide_eq_true_eq] at h
      simp only [Z9]
      rw [if_neg (by decide),if_neg (by decide),if_neg hd,if_pos trivial]
      simp only [Bool.and_eq_true,decide_eq_true_eq]
      obtain ⟨r1,e1⟩:=Zbt w
      obtain ⟨r2,e2⟩:=Z99 (Yl ks)
      have l1:=congrArg List.length e1
      have l2:=congrArg List.length e2
      rw [Z1S] at l2
      simp only [List.length_append] at l1 l2
      refine ⟨⟨by omega,by omega⟩,?_⟩
      have:=ih 1 h.2
      rw [e2] at this
      exact Zc9 _ _ this
     ·rw [if_neg h1] at h ⊢
      simp only [Bool.and_eq_true,decide_eq_true_eq] at h
      simp only [Z9]
      rw [if_neg h0,if_neg h10,if_neg hd,if_neg h1,Z1S]
      simp only [Bool.and_eq_true,decide_eq_true_eq]
      exact ⟨h.1,ih k h.2⟩
theorem Z5m:∀ (l:List Tree) (list d:Int),Y7 list l d=true→Y7 list (Yl l) d=true
 | [],_,_,_=> rfl
 | t ::r,list,d,h=> by
  simp only [Y7,Bool.and_eq_true] at h
  have h1:=Z3d t d h.1.2
  have h2:=Z5m r list d h.2
  simp only [Yl,Y7,Bool.and_eq_true]
  exact ⟨⟨Zn6 h.1.1,h1⟩,h2⟩
end
end Go.AM.Ytpjenobkibfpcaa
namespace Go.AM.Ytpjenobkibfpcaa
open Go.AM Go.Proofs
theorem Z0Z(e:Edit):(Zv e).kind=e.kind:=by cases e;rfl
theorem ZdI(e:Edit):(Zv e).old=e.new:=by cases e;rfl
theorem ZdJ(e:Edit):(Zv e).new=e.old:=by cases e;rfl
theorem Z4h:∀ (l:List WEdit) (last:Int),Zk last (l.map YG)=Zk last l
 | [],_=> rfl
 | w ::r,last=> by
  simp only [List.map_cons,Zk,Z4h r]
  have h1:(YG w).at_=w.at_:=rfl
  have h2:(YG w).mask=w.mask:=rfl
  have h3:(YG w).old=w.new:=rfl
  have h4:(YG w).new=w.old:=rfl
  rw [h1,h2,h3,h4,Bool.and_assoc,Bool.and_assoc,Bool.and_assoc,Bool.and_assoc]
  congr 1
  rw [←Bool.and_assoc,←Bool.and_assoc,Bool.and_comm (ZK w.new w.mask)]
theorem Zij(o:Op):Z2 (ZZ o)=Z2 o∧((ZZ o).kind=2↔o.kind=1)∧((ZZ o).kind=1↔o.kind=2):=by
 rw [JC]
 by_cases h1:o.kind=1
 ·rw [if_pos h1];simp [Z2,h1]
 ·rw [if_neg h1]
  by_cases h2:o.kind=2
  ·rw [if_pos h2];simp [Z2,h2]
  ·rw [if_neg h2]
   by_cases h3:o.kind=3
   ·rw [if_pos h3];simp [Z2,h3]
   ·rw [if_neg h3];simp [Z2,h1,h2]
theorem Z8x:∀ (l:List Op) (n:Int),Z0d (Y6 l) n=Z0c l n∧Z0c (Y6 l) n=Z0d l n
 | [],_=> ⟨rfl,rfl⟩
 | o ::r,n=> by
  obtain ⟨h1,h2,h3⟩:=Zij o
  simp only [Y6,Z0d,Z0c]
  rw [h1]
  constructor
  ·rw [(Z8x r _).1]
   congr 2
   by_cases h:o.kind=1
   ·rw [if_pos (h2.2 h),if_pos h]
   ·rw [if_neg (fun x=> h (h2.1 x)),if_neg h]
  ·rw [(Z8x r _).2]
   congr 2
   by_cases h:o.kind=2
   ·rw [if_pos (h3.2 h),if_pos h]
   ·rw [if_neg (fun x=> h (h3.1 x)),if_neg h]
theorem Z6T:∀ (l:List Op),(Y6 l).length=l.length
 | []=> rfl
 | o ::r=> by simp only [Y6,List.length_cons,Z6T r]
theorem Zs6{list d:Int}{o:Op}(h:Za list o d=true)(hi:Z0 o.e d=true→Z0 (Zv o.e) d=true):Za list (ZZ o) d=true:=by
 have h':=h
 rw [Jt] at h
 by_cases k0:o.kind=0
 ·have e:ZZ o=o:=by rw [JC,if_neg (by omega),if_neg (by omega),if_neg (by omega)]
  rw [e];exact h'
 ·rw [if_neg k0] at h
  split at h
  ·cases h
  ·rename_i hk
   by_cases k3:o.kind=3
   ·rw [if_neg (by omega)] at h
    have e:ZZ o=⟨o.kind,o.n,o.l,Zv o.e⟩:=by rw [JC,if_neg (by omega),if_neg (by omega),if_pos k3]
    rw [e,Jt]
    simp only
    rw [if_neg k0,if_neg hk,if_neg (by omega),Z0Z,ZdI,ZdJ]
    simp only [Bool.and_eq_true,decide_eq_true_eq] at h ⊢
    refine ⟨⟨h.1.1,hi h.1.2⟩,?_⟩
    omega
   ·rw [if_pos (by omega)] at h
    have hk':o.kind=1∨o.kind=2:=by omega
    rcases hk' with k | k
    ·have e:ZZ o=⟨2,o.n,o.l,o.e⟩:=by rw [JC,if_pos k]
     rw [e,Jt]
     simp only
     rw [if_neg (by decide),if_neg (by omega),if_pos (by decide)]
     exact h
    ·have e:ZZ o=⟨1,o.n,o.l,o.e⟩:=by rw [JC,if_neg (by omega),if_pos k]
     rw [e,Jt]
     simp only
     rw [if_neg (by decide),if_neg (by omega),if_pos (by decide)]
     exact h
mutual
theorem Yw:∀ (e:Edit) (d:Int),Z0 e d=true→Z0 (Zv e) d=true
 | .mk k o n w ks l os,d,h=> by
  have h1:=Z4B ks
  have h2:=Z81 l os
  simp only [Z0] at h
  simp only [Zv,Z0]
  split at h
  ·cases h
  ·rename_i a
   rw [if_neg a]
   split at h
   ·cases h
   ·rename_i b
    rw [if_neg (by rw [List.length_map,Zbr,Z6T];intro hc;apply b;rcases hc with x | x | x;exact Or.inl ⟨x.1,fun y=> x.2 ⟨y.2,y.1⟩⟩;exact Or.inr (Or.inl x);exact Or.inr (Or.inr x))]
    split at h
    ·rename_i c
     rw [if_pos c]
     simp only [Bool.and_eq_true,decide_eq_true_eq] at h ⊢
     exact ⟨⟨h.1.2,h.1.1⟩,h.2.2,h.2.1⟩
    ·rename_i c
     rw [if_neg c]
     simp only [Bool.and_eq_true,decide_eq_true_eq] at h ⊢
     obtain ⟨⟨⟨⟨x1,x2⟩,x3⟩,x4⟩,x5⟩:=h
     refine ⟨⟨⟨⟨by rw [Z4h];exact x1,h1 _ _ x2⟩,x3⟩,h2 _ x4⟩,?_⟩
     rw [(Z8x os 0).1,(Z8x os 0).2]
     exact ⟨x5.2,x5.1⟩
theorem Z4B:∀ (ks:List (KidOf Edit)) (last d:Int),Zr last ks d=true→Zr last (Y3 ks) d=true
 | [],_,_,_=> rfl
 | k ::r,last,d,h=> by
  simp only [Zr,Bool.and_eq_true] at h
  have h1:=Zdt k last d h.1
  have h2:=Z4B r k.at_ d h.2
  simp only [Y3,Zr,Bool.and_eq_true]
  exact ⟨h1,by rw [Zbs];exact h2⟩
theorem Zdt:∀ (k:KidOf Edit) (last d:Int),YY last k d=true→YY last (YN k) d=true
 | ⟨a,e⟩,last,d,h=> by
  simp only [YY,Bool.and_eq_true] at h
  have h1:=Yw e d h.2
  simp only [YN,YY,Bool.and_eq_true]
  rw [Z0Z]
  exact ⟨h.1,h1⟩
theorem Z81(list:Int):∀ (os:List (OpOf Edit)) (d:Int),Zt list os d=true→Zt list (Y6 os) d=true
 | [],_,_=> rfl
 | o ::r,d,h=> by
  simp only [Zt,Bool.and_eq_true] at h
  have h1:=Zf6 list o d h.1
  have h2:=Z81 list r d h.2
  simp only [Y6,Zt,Bool.and_eq_true]
  exact ⟨h1,h2⟩
theorem Zf6(list:Int):∀ (o:OpOf Edit) (d:Int),Za list o d=true→Za list (ZZ o) d=true
 | ⟨k,n,l,e⟩,d,h=> Zs6 (o:=⟨k,n,l,e⟩) h (fun he=> Yw e d he)
end
end Go.AM.Ytpjenobkibfpcaa
namespace Go.AM.Ytpjenobkibfpcaa
open Go.AM Go.Proofs
theorem Zaw:∀ (l:List Tree),Zg (Z5 l)≤Zg l
 | []=> by simp [Z5,Zg]
 | t ::r=> by
  have h:=Zaw r
  have h2:=Je t
  simp only [Z5] at h
  simp only [Z5,List.map_cons,Zg]
  omega
theorem Z3X:Zq Tree.nil=1:=by simp [Tree.nil,Zq,Zg]
theorem Zel(t:Tree):1≤Zq t:=by cases t;simp only [Zq];omega
theorem Z5J:∀ (e:Edit),3≤Zc e
 | .mk k o n w ks l os=> by
  have h1:=Zel o
  have h2:=Zel n
  simp only [Zc];omega
end Go.AM.Ytpjenobkibfpcaa
namespace Go.AM.Ytpjenobkibfpcaa
open Go.AM Go.Proofs
theorem Z3V(e:Edit):(ZR e).kind=e.kind:=by
 rw [Z8c]
 split
 ·try rfl
 ·split
  ·try rfl
  ·split <;> rfl
theorem Z8b(e:Edit)(h:e.kind=1):(ZR e).old=Z7 e.old∧(ZR e).new=Z7 e.new:=by
 rw [Z8c,if_pos h]
 exact ⟨rfl,rfl⟩
theorem ZiB{D list:Int}{t:Tree}(hD:D≠0)(h:Z9 (.mk list [] [t]) D=true):Z9 (.mk list [] [Z7 t]) D=true:=by
 have key:=fun (k d:Int) (h:Y7 k [t] d=true)=> Z5m [t] k d h
 simp only [Yl] at key
 simp only [Z9] at h ⊢
 split at h
 ·simp at h
 ·rename_i h0
  rw [if_neg h0]
  split at h
  ·simp at h
  ·rename_i h1
   rw [if_neg h1]
   try rw [if_neg hD] at h
   try rw [if_neg hD]
   split at h
   ·rename_i h2
    rw [if_pos h2]
    simp only [Bool.and_eq_true] at h ⊢
    exact ⟨h.1,key _ _ h.2⟩
   ·rename_i h2
    rw [if_neg h2]
    simp only [Bool.and_eq_true] at h ⊢
    exact ⟨h.1,key _ _ h.2⟩
theorem Z3p{D list:Int}(hD:D≠0):∀ {l:List Tree},Yn D list l=true→Yn D list (Z5 l)=true
 | [],_=> rfl
 | t ::r,h=> by
  simp only [Yn,Bool.and_eq_true] at h
  have h2:=Z3p hD h.2
  simp only [Z5] at h2
  simp only [Z5,List.map_cons,Yn,Bool.and_eq_true]
  exact ⟨ZiB hD h.1,h2⟩
theorem Z5a{D list:Int}:∀ {a b:List Tree},Yn D list a=true→Yn D list b=true→Yn D list (a++b)=true
 | [],_,_,h=> h
 | t ::r,b,h,h2=> by
  simp only [Yn,Bool.and_eq_true] at h
  simp only [List.cons_append,Yn,Bool.and_eq_true]
  exact ⟨h.1,Z5a h.2 h2⟩
def rOp(list:Int)(d:Int)(o:Op):Prop:=(o.kind=0→1≤o.n∧o.l.length=0∧Z0V o.e=true)∧(o.kind≠0→Za list o d=true)
theorem Zfm{list d:Int}{o:Op}(h:Za list o d=true):rOp list d o:=by
 refine ⟨fun hk=> ?_,fun _=> h⟩
 obtain ⟨k,n,l,e⟩:=o
 simp only at hk
 subst hk
 simp only [Za,if_true,Bool.and_eq_true,decide_eq_true_eq] at h
 exact ⟨h.1.1,h.1.2.2,h.2⟩
theorem Zvb{list d:Int}{o:Op}(h:rOp list d o)(hn:o.kind=0→o.n≤1048576):Za list o d=true:=by
 by_cases hk:o.kind=0
 ·have h1:=h.1 hk
  have h2:=hn hk
  obtain ⟨k,n,l,e⟩:=o
  simp only at hk h1 h2
  subst hk
  simp only [Za,if_true,Bool.and_eq_true,decide_eq_true_eq]
  exact ⟨⟨h1.1,h2,h1.2.1⟩,h1.2.2⟩
 ·exact h.2 hk
theorem Z0y{list:Int}:∀ {os:List Op} {d:Int},Zt list os d=true↔∀ o∈os,Za list o d=true
 | [],d=> by simp [Zt]
 | o ::r,d=> by
  simp only [Zt,Bool.and_eq_true,List.mem_cons,forall_eq_or_imp]
  rw [Z0y (os:=r)]
theorem Z2u:Z0V Edit.nil=true:=rfl
structure OkW (list d:Int) (w:Wst):Prop where
 out:∀ o∈w.out,rOp list d o
 gone:Yn (dT d) list w.gone=true
 brought:Yn (dT d) list w.brought=true
theorem Z9v{list d:Int}{w:Wst}(h:OkW list d w):OkW list d (Z3 w):=by
 refine ⟨?_,rfl,rfl⟩
 simp only [Z3,Z0v]
 intro o ho
 rcases List.mem_append.1 ho with ho | ho
 ·exact h.out o ho
 rcases List.mem_append.1 ho with ho | ho
 ·split at ho
  ·cases ho
  ·rename_i hl
   simp only [List.mem_singleton] at ho
   subst ho
   refine ⟨fun hk=> (by cases hk),fun _=> ?_⟩
   simp only [Za]
   rw [if_neg (by decide),if_neg (by decide),if_pos (by decide),h.gone,Z2u]
   simp only [Bool.and_true,Bool.true_and,decide_eq_true_eq]
   omega
 ·split at ho
  ·cases ho
  ·rename_i hl
   simp only [List.mem_singleton] at ho
   subst ho
   refine ⟨fun hk=> (by cases hk),fun _=> ?_⟩
   simp only [Za]
   rw [if_neg (by decide),if_neg (by decide),if_pos (by decide),h.brought,Z2u]
   simp only [Bool.and_true,Bool.true_and,decide_eq_true_eq]
   omega
theorem Zhj{list d:Int}{w:Wst}{n:Int}(h:OkW list d w)(hn:1≤n):OkW list d (ZX w n):=by
 have hf:=Z9v h
 refine ⟨?_,rfl,rfl⟩
 simp only [ZX]
 intro o ho
 rcases Z01 (Z3 w).out n with e | ⟨a,q,e1,e2,e3⟩
 ·rw [e] at ho
  rcases List.mem_append.1 ho with ho | ho
  ·exact hf.out o ho
  ·simp only [List.mem_singleton] at ho
   subst ho
   exact ⟨fun _=> ⟨hn,rfl,Z2u⟩,fun hk=> absurd rfl hk⟩
 ·rw [e3] at ho
  rcases List.mem_append.1 ho with ho | ho
  ·exact hf.out o (by rw [e1];exact List.mem_append.2 (Or.inl ho))
  ·simp only [List.mem_singleton] at ho
   subst ho
   have hq:=(hf.out q (by rw [e1];simp)).1 e2
   exact ⟨fun _=> ⟨by simp only;omega,hq.2⟩,fun hk=> absurd e2 hk⟩
theorem Zvf{list d:Int}{w:Wst}{o:Op}(h:OkW list d w)(hr:Za list o d=true)(hi:Z0 o.e d=true→Z0 (ZR o.e) d=true):OkW list d (Z1t list o w):=by
 obtain ⟨k,n,l,e⟩:=o
 have hr0:=hr
 rw [Za] at hr
 rw [Z3U]
 simp only at hi ⊢
 split at hr
 ·rename_i hk
  rw [if_pos hk]
  simp only [Bool.and_eq_true,decide_eq_true_eq] at hr
  exact Zhj h hr.1.1
 ·rename_i hk
  rw [if_neg hk]
  split at hr
  ·cases hr
  ·rename_i hn
   split at hr
   ·rename_i h3
    simp only [Bool.and_eq_true,decide_eq_true_eq] at hr
    by_cases k1:k=1
    ·rw [if_pos k1]
     exact ⟨h.out,Z5a h.gone (Z3p (ZuK d) hr.1.1),h.brought⟩
    ·rw [if_neg k1,if_pos (by omega)]
     exact ⟨h.out,h.gone,Z5a h.brought (Z3p (ZuK d) hr.1.1)⟩
   ·rename_i h3
    rw [if_neg (by omega),if_neg (by omega),if_pos (by omega)]
    split
    ·exact Zhj h (by decide)
    ·have hf:=Z9v h
     refine ⟨?_,rfl,rfl⟩
     intro o ho
     rcases List.mem_append.1 ho with ho | ho
     ·exact hf.out o ho
     ·simp only [List.mem_singleton] at ho
      subst ho
      refine ⟨fun hk=> (by cases hk),fun _=> ?_⟩
      simp only [Bool.and_eq_true,decide_eq_true_eq] at hr
      simp only [Za]
      rw [if_neg (by decide),if_neg (by decide),if_neg (by decide),Z3V,hi hr.1.2]
      simp only [Bool.and_true,Bool.and_eq_true,decide_eq_true_eq]
      refine ⟨⟨rfl,hr.1.1.2⟩,?_⟩
      rcases hr.2 with h | h | h
      ·exact Or.inl h
      ·exact Or.inr (Or.inl h)
      ·rw [(Z8b e h.1).1,(Z8b e h.1).2,Z2c,Z2c]
       exact Or.inr (Or.inr h)
def J8:List Op→Int
 | []=> 0
 | o ::r=> (if o.kind=2 then 0 else Z2 o)+J8 r
def Jn:List Op→Int
 | []=> 0
 | o ::r=> (if o.kind=1 then 0 else Z2 o)+Jn r
theorem Z3K:∀ (a b:List Op),J8 (a++b)=J8 a+J8 b
 | [],b=> by simp [J8]
 | o ::r,b=> by simp only [List.cons_append,J8,Z3K r b];omega
theorem Z3J:∀ (a b:List Op),Jn (a++b)=Jn a+Jn b
 | [],b=> by simp [Jn]
 | o ::r,b=> by simp only [List.cons_append,Jn,Z3J r b];omega
theorem Z0P:∀ (l:List Op) (n:Int),(∀ o∈l,0≤Z2 o)→0≤n→n≤1048576→Z0d l n=min (n+J8 l) 1048576∧0≤J8 l
 | [],n,_,h1,h2=> by simp only [Z0d,J8];omega
 | o ::r,n,h,h1,h2=> by
  have ho:=h o (List.mem_cons_self ..)
  simp only [Z0d,J8]
  have hx:0≤(if o.kind=2 then n else n+Z2 o)∧(if o.kind=2 then n else n+Z2 o)=n+(if o.kind=2 then 0 else Z2 o):=by split <;> omega
  have hy:0≤(if o.kind=2 then 0 else Z2 o):=by split <;> omega
  rw [hx.2]
  rw [hx.2] at hx
  generalize (if o.kind=2 then 0 else Z2 o)=y at*
  obtain ⟨e1,e2⟩:=Z0P r (min (n+y) 1048576) (fun x hx=> h x (List.mem_cons_of_mem _ hx)) (by omega) (by omega)
  rw [e1]
  omega
theorem Z2P:∀ (l:List Op) (n:Int),(∀ o∈l,0≤Z2 o)→0≤n→n≤1048576→Z0c l n=min (n+Jn l) 1048576∧0≤Jn l
 | [],n,_,h1,h2=> by simp only [Z0c,Jn];omega
 | o ::r,n,h,h1,h2=> by
  have ho:=h o (List.mem_cons_self ..)
  simp only [Z0c,Jn]
  have hx:0≤(if o.kind=1 then n else n+Z2 o)∧(if o.kind=1 then n else n+Z2 o)=n+(if o.kind=1 then 0 else Z2 o):=by split <;> omega
  have hy:0≤(if o.kind=1 then 0 else Z2 o):=by split <;> omega
  rw [hx.2]
  rw [hx.2] at hx
  generalize (if o.kind=1 then 0 else Z2 o)=y at*
  obtain ⟨e1,e2⟩:=Z2P r (min (n+y) 1048576) (fun x hx=> h x (List.mem_cons_of_mem _ hx)) (by omega) (by omega)
  rw [e1]
  omega
theorem Z4F{list d:Int}{o:Op}(h:rOp list d o):0≤Z2 o:=by
 unfold Z2
 split
 ·decide
 ·by_cases hk:o.kind=0
  ·have:=(h.1 hk).1;omega
  ·have hr:=h.2 hk
   obtain ⟨k,n,l,e⟩:=o
   simp only at hk ⊢
   rw [Za,if_neg hk] at hr
   split at hr
   ·cases hr
   ·omega
theorem ZgI:∀ {l:List Op} {o:Op},(∀ o∈l,0≤Z2 o)→o∈l→o.kind≠2→Z2 o≤J8 l
 | a ::r,o,h,ho,hk=> by
  have hr:=(Z0P r 0 (fun x hx=> h x (List.mem_cons_of_mem _ hx)) (by decide) (by decide)).2
  have ha:=h a (List.mem_cons_self ..)
  simp only [J8]
  rcases List.mem_cons.1 ho with rfl | ho
  ·rw [if_neg hk];omega
  ·have:=ZgI (fun x hx=> h x (List.mem_cons_of_mem _ hx)) ho hk
   split <;> omega
def sA(w:Wst):Int:=J8 w.out+w.gone.length
def sB(w:Wst):Int:=Jn w.out+w.brought.length
theorem Z9b(w:Wst):J8 (Z3 w).out=sA w∧Jn (Z3 w).out=sB w:=by
 simp only [Z3,Z0v,sA,sB,Z3K,Z3J]
 constructor
 ·by_cases hg:w.gone.length=0
  ·rw [if_pos hg]
   by_cases hb:w.brought.length=0
   ·rw [if_pos hb];simp [J8];omega
   ·rw [if_neg hb];simp [J8];omega
  ·rw [if_neg hg]
   by_cases hb:w.brought.length=0
   ·rw [if_pos hb];simp [J8,Z2]
   ·rw [if_neg hb];simp [J8,Z2]
 ·by_cases hg:w.gone.length=0
  ·rw [if_pos hg]
   by_cases hb:w.brought.length=0
   ·rw [if_pos hb];simp [Jn];omega
   ·rw [if_neg hb];simp [Jn,Z2]
  ·rw [if_neg hg]
   by_cases hb:w.brought.length=0
   ·rw [if_pos hb];simp [Jn];omega
   ·rw [if_neg hb];simp [Jn,Z2]
theorem ZgH(w:Wst)(n:Int):sA (ZX w n)=sA w+n∧sB (ZX w n)=sB w+n:=by
 have hf:=Z9b w
 simp only [ZX]
 have e1:∀ x,sA ⟨x,[],[]⟩=J8 x:=fun x=> by simp [sA]
 have e2:∀ x,sB ⟨x,[],[]⟩=Jn x:=fun x=> by simp [sB]
 rw [e1,e2,←hf.1,←hf.2]
 rcases Z01 (Z3 w).out n with e | ⟨a,q,e1,e2,e3⟩
 ·rw [e,Z3K,Z3J]
  simp [J8,Jn,Z2]
 ·rw [e3,e1,Z3K,Z3J,Z3K,Z3J]
  simp only [J8,Jn,Z2,e2]
  simp
  omega
theorem Zv7{list d:Int}{w:Wst}{o:Op}(hr:Za list o d=true):sA (Z1t list o w)=sA w+(if o.kind=2 then 0 else Z2 o)∧sB (Z1t list o w)=sB w+(if o.kind=1 then 0 else Z2 o):=by
 have hl:∀ l,((Z5 l).length:Int)=l.length:=fun l=> by simp [Z5]
 obtain ⟨k,n,l,e⟩:=o
 rw [Za] at hr
 rw [Z3U]
 simp only [Z2]
 split at hr
 ·rename_i hk
  subst hk
  rw [if_pos rfl]
  simp only [Bool.and_eq_true,decide_eq_true_eq] at hr
  have:=ZgH w n
  simp
  omega
 ·rename_i hk
  rw [if_neg hk]
  split at hr
  ·cases hr
  ·rename_i hn
   split at hr
   ·rename_i h3
    by_cases k1:k=1
    ·subst k1
     rw [if_pos rfl]
     simp only [sA,sB,List.length_append]
     simp [hl]
     omega
    ·have k2:k=2:=by omega
     subst k2
     rw [if_neg k1,if_pos rfl]
     simp only [sA,sB,List.length_append]
     simp [hl]
     omega
   ·rename_i h3
    have k3:k=3:=by omega
    subst k3
    rw [if_neg (by omega),if_neg (by omega),if_pos rfl]
    split
    ·have:=ZgH w 1
     simp
     omega
    ·have:=Z9b w
     simp only [sA,sB,Z3K,Z3J,J8,Jn,Z2] at this ⊢
     simp
     omega
mutual
theorem Z11:∀ (e:Edit) (d:Int),Z0 e d=true→Z0 (ZR e) d=true
 | .mk k o n w ks l os,d,h=> by
  have h1:=Za7 ks
  have h2:=ZkA l os
  have h4:=ZjQ l os
  rw [Z0] at h
  split at h
  ·cases h
  ·rename_i a
   split at h
   ·cases h
   ·rename_i b
    have nn:ZT Tree.nil=true:=rfl
    by_cases k1:k=1
    ·subst k1
     rw [if_pos rfl] at h
     have hl:l=0:=by
      apply Classical.byContradiction
      intro hl
      exact b (.inr (.inr ⟨by decide,.inl hl⟩))
     simp only [Bool.and_eq_true,decide_eq_true_eq] at h
     rw [ZR,if_pos rfl,Z0,if_neg a,if_neg (by simp [hl]),if_pos rfl]
     simp only [Bool.and_eq_true,decide_eq_true_eq]
     rw [Z2c,Z2c]
     exact ⟨⟨Z3d _ _ h.1.1,Z3d _ _ h.1.2⟩,h.2⟩
    ·rw [if_neg k1] at h
     simp only [Bool.and_eq_true,decide_eq_true_eq] at h
     obtain ⟨⟨⟨⟨x1,x2⟩,x3⟩,x4⟩,x5⟩:=h
     rw [ZR,if_neg k1]
     by_cases k2:k=2
     ·have hl:l=0:=by
       apply Classical.byContradiction
       intro hl
       exact b (.inr (.inr ⟨by omega,.inl hl⟩))
      rw [if_pos k2,Z0,if_neg a,if_neg (by simp [nn,hl,k2]),if_neg k1]
      simp only [Bool.and_eq_true,decide_eq_true_eq]
      exact ⟨⟨⟨⟨x1,h1 _ _ x2⟩,x3⟩,rfl⟩,by decide⟩
     ·rw [if_neg k2]
      by_cases k3:k=3
      ·rw [if_pos k3,Z0,if_neg a,if_neg (by simp [nn,k3]),if_neg k1]
       simp only [Bool.and_eq_true,decide_eq_true_eq]
       have hall:=Z0y.1 x4
       obtain ⟨y1,y2⟩:=Z0P os 0 (fun o ho=> Z4F (Zfm (hall o ho))) (by decide) (by decide)
       obtain ⟨z1,z2⟩:=Z2P os 0 (fun o ho=> Z4F (Zfm (hall o ho))) (by decide) (by decide)
       have hw:=h2 (d - 1) W0 x4 ⟨fun o ho=> (by cases ho),rfl,rfl⟩
       have hs:=h4 (d - 1) W0 x4
       have hff:=Z9v hw
       have hsf:=Z9b (YL l os W0)
       have e0:sA W0=0∧sB W0=0:=⟨rfl,rfl⟩
       have hA:=Z0P (Z3 (YL l os W0)).out 0 (fun o ho=> Z4F (hff.out o ho)) (by decide) (by decide)
       have hB:=Z2P (Z3 (YL l os W0)).out 0 (fun o ho=> Z4F (hff.out o ho)) (by decide) (by decide)
       refine ⟨⟨⟨⟨rfl,rfl⟩,x3⟩,Z0y.2 (fun o ho=> Zvb (hff.out o ho) (fun hk=> ?_))⟩,?_,?_⟩
       ·have hm:=ZgI (fun o ho=> Z4F (hff.out o ho)) ho (by omega)
        unfold Z2 at hm
        rw [if_neg (by omega)] at hm
        omega
       ·show Z0d (Z3 (YL l os W0)).out 0 < 1048576
        omega
       ·show Z0c (Z3 (YL l os W0)).out 0 < 1048576
        omega
      ·have hl:l=0:=by
        apply Classical.byContradiction
        intro hl
        exact b (.inr (.inr ⟨k3,.inl hl⟩))
       rw [if_neg k3,Z0,if_neg a,if_neg (by simp [nn,hl]),if_neg k1]
       simp only [Bool.and_eq_true,decide_eq_true_eq]
       exact ⟨⟨⟨⟨rfl,rfl⟩,x3⟩,rfl⟩,by decide⟩
theorem Za7:∀ (ks:List (KidOf Edit)) (last d:Int),Zr last ks d=true→Zr last (Z0h ks) d=true
 | [],_,_,_=> rfl
 | k ::r,last,d,h=> by
  simp only [Zr,Bool.and_eq_true] at h
  have h1:=Zf9 k last d h.1
  have h2:=Za7 r k.at_ d h.2
  simp only [Z0h,Zr,Bool.and_eq_true]
  exact ⟨h1,by rw [Zee];exact h2⟩
theorem Zf9:∀ (k:KidOf Edit) (last d:Int),YY last k d=true→YY last (Z2J k) d=true
 | ⟨a,e⟩,last,d,h=> by
  simp only [YY,Bool.and_eq_true] at h
  have h1:=Z11 e d h.2
  simp only [Z2J,YY,Bool.and_eq_true]
  rw [Z3V]
  exact ⟨h.1,h1⟩
theorem ZkA(list:Int):∀ (os:List (OpOf Edit)) (d:Int) (w:Wst),Zt list os d=true→OkW list d w→OkW list d (YL list os w)
 | [],_,_,_,hw=> hw
 | o ::r,d,w,h,hw=> by
  simp only [Zt,Bool.and_eq_true] at h
  have h1:=ZmJ list o d w h.1 hw
  exact ZkA list r d _ h.2 h1
theorem ZmJ(list:Int):∀ (o:OpOf Edit) (d:Int) (w:Wst),Za list o d=true→OkW list d w→OkW list d (Z1t list o w)
 | ⟨k,n,l,e⟩,d,w,h,hw=> Zvf (o:=⟨k,n,l,e⟩) hw h (fun he=> Z11 e d he)
theorem ZjQ(list:Int):∀ (os:List (OpOf Edit)) (d:Int) (w:Wst),Zt list os d=true→sA (YL list os w)=sA w+J8 os∧sB (YL list os w)=sB w+Jn os
 | [],_,_,_=> by simp [YL,J8,Jn]
 | o ::r,d,w,h=> by
  simp only [Zt,Bool.and_eq_true] at h
  have h1:=Zv7 (w:=w) h.1
  have h2:=ZjQ list r d (Z1t list o w) h.2
  simp only [YL,J8,Jn]
  omega
end
end Go.AM.Ytpjenobkibfpcaa
namespace Go.AM.Ytpjenobkibfpcaa
open Go.AM Go.Proofs
theorem Z5j:∀ {a b:List Tree},Yb (a++b)↔Yb a∧Yb b
 | [],b=> by simp [Yb]
 | t ::r,b=> by simp only [List.cons_append,Yb];rw [Z5j (a:=r),and_assoc]
mutual
theorem Z0g:∀ (t:Tree),rng t→rng (Z7 t)
 | .mk k w ks,h=> by
  simp only [rng] at h
  obtain ⟨h1,h2,h3⟩:=h
  have h4:=ZdW ks h3
  simp only [Z7]
  split
  ·simp only [Tree.nil,rng,Yb]
   exact ⟨by decide,by simp,trivial⟩
  ·split
   ·obtain ⟨r1,e1⟩:=Zbt w
    obtain ⟨r2,e2⟩:=Z99 (Yl ks)
    simp only [rng]
    refine ⟨by decide,fun x hx=> h2 x (by rw [e1];exact List.mem_append.2 (Or.inl hx)),?_⟩
    rw [e2] at h4
    exact (Z5j.1 h4).1
   ·simp only [rng]
    exact ⟨h1,h2,h4⟩
theorem ZdW:∀ (l:List Tree),Yb l→Yb (Yl l)
 | [],_=> trivial
 | t ::r,h=> by
  simp only [Yb] at h
  have h1:=Z0g t h.1
  have h2:=ZdW r h.2
  simp only [Yl,Yb]
  exact ⟨h1,h2⟩
end
theorem Z6Z:∀ {l:List Tree},Yb l→Yb (Z5 l)
 | [],_=> trivial
 | t ::r,h=> by
  simp only [Yb] at h
  have h2:=Z6Z h.2
  simp only [Z5] at h2
  simp only [Z5,List.map_cons,Yb]
  exact ⟨Z0g t h.1,h2⟩
theorem Z1r:rng Tree.nil:=by
 simp only [Tree.nil,rng,Yb]
 exact ⟨by decide,by simp,trivial⟩
mutual
theorem Z3O:∀ (e:Edit),ZS e→ZS (Zv e)
 | .mk k o n w ks l os,h=> by
  simp only [ZS] at h
  obtain ⟨h1,h2,h3,h4,h5,h6,h7⟩:=h
  have i6:=Zc4 ks h6
  have i7:=Zc3 os h7
  simp only [Zv,ZS]
  refine ⟨h1,h3,h2,fun x hx=> ?_,h5,i6,i7⟩
  obtain ⟨y,hy,rfl⟩:=List.mem_map.1 hx
  have:=h4 y hy
  simp only [Z1s,YG] at this ⊢
  exact ⟨this.1,this.2.1,this.2.2.2,this.2.2.1⟩
theorem Zc4:∀ (ks:List (KidOf Edit)),JT ks→JT (Y3 ks)
 | [],_=> trivial
 | k ::r,h=> by
  simp only [JT] at h
  have h1:=ZgT k h.1
  have h2:=Zc4 r h.2
  simp only [Y3,JT]
  exact ⟨h1,h2⟩
theorem ZgT:∀ (k:KidOf Edit),Z0F k→Z0F (YN k)
 | ⟨a,e⟩,h=> by
  simp only [Z0F] at h
  have h2:=Z3O e h.2
  simp only [YN,Z0F]
  exact ⟨h.1,h2⟩
theorem Zc3:∀ (os:List (OpOf Edit)),JL os→JL (Y6 os)
 | [],_=> trivial
 | o ::r,h=> by
  simp only [JL] at h
  have h1:=Ziy o h.1
  have h2:=Zc3 r h.2
  simp only [Y6,JL]
  exact ⟨h1,h2⟩
theorem Ziy:∀ (o:OpOf Edit),YA o→YA (ZZ o)
 | ⟨k,n,l,e⟩,h=> by
  simp only [YA] at h
  have h4:=Z3O e h.2.2.2
  simp only [ZZ]
  split
  ·simp only [YA];exact ⟨by unfold isI;omega,h.2⟩
  ·split
   ·simp only [YA];exact ⟨by unfold isI;omega,h.2⟩
   ·split
    ·simp only [YA];exact ⟨h.1,h.2.1,h.2.2.1,h4⟩
    ·simp only [YA];exact h
end
structure RngW (w:Wst):Prop where
 out:∀ o∈w.out,Yb o.l∧ZS o.e
 gone:Yb w.gone
 brought:Yb w.brought
theorem Z69:ZS Edit.nil:=by
 simp only [Edit.nil,ZS,JT,JL]
 exact ⟨by unfold isI;omega,Z1r,Z1r,by simp,by unfold isI;omega,trivial,trivial⟩
theorem Z6Y{w:Wst}(h:RngW w):RngW (Z3 w):=by
 refine ⟨?_,trivial,trivial⟩
 simp only [Z3,Z0v]
 intro o ho
 rcases List.mem_append.1 ho with ho | ho
 ·exact h.out o ho
 rcases List.mem_append.1 ho with ho | ho
 ·split at ho
  ·cases ho
  ·simp only [List.mem_singleton] at ho
   subst ho
   exact ⟨h.gone,Z69⟩
 ·split at ho
  ·cases ho
  ·simp only [List.mem_singleton] at ho
   subst ho
   exact ⟨h.brought,Z69⟩
theorem ZdT{w:Wst}{n:Int}(h:RngW w):RngW (ZX w n):=by
 have hf:=Z6Y h
 refine ⟨?_,trivial,trivial⟩
 simp only [ZX]
 intro o ho
 rcases Z01 (Z3 w).out n with e | ⟨a,q,e1,e2,e3⟩
 ·rw [e] at ho
  rcases List.mem_append.1 ho with ho | ho
  ·exact hf.out o ho
  ·simp only [List.mem_singleton] at ho
   subst ho
   exact ⟨trivial,Z69⟩
 ·rw [e3] at ho
  rcases List.mem_append.1 ho with ho | ho
  ·exact hf.out o (by rw [e1];exact List.mem_append.2 (Or.inl ho))
  ·simp only [List.mem_singleton] at ho
   subst ho
   exact hf.out q (by rw [e1];simp)
theorem Zk6{list:Int}{w:Wst}{o:Op}(h:RngW w)(hl:Yb o.l)(he:ZS (ZR o.e)):RngW (Z1t list o w):=by
 rw [Z3U]
 split
 ·exact ZdT h
 ·split
  ·exact ⟨h.out,Z5j.2 ⟨h.gone,Z6Z hl⟩,h.brought⟩
  ·split
   ·exact ⟨h.out,h.gone,Z5j.2 ⟨h.brought,Z6Z hl⟩⟩
   ·split
    ·split
     ·exact ZdT h
     ·refine ⟨?_,trivial,trivial⟩
      intro o ho
      rcases List.mem_append.1 ho with ho | ho
      ·exact (Z6Y h).out o ho
      ·simp only [List.mem_singleton] at ho
       subst ho
       exact ⟨trivial,he⟩
    ·exact h
theorem Za5:∀ {os:List Op},(∀ o∈os,YA o)→JL os
 | [],_=> trivial
 | o ::r,h=> by
  simp only [JL]
  exact ⟨h o (List.mem_cons_self ..),Za5 (fun x hx=> h x (List.mem_cons_of_mem _ hx))⟩
theorem ZgW{list d:Int}{o:Op}(h:Za list o d=true)(hl:Yb o.l)(he:ZS o.e):YA o:=by
 have hn:=Z26 h
 obtain ⟨k,n,l,e⟩:=o
 simp only at hn hl he
 simp only [YA]
 refine ⟨?_,by unfold isI;omega,hl,he⟩
 rw [Za] at h
 unfold isI
 split at h
 ·omega
 ·split at h
  ·cases h
  ·omega
mutual
theorem Z3P:∀ (e:Edit) (d:Int),Z0 e d=true→ZS e→ZS (ZR e)
 | .mk k o n w ks l os,d,hr,h=> by
  have hin:=Z9h hr
  have hout:=Z9h (Z11 _ _ hr)
  simp only [Edit.kids_mk,Edit.ops_mk,Edit.list_mk] at hin
  simp only [ZS] at h
  obtain ⟨h1,h2,h3,h4,h5,h6,h7⟩:=h
  have i6:=ZdV ks (d - 1) (fun k hk=> (hin.1 k hk).1) h6
  have i7:=ZdU l os (d - 1) hin.2 h7 W0 ⟨fun o ho=> (by cases ho),trivial,trivial⟩
  rw [ZR] at hout ⊢
  by_cases k1:k=1
  ·rw [if_pos k1]
   simp only [ZS]
   exact ⟨h1,Z0g o h2,Z0g n h3,by simp,h5,trivial,trivial⟩
  ·rw [if_neg k1] at hout ⊢
   by_cases k2:k=2
   ·rw [if_pos k2]
    simp only [ZS]
    exact ⟨h1,Z1r,Z1r,h4,h5,i6,trivial⟩
   ·rw [if_neg k2] at hout ⊢
    by_cases k3:k=3
    ·rw [if_pos k3] at hout ⊢
     simp only [ZS]
     refine ⟨h1,Z1r,Z1r,by simp,h5,trivial,Za5 (fun q hq=> ?_)⟩
     have hx:=hout.2 q hq
     have hy:=(Z6Y i7).out q hq
     exact ZgW hx hy.1 hy.2
    ·rw [if_neg k3]
     simp only [ZS]
     exact ⟨h1,Z1r,Z1r,by simp,h5,trivial,trivial⟩
theorem ZdV:∀ (ks:List (KidOf Edit)) (d:Int),(∀ k∈ks,Z0 k.e d=true)→JT ks→JT (Z0h ks)
 | [],_,_,_=> trivial
 | k ::r,d,hr,h=> by
  simp only [JT] at h
  have h1:=Ziz k d (hr k (List.mem_cons_self ..)) h.1
  have h2:=ZdV r d (fun x hx=> hr x (List.mem_cons_of_mem _ hx)) h.2
  simp only [Z0h,JT]
  exact ⟨h1,h2⟩
theorem Ziz:∀ (k:KidOf Edit) (d:Int),Z0 k.e d=true→Z0F k→Z0F (Z2J k)
 | ⟨a,e⟩,d,hr,h=> by
  simp only [Z0F] at h
  have h2:=Z3P e d hr h.2
  simp only [Z2J,Z0F]
  exact ⟨h.1,h2⟩
theorem ZdU(list:Int):∀ (os:List (OpOf Edit)) (d:Int),(∀ o∈os,Za list o d=true)→JL os→∀ (w:Wst),RngW w→RngW (YL list os w)
 | [],_,_,_,w,hw=> hw
 | o ::r,d,hr,h,w,hw=> by
  simp only [JL] at h
  have h1:=Zmx list o d (hr o (List.mem_cons_self ..)) h.1 w hw
  exact ZdU list r d (fun x hx=> hr x (List.mem_cons_of_mem _ hx)) h.2 _ h1
theorem Zmx(list:Int):∀ (o:OpOf Edit) (d:Int),Za list o d=true→YA o→∀ (w:Wst),RngW w→RngW (Z1t list o w)
 | ⟨k,n,l,e⟩,d,hr,h,w,hw=> by
  simp only [YA] at h
  by_cases k3:k=3
  ·have he:Z0 e d=true:=by
    rw [Za,if_neg (by omega),] at hr
    split at hr
    ·cases hr
    ·rw [if_neg (by omega)] at hr
     simp only [Bool.and_eq_true] at hr
     exact hr.1.2
   exact Zk6 (o:=⟨k,n,l,e⟩) hw h.2.2.1 (Z3P e d he h.2.2.2)
  ·have hs:ZS (ZR Edit.nil):=by
    show ZS (.mk 0 Tree.nil Tree.nil [] [] 0 [])
    exact Z69
   have e2:Z1t list ⟨k,n,l,e⟩ w=Z1t list ⟨k,n,l,Edit.nil⟩ w:=by
    simp only [Z1t]
    rw [if_neg k3,if_neg k3]
   rw [e2]
   exact Zk6 (o:=⟨k,n,l,Edit.nil⟩) hw h.2.2.1 hs
end
end Go.AM.Ytpjenobkibfpcaa
namespace Go.AM.Ytpjenobkibfpcaa
open Go.AM Go.Proofs
theorem Zvj(t:Tree):t.words.length+Zg t.kids+1=Zq t:=by obtain ⟨k,w,ks⟩:=t;simp only [Zq,Tree.words_mk,Tree.kids_mk];omega
theorem Zeo:∀ (l:List Tree) (i:Nat) (x:Tree),i < l.length→Zg (l.set i x)+Zq (l.getD i Tree.nil)=Zg l+Zq x
 | [],i,x,h=> by simp at h
 | a ::r,0,x,_=> by simp only [List.set_cons_zero,Zg,List.getD_cons_zero];omega
 | a ::r,i+1,x,h=> by
  have:=Zeo r i x (by simpa using h)
  simp only [List.set_cons_succ,Zg,List.getD_cons_succ];omega
theorem ZiX(n:Nat):Zg (List.replicate n Tree.nil)=n:=by
 induction n with
 | zero=> rfl
 | succ n ih=> rw [List.replicate_succ,Zg,ih];simp [Tree.nil,Zq,Zg];omega
theorem JG:∀ (a b:List Tree),Zg (a++b)=Zg a+Zg b
 | [],b=> by simp [Zg]
 | t ::r,b=> by simp only [List.cons_append,Zg,JG r b];omega
theorem ZmW(l:List Tree)(i:Nat)(x:Tree):Zg (ZV Tree.nil l i x)+Zq (l.getD i Tree.nil)≤Zg l+Zq x+(i+1):=by
 have h:=Zeo (l++List.replicate (i+1 - l.length) Tree.nil) i x (by simp;omega)
 have e:(l++List.replicate (i+1 - l.length) Tree.nil).getD i Tree.nil=l.getD i Tree.nil:=by
  by_cases hi:i < l.length
  ·simp only [List.getD_eq_getElem?_getD];rw [List.getElem?_append_left hi]
  ·simp only [List.getD_eq_getElem?_getD]
   rw [List.getElem?_append_right (by omega),List.getElem?_eq_none (l:=l) (by omega),List.getElem?_replicate]
   split <;> rfl
 rw [e,JG,ZiX] at h
 simp only [ZV]
 omega
theorem ZeN{tw:List Int}:∀ {ws:List WEdit} {last:Int} {out a:List Int},Zk last ws=true→wsD tw ws out=some a→a.length≤max out.length 65535
 | [],_,out,a,_,h=> by rw [wsD] at h;cases h;omega
 | w ::r,last,out,a,hw,h=> by
  have h1:=Y8 hw w List.mem_cons_self
  simp only [Zk,Bool.and_eq_true] at hw
  rw [wsD] at h
  split at h
  ·have:=ZeN hw.2 h
   rw [JD] at this
   omega
  ·cases h
theorem Z0G{last d:Int}{k:Kid}{r:List Kid}(h:Zr last (k ::r) d=true):(last < k.at_∧k.at_≤65534)∧Z0 k.e d=true∧Zr k.at_ r d=true:=by
 have:=ZG h k List.mem_cons_self
 simp only [Zr,Bool.and_eq_true] at h
 exact ⟨⟨this.1.1,this.1.2.1⟩,this.2,h.2⟩
theorem ZnJ{tw:List Int}{ws:List WEdit}{last:Int}{out a:List Int}(hw:Zk last ws=true)(h:wsD tw ws out=some a):a.length≤out.length+65600*ws.length:=by
 cases ws with
 | nil=> rw [wsD] at h;cases h;omega
 | cons w r=>
  have:=ZeN hw h
  simp only [List.length_cons]
  omega
theorem ZcD(r:Bool)(v:Tree):Zq (nrD r v)≤Zq v:=by
 unfold nrD
 split
 ·exact Je v
 ·exact Nat.le_refl _
mutual
theorem ZcO(r:Bool):∀ (e:Edit) (d:Int) (t v:Tree),Z0 e d=true→Zdu r e t=some v→Zq v+18≤Zq t+ctE e
 | .mk k o n w ks l os,d,t,v,hr,hv=> by
  have ri:=Zp hr
  have h1:=Zen r ks t.kids
  have h2:=Zem r l os
  have ht:=Zvj t
  have po:=Yh o
  have pn:=Yh n
  have pt:=Yh t
  unfold Zdu at hv
  simp only [ctE]
  split at hv
  ·cases hv;omega
  ·split at hv
   ·split at hv
    ·cases hv
     show Zq n+18≤_
     omega
    ·cases hv
   ·split at hv
    ·split at hv
     ·obtain ⟨a,ha,hb⟩:=Option.bind_eq_some_iff.1 hv
      obtain ⟨b,hb,e⟩:=Option.map_eq_some_iff.1 hb
      have l1:=ZnJ ri.words ha
      simp only [Edit.words_mk] at l1
      have l2:=h1 t.kids b _ (-1) (by omega) ri.kids (fun j _=> rfl) hb
      rw [←e]
      simp only [Zq]
      omega
     ·cases hv
    ·split at hv
     ·split at hv
      ·obtain ⟨b,hb,e⟩:=Option.map_eq_some_iff.1 hv
       unfold Z19 at hb
       obtain ⟨x,hx,hy⟩:=Option.bind_eq_some_iff.1 hb
       have l2:=h2 _ t.kids [] x (fun o ho=> Go.AM.rightOs_mem ri.ops o ho) hx
       split at hy
       ·cases hy
        rw [←e]
        simp only [Zq,List.length_nil]
        simp only [Zg] at l2
        omega
       ·cases hy
      ·cases hv
     ·cases hv
theorem Zen(r:Bool):∀ (ks:List (KidOf Edit)) (tk out b:List Tree) (d last:Int),-1≤last→Zr last ks d=true→(∀ j:Nat,last < (j:Int)→out.getD j Tree.nil=tk.getD j Tree.nil)→Jf r tk ks out=some b→Zg b≤Zg out+Z0i ks
 | [],tk,out,b,d,last,_,_,_,h=> by rw [Jf] at h;cases h;simp
 | k ::s,tk,out,b,d,last,hl,hr,hj,h=> by
  obtain ⟨h1,h2,h3⟩:=Z0G hr
  rw [Jf] at h
  obtain ⟨u,hu,hb⟩:=Option.bind_eq_some_iff.1 h
  have m1:=ZiV r k tk u d h2 hu
  have m2:=ZmW out k.at_.toNat u
  rw [hj k.at_.toNat (by omega)] at m2
  have m3:=Zen r s tk _ b d k.at_ (by omega) h3 (fun j hj'=> by
   rw [Yu,if_neg (by omega)]
   exact hj j (by omega)) hb
  have m4:k.at_.toNat+1≤65600:=by omega
  have e1:Z0i (k ::s)=65600+ctE k.e+Z0i s:=by obtain ⟨a,e⟩:=k;rfl
  rw [e1]
  omega
theorem ZiV(r:Bool):∀ (k:KidOf Edit) (tk:List Tree) (u:Tree) (d:Int),Z0 k.e d=true→Z1A r tk k=some u→Zq u+18≤Zq (tk.getD k.at_.toNat Tree.nil)+ctE k.e
 | ⟨a,e⟩,tk,u,d,hr,h=> by
  rw [Z1A,Z4S] at h
  obtain ⟨v,hv,hu⟩:=Option.map_eq_some_iff.1 h
  have:=ZcO r e d (tk.getD a.toNat Tree.nil) v hr hv
  have hvu:=ZcD r v
  rw [hu] at hvu
  dsimp only
  omega
theorem Zem(r:Bool)(l:Int):∀ (os:List (OpOf Edit)) (d:Int) (rest out:List Tree) (x:List Tree × List Tree),(∀ o∈os,Za l o d=true)→ZE r os rest out=some x→Zg x.1+Zg x.2≤Zg out+Zg rest+YS os
 | [],d,rest,out,x,_,h=> by rw [ZE] at h;cases h;simp
 | o ::s,d,rest,out,x,hr,h=> by
  rw [ZE] at h
  obtain ⟨y,hy,hx⟩:=Option.bind_eq_some_iff.1 h
  have m1:=ZmT r l o d rest out y (hr o List.mem_cons_self) hy
  have m2:=Zem r l s d _ _ x (fun q hq=> hr q (List.mem_cons_of_mem _ hq)) hx
  rw [YS]
  omega
theorem ZmT(r:Bool)(l:Int):∀ (o:OpOf Edit) (d:Int) (rest out:List Tree) (x:List Tree × List Tree),Za l o d=true→Z1z r o rest out=some x→Zg x.1+Zg x.2≤Zg out+Zg rest+Z1Y o
 | ⟨k,n,L,e⟩,d,rest,out,x,hr,h=> by
  have he:=ZcO r e d (rest.getD 0 Tree.nil)
  rw [Z1z] at h
  simp only [Z1Y]
  split at h
  ·split at h
   ·cases h
    have:=JG (rest.take n.toNat) (rest.drop n.toNat)
    rw [List.take_append_drop] at this
    dsimp only
    rw [JG];omega
   ·cases h
  ·split at h
   ·split at h
    ·cases h
     have:=Z2M L.length rest
     dsimp only;omega
    ·cases h
   ·split at h
    ·cases h
     dsimp only
     rw [JG];omega
    ·split at h
     ·cases h
     ·obtain ⟨u,hu,e2⟩:=Option.map_eq_some_iff.1 h
      cases e2
      have hk:k=3:=by
       have ra:=ZC hr
       generalize ho:OpOf.mk k n L e=o at ra
       cases ra <;> (injection ho with h1;try omega)
      rw [Z4S] at hu
      obtain ⟨v,hv,hu⟩:=Option.map_eq_some_iff.1 hu
      have:=he v (YE hr hk) hv
      have hvu:=ZcD r v
      rw [hu] at hvu
      cases rest with
      | nil=> contradiction
      | cons a q=>
       rw [JG]
       simp only [Zg,List.drop_succ_cons,List.drop_zero,List.getD_cons_zero] at this ⊢
       omega
end
theorem Z6k(r:Bool)(e:Edit)(d:Int)(t u:Tree)(hr:Z0 e d=true)(h:doE r e t=some u):Zq u+18≤Zq t+ctE e:=by
 rw [Z4S] at h
 obtain ⟨v,hv,hu⟩:=Option.map_eq_some_iff.1 h
 have:=ZcO r e d t v hr hv
 have hvu:=ZcD r v
 rw [hu] at hvu
 omega
theorem Zvg{f:Nat→Int}(h:∀ i,0≤f i∧f i < 256):isW (of8 f):=by
 have h0:=h 0;have h1:=h 1;have h2:=h 2;have h3:=h 3;have h4:=h 4;have h5:=h 5;have h6:=h 6;have h7:=h 7
 unfold isW of8
 omega
theorem Z0s(a b m:Int):isW (mix a b m):=Zvg (Z5F a b m)
theorem Z4z{l:List Tree}(h:∀ t∈l,rng t):Yb l:=by
 induction l with
 | nil=> exact trivial
 | cons a r ih=> exact ⟨h a List.mem_cons_self,ih fun t ht=> h t (List.mem_cons_of_mem _ ht)⟩
theorem Jj:rng Tree.nil:=⟨by decide,by simp,trivial⟩
theorem Z2t{α:Type}{z x y:α}{l:List α}{i:Nat}(h:y∈ZV z l i x):y∈l∨y=z∨y=x:=by
 rcases List.mem_or_eq_of_mem_set h with h | h
 ·rcases List.mem_append.1 h with h | h
  ·exact .inl h
  ·exact .inr (.inl (List.eq_of_mem_replicate h))
 ·exact .inr (.inr h)
theorem Zk5{ks:List Tree}(h:Yb ks)(i:Nat):rng (ks.getD i Tree.nil):=by
 by_cases hi:i < ks.length
 ·exact YX h (Zm hi _)
 ·rw [List.getD_eq_getElem?_getD,List.getElem?_eq_none (by omega)]
  exact Jj
theorem ZnK{tw:List Int}:∀ {ws:List WEdit} {out a:List Int},(∀ x∈out,isW x)→wsD tw ws out=some a→∀ x∈a,isW x
 | [],out,a,h,hw=> by rw [wsD] at hw;cases hw;exact h
 | w ::r,out,a,h,hw=> by
  rw [wsD] at hw
  split at hw
  ·refine ZnK (fun x hx=> ?_) hw
   rcases Z2t hx with hx | rfl | rfl
   ·exact h x hx
   ·exact ⟨by omega,by omega⟩
   ·exact Z0s _ _ _
  ·cases hw
mutual
theorem Z6X(r:Bool):∀ (e:Edit) (t u:Tree),ZS e→rng t→doE r e t=some u→rng u
 | .mk k o n w ks l os,t,u,hr,ht,h=> by
  have h1:=ZgQ r ks
  have h2:=ZgP r os
  simp only [ZS] at hr
  obtain ⟨r1,r2,r3,r4,r5,r6,r7⟩:=hr
  have hta:isI t.kind∧(∀ x∈t.words,isW x)∧Yb t.kids:=by obtain ⟨k,w,ks⟩:=t;exact ht
  rw [Z0R] at h
  obtain ⟨v,hv,hu⟩:=Option.map_eq_some_iff.1 h
  suffices rng v by
   rw [←hu];unfold nrD
   split
   ·exact Z0g v this
   ·exact this
  clear h hu
  split at hv
  ·cases hv;exact ht
  ·split at hv
   ·split at hv
    ·cases hv;exact r3
    ·cases hv
   ·split at hv
    ·split at hv
     ·obtain ⟨a,ha,hb⟩:=Option.bind_eq_some_iff.1 hv
      obtain ⟨b,hb,e⟩:=Option.map_eq_some_iff.1 hb
      rw [←e]
      exact ⟨by decide,ZnK hta.2.1 ha,h1 _ _ _ r6 hta.2.2 hta.2.2 hb⟩
     ·cases hv
    ·split at hv
     ·split at hv
      ·obtain ⟨b,hb,e⟩:=Option.map_eq_some_iff.1 hv
       unfold Z19 at hb
       obtain ⟨x,hx,hy⟩:=Option.bind_eq_some_iff.1 hb
       split at hy
       ·cases hy
        rw [←e]
        exact ⟨r5,by simp,(h2 _ [] _ r7 hta.2.2 trivial hx).1⟩
       ·cases hy
      ·cases hv
     ·cases hv
theorem ZgQ(r:Bool):∀ (ks:List (KidOf Edit)) (tk out b:List Tree),JT ks→Yb tk→Yb out→Jf r tk ks out=some b→Yb b
 | [],tk,out,b,_,_,ho,h=> by rw [Jf] at h;cases h;exact ho
 | k ::s,tk,out,b,hk,ht,ho,h=> by
  rw [Jf] at h
  obtain ⟨u,hu,hb⟩:=Option.bind_eq_some_iff.1 h
  have m1:=Zmw r k tk u hk.1 ht hu
  refine ZgQ r s tk _ b hk.2 ht (Z4z fun x hx=> ?_) hb
  rcases Z2t hx with hx | rfl | rfl
  ·exact YX ho hx
  ·exact Jj
  ·exact m1
theorem Zmw(r:Bool):∀ (k:KidOf Edit) (tk:List Tree) (u:Tree),Z0F k→Yb tk→Z1A r tk k=some u→rng u
 | ⟨a,e⟩,tk,u,hr,ht,h=> by
  rw [Z1A] at h
  exact Z6X r e _ u hr.2 (Zk5 ht _) h
theorem ZgP(r:Bool):∀ (os:List (OpOf Edit)) (rest out:List Tree) (x:List Tree × List Tree),JL os→Yb rest→Yb out→ZE r os rest out=some x→Yb x.1∧Yb x.2
 | [],rest,out,x,_,hr,ho,h=> by rw [ZE] at h;cases h;exact ⟨ho,hr⟩
 | o ::s,rest,out,x,hs,hr,ho,h=> by
  rw [ZE] at h
  obtain ⟨y,hy,hx⟩:=Option.bind_eq_some_iff.1 h
  have m1:=Zoz r o rest out y hs.1 hr ho hy
  exact ZgP r s _ _ x hs.2 m1.2 m1.1 hx
theorem Zoz(r:Bool):∀ (o:OpOf Edit) (rest out:List Tree) (x:List Tree × List Tree),YA o→Yb rest→Yb out→Z1z r o rest out=some x→Yb x.1∧Yb x.2
 | ⟨k,n,L,e⟩,rest,out,x,hs,hr,ho,h=> by
  have he:=Z6X r e (rest.getD 0 Tree.nil)
  simp only [YA] at hs
  have hd:∀ n,Yb (rest.drop n):=fun n=> Z4z fun t ht=> YX hr (List.mem_of_mem_drop ht)
  have hap:∀ l,Yb l→Yb (out++l):=fun l hl=> Z5j.2 ⟨ho,hl⟩
  rw [Z1z] at h
  split at h
  ·split at h
   ·cases h
    exact ⟨hap _ (Z4z fun t ht=> YX hr (List.mem_of_mem_take ht)),hd _⟩
   ·cases h
  ·split at h
   ·split at h
    ·cases h
     exact ⟨ho,hd _⟩
    ·cases h
   ·split at h
    ·cases h
     exact ⟨hap _ hs.2.2.1,hr⟩
    ·split at h
     ·cases h
     ·obtain ⟨u,hu,e2⟩:=Option.map_eq_some_iff.1 h
      cases e2
      exact ⟨hap _ ⟨he u hs.2.2.2 (Zk5 hr 0) hu,trivial⟩,hd _⟩
end
end Go.AM.Ytpjenobkibfpcaa
namespace Go.AM.Ytpjenobkibfpcaa
open Go.AM Go.Proofs
section
variable {α β:Type} (z:α) (f:β→Option α) (p:β→Int)
def mg:List β→List α→Option (List α)
 | [],out=> some out
 | w ::r,out=> (f w).bind fun v=> mg r (ZV z out (p w).toNat v)
def asc(last:Int):List β→Prop
 | []=> True
 | w ::r=> last < p w∧asc (p w) r
variable {z f p} {l0:List α} {ws:List β} {n a i:Int} {out:List α}
theorem Zdi{last:Int}:∀ {l:List β},asc p last l→∀ w∈l,last < p w
 | [],_,_,hw=> by cases hw
 | b ::r,h,w,hw=> by
  rcases List.mem_cons.1 hw with rfl | hw
  ·exact h.1
  ·have:=Zdi h.2 w hw
   have:=h.1
   omega
end
theorem ZeM(tw:List Int):∀ (ws:List WEdit) (out:List Int),wsD tw ws out=mg 0 (fun w=> if mix 0 (tw.getD w.at_.toNat 0) w.mask=w.old then some (mix (tw.getD w.at_.toNat 0) w.new w.mask) else none) WEdit.at_ ws out
 | [],_=> rfl
 | w ::r,out=> by
  rw [wsD,mg]
  split
  ·rw [Option.bind_some];exact ZeM tw r _
  ·try rfl
theorem Zbf(r:Bool)(tk:List Tree):∀ (ks:List Kid) (out:List Tree),Jf r tk ks out=mg Tree.nil (Z1A r tk) KidOf.at_ ks out
 | [],_=> by rw [Jf];try rfl
 | k ::s,out=> by
  rw [Jf,mg]
  congr 1
  funext u
  exact Zbf r tk s _
theorem Z0X:∀ {ws:List WEdit} {last:Int},Zk last ws=true→asc WEdit.at_ last ws
 | [],_,_=> trivial
 | w ::r,last,h=> by
  have h1:=Y8 h w List.mem_cons_self
  simp only [Zk,Bool.and_eq_true] at h
  exact ⟨h1.1,Z0X h.2⟩
theorem Z2Q:∀ {ks:List Kid} {last d:Int},Zr last ks d=true→asc KidOf.at_ last ks
 | [],_,_,_=> trivial
 | k ::r,last,d,h=> by
  obtain ⟨h1,_,h3⟩:=Z0G h
  exact ⟨h1.1,Z2Q h3⟩
end Go.AM.Ytpjenobkibfpcaa
namespace Go.AM
def ZaI(t:Tree):Bool:=decide (0≤ZH t 80 3000) && Z9 t 64 && decide (t.kind≠10)
end Go.AM
namespace Go.AM.Ytpjenobkibfpcaa
open Go.AM Go.Proofs
theorem Z4l{x y x' y':Int}(h:x+256*y=x'+256*y')(hx:0≤x∧x < 256)(hx':0≤x'∧x' < 256):x=x'∧y=y':=by omega
theorem Zs8{f g:Nat→Int}(hf:∀ i,0≤f i∧f i < 256)(hg:∀ i,0≤g i∧g i < 256)(h:of8 f=of8 g):∀ i,i < 8→f i=g i:=by
 unfold of8 at h
 obtain ⟨h0,h⟩:=Z4l h (hf 0) (hg 0)
 obtain ⟨h1,h⟩:=Z4l h (hf 1) (hg 1)
 obtain ⟨h2,h⟩:=Z4l h (hf 2) (hg 2)
 obtain ⟨h3,h⟩:=Z4l h (hf 3) (hg 3)
 obtain ⟨h4,h⟩:=Z4l h (hf 4) (hg 4)
 obtain ⟨h5,h⟩:=Z4l h (hf 5) (hg 5)
 obtain ⟨h6,h7⟩:=Z4l h (hf 6) (hg 6)
 intro i hi
 match i,hi with
 | 0,_=> exact h0
 | 1,_=> exact h1
 | 2,_=> exact h2
 | 3,_=> exact h3
 | 4,_=> exact h4
 | 5,_=> exact h5
 | 6,_=> exact h6
 | 7,_=> exact h7
theorem Z3T{a:Int}(h:isW a):of8 (Zd a)=a:=by
 obtain ⟨h0,h1⟩:=h
 simp only [of8,Zd]
 omega
theorem Z2Y{a b:Int}(ha:isW a)(hb:isW b)(h:∀ i,i < 8→Zd a i=Zd b i):a=b:=by
 rw [←Z3T ha,←Z3T hb]
 unfold of8
 rw [h 0 (by omega),h 1 (by omega),h 2 (by omega),h 3 (by omega),h 4 (by omega),h 5 (by omega),h 6 (by omega),h 7 (by omega)]
theorem Z1v{a b m:Int}{i:Nat}(h:i < 8):Zd (mix a b m) i=Yx a b m i:=
 Zs8 (fun i=> Z0S _ i) (Z5F a b m) (by rw [Z3T (Z0s a b m)];rfl) i h
section
variable {α β:Type} {z:α} {f:β→Option α} {p:β→Int}
theorem Z3A:∀ {ws:List β} {last:Int} {out r:List α},-1≤last→asc p last ws→mg z f p ws out=some r→
  (∀ w∈ws,∃ v,f w=some v∧r.getD (p w).toNat z=v)∧(∀ i:Nat,(∀ w∈ws,(p w).toNat≠i)→r.getD i z=out.getD i z)
 | [],_,out,r,_,_,h=> by
  rw [mg] at h;cases h
  exact ⟨fun w hw=> (by cases hw),fun _ _=> rfl⟩
 | w ::s,last,out,r,hl,ha,h=> by
  rw [mg] at h
  obtain ⟨v,hv,hr⟩:=Option.bind_eq_some_iff.1 h
  have h1:=ha.1
  obtain ⟨i1,i2⟩:=Z3A (by omega) ha.2 hr
  have hn:∀ x∈s,(p x).toNat≠(p w).toNat:=fun x hx=> by have:=Zdi ha.2 x hx;omega
  refine ⟨fun x hx=> ?_,fun i hi=> ?_⟩
  ·rcases List.mem_cons.1 hx with rfl | hx
   ·refine ⟨v,hv,?_⟩
    rw [i2 _ hn,Yu,if_pos rfl]
   ·exact i1 x hx
  ·rw [i2 i (fun x hx=> hi x (List.mem_cons_of_mem _ hx)),Yu,if_neg (fun e=> hi w List.mem_cons_self e.symm)]
end
theorem Z72{list d:Int}:∀ {l:List Tree},Y7 list l d=true→∀ t∈l,Z9 t d=true
 | [],_,_,ht=> by cases ht
 | a ::r,h,t,ht=> by
  simp only [Y7,Bool.and_eq_true] at h
  rcases List.mem_cons.1 ht with rfl | ht
  ·exact h.1.2
  ·exact Z72 h.2 t ht
def RT_(t:Tree):Prop:=(∃ d,Z9 t d=true)∧rng t
theorem RT_.kids{t:Tree}(h:RT_ t):(∀ k∈t.kids,RT_ k)∧(t.kind≠0→t.kind≠1→t.kind≠10→t.words=[]):=by
 obtain ⟨⟨d,h⟩,hr⟩:=h
 obtain ⟨k,w,ks⟩:=t
 have hk:∀ x∈ks,rng x:=fun x hx=> YX hr.2.2 hx
 show (∀ x∈ks,RT_ x)∧(k≠0→k≠1→k≠10→w=[])
 rw [Z9] at h
 split at h
 ·simp only [decide_eq_true_eq] at h
  rw [List.eq_nil_of_length_eq_zero h.2]
  exact ⟨fun x hx=> (by cases hx),fun h0=> absurd ‹_› h0⟩
 ·split at h
  ·simp only [decide_eq_true_eq] at h
   rw [List.eq_nil_of_length_eq_zero h.2]
   exact ⟨fun x hx=> (by cases hx),fun _ _ h0=> absurd ‹_› h0⟩
  ·split at h
   ·cases h
   ·split at h
    ·simp only [Bool.and_eq_true] at h
     exact ⟨fun x hx=> ⟨⟨_,Z72 h.2 x hx⟩,hk x hx⟩,fun _ h1=> absurd ‹_› h1⟩
    ·simp only [Bool.and_eq_true,decide_eq_true_eq] at h
     exact ⟨fun x hx=> ⟨⟨_,Z72 h.2 x hx⟩,hk x hx⟩,fun _ _ _=> List.eq_nil_of_length_eq_zero h.1.2.2.1⟩
theorem Zx0:RT_ Tree.nil:=⟨⟨1,rfl⟩,Jj⟩
theorem Z9R{l:List Tree}(h:∀ t∈l,RT_ t)(i:Nat):RT_ (l.getD i Tree.nil):=by
 by_cases hi:i < l.length
 ·exact h _ (Zm hi _)
 ·rw [List.getD_eq_getElem?_getD,List.getElem?_eq_none (by omega)];exact Zx0
theorem Zf4{t:Tree}(h:rng t):isI t.kind∧(∀ x∈t.words,isW x)∧Yb t.kids:=by obtain ⟨k,w,ks⟩:=t;exact h
theorem Z5l{list:Int}{o:Op}{d:Int}(h:Za list o d=true):o.kind=0∨o.kind=1∨o.kind=2∨o.kind=3:=by
 have r:=ZC h
 cases r with
 | keep=> exact .inl rfl
 | gone=> exact .inr (.inl rfl)
 | come=> exact .inr (.inr (.inl rfl))
 | into=> exact .inr (.inr (.inr rfl))
end Go.AM.Ytpjenobkibfpcaa
namespace Go.AM.Ytpjenobkibfpcaa
open Go.AM Go.Proofs
def Rx(x y:List Tree × List Tree):Prop:=EqvL x.1 y.1∧EqvL x.2 y.2
theorem Rx.rfl'(a:Option (List Tree × List Tree)):OptR Rx a a:=by cases a;exact trivial;exact ⟨rfl,rfl⟩
theorem Rx.of{a b:Option (List Tree × List Tree)}(h:a=b):OptR Rx a b:=by rw [h];exact Rx.rfl' b
theorem OptR.trans'{α:Type}{R:α→α→Prop}(ht:∀ x y z,R x y→R y z→R x z){a b c:Option α}(h1:OptR R a b)(h2:OptR R b c):OptR R a c:=by
 cases a <;> cases b <;> cases c <;> first | exact trivial | exact h1.elim | exact h2.elim | exact ht _ _ _ h1 h2
theorem Rx.trans{a b c:Option (List Tree × List Tree)}(h1:OptR Rx a b)(h2:OptR Rx b c):OptR Rx a c:=
 OptR.trans' (fun _ _ _ p q=> ⟨Eq.trans p.1 q.1,Eq.trans p.2 q.2⟩) h1 h2
theorem Z49(r:Bool):∀ (a b:List Op) (rest out:List Tree),ZE r (a++b) rest out=(ZE r a rest out).bind fun x=> ZE r b x.2 x.1
 | [],b,rest,out=> by rw [ZE];try rfl
 | o ::s,b,rest,out=> by
  rw [List.cons_append,ZE,ZE]
  cases h:Z1z r o rest out with
  | none=> rfl
  | some x=> rw [Option.bind_some,Option.bind_some];exact Z49 r s b _ _
theorem Z91(r:Bool)(o:Op)(rest out:List Tree):ZE r [o] rest out=Z1z r o rest out:=by
 rw [ZE]
 cases Z1z r o rest out with
 | none=> rfl
 | some x=> rw [Option.bind_some,ZE]
theorem Z5V(r:Bool)(a:List Op)(o:Op)(rest out:List Tree):ZE r (a++[o]) rest out=(ZE r a rest out).bind fun x=> Z1z r o x.2 x.1:=by
 rw [Z49]
 congr 1
 funext x
 exact Z91 r o _ _
theorem Z3l{r:Bool}:∀ {os:List Op} {rest out:List Tree} {x:List Tree × List Tree},ZE r os rest out=some x→∃ n,x.2=rest.drop n
 | [],rest,out,x,h=> by rw [ZE] at h;cases h;exact ⟨0,by simp⟩
 | o ::s,rest,out,x,h=> by
  rw [ZE] at h
  obtain ⟨y,hy,hx⟩:=Option.bind_eq_some_iff.1 h
  obtain ⟨n,hn⟩:=Z3l hx
  have:∃ m,y.2=rest.drop m:=by
   rw [YD] at hy
   split at hy
   ·split at hy
    ·cases hy;exact ⟨_,rfl⟩
    ·cases hy
   ·split at hy
    ·split at hy
     ·cases hy;exact ⟨_,rfl⟩
     ·cases hy
    ·split at hy
     ·cases hy;exact ⟨0,by simp⟩
     ·split at hy
      ·cases hy
      ·obtain ⟨u,_,e⟩:=Option.map_eq_some_iff.1 hy
       cases e
       exact ⟨1,rfl⟩
  obtain ⟨m,hm⟩:=this
  exact ⟨m+n,by rw [hn,hm,List.drop_drop]⟩
theorem Zn9(rest:List Tree):JA [] rest=true:=by unfold JA;rw [Z1W.2 (by simp)];simp
theorem ZhP(l rest:List Tree):JA (Z5 l) rest=JA l rest:=by
 unfold JA
 rw [Zal,show (Z5 l).length=l.length by simp [Z5]]
theorem Z17(l rest:List Tree):JA l rest=true↔l.length≤rest.length∧Z5 l=Z5 (rest.take l.length):=by
 unfold JA
 rw [Bool.and_eq_true,decide_eq_true_eq,Z1W]
theorem Znb(a b rest:List Tree):JA (a++b) rest=(JA a rest && JA b (rest.drop a.length)):=by
 rw [Bool.eq_iff_iff,Bool.and_eq_true,Z17,Z17,Z17]
 simp only [List.length_append,List.length_drop]
 constructor
 ·rintro ⟨h1,h2⟩
  rw [Ye,List.take_add,Ye] at h2
  obtain ⟨h3,h4⟩:=List.append_inj h2 (by simp [Z5];omega)
  exact ⟨⟨by omega,h3⟩,by omega,h4⟩
 ·rintro ⟨⟨h1,h2⟩,h3,h4⟩
  refine ⟨by omega,?_⟩
  rw [Ye,List.take_add,Ye,h2,h4]
theorem Z8Z(s:Wst)(rest out:List Tree):ZE false (Z3 s).out rest out=(ZE false s.out rest out).bind fun x=> if JA s.gone x.2=true then some (x.1++s.brought,x.2.drop s.gone.length) else none:=by
 simp only [Z3,Z0v]
 rw [Z49]
 congr 1
 funext x
 rw [Z49]
 have h1:ZE false (if s.gone.length=0 then [] else [⟨1,0,s.gone,Edit.nil⟩]) x.2 x.1=if JA s.gone x.2=true then some (x.1,x.2.drop s.gone.length) else none:=by
  split
  ·rename_i h
   rw [List.eq_nil_of_length_eq_zero h,Zn9,if_pos rfl,ZE]
   try rfl
  ·rw [Z91,YD]
   rw [if_neg (by show ¬(1:Int)=0;omega),if_pos rfl]
 have h2:∀ y:List Tree × List Tree,ZE false (if s.brought.length=0 then [] else [⟨2,0,s.brought,Edit.nil⟩]) y.2 y.1=some (y.1++s.brought,y.2):=by
  intro y
  split
  ·rename_i h
   rw [List.eq_nil_of_length_eq_zero h,List.append_nil,ZE]
  ·rw [Z91,YD]
   rw [if_neg (by show ¬(2:Int)=0;omega),if_neg (by show ¬(2:Int)=1;omega),if_pos rfl]
 rw [h1]
 split
 ·rw [Option.bind_some,h2]
 ·try rfl
theorem Zt6{F:List Op}{n:Int}(hF:∀ o∈F,0≤o.n)(hn:0≤n)(rest out:List Tree):ZE false (Z1K F n) rest out=ZE false (F++[⟨0,n,[],Edit.nil⟩]) rest out:=by
 rcases Z01 F n with h | ⟨a,o,h1,h2,h3⟩
 ·rw [h]
 ·rw [h3,h1,Z5V,Z5V,Z5V]
  cases hx:ZE false a rest out with
  | none=> rfl
  | some x=>
   have ho:=hF o (by rw [h1];simp)
   simp only [Option.bind_some]
   rw [YD,YD,if_pos h2,if_pos h2]
   simp only
   have e:(o.n+n).toNat=o.n.toNat+n.toNat:=by omega
   rw [e]
   by_cases c:o.n.toNat≤x.2.length
   ·rw [if_pos c,Option.bind_some,YD,if_pos rfl]
    simp only [List.length_drop]
    by_cases c2:n.toNat≤x.2.length - o.n.toNat
    ·rw [if_pos c2,if_pos (by omega),List.drop_drop,List.append_assoc,←List.take_add]
    ·rw [if_neg c2,if_neg (by omega)]
   ·rw [if_neg c,if_neg (by omega)]
    try rfl
def N0s(s:Wst):Prop:=∀ o∈s.out,0≤o.n
theorem N0s.flush{s:Wst}(h:N0s s):∀ o∈(Z3 s).out,0≤o.n:=by
 intro o ho
 simp only [Z3,Z0v,List.mem_append] at ho
 rcases ho with ho | ho | ho
 ·exact h o ho
 ·split at ho
  ·cases ho
  ·simp only [List.mem_singleton] at ho;subst ho;exact Int.le_refl 0
 ·split at ho
  ·cases ho
  ·simp only [List.mem_singleton] at ho;subst ho;exact Int.le_refl 0
theorem N0s.keep{s:Wst}(h:N0s s){n:Int}(hn:0≤n):N0s (ZX s n):=by
 intro o ho
 simp only [ZX] at ho
 rcases Z01 (Z3 s).out n with e | ⟨a,p,h1,h2,h3⟩
 ·rw [e] at ho
  rcases List.mem_append.1 ho with ho | ho
  ·exact h.flush o ho
  ·simp only [List.mem_singleton] at ho;subst ho;exact hn
 ·rw [h3] at ho
  rcases List.mem_append.1 ho with ho | ho
  ·exact h.flush o (by rw [h1];simp [ho])
  ·simp only [List.mem_singleton] at ho;subst ho
   have:=h.flush p (by rw [h1];simp)
   show 0≤p.n+n
   omega
theorem Zk7{list d:Int}{o:Op}(h:Za list o d=true):0≤o.n:=by
 have r:=ZC h
 cases r with
 | keep n h1=> show 0≤n;omega
 | gone | come | into=> exact Int.le_refl 0
theorem N0s.op{list d:Int}{s:Wst}{o:Op}(h:N0s s)(hr:Za list o d=true):N0s (Z1t list o s):=by
 rw [Z3U]
 split
 ·exact h.keep (Zk7 hr)
 ·split
  ·exact h
  ·split
   ·exact h
   ·split
    ·split
     ·exact h.keep (by omega)
     ·intro p hp
      rcases List.mem_append.1 hp with hp | hp
      ·exact h.flush p hp
      ·simp only [List.mem_singleton] at hp;subst hp;exact Int.le_refl 0
    ·exact h
def K9(list:Int)(l:List Tree):Prop:=(∀ t∈l,RT_ t)∧(list=9→∀ t∈l,t.kind=1)
theorem K9.drop{list:Int}{l:List Tree}(h:K9 list l)(n:Nat):K9 list (l.drop n):=⟨fun t ht=> h.1 t (List.mem_of_mem_drop ht),fun e t ht=> h.2 e t (List.mem_of_mem_drop ht)⟩
theorem Zk8{d:Int}:∀ {l:List Tree},Y7 9 l d=true→∀ t∈l,t.kind=1
 | [],_,t,ht=> by cases ht
 | a ::r,h,t,ht=> by
  simp only [Y7,Bool.and_eq_true] at h
  rcases List.mem_cons.1 ht with rfl | ht
  ·have:=h.1.1
   simpa [Jz] using this
  ·exact Zk8 h.2 t ht
theorem RT_.k9{t:Tree}(h:RT_ t):K9 t.kind t.kids:=by
 refine ⟨h.kids.1,fun e=> ?_⟩
 obtain ⟨⟨d,h⟩,_⟩:=h
 obtain ⟨k,w,ks⟩:=t
 have e:k=9:=e
 subst e
 rw [Z9,if_neg (by omega),if_neg (by omega)] at h
 split at h
 ·cases h
 ·rw [if_neg (by omega)] at h
  simp only [Bool.and_eq_true] at h
  exact Zk8 h.2
theorem ZrY {list d:Int} {s:Wst} {o:Op} (hs:N0s s) (hr:Za list o d=true) {rest:List Tree} (hk:K9 list rest) (out:List Tree)
  (ih:∀ y,RT_ y→Z0 o.e d=true→OptR Eqv (doE false (ZR o.e) y) (doE false o.e y)):
  OptR Rx (ZE false (Z3 (Z1t list o s)).out rest out) ((ZE false (Z3 s).out rest out).bind fun x=> Z1z false o x.2 x.1):=by
 have keep:∀ n:Int,0≤n→ZE false (Z3 (ZX s n)).out rest out=(ZE false (Z3 s).out rest out).bind fun x=> Z1z false ⟨0,n,[],Edit.nil⟩ x.2 x.1:=by
  intro n hn
  have e:(Z3 (ZX s n)).out=Z1K (Z3 s).out n:=by simp [Z3,Z0v,ZX]
  rw [e,Zt6 hs.flush hn,Z5V]
 rw [Z3U]
 have r1:=Z5l hr
 by_cases h0:o.kind=0
 ·rw [if_pos h0,keep _ (Zk7 hr)]
  refine Rx.of ?_
  congr 1
  funext x
  rw [YD,YD,if_pos rfl,if_pos h0]
 ·rw [if_neg h0]
  by_cases h1:o.kind=1
  ·rw [if_pos h1,Z8Z,Z8Z]
   refine Rx.of ?_
   rw [Option.bind_assoc]
   congr 1
   funext x
   simp only
   rw [Znb,ZhP]
   by_cases c:JA s.gone x.2=true
   ·rw [if_pos c,c,Bool.true_and,Option.bind_some,YD,if_neg h0,if_pos h1]
    simp only
    rw [List.drop_drop,show (s.gone++Z5 o.l).length=s.gone.length+o.l.length by simp [Z5]]
   ·rw [if_neg c,if_neg (by simp only [Bool.and_eq_true];exact fun h=> c h.1)]
    try rfl
  ·rw [if_neg h1]
   by_cases h2:o.kind=2
   ·rw [if_pos h2,Z8Z,Z8Z,Option.bind_assoc]
    refine OptR.bind (R:=Eq) (OptR.rfl' _) ?_
    rintro x _ rfl
    simp only
    split
    ·rw [Option.bind_some,YD,if_neg h0,if_neg h1,if_pos h2]
     refine ⟨?_,rfl⟩
     show Z5 (x.1++(s.brought++Z5 o.l))=Z5 (x.1++s.brought++o.l)
     simp only [Ye,Zal,List.append_assoc]
    ·exact trivial
   ·have h3:o.kind=3:=by rcases r1 with h | h | h | h <;> first | exact absurd h h0 | exact absurd h h1 | exact absurd h h2 | exact h
    rw [if_neg h2,if_pos h3]
    have hre:=YE hr h3
    have ra:=ZC hr
    by_cases hi:Z6O list (ZR o.e)=true
    ·rw [if_pos hi,keep 1 (by omega)]
     cases hx:ZE false (Z3 s).out rest out with
     | none=> exact trivial
     | some x=>
      obtain ⟨m,hm⟩:=Z3l hx
      have hk2:=hk.drop m
      rw [←hm] at hk2
      simp only [Option.bind_some]
      rw [YD,YD,if_pos rfl,if_neg h0,if_neg h1,if_neg h2]
      cases hx2:x.2 with
      | nil=> exact trivial
      | cons y q=>
       rw [hx2] at hk2
       have hek:o.e.kind≠0:=by
        cases ra with
        | into e _ h=> exact h
        | keep | gone | come=> exact absurd h3 (by simp)
       simp only [Z6O,decide_eq_true_eq,Z3V] at hi
       rcases hi with hi | ⟨hl9,he2,hw,hks⟩
       ·exact absurd hi hek
       ·have hy:=hk2.2 hl9 y List.mem_cons_self
        have hn:=Z8c o.e
        rw [if_neg (by omega),if_pos he2] at hn
        have e1:o.e.words=[]:=by rw [hn] at hw;exact List.eq_nil_of_length_eq_zero hw
        have e2:o.e.kids=[]:=by
         rw [hn] at hks
         have:(Z0h o.e.kids).length=0:=hks
         cases hh:o.e.kids with
         | nil=> rfl
         | cons a b=> rw [hh] at this;simp [Z0h] at this
        have hd:doE false o.e y=some (.mk 1 y.words y.kids):=by
         rw [Z0R,if_neg hek,if_neg (by omega),if_pos he2,if_pos hy,e1,e2,wsD,Option.bind_some,Jf]
         try rfl
        rw [if_neg (show ¬(y ::q).length=0 by simp),List.getD_cons_zero,hd,if_pos (show Int.toNat 1≤(y ::q).length by simp)]
        refine ⟨?_,rfl⟩
        show Z5 (x.1++[y])=Z5 (x.1++[Tree.mk 1 y.words y.kids])
        rw [show Tree.mk 1 y.words y.kids=y by rw [←hy];exact Tree.eta y]
    ·rw [if_neg hi]
     have e:(Z3 ⟨(Z3 s).out++[⟨3,0,[],ZR o.e⟩],[],[]⟩).out=(Z3 s).out++[⟨3,0,[],ZR o.e⟩]:=by simp [Z3,Z0v]
     rw [e,Z5V]
     cases hx:ZE false (Z3 s).out rest out with
     | none=> exact trivial
     | some x=>
      obtain ⟨m,hm⟩:=Z3l hx
      have hk2:=hk.drop m
      rw [←hm] at hk2
      simp only [Option.bind_some]
      rw [YD,YD,if_neg h0,if_neg h1,if_neg h2,if_neg (by show ¬(3:Int)=0;omega),if_neg (by show ¬(3:Int)=1;omega),if_neg (by show ¬(3:Int)=2;omega)]
      refine OptR.ite Iff.rfl (fun _=> trivial) fun _=> ?_
      exact (ih _ (Z9R hk2.1 0) hre).map fun u v h=> ⟨Z13 rfl (JF.2 h),rfl⟩
mutual
theorem ZcB:∀ (e:Edit) (d:Int) (t:Tree),Z0 e d=true→RT_ t→OptR Eqv (doE false (ZR e) t) (doE false e t)
 | .mk k o n w ks l os,d,t,hr,ht=> by
  have ri:=Zp hr
  have h1:=Zhl ks
  have h2:=Zhk l os
  have hkid:=ht.kids.1
  have hn:ZR (.mk k o n w ks l os)=if k=1 then .mk k (Z7 o) (Z7 n) [] [] l [] else if k=2 then .mk k Tree.nil Tree.nil w (Z0h ks) l [] else if k=3 then .mk k Tree.nil Tree.nil [] [] l (Z3 (YL l os ⟨[],[],[]⟩)).out else .mk k Tree.nil Tree.nil [] [] l []:=by rw [ZR]
  rw [Z4S,Z4S,Yp,Yp]
  by_cases c1:k=1
  ·subst c1
   rw [if_pos rfl] at hn
   unfold Zdu
   rw [hn]
   refine OptR.ite Iff.rfl (fun _=> rfl) fun _=> OptR.ite Iff.rfl (fun _=> ?_) (fun h=> absurd rfl h)
   show OptR Eqv (if Jo (Z7 (Z7 o)) (Z7 t)=true then some (Z7 n) else none) (if Jo (Z7 o) (Z7 t)=true then some n else none)
   rw [J0]
   exact OptR.ite Iff.rfl (fun _=> J0 n) (fun _=> trivial)
  ·by_cases c2:k=2
   ·subst c2
    rw [if_neg c1,if_pos rfl] at hn
    unfold Zdu
    rw [hn]
    refine OptR.ite Iff.rfl (fun _=> rfl) fun _=> OptR.ite Iff.rfl (fun h=> absurd h c1) fun _=> OptR.ite Iff.rfl (fun _=> ?_) (fun h=> absurd rfl h)
    refine OptR.ite Iff.rfl (fun ht1=> ?_) (fun _=> trivial)
    refine OptR.bind (R:=Eq) (OptR.rfl' _) ?_
    rintro a _ rfl
    exact (h1 (d - 1) t.kids t.kids t.kids (fun k hk=> (ZG ri.kids k hk).2) hkid rfl).map fun x y h=> Z5D _ _ h
   ·by_cases c3:k=3
    ·subst c3
     rw [if_neg c1,if_neg c2,if_pos rfl] at hn
     unfold Zdu
     rw [hn]
     refine OptR.ite Iff.rfl (fun _=> rfl) fun _=> OptR.ite Iff.rfl (fun h=> absurd h c1) fun _=> OptR.ite Iff.rfl (fun h=> absurd h c2) fun _=> OptR.ite Iff.rfl (fun _=> ?_) (fun h=> absurd rfl h)
     refine OptR.ite Iff.rfl (fun ht1=> ?_) (fun _=> trivial)
     have hk9:=ht.k9
     rw [ht1] at hk9
     have:=h2 (d - 1) ⟨[],[],[]⟩ t.kids [] (fun o ho=> Go.AM.rightOs_mem ri.ops o ho) (fun o ho=> by cases ho) hk9
     exact (ZhU this).map fun x y h=> Z5D _ _ h
    ·have e0:k=0:=by have:=ri.kind;have:0≤k∧k≤3:=this;omega
     subst e0
     rw [if_neg c1,if_neg c2,if_neg c3] at hn
     unfold Zdu
     rw [hn]
     exact OptR.ite Iff.rfl (fun _=> rfl) fun h=> absurd rfl h
theorem Zhl:∀ (ks:List (KidOf Edit)) (d:Int) (tk a b:List Tree),(∀ k∈ks,Z0 k.e d=true)→(∀ t∈tk,RT_ t)→EqvL a b→OptR EqvL (Jf false tk (Z0h ks) a) (Jf false tk ks b)
 | [],d,tk,a,b,_,_,h=> by rw [Z0h];exact h
 | k ::r,d,tk,a,b,hr,ht,h=> by
  rw [Z0h,Jf,Jf]
  have e:(Z2J k).at_=k.at_:=by cases k;rfl
  rw [e]
  refine (ZmL k d tk (hr k List.mem_cons_self) ht).bind fun x y hxy=> Zhl r d tk _ _ (fun q hq=> hr q (List.mem_cons_of_mem _ hq)) ht (ZmM h hxy)
theorem ZmL:∀ (k:KidOf Edit) (d:Int) (tk:List Tree),Z0 k.e d=true→(∀ t∈tk,RT_ t)→OptR Eqv (Z1A false tk (Z2J k)) (Z1A false tk k)
 | ⟨a,e⟩,d,tk,hr,ht=> by rw [Z2J,Z1A,Z1A];exact ZcB e d _ hr (Z9R ht _)
theorem Zhk(list:Int):∀ (os:List (OpOf Edit)) (d:Int) (s:Wst) (rest out:List Tree),(∀ o∈os,Za list o d=true)→N0s s→K9 list rest→OptR Rx (ZE false (Z3 (YL list os s)).out rest out) (ZE false ((Z3 s).out++os) rest out)
 | [],d,s,rest,out,_,_,_=> by rw [YL,List.append_nil];exact Rx.rfl' _
 | o ::r,d,s,rest,out,hr,hs,hk=> by
  have ho:=hr o List.mem_cons_self
  have st:=ZrY hs ho hk out (Zpt o d)
  rw [YL]
  refine Rx.trans (Zhk list r d _ rest out (fun q hq=> hr q (List.mem_cons_of_mem _ hq)) (hs.op ho) hk) ?_
  rw [Z49,Z49]
  have e:∀ x:List Tree × List Tree,ZE false (o ::r) x.2 x.1=(Z1z false o x.2 x.1).bind fun y=> ZE false r y.2 y.1:=fun x=> by rw [ZE]
  rw [show (fun x:List Tree × List Tree=> ZE false (o ::r) x.2 x.1)=fun x=> (Z1z false o x.2 x.1).bind fun y=> ZE false r y.2 y.1 from funext e,←Option.bind_assoc]
  exact st.bind fun x y hxy=> Zd3 r _ _ _ _ hxy.2 hxy.1 (fun q hq=> ⟨_,_,hr q (List.mem_cons_of_mem _ hq)⟩)
theorem Zpt:∀ (o:OpOf Edit) (d:Int),∀ y,RT_ y→Z0 o.e d=true→OptR Eqv (doE false (ZR o.e) y) (doE false o.e y)
 | ⟨_,_,_,e⟩,d,y,hy,hr=> ZcB e d y hr hy
end
end Go.AM.Ytpjenobkibfpcaa
namespace Go.AM.Ytpjenobkibfpcaa
open Go.AM Go.Proofs
mutual
theorem Z98:∀ e:Edit,Zv (Zv e)=e
 | .mk k o n w ks l os=> by
  simp only [Zv]
  rw [ZmX,Z9V ks,Z9U os]
theorem Z9V:∀ ks:List (KidOf Edit),Y3 (Y3 ks)=ks
 | []=> rfl
 | k ::r=> by simp only [Y3];rw [ZeT k,Z9V r]
theorem ZeT:∀ k:KidOf Edit,YN (YN k)=k
 | ⟨a,e⟩=> by simp only [YN];rw [Z98 e]
theorem Z9U:∀ os:List (OpOf Edit),Y6 (Y6 os)=os
 | []=> rfl
 | o ::r=> by simp only [Y6];rw [Zgz o,Z9U r]
theorem Zgz:∀ o:OpOf Edit,ZZ (ZZ o)=o
 | ⟨k,n,l,e⟩=> by
  have h:=Z98 e
  simp only [ZZ]
  split
  ·rename_i c;subst c;rfl
  ·split
   ·rename_i c;subst c;rfl
   ·split
    ·rename_i c;subst c;simp only [ZZ];rw [h];try rfl
    ·rename_i c1 c2 c3;simp only [ZZ];rw [if_neg c1,if_neg c2,if_neg c3]
end
theorem ZmS{a n m:Int}(hn:isW n)(hw:ZK n m=true):mix 0 (mix a n m) m=n:=by
 unfold ZK at hw
 have hw:mix n 0 m=0:=of_decide_eq_true hw
 refine Z2Y (Z0s _ _ _) hn fun i hi=> ?_
 have e:=congrArg (fun x=> Zd x i) hw
 simp only [Z1v hi,Yx] at e
 rw [Z1v hi,Yx]
 by_cases h:YC m i=true
 ·rw [if_pos h,Z1v hi,Yx,if_pos h]
 ·rw [if_neg h] at e ⊢
  exact e.symm
theorem ZmR{a n o m:Int}(ha:isW a)(ho:mix 0 a m=o):mix (mix a n m) o m=a:=by
 refine Z2Y (Z0s _ _ _) ha fun i hi=> ?_
 rw [Z1v hi,Yx]
 by_cases h:YC m i=true
 ·rw [if_pos h,←ho,Z1v hi,Yx,if_pos h]
 ·rw [if_neg h,Z1v hi,Yx,if_neg h]
theorem Z6i{α β:Type}{z:α}{f:β→Option α}{p:β→Int}:∀ {ws:List β} {out:List α},(∀ w∈ws,∃ v,f w=some v)→∃ r,mg z f p ws out=some r
 | [],out,_=> ⟨out,rfl⟩
 | w ::s,out,h=> by
  obtain ⟨v,hv⟩:=h w List.mem_cons_self
  rw [mg,hv,Option.bind_some]
  exact Z6i fun x hx=> h x (List.mem_cons_of_mem _ hx)
theorem ZeQ{l:List Int}(h:∀ x∈l,isW x)(i:Nat):isW (l.getD i 0):=by
 by_cases hi:i < l.length
 ·exact h _ (Zm hi _)
 ·rw [List.getD_eq_getElem?_getD,List.getElem?_eq_none (by omega)];show 0≤(0:Int)∧(0:Int) < _;omega
theorem Zif{tw:List Int}{ws:List WEdit}{r:List Int}(hw:Zk (-1) ws=true)(it:∀ x∈tw,isW x)(iw:∀ w∈ws,Z1s w)(h:wsD tw ws tw=some r):∃ v,wsD r (ws.map YG) r=some v∧ZnF v tw:=by
 rw [ZeM] at h
 obtain ⟨a1,a2⟩:=Z3A (by omega) (Z0X hw) h
 have key:∀ w∈ws,(if mix 0 (r.getD (YG w).at_.toNat 0) (YG w).mask=(YG w).old then some (mix (r.getD (YG w).at_.toNat 0) (YG w).new (YG w).mask) else none)=some (tw.getD w.at_.toNat 0):=by
  intro w hm
  obtain ⟨v,hv,hr⟩:=a1 w hm
  split at hv
  ·rename_i c
   cases hv
   have ok:=Y8 hw w hm
   show (if mix 0 (r.getD w.at_.toNat 0) w.mask=w.new then some (mix (r.getD w.at_.toNat 0) w.old w.mask) else none)=_
   rw [hr,ZmS (iw w hm).2.2.2 ok.2.2.2.2,if_pos rfl,ZmR (ZeQ it _) c]
  ·cases hv
 have hw':Zk (-1) (ws.map YG)=true:=by rw [Z4h];exact hw
 obtain ⟨v,hv⟩:=Z6i (z:=0) (p:=WEdit.at_) (out:=r) (f:=fun w=> if mix 0 (r.getD w.at_.toNat 0) w.mask=w.old then some (mix (r.getD w.at_.toNat 0) w.new w.mask) else none) (ws:=ws.map YG) (fun w hm=> by
  obtain ⟨x,hx,rfl⟩:=List.mem_map.1 hm
  exact ⟨_,key x hx⟩)
 obtain ⟨b1,b2⟩:=Z3A (by omega) (Z0X hw') hv
 refine ⟨v,by rw [ZeM];exact hv,fun i=> ?_⟩
 by_cases hi:∃ w∈ws,w.at_.toNat=i
 ·obtain ⟨w,hm,rfl⟩:=hi
  obtain ⟨y,hy,hr⟩:=b1 (YG w) (List.mem_map_of_mem hm)
  have:=key w hm
  rw [this] at hy
  cases hy
  exact hr
 ·have h1:∀ w∈ws,w.at_.toNat≠i:=fun w hm e=> hi ⟨w,hm,e⟩
  rw [b2 i (fun w hm=> by obtain ⟨x,hx,rfl⟩:=List.mem_map.1 hm;exact h1 x hx),a2 i h1]
theorem Z6U:∀ {ks:List Kid} {k:Kid},k∈Y3 ks→∃ q∈ks,k=YN q
 | [],k,h=> by cases h
 | a ::r,k,h=> by
  rw [Y3] at h
  rcases List.mem_cons.1 h with rfl | h
  ·exact ⟨a,List.mem_cons_self,rfl⟩
  ·obtain ⟨q,hq,e⟩:=Z6U h
   exact ⟨q,List.mem_cons_of_mem _ hq,e⟩
theorem ZcL:∀ {ks:List Kid} {k:Kid},k∈ks→YN k∈Y3 ks
 | [],k,h=> by cases h
 | a ::r,k,h=> by
  rw [Y3]
  rcases List.mem_cons.1 h with rfl | h
  ·exact List.mem_cons_self
  ·exact List.mem_cons_of_mem _ (ZcL h)
theorem Z1b(k:Kid):(YN k).at_=k.at_∧(YN k).e=Zv k.e:=by cases k;exact ⟨rfl,rfl⟩
theorem Zn4 {tk:List Tree} {ks:List Kid} {r:List Tree} {d:Int} (hk:Zr (-1) ks d=true) (h:Jf false tk ks tk=some r)
  (ih:∀ k∈ks,∀ u,doE false k.e (tk.getD k.at_.toNat Tree.nil)=some u→∃ v,doE false (Zv k.e) u=some v∧Eqv v (tk.getD k.at_.toNat Tree.nil)):∃ v,Jf false r (Y3 ks) r=some v∧ZjI v tk:=by
 rw [Zbf] at h
 obtain ⟨a1,a2⟩:=Z3A (by omega) (Z2Q hk) h
 have key:∀ k∈ks,∃ v,Z1A false r (YN k)=some v∧Eqv v (tk.getD k.at_.toNat Tree.nil):=by
  intro k hm
  obtain ⟨u,hu,hr⟩:=a1 k hm
  rw [Z4a] at hu
  obtain ⟨v,hv,he⟩:=ih k hm u hu
  refine ⟨v,?_,he⟩
  rw [Z4a,(Z1b k).1,(Z1b k).2,hr]
  exact hv
 have hk':=Z4B ks _ _ hk
 obtain ⟨v,hv⟩:=Z6i (z:=Tree.nil) (p:=KidOf.at_) (out:=r) (f:=Z1A false r) (ws:=Y3 ks) (fun k hm=> by
  obtain ⟨q,hq,rfl⟩:=Z6U hm
  obtain ⟨v,hv,_⟩:=key q hq
  exact ⟨v,hv⟩)
 obtain ⟨b1,b2⟩:=Z3A (by omega) (Z2Q hk') hv
 refine ⟨v,by rw [Zbf];exact hv,fun i=> ?_⟩
 by_cases hi:∃ k∈ks,k.at_.toNat=i
 ·obtain ⟨k,hm,rfl⟩:=hi
  obtain ⟨y,hy,hr⟩:=b1 (YN k) (ZcL hm)
  obtain ⟨x,hx,he⟩:=key k hm
  rw [hx] at hy
  cases hy
  rw [(Z1b k).1] at hr
  rw [hr]
  exact he
 ·have h1:∀ k∈ks,k.at_.toNat≠i:=fun k hm e=> hi ⟨k,hm,e⟩
  rw [b2 i (fun k hm=> by obtain ⟨q,hq,rfl⟩:=Z6U hm;rw [(Z1b q).1];exact h1 q hq),a2 i h1]
  exact rfl
theorem Zom(n:Int)(l:List Tree)(e:Edit):ZZ ⟨0,n,l,e⟩=⟨0,n,l,e⟩:=rfl
theorem Zol(n:Int)(l:List Tree)(e:Edit):ZZ ⟨1,n,l,e⟩=⟨2,n,l,e⟩:=rfl
theorem Zok(n:Int)(l:List Tree)(e:Edit):ZZ ⟨2,n,l,e⟩=⟨1,n,l,e⟩:=rfl
theorem Zoj(n:Int)(l:List Tree)(e:Edit):ZZ ⟨3,n,l,e⟩=⟨3,n,l,Zv e⟩:=rfl
mutual
theorem Zb4:∀ (e:Edit) (d:Int) (t u:Tree),Z0 e d=true→ZS e→RT_ t→doE false e t=some u→∃ v,doE false (Zv e) u=some v∧Eqv v t
 | .mk k o n w ks l os,d,t,u,hr,he,ht,h=> by
  have ri:=Zp hr
  have h1:=ZdH ks
  have h2:=ZdG os
  have hkid:=ht.kids
  have hta:=Zf4 ht.2
  have hea:(∀ x∈w,Z1s x)∧JT ks∧JL os:=by simp only [ZS] at he;exact ⟨he.2.2.2.1,he.2.2.2.2.2.1,he.2.2.2.2.2.2⟩
  rw [Z4S,Yp] at h
  unfold Zdu at h
  simp only [Zv]
  have hraw:∀ u:Tree,Zdu false (.mk k n o (w.map YG) (Y3 ks) l (Y6 os)) u=if k=0 then some u else if k=1 then (if Jo (Z7 n) (Z7 u)=true then some o else none) else if k=2 then (if u.kind=1 then (wsD u.words (w.map YG) u.words).bind fun a=> (Jf false u.kids (Y3 ks) u.kids).map fun b=> .mk 1 a b else none) else if k=3 then (if u.kind=l then (Z19 (ZE false (Y6 os) u.kids [])).map fun b=> .mk l [] b else none) else none:=fun _=> rfl
  have fin:∀ x v,x=some v→Eqv v t→Zdu false (.mk k n o (w.map YG) (Y3 ks) l (Y6 os)) u=x→∃ v,doE false (.mk k n o (w.map YG) (Y3 ks) l (Y6 os)) u=some v∧Eqv v t:=by
   rintro x v rfl hv hx
   exact ⟨v,by rw [Z4S,Yp];exact hx,hv⟩
  split at h
  ·rename_i c
   cases h
   refine fin _ t rfl rfl ?_
   replace c:k=0:=c
   rw [hraw,if_pos c]
  ·rename_i c0
   replace c0:¬k=0:=c0
   split at h
   ·rename_i c1
    replace c1:k=1:=c1
    split at h
    ·rename_i c
     cases h
     refine fin _ o rfl (Jd.1 c) ?_
     rw [hraw,if_neg c0,if_pos c1]
     show (if Jo (Z7 n) (Z7 n)=true then some o else none)=some o
     rw [ZbZ]
     try rfl
    ·cases h
   ·rename_i c1
    replace c1:¬k=1:=c1
    split at h
    ·rename_i c2
     replace c2:k=2:=c2
     split at h
     ·rename_i c
      obtain ⟨a,ha,hb⟩:=Option.bind_eq_some_iff.1 h
      obtain ⟨b,hb2,e⟩:=Option.map_eq_some_iff.1 hb
      obtain ⟨va,hva,ea⟩:=Zif ri.words hta.2.1 hea.1 ha
      obtain ⟨vb,hvb,eb⟩:=Zn4 ri.kids hb2 (fun q hq x hx=> h1 (d - 1) q hq _ x (ZG ri.kids q hq).2 hea.2.1 (Z9R hkid.1 _) hx)
      subst e
      refine fin _ (.mk 1 va vb) rfl ((Z2U rfl c).2 ⟨ea,eb⟩) ?_
      rw [hraw,if_neg c0,if_neg c1,if_pos c2,if_pos (show (Tree.mk 1 a b).kind=1 from rfl)]
      have q1:wsD a (w.map YG) a=some va:=hva
      have q2:Jf false b (Y3 ks) b=some vb:=hvb
      show ((wsD a (w.map YG) a).bind fun a_1=> (Jf false b (Y3 ks) b).map fun b_1=> Tree.mk 1 a_1 b_1)=_
      rw [q1,Option.bind_some,q2]
      try rfl
     ·cases h
    ·rename_i c2
     replace c2:¬k=2:=c2
     split at h
     ·rename_i c3
      replace c3:k=3:=c3
      split at h
      ·rename_i c
       obtain ⟨b,hb,e⟩:=Option.map_eq_some_iff.1 h
       unfold Z19 at hb
       obtain ⟨x,hx,hy⟩:=Option.bind_eq_some_iff.1 hb
       split at hy
       ·rename_i z0
        cases hy
        subst e
        obtain ⟨X,e1,hX⟩:=h2 (d - 1) t.kids [] x (fun q hq=> ⟨_,Go.AM.rightOs_mem ri.ops q hq⟩) hea.2.2 hkid.1 hx
        obtain ⟨Y,hY,e2⟩:=hX [] []
        have hl:2≤l∧l≤9:=ri.list c3
        have c:t.kind=l:=c
        rw [List.nil_append] at e1
        rw [List.append_nil,←e1,List.nil_append] at hY
        rw [List.eq_nil_of_length_eq_zero z0] at e2
        refine fin _ (.mk l [] Y) rfl ((ZhR (a:= .mk l [] Y) (by show l≠0;omega) (by show l≠1;omega)).2 ⟨c.symm,(hkid.2 (by omega) (by omega) (by omega)).symm,by show Z5 Y=Z5 t.kids;rw [←e2];simp [Z5]⟩) ?_
        rw [hraw,if_neg c0,if_neg c1,if_neg c2,if_pos c3,if_pos (show (Tree.mk (Edit.mk k o n w ks l os).list [] x.1).kind=l from rfl)]
        show (Z19 (ZE false (Y6 os) x.1 [])).map (fun b=> Tree.mk l [] b)=_
        rw [hY]
        try rfl
       ·cases hy
      ·cases h
     ·cases h
theorem ZdH:∀ (ks:List (KidOf Edit)) (d:Int),∀ k∈ks,∀ (t u:Tree),Z0 k.e d=true→JT ks→RT_ t→doE false k.e t=some u→∃ v,doE false (Zv k.e) u=some v∧Eqv v t
 | [],d,k,hk=> by cases hk
 | ⟨a,e⟩ ::r,d,k,hk=> by
  have h1:=Zb4 e d
  have h2:=ZdH r d
  intro t u hr hg ht h
  simp only [JT,Z0F] at hg
  rcases List.mem_cons.1 hk with rfl | hk
  ·exact h1 t u hr hg.1.2 ht h
  ·exact h2 k hk t u hr hg.2 ht h
theorem ZdG:∀ (os:List (OpOf Edit)) (d:Int) (rest out:List Tree) (x:List Tree × List Tree),(∀ o∈os,∃ l,Za l o d=true)→JL os→(∀ t∈rest,RT_ t)→ZE false os rest out=some x→
  ∃ X,x.1=out++X∧∀ z out2,∃ Y,ZE false (Y6 os) (X++z) out2=some (out2++Y,z)∧Z5 Y++Z5 x.2=Z5 rest
 | [],d,rest,out,x,_,_,_,h=> by
  rw [ZE] at h
  cases h
  exact ⟨[],by simp,fun z out2=> ⟨[],by rw [Y6,ZE];simp,by simp [Z5]⟩⟩
 | o ::s,d,rest,out,x,hr,hg,ht,h=> by
  rw [ZE] at h
  obtain ⟨y,hy,hx⟩:=Option.bind_eq_some_iff.1 h
  simp only [JL] at hg
  obtain ⟨X0,e0,h0⟩:=Zmd o d rest out y (hr o List.mem_cons_self) hg.1 ht hy
  have hsuf:∀ t∈y.2,RT_ t:=by
   obtain ⟨m,hm⟩:=Z3l (os:=[o]) (by rw [Z91];exact hy)
   rw [hm]
   exact fun t h=> ht t (List.mem_of_mem_drop h)
  obtain ⟨X1,e1,h1⟩:=ZdG s d y.2 y.1 x (fun q hq=> hr q (List.mem_cons_of_mem _ hq)) hg.2 hsuf hx
  refine ⟨X0++X1,by rw [e1,e0,List.append_assoc],fun z out2=> ?_⟩
  obtain ⟨Y0,p0,q0⟩:=h0 (X1++z) out2
  obtain ⟨Y1,p1,q1⟩:=h1 z (out2++Y0)
  refine ⟨Y0++Y1,?_,?_⟩
  ·rw [Y6,ZE,List.append_assoc,p0,Option.bind_some,p1,List.append_assoc]
  ·rw [Ye,List.append_assoc,q1,q0]
theorem Zmd:∀ (o:OpOf Edit) (d:Int) (rest out:List Tree) (y:List Tree × List Tree),(∃ l,Za l o d=true)→YA o→(∀ t∈rest,RT_ t)→Z1z false o rest out=some y→
  ∃ X,y.1=out++X∧∀ z out2,∃ Y,Z1z false (ZZ o) (X++z) out2=some (out2++Y,z)∧Z5 Y++Z5 y.2=Z5 rest
 | ⟨k,n,l,e⟩,d,rest,out,y,⟨li,hr⟩,hg,ht,h=> by
  have ie:=Zb4 e d (rest.getD 0 Tree.nil)
  have r1:=Z5l hr
  simp only [YA] at hg
  rw [Z1z] at h
  split at h
  ·rename_i c
   subst c
   split at h
   ·rename_i c
    cases h
    refine ⟨rest.take n.toNat,rfl,fun z out2=> ⟨rest.take n.toNat,?_,?_⟩⟩
    ·have hl:(rest.take n.toNat).length=n.toNat:=by rw [List.length_take];omega
     rw [Zom,Z1z,if_pos rfl,if_pos (by rw [List.length_append];omega),List.take_left' hl,List.drop_left' hl]
    ·rw [←Ye,List.take_append_drop]
   ·cases h
  ·rename_i c0
   split at h
   ·rename_i c
    subst c
    split at h
    ·rename_i c
     cases h
     refine ⟨[],by simp,fun z out2=> ⟨l,?_,?_⟩⟩
     ·rw [Zol,Z1z,if_neg (by omega),if_neg (by omega),if_pos rfl]
      try rfl
     ·rw [((Z17 l rest).1 c).2,←Ye,List.take_append_drop]
    ·cases h
   ·rename_i c1
    split at h
    ·rename_i c
     subst c
     cases h
     refine ⟨l,rfl,fun z out2=> ⟨[],?_,by simp [Z5]⟩⟩
     have hg2:JA l (l++z)=true:=by rw [Z17];exact ⟨by simp,by rw [List.take_left' rfl]⟩
     rw [Zok,Z1z,if_neg (by omega),if_pos rfl,if_pos hg2,List.drop_left' rfl,List.append_nil]
    ·rename_i c2
     split at h
     ·cases h
     ·rename_i z0
      have hk:k=3:=by rcases r1 with h | h | h | h <;> first | exact absurd h c0 | exact absurd h c1 | exact absurd h c2 | exact h
      subst hk
      obtain ⟨u,hu,ey⟩:=Option.map_eq_some_iff.1 h
      cases ey
      obtain ⟨v,hv,hev⟩:=ie u (YE hr rfl) hg.2.2.2 (Z9R ht 0) hu
      refine ⟨[u],rfl,fun z out2=> ⟨[v],?_,?_⟩⟩
      ·rw [Zoj,Z1z,if_neg (by omega),if_neg (by omega),if_neg (by omega),if_neg (by simp)]
       show (doE false (Zv e) u).map _=_
       rw [hv]
       try rfl
      ·cases rest with
       | nil=> exact absurd rfl z0
       | cons a q=>
        show Z5 ([v]++q)=Z5 (a ::q)
        simp only [Z5,List.cons_append,List.nil_append,List.map_cons]
        rw [show Z7 v=Z7 a from hev]
end
end Go.AM.Ytpjenobkibfpcaa
