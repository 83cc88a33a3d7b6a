import Derived.Test.YtpjenobkibfpcaaKD20
import Derived.Test.YtpjenobkibfpcaaKL22
import Derived.Test.YtpjenobkibfpcaaKC34
set_option linter.unusedSimpArgs false
set_option linter.unusedVariables false
namespace Go.AM
theorem Z7H{t:Tree}(h:J7 t=true):t=Tree.nil:=by
 obtain ⟨k,w,ks⟩:=t
 simp only [J7,decide_eq_true_eq] at h
 obtain ⟨h1,h2,h3⟩:=h
 have h1:k=0:=h1
 rw [h1,List.eq_nil_of_length_eq_zero (l:=w) h2,List.eq_nil_of_length_eq_zero (l:=ks) h3]
 try rfl
theorem Zg5{e:Edit}(h:Z1v e=true):e=Edit.nil:=by
 obtain ⟨k,o,n,w,ks,l,os⟩:=e
 simp only [Z1v,Bool.and_eq_true,decide_eq_true_eq] at h
 obtain ⟨⟨⟨h1,h2⟩,h3⟩,h4,h5,h6,h7⟩:=h
 have h1:k=0:=h1
 have h7:l=0:=h7
 rw [h1,h7,Z7H (t:=o) h2,Z7H (t:=n) h3,List.eq_nil_of_length_eq_zero (l:=w) h4,List.eq_nil_of_length_eq_zero (l:=ks) h5,List.eq_nil_of_length_eq_zero (l:=os) h6]
 try rfl
structure RightE (e:Edit) (d:Int):Prop where
 d0:d≠0
 kind:0≤e.kind∧e.kind≤3
 none:e.kind≠1→e.old=Tree.nil∧e.new=Tree.nil
 words0:e.kind≠2→e.words=[]∧e.kids=[]
 ops0:e.kind≠3→e.list=0∧e.ops=[]
 rep:e.kind=1→Ze e.old (dT d)=true∧Ze e.new (dT d)=true∧e.old.kind≠10∧e.new.kind≠10
 words:ZI (-1) e.words=true
 kids:Zu (-1) e.kids (d - 1)=true
 list:e.kind=3→2≤e.list∧e.list≤9
 ops:Zq e.list e.ops (d - 1)=true
 len:Yj e.ops 0 < 1048576∧Jk e.ops 0 < 1048576
theorem Zw{e:Edit}{d:Int}(h:Z4 e d=true):RightE e d:=by
 obtain ⟨k,o,n,w,ks,l,os⟩:=e
 rw [Z4] at h
 split at h
 ·cases h
 ·rename_i a
  split at h
  ·cases h
  ·rename_i b
   have b1:k≠1→o=Tree.nil∧n=Tree.nil:=by
    intro hk
    by_cases x:J7 o=true∧J7 n=true
    ·exact ⟨Z7H x.1,Z7H x.2⟩
    ·exact absurd (.inl ⟨hk,x⟩) b
   have b2:k≠2→w=[]∧ks=[]:=by
    intro hk
    by_cases x:w.length=0∧ks.length=0
    ·exact ⟨List.eq_nil_of_length_eq_zero x.1,List.eq_nil_of_length_eq_zero x.2⟩
    ·exact absurd (.inr (.inl ⟨hk,x⟩)) b
   have b3:k≠3→l=0∧os=[]:=by
    intro hk
    by_cases x:l≠0∨os.length≠0
    ·exact absurd (.inr (.inr ⟨hk,x⟩)) b
    ·exact ⟨by omega,List.eq_nil_of_length_eq_zero (by omega)⟩
   split at h
   ·rename_i c
    simp only [Bool.and_eq_true,decide_eq_true_eq] at h
    obtain ⟨⟨h1,h2⟩,h3,h4⟩:=h
    have c2:=b2 (by omega)
    have c3:=b3 (by omega)
    obtain ⟨rfl,rfl⟩:=c2
    obtain ⟨rfl,rfl⟩:=c3
    exact ⟨by omega,⟨by show 0≤k;omega,by show k≤3;omega⟩,b1,b2,b3,fun _=> ⟨h1,h2,h3,h4⟩,rfl,rfl,fun e=> by have e:k=3:=e;omega,rfl,by show Yj [] 0 < _∧Jk [] 0 < _;simp [Yj,Jk]⟩
   ·rename_i c
    simp only [Bool.and_eq_true,decide_eq_true_eq] at h
    obtain ⟨⟨⟨⟨h1,h2⟩,h3⟩,h4⟩,h5⟩:=h
    exact ⟨by omega,⟨by show 0≤k;omega,by show k≤3;omega⟩,b1,b2,b3,fun e=> absurd e c,h1,h2,fun e=> by have e:k=3:=e;show 2≤l∧l≤9;omega,h4,h5⟩
theorem ZK:∀ {ks:List Kid} {last d:Int},Zu last ks d=true→∀ k∈ks,(last < k.at_∧k.at_≤65534∧k.e.kind≠0)∧Z4 k.e d=true
 | [],_,_,_,_,hk=> by cases hk
 | ⟨a,e⟩ ::r,last,d,h,k,hk=> by
  simp only [Zu,Yx,Bool.and_eq_true,decide_eq_true_eq] at h
  obtain ⟨⟨h1,h2⟩,h3⟩:=h
  rcases List.mem_cons.1 hk with rfl | hk
  ·exact ⟨h1,h2⟩
  ·have:=ZK h3 k hk
   have h1:last < a∧a≤65534∧e.kind≠0:=h1
   have h4:a < k.at_:=this.1.1
   exact ⟨⟨by omega,this.1.2⟩,this.2⟩
theorem rightOs_mem{list:Int}:∀ {os:List Op} {d:Int},Zq list os d=true→∀ o∈os,Z7 list o d=true
 | [],_,_,_,ho=> by cases ho
 | a ::r,d,h,o,ho=> by
  simp only [Zq,Bool.and_eq_true] at h
  rcases List.mem_cons.1 ho with rfl | ho
  ·exact h.1
  ·exact rightOs_mem h.2 o ho
theorem Jw:∀ {ws:List WEdit} {last:Int},ZI last ws=true→∀ w∈ws,last < w.at_∧w.at_≤65534∧w.mask≠0∧Yl w.old w.mask=true∧Yl w.new w.mask=true
 | [],_,_,_,hw=> by cases hw
 | a ::r,last,h,w,hw=> by
  simp only [ZI,Bool.and_eq_true,decide_eq_true_eq] at h
  obtain ⟨⟨⟨h1,h2⟩,h3⟩,h4⟩:=h
  rcases List.mem_cons.1 hw with rfl | hw
  ·exact ⟨h1.1,h1.2.1,h1.2.2,h2,h3⟩
  ·have:=Jw h4 w hw
   exact ⟨by omega,this.2⟩
inductive RightOp (list:Int) (d:Int):Op→Prop
 | keep (n:Int):1≤n→n≤1048576→RightOp list d ⟨0,n,[],Edit.nil⟩
 | gone (l:List Tree):Yg (dT d) list l=true→0 < l.length→RightOp list d ⟨1,0,l,Edit.nil⟩
 | come (l:List Tree):Yg (dT d) list l=true→0 < l.length→RightOp list d ⟨2,0,l,Edit.nil⟩
 | into (e:Edit):Z4 e d=true→e.kind≠0→7 < list→(list=8∨e.kind=2∨e.kind=1∧e.old.kind=1∧e.new.kind=1)→RightOp list d ⟨3,0,[],e⟩
theorem Zx{list:Int}{o:Op}{d:Int}(h:Z7 list o d=true):RightOp list d o:=by
 obtain ⟨k,n,l,e⟩:=o
 rw [Z7] at h
 split at h
 ·rename_i hk
  simp only [Bool.and_eq_true,decide_eq_true_eq] at h
  obtain ⟨⟨h1,h2,h3⟩,h4⟩:=h
  rw [hk,Zg5 h4,List.eq_nil_of_length_eq_zero h3]
  exact .keep n h1 h2
 ·rename_i h0
  split at h
  ·cases h
  ·rename_i h1
   have hn:n=0:=by omega
   subst hn
   split at h
   ·rename_i h2
    simp only [Bool.and_eq_true,decide_eq_true_eq] at h
    obtain ⟨⟨h3,h4⟩,h5⟩:=h
    rw [Zg5 h5]
    by_cases hk:k=1
    ·rw [hk];exact .gone l h3 h4
    ·rw [show k=2 by omega];exact .come l h3 h4
   ·rename_i h2
    simp only [Bool.and_eq_true,decide_eq_true_eq] at h
    obtain ⟨⟨⟨h3,h4,h5⟩,h6⟩,h7⟩:=h
    rw [show k=3 by omega,List.eq_nil_of_length_eq_zero h3]
    exact .into e h6 h4 h5 h7
theorem ZhW{e:Edit}{d:Int}(h:Z4 e d=true):(∀ k∈e.kids,∃ d,Z4 k.e d=true)∧(∀ o∈e.ops,∃ l d,Z7 l o d=true)∧(e.kind=3→2≤e.list∧e.list≤9):=by
 have r:=Zw h
 exact ⟨fun k hk=> ⟨_,(ZK r.kids k hk).2⟩,fun o ho=> ⟨_,_,rightOs_mem r.ops o ho⟩,r.list⟩
theorem J0{l d:Int}{o:Op}(h:Z7 l o d=true)(hk:o.kind=3):Z4 o.e d=true:=by
 have r:=Zx h
 cases r with
 | into e h1=> exact h1
 | keep | gone | come=> exact absurd hk (by simp)
end Go.AM
namespace Go.AM.Ytpjenobkibfpcaa
open Go.AM Go.Proofs
theorem Z2Y{α:Type}(z:α)(l:List α)(i:Nat)(x:α):(ZW z l i x).length=max l.length (i+1):=by
 simp only [ZW,List.length_set,List.length_append,List.length_replicate];omega
theorem Ja{α:Type}(z:α)(l:List α)(i:Nat)(x:α)(j:Nat):(ZW z l i x).getD j z=if j=i then x else l.getD j z:=by
 simp only [ZW,List.getD_eq_getElem?_getD,List.getElem?_set,List.length_append,List.length_replicate]
 by_cases h:j=i
 ·subst h;rw [if_pos rfl,if_pos rfl,if_pos (by omega)];try rfl
 ·rw [if_neg (fun e=> h e.symm),if_neg h]
  by_cases hl:j < l.length
  ·rw [List.getElem?_append_left hl]
  ·rw [List.getElem?_append_right (by omega),List.getElem?_eq_none (l:=l) (by omega),List.getElem?_replicate]
   split <;> rfl
theorem ZhL{α β:Type}(f:α→β)(z:α)(l:List α)(i:Nat)(x:α):(ZW z l i x).map f=ZW (f z) (l.map f) i (f x):=by
 simp [ZW,List.map_set]
theorem Z3j:∀ l:List Tree,Y1 l=Z5 l
 | []=> rfl
 | t ::r=> by simp [Y1,Z5,Z3j r]
theorem Zc0(l:List Tree)(i:Nat)(x:Tree):Z5 (ZW Tree.nil l i x)=ZW Tree.nil (Z5 l) i (Z3 x):=by
 rw [Z5,ZhL,Z97];try rfl
theorem ZdO{a b:List Tree}{i:Nat}{x y:Tree}(h:Z5 a=Z5 b)(hx:Z3 x=Z3 y):Z5 (ZW Tree.nil a i x)=Z5 (ZW Tree.nil b i y):=by
 rw [Zc0,Zc0,h,hx]
theorem JU{a b c d:List Tree}(h:Z5 a=Z5 b)(hx:Z5 c=Z5 d):Z5 (a++c)=Z5 (b++d):=by
 rw [J2,J2,h,hx]
theorem Z4Q(k:Int)(w:List Int){a b:List Tree}(h:Z5 a=Z5 b):Z3 (.mk k w a)=Z3 (.mk k w b):=by
 simp only [Z3,Z3j,h]
theorem Z3i{a b:List Tree}(h:Z5 a=Z5 b):a.length=b.length:=by
 have:=congrArg List.length h
 simpa [Z5] using this
theorem Z5I{a b:Tree}:Z5 [a]=Z5 [b]↔Z3 a=Z3 b:=by simp [Z5]
def OptR{α β:Type}(R:α→β→Prop):Option α→Option β→Prop
 | none,none=> True
 | some a,some b=> R a b
 | _,_=> False
theorem OptR.rfl'{α:Type}(a:Option α):OptR Eq a a:=by cases a;exact trivial;exact rfl
theorem OptR.bind{α β γ δ:Type}{R:α→β→Prop}{S:γ→δ→Prop}{a:Option α}{b:Option β}{f:α→Option γ}{g:β→Option δ}(h:OptR R a b)(hf:∀ x y,R x y→OptR S (f x) (g y)):OptR S (a.bind f) (b.bind g):=by
 cases a <;> cases b <;> first | exact trivial | exact h.elim | exact hf _ _ h
theorem OptR.map{α β γ δ:Type}{R:α→β→Prop}{S:γ→δ→Prop}{a:Option α}{b:Option β}{f:α→γ}{g:β→δ}(h:OptR R a b)(hf:∀ x y,R x y→S (f x) (g y)):OptR S (a.map f) (b.map g):=by
 cases a <;> cases b <;> first | exact trivial | exact h.elim | exact hf _ _ h
theorem OptR.ite{α β:Type}{R:α→β→Prop}{p q:Prop} [Decidable p] [Decidable q] {a c:Option α}{b d:Option β}(h:p↔q)(h1:p→OptR R a b)(h2:¬p→OptR R c d):OptR R (if p then a else c) (if q then b else d):=by
 by_cases hp:p
 ·rw [if_pos hp,if_pos (h.1 hp)];exact h1 hp
 ·rw [if_neg hp,if_neg (fun hq=> hp (h.2 hq))];exact h2 hp
theorem OptR.normed{a b:Option Tree}(h:OptR (fun x y=> Z3 x=Z3 y) a b):a.map Z3=b.map Z3:=by
 cases a <;> cases b <;> first | rfl | exact h.elim | exact congrArg some h
def Eqv(x y:Tree):Prop:=Z3 x=Z3 y
def EqvL(x y:List Tree):Prop:=Z5 x=Z5 y
theorem EqvL.take{x y:List Tree}(h:EqvL x y)(n:Nat):EqvL (x.take n) (y.take n):=by unfold EqvL Z5 at*;rw [List.map_take,List.map_take,h]
theorem EqvL.drop{x y:List Tree}(h:EqvL x y)(n:Nat):EqvL (x.drop n) (y.drop n):=by unfold EqvL Z5 at*;rw [List.map_drop,List.map_drop,h]
theorem EqvL.len{x y:List Tree}(h:EqvL x y):x.length=y.length:=Z3i h
theorem ZbZ(l:List Tree)(i:Nat):(Z5 l).getD i Tree.nil=Z3 (l.getD i Tree.nil):=by rw [←Z3j];exact Z0f l i
theorem EqvL.get{x y:List Tree}(h:EqvL x y)(i:Nat):Eqv (x.getD i Tree.nil) (y.getD i Tree.nil):=by
 unfold Eqv;rw [←ZbZ,←ZbZ,h]
theorem Zhj{a b:Option (List Tree × List Tree)}(h:OptR (fun x y=> EqvL x.1 y.1∧EqvL x.2 y.2) a b):OptR EqvL (Z1H a) (Z1H b):=by
 unfold Z1H
 refine h.bind fun x y hxy=> ?_
 exact OptR.ite (by rw [hxy.2.len]) (fun _=> hxy.1) (fun _=> trivial)
def Zq8(a b:List Int):Prop:=∀ i:Nat,a.getD i 0=b.getD i 0
def ZmF(a b:List Tree):Prop:=∀ i:Nat,Eqv (a.getD i Tree.nil) (b.getD i Tree.nil)
theorem Zcu{a b:Tree}(ha:a.kind=1)(hb:b.kind=1):Eqv a b↔Zq8 a.words b.words∧ZmF a.kids b.kids:=by
 unfold Eqv Zq8 ZmF
 rw [YC,ha,hb]
 simp [Eqv]
theorem Zpn{a b:Tree}(h0:a.kind≠0)(h1:a.kind≠1):Eqv a b↔a.kind=b.kind∧a.words=b.words∧EqvL a.kids b.kids:=by
 unfold Eqv EqvL
 rw [YC,if_neg h1,←Z3j,←Z3j,Z7G]
 simp [h0,and_assoc]
theorem Eqv.kind{a b:Tree}(h:Eqv a b):a.kind=b.kind:=((YC a b).1 h).1
theorem Zj8{tw tv:List Int}(h:Zq8 tw tv):∀ (ws:List WEdit) (a b:List Int),Zq8 a b→OptR Zq8 (wsD tw ws a) (wsD tv ws b)
 | [],_,_,hab=> hab
 | w ::r,a,b,hab=> by
  rw [wsD,wsD,h w.at_.toNat]
  refine OptR.ite Iff.rfl (fun _=> Zj8 h r _ _ fun i=> ?_) (fun _=> trivial)
  rw [Ja,Ja]
  split
  ·try rfl
  ·exact hab i
theorem Zmb(l:List Tree){a b:List Tree}(h:EqvL a b):Jc l a=Jc l b:=by
 unfold Jc
 rw [h.len,show Z5 (a.take l.length)=Z5 (b.take l.length) from h.take _]
mutual
theorem Zfr:∀ (e:Edit) (d:Int) (t s:Tree),Z4 e d=true→Eqv t s→OptR Eqv (doE false e t) (doE false e s)
 | .mk k o n w ks l os,d,t,s,hr,h=> by
  have h1:=Zhm ks t.kids s.kids
  have h2:=Zcx os t.kids s.kids [] []
  have hk:=h.kind
  have hrt:=ZhW hr
  rw [Z17,Z17,YQ,YQ]
  show OptR Eqv (if k=0 then _ else _) (if k=0 then _ else _)
  refine OptR.ite Iff.rfl (fun _=> h) fun _=> OptR.ite Iff.rfl (fun _=> ?_) fun _=> OptR.ite Iff.rfl (fun k2=> ?_) fun _=> OptR.ite Iff.rfl (fun k3=> ?_) (fun _=> trivial)
  ·rw [show Z3 t=Z3 s from h]
   exact OptR.ite Iff.rfl (fun _=> rfl) (fun _=> trivial)
  ·refine OptR.ite (by rw [hk]) (fun ht=> ?_) (fun _=> trivial)
   have hs:s.kind=1:=by rw [←hk];exact ht
   obtain ⟨hw,hks⟩:=(Zcu ht hs).1 h
   refine (Zj8 hw w t.words s.words hw).bind fun a b hab=> ?_
   refine (h1 hks hrt.1 t.kids s.kids hks).map fun x y hxy=> ?_
   exact (Zcu rfl rfl).2 ⟨hab,hxy⟩
  ·refine OptR.ite (by rw [hk]) (fun ht=> ?_) (fun _=> trivial)
   have hl:=hrt.2.2
   have hos:=hrt.2.1
   replace ht:t.kind=l:=ht
   replace hl:2≤l∧l≤9:=hl k3
   obtain ⟨_,_,hks⟩:=(Zpn (by omega) (by omega)).1 h
   exact (Zhj (h2 hks rfl hos)).map fun x y hxy=> Z4Q _ _ hxy
theorem Zhm:∀ (ks:List (KidOf Edit)) (tk sk:List Tree),ZmF tk sk→(∀ k∈ks,∃ d,Z4 k.e d=true)→∀ a b,ZmF a b→OptR ZmF (JX false tk ks a) (JX false sk ks b)
 | [],_,_,_,_,_,_,hab=> hab
 | k ::r,tk,sk,h,hr,a,b,hab=> by
  rw [JX,JX]
  obtain ⟨d,hd⟩:=hr k List.mem_cons_self
  refine (Zmh k d tk sk h hd).bind fun x y hxy=> Zhm r tk sk h (fun q hq=> hr q (List.mem_cons_of_mem _ hq)) _ _ fun i=> ?_
  rw [Ja,Ja]
  split
  ·exact hxy
  ·exact hab i
theorem Zmh:∀ (k:KidOf Edit) (d:Int) (tk sk:List Tree),ZmF tk sk→Z4 k.e d=true→OptR Eqv (Z2S false tk k) (Z2S false sk k)
 | ⟨a,e⟩,d,tk,sk,h,hr=> by rw [Z2S,Z2S];exact Zfr e d _ _ hr (h _)
theorem Zcx:∀ (os:List (OpOf Edit)) (rt rs a b:List Tree),EqvL rt rs→EqvL a b→(∀ o∈os,∃ l d,Z7 l o d=true)→OptR (fun x y=> EqvL x.1 y.1∧EqvL x.2 y.2) (ZB false os rt a) (ZB false os rs b)
 | [],_,_,_,_,h,hab,_=> ⟨hab,h⟩
 | o ::r,rt,rs,a,b,h,hab,hr=> by
  rw [ZB,ZB]
  refine (Zpt o rt rs a b h hab (hr o List.mem_cons_self)).bind fun x y hxy=> Zcx r _ _ _ _ hxy.2 hxy.1 (fun q hq=> hr q (List.mem_cons_of_mem _ hq))
theorem Zpt:∀ (o:OpOf Edit) (rt rs a b:List Tree),EqvL rt rs→EqvL a b→(∃ l d,Z7 l o d=true)→OptR (fun x y=> EqvL x.1 y.1∧EqvL x.2 y.2) (Z48 false o rt a) (Z48 false o rs b)
 | ⟨k,n,l,e⟩,rt,rs,a,b,h,hab,hr=> by
  obtain ⟨li,d,hr⟩:=hr
  have he:=fun h3=> Zfr e d (rt.getD 0 Tree.nil) (rs.getD 0 Tree.nil) (J0 hr h3) (h.get 0)
  have hlen:=h.len
  rw [Z48,Z48]
  refine OptR.ite Iff.rfl (fun _=> OptR.ite (by rw [hlen]) (fun _=> ⟨JU hab (h.take _),h.drop _⟩) (fun _=> trivial)) fun k0=> OptR.ite Iff.rfl (fun _=> ?_) fun k1=> OptR.ite Iff.rfl (fun _=> ⟨JU hab rfl,h⟩) fun k2=> OptR.ite (by rw [hlen]) (fun _=> trivial) fun _=> ?_
  ·rw [Zmb l h]
   exact OptR.ite Iff.rfl (fun _=> ⟨hab,h.drop _⟩) (fun _=> trivial)
  ·have h03:k=0∨k=1∨k=2∨k=3:=by
    have r:=Zx hr
    generalize ho:OpOf.mk k n l e=o at r
    cases r <;> (injection ho with h1;subst h1;decide)
   exact (he (by show k=3;omega)).map fun x y h'=> ⟨JU hab (Z5I.2 h'),h.drop _⟩
end
end Go.AM.Ytpjenobkibfpcaa
namespace Go.AM.Ytpjenobkibfpcaa
open Go.AM Go.Proofs
theorem ZaT:∀ (ks:List Kid),(Jy ks).length=ks.length
 | []=> rfl
 | k ::r=> by simp only [Jy,List.length_cons,ZaT r]
end Go.AM.Ytpjenobkibfpcaa
namespace Go.AM.Ytpjenobkibfpcaa
open Go.AM Go.Proofs
noncomputable section
noncomputable section
def Zj1:ArgL (Edit × Unit):=(.cons (aEl .edit) .nil)
def Z4G(a:Edit × Unit):Prop:=Z6 a.1≤20000000000
def ZcX(a:Edit × Unit):Nat:=Z6 a.1
def ZnF(a:Edit × Unit):V U:= .c (ci (YM a.1))
def Zbf:Fs U:=fs Zj1 (fun a=> [Z4G a]) ZnF
def Z0G(N:Nat):List (FuncId × Fs U):=(47,fs Zj1 (fun a=> [Z4G a,ZcX a < N]) ZnF) ::[]
def Z9d:Zg U:=lvl [([1],[1]),([1,3],[1]),([1,3,4],[1]),([1,3,4,18],[1]),([1,3,4],[1]),([1,3,4],[1]),([1,3,5],[1]),([1,3,5,34],[1]),([1,3,5],[1]),([1,3,5,43],[1]),([1,3,5],[1]),([2],[])]
def Z3s(e:Edit)(x3 x4:Int):LSt U:=(L2 [(1,.ptr (.loc 1) 0),(3,.c (ci x3)),(4,.c (ci x4))] [(.loc 1,(enc .edit e))])
def Z1n(e:Edit)(x3_a x5_a:Int):LSt U:=(L2 [(1,.ptr (.loc 1) 0),(3,.c (ci x3_a)),(5,.c (ci x5_a))] [(.loc 1,(enc .edit e))])
abbrev W47(N:Nat)(e:Edit)(Q:QT):=AW (Z2 (Z0G N)) Try.f47 Z9d [] (L2 [(0,.agg (enc .edit e))] []) Q
abbrev Zei(N:Nat):=awp cfg (Z2 (Z0G N)) (Y0 cfg (Z2 (Z0G N))) Try.f47.ntmps Z9d
abbrev Zdo(N:Nat):=ZeA cfg (Z2 (Z0G N)) (Y0 cfg (Z2 (Z0G N))) Try.f47.ntmps Z9d
theorem Zye(N:Nat)(e:Edit)(Q:QT)(h:(InR ((1:Int)+(e.words.length:Int)))∧(InR ((((1:Int)+(e.words.length:Int)):Int)+(e.ops.length:Int)))∧(Zj (AW (Z2 (Z0G N)) Try.f47 Z9d [1,1,0,1,0,0]) (Z3s e ((((1:Int)+(e.words.length:Int)):Int)+(e.ops.length:Int)) 0) (xB 0 (SW (Z2 (Z0G N)) Try.f47 Z9d [1,1,1] Q)))):
  W47 N e Q:=by
 have e_:(W47 N e Q)=((InR ((1:Int)+(e.words.length:Int)))∧(InR ((((1:Int)+(e.words.length:Int)):Int)+(e.ops.length:Int)))∧(Zj (Zei N (cd Try.f47 [1,1,0,1,0,0])) (Z3s e ((((1:Int)+(e.words.length:Int)):Int)+(e.ops.length:Int)) 0) (xB 0 (Zdo N (cd Try.f47 [1,1,1]) Q)))):=by kernel_rfl
 exact e_.mpr ⟨h.1,h.2.1,h.2.2⟩
abbrev Zq5(N:Nat)(e:Edit)(x3 x4:Int)(N0:NT)(Q:QT):=AW (Z2 (Z0G N)) Try.f47 Z9d [1,1,0,1,0,0] (Z3s e x3 x4) (xT N0 (xB 0 (SW (Z2 (Z0G N)) Try.f47 Z9d [1,1,1] Q)))
theorem ZqM(N:Nat)(e:Edit)(x3 x4:Int)(N0:NT)(Q:QT)(h:∀ y_1,y_1=(e.kids.getD x4.toNat (KidOf.mk 0 Edit.nil))→∀ y_2,y_2=(y_1.e)→((decide (x4 < (e.kids.length:Int)))=true→((0:Int)≤x4∧x4 < (e.kids.length:Int))∧(Z4G (y_2,()))∧(ZcX (y_2,()) < N)∧(InR (x3+(YM y_2)))∧((InR (x4+1))∧(N0 (Z3s e (x3+(YM y_2)) (x4+1)))))∧((decide (x4 < (e.kids.length:Int)))=false→Zj (AW (Z2 (Z0G N)) Try.f47 Z9d [1,1,1,0,1,0,0]) (Z1n e x3 0) (xB 2 (SW (Z2 (Z0G N)) Try.f47 Z9d [1,1,1,1] Q)))):
  Zq5 N e x3 x4 N0 Q:=by
 have e_:(Zq5 N e x3 x4 N0 Q)=(let y_1:=(e.kids.getD x4.toNat (KidOf.mk 0 Edit.nil));let y_2:=(Jr y_1.e);(((decide ((x4:Int) < (e.kids.length:Int)))=true→((0:Int)≤x4∧x4 < (e.kids.length:Int))∧(Z4G (y_2,()))∧(ZcX (y_2,()) < N)∧(InR ((x3:Int)+(YM y_2)))∧((InR ((x4:Int)+1))∧(N0 (Z3s e ((x3:Int)+(YM y_2)) ((x4:Int)+1)))))∧((decide ((x4:Int) < (e.kids.length:Int)))=false→(Zj (Zei N (cd Try.f47 [1,1,1,0,1,0,0])) (Z1n e x3 0) (xB 2 (Zdo N (cd Try.f47 [1,1,1,1]) Q)))))):=by kernel_rfl
 exact e_.mpr (by intro y_1 y_2;have hh:=h y_1 rfl y_2 (Z9 _);exact ⟨fun c_1=> ⟨(hh.1 c_1).1,(hh.1 c_1).2.1,(hh.1 c_1).2.2.1,(hh.1 c_1).2.2.2.1,⟨(hh.1 c_1).2.2.2.2.1,(hh.1 c_1).2.2.2.2.2⟩⟩,fun c_1=> (hh.2 c_1)⟩)
abbrev Zq4(N:Nat)(e:Edit)(x3_a x5_a:Int)(N1:NT)(Q:QT):=AW (Z2 (Z0G N)) Try.f47 Z9d [1,1,1,0,1,0,0] (Z1n e x3_a x5_a) (xT N1 (xB 2 (SW (Z2 (Z0G N)) Try.f47 Z9d [1,1,1,1] Q)))
theorem ZqL(N:Nat)(e:Edit)(x3_a x5_a:Int)(N1:NT)(Q:QT)(h:∀ y_1,y_1=(e.ops.getD x5_a.toNat Op.nil)→∀ y_2,y_2=(y_1.e)→((decide (x5_a < (e.ops.length:Int)))=true→((0:Int)≤x5_a∧x5_a < (e.ops.length:Int))∧(((y_1.kind==3)=true→((0:Int)≤x5_a∧x5_a < (e.ops.length:Int))∧(Z4G (y_2,()))∧(ZcX (y_2,()) < N)∧(InR (x3_a+(YM y_2)))∧((InR (x5_a+1))∧(N1 (Z1n e (x3_a+(YM y_2)) (x5_a+1)))))∧((y_1.kind==3)=false→(InR (x5_a+1))∧(N1 (Z1n e x3_a (x5_a+1))))))∧((decide (x5_a < (e.ops.length:Int)))=false→Q .ret (L2 [(2,.c (ci x3_a))] []))):
  Zq4 N e x3_a x5_a N1 Q:=by
 have e_:(Zq4 N e x3_a x5_a N1 Q)=(let y_1:=(e.ops.getD x5_a.toNat Op.nil);let y_2:=(Jr y_1.e);(((decide ((x5_a:Int) < (e.ops.length:Int)))=true→((0:Int)≤x5_a∧x5_a < (e.ops.length:Int))∧(((y_1.kind==3)=true→((0:Int)≤x5_a∧x5_a < (e.ops.length:Int))∧(Z4G (y_2,()))∧(ZcX (y_2,()) < N)∧(InR ((x3_a:Int)+(YM y_2)))∧((InR ((x5_a:Int)+1))∧(N1 (Z1n e ((x3_a:Int)+(YM y_2)) ((x5_a:Int)+1)))))∧((y_1.kind==3)=false→(InR ((x5_a:Int)+1))∧(N1 (Z1n e x3_a ((x5_a:Int)+1))))))∧((decide ((x5_a:Int) < (e.ops.length:Int)))=false→(Q .ret (L2 [(2,.c (ci x3_a))] []))))):=by kernel_rfl
 exact e_.mpr (by intro y_1 y_2;have hh:=h y_1 rfl y_2 (Z9 _);exact ⟨fun c_2=> ⟨(hh.1 c_2).1,⟨fun c_3=> ⟨((hh.1 c_2).2.1 c_3).1,((hh.1 c_2).2.1 c_3).2.1,((hh.1 c_2).2.1 c_3).2.2.1,((hh.1 c_2).2.1 c_3).2.2.2.1,⟨((hh.1 c_2).2.1 c_3).2.2.2.2.1,((hh.1 c_2).2.1 c_3).2.2.2.2.2⟩⟩,fun c_3=> ⟨((hh.1 c_2).2.2 c_3).1,((hh.1 c_2).2.2 c_3).2⟩⟩⟩,fun c_2=> (hh.2 c_2)⟩)
def Zwa(N:Nat)(e:Edit):Prop:=AW (Z2 (Z0G N)) Try.f47 Z9d [] (Zo (Zj1.can (e,())) []) (EQ Try.f47 (ZnF (e,())) [])
theorem Zus(hb:∀ (N:Nat) (e:Edit) (_:Unit),Z4G (e,())→ZcX (e,()) < N+1→Zwa N e):CT 47 Zbf:=
 YD (μ:=ZcX) (l:=[]) Zr rfl trivial Z9d Try.func47 rfl rfl 1 (fun _=> rfl) (by decide) (fun N ⟨e,_⟩=> hb N e ())
end
end
end Go.AM.Ytpjenobkibfpcaa
namespace Go.AM.Ytpjenobkibfpcaa
open Go.AM Go.Proofs
theorem Z5f:∀ (os:List Op),(os.length:Int)≤Jt os
 | []=> by simp [Jt]
 | o ::r=> by
  have h1:=ZcE o
  have h2:=Z5f r
  simp only [Jt,List.length_cons]
  omega
theorem c47:Contract Try.prog cfg 47 Zbf:=by
 refine Zus ?_
 intro N e _ hp hN
 simp only [Z4G,ZcX] at hp hN
 have h1:=YI e
 have h2:=Yw e.kids
 have h3:=Y9 e.ops
 have hc:=Z3B e
 have ha:=Zmm e
 have hol:=Z5f e.ops
 refine Zye _ _ _ ?_
 refine ⟨by unfold InR;dsimp only;omega,by unfold InR;dsimp only;omega,?_⟩
 refine Zb (ι:=Int × Int) (fun s=> Z3s e s.1 s.2) (fun s=> 1≤s.1∧0≤s.2∧s.2≤e.kids.length∧s.1+Z1c (e.kids.drop s.2.toNat)+Jt e.ops - e.ops.length=YM e) (fun s=> ((e.kids.length:Int) - s.2).toNat) (1+e.words.length+e.ops.length,0) rfl ⟨by dsimp only;omega,by simp,by simp,by simp;omega⟩ ?_
 rintro ⟨n,i⟩ ⟨g0,g1,g2,g3⟩
 dsimp only at g0 g1 g2 g3
 refine ZqM _ _ _ _ _ _ ?_
 rintro y1 hy1 y2 hy2
 (simp only [vcS])
 refine ⟨fun hi=> ?_,fun hi=> ?_⟩
 ·have hm:=JJ (Zh (l:=e.kids) (i:=i.toNat) (by omega) (KidOf.mk 0 Edit.nil))
  rw [Ys g1 hi (KidOf.mk 0 Edit.nil)] at g3
  rw [←hy1] at g3 hm
  simp only [Z1c,ZiR] at g3
  rw [←hy2] at g3 hm
  have h5:=Z3B y2
  have h6:=Z6X (e.kids.drop (i+1).toNat)
  refine ⟨⟨g1,hi⟩,by simp only [Z4G];omega,by simp only [ZcX];omega,by unfold InR;omega,by unfold InR;omega,(n+YM y2,i+1),rfl,⟨by dsimp only;omega,by dsimp only;omega,by dsimp only;omega,by dsimp only;omega⟩,by dsimp only;omega⟩
 ·rw [List.drop_of_length_le (by omega)] at g3
  simp only [Z1c] at g3
  refine Zb (ι:=Int × Int) (fun s=> Z1n e s.1 s.2) (fun s=> 1≤s.1∧0≤s.2∧s.2≤e.ops.length∧s.1+Jt (e.ops.drop s.2.toNat) - (e.ops.length - s.2)=YM e) (fun s=> ((e.ops.length:Int) - s.2).toNat) (n,0) rfl ⟨by dsimp only;omega,by simp,by simp,by simp;omega⟩ ?_
  rintro ⟨m,j⟩ ⟨f0,f1,f2,f3⟩
  dsimp only at f0 f1 f2 f3
  refine ZqL _ _ _ _ _ _ ?_
  rintro z1 hz1 z2 hz2
  (simp only [vcS])
  refine ⟨fun hj=> ?_,fun hj=> ?_⟩
  ·have hm:=Yv (Zh (l:=e.ops) (i:=j.toNat) (by omega) Op.nil)
   have h7:=Z5f (e.ops.drop (j+1).toNat)
   rw [List.length_drop] at h7
   rw [Ys f1 hj Op.nil] at f3
   rw [←hz1] at f3 hm
   simp only [Jt,Zml] at f3
   rw [ZZ] at hm
   rw [←hz2] at f3 hm
   have h5:=Z3B z2
   refine ⟨⟨f1,hj⟩,fun hq=> ?_,fun hq=> ?_⟩
   ·rw [if_pos hq] at f3
    refine ⟨⟨f1,hj⟩,by simp only [Z4G];omega,by simp only [ZcX];omega,by unfold InR;omega,by unfold InR;omega,(m+YM z2,j+1),rfl,⟨by dsimp only;omega,by dsimp only;omega,by dsimp only;omega,by dsimp only;omega⟩,by dsimp only;omega⟩
   ·rw [if_neg hq] at f3
    refine ⟨by unfold InR;omega,(m,j+1),rfl,⟨by dsimp only;omega,by dsimp only;omega,by dsimp only;omega,by dsimp only;omega⟩,by dsimp only;omega⟩
  ·rw [List.drop_of_length_le (by omega)] at f3
   simp only [Jt] at f3
   exact Yf rfl (by show m=YM e;omega)
theorem ZgZ{α β:Type}{f:α→β}(d:α){a b:List α}(hl:a.length=b.length)(h:∀ i:Nat,i < a.length→f (a.getD i d)=f (b.getD i d)):a.map f=b.map f:=by
 apply List.ext_getElem (by simpa using hl)
 intro i h1 h2
 have h1':i < a.length:=by simpa using h1
 have h2':i < b.length:=by simpa using h2
 have:=h i h1'
 simpa [List.getD_eq_getElem?_getD,List.getElem?_eq_getElem h1',List.getElem?_eq_getElem h2'] using this
theorem Zae{α β:Type}{f:α→β}{d:α}{a b:List α}(h:a.map f=b.map f)(i:Nat):f (a.getD i d)=f (b.getD i d):=by
 have e:=congrArg (fun l=> l[i]?.getD (f d)) h
 simp only [List.getElem?_map] at e
 rw [List.getD_eq_getElem?_getD,List.getD_eq_getElem?_getD]
 cases h1:a[i]? <;> cases h2:b[i]? <;> simp_all
end Go.AM.Ytpjenobkibfpcaa
namespace Go.AM.Ytpjenobkibfpcaa
open Go.AM Go.Proofs
theorem Z1W(t:Tree):(Z3 t).kind=t.kind:=by
 obtain ⟨k,w,ks⟩:=t
 simp only [Z3]
 by_cases h0:k=0
 ·rw [if_pos h0,h0];try rfl
 ·rw [if_neg h0]
  by_cases h1:k=1
  ·rw [if_pos h1,h1];try rfl
  ·rw [if_neg h1];try rfl
theorem ZaV:∀ (l:List Int),∃ r,l=trim l++r
 | []=> ⟨[],rfl⟩
 | x ::r=> by
  obtain ⟨s,hs⟩:=ZaV r
  simp only [trim]
  split
  ·rename_i e
   split
   ·exact ⟨x ::r,rfl⟩
   ·exact ⟨r,rfl⟩
  ·rename_i y t e
   rw [e] at hs
   exact ⟨s,by rw [hs];rfl⟩
theorem Z8G:∀ (l:List Tree),∃ r,l=Y4 l++r
 | []=> ⟨[],rfl⟩
 | x ::r=> by
  obtain ⟨s,hs⟩:=Z8G r
  simp only [Y4]
  split
  ·rename_i e
   split
   ·exact ⟨x ::r,rfl⟩
   ·exact ⟨r,rfl⟩
  ·rename_i y t e
   rw [e] at hs
   exact ⟨s,by rw [hs];rfl⟩
theorem Zbz{list d:Int}:∀ (a b:List Tree),Yd list (a++b) d=true→Yd list a d=true
 | [],_,_=> rfl
 | t ::r,b,h=> by
  simp only [List.cons_append,Yd,Bool.and_eq_true] at h ⊢
  exact ⟨h.1,Zbz r b h.2⟩
theorem Z1E:∀ (l:List Tree),(Y1 l).length=l.length
 | []=> rfl
 | t ::r=> by simp only [Y1,List.length_cons,Z1E r]
theorem Zm7{list:Int}{t:Tree}(h:Z1t list t=true):Z1t list (Z3 t)=true:=by
 unfold Z1t at h ⊢
 rw [Z1W]
 split at h
 ·rename_i hl
  rw [if_pos hl]
  simp only [Bool.and_eq_true,decide_eq_true_eq] at h ⊢
  obtain ⟨⟨h1,h2,h3⟩,h4⟩:=h
  obtain ⟨k,w,ks⟩:=t
  simp only [Tree.kind_mk,Tree.kids_mk,Tree.words_mk] at h1 h2 h3 h4
  have:ks=[]:=List.length_eq_zero_iff.1 h2
  subst this
  subst h1
  exact ⟨⟨rfl,rfl,h3⟩,h4⟩
 ·rename_i hl
  rw [if_neg hl]
  exact h
mutual
theorem Z2I:∀ (t:Tree) (d:Int),Ze t d=true→Ze (Z3 t) d=true
 | .mk k w ks,d,h=> by
  have ih:=fun (list:Int) (h:Yd list ks (d - 1)=true)=> Z4A ks list (d - 1) h
  simp only [Ze] at h
  simp only [Z3]
  by_cases h0:k=0
  ·rw [if_pos h0];simp [Tree.nil,Ze]
  ·rw [if_neg h0] at h ⊢
   by_cases h10:k=10
   ·subst h10
    rw [if_pos rfl] at h
    rw [if_neg (by decide)]
    simp only [decide_eq_true_eq] at h
    simp only [Ze]
    rw [if_neg (by decide),if_pos trivial,Z1E]
    simpa using h
   ·rw [if_neg h10] at h
    by_cases hd:d=0
    ·rw [if_pos hd] at h;cases h
    ·rw [if_neg hd] at h
     by_cases h1:k=1
     ·subst h1
      rw [if_pos rfl] at h
      rw [if_pos rfl]
      simp only [Bool.and_eq_true,decide_eq_true_eq] at h
      simp only [Ze]
      rw [if_neg (by decide),if_neg (by decide),if_neg hd,if_pos trivial]
      simp only [Bool.and_eq_true,decide_eq_true_eq]
      obtain ⟨r1,e1⟩:=ZaV w
      obtain ⟨r2,e2⟩:=Z8G (Y1 ks)
      have l1:=congrArg List.length e1
      have l2:=congrArg List.length e2
      rw [Z1E] at l2
      simp only [List.length_append] at l1 l2
      refine ⟨⟨by omega,by omega⟩,?_⟩
      have:=ih 1 h.2
      rw [e2] at this
      exact Zbz _ _ this
     ·rw [if_neg h1] at h ⊢
      simp only [Bool.and_eq_true,decide_eq_true_eq] at h
      simp only [Ze]
      rw [if_neg h0,if_neg h10,if_neg hd,if_neg h1,Z1E]
      simp only [Bool.and_eq_true,decide_eq_true_eq]
      exact ⟨h.1,ih k h.2⟩
theorem Z4A:∀ (l:List Tree) (list d:Int),Yd list l d=true→Yd list (Y1 l) d=true
 | [],_,_,_=> rfl
 | t ::r,list,d,h=> by
  simp only [Yd,Bool.and_eq_true] at h
  have h1:=Z2I t d h.1.2
  have h2:=Z4A r list d h.2
  simp only [Y1,Yd,Bool.and_eq_true]
  exact ⟨⟨Zm7 h.1.1,h1⟩,h2⟩
end
end Go.AM.Ytpjenobkibfpcaa
namespace Go.AM.Ytpjenobkibfpcaa
open Go.AM Go.Proofs
theorem Z0V(e:Edit):(ZM e).kind=e.kind:=by cases e;rfl
theorem Zda(e:Edit):(ZM e).old=e.new:=by cases e;rfl
theorem Zdb(e:Edit):(ZM e).new=e.old:=by cases e;rfl
theorem Z6Z:∀ (l:List WEdit) (last:Int),ZI last (l.map Z4p)=ZI last l
 | [],_=> rfl
 | w ::r,last=> by
  simp only [List.map_cons,ZI,Z6Z r]
  have h1:(Z4p w).at_=w.at_:=rfl
  have h2:(Z4p w).mask=w.mask:=rfl
  have h3:(Z4p w).old=w.new:=rfl
  have h4:(Z4p w).new=w.old:=rfl
  rw [h1,h2,h3,h4,Bool.and_assoc,Bool.and_assoc,Bool.and_assoc,Bool.and_assoc]
  congr 1
  rw [←Bool.and_assoc,←Bool.and_assoc,Bool.and_comm (Yl w.new w.mask)]
theorem ZhE(o:Op):Z0 (YJ o)=Z0 o∧((YJ o).kind=2↔o.kind=1)∧((YJ o).kind=1↔o.kind=2):=by
 rw [Jl]
 by_cases h1:o.kind=1
 ·rw [if_pos h1];simp [Z0,h1]
 ·rw [if_neg h1]
  by_cases h2:o.kind=2
  ·rw [if_pos h2];simp [Z0,h2]
  ·rw [if_neg h2]
   by_cases h3:o.kind=3
   ·rw [if_pos h3];simp [Z0,h3]
   ·rw [if_neg h3];simp [Z0,h1,h2]
theorem Z7W:∀ (l:List Op) (n:Int),Yj (J5 l) n=Jk l n∧Jk (J5 l) n=Yj l n
 | [],_=> ⟨rfl,rfl⟩
 | o ::r,n=> by
  obtain ⟨h1,h2,h3⟩:=ZhE o
  simp only [J5,Yj,Jk]
  rw [h1]
  constructor
  ·rw [(Z7W r _).1]
   congr 2
   by_cases h:o.kind=1
   ·rw [if_pos (h2.2 h),if_pos h]
   ·rw [if_neg (fun x=> h (h2.1 x)),if_neg h]
  ·rw [(Z7W r _).2]
   congr 2
   by_cases h:o.kind=2
   ·rw [if_pos (h3.2 h),if_pos h]
   ·rw [if_neg (fun x=> h (h3.1 x)),if_neg h]
theorem Z6o:∀ (l:List Op),(J5 l).length=l.length
 | []=> rfl
 | o ::r=> by simp only [J5,List.length_cons,Z6o r]
theorem Zr8{list d:Int}{o:Op}(h:Z7 list o d=true)(hi:Z4 o.e d=true→Z4 (ZM o.e) d=true):Z7 list (YJ o) d=true:=by
 have h':=h
 rw [Je] at h
 by_cases k0:o.kind=0
 ·have e:YJ o=o:=by rw [Jl,if_neg (by omega),if_neg (by omega),if_neg (by omega)]
  rw [e];exact h'
 ·rw [if_neg k0] at h
  split at h
  ·cases h
  ·rename_i hk
   by_cases k3:o.kind=3
   ·rw [if_neg (by omega)] at h
    have e:YJ o=⟨o.kind,o.n,o.l,ZM o.e⟩:=by rw [Jl,if_neg (by omega),if_neg (by omega),if_pos k3]
    rw [e,Je]
    simp only
    rw [if_neg k0,if_neg hk,if_neg (by omega),Z0V,Zda,Zdb]
    simp only [Bool.and_eq_true,decide_eq_true_eq] at h ⊢
    refine ⟨⟨h.1.1,hi h.1.2⟩,?_⟩
    omega
   ·rw [if_pos (by omega)] at h
    have hk':o.kind=1∨o.kind=2:=by omega
    rcases hk' with k | k
    ·have e:YJ o=⟨2,o.n,o.l,o.e⟩:=by rw [Jl,if_pos k]
     rw [e,Je]
     simp only
     rw [if_neg (by decide),if_neg (by omega),if_pos (by decide)]
     exact h
    ·have e:YJ o=⟨1,o.n,o.l,o.e⟩:=by rw [Jl,if_neg (by omega),if_pos k]
     rw [e,Je]
     simp only
     rw [if_neg (by decide),if_neg (by omega),if_pos (by decide)]
     exact h
mutual
theorem JD:∀ (e:Edit) (d:Int),Z4 e d=true→Z4 (ZM e) d=true
 | .mk k o n w ks l os,d,h=> by
  have h1:=Z7r ks
  have h2:=Z7p l os
  simp only [Z4] at h
  simp only [ZM,Z4]
  split at h
  ·cases h
  ·rename_i a
   rw [if_neg a]
   split at h
   ·cases h
   ·rename_i b
    rw [if_neg (by rw [List.length_map,ZaT,Z6o];intro hc;apply b;rcases hc with x | x | x;exact Or.inl ⟨x.1,fun y=> x.2 ⟨y.2,y.1⟩⟩;exact Or.inr (Or.inl x);exact Or.inr (Or.inr x))]
    split at h
    ·rename_i c
     rw [if_pos c]
     simp only [Bool.and_eq_true,decide_eq_true_eq] at h ⊢
     exact ⟨⟨h.1.2,h.1.1⟩,h.2.2,h.2.1⟩
    ·rename_i c
     rw [if_neg c]
     simp only [Bool.and_eq_true,decide_eq_true_eq] at h ⊢
     obtain ⟨⟨⟨⟨x1,x2⟩,x3⟩,x4⟩,x5⟩:=h
     refine ⟨⟨⟨⟨by rw [Z6Z];exact x1,h1 _ _ x2⟩,x3⟩,h2 _ x4⟩,?_⟩
     rw [(Z7W os 0).1,(Z7W os 0).2]
     exact ⟨x5.2,x5.1⟩
theorem Z7r:∀ (ks:List (KidOf Edit)) (last d:Int),Zu last ks d=true→Zu last (Jy ks) d=true
 | [],_,_,_=> rfl
 | k ::r,last,d,h=> by
  simp only [Zu,Bool.and_eq_true] at h
  have h1:=ZcT k last d h.1
  have h2:=Z7r r k.at_ d h.2
  simp only [Jy,Zu,Bool.and_eq_true]
  exact ⟨h1,by rw [ZaU];exact h2⟩
theorem ZcT:∀ (k:KidOf Edit) (last d:Int),Yx last k d=true→Yx last (Z19 k) d=true
 | ⟨a,e⟩,last,d,h=> by
  simp only [Yx,Bool.and_eq_true] at h
  have h1:=JD e d h.2
  simp only [Z19,Yx,Bool.and_eq_true]
  rw [Z0V]
  exact ⟨h.1,h1⟩
theorem Z7p(list:Int):∀ (os:List (OpOf Edit)) (d:Int),Zq list os d=true→Zq list (J5 os) d=true
 | [],_,_=> rfl
 | o ::r,d,h=> by
  simp only [Zq,Bool.and_eq_true] at h
  have h1:=ZeC list o d h.1
  have h2:=Z7p list r d h.2
  simp only [J5,Zq,Bool.and_eq_true]
  exact ⟨h1,h2⟩
theorem ZeC(list:Int):∀ (o:OpOf Edit) (d:Int),Z7 list o d=true→Z7 list (YJ o) d=true
 | ⟨k,n,l,e⟩,d,h=> Zr8 (o:=⟨k,n,l,e⟩) h (fun he=> JD e d he)
end
end Go.AM.Ytpjenobkibfpcaa
namespace Go.AM.Ytpjenobkibfpcaa
open Go.AM Go.Proofs
theorem Z9b:∀ (a b:List Tree),Za (a++b)=Za a+Za b
 | [],b=> by simp [Za]
 | t ::r,b=> by simp only [List.cons_append,Za,Z9b r b];omega
theorem JI:∀ (a b:List Op),Zc (a++b)=Zc a+Zc b
 | [],b=> by simp [Zc]
 | t ::r,b=> by simp only [List.cons_append,Zc,JI r b];omega
theorem Z4X:∀ (l:List Tree),Za (Z5 l)≤Za l
 | []=> by simp [Z5,Za]
 | t ::r=> by
  have h:=Z4X r
  have h2:=Yi t
  simp only [Z5] at h
  simp only [Z5,List.map_cons,Za]
  omega
theorem Z5L:Z6 Edit.nil=3:=by simp [Edit.nil,Tree.nil,Z6,Zk,Za,Zi,Zc]
theorem Z0n:Zk Tree.nil=1:=by simp [Tree.nil,Zk,Za]
theorem Z5K(t:Tree):1≤Zk t:=by cases t;simp only [Zk];omega
theorem Z0p:∀ (e:Edit),3≤Z6 e
 | .mk k o n w ks l os=> by
  have h1:=Z5K o
  have h2:=Z5K n
  simp only [Z6];omega
def Z4J(w:Wst):Nat:=Zc w.out+w.out.length+Za w.gone+Za w.brought+(if w.gone.length=0 then 0 else 4)+(if w.brought.length=0 then 0 else 4)
theorem Z0h(o:Op):Zc [o]=Zn o:=by simp [Zc]
theorem Z1V(k n:Int)(l:List Tree)(e:Edit):Zn (OpOf.mk k n l e)=Za l+Z6 e:=rfl
theorem Z8Z(w:Wst):Zc (Z1 w).out+(Z1 w).out.length=Z4J w:=by
 simp only [Z1,JN,Z4J]
 rw [JI,JI,List.length_append,List.length_append]
 by_cases hg:w.gone.length=0
 ·have e:w.gone=[]:=List.length_eq_zero_iff.1 hg
  rw [if_pos hg,if_pos hg,e]
  by_cases hb:w.brought.length=0
  ·have e2:w.brought=[]:=List.length_eq_zero_iff.1 hb
   rw [if_pos hb,if_pos hb,e2];simp [Zc,Za]
  ·rw [if_neg hb,if_neg hb,Z0h,Z1V,Z5L];simp [Zc,Za];omega
 ·rw [if_neg hg,if_neg hg,Z0h,Z1V,Z5L]
  by_cases hb:w.brought.length=0
  ·have e2:w.brought=[]:=List.length_eq_zero_iff.1 hb
   rw [if_pos hb,if_pos hb,e2];simp [Zc,Za];omega
  ·rw [if_neg hb,if_neg hb,Z0h,Z1V,Z5L];simp;omega
theorem ZgB(w:Wst)(n:Int):Z4J (ZL w n)≤Z4J w+4:=by
 have h:=Z8Z w
 have e:Z4J (ZL w n)=Zc (Z0T (Z1 w).out n)+(Z0T (Z1 w).out n).length:=by simp [Z4J,ZL,Za]
 rw [e]
 rcases YX (Z1 w).out n with e | ⟨a,o,e1,_,e3⟩
 ·rw [e,JI,List.length_append,Z0h,Z1V,Z5L];simp [Za];omega
 ·rw [e3,JI,List.length_append,Z0h]
  rw [e1,JI,List.length_append,Z0h] at h
  obtain ⟨k,m,l,e⟩:=o
  simp only [Z1V] at h ⊢
  simp at h ⊢
  omega
theorem ZtY{list:Int}{w:Wst}{o:Op}(hi:Z6 (ZA o.e)≤Z6 o.e):Z4J (Z0l list o w)≤Z4J w+Zn o+1:=by
 have h3:=Z0p o.e
 have hm:Zn o=Za o.l+Z6 o.e:=by cases o;rfl
 have hn:=Z4X o.l
 have hl:(Z5 o.l).length=o.l.length:=by simp [Z5]
 rw [Z1j]
 split
 ·have:=ZgB w o.n;omega
 ·split
  ·simp only [Z4J,Z9b,List.length_append,hl]
   split <;> split <;> split <;> omega
  ·split
   ·simp only [Z4J,Z9b,List.length_append,hl]
    split <;> split <;> split <;> omega
   ·split
    ·split
     ·have:=ZgB w 1;omega
     ·have:=Z8Z w
      have e:Z4J ⟨(Z1 w).out++[⟨3,0,[],ZA o.e⟩],[],[]⟩=Zc ((Z1 w).out++[(⟨3,0,[],ZA o.e⟩:Op)])+((Z1 w).out++[(⟨3,0,[],ZA o.e⟩:Op)]).length:=by simp [Z4J,Za]
      rw [e,JI,List.length_append,Z0h,Z1V]
      simp [Za];omega
    ·omega
mutual
theorem Z5O:∀ (e:Edit),Z6 (ZA e)≤Z6 e
 | .mk k o n w ks l os=> by
  have h1:=Zcd ks
  have h2:=ZjX l os W0
  have h3:=Z8Z (ZY l os W0)
  have e0:Z4J W0=0:=rfl
  have po:=Z5K o
  have pn:=Z5K n
  have mo:=Yi o
  have mn:=Yi n
  rw [ZA]
  split
  ·simp only [Z6,Zi,Zc,List.length_nil];omega
  ·split
   ·simp only [Z6,Zi,Zc,List.length_nil,Z0n];omega
   ·split
    ·simp only [Z6,Zi,List.length_nil,Z0n]
     show 1+1+1+0+(Z1 (ZY l os W0)).out.length+0+Zc (Z1 (ZY l os W0)).out≤_
     omega
    ·simp only [Z6,Zi,Zc,List.length_nil,Z0n];omega
theorem Zcd:∀ (ks:List (KidOf Edit)),Zi (Jj ks)≤Zi ks
 | []=> Nat.le_refl _
 | k ::r=> by
  have h1:=ZgV k
  have h2:=Zcd r
  simp only [Jj,Zi];omega
theorem ZgV:∀ (k:KidOf Edit),ZO (Z11 k)≤ZO k
 | ⟨a,e⟩=> by
  have h:=Z5O e
  simp only [Z11,ZO];exact h
theorem ZjX(list:Int):∀ (os:List (OpOf Edit)) (w:Wst),Z4J (ZY list os w)≤Z4J w+Zc os+os.length
 | [],w=> by simp [ZY,Zc]
 | o ::r,w=> by
  have h1:=ZlG list o w
  have h2:=ZjX list r (Z0l list o w)
  simp only [ZY,Zc,List.length_cons];omega
theorem ZlG(list:Int):∀ (o:OpOf Edit) (w:Wst),Z4J (Z0l list o w)≤Z4J w+Zn o+1
 | ⟨k,n,l,e⟩,_=> ZtY (o:=⟨k,n,l,e⟩) (Z5O e)
end
end Go.AM.Ytpjenobkibfpcaa
namespace Go.AM.Ytpjenobkibfpcaa
open Go.AM Go.Proofs
theorem Z3h(e:Edit):(ZA e).kind=e.kind:=by
 rw [Z41]
 split
 ·try rfl
 ·split
  ·try rfl
  ·split <;> rfl
theorem Z7D(e:Edit)(h:e.kind=1):(ZA e).old=Z3 e.old∧(ZA e).new=Z3 e.new:=by
 rw [Z41,if_pos h]
 exact ⟨rfl,rfl⟩
theorem ZhX{D list:Int}{t:Tree}(hD:D≠0)(h:Ze (.mk list [] [t]) D=true):Ze (.mk list [] [Z3 t]) D=true:=by
 have key:=fun (k d:Int) (h:Yd k [t] d=true)=> Z4A [t] k d h
 simp only [Y1] at key
 simp only [Ze] at h ⊢
 split at h
 ·simp at h
 ·rename_i h0
  rw [if_neg h0]
  split at h
  ·simp at h
  ·rename_i h1
   rw [if_neg h1]
   try rw [if_neg hD] at h
   try rw [if_neg hD]
   split at h
   ·rename_i h2
    rw [if_pos h2]
    simp only [Bool.and_eq_true] at h ⊢
    exact ⟨h.1,key _ _ h.2⟩
   ·rename_i h2
    rw [if_neg h2]
    simp only [Bool.and_eq_true] at h ⊢
    exact ⟨h.1,key _ _ h.2⟩
theorem Z2V{D list:Int}(hD:D≠0):∀ {l:List Tree},Yg D list l=true→Yg D list (Z5 l)=true
 | [],_=> rfl
 | t ::r,h=> by
  simp only [Yg,Bool.and_eq_true] at h
  have h2:=Z2V hD h.2
  simp only [Z5] at h2
  simp only [Z5,List.map_cons,Yg,Bool.and_eq_true]
  exact ⟨ZhX hD h.1,h2⟩
theorem Z4q{D list:Int}:∀ {a b:List Tree},Yg D list a=true→Yg D list b=true→Yg D list (a++b)=true
 | [],_,_,h=> h
 | t ::r,b,h,h2=> by
  simp only [Yg,Bool.and_eq_true] at h
  simp only [List.cons_append,Yg,Bool.and_eq_true]
  exact ⟨h.1,Z4q h.2 h2⟩
def rOp(list:Int)(d:Int)(o:Op):Prop:=(o.kind=0→1≤o.n∧o.l.length=0∧Z1v o.e=true)∧(o.kind≠0→Z7 list o d=true)
theorem Yt{list d:Int}{o:Op}(h:Z7 list o d=true):rOp list d o:=by
 refine ⟨fun hk=> ?_,fun _=> h⟩
 obtain ⟨k,n,l,e⟩:=o
 simp only at hk
 subst hk
 simp only [Z7,if_true,Bool.and_eq_true,decide_eq_true_eq] at h
 exact ⟨h.1.1,h.1.2.2,h.2⟩
theorem ZtV{list d:Int}{o:Op}(h:rOp list d o)(hn:o.kind=0→o.n≤1048576):Z7 list o d=true:=by
 by_cases hk:o.kind=0
 ·have h1:=h.1 hk
  have h2:=hn hk
  obtain ⟨k,n,l,e⟩:=o
  simp only at hk h1 h2
  subst hk
  simp only [Z7,if_true,Bool.and_eq_true,decide_eq_true_eq]
  exact ⟨⟨h1.1,h2,h1.2.1⟩,h1.2.2⟩
 ·exact h.2 hk
theorem YF{list:Int}:∀ {os:List Op} {d:Int},Zq list os d=true↔∀ o∈os,Z7 list o d=true
 | [],d=> by simp [Zq]
 | o ::r,d=> by
  simp only [Zq,Bool.and_eq_true,List.mem_cons,forall_eq_or_imp]
  rw [YF (os:=r)]
theorem Z2a:Z1v Edit.nil=true:=rfl
structure OkW (list d:Int) (w:Wst):Prop where
 out:∀ o∈w.out,rOp list d o
 gone:Yg (dT d) list w.gone=true
 brought:Yg (dT d) list w.brought=true
theorem Z94{list d:Int}{w:Wst}(h:OkW list d w):OkW list d (Z1 w):=by
 refine ⟨?_,rfl,rfl⟩
 simp only [Z1,JN]
 intro o ho
 rcases List.mem_append.1 ho with ho | ho
 ·exact h.out o ho
 rcases List.mem_append.1 ho with ho | ho
 ·split at ho
  ·cases ho
  ·rename_i hl
   simp only [List.mem_singleton] at ho
   subst ho
   refine ⟨fun hk=> (by cases hk),fun _=> ?_⟩
   simp only [Z7]
   rw [if_neg (by decide),if_neg (by decide),if_pos (by decide),h.gone,Z2a]
   simp only [Bool.and_true,Bool.true_and,decide_eq_true_eq]
   omega
 ·split at ho
  ·cases ho
  ·rename_i hl
   simp only [List.mem_singleton] at ho
   subst ho
   refine ⟨fun hk=> (by cases hk),fun _=> ?_⟩
   simp only [Z7]
   rw [if_neg (by decide),if_neg (by decide),if_pos (by decide),h.brought,Z2a]
   simp only [Bool.and_true,Bool.true_and,decide_eq_true_eq]
   omega
theorem ZgI{list d:Int}{w:Wst}{n:Int}(h:OkW list d w)(hn:1≤n):OkW list d (ZL w n):=by
 have hf:=Z94 h
 refine ⟨?_,rfl,rfl⟩
 simp only [ZL]
 intro o ho
 rcases YX (Z1 w).out n with e | ⟨a,q,e1,e2,e3⟩
 ·rw [e] at ho
  rcases List.mem_append.1 ho with ho | ho
  ·exact hf.out o ho
  ·simp only [List.mem_singleton] at ho
   subst ho
   exact ⟨fun _=> ⟨hn,rfl,Z2a⟩,fun hk=> absurd rfl hk⟩
 ·rw [e3] at ho
  rcases List.mem_append.1 ho with ho | ho
  ·exact hf.out o (by rw [e1];exact List.mem_append.2 (Or.inl ho))
  ·simp only [List.mem_singleton] at ho
   subst ho
   have hq:=(hf.out q (by rw [e1];simp)).1 e2
   exact ⟨fun _=> ⟨by simp only;omega,hq.2⟩,fun hk=> absurd e2 hk⟩
theorem Zu1{list d:Int}{w:Wst}{o:Op}(h:OkW list d w)(hr:Z7 list o d=true)(hi:Z4 o.e d=true→Z4 (ZA o.e) d=true):OkW list d (Z0l list o w):=by
 obtain ⟨k,n,l,e⟩:=o
 have hr0:=hr
 rw [Z7] at hr
 rw [Z1j]
 simp only at hi ⊢
 split at hr
 ·rename_i hk
  rw [if_pos hk]
  simp only [Bool.and_eq_true,decide_eq_true_eq] at hr
  exact ZgI h hr.1.1
 ·rename_i hk
  rw [if_neg hk]
  split at hr
  ·cases hr
  ·rename_i hn
   split at hr
   ·rename_i h3
    simp only [Bool.and_eq_true,decide_eq_true_eq] at hr
    by_cases k1:k=1
    ·rw [if_pos k1]
     exact ⟨h.out,Z4q h.gone (Z2V (Zts d) hr.1.1),h.brought⟩
    ·rw [if_neg k1,if_pos (by omega)]
     exact ⟨h.out,h.gone,Z4q h.brought (Z2V (Zts d) hr.1.1)⟩
   ·rename_i h3
    rw [if_neg (by omega),if_neg (by omega),if_pos (by omega)]
    split
    ·exact ZgI h (by decide)
    ·have hf:=Z94 h
     refine ⟨?_,rfl,rfl⟩
     intro o ho
     rcases List.mem_append.1 ho with ho | ho
     ·exact hf.out o ho
     ·simp only [List.mem_singleton] at ho
      subst ho
      refine ⟨fun hk=> (by cases hk),fun _=> ?_⟩
      simp only [Bool.and_eq_true,decide_eq_true_eq] at hr
      simp only [Z7]
      rw [if_neg (by decide),if_neg (by decide),if_neg (by decide),Z3h,hi hr.1.2]
      simp only [Bool.and_true,Bool.and_eq_true,decide_eq_true_eq]
      refine ⟨⟨rfl,hr.1.1.2⟩,?_⟩
      rcases hr.2 with h | h | h
      ·exact Or.inl h
      ·exact Or.inr (Or.inl h)
      ·rw [(Z7D e h.1).1,(Z7D e h.1).2,Z1W,Z1W]
       exact Or.inr (Or.inr h)
def Y3:List Op→Int
 | []=> 0
 | o ::r=> (if o.kind=2 then 0 else Z0 o)+Y3 r
def YO:List Op→Int
 | []=> 0
 | o ::r=> (if o.kind=1 then 0 else Z0 o)+YO r
theorem Z3b:∀ (a b:List Op),Y3 (a++b)=Y3 a+Y3 b
 | [],b=> by simp [Y3]
 | o ::r,b=> by simp only [List.cons_append,Y3,Z3b r b];omega
theorem Z3a:∀ (a b:List Op),YO (a++b)=YO a+YO b
 | [],b=> by simp [YO]
 | o ::r,b=> by simp only [List.cons_append,YO,Z3a r b];omega
theorem Yr:∀ (l:List Op) (n:Int),(∀ o∈l,0≤Z0 o)→0≤n→n≤1048576→Yj l n=min (n+Y3 l) 1048576∧0≤Y3 l
 | [],n,_,h1,h2=> by simp only [Yj,Y3];omega
 | o ::r,n,h,h1,h2=> by
  have ho:=h o (List.mem_cons_self ..)
  simp only [Yj,Y3]
  have hx:0≤(if o.kind=2 then n else n+Z0 o)∧(if o.kind=2 then n else n+Z0 o)=n+(if o.kind=2 then 0 else Z0 o):=by split <;> omega
  have hy:0≤(if o.kind=2 then 0 else Z0 o):=by split <;> omega
  rw [hx.2]
  rw [hx.2] at hx
  generalize (if o.kind=2 then 0 else Z0 o)=y at*
  obtain ⟨e1,e2⟩:=Yr r (min (n+y) 1048576) (fun x hx=> h x (List.mem_cons_of_mem _ hx)) (by omega) (by omega)
  rw [e1]
  omega
theorem YW:∀ (l:List Op) (n:Int),(∀ o∈l,0≤Z0 o)→0≤n→n≤1048576→Jk l n=min (n+YO l) 1048576∧0≤YO l
 | [],n,_,h1,h2=> by simp only [Jk,YO];omega
 | o ::r,n,h,h1,h2=> by
  have ho:=h o (List.mem_cons_self ..)
  simp only [Jk,YO]
  have hx:0≤(if o.kind=1 then n else n+Z0 o)∧(if o.kind=1 then n else n+Z0 o)=n+(if o.kind=1 then 0 else Z0 o):=by split <;> omega
  have hy:0≤(if o.kind=1 then 0 else Z0 o):=by split <;> omega
  rw [hx.2]
  rw [hx.2] at hx
  generalize (if o.kind=1 then 0 else Z0 o)=y at*
  obtain ⟨e1,e2⟩:=YW r (min (n+y) 1048576) (fun x hx=> h x (List.mem_cons_of_mem _ hx)) (by omega) (by omega)
  rw [e1]
  omega
theorem ZN{list d:Int}{o:Op}(h:rOp list d o):0≤Z0 o:=by
 unfold Z0
 split
 ·decide
 ·by_cases hk:o.kind=0
  ·have:=(h.1 hk).1;omega
  ·have hr:=h.2 hk
   obtain ⟨k,n,l,e⟩:=o
   simp only at hk ⊢
   rw [Z7,if_neg hk] at hr
   split at hr
   ·cases hr
   ·omega
theorem Zg1:∀ {l:List Op} {o:Op},(∀ o∈l,0≤Z0 o)→o∈l→o.kind≠2→Z0 o≤Y3 l
 | a ::r,o,h,ho,hk=> by
  have hr:=(Yr r 0 (fun x hx=> h x (List.mem_cons_of_mem _ hx)) (by decide) (by decide)).2
  have ha:=h a (List.mem_cons_self ..)
  simp only [Y3]
  rcases List.mem_cons.1 ho with rfl | ho
  ·rw [if_neg hk];omega
  ·have:=Zg1 (fun x hx=> h x (List.mem_cons_of_mem _ hx)) ho hk
   split <;> omega
def sA(w:Wst):Int:=Y3 w.out+w.gone.length
def sB(w:Wst):Int:=YO w.out+w.brought.length
theorem Z5j(w:Wst):Y3 (Z1 w).out=sA w∧YO (Z1 w).out=sB w:=by
 simp only [Z1,JN,sA,sB,Z3b,Z3a]
 constructor
 ·by_cases hg:w.gone.length=0
  ·rw [if_pos hg]
   by_cases hb:w.brought.length=0
   ·rw [if_pos hb];simp [Y3];omega
   ·rw [if_neg hb];simp [Y3];omega
  ·rw [if_neg hg]
   by_cases hb:w.brought.length=0
   ·rw [if_pos hb];simp [Y3,Z0]
   ·rw [if_neg hb];simp [Y3,Z0]
 ·by_cases hg:w.gone.length=0
  ·rw [if_pos hg]
   by_cases hb:w.brought.length=0
   ·rw [if_pos hb];simp [YO];omega
   ·rw [if_neg hb];simp [YO,Z0]
  ·rw [if_neg hg]
   by_cases hb:w.brought.length=0
   ·rw [if_pos hb];simp [YO];omega
   ·rw [if_neg hb];simp [YO,Z0]
theorem Zg0(w:Wst)(n:Int):sA (ZL w n)=sA w+n∧sB (ZL w n)=sB w+n:=by
 have hf:=Z5j w
 simp only [ZL]
 have e1:∀ x,sA ⟨x,[],[]⟩=Y3 x:=fun x=> by simp [sA]
 have e2:∀ x,sB ⟨x,[],[]⟩=YO x:=fun x=> by simp [sB]
 rw [e1,e2,←hf.1,←hf.2]
 rcases YX (Z1 w).out n with e | ⟨a,q,e1,e2,e3⟩
 ·rw [e,Z3b,Z3a]
  simp [Y3,YO,Z0]
 ·rw [e3,e1,Z3b,Z3a,Z3b,Z3a]
  simp only [Y3,YO,Z0,e2]
  simp
  omega
theorem ZtP{list d:Int}{w:Wst}{o:Op}(hr:Z7 list o d=true):sA (Z0l list o w)=sA w+(if o.kind=2 then 0 else Z0 o)∧sB (Z0l list o w)=sB w+(if o.kind=1 then 0 else Z0 o):=by
 have hl:∀ l,((Z5 l).length:Int)=l.length:=fun l=> by simp [Z5]
 obtain ⟨k,n,l,e⟩:=o
 rw [Z7] at hr
 rw [Z1j]
 simp only [Z0]
 split at hr
 ·rename_i hk
  subst hk
  rw [if_pos rfl]
  simp only [Bool.and_eq_true,decide_eq_true_eq] at hr
  have:=Zg0 w n
  simp
  omega
 ·rename_i hk
  rw [if_neg hk]
  split at hr
  ·cases hr
  ·rename_i hn
   split at hr
   ·rename_i h3
    by_cases k1:k=1
    ·subst k1
     rw [if_pos rfl]
     simp only [sA,sB,List.length_append]
     simp [hl]
     omega
    ·have k2:k=2:=by omega
     subst k2
     rw [if_neg k1,if_pos rfl]
     simp only [sA,sB,List.length_append]
     simp [hl]
     omega
   ·rename_i h3
    have k3:k=3:=by omega
    subst k3
    rw [if_neg (by omega),if_neg (by omega),if_pos rfl]
    split
    ·have:=Zg0 w 1
     simp
     omega
    ·have:=Z5j w
     simp only [sA,sB,Z3b,Z3a,Y3,YO,Z0] at this ⊢
     simp
     omega
mutual
theorem J1:∀ (e:Edit) (d:Int),Z4 e d=true→Z4 (ZA e) d=true
 | .mk k o n w ks l os,d,h=> by
  have h1:=Z9G ks
  have h2:=Zk1 l os
  have h4:=Zeq l os
  rw [Z4] at h
  split at h
  ·cases h
  ·rename_i a
   split at h
   ·cases h
   ·rename_i b
    have nn:J7 Tree.nil=true:=rfl
    by_cases k1:k=1
    ·subst k1
     rw [if_pos rfl] at h
     have hl:l=0:=by
      apply Classical.byContradiction
      intro hl
      exact b (.inr (.inr ⟨by decide,.inl hl⟩))
     simp only [Bool.and_eq_true,decide_eq_true_eq] at h
     rw [ZA,if_pos rfl,Z4,if_neg a,if_neg (by simp [hl]),if_pos rfl]
     simp only [Bool.and_eq_true,decide_eq_true_eq]
     rw [Z1W,Z1W]
     exact ⟨⟨Z2I _ _ h.1.1,Z2I _ _ h.1.2⟩,h.2⟩
    ·rw [if_neg k1] at h
     simp only [Bool.and_eq_true,decide_eq_true_eq] at h
     obtain ⟨⟨⟨⟨x1,x2⟩,x3⟩,x4⟩,x5⟩:=h
     rw [ZA,if_neg k1]
     by_cases k2:k=2
     ·have hl:l=0:=by
       apply Classical.byContradiction
       intro hl
       exact b (.inr (.inr ⟨by omega,.inl hl⟩))
      rw [if_pos k2,Z4,if_neg a,if_neg (by simp [nn,hl,k2]),if_neg k1]
      simp only [Bool.and_eq_true,decide_eq_true_eq]
      exact ⟨⟨⟨⟨x1,h1 _ _ x2⟩,x3⟩,rfl⟩,by decide⟩
     ·rw [if_neg k2]
      by_cases k3:k=3
      ·rw [if_pos k3,Z4,if_neg a,if_neg (by simp [nn,k3]),if_neg k1]
       simp only [Bool.and_eq_true,decide_eq_true_eq]
       have hall:=YF.1 x4
       obtain ⟨y1,y2⟩:=Yr os 0 (fun o ho=> ZN (Yt (hall o ho))) (by decide) (by decide)
       obtain ⟨z1,z2⟩:=YW os 0 (fun o ho=> ZN (Yt (hall o ho))) (by decide) (by decide)
       have hw:=h2 (d - 1) W0 x4 ⟨fun o ho=> (by cases ho),rfl,rfl⟩
       have hs:=h4 (d - 1) W0 x4
       have hff:=Z94 hw
       have hsf:=Z5j (ZY l os W0)
       have e0:sA W0=0∧sB W0=0:=⟨rfl,rfl⟩
       have hA:=Yr (Z1 (ZY l os W0)).out 0 (fun o ho=> ZN (hff.out o ho)) (by decide) (by decide)
       have hB:=YW (Z1 (ZY l os W0)).out 0 (fun o ho=> ZN (hff.out o ho)) (by decide) (by decide)
       refine ⟨⟨⟨⟨rfl,rfl⟩,x3⟩,YF.2 (fun o ho=> ZtV (hff.out o ho) (fun hk=> ?_))⟩,?_,?_⟩
       ·have hm:=Zg1 (fun o ho=> ZN (hff.out o ho)) ho (by omega)
        unfold Z0 at hm
        rw [if_neg (by omega)] at hm
        omega
       ·show Yj (Z1 (ZY l os W0)).out 0 < 1048576
        omega
       ·show Jk (Z1 (ZY l os W0)).out 0 < 1048576
        omega
      ·have hl:l=0:=by
        apply Classical.byContradiction
        intro hl
        exact b (.inr (.inr ⟨k3,.inl hl⟩))
       rw [if_neg k3,Z4,if_neg a,if_neg (by simp [nn,hl]),if_neg k1]
       simp only [Bool.and_eq_true,decide_eq_true_eq]
       exact ⟨⟨⟨⟨rfl,rfl⟩,x3⟩,rfl⟩,by decide⟩
theorem Z9G:∀ (ks:List (KidOf Edit)) (last d:Int),Zu last ks d=true→Zu last (Jj ks) d=true
 | [],_,_,_=> rfl
 | k ::r,last,d,h=> by
  simp only [Zu,Bool.and_eq_true] at h
  have h1:=ZeF k last d h.1
  have h2:=Z9G r k.at_ d h.2
  simp only [Jj,Zu,Bool.and_eq_true]
  exact ⟨h1,by rw [ZdN];exact h2⟩
theorem ZeF:∀ (k:KidOf Edit) (last d:Int),Yx last k d=true→Yx last (Z11 k) d=true
 | ⟨a,e⟩,last,d,h=> by
  simp only [Yx,Bool.and_eq_true] at h
  have h1:=J1 e d h.2
  simp only [Z11,Yx,Bool.and_eq_true]
  rw [Z3h]
  exact ⟨h.1,h1⟩
theorem Zk1(list:Int):∀ (os:List (OpOf Edit)) (d:Int) (w:Wst),Zq list os d=true→OkW list d w→OkW list d (ZY list os w)
 | [],_,_,_,hw=> hw
 | o ::r,d,w,h,hw=> by
  simp only [Zq,Bool.and_eq_true] at h
  have h1:=ZlM list o d w h.1 hw
  exact Zk1 list r d _ h.2 h1
theorem ZlM(list:Int):∀ (o:OpOf Edit) (d:Int) (w:Wst),Z7 list o d=true→OkW list d w→OkW list d (Z0l list o w)
 | ⟨k,n,l,e⟩,d,w,h,hw=> Zu1 (o:=⟨k,n,l,e⟩) hw h (fun he=> J1 e d he)
theorem Zeq(list:Int):∀ (os:List (OpOf Edit)) (d:Int) (w:Wst),Zq list os d=true→sA (ZY list os w)=sA w+Y3 os∧sB (ZY list os w)=sB w+YO os
 | [],_,_,_=> by simp [ZY,Y3,YO]
 | o ::r,d,w,h=> by
  simp only [Zq,Bool.and_eq_true] at h
  have h1:=ZtP (w:=w) h.1
  have h2:=Zeq list r d (Z0l list o w) h.2
  simp only [ZY,Y3,YO]
  omega
end
end Go.AM.Ytpjenobkibfpcaa
namespace Go.AM.Ytpjenobkibfpcaa
open Go.AM Go.Proofs
theorem Z4y:∀ {a b:List Tree},Y7 (a++b)↔Y7 a∧Y7 b
 | [],b=> by simp [Y7]
 | t ::r,b=> by simp only [List.cons_append,Y7];rw [Z4y (a:=r),and_assoc]
mutual
theorem JB:∀ (t:Tree),rng t→rng (Z3 t)
 | .mk k w ks,h=> by
  simp only [rng] at h
  obtain ⟨h1,h2,h3⟩:=h
  have h4:=Zdt ks h3
  simp only [Z3]
  split
  ·simp only [Tree.nil,rng,Y7]
   exact ⟨by decide,by simp,trivial⟩
  ·split
   ·obtain ⟨r1,e1⟩:=ZaV w
    obtain ⟨r2,e2⟩:=Z8G (Y1 ks)
    simp only [rng]
    refine ⟨by decide,fun x hx=> h2 x (by rw [e1];exact List.mem_append.2 (Or.inl hx)),?_⟩
    rw [e2] at h4
    exact (Z4y.1 h4).1
   ·simp only [rng]
    exact ⟨h1,h2,h4⟩
theorem Zdt:∀ (l:List Tree),Y7 l→Y7 (Y1 l)
 | [],_=> trivial
 | t ::r,h=> by
  simp only [Y7] at h
  have h1:=JB t h.1
  have h2:=Zdt r h.2
  simp only [Y1,Y7]
  exact ⟨h1,h2⟩
end
theorem Z6v:∀ {l:List Tree},Y7 l→Y7 (Z5 l)
 | [],_=> trivial
 | t ::r,h=> by
  simp only [Y7] at h
  have h2:=Z6v h.2
  simp only [Z5] at h2
  simp only [Z5,List.map_cons,Y7]
  exact ⟨JB t h.1,h2⟩
theorem Z1i:rng Tree.nil:=by
 simp only [Tree.nil,rng,Y7]
 exact ⟨by decide,by simp,trivial⟩
mutual
theorem Z5v:∀ (e:Edit),Ym e→Ym (ZM e)
 | .mk k o n w ks l os,h=> by
  simp only [Ym] at h
  obtain ⟨h1,h2,h3,h4,h5,h6,h7⟩:=h
  have i6:=Zbu ks h6
  have i7:=Zbt os h7
  simp only [ZM,Ym]
  refine ⟨h1,h3,h2,fun x hx=> ?_,h5,i6,i7⟩
  obtain ⟨y,hy,rfl⟩:=List.mem_map.1 hx
  have:=h4 y hy
  simp only [Z2w,Z4p] at this ⊢
  exact ⟨this.1,this.2.1,this.2.2.2,this.2.2.1⟩
theorem Zbu:∀ (ks:List (KidOf Edit)),Z0k ks→Z0k (Jy ks)
 | [],_=> trivial
 | k ::r,h=> by
  simp only [Z0k] at h
  have h1:=Zgd k h.1
  have h2:=Zbu r h.2
  simp only [Jy,Z0k]
  exact ⟨h1,h2⟩
theorem Zgd:∀ (k:KidOf Edit),Z0Z k→Z0Z (Z19 k)
 | ⟨a,e⟩,h=> by
  simp only [Z0Z] at h
  have h2:=Z5v e h.2
  simp only [Z19,Z0Z]
  exact ⟨h.1,h2⟩
theorem Zbt:∀ (os:List (OpOf Edit)),JC os→JC (J5 os)
 | [],_=> trivial
 | o ::r,h=> by
  simp only [JC] at h
  have h1:=ZhT o h.1
  have h2:=Zbt r h.2
  simp only [J5,JC]
  exact ⟨h1,h2⟩
theorem ZhT:∀ (o:OpOf Edit),Yb o→Yb (YJ o)
 | ⟨k,n,l,e⟩,h=> by
  simp only [Yb] at h
  have h4:=Z5v e h.2.2.2
  simp only [YJ]
  split
  ·simp only [Yb];exact ⟨by unfold isI;omega,h.2⟩
  ·split
   ·simp only [Yb];exact ⟨by unfold isI;omega,h.2⟩
   ·split
    ·simp only [Yb];exact ⟨h.1,h.2.1,h.2.2.1,h4⟩
    ·simp only [Yb];exact h
end
structure RngW (w:Wst):Prop where
 out:∀ o∈w.out,Y7 o.l∧Ym o.e
 gone:Y7 w.gone
 brought:Y7 w.brought
theorem Z5w:Ym Edit.nil:=by
 simp only [Edit.nil,Ym,Z0k,JC]
 exact ⟨by unfold isI;omega,Z1i,Z1i,by simp,by unfold isI;omega,trivial,trivial⟩
theorem Z6u{w:Wst}(h:RngW w):RngW (Z1 w):=by
 refine ⟨?_,trivial,trivial⟩
 simp only [Z1,JN]
 intro o ho
 rcases List.mem_append.1 ho with ho | ho
 ·exact h.out o ho
 rcases List.mem_append.1 ho with ho | ho
 ·split at ho
  ·cases ho
  ·simp only [List.mem_singleton] at ho
   subst ho
   exact ⟨h.gone,Z5w⟩
 ·split at ho
  ·cases ho
  ·simp only [List.mem_singleton] at ho
   subst ho
   exact ⟨h.brought,Z5w⟩
theorem Zdq{w:Wst}{n:Int}(h:RngW w):RngW (ZL w n):=by
 have hf:=Z6u h
 refine ⟨?_,trivial,trivial⟩
 simp only [ZL]
 intro o ho
 rcases YX (Z1 w).out n with e | ⟨a,q,e1,e2,e3⟩
 ·rw [e] at ho
  rcases List.mem_append.1 ho with ho | ho
  ·exact hf.out o ho
  ·simp only [List.mem_singleton] at ho
   subst ho
   exact ⟨trivial,Z5w⟩
 ·rw [e3] at ho
  rcases List.mem_append.1 ho with ho | ho
  ·exact hf.out o (by rw [e1];exact List.mem_append.2 (Or.inl ho))
  ·simp only [List.mem_singleton] at ho
   subst ho
   exact hf.out q (by rw [e1];simp)
theorem Zju{list:Int}{w:Wst}{o:Op}(h:RngW w)(hl:Y7 o.l)(he:Ym (ZA o.e)):RngW (Z0l list o w):=by
 rw [Z1j]
 split
 ·exact Zdq h
 ·split
  ·exact ⟨h.out,Z4y.2 ⟨h.gone,Z6v hl⟩,h.brought⟩
  ·split
   ·exact ⟨h.out,h.gone,Z4y.2 ⟨h.brought,Z6v hl⟩⟩
   ·split
    ·split
     ·exact Zdq h
     ·refine ⟨?_,trivial,trivial⟩
      intro o ho
      rcases List.mem_append.1 ho with ho | ho
      ·exact (Z6u h).out o ho
      ·simp only [List.mem_singleton] at ho
       subst ho
       exact ⟨trivial,he⟩
    ·exact h
theorem Z9D:∀ {os:List Op},(∀ o∈os,Yb o)→JC os
 | [],_=> trivial
 | o ::r,h=> by
  simp only [JC]
  exact ⟨h o (List.mem_cons_self ..),Z9D (fun x hx=> h x (List.mem_cons_of_mem _ hx))⟩
theorem Zgh{list d:Int}{o:Op}(h:Z7 list o d=true)(hl:Y7 o.l)(he:Ym o.e):Yb o:=by
 have hn:=Z5y h
 obtain ⟨k,n,l,e⟩:=o
 simp only at hn hl he
 simp only [Yb]
 refine ⟨?_,by unfold isI;omega,hl,he⟩
 rw [Z7] at h
 unfold isI
 split at h
 ·omega
 ·split at h
  ·cases h
  ·omega
mutual
theorem Z1S:∀ (e:Edit) (d:Int),Z4 e d=true→Ym e→Ym (ZA e)
 | .mk k o n w ks l os,d,hr,h=> by
  have hin:=Z5z hr
  have hout:=Z5z (J1 _ _ hr)
  simp only [Edit.kids_mk,Edit.ops_mk,Edit.list_mk] at hin
  simp only [Ym] at h
  obtain ⟨h1,h2,h3,h4,h5,h6,h7⟩:=h
  have i6:=Zds ks (d - 1) (fun k hk=> (hin.1 k hk).1) h6
  have i7:=Zdr l os (d - 1) hin.2 h7 W0 ⟨fun o ho=> (by cases ho),trivial,trivial⟩
  rw [ZA] at hout ⊢
  by_cases k1:k=1
  ·rw [if_pos k1]
   simp only [Ym]
   exact ⟨h1,JB o h2,JB n h3,by simp,h5,trivial,trivial⟩
  ·rw [if_neg k1] at hout ⊢
   by_cases k2:k=2
   ·rw [if_pos k2]
    simp only [Ym]
    exact ⟨h1,Z1i,Z1i,h4,h5,i6,trivial⟩
   ·rw [if_neg k2] at hout ⊢
    by_cases k3:k=3
    ·rw [if_pos k3] at hout ⊢
     simp only [Ym]
     refine ⟨h1,Z1i,Z1i,by simp,h5,trivial,Z9D (fun q hq=> ?_)⟩
     have hx:=hout.2 q hq
     have hy:=(Z6u i7).out q hq
     exact Zgh hx hy.1 hy.2
    ·rw [if_neg k3]
     simp only [Ym]
     exact ⟨h1,Z1i,Z1i,by simp,h5,trivial,trivial⟩
theorem Zds:∀ (ks:List (KidOf Edit)) (d:Int),(∀ k∈ks,Z4 k.e d=true)→Z0k ks→Z0k (Jj ks)
 | [],_,_,_=> trivial
 | k ::r,d,hr,h=> by
  simp only [Z0k] at h
  have h1:=ZhU k d (hr k (List.mem_cons_self ..)) h.1
  have h2:=Zds r d (fun x hx=> hr x (List.mem_cons_of_mem _ hx)) h.2
  simp only [Jj,Z0k]
  exact ⟨h1,h2⟩
theorem ZhU:∀ (k:KidOf Edit) (d:Int),Z4 k.e d=true→Z0Z k→Z0Z (Z11 k)
 | ⟨a,e⟩,d,hr,h=> by
  simp only [Z0Z] at h
  have h2:=Z1S e d hr h.2
  simp only [Z11,Z0Z]
  exact ⟨h.1,h2⟩
theorem Zdr(list:Int):∀ (os:List (OpOf Edit)) (d:Int),(∀ o∈os,Z7 list o d=true)→JC os→∀ (w:Wst),RngW w→RngW (ZY list os w)
 | [],_,_,_,w,hw=> hw
 | o ::r,d,hr,h,w,hw=> by
  simp only [JC] at h
  have h1:=Zlx list o d (hr o (List.mem_cons_self ..)) h.1 w hw
  exact Zdr list r d (fun x hx=> hr x (List.mem_cons_of_mem _ hx)) h.2 _ h1
theorem Zlx(list:Int):∀ (o:OpOf Edit) (d:Int),Z7 list o d=true→Yb o→∀ (w:Wst),RngW w→RngW (Z0l list o w)
 | ⟨k,n,l,e⟩,d,hr,h,w,hw=> by
  simp only [Yb] at h
  by_cases k3:k=3
  ·have he:Z4 e d=true:=by
    rw [Z7,if_neg (by omega),] at hr
    split at hr
    ·cases hr
    ·rw [if_neg (by omega)] at hr
     simp only [Bool.and_eq_true] at hr
     exact hr.1.2
   exact Zju (o:=⟨k,n,l,e⟩) hw h.2.2.1 (Z1S e d he h.2.2.2)
  ·have hs:Ym (ZA Edit.nil):=by
    show Ym (.mk 0 Tree.nil Tree.nil [] [] 0 [])
    exact Z5w
   have e2:Z0l list ⟨k,n,l,e⟩ w=Z0l list ⟨k,n,l,Edit.nil⟩ w:=by
    simp only [Z0l]
    rw [if_neg k3,if_neg k3]
   rw [e2]
   exact Zju (o:=⟨k,n,l,Edit.nil⟩) hw h.2.2.1 hs
end
end Go.AM.Ytpjenobkibfpcaa
namespace Go.AM.Ytpjenobkibfpcaa
open Go.AM Go.Proofs
theorem Zu4(t:Tree):t.words.length+Za t.kids+1=Zk t:=by obtain ⟨k,w,ks⟩:=t;simp only [Zk,Tree.words_mk,Tree.kids_mk];omega
theorem ZdV:∀ (l:List Tree) (i:Nat) (x:Tree),i < l.length→Za (l.set i x)+Zk (l.getD i Tree.nil)=Za l+Zk x
 | [],i,x,h=> by simp at h
 | a ::r,0,x,_=> by simp only [List.set_cons_zero,Za,List.getD_cons_zero];omega
 | a ::r,i+1,x,h=> by
  have:=ZdV r i x (by simpa using h)
  simp only [List.set_cons_succ,Za,List.getD_cons_succ];omega
theorem Zij(n:Nat):Za (List.replicate n Tree.nil)=n:=by
 induction n with
 | zero=> rfl
 | succ n ih=> rw [List.replicate_succ,Za,ih];simp [Tree.nil,Zk,Za];omega
theorem Jo:∀ (a b:List Tree),Za (a++b)=Za a+Za b
 | [],b=> by simp [Za]
 | t ::r,b=> by simp only [List.cons_append,Za,Jo r b];omega
theorem ZlZ(l:List Tree)(i:Nat)(x:Tree):Za (ZW Tree.nil l i x)+Zk (l.getD i Tree.nil)≤Za l+Zk x+(i+1):=by
 have h:=ZdV (l++List.replicate (i+1 - l.length) Tree.nil) i x (by simp;omega)
 have e:(l++List.replicate (i+1 - l.length) Tree.nil).getD i Tree.nil=l.getD i Tree.nil:=by
  by_cases hi:i < l.length
  ·simp only [List.getD_eq_getElem?_getD];rw [List.getElem?_append_left hi]
  ·simp only [List.getD_eq_getElem?_getD]
   rw [List.getElem?_append_right (by omega),List.getElem?_eq_none (l:=l) (by omega),List.getElem?_replicate]
   split <;> rfl
 rw [e,Jo,Zij] at h
 simp only [ZW]
 omega
theorem Zel{tw:List Int}:∀ {ws:List WEdit} {last:Int} {out a:List Int},ZI last ws=true→wsD tw ws out=some a→a.length≤max out.length 65535
 | [],_,out,a,_,h=> by rw [wsD] at h;cases h;omega
 | w ::r,last,out,a,hw,h=> by
  have h1:=Jw hw w List.mem_cons_self
  simp only [ZI,Bool.and_eq_true] at hw
  rw [wsD] at h
  split at h
  ·have:=Zel hw.2 h
   rw [Z2Y] at this
   omega
  ·cases h
theorem Z3R{last d:Int}{k:Kid}{r:List Kid}(h:Zu last (k ::r) d=true):(last < k.at_∧k.at_≤65534)∧Z4 k.e d=true∧Zu k.at_ r d=true:=by
 have:=ZK h k List.mem_cons_self
 simp only [Zu,Bool.and_eq_true] at h
 exact ⟨⟨this.1.1,this.1.2.1⟩,this.2,h.2⟩
theorem ZmJ{tw:List Int}{ws:List WEdit}{last:Int}{out a:List Int}(hw:ZI last ws=true)(h:wsD tw ws out=some a):a.length≤out.length+65600*ws.length:=by
 cases ws with
 | nil=> rw [wsD] at h;cases h;omega
 | cons w r=>
  have:=Zel hw h
  simp only [List.length_cons]
  omega
theorem ZbY(r:Bool)(v:Tree):Zk (nrD r v)≤Zk v:=by
 unfold nrD
 split
 ·exact Yi v
 ·exact Nat.le_refl _
mutual
theorem Zca(r:Bool):∀ (e:Edit) (d:Int) (t v:Tree),Z4 e d=true→Zi6 r e t=some v→Zk v+18≤Zk t+ctE e
 | .mk k o n w ks l os,d,t,v,hr,hv=> by
  have ri:=Zw hr
  have h1:=ZdU r ks t.kids
  have h2:=ZdT r l os
  have ht:=Zu4 t
  have po:=Y8 o
  have pn:=Y8 n
  have pt:=Y8 t
  unfold Zi6 at hv
  simp only [ctE]
  split at hv
  ·cases hv;omega
  ·split at hv
   ·split at hv
    ·cases hv
     show Zk n+18≤_
     omega
    ·cases hv
   ·split at hv
    ·split at hv
     ·obtain ⟨a,ha,hb⟩:=Option.bind_eq_some_iff.1 hv
      obtain ⟨b,hb,e⟩:=Option.map_eq_some_iff.1 hb
      have l1:=ZmJ ri.words ha
      simp only [Edit.words_mk] at l1
      have l2:=h1 t.kids b _ (-1) (by omega) ri.kids (fun j _=> rfl) hb
      rw [←e]
      simp only [Zk]
      omega
     ·cases hv
    ·split at hv
     ·split at hv
      ·obtain ⟨b,hb,e⟩:=Option.map_eq_some_iff.1 hv
       unfold Z1H at hb
       obtain ⟨x,hx,hy⟩:=Option.bind_eq_some_iff.1 hb
       have l2:=h2 _ t.kids [] x (fun o ho=> Go.AM.rightOs_mem ri.ops o ho) hx
       split at hy
       ·cases hy
        rw [←e]
        simp only [Zk,List.length_nil]
        simp only [Za] at l2
        omega
       ·cases hy
      ·cases hv
     ·cases hv
theorem ZdU(r:Bool):∀ (ks:List (KidOf Edit)) (tk out b:List Tree) (d last:Int),-1≤last→Zu last ks d=true→(∀ j:Nat,last < (j:Int)→out.getD j Tree.nil=tk.getD j Tree.nil)→JX r tk ks out=some b→Za b≤Za out+Z03 ks
 | [],tk,out,b,d,last,_,_,_,h=> by rw [JX] at h;cases h;simp
 | k ::s,tk,out,b,d,last,hl,hr,hj,h=> by
  obtain ⟨h1,h2,h3⟩:=Z3R hr
  rw [JX] at h
  obtain ⟨u,hu,hb⟩:=Option.bind_eq_some_iff.1 h
  have m1:=Zih r k tk u d h2 hu
  have m2:=ZlZ out k.at_.toNat u
  rw [hj k.at_.toNat (by omega)] at m2
  have m3:=ZdU r s tk _ b d k.at_ (by omega) h3 (fun j hj'=> by
   rw [Ja,if_neg (by omega)]
   exact hj j (by omega)) hb
  have m4:k.at_.toNat+1≤65600:=by omega
  have e1:Z03 (k ::s)=65600+ctE k.e+Z03 s:=by obtain ⟨a,e⟩:=k;rfl
  rw [e1]
  omega
theorem Zih(r:Bool):∀ (k:KidOf Edit) (tk:List Tree) (u:Tree) (d:Int),Z4 k.e d=true→Z2S r tk k=some u→Zk u+18≤Zk (tk.getD k.at_.toNat Tree.nil)+ctE k.e
 | ⟨a,e⟩,tk,u,d,hr,h=> by
  rw [Z2S,Z8y] at h
  obtain ⟨v,hv,hu⟩:=Option.map_eq_some_iff.1 h
  have:=Zca r e d (tk.getD a.toNat Tree.nil) v hr hv
  have hvu:=ZbY r v
  rw [hu] at hvu
  dsimp only
  omega
theorem ZdT(r:Bool)(l:Int):∀ (os:List (OpOf Edit)) (d:Int) (rest out:List Tree) (x:List Tree × List Tree),(∀ o∈os,Z7 l o d=true)→ZB r os rest out=some x→Za x.1+Za x.2≤Za out+Za rest+YA os
 | [],d,rest,out,x,_,h=> by rw [ZB] at h;cases h;simp
 | o ::s,d,rest,out,x,hr,h=> by
  rw [ZB] at h
  obtain ⟨y,hy,hx⟩:=Option.bind_eq_some_iff.1 h
  have m1:=ZlV r l o d rest out y (hr o List.mem_cons_self) hy
  have m2:=ZdT r l s d _ _ x (fun q hq=> hr q (List.mem_cons_of_mem _ hq)) hx
  rw [YA]
  omega
theorem ZlV(r:Bool)(l:Int):∀ (o:OpOf Edit) (d:Int) (rest out:List Tree) (x:List Tree × List Tree),Z7 l o d=true→Z48 r o rest out=some x→Za x.1+Za x.2≤Za out+Za rest+Z1u o
 | ⟨k,n,L,e⟩,d,rest,out,x,hr,h=> by
  have he:=Zca r e d (rest.getD 0 Tree.nil)
  rw [Z48] at h
  simp only [Z1u]
  split at h
  ·split at h
   ·cases h
    have:=Jo (rest.take n.toNat) (rest.drop n.toNat)
    rw [List.take_append_drop] at this
    dsimp only
    rw [Jo];omega
   ·cases h
  ·split at h
   ·split at h
    ·cases h
     have:=Z2o L.length rest
     dsimp only;omega
    ·cases h
   ·split at h
    ·cases h
     dsimp only
     rw [Jo];omega
    ·split at h
     ·cases h
     ·obtain ⟨u,hu,e2⟩:=Option.map_eq_some_iff.1 h
      cases e2
      have hk:k=3:=by
       have ra:=Zx hr
       generalize ho:OpOf.mk k n L e=o at ra
       cases ra <;> (injection ho with h1;try omega)
      rw [Z8y] at hu
      obtain ⟨v,hv,hu⟩:=Option.map_eq_some_iff.1 hu
      have:=he v (J0 hr hk) hv
      have hvu:=ZbY r v
      rw [hu] at hvu
      cases rest with
      | nil=> contradiction
      | cons a q=>
       rw [Jo]
       simp only [Za,List.drop_succ_cons,List.drop_zero,List.getD_cons_zero] at this ⊢
       omega
end
theorem Z7Q(r:Bool)(e:Edit)(d:Int)(t u:Tree)(hr:Z4 e d=true)(h:doE r e t=some u):Zk u+18≤Zk t+ctE e:=by
 rw [Z8y] at h
 obtain ⟨v,hv,hu⟩:=Option.map_eq_some_iff.1 h
 have:=Zca r e d t v hr hv
 have hvu:=ZbY r v
 rw [hu] at hvu
 omega
theorem Zu2{f:Nat→Int}(h:∀ i,0≤f i∧f i < 256):isW (of8 f):=by
 have h0:=h 0;have h1:=h 1;have h2:=h 2;have h3:=h 3;have h4:=h 4;have h5:=h 5;have h6:=h 6;have h7:=h 7
 unfold isW of8
 omega
theorem Zf7(a b m:Int):isW (mix a b m):=Zu2 (Z4S a b m)
theorem Z7n{l:List Tree}(h:∀ t∈l,rng t):Y7 l:=by
 induction l with
 | nil=> exact trivial
 | cons a r ih=> exact ⟨h a List.mem_cons_self,ih fun t ht=> h t (List.mem_cons_of_mem _ ht)⟩
theorem JS:rng Tree.nil:=⟨by decide,by simp,trivial⟩
theorem Z6r{α:Type}{z x y:α}{l:List α}{i:Nat}(h:y∈ZW z l i x):y∈l∨y=z∨y=x:=by
 rcases List.mem_or_eq_of_mem_set h with h | h
 ·rcases List.mem_append.1 h with h | h
  ·exact .inl h
  ·exact .inr (.inl (List.eq_of_mem_replicate h))
 ·exact .inr (.inr h)
theorem Zjt{ks:List Tree}(h:Y7 ks)(i:Nat):rng (ks.getD i Tree.nil):=by
 by_cases hi:i < ks.length
 ·exact Jh h (Zh hi _)
 ·rw [List.getD_eq_getElem?_getD,List.getElem?_eq_none (by omega)]
  exact JS
theorem ZmK{tw:List Int}:∀ {ws:List WEdit} {out a:List Int},(∀ x∈out,isW x)→wsD tw ws out=some a→∀ x∈a,isW x
 | [],out,a,h,hw=> by rw [wsD] at hw;cases hw;exact h
 | w ::r,out,a,h,hw=> by
  rw [wsD] at hw
  split at hw
  ·refine ZmK (fun x hx=> ?_) hw
   rcases Z6r hx with hx | rfl | rfl
   ·exact h x hx
   ·exact ⟨by omega,by omega⟩
   ·exact Zf7 _ _ _
  ·cases hw
mutual
theorem Z6t(r:Bool):∀ (e:Edit) (t u:Tree),Ym e→rng t→doE r e t=some u→rng u
 | .mk k o n w ks l os,t,u,hr,ht,h=> by
  have h1:=Zga r ks
  have h2:=Zg9 r os
  simp only [Ym] at hr
  obtain ⟨r1,r2,r3,r4,r5,r6,r7⟩:=hr
  have hta:isI t.kind∧(∀ x∈t.words,isW x)∧Y7 t.kids:=by obtain ⟨k,w,ks⟩:=t;exact ht
  rw [Z17] at h
  obtain ⟨v,hv,hu⟩:=Option.map_eq_some_iff.1 h
  suffices rng v by
   rw [←hu];unfold nrD
   split
   ·exact JB v this
   ·exact this
  clear h hu
  split at hv
  ·cases hv;exact ht
  ·split at hv
   ·split at hv
    ·cases hv;exact r3
    ·cases hv
   ·split at hv
    ·split at hv
     ·obtain ⟨a,ha,hb⟩:=Option.bind_eq_some_iff.1 hv
      obtain ⟨b,hb,e⟩:=Option.map_eq_some_iff.1 hb
      rw [←e]
      exact ⟨by decide,ZmK hta.2.1 ha,h1 _ _ _ r6 hta.2.2 hta.2.2 hb⟩
     ·cases hv
    ·split at hv
     ·split at hv
      ·obtain ⟨b,hb,e⟩:=Option.map_eq_some_iff.1 hv
       unfold Z1H at hb
       obtain ⟨x,hx,hy⟩:=Option.bind_eq_some_iff.1 hb
       split at hy
       ·cases hy
        rw [←e]
        exact ⟨r5,by simp,(h2 _ [] _ r7 hta.2.2 trivial hx).1⟩
       ·cases hy
      ·cases hv
     ·cases hv
theorem Zga(r:Bool):∀ (ks:List (KidOf Edit)) (tk out b:List Tree),Z0k ks→Y7 tk→Y7 out→JX r tk ks out=some b→Y7 b
 | [],tk,out,b,_,_,ho,h=> by rw [JX] at h;cases h;exact ho
 | k ::s,tk,out,b,hk,ht,ho,h=> by
  rw [JX] at h
  obtain ⟨u,hu,hb⟩:=Option.bind_eq_some_iff.1 h
  have m1:=Zlw r k tk u hk.1 ht hu
  refine Zga r s tk _ b hk.2 ht (Z7n fun x hx=> ?_) hb
  rcases Z6r hx with hx | rfl | rfl
  ·exact Jh ho hx
  ·exact JS
  ·exact m1
theorem Zlw(r:Bool):∀ (k:KidOf Edit) (tk:List Tree) (u:Tree),Z0Z k→Y7 tk→Z2S r tk k=some u→rng u
 | ⟨a,e⟩,tk,u,hr,ht,h=> by
  rw [Z2S] at h
  exact Z6t r e _ u hr.2 (Zjt ht _) h
theorem Zg9(r:Bool):∀ (os:List (OpOf Edit)) (rest out:List Tree) (x:List Tree × List Tree),JC os→Y7 rest→Y7 out→ZB r os rest out=some x→Y7 x.1∧Y7 x.2
 | [],rest,out,x,_,hr,ho,h=> by rw [ZB] at h;cases h;exact ⟨ho,hr⟩
 | o ::s,rest,out,x,hs,hr,ho,h=> by
  rw [ZB] at h
  obtain ⟨y,hy,hx⟩:=Option.bind_eq_some_iff.1 h
  have m1:=Znw r o rest out y hs.1 hr ho hy
  exact Zg9 r s _ _ x hs.2 m1.2 m1.1 hx
theorem Znw(r:Bool):∀ (o:OpOf Edit) (rest out:List Tree) (x:List Tree × List Tree),Yb o→Y7 rest→Y7 out→Z48 r o rest out=some x→Y7 x.1∧Y7 x.2
 | ⟨k,n,L,e⟩,rest,out,x,hs,hr,ho,h=> by
  have he:=Z6t r e (rest.getD 0 Tree.nil)
  simp only [Yb] at hs
  have hd:∀ n,Y7 (rest.drop n):=fun n=> Z7n fun t ht=> Jh hr (List.mem_of_mem_drop ht)
  have hap:∀ l,Y7 l→Y7 (out++l):=fun l hl=> Z4y.2 ⟨ho,hl⟩
  rw [Z48] at h
  split at h
  ·split at h
   ·cases h
    exact ⟨hap _ (Z7n fun t ht=> Jh hr (List.mem_of_mem_take ht)),hd _⟩
   ·cases h
  ·split at h
   ·split at h
    ·cases h
     exact ⟨ho,hd _⟩
    ·cases h
   ·split at h
    ·cases h
     exact ⟨hap _ hs.2.2.1,hr⟩
    ·split at h
     ·cases h
     ·obtain ⟨u,hu,e2⟩:=Option.map_eq_some_iff.1 h
      cases e2
      exact ⟨hap _ ⟨he u hs.2.2.2 (Zjt hr 0) hu,trivial⟩,hd _⟩
end
end Go.AM.Ytpjenobkibfpcaa
namespace Go.AM.Ytpjenobkibfpcaa
open Go.AM Go.Proofs
section
variable {α β:Type} (z:α) (f:β→Option α) (p:β→Int)
def asc(last:Int):List β→Prop
 | []=> True
 | w ::r=> last < p w∧asc (p w) r
variable {z f p} {l0:List α} {ws:List β} {n a i:Int} {out:List α}
theorem ZiW{last:Int}:∀ {l:List β},asc p last l→∀ w∈l,last < p w
 | [],_,_,hw=> by cases hw
 | b ::r,h,w,hw=> by
  rcases List.mem_cons.1 hw with rfl | hw
  ·exact h.1
  ·have:=ZiW h.2 w hw
   have:=h.1
   omega
end
theorem Z8E:∀ {ws:List WEdit} {last:Int},ZI last ws=true→asc WEdit.at_ last ws
 | [],_,_=> trivial
 | w ::r,last,h=> by
  have h1:=Jw h w List.mem_cons_self
  simp only [ZI,Bool.and_eq_true] at h
  exact ⟨h1.1,Z8E h.2⟩
theorem Zcn:∀ {ks:List Kid} {last d:Int},Zu last ks d=true→asc KidOf.at_ last ks
 | [],_,_,_=> trivial
 | k ::r,last,d,h=> by
  obtain ⟨h1,_,h3⟩:=Z3R h
  exact ⟨h1.1,Zcn h3⟩
end Go.AM.Ytpjenobkibfpcaa
namespace Go.AM
def Z8s(t:Tree):Bool:=decide (0≤ZC t 80 3000) && Ze t 64 && decide (t.kind≠10)
end Go.AM
namespace Go.AM.Ytpjenobkibfpcaa
open Go.AM Go.Proofs
theorem Z3J{x y x' y':Int}(h:x+256*y=x'+256*y')(hx:0≤x∧x < 256)(hx':0≤x'∧x' < 256):x=x'∧y=y':=by omega
theorem Zra{f g:Nat→Int}(hf:∀ i,0≤f i∧f i < 256)(hg:∀ i,0≤g i∧g i < 256)(h:of8 f=of8 g):∀ i,i < 8→f i=g i:=by
 unfold of8 at h
 obtain ⟨h0,h⟩:=Z3J h (hf 0) (hg 0)
 obtain ⟨h1,h⟩:=Z3J h (hf 1) (hg 1)
 obtain ⟨h2,h⟩:=Z3J h (hf 2) (hg 2)
 obtain ⟨h3,h⟩:=Z3J h (hf 3) (hg 3)
 obtain ⟨h4,h⟩:=Z3J h (hf 4) (hg 4)
 obtain ⟨h5,h⟩:=Z3J h (hf 5) (hg 5)
 obtain ⟨h6,h7⟩:=Z3J h (hf 6) (hg 6)
 intro i hi
 match i,hi with
 | 0,_=> exact h0
 | 1,_=> exact h1
 | 2,_=> exact h2
 | 3,_=> exact h3
 | 4,_=> exact h4
 | 5,_=> exact h5
 | 6,_=> exact h6
 | 7,_=> exact h7
theorem ZlN{a:Int}(h:isW a):of8 (Zd a)=a:=by
 obtain ⟨h0,h1⟩:=h
 simp only [of8,Zd]
 omega
theorem ZgR{a b m:Int}{i:Nat}(h:i < 8):Zd (mix a b m) i=YU a b m i:=
 Zra (fun i=> Z0K _ i) (Z4S a b m) (by rw [ZlN (Zf7 a b m)];rfl) i h
section
variable {α β:Type} {z:α} {f:β→Option α} {p:β→Int}
end
theorem Z6x{list d:Int}:∀ {l:List Tree},Yd list l d=true→∀ t∈l,Ze t d=true
 | [],_,_,ht=> by cases ht
 | a ::r,h,t,ht=> by
  simp only [Yd,Bool.and_eq_true] at h
  rcases List.mem_cons.1 ht with rfl | ht
  ·exact h.1.2
  ·exact Z6x h.2 t ht
def RT_(t:Tree):Prop:=(∃ d,Ze t d=true)∧rng t
theorem RT_.kids{t:Tree}(h:RT_ t):(∀ k∈t.kids,RT_ k)∧(t.kind≠0→t.kind≠1→t.kind≠10→t.words=[]):=by
 obtain ⟨⟨d,h⟩,hr⟩:=h
 obtain ⟨k,w,ks⟩:=t
 have hk:∀ x∈ks,rng x:=fun x hx=> Jh hr.2.2 hx
 show (∀ x∈ks,RT_ x)∧(k≠0→k≠1→k≠10→w=[])
 rw [Ze] at h
 split at h
 ·simp only [decide_eq_true_eq] at h
  rw [List.eq_nil_of_length_eq_zero h.2]
  exact ⟨fun x hx=> (by cases hx),fun h0=> absurd ‹_› h0⟩
 ·split at h
  ·simp only [decide_eq_true_eq] at h
   rw [List.eq_nil_of_length_eq_zero h.2]
   exact ⟨fun x hx=> (by cases hx),fun _ _ h0=> absurd ‹_› h0⟩
  ·split at h
   ·cases h
   ·split at h
    ·simp only [Bool.and_eq_true] at h
     exact ⟨fun x hx=> ⟨⟨_,Z6x h.2 x hx⟩,hk x hx⟩,fun _ h1=> absurd ‹_› h1⟩
    ·simp only [Bool.and_eq_true,decide_eq_true_eq] at h
     exact ⟨fun x hx=> ⟨⟨_,Z6x h.2 x hx⟩,hk x hx⟩,fun _ _ _=> List.eq_nil_of_length_eq_zero h.1.2.2.1⟩
theorem ZvC:RT_ Tree.nil:=⟨⟨1,rfl⟩,JS⟩
theorem Zq6{l:List Tree}(h:∀ t∈l,RT_ t)(i:Nat):RT_ (l.getD i Tree.nil):=by
 by_cases hi:i < l.length
 ·exact h _ (Zh hi _)
 ·rw [List.getD_eq_getElem?_getD,List.getElem?_eq_none (by omega)];exact ZvC
theorem Zbx{list:Int}{o:Op}{d:Int}(h:Z7 list o d=true):o.kind=0∨o.kind=1∨o.kind=2∨o.kind=3:=by
 have r:=Zx h
 cases r with
 | keep=> exact .inl rfl
 | gone=> exact .inr (.inl rfl)
 | come=> exact .inr (.inr (.inl rfl))
 | into=> exact .inr (.inr (.inr rfl))
end Go.AM.Ytpjenobkibfpcaa
