import Derived.Test.YtfapacabjkhepaaVKP20
import Derived.Test.YtfapacabjkhepaaVKL07
set_option linter.unusedSimpArgs false
set_option linter.unusedVariables false
namespace Go.AM.Ytfapacabjkhepaa
open Go.AM Go.Proofs
theorem Z6a{α:Type}(z:α)(l:List α)(i:Nat)(x:α):(Y5 z l i x).length=max l.length (i+1):=by
 simp only [Y5,List.length_set,Qh,Xi];omega
theorem JV{α:Type}(z:α)(l:List α)(i:Nat)(x:α)(j:Nat):(Y5 z l i x).getD j z=if j=i then x else l.getD j z:=by
 simp only [Y5,Qd,K5,Qh,Xi]
 by_cases h:j=i
 .subst h;rw [if_pos rfl,if_pos rfl,V1];try rfl
 .rw [if_neg (fun e=> h e.symm),if_neg h]
  by_cases hl:j < l.length
  .rw [Qs hl]
  .rw [Qy V0,Qq (l:=l) V0,List.getElem?_replicate]
   split <;> rfl
theorem ZiE{α β:Type}(f:α->β)(z:α)(l:List α)(i:Nat)(x:α):(Y5 z l i x).map f=Y5 (f z) (l.map f) i (f x):=by
 simp [Y5,List.map_set]
theorem Z3n:∀ l:List Tree,Yf l=Z7 l
 | []=> rfl
 | t ::r=> by simp [Yf,Z7,Z3n r]
theorem ZcJ(l:List Tree)(i:Nat)(x:Tree):Z7 (Y5 Tree.nil l i x)=Y5 Tree.nil (Z7 l) i (Z1 x):=by
 rw [Z7,ZiE,Zex];try rfl
theorem Zew{a b:List Tree}{i:Nat}{x y:Tree}(h:Z7 a=Z7 b)(hx:Z1 x=Z1 y):Z7 (Y5 Tree.nil a i x)=Z7 (Y5 Tree.nil b i y):=by
 rw [ZcJ,ZcJ,h,hx]
theorem JF{a b c d:List Tree}(h:Z7 a=Z7 b)(hx:Z7 c=Z7 d):Z7 (a++c)=Z7 (b++d):=by
 rw [Yj,Yj,h,hx]
theorem Z2d(k:Int)(w:List Int){a b:List Tree}(h:Z7 a=Z7 b):Z1 (.mk k w a)=Z1 (.mk k w b):=by
 simp only [Z1,Z3n,h]
theorem Z1V{a b:List Tree}(h:Z7 a=Z7 b):a.length=b.length:=by
 have:=congrArg List.length h
 simpa [Z7] using this
theorem Jr{a b:Tree}:Z7 [a]=Z7 [b]↔Z1 a=Z1 b:=by simp [Z7]
def OptR{α β:Type}(R:α->β->Prop):Option α->Option β->Prop
 | none,none=> True
 | some a,some b=> R a b
 | _,_=> False
theorem OptR.rfl'{α:Type}(a:Option α):OptR Eq a a:=by cases a;exact trivial;exact rfl
theorem OptR.bind{α β γ δ:Type}{R:α->β->Prop}{S:γ->δ->Prop}{a:Option α}{b:Option β}{f:α->Option γ}{g:β->Option δ}(h:OptR R a b)(hf:∀ x y,R x y->OptR S (f x) (g y)):OptR S (a.bind f) (b.bind g):=by
 cases a <;> cases b <;> first | exact trivial | exact h.elim | exact hf _ _ h
theorem OptR.map{α β γ δ:Type}{R:α->β->Prop}{S:γ->δ->Prop}{a:Option α}{b:Option β}{f:α->γ}{g:β->δ}(h:OptR R a b)(hf:∀ x y,R x y->S (f x) (g y)):OptR S (a.map f) (b.map g):=by
 cases a <;> cases b <;> first | exact trivial | exact h.elim | exact hf _ _ h
theorem OptR.ite{α β:Type}{R:α->β->Prop}{p q:Prop} [Decidable p] [Decidable q] {a c:Option α}{b d:Option β}(h:p↔q)(h1:p->OptR R a b)(h2:¬p->OptR R c d):OptR R (if p then a else c) (if q then b else d):=by
 by_cases hp:p
 .rw [if_pos hp,if_pos (h.1 hp)];exact h1 hp
 .rw [if_neg hp,if_neg (fun hq=> hp (h.2 hq))];exact h2 hp
theorem OptR.mono{α β:Type}{R S:α->β->Prop}{a:Option α}{b:Option β}(h:OptR R a b)(hf:∀ x y,R x y->S x y):OptR S a b:=by
 cases a <;> cases b <;> first | exact trivial | exact h.elim | exact hf _ _ h
theorem OptR.isSome{α β:Type}{R:α->β->Prop}{a:Option α}{b:Option β}(h:OptR R a b):a.isSome=b.isSome:=by
 cases a <;> cases b <;> first | rfl | exact h.elim
theorem OptR.normed{a b:Option Tree}(h:OptR (fun x y=> Z1 x=Z1 y) a b):a.map Z1=b.map Z1:=by
 cases a <;> cases b <;> first | rfl | exact h.elim | exact congrArg some h
def Eqv(x y:Tree):Prop:=Z1 x=Z1 y
def EqvL(x y:List Tree):Prop:=Z7 x=Z7 y
theorem EqvL.take{x y:List Tree}(h:EqvL x y)(n:Nat):EqvL (x.take n) (y.take n):=by unfold EqvL Z7 at*;rw [List.map_take,List.map_take,h]
theorem EqvL.drop{x y:List Tree}(h:EqvL x y)(n:Nat):EqvL (x.drop n) (y.drop n):=by unfold EqvL Z7 at*;rw [List.map_drop,List.map_drop,h]
theorem EqvL.len{x y:List Tree}(h:EqvL x y):x.length=y.length:=Z1V h
theorem ZcI(l:List Tree)(i:Nat):(Z7 l).getD i Tree.nil=Z1 (l.getD i Tree.nil):=by rw [<-Z3n];exact Z0B l i
theorem EqvL.get{x y:List Tree}(h:EqvL x y)(i:Nat):Eqv (x.getD i Tree.nil) (y.getD i Tree.nil):=by
 unfold Eqv;rw [<-ZcI,<-ZcI,h]
theorem Zd6{a b:Option (List Tree × List Tree)}(h:OptR (fun x y=> EqvL x.1 y.1/\EqvL x.2 y.2) a b):OptR EqvL (Z0d a) (Z0d b):=by
 unfold Z0d
 refine h.bind fun x y hxy=> ?_
 exact OptR.ite (by rw [hxy.2.len]) (fun _=> hxy.1) (fun _=> trivial)
mutual
theorem ZjT:∀ (e:Edit) (t:Tree),OptR Eqv (doE true e t) (doE false e t)
 | .mk k o n w ks l os,t=> by
  have h1:=ZlD ks t.kids t.kids t.kids rfl
  have h2:=ZlC os t.kids [] [] rfl
  rw [JO,JO,Ye]
  show OptR Eqv (Option.map (nrD true) _) _
  suffices h:∀ a b,OptR Eqv a b->OptR Eqv (Option.map (nrD true) a) b by
   refine h _ _ ?_
   refine OptR.ite Qz (fun _=> rfl) fun _=> OptR.ite Qz (fun _=> OptR.ite Qz (fun _=> rfl) (fun _=> trivial)) fun _=> OptR.ite Qz (fun _=> ?_) fun _=> OptR.ite Qz (fun _=> ?_) (fun _=> trivial)
   .refine OptR.ite Qz (fun _=> ?_) (fun _=> trivial)
    refine OptR.bind (R:=Eq) (OptR.rfl' _) ?_
    rintro a _ rfl
    exact h1.map fun x y h=> Z2d _ _ h
   .refine OptR.ite Qz (fun _=> ?_) (fun _=> trivial)
    exact (Zd6 (h2.mono fun x y h=> ⟨h.1,by rw [h.2];rfl⟩)).map fun x y h=> Z2d _ _ h
  intro a b h
  cases a <;> cases b <;> first | exact trivial | exact h.elim | skip
  unfold Eqv nrD at*
  simp only [Qf,if_true]
  show Z1 (Z1 _)=_
  rw [ZZ]
  exact h
theorem ZlD:∀ (ks:List (KidOf Edit)) (tk a b:List Tree),EqvL a b->OptR EqvL (Je true tk ks a) (Je false tk ks b)
 | [],_,_,_,h=> h
 | k ::r,tk,a,b,h=> by
  rw [Je,Je]
  refine (Zq6 k tk).bind fun x y hxy=> ZlD r tk _ _ (Zew h hxy)
theorem Zq6:∀ (k:KidOf Edit) (tk:List Tree),OptR Eqv (JS true tk k) (JS false tk k)
 | ⟨_,e⟩,tk=> by rw [JS,JS];exact ZjT e _
theorem ZlC:∀ (os:List (OpOf Edit)) (rest a b:List Tree),EqvL a b->OptR (fun x y=> EqvL x.1 y.1/\x.2=y.2) (ZC true os rest a) (ZC false os rest b)
 | [],rest,a,b,h=> ⟨h,rfl⟩
 | o ::r,rest,a,b,h=> by
  rw [ZC,ZC]
  refine (Ztx o rest a b h).bind fun x y hxy=> ?_
  rw [hxy.2]
  exact ZlC r _ _ _ hxy.1
theorem Ztx:∀ (o:OpOf Edit) (rest a b:List Tree),EqvL a b->OptR (fun x y=> EqvL x.1 y.1/\x.2=y.2) (Z0K true o rest a) (Z0K false o rest b)
 | ⟨k,n,l,e⟩,rest,a,b,h=> by
  have he:=ZjT e (rest.getD 0 Tree.nil)
  rw [Z0K,Z0K]
  refine OptR.ite Qz (fun _=> OptR.ite Qz (fun _=> ⟨JF h rfl,rfl⟩) (fun _=> trivial)) fun _=> OptR.ite Qz (fun _=> OptR.ite Qz (fun _=> ⟨h,rfl⟩) (fun _=> trivial)) fun _=> OptR.ite Qz (fun _=> ⟨JF h rfl,rfl⟩) fun _=> OptR.ite Qz (fun _=> trivial) fun _=> ?_
  exact he.map fun x y h'=> ⟨JF h (Jr.2 h'),rfl⟩
end
theorem Z8P(e:Edit)(t:Tree):(doE true e t)=(doE false e t).map Z1:=by
 have h:=ZjT e t
 have hi:(doE true e t).map Z1=doE true e t:=by
  rw [JO]
  generalize ite (e.kind=0) _ _=x
  cases x with
  | none=> rfl
  | some u=> simp [nrD,ZZ]
 rw [<-hi]
 exact h.normed
def Znj(a b:List Int):Prop:=∀ i:Nat,a.getD i 0=b.getD i 0
def Zku(a b:List Tree):Prop:=∀ i:Nat,Eqv (a.getD i Tree.nil) (b.getD i Tree.nil)
theorem Z2n{a b:Tree}(ha:a.kind=1)(hb:b.kind=1):Eqv a b↔Znj a.words b.words/\Zku a.kids b.kids:=by
 unfold Eqv Znj Zku
 rw [YM,ha,hb]
 simp [Eqv]
theorem Zi2{a b:Tree}(h0:a.kind≠0)(h1:a.kind≠1):Eqv a b↔a.kind=b.kind/\a.words=b.words/\EqvL a.kids b.kids:=by
 unfold Eqv EqvL
 rw [YM,if_neg h1,<-Z3n,<-Z3n,Z7X]
 simp [h0,and_assoc]
theorem Eqv.kind{a b:Tree}(h:Eqv a b):a.kind=b.kind:=((YM a b).1 h).1
theorem Zkv{tw tv:List Int}(h:Znj tw tv):∀ (ws:List WEdit) (a b:List Int),Znj a b->OptR Znj (wsD tw ws a) (wsD tv ws b)
 | [],_,_,hab=> hab
 | w ::r,a,b,hab=> by
  rw [wsD,wsD,h w.at_.toNat]
  refine OptR.ite Qz (fun _=> Zkv h r _ _ fun i=> ?_) (fun _=> trivial)
  rw [JV,JV]
  split
  .try rfl
  .exact hab i
theorem ZmU(l:List Tree){a b:List Tree}(h:EqvL a b):Jd l a=Jd l b:=by
 unfold Jd
 rw [h.len,show Z7 (a.take l.length)=Z7 (b.take l.length) from h.take _]
mutual
theorem Z2O:∀ (e:Edit) (d:Int) (t s:Tree),Z0 e d=true->Eqv t s->OptR Eqv (doE false e t) (doE false e s)
 | .mk k o n w ks l os,d,t,s,hr,h=> by
  have h1:=Zi7 ks t.kids s.kids
  have h2:=Zd9 os t.kids s.kids [] []
  have hk:=h.kind
  have hrt:=ZiR hr
  rw [JO,JO,Ye,Ye]
  show OptR Eqv (if k=0 then _ else _) (if k=0 then _ else _)
  refine OptR.ite Qz (fun _=> h) fun _=> OptR.ite Qz (fun _=> ?_) fun _=> OptR.ite Qz (fun k2=> ?_) fun _=> OptR.ite Qz (fun k3=> ?_) (fun _=> trivial)
  .rw [show Z1 t=Z1 s from h]
   exact OptR.ite Qz (fun _=> rfl) (fun _=> trivial)
  .refine OptR.ite (by rw [hk]) (fun ht=> ?_) (fun _=> trivial)
   have hs:s.kind=1:=by rw [<-hk];exact ht
   obtain ⟨hw,hks⟩:=(Z2n ht hs).1 h
   refine (Zkv hw w t.words s.words hw).bind fun a b hab=> ?_
   refine (h1 hks hrt.1 t.kids s.kids hks).map fun x y hxy=> ?_
   exact (Z2n rfl rfl).2 ⟨hab,hxy⟩
  .refine OptR.ite (by rw [hk]) (fun ht=> ?_) (fun _=> trivial)
   have hl:=hrt.2.2
   have hos:=hrt.2.1
   replace ht:t.kind=l:=ht
   replace hl:2<=l/\l<=9:=hl k3
   obtain ⟨_,_,hks⟩:=(Zi2 V0 V0).1 h
   exact (Zd6 (h2 hks rfl hos)).map fun x y hxy=> Z2d _ _ hxy
theorem Zi7:∀ (ks:List (KidOf Edit)) (tk sk:List Tree),Zku tk sk->(∀ k∈ks,∃ d,Z0 k.e d=true)->∀ a b,Zku a b->OptR Zku (Je false tk ks a) (Je false sk ks b)
 | [],_,_,_,_,_,_,hab=> hab
 | k ::r,tk,sk,h,hr,a,b,hab=> by
  rw [Je,Je]
  obtain ⟨d,hd⟩:=hr k Q4
  refine (Zn1 k d tk sk h hd).bind fun x y hxy=> Zi7 r tk sk h (fun q hq=> hr q (Q0 _ hq)) _ _ fun i=> ?_
  rw [JV,JV]
  split
  .exact hxy
  .exact hab i
theorem Zn1:∀ (k:KidOf Edit) (d:Int) (tk sk:List Tree),Zku tk sk->Z0 k.e d=true->OptR Eqv (JS false tk k) (JS false sk k)
 | ⟨a,e⟩,d,tk,sk,h,hr=> by rw [JS,JS];exact Z2O e d _ _ hr (h _)
theorem Zd9:∀ (os:List (OpOf Edit)) (rt rs a b:List Tree),EqvL rt rs->EqvL a b->(∀ o∈os,∃ l d,Zc l o d=true)->OptR (fun x y=> EqvL x.1 y.1/\EqvL x.2 y.2) (ZC false os rt a) (ZC false os rs b)
 | [],_,_,_,_,h,hab,_=> ⟨hab,h⟩
 | o ::r,rt,rs,a,b,h,hab,hr=> by
  rw [ZC,ZC]
  refine (Zq5 o rt rs a b h hab (hr o Q4)).bind fun x y hxy=> Zd9 r _ _ _ _ hxy.2 hxy.1 (fun q hq=> hr q (Q0 _ hq))
theorem Zq5:∀ (o:OpOf Edit) (rt rs a b:List Tree),EqvL rt rs->EqvL a b->(∃ l d,Zc l o d=true)->OptR (fun x y=> EqvL x.1 y.1/\EqvL x.2 y.2) (Z0K false o rt a) (Z0K false o rs b)
 | ⟨k,n,l,e⟩,rt,rs,a,b,h,hab,hr=> by
  obtain ⟨li,d,hr⟩:=hr
  have he:=fun h3=> Z2O e d (rt.getD 0 Tree.nil) (rs.getD 0 Tree.nil) (Jv hr h3) (h.get 0)
  have hlen:=h.len
  rw [Z0K,Z0K]
  refine OptR.ite Qz (fun _=> OptR.ite (by rw [hlen]) (fun _=> ⟨JF hab (h.take _),h.drop _⟩) (fun _=> trivial)) fun k0=> OptR.ite Qz (fun _=> ?_) fun k1=> OptR.ite Qz (fun _=> ⟨JF hab rfl,h⟩) fun k2=> OptR.ite (by rw [hlen]) (fun _=> trivial) fun _=> ?_
  .rw [ZmU l h]
   exact OptR.ite Qz (fun _=> ⟨hab,h.drop _⟩) (fun _=> trivial)
  .have h03:k=0\/k=1\/k=2\/k=3:=by
    have r:=ZT hr
    generalize ho:OpOf.mk k n l e=o at r
    cases r <;> (injection ho with h1;subst h1;decide)
   exact (he (by show k=3;omega)).map fun x y h'=> ⟨JF hab (Jr.2 h'),h.drop _⟩
end
theorem Zit(w:WEdit):YH (YH w)=w:=by cases w;rfl
theorem ZmF(l:List WEdit):(l.map YH).map YH=l:=by
 rw [List.map_map]
 have:YH ∘ YH=id:=by funext w;exact Zit w
 rw [this,List.map_id]
theorem Zbr:∀ (ks:List Kid),(Y4 ks).length=ks.length
 | []=> rfl
 | k ::r=> by simp only [Y4,Q7,Zbr r]
theorem ZaG{α β:Type}{f:α->β}(d:α){a b:List α}(hl:a.length=b.length)(h:∀ i:Nat,i < a.length->f (a.getD i d)=f (b.getD i d)):a.map f=b.map f:=by
 apply List.ext_getElem (by simpa using hl)
 intro i h1 h2
 have h1':i < a.length:=by simpa using h1
 have h2':i < b.length:=by simpa using h2
 have:=h i h1'
 simpa [Qd,Q2 h1',Q2 h2'] using this
theorem Z5D{α β:Type}{f:α->β}{d:α}{a b:List α}(h:a.map f=b.map f)(i:Nat):f (a.getD i d)=f (b.getD i d):=by
 have e:=congrArg (fun l=> l[i]?.getD (f d)) h
 simp only [Qo] at e
 rw [Qd,Qd]
 cases h1:a[i]? <;> cases h2:b[i]? <;> simp_all
theorem Z1W(t:Tree):(Z1 t).kind=t.kind:=by
 obtain ⟨k,w,ks⟩:=t
 simp only [Z1]
 by_cases h0:k=0
 .rw [if_pos h0,h0];try rfl
 .rw [if_neg h0]
  by_cases h1:k=1
  .rw [if_pos h1,h1];try rfl
  .rw [if_neg h1];try rfl
theorem Zbt:∀ (l:List Int),∃ r,l=trim l++r
 | []=> ⟨[],rfl⟩
 | x ::r=> by
  obtain ⟨s,hs⟩:=Zbt r
  simp only [trim]
  split
  .rename_i e
   split
   .exact ⟨x ::r,rfl⟩
   .exact ⟨r,rfl⟩
  .rename_i y t e
   rw [e] at hs
   exact ⟨s,by rw [hs];rfl⟩
theorem Z92:∀ (l:List Tree),∃ r,l=Yh l++r
 | []=> ⟨[],rfl⟩
 | x ::r=> by
  obtain ⟨s,hs⟩:=Z92 r
  simp only [Yh]
  split
  .rename_i e
   split
   .exact ⟨x ::r,rfl⟩
   .exact ⟨r,rfl⟩
  .rename_i y t e
   rw [e] at hs
   exact ⟨s,by rw [hs];rfl⟩
theorem Zck{list d:Int}:∀ (a b:List Tree),Ya list (a++b) d=true->Ya list a d=true
 | [],_,_=> rfl
 | t ::r,b,h=> by
  simp only [Qw,Ya,Q1] at h ⊢
  exact ⟨h.1,Zck r b h.2⟩
theorem Z1M:∀ (l:List Tree),(Yf l).length=l.length
 | []=> rfl
 | t ::r=> by simp only [Yf,Q7,Z1M r]
theorem ZmQ{list:Int}{t:Tree}(h:Z0r list t=true):Z0r list (Z1 t)=true:=by
 unfold Z0r at h ⊢
 rw [Z1W]
 split at h
 .rename_i hl
  rw [if_pos hl]
  simp only [Q1,decide_eq_true_eq] at h ⊢
  obtain ⟨⟨h1,h2,h3⟩,h4⟩:=h
  obtain ⟨k,w,ks⟩:=t
  simp only [Tree.kind_mk,Tree.kids_mk,Tree.words_mk] at h1 h2 h3 h4
  have:ks=[]:=QX.1 h2
  subst this
  subst h1
  exact ⟨⟨rfl,rfl,h3⟩,h4⟩
 .rename_i hl
  rw [if_neg hl]
  exact h
mutual
theorem Z1k:∀ (t:Tree) (d:Int),Z9 t d=true->Z9 (Z1 t) d=true
 | .mk k w ks,d,h=> by
  have ih:=fun (list:Int) (h:Ya list ks (d - 1)=true)=> Z53 ks list (d - 1) h
  simp only [Z9] at h
  simp only [Z1]
  by_cases h0:k=0
  .rw [if_pos h0];simp [Tree.nil,Z9]
  .rw [if_neg h0] at h ⊢
   by_cases h10:k=10
   .subst h10
    rw [if_pos rfl] at h
    rw [if_neg V2]
    simp only [decide_eq_true_eq] at h
    simp only [Z9]
    rw [if_neg V2,if_pos trivial,Z1M]
    simpa using h
   .rw [if_neg h10] at h
    by_cases hd:d=0
    .rw [if_pos hd] at h;cases h
    .rw [if_neg hd] at h
     by_cases h1:k=1
     .subst h1
      rw [if_pos rfl] at h
      rw [if_pos rfl]
      simp only [Q1,decide_eq_true_eq] at h
      simp only [Z9]
      rw [if_neg V2,if_neg V2,if_neg hd,if_pos trivial]
      simp only [Q1,decide_eq_true_eq]
      obtain ⟨r1,e1⟩:=Zbt w
      obtain ⟨r2,e2⟩:=Z92 (Yf ks)
      have l1:=congrArg List.length e1
      have l2:=congrArg List.length e2
      rw [Z1M] at l2
      simp only [Qh] at l1 l2
      refine ⟨⟨V0,V0⟩,?_⟩
      have:=ih 1 h.2
      rw [e2] at this
      exact Zck _ _ this
     .rw [if_neg h1] at h ⊢
      simp only [Q1,decide_eq_true_eq] at h
      simp only [Z9]
      rw [if_neg h0,if_neg h10,if_neg hd,if_neg h1,Z1M]
      simp only [Q1,decide_eq_true_eq]
      exact ⟨h.1,ih k h.2⟩
theorem Z53:∀ (l:List Tree) (list d:Int),Ya list l d=true->Ya list (Yf l) d=true
 | [],_,_,_=> rfl
 | t ::r,list,d,h=> by
  simp only [Ya,Q1] at h
  have h1:=Z1k t d h.1.2
  have h2:=Z53 r list d h.2
  simp only [Yf,Ya,Q1]
  exact ⟨⟨ZmQ h.1.1,h1⟩,h2⟩
end
theorem Z14(e:Edit):(Zq e).kind=e.kind:=by cases e;rfl
theorem ZdT(e:Edit):(Zq e).old=e.new:=by cases e;rfl
theorem ZdU(e:Edit):(Zq e).new=e.old:=by cases e;rfl
theorem Z3Y:∀ (l:List WEdit) (last:Int),Zp last (l.map YH)=Zp last l
 | [],_=> rfl
 | w ::r,last=> by
  simp only [X4,Zp,Z3Y r]
  have h1:(YH w).at_=w.at_:=rfl
  have h2:(YH w).mask=w.mask:=rfl
  have h3:(YH w).old=w.new:=rfl
  have h4:(YH w).new=w.old:=rfl
  rw [h1,h2,h3,h4,Xw,Xw,Xw,Xw]
  congr 1
  rw [<-Xw,<-Xw,Bool.and_comm (ZM w.new w.mask)]
theorem Ziu(o:Op):Z5 (ZY o)=Z5 o/\((ZY o).kind=2↔o.kind=1)/\((ZY o).kind=1↔o.kind=2):=by
 rw [JC]
 by_cases h1:o.kind=1
 .rw [if_pos h1];simp [Z5,h1]
 .rw [if_neg h1]
  by_cases h2:o.kind=2
  .rw [if_pos h2];simp [Z5,h2]
  .rw [if_neg h2]
   by_cases h3:o.kind=3
   .rw [if_pos h3];simp [Z5,h3]
   .rw [if_neg h3];simp [Z5,h1,h2]
theorem Z86:∀ (l:List Op) (n:Int),Z0m (Y9 l) n=Z0l l n/\Z0l (Y9 l) n=Z0m l n
 | [],_=> ⟨rfl,rfl⟩
 | o ::r,n=> by
  obtain ⟨h1,h2,h3⟩:=Ziu o
  simp only [Y9,Z0m,Z0l]
  rw [h1]
  constructor
  .rw [(Z86 r _).1]
   congr 2
   by_cases h:o.kind=1
   .rw [if_pos (h2.2 h),if_pos h]
   .rw [if_neg (fun x=> h (h2.1 x)),if_neg h]
  .rw [(Z86 r _).2]
   congr 2
   by_cases h:o.kind=2
   .rw [if_pos (h3.2 h),if_pos h]
   .rw [if_neg (fun x=> h (h3.1 x)),if_neg h]
theorem Z6y:∀ (l:List Op),(Y9 l).length=l.length
 | []=> rfl
 | o ::r=> by simp only [Y9,Q7,Z6y r]
theorem ZsJ{list d:Int}{o:Op}(h:Zc list o d=true)(hi:Z0 o.e d=true->Z0 (Zq o.e) d=true):Zc list (ZY o) d=true:=by
 have h':=h
 rw [Jw] at h
 by_cases k0:o.kind=0
 .have e:ZY o=o:=by rw [JC,JI,JI,JI]
  rw [e];exact h'
 .rw [if_neg k0] at h
  split at h
  .cases h
  .rename_i hk
   by_cases k3:o.kind=3
   .rw [JI] at h
    have e:ZY o=⟨o.kind,o.n,o.l,Zq o.e⟩:=by rw [JC,JI,JI,if_pos k3]
    rw [e,Jw]
    simp only
    rw [if_neg k0,if_neg hk,JI,Z14,ZdT,ZdU]
    simp only [Q1,decide_eq_true_eq] at h ⊢
    refine ⟨⟨h.1.1,hi h.1.2⟩,?_⟩
    omega
   .rw [V1] at h
    have hk':o.kind=1\/o.kind=2:=V0
    rcases hk' with k | k
    .have e:ZY o=⟨2,o.n,o.l,o.e⟩:=by rw [JC,if_pos k]
     rw [e,Jw]
     simp only
     rw [if_neg V2,JI,if_pos V2]
     exact h
    .have e:ZY o=⟨1,o.n,o.l,o.e⟩:=by rw [JC,JI,if_pos k]
     rw [e,Jw]
     simp only
     rw [if_neg V2,JI,if_pos V2]
     exact h
mutual
theorem Yn:∀ (e:Edit) (d:Int),Z0 e d=true->Z0 (Zq e) d=true
 | .mk k o n w ks l os,d,h=> by
  have h1:=Z4h ks
  have h2:=Z7v l os
  simp only [Z0] at h
  simp only [Zq,Z0]
  split at h
  .cases h
  .rename_i a
   rw [if_neg a]
   split at h
   .cases h
   .rename_i b
    rw [if_neg (by rw [Xd,Zbr,Z6y];intro hc;apply b;rcases hc with x | x | x;exact Or.inl ⟨x.1,fun y=> x.2 ⟨y.2,y.1⟩⟩;exact Or.inr (Or.inl x);exact Or.inr (Or.inr x))]
    split at h
    .rename_i c
     rw [if_pos c]
     simp only [Q1,decide_eq_true_eq] at h ⊢
     exact ⟨⟨h.1.2,h.1.1⟩,h.2.2,h.2.1⟩
    .rename_i c
     rw [if_neg c]
     simp only [Q1,decide_eq_true_eq] at h ⊢
     obtain ⟨⟨⟨⟨x1,x2⟩,x3⟩,x4⟩,x5⟩:=h
     refine ⟨⟨⟨⟨by rw [Z3Y];exact x1,h1 _ _ x2⟩,x3⟩,h2 _ x4⟩,?_⟩
     rw [(Z86 os 0).1,(Z86 os 0).2]
     exact ⟨x5.2,x5.1⟩
theorem Z4h:∀ (ks:List (KidOf Edit)) (last d:Int),Zu last ks d=true->Zu last (Y4 ks) d=true
 | [],_,_,_=> rfl
 | k ::r,last,d,h=> by
  simp only [Zu,Q1] at h
  have h1:=Zdx k last d h.1
  have h2:=Z4h r k.at_ d h.2
  simp only [Y4,Zu,Q1]
  exact ⟨h1,by rw [Zbs];exact h2⟩
theorem Zdx:∀ (k:KidOf Edit) (last d:Int),YW last k d=true->YW last (YL k) d=true
 | ⟨a,e⟩,last,d,h=> by
  simp only [YW,Q1] at h
  have h1:=Yn e d h.2
  simp only [YL,YW,Q1]
  rw [Z14]
  exact ⟨h.1,h1⟩
theorem Z7v(list:Int):∀ (os:List (OpOf Edit)) (d:Int),Zt list os d=true->Zt list (Y9 os) d=true
 | [],_,_=> rfl
 | o ::r,d,h=> by
  simp only [Zt,Q1] at h
  have h1:=Zfn list o d h.1
  have h2:=Z7v list r d h.2
  simp only [Y9,Zt,Q1]
  exact ⟨h1,h2⟩
theorem Zfn(list:Int):∀ (o:OpOf Edit) (d:Int),Zc list o d=true->Zc list (ZY o) d=true
 | ⟨k,n,l,e⟩,d,h=> ZsJ (o:=⟨k,n,l,e⟩) h (fun he=> Yn e d he)
end
theorem ZaF:∀ (l:List Tree),Zl (Z7 l)<=Zl l
 | []=> by simp [Z7,Zl]
 | t ::r=> by
  have h:=ZaF r
  have h2:=Yt t
  simp only [Z7] at h
  simp only [Z7,X4,Zl]
  omega
theorem Z3o:Zn Tree.nil=1:=by simp [Tree.nil,Zn,Zl]
theorem Z3m(e:Edit):(ZE e).kind=e.kind:=by
 rw [Z7U]
 split
 .try rfl
 .split
  .try rfl
  .split <;> rfl
theorem Z7T(e:Edit)(h:e.kind=1):(ZE e).old=Z1 e.old/\(ZE e).new=Z1 e.new:=by
 rw [Z7U,if_pos h]
 exact ⟨rfl,rfl⟩
theorem ZiS{D list:Int}{t:Tree}(hD:D≠0)(h:Z9 (.mk list [] [t]) D=true):Z9 (.mk list [] [Z1 t]) D=true:=by
 have key:=fun (k d:Int) (h:Ya k [t] d=true)=> Z53 [t] k d h
 simp only [Yf] at key
 simp only [Z9] at h ⊢
 split at h
 .simp at h
 .rename_i h0
  rw [if_neg h0]
  split at h
  .simp at h
  .rename_i h1
   rw [if_neg h1]
   try rw [if_neg hD] at h
   try rw [if_neg hD]
   split at h
   .rename_i h2
    rw [if_pos h2]
    simp only [Q1] at h ⊢
    exact ⟨h.1,key _ _ h.2⟩
   .rename_i h2
    rw [if_neg h2]
    simp only [Q1] at h ⊢
    exact ⟨h.1,key _ _ h.2⟩
theorem Z2S{D list:Int}(hD:D≠0):∀ {l:List Tree},Yr D list l=true->Yr D list (Z7 l)=true
 | [],_=> rfl
 | t ::r,h=> by
  simp only [Yr,Q1] at h
  have h2:=Z2S hD h.2
  simp only [Z7] at h2
  simp only [Z7,X4,Yr,Q1]
  exact ⟨ZiS hD h.1,h2⟩
theorem Z4O{D list:Int}:∀ {a b:List Tree},Yr D list a=true->Yr D list b=true->Yr D list (a++b)=true
 | [],_,_,h=> h
 | t ::r,b,h,h2=> by
  simp only [Yr,Q1] at h
  simp only [Qw,Yr,Q1]
  exact ⟨h.1,Z4O h.2 h2⟩
def rOp(list:Int)(d:Int)(o:Op):Prop:=(o.kind=0->1<=o.n/\o.l.length=0/\Z11 o.e=true)/\(o.kind≠0->Zc list o d=true)
theorem Zog{list d:Int}{o:Op}(h:Zc list o d=true):rOp list d o:=by
 refine ⟨fun hk=> ?_,fun _=> h⟩
 obtain ⟨k,n,l,e⟩:=o
 simp only at hk
 subst hk
 simp only [Zc,if_true,Q1,decide_eq_true_eq] at h
 exact ⟨h.1.1,h.1.2.2,h.2⟩
theorem Zvh{list d:Int}{o:Op}(h:rOp list d o)(hn:o.kind=0->o.n<=1048576):Zc list o d=true:=by
 by_cases hk:o.kind=0
 .have h1:=h.1 hk
  have h2:=hn hk
  obtain ⟨k,n,l,e⟩:=o
  simp only at hk h1 h2
  subst hk
  simp only [Zc,if_true,Q1,decide_eq_true_eq]
  exact ⟨⟨h1.1,h2,h1.2.1⟩,h1.2.2⟩
 .exact h.2 hk
theorem Z51{list:Int}:∀ {os:List Op} {d:Int},Zt list os d=true↔∀ o∈os,Zc list o d=true
 | [],d=> by simp [Zt]
 | o ::r,d=> by
  simp only [Zt,Q1,Q6,forall_eq_or_imp]
  rw [Z51 (os:=r)]
theorem Z25:Z11 Edit.nil=true:=rfl
structure OkW (list d:Int) (w:Wst):Prop where
 out:∀ o∈w.out,rOp list d o
 gone:Yr (dT d) list w.gone=true
 brought:Yr (dT d) list w.brought=true
theorem Z9r{list d:Int}{w:Wst}(h:OkW list d w):OkW list d (Z6 w):=by
 refine ⟨?_,rfl,rfl⟩
 simp only [Z6,Z0D]
 intro o ho
 rcases Qi.1 ho with ho | ho
 .exact h.out o ho
 rcases Qi.1 ho with ho | ho
 .split at ho
  .cases ho
  .rename_i hl
   simp only [Q9] at ho
   subst ho
   refine ⟨fun hk=> (by cases hk),fun _=> ?_⟩
   simp only [Zc]
   rw [if_neg V2,if_neg V2,if_pos V2,h.gone,Z25]
   simp only [Xh,QH,decide_eq_true_eq]
   omega
 .split at ho
  .cases ho
  .rename_i hl
   simp only [Q9] at ho
   subst ho
   refine ⟨fun hk=> (by cases hk),fun _=> ?_⟩
   simp only [Zc]
   rw [if_neg V2,if_neg V2,if_pos V2,h.brought,Z25]
   simp only [Xh,QH,decide_eq_true_eq]
   omega
theorem Zhp{list d:Int}{w:Wst}{n:Int}(h:OkW list d w)(hn:1<=n):OkW list d (ZX w n):=by
 have hf:=Z9r h
 refine ⟨?_,rfl,rfl⟩
 simp only [ZX]
 intro o ho
 rcases Z04 (Z6 w).out n with e | ⟨a,q,e1,e2,e3⟩
 .rw [e] at ho
  rcases Qi.1 ho with ho | ho
  .exact hf.out o ho
  .simp only [Q9] at ho
   subst ho
   exact ⟨fun _=> ⟨hn,rfl,Z25⟩,fun hk=> absurd rfl hk⟩
 .rw [e3] at ho
  rcases Qi.1 ho with ho | ho
  .exact hf.out o (by rw [e1];exact Qi.2 (Or.inl ho))
  .simp only [Q9] at ho
   subst ho
   have hq:=(hf.out q (by rw [e1];simp)).1 e2
   exact ⟨fun _=> ⟨by simp only;omega,hq.2⟩,fun hk=> absurd e2 hk⟩
theorem Zvo{list d:Int}{w:Wst}{o:Op}(h:OkW list d w)(hr:Zc list o d=true)(hi:Z0 o.e d=true->Z0 (ZE o.e) d=true):OkW list d (Z1m list o w):=by
 obtain ⟨k,n,l,e⟩:=o
 have hr0:=hr
 rw [Zc] at hr
 rw [Z3l]
 simp only at hi ⊢
 split at hr
 .rename_i hk
  rw [if_pos hk]
  simp only [Q1,decide_eq_true_eq] at hr
  exact Zhp h hr.1.1
 .rename_i hk
  rw [if_neg hk]
  split at hr
  .cases hr
  .rename_i hn
   split at hr
   .rename_i h3
    simp only [Q1,decide_eq_true_eq] at hr
    by_cases k1:k=1
    .rw [if_pos k1]
     exact ⟨h.out,Z4O h.gone (Z2S (ZuG d) hr.1.1),h.brought⟩
    .rw [if_neg k1,V1]
     exact ⟨h.out,h.gone,Z4O h.brought (Z2S (ZuG d) hr.1.1)⟩
   .rename_i h3
    rw [JI,JI,V1]
    split
    .exact Zhp h V2
    .have hf:=Z9r h
     refine ⟨?_,rfl,rfl⟩
     intro o ho
     rcases Qi.1 ho with ho | ho
     .exact hf.out o ho
     .simp only [Q9] at ho
      subst ho
      refine ⟨fun hk=> (by cases hk),fun _=> ?_⟩
      simp only [Q1,decide_eq_true_eq] at hr
      simp only [Zc]
      rw [if_neg V2,if_neg V2,if_neg V2,Z3m,hi hr.1.2]
      simp only [Xh,Q1,decide_eq_true_eq]
      refine ⟨⟨rfl,hr.1.1.2⟩,?_⟩
      rcases hr.2 with h | h | h
      .exact Or.inl h
      .exact Or.inr (Or.inl h)
      .rw [(Z7T e h.1).1,(Z7T e h.1).2,Z1W,Z1W]
       exact Or.inr (Or.inr h)
def JU:List Op->Int
 | []=> 0
 | o ::r=> (if o.kind=2 then 0 else Z5 o)+JU r
def Z0f:List Op->Int
 | []=> 0
 | o ::r=> (if o.kind=1 then 0 else Z5 o)+Z0f r
theorem Z3b:∀ (a b:List Op),JU (a++b)=JU a+JU b
 | [],b=> by simp [JU]
 | o ::r,b=> by simp only [Qw,JU,Z3b r b];omega
theorem Z3a:∀ (a b:List Op),Z0f (a++b)=Z0f a+Z0f b
 | [],b=> by simp [Z0f]
 | o ::r,b=> by simp only [Qw,Z0f,Z3a r b];omega
theorem Z3w:∀ (l:List Op) (n:Int),(∀ o∈l,0<=Z5 o)->0<=n->n<=1048576->Z0m l n=min (n+JU l) 1048576/\0<=JU l
 | [],n,_,h1,h2=> by simp only [Z0m,JU];omega
 | o ::r,n,h,h1,h2=> by
  have ho:=h o (Q4 ..)
  simp only [Z0m,JU]
  have hx:0<=(if o.kind=2 then n else n+Z5 o)/\(if o.kind=2 then n else n+Z5 o)=n+(if o.kind=2 then 0 else Z5 o):=by split <;> omega
  have hy:0<=(if o.kind=2 then 0 else Z5 o):=by split <;> omega
  rw [hx.2]
  rw [hx.2] at hx
  generalize (if o.kind=2 then 0 else Z5 o)=y at*
  obtain ⟨e1,e2⟩:=Z3w r (min (n+y) 1048576) (fun x hx=> h x (Q0 _ hx)) V0 V0
  rw [e1]
  omega
theorem Z3v:∀ (l:List Op) (n:Int),(∀ o∈l,0<=Z5 o)->0<=n->n<=1048576->Z0l l n=min (n+Z0f l) 1048576/\0<=Z0f l
 | [],n,_,h1,h2=> by simp only [Z0l,Z0f];omega
 | o ::r,n,h,h1,h2=> by
  have ho:=h o (Q4 ..)
  simp only [Z0l,Z0f]
  have hx:0<=(if o.kind=1 then n else n+Z5 o)/\(if o.kind=1 then n else n+Z5 o)=n+(if o.kind=1 then 0 else Z5 o):=by split <;> omega
  have hy:0<=(if o.kind=1 then 0 else Z5 o):=by split <;> omega
  rw [hx.2]
  rw [hx.2] at hx
  generalize (if o.kind=1 then 0 else Z5 o)=y at*
  obtain ⟨e1,e2⟩:=Z3v r (min (n+y) 1048576) (fun x hx=> h x (Q0 _ hx)) V0 V0
  rw [e1]
  omega
theorem Z7E{list d:Int}{o:Op}(h:rOp list d o):0<=Z5 o:=by
 unfold Z5
 split
 .decide
 .by_cases hk:o.kind=0
  .have:=(h.1 hk).1;omega
  .have hr:=h.2 hk
   obtain ⟨k,n,l,e⟩:=o
   simp only at hk ⊢
   rw [Zc,if_neg hk] at hr
   split at hr
   .cases hr
   .omega
theorem Zgw:∀ {l:List Op} {o:Op},(∀ o∈l,0<=Z5 o)->o∈l->o.kind≠2->Z5 o<=JU l
 | a ::r,o,h,ho,hk=> by
  have hr:=(Z3w r 0 (fun x hx=> h x (Q0 _ hx)) V2 V2).2
  have ha:=h a (Q4 ..)
  simp only [JU]
  rcases Q6.1 ho with rfl | ho
  .rw [if_neg hk];omega
  .have:=Zgw (fun x hx=> h x (Q0 _ hx)) ho hk
   split <;> omega
def sA(w:Wst):Int:=JU w.out+w.gone.length
def sB(w:Wst):Int:=Z0f w.out+w.brought.length
theorem Z96(w:Wst):JU (Z6 w).out=sA w/\Z0f (Z6 w).out=sB w:=by
 simp only [Z6,Z0D,sA,sB,Z3b,Z3a]
 constructor
 .by_cases hg:w.gone.length=0
  .rw [if_pos hg]
   by_cases hb:w.brought.length=0
   .rw [if_pos hb];simp [JU];omega
   .rw [if_neg hb];simp [JU];omega
  .rw [if_neg hg]
   by_cases hb:w.brought.length=0
   .rw [if_pos hb];simp [JU,Z5]
   .rw [if_neg hb];simp [JU,Z5]
 .by_cases hg:w.gone.length=0
  .rw [if_pos hg]
   by_cases hb:w.brought.length=0
   .rw [if_pos hb];simp [Z0f];omega
   .rw [if_neg hb];simp [Z0f,Z5]
  .rw [if_neg hg]
   by_cases hb:w.brought.length=0
   .rw [if_pos hb];simp [Z0f];omega
   .rw [if_neg hb];simp [Z0f,Z5]
theorem Zgv(w:Wst)(n:Int):sA (ZX w n)=sA w+n/\sB (ZX w n)=sB w+n:=by
 have hf:=Z96 w
 simp only [ZX]
 have e1:∀ x,sA ⟨x,[],[]⟩=JU x:=fun x=> by simp [sA]
 have e2:∀ x,sB ⟨x,[],[]⟩=Z0f x:=fun x=> by simp [sB]
 rw [e1,e2,<-hf.1,<-hf.2]
 rcases Z04 (Z6 w).out n with e | ⟨a,q,e1,e2,e3⟩
 .rw [e,Z3b,Z3a]
  simp [JU,Z0f,Z5]
 .rw [e3,e1,Z3b,Z3a,Z3b,Z3a]
  simp only [JU,Z0f,Z5,e2]
  simp
  omega
theorem Zv7{list d:Int}{w:Wst}{o:Op}(hr:Zc list o d=true):sA (Z1m list o w)=sA w+(if o.kind=2 then 0 else Z5 o)/\sB (Z1m list o w)=sB w+(if o.kind=1 then 0 else Z5 o):=by
 have hl:∀ l,((Z7 l).length:Int)=l.length:=fun l=> by simp [Z7]
 obtain ⟨k,n,l,e⟩:=o
 rw [Zc] at hr
 rw [Z3l]
 simp only [Z5]
 split at hr
 .rename_i hk
  subst hk
  rw [if_pos rfl]
  simp only [Q1,decide_eq_true_eq] at hr
  have:=Zgv w n
  simp
  omega
 .rename_i hk
  rw [if_neg hk]
  split at hr
  .cases hr
  .rename_i hn
   split at hr
   .rename_i h3
    by_cases k1:k=1
    .subst k1
     rw [if_pos rfl]
     simp only [sA,sB,Qh]
     simp [hl]
     omega
    .have k2:k=2:=V0
     subst k2
     rw [if_neg k1,if_pos rfl]
     simp only [sA,sB,Qh]
     simp [hl]
     omega
   .rename_i h3
    have k3:k=3:=V0
    subst k3
    rw [JI,JI,if_pos rfl]
    split
    .have:=Zgv w 1
     simp
     omega
    .have:=Z96 w
     simp only [sA,sB,Z3b,Z3a,JU,Z0f,Z5] at this ⊢
     simp
     omega
mutual
theorem Jx:∀ (e:Edit) (d:Int),Z0 e d=true->Z0 (ZE e) d=true
 | .mk k o n w ks l os,d,h=> by
  have h1:=Zae ks
  have h2:=Zlm l os
  have h4:=ZkC l os
  rw [Z0] at h
  split at h
  .cases h
  .rename_i a
   split at h
   .cases h
   .rename_i b
    have nn:ZR Tree.nil=true:=rfl
    by_cases k1:k=1
    .subst k1
     rw [if_pos rfl] at h
     have hl:l=0:=by
      apply Xa
      intro hl
      exact b (.inr (.inr ⟨V2,.inl hl⟩))
     simp only [Q1,decide_eq_true_eq] at h
     rw [ZE,if_pos rfl,Z0,if_neg a,if_neg (by simp [hl]),if_pos rfl]
     simp only [Q1,decide_eq_true_eq]
     rw [Z1W,Z1W]
     exact ⟨⟨Z1k _ _ h.1.1,Z1k _ _ h.1.2⟩,h.2⟩
    .rw [if_neg k1] at h
     simp only [Q1,decide_eq_true_eq] at h
     obtain ⟨⟨⟨⟨x1,x2⟩,x3⟩,x4⟩,x5⟩:=h
     rw [ZE,if_neg k1]
     by_cases k2:k=2
     .have hl:l=0:=by
       apply Xa
       intro hl
       exact b (.inr (.inr ⟨V0,.inl hl⟩))
      rw [if_pos k2,Z0,if_neg a,if_neg (by simp [nn,hl,k2]),if_neg k1]
      simp only [Q1,decide_eq_true_eq]
      exact ⟨⟨⟨⟨x1,h1 _ _ x2⟩,x3⟩,rfl⟩,V2⟩
     .rw [if_neg k2]
      by_cases k3:k=3
      .rw [if_pos k3,Z0,if_neg a,if_neg (by simp [nn,k3]),if_neg k1]
       simp only [Q1,decide_eq_true_eq]
       have hall:=Z51.1 x4
       obtain ⟨y1,y2⟩:=Z3w os 0 (fun o ho=> Z7E (Zog (hall o ho))) V2 V2
       obtain ⟨z1,z2⟩:=Z3v os 0 (fun o ho=> Z7E (Zog (hall o ho))) V2 V2
       have hw:=h2 (d - 1) W0 x4 ⟨fun o ho=> (by cases ho),rfl,rfl⟩
       have hs:=h4 (d - 1) W0 x4
       have hff:=Z9r hw
       have hsf:=Z96 (YS l os W0)
       have e0:sA W0=0/\sB W0=0:=⟨rfl,rfl⟩
       have hA:=Z3w (Z6 (YS l os W0)).out 0 (fun o ho=> Z7E (hff.out o ho)) V2 V2
       have hB:=Z3v (Z6 (YS l os W0)).out 0 (fun o ho=> Z7E (hff.out o ho)) V2 V2
       refine ⟨⟨⟨⟨rfl,rfl⟩,x3⟩,Z51.2 (fun o ho=> Zvh (hff.out o ho) (fun hk=> ?_))⟩,?_,?_⟩
       .have hm:=Zgw (fun o ho=> Z7E (hff.out o ho)) ho V0
        unfold Z5 at hm
        rw [JI] at hm
        omega
       .show Z0m (Z6 (YS l os W0)).out 0 < 1048576
        omega
       .show Z0l (Z6 (YS l os W0)).out 0 < 1048576
        omega
      .have hl:l=0:=by
        apply Xa
        intro hl
        exact b (.inr (.inr ⟨k3,.inl hl⟩))
       rw [if_neg k3,Z0,if_neg a,if_neg (by simp [nn,hl]),if_neg k1]
       simp only [Q1,decide_eq_true_eq]
       exact ⟨⟨⟨⟨rfl,rfl⟩,x3⟩,rfl⟩,V2⟩
theorem Zae:∀ (ks:List (KidOf Edit)) (last d:Int),Zu last ks d=true->Zu last (Z0p ks) d=true
 | [],_,_,_=> rfl
 | k ::r,last,d,h=> by
  simp only [Zu,Q1] at h
  have h1:=Zfq k last d h.1
  have h2:=Zae r k.at_ d h.2
  simp only [Z0p,Zu,Q1]
  exact ⟨h1,by rw [Zev];exact h2⟩
theorem Zfq:∀ (k:KidOf Edit) (last d:Int),YW last k d=true->YW last (Z2c k) d=true
 | ⟨a,e⟩,last,d,h=> by
  simp only [YW,Q1] at h
  have h1:=Jx e d h.2
  simp only [Z2c,YW,Q1]
  rw [Z3m]
  exact ⟨h.1,h1⟩
theorem Zlm(list:Int):∀ (os:List (OpOf Edit)) (d:Int) (w:Wst),Zt list os d=true->OkW list d w->OkW list d (YS list os w)
 | [],_,_,_,hw=> hw
 | o ::r,d,w,h,hw=> by
  simp only [Zt,Q1] at h
  have h1:=Zmp list o d w h.1 hw
  exact Zlm list r d _ h.2 h1
theorem Zmp(list:Int):∀ (o:OpOf Edit) (d:Int) (w:Wst),Zc list o d=true->OkW list d w->OkW list d (Z1m list o w)
 | ⟨k,n,l,e⟩,d,w,h,hw=> Zvo (o:=⟨k,n,l,e⟩) hw h (fun he=> Jx e d he)
theorem ZkC(list:Int):∀ (os:List (OpOf Edit)) (d:Int) (w:Wst),Zt list os d=true->sA (YS list os w)=sA w+JU os/\sB (YS list os w)=sB w+Z0f os
 | [],_,_,_=> by simp [YS,JU,Z0f]
 | o ::r,d,w,h=> by
  simp only [Zt,Q1] at h
  have h1:=Zv7 (w:=w) h.1
  have h2:=ZkC list r d (Z1m list o w) h.2
  simp only [YS,JU,Z0f]
  omega
end
theorem Z4Z:∀ {a b:List Tree},Yg (a++b)↔Yg a/\Yg b
 | [],b=> by simp [Yg]
 | t ::r,b=> by simp only [Qw,Yg];rw [Z4Z (a:=r),and_assoc]
mutual
theorem J9:∀ (t:Tree),rng t->rng (Z1 t)
 | .mk k w ks,h=> by
  simp only [rng] at h
  obtain ⟨h1,h2,h3⟩:=h
  have h4:=Ze5 ks h3
  simp only [Z1]
  split
  .simp only [Tree.nil,rng,Yg]
   exact ⟨V2,by simp,trivial⟩
  .split
   .obtain ⟨r1,e1⟩:=Zbt w
    obtain ⟨r2,e2⟩:=Z92 (Yf ks)
    simp only [rng]
    refine ⟨V2,fun x hx=> h2 x (by rw [e1];exact Qi.2 (Or.inl hx)),?_⟩
    rw [e2] at h4
    exact (Z4Z.1 h4).1
   .simp only [rng]
    exact ⟨h1,h2,h4⟩
theorem Ze5:∀ (l:List Tree),Yg l->Yg (Yf l)
 | [],_=> trivial
 | t ::r,h=> by
  simp only [Yg] at h
  have h1:=J9 t h.1
  have h2:=Ze5 r h.2
  simp only [Yf,Yg]
  exact ⟨h1,h2⟩
end
theorem Z6L:∀ {l:List Tree},Yg l->Yg (Z7 l)
 | [],_=> trivial
 | t ::r,h=> by
  simp only [Yg] at h
  have h2:=Z6L h.2
  simp only [Z7] at h2
  simp only [Z7,X4,Yg]
  exact ⟨J9 t h.1,h2⟩
theorem Z1i:rng Tree.nil:=by
 simp only [Tree.nil,rng,Yg]
 exact ⟨V2,by simp,trivial⟩
mutual
theorem Z3g:∀ (e:Edit),ZK e->ZK (Zq e)
 | .mk k o n w ks l os,h=> by
  simp only [ZK] at h
  obtain ⟨h1,h2,h3,h4,h5,h6,h7⟩:=h
  have i6:=Zcf ks h6
  have i7:=Zce os h7
  simp only [Zq,ZK]
  refine ⟨h1,h3,h2,fun x hx=> ?_,h5,i6,i7⟩
  obtain ⟨y,hy,rfl⟩:=Xr.1 hx
  have:=h4 y hy
  simp only [Z1j,YH] at this ⊢
  exact ⟨this.1,this.2.1,this.2.2.2,this.2.2.1⟩
theorem Zcf:∀ (ks:List (KidOf Edit)),JX ks->JX (Y4 ks)
 | [],_=> trivial
 | k ::r,h=> by
  simp only [JX] at h
  have h1:=ZgM k h.1
  have h2:=Zcf r h.2
  simp only [Y4,JX]
  exact ⟨h1,h2⟩
theorem ZgM:∀ (k:KidOf Edit),Z0N k->Z0N (YL k)
 | ⟨a,e⟩,h=> by
  simp only [Z0N] at h
  have h2:=Z3g e h.2
  simp only [YL,Z0N]
  exact ⟨h.1,h2⟩
theorem Zce:∀ (os:List (OpOf Edit)),JP os->JP (Y9 os)
 | [],_=> trivial
 | o ::r,h=> by
  simp only [JP] at h
  have h1:=ZiP o h.1
  have h2:=Zce r h.2
  simp only [Y9,JP]
  exact ⟨h1,h2⟩
theorem ZiP:∀ (o:OpOf Edit),YD o->YD (ZY o)
 | ⟨k,n,l,e⟩,h=> by
  simp only [YD] at h
  have h4:=Z3g e h.2.2.2
  simp only [ZY]
  split
  .simp only [YD];exact ⟨V4,h.2⟩
  .split
   .simp only [YD];exact ⟨V4,h.2⟩
   .split
    .simp only [YD];exact ⟨h.1,h.2.1,h.2.2.1,h4⟩
    .simp only [YD];exact h
end
structure RngW (w:Wst):Prop where
 out:∀ o∈w.out,Yg o.l/\ZK o.e
 gone:Yg w.gone
 brought:Yg w.brought
theorem Z5N:ZK Edit.nil:=by
 simp only [Edit.nil,ZK,JX,JP]
 exact ⟨V4,Z1i,Z1i,by simp,V4,trivial,trivial⟩
theorem Z6K{w:Wst}(h:RngW w):RngW (Z6 w):=by
 refine ⟨?_,trivial,trivial⟩
 simp only [Z6,Z0D]
 intro o ho
 rcases Qi.1 ho with ho | ho
 .exact h.out o ho
 rcases Qi.1 ho with ho | ho
 .split at ho
  .cases ho
  .simp only [Q9] at ho
   subst ho
   exact ⟨h.gone,Z5N⟩
 .split at ho
  .cases ho
  .simp only [Q9] at ho
   subst ho
   exact ⟨h.brought,Z5N⟩
theorem Ze2{w:Wst}{n:Int}(h:RngW w):RngW (ZX w n):=by
 have hf:=Z6K h
 refine ⟨?_,trivial,trivial⟩
 simp only [ZX]
 intro o ho
 rcases Z04 (Z6 w).out n with e | ⟨a,q,e1,e2,e3⟩
 .rw [e] at ho
  rcases Qi.1 ho with ho | ho
  .exact hf.out o ho
  .simp only [Q9] at ho
   subst ho
   exact ⟨trivial,Z5N⟩
 .rw [e3] at ho
  rcases Qi.1 ho with ho | ho
  .exact hf.out o (by rw [e1];exact Qi.2 (Or.inl ho))
  .simp only [Q9] at ho
   subst ho
   exact hf.out q (by rw [e1];simp)
theorem ZkJ{list:Int}{w:Wst}{o:Op}(h:RngW w)(hl:Yg o.l)(he:ZK (ZE o.e)):RngW (Z1m list o w):=by
 rw [Z3l]
 split
 .exact Ze2 h
 .split
  .exact ⟨h.out,Z4Z.2 ⟨h.gone,Z6L hl⟩,h.brought⟩
  .split
   .exact ⟨h.out,h.gone,Z4Z.2 ⟨h.brought,Z6L hl⟩⟩
   .split
    .split
     .exact Ze2 h
     .refine ⟨?_,trivial,trivial⟩
      intro o ho
      rcases Qi.1 ho with ho | ho
      .exact (Z6K h).out o ho
      .simp only [Q9] at ho
       subst ho
       exact ⟨trivial,he⟩
    .exact h
theorem Zac:∀ {os:List Op},(∀ o∈os,YD o)->JP os
 | [],_=> trivial
 | o ::r,h=> by
  simp only [JP]
  exact ⟨h o (Q4 ..),Zac (fun x hx=> h x (Q0 _ hx))⟩
theorem ZgP{list d:Int}{o:Op}(h:Zc list o d=true)(hl:Yg o.l)(he:ZK o.e):YD o:=by
 have hn:=Z5O h
 obtain ⟨k,n,l,e⟩:=o
 simp only at hn hl he
 simp only [YD]
 refine ⟨?_,V4,hl,he⟩
 rw [Zc] at h
 unfold InR
 split at h
 .omega
 .split at h
  .cases h
  .omega
mutual
theorem Z0G:∀ (e:Edit) (d:Int),Z0 e d=true->ZK e->ZK (ZE e)
 | .mk k o n w ks l os,d,hr,h=> by
  have hin:=Z9l hr
  have hout:=Z9l (Jx _ _ hr)
  simp only [Edit.kids_mk,Edit.ops_mk,Edit.list_mk] at hin
  simp only [ZK] at h
  obtain ⟨h1,h2,h3,h4,h5,h6,h7⟩:=h
  have i6:=Ze4 ks (d - 1) (fun k hk=> (hin.1 k hk).1) h6
  have i7:=Ze3 l os (d - 1) hin.2 h7 W0 ⟨fun o ho=> (by cases ho),trivial,trivial⟩
  rw [ZE] at hout ⊢
  by_cases k1:k=1
  .rw [if_pos k1]
   simp only [ZK]
   exact ⟨h1,J9 o h2,J9 n h3,by simp,h5,trivial,trivial⟩
  .rw [if_neg k1] at hout ⊢
   by_cases k2:k=2
   .rw [if_pos k2]
    simp only [ZK]
    exact ⟨h1,Z1i,Z1i,h4,h5,i6,trivial⟩
   .rw [if_neg k2] at hout ⊢
    by_cases k3:k=3
    .rw [if_pos k3] at hout ⊢
     simp only [ZK]
     refine ⟨h1,Z1i,Z1i,by simp,h5,trivial,Zac (fun q hq=> ?_)⟩
     have hx:=hout.2 q hq
     have hy:=(Z6K i7).out q hq
     exact ZgP hx hy.1 hy.2
    .rw [if_neg k3]
     simp only [ZK]
     exact ⟨h1,Z1i,Z1i,by simp,h5,trivial,trivial⟩
theorem Ze4:∀ (ks:List (KidOf Edit)) (d:Int),(∀ k∈ks,Z0 k.e d=true)->JX ks->JX (Z0p ks)
 | [],_,_,_=> trivial
 | k ::r,d,hr,h=> by
  simp only [JX] at h
  have h1:=ZiQ k d (hr k (Q4 ..)) h.1
  have h2:=Ze4 r d (fun x hx=> hr x (Q0 _ hx)) h.2
  simp only [Z0p,JX]
  exact ⟨h1,h2⟩
theorem ZiQ:∀ (k:KidOf Edit) (d:Int),Z0 k.e d=true->Z0N k->Z0N (Z2c k)
 | ⟨a,e⟩,d,hr,h=> by
  simp only [Z0N] at h
  have h2:=Z0G e d hr h.2
  simp only [Z2c,Z0N]
  exact ⟨h.1,h2⟩
theorem Ze3(list:Int):∀ (os:List (OpOf Edit)) (d:Int),(∀ o∈os,Zc list o d=true)->JP os->∀ (w:Wst),RngW w->RngW (YS list os w)
 | [],_,_,_,w,hw=> hw
 | o ::r,d,hr,h,w,hw=> by
  simp only [JP] at h
  have h1:=Zma list o d (hr o (Q4 ..)) h.1 w hw
  exact Ze3 list r d (fun x hx=> hr x (Q0 _ hx)) h.2 _ h1
theorem Zma(list:Int):∀ (o:OpOf Edit) (d:Int),Zc list o d=true->YD o->∀ (w:Wst),RngW w->RngW (Z1m list o w)
 | ⟨k,n,l,e⟩,d,hr,h,w,hw=> by
  simp only [YD] at h
  by_cases k3:k=3
  .have he:Z0 e d=true:=by
    rw [Zc,JI,] at hr
    split at hr
    .cases hr
    .rw [JI] at hr
     simp only [Q1] at hr
     exact hr.1.2
   exact ZkJ (o:=⟨k,n,l,e⟩) hw h.2.2.1 (Z0G e d he h.2.2.2)
  .have hs:ZK (ZE Edit.nil):=by
    show ZK (.mk 0 Tree.nil Tree.nil [] [] 0 [])
    exact Z5N
   have e2:Z1m list ⟨k,n,l,e⟩ w=Z1m list ⟨k,n,l,Edit.nil⟩ w:=by
    simp only [Z1m]
    rw [if_neg k3,if_neg k3]
   rw [e2]
   exact ZkJ (o:=⟨k,n,l,Edit.nil⟩) hw h.2.2.1 hs
end
theorem Zj8(t:Tree):t.words.length+Zl t.kids+1=Zn t:=by obtain ⟨k,w,ks⟩:=t;simp only [Zn,Tree.words_mk,Tree.kids_mk];omega
theorem ZeD:∀ (l:List Tree) (i:Nat) (x:Tree),i < l.length->Zl (l.set i x)+Zn (l.getD i Tree.nil)=Zl l+Zn x
 | [],i,x,h=> by simp at h
 | a ::r,0,x,_=> by simp only [List.set_cons_zero,Zl,Qt];omega
 | a ::r,i+1,x,h=> by
  have:=ZeD r i x (by simpa using h)
  simp only [List.set_cons_succ,Zl,XX];omega
theorem Zj9(n:Nat):Zl (List.replicate n Tree.nil)=n:=by
 induction n with
 | zero=> rfl
 | succ n ih=> rw [XV,Zl,ih];simp [Tree.nil,Zn,Zl];omega
theorem JG:∀ (a b:List Tree),Zl (a++b)=Zl a+Zl b
 | [],b=> by simp [Zl]
 | t ::r,b=> by simp only [Qw,Zl,JG r b];omega
theorem ZmE(l:List Tree)(i:Nat)(x:Tree):Zl (Y5 Tree.nil l i x)+Zn (l.getD i Tree.nil)<=Zl l+Zn x+(i+1):=by
 have h:=ZeD (l++List.replicate (i+1 - l.length) Tree.nil) i x (by simp;omega)
 have e:(l++List.replicate (i+1 - l.length) Tree.nil).getD i Tree.nil=l.getD i Tree.nil:=by
  by_cases hi:i < l.length
  .simp only [Qd];rw [Qs hi]
  .simp only [Qd]
   rw [Qy V0,Qq (l:=l) V0,List.getElem?_replicate]
   split <;> rfl
 rw [e,JG,Zj9] at h
 simp only [Y5]
 omega
theorem Zf0{tw:List Int}:∀ {ws:List WEdit} {last:Int} {out a:List Int},Zp last ws=true->wsD tw ws out=some a->a.length<=max out.length 65535
 | [],_,out,a,_,h=> by rw [wsD] at h;cases h;omega
 | w ::r,last,out,a,hw,h=> by
  have h1:=YQ hw w Q4
  simp only [Zp,Q1] at hw
  rw [wsD] at h
  split at h
  .have:=Zf0 hw.2 h
   rw [Z6a] at this
   omega
  .cases h
theorem Z7w{last d:Int}{k:Kid}{r:List Kid}(h:Zu last (k ::r) d=true):(last < k.at_/\k.at_<=65534)/\Z0 k.e d=true/\Zu k.at_ r d=true:=by
 have:=ZP h k Q4
 simp only [Zu,Q1] at h
 exact ⟨⟨this.1.1,this.1.2.1⟩,this.2,h.2⟩
theorem Zno{tw:List Int}{ws:List WEdit}{last:Int}{out a:List Int}(hw:Zp last ws=true)(h:wsD tw ws out=some a):a.length<=out.length+65600*ws.length:=by
 cases ws with
 | nil=> rw [wsD] at h;cases h;omega
 | cons w r=>
  have:=Zf0 hw h
  simp only [Q7]
  omega
theorem ZcH(r:Bool)(v:Tree):Zn (nrD r v)<=Zn v:=by
 unfold nrD
 split
 .exact Yt v
 .exact Qm _
mutual
theorem Z83(r:Bool):∀ (e:Edit) (d:Int) (t v:Tree),Z0 e d=true->Z7D r e t=some v->Zn v+18<=Zn t+ctE e
 | .mk k o n w ks l os,d,t,v,hr,hv=> by
  have ri:=Zs hr
  have h1:=ZeC r ks t.kids
  have h2:=ZeB r l os
  have ht:=Zj8 t
  have po:=YY o
  have pn:=YY n
  have pt:=YY t
  unfold Z7D at hv
  simp only [ctE]
  split at hv
  .cases hv;omega
  .split at hv
   .split at hv
    .cases hv
     show Zn n+18<=_
     omega
    .cases hv
   .split at hv
    .split at hv
     .obtain ⟨a,ha,hb⟩:=Ql.1 hv
      obtain ⟨b,hb,e⟩:=Qb.1 hb
      have l1:=Zno ri.words ha
      simp only [Edit.words_mk] at l1
      have l2:=h1 t.kids b _ (-1) V0 ri.kids (fun j _=> rfl) hb
      rw [<-e]
      simp only [Zn]
      omega
     .cases hv
    .split at hv
     .split at hv
      .obtain ⟨b,hb,e⟩:=Qb.1 hv
       unfold Z0d at hb
       obtain ⟨x,hx,hy⟩:=Ql.1 hb
       have l2:=h2 _ t.kids [] x (fun o ho=> Go.AM.rightOs_mem ri.ops o ho) hx
       split at hy
       .cases hy
        rw [<-e]
        simp only [Zn,Qn]
        simp only [Zl] at l2
        omega
       .cases hy
      .cases hv
     .cases hv
theorem ZeC(r:Bool):∀ (ks:List (KidOf Edit)) (tk out b:List Tree) (d last:Int),-1<=last->Zu last ks d=true->(∀ j:Nat,last < (j:Int)->out.getD j Tree.nil=tk.getD j Tree.nil)->Je r tk ks out=some b->Zl b<=Zl out+Z0t ks
 | [],tk,out,b,d,last,_,_,_,h=> by rw [Je] at h;cases h;simp
 | k ::s,tk,out,b,d,last,hl,hr,hj,h=> by
  obtain ⟨h1,h2,h3⟩:=Z7w hr
  rw [Je] at h
  obtain ⟨u,hu,hb⟩:=Ql.1 h
  have m1:=Zj6 r k tk u d h2 hu
  have m2:=ZmE out k.at_.toNat u
  rw [hj k.at_.toNat V0] at m2
  have m3:=ZeC r s tk _ b d k.at_ V0 h3 (fun j hj'=> by
   rw [JV,JI]
   exact hj j V0) hb
  have m4:k.at_.toNat+1<=65600:=V0
  have e1:Z0t (k ::s)=65600+ctE k.e+Z0t s:=by obtain ⟨a,e⟩:=k;rfl
  rw [e1]
  omega
theorem Zj6(r:Bool):∀ (k:KidOf Edit) (tk:List Tree) (u:Tree) (d:Int),Z0 k.e d=true->JS r tk k=some u->Zn u+18<=Zn (tk.getD k.at_.toNat Tree.nil)+ctE k.e
 | ⟨a,e⟩,tk,u,d,hr,h=> by
  rw [JS,Z2N] at h
  obtain ⟨v,hv,hu⟩:=Qb.1 h
  have:=Z83 r e d (tk.getD a.toNat Tree.nil) v hr hv
  have hvu:=ZcH r v
  rw [hu] at hvu
  dsimp only
  omega
theorem ZeB(r:Bool)(l:Int):∀ (os:List (OpOf Edit)) (d:Int) (rest out:List Tree) (x:List Tree × List Tree),(∀ o∈os,Zc l o d=true)->ZC r os rest out=some x->Zl x.1+Zl x.2<=Zl out+Zl rest+YN os
 | [],d,rest,out,x,_,h=> by rw [ZC] at h;cases h;simp
 | o ::s,d,rest,out,x,hr,h=> by
  rw [ZC] at h
  obtain ⟨y,hy,hx⟩:=Ql.1 h
  have m1:=ZmB r l o d rest out y (hr o Q4) hy
  have m2:=ZeB r l s d _ _ x (fun q hq=> hr q (Q0 _ hq)) hx
  rw [YN]
  omega
theorem ZmB(r:Bool)(l:Int):∀ (o:OpOf Edit) (d:Int) (rest out:List Tree) (x:List Tree × List Tree),Zc l o d=true->Z0K r o rest out=some x->Zl x.1+Zl x.2<=Zl out+Zl rest+Z2s o
 | ⟨k,n,L,e⟩,d,rest,out,x,hr,h=> by
  have he:=Z83 r e d (rest.getD 0 Tree.nil)
  rw [Z0K] at h
  simp only [Z2s]
  split at h
  .split at h
   .cases h
    have:=JG (rest.take n.toNat) (rest.drop n.toNat)
    rw [Qv] at this
    dsimp only
    rw [JG];omega
   .cases h
  .split at h
   .split at h
    .cases h
     have:=Z2f L.length rest
     dsimp only;omega
    .cases h
   .split at h
    .cases h
     dsimp only
     rw [JG];omega
    .split at h
     .cases h
     .obtain ⟨u,hu,e2⟩:=Qb.1 h
      cases e2
      have hk:k=3:=by
       have ra:=ZT hr
       generalize ho:OpOf.mk k n L e=o at ra
       cases ra <;> (injection ho with h1;try omega)
      rw [Z2N] at hu
      obtain ⟨v,hv,hu⟩:=Qb.1 hu
      have:=he v (Jv hr hk) hv
      have hvu:=ZcH r v
      rw [hu] at hvu
      cases rest with
      | nil=> contradiction
      | cons a q=>
       rw [JG]
       simp only [Zl,QQ,QV,Qt] at this ⊢
       omega
end
theorem Z5Y(r:Bool)(e:Edit)(d:Int)(t u:Tree)(hr:Z0 e d=true)(h:doE r e t=some u):Zn u+18<=Zn t+ctE e:=by
 rw [Z2N] at h
 obtain ⟨v,hv,hu⟩:=Qb.1 h
 have:=Z83 r e d t v hr hv
 have hvu:=ZcH r v
 rw [hu] at hvu
 omega
theorem Zvp{f:Nat->Int}(h:∀ i,0<=f i/\f i < 256):isW (of8 f):=by
 have h0:=h 0;have h1:=h 1;have h2:=h 2;have h3:=h 3;have h4:=h 4;have h5:=h 5;have h6:=h 6;have h7:=h 7
 unfold isW of8
 omega
theorem Z0S(a b m:Int):isW (mix a b m):=Zvp (Z5m a b m)
theorem Z7u{l:List Tree}(h:∀ t∈l,rng t):Yg l:=by
 induction l with
 | nil=> exact trivial
 | cons a r ih=> exact ⟨h a Q4,ih fun t ht=> h t (Q0 _ ht)⟩
theorem JD:rng Tree.nil:=⟨V2,by simp,trivial⟩
theorem Z6I{α:Type}{z x y:α}{l:List α}{i:Nat}(h:y∈Y5 z l i x):y∈l\/y=z\/y=x:=by
 rcases List.mem_or_eq_of_mem_set h with h | h
 .rcases Qi.1 h with h | h
  .exact .inl h
  .exact .inr (.inl (List.eq_of_mem_replicate h))
 .exact .inr (.inr h)
theorem ZkI{ks:List Tree}(h:Yg ks)(i:Nat):rng (ks.getD i Tree.nil):=by
 by_cases hi:i < ks.length
 .exact Ja h (Zh hi _)
 .rw [Qd,Qq V0]
  exact JD
theorem Znp{tw:List Int}:∀ {ws:List WEdit} {out a:List Int},(∀ x∈out,isW x)->wsD tw ws out=some a->∀ x∈a,isW x
 | [],out,a,h,hw=> by rw [wsD] at hw;cases hw;exact h
 | w ::r,out,a,h,hw=> by
  rw [wsD] at hw
  split at hw
  .refine Znp (fun x hx=> ?_) hw
   rcases Z6I hx with hx | rfl | rfl
   .exact h x hx
   .exact ⟨V0,V0⟩
   .exact Z0S _ _ _
  .cases hw
mutual
theorem Z4g(r:Bool):∀ (e:Edit) (t u:Tree),ZK e->rng t->doE r e t=some u->rng u
 | .mk k o n w ks l os,t,u,hr,ht,h=> by
  have h1:=ZgJ r ks
  have h2:=ZgI r os
  simp only [ZK] at hr
  obtain ⟨r1,r2,r3,r4,r5,r6,r7⟩:=hr
  have hta:InR t.kind/\(∀ x∈t.words,isW x)/\Yg t.kids:=by obtain ⟨k,w,ks⟩:=t;exact ht
  rw [JO] at h
  obtain ⟨v,hv,hu⟩:=Qb.1 h
  suffices rng v by
   rw [<-hu];unfold nrD
   split
   .exact J9 v this
   .exact this
  clear h hu
  split at hv
  .cases hv;exact ht
  .split at hv
   .split at hv
    .cases hv;exact r3
    .cases hv
   .split at hv
    .split at hv
     .obtain ⟨a,ha,hb⟩:=Ql.1 hv
      obtain ⟨b,hb,e⟩:=Qb.1 hb
      rw [<-e]
      exact ⟨V2,Znp hta.2.1 ha,h1 _ _ _ r6 hta.2.2 hta.2.2 hb⟩
     .cases hv
    .split at hv
     .split at hv
      .obtain ⟨b,hb,e⟩:=Qb.1 hv
       unfold Z0d at hb
       obtain ⟨x,hx,hy⟩:=Ql.1 hb
       split at hy
       .cases hy
        rw [<-e]
        exact ⟨r5,by simp,(h2 _ [] _ r7 hta.2.2 trivial hx).1⟩
       .cases hy
      .cases hv
     .cases hv
theorem ZgJ(r:Bool):∀ (ks:List (KidOf Edit)) (tk out b:List Tree),JX ks->Yg tk->Yg out->Je r tk ks out=some b->Yg b
 | [],tk,out,b,_,_,ho,h=> by rw [Je] at h;cases h;exact ho
 | k ::s,tk,out,b,hk,ht,ho,h=> by
  rw [Je] at h
  obtain ⟨u,hu,hb⟩:=Ql.1 h
  have m1:=Zm9 r k tk u hk.1 ht hu
  refine ZgJ r s tk _ b hk.2 ht (Z7u fun x hx=> ?_) hb
  rcases Z6I hx with hx | rfl | rfl
  .exact Ja ho hx
  .exact JD
  .exact m1
theorem Zm9(r:Bool):∀ (k:KidOf Edit) (tk:List Tree) (u:Tree),Z0N k->Yg tk->JS r tk k=some u->rng u
 | ⟨a,e⟩,tk,u,hr,ht,h=> by
  rw [JS] at h
  exact Z4g r e _ u hr.2 (ZkI ht _) h
theorem ZgI(r:Bool):∀ (os:List (OpOf Edit)) (rest out:List Tree) (x:List Tree × List Tree),JP os->Yg rest->Yg out->ZC r os rest out=some x->Yg x.1/\Yg x.2
 | [],rest,out,x,_,hr,ho,h=> by rw [ZC] at h;cases h;exact ⟨ho,hr⟩
 | o ::s,rest,out,x,hs,hr,ho,h=> by
  rw [ZC] at h
  obtain ⟨y,hy,hx⟩:=Ql.1 h
  have m1:=ZnU r o rest out y hs.1 hr ho hy
  exact ZgI r s _ _ x hs.2 m1.2 m1.1 hx
theorem ZnU(r:Bool):∀ (o:OpOf Edit) (rest out:List Tree) (x:List Tree × List Tree),YD o->Yg rest->Yg out->Z0K r o rest out=some x->Yg x.1/\Yg x.2
 | ⟨k,n,L,e⟩,rest,out,x,hs,hr,ho,h=> by
  have he:=Z4g r e (rest.getD 0 Tree.nil)
  simp only [YD] at hs
  have hd:∀ n,Yg (rest.drop n):=fun n=> Z7u fun t ht=> Ja hr (QZ ht)
  have hap:∀ l,Yg l->Yg (out++l):=fun l hl=> Z4Z.2 ⟨ho,hl⟩
  rw [Z0K] at h
  split at h
  .split at h
   .cases h
    exact ⟨hap _ (Z7u fun t ht=> Ja hr (X9 ht)),hd _⟩
   .cases h
  .split at h
   .split at h
    .cases h
     exact ⟨ho,hd _⟩
    .cases h
   .split at h
    .cases h
     exact ⟨hap _ hs.2.2.1,hr⟩
    .split at h
     .cases h
     .obtain ⟨u,hu,e2⟩:=Qb.1 h
      cases e2
      exact ⟨hap _ ⟨he u hs.2.2.2 (ZkI hr 0) hu,trivial⟩,hd _⟩
end
section
variable {α β:Type} (z:α) (f:β->Option α) (p:β->Int)
def mg:List β->List α->Option (List α)
 | [],out=> some out
 | w ::r,out=> (f w).bind fun v=> mg r (Y5 z out (p w).toNat v)
def asc(last:Int):List β->Prop
 | []=> True
 | w ::r=> last < p w/\asc (p w) r
structure Mg (l0:List α) (ws:List β) (n a i:Int) (out:List α):Prop where
 a0:0<=a/\a<=ws.length
 i0:0<=i/\i<=n
 len:(out.length:Int)=i
 ac:asc p (i - 1) (ws.drop a.toNat)
 lt:∀ w∈ws.drop a.toNat,p w < n
 ex:n=l0.length\/i=n\/∃ w∈ws.drop a.toNat,p w+1=n
 n0:l0.length<=n
 eq:mg z f p (ws.drop a.toNat) (out++l0.drop i.toNat)=mg z f p ws l0
variable {z f p} {l0:List α} {ws:List β} {n a i:Int} {out:List α}
theorem ZiD(v:α)(i:Nat)(h:out.length=i):Y5 z (out++l0.drop i) i v=(out++[v])++l0.drop (i+1):=by
 by_cases hi:i < l0.length
 .simp only [Y5]
  rw [show i+1 - (out++l0.drop i).length=0 by simp;omega]
  simp only [List.replicate_zero,Qp]
  rw [XM _ _ V0,show i - out.length=0 by omega,QL hi,List.set_cons_zero,Qa]
  try rfl
 .rw [Q8 V0,Q8 V0]
  simp only [Y5,Qp]
  rw [show i+1 - out.length=1 by omega,List.replicate_one,XM _ _ V0,show i - out.length=0 by omega]
  try rfl
theorem Zdn{last:Int}:∀ {l:List β},asc p last l->∀ w∈l,last < p w
 | [],_,_,hw=> by cases hw
 | b ::r,h,w,hw=> by
  rcases Q6.1 hw with rfl | hw
  .exact h.1
  .have:=Zdn h.2 w hw
   have:=h.1
   omega
theorem Mg.cons(m:Mg z f p l0 ws n a i out)(d:β)(ha:a < ws.length):ws.drop a.toNat=ws.getD a.toNat d ::ws.drop (a+1).toNat:=YB m.a0.1 ha d
theorem Mg.none(m:Mg z f p l0 ws n a i out)(d:β)(ha:a < ws.length)(hf:f (ws.getD a.toNat d)=Option.none):mg z f p ws l0=Option.none:=by
 rw [<-m.eq,m.cons d ha,mg,hf];try rfl
theorem Mg.edit(m:Mg z f p l0 ws n a i out)(d:β)(hi:i < n)(ha:a < ws.length)(hp:p (ws.getD a.toNat d)=i){v:α}(hf:f (ws.getD a.toNat d)=some v):Mg z f p l0 ws n (a+1) (i+1) (out++[v]):=by
 have hc:=m.cons d ha
 have h1:=m.ac;have h2:=m.lt;have h3:=m.ex;have h4:=m.eq;have h5:=m.a0;have h6:=m.i0;have h7:=m.len
 rw [hc] at h1 h2 h3 h4
 refine ⟨V0,V0,by simp;omega,?_,fun w hw=> h2 w (Q0 _ hw),?_,m.n0,?_⟩
 .have:=h1.2
  rw [hp] at this
  rw [show i+1 - 1=i by omega]
  exact this
 .rcases h3 with h3 | h3 | ⟨w,hw,h3⟩
  .exact .inl h3
  .omega
  .rcases Q6.1 hw with rfl | hw
   .exact .inr (.inl V0)
   .exact .inr (.inr ⟨w,hw,h3⟩)
 .rw [mg,hf,Qe,hp,ZiD v i.toNat V0,show i.toNat+1=(i+1).toNat by omega] at h4
  exact h4
theorem Zvr{l:List β}(h:∃ w,w∈l)(ha:asc p (out.length:Int) l):mg z f p l (out++[z])=mg z f p l out:=by
 cases l with
 | nil=> obtain ⟨w,hw⟩:=h;cases hw
 | cons w r=>
  have h1:=ha.1
  rw [mg,mg]
  congr 1
  funext v
  have:Y5 z (out++[z]) (p w).toNat v=Y5 z out (p w).toNat v:=by
   simp only [Y5,Qh,QU,Qa]
   rw [show (p w).toNat+1 - out.length=((p w).toNat+1 - (out.length+1))+1 by omega,XV]
   try rfl
  rw [this]
theorem Mg.plain(m:Mg z f p l0 ws n a i out)(d:β)(hi:i < n)(hn:¬(a < ws.length/\p (ws.getD a.toNat d)=i)):Mg z f p l0 ws n a (i+1) (out++[l0.getD i.toNat z]):=by
 have h1:=m.ac;have h2:=m.lt;have h3:=m.ex;have h4:=m.eq;have h5:=m.a0;have h6:=m.i0;have h7:=m.len;have h8:=m.n0
 have has:asc p i (ws.drop a.toNat):=by
  by_cases ha:a < ws.length
  .rw [m.cons d ha] at h1 ⊢
   exact ⟨by have:=h1.1;have:p (ws.getD a.toNat d)≠i:=fun e=> hn ⟨ha,e⟩;omega,h1.2⟩
  .rw [Q8 V0];exact trivial
 refine ⟨h5,V0,by simp;omega,by rw [show i+1 - 1=i by omega];exact has,h2,?_,h8,?_⟩
 .rcases h3 with h3 | h3 | h3
  .exact .inl h3
  .omega
  .exact .inr (.inr h3)
 .rw [<-h4]
  by_cases hl:i.toNat < l0.length
  .rw [QL hl,show i.toNat+1=(i+1).toNat by omega,Qd,Q2 hl,QW]
   simp
  .have e1:l0.drop i.toNat=[]:=Q8 V0
   have e2:l0.drop (i+1).toNat=[]:=Q8 V0
   rw [e1,e2,Qp,Qp,Qd,Qq V0,Option.getD_none]
   rcases h3 with h3 | h3 | ⟨w,hw,h3⟩
   .omega
   .omega
   .exact Zvr ⟨w,hw⟩ (by rw [h7];exact has)
theorem Mg.fin(m:Mg z f p l0 ws n a i out)(hi:¬i < n):mg z f p ws l0=some out:=by
 have h1:=m.ac;have h2:=m.lt;have h6:=m.i0;have h8:=m.n0
 rw [<-m.eq]
 have:ws.drop a.toNat=[]:=by
  cases h:ws.drop a.toNat with
  | nil=> rfl
  | cons w r=>
   rw [h] at h1 h2
   have:=h1.1
   have:=h2 w Q4
   omega
 rw [this,mg,Q8 V0,Qp]
end
theorem Mg.init{α β:Type}{z:α}{f:β->Option α}{p:β->Int}{l0:List α}{ws:List β}{n:Int}(d:β)(has:asc p (-1) ws)(hn:n=if 0 < ws.length/\(l0.length:Int)<=p (ws.getD (ws.length - 1) d) then p (ws.getD (ws.length - 1) d)+1 else (l0.length:Int)):Mg z f p l0 ws n 0 0 []:=by
 have last:∀ (l:List β) (m:Int),asc p m l->∀ w∈l,p w<=p (l.getD (l.length - 1) d):=by
  intro l
  induction l with
  | nil=> intro m h w hw;cases hw
  | cons b r ih=>
   intro m h w hw
   cases r with
   | nil=>
    rcases Q6.1 hw with rfl | hw
    .simp
    .cases hw
   | cons c s=>
    have e:(b ::c ::s).getD ((b ::c ::s).length - 1) d=(c ::s).getD ((c ::s).length - 1) d:=by simp
    rw [e]
    rcases Q6.1 hw with rfl | hw
    .have h1:=ih _ h.2 c Q4
     have h2:=h.2.1
     omega
    .exact ih _ h.2 w hw
 have hl:=last ws _ has
 have hm:0 < ws.length->ws.getD (ws.length - 1) d∈ws:=fun h=> Zh V0 _
 refine ⟨V0,⟨V0,?_⟩,rfl,has,fun w hw=> ?_,?_,?_,by simp⟩
 .rw [hn];split <;> omega
 .have:=hl w hw
  have hp:0 < ws.length:=List.length_pos_of_mem hw
  rw [hn];split <;> omega
 .rw [hn];split
  .rename_i h;exact .inr (.inr ⟨_,hm h.1,rfl⟩)
  .exact .inl rfl
 .rw [hn];split <;> omega
theorem Z8Z(tw:List Int):∀ (ws:List WEdit) (out:List Int),wsD tw ws out=mg 0 (fun w=> if mix 0 (tw.getD w.at_.toNat 0) w.mask=w.old then some (mix (tw.getD w.at_.toNat 0) w.new w.mask) else none) WEdit.at_ ws out
 | [],_=> rfl
 | w ::r,out=> by
  rw [wsD,mg]
  split
  .rw [Qe];exact Z8Z tw r _
  .try rfl
theorem Z63(r:Bool)(tk:List Tree):∀ (ks:List Kid) (out:List Tree),Je r tk ks out=mg Tree.nil (JS r tk) KidOf.at_ ks out
 | [],_=> by rw [Je];try rfl
 | k ::s,out=> by
  rw [Je,mg]
  congr 1
  funext u
  exact Z63 r tk s _
theorem Z0F:∀ {ws:List WEdit} {last:Int},Zp last ws=true->asc WEdit.at_ last ws
 | [],_,_=> trivial
 | w ::r,last,h=> by
  have h1:=YQ h w Q4
  simp only [Zp,Q1] at h
  exact ⟨h1.1,Z0F h.2⟩
theorem Z1r:∀ {ks:List Kid} {last d:Int},Zu last ks d=true->asc KidOf.at_ last ks
 | [],_,_,_=> trivial
 | k ::r,last,d,h=> by
  obtain ⟨h1,_,h3⟩:=Z7w h
  exact ⟨h1.1,Z1r h3⟩
end Go.AM.Ytfapacabjkhepaa
namespace Go.AM.Ytfapacabjkhepaa
open Go.AM Go.Proofs
theorem Z42{x y x' y':Int}(h:x+256*y=x'+256*y')(hx:0<=x/\x < 256)(hx':0<=x'/\x' < 256):x=x'/\y=y':=V0
theorem ZsL{f g:Nat->Int}(hf:∀ i,0<=f i/\f i < 256)(hg:∀ i,0<=g i/\g i < 256)(h:of8 f=of8 g):∀ i,i < 8->f i=g i:=by
 unfold of8 at h
 obtain ⟨h0,h⟩:=Z42 h (hf 0) (hg 0)
 obtain ⟨h1,h⟩:=Z42 h (hf 1) (hg 1)
 obtain ⟨h2,h⟩:=Z42 h (hf 2) (hg 2)
 obtain ⟨h3,h⟩:=Z42 h (hf 3) (hg 3)
 obtain ⟨h4,h⟩:=Z42 h (hf 4) (hg 4)
 obtain ⟨h5,h⟩:=Z42 h (hf 5) (hg 5)
 obtain ⟨h6,h7⟩:=Z42 h (hf 6) (hg 6)
 intro i hi
 match i,hi with
 | 0,_=> exact h0
 | 1,_=> exact h1
 | 2,_=> exact h2
 | 3,_=> exact h3
 | 4,_=> exact h4
 | 5,_=> exact h5
 | 6,_=> exact h6
 | 7,_=> exact h7
theorem Z9u{a:Int}(h:isW a):of8 (Zg a)=a:=by
 obtain ⟨h0,h1⟩:=h
 simp only [of8,Zg]
 omega
theorem Z2q{a b:Int}(ha:isW a)(hb:isW b)(h:∀ i,i < 8->Zg a i=Zg b i):a=b:=by
 rw [<-Z9u ha,<-Z9u hb]
 unfold of8
 rw [h 0 V0,h 1 V0,h 2 V0,h 3 V0,h 4 V0,h 5 V0,h 6 V0,h 7 V0]
theorem Z1o{a b m:Int}{i:Nat}(h:i < 8):Zg (mix a b m) i=YA a b m i:=
 ZsL (fun i=> Z0X _ i) (Z5m a b m) (by rw [Z9u (Z0S a b m)];rfl) i h
section
variable {α β:Type} {z:α} {f:β->Option α} {p:β->Int}
theorem Z2Y:∀ {ws:List β} {last:Int} {out r:List α},-1<=last->asc p last ws->mg z f p ws out=some r->
  (∀ w∈ws,∃ v,f w=some v/\r.getD (p w).toNat z=v)/\(∀ i:Nat,(∀ w∈ws,(p w).toNat≠i)->r.getD i z=out.getD i z)
 | [],_,out,r,_,_,h=> by
  rw [mg] at h;cases h
  exact ⟨fun w hw=> (by cases hw),fun _ _=> rfl⟩
 | w ::s,last,out,r,hl,ha,h=> by
  rw [mg] at h
  obtain ⟨v,hv,hr⟩:=Ql.1 h
  have h1:=ha.1
  obtain ⟨i1,i2⟩:=Z2Y V0 ha.2 hr
  have hn:∀ x∈s,(p x).toNat≠(p w).toNat:=fun x hx=> by have:=Zdn ha.2 x hx;omega
  refine ⟨fun x hx=> ?_,fun i hi=> ?_⟩
  .rcases Q6.1 hx with rfl | hx
   .refine ⟨v,hv,?_⟩
    rw [i2 _ hn,JV,if_pos rfl]
   .exact i1 x hx
  .rw [i2 i (fun x hx=> hi x (Q0 _ hx)),JV,if_neg (fun e=> hi w Q4 e.symm)]
end
theorem Z6O{list d:Int}:∀ {l:List Tree},Ya list l d=true->∀ t∈l,Z9 t d=true
 | [],_,_,ht=> by cases ht
 | a ::r,h,t,ht=> by
  simp only [Ya,Q1] at h
  rcases Q6.1 ht with rfl | ht
  .exact h.1.2
  .exact Z6O h.2 t ht
def RT_(t:Tree):Prop:=(∃ d,Z9 t d=true)/\rng t
theorem RT_.kids{t:Tree}(h:RT_ t):(∀ k∈t.kids,RT_ k)/\(t.kind≠0->t.kind≠1->t.kind≠10->t.words=[]):=by
 obtain ⟨⟨d,h⟩,hr⟩:=h
 obtain ⟨k,w,ks⟩:=t
 have hk:∀ x∈ks,rng x:=fun x hx=> Ja hr.2.2 hx
 show (∀ x∈ks,RT_ x)/\(k≠0->k≠1->k≠10->w=[])
 rw [Z9] at h
 split at h
 .simp only [decide_eq_true_eq] at h
  rw [Q3 h.2]
  exact ⟨fun x hx=> (by cases hx),fun h0=> absurd ‹_› h0⟩
 .split at h
  .simp only [decide_eq_true_eq] at h
   rw [Q3 h.2]
   exact ⟨fun x hx=> (by cases hx),fun _ _ h0=> absurd ‹_› h0⟩
  .split at h
   .cases h
   .split at h
    .simp only [Q1] at h
     exact ⟨fun x hx=> ⟨⟨_,Z6O h.2 x hx⟩,hk x hx⟩,fun _ h1=> absurd ‹_› h1⟩
    .simp only [Q1,decide_eq_true_eq] at h
     exact ⟨fun x hx=> ⟨⟨_,Z6O h.2 x hx⟩,hk x hx⟩,fun _ _ _=> Q3 h.1.2.2.1⟩
theorem ZxD:RT_ Tree.nil:=⟨⟨1,rfl⟩,JD⟩
theorem Z9Y{l:List Tree}(h:∀ t∈l,RT_ t)(i:Nat):RT_ (l.getD i Tree.nil):=by
 by_cases hi:i < l.length
 .exact h _ (Zh hi _)
 .rw [Qd,Qq V0];exact ZxD
theorem Zfk{t:Tree}(h:rng t):InR t.kind/\(∀ x∈t.words,isW x)/\Yg t.kids:=by obtain ⟨k,w,ks⟩:=t;exact h
theorem Z52{list:Int}{o:Op}{d:Int}(h:Zc list o d=true):o.kind=0\/o.kind=1\/o.kind=2\/o.kind=3:=by
 have r:=ZT h
 cases r with
 | keep=> exact .inl rfl
 | gone=> exact .inr (.inl rfl)
 | come=> exact .inr (.inr (.inl rfl))
 | into=> exact .inr (.inr (.inr rfl))
end Go.AM.Ytfapacabjkhepaa
namespace Go.AM.Ytfapacabjkhepaa
open Go.AM Go.Proofs
def Rx(x y:List Tree × List Tree):Prop:=EqvL x.1 y.1/\EqvL x.2 y.2
theorem Rx.rfl'(a:Option (List Tree × List Tree)):OptR Rx a a:=by cases a;exact trivial;exact ⟨rfl,rfl⟩
theorem Rx.of{a b:Option (List Tree × List Tree)}(h:a=b):OptR Rx a b:=by rw [h];exact Rx.rfl' b
theorem OptR.trans'{α:Type}{R:α->α->Prop}(ht:∀ x y z,R x y->R y z->R x z){a b c:Option α}(h1:OptR R a b)(h2:OptR R b c):OptR R a c:=by
 cases a <;> cases b <;> cases c <;> first | exact trivial | exact h1.elim | exact h2.elim | exact ht _ _ _ h1 h2
theorem Rx.trans{a b c:Option (List Tree × List Tree)}(h1:OptR Rx a b)(h2:OptR Rx b c):OptR Rx a c:=
 OptR.trans' (fun _ _ _ p q=> ⟨Eq.trans p.1 q.1,Eq.trans p.2 q.2⟩) h1 h2
theorem Z3P(r:Bool):∀ (a b:List Op) (rest out:List Tree),ZC r (a++b) rest out=(ZC r a rest out).bind fun x=> ZC r b x.2 x.1
 | [],b,rest,out=> by rw [ZC];try rfl
 | o ::s,b,rest,out=> by
  rw [Qw,ZC,ZC]
  cases h:Z0K r o rest out with
  | none=> rfl
  | some x=> rw [Qe,Qe];exact Z3P r s b _ _
theorem Z8O(r:Bool)(o:Op)(rest out:List Tree):ZC r [o] rest out=Z0K r o rest out:=by
 rw [ZC]
 cases Z0K r o rest out with
 | none=> rfl
 | some x=> rw [Qe,ZC]
theorem Z5H(r:Bool)(a:List Op)(o:Op)(rest out:List Tree):ZC r (a++[o]) rest out=(ZC r a rest out).bind fun x=> Z0K r o x.2 x.1:=by
 rw [Z3P]
 congr 1
 funext x
 exact Z8O r o _ _
theorem Z2M{r:Bool}:∀ {os:List Op} {rest out:List Tree} {x:List Tree × List Tree},ZC r os rest out=some x->∃ n,x.2=rest.drop n
 | [],rest,out,x,h=> by rw [ZC] at h;cases h;exact ⟨0,by simp⟩
 | o ::s,rest,out,x,h=> by
  rw [ZC] at h
  obtain ⟨y,hy,hx⟩:=Ql.1 h
  obtain ⟨n,hn⟩:=Z2M hx
  have:∃ m,y.2=rest.drop m:=by
   rw [Yx] at hy
   split at hy
   .split at hy
    .cases hy;exact ⟨_,rfl⟩
    .cases hy
   .split at hy
    .split at hy
     .cases hy;exact ⟨_,rfl⟩
     .cases hy
    .split at hy
     .cases hy;exact ⟨0,by simp⟩
     .split at hy
      .cases hy
      .obtain ⟨u,_,e⟩:=Qb.1 hy
       cases e
       exact ⟨1,rfl⟩
  obtain ⟨m,hm⟩:=this
  exact ⟨m+n,by rw [hn,hm,Xp]⟩
theorem ZmT(rest:List Tree):Jd [] rest=true:=by unfold Jd;rw [Z1f.2 (by simp)];simp
theorem ZhY(l rest:List Tree):Jd (Z7 l) rest=Jd l rest:=by
 unfold Jd
 rw [Zax,show (Z7 l).length=l.length by simp [Z7]]
theorem Z1a(l rest:List Tree):Jd l rest=true↔l.length<=rest.length/\Z7 l=Z7 (rest.take l.length):=by
 unfold Jd
 rw [Q1,decide_eq_true_eq,Z1f]
theorem ZmV(a b rest:List Tree):Jd (a++b) rest=(Jd a rest && Jd b (rest.drop a.length)):=by
 rw [Qk,Q1,Z1a,Z1a,Z1a]
 simp only [Qh,QI]
 constructor
 .rintro ⟨h1,h2⟩
  rw [Yj,List.take_add,Yj] at h2
  obtain ⟨h3,h4⟩:=Ke h2 (by simp [Z7];omega)
  exact ⟨⟨V0,h3⟩,V0,h4⟩
 .rintro ⟨⟨h1,h2⟩,h3,h4⟩
  refine ⟨V0,?_⟩
  rw [Yj,List.take_add,Yj,h2,h4]
theorem Z8L(s:Wst)(rest out:List Tree):ZC false (Z6 s).out rest out=(ZC false s.out rest out).bind fun x=> if Jd s.gone x.2=true then some (x.1++s.brought,x.2.drop s.gone.length) else none:=by
 simp only [Z6,Z0D]
 rw [Z3P]
 congr 1
 funext x
 rw [Z3P]
 have h1:ZC false (if s.gone.length=0 then [] else [⟨1,0,s.gone,Edit.nil⟩]) x.2 x.1=if Jd s.gone x.2=true then some (x.1,x.2.drop s.gone.length) else none:=by
  split
  .rename_i h
   rw [Q3 h,ZmT,if_pos rfl,ZC]
   try rfl
  .rw [Z8O,Yx]
   rw [if_neg (by show ¬(1:Int)=0;omega),if_pos rfl]
 have h2:∀ y:List Tree × List Tree,ZC false (if s.brought.length=0 then [] else [⟨2,0,s.brought,Edit.nil⟩]) y.2 y.1=some (y.1++s.brought,y.2):=by
  intro y
  split
  .rename_i h
   rw [Q3 h,Qp,ZC]
  .rw [Z8O,Yx]
   rw [if_neg (by show ¬(2:Int)=0;omega),if_neg (by show ¬(2:Int)=1;omega),if_pos rfl]
 rw [h1]
 split
 .rw [Qe,h2]
 .try rfl
theorem Zto{F:List Op}{n:Int}(hF:∀ o∈F,0<=o.n)(hn:0<=n)(rest out:List Tree):ZC false (Z1F F n) rest out=ZC false (F++[⟨0,n,[],Edit.nil⟩]) rest out:=by
 rcases Z04 F n with h | ⟨a,o,h1,h2,h3⟩
 .rw [h]
 .rw [h3,h1,Z5H,Z5H,Z5H]
  cases hx:ZC false a rest out with
  | none=> rfl
  | some x=>
   have ho:=hF o (by rw [h1];simp)
   simp only [Qe]
   rw [Yx,Yx,if_pos h2,if_pos h2]
   simp only
   have e:(o.n+n).toNat=o.n.toNat+n.toNat:=V0
   rw [e]
   by_cases c:o.n.toNat<=x.2.length
   .rw [if_pos c,Qe,Yx,if_pos rfl]
    simp only [QI]
    by_cases c2:n.toNat<=x.2.length - o.n.toNat
    .rw [if_pos c2,V1,Xp,Qa,<-List.take_add]
    .rw [if_neg c2,JI]
   .rw [if_neg c,JI]
    try rfl
def N0s(s:Wst):Prop:=∀ o∈s.out,0<=o.n
theorem N0s.flush{s:Wst}(h:N0s s):∀ o∈(Z6 s).out,0<=o.n:=by
 intro o ho
 simp only [Z6,Z0D,Qi] at ho
 rcases ho with ho | ho | ho
 .exact h o ho
 .split at ho
  .cases ho
  .simp only [Q9] at ho;subst ho;exact Xg 0
 .split at ho
  .cases ho
  .simp only [Q9] at ho;subst ho;exact Xg 0
theorem N0s.keep{s:Wst}(h:N0s s){n:Int}(hn:0<=n):N0s (ZX s n):=by
 intro o ho
 simp only [ZX] at ho
 rcases Z04 (Z6 s).out n with e | ⟨a,p,h1,h2,h3⟩
 .rw [e] at ho
  rcases Qi.1 ho with ho | ho
  .exact h.flush o ho
  .simp only [Q9] at ho;subst ho;exact hn
 .rw [h3] at ho
  rcases Qi.1 ho with ho | ho
  .exact h.flush o (by rw [h1];simp [ho])
  .simp only [Q9] at ho;subst ho
   have:=h.flush p (by rw [h1];simp)
   show 0<=p.n+n
   omega
theorem ZkK{list d:Int}{o:Op}(h:Zc list o d=true):0<=o.n:=by
 have r:=ZT h
 cases r with
 | keep n h1=> show 0<=n;omega
 | gone | come | into=> exact Xg 0
theorem N0s.op{list d:Int}{s:Wst}{o:Op}(h:N0s s)(hr:Zc list o d=true):N0s (Z1m list o s):=by
 rw [Z3l]
 split
 .exact h.keep (ZkK hr)
 .split
  .exact h
  .split
   .exact h
   .split
    .split
     .exact h.keep V0
     .intro p hp
      rcases Qi.1 hp with hp | hp
      .exact h.flush p hp
      .simp only [Q9] at hp;subst hp;exact Xg 0
    .exact h
def K9(list:Int)(l:List Tree):Prop:=(∀ t∈l,RT_ t)/\(list=9->∀ t∈l,t.kind=1)
theorem K9.drop{list:Int}{l:List Tree}(h:K9 list l)(n:Nat):K9 list (l.drop n):=⟨fun t ht=> h.1 t (QZ ht),fun e t ht=> h.2 e t (QZ ht)⟩
theorem ZkL{d:Int}:∀ {l:List Tree},Ya 9 l d=true->∀ t∈l,t.kind=1
 | [],_,t,ht=> by cases ht
 | a ::r,h,t,ht=> by
  simp only [Ya,Q1] at h
  rcases Q6.1 ht with rfl | ht
  .have:=h.1.1
   simpa [Z0r] using this
  .exact ZkL h.2 t ht
theorem RT_.k9{t:Tree}(h:RT_ t):K9 t.kind t.kids:=by
 refine ⟨h.kids.1,fun e=> ?_⟩
 obtain ⟨⟨d,h⟩,_⟩:=h
 obtain ⟨k,w,ks⟩:=t
 have e:k=9:=e
 subst e
 rw [Z9,JI,JI] at h
 split at h
 .cases h
 .rw [JI] at h
  simp only [Q1] at h
  exact ZkL h.2
theorem Zsy {list d:Int} {s:Wst} {o:Op} (hs:N0s s) (hr:Zc list o d=true) {rest:List Tree} (hk:K9 list rest) (out:List Tree)
  (ih:∀ y,RT_ y->Z0 o.e d=true->OptR Eqv (doE false (ZE o.e) y) (doE false o.e y)):
  OptR Rx (ZC false (Z6 (Z1m list o s)).out rest out) ((ZC false (Z6 s).out rest out).bind fun x=> Z0K false o x.2 x.1):=by
 have keep:∀ n:Int,0<=n->ZC false (Z6 (ZX s n)).out rest out=(ZC false (Z6 s).out rest out).bind fun x=> Z0K false ⟨0,n,[],Edit.nil⟩ x.2 x.1:=by
  intro n hn
  have e:(Z6 (ZX s n)).out=Z1F (Z6 s).out n:=by simp [Z6,Z0D,ZX]
  rw [e,Zto hs.flush hn,Z5H]
 rw [Z3l]
 have r1:=Z52 hr
 by_cases h0:o.kind=0
 .rw [if_pos h0,keep _ (ZkK hr)]
  refine Rx.of ?_
  congr 1
  funext x
  rw [Yx,Yx,if_pos rfl,if_pos h0]
 .rw [if_neg h0]
  by_cases h1:o.kind=1
  .rw [if_pos h1,Z8L,Z8L]
   refine Rx.of ?_
   rw [K4]
   congr 1
   funext x
   simp only
   rw [ZmV,ZhY]
   by_cases c:Jd s.gone x.2=true
   .rw [if_pos c,c,QH,Qe,Yx,if_neg h0,if_pos h1]
    simp only
    rw [Xp,show (s.gone++Z7 o.l).length=s.gone.length+o.l.length by simp [Z7]]
   .rw [if_neg c,if_neg (by simp only [Q1];exact fun h=> c h.1)]
    try rfl
  .rw [if_neg h1]
   by_cases h2:o.kind=2
   .rw [if_pos h2,Z8L,Z8L,K4]
    refine OptR.bind (R:=Eq) (OptR.rfl' _) ?_
    rintro x _ rfl
    simp only
    split
    .rw [Qe,Yx,if_neg h0,if_neg h1,if_pos h2]
     refine ⟨?_,rfl⟩
     show Z7 (x.1++(s.brought++Z7 o.l))=Z7 (x.1++s.brought++o.l)
     simp only [Yj,Zax,Qa]
    .exact trivial
   .have h3:o.kind=3:=by rcases r1 with h | h | h | h <;> first | exact absurd h h0 | exact absurd h h1 | exact absurd h h2 | exact h
    rw [if_neg h2,if_pos h3]
    have hre:=Jv hr h3
    have ra:=ZT hr
    by_cases hi:Z6r list (ZE o.e)=true
    .rw [if_pos hi,keep 1 V0]
     cases hx:ZC false (Z6 s).out rest out with
     | none=> exact trivial
     | some x=>
      obtain ⟨m,hm⟩:=Z2M hx
      have hk2:=hk.drop m
      rw [<-hm] at hk2
      simp only [Qe]
      rw [Yx,Yx,if_pos rfl,if_neg h0,if_neg h1,if_neg h2]
      cases hx2:x.2 with
      | nil=> exact trivial
      | cons y q=>
       rw [hx2] at hk2
       have hek:o.e.kind≠0:=by
        cases ra with
        | into e _ h=> exact h
        | keep | gone | come=> exact absurd h3 (by simp)
       simp only [Z6r,decide_eq_true_eq,Z3m] at hi
       rcases hi with hi | ⟨hl9,he2,hw,hks⟩
       .exact absurd hi hek
       .have hy:=hk2.2 hl9 y Q4
        have hn:=Z7U o.e
        rw [JI,if_pos he2] at hn
        have e1:o.e.words=[]:=by rw [hn] at hw;exact Q3 hw
        have e2:o.e.kids=[]:=by
         rw [hn] at hks
         have:(Z0p o.e.kids).length=0:=hks
         cases hh:o.e.kids with
         | nil=> rfl
         | cons a b=> rw [hh] at this;simp [Z0p] at this
        have hd:doE false o.e y=some (.mk 1 y.words y.kids):=by
         rw [JO,if_neg hek,JI,if_pos he2,if_pos hy,e1,e2,wsD,Qe,Je]
         try rfl
        rw [if_neg (show ¬(y ::q).length=0 by simp),Qt,hd,if_pos (show Int.toNat 1<=(y ::q).length by simp)]
        refine ⟨?_,rfl⟩
        show Z7 (x.1++[y])=Z7 (x.1++[Tree.mk 1 y.words y.kids])
        rw [show Tree.mk 1 y.words y.kids=y by rw [<-hy];exact Tree.eta y]
    .rw [if_neg hi]
     have e:(Z6 ⟨(Z6 s).out++[⟨3,0,[],ZE o.e⟩],[],[]⟩).out=(Z6 s).out++[⟨3,0,[],ZE o.e⟩]:=by simp [Z6,Z0D]
     rw [e,Z5H]
     cases hx:ZC false (Z6 s).out rest out with
     | none=> exact trivial
     | some x=>
      obtain ⟨m,hm⟩:=Z2M hx
      have hk2:=hk.drop m
      rw [<-hm] at hk2
      simp only [Qe]
      rw [Yx,Yx,if_neg h0,if_neg h1,if_neg h2,if_neg (by show ¬(3:Int)=0;omega),if_neg (by show ¬(3:Int)=1;omega),if_neg (by show ¬(3:Int)=2;omega)]
      refine OptR.ite Qz (fun _=> trivial) fun _=> ?_
      exact (ih _ (Z9Y hk2.1 0) hre).map fun u v h=> ⟨JF rfl (Jr.2 h),rfl⟩
mutual
theorem Z70:∀ (e:Edit) (d:Int) (t:Tree),Z0 e d=true->RT_ t->OptR Eqv (doE false (ZE e) t) (doE false e t)
 | .mk k o n w ks l os,d,t,hr,ht=> by
  have ri:=Zs hr
  have h1:=Zhr ks
  have h2:=Zhq l os
  have hkid:=ht.kids.1
  have hn:ZE (.mk k o n w ks l os)=if k=1 then .mk k (Z1 o) (Z1 n) [] [] l [] else if k=2 then .mk k Tree.nil Tree.nil w (Z0p ks) l [] else if k=3 then .mk k Tree.nil Tree.nil [] [] l (Z6 (YS l os ⟨[],[],[]⟩)).out else .mk k Tree.nil Tree.nil [] [] l []:=by rw [ZE]
  rw [Z2N,Z2N,Ye,Ye]
  by_cases c1:k=1
  .subst c1
   rw [if_pos rfl] at hn
   unfold Z7D
   rw [hn]
   refine OptR.ite Qz (fun _=> rfl) fun _=> OptR.ite Qz (fun _=> ?_) (fun h=> absurd rfl h)
   show OptR Eqv (if Yp (Z1 (Z1 o)) (Z1 t)=true then some (Z1 n) else none) (if Yp (Z1 o) (Z1 t)=true then some n else none)
   rw [ZZ]
   exact OptR.ite Qz (fun _=> ZZ n) (fun _=> trivial)
  .by_cases c2:k=2
   .subst c2
    rw [if_neg c1,if_pos rfl] at hn
    unfold Z7D
    rw [hn]
    refine OptR.ite Qz (fun _=> rfl) fun _=> OptR.ite Qz (fun h=> absurd h c1) fun _=> OptR.ite Qz (fun _=> ?_) (fun h=> absurd rfl h)
    refine OptR.ite Qz (fun ht1=> ?_) (fun _=> trivial)
    refine OptR.bind (R:=Eq) (OptR.rfl' _) ?_
    rintro a _ rfl
    exact (h1 (d - 1) t.kids t.kids t.kids (fun k hk=> (ZP ri.kids k hk).2) hkid rfl).map fun x y h=> Z2d _ _ h
   .by_cases c3:k=3
    .subst c3
     rw [if_neg c1,if_neg c2,if_pos rfl] at hn
     unfold Z7D
     rw [hn]
     refine OptR.ite Qz (fun _=> rfl) fun _=> OptR.ite Qz (fun h=> absurd h c1) fun _=> OptR.ite Qz (fun h=> absurd h c2) fun _=> OptR.ite Qz (fun _=> ?_) (fun h=> absurd rfl h)
     refine OptR.ite Qz (fun ht1=> ?_) (fun _=> trivial)
     have hk9:=ht.k9
     rw [ht1] at hk9
     have:=h2 (d - 1) ⟨[],[],[]⟩ t.kids [] (fun o ho=> Go.AM.rightOs_mem ri.ops o ho) (fun o ho=> by cases ho) hk9
     exact (Zd6 this).map fun x y h=> Z2d _ _ h
    .have e0:k=0:=by have:=ri.kind;have:0<=k/\k<=3:=this;omega
     subst e0
     rw [if_neg c1,if_neg c2,if_neg c3] at hn
     unfold Z7D
     rw [hn]
     exact OptR.ite Qz (fun _=> rfl) fun h=> absurd rfl h
theorem Zhr:∀ (ks:List (KidOf Edit)) (d:Int) (tk a b:List Tree),(∀ k∈ks,Z0 k.e d=true)->(∀ t∈tk,RT_ t)->EqvL a b->OptR EqvL (Je false tk (Z0p ks) a) (Je false tk ks b)
 | [],d,tk,a,b,_,_,h=> by rw [Z0p];exact h
 | k ::r,d,tk,a,b,hr,ht,h=> by
  rw [Z0p,Je,Je]
  have e:(Z2c k).at_=k.at_:=by cases k;rfl
  rw [e]
  refine (Zmq k d tk (hr k Q4) ht).bind fun x y hxy=> Zhr r d tk _ _ (fun q hq=> hr q (Q0 _ hq)) ht (Zew h hxy)
theorem Zmq:∀ (k:KidOf Edit) (d:Int) (tk:List Tree),Z0 k.e d=true->(∀ t∈tk,RT_ t)->OptR Eqv (JS false tk (Z2c k)) (JS false tk k)
 | ⟨a,e⟩,d,tk,hr,ht=> by rw [Z2c,JS,JS];exact Z70 e d _ hr (Z9Y ht _)
theorem Zhq(list:Int):∀ (os:List (OpOf Edit)) (d:Int) (s:Wst) (rest out:List Tree),(∀ o∈os,Zc list o d=true)->N0s s->K9 list rest->OptR Rx (ZC false (Z6 (YS list os s)).out rest out) (ZC false ((Z6 s).out++os) rest out)
 | [],d,s,rest,out,_,_,_=> by rw [YS,Qp];exact Rx.rfl' _
 | o ::r,d,s,rest,out,hr,hs,hk=> by
  have ho:=hr o Q4
  have st:=Zsy hs ho hk out (ZoD o d)
  rw [YS]
  refine Rx.trans (Zhq list r d _ rest out (fun q hq=> hr q (Q0 _ hq)) (hs.op ho) hk) ?_
  rw [Z3P,Z3P]
  have e:∀ x:List Tree × List Tree,ZC false (o ::r) x.2 x.1=(Z0K false o x.2 x.1).bind fun y=> ZC false r y.2 y.1:=fun x=> by rw [ZC]
  rw [show (fun x:List Tree × List Tree=> ZC false (o ::r) x.2 x.1)=fun x=> (Z0K false o x.2 x.1).bind fun y=> ZC false r y.2 y.1 from funext e,<-K4]
  exact st.bind fun x y hxy=> Zd9 r _ _ _ _ hxy.2 hxy.1 (fun q hq=> ⟨_,_,hr q (Q0 _ hq)⟩)
theorem ZoD:∀ (o:OpOf Edit) (d:Int),∀ y,RT_ y->Z0 o.e d=true->OptR Eqv (doE false (ZE o.e) y) (doE false o.e y)
 | ⟨_,_,_,e⟩,d,y,hy,hr=> Z70 e d y hr hy
end
end Go.AM.Ytfapacabjkhepaa
