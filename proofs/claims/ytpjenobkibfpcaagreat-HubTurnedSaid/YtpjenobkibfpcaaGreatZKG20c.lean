import Derived.Test.YtpjenobkibfpcaaGreatZKL07
import Derived.Test.YtpjenobkibfpcaaGreatZKL22
set_option linter.unusedSimpArgs false
set_option linter.unusedVariables false
namespace Go.AM
theorem Z8T{t:Tree}(h:Ye t=true):t=Tree.nil:=by
 obtain ⟨k,w,ks⟩:=t
 simp only [Ye,decide_eq_true_eq] at h
 obtain ⟨d,u,s⟩:=h
 have d:k=0:=d
 rw [d,Q6 (l:=w) u,Q6 (l:=ks) s]
 try rfl
theorem ZiZ{e:Edit}(h:Z0U e=true):e=Edit.nil:=by
 obtain ⟨k,o,n,w,ks,l,os⟩:=e
 simp only [Z0U,Q4,decide_eq_true_eq] at h
 obtain ⟨⟨⟨d,h2⟩,u⟩,h4,h5,h6,s⟩:=h
 have d:k=0:=d
 have s:l=0:=s
 rw [d,s,Z8T (t:=o) h2,Z8T (t:=n) u,Q6 (l:=w) h4,Q6 (l:=ks) h5,Q6 (l:=os) h6]
 try rfl
structure RightE (e:Edit) (d:Int):Prop where
 d0:d≠0
 kind:0<=e.kind/\e.kind<=3
 none:e.kind≠1->e.old=Tree.nil/\e.new=Tree.nil
 words0:e.kind≠2->e.words=[]/\e.kids=[]
 ops0:e.kind≠3->e.list=0/\e.ops=[]
 rep:e.kind=1->Zb e.old (dT d)=true/\Zb e.new (dT d)=true/\e.old.kind≠10/\e.new.kind≠10
 words:ZK (-1) e.words=true
 kids:Zw (-1) e.kids (d - 1)=true
 list:e.kind=3->2<=e.list/\e.list<=9
 ops:Zz e.list e.ops (d - 1)=true
 len:Z0Q e.ops 0 < 1048576/\Z0P e.ops 0 < 1048576
theorem Zn{e:Edit}{d:Int}(h:Z5 e d=true):RightE e d:=by
 obtain ⟨k,o,n,w,ks,l,os⟩:=e
 rw [Z5] at h
 split at h
 .cases h
 .rename_i a
  split at h
  .cases h
  .rename_i b
   have b1:k≠1->o=Tree.nil/\n=Tree.nil:=by
    intro s
    by_cases x:Ye o=true/\Ye n=true
    .exact ⟨Z8T x.1,Z8T x.2⟩
    .grind
   have b2:k≠2->w=[]/\ks=[]:=by
    intro s
    by_cases x:w.length=0/\ks.length=0
    .exact ⟨Q6 x.1,Q6 x.2⟩
    .exact absurd (.inr (.inl ⟨s,x⟩)) b
   have u:k≠3->l=0/\os=[]:=by
    intro s
    by_cases x:l≠0\/os.length≠0
    .exact absurd (.inr (.inr ⟨s,x⟩)) b
    .exact ⟨V0,Q6 V0⟩
   split at h
   .rename_i c
    simp only [Q4,decide_eq_true_eq] at h
    obtain ⟨⟨h1,h2⟩,h3,h4⟩:=h
    have c2:=b2 V0
    have c3:=u V0
    obtain ⟨rfl,rfl⟩:=c2
    obtain ⟨rfl,rfl⟩:=c3
    exact ⟨V0,⟨by simp_all,by simp_all⟩,b1,b2,u,fun _=> ⟨h1,h2,h3,h4⟩,rfl,rfl,fun e=> by simp_all,rfl,by show Z0Q [] 0 < _/\Z0P [] 0 < _;trivial⟩
   .rename_i c
    simp only [Q4,decide_eq_true_eq] at h
    obtain ⟨⟨⟨⟨h1,h2⟩,h3⟩,h4⟩,h5⟩:=h
    exact ⟨V0,⟨by simp_all,by simp_all⟩,b1,b2,u,fun e=> absurd e c,h1,h2,fun e=> by simp_all,h4,h5⟩
theorem Zv:∀ {ks:List Kid} {last d:Int},Zw last ks d=true->∀ k∈ks,(last < k.at_/\k.at_<=65534/\k.e.kind≠0)/\Z5 k.e d=true
 | [],_,_,_,_,hk=> by cases hk
 | ⟨a,e⟩ ::r,last,d,h,k,hk=> by
  simp only [Zw,JD,Q4,decide_eq_true_eq] at h
  obtain ⟨⟨h1,u⟩,s⟩:=h
  rcases Q9.1 hk with rfl | hk
  .grind
  .have:=Zv s k hk
   grind
theorem rightOs_mem{list:Int}:∀ {os:List Op} {d:Int},Zz list os d=true->∀ o∈os,Zg list o d=true
 | [],_,_,_,ho=> by cases ho
 | a ::r,d,h,o,ho=> by
  simp only [Zz,Q4] at h
  rcases Q9.1 ho with rfl | ho
  .exact h.1
  .exact rightOs_mem h.2 o ho
theorem Z0k:∀ {ws:List WEdit} {last:Int},ZK last ws=true->∀ w∈ws,last < w.at_/\w.at_<=65534/\w.mask≠0/\Yf w.old w.mask=true/\Yf w.new w.mask=true
 | [],_,_,_,hw=> by cases hw
 | a ::r,last,h,w,hw=> by
  simp only [ZK,Q4,decide_eq_true_eq] at h
  obtain ⟨⟨⟨h1,s⟩,u⟩,d⟩:=h
  rcases Q9.1 hw with rfl | hw
  .grind
  .have:=Z0k d w hw
   grind
inductive RightOp (list:Int) (d:Int):Op->Prop
 | keep (n:Int):1<=n->n<=1048576->RightOp list d ⟨0,n,[],Edit.nil⟩
 | gone (l:List Tree):Y9 (dT d) list l=true->0 < l.length->RightOp list d ⟨1,0,l,Edit.nil⟩
 | come (l:List Tree):Y9 (dT d) list l=true->0 < l.length->RightOp list d ⟨2,0,l,Edit.nil⟩
 | into (e:Edit):Z5 e d=true->e.kind≠0->7 < list->(list=8\/e.kind=2\/e.kind=1/\e.old.kind=1/\e.new.kind=1)->RightOp list d ⟨3,0,[],e⟩
theorem ZS{list:Int}{o:Op}{d:Int}(h:Zg list o d=true):RightOp list d o:=by
 obtain ⟨k,n,l,e⟩:=o
 rw [Zg] at h
 split at h
 .rename_i hk
  simp only [Q4,decide_eq_true_eq] at h
  obtain ⟨⟨h1,h2,s⟩,u⟩:=h
  rw [hk,ZiZ u,Q6 s]
  exact .keep n h1 h2
 .rename_i h0
  split at h
  .cases h
  .rename_i h1
   have hn:n=0:=V0
   subst hn
   split at h
   .rename_i h2
    simp only [Q4,decide_eq_true_eq] at h
    obtain ⟨⟨s,u⟩,h5⟩:=h
    rw [ZiZ h5]
    by_cases hk:k=1
    .rw [hk];exact .gone l s u
    .rw [show k=2 by omega];exact .come l s u
   .rename_i h2
    simp only [Q4,decide_eq_true_eq] at h
    obtain ⟨⟨⟨s,u,h5⟩,h6⟩,h7⟩:=h
    rw [show k=3 by omega,Q6 s]
    exact .into e h6 u h5 h7
theorem ZkX{e:Edit}{d:Int}(h:Z5 e d=true):(∀ k∈e.kids,∃ d,Z5 k.e d=true)/\(∀ o∈e.ops,∃ l d,Zg l o d=true)/\(e.kind=3->2<=e.list/\e.list<=9):=by
 have r:=Zn h
 exact ⟨fun k s=> ⟨_,(Zv r.kids k s).2⟩,fun o u=> ⟨_,_,rightOs_mem r.ops o u⟩,r.list⟩
theorem J4{l d:Int}{o:Op}(h:Zg l o d=true)(hk:o.kind=3):Z5 o.e d=true:=by
 have r:=ZS h
 cases r with
 | into e h1=> exact h1
 | keep | gone | come=> grind
end Go.AM
namespace Go.AM.YtpjenobkibfpcaaGreat
open Go.AM Go.Proofs
theorem Z6Y{α:Type}(z:α)(l:List α)(i:Nat)(x:α):(Yk z l i x).length=max l.length (i+1):=by
 simp only [Yk,List.length_set,Qb,Xe];omega
theorem JB{α:Type}(z:α)(l:List α)(i:Nat)(x:α)(j:Nat):(Yk z l i x).getD j z=if j=i then x else l.getD j z:=by
 simp only [Yk,Qz,Kb,Qb,Xe]
 grind
theorem ZkU{α β:Type}(f:α->β)(z:α)(l:List α)(i:Nat)(x:α):(Yk z l i x).map f=Yk (f z) (l.map f) i (f x):=by
 simp [Yk,List.map_set]
theorem Z3l:∀ l:List Tree,Yd l=Z8 l
 | []=> rfl
 | t ::r=> by simp [Yd,Z8,Z3l r]
theorem Zeh(l:List Tree)(i:Nat)(x:Tree):Z8 (Yk Tree.nil l i x)=Yk Tree.nil (Z8 l) i (Z3 x):=by
 rw [Z8,ZkU,ZfZ];try rfl
theorem Zqm{a b:List Tree}{i:Nat}{x y:Tree}(h:Z8 a=Z8 b)(hx:Z3 x=Z3 y):Z8 (Yk Tree.nil a i x)=Z8 (Yk Tree.nil b i y):=by
 rw [Zeh,Zeh,h,hx]
theorem Z25{a b c d:List Tree}(h:Z8 a=Z8 b)(hx:Z8 c=Z8 d):Z8 (a++c)=Z8 (b++d):=by
 rw [Yj,Yj,h,hx]
theorem Zei(k:Int)(w:List Int){a b:List Tree}(h:Z8 a=Z8 b):Z3 (.mk k w a)=Z3 (.mk k w b):=by
 simp only [Z3,Z3l,h]
theorem Z3k{a b:List Tree}(h:Z8 a=Z8 b):a.length=b.length:=by
 have:=congrArg List.length h
 simpa [Z8] using this
theorem Zae{a b:Tree}:Z8 [a]=Z8 [b]↔Z3 a=Z3 b:=by simp [Z8]
def OptR{α β:Type}(R:α->β->Prop):Option α->Option β->Prop
 | none,none=> True
 | some a,some b=> R a b
 | _,_=> False
theorem OptR.rfl'{α:Type}(a:Option α):OptR Eq a a:=by cases a;exact trivial;exact rfl
theorem OptR.bind{α β γ δ:Type}{R:α->β->Prop}{S:γ->δ->Prop}{a:Option α}{b:Option β}{f:α->Option γ}{g:β->Option δ}(h:OptR R a b)(hf:∀ x y,R x y->OptR S (f x) (g y)):OptR S (a.bind f) (b.bind g):=by
 cases a <;> cases b <;> first | exact trivial | exact h.elim | exact hf _ _ h
theorem OptR.map{α β γ δ:Type}{R:α->β->Prop}{S:γ->δ->Prop}{a:Option α}{b:Option β}{f:α->γ}{g:β->δ}(h:OptR R a b)(hf:∀ x y,R x y->S (f x) (g y)):OptR S (a.map f) (b.map g):=by
 cases a <;> cases b <;> first | exact trivial | exact h.elim | exact hf _ _ h
theorem OptR.ite{α β:Type}{R:α->β->Prop}{p q:Prop} [Decidable p] [Decidable q] {a c:Option α}{b d:Option β}(h:p↔q)(h1:p->OptR R a b)(h2:¬p->OptR R c d):OptR R (if p then a else c) (if q then b else d):=by
 grind
theorem OptR.isSome{α β:Type}{R:α->β->Prop}{a:Option α}{b:Option β}(h:OptR R a b):a.isSome=b.isSome:=by
 cases a <;> cases b <;> first | rfl | exact h.elim
def Eqv(x y:Tree):Prop:=Z3 x=Z3 y
def EqvL(x y:List Tree):Prop:=Z8 x=Z8 y
theorem EqvL.take{x y:List Tree}(h:EqvL x y)(n:Nat):EqvL (x.take n) (y.take n):=by unfold EqvL Z8 at*;simp_all
theorem EqvL.drop{x y:List Tree}(h:EqvL x y)(n:Nat):EqvL (x.drop n) (y.drop n):=by unfold EqvL Z8 at*;simp_all
theorem EqvL.len{x y:List Tree}(h:EqvL x y):x.length=y.length:=Z3k h
theorem Zeg(l:List Tree)(i:Nat):(Z8 l).getD i Tree.nil=Z3 (l.getD i Tree.nil):=by rw [<-Z3l];exact Z0c l i
theorem EqvL.get{x y:List Tree}(h:EqvL x y)(i:Nat):Eqv (x.getD i Tree.nil) (y.getD i Tree.nil):=by
 unfold Eqv;rw [<-Zeg,<-Zeg,h]
theorem Zkl{a b:Option (List Tree × List Tree)}(h:OptR (fun x y=> EqvL x.1 y.1/\EqvL x.2 y.2) a b):OptR EqvL (Z3B a) (Z3B b):=by
 unfold Z3B
 refine h.bind fun x y d=> ?_
 exact OptR.ite (by rw [d.2.len]) (fun _=> d.1) (fun _=> trivial)
def Zwa(a b:List Int):Prop:=∀ i:Nat,a.getD i 0=b.getD i 0
def Zrg(a b:List Tree):Prop:=∀ i:Nat,Eqv (a.getD i Tree.nil) (b.getD i Tree.nil)
theorem Z7P{a b:Tree}(ha:a.kind=1)(hb:b.kind=1):Eqv a b↔Zwa a.words b.words/\Zrg a.kids b.kids:=by
 unfold Eqv Zwa Zrg
 rw [YF,ha,hb]
 simp [Eqv]
theorem Zkk{a b:Tree}(h0:a.kind≠0)(h1:a.kind≠1):Eqv a b↔a.kind=b.kind/\a.words=b.words/\EqvL a.kids b.kids:=by
 unfold Eqv EqvL
 rw [YF,if_neg h1,<-Z3l,<-Z3l,Z8S]
 grind
theorem Eqv.kind{a b:Tree}(h:Eqv a b):a.kind=b.kind:=((YF a b).1 h).1
theorem Zmw{tw tv:List Int}(h:Zwa tw tv):∀ (ws:List WEdit) (a b:List Int),Zwa a b->OptR Zwa (wsD tw ws a) (wsD tv ws b)
 | [],_,_,hab=> hab
 | w ::r,a,b,hab=> by
  rw [wsD,wsD,h w.at_.toNat]
  refine OptR.ite QJ (fun _=> Zmw h r _ _ fun i=> ?_) (fun _=> trivial)
  rw [JB,JB]
  split
  .try rfl
  .exact hab i
theorem ZqJ(l:List Tree){a b:List Tree}(h:EqvL a b):Jw l a=Jw l b:=by
 unfold Jw
 rw [h.len,show Z8 (a.take l.length)=Z8 (b.take l.length) from h.take _]
mutual
theorem Z6G:∀ (e:Edit) (d:Int) (t s:Tree),Z5 e d=true->Eqv t s->OptR Eqv (doE false e t) (doE false e s)
 | .mk k o n w ks l os,d,t,s,hr,h=> by
  have h1:=Zkr ks t.kids s.kids
  have h2:=ZeQ os t.kids s.kids [] []
  have hk:=h.kind
  have ab:=ZkX hr
  rw [Z0I,Z0I,YL,YL]
  show OptR Eqv (if k=0 then _ else _) (if k=0 then _ else _)
  refine OptR.ite QJ (fun _=> h) fun _=> OptR.ite QJ (fun _=> ?_) fun _=> OptR.ite QJ (fun k2=> ?_) fun _=> OptR.ite QJ (fun k3=> ?_) (fun _=> trivial)
  .rw [show Z3 t=Z3 s from h]
   exact OptR.ite QJ (fun _=> rfl) (fun _=> trivial)
  .refine OptR.ite (by rw [hk]) (fun ht=> ?_) (fun _=> trivial)
   have hs:s.kind=1:=by rw [<-hk];exact ht
   obtain ⟨hw,u⟩:=(Z7P ht hs).1 h
   refine (Zmw hw w t.words s.words hw).bind fun a b ai=> ?_
   refine (h1 u ab.1 t.kids s.kids u).map fun x y aa=> ?_
   exact (Z7P rfl rfl).2 ⟨ai,aa⟩
  .refine OptR.ite (by rw [hk]) (fun ht=> ?_) (fun _=> trivial)
   have hl:=ab.2.2
   have af:=ab.2.1
   replace ht:t.kind=l:=ht
   replace hl:2<=l/\l<=9:=hl k3
   obtain ⟨_,_,u⟩:=(Zkk V0 V0).1 h
   exact (Zkl (h2 u rfl af)).map fun x y aa=> Zei _ _ aa
theorem Zkr:∀ (ks:List (KidOf Edit)) (tk sk:List Tree),Zrg tk sk->(∀ k∈ks,∃ d,Z5 k.e d=true)->∀ a b,Zrg a b->OptR Zrg (JQ false tk ks a) (JQ false sk ks b)
 | [],_,_,_,_,_,_,hab=> hab
 | k ::r,tk,sk,h,hr,a,b,hab=> by
  rw [JQ,JQ]
  obtain ⟨d,hd⟩:=hr k Q8
  refine (ZqS k d tk sk h hd).bind fun x y s=> Zkr r tk sk h (fun q u=> hr q (Q7 _ u)) _ _ fun i=> ?_
  rw [JB,JB]
  split
  .exact s
  .exact hab i
theorem ZqS:∀ (k:KidOf Edit) (d:Int) (tk sk:List Tree),Zrg tk sk->Z5 k.e d=true->OptR Eqv (Z2A false tk k) (Z2A false sk k)
 | ⟨a,e⟩,d,tk,sk,h,hr=> by rw [Z2A,Z2A];exact Z6G e d _ _ hr (h _)
theorem ZeQ:∀ (os:List (OpOf Edit)) (rt rs a b:List Tree),EqvL rt rs->EqvL a b->(∀ o∈os,∃ l d,Zg l o d=true)->OptR (fun x y=> EqvL x.1 y.1/\EqvL x.2 y.2) (ZL false os rt a) (ZL false os rs b)
 | [],_,_,_,_,h,hab,_=> ⟨hab,h⟩
 | o ::r,rt,rs,a,b,h,hab,hr=> by
  rw [ZL,ZL]
  refine (Zvq o rt rs a b h hab (hr o Q8)).bind fun x y s=> ZeQ r _ _ _ _ s.2 s.1 (fun q u=> hr q (Q7 _ u))
theorem Zvq:∀ (o:OpOf Edit) (rt rs a b:List Tree),EqvL rt rs->EqvL a b->(∃ l d,Zg l o d=true)->OptR (fun x y=> EqvL x.1 y.1/\EqvL x.2 y.2) (Z4h false o rt a) (Z4h false o rs b)
 | ⟨k,n,l,e⟩,rt,rs,a,b,h,hab,u=> by
  obtain ⟨li,d,u⟩:=u
  have he:=fun h3=> Z6G e d (rt.getD 0 Tree.nil) (rs.getD 0 Tree.nil) (J4 u h3) (h.get 0)
  have s:=h.len
  rw [Z4h,Z4h]
  refine OptR.ite QJ (fun _=> OptR.ite (by rw [s]) (fun _=> ⟨Z25 hab (h.take _),h.drop _⟩) (fun _=> trivial)) fun k0=> OptR.ite QJ (fun _=> ?_) fun k1=> OptR.ite QJ (fun _=> ⟨Z25 hab rfl,h⟩) fun k2=> OptR.ite (by rw [s]) (fun _=> trivial) fun _=> ?_
  .rw [ZqJ l h]
   exact OptR.ite QJ (fun _=> ⟨hab,h.drop _⟩) (fun _=> trivial)
  .have af:k=0\/k=1\/k=2\/k=3:=by
    have r:=ZS u
    generalize ho:OpOf.mk k n l e=o at r
    cases r <;> (injection ho with h1;subst h1;decide)
   exact (he (by grind)).map fun x y h'=> ⟨Z25 hab (Zae.2 h'),h.drop _⟩
end
theorem ZjQ{α β:Type}{f:α->β}(d:α){a b:List α}(hl:a.length=b.length)(h:∀ i:Nat,i < a.length->f (a.getD i d)=f (b.getD i d)):a.map f=b.map f:=by
 apply List.ext_getElem (by simpa using hl)
 grind
theorem Zkd{α β:Type}{f:α->β}{d:α}{a b:List α}(h:a.map f=b.map f)(i:Nat):f (a.getD i d)=f (b.getD i d):=by
 have e:=congrArg (fun l=> l[i]?.getD (f d)) h
 grind
theorem Z3s(t:Tree):(Z3 t).kind=t.kind:=by
 obtain ⟨k,w,ks⟩:=t
 simp only [Z3]
 by_cases h0:k=0
 .rw [if_pos h0,h0];try rfl
 .rw [if_neg h0]
  by_cases h1:k=1
  .rw [if_pos h1,h1];try rfl
  .rw [if_neg h1];try rfl
theorem ZcG:∀ (l:List Int),∃ r,l=trim l++r
 | []=> ⟨[],rfl⟩
 | x ::r=> by
  obtain ⟨s,d⟩:=ZcG r
  simp only [trim]
  split
  .rename_i e
   split
   .exact ⟨x ::r,rfl⟩
   .exact ⟨r,rfl⟩
  .rename_i y t e
   rw [e] at d
   exact ⟨s,by rw [d];rfl⟩
theorem Z9L:∀ (l:List Tree),∃ r,l=Y3 l++r
 | []=> ⟨[],rfl⟩
 | x ::r=> by
  obtain ⟨s,d⟩:=Z9L r
  simp only [Y3]
  split
  .rename_i e
   split
   .exact ⟨x ::r,rfl⟩
   .exact ⟨r,rfl⟩
  .rename_i y t e
   rw [e] at d
   exact ⟨s,by rw [d];rfl⟩
theorem Zdu{list d:Int}:∀ (a b:List Tree),Y2 list (a++b) d=true->Y2 list a d=true
 | [],_,_=> rfl
 | t ::r,b,h=> by
  simp only [Qw,Y2,Q4] at h ⊢
  exact ⟨h.1,Zdu r b h.2⟩
theorem Z1S:∀ (l:List Tree),(Yd l).length=l.length
 | []=> rfl
 | t ::r=> by simp only [Yd,Qs,Z1S r]
theorem ZqD{list:Int}{t:Tree}(h:Z1x list t=true):Z1x list (Z3 t)=true:=by
 unfold Z1x at h ⊢
 rw [Z3s]
 split at h
 .rename_i hl
  rw [if_pos hl]
  simp only [Q4,decide_eq_true_eq] at h ⊢
  obtain ⟨⟨d,s,u⟩,h4⟩:=h
  obtain ⟨k,w,ks⟩:=t
  simp only [Tree.kind_mk,Tree.kids_mk,Tree.words_mk] at d s u h4
  have:ks=[]:=Qq.1 s
  subst this
  subst d
  trivial
 grind
mutual
theorem Z2P:∀ (t:Tree) (d:Int),Zb t d=true->Zb (Z3 t) d=true
 | .mk k w ks,d,h=> by
  have ih:=fun (list:Int) (h:Y2 list ks (d - 1)=true)=> Z4V ks list (d - 1) h
  simp only [Zb] at h
  simp only [Z3]
  by_cases h0:k=0
  .rw [if_pos h0];try rfl
  .rw [if_neg h0] at h ⊢
   by_cases h10:k=10
   .subst h10
    rw [if_pos rfl] at h
    rw [if_neg V3]
    simp only [decide_eq_true_eq] at h
    simp only [Zb]
    rw [if_neg V3,if_pos trivial,Z1S]
    simpa using h
   .rw [if_neg h10] at h
    by_cases hd:d=0
    .grind
    .rw [if_neg hd] at h
     by_cases h1:k=1
     .subst h1
      rw [if_pos rfl] at h
      rw [if_pos rfl]
      simp only [Q4,decide_eq_true_eq] at h
      simp only [Zb]
      rw [if_neg V3,if_neg V3,if_neg hd,if_pos trivial]
      simp only [Q4,decide_eq_true_eq]
      obtain ⟨r1,e1⟩:=ZcG w
      obtain ⟨r2,e2⟩:=Z9L (Yd ks)
      have u:=congrArg List.length e1
      have s:=congrArg List.length e2
      rw [Z1S] at s
      simp only [Qb] at u s
      refine ⟨⟨V0,V0⟩,?_⟩
      have:=ih 1 h.2
      rw [e2] at this
      exact Zdu _ _ this
     .rw [if_neg h1] at h ⊢
      simp only [Q4,decide_eq_true_eq] at h
      simp only [Zb]
      rw [if_neg h0,if_neg h10,if_neg hd,if_neg h1,Z1S]
      grind
theorem Z4V:∀ (l:List Tree) (list d:Int),Y2 list l d=true->Y2 list (Yd l) d=true
 | [],_,_,_=> rfl
 | t ::r,list,d,h=> by
  simp only [Y2,Q4] at h
  have u:=Z2P t d h.1.2
  have s:=Z4V r list d h.2
  simp only [Yd,Y2,Q4]
  exact ⟨⟨ZqD h.1.1,u⟩,s⟩
end
theorem Zaj:∀ (a b:List Tree),Zd (a++b)=Zd a+Zd b
 | [],b=> by simp [Zd]
 | t ::r,b=> by simp only [Qw,Zd,Zaj r b];omega
theorem Z0e:∀ (a b:List Op),Zl (a++b)=Zl a+Zl b
 | [],b=> by simp [Zl]
 | t ::r,b=> by simp only [Qw,Zl,Z0e r b];omega
theorem Z5g:∀ (l:List Tree),Zd (Z8 l)<=Zd l
 | []=> by trivial
 | t ::r=> by
  have h:=Z5g r
  have d:=Yx t
  simp only [Z8] at h
  simp only [Z8,Xk,Zd]
  omega
theorem Z64:Za Edit.nil=3:=by rfl
theorem Z27:Zj Tree.nil=1:=by rfl
theorem Z63(t:Tree):1<=Zj t:=by cases t;simp only [Zj];omega
theorem Zbe:∀ (e:Edit),3<=Za e
 | .mk k o n w ks l os=> by
  have h:=Z63 o
  have d:=Z63 n
  simp only [Za];omega
def Z7A(w:Wst):Nat:=Zl w.out+w.out.length+Zd w.gone+Zd w.brought+(if w.gone.length=0 then 0 else 4)+(if w.brought.length=0 then 0 else 4)
theorem Z0d(o:Op):Zl [o]=Zy o:=by rfl
theorem Z28(k n:Int)(l:List Tree)(e:Edit):Zy (OpOf.mk k n l e)=Zd l+Za e:=rfl
theorem Za6(w:Wst):Zl (Z9 w).out+(Z9 w).out.length=Z7A w:=by
 simp only [Z9,Jo,Z7A]
 rw [Z0e,Z0e,Qb,Qb]
 by_cases hg:w.gone.length=0
 .have e:w.gone=[]:=Qq.1 hg
  rw [if_pos hg,if_pos hg,e]
  by_cases hb:w.brought.length=0
  .have e2:w.brought=[]:=Qq.1 hb
   rw [if_pos hb,if_pos hb,e2];try rfl
  .rw [if_neg hb,if_neg hb,Z0d,Z28,Z64];simp [Zl,Zd];omega
 .rw [if_neg hg,if_neg hg,Z0d,Z28,Z64]
  by_cases hb:w.brought.length=0
  .have e2:w.brought=[]:=Qq.1 hb
   rw [if_pos hb,if_pos hb,e2];simp [Zl,Zd];omega
  .rw [if_neg hb,if_neg hb,Z0d,Z28,Z64];simp;omega
theorem Zjt(w:Wst)(n:Int):Z7A (ZU w n)<=Z7A w+4:=by
 have h:=Za6 w
 have e:Z7A (ZU w n)=Zl (YD (Z9 w).out n)+(YD (Z9 w).out n).length:=rfl
 rw [e]
 rcases YI (Z9 w).out n with e | ⟨a,o,e1,_,e3⟩
 .rw [e,Z0e,Qb,Z0d,Z28,Z64];simp [Zd];omega
 .rw [e3,Z0e,Qb,Z0d]
  rw [e1,Z0e,Qb,Z0d] at h
  obtain ⟨k,m,l,e⟩:=o
  simp only [Z28] at h ⊢
  grind
theorem ZBx{list:Int}{w:Wst}{o:Op}(hi:Za (Zi o.e)<=Za o.e):Z7A (JS list o w)<=Z7A w+Zy o+1:=by
 have s:=Zbe o.e
 have h:Zy o=Zd o.l+Za o.e:=by cases o;rfl
 have d:=Z5g o.l
 have hl:(Z8 o.l).length=o.l.length:=by simp [Z8]
 rw [YW]
 split
 .have:=Zjt w o.n;omega
 .split
  .simp only [Z7A,Zaj,Qb,hl]
   grind
  .split
   .simp only [Z7A,Zaj,Qb,hl]
    grind
   .split
    .split
     .have:=Zjt w 1;omega
     .have:=Za6 w
      have e:Z7A ⟨(Z9 w).out++[⟨3,0,[],Zi o.e⟩],[],[]⟩=Zl ((Z9 w).out++[(⟨3,0,[],Zi o.e⟩:Op)])+((Z9 w).out++[(⟨3,0,[],Zi o.e⟩:Op)]).length:=rfl
      rw [e,Z0e,Qb,Z0d,Z28]
      simp [Zd];omega
    .omega
mutual
theorem Z3n:∀ (e:Edit),Za (Zi e)<=Za e
 | .mk k o n w ks l os=> by
  have h:=Zeq ks
  have s:=Znr l os W0
  have d:=Za6 (ZA l os W0)
  have e0:Z7A W0=0:=rfl
  have po:=Z63 o
  have pn:=Z63 n
  have mo:=Yx o
  have u:=Yx n
  rw [Zi]
  split
  .simp only [Za,ZR,Zl,Qh];omega
  .split
   .simp only [Za,ZR,Zl,Qh,Z27];omega
   .split
    .simp only [Za,ZR,Qh,Z27]
     show 1+1+1+0+(Z9 (ZA l os W0)).out.length+0+Zl (Z9 (ZA l os W0)).out<=_
     omega
    .simp only [Za,ZR,Zl,Qh,Z27];omega
theorem Zeq:∀ (ks:List (KidOf Edit)),ZR (Jc ks)<=ZR ks
 | []=> Qf _
 | k ::r=> by
  have h:=ZjP k
  have d:=Zeq r
  simp only [Jc,ZR];omega
theorem ZjP:∀ (k:KidOf Edit),Z07 (JY k)<=Z07 k
 | ⟨a,e⟩=> by
  have h:=Z3n e
  trivial
theorem Znr(list:Int):∀ (os:List (OpOf Edit)) (w:Wst),Z7A (ZA list os w)<=Z7A w+Zl os+os.length
 | [],w=> by simp [ZA,Zl]
 | o ::r,w=> by
  have h:=Zqb list o w
  have d:=Znr list r (JS list o w)
  simp only [ZA,Zl,Qs];omega
theorem Zqb(list:Int):∀ (o:OpOf Edit) (w:Wst),Z7A (JS list o w)<=Z7A w+Zy o+1
 | ⟨k,n,l,e⟩,_=> ZBx (o:=⟨k,n,l,e⟩) (Z3n e)
end
theorem Zad(e:Edit):(Zi e).kind=e.kind:=by
 rw [Z46]
 split
 .try rfl
 .split
  .try rfl
  .split <;> rfl
theorem ZjI(e:Edit)(h:e.kind=1):(Zi e).old=Z3 e.old/\(Zi e).new=Z3 e.new:=by
 rw [Z46,if_pos h]
 simp_all
theorem ZkY{D list:Int}{t:Tree}(hD:D≠0)(h:Zb (.mk list [] [t]) D=true):Zb (.mk list [] [Z3 t]) D=true:=by
 have s:=fun (k d:Int) (h:Y2 k [t] d=true)=> Z4V [t] k d h
 simp only [Yd] at s
 simp only [Zb] at h ⊢
 grind
theorem Z2X{D list:Int}(hD:D≠0):∀ {l:List Tree},Y9 D list l=true->Y9 D list (Z8 l)=true
 | [],_=> rfl
 | t ::r,h=> by
  simp only [Y9,Q4] at h
  have d:=Z2X hD h.2
  simp only [Z8] at d
  simp only [Z8,Xk,Y9,Q4]
  exact ⟨ZkY hD h.1,d⟩
theorem Z4B{D list:Int}:∀ {a b:List Tree},Y9 D list a=true->Y9 D list b=true->Y9 D list (a++b)=true
 | [],_,_,h=> h
 | t ::r,b,h,h2=> by
  simp only [Y9,Q4] at h
  simp only [Qw,Y9,Q4]
  exact ⟨h.1,Z4B h.2 h2⟩
def rOp(list:Int)(d:Int)(o:Op):Prop:=(o.kind=0->1<=o.n/\o.l.length=0/\Z0U o.e=true)/\(o.kind≠0->Zg list o d=true)
theorem Z9W{list d:Int}{o:Op}(h:Zg list o d=true):rOp list d o:=by
 refine ⟨fun s=> ?_,fun _=> h⟩
 obtain ⟨k,n,l,e⟩:=o
 simp only at s
 subst s
 simp only [Zg,if_true,Q4,decide_eq_true_eq] at h
 grind
theorem ZBt{list d:Int}{o:Op}(h:rOp list d o)(hn:o.kind=0->o.n<=1048576):Zg list o d=true:=by
 by_cases hk:o.kind=0
 .have s:=h.1 hk
  have u:=hn hk
  obtain ⟨k,n,l,e⟩:=o
  simp only at hk s u
  subst hk
  simp only [Zg,if_true,Q4,decide_eq_true_eq]
  grind
 .exact h.2 hk
theorem Z1k{list:Int}:∀ {os:List Op} {d:Int},Zz list os d=true↔∀ o∈os,Zg list o d=true
 | [],d=> by simp [Zz]
 | o ::r,d=> by
  simp only [Zz,Q4,Q9,forall_eq_or_imp]
  rw [Z1k (os:=r)]
theorem Z2h:Z0U Edit.nil=true:=rfl
structure OkW (list d:Int) (w:Wst):Prop where
 out:∀ o∈w.out,rOp list d o
 gone:Y9 (dT d) list w.gone=true
 brought:Y9 (dT d) list w.brought=true
theorem Za9{list d:Int}{w:Wst}(h:OkW list d w):OkW list d (Z9 w):=by
 refine ⟨?_,rfl,rfl⟩
 simp only [Z9,Jo]
 intro o s
 rcases Qg.1 s with s | s
 .exact h.out o s
 rcases Qg.1 s with s | s
 .split at s
  .cases s
  .rename_i hl
   simp only [Qp] at s
   subst s
   refine ⟨fun u=> (by cases u),fun _=> ?_⟩
   simp only [Zg]
   rw [if_neg V3,if_neg V3,if_pos V3,h.gone,Z2h]
   grind
 .split at s
  .cases s
  .rename_i hl
   simp only [Qp] at s
   subst s
   refine ⟨fun u=> (by cases u),fun _=> ?_⟩
   simp only [Zg]
   rw [if_neg V3,if_neg V3,if_pos V3,h.brought,Z2h]
   grind
theorem ZjE{list d:Int}{w:Wst}{n:Int}(h:OkW list d w)(hn:1<=n):OkW list d (ZU w n):=by
 have hf:=Za9 h
 refine ⟨?_,rfl,rfl⟩
 simp only [ZU]
 intro o s
 rcases YI (Z9 w).out n with e | ⟨a,q,e1,e2,e3⟩
 .rw [e] at s
  rcases Qg.1 s with s | s
  .exact hf.out o s
  .simp only [Qp] at s
   subst s
   exact ⟨fun _=> ⟨hn,rfl,Z2h⟩,fun u=> absurd rfl u⟩
 .rw [e3] at s
  rcases Qg.1 s with s | s
  .exact hf.out o (by grind)
  .simp only [Qp] at s
   subst s
   have hq:=(hf.out q (by rw [e1];simp)).1 e2
   exact ⟨fun _=> ⟨by grind,hq.2⟩,fun u=> absurd e2 u⟩
theorem ZBz{list d:Int}{w:Wst}{o:Op}(h:OkW list d w)(hr:Zg list o d=true)(hi:Z5 o.e d=true->Z5 (Zi o.e) d=true):OkW list d (JS list o w):=by
 obtain ⟨k,n,l,e⟩:=o
 have ab:=hr
 rw [Zg] at hr
 rw [YW]
 simp only at hi ⊢
 split at hr
 .rename_i u
  rw [if_pos u]
  simp only [Q4,decide_eq_true_eq] at hr
  exact ZjE h hr.1.1
 .rename_i u
  rw [if_neg u]
  split at hr
  .cases hr
  .rename_i hn
   split at hr
   .rename_i h3
    simp only [Q4,decide_eq_true_eq] at hr
    by_cases k1:k=1
    .rw [if_pos k1]
     exact ⟨h.out,Z4B h.gone (Z2X (ZAM d) hr.1.1),h.brought⟩
    .rw [if_neg k1,Yu]
     exact ⟨h.out,h.gone,Z4B h.brought (Z2X (ZAM d) hr.1.1)⟩
   .rename_i h3
    rw [Jk,Jk,Yu]
    split
    .exact ZjE h V3
    .have hf:=Za9 h
     refine ⟨?_,rfl,rfl⟩
     intro o s
     rcases Qg.1 s with s | s
     .exact hf.out o s
     .simp only [Qp] at s
      subst s
      refine ⟨fun u=> (by cases u),fun _=> ?_⟩
      simp only [Q4,decide_eq_true_eq] at hr
      simp only [Zg]
      rw [if_neg V3,if_neg V3,if_neg V3,Zad,hi hr.1.2]
      simp only [Xm,Q4,decide_eq_true_eq]
      refine ⟨⟨rfl,hr.1.1.2⟩,?_⟩
      rcases hr.2 with h | h | h
      .exact Or.inl h
      .omega
      .rw [(ZjI e h.1).1,(ZjI e h.1).2,Z3s,Z3s]
       omega
def YK:List Op->Int
 | []=> 0
 | o ::r=> (if o.kind=2 then 0 else Z2 o)+YK r
def Yi:List Op->Int
 | []=> 0
 | o ::r=> (if o.kind=1 then 0 else Z2 o)+Yi r
theorem Z38:∀ (a b:List Op),YK (a++b)=YK a+YK b
 | [],b=> by simp [YK]
 | o ::r,b=> by simp only [Qw,YK,Z38 r b];omega
theorem Z37:∀ (a b:List Op),Yi (a++b)=Yi a+Yi b
 | [],b=> by simp [Yi]
 | o ::r,b=> by simp only [Qw,Yi,Z37 r b];omega
theorem Z0F:∀ (l:List Op) (n:Int),(∀ o∈l,0<=Z2 o)->0<=n->n<=1048576->Z0Q l n=min (n+YK l) 1048576/\0<=YK l
 | [],n,_,h1,h2=> by simp only [Z0Q,YK];omega
 | o ::r,n,h,h1,h2=> by
  have s:=h o (Q8 ..)
  simp only [Z0Q,YK]
  have d:0<=(if o.kind=2 then n else n+Z2 o)/\(if o.kind=2 then n else n+Z2 o)=n+(if o.kind=2 then 0 else Z2 o):=by split <;> omega
  have u:0<=(if o.kind=2 then 0 else Z2 o):=by split <;> omega
  rw [d.2]
  rw [d.2] at d
  generalize (if o.kind=2 then 0 else Z2 o)=y at*
  obtain ⟨e1,e2⟩:=Z0F r (min (n+y) 1048576) (fun x d=> h x (Q7 _ d)) V0 V0
  omega
theorem Z0E:∀ (l:List Op) (n:Int),(∀ o∈l,0<=Z2 o)->0<=n->n<=1048576->Z0P l n=min (n+Yi l) 1048576/\0<=Yi l
 | [],n,_,h1,h2=> by simp only [Z0P,Yi];omega
 | o ::r,n,h,h1,h2=> by
  have s:=h o (Q8 ..)
  simp only [Z0P,Yi]
  have d:0<=(if o.kind=1 then n else n+Z2 o)/\(if o.kind=1 then n else n+Z2 o)=n+(if o.kind=1 then 0 else Z2 o):=by split <;> omega
  have u:0<=(if o.kind=1 then 0 else Z2 o):=by split <;> omega
  rw [d.2]
  rw [d.2] at d
  generalize (if o.kind=1 then 0 else Z2 o)=y at*
  obtain ⟨e1,e2⟩:=Z0E r (min (n+y) 1048576) (fun x d=> h x (Q7 _ d)) V0 V0
  omega
theorem Z1P{list d:Int}{o:Op}(h:rOp list d o):0<=Z2 o:=by
 unfold Z2
 split
 .decide
 .by_cases hk:o.kind=0
  .have:=(h.1 hk).1;omega
  .have s:=h.2 hk
   obtain ⟨k,n,l,e⟩:=o
   simp only at hk ⊢
   rw [Zg,if_neg hk] at s
   grind
theorem ZiU:∀ {l:List Op} {o:Op},(∀ o∈l,0<=Z2 o)->o∈l->o.kind≠2->Z2 o<=YK l
 | a ::r,o,h,ho,hk=> by
  have u:=(Z0F r 0 (fun x d=> h x (Q7 _ d)) V3 V3).2
  have s:=h a (Q8 ..)
  simp only [YK]
  rcases Q9.1 ho with rfl | ho
  .omega
  .have:=ZiU (fun x d=> h x (Q7 _ d)) ho hk
   omega
def sA(w:Wst):Int:=YK w.out+w.gone.length
def sB(w:Wst):Int:=Yi w.out+w.brought.length
theorem Z5G(w:Wst):YK (Z9 w).out=sA w/\Yi (Z9 w).out=sB w:=by
 simp only [Z9,Jo,sA,sB,Z38,Z37]
 constructor
 .by_cases hg:w.gone.length=0
  .rw [if_pos hg]
   by_cases hb:w.brought.length=0
   .rw [if_pos hb];simp [YK];omega
   .rw [if_neg hb];simp [YK];omega
  .rw [if_neg hg]
   by_cases hb:w.brought.length=0
   .rw [if_pos hb];simp [YK,Z2]
   .rw [if_neg hb];simp [YK,Z2]
 .by_cases hg:w.gone.length=0
  .rw [if_pos hg]
   by_cases hb:w.brought.length=0
   .rw [if_pos hb];simp [Yi];omega
   .rw [if_neg hb];simp [Yi,Z2]
  .rw [if_neg hg]
   by_cases hb:w.brought.length=0
   .rw [if_pos hb];simp [Yi];omega
   .rw [if_neg hb];simp [Yi,Z2]
theorem ZiT(w:Wst)(n:Int):sA (ZU w n)=sA w+n/\sB (ZU w n)=sB w+n:=by
 have hf:=Z5G w
 simp only [ZU]
 have e1:∀ x,sA ⟨x,[],[]⟩=YK x:=fun x=> by simp [sA]
 have e2:∀ x,sB ⟨x,[],[]⟩=Yi x:=fun x=> by simp [sB]
 rw [e1,e2,<-hf.1,<-hf.2]
 rcases YI (Z9 w).out n with e | ⟨a,q,e1,e2,e3⟩
 .rw [e,Z38,Z37]
  simp [YK,Yi,Z2]
 .rw [e3,e1,Z38,Z37,Z38,Z37]
  simp only [YK,Yi,Z2,e2]
  simp
  omega
theorem ZBh{list d:Int}{w:Wst}{o:Op}(hr:Zg list o d=true):sA (JS list o w)=sA w+(if o.kind=2 then 0 else Z2 o)/\sB (JS list o w)=sB w+(if o.kind=1 then 0 else Z2 o):=by
 have hl:∀ l,((Z8 l).length:Int)=l.length:=fun l=> by simp [Z8]
 obtain ⟨k,n,l,e⟩:=o
 rw [Zg] at hr
 rw [YW]
 simp only [Z2]
 split at hr
 .rename_i h
  subst h
  rw [if_pos rfl]
  simp only [Q4,decide_eq_true_eq] at hr
  have:=ZiT w n
  simp
  omega
 .rename_i h
  rw [if_neg h]
  split at hr
  .cases hr
  .rename_i hn
   split at hr
   .rename_i s
    by_cases k1:k=1
    .subst k1
     rw [if_pos rfl]
     simp only [sA,sB,Qb]
     grind
    .have k2:k=2:=V0
     subst k2
     rw [if_neg k1,if_pos rfl]
     simp only [sA,sB,Qb]
     grind
   .rename_i s
    have u:k=3:=V0
    subst u
    rw [Jk,Jk,if_pos rfl]
    split
    .have:=ZiT w 1
     omega
    .have:=Z5G w
     simp only [sA,sB,Z38,Z37,YK,Yi,Z2] at this ⊢
     grind
mutual
theorem J5:∀ (e:Edit) (d:Int),Z5 e d=true->Z5 (Zi e) d=true
 | .mk k o n w ks l os,d,h=> by
  have h1:=ZaU ks
  have h2:=Znx l os
  have h4:=ZgH l os
  rw [Z5] at h
  split at h
  .cases h
  .rename_i a
   split at h
   .cases h
   .rename_i b
    have nn:Ye Tree.nil=true:=rfl
    by_cases k1:k=1
    .subst k1
     rw [if_pos rfl] at h
     have hl:l=0:=by
      apply Xd
      intro hl
      exact b (.inr (.inr ⟨V3,.inl hl⟩))
     simp only [Q4,decide_eq_true_eq] at h
     rw [Zi,if_pos rfl,Z5,if_neg a,if_neg (by simp [hl]),if_pos rfl]
     simp only [Q4,decide_eq_true_eq]
     rw [Z3s,Z3s]
     exact ⟨⟨Z2P _ _ h.1.1,Z2P _ _ h.1.2⟩,h.2⟩
    .rw [if_neg k1] at h
     simp only [Q4,decide_eq_true_eq] at h
     obtain ⟨⟨⟨⟨x1,x2⟩,x3⟩,x4⟩,x5⟩:=h
     rw [Zi,if_neg k1]
     by_cases k2:k=2
     .have hl:l=0:=by
       apply Xd
       intro hl
       exact b (.inr (.inr ⟨V0,.inl hl⟩))
      rw [if_pos k2,Z5,if_neg a,if_neg (by grind),if_neg k1]
      grind
     .rw [if_neg k2]
      by_cases k3:k=3
      .rw [if_pos k3,Z5,if_neg a,if_neg (by simp [nn,k3]),if_neg k1]
       simp only [Q4,decide_eq_true_eq]
       have aa:=Z1k.1 x4
       obtain ⟨y1,y2⟩:=Z0F os 0 (fun o s=> Z1P (Z9W (aa o s))) V3 V3
       obtain ⟨z1,z2⟩:=Z0E os 0 (fun o s=> Z1P (Z9W (aa o s))) V3 V3
       have hw:=h2 (d - 1) W0 x4 ⟨fun o s=> (by cases s),rfl,rfl⟩
       have hs:=h4 (d - 1) W0 x4
       have u:=Za9 hw
       have af:=Z5G (ZA l os W0)
       have e0:sA W0=0/\sB W0=0:=⟨rfl,rfl⟩
       have hA:=Z0F (Z9 (ZA l os W0)).out 0 (fun o s=> Z1P (u.out o s)) V3 V3
       have hB:=Z0E (Z9 (ZA l os W0)).out 0 (fun o s=> Z1P (u.out o s)) V3 V3
       refine ⟨⟨⟨⟨rfl,rfl⟩,x3⟩,Z1k.2 (fun o s=> ZBt (u.out o s) (fun hk=> ?_))⟩,?_,?_⟩
       .have hm:=ZiU (fun o s=> Z1P (u.out o s)) s V0
        unfold Z2 at hm
        omega
       .show Z0Q (Z9 (ZA l os W0)).out 0 < 1048576
        omega
       .show Z0P (Z9 (ZA l os W0)).out 0 < 1048576
        omega
      .have hl:l=0:=by
        apply Xd
        intro hl
        exact b (.inr (.inr ⟨k3,.inl hl⟩))
       rw [if_neg k3,Z5,if_neg a,if_neg (by simp [nn,hl]),if_neg k1]
       grind
theorem ZaU:∀ (ks:List (KidOf Edit)) (last d:Int),Zw last ks d=true->Zw last (Jc ks) d=true
 | [],_,_,_=> rfl
 | k ::r,last,d,h=> by
  simp only [Zw,Q4] at h
  have u:=ZgV k last d h.1
  have s:=ZaU r k.at_ d h.2
  simp only [Jc,Zw,Q4]
  exact ⟨u,by rw [ZfX];exact s⟩
theorem ZgV:∀ (k:KidOf Edit) (last d:Int),JD last k d=true->JD last (JY k) d=true
 | ⟨a,e⟩,last,d,h=> by
  simp only [JD,Q4] at h
  have s:=J5 e d h.2
  simp only [JY,JD,Q4]
  rw [Zad]
  grind
theorem Znx(list:Int):∀ (os:List (OpOf Edit)) (d:Int) (w:Wst),Zz list os d=true->OkW list d w->OkW list d (ZA list os w)
 | [],_,_,_,hw=> hw
 | o ::r,d,w,h,hw=> by
  simp only [Zz,Q4] at h
  have s:=Zqi list o d w h.1 hw
  exact Znx list r d _ h.2 s
theorem Zqi(list:Int):∀ (o:OpOf Edit) (d:Int) (w:Wst),Zg list o d=true->OkW list d w->OkW list d (JS list o w)
 | ⟨k,n,l,e⟩,d,w,h,hw=> ZBz (o:=⟨k,n,l,e⟩) hw h (fun s=> J5 e d s)
theorem ZgH(list:Int):∀ (os:List (OpOf Edit)) (d:Int) (w:Wst),Zz list os d=true->sA (ZA list os w)=sA w+YK os/\sB (ZA list os w)=sB w+Yi os
 | [],_,_,_=> by simp [ZA,YK,Yi]
 | o ::r,d,w,h=> by
  simp only [Zz,Q4] at h
  have u:=ZBh (w:=w) h.1
  have s:=ZgH list r d (JS list o w) h.2
  simp only [ZA,YK,Yi]
  omega
end
theorem Z4T:∀ {a b:List Tree},Y6 (a++b)↔Y6 a/\Y6 b
 | [],b=> by simp [Y6]
 | t ::r,b=> by simp only [Qw,Y6];rw [Z4T (a:=r),and_assoc]
mutual
theorem Z1i:∀ (t:Tree),rng t->rng (Z3 t)
 | .mk k w ks,h=> by
  simp only [rng] at h
  obtain ⟨h1,u,s⟩:=h
  have d:=ZfG ks s
  simp only [Z3]
  split
  .trivial
  .split
   .obtain ⟨r1,e1⟩:=ZcG w
    obtain ⟨r2,e2⟩:=Z9L (Yd ks)
    simp only [rng]
    refine ⟨V3,fun x hx=> u x (by grind),?_⟩
    rw [e2] at d
    exact (Z4T.1 d).1
   trivial
theorem ZfG:∀ (l:List Tree),Y6 l->Y6 (Yd l)
 | [],_=> trivial
 | t ::r,h=> by
  simp only [Y6] at h
  have s:=Z1i t h.1
  have d:=ZfG r h.2
  trivial
end
theorem Z7i:∀ {l:List Tree},Y6 l->Y6 (Z8 l)
 | [],_=> trivial
 | t ::r,h=> by
  simp only [Y6] at h
  have d:=Z7i h.2
  simp only [Z8] at d
  simp only [Z8,Xk,Y6]
  exact ⟨Z1i t h.1,d⟩
theorem Z3e:rng Tree.nil:=by
 trivial
structure RngW (w:Wst):Prop where
 out:∀ o∈w.out,Y6 o.l/\Yp o.e
 gone:Y6 w.gone
 brought:Y6 w.brought
theorem Z5R:Yp Edit.nil:=by
 simp only [Edit.nil,Yp,Z2O,Z1A]
 exact ⟨by trivial,Z3e,Z3e,by simp,by trivial,trivial,trivial⟩
theorem Z7g{w:Wst}(h:RngW w):RngW (Z9 w):=by
 refine ⟨?_,trivial,trivial⟩
 simp only [Z9,Jo]
 intro o d
 rcases Qg.1 d with d | d
 .exact h.out o d
 rcases Qg.1 d with d | d
 .split at d
  .cases d
  .simp only [Qp] at d
   subst d
   exact ⟨h.gone,Z5R⟩
 .split at d
  .cases d
  .simp only [Qp] at d
   subst d
   exact ⟨h.brought,Z5R⟩
theorem ZfD{w:Wst}{n:Int}(h:RngW w):RngW (ZU w n):=by
 have hf:=Z7g h
 refine ⟨?_,trivial,trivial⟩
 simp only [ZU]
 intro o d
 rcases YI (Z9 w).out n with e | ⟨a,q,e1,e2,e3⟩
 .rw [e] at d
  rcases Qg.1 d with d | d
  .exact hf.out o d
  .simp only [Qp] at d
   subst d
   exact ⟨trivial,Z5R⟩
 .rw [e3] at d
  rcases Qg.1 d with d | d
  .exact hf.out o (by grind)
  .simp only [Qp] at d
   subst d
   exact hf.out q (by rw [e1];simp)
theorem ZmZ{list:Int}{w:Wst}{o:Op}(h:RngW w)(hl:Y6 o.l)(he:Yp (Zi o.e)):RngW (JS list o w):=by
 rw [YW]
 split
 .exact ZfD h
 .split
  .exact ⟨h.out,Z4T.2 ⟨h.gone,Z7i hl⟩,h.brought⟩
  .split
   .exact ⟨h.out,h.gone,Z4T.2 ⟨h.brought,Z7i hl⟩⟩
   .split
    .split
     .exact ZfD h
     .refine ⟨?_,trivial,trivial⟩
      intro o d
      rcases Qg.1 d with d | d
      .exact (Z7g h).out o d
      .simp only [Qp] at d
       subst d
       trivial
    .exact h
theorem ZaS:∀ {os:List Op},(∀ o∈os,Z1j o)->Z1A os
 | [],_=> trivial
 | o ::r,h=> by
  simp only [Z1A]
  exact ⟨h o (Q8 ..),ZaS (fun x d=> h x (Q7 _ d))⟩
theorem Zjb{list d:Int}{o:Op}(h:Zg list o d=true)(hl:Y6 o.l)(he:Yp o.e):Z1j o:=by
 have s:=Z5S h
 obtain ⟨k,n,l,e⟩:=o
 simp only at s hl he
 simp only [Z1j]
 refine ⟨?_,V2,hl,he⟩
 rw [Zg] at h
 unfold InR
 grind
mutual
theorem Z21:∀ (e:Edit) (d:Int),Z5 e d=true->Yp e->Yp (Zi e)
 | .mk k o n w ks l os,d,hr,h=> by
  have u:=Z9S hr
  have s:=Z9S (J5 _ _ hr)
  simp only [Edit.kids_mk,Edit.ops_mk,Edit.list_mk] at u
  simp only [Yp] at h
  obtain ⟨h1,h2,h3,h4,h5,h6,h7⟩:=h
  have i6:=ZfF ks (d - 1) (fun k hk=> (u.1 k hk).1) h6
  have i7:=ZfE l os (d - 1) u.2 h7 W0 ⟨fun o ho=> (by cases ho),trivial,trivial⟩
  rw [Zi] at s ⊢
  by_cases k1:k=1
  .rw [if_pos k1]
   simp only [Yp]
   exact ⟨h1,Z1i o h2,Z1i n h3,by simp,h5,trivial,trivial⟩
  .rw [if_neg k1] at s ⊢
   by_cases k2:k=2
   .rw [if_pos k2]
    trivial
   .rw [if_neg k2] at s ⊢
    by_cases k3:k=3
    .rw [if_pos k3] at s ⊢
     simp only [Yp]
     refine ⟨h1,Z3e,Z3e,by simp,h5,trivial,ZaS (fun q hq=> ?_)⟩
     have hx:=s.2 q hq
     have hy:=(Z7g i7).out q hq
     exact Zjb hx hy.1 hy.2
    .rw [if_neg k3]
     simp only [Yp]
     exact ⟨h1,Z3e,Z3e,by simp,h5,trivial,trivial⟩
theorem ZfF:∀ (ks:List (KidOf Edit)) (d:Int),(∀ k∈ks,Z5 k.e d=true)->Z2O ks->Z2O (Jc ks)
 | [],_,_,_=> trivial
 | k ::r,d,hr,h=> by
  simp only [Z2O] at h
  have h1:=ZkV k d (hr k (Q8 ..)) h.1
  have u:=ZfF r d (fun x s=> hr x (Q7 _ s)) h.2
  trivial
theorem ZkV:∀ (k:KidOf Edit) (d:Int),Z5 k.e d=true->Z7h k->Z7h (JY k)
 | ⟨a,e⟩,d,hr,h=> by
  simp only [Z7h] at h
  have s:=Z21 e d hr h.2
  simp only [JY,Z7h]
  grind
theorem ZfE(list:Int):∀ (os:List (OpOf Edit)) (d:Int),(∀ o∈os,Zg list o d=true)->Z1A os->∀ (w:Wst),RngW w->RngW (ZA list os w)
 | [],_,_,_,w,hw=> hw
 | o ::r,d,hr,h,w,hw=> by
  simp only [Z1A] at h
  have u:=Zq2 list o d (hr o (Q8 ..)) h.1 w hw
  exact ZfE list r d (fun x s=> hr x (Q7 _ s)) h.2 _ u
theorem Zq2(list:Int):∀ (o:OpOf Edit) (d:Int),Zg list o d=true->Z1j o->∀ (w:Wst),RngW w->RngW (JS list o w)
 | ⟨k,n,l,e⟩,d,hr,h,w,hw=> by
  simp only [Z1j] at h
  by_cases k3:k=3
  .have u:Z5 e d=true:=by
    rw [Zg,Jk,] at hr
    split at hr
    .cases hr
    .grind
   exact ZmZ (o:=⟨k,n,l,e⟩) hw h.2.2.1 (Z21 e d u h.2.2.2)
  .have s:Yp (Zi Edit.nil):=by
    show Yp (.mk 0 Tree.nil Tree.nil [] [] 0 [])
    exact Z5R
   have e2:JS list ⟨k,n,l,e⟩ w=JS list ⟨k,n,l,Edit.nil⟩ w:=by
    simp only [JS]
    grind
   rw [e2]
   exact ZmZ (o:=⟨k,n,l,Edit.nil⟩) hw h.2.2.1 s
end
theorem ZBE(t:Tree):t.words.length+Zd t.kids+1=Zj t:=by obtain ⟨k,w,ks⟩:=t;simp only [Zj,Tree.words_mk,Tree.kids_mk];omega
theorem Zg7:∀ (l:List Tree) (i:Nat) (x:Tree),i < l.length->Zd (l.set i x)+Zj (l.getD i Tree.nil)=Zd l+Zj x
 | [],i,x,h=> by simp at h
 | a ::r,0,x,_=> by simp only [List.set_cons_zero,Zd,Qk];omega
 | a ::r,i+1,x,h=> by
  have:=Zg7 r i x (by simpa using h)
  simp only [List.set_cons_succ,Zd,List.getD_cons_succ];omega
theorem ZlE(n:Nat):Zd (List.replicate n Tree.nil)=n:=by
 induction n with
 | zero=> rfl
 | succ n ih=> rw [List.replicate_succ,Zd,ih];simp [Tree.nil,Zj,Zd];omega
theorem YM:∀ (a b:List Tree),Zd (a++b)=Zd a+Zd b
 | [],b=> by simp [Zd]
 | t ::r,b=> by simp only [Qw,Zd,YM r b];omega
theorem Zqv(l:List Tree)(i:Nat)(x:Tree):Zd (Yk Tree.nil l i x)+Zj (l.getD i Tree.nil)<=Zd l+Zj x+(i+1):=by
 have h:=Zg7 (l++List.replicate (i+1 - l.length) Tree.nil) i x (by simp;omega)
 have e:(l++List.replicate (i+1 - l.length) Tree.nil).getD i Tree.nil=l.getD i Tree.nil:=by
  by_cases hi:i < l.length
  .simp only [Qz];rw [QG hi]
  .simp only [Qz]
   rw [Qu V0,QZ (l:=l) V0,List.getElem?_replicate]
   split <;> rfl
 rw [e,YM,ZlE] at h
 simp only [Yk]
 omega
theorem ZgA{tw:List Int}:∀ {ws:List WEdit} {last:Int} {out a:List Int},ZK last ws=true->wsD tw ws out=some a->a.length<=max out.length 65535
 | [],_,out,a,_,h=> by rw [wsD] at h;cases h;omega
 | w ::r,last,out,a,hw,h=> by
  have d:=Z0k hw w Q8
  simp only [ZK,Q4] at hw
  rw [wsD] at h
  split at h
  .have:=ZgA hw.2 h
   rw [Z6Y] at this
   omega
  .cases h
theorem Z8w{last d:Int}{k:Kid}{r:List Kid}(h:Zw last (k ::r) d=true):(last < k.at_/\k.at_<=65534)/\Z5 k.e d=true/\Zw k.at_ r d=true:=by
 have:=Zv h k Q8
 simp only [Zw,Q4] at h
 grind
theorem Zrm{tw:List Int}{ws:List WEdit}{last:Int}{out a:List Int}(hw:ZK last ws=true)(h:wsD tw ws out=some a):a.length<=out.length+65600*ws.length:=by
 cases ws with
 | nil=> rw [wsD] at h;cases h;omega
 | cons w r=>
  have:=ZgA hw h
  grind
theorem Zef(r:Bool)(v:Tree):Zj (nrD r v)<=Zj v:=by
 unfold nrD
 split
 .exact Yx v
 omega
mutual
theorem Zep(r:Bool):∀ (e:Edit) (d:Int) (t v:Tree),Z5 e d=true->Zq8 r e t=some v->Zj v+18<=Zj t+ctE e
 | .mk k o n w ks l os,d,t,v,hr,hv=> by
  have u:=Zn hr
  have h1:=Zg5 r ks t.kids
  have h2:=Zg4 r l os
  have ht:=ZBE t
  have po:=JH o
  have pn:=JH n
  have pt:=JH t
  unfold Zq8 at hv
  simp only [ctE]
  split at hv
  .grind
  .split at hv
   .split at hv
    .cases hv
     show Zj n+18<=_
     omega
    .cases hv
   .split at hv
    .split at hv
     .obtain ⟨a,ha,h⟩:=Ql.1 hv
      obtain ⟨b,h,e⟩:=Qj.1 h
      have l1:=Zrm u.words ha
      simp only [Edit.words_mk] at l1
      have l2:=h1 t.kids b _ (-1) V0 u.kids (fun j _=> rfl) h
      rw [<-e]
      simp only [Zj]
      omega
     .cases hv
    .split at hv
     .split at hv
      .obtain ⟨b,h,e⟩:=Qj.1 hv
       unfold Z3B at h
       obtain ⟨x,hx,s⟩:=Ql.1 h
       have l2:=h2 _ t.kids [] x (fun o ho=> Go.AM.rightOs_mem u.ops o ho) hx
       split at s
       .cases s
        rw [<-e]
        simp only [Zj,Qh]
        grind
       .cases s
      .cases hv
     .cases hv
theorem Zg5(r:Bool):∀ (ks:List (KidOf Edit)) (tk out b:List Tree) (d last:Int),-1<=last->Zw last ks d=true->(∀ j:Nat,last < (j:Int)->out.getD j Tree.nil=tk.getD j Tree.nil)->JQ r tk ks out=some b->Zd b<=Zd out+Z35 ks
 | [],tk,out,b,d,last,_,_,_,h=> by rw [JQ] at h;cases h;simp
 | k ::s,tk,out,b,d,last,hl,hr,hj,h=> by
  obtain ⟨h1,h2,h3⟩:=Z8w hr
  rw [JQ] at h
  obtain ⟨u,hu,hb⟩:=Ql.1 h
  have m1:=ZlC r k tk u d h2 hu
  have m2:=Zqv out k.at_.toNat u
  rw [hj k.at_.toNat V0] at m2
  have m3:=Zg5 r s tk _ b d k.at_ V0 h3 (fun j af=> by
   rw [JB,Jk]
   grind) hb
  have m4:k.at_.toNat+1<=65600:=V0
  have e1:Z35 (k ::s)=65600+ctE k.e+Z35 s:=by obtain ⟨a,e⟩:=k;rfl
  omega
theorem ZlC(r:Bool):∀ (k:KidOf Edit) (tk:List Tree) (u:Tree) (d:Int),Z5 k.e d=true->Z2A r tk k=some u->Zj u+18<=Zj (tk.getD k.at_.toNat Tree.nil)+ctE k.e
 | ⟨a,e⟩,tk,u,d,hr,h=> by
  rw [Z2A,Z9A] at h
  obtain ⟨v,s,hu⟩:=Qj.1 h
  have:=Zep r e d (tk.getD a.toNat Tree.nil) v hr s
  have aa:=Zef r v
  grind
theorem Zg4(r:Bool)(l:Int):∀ (os:List (OpOf Edit)) (d:Int) (rest out:List Tree) (x:List Tree × List Tree),(∀ o∈os,Zg l o d=true)->ZL r os rest out=some x->Zd x.1+Zd x.2<=Zd out+Zd rest+Jh os
 | [],d,rest,out,x,_,h=> by rw [ZL] at h;cases h;simp
 | o ::s,d,rest,out,x,hr,h=> by
  rw [ZL] at h
  obtain ⟨y,hy,hx⟩:=Ql.1 h
  have m1:=Zqs r l o d rest out y (hr o Q8) hy
  have m2:=Zg4 r l s d _ _ x (fun q u=> hr q (Q7 _ u)) hx
  rw [Jh]
  omega
theorem Zqs(r:Bool)(l:Int):∀ (o:OpOf Edit) (d:Int) (rest out:List Tree) (x:List Tree × List Tree),Zg l o d=true->Z4h r o rest out=some x->Zd x.1+Zd x.2<=Zd out+Zd rest+Z4j o
 | ⟨k,n,L,e⟩,d,rest,out,x,hr,h=> by
  have he:=Zep r e d (rest.getD 0 Tree.nil)
  rw [Z4h] at h
  simp only [Z4j]
  split at h
  .split at h
   .cases h
    have:=YM (rest.take n.toNat) (rest.drop n.toNat)
    rw [QY] at this
    dsimp only
    rw [YM];omega
   .cases h
  .split at h
   .split at h
    .cases h
     have:=Z2s L.length rest
     grind
    .cases h
   .split at h
    .cases h
     dsimp only
     rw [YM];omega
    .split at h
     .cases h
     .obtain ⟨u,s,e2⟩:=Qj.1 h
      cases e2
      have hk:k=3:=by
       have ra:=ZS hr
       generalize ho:OpOf.mk k n L e=o at ra
       cases ra <;> (injection ho with h1;try omega)
      rw [Z9A] at s
      obtain ⟨v,hv,s⟩:=Qj.1 s
      have:=he v (J4 hr hk) hv
      have aa:=Zef r v
      rw [s] at aa
      cases rest with
      | nil=> contradiction
      | cons a q=>
       rw [YM]
       simp only [Zd,QH,X6,Qk] at this ⊢
       omega
end
theorem Zcm(r:Bool)(e:Edit)(d:Int)(t u:Tree)(hr:Z5 e d=true)(h:doE r e t=some u):Zj u+18<=Zj t+ctE e:=by
 rw [Z9A] at h
 obtain ⟨v,s,hu⟩:=Qj.1 h
 have:=Zep r e d t v hr s
 have aa:=Zef r v
 grind
theorem ZBA{f:Nat->Int}(h:∀ i,0<=f i/\f i < 256):isW (of8 f):=by
 have d:=h 0;have u:=h 1;have h2:=h 2;have s:=h 3;have h4:=h 4;have h5:=h 5;have h6:=h 6;have h7:=h 7
 unfold isW of8
 omega
theorem Z12(a b m:Int):isW (mix a b m):=ZBA (Z5c a b m)
theorem Z5Q{l:List Tree}(h:∀ t∈l,rng t):Y6 l:=by
 induction l with
 | nil=> exact trivial
 | cons a r ih=> exact ⟨h a Q8,ih fun t d=> h t (Q7 _ d)⟩
theorem Z1Z:rng Tree.nil:=⟨V3,by simp,trivial⟩
theorem Z7d{α:Type}{z x y:α}{l:List α}{i:Nat}(h:y∈Yk z l i x):y∈l\/y=z\/y=x:=by
 rcases List.mem_or_eq_of_mem_set h with h | h
 .rcases Qg.1 h with h | h
  .exact .inl h
  .exact .inr (.inl (List.eq_of_mem_replicate h))
 .exact .inr (.inr h)
theorem ZmY{ks:List Tree}(h:Y6 ks)(i:Nat):rng (ks.getD i Tree.nil):=by
 by_cases hi:i < ks.length
 .exact YV h (Zo hi _)
 .rw [Qz,QZ V0]
  exact Z1Z
theorem ZgB{tw:List Int}:∀ {ws:List WEdit} {out a:List Int},(∀ x∈out,isW x)->wsD tw ws out=some a->∀ x∈a,isW x
 | [],out,a,h,hw=> by rw [wsD] at hw;grind
 | w ::r,out,a,h,hw=> by
  rw [wsD] at hw
  split at hw
  .refine ZgB (fun x d=> ?_) hw
   rcases Z7d d with d | rfl | rfl
   .exact h x d
   .trivial
   .exact Z12 _ _ _
  .cases hw
mutual
theorem Zdn(r:Bool):∀ (e:Edit) (t u:Tree),Yp e->rng t->doE r e t=some u->rng u
 | .mk k o n w ks l os,t,u,hr,ht,h=> by
  have h1:=Zj7 r ks
  have h2:=Zj6 r os
  simp only [Yp] at hr
  obtain ⟨r1,r2,r3,r4,r5,r6,r7⟩:=hr
  have s:InR t.kind/\(∀ x∈t.words,isW x)/\Y6 t.kids:=by obtain ⟨k,w,ks⟩:=t;exact ht
  rw [Z0I] at h
  obtain ⟨v,d,hu⟩:=Qj.1 h
  suffices rng v by
   rw [<-hu];unfold nrD
   split
   .exact Z1i v this
   .exact this
  clear h hu
  split at d
  .grind
  .split at d
   .simp_all
   .split at d
    .split at d
     .obtain ⟨a,ha,hb⟩:=Ql.1 d
      obtain ⟨b,hb,e⟩:=Qj.1 hb
      rw [<-e]
      exact ⟨V3,ZgB s.2.1 ha,h1 _ _ _ r6 s.2.2 s.2.2 hb⟩
     .cases d
    .split at d
     .split at d
      .obtain ⟨b,hb,e⟩:=Qj.1 d
       unfold Z3B at hb
       obtain ⟨x,hx,hy⟩:=Ql.1 hb
       split at hy
       .cases hy
        rw [<-e]
        exact ⟨r5,by simp,(h2 _ [] _ r7 s.2.2 trivial hx).1⟩
       .cases hy
      .cases d
     .cases d
theorem Zj7(r:Bool):∀ (ks:List (KidOf Edit)) (tk out b:List Tree),Z2O ks->Y6 tk->Y6 out->JQ r tk ks out=some b->Y6 b
 | [],tk,out,b,_,_,ho,h=> by rw [JQ] at h;cases h;exact ho
 | k ::s,tk,out,b,hk,ht,ho,h=> by
  rw [JQ] at h
  obtain ⟨u,hu,hb⟩:=Ql.1 h
  have m1:=Zq1 r k tk u hk.1 ht hu
  refine Zj7 r s tk _ b hk.2 ht (Z5Q fun x d=> ?_) hb
  rcases Z7d d with d | rfl | rfl
  .exact YV ho d
  .exact Z1Z
  .exact m1
theorem Zq1(r:Bool):∀ (k:KidOf Edit) (tk:List Tree) (u:Tree),Z7h k->Y6 tk->Z2A r tk k=some u->rng u
 | ⟨a,e⟩,tk,u,hr,ht,h=> by
  rw [Z2A] at h
  exact Zdn r e _ u hr.2 (ZmY ht _) h
theorem Zj6(r:Bool):∀ (os:List (OpOf Edit)) (rest out:List Tree) (x:List Tree × List Tree),Z1A os->Y6 rest->Y6 out->ZL r os rest out=some x->Y6 x.1/\Y6 x.2
 | [],rest,out,x,_,hr,ho,h=> by rw [ZL] at h;grind
 | o ::s,rest,out,x,hs,hr,ho,h=> by
  rw [ZL] at h
  obtain ⟨y,u,hx⟩:=Ql.1 h
  have d:=Zsi r o rest out y hs.1 hr ho u
  exact Zj6 r s _ _ x hs.2 d.2 d.1 hx
theorem Zsi(r:Bool):∀ (o:OpOf Edit) (rest out:List Tree) (x:List Tree × List Tree),Z1j o->Y6 rest->Y6 out->Z4h r o rest out=some x->Y6 x.1/\Y6 x.2
 | ⟨k,n,L,e⟩,rest,out,x,hs,hr,ho,h=> by
  have he:=Zdn r e (rest.getD 0 Tree.nil)
  simp only [Z1j] at hs
  have hd:∀ n,Y6 (rest.drop n):=fun n=> Z5Q fun t s=> YV hr (Xw s)
  have d:∀ l,Y6 l->Y6 (out++l):=fun l hl=> Z4T.2 ⟨ho,hl⟩
  rw [Z4h] at h
  split at h
  .split at h
   .cases h
    exact ⟨d _ (Z5Q fun t s=> YV hr (K4 s)),hd _⟩
   .cases h
  .split at h
   .grind
   .split at h
    .grind
    .split at h
     .cases h
     .obtain ⟨u,hu,e2⟩:=Qj.1 h
      cases e2
      exact ⟨d _ ⟨he u hs.2.2.2 (ZmY hr 0) hu,trivial⟩,hd _⟩
end
section
variable {α β:Type} (z:α) (f:β->Option α) (p:β->Int)
def mg:List β->List α->Option (List α)
 | [],out=> some out
 | w ::r,out=> (f w).bind fun v=> mg r (Yk z out (p w).toNat v)
def asc(last:Int):List β->Prop
 | []=> True
 | w ::r=> last < p w/\asc (p w) r
variable {z f p} {l0:List α} {ws:List β} {n a i:Int} {out:List α}
theorem Zik{last:Int}:∀ {l:List β},asc p last l->∀ w∈l,last < p w
 | [],_,_,hw=> by cases hw
 | b ::r,h,w,hw=> by
  rcases Q9.1 hw with rfl | hw
  .exact h.1
  .have:=Zik h.2 w hw
   have:=h.1
   omega
theorem Zr7{m last:Int}(h:m<=last):∀ {l:List β},asc p last l->asc p m l
 | [],_=> trivial
 | _ ::_,g=> ⟨by have:=g.1;omega,g.2⟩
end
theorem Zrl(tw:List Int):∀ (ws:List WEdit) (out:List Int),wsD tw ws out=mg 0 (fun w=> if mix 0 (tw.getD w.at_.toNat 0) w.mask=w.old then some (mix (tw.getD w.at_.toNat 0) w.new w.mask) else none) WEdit.at_ ws out
 | [],_=> rfl
 | w ::r,out=> by
  rw [wsD,mg]
  split
  .rw [Qm];exact Zrl tw r _
  .try rfl
theorem ZoQ(r:Bool)(tk:List Tree):∀ (ks:List Kid) (out:List Tree),JQ r tk ks out=mg Tree.nil (Z2A r tk) KidOf.at_ ks out
 | [],_=> by rfl
 | k ::s,out=> by
  rw [JQ,mg]
  congr 1
  funext u
  exact ZoQ r tk s _
theorem Z5D:∀ {ws:List WEdit} {last:Int},ZK last ws=true->asc WEdit.at_ last ws
 | [],_,_=> trivial
 | w ::r,last,h=> by
  have d:=Z0k h w Q8
  simp only [ZK,Q4] at h
  exact ⟨d.1,Z5D h.2⟩
theorem Z97:∀ {ks:List Kid} {last d:Int},Zw last ks d=true->asc KidOf.at_ last ks
 | [],_,_,_=> trivial
 | k ::r,last,d,h=> by
  obtain ⟨u,_,s⟩:=Z8w h
  exact ⟨u.1,Z97 s⟩
end Go.AM.YtpjenobkibfpcaaGreat
namespace Go.AM
def Z4r(t:Tree):Bool:=decide (0<=ZD t 80 3000) && Zb t 64 && decide (t.kind≠10)
end Go.AM
namespace Go.AM.YtpjenobkibfpcaaGreat
open Go.AM Go.Proofs
theorem Zxc{f g:Nat->Int}(hf:∀ i,0<=f i/\f i < 256)(hg:∀ i,0<=g i/\g i < 256)(h:of8 f=of8 g):∀ i,i < 8->f i=g i:=by
 unfold of8 at h
 grind
theorem Zac{a:Int}(h:isW a):of8 (Zk a)=a:=by
 obtain ⟨d,s⟩:=h
 simp only [of8,Zk]
 omega
theorem Z5A{a b:Int}(ha:isW a)(hb:isW b)(h:∀ i,i < 8->Zk a i=Zk b i):a=b:=by
 rw [<-Zac ha,<-Zac hb]
 unfold of8
 grind
theorem ZtG{a b m:Int}{i:Nat}(h:i < 8):Zk (mix a b m) i=Jp a b m i:=
 Zxc (fun i=> Z0M _ i) (Z5c a b m) (by rw [Zac (Z12 a b m)];rfl) i h
section
variable {α β:Type} {z:α} {f:β->Option α} {p:β->Int}
theorem Z1w:∀ {ws:List β} {last:Int} {out r:List α},-1<=last->asc p last ws->mg z f p ws out=some r->
  (∀ w∈ws,∃ v,f w=some v/\r.getD (p w).toNat z=v)/\(∀ i:Nat,(∀ w∈ws,(p w).toNat≠i)->r.getD i z=out.getD i z)
 | [],_,out,r,_,_,h=> by
  rw [mg] at h;grind
 | w ::s,last,out,r,hl,ha,h=> by
  rw [mg] at h
  obtain ⟨v,hv,hr⟩:=Ql.1 h
  have h1:=ha.1
  obtain ⟨i1,u⟩:=Z1w V0 ha.2 hr
  have hn:∀ x∈s,(p x).toNat≠(p w).toNat:=fun x d=> by have:=Zik ha.2 x d;omega
  refine ⟨fun x d=> ?_,fun i hi=> ?_⟩
  .rcases Q9.1 d with rfl | d
   .refine ⟨v,hv,?_⟩
    rw [u _ hn,JB,if_pos rfl]
   grind
  .rw [u i (fun x d=> hi x (Q7 _ d)),JB,if_neg (fun e=> hi w Q8 e.symm)]
end
theorem Z7k{list d:Int}:∀ {l:List Tree},Y2 list l d=true->∀ t∈l,Zb t d=true
 | [],_,_,ht=> by cases ht
 | a ::r,h,t,ht=> by
  simp only [Y2,Q4] at h
  rcases Q9.1 ht with rfl | ht
  .exact h.1.2
  .exact Z7k h.2 t ht
def RT_(t:Tree):Prop:=(∃ d,Zb t d=true)/\rng t
theorem RT_.kids{t:Tree}(h:RT_ t):(∀ k∈t.kids,RT_ k)/\(t.kind≠0->t.kind≠1->t.kind≠10->t.words=[]):=by
 obtain ⟨⟨d,h⟩,hr⟩:=h
 obtain ⟨k,w,ks⟩:=t
 have u:∀ x∈ks,rng x:=fun x s=> YV hr.2.2 s
 show (∀ x∈ks,RT_ x)/\(k≠0->k≠1->k≠10->w=[])
 rw [Zb] at h
 split at h
 .grind
 .split at h
  .grind
  .split at h
   .cases h
   .split at h
    .simp only [Q4] at h
     exact ⟨fun x s=> ⟨⟨_,Z7k h.2 x s⟩,u x s⟩,fun _ h1=> absurd ‹_› h1⟩
    .simp only [Q4,decide_eq_true_eq] at h
     exact ⟨fun x s=> ⟨⟨_,Z7k h.2 x s⟩,u x s⟩,fun _ _ _=> Q6 h.1.2.2.1⟩
theorem ZDN:RT_ Tree.nil:=⟨⟨1,rfl⟩,Z1Z⟩
theorem ZiH{l:List Tree}(h:∀ t∈l,RT_ t)(i:Nat):RT_ (l.getD i Tree.nil):=by
 by_cases hi:i < l.length
 .grind
 .rw [Qz,QZ V0];exact ZDN
theorem ZwR{t:Tree}(h:rng t):InR t.kind/\(∀ x∈t.words,isW x)/\Y6 t.kids:=by obtain ⟨k,w,ks⟩:=t;exact h
theorem Zds{list:Int}{o:Op}{d:Int}(h:Zg list o d=true):o.kind=0\/o.kind=1\/o.kind=2\/o.kind=3:=by
 have r:=ZS h
 cases r with
 | keep=> simp
 | gone=> grind
 | come=> grind
 | into=> grind
end Go.AM.YtpjenobkibfpcaaGreat
namespace Go.AM.YtpjenobkibfpcaaGreat
open Go.AM Go.Proofs
def Rx(x y:List Tree × List Tree):Prop:=EqvL x.1 y.1/\EqvL x.2 y.2
theorem Rx.rfl'(a:Option (List Tree × List Tree)):OptR Rx a a:=by cases a;exact trivial;exact ⟨rfl,rfl⟩
theorem Rx.of{a b:Option (List Tree × List Tree)}(h:a=b):OptR Rx a b:=by rw [h];exact Rx.rfl' b
theorem OptR.trans'{α:Type}{R:α->α->Prop}(ht:∀ x y z,R x y->R y z->R x z){a b c:Option α}(h1:OptR R a b)(h2:OptR R b c):OptR R a c:=by
 cases a <;> cases b <;> cases c <;> first | exact trivial | exact h1.elim | exact h2.elim | exact ht _ _ _ h1 h2
theorem Rx.trans{a b c:Option (List Tree × List Tree)}(h1:OptR Rx a b)(h2:OptR Rx b c):OptR Rx a c:=
 OptR.trans' (fun _ _ _ p q=> ⟨Eq.trans p.1 q.1,Eq.trans p.2 q.2⟩) h1 h2
theorem Z3C(r:Bool):∀ (a b:List Op) (rest out:List Tree),ZL r (a++b) rest out=(ZL r a rest out).bind fun x=> ZL r b x.2 x.1
 | [],b,rest,out=> by rfl
 | o ::s,b,rest,out=> by
  rw [Qw,ZL,ZL]
  cases h:Z4h r o rest out with
  | none=> rfl
  | some x=> rw [Qm,Qm];exact Z3C r s b _ _
theorem ZeP(r:Bool)(o:Op)(rest out:List Tree):ZL r [o] rest out=Z4h r o rest out:=by
 rw [ZL]
 cases Z4h r o rest out with
 | none=> rfl
 | some x=> rfl
theorem Z5u(r:Bool)(a:List Op)(o:Op)(rest out:List Tree):ZL r (a++[o]) rest out=(ZL r a rest out).bind fun x=> Z4h r o x.2 x.1:=by
 rw [Z3C]
 congr 1
 funext x
 exact ZeP r o _ _
theorem Z5t{r:Bool}:∀ {os:List Op} {rest out:List Tree} {x:List Tree × List Tree},ZL r os rest out=some x->∃ n,x.2=rest.drop n
 | [],rest,out,x,h=> by rw [ZL] at h;cases h;exact ⟨0,by simp⟩
 | o ::s,rest,out,x,h=> by
  rw [ZL] at h
  obtain ⟨y,d,hx⟩:=Ql.1 h
  obtain ⟨n,hn⟩:=Z5t hx
  have:∃ m,y.2=rest.drop m:=by
   rw [Yv] at d
   split at d
   .grind
   .split at d
    .grind
    .split at d
     .cases d;exact ⟨0,by simp⟩
     .split at d
      .cases d
      .obtain ⟨u,_,e⟩:=Qj.1 d
       grind
  obtain ⟨m,hm⟩:=this
  exact ⟨m+n,by simp_all⟩
theorem ZqI(rest:List Tree):Jw [] rest=true:=by unfold Jw;simp_all
theorem Zkc(l rest:List Tree):Jw (Z8 l) rest=Jw l rest:=by
 unfold Jw
 rw [Z2S,show (Z8 l).length=l.length by simp [Z8]]
theorem Z3A(l rest:List Tree):Jw l rest=true↔l.length<=rest.length/\Z8 l=Z8 (rest.take l.length):=by
 unfold Jw
 rw [Q4,decide_eq_true_eq,Z1e]
theorem ZqK(a b rest:List Tree):Jw (a++b) rest=(Jw a rest && Jw b (rest.drop a.length)):=by
 rw [Qo,Q4,Z3A,Z3A,Z3A]
 simp only [Qb,QX]
 constructor
 .rintro ⟨u,d⟩
  rw [Yj,List.take_add,Yj] at d
  obtain ⟨s,h⟩:=Ki d (by simp [Z8];omega)
  grind
 .rintro ⟨⟨u,d⟩,s,h⟩
  refine ⟨V0,?_⟩
  rw [Yj,List.take_add,Yj,d,h]
theorem Z9x(s:Wst)(rest out:List Tree):ZL false (Z9 s).out rest out=(ZL false s.out rest out).bind fun x=> if Jw s.gone x.2=true then some (x.1++s.brought,x.2.drop s.gone.length) else none:=by
 simp only [Z9,Jo]
 rw [Z3C]
 congr 1
 funext x
 rw [Z3C]
 have d:ZL false (if s.gone.length=0 then [] else [⟨1,0,s.gone,Edit.nil⟩]) x.2 x.1=if Jw s.gone x.2=true then some (x.1,x.2.drop s.gone.length) else none:=by
  split
  .rename_i h
   rw [Q6 h,ZqI,if_pos rfl,ZL]
   try rfl
  .rw [ZeP,Yv]
   rw [if_neg (by show ¬(1:Int)=0;omega),if_pos rfl]
 have u:∀ y:List Tree × List Tree,ZL false (if s.brought.length=0 then [] else [⟨2,0,s.brought,Edit.nil⟩]) y.2 y.1=some (y.1++s.brought,y.2):=by
  intro y
  split
  .rename_i h
   rw [Q6 h,Qn,ZL]
  .rw [ZeP,Yv]
   rw [if_neg (by show ¬(2:Int)=0;omega),if_neg (by show ¬(2:Int)=1;omega),if_pos rfl]
 rw [d]
 split
 .rw [Qm,u]
 .try rfl
theorem Zyw{F:List Op}{n:Int}(hF:∀ o∈F,0<=o.n)(hn:0<=n)(rest out:List Tree):ZL false (YD F n) rest out=ZL false (F++[⟨0,n,[],Edit.nil⟩]) rest out:=by
 rcases YI F n with h | ⟨a,o,h1,h2,h3⟩
 .rw [h]
 .rw [h3,h1,Z5u,Z5u,Z5u]
  cases hx:ZL false a rest out with
  | none=> rfl
  | some x=>
   have d:=hF o (by rw [h1];simp)
   simp only [Qm]
   rw [Yv,Yv,if_pos h2,if_pos h2]
   simp only
   have e:(o.n+n).toNat=o.n.toNat+n.toNat:=V0
   rw [e]
   by_cases c:o.n.toNat<=x.2.length
   .rw [if_pos c,Qm,Yv,if_pos rfl]
    simp only [QX]
    by_cases c2:n.toNat<=x.2.length - o.n.toNat
    .rw [if_pos c2,Yu,K7,Qi,<-List.take_add]
    grind
   .rw [if_neg c,Jk]
    try rfl
def N0s(s:Wst):Prop:=∀ o∈s.out,0<=o.n
theorem N0s.flush{s:Wst}(h:N0s s):∀ o∈(Z9 s).out,0<=o.n:=by
 intro o d
 simp only [Z9,Jo,Qg] at d
 rcases d with d | d | d
 .exact h o d
 .split at d
  .cases d
  .simp only [Qp] at d;subst d;exact X7 0
 .split at d
  .cases d
  .simp only [Qp] at d;subst d;exact X7 0
theorem N0s.keep{s:Wst}(h:N0s s){n:Int}(hn:0<=n):N0s (ZU s n):=by
 intro o d
 simp only [ZU] at d
 rcases YI (Z9 s).out n with e | ⟨a,p,h1,h2,h3⟩
 .rw [e] at d
  rcases Qg.1 d with d | d
  .exact h.flush o d
  grind
 .rw [h3] at d
  rcases Qg.1 d with d | d
  .exact h.flush o (by grind)
  .simp only [Qp] at d;subst d
   have:=h.flush p (by rw [h1];simp)
   grind
theorem Zn0{list d:Int}{o:Op}(h:Zg list o d=true):0<=o.n:=by
 have r:=ZS h
 cases r with
 | keep n h1=> grind
 | gone | come | into=> grind
theorem N0s.op{list d:Int}{s:Wst}{o:Op}(h:N0s s)(hr:Zg list o d=true):N0s (JS list o s):=by
 rw [YW]
 split
 .exact h.keep (Zn0 hr)
 .split
  .exact h
  .split
   .exact h
   .split
    .split
     .exact h.keep V0
     .intro p u
      rcases Qg.1 u with u | u
      .exact h.flush p u
      grind
    .exact h
def K9(list:Int)(l:List Tree):Prop:=(∀ t∈l,RT_ t)/\(list=9->∀ t∈l,t.kind=1)
theorem K9.drop{list:Int}{l:List Tree}(h:K9 list l)(n:Nat):K9 list (l.drop n):=⟨fun t d=> h.1 t (Xw d),fun e t d=> h.2 e t (Xw d)⟩
theorem Zn1{d:Int}:∀ {l:List Tree},Y2 9 l d=true->∀ t∈l,t.kind=1
 | [],_,t,ht=> by cases ht
 | a ::r,h,t,ht=> by
  simp only [Y2,Q4] at h
  rcases Q9.1 ht with rfl | ht
  .have:=h.1.1
   simpa [Z1x] using this
  .exact Zn1 h.2 t ht
theorem RT_.k9{t:Tree}(h:RT_ t):K9 t.kind t.kids:=by
 refine ⟨h.kids.1,fun e=> ?_⟩
 obtain ⟨⟨d,h⟩,_⟩:=h
 obtain ⟨k,w,ks⟩:=t
 have e:k=9:=e
 subst e
 rw [Zb,Jk,Jk] at h
 split at h
 .cases h
 .rw [Jk] at h
  simp only [Q4] at h
  exact Zn1 h.2
theorem ZwM {list d:Int} {s:Wst} {o:Op} (hs:N0s s) (hr:Zg list o d=true) {rest:List Tree} (hk:K9 list rest) (out:List Tree)
  (ih:∀ y,RT_ y->Z5 o.e d=true->OptR Eqv (doE false (Zi o.e) y) (doE false o.e y)):
  OptR Rx (ZL false (Z9 (JS list o s)).out rest out) ((ZL false (Z9 s).out rest out).bind fun x=> Z4h false o x.2 x.1):=by
 have keep:∀ n:Int,0<=n->ZL false (Z9 (ZU s n)).out rest out=(ZL false (Z9 s).out rest out).bind fun x=> Z4h false ⟨0,n,[],Edit.nil⟩ x.2 x.1:=by
  intro n hn
  have e:(Z9 (ZU s n)).out=YD (Z9 s).out n:=by simp [Z9,Jo,ZU]
  rw [e,Zyw hs.flush hn,Z5u]
 rw [YW]
 have r1:=Zds hr
 by_cases h0:o.kind=0
 .rw [if_pos h0,keep _ (Zn0 hr)]
  refine Rx.of ?_
  congr 1
  funext x
  rw [Yv,Yv,if_pos rfl,if_pos h0]
 .rw [if_neg h0]
  by_cases h1:o.kind=1
  .rw [if_pos h1,Z9x,Z9x]
   refine Rx.of ?_
   rw [Ka]
   congr 1
   funext x
   simp only
   rw [ZqK,Zkc]
   by_cases c:Jw s.gone x.2=true
   .rw [if_pos c,c,QB,Qm,Yv,if_neg h0,if_pos h1]
    simp only
    rw [K7,show (s.gone++Z8 o.l).length=s.gone.length+o.l.length by simp [Z8]]
   grind
  .rw [if_neg h1]
   by_cases h2:o.kind=2
   .rw [if_pos h2,Z9x,Z9x,Ka]
    refine OptR.bind (R:=Eq) (OptR.rfl' _) ?_
    rintro x _ rfl
    simp only
    split
    .rw [Qm,Yv,if_neg h0,if_neg h1,if_pos h2]
     refine ⟨?_,rfl⟩
     show Z8 (x.1++(s.brought++Z8 o.l))=Z8 (x.1++s.brought++o.l)
     simp only [Yj,Z2S,Qi]
    .exact trivial
   .have h3:o.kind=3:=by rcases r1 with h | h | h | h <;> first | exact absurd h h0 | exact absurd h h1 | exact absurd h h2 | exact h
    rw [if_neg h2,if_pos h3]
    have ah:=J4 hr h3
    have ra:=ZS hr
    by_cases hi:Zbs list (Zi o.e)=true
    .rw [if_pos hi,keep 1 V0]
     cases hx:ZL false (Z9 s).out rest out with
     | none=> exact trivial
     | some x=>
      obtain ⟨m,hm⟩:=Z5t hx
      have aa:=hk.drop m
      rw [<-hm] at aa
      simp only [Qm]
      rw [Yv,Yv,if_pos rfl,if_neg h0,if_neg h1,if_neg h2]
      cases hx2:x.2 with
      | nil=> exact trivial
      | cons y q=>
       rw [hx2] at aa
       have af:o.e.kind≠0:=by
        cases ra with
        | into e _ h=> exact h
        | keep | gone | come=> grind
       simp only [Zbs,decide_eq_true_eq,Zad] at hi
       rcases hi with hi | ⟨hl9,he2,hw,hks⟩
       .omega
       .have hy:=aa.2 hl9 y Q8
        have hn:=Z46 o.e
        rw [Jk,if_pos he2] at hn
        have e1:o.e.words=[]:=by rw [hn] at hw;exact Q6 hw
        have e2:o.e.kids=[]:=by
         rw [hn] at hks
         have:(Jc o.e.kids).length=0:=hks
         cases hh:o.e.kids with
         | nil=> rfl
         | cons a b=> rw [hh] at this;trivial
        have hd:doE false o.e y=some (.mk 1 y.words y.kids):=by
         rw [Z0I,if_neg af,Jk,if_pos he2,if_pos hy,e1,e2,wsD,Qm,JQ]
         try rfl
        rw [if_neg (show ¬(y ::q).length=0 by simp),Qk,hd,if_pos (show Int.toNat 1<=(y ::q).length by simp)]
        refine ⟨?_,rfl⟩
        show Z8 (x.1++[y])=Z8 (x.1++[Tree.mk 1 y.words y.kids])
        rw [show Tree.mk 1 y.words y.kids=y by rw [<-hy];exact Tree.eta y]
    .rw [if_neg hi]
     have e:(Z9 ⟨(Z9 s).out++[⟨3,0,[],Zi o.e⟩],[],[]⟩).out=(Z9 s).out++[⟨3,0,[],Zi o.e⟩]:=by simp [Z9,Jo]
     rw [e,Z5u]
     cases hx:ZL false (Z9 s).out rest out with
     | none=> exact trivial
     | some x=>
      obtain ⟨m,hm⟩:=Z5t hx
      have aa:=hk.drop m
      rw [<-hm] at aa
      simp only [Qm]
      rw [Yv,Yv,if_neg h0,if_neg h1,if_neg h2,if_neg (by grind),if_neg (by grind),if_neg (by grind)]
      refine OptR.ite QJ (fun _=> trivial) fun _=> ?_
      exact (ih _ (ZiH aa.1 0) ah).map fun u v h=> ⟨Z25 rfl (Zae.2 h),rfl⟩
mutual
theorem Z5a:∀ (e:Edit) (d:Int) (t:Tree),Z5 e d=true->RT_ t->OptR Eqv (doE false (Zi e) t) (doE false e t)
 | .mk k o n w ks l os,d,t,hr,ht=> by
  have ri:=Zn hr
  have h1:=ZjG ks
  have h2:=ZjF l os
  have aa:=ht.kids.1
  have s:Zi (.mk k o n w ks l os)=if k=1 then .mk k (Z3 o) (Z3 n) [] [] l [] else if k=2 then .mk k Tree.nil Tree.nil w (Jc ks) l [] else if k=3 then .mk k Tree.nil Tree.nil [] [] l (Z9 (ZA l os ⟨[],[],[]⟩)).out else .mk k Tree.nil Tree.nil [] [] l []:=by rw [Zi]
  rw [Z9A,Z9A,YL,YL]
  by_cases c1:k=1
  .subst c1
   rw [if_pos rfl] at s
   unfold Zq8
   rw [s]
   refine OptR.ite QJ (fun _=> rfl) fun _=> OptR.ite QJ (fun _=> ?_) (fun h=> absurd rfl h)
   show OptR Eqv (if ZY (Z3 (Z3 o)) (Z3 t)=true then some (Z3 n) else none) (if ZY (Z3 o) (Z3 t)=true then some n else none)
   rw [Yb]
   exact OptR.ite QJ (fun _=> Yb n) (fun _=> trivial)
  .by_cases c2:k=2
   .subst c2
    rw [if_neg c1,if_pos rfl] at s
    unfold Zq8
    rw [s]
    refine OptR.ite QJ (fun _=> rfl) fun _=> OptR.ite QJ (fun h=> absurd h c1) fun _=> OptR.ite QJ (fun _=> ?_) (fun h=> absurd rfl h)
    refine OptR.ite QJ (fun ab=> ?_) (fun _=> trivial)
    refine OptR.bind (R:=Eq) (OptR.rfl' _) ?_
    rintro a _ rfl
    exact (h1 (d - 1) t.kids t.kids t.kids (fun k hk=> (Zv ri.kids k hk).2) aa rfl).map fun x y h=> Zei _ _ h
   .by_cases c3:k=3
    .subst c3
     rw [if_neg c1,if_neg c2,if_pos rfl] at s
     unfold Zq8
     rw [s]
     refine OptR.ite QJ (fun _=> rfl) fun _=> OptR.ite QJ (fun h=> absurd h c1) fun _=> OptR.ite QJ (fun h=> absurd h c2) fun _=> OptR.ite QJ (fun _=> ?_) (fun h=> absurd rfl h)
     refine OptR.ite QJ (fun ab=> ?_) (fun _=> trivial)
     have u:=ht.k9
     rw [ab] at u
     have:=h2 (d - 1) ⟨[],[],[]⟩ t.kids [] (fun o ho=> Go.AM.rightOs_mem ri.ops o ho) (fun o ho=> by cases ho) u
     exact (Zkl this).map fun x y h=> Zei _ _ h
    .have e0:k=0:=by have:=ri.kind;have:0<=k/\k<=3:=this;omega
     subst e0
     try rfl
theorem ZjG:∀ (ks:List (KidOf Edit)) (d:Int) (tk a b:List Tree),(∀ k∈ks,Z5 k.e d=true)->(∀ t∈tk,RT_ t)->EqvL a b->OptR EqvL (JQ false tk (Jc ks) a) (JQ false tk ks b)
 | [],d,tk,a,b,_,_,h=> by trivial
 | k ::r,d,tk,a,b,hr,ht,h=> by
  rw [Jc,JQ,JQ]
  have e:(JY k).at_=k.at_:=by cases k;rfl
  rw [e]
  refine (Zqk k d tk (hr k Q8) ht).bind fun x y s=> ZjG r d tk _ _ (fun q u=> hr q (Q7 _ u)) ht (Zqm h s)
theorem Zqk:∀ (k:KidOf Edit) (d:Int) (tk:List Tree),Z5 k.e d=true->(∀ t∈tk,RT_ t)->OptR Eqv (Z2A false tk (JY k)) (Z2A false tk k)
 | ⟨a,e⟩,d,tk,hr,ht=> by rw [JY,Z2A,Z2A];exact Z5a e d _ hr (ZiH ht _)
theorem ZjF(list:Int):∀ (os:List (OpOf Edit)) (d:Int) (s:Wst) (rest out:List Tree),(∀ o∈os,Zg list o d=true)->N0s s->K9 list rest->OptR Rx (ZL false (Z9 (ZA list os s)).out rest out) (ZL false ((Z9 s).out++os) rest out)
 | [],d,s,rest,out,_,_,_=> by rw [ZA,Qn];exact Rx.rfl' _
 | o ::r,d,s,rest,out,hr,hs,hk=> by
  have ho:=hr o Q8
  have st:=ZwM hs ho hk out (Ztv o d)
  rw [ZA]
  refine Rx.trans (ZjF list r d _ rest out (fun q u=> hr q (Q7 _ u)) (hs.op ho) hk) ?_
  rw [Z3C,Z3C]
  have e:∀ x:List Tree × List Tree,ZL false (o ::r) x.2 x.1=(Z4h false o x.2 x.1).bind fun y=> ZL false r y.2 y.1:=fun x=> by rw [ZL]
  rw [show (fun x:List Tree × List Tree=> ZL false (o ::r) x.2 x.1)=fun x=> (Z4h false o x.2 x.1).bind fun y=> ZL false r y.2 y.1 from funext e,<-Ka]
  exact st.bind fun x y h=> ZeQ r _ _ _ _ h.2 h.1 (fun q u=> ⟨_,_,hr q (Q7 _ u)⟩)
theorem Ztv:∀ (o:OpOf Edit) (d:Int),∀ y,RT_ y->Z5 o.e d=true->OptR Eqv (doE false (Zi o.e) y) (doE false o.e y)
 | ⟨_,_,_,e⟩,d,y,hy,hr=> Z5a e d y hr hy
end
theorem ZnE{α β:Type}{z:α}{f:β->Option α}{p:β->Int}:∀ {ws:List β} {out:List α},(∀ w∈ws,∃ v,f w=some v)->∃ r,mg z f p ws out=some r
 | [],out,_=> ⟨out,rfl⟩
 | w ::s,out,h=> by
  obtain ⟨v,d⟩:=h w Q8
  rw [mg,d,Qm]
  exact ZnE fun x u=> h x (Q7 _ u)
theorem Zmy{l:List Int}(h:∀ x∈l,isW x)(i:Nat):isW (l.getD i 0):=by
 by_cases hi:i < l.length
 .grind
 .rw [Qz,QZ V0];trivial
theorem Zbd:∀ {ks:List Kid} {k:Kid},k∈ks->Za k.e<=ZR ks
 | ⟨_,_⟩ ::r,k,h=> by
  rcases Q9.1 h with rfl | h
  .simp only [ZR,Z07];omega
  .have:=Zbd h;simp only [ZR];omega
theorem Zbc:∀ {os:List Op} {o:Op},o∈os->Zy o<=Zl os
 | a ::r,o,h=> by
  rcases Q9.1 h with rfl | h
  .simp only [Zl];omega
  .have:=Zbc h;simp only [Zl];omega
theorem Zqu(o:Op):Za o.e<=Zy o:=by obtain ⟨k,n,l,e⟩:=o;simp only [Zy];omega
theorem Yc{e:Edit}{k:Kid}(h:k∈e.kids):Za k.e < Za e:=by
 obtain ⟨d,o,n,w,ks,l,os⟩:=e
 have:=Zbd (ks:=ks) h
 simp only [Za];omega
theorem YY{e:Edit}{o:Op}(h:o∈e.ops):Za o.e < Za e:=by
 obtain ⟨d,s,n,w,ks,l,os⟩:=e
 have:=Zbc (os:=os) h
 have:=Zqu o
 simp only [Za];omega
mutual
theorem Ja:∀ (t:Tree) (d m:Int),m < 0->Zb t d=true->Zb t m=true
 | .mk k w ks,d,m,hm,h=> by
  rw [Zb] at h ⊢
  by_cases h0:k=0
  .grind
  .rw [if_neg h0] at h ⊢
   by_cases h1:k=10
   .grind
   .rw [if_neg h1] at h ⊢
    by_cases h2:d=0
    .grind
    .rw [if_neg h2] at h
     rw [Jk]
     by_cases h3:k=1
     .rw [if_pos h3,Q4] at h ⊢
      exact ⟨h.1,Z7j 1 ks (d - 1) (m - 1) V0 h.2⟩
     .rw [if_neg h3,Q4] at h ⊢
      exact ⟨h.1,Z7j k ks (d - 1) (m - 1) V0 h.2⟩
theorem Z7j(list:Int):∀ (ks:List Tree) (d m:Int),m < 0->Y2 list ks d=true->Y2 list ks m=true
 | [],_,_,_,_=> rfl
 | t ::r,d,m,hm,h=> by
  simp only [Y2,Q4] at h ⊢
  exact ⟨⟨h.1.1,Ja t d m hm h.1.2⟩,Z7j list r d m hm h.2⟩
end
theorem RT_.neg{t:Tree}(h:RT_ t):Zb t (-1)=true:=by
 obtain ⟨⟨d,h⟩,_⟩:=h
 exact Ja t d (-1) V3 h
theorem Z2j{list d:Int}:∀ {ks:List Tree},Y2 list ks d=true↔∀ t∈ks,Z1x list t=true/\Zb t d=true
 | []=> by simp [Y2]
 | t ::r=> by
  simp only [Y2,Q4,Z2j (ks:=r),Q9,forall_eq_or_imp]
theorem Z4U{t:Tree}(h:Zb t (-1)=true):t.kind≠0->t.kind≠10->
  (t.kind=1->t.words.length < 65536/\t.kids.length < 65536)/\(t.kind≠1->(2<=t.kind/\t.kind<=9)/\t.words=[]/\t.kids.length < 1048576)/\∀ k∈t.kids,Z1x t.kind k=true/\Zb k (-1)=true:=by
 obtain ⟨k,w,ks⟩:=t
 intro s u
 have s:k≠0:=s
 have u:k≠10:=u
 rw [Zb,if_neg s,if_neg u,if_neg V3] at h
 by_cases h3:k=1
 .rw [if_pos h3,Q4,decide_eq_true_eq,Z2j] at h
  subst h3
  exact ⟨fun _=> h.1,fun e=> absurd rfl e,fun x d=> ⟨(h.2 x d).1,Ja _ _ _ V3 (h.2 x d).2⟩⟩
 .rw [if_neg h3,Q4,decide_eq_true_eq,Z2j] at h
  exact ⟨fun e=> absurd e h3,fun _=> ⟨⟨h.1.1,h.1.2.1⟩,Q6 h.1.2.2.1,h.1.2.2.2⟩,fun x d=> ⟨(h.2 x d).1,Ja _ _ _ V3 (h.2 x d).2⟩⟩
theorem ZgS{w:List Int}{ks:List Tree}(h1:w.length < 65536)(h2:ks.length < 65536)(h:∀ k∈ks,Z1x 1 k=true/\Zb k (-1)=true):Zb (.mk 1 w ks) (-1)=true:=by
 rw [Zb,if_neg V3,if_neg V3,if_neg V3,if_pos rfl,Q4,decide_eq_true_eq,Z2j]
 exact ⟨⟨h1,h2⟩,fun x d=> ⟨(h x d).1,Ja _ _ _ V3 (h x d).2⟩⟩
theorem ZkW{l:Int}{ks:List Tree}(hl:2<=l/\l<=9)(h2:ks.length < 1048576)(h:∀ k∈ks,Z1x l k=true/\Zb k (-1)=true):Zb (.mk l [] ks) (-1)=true:=by
 rw [Zb,Jk,Jk,if_neg V3,Jk,Q4,decide_eq_true_eq,Z2j]
 exact ⟨⟨hl.1,hl.2,rfl,h2⟩,fun x d=> ⟨(h x d).1,Ja _ _ _ V3 (h x d).2⟩⟩
theorem Z0l{D list:Int}:∀ {l:List Tree},Y9 D list l=true->∀ t∈l,Zb (.mk list [] [t]) D=true
 | a ::r,h,t,ht=> by
  simp only [Y9,Q4] at h
  rcases Q9.1 ht with rfl | ht
  .exact h.1
  .exact Z0l h.2 t ht
theorem Zfc{D list:Int}(hl:2<=list/\list<=9){l:List Tree}(h:Y9 D list l=true):∀ t∈l,Z1x list t=true/\Zb t (-1)=true:=by
 intro t d
 have:=Z4U (Ja _ _ (-1) V3 (Z0l h t d)) (by show list≠0;omega) (by show list≠10;omega)
 simp_all
inductive Run:List Op->List Tree->List Tree->Prop
 | nil:Run [] [] []
 | keep {o r a s d}:o.kind=0->(a.length:Int)=o.n->Run r s d->Run (o ::r) (a++s) (a++d)
 | gone {o r a s d}:o.kind=1->Z8 o.l=Z8 a->Run r s d->Run (o ::r) (a++s) d
 | come {o r s d}:o.kind=2->Run r s d->Run (o ::r) s (o.l++d)
 | into {o r x y s d}:o.kind=3->doE false o.e x=some y->Run r s d->Run (o ::r) (x ::s) (y ::d)
def kOk(o:Op):Prop:=(o.kind=0/\0<=o.n)\/o.kind=1\/o.kind=2\/o.kind=3
theorem Zsh:∀ {os:List Op} {s d:List Tree},Run os s d->∀ out,ZL false os s out=some (out++d,[]):=by
 intro os s d h
 induction h with
 | nil=> intro out;simp [ZL]
 | keep h0 hn hr0 ih=>
  rename_i o r a s d
  intro out
  rw [ZL,Yv,if_pos h0,if_pos (by grind),show o.n.toNat=a.length by omega]
  grind
 | gone h1 hn hr0 ih=>
  rename_i o r a s d
  intro out
  have hl:=Z3k hn
  rw [ZL,Yv,Jk,if_pos h1,if_pos]
  .grind
  .rw [Z3A,hl,List.take_left]
   grind
 | come h2 hr0 ih=>
  intro out
  rw [ZL,Yv,Jk,Jk,if_pos h2]
  grind
 | into h3 he hr0 ih=>
  intro out
  rw [ZL,Yv,Jk,Jk,Jk,if_neg (by simp)]
  grind
theorem ZeO:∀ {os:List Op} {s out:List Tree} {x:List Tree × List Tree},(∀ o∈os,kOk o)->ZL false os s out=some x->x.2=[]->∃ d,x.1=out++d/\Run os s d
 | [],s,out,x,_,h,u=> by
  rw [ZL] at h
  cases h
  have u:s=[]:=u
  subst u
  exact ⟨[],by simp,.nil⟩
 | o ::r,s,out,x,hk,h,u=> by
  rw [ZL,Yv] at h
  have hr:∀ o∈r,kOk o:=fun o ho=> hk o (Q7 _ ho)
  rcases hk o Q8 with h0 | h1 | h2 | h3
  .rw [if_pos h0.1] at h
   split at h
   .rename_i hl
    simp only [Qm] at h
    obtain ⟨d,e,hd⟩:=ZeO hr h u
    refine ⟨s.take o.n.toNat++d,by grind,?_⟩
    have:=Run.keep (a:=s.take o.n.toNat) h0.1 (by grind) hd
    simp_all
   .cases h
  .rw [Jk,if_pos h1] at h
   split at h
   .rename_i hg
    obtain ⟨g1,g2⟩:=(Z3A _ _).1 hg
    simp only [Qm] at h
    obtain ⟨d,e,hd⟩:=ZeO hr h u
    refine ⟨d,e,?_⟩
    have:=Run.gone (a:=s.take o.l.length) h1 g2 hd
    simp_all
   .cases h
  .rw [Jk,Jk,if_pos h2] at h
   simp only [Qm] at h
   obtain ⟨d,e,hd⟩:=ZeO hr h u
   exact ⟨o.l++d,by grind,.come h2 hd⟩
  .rw [Jk,Jk,Jk] at h
   split at h
   .cases h
   .rename_i hl
    obtain ⟨y,hy,h⟩:=Ql.1 h
    obtain ⟨z,hz,rfl⟩:=Qj.1 hy
    obtain ⟨d,e,hd⟩:=ZeO hr h u
    cases s with
    | nil=> simp at hl
    | cons x0 s=>
     refine ⟨z ::d,by rw [e];simp,.into h3 (by simpa using hz) (by simpa using hd)⟩
theorem ZhS{os:List Op}{s d:List Tree}(hk:∀ o∈os,kOk o):Z3B (ZL false os s [])=some d↔Run os s d:=by
 constructor
 .intro h
  unfold Z3B at h
  obtain ⟨x,u,h⟩:=Ql.1 h
  split at h
  .rename_i hl
   cases h
   obtain ⟨d,e,hd⟩:=ZeO hk u (Q6 hl)
   grind
  .cases h
 .intro h
  have:=Zsh h []
  unfold Z3B
  grind
theorem ZqG{list d:Int}{o:Op}(h:Zg list o d=true):kOk o:=by
 have:=ZS h
 cases this with
 | keep n h1=> exact .inl ⟨rfl,by grind⟩
 | gone=> exact .inr (.inl rfl)
 | come=> exact .inr (.inr (.inl rfl))
 | into=> exact .inr (.inr (.inr rfl))
theorem ZgR:∀ {os:List Op} {s d:List Tree},Run os s d->(∀ o∈os,ZP o)->(s.length:Int)=YK os/\(d.length:Int)=Yi os:=by
 intro os s d h
 induction h with
 | nil=> intro _;simp [YK,Yi]
 | keep h0 hn hr0 ih=>
  rename_i o r a s d
  intro hk
  obtain ⟨i1,i2⟩:=ih fun o u=> hk o (Q7 _ u)
  have u:=hk o Q8
  have hl:Z2 o=o.n:=by
   rcases u with h | h | h
   .unfold Z2;rw [Jk,h.2.1];simp
   .omega
   .omega
  simp only [YK,Yi,Qb]
  rw [Jk,Jk,hl]
  omega
 | gone h1 hn hr0 ih=>
  rename_i o r a s d
  intro hk
  obtain ⟨i1,i2⟩:=ih fun o u=> hk o (Q7 _ u)
  have u:=hk o Q8
  have hl:Z2 o=a.length:=by
   have:=Z3k hn
   rcases u with h | h | h
   .omega
   .unfold Z2;rw [Jk,h.2.1];omega
   .omega
  simp only [YK,Yi,Qb]
  rw [Jk,if_pos h1,hl]
  omega
 | come h2 hr0 ih=>
  rename_i o r s d
  intro hk
  obtain ⟨i1,i2⟩:=ih fun o u=> hk o (Q7 _ u)
  have u:=hk o Q8
  have hl:Z2 o=o.l.length:=by
   rcases u with h | h | h
   .omega
   .unfold Z2;rw [Jk,h.2.1];omega
   .omega
  simp only [YK,Yi,Qb]
  rw [if_pos h2,Jk,hl]
  omega
 | into h3 he hr0 ih=>
  rename_i o r x y s d
  intro hk
  obtain ⟨i1,i2⟩:=ih fun o u=> hk o (Q7 _ u)
  have hl:Z2 o=1:=by unfold Z2;rw [if_pos h3]
  simp only [YK,Yi,Qs]
  rw [Jk,Jk,hl]
  omega
theorem Zkq{r:Bool}{tk:List Tree}:∀ {ks:List Kid} {out b:List Tree},JQ r tk ks out=some b->(∀ k∈ks,k.at_<=65534)->
  b.length<=max out.length 65535/\∀ y∈b,y∈out\/y=Tree.nil\/∃ k∈ks,doE r k.e (tk.getD k.at_.toNat Tree.nil)=some y
 | [],out,b,h,_=> by
  rw [JQ] at h
  cases h
  exact ⟨V0,fun y d=> .inl d⟩
 | k ::s,out,b,h,ha=> by
  rw [JQ,ZeR] at h
  obtain ⟨v,hv,hb⟩:=Ql.1 h
  obtain ⟨i1,u⟩:=Zkq hb fun x hx=> ha x (Q7 _ hx)
  have:=ha k Q8
  rw [Z6Y] at i1
  refine ⟨V0,fun y d=> ?_⟩
  rcases u y d with h1 | h1 | ⟨q,hq,h1⟩
  .rcases Z7d h1 with h1 | h1 | h1
   .exact .inl h1
   .exact .inr (.inl h1)
   .subst h1
    exact .inr (.inr ⟨k,Q8,hv⟩)
  .exact .inr (.inl h1)
  .exact .inr (.inr ⟨q,Q7 _ hq,h1⟩)
theorem ZwP:∀ {os:List Op} {s d:List Tree},Run os s d->∀ y∈d,y∈s\/(∃ o∈os,o.kind=2/\y∈o.l)\/∃ o∈os,o.kind=3/\∃ x∈s,doE false o.e x=some y:=by
 intro os s d h
 induction h with
 | nil=> grind
 | keep h0 hn hr0 ih=>
  grind
 | gone h1 hn hr0 ih=>
  grind
 | come h2 hr0 ih=>
  grind
 | into h3 he hr0 ih=>
  grind
theorem ZCC{y:Tree}(h:y.kind≠10):Z1x 1 y=true:=by
 unfold Z1x
 grind
theorem Z7G{list d:Int}{os:List Op}(h:Zz list os d=true):∀ o∈os,ZP o:=fun o s=> Zdr (rightOs_mem h s)
theorem Z8O{o:Op}(h:ZP o):0<=Z2 o:=by have:=ZB h;omega
theorem Zcr{e:Edit}{d:Int}{t u:Tree}(hr:Z5 e d=true)(h:doE false e t=some u):(e.kind=1->u=e.new)/\(e.kind=2->u.kind=1/\t.kind=1)/\(e.kind=3->u.kind=e.list/\t.kind=e.list)/\(e.kind=0->u=t):=by
 rw [Z0I,YL] at h
 refine ⟨fun s=> ?_,fun s=> ?_,fun s=> ?_,fun s=> ?_⟩
 .grind
 .rw [Jk,Jk,if_pos s] at h
  split at h
  .rename_i ht
   obtain ⟨a,ha,h⟩:=Ql.1 h
   obtain ⟨b,hb,rfl⟩:=Qj.1 h
   simp_all
  .cases h
 .rw [Jk,Jk,Jk,if_pos s] at h
  split at h
  .rename_i ht
   obtain ⟨b,hb,rfl⟩:=Qj.1 h
   simp_all
  .cases h
 grind
theorem ZqQ:∀ (n:Nat) (e:Edit) (d:Int) (t u:Tree),Za e<=n->Z5 e d=true->Zb t (-1)=true->doE false e t=some u->Zb u (-1)=true/\(e.kind≠0->u.kind≠10):=by
 intro n
 induction n with
 | zero=> intro e d t u hm;obtain ⟨k,o,nw,w,ks,l,os⟩:=e;simp only [Za] at hm;omega
 | succ n ih=>
  intro e d t u hm hr ht h
  have R:=Zn hr
  obtain ⟨k1,k2,k3,k0⟩:=Zcr hr h
  have hk:=R.kind
  by_cases h0:e.kind=0
  .grind
  by_cases h1:e.kind=1
  .rw [k1 h1]
   obtain ⟨r1,r2,r3,r4⟩:=R.rep h1
   exact ⟨Ja _ _ _ V3 r2,fun _=> r4⟩
  by_cases h2:e.kind=2
  .obtain ⟨u1,t1⟩:=k2 h2
   refine ⟨?_,fun _=> by omega⟩
   rw [Z0I,YL,if_neg h0,if_neg h1,if_pos h2,if_pos t1] at h
   obtain ⟨a,ha,h⟩:=Ql.1 h
   obtain ⟨b,hb,rfl⟩:=Qj.1 h
   obtain ⟨p1,_,p3⟩:=Z4U ht V0 V0
   have p1:=p1 t1
   rw [t1] at p3
   have hl:=ZgA R.words ha
   have aa:=Zv R.kids
   obtain ⟨m1,m2⟩:=Zkq hb fun k hk=> (aa k hk).1.2.1
   refine ZgS V0 V0 fun y hy=> ?_
   rcases m2 y hy with h | rfl | ⟨k,hk,h⟩
   .exact p3 y h
   .trivial
   .have hx:Zb (t.kids.getD k.at_.toNat Tree.nil) (-1)=true:=by
     by_cases hi:k.at_.toNat < t.kids.length
     .grind
     .rw [Qz,QZ V0];try rfl
    obtain ⟨g1,g2⟩:=ih k.e _ _ y (by have:=Yc hk;omega) (aa k hk).2 hx h
    exact ⟨ZCC (g2 (aa k hk).1.2.2),g1⟩
  .have h3:e.kind=3:=V0
   obtain ⟨u1,t1⟩:=k3 h3
   have ah:=R.list h3
   refine ⟨?_,fun _=> by omega⟩
   rw [Z0I,YL,if_neg h0,if_neg h1,if_neg h2,if_pos h3,if_pos t1] at h
   obtain ⟨b,hb,rfl⟩:=Qj.1 h
   have ho:∀ o∈e.ops,Zg e.list o (d - 1)=true:=fun o h=> rightOs_mem R.ops h
   have s:=(ZhS (fun o h=> ZqG (ho o h))).1 hb
   obtain ⟨_,q2⟩:=ZgR s (Z7G R.ops)
   obtain ⟨q3,q4⟩:=Z0E e.ops 0 (fun o h=> Z8O (Z7G R.ops o h)) V3 V3
   have q5:=R.len.2
   obtain ⟨_,_,p3⟩:=Z4U ht V0 V0
   rw [t1] at p3
   refine ZkW ah V0 fun y hy=> ?_
   rcases ZwP s y hy with h | ⟨o,hoo,hk2,hyl⟩ | ⟨o,hoo,hk3,x,hx,h⟩
   .exact p3 y h
   .have:=ZS (ho o hoo)
    cases this with
    | come l h1 h2=> exact Zfc ah h1 y hyl
    | keep | gone | into=> grind
   .have:=ZS (ho o hoo)
    cases this with
    | into e' g1 g2 g3 g4=>
     obtain ⟨f1,f2⟩:=ih e' _ x y (by have:=YY hoo;grind) g1 (p3 x hx).2 h
     refine ⟨?_,f1⟩
     obtain ⟨j1,j2,_,_⟩:=Zcr g1 h
     unfold Z1x
     grind
    | keep | gone | come=> grind
theorem Zko{e:Edit}{d:Int}{t u:Tree}(hr:Z5 e d=true)(ht:RT_ t)(he:Yp e)(h:doE false e t=some u):RT_ u:=
 ⟨⟨-1,(ZqQ _ e d t u (Qf _) hr ht.neg h).1⟩,Zdn false e t u he ht.2 h⟩
end Go.AM.YtpjenobkibfpcaaGreat
namespace Go.AM
def Z0O(m:Nat):Nat->Nat
 | 0=> 0
 | i+1=> Z0O m i+if m / 2 ^ i % 2=1 then 255*2 ^ (8*i) else 0
def Zfb:Nat->Nat->Nat
 | 0,_=> 0
 | k+1,m=> (if m % 2=1 then 255 else 0)+256*Zfb k (m / 2)
def Zb3:Nat->Nat->Nat->Nat
 | 0,_,_=> 0
 | k+1,a,m=> (if m % 2=1 then a % 256 else 0)+256*Zb3 k (a / 256) (m / 2)
def ZjM:Nat->Nat->Nat->Nat->Nat
 | 0,_,_,_=> 0
 | k+1,a,b,m=> (if m % 2=1 then b % 256 else a % 256)+256*ZjM k (a / 256) (b / 256) (m / 2)
theorem Zra(x y u v:Nat)(hu:u < 256)(hv:v < 256):(u+256*x) &&& (v+256*y)=(u &&& v)+256*(x &&& y):=by
 have h:u &&& v < 256:=Nat.and_lt_two_pow (n:=8) u hv
 apply Nat.eq_of_testBit_eq
 intro j
 rw [XE u,XE v,XE (u &&& v),Nat.testBit_and]
 rw [show (256:Nat)=2 ^ 8 from rfl,X8 _ hu,X8 _ hv,X8 _ h]
 grind
theorem Ztq(x y u v:Nat)(hu:u < 256)(hv:v < 256):(u+256*x) ||| (v+256*y)=(u ||| v)+256*(x ||| y):=by
 have h:u ||| v < 256:=Nat.or_lt_two_pow (n:=8) hu hv
 apply Nat.eq_of_testBit_eq
 intro j
 rw [XE u,XE v,XE (u ||| v),Nat.testBit_or]
 rw [show (256:Nat)=2 ^ 8 from rfl,X8 _ hu,X8 _ hv,X8 _ h]
 grind
theorem Zf8:∀ (k a m:Nat),a &&& Zfb k m=Zb3 k a m
 | 0,a,m=> by simp [Zfb,Zb3]
 | k+1,a,m=> by
  have e:a=a % 256+256*(a / 256):=V0
  simp only [Zfb,Zb3]
  rw [<-Zf8 k (a / 256) (m / 2)]
  have h:a &&& ((if m % 2=1 then 255 else 0)+256*Zfb k (m / 2))=(a % 256+256*(a / 256)) &&& ((if m % 2=1 then 255 else 0)+256*Zfb k (m / 2)):=by rw [<-e]
  rw [h,Zra _ _ _ _ V0 (by grind)]
  congr 1
  split
  .have:=Nat.and_two_pow_sub_one_eq_mod (a % 256) 8
   grind
  .simp
theorem Znu:∀ (k a b m n:Nat),(∀ i < k,m / 2 ^ i % 2+n / 2 ^ i % 2=1)->Zb3 k a n ||| Zb3 k b m=ZjM k a b m
 | 0,a,b,m,n,_=> by simp [Zb3,ZjM]
 | k+1,a,b,m,n,h=> by
  simp only [Zb3,ZjM]
  have d:=h 0 V0
  simp only [Nat.pow_zero,Nat.div_one] at d
  rw [Ztq _ _ _ _ (by grind) (by grind),Znu k (a / 256) (b / 256) (m / 2) (n / 2) (fun i s=> by
   have:=h (i+1) V0
   rw [Xo,Xo]
   grind)]
  grind
theorem Zmz:∀ m:Fin 256,Z0O m.1 8=Zfb 8 m.1:=by decide+kernel
theorem Zrn:∀ m:Fin 256,2 ^ 64 - 1 - Zfb 8 m.1=Zfb 8 (255 - m.1):=by decide+kernel
theorem ZvG:∀ m:Fin 256,∀ i:Fin 8,m.1 / 2 ^ i.1 % 2+(255 - m.1) / 2 ^ i.1 % 2=1:=by decide+kernel
theorem Zwn:∀ m:Fin 256,Zfb 8 m.1 < 2 ^ 64:=by decide+kernel
theorem ZtH(a b m:Nat)(hm:m < 256):(a &&& (2 ^ 64 - 1 - Z0O m 8)) ||| (b &&& Z0O m 8)=ZjM 8 a b m:=by
 have h:=Zmz ⟨m,hm⟩
 have d:=Zrn ⟨m,hm⟩
 simp only at h d
 rw [h,d,Zf8,Zf8]
 exact Znu 8 a b m (255 - m) (fun i s=> ZvG ⟨m,hm⟩ ⟨i,s⟩)
def ofK:Nat->(Nat->Nat)->Nat
 | 0,_=> 0
 | k+1,f=> f 0+256*ofK k (fun i=> f (i+1))
theorem ZfV:∀ (k:Nat) {f g:Nat->Nat},(∀ i,f i=g i)->ofK k f=ofK k g
 | 0,_,_,_=> rfl
 | k+1,f,g,h=> by simp only [ofK,h 0,ZfV k (fun i=> h (i+1))]
theorem ZnD:∀ (k a b m:Nat),ZjM k a b m=ofK k (fun i=> if m / 2 ^ i % 2=1 then b / 256 ^ i % 256 else a / 256 ^ i % 256)
 | 0,_,_,_=> rfl
 | k+1,a,b,m=> by
  simp only [ZjM,ofK,Nat.pow_zero,Nat.div_one]
  rw [ZnD k,ZfV k (g:=fun i=> if m / 2 ^ (i+1) % 2=1 then b / 256 ^ (i+1) % 256 else a / 256 ^ (i+1) % 256) (fun i=> ?_)]
  rw [Xo,Xo,Xo,Nat.pow_succ',Nat.pow_succ']
theorem ZtI(a b m:Nat):((ZjM 8 a b m:Nat):Int)=mix a b m:=by
 have nm:∀ i:Nat,Z0n (m:Int) (i:Int)=decide (m / 2 ^ i % 2=1):=by
  intro i
  unfold Z0n
  rw [decide_eq_decide,Xi]
  have:((m:Int) / 2 ^ i % 2:Int)=((m / 2 ^ i % 2:Nat):Int):=by rw [Int.natCast_emod,Int.natCast_ediv,Int.natCast_pow];try rfl
  rw [this];omega
 have d:∀ (x i:Nat),Zk (x:Int) i=((x / 256 ^ i % 256:Nat):Int):=by
  intro x i
  unfold Zk
  rw [Int.natCast_emod,Int.natCast_ediv,Int.natCast_pow]
  try rfl
 have s:∀ i:Nat,Jp (a:Int) (b:Int) (m:Int) i=((if m / 2 ^ i % 2=1 then b / 256 ^ i % 256 else a / 256 ^ i % 256:Nat):Int):=by
  intro i
  unfold Jp
  rw [nm,d,d]
  by_cases h:m / 2 ^ i % 2=1
  .grind
  .grind
 rw [ZnD]
 generalize hf:(fun i=> if m / 2 ^ i % 2=1 then b / 256 ^ i % 256 else a / 256 ^ i % 256)=f
 have u:∀ i,Jp (a:Int) (b:Int) (m:Int) i=(f i:Int):=by intro i;rw [s,<-hf]
 have e:ofK 8 f=f 0+256*(f 1+256*(f 2+256*(f 3+256*(f 4+256*(f 5+256*(f 6+256*(f 7+256*0))))))):=rfl
 rw [e]
 simp only [mix,of8,u]
 omega
def Z1b(list:Int)(e:Edit):Bool:=
 if (2<=list/\list<=7)\/e.kind=0 then false else if list=8\/e.kind=2 then true else decide (e.kind=1/\e.old.kind=1/\e.new.kind=1)
def Z0S(a b:Int):Int:=IntKind.wrap .u8 (BitVec.ofInt (IntKind.bits .u8) a &&& BitVec.ofInt (IntKind.bits .u8) b).toNat
noncomputable def doB(e:Edit)(t:Tree):Tree × Bool:=(Z1o ((doE false e t).map Z3),(doE false e t).isSome)
noncomputable def Z7Q(a b:List Tree):Bool:=eqX (Z8 a) (Z8 b)
noncomputable def ZHx(f:Edit->Edit->Edit × Bool)(p q:AUnit):List Op × Bool:=
 if q.kind=0 then ([opU p],true)
 else if p.kind=0 then ([opU q],true)
 else if p.kind=2/\q.kind=1 then ([],ZY (Z3 p.t) (Z3 q.t))
 else if p.kind=2 then ([⟨2,0,[Z1o (doE true q.e p.t)],Edit.nil⟩],(doE true q.e p.t).isSome)
 else if q.kind=1 then ([⟨1,0,[Z1o (doE true (Zi (ZmB p.e)) q.t)],Edit.nil⟩],(doE true (Zi (ZmB p.e)) q.t).isSome)
 else ([⟨3,0,[],(f p.e q.e).1⟩],(f p.e q.e).2)
def Jx(e:Edit):Prop:=ctE e<=9000000000/\Yp e/\∃ d,Z5 e d=true
def ZwQ(l:List Op):Prop:=Jh l<=9000000000/\Z1A l/\∀ o∈l,∃ list d,Zg list o d=true
def ZgN(o:Op):Prop:=ZP o/\Z4j o<=9000000000/\Z1j o/\(o.kind=3->∃ d,Z5 o.e d=true)
end Go.AM
namespace Go.AM.YtpjenobkibfpcaaGreat
open Go.AM Go.Proofs
theorem J9{o:Op}{r:List Op}{s d:List Tree}(h0:o.kind=0):Run (o ::r) s d↔∃ a u d',s=a++u/\d=a++d'/\(a.length:Int)=o.n/\Run r u d':=by
 constructor
 .intro h
  cases h with
  | keep _ h2 h3=> grind
  | gone h1=> omega
  | come h1=> omega
  | into h1=> omega
 .rintro ⟨a,u,d',rfl,rfl,h2,h3⟩
  exact .keep h0 h2 h3
theorem YN{o:Op}{r:List Op}{s d:List Tree}(h0:o.kind=1):Run (o ::r) s d↔∃ a u,s=a++u/\Z8 o.l=Z8 a/\Run r u d:=by
 constructor
 .intro h
  cases h with
  | gone _ h2 h3=> grind
  | keep h1=> omega
  | come h1=> omega
  | into h1=> omega
 .rintro ⟨a,u,rfl,h2,h3⟩
  exact .gone h0 h2 h3
theorem YU{o:Op}{r:List Op}{s d:List Tree}(h0:o.kind=2):Run (o ::r) s d↔∃ d',d=o.l++d'/\Run r s d':=by
 constructor
 .intro h
  cases h with
  | come _ u=> grind
  | keep h1=> omega
  | gone h1=> omega
  | into h1=> omega
 .rintro ⟨d',rfl,u⟩
  exact .come h0 u
theorem Z0x{o:Op}{r:List Op}{s d:List Tree}(h0:o.kind=3):Run (o ::r) s d↔∃ x u y d',s=x ::u/\d=y ::d'/\doE false o.e x=some y/\Run r u d':=by
 constructor
 .intro h
  cases h with
  | into _ h2 h3=> grind
  | keep h1=> omega
  | gone h1=> omega
  | come h1=> omega
 .rintro ⟨x,u,y,d',rfl,rfl,h2,h3⟩
  exact .into h0 h2 h3
theorem Z5P{o:Op}{p r:List Op}(h:∀ s d,Run p s d↔Run r s d)(hk:kOk o)(s d:List Tree):Run (o ::p) s d↔Run (o ::r) s d:=by
 rcases hk with h0 | h1 | h2 | h3
 .rw [J9 h0.1,J9 h0.1];simp only [h]
 .rw [YN h1,YN h1];simp only [h]
 .rw [YU h2,YU h2];simp only [h]
 .rw [Z0x h3,Z0x h3];simp only [h]
theorem J6{o:Op}(h:ZP o):kOk o:=by
 rcases h with h | h | h
 .exact .inl ⟨h.1,V0⟩
 .rcases h.1 with h1 | h1
  .exact .inr (.inl h1)
  .exact .inr (.inr (.inl h1))
 .exact .inr (.inr (.inr h.1))
theorem Zck{o:Op}(h:ZP o)(h0:o.kind=0):Z2 o=o.n:=by
 rcases h with h | h | h
 .unfold Z2;rw [Jk,h.2.1];simp
 .omega
 .omega
theorem Z2q{o:Op}(h:ZP o)(h0:o.kind=1\/o.kind=2):Z2 o=o.l.length:=by
 rcases h with h | h | h
 .omega
 .unfold Z2;omega
 .omega
theorem Z0A{o:Op}(h0:o.kind=3):Z2 o=1:=by unfold Z2;rw [if_pos h0]
theorem ZwO{o:Op}{r:List Op}{s m:List Tree}(ho:ZP o)(hk:o.kind≠1)(h:Run (o ::r) s m):∃ m1 s' m',m=m1++m'/\(m1.length:Int)=Z2 o/\Run r s' m':=by
 rcases J6 ho with h0 | h1 | h2 | h3
 .obtain ⟨a,s',u,_,rfl,hl,d⟩:=(J9 h0.1).1 h
  exact ⟨a,s',u,rfl,by rw [Zck ho h0.1];exact hl,d⟩
 .omega
 .obtain ⟨u,rfl,d⟩:=(YU h2).1 h
  exact ⟨o.l,s,u,rfl,by rw [Z2q ho (.inr h2)],d⟩
 .obtain ⟨x,s',y,u,_,rfl,_,d⟩:=(Z0x h3).1 h
  exact ⟨[y],s',u,rfl,by rw [Z0A h3];rfl,d⟩
theorem Z7e{o:Op}{r:List Op}{m d:List Tree}(ho:ZP o)(hk:o.kind≠2)(h:Run (o ::r) m d):∃ m1 m' d',m=m1++m'/\(m1.length:Int)=Z2 o/\Run r m' d':=by
 rcases J6 ho with h0 | h1 | h2 | h3
 .obtain ⟨a,u,d',rfl,_,hl,s⟩:=(J9 h0.1).1 h
  exact ⟨a,u,d',rfl,by rw [Zck ho h0.1];exact hl,s⟩
 .obtain ⟨a,u,rfl,hn,s⟩:=(YN h1).1 h
  exact ⟨a,u,d,rfl,by rw [Z2q ho (.inl h1),Z3k hn],s⟩
 .omega
 .obtain ⟨x,u,y,d',rfl,_,_,s⟩:=(Z0x h3).1 h
  exact ⟨[x],u,d',rfl,by rw [Z0A h3];rfl,s⟩
theorem ZpZ{o:Op}{r:List Op}{n:Int}(ho:ZP o)(h1:1<=n)(hn:¬Z2 o<=n)(s d:List Tree):Run (o ::r) s d↔Run (Zt o n ::YR o n ::r) s d:=by
 unfold Zt YR
 rw [if_neg hn]
 rcases J6 ho with h0 | hg | hc | hi
 .have hl:=Zck ho h0.1
  rw [if_pos h0.1,if_pos h0.1,J9 h0.1,J9 (o:=⟨o.kind,n,o.l,o.e⟩) h0.1]
  constructor
  .rintro ⟨a,s',d',rfl,rfl,ha,h⟩
   refine ⟨a.take n.toNat,a.drop n.toNat++s',a.drop n.toNat++d',by rw [<-Qi,QY],by rw [<-Qi,QY],by grind,?_⟩
   exact (J9 (o:=⟨o.kind,o.n - n,o.l,o.e⟩) h0.1).2 ⟨a.drop n.toNat,s',d',rfl,rfl,by grind,h⟩
  .rintro ⟨a,s',d',rfl,rfl,ha,h⟩
   obtain ⟨b,s2,d2,rfl,rfl,hb,u⟩:=(J9 (o:=⟨o.kind,o.n - n,o.l,o.e⟩) h0.1).1 h
   grind
 .have hl:=Z2q ho (.inl hg)
  rw [Jk,Jk,YN hg,YN (o:=⟨o.kind,o.n,o.l.take n.toNat,o.e⟩) hg]
  constructor
  .rintro ⟨a,s',rfl,ha,h⟩
   have aj:=Z3k ha
   refine ⟨a.take n.toNat,a.drop n.toNat++s',by rw [<-Qi,QY],EqvL.take ha _,?_⟩
   exact (YN (o:=⟨o.kind,o.n,o.l.drop n.toNat,o.e⟩) hg).2 ⟨a.drop n.toNat,s',rfl,EqvL.drop ha _,h⟩
  .rintro ⟨a,s',rfl,ha,h⟩
   obtain ⟨b,s2,rfl,hb,u⟩:=(YN (o:=⟨o.kind,o.n,o.l.drop n.toNat,o.e⟩) hg).1 h
   refine ⟨a++b,s2,by grind,?_,u⟩
   have:=Z25 ha hb
   simp_all
 .rw [Jk,Jk,YU hc,YU (o:=⟨o.kind,o.n,o.l.take n.toNat,o.e⟩) hc]
  constructor
  .rintro ⟨d',rfl,h⟩
   refine ⟨o.l.drop n.toNat++d',by rw [<-Qi,QY],?_⟩
   exact (YU (o:=⟨o.kind,o.n,o.l.drop n.toNat,o.e⟩) hc).2 ⟨d',rfl,h⟩
  .rintro ⟨d',rfl,h⟩
   obtain ⟨d2,rfl,u⟩:=(YU (o:=⟨o.kind,o.n,o.l.drop n.toNat,o.e⟩) hc).1 h
   exact ⟨d2,by rw [<-Qi,QY],u⟩
 .rw [Z0A hi] at hn
  omega
def Z6X:List Piece->List Op
 | []=> []
 | x ::r=> (if x.of=2 then [] else [x.p])++Z6X r
def Z6W:List Piece->List Op
 | []=> []
 | x ::r=> (if x.of=1 then [] else [x.q])++Z6W r
def Part(l:List Op)(o:Op):Prop:=∃ o'∈l,o.kind=o'.kind/\o.e=o'.e/\Zy o<=Zy o'/\∀ t∈o.l,t∈o'.l
theorem Part.mono{l l':List Op}{o:Op}(h:Part l o)(hl:∀ x∈l,Part l' x):Part l' o:=by
 obtain ⟨o',h1,h2,h3,h5,h4⟩:=h
 obtain ⟨o2,d,u,g3,s,g4⟩:=hl o' h1
 exact ⟨o2,d,h2.trans u,h3.trans g3,X5 h5 s,fun t ht=> g4 t (h4 t ht)⟩
theorem Part.self{l:List Op}{o:Op}(h:o∈l):Part l o:=⟨o,h,rfl,rfl,Qf _,fun _ h=> h⟩
theorem Z36{o:Op}{r:List Op}{n:Int}(h:∀ x∈o ::r,ZP x)(h1:1<=n)(hn:n<=Z2 o):
  ZP (Zt o n)/\Z2 (Zt o n)=n/\(Zt o n).kind=o.kind/\Part (o ::r) (Zt o n)/\(∀ x∈ZC (o ::r) n,ZP x/\Part (o ::r) x)/\∀ s d,Run (o ::r) s d↔Run (Zt o n ::ZC (o ::r) n) s d:=by
 have ho:=h o Q8
 have hr:∀ x∈r,ZP x/\Part (o ::r) x:=fun x hx=> ⟨h x (Q7 _ hx),Part.self (Q7 _ hx)⟩
 unfold ZC
 simp only [Qk,QH,X6]
 by_cases hl:Z2 o<=n
 .rw [if_pos hl]
  have e:Zt o n=o:=by unfold Zt;rw [if_pos hl]
  rw [e]
  exact ⟨ho,V0,rfl,Part.self Q8,hr,fun s d=> QJ⟩
 .rw [if_neg hl]
  obtain ⟨_,v2,v3,v4⟩:=ZcE (a:=1) ho h1 hl
  obtain ⟨b1,b2⟩:=Z9G ho h1 hl
  refine ⟨v2,v3,JA o n,?_,?_,ZpZ ho h1 hl⟩
  .refine ⟨o,Q8,JA o n,?_,v4,?_⟩
   .unfold Zt;split;rfl;split <;> rfl
   .intro t u
    unfold Zt at u
    split at u
    .exact u
    .split at u
     .exact u
     .exact K4 u
  .intro x hx
   rcases Q9.1 hx with rfl | hx
   .refine ⟨b1,o,Q8,?_,?_,b2,?_⟩
    .unfold YR;split <;> rfl
    .unfold YR;split <;> rfl
    .intro t u
     unfold YR at u
     split at u
     .exact u
     .exact Xw u
   .exact hr x hx
theorem Y8{d:List Tree}{s:List Tree}(h:Run [] s d):s=[]/\d=[]:=by cases h;grind
theorem Zj3{o:Op}{r:List Op}{s d:List Tree}(hk:kOk o):Run (o ::r) s d↔∃ s1 s2 d1 d2,s=s1++s2/\d=d1++d2/\Run [o] s1 d1/\Run r s2 d2:=by
 constructor
 .intro h
  rcases hk with h0 | h1 | h2 | h3
  .obtain ⟨a,s',d',rfl,rfl,hl,u⟩:=(J9 h0.1).1 h
   exact ⟨a,s',a,d',rfl,rfl,(J9 h0.1).2 ⟨a,[],[],by simp,by simp,hl,.nil⟩,u⟩
  .obtain ⟨a,s',rfl,hl,u⟩:=(YN h1).1 h
   exact ⟨a,s',[],d,rfl,rfl,(YN h1).2 ⟨a,[],by simp,hl,.nil⟩,u⟩
  .obtain ⟨d',rfl,u⟩:=(YU h2).1 h
   exact ⟨[],s,o.l,d',rfl,rfl,(YU h2).2 ⟨[],by simp,.nil⟩,u⟩
  .obtain ⟨x,s',y,d',rfl,rfl,he,u⟩:=(Z0x h3).1 h
   exact ⟨[x],s',[y],d',rfl,rfl,.into h3 he .nil,u⟩
 .rintro ⟨s1,s2,d1,d2,rfl,rfl,h1,h2⟩
  rcases hk with h0 | hg | hc | h3
  .obtain ⟨a,s',d',rfl,rfl,hl,u⟩:=(J9 h0.1).1 h1
   obtain ⟨rfl,rfl⟩:=Y8 u
   rw [Qn]
   exact .keep h0.1 hl h2
  .obtain ⟨a,s',rfl,hl,u⟩:=(YN hg).1 h1
   obtain ⟨rfl,rfl⟩:=Y8 u
   rw [Qn]
   exact .gone hg hl h2
  .obtain ⟨d',rfl,u⟩:=(YU hc).1 h1
   obtain ⟨rfl,rfl⟩:=Y8 u
   rw [Qn]
   exact .come hc h2
  .obtain ⟨x,s',y,d',rfl,rfl,he,u⟩:=(Z0x h3).1 h1
   obtain ⟨rfl,rfl⟩:=Y8 u
   exact .into h3 he h2
theorem ZaQ{o:Op}{s d:List Tree}(ho:ZP o)(hk:o.kind≠1)(h:Run [o] s d):(d.length:Int)=Z2 o:=by
 obtain ⟨m1,s',m',rfl,hl,u⟩:=ZwO ho hk h
 obtain ⟨_,rfl⟩:=Y8 u
 simpa using hl
theorem Zdl{o:Op}{s d:List Tree}(ho:ZP o)(hk:o.kind≠2)(h:Run [o] s d):(s.length:Int)=Z2 o:=by
 obtain ⟨m1,s',m',rfl,hl,u⟩:=Z7e ho hk h
 obtain ⟨rfl,_⟩:=Y8 u
 simpa using hl
theorem Z1O{o:Op}{s:List Tree}(h0:o.kind=0)(hl:(s.length:Int)=o.n):Run [o] s s:=
 (J9 h0).2 ⟨s,[],[],by simp,by simp,hl,.nil⟩
theorem Z71{o:Op}{s d:List Tree}(h0:o.kind=0)(h:Run [o] s d):d=s:=by
 obtain ⟨a,s',d',rfl,rfl,hl,u⟩:=(J9 h0).1 h
 obtain ⟨rfl,rfl⟩:=Y8 u
 try rfl
theorem Zvi{a b c d:List Tree}(h:EqvL a b)(h':EqvL c d):EqvL (a++c) (b++d):=Z25 h h'
section
variable {β:Type} {at_:β->Int} {one:β->β->β × Bool}
variable {α:Type} {z:α} {F:β->α->Option α} {R:α->α->Prop}
def Z7f(z:α)(F:β->α->Option α)(at_:β->Int)(l:List α)(w:β):Option α:=F w (l.getD (at_ w).toNat z)
theorem Z4m{last:Int}(hl: -1<=last){l:List β}(h:asc at_ last l):∀ w∈l,0<=at_ w:=fun w d=> by have:=Zik h w d;omega
end
end Go.AM.YtpjenobkibfpcaaGreat
namespace Go.AM.YtpjenobkibfpcaaGreat
open Go.AM Go.Proofs
theorem Z5h(m:Int)(h0:0<=m)(h1:m < 256)(i:Nat):Z0n m (i:Int)=(BitVec.ofInt 8 m).toNat.testBit i:=by
 obtain ⟨n,rfl⟩:=X3 h0
 have e:(BitVec.ofInt 8 ((n:Nat):Int)).toNat=n:=by simp;omega
 rw [e,Nat.testBit_eq_decide_div_mod_eq]
 unfold Z0n
 grind
theorem Z6N{a b:Int}(ha:0<=a/\a < 256)(hb:0<=b/\b < 256):(0<=Z0S a b/\Z0S a b < 256)/\∀ i:Nat,Z0n (Z0S a b) (i:Int)=(Z0n a (i:Int) && Z0n b (i:Int)):=by
 have d:(BitVec.ofInt 8 a &&& BitVec.ofInt 8 b).toNat < 256:=(BitVec.ofInt 8 a &&& BitVec.ofInt 8 b).isLt
 have e:Z0S a b=((BitVec.ofInt 8 a &&& BitVec.ofInt 8 b).toNat:Int):=by
  show IntKind.wrap .u8 ((BitVec.ofInt 8 a &&& BitVec.ofInt 8 b).toNat:Int)=_
  exact Z5C V0 V0
 refine ⟨by rw [e];omega,fun i=> ?_⟩
 rw [Z5h _ (by rw [e];omega) (by rw [e];omega),e,Z5h a ha.1 ha.2,Z5h b hb.1 hb.2]
 grind
def doW(w:WEdit)(x:Int):Option Int:=if mix 0 x w.mask=w.old then some (mix x w.new w.mask) else none
theorem ZAN(i:Nat):Zk 0 i=0:=by unfold Zk;simp
theorem Z13{a b m:Int}{i:Nat}(hi:i < 8):Zk (mix a b m) i=if Z0n m i=true then Zk b i else Zk a i:=by rw [ZtG hi];try rfl
theorem Zmv(tw:List Int)(ws:List WEdit)(out:List Int):wsD tw ws out=mg 0 (Z7f 0 doW WEdit.at_ tw) WEdit.at_ ws out:=Zrl tw ws out
theorem Zkp(tk:List Tree)(ks:List Kid)(out:List Tree):JQ false tk ks out=mg Tree.nil (Z7f Tree.nil (fun k:Kid=> doE false k.e) KidOf.at_ tk) KidOf.at_ ks out:=by
 rw [ZoQ]
 congr 1
 funext k
 exact ZeR false tk k
theorem JE{e:Edit}{d:Int}(h:Z5 e d=true):∀ o∈e.ops,ZP o:=Z7G (Zn h).ops
theorem Zfm{e:Edit}(h:e.kind=0)(t:Tree):doE false e t=some t:=by rw [Z0I,YL,if_pos h]
theorem ZCL{e:Edit}(h:e.kind=1)(t:Tree):doE false e t=if ZY (Z3 e.old) (Z3 t)=true then some e.new else none:=by rw [Z0I,YL,Jk,if_pos h]
theorem ZCK{e:Edit}(h:e.kind=2)(t:Tree):doE false e t=if t.kind=1 then (wsD t.words e.words t.words).bind fun a=> (JQ false t.kids e.kids t.kids).map fun b=> .mk 1 a b else none:=by
 rw [Z0I,YL,Jk,Jk,if_pos h]
theorem ZCJ{e:Edit}(h:e.kind=3)(t:Tree):doE false e t=if t.kind=e.list then (Z3B (ZL false e.ops t.kids [])).map fun b=> .mk e.list [] b else none:=by
 rw [Z0I,YL,Jk,Jk,Jk,if_pos h]
theorem Zvo(w:List WEdit)(ks:List Kid)(t:Tree):doE false (.mk 2 Tree.nil Tree.nil w ks 0 []) t=if t.kind=1 then (wsD t.words w t.words).bind fun a=> (JQ false t.kids ks t.kids).map fun b=> .mk 1 a b else none:=ZCK rfl t
theorem ZGu(l:Int)(os:List Op)(t:Tree):doE false (.mk 3 Tree.nil Tree.nil [] [] l os) t=if t.kind=l then (Z3B (ZL false os t.kids [])).map fun b=> .mk l [] b else none:=ZCJ rfl t
theorem Zvr{e:Edit}{t v:Tree}(h:doE false e t=some v):doB e t=(Z3 v,true):=by unfold doB;rw [h];try rfl
theorem Y0{e:Edit}(h:Yp e):rng e.old/\rng e.new/\(∀ x∈e.words,Zdo x)/\Z2O e.kids/\Z1A e.ops:=by
 obtain ⟨k,o,n,w,ks,l,os⟩:=e
 exact ⟨h.2.1,h.2.2.1,h.2.2.2.1,h.2.2.2.2.2.1,h.2.2.2.2.2.2⟩
noncomputable def rp(f:Edit->Edit->Edit × Bool)(x:APair):List Op × Bool:=
 if x.of=1 then ([opU x.p],true) else if x.of=2 then ([opU x.q],true) else ZHx f x.p x.q
structure Alike (c r:Edit × Bool):Prop where
 ok:c.2=r.2
 nrm:c.2=true->Zi c.1=Zi r.1
section
variable {g:Edit->Edit->Edit × Bool}
end
theorem ZBB(w:List WEdit)(a:List Kid):Zi (.mk 2 Tree.nil Tree.nil w a 0 [])= .mk 2 Tree.nil Tree.nil w (Jc a) 0 []:=by rfl
end Go.AM.YtpjenobkibfpcaaGreat
namespace Go.AM.YtpjenobkibfpcaaGreat
open Go.AM Go.Proofs
theorem Zvu(e:Edit):18<=ctE e:=by
 have:=Z5x e
 have:=JH e.old
 have:=JH e.new
 omega
theorem Z3D:∀ (a b:List Op),Jh (a++b)=Jh a+Jh b
 | [],b=> by simp [Jh]
 | o ::r,b=> by simp only [Qw,Jh,Z3D r b];omega
def ctW(w:Wst):Nat:=Jh w.out+(Zd w.gone+if w.gone.length=0 then 0 else 34)+(Zd w.brought+if w.brought.length=0 then 0 else 34)
theorem ZaB:ctE Edit.nil=18:=rfl
theorem ZeU(w:Wst):Jh (Z9 w).out=ctW w:=by
 simp only [Z9,Jo,ctW,Z3D]
 by_cases h1:w.gone.length=0
 .rw [if_pos h1,if_pos h1,Q6 h1]
  by_cases h2:w.brought.length=0
  .rw [if_pos h2,if_pos h2,Q6 h2];try rfl
  .rw [if_neg h2,if_neg h2];simp only [Jh,Z4j,ZaB,Zd];omega
 .rw [if_neg h1,if_neg h1]
  by_cases h2:w.brought.length=0
  .rw [if_pos h2,if_pos h2,Q6 h2];simp only [Jh,Z4j,ZaB,Zd];omega
  .rw [if_neg h2,if_neg h2];simp only [Jh,Z4j,ZaB];omega
theorem ZoS(w:Wst)(n:Int):ctW (ZU w n)<=ctW w+34:=by
 have h:=ZeU w
 have e:ctW (ZU w n)=Jh (YD (Z9 w).out n):=rfl
 rw [e,<-h]
 rcases YI (Z9 w).out n with e | ⟨a,q,e1,_,e3⟩
 .rw [e,Z3D];simp only [Jh,Z4j,ZaB,Zd];omega
 .rw [e3,e1,Z3D,Z3D];simp only [Jh,Z4j,Z2V];omega
mutual
theorem Zm9:∀ (e:Edit),ctE (Zi e)<=ctE e
 | .mk k o n w ks l os=> by
  have h:=Zkv ks
  have u:=Zku l os ⟨[],[],[]⟩
  have d:=Yx o
  have h4:=Yx n
  have:=JH o
  have:=JH n
  have hf:=ZeU (ZA l os ⟨[],[],[]⟩)
  have s:ctW ⟨[],[],[]⟩=0:=rfl
  rw [Zi]
  split
  .simp only [ctE,Z35,Jh,Qh];omega
  .split
   .simp only [ctE,Jh,Z27];omega
   .split
    .simp only [ctE,Z35,Z27,Qh];omega
    .simp only [ctE,Z35,Jh,Z27,Qh];omega
theorem Zkv:∀ (ks:List (KidOf Edit)),Z35 (Jc ks)<=Z35 ks
 | []=> Qf _
 | k ::r=> by
  have h:=ZqT k
  have d:=Zkv r
  simp only [Jc,Z35]
  omega
theorem ZqT:∀ (k:KidOf Edit),Z9D (JY k)<=Z9D k
 | ⟨a,e⟩=> by
  have:=Zm9 e
  simp only [JY,Z9D]
  omega
theorem Zku(list:Int):∀ (os:List (OpOf Edit)) (w:Wst),ctW (ZA list os w)<=ctW w+Jh os
 | [],w=> Qf _
 | o ::r,w=> by
  have h:=Zvt list o w
  have d:=Zku list r (JS list o w)
  simp only [ZA,Jh]
  omega
theorem Zvt(list:Int):∀ (o:OpOf Edit) (w:Wst),ctW (JS list o w)<=ctW w+Z4j o
 | ⟨k,n,l,e⟩,w=> by
  have h:=Zm9 e
  have d:=Zvu e
  have hl:=Z5g l
  have hc:=fun a b=> YM a b
  rw [JS]
  simp only [Z4j]
  split
  .have:=ZoS w n;omega
  .split
   .have:=YM w.gone (Z8 l)
    simp only [ctW]
    grind
   .split
    .have:=YM w.brought (Z8 l)
     simp only [ctW]
     grind
    .split
     .split
      .have:=ZoS w 1;omega
      .have hf:=ZeU w
       show Jh ((Z9 w).out++[⟨3,0,[],Zi e⟩])+_+_<=_
       rw [Z3D,hf]
       simp only [Jh,Z4j,Zd,Qh,if_pos]
       omega
     .omega
end
def YS(φ:Op->Int):List Op->Int
 | []=> 0
 | o ::r=> φ o+YS φ r
theorem ZcS(φ:Op->Int):∀ a b:List Op,YS φ (a++b)=YS φ a+YS φ b
 | [],b=> by simp [YS]
 | o ::r,b=> by simp only [Qw,YS,ZcS φ r b];omega
def Zrh(φ:Op->Int):Prop:=∀ o n,ZP o->1<=n->¬Z2 o<=n->φ (Zt o n)+φ (YR o n)=φ o
theorem Z4E{φ:Op->Int}(hφ:Zrh φ){p:List Op}{n:Int}(hp:∀ o∈p,ZP o)(hl:p.length≠0)(h1:1<=n):φ (Zt (p.getD 0 Op.nil) n)+YS φ (ZC p n)=YS φ p/\∀ o∈ZC p n,ZP o:=by
 cases p with
 | nil=> grind
 | cons o r=>
  have s:=hp o Q8
  unfold ZC
  simp only [Qk,QH,X6]
  by_cases h:Z2 o<=n
  .rw [if_pos h]
   have e:Zt o n=o:=by unfold Zt;rw [if_pos h]
   rw [e]
   exact ⟨rfl,fun x d=> hp x (Q7 _ d)⟩
  .rw [if_neg h]
   refine ⟨by simp only [YS];have:=hφ o n s h1 h;omega,fun x d=> ?_⟩
   rcases Q9.1 d with rfl | d
   .exact (Z9G s h1 h).1
   grind
theorem Ztl{φ ψ:Op->Int}(hφ:Zrh φ)(hψ:Zrh ψ)(a:Int):∀ (k:Nat) (p q:List Op) (out:List Piece),p.length+q.length<=k->(∀ o∈p,ZP o)->(∀ o∈q,ZP o)->(ZM a 2 p q out).2.1=true->
  ∃ d,(ZM a 2 p q out).1=out++d/\YS φ (Z6X d)=YS φ p/\YS ψ (Z6W d)=YS ψ q/\d.length<=p.length+q.length:=by
 intro k
 induction k with
 | zero=>
  intro p q out hk s u h
  have e1:p=[]:=Q6 V0
  have e2:q=[]:=Q6 V0
  subst e1 e2
  rw [ZM,dif_neg (by simp [sgl]),dif_neg (by simp [sgl]),dif_pos (by simp)]
  exact ⟨[],by simp,rfl,rfl,by simp⟩
 | succ k ih=>
  intro p q out hk s u h
  rw [ZM] at h ⊢
  by_cases h1:sgl a p=true
  .rw [dif_pos h1] at h ⊢
   obtain ⟨g1,_⟩:=YT.1 h1
   cases p with
   | nil=> grind
   | cons o r=>
    simp only [Qk,QH,X6] at h ⊢
    obtain ⟨d,e,f1,f2,f3⟩:=ih r q _ (by grind) (fun x hx=> s x (Q7 _ hx)) u h
    refine ⟨⟨1,o,Op.nil⟩ ::d,by grind,?_,?_,by grind⟩
    .show YS φ (o ::Z6X d)=_
     simp only [YS];omega
    .exact f2
  .rw [dif_neg h1] at h ⊢
   by_cases h2:sgl 2 q=true
   .rw [dif_pos h2] at h ⊢
    obtain ⟨g1,_⟩:=YT.1 h2
    cases q with
    | nil=> grind
    | cons o r=>
     simp only [Qk,QH,X6] at h ⊢
     obtain ⟨d,e,f1,f2,f3⟩:=ih p r _ (by grind) s (fun x hx=> u x (Q7 _ hx)) h
     refine ⟨⟨2,Op.nil,o⟩ ::d,by grind,f1,?_,by grind⟩
     show YS ψ (o ::Z6W d)=_
     simp only [YS];omega
   .rw [dif_neg h2] at h ⊢
    by_cases h3:p.length=0\/q.length=0
    .rw [dif_pos h3] at h ⊢
     by_cases h4:decide (p.length=0)=decide (q.length=0)
     .rw [if_pos h4]
      have h5:p.length=0/\q.length=0:=by
       have:=decide_eq_decide.1 h4
       omega
      rw [Q6 h5.1,Q6 h5.2]
      exact ⟨[],by simp,rfl,rfl,by simp⟩
     grind
    .rw [dif_neg h3] at h ⊢
     have l1:p.length≠0:=V0
     have l2:q.length≠0:=V0
     have p1:=ZB (s _ (Zo (l:=p) (i:=0) V0 Op.nil))
     have p2:=ZB (u _ (Zo (l:=q) (i:=0) V0 Op.nil))
     generalize hn:min (Z2 (p.getD 0 Op.nil)) (Z2 (q.getD 0 Op.nil))=n at h ⊢
     obtain ⟨s1,s2⟩:=Z4E hφ s l1 (n:=n) V0
     obtain ⟨t1,t2⟩:=Z4E hψ u l2 (n:=n) V0
     have c1:=Yh p n l1
     have c2:=Yh q n l2
     have c3:Z2 (p.getD 0 Op.nil)<=n->(ZC p n).length < p.length:=fun h=> Yg p _ l1 h
     have c4:Z2 (q.getD 0 Op.nil)<=n->(ZC q n).length < q.length:=fun h=> Yg q _ l2 h
     obtain ⟨d,e,f1,f2,f3⟩:=ih (ZC p n) (ZC q n) _ V0 s2 t2 h
     refine ⟨⟨0,Zt (p.getD 0 Op.nil) n,Zt (q.getD 0 Op.nil) n⟩ ::d,by grind,?_,?_,by grind⟩
     .show YS φ (Zt (p.getD 0 Op.nil) n ::Z6X d)=_
      simp only [YS];omega
     .show YS ψ (Zt (q.getD 0 Op.nil) n ::Z6W d)=_
      simp only [YS];omega
def φA(o:Op):Int:=if o.kind=2 then 0 else Z2 o
def φB(o:Op):Int:=if o.kind=1 then 0 else Z2 o
def φC(o:Op):Int:=Zd o.l+ctE o.e - 18
theorem ZcT:∀ l,YS φA l=YK l
 | []=> rfl
 | o ::r=> by simp only [YS,YK,φA,ZcT r]
theorem Z1v:∀ l,YS φB l=Yi l
 | []=> rfl
 | o ::r=> by simp only [YS,Yi,φB,Z1v r]
theorem ZkS:∀ l,YS φC l+34*l.length=Jh l
 | []=> rfl
 | o ::r=> by
  have:=ZkS r
  simp only [YS,Jh,φC,Z2V,Qs]
  omega
theorem YP(o:Op)(n:Int):(YR o n).kind=o.kind:=by unfold YR;split <;> rfl
theorem ZvJ{o:Op}{n:Int}(ho:ZP o)(h1:1<=n)(hn:¬Z2 o<=n):Z2 (YR o n)=Z2 o - n:=by
 obtain ⟨_,_,d,_⟩:=ZcE (a:=1) ho h1 hn
 have hl:=Y4 o
 rcases ho with ⟨k0,k1,k2,k3⟩ | ⟨k0,k1,k2,k3⟩ | ⟨k0,k1,k2⟩
 .unfold YR
  rw [if_pos k0,Y4]
  grind
 .unfold YR
  rw [Jk,Y4]
  grind
 omega
theorem ZAQ:Zrh φB:=by
 intro o n s h d
 obtain ⟨_,_,u,_⟩:=ZcE (a:=1) s h d
 have:=ZvJ s h d
 unfold φB
 rw [JA,YP,u,this]
 omega
theorem ZAP:Zrh φC:=by
 intro o n h s d
 have hl:=Y4 o
 unfold φC Zt YR
 rw [if_neg d]
 rcases h with ⟨k0,k1,k2,k3⟩ | ⟨k0,k1,k2,k3⟩ | ⟨k0,k1,k2⟩
 .rw [if_pos k0,if_pos k0]
  dsimp only
  rw [k3,k1,ZaB]
  simp [Zd]
 .rw [Jk,Jk]
  dsimp only
  have:=YM (o.l.take n.toNat) (o.l.drop n.toNat)
  rw [QY] at this
  rw [k3,ZaB]
  omega
 omega
theorem ZcJ{D list:Int}:∀ {l:List Tree},Y9 D list l=true->Y9 (-1) list l=true
 | [],_=> rfl
 | t ::r,h=> by
  simp only [Y9,Q4] at h ⊢
  exact ⟨Ja _ _ _ V3 h.1,ZcJ h.2⟩
mutual
theorem Ya:∀ (e:Edit) (d m:Int),m < 0->Z5 e d=true->Z5 e m=true
 | .mk k o n w ks l os,d,m,hm,h=> by
  have s:=ZaV ks
  have u:=ZaT l os
  rw [Z5] at h ⊢
  split at h
  .cases h
  .rename_i a
   rw [Jk]
   split at h
   .cases h
   .rename_i b
    rw [if_neg b]
    split at h
    .rename_i c
     rw [if_pos c,ZeT hm]
     simp only [Q4] at h ⊢
     exact ⟨⟨Ja _ _ _ V3 h.1.1,Ja _ _ _ V3 h.1.2⟩,h.2⟩
    grind
theorem ZaV:∀ (ks:List (KidOf Edit)) (last d m:Int),m < 0->Zw last ks d=true->Zw last ks m=true
 | [],_,_,_,_,_=> rfl
 | k ::r,last,d,m,hm,h=> by
  simp only [Zw,Q4] at h ⊢
  exact ⟨ZgW k last d m hm h.1,ZaV r k.at_ d m hm h.2⟩
theorem ZgW:∀ (k:KidOf Edit) (last d m:Int),m < 0->JD last k d=true->JD last k m=true
 | ⟨a,e⟩,last,d,m,hm,h=> by
  simp only [JD,Q4] at h ⊢
  exact ⟨h.1,Ya e d m hm h.2⟩
theorem ZaT(list:Int):∀ (os:List (OpOf Edit)) (d m:Int),m < 0->Zz list os d=true->Zz list os m=true
 | [],_,_,_,_=> rfl
 | o ::r,d,m,hm,h=> by
  simp only [Zz,Q4] at h ⊢
  exact ⟨Zjc list o d m hm h.1,ZaT list r d m hm h.2⟩
theorem Zjc(list:Int):∀ (o:OpOf Edit) (d m:Int),m < 0->Zg list o d=true->Zg list o m=true
 | ⟨k,n,l,e⟩,d,m,hm,h=> by
  have he:=Ya e d m hm
  rw [Zg] at h ⊢
  split at h
  .grind
  .rename_i u
   rw [if_neg u]
   split at h
   .cases h
   .rename_i h1
    rw [if_neg h1]
    split at h
    .rename_i s
     rw [if_pos s,ZeT hm]
     simp only [Q4] at h ⊢
     exact ⟨⟨ZcJ h.1.1,h.1.2⟩,h.2⟩
    grind
end
structure Wk (e:Edit):Prop where
 r:Z5 e (-1)=true
 g:Yp e
theorem Wk.of{e:Edit}{d:Int}(h:Z5 e d=true)(g:Yp e):Wk e:=⟨Ya e d _ V3 h,g⟩
theorem JV{n:Int}(h0:0<=n)(h9:n<=9):InR n:=V2
theorem Zq4{w:List WEdit}{ks:List Kid}(h1:ZK (-1) w=true)(h2:Zw (-1) ks (-2)=true):Z5 (.mk 2 Tree.nil Tree.nil w ks 0 []) (-1)=true:=by
 rw [Z5,if_neg V3,if_neg (by simp [Ye,Tree.nil]),if_neg V3,h1,show (-1:Int) - 1= -2 from rfl,h2]
 try rfl
theorem Zq3{l:Int}{os:List Op}(hl:2<=l/\l<=9)(h:Zz l os (-2)=true)(h1:Z0Q os 0 < 1048576)(h2:Z0P os 0 < 1048576):Z5 (.mk 3 Tree.nil Tree.nil [] [] l os) (-1)=true:=by
 rw [Z5,if_neg V3,if_neg (by simp [Ye,Tree.nil]),if_neg V3,show (-1:Int) - 1= -2 from rfl,h]
 simp only [ZK,Zw,QB,Xm,Q4,decide_eq_true_eq]
 omega
theorem ZcD:∀ {l:List WEdit} {last:Int},asc WEdit.at_ last l->(∀ w∈l,w.at_<=65534/\w.mask≠0/\Yf w.old w.mask=true/\Yf w.new w.mask=true)->ZK last l=true
 | [],_,_,_=> rfl
 | a ::r,last,h,hw=> by
  obtain ⟨u,h2,s,h4⟩:=hw a Q8
  simp only [ZK,Q4,decide_eq_true_eq]
  exact ⟨⟨⟨⟨h.1,u,h2⟩,s⟩,h4⟩,ZcD h.2 fun w d=> hw w (Q7 _ d)⟩
theorem Zdt{d:Int}:∀ {l:List Kid} {last:Int},asc KidOf.at_ last l->(∀ k∈l,k.at_<=65534/\k.e.kind≠0/\Z5 k.e d=true)->Zw last l d=true
 | [],_,_,_=> rfl
 | a ::r,last,h,hw=> by
  obtain ⟨h1,h2,u⟩:=hw a Q8
  simp only [Zw,Z2Q,Q4,decide_eq_true_eq]
  exact ⟨⟨⟨h.1,h1,h2⟩,u⟩,Zdt h.2 fun w s=> hw w (Q7 _ s)⟩
theorem Zdq{list d:Int}:∀ {l:List Op},(∀ o∈l,Zg list o d=true)->Zz list l d=true
 | [],_=> rfl
 | a ::r,h=> by
  simp only [Zz,Q4]
  exact ⟨h a Q8,Zdq fun o s=> h o (Q7 _ s)⟩
theorem Z5E{D list:Int}:∀ {l:List Tree},(∀ t∈l,Zb (.mk list [] [t]) D=true)->Y9 D list l=true
 | [],_=> rfl
 | t ::r,h=> by
  simp only [Y9,Q4]
  exact ⟨h t Q8,Z5E fun x d=> h x (Q7 _ d)⟩
theorem Znv{list n:Int}(h1:1<=n)(h2:n<=1048576)(d:Int):Zg list ⟨0,n,[],Edit.nil⟩ d=true:=by
 rw [Zg,if_pos rfl,Z2h]
 grind
theorem Ze8{list k d:Int}{l:List Tree}(hk:k=1\/k=2)(h:Y9 (dT d) list l=true)(hl:l≠[]):Zg list ⟨k,0,l,Edit.nil⟩ d=true:=by
 rw [Zg,Jk,Jk,Yu,Z2h,h]
 have:=XJ.2 hl
 grind
theorem Znw{list d:Int}{e:Edit}(h:Z5 e d=true)(h0:e.kind≠0)(hl:7 < list)(hw:list=8\/e.kind=2\/e.kind=1/\e.old.kind=1/\e.new.kind=1):Zg list ⟨3,0,[],e⟩ d=true:=by
 rw [Zg,if_neg V3,if_neg V3,if_neg V3,h]
 grind
def Wl(list:Int)(e:Edit):Prop:=list=8\/e.kind=2\/e.kind=1/\e.old.kind=1/\e.new.kind=1
theorem ZpM{w m:Int}(h:∀ i,i < 8->Z0n m (i:Nat)=false->Zk w i=0):Yf w m=true:=by
 unfold Yf mix of8
 rw [decide_eq_true_eq]
 have z:∀ i,i < 8->Jp w 0 m i=0:=by
  intro i d
  unfold Jp
  split
  .exact ZAN i
  .grind
 grind
theorem Zj9:∀ {l:List Kid},(∀ k∈l,InR k.at_/\Yp k.e)->Z2O l
 | [],_=> trivial
 | ⟨a,e⟩ ::r,h=> ⟨h _ Q8,Zj9 fun k d=> h k (Q7 _ d)⟩
theorem Zj8:∀ {l:List Op},(∀ o∈l,Z1j o)->Z1A l
 | [],_=> trivial
 | o ::r,h=> ⟨h _ Q8,Zj8 fun k d=> h k (Q7 _ d)⟩
end Go.AM.YtpjenobkibfpcaaGreat
namespace Go.AM
def wOk(w:WEdit):Prop:=Zdo w/\Yf w.old w.mask=true/\Yf w.new w.mask=true
end Go.AM
namespace Go.AM.YtpjenobkibfpcaaGreat
open Go.AM Go.Proofs
theorem ZnG(e:Edit):3<=Za e:=by
 obtain ⟨k,o,n,w,ks,l,os⟩:=e
 have:=JH o
 have:=JH n
 simp only [Za];omega
theorem Zqn:Z5 Edit.nil 1=true:=rfl
mutual
def utE:Edit->Nat
 | .mk _ o n w ks _ os=> 16+Zj o+Zj n+65600*w.length+Zs6 ks+Zs5 os
def Zs6:List (KidOf Edit)->Nat
 | []=> 0
 | k ::r=> ZAh k+Zs6 r
def ZAh:KidOf Edit->Nat
 | ⟨_,e⟩=> 65600+utE e
def Zs5:List (OpOf Edit)->Nat
 | []=> 0
 | o ::r=> ZwK o+Zs5 r
def ZwK:OpOf Edit->Nat
 | ⟨k,n,l,e⟩=> if k=3 then 16+utE e else 34*(n.toNat+l.length)+Zd l
end
theorem ZBb(e:Edit):utE e=16+Zj e.old+Zj e.new+65600*e.words.length+Zs6 e.kids+Zs5 e.ops:=by cases e;rfl
theorem Zs7(k:Kid):ZAh k=65600+utE k.e:=by cases k;rfl
theorem ZwJ(o:Op):ZwK o=if o.kind=3 then 16+utE o.e else 34*(o.n.toNat+o.l.length)+Zd o.l:=by cases o;rfl
theorem Zs4:∀ (n:Nat) (e:Edit),Za e<=n->(∃ d,Z5 e d=true)->Yn e=true->utE e+131100<=65600*Za e+150000*Za e:=by
 intro n
 induction n with
 | zero=> intro e h;have:=ZnG e;omega
 | succ n ih=>
  intro e hn ⟨d,hr⟩ hl
  have R:=Zn hr
  have hm:=ZnG e
  have me:Za e=1+Zj e.old+Zj e.new+e.words.length+e.ops.length+ZR e.kids+Zl e.ops:=by cases e;rfl
  have mo:=JH e.old
  have mn:=JH e.new
  rw [Z66,Q4,Q4,decide_eq_true_eq] at hl
  obtain ⟨⟨l1,l2⟩,l3⟩:=hl
  have hk:∀ l:List Kid,(∀ k∈l,k∈e.kids)->Jm l=true->Zs6 l<=215600*ZR l:=by
   intro l
   induction l with
   | nil=> intro _ _;trivial
   | cons a r ihl=>
    intro h hl
    simp only [Jm,Q4,Zbi] at hl
    have ha:=h a Q8
    have:=Yc ha
    have:=ih a.e V0 ⟨_,(Zv R.kids a ha).2⟩ hl.1
    have:=ihl (fun k hk=> h k (Q7 _ hk)) hl.2
    simp only [Zs6,ZR,Zs7,Zai];omega
  have u:=JE hr
  have ho:∀ l:List Op,(∀ o∈l,o∈e.ops)->ZQ l=true->(Zs5 l:Int)<=215600*Zl l+34*Z7N l+16*l.length:=by
   intro l
   induction l with
   | nil=> intro _ _;trivial
   | cons a r ihl=>
    intro h hl
    simp only [ZQ,Q4,ZeD] at hl
    have ha:=h a Q8
    have:=ihl (fun k hk=> h k (Q7 _ hk)) hl.2
    have hr:=rightOs_mem R.ops ha
    have ao:(ZwK a:Int)<=215600*Zy a+34*Z2 a+16:=by
     have me:=YY ha
     have ml:=Zs a.l
     rw [ZwJ,ZV]
     have rt:=ZS hr
     have hp:=Y4 a
     cases rt with
     | keep n s h2=> grind
     | gone l s h2=> grind
     | come l s h2=> grind
     | into e' s h2=>
      rw [if_pos rfl] at hp ⊢
      have:=ih e' (by grind) ⟨_,s⟩ hl.1
      grind
    simp only [Zs5,Zl,Z7N,Qs];omega
  have s:=hk e.kids (fun k h=> h) l2
  have h2:=ho e.ops (fun k h=> h) l3
  have h3:=kids_sum u
  have h4:YK e.ops<=2000/\Yi e.ops<=2000:=by
   have ok:∀ o∈e.ops,0<=Z2 o:=fun o ho=> Z8O (u o ho)
   have a:=Z0F e.ops 0 ok V3 V3
   have b:=Z0E e.ops 0 ok V3 V3
   omega
  rw [ZBb,me]
  omega
where
 kids_sum:∀ {l:List Op},(∀ o∈l,ZP o)->Z7N l<=YK l+Yi l
  | [],_=> by trivial
  | o ::r,h=> by
   have s:=ZB (h o Q8)
   have h2:=kids_sum fun x hx=> h x (Q7 _ hx)
   simp only [Z7N,YK,Yi]
   omega
def φU(o:Op):Int:=ZwK o
def ZG1(e:Edit):Prop:=utE e<=9000000000/\Yp e/\∃ d,Z5 e d=true
noncomputable section
def Zp3:ArgL (Int × Unit):=(.cons (Yr .u8) .nil)
def ZdN(a:Int × Unit):Prop:=0<=a.1/\a.1 < 256
def ZsD(a:Int × Unit):V U:= .c (.int .u64 ((Z0O (a.1).toNat 8:Nat):Int))
def Z8b:Fs U:=fs Zp3 (fun a=> [ZdN a]) ZsD
def ZsV(a:Tree × Unit):V U:= .c (.bool (decide (Tree.kind a.1≠10) && Zb a.1 64))
def Z3V:Fs U:=fs Zw0 (fun a=> [ZfP a]) ZsV
def ZdL(a:Int × Tree × Unit):Prop:=Zj a.2.1<=18000000000/\rng a.2.1/\InR a.1
def ZsC(a:Int × Tree × Unit):V U:= .c (.bool (Zb (Tree.mk a.1 [] [a.2.1]) 64))
def Z89:Fs U:=fs Zpe (fun a=> [ZdL a]) ZsC
def Zp1:ArgL (Int × Edit × Unit):=(.cons (Yr .i64) (.cons (aEl .edit) .nil))
def Zln(a:Int × Edit × Unit):Prop:=True
def ZsB(a:Int × Edit × Unit):V U:= .c (.bool (Z1b a.1 a.2.1))
def Z3R:Fs U:=fs Zp1 (fun a=> [Zln a]) ZsB
def Zpw:ArgL (List WEdit × Unit):=(.cons (aSl .wedit) .nil)
def ZdZ(a:List WEdit × Unit):Prop:=(a.1).length<=20000000000/\∀ x∈a.1,Zdo x
def ZsU(a:List WEdit × Unit):V U:= .c (.bool (ZK (-1) a.1))
def Z3U:Fs U:=fs Zpw (fun a=> [ZdZ a]) ZsU
def Zev:Zc U:=lvl [([0],[]),([0,3],[]),([0,3,5],[]),([0,3,5,6],[]),([0,3,4,5],[]),([0,3,4,5,12],[]),([0,3,5],[]),([0,3,5],[]),([2],[])]
def Z3v(m d h:Int):LSt U:=(L2 [(0,.c (.int .u8 m)),(3,.c (.int .u64 d)),pI 5 h] [])
abbrev ZHK(m:Int)(Q:QT):=AW (Z1 ZlW) Tryz.f215 Zev [] (L2 [(0,.c (.int .u8 m))] []) Q
theorem ZET(m:Int)(Q:QT)(h:Zp (AW (Z1 ZlW) Tryz.f215 Zev [1,1,0,1,0,0]) (Z3v m 0 0) (xB 0 (SW (Z1 ZlW) Tryz.f215 Zev [1,1,1] Q))):
  ZHK m Q:=
 Eq.mpr V4 h
abbrev ZyO(m d h:Int)(N0:NT)(Q:QT):=AW (Z1 ZlW) Tryz.f215 Zev [1,1,0,1,0,0] (Z3v m d h) (xT N0 (xB 0 (SW (Z1 ZlW) Tryz.f215 Zev [1,1,1] Q)))
theorem Zrs(m s d:Int)(N0:NT)(Q:QT)(h:let z1:=IntKind.bits .u8;let z0:=IntKind.bits .u64;iB (decide (d < 8)) (((0:Int)<=d)/\(iB (((IntKind.wrap .u8 (BitVec.ofInt z1 (Int.fdiv m (2 ^ (min d.toNat z1))) &&& BitVec.ofInt z1 1).toNat):Int)==1) ((InR ((8:Int)*d))/\((0:Int)<=((8:Int)*d))/\((InR (d+1))/\(N0 (Z3v m (IntKind.wrap .u64 (BitVec.ofInt z0 s ||| BitVec.ofInt z0 (IntKind.wrap .u64 ((255:Int)*2 ^ (min (Int.toNat ((8:Int)*d)) z0)))).toNat) (d+1))))) ((InR (d+1))/\(N0 (Z3v m s (d+1)))))) (Q .ret (L2 [(2,.c (.int .u64 s))] []))):
  ZyO m s d N0 Q:=
 Eq.mpr V4 h
def Zzi(m:Int):Prop:=AW (Z1 ZlW) Tryz.f215 Zev [] (Zf (Zp3.can (m,())) []) (EQ Tryz.f215 (ZsD (m,())) [])
theorem Zxv(hb:∀ (m:Int) (_:Unit),ZdN (m,())->Zzi m):CT 215 Z8b:=
 Z0 (l:=[]) Zh rfl trivial Zev Tryz.func215 rfl rfl 1 (fun _=> rfl) V3 (fun ⟨m,_⟩=> hb m ())
def Zon:List (FuncId × Fs U):=[(215,Z8b)]
def Zud:Zc U:=lvl [([0,1,2],[]),([6],[])]
abbrev ZHO(a b m:Int)(Q:QT):=AW (Z1 Zon) Tryz.f176 Zud [] (L2 [(0,.c (.int .u64 a)),(1,.c (.int .u64 b)),(2,.c (.int .u8 m))] []) Q
theorem ZFc(a b m:Int)(Q:QT)(h:let z0:=IntKind.bits .u64;(ZdN (m,()))/\(ZdN (m,()))/\(Q .ret (L2 [(6,.c (.int .u64 (IntKind.wrap .u64 (BitVec.ofInt z0 (IntKind.wrap .u64 (BitVec.ofInt z0 a &&& ~~~(BitVec.ofInt z0 ((Z0O m.toNat 8:Nat):Int))).toNat) ||| BitVec.ofInt z0 (IntKind.wrap .u64 (BitVec.ofInt z0 b &&& BitVec.ofInt z0 ((Z0O m.toNat 8:Nat):Int)).toNat)).toNat)))] []))):
  ZHO a b m Q:=
 Eq.mpr V4 h
def ZzB(a b m:Int):Prop:=AW (Z1 Zon) Tryz.f176 Zud [] (Zf (Zpt.can (a,b,m,())) []) (EQ Tryz.f176 (ZsR (a,b,m,())) [])
theorem ZxN(ZCY:CT 215 Z8b)(hb:∀ (a:Int) (b:Int) (m:Int) (_:Unit),ZhG (a,b,m,())->ZzB a b m):CT 176 Z8o:=
 Z0 (l:=[(215,Z8b)]) Zh rfl (⟨ZCY,trivial⟩) Zud Tryz.func176 rfl rfl 3 (fun _=> rfl) V3 (fun ⟨a,b,m,_⟩=> hb a b m ())
def ZoF:List (FuncId × Fs U):=[(82,Z0s)]
abbrev ZHW(t:Tree)(Q:QT):=AW (Z1 ZoF) Tryz.f122 ZCr [] (L2 [(0,.agg (enc .tree t))] []) Q
theorem ZFC(t:Tree)(Q:QT)(h:let z0:=Tree.mk t.kind t.words t.kids;((Tt (t.kind !=10))/\((t.kind !=10)=true->ZfP (z0,()))/\(Tt (t.kind !=10))/\(Q .ret (L2 [pB 2 (bif (t.kind !=10) then (Zb z0 64) else false)] [])))):
  ZHW t Q:=
 Eq.mpr V4 h
def ZA1(t:Tree):Prop:=AW (Z1 ZoF) Tryz.f122 ZCr [] (Zf (Zw0.can (t,())) []) (EQ Tryz.f122 (ZsV (t,())) [])
theorem Zya(c82:CT 82 Z0s)(hb:∀ (t:Tree) (_:Unit),ZfP (t,())->ZA1 t):CT 122 Z3V:=
 Z0 (l:=[(82,Z0s)]) Zh rfl (⟨c82,trivial⟩) ZCr Tryz.func122 rfl rfl 1 (fun _=> rfl) V3 (fun ⟨t,_⟩=> hb t ())
def ZtY:Zc U:=lvl [([0,3],[3]),([4],[])]
abbrev ZHH(list:Int)(t:Tree)(Q:QT):=AW (Z1 ZoF) Tryz.f218 ZtY [] (L2 [pI 0 list,(1,.agg (enc .tree t))] []) Q
theorem ZEQ(list:Int)(t:Tree)(Q:QT)(h:let z0:=Tree.mk list [] ([(Tree.mk t.kind t.words t.kids)]);(ZfP (z0,()))/\(Q .ret (L2 [(4,.c (.bool (Zb z0 64)))] []))):
  ZHH list t Q:=
 Eq.mpr V4 h
def Zzf(list:Int)(t:Tree):Prop:=AW (Z1 ZoF) Tryz.f218 ZtY [] (Zf (Zpe.can (list,t,())) []) (EQ Tryz.f218 (ZsC (list,t,())) [])
theorem Zxs(c82:CT 82 Z0s)(hb:∀ (list:Int) (t:Tree) (_:Unit),ZdL (list,t,())->Zzf list t):CT 218 Z89:=
 Z0 (l:=[(82,Z0s)]) Zh rfl (⟨c82,trivial⟩) ZtY Tryz.func218 rfl rfl 2 (fun _=> rfl) V3 (fun ⟨list,t,_⟩=> hb list t ())
def Zo7:List (FuncId × Fs U):=[(220,Z2G)]
def ZtX:Zc U:=lvl [([0,3],[3]),([0,3,5],[3]),([4],[]),([3,13],[3]),([4],[]),([4],[])]
abbrev ZHG(list:Int)(e:Edit)(Q:QT):=AW (Z1 Zo7) Tryz.f219 ZtX [] (L2 [pI 0 list,(1,.agg (enc .edit e))] []) Q
theorem ZEP(list:Int)(e:Edit)(Q:QT)(h:let z1:=decide (2<=list/\list<=7);let z0:=bif (e.kind==1) then (e.old.kind==1) else false;((Zlr (list,()))/\(Tt (!z1))/\(Tt (!z1))/\(z1=false->(!z1)=true)/\(iB (bif z1 then true else (e.kind==0)) ((Q .ret (L2 [pB 4 false] []))) ((Tt (!(list==8)))/\(Tt (!(list==8)))/\((list==8)=false->(!(list==8))=true)/\(iB (bif (list==8) then true else (e.kind==2)) ((Q .ret (L2 [pB 4 true] []))) ((Tt (e.kind==1))/\(Tt (e.kind==1))/\(Tt (e.kind==1))/\(Tt (e.kind==1))/\(Tt z0)/\(Tt z0)/\(Tt z0)/\(Tt z0)/\(Q .ret (L2 [pB 4 (bif z0 then (e.new.kind==1) else false)] [])))))))):
  ZHG list e Q:=
 Eq.mpr V4 h
def Zze(list:Int)(e:Edit):Prop:=AW (Z1 Zo7) Tryz.f219 ZtX [] (Zf (Zp1.can (list,e,())) []) (EQ Tryz.f219 (ZsB (list,e,())) [])
theorem Zxr(ZqX:CT 220 Z2G)(hb:∀ (list:Int) (e:Edit) (_:Unit),Zln (list,e,())->Zze list e):CT 219 Z3R:=
 Z0 (l:=[(220,Z2G)]) Zh rfl (⟨ZqX,trivial⟩) ZtX Tryz.func219 rfl rfl 2 (fun _=> rfl) V3 (fun ⟨list,e,_⟩=> hb list e ())
def Z6c:List (FuncId × Fs U):=[(176,Z8o)]
def Zez:Zc U:=lvl [([0],[]),([0,5,6,7],[]),([0,5,6,7,8],[]),([0,3,4,5,6,7],[4]),([0,4,5,6,7,39],[4]),([2],[]),([0,5,6,7,53],[]),([2],[]),([0,5,6,7],[]),([2],[])]
def Z6p(l:List WEdit)(d:Int):LSt U:=(L2 [(0,.c (sU .wedit l .unk)),(5,.c (sU .wedit l .unk)),pI 6 (l.length:Int),pI 7 d] [])
abbrev ZHV(l:List WEdit)(Q:QT):=AW (Z1 Z6c) Tryz.f123 Zez [] (L2 [(0,.c (sU .wedit l .unk))] []) Q
theorem ZFB(l:List WEdit)(Q:QT)(h:Zp (AW (Z1 Z6c) Tryz.f123 Zez [1,0,1,0,0]) (Z6p l 0) (xB 0 (SW (Z1 Z6c) Tryz.f123 Zez [1,1] Q))):
  ZHV l Q:=
 Eq.mpr V4 h
abbrev ZyU(l:List WEdit)(d:Int)(N0:NT)(Q:QT):=AW (Z1 Z6c) Tryz.f123 Zez [1,0,1,0,0] (Z6p l d) (xT N0 (xB 0 (SW (Z1 Z6c) Tryz.f123 Zez [1,1] Q)))
theorem ZrJ(l:List WEdit)(s:Int)(N0:NT)(Q:QT)(h:∀ d,d=(l.getD s.toNat (WEdit.mk 0 0 0 0))->∀ u,u=(List.getD l (Int.toNat (s - 1)) (WEdit.mk 0 0 0 0))->let z6:=(Q .ret (L2 [pB 2 false] []));let z5:=decide ((0:Int) < s);let z4:=decide (d.at_ < 0);let z3:=((mix d.old 0 d.mask):Int) !=0;let z0:=bif z4 then true else (decide ((65535:Int)<=d.at_));let z2:=(!z0) && z5;let z1:=bif z0 then true else (bif z5 then (decide (d.at_<=u.at_)) else false);(iB (decide (s < (l.length:Int))) (((0:Int)<=s/\s < (l.length:Int))/\((Tt (!z4))/\(Tt (!z4))/\(z4=false->(!z4)=true)/\(Tt (!z0))/\(Tt (!z0))/\(Tt z2)/\(z2=true->InR (s - 1))/\(Tt z2)/\(Tt z2)/\(z2=true->(0:Int)<=(s - 1)/\(s - 1) < (l.length:Int))/\(Tt z2)/\(Tt z2)/\(Tt z2)/\(Tt z2)/\(Tt z2)/\((!z0)=true->(True->(!z0)=true))/\((!z0)=true->(z5=true->z2=true))/\(z0=false->(!z0)=true)/\(Tt (!z1))/\(Tt (!z1))/\(z1=false->(!z1)=true)/\(iB (bif z1 then true else (d.mask==0)) z6 ((ZhG (d.old,0,d.mask,()))/\(Tt (!z3))/\(Tt (!z3))/\(Tt (!z3))/\(Tt (!z3))/\((!z3)=true->ZhG (d.new,0,d.mask,()))/\(Tt (!z3))/\(z3=false->(!z3)=true)/\(iB (bif z3 then true else (((mix d.new 0 d.mask):Int) !=0)) z6 ((InR (s+1))/\(N0 (Z6p l (s+1))))))))) ((Q .ret (L2 [pB 2 true] []))))):
  ZyU l s N0 Q:=
 Eq.mpr V4 (h _ rfl _ rfl)
def ZA0(l:List WEdit):Prop:=AW (Z1 Z6c) Tryz.f123 Zez [] (Zf (Zpw.can (l,())) []) (EQ Tryz.f123 (ZsU (l,())) [])
theorem Zy9(ZbK:CT 176 Z8o)(hb:∀ (l:List WEdit) (_:Unit),ZdZ (l,())->ZA0 l):CT 123 Z3U:=
 Z0 (l:=[(176,Z8o)]) Zh rfl (⟨ZbK,trivial⟩) Zez Tryz.func123 rfl rfl 1 (fun _=> rfl) V3 (fun ⟨l,_⟩=> hb l ())
end
end Go.AM.YtpjenobkibfpcaaGreat
