import Derived.Test.YtpjenobkibfpcaaGreatZKG22a
import Derived.Test.YtpjenobkibfpcaaGreatZKD20
import Derived.Test.YtpjenobkibfpcaaGreatZKRB07
set_option linter.unusedSimpArgs false
set_option linter.unusedVariables false
namespace Go.AM.YtpjenobkibfpcaaGreat
open Go.AM Go.Proofs
theorem ZEx:Contract Tryz.prog cfg 180 Z91:=by
 refine Zzj c41 ?_
 intro l _ hp
 simp only [ZaR] at hp
 have hl:=Zq l
 refine ZGw _ _ ?_
 refine Z5 (ι:=Int × List Tree) (fun s=> Z2N l s.1 s.2) (fun s=> 0<=s.1/\s.1<=l.length/\s.2.length=s.1/\s.2++Z8 (l.drop s.1.toNat)=Z8 l) (fun s=> ((l.length:Int) - s.1).toNat) (0,[]) rfl ⟨by simp,by simp,by simp,by simp⟩ ?_
 rintro ⟨i,out⟩ ⟨h1,h2,h3,h4⟩
 dsimp only at h1 h2 h3 h4
 refine ZtI _ _ _ _ _ ?_
 (simp only [iB,vcS])
 (simp only [Tree.eta,Edit.eta,Tree.kind_mk,Tree.words_mk,Tree.kids_mk])
 refine ⟨fun hi=> ?_,fun hi=> ?_⟩
 .have hm:=YN (Ze (l:=l) (i:=i.toNat) YS Tree.nil)
  rw [ZQ h1 hi Tree.nil] at h4
  simp only [Z8,Qn] at h4
  refine ⟨⟨h1,hi⟩,by simp only [Jy];omega,by simp;omega,V3,(i+1,out++[Z4 (l.getD i.toNat Tree.nil)]),rfl,⟨V2,V2,by simp;omega,?_⟩,V2⟩
  simp only [Qa,Qp,Qr]
  exact h4
 .rw [Q9 YS] at h4
  simp only [Z8,QU,Qo] at h4
  rw [h4]
  exact JP
theorem Zhq{kind:Int}{l:List Op}{i:Int}(h0:0<=i)(h:i < l.length):YT kind (l.drop i.toNat)=if (l.getD i.toNat Op.nil).kind=1\/(l.getD i.toNat Op.nil).kind=2 then (if (l.getD i.toNat Op.nil).kind=kind then Z8 (l.getD i.toNat Op.nil).l else [])++YT kind (l.drop (i+1).toNat) else []:=by
 rw [ZQ h0 h Op.nil,YT]
theorem Zhs{l:List Op}{i:Int}(h0:0<=i)(h:i < l.length):ZN (l.drop i.toNat)=if (l.getD i.toNat Op.nil).kind=1\/(l.getD i.toNat Op.nil).kind=2 then 1+ZN (l.drop (i+1).toNat) else 0:=by
 rw [ZQ h0 h Op.nil,ZN]
theorem ZlA(n:Nat):∀ (l:List Op),Zg (l.drop n)<=Zg l:=by
 induction n with
 | zero=> intro l;simp
 | succ n ih=>
  intro l
  cases l with
  | nil=> simp
  | cons t r=> simp only [Qq,Zg];have:=ih r;omega
theorem ZEW:Contract Tryz.prog cfg 127 Z6z:=by
 refine ZzQ ZEx ?_
 intro l from_ kind _ hp
 simp only [Z50] at hp
 obtain ⟨hm,hf0,hf1⟩:=hp
 have hl:=Y0 l
 refine ZH6 _ _ _ _ ?_
 refine Z5 (ι:=Int × List Tree) (fun s=> Z0U l from_ kind s.1 s.2) (fun s=> from_<=s.1/\s.1<=l.length/\s.2.length+Zg (l.drop s.1.toNat)<=Zg l/\s.2++YT kind (l.drop s.1.toNat)=YT kind (l.drop from_.toNat)/\s.1+ZN (l.drop s.1.toNat)=from_+ZN (l.drop from_.toNat)) (fun s=> ((l.length:Int) - s.1).toNat) (from_,[]) rfl ⟨by simp,by simpa using hf1,by have:=ZlA from_.toNat l;simpa using this,by simp,rfl⟩ ?_
 rintro ⟨i,out⟩ ⟨h1,h2,h3,h4,h5⟩
 dsimp only at h1 h2 h3 h4 h5
 refine Zu1 _ _ _ _ _ _ _ ?_
 rintro y hy
 (simp only [iB,vcS])
 refine ⟨fun hi=> ⟨YS,hi⟩,fun hi=> ⟨YS,hi.1⟩,fun hi=> ?_,fun hi=> ?_⟩
 .obtain ⟨hi,hk⟩:=hi
  have hmem:=ZZ (Ze (l:=l) (i:=i.toNat) YS Op.nil)
  have hd:=congrArg Zg (ZQ (show 0<=i by omega) hi Op.nil)
  rw [Z3z] at hd
  rw [Zhq YS hi] at h4
  rw [Zhs YS hi] at h5
  rw [<-hy] at h4 h5 hmem hd
  rw [if_pos hk] at h4 h5
  rw [ZI] at hmem hd
  have hkl:=Zq y.l
  have hyl:(Z8 y.l).length=y.l.length:=by simp [Z8]
  refine ⟨⟨YS,hi⟩,fun hq=> ⟨⟨YS,hi⟩,by simp only [ZaR];omega,by rw [hyl];omega,V3,(i+1,out++Z8 y.l),rfl,⟨V2,V2,by simp;omega,?_,V2⟩,V2⟩,fun hq=> ⟨V3,(i+1,out),rfl,⟨V2,V2,V2,?_,V2⟩,V2⟩⟩
  .rw [if_pos hq,<-Qa] at h4;exact h4
  .rw [if_neg hq,Qr] at h4;exact h4
 .have e1:YT kind (l.drop i.toNat)=[]/\ZN (l.drop i.toNat)=0:=by
   by_cases hc:i < l.length
   .rw [Zhq YS hc,Zhs YS hc,<-hy,JL,JL]
    exact ⟨rfl,rfl⟩
   .rw [Q9 YS]
    exact ⟨rfl,rfl⟩
  rw [e1.1,Qo] at h4
  rw [e1.2] at h5
  have e2:i=from_+ZN (l.drop from_.toNat):=YS
  simp only [ZmU,<-h4,<-e2]
  exact JP
theorem Zco:∀ (l:List Op) (m n:Int),Jp (Jp l m) n=Jp l (m+n)
 | [],m,n=> by simp [Jp]
 | [o],m,n=> by
  by_cases h:o.kind=0
  .simp [Jp,h,Int.add_assoc]
  .simp [Jp,h]
 | o ::p ::r,m,n=> by
  have ih:=Zco (p ::r) m n
  cases hk:Jp (p ::r) m with
  | nil=> cases r <;> simp [Jp] at hk;split at hk <;> cases hk
  | cons x y=>
   rw [hk] at ih
   simp only [Jp]
   rw [hk]
   simp only [Jp]
   rw [ih]
theorem Z05:∀ (l:List Op) (n:Int),Jp l n=l++[⟨0,n,[],Edit.nil⟩]\/∃ a o,l=a++[o]/\o.kind=0/\Jp l n=a++[⟨o.kind,o.n+n,o.l,o.e⟩]
 | [],n=> Or.inl rfl
 | [o],n=> by
  by_cases h:o.kind=0
  .exact Or.inr ⟨[],o,rfl,h,by simp [Jp,h]⟩
  .exact Or.inl (by simp [Jp,h])
 | o ::p ::r,n=> by
  rcases Z05 (p ::r) n with h | ⟨a,q,h1,h2,h3⟩
  .exact Or.inl (by simp only [Jp,h,Qp])
  .exact Or.inr ⟨o ::a,q,by rw [h1];rfl,h2,by simp only [Jp,h3,Qp]⟩
def W0:Wst:=⟨[],[],[]⟩
theorem Z7W(a b:List Tree):Z8 (a++b)=Z8 a++Z8 b:=by simp [Z8]
end Go.AM.YtpjenobkibfpcaaGreat
namespace Go.AM
theorem Z9C{t:Tree}(h:JU t=true):t=Tree.nil:=by
 obtain ⟨k,w,ks⟩:=t
 simp only [JU,decide_eq_true_eq] at h
 obtain ⟨h1,h2,h3⟩:=h
 have h1:k=0:=h1
 rw [h1,Q4 (l:=w) h2,Q4 (l:=ks) h3]
 try rfl
theorem Zkv{e:Edit}(h:Z27 e=true):e=Edit.nil:=by
 obtain ⟨k,o,n,w,ks,l,os⟩:=e
 simp only [Z27,Q3,decide_eq_true_eq] at h
 obtain ⟨⟨⟨h1,h2⟩,h3⟩,h4,h5,h6,h7⟩:=h
 have h1:k=0:=h1
 have h7:l=0:=h7
 rw [h1,h7,Z9C (t:=o) h2,Z9C (t:=n) h3,Q4 (l:=w) h4,Q4 (l:=ks) h5,Q4 (l:=os) h6]
 try rfl
structure RightE (e:Edit) (d:Int):Prop where
 d0:d≠0
 kind:0<=e.kind/\e.kind<=3
 none:e.kind≠1->e.old=Tree.nil/\e.new=Tree.nil
 words0:e.kind≠2->e.words=[]/\e.kids=[]
 ops0:e.kind≠3->e.list=0/\e.ops=[]
 rep:e.kind=1->ZD e.old (dT d)=true/\ZD e.new (dT d)=true/\e.old.kind≠10/\e.new.kind≠10
 words:YM (-1) e.words=true
 kids:ZK (-1) e.kids (d - 1)=true
 list:e.kind=3->2<=e.list/\e.list<=9
 ops:ZO e.list e.ops (d - 1)=true
 len:Z2r e.ops 0 < 1048576/\Z2q e.ops 0 < 1048576
theorem Zj{e:Edit}{d:Int}(h:Zb e d=true):RightE e d:=by
 obtain ⟨k,o,n,w,ks,l,os⟩:=e
 rw [Zb] at h
 split at h
 .cases h
 .rename_i a
  split at h
  .cases h
  .rename_i b
   have b1:k≠1->o=Tree.nil/\n=Tree.nil:=by
    intro hk
    by_cases x:JU o=true/\JU n=true
    .exact ⟨Z9C x.1,Z9C x.2⟩
    .exact absurd (.inl ⟨hk,x⟩) b
   have b2:k≠2->w=[]/\ks=[]:=by
    intro hk
    by_cases x:w.length=0/\ks.length=0
    .exact ⟨Q4 x.1,Q4 x.2⟩
    .exact absurd (.inr (.inl ⟨hk,x⟩)) b
   have b3:k≠3->l=0/\os=[]:=by
    intro hk
    by_cases x:l≠0\/os.length≠0
    .exact absurd (.inr (.inr ⟨hk,x⟩)) b
    .exact ⟨YS,Q4 YS⟩
   split at h
   .rename_i c
    simp only [Q3,decide_eq_true_eq] at h
    obtain ⟨⟨h1,h2⟩,h3,h4⟩:=h
    have c2:=b2 YS
    have c3:=b3 YS
    obtain ⟨rfl,rfl⟩:=c2
    obtain ⟨rfl,rfl⟩:=c3
    exact ⟨YS,⟨by show 0<=k;omega,by show k<=3;omega⟩,b1,b2,b3,fun _=> ⟨h1,h2,h3,h4⟩,rfl,rfl,fun e=> by have e:k=3:=e;omega,rfl,by show Z2r [] 0 < _/\Z2q [] 0 < _;simp [Z2r,Z2q]⟩
   .rename_i c
    simp only [Q3,decide_eq_true_eq] at h
    obtain ⟨⟨⟨⟨h1,h2⟩,h3⟩,h4⟩,h5⟩:=h
    exact ⟨YS,⟨by show 0<=k;omega,by show k<=3;omega⟩,b1,b2,b3,fun e=> absurd e c,h1,h2,fun e=> by have e:k=3:=e;show 2<=l/\l<=9;omega,h4,h5⟩
theorem Zp:∀ {ks:List Kid} {last d:Int},ZK last ks d=true->∀ k∈ks,(last < k.at_/\k.at_<=65534/\k.e.kind≠0)/\Zb k.e d=true
 | [],_,_,_,_,hk=> by cases hk
 | ⟨a,e⟩ ::r,last,d,h,k,hk=> by
  simp only [ZK,JY,Q3,decide_eq_true_eq] at h
  obtain ⟨⟨h1,h2⟩,h3⟩:=h
  rcases Qc.1 hk with rfl | hk
  .exact ⟨h1,h2⟩
  .have:=Zp h3 k hk
   have h1:last < a/\a<=65534/\e.kind≠0:=h1
   have h4:a < k.at_:=this.1.1
   exact ⟨⟨YS,this.1.2⟩,this.2⟩
theorem rightOs_mem{list:Int}:∀ {os:List Op} {d:Int},ZO list os d=true->∀ o∈os,Zk list o d=true
 | [],_,_,_,ho=> by cases ho
 | a ::r,d,h,o,ho=> by
  simp only [ZO,Q3] at h
  rcases Qc.1 ho with rfl | ho
  .exact h.1
  .exact rightOs_mem h.2 o ho
theorem Yu:∀ {ws:List WEdit} {last:Int},YM last ws=true->∀ w∈ws,last < w.at_/\w.at_<=65534/\w.mask≠0/\J7 w.old w.mask=true/\J7 w.new w.mask=true
 | [],_,_,_,hw=> by cases hw
 | a ::r,last,h,w,hw=> by
  simp only [YM,Q3,decide_eq_true_eq] at h
  obtain ⟨⟨⟨h1,h2⟩,h3⟩,h4⟩:=h
  rcases Qc.1 hw with rfl | hw
  .exact ⟨h1.1,h1.2.1,h1.2.2,h2,h3⟩
  .have:=Yu h4 w hw
   exact ⟨YS,this.2⟩
inductive RightOp (list:Int) (d:Int):Op->Prop
 | keep (n:Int):1<=n->n<=1048576->RightOp list d ⟨0,n,[],Edit.nil⟩
 | gone (l:List Tree):YG (dT d) list l=true->0 < l.length->RightOp list d ⟨1,0,l,Edit.nil⟩
 | come (l:List Tree):YG (dT d) list l=true->0 < l.length->RightOp list d ⟨2,0,l,Edit.nil⟩
 | into (e:Edit):Zb e d=true->e.kind≠0->7 < list->(list=8\/e.kind=2\/e.kind=1/\e.old.kind=1/\e.new.kind=1)->RightOp list d ⟨3,0,[],e⟩
theorem J1{list:Int}{o:Op}{d:Int}(h:Zk list o d=true):RightOp list d o:=by
 obtain ⟨k,n,l,e⟩:=o
 rw [Zk] at h
 split at h
 .rename_i hk
  simp only [Q3,decide_eq_true_eq] at h
  obtain ⟨⟨h1,h2,h3⟩,h4⟩:=h
  rw [hk,Zkv h4,Q4 h3]
  exact .keep n h1 h2
 .rename_i h0
  split at h
  .cases h
  .rename_i h1
   have hn:n=0:=YS
   subst hn
   split at h
   .rename_i h2
    simp only [Q3,decide_eq_true_eq] at h
    obtain ⟨⟨h3,h4⟩,h5⟩:=h
    rw [Zkv h5]
    by_cases hk:k=1
    .rw [hk];exact .gone l h3 h4
    .rw [show k=2 by omega];exact .come l h3 h4
   .rename_i h2
    simp only [Q3,decide_eq_true_eq] at h
    obtain ⟨⟨⟨h3,h4,h5⟩,h6⟩,h7⟩:=h
    rw [show k=3 by omega,Q4 h3]
    exact .into e h6 h4 h5 h7
theorem J5{l d:Int}{o:Op}(h:Zk l o d=true)(hk:o.kind=3):Zb o.e d=true:=by
 have r:=J1 h
 cases r with
 | into e h1=> exact h1
 | keep | gone | come=> exact absurd hk (by simp)
end Go.AM
namespace Go.AM.YtpjenobkibfpcaaGreat
open Go.AM Go.Proofs
theorem Zgo{α:Type}(z:α)(l:List α)(i:Nat)(x:α):(Yj z l i x).length=max l.length (i+1):=by
 simp only [Yj,Km,Q7,Xg];omega
theorem Zkt{α:Type}(z:α)(l:List α)(i:Nat)(x:α)(j:Nat):(Yj z l i x).getD j z=if j=i then x else l.getD j z:=by
 simp only [Yj,Qg,Kc,Q7,Xg]
 by_cases h:j=i
 .subst h;rw [if_pos rfl,if_pos rfl,V0];try rfl
 .rw [if_neg (fun e=> h e.symm),if_neg h]
  by_cases hl:j < l.length
  .rw [Qy hl]
  .rw [Qz YS,QA (l:=l) YS,List.getElem?_replicate]
   split <;> rfl
theorem ZmF{α β:Type}(f:α->β)(z:α)(l:List α)(i:Nat)(x:α):(Yj z l i x).map f=Yj (f z) (l.map f) i (f x):=by
 simp [Yj,List.map_set]
theorem Zh3:∀ l:List Tree,Yk l=Z8 l
 | []=> rfl
 | t ::r=> by simp [Yk,Z8,Zh3 r]
theorem Zfz(l:List Tree)(i:Nat)(x:Tree):Z8 (Yj Tree.nil l i x)=Yj Tree.nil (Z8 l) i (Z4 x):=by
 rw [Z8,ZmF,Zb9];try rfl
theorem Zsu{a b:List Tree}{i:Nat}{x y:Tree}(h:Z8 a=Z8 b)(hx:Z4 x=Z4 y):Z8 (Yj Tree.nil a i x)=Z8 (Yj Tree.nil b i y):=by
 rw [Zfz,Zfz,h,hx]
theorem Z6R{a b c d:List Tree}(h:Z8 a=Z8 b)(hx:Z8 c=Z8 d):Z8 (a++c)=Z8 (b++d):=by
 rw [Z7W,Z7W,h,hx]
theorem Zlr(k:Int)(w:List Int){a b:List Tree}(h:Z8 a=Z8 b):Z4 (.mk k w a)=Z4 (.mk k w b):=by
 simp only [Z4,Zh3,h]
theorem Zb8{a b:List Tree}(h:Z8 a=Z8 b):a.length=b.length:=by
 have:=congrArg List.length h
 simpa [Z8] using this
theorem Zsv{a b:Tree}:Z8 [a]=Z8 [b]↔Z4 a=Z4 b:=by simp [Z8]
def OptR{α β:Type}(R:α->β->Prop):Option α->Option β->Prop
 | none,none=> True
 | some a,some b=> R a b
 | _,_=> False
theorem OptR.rfl'{α:Type}(a:Option α):OptR Eq a a:=by cases a;exact trivial;exact rfl
theorem OptR.bind{α β γ δ:Type}{R:α->β->Prop}{S:γ->δ->Prop}{a:Option α}{b:Option β}{f:α->Option γ}{g:β->Option δ}(h:OptR R a b)(hf:∀ x y,R x y->OptR S (f x) (g y)):OptR S (a.bind f) (b.bind g):=by
 cases a <;> cases b <;> first | exact trivial | exact h.elim | exact hf _ _ h
theorem OptR.map{α β γ δ:Type}{R:α->β->Prop}{S:γ->δ->Prop}{a:Option α}{b:Option β}{f:α->γ}{g:β->δ}(h:OptR R a b)(hf:∀ x y,R x y->S (f x) (g y)):OptR S (a.map f) (b.map g):=by
 cases a <;> cases b <;> first | exact trivial | exact h.elim | exact hf _ _ h
theorem OptR.ite{α β:Type}{R:α->β->Prop}{p q:Prop} [Decidable p] [Decidable q] {a c:Option α}{b d:Option β}(h:p↔q)(h1:p->OptR R a b)(h2:¬p->OptR R c d):OptR R (if p then a else c) (if q then b else d):=by
 by_cases hp:p
 .rw [if_pos hp,if_pos (h.1 hp)];exact h1 hp
 .rw [if_neg hp,if_neg (fun hq=> hp (h.2 hq))];exact h2 hp
theorem OptR.mono{α β:Type}{R S:α->β->Prop}{a:Option α}{b:Option β}(h:OptR R a b)(hf:∀ x y,R x y->S x y):OptR S a b:=by
 cases a <;> cases b <;> first | exact trivial | exact h.elim | exact hf _ _ h
theorem OptR.normed{a b:Option Tree}(h:OptR (fun x y=> Z4 x=Z4 y) a b):a.map Z4=b.map Z4:=by
 cases a <;> cases b <;> first | rfl | exact h.elim | exact congrArg some h
def Eqv(x y:Tree):Prop:=Z4 x=Z4 y
def EqvL(x y:List Tree):Prop:=Z8 x=Z8 y
theorem EqvL.take{x y:List Tree}(h:EqvL x y)(n:Nat):EqvL (x.take n) (y.take n):=by unfold EqvL Z8 at*;rw [List.map_take,List.map_take,h]
theorem EqvL.drop{x y:List Tree}(h:EqvL x y)(n:Nat):EqvL (x.drop n) (y.drop n):=by unfold EqvL Z8 at*;rw [List.map_drop,List.map_drop,h]
theorem EqvL.len{x y:List Tree}(h:EqvL x y):x.length=y.length:=Zb8 h
theorem Zxd{a b:Option (List Tree × List Tree)}(h:OptR (fun x y=> EqvL x.1 y.1/\EqvL x.2 y.2) a b):OptR EqvL (Z3l a) (Z3l b):=by
 unfold Z3l
 refine h.bind fun x y hxy=> ?_
 exact OptR.ite (by rw [hxy.2.len]) (fun _=> hxy.1) (fun _=> trivial)
mutual
theorem ZnW:∀ (e:Edit) (t:Tree),OptR Eqv (doE true e t) (doE false e t)
 | .mk k o n w ks l os,t=> by
  have h1:=ZqP ks t.kids t.kids t.kids rfl
  have h2:=ZqN os t.kids [] [] rfl
  rw [Z8y,Z8y,Z6Q]
  show OptR Eqv (Option.map (nrD true) _) _
  suffices h:∀ a b,OptR Eqv a b->OptR Eqv (Option.map (nrD true) a) b by
   refine h _ _ ?_
   refine OptR.ite QY (fun _=> rfl) fun _=> OptR.ite QY (fun _=> OptR.ite QY (fun _=> rfl) (fun _=> trivial)) fun _=> OptR.ite QY (fun _=> ?_) fun _=> OptR.ite QY (fun _=> ?_) (fun _=> trivial)
   .refine OptR.ite QY (fun _=> ?_) (fun _=> trivial)
    refine OptR.bind (R:=Eq) (OptR.rfl' _) ?_
    rintro a _ rfl
    exact h1.map fun x y h=> Zlr _ _ h
   .refine OptR.ite QY (fun _=> ?_) (fun _=> trivial)
    exact (Zxd (h2.mono fun x y h=> ⟨h.1,by rw [h.2];rfl⟩)).map fun x y h=> Zlr _ _ h
  intro a b h
  cases a <;> cases b <;> first | exact trivial | exact h.elim | skip
  unfold Eqv nrD at*
  simp only [Qd,if_true]
  show Z4 (Z4 _)=_
  rw [Z38]
  exact h
theorem ZqP:∀ (ks:List (KidOf Edit)) (tk a b:List Tree),EqvL a b->OptR EqvL (Z5f true tk ks a) (Z5f false tk ks b)
 | [],_,_,_,h=> h
 | k ::r,tk,a,b,h=> by
  rw [Z5f,Z5f]
  refine (Zxi k tk).bind fun x y hxy=> ZqP r tk _ _ (Zsu h hxy)
theorem Zxi:∀ (k:KidOf Edit) (tk:List Tree),OptR Eqv (Z5p true tk k) (Z5p false tk k)
 | ⟨_,e⟩,tk=> by rw [Z5p,Z5p];exact ZnW e _
theorem ZqN:∀ (os:List (OpOf Edit)) (rest a b:List Tree),EqvL a b->OptR (fun x y=> EqvL x.1 y.1/\x.2=y.2) (Z0Z true os rest a) (Z0Z false os rest b)
 | [],rest,a,b,h=> ⟨h,rfl⟩
 | o ::r,rest,a,b,h=> by
  rw [Z0Z,Z0Z]
  refine (ZAo o rest a b h).bind fun x y hxy=> ?_
  rw [hxy.2]
  exact ZqN r _ _ _ hxy.1
theorem ZAo:∀ (o:OpOf Edit) (rest a b:List Tree),EqvL a b->OptR (fun x y=> EqvL x.1 y.1/\x.2=y.2) (ZjJ true o rest a) (ZjJ false o rest b)
 | ⟨k,n,l,e⟩,rest,a,b,h=> by
  have he:=ZnW e (rest.getD 0 Tree.nil)
  rw [ZjJ,ZjJ]
  refine OptR.ite QY (fun _=> OptR.ite QY (fun _=> ⟨Z6R h rfl,rfl⟩) (fun _=> trivial)) fun _=> OptR.ite QY (fun _=> OptR.ite QY (fun _=> ⟨h,rfl⟩) (fun _=> trivial)) fun _=> OptR.ite QY (fun _=> ⟨Z6R h rfl,rfl⟩) fun _=> OptR.ite QY (fun _=> trivial) fun _=> ?_
  exact he.map fun x y h'=> ⟨Z6R h (Zsv.2 h'),rfl⟩
end
theorem Zak(e:Edit)(t:Tree):(doE true e t)=(doE false e t).map Z4:=by
 have h:=ZnW e t
 have hi:(doE true e t).map Z4=doE true e t:=by
  rw [Z8y]
  generalize ite (e.kind=0) _ _=x
  cases x with
  | none=> rfl
  | some u=> simp [nrD,Z38]
 rw [<-hi]
 exact h.normed
theorem Zcf{α β:Type}{f:α->β}(d:α){a b:List α}(hl:a.length=b.length)(h:∀ i:Nat,i < a.length->f (a.getD i d)=f (b.getD i d)):a.map f=b.map f:=by
 apply KD (by simpa using hl)
 intro i h1 h2
 have h1':i < a.length:=by simpa using h1
 have h2':i < b.length:=by simpa using h2
 have:=h i h1'
 simpa [Qg,Q0 h1',Q0 h2'] using this
theorem Zct{α β:Type}{f:α->β}{d:α}{a b:List α}(h:a.map f=b.map f)(i:Nat):f (a.getD i d)=f (b.getD i d):=by
 have e:=congrArg (fun l=> l[i]?.getD (f d)) h
 simp only [Qm] at e
 rw [Qg,Qg]
 cases h1:a[i]? <;> cases h2:b[i]? <;> simp_all
theorem Z4o(t:Tree):(Z4 t).kind=t.kind:=by
 obtain ⟨k,w,ks⟩:=t
 simp only [Z4]
 by_cases h0:k=0
 .rw [if_pos h0,h0];try rfl
 .rw [if_neg h0]
  by_cases h1:k=1
  .rw [if_pos h1,h1];try rfl
  .rw [if_neg h1];try rfl
theorem Ze1:∀ (l:List Int),∃ r,l=trim l++r
 | []=> ⟨[],rfl⟩
 | x ::r=> by
  obtain ⟨s,hs⟩:=Ze1 r
  simp only [trim]
  split
  .rename_i e
   split
   .exact ⟨x ::r,rfl⟩
   .exact ⟨r,rfl⟩
  .rename_i y t e
   rw [e] at hs
   exact ⟨s,by rw [hs];rfl⟩
theorem ZaA:∀ (l:List Tree),∃ r,l=Yp l++r
 | []=> ⟨[],rfl⟩
 | x ::r=> by
  obtain ⟨s,hs⟩:=ZaA r
  simp only [Yp]
  split
  .rename_i e
   split
   .exact ⟨x ::r,rfl⟩
   .exact ⟨r,rfl⟩
  .rename_i y t e
   rw [e] at hs
   exact ⟨s,by rw [hs];rfl⟩
theorem ZeG{list d:Int}:∀ (a b:List Tree),Jm list (a++b) d=true->Jm list a d=true
 | [],_,_=> rfl
 | t ::r,b,h=> by
  simp only [Qp,Jm,Q3] at h ⊢
  exact ⟨h.1,ZeG r b h.2⟩
theorem Z2n:∀ (l:List Tree),(Yk l).length=l.length
 | []=> rfl
 | t ::r=> by simp only [Yk,Q6,Z2n r]
theorem ZsM{list:Int}{t:Tree}(h:ZjG list t=true):ZjG list (Z4 t)=true:=by
 unfold ZjG at h ⊢
 rw [Z4o]
 split at h
 .rename_i hl
  rw [if_pos hl]
  simp only [Q3,decide_eq_true_eq] at h ⊢
  obtain ⟨⟨h1,h2,h3⟩,h4⟩:=h
  obtain ⟨k,w,ks⟩:=t
  simp only [Tree.kind_mk,Tree.kids_mk,Tree.words_mk] at h1 h2 h3 h4
  have:ks=[]:=QZ.1 h2
  subst this
  subst h1
  exact ⟨⟨rfl,rfl,h3⟩,h4⟩
 .rename_i hl
  rw [if_neg hl]
  exact h
mutual
theorem Z5G:∀ (t:Tree) (d:Int),ZD t d=true->ZD (Z4 t) d=true
 | .mk k w ks,d,h=> by
  have ih:=fun (list:Int) (h:Jm list ks (d - 1)=true)=> Z5I ks list (d - 1) h
  simp only [ZD] at h
  simp only [Z4]
  by_cases h0:k=0
  .rw [if_pos h0];simp [Tree.nil,ZD]
  .rw [if_neg h0] at h ⊢
   by_cases h10:k=10
   .subst h10
    rw [if_pos rfl] at h
    rw [if_neg V1]
    simp only [decide_eq_true_eq] at h
    simp only [ZD]
    rw [if_neg V1,if_pos trivial,Z2n]
    simpa using h
   .rw [if_neg h10] at h
    by_cases hd:d=0
    .rw [if_pos hd] at h;cases h
    .rw [if_neg hd] at h
     by_cases h1:k=1
     .subst h1
      rw [if_pos rfl] at h
      rw [if_pos rfl]
      simp only [Q3,decide_eq_true_eq] at h
      simp only [ZD]
      rw [if_neg V1,if_neg V1,if_neg hd,if_pos trivial]
      simp only [Q3,decide_eq_true_eq]
      obtain ⟨r1,e1⟩:=Ze1 w
      obtain ⟨r2,e2⟩:=ZaA (Yk ks)
      have l1:=congrArg List.length e1
      have l2:=congrArg List.length e2
      rw [Z2n] at l2
      simp only [Q7] at l1 l2
      refine ⟨⟨YS,YS⟩,?_⟩
      have:=ih 1 h.2
      rw [e2] at this
      exact ZeG _ _ this
     .rw [if_neg h1] at h ⊢
      simp only [Q3,decide_eq_true_eq] at h
      simp only [ZD]
      rw [if_neg h0,if_neg h10,if_neg hd,if_neg h1,Z2n]
      simp only [Q3,decide_eq_true_eq]
      exact ⟨h.1,ih k h.2⟩
theorem Z5I:∀ (l:List Tree) (list d:Int),Jm list l d=true->Jm list (Yk l) d=true
 | [],_,_,_=> rfl
 | t ::r,list,d,h=> by
  simp only [Jm,Q3] at h
  have h1:=Z5G t d h.1.2
  have h2:=Z5I r list d h.2
  simp only [Yk,Jm,Q3]
  exact ⟨⟨ZsM h.1.1,h1⟩,h2⟩
end
theorem Zbg:∀ (a b:List Tree),Z9 (a++b)=Z9 a+Z9 b
 | [],b=> by simp [Z9]
 | t ::r,b=> by simp only [Qp,Z9,Zbg r b];omega
theorem Z0J:∀ (a b:List Op),Zg (a++b)=Zg a+Zg b
 | [],b=> by simp [Zg]
 | t ::r,b=> by simp only [Qp,Zg,Z0J r b];omega
theorem Z62:∀ (l:List Tree),Z9 (Z8 l)<=Z9 l
 | []=> by simp [Z8,Z9]
 | t ::r=> by
  have h:=Z62 r
  have h2:=JH t
  simp only [Z8] at h
  simp only [Z8,Qn,Z9]
  omega
theorem Z6V:Z3 Edit.nil=3:=by simp [Edit.nil,Tree.nil,Z3,Zm,Z9,Ya,Zg]
theorem Z2F:Zm Tree.nil=1:=by simp [Tree.nil,Zm,Z9]
theorem Z6U(t:Tree):1<=Zm t:=by cases t;simp only [Zm];omega
theorem Zce:∀ (e:Edit),3<=Z3 e
 | .mk k o n w ks l os=> by
  have h1:=Z6U o
  have h2:=Z6U n
  simp only [Z3];omega
def Z5O(w:Wst):Nat:=Zg w.out+w.out.length+Z9 w.gone+Z9 w.brought+(if w.gone.length=0 then 0 else 4)+(if w.brought.length=0 then 0 else 4)
theorem Z0I(o:Op):Zg [o]=Zu o:=by simp [Zg]
theorem Z2G(k n:Int)(l:List Tree)(e:Edit):Zu (OpOf.mk k n l e)=Z9 l+Z3 e:=rfl
theorem Zb1(w:Wst):Zg (Z2 w).out+(Z2 w).out.length=Z5O w:=by
 simp only [Z2,Z0r,Z5O]
 rw [Z0J,Z0J,Q7,Q7]
 by_cases hg:w.gone.length=0
 .have e:w.gone=[]:=QZ.1 hg
  rw [if_pos hg,if_pos hg,e]
  by_cases hb:w.brought.length=0
  .have e2:w.brought=[]:=QZ.1 hb
   rw [if_pos hb,if_pos hb,e2];simp [Zg,Z9]
  .rw [if_neg hb,if_neg hb,Z0I,Z2G,Z6V];simp [Zg,Z9];omega
 .rw [if_neg hg,if_neg hg,Z0I,Z2G,Z6V]
  by_cases hb:w.brought.length=0
  .have e2:w.brought=[]:=QZ.1 hb
   rw [if_pos hb,if_pos hb,e2];simp [Zg,Z9];omega
  .rw [if_neg hb,if_neg hb,Z0I,Z2G,Z6V];simp;omega
theorem Zl9(w:Wst)(n:Int):Z5O (ZM w n)<=Z5O w+4:=by
 have h:=Zb1 w
 have e:Z5O (ZM w n)=Zg (Jp (Z2 w).out n)+(Jp (Z2 w).out n).length:=by simp [Z5O,ZM,Z9]
 rw [e]
 rcases Z05 (Z2 w).out n with e | ⟨a,o,e1,_,e3⟩
 .rw [e,Z0J,Q7,Z0I,Z2G,Z6V];simp [Z9];omega
 .rw [e3,Z0J,Q7,Z0I]
  rw [e1,Z0J,Q7,Z0I] at h
  obtain ⟨k,m,l,e⟩:=o
  simp only [Z2G] at h ⊢
  simp at h ⊢
  omega
theorem ZDj{list:Int}{w:Wst}{o:Op}(hi:Z3 (Zn o.e)<=Z3 o.e):Z5O (Z01 list o w)<=Z5O w+Zu o+1:=by
 have h3:=Zce o.e
 have hm:Zu o=Z9 o.l+Z3 o.e:=by cases o;rfl
 have hn:=Z62 o.l
 have hl:(Z8 o.l).length=o.l.length:=by simp [Z8]
 rw [YJ]
 split
 .have:=Zl9 w o.n;omega
 .split
  .simp only [Z5O,Zbg,Q7,hl]
   split <;> split <;> split <;> omega
  .split
   .simp only [Z5O,Zbg,Q7,hl]
    split <;> split <;> split <;> omega
   .split
    .split
     .have:=Zl9 w 1;omega
     .have:=Zb1 w
      have e:Z5O ⟨(Z2 w).out++[⟨3,0,[],Zn o.e⟩],[],[]⟩=Zg ((Z2 w).out++[(⟨3,0,[],Zn o.e⟩:Op)])+((Z2 w).out++[(⟨3,0,[],Zn o.e⟩:Op)]).length:=by simp [Z5O,Z9]
      rw [e,Z0J,Q7,Z0I,Z2G]
      simp [Z9];omega
    .omega
mutual
theorem Z2H:∀ (e:Edit),Z3 (Zn e)<=Z3 e
 | .mk k o n w ks l os=> by
  have h1:=ZfI ks
  have h2:=Zp9 l os W0
  have h3:=Zb1 (Zt l os W0)
  have e0:Z5O W0=0:=rfl
  have po:=Z6U o
  have pn:=Z6U n
  have mo:=JH o
  have mn:=JH n
  rw [Zn]
  split
  .simp only [Z3,Ya,Zg,Q8];omega
  .split
   .simp only [Z3,Ya,Zg,Q8,Z2F];omega
   .split
    .simp only [Z3,Ya,Q8,Z2F]
     show 1+1+1+0+(Z2 (Zt l os W0)).out.length+0+Zg (Z2 (Zt l os W0)).out<=_
     omega
    .simp only [Z3,Ya,Zg,Q8,Z2F];omega
theorem ZfI:∀ (ks:List (KidOf Edit)),Ya (Jz ks)<=Ya ks
 | []=> Qb _
 | k ::r=> by
  have h1:=ZlB k
  have h2:=ZfI r
  simp only [Jz,Ya];omega
theorem ZlB:∀ (k:KidOf Edit),Z0f (Z37 k)<=Z0f k
 | ⟨a,e⟩=> by
  have h:=Z2H e
  simp only [Z37,Z0f];exact h
theorem Zp9(list:Int):∀ (os:List (OpOf Edit)) (w:Wst),Z5O (Zt list os w)<=Z5O w+Zg os+os.length
 | [],w=> by simp [Zt,Zg]
 | o ::r,w=> by
  have h1:=Zsj list o w
  have h2:=Zp9 list r (Z01 list o w)
  simp only [Zt,Zg,Q6];omega
theorem Zsj(list:Int):∀ (o:OpOf Edit) (w:Wst),Z5O (Z01 list o w)<=Z5O w+Zu o+1
 | ⟨k,n,l,e⟩,_=> ZDj (o:=⟨k,n,l,e⟩) (Z2H e)
end
theorem Zh2(e:Edit):(Zn e).kind=e.kind:=by
 rw [Z54]
 split
 .try rfl
 .split
  .try rfl
  .split <;> rfl
theorem Zlq(e:Edit)(h:e.kind=1):(Zn e).old=Z4 e.old/\(Zn e).new=Z4 e.new:=by
 rw [Z54,if_pos h]
 exact ⟨rfl,rfl⟩
theorem ZmJ{D list:Int}{t:Tree}(hD:D≠0)(h:ZD (.mk list [] [t]) D=true):ZD (.mk list [] [Z4 t]) D=true:=by
 have key:=fun (k d:Int) (h:Jm k [t] d=true)=> Z5I [t] k d h
 simp only [Yk] at key
 simp only [ZD] at h ⊢
 split at h
 .simp at h
 .rename_i h0
  rw [if_neg h0]
  split at h
  .simp at h
  .rename_i h1
   rw [if_neg h1]
   try rw [if_neg hD] at h
   try rw [if_neg hD]
   split at h
   .rename_i h2
    rw [if_pos h2]
    simp only [Q3] at h ⊢
    exact ⟨h.1,key _ _ h.2⟩
   .rename_i h2
    rw [if_neg h2]
    simp only [Q3] at h ⊢
    exact ⟨h.1,key _ _ h.2⟩
theorem Z3J{D list:Int}(hD:D≠0):∀ {l:List Tree},YG D list l=true->YG D list (Z8 l)=true
 | [],_=> rfl
 | t ::r,h=> by
  simp only [YG,Q3] at h
  have h2:=Z3J hD h.2
  simp only [Z8] at h2
  simp only [Z8,Qn,YG,Q3]
  exact ⟨ZmJ hD h.1,h2⟩
theorem Z5u{D list:Int}:∀ {a b:List Tree},YG D list a=true->YG D list b=true->YG D list (a++b)=true
 | [],_,_,h=> h
 | t ::r,b,h,h2=> by
  simp only [YG,Q3] at h
  simp only [Qp,YG,Q3]
  exact ⟨h.1,Z5u h.2 h2⟩
def rOp(list:Int)(d:Int)(o:Op):Prop:=(o.kind=0->1<=o.n/\o.l.length=0/\Z27 o.e=true)/\(o.kind≠0->Zk list o d=true)
theorem ZaO{list d:Int}{o:Op}(h:Zk list o d=true):rOp list d o:=by
 refine ⟨fun hk=> ?_,fun _=> h⟩
 obtain ⟨k,n,l,e⟩:=o
 simp only at hk
 subst hk
 simp only [Zk,if_true,Q3,decide_eq_true_eq] at h
 exact ⟨h.1.1,h.1.2.2,h.2⟩
theorem ZDf{list d:Int}{o:Op}(h:rOp list d o)(hn:o.kind=0->o.n<=1048576):Zk list o d=true:=by
 by_cases hk:o.kind=0
 .have h1:=h.1 hk
  have h2:=hn hk
  obtain ⟨k,n,l,e⟩:=o
  simp only at hk h1 h2
  subst hk
  simp only [Zk,if_true,Q3,decide_eq_true_eq]
  exact ⟨⟨h1.1,h2,h1.2.1⟩,h1.2.2⟩
 .exact h.2 hk
theorem Z1V{list:Int}:∀ {os:List Op} {d:Int},ZO list os d=true↔∀ o∈os,Zk list o d=true
 | [],d=> by simp [ZO]
 | o ::r,d=> by
  simp only [ZO,Q3,Qc,forall_eq_or_imp]
  rw [Z1V (os:=r)]
theorem Z2X:Z27 Edit.nil=true:=rfl
structure OkW (list d:Int) (w:Wst):Prop where
 out:∀ o∈w.out,rOp list d o
 gone:YG (dT d) list w.gone=true
 brought:YG (dT d) list w.brought=true
theorem Zb4{list d:Int}{w:Wst}(h:OkW list d w):OkW list d (Z2 w):=by
 refine ⟨?_,rfl,rfl⟩
 simp only [Z2,Z0r]
 intro o ho
 rcases Qh.1 ho with ho | ho
 .exact h.out o ho
 rcases Qh.1 ho with ho | ho
 .split at ho
  .cases ho
  .rename_i hl
   simp only [Qf] at ho
   subst ho
   refine ⟨fun hk=> (by cases hk),fun _=> ?_⟩
   simp only [Zk]
   rw [if_neg V1,if_neg V1,if_pos V1,h.gone,Z2X]
   simp only [Xe,QG,decide_eq_true_eq]
   omega
 .split at ho
  .cases ho
  .rename_i hl
   simp only [Qf] at ho
   subst ho
   refine ⟨fun hk=> (by cases hk),fun _=> ?_⟩
   simp only [Zk]
   rw [if_neg V1,if_neg V1,if_pos V1,h.brought,Z2X]
   simp only [Xe,QG,decide_eq_true_eq]
   omega
theorem Zln{list d:Int}{w:Wst}{n:Int}(h:OkW list d w)(hn:1<=n):OkW list d (ZM w n):=by
 have hf:=Zb4 h
 refine ⟨?_,rfl,rfl⟩
 simp only [ZM]
 intro o ho
 rcases Z05 (Z2 w).out n with e | ⟨a,q,e1,e2,e3⟩
 .rw [e] at ho
  rcases Qh.1 ho with ho | ho
  .exact hf.out o ho
  .simp only [Qf] at ho
   subst ho
   exact ⟨fun _=> ⟨hn,rfl,Z2X⟩,fun hk=> absurd rfl hk⟩
 .rw [e3] at ho
  rcases Qh.1 ho with ho | ho
  .exact hf.out o (by rw [e1];exact Qh.2 (Or.inl ho))
  .simp only [Qf] at ho
   subst ho
   have hq:=(hf.out q (by rw [e1];simp)).1 e2
   exact ⟨fun _=> ⟨by simp only;omega,hq.2⟩,fun hk=> absurd e2 hk⟩
theorem ZDs{list d:Int}{w:Wst}{o:Op}(h:OkW list d w)(hr:Zk list o d=true)(hi:Zb o.e d=true->Zb (Zn o.e) d=true):OkW list d (Z01 list o w):=by
 obtain ⟨k,n,l,e⟩:=o
 have hr0:=hr
 rw [Zk] at hr
 rw [YJ]
 simp only at hi ⊢
 split at hr
 .rename_i hk
  rw [if_pos hk]
  simp only [Q3,decide_eq_true_eq] at hr
  exact Zln h hr.1.1
 .rename_i hk
  rw [if_neg hk]
  split at hr
  .cases hr
  .rename_i hn
   split at hr
   .rename_i h3
    simp only [Q3,decide_eq_true_eq] at hr
    by_cases k1:k=1
    .rw [if_pos k1]
     exact ⟨h.out,Z5u h.gone (Z3J (ZCu d) hr.1.1),h.brought⟩
    .rw [if_neg k1,V0]
     exact ⟨h.out,h.gone,Z5u h.brought (Z3J (ZCu d) hr.1.1)⟩
   .rename_i h3
    rw [JL,JL,V0]
    split
    .exact Zln h V1
    .have hf:=Zb4 h
     refine ⟨?_,rfl,rfl⟩
     intro o ho
     rcases Qh.1 ho with ho | ho
     .exact hf.out o ho
     .simp only [Qf] at ho
      subst ho
      refine ⟨fun hk=> (by cases hk),fun _=> ?_⟩
      simp only [Q3,decide_eq_true_eq] at hr
      simp only [Zk]
      rw [if_neg V1,if_neg V1,if_neg V1,Zh2,hi hr.1.2]
      simp only [Xe,Q3,decide_eq_true_eq]
      refine ⟨⟨rfl,hr.1.1.2⟩,?_⟩
      rcases hr.2 with h | h | h
      .exact Or.inl h
      .exact Or.inr (Or.inl h)
      .rw [(Zlq e h.1).1,(Zlq e h.1).2,Z4o,Z4o]
       exact Or.inr (Or.inr h)
def Jd:List Op->Int
 | []=> 0
 | o ::r=> (if o.kind=2 then 0 else Z6 o)+Jd r
def YH:List Op->Int
 | []=> 0
 | o ::r=> (if o.kind=1 then 0 else Z6 o)+YH r
theorem Z42:∀ (a b:List Op),Jd (a++b)=Jd a+Jd b
 | [],b=> by simp [Jd]
 | o ::r,b=> by simp only [Qp,Jd,Z42 r b];omega
theorem Z41:∀ (a b:List Op),YH (a++b)=YH a+YH b
 | [],b=> by simp [YH]
 | o ::r,b=> by simp only [Qp,YH,Z41 r b];omega
theorem Z0u:∀ (l:List Op) (n:Int),(∀ o∈l,0<=Z6 o)->0<=n->n<=1048576->Z2r l n=min (n+Jd l) 1048576/\0<=Jd l
 | [],n,_,h1,h2=> by simp only [Z2r,Jd];omega
 | o ::r,n,h,h1,h2=> by
  have ho:=h o (Q2 ..)
  simp only [Z2r,Jd]
  have hx:0<=(if o.kind=2 then n else n+Z6 o)/\(if o.kind=2 then n else n+Z6 o)=n+(if o.kind=2 then 0 else Z6 o):=by split <;> omega
  have hy:0<=(if o.kind=2 then 0 else Z6 o):=by split <;> omega
  rw [hx.2]
  rw [hx.2] at hx
  generalize (if o.kind=2 then 0 else Z6 o)=y at*
  obtain ⟨e1,e2⟩:=Z0u r (min (n+y) 1048576) (fun x hx=> h x (Q1 _ hx)) YS YS
  rw [e1]
  omega
theorem Z19:∀ (l:List Op) (n:Int),(∀ o∈l,0<=Z6 o)->0<=n->n<=1048576->Z2q l n=min (n+YH l) 1048576/\0<=YH l
 | [],n,_,h1,h2=> by simp only [Z2q,YH];omega
 | o ::r,n,h,h1,h2=> by
  have ho:=h o (Q2 ..)
  simp only [Z2q,YH]
  have hx:0<=(if o.kind=1 then n else n+Z6 o)/\(if o.kind=1 then n else n+Z6 o)=n+(if o.kind=1 then 0 else Z6 o):=by split <;> omega
  have hy:0<=(if o.kind=1 then 0 else Z6 o):=by split <;> omega
  rw [hx.2]
  rw [hx.2] at hx
  generalize (if o.kind=1 then 0 else Z6 o)=y at*
  obtain ⟨e1,e2⟩:=Z19 r (min (n+y) 1048576) (fun x hx=> h x (Q1 _ hx)) YS YS
  rw [e1]
  omega
theorem Z2l{list d:Int}{o:Op}(h:rOp list d o):0<=Z6 o:=by
 unfold Z6
 split
 .decide
 .by_cases hk:o.kind=0
  .have:=(h.1 hk).1;omega
  .have hr:=h.2 hk
   obtain ⟨k,n,l,e⟩:=o
   simp only at hk ⊢
   rw [Zk,if_neg hk] at hr
   split at hr
   .cases hr
   .omega
theorem Zko:∀ {l:List Op} {o:Op},(∀ o∈l,0<=Z6 o)->o∈l->o.kind≠2->Z6 o<=Jd l
 | a ::r,o,h,ho,hk=> by
  have hr:=(Z0u r 0 (fun x hx=> h x (Q1 _ hx)) V1 V1).2
  have ha:=h a (Q2 ..)
  simp only [Jd]
  rcases Qc.1 ho with rfl | ho
  .rw [if_neg hk];omega
  .have:=Zko (fun x hx=> h x (Q1 _ hx)) ho hk
   split <;> omega
def sA(w:Wst):Int:=Jd w.out+w.gone.length
def sB(w:Wst):Int:=YH w.out+w.brought.length
theorem Z6r(w:Wst):Jd (Z2 w).out=sA w/\YH (Z2 w).out=sB w:=by
 simp only [Z2,Z0r,sA,sB,Z42,Z41]
 constructor
 .by_cases hg:w.gone.length=0
  .rw [if_pos hg]
   by_cases hb:w.brought.length=0
   .rw [if_pos hb];simp [Jd];omega
   .rw [if_neg hb];simp [Jd];omega
  .rw [if_neg hg]
   by_cases hb:w.brought.length=0
   .rw [if_pos hb];simp [Jd,Z6]
   .rw [if_neg hb];simp [Jd,Z6]
 .by_cases hg:w.gone.length=0
  .rw [if_pos hg]
   by_cases hb:w.brought.length=0
   .rw [if_pos hb];simp [YH];omega
   .rw [if_neg hb];simp [YH,Z6]
  .rw [if_neg hg]
   by_cases hb:w.brought.length=0
   .rw [if_pos hb];simp [YH];omega
   .rw [if_neg hb];simp [YH,Z6]
theorem Zkn(w:Wst)(n:Int):sA (ZM w n)=sA w+n/\sB (ZM w n)=sB w+n:=by
 have hf:=Z6r w
 simp only [ZM]
 have e1:∀ x,sA ⟨x,[],[]⟩=Jd x:=fun x=> by simp [sA]
 have e2:∀ x,sB ⟨x,[],[]⟩=YH x:=fun x=> by simp [sB]
 rw [e1,e2,<-hf.1,<-hf.2]
 rcases Z05 (Z2 w).out n with e | ⟨a,q,e1,e2,e3⟩
 .rw [e,Z42,Z41]
  simp [Jd,YH,Z6]
 .rw [e3,e1,Z42,Z41,Z42,Z41]
  simp only [Jd,YH,Z6,e2]
  simp
  omega
theorem ZD5{list d:Int}{w:Wst}{o:Op}(hr:Zk list o d=true):sA (Z01 list o w)=sA w+(if o.kind=2 then 0 else Z6 o)/\sB (Z01 list o w)=sB w+(if o.kind=1 then 0 else Z6 o):=by
 have hl:∀ l,((Z8 l).length:Int)=l.length:=fun l=> by simp [Z8]
 obtain ⟨k,n,l,e⟩:=o
 rw [Zk] at hr
 rw [YJ]
 simp only [Z6]
 split at hr
 .rename_i hk
  subst hk
  rw [if_pos rfl]
  simp only [Q3,decide_eq_true_eq] at hr
  have:=Zkn w n
  simp
  omega
 .rename_i hk
  rw [if_neg hk]
  split at hr
  .cases hr
  .rename_i hn
   split at hr
   .rename_i h3
    by_cases k1:k=1
    .subst k1
     rw [if_pos rfl]
     simp only [sA,sB,Q7]
     simp [hl]
     omega
    .have k2:k=2:=YS
     subst k2
     rw [if_neg k1,if_pos rfl]
     simp only [sA,sB,Q7]
     simp [hl]
     omega
   .rename_i h3
    have k3:k=3:=YS
    subst k3
    rw [JL,JL,if_pos rfl]
    split
    .have:=Zkn w 1
     simp
     omega
    .have:=Z6r w
     simp only [sA,sB,Z42,Z41,Jd,YH,Z6] at this ⊢
     simp
     omega
mutual
theorem JE:∀ (e:Edit) (d:Int),Zb e d=true->Zb (Zn e) d=true
 | .mk k o n w ks l os,d,h=> by
  have h1:=ZbR ks
  have h2:=Zpf l os
  have h4:=ZhQ l os
  rw [Zb] at h
  split at h
  .cases h
  .rename_i a
   split at h
   .cases h
   .rename_i b
    have nn:JU Tree.nil=true:=rfl
    by_cases k1:k=1
    .subst k1
     rw [if_pos rfl] at h
     have hl:l=0:=by
      apply XK
      intro hl
      exact b (.inr (.inr ⟨V1,.inl hl⟩))
     simp only [Q3,decide_eq_true_eq] at h
     rw [Zn,if_pos rfl,Zb,if_neg a,if_neg (by simp [hl]),if_pos rfl]
     simp only [Q3,decide_eq_true_eq]
     rw [Z4o,Z4o]
     exact ⟨⟨Z5G _ _ h.1.1,Z5G _ _ h.1.2⟩,h.2⟩
    .rw [if_neg k1] at h
     simp only [Q3,decide_eq_true_eq] at h
     obtain ⟨⟨⟨⟨x1,x2⟩,x3⟩,x4⟩,x5⟩:=h
     rw [Zn,if_neg k1]
     by_cases k2:k=2
     .have hl:l=0:=by
       apply XK
       intro hl
       exact b (.inr (.inr ⟨YS,.inl hl⟩))
      rw [if_pos k2,Zb,if_neg a,if_neg (by simp [nn,hl,k2]),if_neg k1]
      simp only [Q3,decide_eq_true_eq]
      exact ⟨⟨⟨⟨x1,h1 _ _ x2⟩,x3⟩,rfl⟩,V1⟩
     .rw [if_neg k2]
      by_cases k3:k=3
      .rw [if_pos k3,Zb,if_neg a,if_neg (by simp [nn,k3]),if_neg k1]
       simp only [Q3,decide_eq_true_eq]
       have hall:=Z1V.1 x4
       obtain ⟨y1,y2⟩:=Z0u os 0 (fun o ho=> Z2l (ZaO (hall o ho))) V1 V1
       obtain ⟨z1,z2⟩:=Z19 os 0 (fun o ho=> Z2l (ZaO (hall o ho))) V1 V1
       have hw:=h2 (d - 1) W0 x4 ⟨fun o ho=> (by cases ho),rfl,rfl⟩
       have hs:=h4 (d - 1) W0 x4
       have hff:=Zb4 hw
       have hsf:=Z6r (Zt l os W0)
       have e0:sA W0=0/\sB W0=0:=⟨rfl,rfl⟩
       have hA:=Z0u (Z2 (Zt l os W0)).out 0 (fun o ho=> Z2l (hff.out o ho)) V1 V1
       have hB:=Z19 (Z2 (Zt l os W0)).out 0 (fun o ho=> Z2l (hff.out o ho)) V1 V1
       refine ⟨⟨⟨⟨rfl,rfl⟩,x3⟩,Z1V.2 (fun o ho=> ZDf (hff.out o ho) (fun hk=> ?_))⟩,?_,?_⟩
       .have hm:=Zko (fun o ho=> Z2l (hff.out o ho)) ho YS
        unfold Z6 at hm
        rw [JL] at hm
        omega
       .show Z2r (Z2 (Zt l os W0)).out 0 < 1048576
        omega
       .show Z2q (Z2 (Zt l os W0)).out 0 < 1048576
        omega
      .have hl:l=0:=by
        apply XK
        intro hl
        exact b (.inr (.inr ⟨k3,.inl hl⟩))
       rw [if_neg k3,Zb,if_neg a,if_neg (by simp [nn,hl]),if_neg k1]
       simp only [Q3,decide_eq_true_eq]
       exact ⟨⟨⟨⟨rfl,rfl⟩,x3⟩,rfl⟩,V1⟩
theorem ZbR:∀ (ks:List (KidOf Edit)) (last d:Int),ZK last ks d=true->ZK last (Jz ks) d=true
 | [],_,_,_=> rfl
 | k ::r,last,d,h=> by
  simp only [ZK,Q3] at h
  have h1:=Zi6 k last d h.1
  have h2:=ZbR r k.at_ d h.2
  simp only [Jz,ZK,Q3]
  exact ⟨h1,by rw [Zb7];exact h2⟩
theorem Zi6:∀ (k:KidOf Edit) (last d:Int),JY last k d=true->JY last (Z37 k) d=true
 | ⟨a,e⟩,last,d,h=> by
  simp only [JY,Q3] at h
  have h1:=JE e d h.2
  simp only [Z37,JY,Q3]
  rw [Zh2]
  exact ⟨h.1,h1⟩
theorem Zpf(list:Int):∀ (os:List (OpOf Edit)) (d:Int) (w:Wst),ZO list os d=true->OkW list d w->OkW list d (Zt list os w)
 | [],_,_,_,hw=> hw
 | o ::r,d,w,h,hw=> by
  simp only [ZO,Q3] at h
  have h1:=Zss list o d w h.1 hw
  exact Zpf list r d _ h.2 h1
theorem Zss(list:Int):∀ (o:OpOf Edit) (d:Int) (w:Wst),Zk list o d=true->OkW list d w->OkW list d (Z01 list o w)
 | ⟨k,n,l,e⟩,d,w,h,hw=> ZDs (o:=⟨k,n,l,e⟩) hw h (fun he=> JE e d he)
theorem ZhQ(list:Int):∀ (os:List (OpOf Edit)) (d:Int) (w:Wst),ZO list os d=true->sA (Zt list os w)=sA w+Jd os/\sB (Zt list os w)=sB w+YH os
 | [],_,_,_=> by simp [Zt,Jd,YH]
 | o ::r,d,w,h=> by
  simp only [ZO,Q3] at h
  have h1:=ZD5 (w:=w) h.1
  have h2:=ZhQ list r d (Z01 list o w) h.2
  simp only [Zt,Jd,YH]
  omega
end
theorem Z9b:∀ {a b:List Tree},Jt (a++b)↔Jt a/\Jt b
 | [],b=> by simp [Jt]
 | t ::r,b=> by simp only [Qp,Jt];rw [Z9b (a:=r),and_assoc]
mutual
theorem Z99:∀ (t:Tree),rng t->rng (Z4 t)
 | .mk k w ks,h=> by
  simp only [rng] at h
  obtain ⟨h1,h2,h3⟩:=h
  have h4:=ZgO ks h3
  simp only [Z4]
  split
  .simp only [Tree.nil,rng,Jt]
   exact ⟨V1,by simp,trivial⟩
  .split
   .obtain ⟨r1,e1⟩:=Ze1 w
    obtain ⟨r2,e2⟩:=ZaA (Yk ks)
    simp only [rng]
    refine ⟨V1,fun x hx=> h2 x (by rw [e1];exact Qh.2 (Or.inl hx)),?_⟩
    rw [e2] at h4
    exact (Z9b.1 h4).1
   .simp only [rng]
    exact ⟨h1,h2,h4⟩
theorem ZgO:∀ (l:List Tree),Jt l->Jt (Yk l)
 | [],_=> trivial
 | t ::r,h=> by
  simp only [Jt] at h
  have h1:=Z99 t h.1
  have h2:=ZgO r h.2
  simp only [Yk,Jt]
  exact ⟨h1,h2⟩
end
theorem Z89:∀ {l:List Tree},Jt l->Jt (Z8 l)
 | [],_=> trivial
 | t ::r,h=> by
  simp only [Jt] at h
  have h2:=Z89 h.2
  simp only [Z8] at h2
  simp only [Z8,Qn,Jt]
  exact ⟨Z99 t h.1,h2⟩
theorem Z1U:rng Tree.nil:=by
 simp only [Tree.nil,rng,Jt]
 exact ⟨V1,by simp,trivial⟩
structure RngW (w:Wst):Prop where
 out:∀ o∈w.out,Jt o.l/\J8 o.e
 gone:Jt w.gone
 brought:Jt w.brought
theorem Z6F:J8 Edit.nil:=by
 simp only [Edit.nil,J8,Z48,Z30]
 exact ⟨V3,Z1U,Z1U,by simp,V3,trivial,trivial⟩
theorem Z88{w:Wst}(h:RngW w):RngW (Z2 w):=by
 refine ⟨?_,trivial,trivial⟩
 simp only [Z2,Z0r]
 intro o ho
 rcases Qh.1 ho with ho | ho
 .exact h.out o ho
 rcases Qh.1 ho with ho | ho
 .split at ho
  .cases ho
  .simp only [Qf] at ho
   subst ho
   exact ⟨h.gone,Z6F⟩
 .split at ho
  .cases ho
  .simp only [Qf] at ho
   subst ho
   exact ⟨h.brought,Z6F⟩
theorem ZgL{w:Wst}{n:Int}(h:RngW w):RngW (ZM w n):=by
 have hf:=Z88 h
 refine ⟨?_,trivial,trivial⟩
 simp only [ZM]
 intro o ho
 rcases Z05 (Z2 w).out n with e | ⟨a,q,e1,e2,e3⟩
 .rw [e] at ho
  rcases Qh.1 ho with ho | ho
  .exact hf.out o ho
  .simp only [Qf] at ho
   subst ho
   exact ⟨trivial,Z6F⟩
 .rw [e3] at ho
  rcases Qh.1 ho with ho | ho
  .exact hf.out o (by rw [e1];exact Qh.2 (Or.inl ho))
  .simp only [Qf] at ho
   subst ho
   exact hf.out q (by rw [e1];simp)
theorem ZoL{list:Int}{w:Wst}{o:Op}(h:RngW w)(hl:Jt o.l)(he:J8 (Zn o.e)):RngW (Z01 list o w):=by
 rw [YJ]
 split
 .exact ZgL h
 .split
  .exact ⟨h.out,Z9b.2 ⟨h.gone,Z89 hl⟩,h.brought⟩
  .split
   .exact ⟨h.out,h.gone,Z9b.2 ⟨h.brought,Z89 hl⟩⟩
   .split
    .split
     .exact ZgL h
     .refine ⟨?_,trivial,trivial⟩
      intro o ho
      rcases Qh.1 ho with ho | ho
      .exact (Z88 h).out o ho
      .simp only [Qf] at ho
       subst ho
       exact ⟨trivial,he⟩
    .exact h
theorem ZbP:∀ {os:List Op},(∀ o∈os,Z28 o)->Z30 os
 | [],_=> trivial
 | o ::r,h=> by
  simp only [Z30]
  exact ⟨h o (Q2 ..),ZbP (fun x hx=> h x (Q1 _ hx))⟩
theorem ZkH{list d:Int}{o:Op}(h:Zk list o d=true)(hl:Jt o.l)(he:J8 o.e):Z28 o:=by
 have hn:=ZaJ h
 obtain ⟨k,n,l,e⟩:=o
 simp only at hn hl he
 simp only [Z28]
 refine ⟨?_,V3,hl,he⟩
 rw [Zk] at h
 unfold InR
 split at h
 .omega
 .split at h
  .cases h
  .omega
mutual
theorem Z49:∀ (e:Edit) (d:Int),Zb e d=true->J8 e->J8 (Zn e)
 | .mk k o n w ks l os,d,hr,h=> by
  have hin:=ZaK hr
  have hout:=ZaK (JE _ _ hr)
  simp only [Edit.kids_mk,Edit.ops_mk,Edit.list_mk] at hin
  simp only [J8] at h
  obtain ⟨h1,h2,h3,h4,h5,h6,h7⟩:=h
  have i6:=ZgN ks (d - 1) (fun k hk=> (hin.1 k hk).1) h6
  have i7:=ZgM l os (d - 1) hin.2 h7 W0 ⟨fun o ho=> (by cases ho),trivial,trivial⟩
  rw [Zn] at hout ⊢
  by_cases k1:k=1
  .rw [if_pos k1]
   simp only [J8]
   exact ⟨h1,Z99 o h2,Z99 n h3,by simp,h5,trivial,trivial⟩
  .rw [if_neg k1] at hout ⊢
   by_cases k2:k=2
   .rw [if_pos k2]
    simp only [J8]
    exact ⟨h1,Z1U,Z1U,h4,h5,i6,trivial⟩
   .rw [if_neg k2] at hout ⊢
    by_cases k3:k=3
    .rw [if_pos k3] at hout ⊢
     simp only [J8]
     refine ⟨h1,Z1U,Z1U,by simp,h5,trivial,ZbP (fun q hq=> ?_)⟩
     have hx:=hout.2 q hq
     have hy:=(Z88 i7).out q hq
     exact ZkH hx hy.1 hy.2
    .rw [if_neg k3]
     simp only [J8]
     exact ⟨h1,Z1U,Z1U,by simp,h5,trivial,trivial⟩
theorem ZgN:∀ (ks:List (KidOf Edit)) (d:Int),(∀ k∈ks,Zb k.e d=true)->Z48 ks->Z48 (Jz ks)
 | [],_,_,_=> trivial
 | k ::r,d,hr,h=> by
  simp only [Z48] at h
  have h1:=ZmH k d (hr k (Q2 ..)) h.1
  have h2:=ZgN r d (fun x hx=> hr x (Q1 _ hx)) h.2
  simp only [Jz,Z48]
  exact ⟨h1,h2⟩
theorem ZmH:∀ (k:KidOf Edit) (d:Int),Zb k.e d=true->ZaI k->ZaI (Z37 k)
 | ⟨a,e⟩,d,hr,h=> by
  simp only [ZaI] at h
  have h2:=Z49 e d hr h.2
  simp only [Z37,ZaI]
  exact ⟨h.1,h2⟩
theorem ZgM(list:Int):∀ (os:List (OpOf Edit)) (d:Int),(∀ o∈os,Zk list o d=true)->Z30 os->∀ (w:Wst),RngW w->RngW (Zt list os w)
 | [],_,_,_,w,hw=> hw
 | o ::r,d,hr,h,w,hw=> by
  simp only [Z30] at h
  have h1:=Zsb list o d (hr o (Q2 ..)) h.1 w hw
  exact ZgM list r d (fun x hx=> hr x (Q1 _ hx)) h.2 _ h1
theorem Zsb(list:Int):∀ (o:OpOf Edit) (d:Int),Zk list o d=true->Z28 o->∀ (w:Wst),RngW w->RngW (Z01 list o w)
 | ⟨k,n,l,e⟩,d,hr,h,w,hw=> by
  simp only [Z28] at h
  by_cases k3:k=3
  .have he:Zb e d=true:=by
    rw [Zk,JL,] at hr
    split at hr
    .cases hr
    .rw [JL] at hr
     simp only [Q3] at hr
     exact hr.1.2
   exact ZoL (o:=⟨k,n,l,e⟩) hw h.2.2.1 (Z49 e d he h.2.2.2)
  .have hs:J8 (Zn Edit.nil):=by
    show J8 (.mk 0 Tree.nil Tree.nil [] [] 0 [])
    exact Z6F
   have e2:Z01 list ⟨k,n,l,e⟩ w=Z01 list ⟨k,n,l,Edit.nil⟩ w:=by
    simp only [Z01]
    rw [if_neg k3,if_neg k3]
   rw [e2]
   exact ZoL (o:=⟨k,n,l,Edit.nil⟩) hw h.2.2.1 hs
end
theorem Znp(t:Tree):t.words.length+Z9 t.kids+1=Zm t:=by obtain ⟨k,w,ks⟩:=t;simp only [Zm,Tree.words_mk,Tree.kids_mk];omega
theorem Zhb:∀ (l:List Tree) (i:Nat) (x:Tree),i < l.length->Z9 (l.set i x)+Zm (l.getD i Tree.nil)=Z9 l+Zm x
 | [],i,x,h=> by simp at h
 | a ::r,0,x,_=> by simp only [List.set_cons_zero,Z9,Ql];omega
 | a ::r,i+1,x,h=> by
  have:=Zhb r i x (by simpa using h)
  simp only [List.set_cons_succ,Z9,K2];omega
theorem Znq(n:Nat):Z9 (List.replicate n Tree.nil)=n:=by
 induction n with
 | zero=> rfl
 | succ n ih=> rw [XP,Z9,ih];simp [Tree.nil,Zm,Z9];omega
theorem J3:∀ (a b:List Tree),Z9 (a++b)=Z9 a+Z9 b
 | [],b=> by simp [Z9]
 | t ::r,b=> by simp only [Qp,Z9,J3 r b];omega
theorem ZsE(l:List Tree)(i:Nat)(x:Tree):Z9 (Yj Tree.nil l i x)+Zm (l.getD i Tree.nil)<=Z9 l+Zm x+(i+1):=by
 have h:=Zhb (l++List.replicate (i+1 - l.length) Tree.nil) i x (by simp;omega)
 have e:(l++List.replicate (i+1 - l.length) Tree.nil).getD i Tree.nil=l.getD i Tree.nil:=by
  by_cases hi:i < l.length
  .simp only [Qg];rw [Qy hi]
  .simp only [Qg]
   rw [Qz YS,QA (l:=l) YS,List.getElem?_replicate]
   split <;> rfl
 rw [e,J3,Znq] at h
 simp only [Yj]
 omega
theorem Zoj{tw:List Int}:∀ {ws:List WEdit} {last:Int} {out a:List Int},YM last ws=true->wsD tw ws out=some a->a.length<=max out.length 65535
 | [],_,out,a,_,h=> by rw [wsD] at h;cases h;omega
 | w ::r,last,out,a,hw,h=> by
  have h1:=Yu hw w Q2
  simp only [YM,Q3] at hw
  rw [wsD] at h
  split at h
  .have:=Zoj hw.2 h
   rw [Zgo] at this
   omega
  .cases h
theorem Z9e{last d:Int}{k:Kid}{r:List Kid}(h:ZK last (k ::r) d=true):(last < k.at_/\k.at_<=65534)/\Zb k.e d=true/\ZK k.at_ r d=true:=by
 have:=Zp h k Q2
 simp only [ZK,Q3] at h
 exact ⟨⟨this.1.1,this.1.2.1⟩,this.2,h.2⟩
theorem Ztp{tw:List Int}{ws:List WEdit}{last:Int}{out a:List Int}(hw:YM last ws=true)(h:wsD tw ws out=some a):a.length<=out.length+65600*ws.length:=by
 cases ws with
 | nil=> rw [wsD] at h;cases h;omega
 | cons w r=>
  have:=Zoj hw h
  simp only [Q6]
  omega
theorem Zfy(r:Bool)(v:Tree):Zm (nrD r v)<=Zm v:=by
 unfold nrD
 split
 .exact JH v
 .exact Qb _
mutual
theorem Z9H(r:Bool):∀ (e:Edit) (d:Int) (t v:Tree),Zb e d=true->Zn3 r e t=some v->Zm v+18<=Zm t+ctE e
 | .mk k o n w ks l os,d,t,v,hr,hv=> by
  have ri:=Zj hr
  have h1:=Zha r ks t.kids
  have h2:=Zh9 r l os
  have ht:=Znp t
  have po:=Z04 o
  have pn:=Z04 n
  have pt:=Z04 t
  unfold Zn3 at hv
  simp only [ctE]
  split at hv
  .cases hv;omega
  .split at hv
   .split at hv
    .cases hv
     show Zm n+18<=_
     omega
    .cases hv
   .split at hv
    .split at hv
     .obtain ⟨a,ha,hb⟩:=Xp.1 hv
      obtain ⟨b,hb,e⟩:=Xu.1 hb
      have l1:=Ztp ri.words ha
      simp only [Edit.words_mk] at l1
      have l2:=h1 t.kids b _ (-1) YS ri.kids (fun j _=> rfl) hb
      rw [<-e]
      simp only [Zm]
      omega
     .cases hv
    .split at hv
     .split at hv
      .obtain ⟨b,hb,e⟩:=Xu.1 hv
       unfold Z3l at hb
       obtain ⟨x,hx,hy⟩:=Xp.1 hb
       have l2:=h2 _ t.kids [] x (fun o ho=> Go.AM.rightOs_mem ri.ops o ho) hx
       split at hy
       .cases hy
        rw [<-e]
        simp only [Zm,Q8]
        simp only [Z9] at l2
        omega
       .cases hy
      .cases hv
     .cases hv
theorem Zha(r:Bool):∀ (ks:List (KidOf Edit)) (tk out b:List Tree) (d last:Int),-1<=last->ZK last ks d=true->(∀ j:Nat,last < (j:Int)->out.getD j Tree.nil=tk.getD j Tree.nil)->Z5f r tk ks out=some b->Z9 b<=Z9 out+Z3h ks
 | [],tk,out,b,d,last,_,_,_,h=> by rw [Z5f] at h;cases h;simp
 | k ::s,tk,out,b,d,last,hl,hr,hj,h=> by
  obtain ⟨h1,h2,h3⟩:=Z9e hr
  rw [Z5f] at h
  obtain ⟨u,hu,hb⟩:=Xp.1 h
  have m1:=Znn r k tk u d h2 hu
  have m2:=ZsE out k.at_.toNat u
  rw [hj k.at_.toNat YS] at m2
  have m3:=Zha r s tk _ b d k.at_ YS h3 (fun j hj'=> by
   rw [Zkt,JL]
   exact hj j YS) hb
  have m4:k.at_.toNat+1<=65600:=YS
  have e1:Z3h (k ::s)=65600+ctE k.e+Z3h s:=by obtain ⟨a,e⟩:=k;rfl
  rw [e1]
  omega
theorem Znn(r:Bool):∀ (k:KidOf Edit) (tk:List Tree) (u:Tree) (d:Int),Zb k.e d=true->Z5p r tk k=some u->Zm u+18<=Zm (tk.getD k.at_.toNat Tree.nil)+ctE k.e
 | ⟨a,e⟩,tk,u,d,hr,h=> by
  rw [Z5p,ZdE] at h
  obtain ⟨v,hv,hu⟩:=Xu.1 h
  have:=Z9H r e d (tk.getD a.toNat Tree.nil) v hr hv
  have hvu:=Zfy r v
  rw [hu] at hvu
  dsimp only
  omega
theorem Zh9(r:Bool)(l:Int):∀ (os:List (OpOf Edit)) (d:Int) (rest out:List Tree) (x:List Tree × List Tree),(∀ o∈os,Zk l o d=true)->Z0Z r os rest out=some x->Z9 x.1+Z9 x.2<=Z9 out+Z9 rest+Jx os
 | [],d,rest,out,x,_,h=> by rw [Z0Z] at h;cases h;simp
 | o ::s,d,rest,out,x,hr,h=> by
  rw [Z0Z] at h
  obtain ⟨y,hy,hx⟩:=Xp.1 h
  have m1:=ZsB r l o d rest out y (hr o Q2) hy
  have m2:=Zh9 r l s d _ _ x (fun q hq=> hr q (Q1 _ hq)) hx
  rw [Jx]
  omega
theorem ZsB(r:Bool)(l:Int):∀ (o:OpOf Edit) (d:Int) (rest out:List Tree) (x:List Tree × List Tree),Zk l o d=true->ZjJ r o rest out=some x->Z9 x.1+Z9 x.2<=Z9 out+Z9 rest+Z5h o
 | ⟨k,n,L,e⟩,d,rest,out,x,hr,h=> by
  have he:=Z9H r e d (rest.getD 0 Tree.nil)
  rw [ZjJ] at h
  simp only [Z5h]
  split at h
  .split at h
   .cases h
    have:=J3 (rest.take n.toNat) (rest.drop n.toNat)
    rw [QS] at this
    dsimp only
    rw [J3];omega
   .cases h
  .split at h
   .split at h
    .cases h
     have:=Z39 L.length rest
     dsimp only;omega
    .cases h
   .split at h
    .cases h
     dsimp only
     rw [J3];omega
    .split at h
     .cases h
     .obtain ⟨u,hu,e2⟩:=Xu.1 h
      cases e2
      have hk:k=3:=by
       have ra:=J1 hr
       generalize ho:OpOf.mk k n L e=o at ra
       cases ra <;> (injection ho with h1;try omega)
      rw [ZdE] at hu
      obtain ⟨v,hv,hu⟩:=Xu.1 hu
      have:=he v (J5 hr hk) hv
      have hvu:=Zfy r v
      rw [hu] at hvu
      cases rest with
      | nil=> contradiction
      | cons a q=>
       rw [J3]
       simp only [Z9,Qq,QH,Ql] at this ⊢
       omega
end
theorem ZyP(r:Bool)(e:Edit)(d:Int)(t u:Tree)(hr:Zb e d=true)(h:doE r e t=some u):Zm u+18<=Zm t+ctE e:=by
 rw [ZdE] at h
 obtain ⟨v,hv,hu⟩:=Xu.1 h
 have:=Z9H r e d t v hr hv
 have hvu:=Zfy r v
 rw [hu] at hvu
 omega
theorem ZDt{f:Nat->Int}(h:∀ i,0<=f i/\f i < 256):isW (of8 f):=by
 have h0:=h 0;have h1:=h 1;have h2:=h 2;have h3:=h 3;have h4:=h 4;have h5:=h 5;have h6:=h 6;have h7:=h 7
 unfold isW of8
 omega
theorem Znl(a b m:Int):isW (mix a b m):=ZDt (Z5Y a b m)
theorem Zi4{l:List Tree}(h:∀ t∈l,rng t):Jt l:=by
 induction l with
 | nil=> exact trivial
 | cons a r ih=> exact ⟨h a Q2,ih fun t ht=> h t (Q1 _ ht)⟩
theorem Z6E:rng Tree.nil:=⟨V1,by simp,trivial⟩
section
variable {α β:Type} (z:α) (f:β->Option α) (p:β->Int)
def mg:List β->List α->Option (List α)
 | [],out=> some out
 | w ::r,out=> (f w).bind fun v=> mg r (Yj z out (p w).toNat v)
def asc(last:Int):List β->Prop
 | []=> True
 | w ::r=> last < p w/\asc (p w) r
structure Mg (l0:List α) (ws:List β) (n a i:Int) (out:List α):Prop where
 a0:0<=a/\a<=ws.length
 i0:0<=i/\i<=n
 len:(out.length:Int)=i
 ac:asc p (i - 1) (ws.drop a.toNat)
 lt:∀ w∈ws.drop a.toNat,p w < n
 ex:n=l0.length\/i=n\/∃ w∈ws.drop a.toNat,p w+1=n
 n0:l0.length<=n
 eq:mg z f p (ws.drop a.toNat) (out++l0.drop i.toNat)=mg z f p ws l0
variable {z f p} {l0:List α} {ws:List β} {n a i:Int} {out:List α}
theorem ZmE(v:α)(i:Nat)(h:out.length=i):Yj z (out++l0.drop i) i v=(out++[v])++l0.drop (i+1):=by
 by_cases hi:i < l0.length
 .simp only [Yj]
  rw [show i+1 - (out++l0.drop i).length=0 by simp;omega]
  simp only [List.replicate_zero,Qo]
  rw [Kh _ _ YS,show i - out.length=0 by omega,QL hi,List.set_cons_zero,Qa]
  try rfl
 .rw [Q9 YS,Q9 YS]
  simp only [Yj,Qo]
  rw [show i+1 - out.length=1 by omega,List.replicate_one,Kh _ _ YS,show i - out.length=0 by omega]
  try rfl
theorem Z3W{last:Int}:∀ {l:List β},asc p last l->∀ w∈l,last < p w
 | [],_,_,hw=> by cases hw
 | b ::r,h,w,hw=> by
  rcases Qc.1 hw with rfl | hw
  .exact h.1
  .have:=Z3W h.2 w hw
   have:=h.1
   omega
theorem Zta{m last:Int}(h:m<=last):∀ {l:List β},asc p last l->asc p m l
 | [],_=> trivial
 | _ ::_,g=> ⟨by have:=g.1;omega,g.2⟩
theorem Mg.cons(m:Mg z f p l0 ws n a i out)(d:β)(ha:a < ws.length):ws.drop a.toNat=ws.getD a.toNat d ::ws.drop (a+1).toNat:=ZQ m.a0.1 ha d
theorem Mg.none(m:Mg z f p l0 ws n a i out)(d:β)(ha:a < ws.length)(hf:f (ws.getD a.toNat d)=Option.none):mg z f p ws l0=Option.none:=by
 rw [<-m.eq,m.cons d ha,mg,hf];try rfl
theorem Mg.edit(m:Mg z f p l0 ws n a i out)(d:β)(hi:i < n)(ha:a < ws.length)(hp:p (ws.getD a.toNat d)=i){v:α}(hf:f (ws.getD a.toNat d)=some v):Mg z f p l0 ws n (a+1) (i+1) (out++[v]):=by
 have hc:=m.cons d ha
 have h1:=m.ac;have h2:=m.lt;have h3:=m.ex;have h4:=m.eq;have h5:=m.a0;have h6:=m.i0;have h7:=m.len
 rw [hc] at h1 h2 h3 h4
 refine ⟨YS,YS,by simp;omega,?_,fun w hw=> h2 w (Q1 _ hw),?_,m.n0,?_⟩
 .have:=h1.2
  rw [hp] at this
  rw [show i+1 - 1=i by omega]
  exact this
 .rcases h3 with h3 | h3 | ⟨w,hw,h3⟩
  .exact .inl h3
  .omega
  .rcases Qc.1 hw with rfl | hw
   .exact .inr (.inl YS)
   .exact .inr (.inr ⟨w,hw,h3⟩)
 .rw [mg,hf,QD,hp,ZmE v i.toNat YS,show i.toNat+1=(i+1).toNat by omega] at h4
  exact h4
theorem ZDw{l:List β}(h:∃ w,w∈l)(ha:asc p (out.length:Int) l):mg z f p l (out++[z])=mg z f p l out:=by
 cases l with
 | nil=> obtain ⟨w,hw⟩:=h;cases hw
 | cons w r=>
  have h1:=ha.1
  rw [mg,mg]
  congr 1
  funext v
  have:Yj z (out++[z]) (p w).toNat v=Yj z out (p w).toNat v:=by
   simp only [Yj,Q7,Qt,Qa]
   rw [show (p w).toNat+1 - out.length=((p w).toNat+1 - (out.length+1))+1 by omega,XP]
   try rfl
  rw [this]
theorem Mg.plain(m:Mg z f p l0 ws n a i out)(d:β)(hi:i < n)(hn:¬(a < ws.length/\p (ws.getD a.toNat d)=i)):Mg z f p l0 ws n a (i+1) (out++[l0.getD i.toNat z]):=by
 have h1:=m.ac;have h2:=m.lt;have h3:=m.ex;have h4:=m.eq;have h5:=m.a0;have h6:=m.i0;have h7:=m.len;have h8:=m.n0
 have has:asc p i (ws.drop a.toNat):=by
  by_cases ha:a < ws.length
  .rw [m.cons d ha] at h1 ⊢
   exact ⟨by have:=h1.1;have:p (ws.getD a.toNat d)≠i:=fun e=> hn ⟨ha,e⟩;omega,h1.2⟩
  .rw [Q9 YS];exact trivial
 refine ⟨h5,YS,by simp;omega,by rw [show i+1 - 1=i by omega];exact has,h2,?_,h8,?_⟩
 .rcases h3 with h3 | h3 | h3
  .exact .inl h3
  .omega
  .exact .inr (.inr h3)
 .rw [<-h4]
  by_cases hl:i.toNat < l0.length
  .rw [QL hl,show i.toNat+1=(i+1).toNat by omega,Qg,Q0 hl,Xa]
   simp
  .have e1:l0.drop i.toNat=[]:=Q9 YS
   have e2:l0.drop (i+1).toNat=[]:=Q9 YS
   rw [e1,e2,Qo,Qo,Qg,QA YS,Option.getD_none]
   rcases h3 with h3 | h3 | ⟨w,hw,h3⟩
   .omega
   .omega
   .exact ZDw ⟨w,hw⟩ (by rw [h7];exact has)
theorem Mg.fin(m:Mg z f p l0 ws n a i out)(hi:¬i < n):mg z f p ws l0=some out:=by
 have h1:=m.ac;have h2:=m.lt;have h6:=m.i0;have h8:=m.n0
 rw [<-m.eq]
 have:ws.drop a.toNat=[]:=by
  cases h:ws.drop a.toNat with
  | nil=> rfl
  | cons w r=>
   rw [h] at h1 h2
   have:=h1.1
   have:=h2 w Q2
   omega
 rw [this,mg,Q9 YS,Qo]
end
theorem Mg.init{α β:Type}{z:α}{f:β->Option α}{p:β->Int}{l0:List α}{ws:List β}{n:Int}(d:β)(has:asc p (-1) ws)(hn:n=if 0 < ws.length/\(l0.length:Int)<=p (ws.getD (ws.length - 1) d) then p (ws.getD (ws.length - 1) d)+1 else (l0.length:Int)):Mg z f p l0 ws n 0 0 []:=by
 have last:∀ (l:List β) (m:Int),asc p m l->∀ w∈l,p w<=p (l.getD (l.length - 1) d):=by
  intro l
  induction l with
  | nil=> intro m h w hw;cases hw
  | cons b r ih=>
   intro m h w hw
   cases r with
   | nil=>
    rcases Qc.1 hw with rfl | hw
    .simp
    .cases hw
   | cons c s=>
    have e:(b ::c ::s).getD ((b ::c ::s).length - 1) d=(c ::s).getD ((c ::s).length - 1) d:=by simp
    rw [e]
    rcases Qc.1 hw with rfl | hw
    .have h1:=ih _ h.2 c Q2
     have h2:=h.2.1
     omega
    .exact ih _ h.2 w hw
 have hl:=last ws _ has
 have hm:0 < ws.length->ws.getD (ws.length - 1) d∈ws:=fun h=> Ze YS _
 refine ⟨YS,⟨YS,?_⟩,rfl,has,fun w hw=> ?_,?_,?_,by simp⟩
 .rw [hn];split <;> omega
 .have:=hl w hw
  have hp:0 < ws.length:=List.length_pos_of_mem hw
  rw [hn];split <;> omega
 .rw [hn];split
  .rename_i h;exact .inr (.inr ⟨_,hm h.1,rfl⟩)
  .exact .inl rfl
 .rw [hn];split <;> omega
theorem Zmq(tw:List Int):∀ (ws:List WEdit) (out:List Int),wsD tw ws out=mg 0 (fun w=> if mix 0 (tw.getD w.at_.toNat 0) w.mask=w.old then some (mix (tw.getD w.at_.toNat 0) w.new w.mask) else none) WEdit.at_ ws out
 | [],_=> rfl
 | w ::r,out=> by
  rw [wsD,mg]
  split
  .rw [QD];exact Zmq tw r _
  .try rfl
theorem ZjK(r:Bool)(tk:List Tree):∀ (ks:List Kid) (out:List Tree),Z5f r tk ks out=mg Tree.nil (Z5p r tk) KidOf.at_ ks out
 | [],_=> by rw [Z5f];try rfl
 | k ::s,out=> by
  rw [Z5f,mg]
  congr 1
  funext u
  exact ZjK r tk s _
theorem Z1n:∀ {ws:List WEdit} {last:Int},YM last ws=true->asc WEdit.at_ last ws
 | [],_,_=> trivial
 | w ::r,last,h=> by
  have h1:=Yu h w Q2
  simp only [YM,Q3] at h
  exact ⟨h1.1,Z1n h.2⟩
theorem Z3e:∀ {ks:List Kid} {last d:Int},ZK last ks d=true->asc KidOf.at_ last ks
 | [],_,_,_=> trivial
 | k ::r,last,d,h=> by
  obtain ⟨h1,_,h3⟩:=Z9e h
  exact ⟨h1.1,Z3e h3⟩
end Go.AM.YtpjenobkibfpcaaGreat
namespace Go.AM.YtpjenobkibfpcaaGreat
open Go.AM Go.Proofs
theorem Z4O{x y x' y':Int}(h:x+256*y=x'+256*y')(hx:0<=x/\x < 256)(hx':0<=x'/\x' < 256):x=x'/\y=y':=YS
theorem ZyM{f g:Nat->Int}(hf:∀ i,0<=f i/\f i < 256)(hg:∀ i,0<=g i/\g i < 256)(h:of8 f=of8 g):∀ i,i < 8->f i=g i:=by
 unfold of8 at h
 obtain ⟨h0,h⟩:=Z4O h (hf 0) (hg 0)
 obtain ⟨h1,h⟩:=Z4O h (hf 1) (hg 1)
 obtain ⟨h2,h⟩:=Z4O h (hf 2) (hg 2)
 obtain ⟨h3,h⟩:=Z4O h (hf 3) (hg 3)
 obtain ⟨h4,h⟩:=Z4O h (hf 4) (hg 4)
 obtain ⟨h5,h⟩:=Z4O h (hf 5) (hg 5)
 obtain ⟨h6,h7⟩:=Z4O h (hf 6) (hg 6)
 intro i hi
 match i,hi with
 | 0,_=> exact h0
 | 1,_=> exact h1
 | 2,_=> exact h2
 | 3,_=> exact h3
 | 4,_=> exact h4
 | 5,_=> exact h5
 | 6,_=> exact h6
 | 7,_=> exact h7
theorem Zst{a:Int}(h:isW a):of8 (Zl a)=a:=by
 obtain ⟨h0,h1⟩:=h
 simp only [of8,Zl]
 omega
theorem ZvO{a b m:Int}{i:Nat}(h:i < 8):Zl (mix a b m) i=Jo a b m i:=
 ZyM (fun i=> Z1f _ i) (Z5Y a b m) (by rw [Zst (Znl a b m)];rfl) i h
section
variable {α β:Type} {z:α} {f:β->Option α} {p:β->Int}
end
end Go.AM.YtpjenobkibfpcaaGreat
namespace Go.AM.YtpjenobkibfpcaaGreat
open Go.AM Go.Proofs
theorem Zcd:∀ {ks:List Kid} {k:Kid},k∈ks->Z3 k.e<=Ya ks
 | ⟨_,_⟩ ::r,k,h=> by
  rcases Qc.1 h with rfl | h
  .simp only [Ya,Z0f];omega
  .have:=Zcd h;simp only [Ya];omega
theorem Z61:∀ {os:List Op} {o:Op},o∈os->Zu o<=Zg os
 | a ::r,o,h=> by
  rcases Qc.1 h with rfl | h
  .simp only [Zg];omega
  .have:=Z61 h;simp only [Zg];omega
theorem ZsD(o:Op):Z3 o.e<=Zu o:=by obtain ⟨k,n,l,e⟩:=o;simp only [Zu];omega
theorem ZV{e:Edit}{k:Kid}(h:k∈e.kids):Z3 k.e < Z3 e:=by
 obtain ⟨kk,o,n,w,ks,l,os⟩:=e
 have:=Zcd (ks:=ks) h
 simp only [Z3];omega
theorem YV{e:Edit}{o:Op}(h:o∈e.ops):Z3 o.e < Z3 e:=by
 obtain ⟨kk,ol,n,w,ks,l,os⟩:=e
 have:=Z61 (os:=os) h
 have:=ZsD o
 simp only [Z3];omega
mutual
theorem Z6G:∀ (t:Tree) (d m:Int),m < 0->ZD t d=true->ZD t m=true
 | .mk k w ks,d,m,hm,h=> by
  rw [ZD] at h ⊢
  by_cases h0:k=0
  .rw [if_pos h0] at h ⊢;exact h
  .rw [if_neg h0] at h ⊢
   by_cases h1:k=10
   .rw [if_pos h1] at h ⊢;exact h
   .rw [if_neg h1] at h ⊢
    by_cases h2:d=0
    .rw [if_pos h2] at h;cases h
    .rw [if_neg h2] at h
     rw [JL]
     by_cases h3:k=1
     .rw [if_pos h3,Q3] at h ⊢
      exact ⟨h.1,Z8a 1 ks (d - 1) (m - 1) YS h.2⟩
     .rw [if_neg h3,Q3] at h ⊢
      exact ⟨h.1,Z8a k ks (d - 1) (m - 1) YS h.2⟩
theorem Z8a(list:Int):∀ (ks:List Tree) (d m:Int),m < 0->Jm list ks d=true->Jm list ks m=true
 | [],_,_,_,_=> rfl
 | t ::r,d,m,hm,h=> by
  simp only [Jm,Q3] at h ⊢
  exact ⟨⟨h.1.1,Z6G t d m hm h.1.2⟩,Z8a list r d m hm h.2⟩
end
theorem JW{D list:Int}:∀ {l:List Tree},YG D list l=true->∀ t∈l,ZD (.mk list [] [t]) D=true
 | a ::r,h,t,ht=> by
  simp only [YG,Q3] at h
  rcases Qc.1 ht with rfl | ht
  .exact h.1
  .exact JW h.2 t ht
inductive Run:List Op->List Tree->List Tree->Prop
 | nil:Run [] [] []
 | keep {o r a s d}:o.kind=0->(a.length:Int)=o.n->Run r s d->Run (o ::r) (a++s) (a++d)
 | gone {o r a s d}:o.kind=1->Z8 o.l=Z8 a->Run r s d->Run (o ::r) (a++s) d
 | come {o r s d}:o.kind=2->Run r s d->Run (o ::r) s (o.l++d)
 | into {o r x y s d}:o.kind=3->doE false o.e x=some y->Run r s d->Run (o ::r) (x ::s) (y ::d)
def kOk(o:Op):Prop:=(o.kind=0/\0<=o.n)\/o.kind=1\/o.kind=2\/o.kind=3
theorem Zng{list d:Int}{os:List Op}(h:ZO list os d=true):∀ o∈os,ZC o:=fun o ho=> Z31 (rightOs_mem h ho)
theorem Z9y{o:Op}(h:ZC o):0<=Z6 o:=by have:=Zw h;omega
end Go.AM.YtpjenobkibfpcaaGreat
namespace Go.AM
def Z1j(m:Nat):Nat->Nat
 | 0=> 0
 | i+1=> Z1j m i+if m / 2 ^ i % 2=1 then 255*2 ^ (8*i) else 0
def Zgm:Nat->Nat->Nat
 | 0,_=> 0
 | k+1,m=> (if m % 2=1 then 255 else 0)+256*Zgm k (m / 2)
def Zc2:Nat->Nat->Nat->Nat
 | 0,_,_=> 0
 | k+1,a,m=> (if m % 2=1 then a % 256 else 0)+256*Zc2 k (a / 256) (m / 2)
def Zly:Nat->Nat->Nat->Nat->Nat
 | 0,_,_,_=> 0
 | k+1,a,b,m=> (if m % 2=1 then b % 256 else a % 256)+256*Zly k (a / 256) (b / 256) (m / 2)
theorem Ztd(x y u v:Nat)(hu:u < 256)(hv:v < 256):(u+256*x) &&& (v+256*y)=(u &&& v)+256*(x &&& y):=by
 have h:u &&& v < 256:=Nat.and_lt_two_pow (n:=8) u hv
 apply Nat.eq_of_testBit_eq
 intro j
 rw [XE u,XE v,XE (u &&& v),KK]
 rw [show (256:Nat)=2 ^ 8 from rfl,Xh _ hu,Xh _ hv,Xh _ h]
 split <;> rw [KK]
theorem ZvB(x y u v:Nat)(hu:u < 256)(hv:v < 256):(u+256*x) ||| (v+256*y)=(u ||| v)+256*(x ||| y):=by
 have h:u ||| v < 256:=Nat.or_lt_two_pow (n:=8) hu hv
 apply Nat.eq_of_testBit_eq
 intro j
 rw [XE u,XE v,XE (u ||| v),Nat.testBit_or]
 rw [show (256:Nat)=2 ^ 8 from rfl,Xh _ hu,Xh _ hv,Xh _ h]
 split <;> rw [Nat.testBit_or]
theorem Zgh:∀ (k a m:Nat),a &&& Zgm k m=Zc2 k a m
 | 0,a,m=> by simp [Zgm,Zc2]
 | k+1,a,m=> by
  have e:a=a % 256+256*(a / 256):=YS
  simp only [Zgm,Zc2]
  rw [<-Zgh k (a / 256) (m / 2)]
  have h:a &&& ((if m % 2=1 then 255 else 0)+256*Zgm k (m / 2))=(a % 256+256*(a / 256)) &&& ((if m % 2=1 then 255 else 0)+256*Zgm k (m / 2)):=by rw [<-e]
  rw [h,Ztd _ _ _ _ YS (by split <;> omega)]
  congr 1
  split
  .have:=Nat.and_two_pow_sub_one_eq_mod (a % 256) 8
   simp only [show (2:Nat) ^ 8 - 1=255 from rfl,show (2:Nat) ^ 8=256 from rfl,Nat.mod_mod] at this
   exact this
  .simp
theorem Zpd:∀ (k a b m n:Nat),(∀ i < k,m / 2 ^ i % 2+n / 2 ^ i % 2=1)->Zc2 k a n ||| Zc2 k b m=Zly k a b m
 | 0,a,b,m,n,_=> by simp [Zc2,Zly]
 | k+1,a,b,m,n,h=> by
  simp only [Zc2,Zly]
  have h0:=h 0 YS
  simp only [Nat.pow_zero,Nat.div_one] at h0
  rw [ZvB _ _ _ _ (by split <;> omega) (by split <;> omega),Zpd k (a / 256) (b / 256) (m / 2) (n / 2) (fun i hi=> by
   have:=h (i+1) YS
   rw [XD,XD]
   rw [Nat.pow_succ,X8] at this
   exact this)]
  congr 1
  by_cases hm:m % 2=1
  .rw [if_pos hm,if_pos hm,JL];simp
  .rw [if_neg hm,if_neg hm,V0];simp
theorem Zom:∀ m:Fin 256,Z1j m.1 8=Zgm 8 m.1:=by decide+kernel
theorem Ztq:∀ m:Fin 256,2 ^ 64 - 1 - Zgm 8 m.1=Zgm 8 (255 - m.1):=by decide+kernel
theorem Zxr:∀ m:Fin 256,∀ i:Fin 8,m.1 / 2 ^ i.1 % 2+(255 - m.1) / 2 ^ i.1 % 2=1:=by decide+kernel
theorem Zy0:∀ m:Fin 256,Zgm 8 m.1 < 2 ^ 64:=by decide+kernel
theorem ZvP(a b m:Nat)(hm:m < 256):(a &&& (2 ^ 64 - 1 - Z1j m 8)) ||| (b &&& Z1j m 8)=Zly 8 a b m:=by
 have h1:=Zom ⟨m,hm⟩
 have h2:=Ztq ⟨m,hm⟩
 simp only at h1 h2
 rw [h1,h2,Zgh,Zgh]
 exact Zpd 8 a b m (255 - m) (fun i hi=> Zxr ⟨m,hm⟩ ⟨i,hi⟩)
def ofK:Nat->(Nat->Nat)->Nat
 | 0,_=> 0
 | k+1,f=> f 0+256*ofK k (fun i=> f (i+1))
theorem Zh0:∀ (k:Nat) {f g:Nat->Nat},(∀ i,f i=g i)->ofK k f=ofK k g
 | 0,_,_,_=> rfl
 | k+1,f,g,h=> by simp only [ofK,h 0,Zh0 k (fun i=> h (i+1))]
theorem Zpo:∀ (k a b m:Nat),Zly k a b m=ofK k (fun i=> if m / 2 ^ i % 2=1 then b / 256 ^ i % 256 else a / 256 ^ i % 256)
 | 0,_,_,_=> rfl
 | k+1,a,b,m=> by
  simp only [Zly,ofK,Nat.pow_zero,Nat.div_one]
  rw [Zpo k,Zh0 k (g:=fun i=> if m / 2 ^ (i+1) % 2=1 then b / 256 ^ (i+1) % 256 else a / 256 ^ (i+1) % 256) (fun i=> ?_)]
  rw [XD,XD,XD,Nat.pow_succ',Nat.pow_succ']
theorem ZvQ(a b m:Nat):((Zly 8 a b m:Nat):Int)=mix a b m:=by
 have nm:∀ i:Nat,Z5m (m:Int) (i:Int)=decide (m / 2 ^ i % 2=1):=by
  intro i
  unfold Z5m
  rw [decide_eq_decide,Xd]
  have:((m:Int) / 2 ^ i % 2:Int)=((m / 2 ^ i % 2:Nat):Int):=by rw [KF,KG,KL];try rfl
  rw [this];omega
 have by_:∀ (x i:Nat),Zl (x:Int) i=((x / 256 ^ i % 256:Nat):Int):=by
  intro x i
  unfold Zl
  rw [KF,KG,KL]
  try rfl
 have mx:∀ i:Nat,Jo (a:Int) (b:Int) (m:Int) i=((if m / 2 ^ i % 2=1 then b / 256 ^ i % 256 else a / 256 ^ i % 256:Nat):Int):=by
  intro i
  unfold Jo
  rw [nm,by_,by_]
  by_cases h:m / 2 ^ i % 2=1
  .rw [decide_eq_true h,if_pos rfl,if_pos h]
  .rw [decide_eq_false h,if_neg Xl,if_neg h]
 rw [Zpo]
 generalize hf:(fun i=> if m / 2 ^ i % 2=1 then b / 256 ^ i % 256 else a / 256 ^ i % 256)=f
 have hx:∀ i,Jo (a:Int) (b:Int) (m:Int) i=(f i:Int):=by intro i;rw [mx,<-hf]
 have e:ofK 8 f=f 0+256*(f 1+256*(f 2+256*(f 3+256*(f 4+256*(f 5+256*(f 6+256*(f 7+256*0))))))):=rfl
 rw [e]
 simp only [mix,of8,hx]
 omega
end Go.AM
namespace Go.AM
def Z1h(a b:Int):Int:=IntKind.wrap .u8 (BitVec.ofInt (IntKind.bits .u8) a &&& BitVec.ofInt (IntKind.bits .u8) b).toNat
noncomputable def doB(e:Edit)(t:Tree):Tree × Bool:=(Z0O ((doE false e t).map Z4),(doE false e t).isSome)
noncomputable def Z2u(a b:List Tree):Bool:=eqX (Z8 a) (Z8 b)
def Z0Y(l:List WEdit)(at_:Int):Option WEdit:=l.find? (fun w=> decide (w.at_=at_))
def Ys(l:List Kid)(at_:Int):Edit:=((l.find? (fun k=> decide (k.at_=at_))).map KidOf.e).getD Edit.nil
def Yv:List Int->List Int->List Int
 | [],b=> b
 | a ::p,[]=> a ::p
 | a ::p,b ::q=> if a < b then a ::Yv p (b ::q) else if b < a then b ::Yv (a ::p) q else a ::Yv p q
termination_by p q=> p.length+q.length
def J2(e:Edit):Prop:=ctE e<=9000000000/\J8 e/\∃ d,Zb e d=true
def Zyz(l:List Op):Prop:=Jx l<=9000000000/\Z30 l/\∀ o∈l,∃ list d,Zk list o d=true
def ZhW(o:Op):Prop:=ZC o/\Z5h o<=9000000000/\Z28 o/\(o.kind=3->∃ d,Zb o.e d=true)
end Go.AM
namespace Go.AM.YtpjenobkibfpcaaGreat
open Go.AM Go.Proofs
theorem Z2Y{o:Op}{r:List Op}{s d:List Tree}(h0:o.kind=0):Run (o ::r) s d↔∃ a s' d',s=a++s'/\d=a++d'/\(a.length:Int)=o.n/\Run r s' d':=by
 constructor
 .intro h
  cases h with
  | keep _ h2 h3=> exact ⟨_,_,_,rfl,rfl,h2,h3⟩
  | gone h1=> omega
  | come h1=> omega
  | into h1=> omega
 .rintro ⟨a,s',d',rfl,rfl,h2,h3⟩
  exact .keep h0 h2 h3
theorem Z2Z{o:Op}{r:List Op}{s d:List Tree}(h0:o.kind=1):Run (o ::r) s d↔∃ a s',s=a++s'/\Z8 o.l=Z8 a/\Run r s' d:=by
 constructor
 .intro h
  cases h with
  | gone _ h2 h3=> exact ⟨_,_,rfl,h2,h3⟩
  | keep h1=> omega
  | come h1=> omega
  | into h1=> omega
 .rintro ⟨a,s',rfl,h2,h3⟩
  exact .gone h0 h2 h3
theorem Z1T{o:Op}{r:List Op}{s d:List Tree}(h0:o.kind=2):Run (o ::r) s d↔∃ d',d=o.l++d'/\Run r s d':=by
 constructor
 .intro h
  cases h with
  | come _ h3=> exact ⟨_,rfl,h3⟩
  | keep h1=> omega
  | gone h1=> omega
  | into h1=> omega
 .rintro ⟨d',rfl,h3⟩
  exact .come h0 h3
theorem ZeD{o:Op}{r:List Op}{s d:List Tree}(h0:o.kind=3):Run (o ::r) s d↔∃ x s' y d',s=x ::s'/\d=y ::d'/\doE false o.e x=some y/\Run r s' d':=by
 constructor
 .intro h
  cases h with
  | into _ h2 h3=> exact ⟨_,_,_,_,rfl,rfl,h2,h3⟩
  | keep h1=> omega
  | gone h1=> omega
  | come h1=> omega
 .rintro ⟨x,s',y,d',rfl,rfl,h2,h3⟩
  exact .into h0 h2 h3
theorem Z6D{o:Op}{p r:List Op}(h:∀ s d,Run p s d↔Run r s d)(hk:kOk o)(s d:List Tree):Run (o ::p) s d↔Run (o ::r) s d:=by
 rcases hk with h0 | h1 | h2 | h3
 .rw [Z2Y h0.1,Z2Y h0.1];simp only [h]
 .rw [Z2Z h1,Z2Z h1];simp only [h]
 .rw [Z1T h2,Z1T h2];simp only [h]
 .rw [ZeD h3,ZeD h3];simp only [h]
theorem YX{o:Op}(h:ZC o):kOk o:=by
 rcases h with h | h | h
 .exact .inl ⟨h.1,YS⟩
 .rcases h.1 with h1 | h1
  .exact .inr (.inl h1)
  .exact .inr (.inr (.inl h1))
 .exact .inr (.inr (.inr h.1))
theorem Z6M{o:Op}(h:ZC o)(h0:o.kind=0):Z6 o=o.n:=by
 rcases h with h | h | h
 .unfold Z6;rw [JL,h.2.1];simp
 .omega
 .omega
theorem Z15{o:Op}(h:ZC o)(h0:o.kind=1\/o.kind=2):Z6 o=o.l.length:=by
 rcases h with h | h | h
 .omega
 .unfold Z6;rw [JL,h.2.1];omega
 .omega
theorem Z0c{o:Op}(h0:o.kind=3):Z6 o=1:=by unfold Z6;rw [if_pos h0]
theorem Zi1{o:Op}{r:List Op}{m d:List Tree}(ho:ZC o)(hk:o.kind≠2)(h:Run (o ::r) m d):∃ m1 m' d',m=m1++m'/\(m1.length:Int)=Z6 o/\Run r m' d':=by
 rcases YX ho with h0 | h1 | h2 | h3
 .obtain ⟨a,s',d',rfl,_,hl,hr⟩:=(Z2Y h0.1).1 h
  exact ⟨a,s',d',rfl,by rw [Z6M ho h0.1];exact hl,hr⟩
 .obtain ⟨a,s',rfl,hn,hr⟩:=(Z2Z h1).1 h
  exact ⟨a,s',d,rfl,by rw [Z15 ho (.inl h1),Zb8 hn],hr⟩
 .exact absurd h2 hk
 .obtain ⟨x,s',y,d',rfl,_,_,hr⟩:=(ZeD h3).1 h
  exact ⟨[x],s',d',rfl,by rw [Z0c h3];rfl,hr⟩
theorem Zsa{o:Op}{r:List Op}{n:Int}(ho:ZC o)(h1:1<=n)(hn:¬Z6 o<=n)(s d:List Tree):Run (o ::r) s d↔Run (Zs o n ::Jb o n ::r) s d:=by
 unfold Zs Jb
 rw [if_neg hn]
 rcases YX ho with h0 | hg | hc | hi
 .have hl:=Z6M ho h0.1
  rw [if_pos h0.1,if_pos h0.1,Z2Y h0.1,Z2Y (o:=⟨o.kind,n,o.l,o.e⟩) h0.1]
  constructor
  .rintro ⟨a,s',d',rfl,rfl,ha,hr⟩
   refine ⟨a.take n.toNat,a.drop n.toNat++s',a.drop n.toNat++d',by rw [<-Qa,QS],by rw [<-Qa,QS],by rw [Qj];dsimp only;omega,?_⟩
   exact (Z2Y (o:=⟨o.kind,o.n - n,o.l,o.e⟩) h0.1).2 ⟨a.drop n.toNat,s',d',rfl,rfl,by rw [Qk];dsimp only;omega,hr⟩
  .rintro ⟨a,s',d',rfl,rfl,ha,hr⟩
   obtain ⟨b,s2,d2,rfl,rfl,hb,hr2⟩:=(Z2Y (o:=⟨o.kind,o.n - n,o.l,o.e⟩) h0.1).1 hr
   dsimp only at ha hb
   exact ⟨a++b,s2,d2,by rw [Qa],by rw [Qa],by rw [Q7];omega,hr2⟩
 .have hl:=Z15 ho (.inl hg)
  rw [JL,JL,Z2Z hg,Z2Z (o:=⟨o.kind,o.n,o.l.take n.toNat,o.e⟩) hg]
  constructor
  .rintro ⟨a,s',rfl,ha,hr⟩
   have hla:=Zb8 ha
   refine ⟨a.take n.toNat,a.drop n.toNat++s',by rw [<-Qa,QS],EqvL.take ha _,?_⟩
   exact (Z2Z (o:=⟨o.kind,o.n,o.l.drop n.toNat,o.e⟩) hg).2 ⟨a.drop n.toNat,s',rfl,EqvL.drop ha _,hr⟩
  .rintro ⟨a,s',rfl,ha,hr⟩
   obtain ⟨b,s2,rfl,hb,hr2⟩:=(Z2Z (o:=⟨o.kind,o.n,o.l.drop n.toNat,o.e⟩) hg).1 hr
   refine ⟨a++b,s2,by rw [Qa],?_,hr2⟩
   have:=Z6R ha hb
   rwa [QS] at this
 .rw [JL,JL,Z1T hc,Z1T (o:=⟨o.kind,o.n,o.l.take n.toNat,o.e⟩) hc]
  constructor
  .rintro ⟨d',rfl,hr⟩
   refine ⟨o.l.drop n.toNat++d',by rw [<-Qa,QS],?_⟩
   exact (Z1T (o:=⟨o.kind,o.n,o.l.drop n.toNat,o.e⟩) hc).2 ⟨d',rfl,hr⟩
  .rintro ⟨d',rfl,hr⟩
   obtain ⟨d2,rfl,hr2⟩:=(Z1T (o:=⟨o.kind,o.n,o.l.drop n.toNat,o.e⟩) hc).1 hr
   exact ⟨d2,by rw [<-Qa,QS],hr2⟩
 .rw [Z0c hi] at hn
  omega
def Z7S:List Piece->List Op
 | []=> []
 | x ::r=> (if x.of=2 then [] else [x.p])++Z7S r
def Z7R:List Piece->List Op
 | []=> []
 | x ::r=> (if x.of=1 then [] else [x.q])++Z7R r
def Part(l:List Op)(o:Op):Prop:=∃ o'∈l,o.kind=o'.kind/\o.e=o'.e/\Zu o<=Zu o'/\∀ t∈o.l,t∈o'.l
theorem Part.mono{l l':List Op}{o:Op}(h:Part l o)(hl:∀ x∈l,Part l' x):Part l' o:=by
 obtain ⟨o',h1,h2,h3,h5,h4⟩:=h
 obtain ⟨o2,g1,g2,g3,g5,g4⟩:=hl o' h1
 exact ⟨o2,g1,h2.trans g2,h3.trans g3,Xf h5 g5,fun t ht=> g4 t (h4 t ht)⟩
theorem Part.self{l:List Op}{o:Op}(h:o∈l):Part l o:=⟨o,h,rfl,rfl,Qb _,fun _ h=> h⟩
theorem Z8I{o:Op}{r:List Op}{n:Int}(h:∀ x∈o ::r,ZC x)(h1:1<=n)(hn:n<=Z6 o):
  ZC (Zs o n)/\Z6 (Zs o n)=n/\(Zs o n).kind=o.kind/\Part (o ::r) (Zs o n)/\(∀ x∈Zz (o ::r) n,ZC x/\Part (o ::r) x)/\∀ s d,Run (o ::r) s d↔Run (Zs o n ::Zz (o ::r) n) s d:=by
 have ho:=h o Q2
 have hr:∀ x∈r,ZC x/\Part (o ::r) x:=fun x hx=> ⟨h x (Q1 _ hx),Part.self (Q1 _ hx)⟩
 unfold Zz
 simp only [Ql,Qq,QH]
 by_cases hl:Z6 o<=n
 .rw [if_pos hl]
  have e:Zs o n=o:=by unfold Zs;rw [if_pos hl]
  rw [e]
  exact ⟨ho,YS,rfl,Part.self Q2,hr,fun s d=> QY⟩
 .rw [if_neg hl]
  obtain ⟨_,v2,v3,v4⟩:=Z8C (a:=1) ho h1 hl
  obtain ⟨b1,b2⟩:=Z6k ho h1 hl
  refine ⟨v2,v3,Jk o n,?_,?_,Zsa ho h1 hl⟩
  .refine ⟨o,Q2,Jk o n,?_,v4,?_⟩
   .unfold Zs;split;rfl;split <;> rfl
   .intro t ht
    unfold Zs at ht
    split at ht
    .exact ht
    .split at ht
     .exact ht
     .exact List.mem_of_mem_take ht
  .intro x hx
   rcases Qc.1 hx with rfl | hx
   .refine ⟨b1,o,Q2,?_,?_,b2,?_⟩
    .unfold Jb;split <;> rfl
    .unfold Jb;split <;> rfl
    .intro t ht
     unfold Jb at ht
     split at ht
     .exact ht
     .exact Xm ht
   .exact hr x hx
theorem ZoK{d:List Tree}{s:List Tree}(h:Run [] s d):s=[]/\d=[]:=by cases h;exact ⟨rfl,rfl⟩
theorem ZfK(m:Int)(h0:0<=m)(h1:m < 256)(i:Nat):Z5m m (i:Int)=(BitVec.ofInt 8 m).toNat.testBit i:=by
 obtain ⟨n,rfl⟩:=X7 h0
 have e:(BitVec.ofInt 8 ((n:Nat):Int)).toNat=n:=by simp;omega
 rw [e,Nat.testBit_eq_decide_div_mod_eq]
 unfold Z5m
 rw [decide_eq_decide,Xd]
 have:((n:Int) / 2 ^ i % 2:Int)=((n / 2 ^ i % 2:Nat):Int):=by rw [KF,KG,KL];try rfl
 rw [this];omega
theorem ZdU{a b:Int}(ha:0<=a/\a < 256)(hb:0<=b/\b < 256):(0<=Z1h a b/\Z1h a b < 256)/\∀ i:Nat,Z5m (Z1h a b) (i:Int)=(Z5m a (i:Int) && Z5m b (i:Int)):=by
 have hlt:(BitVec.ofInt 8 a &&& BitVec.ofInt 8 b).toNat < 256:=(BitVec.ofInt 8 a &&& BitVec.ofInt 8 b).isLt
 have e:Z1h a b=((BitVec.ofInt 8 a &&& BitVec.ofInt 8 b).toNat:Int):=by
  show IntKind.wrap .u8 ((BitVec.ofInt 8 a &&& BitVec.ofInt 8 b).toNat:Int)=_
  exact Z3m YS YS
 refine ⟨by rw [e];omega,fun i=> ?_⟩
 rw [ZfK _ (by rw [e];omega) (by rw [e];omega),e,ZfK a ha.1 ha.2,ZfK b hb.1 hb.2]
 have:(BitVec.ofInt 8 (((BitVec.ofInt 8 a &&& BitVec.ofInt 8 b).toNat:Nat):Int)).toNat=(BitVec.ofInt 8 a &&& BitVec.ofInt 8 b).toNat:=by
  generalize (BitVec.ofInt 8 a &&& BitVec.ofInt 8 b).toNat=k at hlt ⊢
  simp
  omega
 rw [this,KJ,KK]
theorem ZCv(i:Nat):Zl 0 i=0:=by unfold Zl;simp
theorem ZDv{a b m:Int}{i:Nat}(hi:i < 8):Zl (mix a b m) i=if Z5m m i=true then Zl b i else Zl a i:=by rw [ZvO hi];try rfl
theorem ZS{e:Edit}{d:Int}(h:Zb e d=true):∀ o∈e.ops,ZC o:=Zng (Zj h).ops
theorem ZHR{e:Edit}(h:e.kind=1)(t:Tree):doE false e t=if ZU (Z4 e.old) (Z4 t)=true then some e.new else none:=by rw [Z8y,Z6Q,JL,if_pos h]
theorem ZR{e:Edit}(h:J8 e):rng e.old/\rng e.new/\(∀ x∈e.words,Zi3 x)/\Z48 e.kids/\Z30 e.ops:=by
 obtain ⟨k,o,n,w,ks,l,os⟩:=e
 exact ⟨h.2.1,h.2.2.1,h.2.2.2.1,h.2.2.2.2.2.1,h.2.2.2.2.2.2⟩
theorem Zb6(list:Int):∀ (a b:List Op) (w:Wst),Zt list (a++b) w=Zt list b (Zt list a w)
 | [],_,_=> rfl
 | o ::r,b,w=> by simp only [Qp,Zt,Zb6 list r b]
theorem ZsQ(x:List Op):(Z2 ⟨x,[],[]⟩).out=x:=by simp [Z2,Z0r]
theorem ZlS(w:Wst)(a b:Int):ZM (ZM w a) b=ZM w (a+b):=by
 unfold ZM
 rw [ZsQ,Zco]
theorem Zhj(list:Int):∀ (n:Nat) (w:Wst),Zt list (List.replicate (n+1) ⟨0,1,[],Edit.nil⟩) w=ZM w ((n:Int)+1)
 | 0,w=> by simp [List.replicate,Zt,YJ]
 | n+1,w=> by
  rw [XP,Zt,YJ,if_pos rfl,Zhj list n,ZlS]
  congr 1
  show (1:Int)+(n+1)=_
  omega
theorem Zho(list:Int):∀ (l:List Tree) (w:Wst),Zt list (l.map fun t=> ⟨1,0,[t],Edit.nil⟩) w=⟨w.out,w.gone++Z8 l,w.brought⟩
 | [],w=> by simp [Zt,Z8]
 | t ::r,w=> by
  rw [Qn,Zt,Zho list r,YJ,if_neg (show ¬(1:Int)=0 by decide),if_pos rfl]
  simp [Z8]
theorem ZhB(list:Int):∀ (l:List Tree) (w:Wst),Zt list (l.map fun t=> ⟨2,0,[t],Edit.nil⟩) w=⟨w.out,w.gone,w.brought++Z8 l⟩
 | [],w=> by simp [Zt,Z8]
 | t ::r,w=> by
  rw [Qn,Zt,ZhB list r,YJ,if_neg (show ¬(2:Int)=0 by decide),if_neg (show ¬(2:Int)=1 by decide),if_pos rfl]
  simp [Z8]
def ux(o:Op):List Op:=(Yq 0 0 o).map opU
theorem Zki(i a:Int)(o:Op):(Yq i a o).map opU=ux o:=by
 simp only [ux,Yq,Xs,X5]
 congr 1
 .split <;> simp [opU]
 .congr 1
  split <;> simp [opU]
theorem J6(u:AUnit):(opU u).kind=u.kind:=by
 unfold opU
 split
 .rename_i h;exact h.symm
 .split
  .rename_i h;exact h.symm
  .try rfl
theorem Zmv{o:Op}(h:ZC o)(k:o.kind=0):ux o=List.replicate o.n.toNat ⟨0,1,[],Edit.nil⟩/\1<=o.n:=by
 have hl:o.l=[]:=by rcases h with h | h | h <;> first | exact h.2.1 | omega
 refine ⟨?_,by rcases h with h | h | h <;> omega⟩
 simp only [ux,Yq,hl,if_pos k]
 rw [JL]
 simp [opU]
theorem Z1Q{o:Op}(k:o.kind=1\/o.kind=2):ux o=o.l.map fun t=> ⟨o.kind,0,[t],Edit.nil⟩:=by
 simp only [ux,Yq]
 rw [JL,JL]
 simp only [Qr,Qo,X5]
 refine Xc fun t _=> ?_
 simp only [Function.comp,opU]
 rw [JL,JL]
theorem Zmu{o:Op}(h:ZC o)(k:o.kind=3):ux o=[⟨3,0,[],o.e⟩]/\o=⟨3,0,[],o.e⟩:=by
 have hl:o.l=[]/\o.n=0:=by rcases h with h | h | h <;> first | exact ⟨h.2.2,h.2.1⟩ | omega
 constructor
 .simp only [ux,Yq,hl.1]
  rw [JL,if_pos k]
  simp [opU]
 .obtain ⟨a,b,c,d⟩:=o
  obtain ⟨rfl,rfl⟩:=hl
  have k:a=3:=k
  rw [k]
theorem ZhO{o x:Op}(h:x∈ux o):x.kind=o.kind:=by
 simp only [ux,QM] at h
 obtain ⟨u,hu,rfl⟩:=h
 rw [J6]
 simp only [Yq,Qh,QM] at hu
 rcases hu with hu | ⟨t,ht,rfl⟩ | hu
 .split at hu
  .rename_i k;rw [Xz hu];exact k.symm
  .cases hu
 .try rfl
 .split at hu
  .rename_i k;rw [Qf.1 hu];exact k.symm
  .cases hu
theorem ZD0(list:Int){o:Op}(h:ZC o)(w:Wst):Zt list (ux o) w=Z01 list o w:=by
 rcases YX h with k | k | k | k
 .obtain ⟨e,hn⟩:=Zmv h k.1
  rw [e,YJ,if_pos k.1]
  obtain ⟨m,hm⟩:∃ m:Nat,o.n.toNat=m+1:=⟨o.n.toNat - 1,YS⟩
  rw [hm,Zhj]
  congr 1;omega
 .rw [Z1Q (.inl k),k,Zho,YJ,JL,if_pos k]
 .rw [Z1Q (.inr k),k,ZhB,YJ,JL,JL,if_pos k]
 .obtain ⟨e1,e2⟩:=Zmu h k
  rw [e1]
  conv=> rhs;rw [e2]
  try rfl
theorem Z96{o:Op}{a:Int}{l:List AUnit}(h:Z7T o a l):l.map opU=ux o:=by
 unfold Z7T at h
 rw [Ze0,Zki] at h
 exact h.symm
theorem ZHx{k:Int}{u:AUnit}(hk:u.kind=k)(h:k=1\/k=2):opU u=⟨k,0,[u.t],Edit.nil⟩:=by
 unfold opU
 rw [JL,JL,hk]
theorem Z3X{k:Int}(hk:k=1\/k=2):∀ {l:List Tree} {m:List AUnit},m.map opU=l.map (fun t=> (⟨k,0,[t],Edit.nil⟩:Op))->l=m.map AUnit.t/\∀ u∈m,u.kind=k
 | [],[],_=> ⟨rfl,fun u hu=> (by cases hu)⟩
 | [],_ ::_,h=> by simp at h
 | _ ::_,[],h=> by simp at h
 | t ::l,u ::m,h=> by
  simp only [Qn,List.cons.injEq] at h
  obtain ⟨i1,i2⟩:=Z3X hk h.2
  have ku:u.kind=k:=by have:=congrArg OpOf.kind h.1;rwa [J6] at this
  have e:=h.1
  rw [ZHx ku hk] at e
  have et:u.t=t:=by injection e with _ _ e3;injection e3
  refine ⟨by rw [Qn,<-i1,et],fun v hv=> ?_⟩
  rcases Qc.1 hv with rfl | hv
  .exact ku
  .exact i2 v hv
structure Alike (c r:Edit × Bool):Prop where
 ok:c.2=r.2
 nrm:c.2=true->Zn c.1=Zn r.1
theorem ZvE{list:Int}{e f:Edit}(h:Zn e=Zn f)(w:Wst):Z01 list ⟨3,0,[],e⟩ w=Z01 list ⟨3,0,[],f⟩ w:=by
 rw [YJ,YJ]
 dsimp only
 rw [h]
theorem Zhk{last n:Int}(hn:n<=last){l:List WEdit}(h:asc WEdit.at_ last l):Z0Y l n=none:=by
 unfold Z0Y
 rw [XF]
 intro w hw
 have:=Z3W h w hw
 simp only [decide_eq_true_eq]
 omega
theorem Z2J(a:WEdit)(r:List WEdit):Z0Y (a ::r) a.at_=some a:=by simp [Z0Y]
theorem Z2I{a:WEdit}{n:Int}(h:a.at_ < n)(r:List WEdit):Z0Y (a ::r) n=Z0Y r n:=by
 unfold Z0Y
 rw [XU]
 simp only [decide_eq_true_eq];omega
theorem Z17(l:List Int):Yv l []=l:=by cases l <;> rw [Yv]
theorem Z6P:∀ (k:Nat) (a b:List Int) (last:Int),a.length+b.length<=k->asc id last a->asc id last b->∀ n∈Yv a b,last < n:=by
 intro k
 induction k with
 | zero=>
  intro a b last hk ha hb n hn
  have e1:a=[]:=Q4 YS
  have e2:b=[]:=Q4 YS
  subst e1 e2
  rw [Yv] at hn;cases hn
 | succ k ih=>
  intro a b last hk ha hb n hn
  match a,b with
  | [],b=> rw [Yv] at hn;exact Z3W hb n hn
  | x ::a,[]=> rw [Z17] at hn;exact Z3W ha n hn
  | x ::a,y ::b=>
   simp only [Q6] at hk
   have h1:last < x:=ha.1
   have h2:last < y:=hb.1
   rw [Yv] at hn
   split at hn
   .rename_i hxy
    rcases Qc.1 hn with rfl | hn
    .exact h1
    .have:=ih a (y ::b) x (by simp only [Q6];omega) ha.2 ⟨hxy,hb.2⟩ n hn;omega
   .split at hn
    .rename_i hxy
     rcases Qc.1 hn with rfl | hn
     .exact h2
     .have:=ih (x ::a) b y (by simp only [Q6];omega) ⟨hxy,ha.2⟩ hb.2 n hn;omega
    .have hxy:x=y:=YS
     subst hxy
     rcases Qc.1 hn with rfl | hn
     .exact h1
     .have:=ih a b x YS ha.2 hb.2 n hn;omega
theorem Jg{β:Type}{at_:β->Int}:∀ {l:List β} {last:Int},asc at_ last l->asc id last (l.map at_)
 | [],_,_=> trivial
 | _ ::_,_,h=> ⟨h.1,Jg h.2⟩
theorem Zhl{last n:Int}(hn:n<=last){l:List Kid}(h:asc KidOf.at_ last l):Ys l n=Edit.nil:=by
 unfold Ys
 rw [XF.2]
 .try rfl
 .intro w hw
  have:=Z3W h w hw
  simp only [decide_eq_true_eq]
  omega
theorem Z2L(a:Kid)(r:List Kid):Ys (a ::r) a.at_=a.e:=by simp [Ys]
theorem Z2K{a:Kid}{n:Int}(h:a.at_ < n)(r:List Kid):Ys (a ::r) n=Ys r n:=by
 unfold Ys
 rw [XU]
 simp only [decide_eq_true_eq];omega
section
variable {g:Edit->Edit->Edit × Bool}
end
theorem Zj4(l:Int)(os:List Op):Zn (.mk 3 Tree.nil Tree.nil [] [] l os)= .mk 3 Tree.nil Tree.nil [] [] l (Z2 (Zt l os ⟨[],[],[]⟩)).out:=by rw [Zn,if_neg V1,if_neg V1,if_pos rfl]
end Go.AM.YtpjenobkibfpcaaGreat
