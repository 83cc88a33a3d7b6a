import Derived.Test.YtpjenobkibfpcaaCL30d
import Derived.Test.YtpjenobkibfpcaaCD25s
import Derived.Test.YtpjenobkibfpcaaKD24
import Derived.Test.YtpjenobkibfpcaaKB22c
import Derived.Test.YtpjenobkibfpcaaKL23r
set_option linter.unusedSimpArgs false
set_option linter.unusedVariables false
namespace Go.AM.Ytpjenobkibfpcaa
open Go.AM Go.Proofs
variable {K:Nat}
structure LbX (K:Nat) (T:Int) (X p:Edit):Prop where
 wk:Wk X
 th:Yo T X
 ow:owE K X<=owE K p
 kx:X.kind=0\/X=p\/(X.kind=p.kind/\(p.kind=2\/p.kind=3))
theorem Zhz:Wk Edit.nil:=by
 obtain ⟨_,h1,d,h2⟩:=Z43
 exact .of h2 h1
theorem LbX.nil{T:Int}(hT:0<=T)(p:Edit):LbX K T Edit.nil p:=⟨Zhz,Z2C hT,by rw [Zrh];exact Zrg p,.inl rfl⟩
theorem LbX.self{T:Int}{p:Edit}(h:Wk p)(ht:Yo T p):LbX K T p p:=⟨h,ht,Qh _,.inr (.inl rfl)⟩
theorem Z2Q(n:Int):Z1 ⟨0,n,[],Edit.nil⟩=n:=by rw [Yd];simp
theorem ZlV(l:List Tree):Z1 ⟨2,0,l,Edit.nil⟩=l.length:=by rw [Yd];simp
theorem φB_nn{o:Op}(h:ZL o):0<=φB o:=by unfold φB;have:=Zu h;split <;> omega
theorem Ze3:∀ {l:List Op},(∀ o∈l,ZL o)->0<=ZY l
 | [],_=> QX _
 | o ::r,h=> by
  have h1:=φB_nn (h o Q7)
  have h2:=Ze3 (l:=r) fun x hx=> h x (Q5 _ hx)
  rw [<-Z14] at h2 ⊢
  simp only [YE];omega
def Zqi(list:Int)(l:List Tree):Prop:=∀ t∈l,Zh (.mk list [] [t]) (-1)=true/\rng t
theorem ZbR{list n:Int}(h1:1<=n)(h2:n<=1048576):OkO list ⟨0,n,[],Edit.nil⟩:=by
 refine ⟨.inl ⟨rfl,rfl,⟨h1,h2⟩,rfl⟩,ZjL h1 h2 _,YK (by decide) (by decide),by unfold InR;omega,trivial,?_⟩
 exact Zhz.g
theorem Zrj{list:Int}{l:List Tree}(h:Zqi list l)(hl:l≠[]):OkO list ⟨2,0,l,Edit.nil⟩:=by
 refine ⟨.inr (.inl ⟨.inr rfl,rfl,hl,rfl⟩),ZbP (.inr rfl) ?_ hl,YK (by decide) (by decide),YK (by decide) (by decide),Z4P fun t ht=> (h t ht).2,Zhz.g⟩
 rw [Zcu (by decide)]
 exact Z4E fun t ht=> (h t ht).1
theorem ZlY{list:Int}{o:Op}(h:OkO list o)(k:o.kind=1\/o.kind=2):Zqi list o.l:=by
 have R:=ZN h.2.1
 have G:=(Z1l h.2.2).2.2.1
 intro t ht
 refine ⟨?_,YV G ht⟩
 cases R with
 | keep=> exact absurd k (by simp)
 | into=> exact absurd k (by simp)
 | gone l a1=> rw [Zcu (by decide)] at a1;exact Z07 a1 t ht
 | come l a1=> rw [Zcu (by decide)] at a1;exact Z07 a1 t ht
theorem Z0m{list:Int}{o:Op}(h:OkO list o)(k:o.kind=3):(7 < list/\o.e.kind≠0/\Wl list o.e/\Wk o.e)/\o.l=[]:=by
 have R:=ZN h.2.1
 cases R with
 | keep | gone | come=> exact absurd k (by simp)
 | into e a1 a2 a3 a4=> exact ⟨⟨a3,a2,a4,⟨Y4 _ _ _ (by decide) a1,(Z1l h.2.2).2.2.2⟩⟩,rfl⟩
structure OpsX (K:Nat) (list T:Int) (l:List Op) (A B:Int) (W:Nat):Prop where
 ok:∀ o∈l,OkO list o/\Yo T o.e
 la:Yk l<=A
 lb:ZY l<=B
 ow:Z2P K l<=W
theorem OpsX.app{list T:Int}{l l':List Op}{A B A' B':Int}{W W':Nat}(h:OpsX K list T l A B W)(h':OpsX K list T l' A' B' W'):OpsX K list T (l++l') (A+A') (B+B') (W+W'):=by
 refine ⟨fun o ho=> (Qi.1 ho).elim (h.ok o) (h'.ok o),?_,?_,?_⟩
 ·rw [<-ZaR,ZaQ,ZaR,ZaR];have:=h.la;have:=h'.la;omega
 ·rw [<-Z14,ZaQ,Z14,Z14];have:=h.lb;have:=h'.lb;omega
 ·rw [Zgt];have:=h.ow;have:=h'.ow;omega
theorem OpsX.none{list T A B:Int}{W:Nat}(ha:0<=A)(hb:0<=B):OpsX K list T [] A B W:=⟨fun o ho=> (by cases ho),ha,hb,Xk _⟩
theorem OpsX.mono{list T:Int}{l:List Op}{A B A' B':Int}{W W':Nat}(h:OpsX K list T l A B W)(ha:A<=A')(hb:B<=B')(hw:W<=W'):OpsX K list T l A' B' W':=
 ⟨h.ok,Int.le_trans h.la ha,Int.le_trans h.lb hb,X2 h.ow hw⟩
theorem OpsX.one{list T:Int}{o:Op}(h:OkO list o)(ht:Yo T o.e):OpsX K list T [o] (φA o) (φB o) (Zi4 K o):=by
 refine ⟨fun x hx=> by rw [Qj.1 hx];exact ⟨h,ht⟩,?_,?_,?_⟩
 ·rw [<-ZaR];simp [YE]
 ·rw [<-Z14];simp [YE]
 ·simp [Z2P]
theorem Zpy{list T:Int}(hT:0<=T){n:Nat}(hn:n<=1048576):OpsX K list T (JA n) n n 0:=by
 unfold JA
 split
 ·exact .none (by omega) (by omega)
 ·refine (OpsX.one (ZbR (by omega) (by omega)) (Z2C hT)).mono ?_ ?_ ?_
  ·unfold φA;rw [if_neg (by simp),Z2Q];omega
  ·unfold φB;rw [if_neg (by simp),Z2Q];omega
  ·simp [Z1n,owL,Z7]
theorem ZxU{list T:Int}(hT:0<=T){l:List Tree}(h:Zqi list l):OpsX K list T (Z2Z l) 0 l.length (owL l):=by
 unfold Z2Z
 split
 ·exact .none (by omega) (by omega)
 ·rename_i hl
  refine (OpsX.one (Zrj h hl) (Z2C hT)).mono ?_ ?_ ?_
  ·unfold φA;rw [if_pos rfl];omega
  ·unfold φB;rw [if_neg (by simp),ZlV];omega
  ·simp [Z1n]
theorem ZtL{list T:Int}(hT:0<=T){m h:List Tree}(hm:Zqi list m)(hh:h.length<=1048576):OpsX K list T (Jb m h).x h.length (m.length+h.length) (owL m):=by
 unfold Jb
 split
 ·exact (Zpy hT hh).mono (by omega) (by omega) (Xk _)
 ·exact ((ZxU hT hm).app (Zpy hT hh)).mono (by omega) (by omega) (by omega)
theorem Zr9 {f:Edit->Edit->Lft} {list a b:Int} (hli:2<=list/\list<=9) (ha:0<=a) (hb:0<=b) {p q:Op} (op:OkO list p) (oq:OkO list q) (tp:Yo a p.e) (hl:Z1 p=Z1 q) (p2:p.kind≠2) (q2:q.kind≠2)
  (hf:p.kind=3->q.kind=3->LbX K (a+b) (f p.e q.e).x p.e):OpsX K list (a+b) (Zz f p q).x (φB q) (φB p) (Zi4 K p):=by
 have kp:=YO op.1
 have kq:=YO oq.1
 unfold kOk at kp kq
 have np:=φB_nn op.1
 have nq:=φB_nn oq.1
 have lp:=Zu op.1
 have tp':=Z3g _ p.e (Qh _) (show a<=a+b by omega) tp
 by_cases a0:p.kind=0
 ·by_cases b1:q.kind=1
  ·rw [Zrf a0 b1];exact .none nq np
  ·rw [pL0 a0 b1]
   have e:(if q.n < 1 then 1 else q.n)=Z1 q:=by
    by_cases b0:q.kind=0
    ·obtain ⟨_,h1,h2⟩:=Z1A oq.1 b0
     rw [if_neg (by omega),h2]
    ·rw [Zal oq.1 b0,if_pos (by decide),Z0k (by omega)]
   have h1:=Z1A op.1 a0
   rw [e,<-hl]
   refine (OpsX.one (ZbR lp ?_) (Z2C (by omega))).mono ?_ ?_ (by simp [Z1n,owL,Z7])
   ·rw [h1.2.2]
    rcases op.1 with h | h | h
    ·exact h.2.2.1.2
    ·omega
    ·omega
   ·unfold φA φB;rw [if_neg (by simp),if_neg b1,Z2Q];omega
   ·unfold φB;rw [if_neg (by simp),if_neg (by omega),Z2Q];omega
 ·by_cases b0:q.kind=0
  ·by_cases a1:p.kind=1
   ·rw [Zre a1 b0]
    refine (OpsX.one op tp').mono ?_ (QX _) (Qh _)
    unfold φA φB;rw [if_neg p2,if_neg (by omega)];omega
   ·rw [Zrb a0 a1 b0]
    refine (OpsX.one op tp').mono ?_ (QX _) (Qh _)
    unfold φA φB;rw [if_neg p2,if_neg (by omega)];omega
  ·by_cases a1:p.kind=1
   ·by_cases b1:q.kind=1
    ·rw [Zrd a1 b1];exact .none nq np
    ·rw [pL1 a1 b0 b1];exact .none nq np
   ·by_cases b1:q.kind=1
    ·rw [Zra a0 a1 b1];exact .none nq np
    ·rw [Zrc a0 a1 b0 b1]
     have p3:p.kind=3:=by omega
     obtain ⟨hw,ht,how,hk⟩:=hf p3 (by omega)
     obtain ⟨⟨e1,e2,e3,e4⟩,e5⟩:=Z0m op p3
     have l1:=Z0k p3
     have hB:φB q=1:=by unfold φB;rw [if_neg b1];omega
     have hB':φB p=1:=by unfold φB;rw [if_neg a1];omega
     rw [hB,hB']
     dsimp only
     unfold Z3H
     split
     ·refine (OpsX.one (ZbR (by decide) (by decide)) (Z2C (by omega))).mono ?_ ?_ (by simp [Z1n,owL,Z7])
      ·unfold φA;rw [if_neg (by simp),Z2Q];omega
      ·unfold φB;rw [if_neg (by simp),Z2Q];omega
     ·rename_i hx0
      have hwl:Wl list (f p.e q.e).x:=by
       rcases hk with h | h | ⟨h,h'⟩
       ·exact absurd h hx0
       ·rw [h];exact e3
       ·rcases h' with h' | h'
        ·exact .inr (.inl (by omega))
        ·rcases e3 with g | g | g
         ·exact .inl g
         ·omega
         ·omega
      refine (OpsX.one ⟨.inr (.inr ⟨rfl,rfl,rfl⟩),ZjM (Y4 _ _ _ (by decide) hw.r) hx0 e1 hwl,YK (by decide) (by decide),YK (by decide) (by decide),trivial,hw.g⟩ ht).mono ?_ ?_ ?_
      ·unfold φA;rw [if_neg (show ¬(3:Int)=2 by decide),Z0k rfl];omega
      ·unfold φB;rw [if_neg (show ¬(3:Int)=1 by decide),Z0k rfl];omega
      ·simp only [Z1n,if_true];rw [if_pos p3,e5];simp only [owL,Z7,Qg];omega
theorem ZxQ{f:Edit->Edit->Lft}{list a b:Int}(hli:2<=list/\list<=9)(ha:0<=a)(hb:0<=b){p q:List Op}{m h:List Tree}{S:PL}(H:Lay f p q m h S):
  (∀ o∈p,OkO list o/\Yo a o.e)->(∀ o∈q,OkO list o)->(∀ x∈p,∀ y∈q,x.kind=3->y.kind=3->LbX K (a+b) (f x.e y.e).x x.e)->Zqi list m->(h.length:Int)+ZY q<=1048576->
  OpsX K list (a+b) S.x (h.length+ZY q) (m.length+h.length+ZY p+ZY q) (owL m+Z2P K p):=by
 induction H with
 | nil m h=>
  intro _ _ _ hm hh
  simp only [ZY] at hh
  exact (ZtL (by omega) hm (by omega)).mono (by simp only [ZY];omega) (by simp only [ZY];omega) (by omega)
 | left k2 _ ih=>
  rename_i x p q m h S _
  intro op oq hf hm hh
  have o1:=op _ Q7
  have e:=ih (fun o ho=> op o (Q5 _ ho)) oq (fun x hx=> hf x (Q5 _ hx)) (fun t ht=> (Qi.1 ht).elim (hm t) (ZlY o1.1 (.inr k2) t)) hh
  have l2:=Z1Y o1.1.1 (.inr k2)
  refine e.mono (QX _) ?_ ?_
  ·rw [<-Z14 (_ ::_)]
   simp only [YE,Z14,φB]
   rw [if_neg (by omega),l2,Q9];omega
  ·rw [ZjJ]
   simp only [Z2P,Z1n]
   omega
 | right np k2 _ ih=>
  intro op oq hf hm hh
  have o1:=oq _ Q7
  have l2:=Z1Y o1.1 (.inr k2)
  have e1:∀ (b:Op) (q:List Op),b.kind=2->ZY (b ::q)=Z1 b+ZY q:=by
   intro b q hb
   rw [<-Z14 (_ ::_)]
   simp only [YE,Z14,φB]
   rw [if_neg (by omega)]
  rw [e1 _ _ k2] at hh
  have e:=ih op (fun o ho=> oq o (Q5 _ ho)) (fun x hx y hy=> hf x hx y (Q5 _ hy)) hm (by rw [Q9];omega)
  rw [Q9] at e
  refine e.mono ?_ ?_ (Qh _)
  ·rw [e1 _ _ k2];omega
  ·rw [e1 _ _ k2];omega
 | both ka kb hn _ ih=>
  rename_i x p y q m h S n _
  intro op oq hf hm hh
  have op1:∀ o∈x ::p,OkO list o:=fun o ho=> (op o ho).1
  have lx:=Zu (op1 x Q7).1
  have ly:=Zu (oq y Q7).1
  have h1:1<=n:=by omega
  obtain ⟨t1,t2,t3,t4⟩:=ZfO op1 h1 (by omega)
  obtain ⟨u1,u2,u3,u4⟩:=ZfO oq h1 (by omega)
  obtain ⟨s1,_⟩:=Z3Q ZtZ (p:=x ::p) (fun o ho=> (op1 o ho).1) (by simp) h1
  obtain ⟨s2,_⟩:=Z3Q ZtZ (p:=y ::q) (fun o ho=> (oq o ho).1) (by simp) h1
  obtain ⟨s3,_⟩:=Z3Q Zy6 (p:=x ::p) (fun o ho=> (op1 o ho).1) (by simp) h1
  have so:∀ l:List Op,YE (fun o=> ((Zi4 K o:Nat):Int)) l=Z2P K l:=by
   intro l
   induction l with
   | nil=> rfl
   | cons o r ih=> simp only [YE,Z2P,ih];omega
  rw [so,so,Qk] at s3
  rw [Z14,Z14,Qk] at s1 s2
  have nq:=Ze3 (l:=Zw (y ::q) n) fun o ho=> (u4 o ho).1
  have np:=Ze3 (l:=Zw (x ::p) n) fun o ho=> (t4 o ho).1
  have fq:=φB_nn u1.1
  have ee:∀ o∈Zw (x ::p) n,o.e=x.e/\o.kind=x.kind\/o∈p:=fun o ho=> (Jc ho).symm.imp (fun h=> by rw [h];exact ⟨Z0U _ _,Yy _ _⟩) id
  have ee':∀ o∈Zw (y ::q) n,o.e=y.e/\o.kind=y.kind\/o∈q:=fun o ho=> (Jc ho).symm.imp (fun h=> by rw [h];exact ⟨Z0U _ _,Yy _ _⟩) id
  have hf':∀ o∈x ::p,∀ o'∈y ::q,∀ r r':Op,r.e=o.e->r'.e=o'.e->r.kind=o.kind->r'.kind=o'.kind->r.kind=3->r'.kind=3->LbX K (a+b) (f r.e r'.e).x r.e:=by
   intro o ho o' ho' r r' e1 e2 k1 k2 k3 k4
   rw [e1,e2]
   exact hf o ho o' ho' (by omega) (by omega)
  have e:=ih (fun o ho=> ⟨t4 o ho,by rcases ee o ho with ⟨h,_⟩ | h;rw [h];exact (op x Q7).2;exact (op o (Q5 _ h)).2⟩) u4
   (fun r hr r' hr' k3 k4=> by
    rcases ee r hr with ⟨e1,k1⟩ | e1
    ·rcases ee' r' hr' with ⟨e2,k2⟩ | e2
     ·exact hf' x Q7 y Q7 r r' e1 e2 k1 k2 k3 k4
     ·exact hf' x Q7 r' (Q5 _ e2) r r' e1 rfl k1 rfl k3 k4
    ·rcases ee' r' hr' with ⟨e2,k2⟩ | e2
     ·exact hf' r (Q5 _ e1) y Q7 r r' rfl e2 rfl k2 k3 k4
     ·exact hf r (Q5 _ e1) r' (Q5 _ e2) k3 k4)
   (fun t ht=> by cases ht) (by simp only [Qg];omega)
  have g:=ZtL (K:=K) (T:=a+b) (by omega) hm (h:=h) (by omega)
  have pc:=Zr9 (f:=f) hli ha hb t1 u1 (by rw [Z1h];exact (op x Q7).2) (by omega) (by omega) (by omega) (hf' x Q7 y Q7 _ _ (Z1h _ _) (Z1h _ _) (Jm _ _) (Jm _ _))
  refine ((g.app pc).app e).mono ?_ ?_ ?_
  ·simp only [Qg];omega
  ·simp only [Qg];omega
  ·simp only [owL,Z7,Qg] at s3 ⊢;omega
end Go.AM.Ytpjenobkibfpcaa
namespace Go.AM.Ytpjenobkibfpcaa
open Go.AM Go.Proofs
variable {K:Nat}
theorem Z6J:rng Tree.nil:=by simp [Tree.nil,rng,ZU,InR]
theorem Z0P{α:Type}{at_:α->Int}{f:α->α}(hf:∀ a,at_ (f a)=at_ a):∀ {l:List α} {last:Int},asc at_ last l->asc at_ last (l.map f)
 | [],_,_=> trivial
 | a ::r,last,h=> by
  refine ⟨by rw [hf];exact h.1,?_⟩
  rw [hf]
  exact Z0P hf h.2
theorem Z04{α:Type}{at_:α->Int}{g:α->Bool}:∀ {l:List α} {last:Int},asc at_ last l->asc at_ last (l.filter g)
 | [],_,_=> trivial
 | a ::r,last,h=> by
  rw [XM]
  split
  ·exact ⟨h.1,Z04 h.2⟩
  ·exact ZmI (XX h.1) (Z04 h.2)
theorem Z7f(a b:WEdit):(Z0r a b).at_=a.at_:=rfl
theorem Zph{a b:WEdit}(ra:ZcJ a):ZcJ (Z0r a b)/\Yz (Z0r a b).old (Z0r a b).mask=true/\Yz (Z0r a b).new (Z0r a b).mask=true:=by
 obtain ⟨m1,_⟩:=Z5s (a:=Z3L b.mask) (b:=a.mask) (by
  have h:=(BitVec.ofInt (IntKind.bits .u8) 255 ^^^ BitVec.ofInt (IntKind.bits .u8) b.mask).isLt
  have e:(2:Nat) ^ IntKind.bits .u8=256:=rfl
  unfold Z3L
  rw [Z4C (by omega) (by omega)]
  omega) ra.2.1
 have w:∀ x m:Int,Yz (mix 0 x m) m=true:=fun x m=> Zlq fun i hi hn=> by rw [Z0L hi,if_neg (by rw [hn];decide)];exact ZtW i
 exact ⟨⟨ra.1,m1,Z0K _ _ _,Z0K _ _ _⟩,w _ _,w _ _⟩
theorem Zuk {T:Int} {W:List WEdit} {Ks:List Kid} {p:Edit} (hT:0<=T) (p2:p.kind=2) (aw:asc WEdit.at_ (-1) W) (ak:asc KidOf.at_ (-1) Ks)
  (hw:∀ w∈W,ZcJ w/\w.at_<=65534/\Yz w.old w.mask=true/\Yz w.new w.mask=true) (hk:∀ k∈Ks,k.at_<=65534/\InR k.at_/\Wk k.e/\Yo T k.e)
  (ow:65600*W.length+Z3t K Ks<=65600*p.words.length+Z3t K p.kids):LbX K T (Z2I (.mk 2 Tree.nil Tree.nil W Ks 0 [])) p:=by
 unfold Z2I
 split
 ·exact .nil hT p
 ·show LbX K T (.mk 2 Tree.nil Tree.nil (W.filter fun w=> !decide (w.mask=0)) (Ks.filter fun k:Kid=> !decide (k.e.kind=0)) 0 []) p
  refine ⟨⟨ZlK (ZaB (Z04 aw) fun w h=> ?_) (Zbk (Z04 ak) fun k h=> ?_),?_⟩,?_,?_,.inr (.inr ⟨by rw [p2];rfl,.inl p2⟩)⟩
  ·obtain ⟨h1,h2⟩:=Xc.1 h
   obtain ⟨_,g2,g3,g4⟩:=hw w h1
   exact ⟨g2,by simpa using h2,g3,g4⟩
  ·obtain ⟨h1,h2⟩:=Xc.1 h
   obtain ⟨g1,_,g3,_⟩:=hk k h1
   exact ⟨g1,by simpa using h2,Y4 _ _ _ (by decide) g3.r⟩
  ·refine ⟨YK (by decide) (by decide),Z6J,Z6J,fun w h=> (hw w (Xc.1 h).1).1,YK (by decide) (by decide),Zg3 fun k h=> ?_,trivial⟩
   obtain ⟨_,g2,g3,_⟩:=hk k (Xc.1 h).1
   exact ⟨g2,g3.g⟩
  ·rw [JS]
   refine ⟨⟨hT,hT⟩,fun k h=> (hk k (Xc.1 h).1).2.2.2,fun o h=> (by cases h)⟩
  ·have l1:=K7 (fun w:WEdit=> !decide (w.mask=0)) W
   have l2:∀ l:List Kid,Z3t K (l.filter fun k=> !decide (k.e.kind=0))<=Z3t K l:=by
    intro l
    induction l with
    | nil=> exact Qh _
    | cons k r ih=>
     rw [XM]
     split
     ·simp only [Z3t];omega
     ·simp only [Z3t];omega
   have l2:=l2 Ks
   have e:=ZeQ (K:=K) p
   have m1:=Zdy p.old;have m2:=Zdy p.new
   have key:∀ w k:Nat,w<=W.length->k<=Z3t K Ks->K+1+1+65600*w+k+0<=owE K p:=by intro w k h1 h2;omega
   exact key _ _ l1 l2
theorem ZdJ{α:Type}{at_:α->Int}{f:α->α->α}{q:List α}{a:α}:Yg at_ f q a=a\/∃ b∈q,at_ b=at_ a/\Yg at_ f q a=f a b:=by
 unfold Yg
 cases h:Z12 at_ q (at_ a) with
 | none=> exact .inl rfl
 | some b=> obtain ⟨h1,h2⟩:=Z2W at_ _ q b h;exact .inr ⟨b,h1,h2,rfl⟩
theorem ZxB {f:Edit->Edit->Lft} {a b:Int} (ha:0<=a) (hb:0<=b) {p q:Edit} (wp:Wk p) (wq:Wk q) (tp:Yo a p) (p2:p.kind=2)
  (hf:∀ x∈p.kids,∀ y∈q.kids,LbX K (a+b) (f x.e y.e).x x.e):LbX K (a+b) (Z3K f p q).x p:=by
 have rp:=Zj wp.r
 have gp:=ZQ wp.g
 rw [JS] at tp
 have hcut:∀ k∈p.kids,LbX K (a+b) (Yg KidOf.at_ (fun a b:Kid=> ⟨a.at_,(f a.e b.e).x⟩) q.kids k).e k.e:=by
  intro k hk
  rcases ZdJ (at_:=KidOf.at_) (f:=fun a b:Kid=> ⟨a.at_,(f a.e b.e).x⟩) (q:=q.kids) (a:=k) with e | ⟨y,hy,_,e⟩
  ·rw [e]
   exact .self ⟨Y4 _ _ _ (by decide) (Zs rp.kids k hk).2,(Ys gp.2.2.2.1 hk).2⟩ (Z3g _ _ (Qh _) (by omega) (tp.2.1 k hk))
  ·rw [e];exact hf k hk y hy
 have hat:∀ k:Kid,(Yg KidOf.at_ (fun a b:Kid=> ⟨a.at_,(f a.e b.e).x⟩) q.kids k).at_=k.at_:=fun k=> JI (at_:=KidOf.at_) (f:=fun a b:Kid=> ⟨a.at_,(f a.e b.e).x⟩) (fun _ _=> rfl) q.kids k
 refine Zuk (by omega) p2 (Z0P (JI Z7f _) (Z4D rp.words)) (Z0P hat (Z7i rp.kids)) (fun w hw=> ?_) (fun k hk=> ?_) ?_
 ·obtain ⟨v,hv,rfl⟩:=Xi.1 hw
  have A:=Z06 rp.words v hv
  have R:=gp.2.2.1 v hv
  rcases ZdJ (at_:=WEdit.at_) (f:=Z0r) (q:=q.words) (a:=v) with e | ⟨y,hy,_,e⟩
  ·rw [e];exact ⟨R,A.2.1,A.2.2.2.1,A.2.2.2.2⟩
  ·rw [e]
   obtain ⟨r1,r2,r3⟩:=Zph (b:=y) R
   exact ⟨r1,by rw [Z7f];exact A.2.1,r2,r3⟩
 ·obtain ⟨v,hv,rfl⟩:=Xi.1 hk
  have A:=(Zs rp.kids v hv).1
  have H:=hcut v hv
  rw [hat]
  exact ⟨A.2.1,(Ys gp.2.2.2.1 hv).1,H.wk,H.th⟩
 ·rw [Xn]
  have key:∀ l:List Kid,(∀ k∈l,k∈p.kids)->Z3t K (l.map (Yg KidOf.at_ (fun a b:Kid=> ⟨a.at_,(f a.e b.e).x⟩) q.kids))<=Z3t K l:=by
   intro l
   induction l with
   | nil=> intro _;exact Qh _
   | cons k r ih=>
    intro hl
    have:=(hcut k (hl k Q7)).ow
    have:=ih fun x hx=> hl x (Q5 _ hx)
    simp only [X9,Z3t,Zgu]
    omega
  exact Nat.add_le_add_left (key p.kids fun _ h=> h) _
theorem Zij{l:List Op}(h:∀ o∈l,ZL o)(hs:Yk l < 1048576/\ZY l < 1048576):Z1q l 0 < 1048576/\Z1p l 0 < 1048576:=by
 have nn:∀ o∈l,0<=Z1 o:=fun o ho=> by have:=Zu (h o ho);omega
 have a:=(Z0p l 0 nn (by decide) (by decide)).1
 have b:=(Z0o l 0 nn (by decide) (by decide)).1
 omega
theorem JU{e:Edit}(w:Wk e):∀ o∈e.ops,OkO e.list o:=by
 intro o ho
 have r:=rightOs_mem (Zj w.r).ops ho
 exact ⟨Jq w.r o ho,r,Z1w (ZQ w.g).2.2.2.2 ho⟩
theorem Zul{list T:Int}{l:List Op}{A B:Int}{W:Nat}{p:Edit}(hT:0<=T)(hli:2<=list/\list<=9)(h:OpsX K list T l A B W)(hA:A<=T)(hB:B<=T)(h1:T < 1048576)(p3:p.kind=3)(hp:p.list=list)(hW:W<=Z2P K p.ops):LbX K T (Z0j list l) p:=by
 unfold Z0j
 split
 ·have la:=h.la;have lb:=h.lb
  obtain ⟨k1,k2⟩:=Zij (fun o ho=> (h.ok o ho).1.1) (l:=l) ⟨by omega,by omega⟩
  refine ⟨⟨ZlJ hli (Zbh fun o ho=> (h.ok o ho).1.2.1) k1 k2,?_⟩,?_,?_,.inr (.inr ⟨by rw [p3];rfl,.inr p3⟩)⟩
  ·exact ⟨YK (by decide) (by decide),Z6J,Z6J,fun w hw=> (by cases hw),YK (by omega) (by omega),trivial,Zg2 fun o ho=> (h.ok o ho).1.2.2⟩
  ·rw [JS]
   exact ⟨⟨by show Yk l<=T;omega,by show ZY l<=T;omega⟩,fun k hk=> (by cases hk),fun o ho=> (h.ok o ho).2⟩
  ·have e:=ZeQ (K:=K) p
   have m1:=Zdy p.old;have m2:=Zdy p.new
   have:=h.ow
   simp only [owE,Z3t,Tree.nil,Zi,Z7,Qg]
   omega
 ·exact .nil hT p
theorem ZxK {f:Edit->Edit->Lft} {a b:Int} (ha:0<=a) (hb:0<=b) (hab:a+b < 1048576) {p q:Edit} (wp:Wk p) (wq:Wk q) (tp:Yo a p) (tq:Yo b q) (p3:p.kind=3) (hl:p.list=q.list)
  (hf:∀ x∈p.ops,∀ y∈q.ops,x.kind=3->y.kind=3->LbX K (a+b) (f x.e y.e).x x.e):LbX K (a+b) (Z2v f p q).x p:=by
 have rp:=Zj wp.r
 have hli:=rp.list p3
 rw [JS] at tp tq
 unfold Z2v
 by_cases hc:(ZI 2 2 p.ops q.ops []).2.1=true
 ·rw [if_pos hc]
  obtain ⟨ps,e,hL⟩:=Zcd (f:=f) _ p.ops q.ops [] (Qh _) hc
  rw [e,QN]
  have S:=ZxQ (K:=K) hli ha hb (hL [] []) (fun o ho=> ⟨JU wp o ho,tp.2.2 o ho⟩) (fun o ho=> by rw [hl];exact JU wq o ho) hf (fun t ht=> by cases ht) (by simp only [Qg];omega)
  simp only [Qg,owL,Z7] at S
  exact Zul (by omega) hli S (by omega) (by omega) hab p3 rfl (by omega)
 ·rw [if_neg hc]
  exact .nil (by omega) p
theorem Zuj {f:Edit->Edit->Lft} {a b:Int} (ha:0<=a) (hb:0<=b) (hab:a+b < 1048576) {p q:Edit} (wp:Wk p) (wq:Wk q) (tp:Yo a p) (tq:Yo b q)
  (hf:∀ x y,Z8 x+Z8 y < Z8 p+Z8 q->Wk x->Wk y->Yo a x->Yo b y->LbX K (a+b) (f x y).x x):LbX K (a+b) (Ye f p q).x p:=by
 by_cases p0:p.kind=0
 ·rw [lb0 (.inl p0)];exact .self wp (Z3g _ _ (Qh _) (by omega) tp)
 by_cases q0:q.kind=0
 ·rw [lb0 (.inr q0)];exact .self wp (Z3g _ _ (Qh _) (by omega) tp)
 by_cases p1:p.kind=1
 ·rw [lb1 p1 q0];exact .nil (by omega) p
 by_cases q1:q.kind=1
 ·rw [Zsi p0 p1 q1];exact .nil (by omega) p
 by_cases hd:p.kind≠q.kind\/p.list≠q.list
 ·rw [lbd p0 p1 q0 q1 hd];exact .nil (by omega) p
 have hk:p.kind=q.kind:=by omega
 have hl:p.list=q.list:=by omega
 have rp:=Zj wp.r
 have rq:=Zj wq.r
 have tp':=JS.1 tp
 have tq':=JS.1 tq
 by_cases p2:p.kind=2
 ·rw [lb2 p2 (by omega) hl]
  refine ZxB ha hb wp wq tp p2 fun x hx y hy=> ?_
  have:=Y5 hx;have:=Y5 hy
  exact hf _ _ (by omega) ⟨Y4 _ _ _ (by decide) (Zs rp.kids x hx).2,(Ys (ZQ wp.g).2.2.2.1 hx).2⟩ ⟨Y4 _ _ _ (by decide) (Zs rq.kids y hy).2,(Ys (ZQ wq.g).2.2.2.1 hy).2⟩ (tp'.2.1 x hx) (tq'.2.1 y hy)
 ·have kp:=rp.kind
  rw [lb3 hk p0 p1 p2 hl]
  refine ZxK ha hb hab wp wq tp tq (by omega) hl fun x hx y hy kx ky=> ?_
  have:=YI hx;have:=YI hy
  exact hf _ _ (by omega) ((Z0m (JU wp x hx) kx).1.2.2.2) ((Z0m (JU wq y hy) ky).1.2.2.2) (tp'.2.2 x hx) (tq'.2.2 y hy)
theorem ZxN{a b:Int}(ha:0<=a)(hb:0<=b)(hab:a+b < 1048576):∀ (n:Nat) (p q:Edit),Z8 p+Z8 q<=n->Wk p->Wk q->Yo a p->Yo b q->LbX K (a+b) (lbF n p q).x p:=by
 intro n
 induction n with
 | zero=> intro p q h;obtain ⟨k,o,nw,w,ks,l,os⟩:=p;simp only [Z8] at h;omega
 | succ n ih=>
  intro p q hn wp wq tp tq
  exact Zuj ha hb hab wp wq tp tq fun x y hxy wx wy tx ty=> ih x y (by omega) wx wy tx ty
theorem ZxP{a b:Int}(ha:0<=a)(hb:0<=b)(hab:a+b < 1048576){p q:Edit}(wp:Wk p)(wq:Wk q)(tp:Yo a p)(tq:Yo b q):LbX K (a+b) (lbE p q).x p/\LbX K (a+b) (lbE p q).y q:=by
 refine ⟨ZxN ha hb hab _ p q (Qh _) wp wq tp tq,?_⟩
 have h:=ZxN (K:=K) hb ha (by omega) _ q p (Qh _) wq wp tq tp
 rw [show lbF (Z8 q+Z8 p) q p=lbE q p from rfl,Zpk wp.r wq.r] at h
 rw [Int.add_comm]
 exact h
theorem ZpM{T:Int}(hT:0<=T)(hK:16+68*T.toNat<=K):∀ (n:Nat) (e:Edit),Z8 e<=n->Wk e->Yo T e->ctE e<=owE K e:=by
 intro n
 induction n with
 | zero=> intro e h;obtain ⟨k,o,nw,w,ks,l,os⟩:=e;simp only [Z8] at h;omega
 | succ n ih=>
  intro e hn we te
  have re:=Zj we.r
  have te':=JS.1 te
  have hc:=Z4z e
  have ho:=ZeQ (K:=K) e
  have kids:∀ l:List Kid,(∀ k∈l,k∈e.kids)->Z2B l<=Z3t K l:=by
   intro l
   induction l with
   | nil=> intro _;exact Qh _
   | cons k r ihl=>
    intro hl
    have hk:=hl k Q7
    have:=Y5 hk
    have h1:=ih k.e (by omega) ⟨Y4 _ _ _ (by decide) (Zs re.kids k hk).2,(Ys (ZQ we.g).2.2.2.1 hk).2⟩ (te'.2.1 k hk)
    have h2:=ihl fun x hx=> hl x (Q5 _ hx)
    simp only [Z2B,Z3t,Zgu,Zhl]
    omega
  have lens:∀ l:List Op,(∀ o∈l,o∈e.ops)->(l.length:Int)<=Yk l+ZY l/\YZ l<=Z2P K l+34*l.length:=by
   intro l
   induction l with
   | nil=> intro _;simp [YZ,Yk,ZY]
   | cons o r ihl=>
    intro hl
    obtain ⟨h1,h2⟩:=ihl fun x hx=> hl x (Q5 _ hx)
    have hm:=hl o Q7
    have hO:=JU we o hm
    have h4:=Zu hO.1
    simp only [YZ,Z2P,Yk,ZY,Qb]
    refine ⟨?_,?_⟩
    ·by_cases k1:o.kind=1
     ·rw [if_neg (show ¬o.kind=2 by omega),if_pos k1];omega
     ·rw [if_neg k1];split <;> omega
    ·have e1:=Z2p o
     have e2:=Z1n (K:=K) o
     by_cases k3:o.kind=3
     ·have:=YI hm
      obtain ⟨⟨_,_,_,w⟩,hl⟩:=Z0m hO k3
      have h1:=ih o.e (by omega) w (te'.2.2 o hm)
      rw [if_pos k3] at e2
      have:Z7 o.l=0:=by rw [hl];try rfl
      omega
     ·have he:ctE o.e=18:=by
       rcases hO.1 with h | h | h
       ·rw [h.2.2.2];try rfl
       ·rw [h.2.2.2];try rfl
       ·omega
      rw [if_neg k3] at e2
      unfold owL at e2
      omega
  obtain ⟨l1,l2⟩:=lens e.ops fun _ h=> h
  have l3:=kids e.kids fun _ h=> h
  have t1:=te'.1
  have l4:e.ops.length<=2*T.toNat:=by omega
  omega
mutual
theorem Z6Y(K:Nat):∀ e:Edit,owE K e+65700<=(131402+K)*Z8 e
 | .mk k o n w ks l os=> by
  have h1:=Zof K ks
  have h2:=Zoe K os
  have w1:Zi o<=(131402+K)*Zi o:=Nat.le_mul_of_pos_left _ (by omega)
  have w2:Zi n<=(131402+K)*Zi n:=Nat.le_mul_of_pos_left _ (by omega)
  have w3:65600*w.length<=(131402+K)*w.length:=Qf _ (by omega)
  simp only [owE,Z8,Nat.mul_add]
  omega
theorem Zof(K:Nat):∀ ks:List (KidOf Edit),Z3t K ks<=(131402+K)*ZP ks
 | []=> Xk _
 | ⟨a,e⟩ ::r=> by
  have h1:=Z6Y K e
  have h2:=Zof K r
  simp only [Z3t,Zog,ZP,JG,Nat.mul_add]
  omega
theorem Zoe(K:Nat):∀ os:List (OpOf Edit),Z2P K os<=(131402+K)*Zg os
 | []=> Xk _
 | ⟨k,n,l,e⟩ ::r=> by
  have h1:=Z6Y K e
  have h2:=Zoe K r
  have h3:=Zv l
  have w1:101*Z7 l<=(131402+K)*Z7 l:=Qf _ (by omega)
  simp only [Z2P,Zi4,owL,Zg,Zt,Nat.mul_add]
  split <;> omega
end
end Go.AM.Ytpjenobkibfpcaa
namespace Go.AM.Ytpjenobkibfpcaa
open Go.AM Go.Proofs
theorem Z54(n:Int):(JA n).length<=1:=by unfold JA;split <;> simp
theorem Z4m:∀ {ks:List Kid},J7 ks=true->∀ k∈ks,Y6 k.e=true
 | [],_,k,hk=> by cases hk
 | a ::r,h,k,hk=> by
  rw [J7,Q0] at h
  rcases Qd.1 hk with rfl | hk
  ·obtain ⟨_,e⟩:=k;exact h.1
  ·exact Z4m h.2 k hk
theorem Z4l:∀ {os:List Op},ZJ os=true->∀ o∈os,Y6 o.e=true
 | [],_,k,hk=> by cases hk
 | a ::r,h,k,hk=> by
  rw [ZJ,Q0] at h
  rcases Qd.1 hk with rfl | hk
  ·obtain ⟨_,_,_,e⟩:=k;exact h.1
  ·exact Z4l h.2 k hk
theorem Z3x:∀ (n:Nat) (e:Edit) (d:Int),Z8 e<=n->Z5 e d=true->Y6 e=true->Y6 (Zx e)=true
 | 0,e,d,hn,_,_=> by
  have:3<=Z8 e:=Z9l e
  omega
 | n+1,e,d,hn,hr,hl=> by
  have ra:=Zj hr
  have hops:=Z0Y.1 ra.ops
  rw [Z53] at hl
  simp only [Q0,decide_eq_true_eq] at hl
  have hz:∀ (k:Int) (o m:Tree) (w:List WEdit) (l:Int),Y6 (.mk k o m w [] l [])=true:=by
   intro k o m w l
   rw [Y6]
   simp [Z1q,Z1p,J7,ZJ]
  rw [Z3u]
  split
  ·exact hz _ _ _ _ _
  ·split
   ·rw [Y6]
    simp only [Z1q,Z1p,ZJ,Xa,Q0,decide_eq_true_eq]
    refine ⟨by simp,?_⟩
    have:∀ ks:List Kid,(∀ k∈ks,k∈e.kids)->J7 (Ja ks)=true:=by
     intro ks
     induction ks with
     | nil=> intro _;rfl
     | cons k r ih=>
      intro h
      rw [Ja,J7,ih fun x hx=> h x (Q5 _ hx),Xa]
      have hk:=h k Q7
      have hm:=Y5 hk
      obtain ⟨a,x⟩:=k
      exact Z3x n x (d - 1) (by have hm:Z8 x < Z8 e:=hm;omega) (Zs ra.kids _ hk).2 (Z4m hl.1.2 _ hk)
    exact this e.kids fun _ h=> h
   ·split
    ·rename_i k3
     have hsA:=Z0p e.ops 0 (fun x hx=> Z1m (Z8b (hops x hx))) (by omega) (by omega)
     have hsB:=Z0o e.ops 0 (fun x hx=> Z1m (Z8b (hops x hx))) (by omega) (by omega)
     have hlen:=ra.len
     have hsn:=Ze1 e.list e.ops (d - 1) ⟨[],[],[]⟩ ra.ops
     have hfl:=Z4G (ZO e.list e.ops ⟨[],[],[]⟩)
     have hrn:=Jr e d hr
     rw [Z3u,if_neg (by omega),if_neg (by omega),if_pos k3] at hrn
     have rn:=Zj hrn
     have nops:=Z0Y.1 rn.ops
     simp only [Edit.ops_mk,Edit.list_mk] at nops
     have nsA:=Z0p (Z0 (ZO e.list e.ops ⟨[],[],[]⟩)).out 0 (fun x hx=> Z1m (Z8b (nops x hx))) (by omega) (by omega)
     have nsB:=Z0o (Z0 (ZO e.list e.ops ⟨[],[],[]⟩)).out 0 (fun x hx=> Z1m (Z8b (nops x hx))) (by omega) (by omega)
     have hs0:sA ⟨[],[],[]⟩=0/\sB ⟨[],[],[]⟩=0:=⟨rfl,rfl⟩
     rw [Y6]
     simp only [J7,Xa,Q0,decide_eq_true_eq]
     refine ⟨by omega,?_⟩
     have hw:∀ (os:List Op),(∀ o∈os,o∈e.ops)->∀ w:Wst,ZJ w.out=true->ZJ (ZO e.list os w).out=true:=by
      intro os
      induction os with
      | nil=> intro _ w hw;exact hw
      | cons o r ih=>
       intro h w hw
       rw [ZO]
       refine ih (fun x hx=> h x (Q5 _ hx)) _ ?_
       have hm:=h o Q7
       rw [Z0Z]
       split
       ·exact light_keep _ _ hw
       ·split
        ·exact hw
        ·split
         ·exact hw
         ·split
          ·rename_i k3'
           split
           ·exact light_keep _ _ hw
           ·dsimp only
            rw [light_app,light_flush _ hw,QF,ZJ,ZJ,Xa]
            have:=YI hm
            exact Z3x n o.e (d - 1) (by omega) (YN (hops o hm) k3') (Z4l hl.2 _ hm)
          ·exact hw
     exact light_flush _ (hw e.ops (fun _ h=> h) _ rfl)
    ·exact hz _ _ _ _ _
where
 light_app:∀ (a b:List Op),ZJ (a++b)=(ZJ a && ZJ b)
  | [],b=> rfl
  | o ::r,b=> by rw [QA,ZJ,ZJ,light_app r b,Bool.and_assoc]
 light_nil:Y6 Edit.nil=true:=by decide
 light_flush (w:Wst) (h:ZJ w.out=true):ZJ (Z0 w).out=true:=by
  unfold Z0 JB
  dsimp only
  rw [light_app,light_app,h,QF]
  split <;> split <;> simp [ZJ,Z7d,light_nil]
 light_keep (w:Wst) (n:Int) (h:ZJ w.out=true):ZJ (ZH w n).out=true:=by
  unfold ZH
  dsimp only
  have h:=light_flush w h
  rcases YJ (Z0 w).out n with e | ⟨a,o,e1,e2,e3⟩
  ·rw [e,light_app,h];simp [ZJ,Z7d,light_nil]
  ·rw [e3,light_app]
   rw [e1,light_app,Q0] at h
   rw [h.1]
   obtain ⟨_,_,_,x⟩:=o
   simpa [ZJ,Z7d] using h.2
instance decStep:DecidableEq PStep:=fun a b=> decidable_of_iff (a.kind=b.kind/\a.at_=b.at_) (by cases a;cases b;simp)
def ZlO(p q:Edit):Prop:=Z0d p/\Z0d q/\∃ a b:Int,(0<=a/\0<=b/\a+b < 1048576)/\(Yo a (Zx p)/\Yo b (Zx q))/\owE (16+68*(a+b).toNat) (Zx p)<=9000000000/\owE (16+68*(a+b).toNat) (Zx q)<=9000000000
theorem Z6U{e:Edit}(h:Z0d e):Z0d (Zx e):=by
 obtain ⟨c,g,d,r⟩:=h
 exact ⟨X2 (ZiF e) c,Z2M e d r g,d,Jr e d r⟩
theorem Zex{p q:Edit}(h:ZlO p q):(Z0d (Zx p)/\Z0d (Zx q))/\Z0d (lbE (Zx p) (Zx q)).x/\Z0d (lbE (Zx p) (Zx q)).y:=by
 obtain ⟨hp,hq,a,b,⟨ha,hb,hab⟩,⟨tp,tq⟩,wp,wq⟩:=h
 have hp':=Z6U hp
 have hq':=Z6U hq
 obtain ⟨X,Y⟩:=ZxP (K:=16+68*(a+b).toNat) ha hb hab (Zag hp') (Zag hq') tp tq
 have c1:=ZpM (K:=16+68*(a+b).toNat) (show 0<=a+b by omega) (Qh _) _ _ (Qh _) X.wk X.th
 have c2:=ZpM (K:=16+68*(a+b).toNat) (show 0<=a+b by omega) (Qh _) _ _ (Qh _) Y.wk Y.th
 have o1:=X.ow
 have o2:=Y.ow
 exact ⟨⟨hp',hq'⟩,⟨by omega,X.wk.g,-1,X.wk.r⟩,⟨by omega,Y.wk.g,-1,Y.wk.r⟩⟩
theorem ZaJ:∀ (n:Nat) (e:Edit),Z8 e<=n->Wk e->Y6 e=true->Yo 2000 e:=by
 intro n
 induction n with
 | zero=> intro e h;obtain ⟨k,o,nw,w,ks,l,os⟩:=e;simp only [Z8] at h;omega
 | succ n ih=>
  intro e hn we h
  have re:=Zj we.r
  rw [Z53,Q0,Q0,decide_eq_true_eq] at h
  obtain ⟨⟨⟨h1,h2⟩,h3⟩,h4⟩:=h
  have nn:∀ o∈e.ops,0<=Z1 o:=fun o ho=> by have:=Zu (JU we o ho).1;omega
  have a:=(Z0p e.ops 0 nn (by decide) (by decide)).1
  have b:=(Z0o e.ops 0 nn (by decide) (by decide)).1
  rw [JS]
  refine ⟨⟨by omega,by omega⟩,fun k hk=> ?_,fun o ho=> ?_⟩
  ·have:=Y5 hk
   exact ih k.e (by omega) ⟨Y4 _ _ _ (by decide) (Zs re.kids k hk).2,(Ys (ZQ we.g).2.2.2.1 hk).2⟩ (Z4m h3 k hk)
  ·have:=YI ho
   by_cases k3:o.kind=3
   ·exact ih o.e (by omega) (Z0m (JU we o ho) k3).1.2.2.2 (Z4l h4 o ho)
   ·have:o.e=Edit.nil:=by
     rcases (JU we o ho).1 with h | h | h
     ·exact h.2.2.2
     ·exact h.2.2.2
     ·omega
    rw [this];exact Z2C (by decide)
theorem ZjA{p q:Edit}{d d':Int}(rp:Z5 p d=true)(rq:Z5 q d'=true)(gp:Yl p)(gq:Yl q)(lp:Y6 p=true)(lq:Y6 q=true)(mp:Z8 p<=20000)(mq:Z8 q<=20000):ZlO p q:=by
 have cp:=Z5n p
 have cq:=Z5n q
 have np:=Z52 p
 have nq:=Z52 q
 have op:=Z6Y (16+68*((2000:Int)+2000).toNat) (Zx p)
 have oq:=Z6Y (16+68*((2000:Int)+2000).toNat) (Zx q)
 have e:((2000:Int)+2000).toNat=4000:=rfl
 rw [e] at op oq
 refine ⟨⟨by omega,gp,d,rp⟩,⟨by omega,gq,d',rq⟩,2000,2000,⟨by decide,by decide,by decide⟩,⟨?_,?_⟩,?_,?_⟩
 ·exact ZaJ _ _ (Qh _) (.of (Jr p d rp) (Z2M p d rp gp)) (Z3x _ p d (Qh _) rp lp)
 ·exact ZaJ _ _ (Qh _) (.of (Jr q d' rq) (Z2M q d' rq gq)) (Z3x _ q d' (Qh _) rq lq)
 ·rw [e];omega
 ·rw [e];omega
theorem Z23{α:Type}{at_:α->Int}:∀ {l:List α} {last:Int},asc at_ last l->∀ a∈l,Z12 at_ l (at_ a)=some a
 | x ::r,last,h,a,ha=> by
  unfold Z12
  rw [XR,Z3y]
  have none_:∀ (r:List α) (n m:Int),asc at_ m r->n<=m->Z12 at_ r n=none:=by
   intro r n m hr hn
   cases e:Z12 at_ r n with
   | none=> rfl
   | some b=>
    obtain ⟨h1,h2⟩:=Z2W at_ n r b e
    have:=Zfj hr b h1
    omega
  rcases Qd.1 ha with rfl | ha
  ·rw [none_ r _ _ h.2 (QX _)]
   simp only [if_pos]
  ·rw [Z23 h.2 a ha]
theorem Zsx{α:Type}{at_:α->Int}{l:List α}{last:Int}(h:asc at_ last l){a b:α}(ha:a∈l)(hb:b∈l)(e:at_ a=at_ b):a=b:=by
 have h1:=Z23 h a ha
 rw [e,Z23 h b hb] at h1
 exact (Option.some.inj h1).symm
def Sq(L:Lft)(p q:Edit):Prop:=∀ t u v,RT_ t->doE false p t=some u->doE false q t=some v->
 L.a=false/\(L.c=false->∃ w1 w2,doE false L.y u=some w1/\doE false L.x v=some w2/\Eqv w1 w2)
section
variable {α β:Type} {z:α} {F:β->α->Option α} {at_:β->Int} {V:α->Prop}
theorem Zpm{l:List β}{n:Int}{last:Int}(h:asc at_ last l)(e:Z12 at_ l n=none):∀ b∈l,at_ b≠n:=by
 intro b hb hn
 have:=Z23 h b hb
 rw [hn,e] at this
 cases this
theorem ZfZ {c:β->β->β} {g:β->Bool} {p q:List β} {l u v:List α} (hc:∀ a b,at_ (c a b)=at_ a) (hp:asc at_ (-1) p) (hq:asc at_ (-1) q)
  (hu:mg z (Z5S z F at_ l) at_ p l=some u) (hv:mg z (Z5S z F at_ l) at_ q l=some v) (hV:∀ i,V (v.getD i z))
  (hg:∀ w y x,g w=false->V y->F w y=some x->x=y)
  (hb:∀ a∈p,∀ b∈q,at_ a=at_ b->∃ w,F (c a b) (v.getD (at_ a).toNat z)=some w):
  ∃ r,mg z (Z5S z F at_ v) at_ ((p.map (Yg at_ c q)).filter g) v=some r/\
   (∀ a∈p,∀ b∈q,at_ a=at_ b->F (c a b) (v.getD (at_ a).toNat z)=some (r.getD (at_ a).toNat z))/\
   ∀ i:Nat,(∀ b∈q,(at_ b).toNat≠i)->r.getD i z=u.getD i z:=by
 have ac:=Z04 (g:=g) (Z0P (f:=Yg at_ c q) (JI hc q) hp)
 have np:=Z3G (by decide) hp
 have nq:=Z3G (by decide) hq
 obtain ⟨a1,a2⟩:=Z18 (by decide) hp hu
 obtain ⟨b1,b2⟩:=Z18 (by decide) hq hv
 have key:∀ a∈p,(∃ b∈q,at_ b=at_ a/\Yg at_ c q a=c a b)\/(Yg at_ c q a=a/\∀ b∈q,(at_ b).toNat≠(at_ a).toNat):=by
  intro a ha
  unfold Yg
  cases e:Z12 at_ q (at_ a) with
  | some b=>
   obtain ⟨h1,h2⟩:=Z2W at_ _ _ _ e
   exact .inl ⟨b,h1,h2,rfl⟩
  | none=>
   refine .inr ⟨rfl,fun b hb h=> Zpm hq e b hb ?_⟩
   have:=np a ha
   have:=nq b hb
   omega
 have ex:∀ a∈p,∃ w,F (Yg at_ c q a) (v.getD (at_ a).toNat z)=some w:=by
  intro a ha
  rcases key a ha with ⟨b,hbq,e1,e2⟩ | ⟨e,hn⟩
  ·rw [e2];exact hb a ha b hbq e1.symm
  ·rw [e,b2 _ hn]
   obtain ⟨x,hx,_⟩:=a1 a ha
   exact ⟨x,hx⟩
 obtain ⟨r,hr⟩:=ZjU (z:=z) (f:=Z5S z F at_ v) (p:=at_) (ws:=(p.map (Yg at_ c q)).filter g) (out:=v) (by
  intro w hw
  obtain ⟨a,ha,rfl⟩:=Xi.1 (Xc.1 hw).1
  show ∃ x,F (Yg at_ c q a) (v.getD (at_ (Yg at_ c q a)).toNat z)=some x
  rw [JI hc]
  exact ex a ha)
 obtain ⟨r1,r2⟩:=Z18 (by decide) ac hr
 have at1:∀ a∈p,F (Yg at_ c q a) (v.getD (at_ a).toNat z)=some (r.getD (at_ a).toNat z):=by
  intro a ha
  by_cases hga:g (Yg at_ c q a)=true
  ·obtain ⟨x,hx,hr⟩:=r1 _ (Xc.2 ⟨Xi.2 ⟨a,ha,rfl⟩,hga⟩)
   unfold Z5S at hx
   rw [JI hc] at hx hr
   rw [hr,hx]
  ·rw [XN] at hga
   obtain ⟨x,hx⟩:=ex a ha
   rw [hx,hg _ _ _ hga (hV _) hx,r2 _ fun w hw e=> ?_]
   obtain ⟨h1,h2⟩:=Xc.1 hw
   obtain ⟨a',ha',rfl⟩:=Xi.1 h1
   rw [JI hc] at e
   have:=np a ha
   have:=np a' ha'
   have:a'=a:=Zsx hp ha' ha (by omega)
   rw [this,hga] at h2
   cases h2
 refine ⟨r,hr,fun a ha b hbq e=> ?_,fun i hn=> ?_⟩
 ·have:Yg at_ c q a=c a b:=by
   unfold Yg
   rw [e,Z23 hq b hbq]
  rw [<-this]
  exact at1 a ha
 ·by_cases hi:∃ a∈p,(at_ a).toNat=i
  ·obtain ⟨a,ha,rfl⟩:=hi
   have h:=at1 a ha
   rcases key a ha with ⟨b,hbq,e1,_⟩ | ⟨e,_⟩
   ·exact absurd (by rw [e1]) (hn b hbq)
   ·obtain ⟨x,hx,hu'⟩:=a1 a ha
    unfold Z5S at hx
    rw [e,b2 _ hn,hx] at h
    rw [hu']
    exact (Option.some.inj h).symm
  ·have hi:∀ a∈p,(at_ a).toNat≠i:=fun a ha e=> hi ⟨a,ha,e⟩
   rw [r2 i,b2 i hn,a2 i hi]
   intro w hw
   obtain ⟨a,ha,rfl⟩:=Xi.1 (Xc.1 hw).1
   rw [JI hc]
   exact hi a ha
theorem Zbg {R:α->α->Prop} (Rr:∀ x,R x x) {cx cy:β->β->β} {g:β->Bool} {p q:List β} {l u v:List α} (hx:∀ a b,at_ (cx a b)=at_ a) (hy:∀ a b,at_ (cy a b)=at_ a)
  (hp:asc at_ (-1) p) (hq:asc at_ (-1) q) (hu:mg z (Z5S z F at_ l) at_ p l=some u) (hv:mg z (Z5S z F at_ l) at_ q l=some v)
  (hVu:∀ i,V (u.getD i z)) (hVv:∀ i,V (v.getD i z)) (hg:∀ w y x,g w=false->V y->F w y=some x->x=y)
  (hb:∀ a∈p,∀ b∈q,at_ a=at_ b->∀ x y,F a (l.getD (at_ a).toNat z)=some x->F b (l.getD (at_ a).toNat z)=some y->∃ w1 w2,F (cy b a) x=some w1/\F (cx a b) y=some w2/\R w1 w2):
  ∃ w1 w2,mg z (Z5S z F at_ u) at_ ((q.map (Yg at_ cy p)).filter g) u=some w1/\mg z (Z5S z F at_ v) at_ ((p.map (Yg at_ cx q)).filter g) v=some w2/\∀ i,R (w1.getD i z) (w2.getD i z):=by
 have np:=Z3G (by decide) hp
 have nq:=Z3G (by decide) hq
 obtain ⟨a1,a2⟩:=Z18 (by decide) hp hu
 obtain ⟨b1,b2⟩:=Z18 (by decide) hq hv
 have bb:∀ a∈p,∀ b∈q,at_ a=at_ b->∃ w1 w2,F (cy b a) (u.getD (at_ a).toNat z)=some w1/\F (cx a b) (v.getD (at_ a).toNat z)=some w2/\R w1 w2:=by
  intro a ha b hbq e
  obtain ⟨x,hx1,hx2⟩:=a1 a ha
  obtain ⟨y,hy1,hy2⟩:=b1 b hbq
  unfold Z5S at hx1 hy1
  rw [<-e] at hy1 hy2
  rw [hx2,hy2]
  exact hb a ha b hbq e x y hx1 hy1
 obtain ⟨w2,e2,t2,s2⟩:=ZfZ (c:=cx) (g:=g) (V:=V) hx hp hq hu hv hVv hg fun a ha b hbq e=> by
  obtain ⟨_,w,_,h,_⟩:=bb a ha b hbq e
  exact ⟨w,h⟩
 obtain ⟨w1,e1,t1,s1⟩:=ZfZ (c:=cy) (g:=g) (V:=V) hy hq hp hv hu hVu hg fun b hbq a ha e=> by
  obtain ⟨w,_,h,_⟩:=bb a ha b hbq e.symm
  rw [e]
  exact ⟨w,h⟩
 refine ⟨w1,w2,e1,e2,fun i=> ?_⟩
 by_cases ha:∃ a∈p,(at_ a).toNat=i
 ·by_cases hbq:∃ b∈q,(at_ b).toNat=i
  ·obtain ⟨a,ha,ea⟩:=ha
   obtain ⟨b,hbq,eb⟩:=hbq
   have:=np a ha
   have:=nq b hbq
   have e:at_ a=at_ b:=by omega
   obtain ⟨x,y,h1,h2,hR⟩:=bb a ha b hbq e
   have h3:=t2 a ha b hbq e
   have h4:=t1 b hbq a ha e.symm
   rw [h2] at h3
   rw [<-e,h1] at h4
   rw [<-ea,<-Option.some.inj h3,<-Option.some.inj h4]
   exact hR
  ·have hbq:∀ b∈q,(at_ b).toNat≠i:=fun b h e=> hbq ⟨b,h,e⟩
   rw [s2 i hbq]
   have hw:w1.getD i z=u.getD i z:=by
    have ac:=Z04 (g:=g) (Z0P (f:=Yg at_ cy p) (JI hy p) hq)
    refine (Z18 (by decide) ac e1).2 i fun w hw=> ?_
    obtain ⟨b,hb',rfl⟩:=Xi.1 (Xc.1 hw).1
    rw [JI hy]
    exact hbq b hb'
   rw [hw]
   exact Rr _
 ·have ha:∀ a∈p,(at_ a).toNat≠i:=fun a h e=> ha ⟨a,h,e⟩
  rw [s1 i ha]
  have hw:w2.getD i z=v.getD i z:=by
   have ac:=Z04 (g:=g) (Z0P (f:=Yg at_ cx q) (JI hx q) hp)
   refine (Z18 (by decide) ac e2).2 i fun w hw=> ?_
   obtain ⟨a,ha',rfl⟩:=Xi.1 (Xc.1 hw).1
   rw [JI hx]
   exact ha a ha'
  rw [hw]
  exact Rr _
end
theorem Zdp{m:Int}(hm:0<=m/\m < 256):(0<=Z3L m/\Z3L m < 256)/\∀ i:Nat,i < 8->YY (Z3L m) (i:Int)= !YY m (i:Int):=by
 have hlt:(BitVec.ofInt 8 255 ^^^ BitVec.ofInt 8 m).toNat < 256:=(BitVec.ofInt 8 255 ^^^ BitVec.ofInt 8 m).isLt
 have e:Z3L m=((BitVec.ofInt 8 255 ^^^ BitVec.ofInt 8 m).toNat:Int):=by
  show IntKind.wrap .u8 ((BitVec.ofInt 8 255 ^^^ BitVec.ofInt 8 m).toNat:Int)=_
  exact Z4C (by omega) (by omega)
 refine ⟨by rw [e];omega,fun i hi=> ?_⟩
 rw [Z4j _ (by rw [e];omega) (by rw [e];omega),e,Z4j m hm.1 hm.2]
 have:(BitVec.ofInt 8 (((BitVec.ofInt 8 255 ^^^ BitVec.ofInt 8 m).toNat:Nat):Int)).toNat=(BitVec.ofInt 8 255 ^^^ BitVec.ofInt 8 m).toNat:=by
  generalize (BitVec.ofInt 8 255 ^^^ BitVec.ofInt 8 m).toNat=k at hlt ⊢
  simp
  omega
 rw [this,BitVec.toNat_xor,Nat.testBit_xor]
 have:(BitVec.ofInt 8 255).toNat.testBit i=true:=by
  revert i
  decide
 rw [this]
 cases (BitVec.ofInt 8 m).toNat.testBit i <;> rfl
theorem ZiW{a b:WEdit}(ra:ZcJ a)(rb:ZcJ b){x u v:Int}(hu:doW a x=some u)(hv:doW b x=some v):
  Yj a b=false/\(JX a b=false->∃ w1 w2,doW (Z0r b a) u=some w1/\doW (Z0r a b) v=some w2/\w1=w2):=by
 unfold doW at hu hv
 split at hu
 ·rename_i ea
  split at hv
  ·rename_i eb
   cases hu
   cases hv
   have A:=Z5s ra.2.1 rb.2.1
   have na:=Zdp ra.2.1
   have nb:=Zdp rb.2.1
   have A1:=Z5s na.1 rb.2.1
   have A2:=Z5s nb.1 ra.2.1
   have oa:∀ i:Nat,i < 8->YY a.mask (i:Int)=true->Z9 a.old i=Z9 x i:=fun i hi h=> by rw [<-ea,Z0L hi,if_pos h]
   have ob:∀ i:Nat,i < 8->YY b.mask (i:Int)=true->Z9 b.old i=Z9 x i:=fun i hi h=> by rw [<-eb,Z0L hi,if_pos h]
   refine ⟨decide_eq_false (Classical.not_not.2 (Z4A (Z0K _ _ _) (Z0K _ _ _) fun i hi=> ?_)),fun hc=> ?_⟩
   ·rw [Z0L hi,Z0L hi,A.2]
    cases ha:YY a.mask (i:Int) with
    | false=> simp
    | true=>
     cases hb:YY b.mask (i:Int) with
     | false=> simp
     | true=>
      rw [oa i hi ha,ob i hi hb]
   ·have hc:mix 0 a.new (Z0y a.mask b.mask)=mix 0 b.new (Z0y a.mask b.mask):=Classical.not_not.1 (of_decide_eq_false hc)
    have c1:mix 0 (mix x a.new a.mask) (Z0r b a).mask=(Z0r b a).old:=by
     show mix 0 (mix x a.new a.mask) (Z0y (Z3L a.mask) b.mask)=mix 0 b.old (Z0y (Z3L a.mask) b.mask)
     refine Z4A (Z0K _ _ _) (Z0K _ _ _) fun i hi=> ?_
     rw [Z0L hi,Z0L hi,Z0L hi,A1.2,na.2 i hi]
     cases ha:YY a.mask (i:Int) with
     | true=> simp
     | false=>
      cases hb:YY b.mask (i:Int) with
      | false=> simp
      | true=> rw [ob i hi hb];simp
    have c2:mix 0 (mix x b.new b.mask) (Z0r a b).mask=(Z0r a b).old:=by
     show mix 0 (mix x b.new b.mask) (Z0y (Z3L b.mask) a.mask)=mix 0 a.old (Z0y (Z3L b.mask) a.mask)
     refine Z4A (Z0K _ _ _) (Z0K _ _ _) fun i hi=> ?_
     rw [Z0L hi,Z0L hi,Z0L hi,A2.2,nb.2 i hi]
     cases hb:YY b.mask (i:Int) with
     | true=> simp
     | false=>
      cases ha:YY a.mask (i:Int) with
      | false=> simp
      | true=> rw [oa i hi ha];simp
    unfold doW
    rw [if_pos c1,if_pos c2]
    refine ⟨_,_,rfl,rfl,?_⟩
    show mix (mix x a.new a.mask) (mix 0 b.new (Z0y (Z3L a.mask) b.mask)) (Z0y (Z3L a.mask) b.mask)=mix (mix x b.new b.mask) (mix 0 a.new (Z0y (Z3L b.mask) a.mask)) (Z0y (Z3L b.mask) a.mask)
    refine Z4A (Z0K _ _ _) (Z0K _ _ _) fun i hi=> ?_
    have e:=congrArg (fun x=> Z9 x i) hc
    simp only [Z0L hi,A.2,A1.2,A2.2,na.2 i hi,nb.2 i hi] at e ⊢
    cases ha:YY a.mask (i:Int) <;> cases hb:YY b.mask (i:Int) <;> rw [ha,hb] at e <;> simp at e ⊢
    exact e
  ·cases hv
 ·cases hu
theorem ZpJ{w:WEdit}{y x:Int}(h:(!decide (w.mask=0))=false)(hy:isW y)(e:doW w y=some x):x=y:=by
 have h:w.mask=0:=by simpa using h
 unfold doW at e
 rw [h] at e
 split at e
 ·rw [<-Option.some.inj e]
  refine Z4A (Z0K _ _ _) hy fun i hi=> ?_
  have z0:YY 0 (i:Int)=false:=by unfold YY;simp
  rw [Z0L hi,z0,if_neg (by decide)]
 ·cases e
theorem Za3{a:List Op}{s d:List Tree}(h:Run a s d):∀ {b:List Op} {s' d':List Tree},Run b s' d'->Run (a++b) (s++s') (d++d'):=by
 induction h with
 | nil=> intro b s' d' h;exact h
 | keep k n _ ih=> intro b s' d' h;rw [Qa,Qa];exact .keep k n (ih h)
 | gone k n _ ih=> intro b s' d' h;rw [Qa];exact .gone k n (ih h)
 | come k _ ih=> intro b s' d' h;rw [Qa];exact .come k (ih h)
 | into k e _ ih=> intro b s' d' h;exact .into k e (ih h)
theorem Z4N(l:List Tree):Run (JA l.length) l l:=by
 unfold JA
 split
 ·rename_i h
  have:l=[]:=Q6 (by omega)
  rw [this];exact .nil
 ·exact Z1k rfl rfl
theorem ZfX(l:List Tree):Run (Z2Z l) [] l:=by
 unfold Z2Z
 split
 ·rename_i h
  rw [h];exact .nil
 ·have:=Run.come (o:=⟨2,0,l,Edit.nil⟩) (r:=[]) (s:=[]) (d:=[]) rfl .nil
  rwa [Qr] at this
def SqL(S:PL)(u v:List Tree):Prop:=S.a=false/\(S.c=false->∃ w1 w2,Run S.y u w1/\Run S.x v w2/\EqvL w1 w2)
theorem SqL.app{S T:PL}{u v u' v':List Tree}(h:SqL S u v)(k:SqL T u' v'):SqL (S.app T) (u++u') (v++v'):=by
 refine ⟨by show (S.a || T.a)=false;rw [h.1,k.1];rfl,fun c=> ?_⟩
 have c:(S.c || T.c)=false:=c
 rw [QB] at c
 obtain ⟨w1,w2,h1,h2,h3⟩:=h.2 c.1
 obtain ⟨x1,x2,k1,k2,k3⟩:=k.2 c.2
 exact ⟨_,_,Za3 h1 k1,Za3 h2 k2,ZpF h3 k3⟩
theorem ZiD(m h:List Tree):SqL (Jb m h) m h:=by
 unfold Jb
 by_cases e:m≠[]/\h≠[]
 ·rw [if_pos e]
  refine ⟨rfl,fun c=> ⟨m,h,Z4N m,Z4N h,?_⟩⟩
  have c:(!Z6l m h)=false:=c
  rw [Xw] at c
  exact Z0s.1 c
 ·rw [if_neg e]
  have hm:m=[]\/h=[]:=by
   by_cases hm:m=[]
   ·exact .inl hm
   ·by_cases hh:h=[]
    ·exact .inr hh
    ·exact absurd ⟨hm,hh⟩ e
  refine ⟨rfl,fun _=> ⟨m++h,m++h,?_,?_,rfl⟩⟩
  ·have:=Za3 (Z4N m) (ZfX h)
   rwa [Qr] at this
  ·have:=Za3 (ZfX m) (Z4N h)
   exact this
theorem ZfW{e:Edit}{x y:Tree}(h:doE false e x=some y):Run [Z3H e] [x] [y]:=by
 unfold Z3H
 split
 ·rename_i k
  rw [ZcR k] at h
  cases h
  exact Z1k rfl rfl
 ·exact .into rfl h .nil
theorem Zo9 {f:Edit->Edit->Lft} {p q:Op} {s u v:List Tree} (op:ZL p) (oq:ZL q) (hl:Z1 p=Z1 q) (p2:p.kind≠2) (q2:q.kind≠2) (hs:∀ t∈s,RT_ t)
  (rp:p.kind=3->∃ d,Z5 p.e d=true) (rq:q.kind=3->∃ d,Z5 q.e d=true)
  (hf:p.kind=3->q.kind=3->Sq (f p.e q.e) p.e q.e) (hp:Run [p] s u) (hq:Run [q] s v):SqL (Zz f p q) u v:=by
 have kp:=YO op
 have kq:=YO oq
 unfold kOk at kp kq
 by_cases a0:p.kind=0
 ·have eu:=Z5D a0 hp
  subst eu
  by_cases b1:q.kind=1
  ·rw [Zrf a0 b1]
   obtain ⟨a,s',rfl,hn,hr⟩:=(Yv b1).1 hq
   obtain ⟨rfl,rfl⟩:=Y0 hr
   exact ⟨rfl,fun _=> ⟨[],[],hq,.nil,rfl⟩⟩
  ·rw [pL0 a0 b1]
   refine ⟨rfl,fun _=> ⟨v,v,hq,Z1k rfl ?_,rfl⟩⟩
   have l1:=Z90 oq b1 hq
   show (v.length:Int)=if q.n < 1 then 1 else q.n
   by_cases b0:q.kind=0
   ·have:=(Z1A oq b0).2
    rw [if_neg (by omega)];omega
   ·have:=Zal oq b0
    rw [if_pos (by omega)]
    have:=Z0k (o:=q) (by omega)
    omega
 by_cases b0:q.kind=0
 ·have ev:=Z5D b0 hq
  subst ev
  by_cases a1:p.kind=1
  ·rw [Zre a1 b0]
   obtain ⟨a,s',rfl,hn,hr⟩:=(Yv a1).1 hp
   obtain ⟨rfl,rfl⟩:=Y0 hr
   exact ⟨rfl,fun _=> ⟨[],[],.nil,hp,rfl⟩⟩
  ·rw [Zrb a0 a1 b0]
   refine ⟨rfl,fun _=> ⟨u,u,Z1k rfl ?_,hp,rfl⟩⟩
   have l1:=Z90 op a1 hp
   have:=Z0k (o:=p) (by omega)
   show (u.length:Int)=1
   omega
 by_cases a1:p.kind=1
 ·obtain ⟨a,s',rfl,hn,hr⟩:=(Yv a1).1 hp
  obtain ⟨rfl,rfl⟩:=Y0 hr
  by_cases b1:q.kind=1
  ·obtain ⟨a',s',es,hn',hr'⟩:=(Yv b1).1 hq
   obtain ⟨e0,rfl⟩:=Y0 hr'
   subst e0
   rw [Zrd a1 b1]
   rw [Qr,Qr] at es
   subst es
   refine ⟨?_,fun _=> ⟨[],[],.nil,.nil,rfl⟩⟩
   show (!Z6l p.l q.l)=false
   rw [Xw]
   exact Z0s.2 (hn.trans hn'.symm)
  ·have b3:q.kind=3:=by omega
   rw [pL1 a1 b0 b1]
   obtain ⟨x,s',y,d',e1,_,he,hr'⟩:=(Z0i b3).1 hq
   obtain ⟨rfl,_⟩:=Y0 hr'
   rw [Qr] at e1
   subst e1
   obtain ⟨d,rq⟩:=rq b3
   have hx:Eqv x (p.l.getD 0 Tree.nil):=by
    have:=EqvL.get (show EqvL p.l [x] from hn) 0
    exact this.symm
   have:=(Z5l q.e d x _ rq hx).isSome
   rw [he] at this
   refine ⟨?_,fun c=> by cases c⟩
   show (!(doE false q.e (p.l.getD 0 Tree.nil)).isSome)=false
   rw [<-this];try rfl
 have a3:p.kind=3:=by omega
 obtain ⟨x,s',y,d',rfl,rfl,he,hr⟩:=(Z0i a3).1 hp
 obtain ⟨rfl,rfl⟩:=Y0 hr
 by_cases b1:q.kind=1
 ·obtain ⟨a,s',e1,hn,hr'⟩:=(Yv b1).1 hq
  obtain ⟨rfl,rfl⟩:=Y0 hr'
  rw [Qr] at e1
  subst e1
  rw [Zra a0 a1 b1]
  obtain ⟨d,rp⟩:=rp a3
  have hx:Eqv x (q.l.getD 0 Tree.nil):=by
   have:=EqvL.get (show EqvL q.l [x] from hn) 0
   exact this.symm
  have:=(Z5l p.e d x _ rp hx).isSome
  rw [he] at this
  refine ⟨?_,fun c=> by cases c⟩
  show (!(doE false p.e (q.l.getD 0 Tree.nil)).isSome)=false
  rw [<-this];try rfl
 ·have b3:q.kind=3:=by omega
  obtain ⟨x',s',y',d',e1,rfl,he',hr'⟩:=(Z0i b3).1 hq
  cases e1
  obtain ⟨_,rfl⟩:=Y0 hr'
  rw [Zrc a0 a1 b0 b1]
  obtain ⟨h1,h2⟩:=hf a3 b3 x y y' (hs x Q7) he he'
  refine ⟨h1,fun c=> ?_⟩
  obtain ⟨w1,w2,g1,g2,g3⟩:=h2 c
  exact ⟨[w1],[w2],ZfW g1,ZfW g2,Z8q.2 g3⟩
theorem Zvg{f:Edit->Edit->Lft}:∀ (k:Nat) (p q:List Op) (m h s u v:List Tree),p.length+q.length<=k->(∀ o∈p,ZL o/\(o.kind=3->∃ d,Z5 o.e d=true))->(∀ o∈q,ZL o/\(o.kind=3->∃ d,Z5 o.e d=true))->
  (∀ a∈p,∀ b∈q,a.kind=3->b.kind=3->Sq (f a.e b.e) a.e b.e)->(∀ t∈s,RT_ t)->Run p s u->Run q s v->∃ S,Lay f p q m h S/\SqL S (m++u) (h++v):=by
 intro k
 induction k with
 | zero=>
  intro p q m h s u v hk _ _ _ _ hp hq
  have e1:p=[]:=Q6 (by omega)
  have e2:q=[]:=Q6 (by omega)
  subst e1 e2
  obtain ⟨_,rfl⟩:=Y0 hp
  obtain ⟨_,rfl⟩:=Y0 hq
  rw [Qr,Qr]
  exact ⟨_,.nil m h,ZiD m h⟩
 | succ k ih=>
  intro p q m h s u v hk op oq hf hs hp hq
  by_cases h1:∃ a p',p=a ::p'/\a.kind=2
  ·obtain ⟨a,p',rfl,k2⟩:=h1
   obtain ⟨u',rfl,hp'⟩:=(YG k2).1 hp
   obtain ⟨S,L,H⟩:=ih p' q (m++a.l) h s u' v (by simp only [Qb] at hk;omega) (fun o ho=> op o (Q5 _ ho)) oq (fun x hx=> hf x (Q5 _ hx)) hs hp' hq
   rw [Qa] at H
   exact ⟨S,.left k2 L,H⟩
  have np:∀ a∈p.head?,a.kind≠2:=by
   intro a ha e
   cases p with
   | nil=> cases ha
   | cons a' p'=> cases ha;exact h1 ⟨_,_,rfl,e⟩
  by_cases h2:∃ b q',q=b ::q'/\b.kind=2
  ·obtain ⟨b,q',rfl,k2⟩:=h2
   obtain ⟨v',rfl,hq'⟩:=(YG k2).1 hq
   obtain ⟨S,L,H⟩:=ih p q' m (h++b.l) s u v' (by simp only [Qb] at hk;omega) op (fun o ho=> oq o (Q5 _ ho)) (fun x hx y hy=> hf x hx y (Q5 _ hy)) hs hp hq'
   rw [Qa] at H
   exact ⟨S,.right np k2 L,H⟩
  have lenP:(s.length:Int)=Yk p:=(Zeb hp fun o ho=> (op o ho).1).1
  have lenQ:(s.length:Int)=Yk q:=(Zeb hq fun o ho=> (oq o ho).1).1
  cases p with
  | nil=>
   obtain ⟨rfl,rfl⟩:=Y0 hp
   cases q with
   | nil=>
    obtain ⟨_,rfl⟩:=Y0 hq
    rw [Qr,Qr]
    exact ⟨_,.nil m h,ZiD m h⟩
   | cons b q'=>
    exfalso
    have kb:b.kind≠2:=fun e=> h2 ⟨_,_,rfl,e⟩
    have ob:=(oq b Q7).1
    obtain ⟨m1,m',d',e,hl,_⟩:=Z5R ob kb hq
    have:=Zu ob
    have:=congrArg List.length e
    rw [Q9,Qg] at this
    omega
  | cons a p'=>
   have ka:a.kind≠2:=fun e=> h1 ⟨_,_,rfl,e⟩
   have oa:=(op a Q7).1
   have la:=Zu oa
   cases q with
   | nil=>
    exfalso
    obtain ⟨rfl,_⟩:=Y0 hq
    obtain ⟨m1,m',d',e,hl,_⟩:=Z5R oa ka hp
    have:=congrArg List.length e
    rw [Q9,Qg] at this
    omega
   | cons b q'=>
    have kb:b.kind≠2:=fun e=> h2 ⟨_,_,rfl,e⟩
    have ob:=(oq b Q7).1
    have lb:=Zu ob
    generalize hn:min (Z1 a) (Z1 b)=n
    have n1:1<=n:=by omega
    have np':n<=Z1 a:=by omega
    have nq':n<=Z1 b:=by omega
    obtain ⟨P1,P2,P3,_,_,PR⟩:=Z2D (fun o ho=> (op o ho).1) n1 np'
    obtain ⟨Q1,Q2,Q3,_,_,QR⟩:=Z2D (fun o ho=> (oq o ho).1) n1 nq'
    obtain ⟨s1,s2,u1,u2,rfl,rfl,hp1,hp2⟩:=(ZfY (YO P1)).1 ((PR s u).1 hp)
    obtain ⟨s1',s2',v1,v2,es,rfl,hq1,hq2⟩:=(ZfY (YO Q1)).1 ((QR _ v).1 hq)
    have l1:=Zbf P1 (by rw [P3];exact ka) hp1
    have l2:=Zbf Q1 (by rw [Q3];exact kb) hq1
    obtain ⟨rfl,rfl⟩:=Kz es (by omega)
    have hlt:=Zj5 (a:=a) (b:=b) (p:=p') (q:=q') hn.symm
    have tp:∀ o∈Zw (a ::p') n,ZL o/\(o.kind=3->∃ d,Z5 o.e d=true):=fun o ho=> ⟨Z4F (fun o ho=> (op o ho).1) (by simp) n1 o ho,fun k3=> by
     rcases Jc ho with h | rfl
     ·exact (op o (Q5 _ h)).2 k3
     ·rw [Z0U];rw [Yy] at k3;exact (op a Q7).2 k3⟩
    have tq:∀ o∈Zw (b ::q') n,ZL o/\(o.kind=3->∃ d,Z5 o.e d=true):=fun o ho=> ⟨Z4F (fun o ho=> (oq o ho).1) (by simp) n1 o ho,fun k3=> by
     rcases Jc ho with h | rfl
     ·exact (oq o (Q5 _ h)).2 k3
     ·rw [Z0U];rw [Yy] at k3;exact (oq b Q7).2 k3⟩
    obtain ⟨S,L,H⟩:=ih _ _ [] [] s2 u2 v2 (by omega) tp tq (fun x hx y hy kx ky=> by
     rcases Jc hx with hx | rfl
     ·rcases Jc hy with hy | rfl
      ·exact hf x (Q5 _ hx) y (Q5 _ hy) kx ky
      ·rw [Z0U];rw [Yy] at ky;exact hf x (Q5 _ hx) b Q7 kx ky
     ·rw [Z0U];rw [Yy] at kx
      rcases Jc hy with hy | rfl
      ·exact hf a Q7 y (Q5 _ hy) kx ky
      ·rw [Z0U];rw [Yy] at ky;exact hf a Q7 b Q7 kx ky) (fun t ht=> hs t (QU _ ht)) hp2 hq2
    refine ⟨_,.both ka kb hn.symm L,?_⟩
    have hpc:SqL (Zz f (Zq a n) (Zq b n)) u1 v1:=by
     refine Zo9 P1 Q1 (by omega) (by rw [P3];exact ka) (by rw [Q3];exact kb) (fun t ht=> hs t (QS _ ht)) ?_ ?_ ?_ hp1 hq1
     ·rw [P3,Z1h];exact (op a Q7).2
     ·rw [Q3,Z1h];exact (oq b Q7).2
     ·rw [P3,Q3,Z1h,Z1h];exact hf a Q7 b Q7
    have:=((ZiD m h).app hpc).app H
    rw [Qa,Qa] at this
    exact this
theorem ZlG{os:List Op}{s d:List Tree}(h:Run os s d):(∀ o∈os,o.kind=0)->d=s:=by
 induction h with
 | nil=> intro _;rfl
 | keep k n _ ih=> intro h;rw [ih fun o ho=> h o (Q5 _ ho)]
 | gone k n _ ih=> intro h;have:=h _ Q7;omega
 | come k _ ih=> intro h;have:=h _ Q7;omega
 | into k e _ ih=> intro h;have:=h _ Q7;omega
theorem Zjl{list:Int}{os:List Op}{s d:List Tree}(h:Run os s d):doE false (Z0j list os) (.mk list [] s)=some (.mk list [] d):=by
 unfold Z0j
 split
 ·rw [Zy2,if_pos (show (Tree.mk list [] s).kind=list from rfl)]
  show (Z2A (ZG false os s [])).map _=_
  rw [Znz h]
  try rfl
 ·rename_i e
  rw [ZcR rfl,ZlG h]
  intro o ho
  rw [XN,Xy] at e
  simpa using e o ho
end Go.AM.Ytpjenobkibfpcaa
namespace Go.AM.Ytpjenobkibfpcaa
open Go.AM Go.Proofs
theorem Sq.swap{L:Lft}{p q:Edit}(h:Sq L.swap q p):Sq L p q:=by
 intro t u v ht hu hv
 obtain ⟨h1,h2⟩:=h t v u ht hv hu
 refine ⟨h1,fun c=> ?_⟩
 obtain ⟨w1,w2,g1,g2,g3⟩:=h2 c
 exact ⟨w2,w1,g2,g1,Eq.symm g3⟩
theorem Z84{a b:Tree}:ZT a b=true↔a=b:=by unfold ZT;exact @decide_eq_true_iff _ (Classical.propDecidable _)
theorem Zay{α:Type}{at_:α->Int}{g:α->α->Bool}{p q:List α}:JE at_ g p q=false↔∀ a∈p,∀ b∈q,at_ a=at_ b->g a b=false:=by
 unfold JE
 rw [Xy]
 refine forall_congr' fun a=> forall_congr' fun ha=> ?_
 rw [XN,Xy]
 refine forall_congr' fun b=> forall_congr' fun hb=> ?_
 rw [XN,Bool.and_eq_false_iff,decide_eq_false_iff_not]
 constructor
 ·intro h e
  exact h.resolve_left fun n=> n e
 ·intro h
  by_cases e:at_ a=at_ b
  ·exact .inr (h e)
  ·exact .inl e
theorem Zjd {ws:List WEdit} {ks:List Kid} {tw a:List Int} {tk b:List Tree} (h1:wsD tw (ws.filter fun w=> !decide (w.mask=0)) tw=some a)
  (h2:Jj false tk (ks.filter fun k=> !decide (k.e.kind=0)) tk=some b):doE false (Z2I (.mk 2 Tree.nil Tree.nil ws ks 0 [])) (.mk 1 tw tk)=some (.mk 1 a b):=by
 unfold Z2I
 split
 ·rename_i h
  have h:(ws.filter fun w=> !decide (w.mask=0)).length+(ks.filter fun k=> !decide (k.e.kind=0)).length=0:=h
  rw [Q6 (show (ws.filter fun w=> !decide (w.mask=0)).length=0 by omega)] at h1
  rw [Q6 (show (ks.filter fun k=> !decide (k.e.kind=0)).length=0 by omega)] at h2
  rw [ZcR rfl]
  cases h1
  rw [Jj] at h2
  cases h2
  try rfl
 ·show doE false (.mk 2 Tree.nil Tree.nil (ws.filter fun w=> !decide (w.mask=0)) (ks.filter fun k=> !decide (k.e.kind=0)) 0 []) (.mk 1 tw tk)=_
  rw [Zy3,if_pos (show (Tree.mk 1 tw tk).kind=1 from rfl)]
  show (wsD tw _ tw).bind (fun x=> (Jj false tk _ tk).map _)=_
  rw [h1,Qm,h2]
  try rfl
theorem Zui{f:Edit->Edit->Lft}{p q:Edit}(wp:Wk p)(wq:Wk q)(p2:p.kind=2)(q2:q.kind=2)(hf:∀ a∈p.kids,∀ b∈q.kids,Sq (f a.e b.e) a.e b.e):Sq (Z3K f p q) p q:=by
 intro t u v ht hu hv
 have rp:=Zj wp.r
 have rq:=Zj wq.r
 rw [Zvo p2] at hu
 rw [Zvo q2] at hv
 split at hu
 ·rename_i t1
  rw [if_pos t1] at hv
  obtain ⟨uw,u1,hu⟩:=Qs.1 hu
  obtain ⟨uk,u2,rfl⟩:=Qq.1 hu
  obtain ⟨vw,v1,hv⟩:=Qs.1 hv
  obtain ⟨vk,v2,rfl⟩:=Qq.1 hv
  have iw:=(Zr5 ht.2).2.1
  have iu:=ZdX iw u1
  have iv:=ZdX iw v1
  have hk:=ht.kids.1
  rw [ZiU] at u1 v1
  rw [Zhe] at u2 v2
  have pw:=Z4D rp.words
  have qw:=Z4D rq.words
  have pk:=Z7i rp.kids
  have qk:=Z7i rq.kids
  obtain ⟨a1,_⟩:=Z18 (by decide) pw u1
  obtain ⟨b1,_⟩:=Z18 (by decide) qw v1
  obtain ⟨c1,_⟩:=Z18 (by decide) pk u2
  obtain ⟨d1,_⟩:=Z18 (by decide) qk v2
  have gp:=ZQ wp.g
  have gq:=ZQ wq.g
  have W:∀ a∈p.words,∀ b∈q.words,a.at_=b.at_->Yj a b=false:=by
   intro a ha b hb e
   obtain ⟨x,hx,_⟩:=a1 a ha
   obtain ⟨y,hy,_⟩:=b1 b hb
   unfold Z5S at hx hy
   rw [<-e] at hy
   exact (ZiW (gp.2.2.1 a ha) (gq.2.2.1 b hb) hx hy).1
  have K:∀ a∈p.kids,∀ b∈q.kids,a.at_=b.at_->(f a.e b.e).a=false:=by
   intro a ha b hb e
   obtain ⟨x,hx,_⟩:=c1 a ha
   obtain ⟨y,hy,_⟩:=d1 b hb
   unfold Z5S at hx hy
   rw [<-e] at hy
   exact (hf a ha b hb _ _ _ (ZfE hk _) hx hy).1
  refine ⟨?_,fun c=> ?_⟩
  ·show (JE WEdit.at_ Yj p.words q.words || JE KidOf.at_ (fun a b=> (f a.e b.e).a) p.kids q.kids)=false
   rw [Zay.2 W,Zay.2 K]
   try rfl
  ·have c:(JE WEdit.at_ (fun a b=> !Yj a b && JX a b) p.words q.words || JE KidOf.at_ (fun a b=> (f a.e b.e).c) p.kids q.kids)=false:=c
   rw [QB,Zay,Zay] at c
   obtain ⟨w1,w2,e1,e2,e3⟩:=Zbg (R:=Eq) (V:=isW) (cx:=Z0r) (cy:=Z0r) (g:=fun w:WEdit=> !decide (w.mask=0)) (fun _=> rfl) Z7f Z7f pw qw u1 v1
    (fun i=> ZiX iu i) (fun i=> ZiX iv i) (fun w y x h1 h2 h3=> ZpJ h1 h2 h3) (fun a ha b hb e x y hx hy=> by
     have cc:=c.1 a ha b hb e
     rw [W a ha b hb e] at cc
     exact (ZiW (gp.2.2.1 a ha) (gq.2.2.1 b hb) hx hy).2 cc)
   obtain ⟨k1,k2,f1,f2,f3⟩:=Zbg (R:=Eqv) (V:=fun _=> True) (F:=fun k:Kid=> doE false k.e) (cx:=fun a b:Kid=> ⟨a.at_,(f a.e b.e).x⟩) (cy:=fun b a:Kid=> ⟨b.at_,(f a.e b.e).y⟩) (g:=fun k:Kid=> !decide (k.e.kind=0)) (fun _=> rfl) (fun _ _=> rfl) (fun _ _=> rfl) pk qk u2 v2
    (fun _=> trivial) (fun _=> trivial) (fun w y x h1 _ h3=> by
     have h1:w.e.kind=0:=by simpa using h1
     have h3:doE false w.e y=some x:=h3
     rw [ZcR h1] at h3
     exact (Option.some.inj h3).symm) (fun a ha b hb e x y hx hy=> (hf a ha b hb _ x y (ZfE hk _) hx hy).2 (c.2 a ha b hb e))
   rw [<-ZiU] at e1 e2
   rw [<-Zhe] at f1 f2
   exact ⟨_,_,Zjd e1 f1,Zjd e2 f2,(Z6k rfl rfl).2 ⟨e3,f3⟩⟩
 ·cases hu
theorem Zva{f:Edit->Edit->Lft}{p q:Edit}(wp:Wk p)(wq:Wk q)(p3:p.kind=3)(q3:q.kind=3)(hl:p.list=q.list)(hf:∀ a∈p.ops,∀ b∈q.ops,a.kind=3->b.kind=3->Sq (f a.e b.e) a.e b.e):Sq (Z2v f p q) p q:=by
 intro t u v ht hu hv
 have rp:=Zj wp.r
 have rq:=Zj wq.r
 rw [Zvn p3] at hu
 rw [Zvn q3] at hv
 split at hu
 ·rename_i t1
  rw [if_pos (by rw [t1,hl])] at hv
  obtain ⟨ul,u1,rfl⟩:=Qq.1 hu
  obtain ⟨vl,v1,rfl⟩:=Qq.1 hv
  have op:=JU wp
  have oq:=JU wq
  rw [ZeZ fun o ho=> YO (op o ho).1] at u1
  rw [ZeZ fun o ho=> YO (oq o ho).1] at v1
  obtain ⟨S,L,H⟩:=Zvg (f:=f) _ p.ops q.ops [] [] t.kids ul vl (Qh _) (fun o ho=> ⟨(op o ho).1,fun k=> ⟨_,(Z0m (op o ho) k).1.2.2.2.r⟩⟩) (fun o ho=> ⟨(oq o ho).1,fun k=> ⟨_,(Z0m (oq o ho) k).1.2.2.2.r⟩⟩) hf ht.kids.1 u1 v1
  obtain ⟨b,ps,e1,e2⟩:=Zf1 L []
  have e:Z2v f p q=⟨Z0j p.list S.x,Z0j p.list S.y,S.c,S.a⟩:=by
   unfold Z2v
   rw [if_pos b,e1,QN,<-e2]
  rw [e]
  refine ⟨H.1,fun c=> ?_⟩
  obtain ⟨w1,w2,h1,h2,h3⟩:=H.2 c
  have hli:=rp.list p3
  refine ⟨_,.mk p.list [] w2,Zjl h1,?_,?_⟩
  ·rw [<-hl];exact Zjl h2
  ·exact (Zh9 (show (Tree.mk p.list [] w1).kind≠0 from fun e=> by have e:p.list=0:=e;omega) (fun e=> by have e:p.list=1:=e;omega)).2 ⟨rfl,rfl,h3⟩
 ·cases hu
theorem ZfH{p q:Edit}{d:Int}(rq:Z5 q d=true)(p1:p.kind=1):Sq (JW q p.old p.new) p q:=by
 intro t u v ht hu hv
 rw [Zvp p1] at hu
 split at hu
 ·rename_i h
  cases hu
  have h:Eqv p.old t:=Z84.1 h
  have R:=Z5l q d p.old t rq h
  rw [hv] at R
  cases e:doE false q p.old with
  | none=> rw [e] at R;exact R.elim
  | some w=>
   rw [e] at R
   have R:Eqv w v:=R
   have hd:=ZpL e
   refine ⟨?_,fun c=> ?_⟩
   ·show (!(doB q p.old).2)=false
    rw [hd];try rfl
   ·have c:((doB q p.old).2 && !ZT (Z2 (doB q p.old).1) (Z2 p.new))=false:=c
    rw [hd,QF,Xw,Z84,J4] at c
    exact ⟨p.new,v,ZcR rfl _,ZcR rfl _,c.symm.trans R⟩
 ·cases hu
theorem ZxO:∀ (n:Nat) (p q:Edit),Z8 p+Z8 q<=n->Wk p->Wk q->Sq (lbF n p q) p q:=by
 intro n
 induction n with
 | zero=> intro p q h;obtain ⟨k,o,nw,w,ks,l,os⟩:=p;simp only [Z8] at h;omega
 | succ n ih=>
  intro p q hn wp wq
  have rp:=Zj wp.r
  have rq:=Zj wq.r
  show Sq (Ye (lbF n) p q) p q
  by_cases p0:p.kind=0
  ·rw [lb0 (.inl p0)]
   intro t u v ht hu hv
   rw [ZcR p0] at hu
   cases hu
   exact ⟨rfl,fun _=> ⟨v,v,hv,ZcR p0 v,rfl⟩⟩
  by_cases q0:q.kind=0
  ·rw [lb0 (.inr q0)]
   intro t u v ht hu hv
   rw [ZcR q0] at hv
   cases hv
   exact ⟨rfl,fun _=> ⟨u,u,ZcR q0 u,hu,rfl⟩⟩
  by_cases p1:p.kind=1
  ·rw [lb1 p1 q0]
   exact ZfH wq.r p1
  by_cases q1:q.kind=1
  ·rw [Zsi p0 p1 q1]
   exact Sq.swap (ZfH wp.r q1)
  by_cases c2:p.kind≠q.kind\/p.list≠q.list
  ·intro t u v ht hu hv
   exfalso
   obtain ⟨x1,x2,x3,x4⟩:=Zar wp.r hu
   obtain ⟨y1,y2,y3,y4⟩:=Zar wq.r hv
   have hp:=rp.kind
   have hq:=rq.kind
   by_cases p2:p.kind=2
   ·have e1:=(x2 p2).2
    by_cases q2:q.kind=2
    ·have:=(rp.ops0 (by omega)).1
     have:=(rq.ops0 (by omega)).1
     omega
    ·have q3:q.kind=3:=by omega
     have:=(y3 q3).2
     have:=rq.list q3
     omega
   ·have p3:p.kind=3:=by omega
    have e1:=(x3 p3).2
    have:=rp.list p3
    by_cases q2:q.kind=2
    ·have:=(y2 q2).2
     omega
    ·have q3:q.kind=3:=by omega
     have:=(y3 q3).2
     omega
  have hk:q.kind=p.kind:=by omega
  have hli:p.list=q.list:=by omega
  by_cases p2:p.kind=2
  ·rw [lb2 p2 (by omega) hli]
   refine Zui wp wq p2 (by omega) fun a ha b hb=> ih _ _ ?_ ?_ ?_
   ·have:=Y5 ha
    have:=Y5 hb
    omega
   ·exact ⟨Y4 _ _ _ (by decide) (Zs rp.kids a ha).2,(Ys (ZQ wp.g).2.2.2.1 ha).2⟩
   ·exact ⟨Y4 _ _ _ (by decide) (Zs rq.kids b hb).2,(Ys (ZQ wq.g).2.2.2.1 hb).2⟩
  ·have hp:=rp.kind
   rw [lb3 hk.symm p0 p1 p2 hli]
   refine Zva wp wq (by omega) (by omega) hli fun a ha b hb ka kb=> ih _ _ ?_ ?_ ?_
   ·have:=YI ha
    have:=YI hb
    omega
   ·exact (Z0m (JU wp a ha) ka).1.2.2.2
   ·exact (Z0m (JU wq b hb) kb).1.2.2.2
theorem Zvf{p q:Edit}(wp:Wk p)(wq:Wk q):Sq (lbE p q) p q:=ZxO _ p q (Qh _) wp wq
theorem Zon{e:Edit}{d:Int}{u s w:Tree}(r:Z5 e d=true)(hu:RT_ u)(h:doE false e u=some w)(he:Eqv u s):∃ z,doE false (Zx e) s=some z/\Eqv z w:=by
 have h1:=ZbT e d u r hu
 rw [h] at h1
 have h2:=Z5l (Zx e) d u s (Jr e d r) he
 cases e1:doE false (Zx e) u with
 | none=> rw [e1] at h1;exact h1.elim
 | some x=>
  rw [e1] at h1 h2
  cases e2:doE false (Zx e) s with
  | none=> rw [e2] at h2;exact h2.elim
  | some z=>
   rw [e2] at h2
   have h1:Eqv x w:=h1
   have h2:Eqv x z:=h2
   exact ⟨z,rfl,h2.symm.trans h1⟩
theorem Zvd{p q:Edit}{t u v:Tree}(h:ZlO p q)(ht:RT_ t)(hu:doE false p t=some u)(hv:doE false q t=some v):
  (lbN p q).2.2=13\/((lbN p q).2.2=0/\∃ w1 w2,doE false (lbN p q).2.1 (Z2 u)=some w1/\doE false (lbN p q).1 (Z2 v)=some w2/\Eqv w1 w2):=by
 obtain ⟨⟨h1,h2⟩,h3,h4⟩:=Zex h
 obtain ⟨⟨_,gp,dp,rp⟩,⟨_,gq,dq,rq⟩,_⟩:=h
 have wp:Wk (Zx p):=Zag h1
 have wq:Wk (Zx q):=Zag h2
 have e1:=ZbT p dp t rp ht
 have e2:=ZbT q dq t rq ht
 rw [hu] at e1
 rw [hv] at e2
 cases hu':doE false (Zx p) t with
 | none=> rw [hu'] at e1;exact e1.elim
 | some u'=>
  cases hv':doE false (Zx q) t with
  | none=> rw [hv'] at e2;exact e2.elim
  | some v'=>
   rw [hu'] at e1
   rw [hv'] at e2
   have e1:Eqv u' u:=e1
   have e2:Eqv v' v:=e2
   obtain ⟨ha,hc⟩:=Zvf wp wq t u' v' ht hu' hv'
   unfold lbN
   rw [if_neg (by rw [ha];decide)]
   by_cases c:(lbE (Zx p) (Zx q)).c=true
   ·rw [if_pos c];exact .inl rfl
   ·rw [if_neg c]
    refine .inr ⟨rfl,?_⟩
    obtain ⟨w1,w2,g1,g2,g3⟩:=hc (by simpa using c)
    obtain ⟨_,_,dx,rx⟩:=h3
    obtain ⟨_,_,dy,ry⟩:=h4
    obtain ⟨z1,k1,k2⟩:=Zon ry (Zhc wp.r ht wp.g hu') g1 (show Eqv u' (Z2 u) from e1.trans (J4 u).symm)
    obtain ⟨z2,k3,k4⟩:=Zon rx (Zhc wq.r ht wq.g hv') g2 (show Eqv v' (Z2 v) from e2.trans (J4 v).symm)
    exact ⟨z1,z2,k1,k3,k2.trans (g3.trans k4.symm)⟩
noncomputable section
def Zl3:ArgL (WEdit × Int × Unit):=(.cons (aEl .wedit) (.cons (JR .u8) .nil))
def ZbE(a:WEdit × Int × Unit):Prop:=wOk a.1/\0<=a.2.1/\a.2.1 < 256
def ZhQ(a:WEdit × Int × Unit):V U:= .tup [(true,(enc .wedit ((ZdC a.1 a.2.1).1))),(false,[.bool ((ZdC a.1 a.2.1).2)])]
def Z9Y:Fs U:=fs Zl3 (fun a=> [ZbE a]) ZhQ
def Zfu:ArgM ((Bool × Bool × Unit) × WEdit × WEdit × Unit):=(.obj 0 (.cons Z1f (.cons Z1f .nil)) (.cons (aEl .wedit) (.cons (aEl .wedit) .nil)))
def ZeM(a:(Bool × Bool × Unit) × WEdit × WEdit × Unit):Prop:=wOk a.2.1/\wOk a.2.2.1
def ZnN(a:(Bool × Bool × Unit) × WEdit × WEdit × Unit):V U:= .tup []
def Z6P(a:(Bool × Bool × Unit) × WEdit × WEdit × Unit):List (List (C U)):=[[.bool (a.1.1 || (!(Yj a.2.1 a.2.2.1) && JX a.2.1 a.2.2.1)),.bool (a.1.2.1 || Yj a.2.1 a.2.2.1)]]
def Z9Z:Fs U:=fsX Zfu (fun a=> [ZeM a]) ZnN Z6P
def ZeE(a:List Tree × Unit):Prop:=True
def Zen(a:List Tree × Unit):V U:= .c (sU .op (Z2Z a.1) (.own (.r 0 0)))
def Z6x:Fs U:=fs Zl6 (fun a=> [ZeE a]) Zen
def ZeD(a:Edit × Unit):Prop:=True
def Zem(a:Edit × Unit):V U:= .agg (enc .op (Z3H a.1))
def Z9R:Fs U:=fs Zld (fun a=> [ZeD a]) Zem
def Zla:ArgL Unit:= .nil
def Z8g(a:Unit):Prop:=True
def ZhS(a:Unit):V U:= .tup [(true,(enc .edit Edit.nil)),(true,(enc .edit Edit.nil))]
def Za1:Fs U:=fs Zla (fun a=> [Z8g a]) ZhS
def Zfr:ArgM ((Unit × List Op × List Op × List Tree × List Tree × Unit) × Edit × Tree × (Bool × Bool × Unit) × Unit):=(.obj 0 (.cons (cXp 1) (.cons (Z39 .op 0 1) (.cons (Z39 .op 0 2) (.cons (Z39 .tree 0 3) (.cons (Z39 .tree 0 4) .nil))))) (.cons (aEl .edit) (.cons (aEl .tree) (.hid (.cons Z1f (.cons Z1f .nil)) .nil))))
def ZbA(a:(Unit × List Op × List Op × List Tree × List Tree × Unit) × Edit × Tree × (Bool × Bool × Unit) × Unit):Prop:=(Z8 a.2.1<=20000000000/\Yl a.2.1/\∃ d,Z5 a.2.1 d=true)/\Zi a.2.2.1+ctE a.2.1<=200000000000/\rng a.2.2.1
def ZnK(a:(Unit × List Op × List Op × List Tree × List Tree × Unit) × Edit × Tree × (Bool × Bool × Unit) × Unit):V U:= .tup []
def Za4(a:(Unit × List Op × List Op × List Tree × List Tree × Unit) × Edit × Tree × (Bool × Bool × Unit) × Unit):List (List (C U)):=[[.xp 1,sU .op a.1.2.1 (.own (.x 0 1)),sU .op a.1.2.2.1 (.own (.x 0 2)),sU .tree a.1.2.2.2.1 (.own (.x 0 3)),sU .tree a.1.2.2.2.2.1 (.own (.x 0 4))],[.bool true,.bool (a.2.2.2.1.2.1 || !(doE false a.2.1 a.2.2.1).isSome)]]
def Z9S:Fs U:=fsX Zfr (fun a=> [ZbA a]) ZnK Za4
def Zkt:List (FuncId × Fs U):=[(66,Z6F)]
def ZoW:Zf U:=lvl [([1,2,4],[2,4]),([1,2,4],[2,4]),([4,5],[4])]
abbrev Zzi(p:List Nat):=AW (Z6 Zkt) Try.f155 ZoW p
theorem Zxe(w:WEdit)(m:Int)(Q:QT)(h:let z0:=IntKind.wrap .u8 (BitVec.ofInt (IntKind.bits .u8) m &&& BitVec.ofInt (IntKind.bits .u8) w.mask).toNat;((ZeN (0,w.old,z0,()))/\(ZeN (0,w.new,z0,()))/\(Q .ret (L2 [pL 4,(5,.c (.bool ((z0:Int) !=0)))] [(.loc 4,[ci w.at_,.int .u8 z0,.int .u64 (mix 0 w.old z0),.int .u64 (mix 0 w.new z0)])])))):
  Zzi [] (L2 [(0,.agg (enc .wedit w)),(1,.c (.int .u8 m))] []) Q:=
 Eq.mpr (by kernel_rfl) h
def Zt1(w:WEdit)(m:Int):Prop:=AW (Z6 Zkt) Try.f155 ZoW [] (Zm (Zl3.can (w,m,())) []) (EQ Try.f155 (ZhQ (w,m,())) [])
theorem ZrL(c66:CT 66 Z6F)(hb:∀ (w:WEdit) (m:Int) (_:Unit),ZbE (w,m,())->Zt1 w m):CT 155 Z9Y:=
 Z4 (l:=[(66,Z6F)]) Zn rfl (⟨c66,trivial⟩) ZoW Try.func155 rfl rfl 2 (fun _=> rfl) (by decide) (fun ⟨w,m,_⟩=> hb w m ())
def ZoX:Zf U:=fun i=> match i with
 | 0=> ([(0,[]),(4,[]),(5,[])],[(.loc 4,[]),(.loc 5,[]),(.x 0,[])])
 | 1=> ([(0,[]),(4,[]),(5,[]),(6,[])],[(.loc 4,[]),(.loc 5,[]),(.x 0,[])])
 | 2=> ([(0,[]),(4,[]),(5,[]),(6,[]),(12,[])],[(.loc 4,[]),(.loc 5,[]),(.x 0,[])])
 | 3=> ([],[(.x 0,[])])
 | 4=> ([(0,[]),(25,[])],[(.x 0,[])])
 | 5=> ([],[(.x 0,[])])
 | _=> ([],[])
abbrev Zzj(p:List Nat):=AW (Z6 Zkt) Try.f154 ZoX p
theorem Zxf(mc ma:Bool)(p q:WEdit)(Q:QT)(h:∀ y_1,y_1=(BitVec.ofInt (IntKind.bits .u8) p.mask &&& BitVec.ofInt (IntKind.bits .u8) q.mask)->let z0:=IntKind.wrap .u8 y_1.toNat;let z2:=((mix 0 p.old z0):Int) !=(mix 0 q.old z0);let z1:=((mix 0 p.new z0):Int) !=(mix 0 q.new z0);((ZeN (0,p.old,z0,()))/\(ZeN (0,q.old,z0,()))/\((z2=true->(Q .normal (L2 [] [(.x 0,[.bool mc,.bool true])])))/\(z2=false->(ZeN (0,p.new,z0,()))/\(ZeN (0,q.new,z0,()))/\((z1=true->(Q .normal (L2 [] [(.x 0,[.bool true,.bool ma])])))/\(z1=false->Q .normal (L2 [(0,.ptr (.x 0) 0),(25,.c (.bool z1))] [(.x 0,[.bool mc,.bool ma])]))))))):
  Zzj [] (L2 [(0,.ptr (.x 0) 0),(1,.agg (enc .wedit p)),(2,.agg (enc .wedit q))] [(.x 0,[.bool mc,.bool ma])]) Q:=
 Eq.mpr (by kernel_rfl) (h _ rfl)
def Zt2(mc ma:Bool)(p q:WEdit):Prop:=AW (Z6 Zkt) Try.f154 ZoX [] (Zm (Zfu.can ((mc,ma,()),p,q,())) (Zfu.canX ((mc,ma,()),p,q,()))) (EQ Try.f154 (ZnN ((mc,ma,()),p,q,())) (Z6P ((mc,ma,()),p,q,())))
theorem ZrM(c66:CT 66 Z6F)(hb:∀ (mc:Bool) (ma:Bool) (p:WEdit) (q:WEdit) (_:Unit),ZeM ((mc,ma,()),p,q,())->Zt2 mc ma p q):CT 154 Z9Z:=
 Yf (l:=[(66,Z6F)]) Zn rfl (⟨c66,trivial⟩) ZoX Try.func154 rfl rfl 3 (fun _=> rfl) (by decide) (fun ⟨⟨mc,ma,_⟩,p,q,_⟩=> hb mc ma p q ())
def ZoL:Zf U:=lvl [([0],[]),([0,5],[]),([2],[]),([2],[])]
abbrev Zz8(p:List Nat):=AW (Z6 Ziq) Try.f178 ZoL p
theorem Zx1(l:List Tree)(Q:QT)(h:let z0:=((l.length:Int):Int)==0;((z0=true->(Q .ret (L2 [(2,.c (.nils))] [])))/\(z0=false->(Q .ret (L2 [(2,.c (sU .op ([(OpOf.mk 2 0 l (Edit.mk 0 (Tree.mk 0 [] []) (Tree.mk 0 [] []) [] [] 0 []))]) .full))] []))))):
  Zz8 [] (L2 [(0,.c (sU .tree l .unk))] []) Q:=
 Eq.mpr (by kernel_rfl) h
def ZsO(l:List Tree):Prop:=AW (Z6 Ziq) Try.f178 ZoL [] (Zm (Zl6.can (l,())) []) (EQ Try.f178 (Zen (l,())) [])
theorem Zrz(hb:∀ (l:List Tree) (_:Unit),ZeE (l,())->ZsO l):CT 178 Z6x:=
 Z4 (l:=[]) Zn rfl trivial ZoL Try.func178 rfl rfl 1 (fun _=> rfl) (by decide) (fun ⟨l,_⟩=> hb l ())
def ZoJ:Zf U:=lvl [([1,2],[1,2]),([1,2,5],[1,2]),([2],[2]),([2],[2])]
abbrev Zz6(p:List Nat):=AW (Z6 Ziq) Try.f180 ZoJ p
theorem ZwZ(e:Edit)(Q:QT)(h:(((e.kind==0)=true->(Q .ret (L2 [pL 2] [(.loc 2,[ci 0,ci 1,.nils,ci 0,ci 0,.nils,.nils,ci 0,.nils,.nils,.nils,.nils,ci 0,.nils])])))/\((e.kind==0)=false->(Q .ret (L2 [pL 2] [(.loc 2,([ci 3,ci 0,.nils]++enc .edit e))]))))):
  Zz6 [] (L2 [(0,.agg (enc .edit e))] []) Q:=
 Eq.mpr (by kernel_rfl) h
def ZsM(e:Edit):Prop:=AW (Z6 Ziq) Try.f180 ZoJ [] (Zm (Zld.can (e,())) []) (EQ Try.f180 (Zem (e,())) [])
theorem Zrx(hb:∀ (e:Edit) (_:Unit),ZeD (e,())->ZsM e):CT 180 Z9R:=
 Z4 (l:=[]) Zn rfl trivial ZoJ Try.func180 rfl rfl 1 (fun _=> rfl) (by decide) (fun ⟨e,_⟩=> hb e ())
def Zp4:Zf U:=lvl [([0,1],[0,1]),([0,1],[0,1])]
abbrev Zzo(p:List Nat):=AW (Z6 Ziq) Try.f113 Zp4 p
theorem Zxr(Q:QT)(h:(Q .ret (L2 [pL 0,pL 1] [(.loc 0,zc1),(.loc 1,zc1)]))):
  Zzo [] (L2 [] []) Q:=
 Eq.mpr (by kernel_rfl) h
def Zte:Prop:=AW (Z6 Ziq) Try.f113 Zp4 [] (Zm (Zla.can ()) []) (EQ Try.f113 (ZhS ()) [])
theorem ZrW(hb:∀ (_:Unit),Z8g ()->Zte):CT 113 Za1:=
 Z4 (l:=[]) Zn rfl trivial Zp4 Try.func113 rfl rfl 0 (fun _=> rfl) (by decide) (fun _=> hb ())
def Zkh:List (FuncId × Fs U):=[(26,Z1L)]
def ZoK:Zf U:=fun i=> match i with
 | 0=> ([(0,[]),(4,[]),(5,[])],[(.loc 4,[]),(.loc 5,[]),(.x 0,[]),(.x 1,[])])
 | 1=> ([(0,[]),(7,[])],[(.x 0,[]),(.x 1,[])])
 | 2=> ([(0,[]),(15,[])],[(.x 0,[]),(.x 1,[])])
 | 3=> ([(0,[])],[(.x 0,[]),(.x 1,[])])
 | 4=> ([],[(.x 0,[]),(.x 1,[])])
 | _=> ([],[])
abbrev Zz7(p:List Nat):=AW (Z6 Zkh) Try.f179 ZoK p
theorem Zx0(sm_:Unit)(sx sy:List Op)(si sh:List Tree)(e:Edit)(t:Tree)(mc ma:Bool)(Q:QT)(h:let z1:=Tree.mk t.kind t.words t.kids;let z0:=Edit.mk e.kind (Tree.mk e.old.kind e.old.words e.old.kids) (Tree.mk e.new.kind e.new.words e.new.kids) e.words e.kids e.list e.ops;((Z2N (z0,z1,()))/\(((!((doE false z0 z1).isSome))=true->(Q .normal (L2 [] [(.x 0,[.xp 1,sU .op sx (.own (.x 0 1)),sU .op sy (.own (.x 0 2)),sU .tree si (.own (.x 0 3)),sU .tree sh (.own (.x 0 4))]),(.x 1,[.bool true,.bool true])])))/\((!((doE false z0 z1).isSome))=false->(Q .normal (L2 [] [(.x 0,[.xp 1,sU .op sx (.own (.x 0 1)),sU .op sy (.own (.x 0 2)),sU .tree si (.own (.x 0 3)),sU .tree sh (.own (.x 0 4))]),(.x 1,[.bool true,.bool ma])])))))):
  Zz7 [] (L2 [(0,.ptr (.x 0) 0),(1,.agg (enc .edit e)),(2,.agg (enc .tree t))] [(.x 0,[.xp 1,sU .op sx (.own (.x 0 1)),sU .op sy (.own (.x 0 2)),sU .tree si (.own (.x 0 3)),sU .tree sh (.own (.x 0 4))]),(.x 1,[.bool mc,.bool ma])]) Q:=
 Eq.mpr (by kernel_rfl) h
def ZsN(sm_:Unit)(sx sy:List Op)(si sh:List Tree)(e:Edit)(t:Tree)(mc ma:Bool):Prop:=AW (Z6 Zkh) Try.f179 ZoK [] (Zm (Zfr.can ((sm_,sx,sy,si,sh,()),e,t,(mc,ma,()),())) (Zfr.canX ((sm_,sx,sy,si,sh,()),e,t,(mc,ma,()),()))) (EQ Try.f179 (ZnK ((sm_,sx,sy,si,sh,()),e,t,(mc,ma,()),())) (Za4 ((sm_,sx,sy,si,sh,()),e,t,(mc,ma,()),())))
theorem Zry(c26:CT 26 Z1L)(hb:∀ (sm_:Unit) (sx:List Op) (sy:List Op) (si:List Tree) (sh:List Tree) (e:Edit) (t:Tree) (mc:Bool) (ma:Bool) (_:Unit),ZbA ((sm_,sx,sy,si,sh,()),e,t,(mc,ma,()),())->ZsN sm_ sx sy si sh e t mc ma):CT 179 Z9S:=
 Yf (l:=[(26,Z1L)]) Zn rfl (⟨c26,trivial⟩) ZoK Try.func179 rfl rfl 3 (fun _=> rfl) (by decide) (fun ⟨⟨sm_,sx,sy,si,sh,_⟩,e,t,⟨mc,ma,_⟩,_⟩=> hb sm_ sx sy si sh e t mc ma ())
end
theorem ZvJ:Contract Try.prog cfg 155 Z9Y:=by
 refine ZrL c66 ?_
 intro w m _ hp
 simp only [ZbE] at hp
 obtain ⟨hw,hm0,hm1⟩:=hp
 refine Zxe _ _ _ ?_
 intros;(simp only [vcT,vcS])
 have rm:=(Z5s ⟨hm0,hm1⟩ hw.1.2.1).1
 refine ⟨⟨⟨by omega,by omega⟩,hw.1.2.2.1,rm⟩,⟨⟨by omega,by omega⟩,hw.1.2.2.2,rm⟩,?_⟩
 have e:(IntKind.u8.wrap (BitVec.ofInt (IntKind.bits .u8) m &&& BitVec.ofInt (IntKind.bits .u8) w.mask).toNat !=0)=decide (Z0y m w.mask≠0):=by
  show (Z0y m w.mask !=0)=_
  by_cases h:Z0y m w.mask=0 <;> simp [h]
 rw [e]
 simp only [ZhQ,ZdC]
 (repeat' (first | exact trivial | exact rfl | apply And.intro))
theorem ZvK:Contract Try.prog cfg 154 Z9Z:=by
 refine ZrM c66 ?_
 intro mc ma p q _ hp
 simp only [ZeM] at hp
 obtain ⟨hp,hq⟩:=hp
 refine Zxf _ _ _ _ _ ?_
 intro y1 hy1
 have e:IntKind.wrap .u8 y1.toNat=Z0y p.mask q.mask:=by rw [hy1];try rfl
 (simp only [vcT,vcS])
 rw [e]
 have rm:=(Z5s hp.1.2.1 hq.1.2.1).1
 have r0:(0:Int)<=0/\(0:Int) < 18446744073709551616:=⟨by omega,by omega⟩
 refine ⟨⟨r0,hp.1.2.2.1,rm⟩,⟨r0,hq.1.2.2.1,rm⟩,fun h=> ?_,fun h=> ⟨⟨r0,hp.1.2.2.2,rm⟩,⟨r0,hq.1.2.2.2,rm⟩,fun h2=> ?_,fun h2=> ?_⟩⟩
 ·have a1:Yj p q=true:=by simp [Yj,h]
  simp only [Z6P,a1,Xq,XZ,Qx,Xo]
  (repeat' (first | exact trivial | exact rfl | apply And.intro))
 ·have a1:Yj p q=false:=by simp [Yj,h]
  have a2:JX p q=true:=by simp [JX,h2]
  simp only [Z6P,a1,a2,XB,QF,Qx,Xo]
  (repeat' (first | exact trivial | exact rfl | apply And.intro))
 ·have a1:Yj p q=false:=by simp [Yj,h]
  have a2:JX p q=false:=by simp [JX,h2]
  simp only [Z6P,a1,a2,XB,QF,Qx]
  (repeat' (first | exact trivial | exact rfl | apply And.intro))
theorem ZvA:Contract Try.prog cfg 178 Z6x:=by
 refine Zrz ?_
 intro l _ hp
 refine Zx1 _ _ ?_
 (simp only [vcT,vcS])
 refine ⟨fun h=> ?_,fun h=> ?_⟩
 ·have:l=[]:=Xg.1 (by omega)
  simp only [Zen,Z2Z,if_pos this]
  (repeat' (first | exact trivial | exact rfl | apply And.intro))
 ·have:l≠[]:=fun e=> h (by rw [e];rfl)
  simp only [Zen,Z2Z,if_neg this]
  (repeat' (first | exact trivial | exact rfl | apply And.intro))
theorem Zvy:Contract Try.prog cfg 180 Z9R:=by
 refine Zrx ?_
 intro e _ hp
 refine ZwZ _ _ ?_
 (simp only [vcT,vcS])
 refine ⟨fun h=> ?_,fun h=> ?_⟩
 ·simp only [Zem,Z3H,if_pos h]
  (repeat' (first | exact trivial | exact rfl | apply And.intro))
 ·simp only [Zem,Z3H,if_neg h]
  (repeat' (first | exact trivial | exact rfl | apply And.intro))
theorem ZvQ:Contract Try.prog cfg 113 Za1:=by
 refine ZrW ?_
 intro _ hp
 refine Zxr _ ?_
 simp only [ZhS]
 (repeat' (first | exact trivial | exact rfl | apply And.intro))
theorem Zvz:Contract Try.prog cfg 179 Z9S:=by
 refine Zry c26 ?_
 intro sm_ sx sy si sh e t mc ma _ hp
 simp only [ZbA] at hp
 refine Zx0 sm_ _ _ _ _ _ _ _ _ _ ?_
 (simp only [vcT,vcS])
 simp only [Tree.eta,Edit.eta]
 refine ⟨hp,fun h=> ?_,fun h=> ?_⟩
 ·simp only [Za4,h,XB,Xo]
  (repeat' (first | exact trivial | exact rfl | apply And.intro))
 ·simp only [Za4,h,Xq,Qx]
  (repeat' (first | exact trivial | exact rfl | apply And.intro))
end Go.AM.Ytpjenobkibfpcaa
