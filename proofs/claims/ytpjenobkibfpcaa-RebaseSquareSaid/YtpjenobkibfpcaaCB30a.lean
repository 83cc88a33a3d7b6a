import Derived.Test.YtpjenobkibfpcaaCL30d
import Derived.Test.YtpjenobkibfpcaaCD25s
import Derived.Test.YtpjenobkibfpcaaKD24
import Derived.Test.YtpjenobkibfpcaaKB22c
import Derived.Test.YtpjenobkibfpcaaKL23r
set_option linter.unusedSimpArgs false
set_option linter.unusedVariables false
namespace Go.AM.Ytpjenobkibfpcaa
open Go.AM Go.Proofs
variable {K:Nat}
structure LbX (K:Nat) (T:Int) (X p:Edit):Prop where
 wk:Wk X
 th:Yo T X
 ow:owE K X<=owE K p
 kx:X.kind=0\/X=p\/(X.kind=p.kind/\(p.kind=2\/p.kind=3))
theorem ZhI:Wk Edit.nil:=by
 obtain ⟨_,h1,d,h2⟩:=Z47
 exact .of h2 h1
theorem LbX.nil{T:Int}(hT:0<=T)(p:Edit):LbX K T Edit.nil p:=⟨ZhI,Z2D hT,by rw [Zrs];exact Zrr p,.inl rfl⟩
theorem LbX.self{T:Int}{p:Edit}(h:Wk p)(ht:Yo T p):LbX K T p p:=⟨h,ht,Qh _,.inr (.inl rfl)⟩
theorem Z2R(n:Int):Z1 ⟨0,n,[],Edit.nil⟩=n:=by rw [Yd];simp
theorem Zm4(l:List Tree):Z1 ⟨2,0,l,Edit.nil⟩=l.length:=by rw [Yd];simp
theorem φB_nn{o:Op}(h:ZM o):0<=φB o:=by unfold φB;have:=Zu h;split <;> omega
theorem Zeb:∀ {l:List Op},(∀ o∈l,ZM o)->0<=ZY l
 | [],_=> X2 _
 | o ::r,h=> by
  have h1:=φB_nn (h o Q7)
  have h2:=Zeb (l:=r) fun x hx=> h x (Q5 _ hx)
  rw [<-Z15] at h2 ⊢
  simp only [YE];omega
def Zqt(list:Int)(l:List Tree):Prop:=∀ t∈l,Zh (.mk list [] [t]) (-1)=true/\rng t
theorem ZbZ{list n:Int}(h1:1<=n)(h2:n<=1048576):OkO list ⟨0,n,[],Edit.nil⟩:=by
 refine ⟨.inl ⟨rfl,rfl,⟨h1,h2⟩,rfl⟩,ZjV h1 h2 _,YK (by decide) (by decide),by unfold InR;omega,trivial,?_⟩
 exact ZhI.g
theorem Zru{list:Int}{l:List Tree}(h:Zqt list l)(hl:l≠[]):OkO list ⟨2,0,l,Edit.nil⟩:=by
 refine ⟨.inr (.inl ⟨.inr rfl,rfl,hl,rfl⟩),ZbX (.inr rfl) ?_ hl,YK (by decide) (by decide),YK (by decide) (by decide),Z4U fun t ht=> (h t ht).2,ZhI.g⟩
 rw [ZcD (by decide)]
 exact Z4J fun t ht=> (h t ht).1
theorem Zm7{list:Int}{o:Op}(h:OkO list o)(k:o.kind=1\/o.kind=2):Zqt list o.l:=by
 have R:=ZN h.2.1
 have G:=(Z1n h.2.2).2.2.1
 intro t ht
 refine ⟨?_,YY G ht⟩
 cases R with
 | keep=> exact absurd k (by simp)
 | into=> exact absurd k (by simp)
 | gone l a1=> rw [ZcD (by decide)] at a1;exact Z08 a1 t ht
 | come l a1=> rw [ZcD (by decide)] at a1;exact Z08 a1 t ht
theorem Z0m{list:Int}{o:Op}(h:OkO list o)(k:o.kind=3):(7 < list/\o.e.kind≠0/\Wl list o.e/\Wk o.e)/\o.l=[]:=by
 have R:=ZN h.2.1
 cases R with
 | keep | gone | come=> exact absurd k (by simp)
 | into e a1 a2 a3 a4=> exact ⟨⟨a3,a2,a4,⟨Y4 _ _ _ (by decide) a1,(Z1n h.2.2).2.2.2⟩⟩,rfl⟩
structure OpsX (K:Nat) (list T:Int) (l:List Op) (A B:Int) (W:Nat):Prop where
 ok:∀ o∈l,OkO list o/\Yo T o.e
 la:Yk l<=A
 lb:ZY l<=B
 ow:Z2Q K l<=W
theorem OpsX.app{list T:Int}{l l':List Op}{A B A' B':Int}{W W':Nat}(h:OpsX K list T l A B W)(h':OpsX K list T l' A' B' W'):OpsX K list T (l++l') (A+A') (B+B') (W+W'):=by
 refine ⟨fun o ho=> (Qi.1 ho).elim (h.ok o) (h'.ok o),?_,?_,?_⟩
 ·rw [<-ZaZ,ZaY,ZaZ,ZaZ];have:=h.la;have:=h'.la;omega
 ·rw [<-Z15,ZaY,Z15,Z15];have:=h.lb;have:=h'.lb;omega
 ·rw [ZgB];have:=h.ow;have:=h'.ow;omega
theorem OpsX.none{list T A B:Int}{W:Nat}(ha:0<=A)(hb:0<=B):OpsX K list T [] A B W:=⟨fun o ho=> (by cases ho),ha,hb,X9 _⟩
theorem OpsX.mono{list T:Int}{l:List Op}{A B A' B':Int}{W W':Nat}(h:OpsX K list T l A B W)(ha:A<=A')(hb:B<=B')(hw:W<=W'):OpsX K list T l A' B' W':=
 ⟨h.ok,Int.le_trans h.la ha,Int.le_trans h.lb hb,X4 h.ow hw⟩
theorem OpsX.one{list T:Int}{o:Op}(h:OkO list o)(ht:Yo T o.e):OpsX K list T [o] (φA o) (φB o) (Zid K o):=by
 refine ⟨fun x hx=> by rw [Qj.1 hx];exact ⟨h,ht⟩,?_,?_,?_⟩
 ·rw [<-ZaZ];simp [YE]
 ·rw [<-Z15];simp [YE]
 ·simp [Z2Q]
theorem ZpJ{list T:Int}(hT:0<=T){n:Nat}(hn:n<=1048576):OpsX K list T (JB n) n n 0:=by
 unfold JB
 split
 ·exact .none (by omega) (by omega)
 ·refine (OpsX.one (ZbZ (by omega) (by omega)) (Z2D hT)).mono ?_ ?_ ?_
  ·unfold φA;rw [if_neg (by simp),Z2R];omega
  ·unfold φB;rw [if_neg (by simp),Z2R];omega
  ·simp [Z1p,owL,Z7]
theorem Zya{list T:Int}(hT:0<=T){l:List Tree}(h:Zqt list l):OpsX K list T (Z30 l) 0 l.length (owL l):=by
 unfold Z30
 split
 ·exact .none (by omega) (by omega)
 ·rename_i hl
  refine (OpsX.one (Zru h hl) (Z2D hT)).mono ?_ ?_ ?_
  ·unfold φA;rw [if_pos rfl];omega
  ·unfold φB;rw [if_neg (by simp),Zm4];omega
  ·simp [Z1p]
theorem ZtX{list T:Int}(hT:0<=T){m h:List Tree}(hm:Zqt list m)(hh:h.length<=1048576):OpsX K list T (Jc m h).x h.length (m.length+h.length) (owL m):=by
 unfold Jc
 split
 ·exact (ZpJ hT hh).mono (by omega) (by omega) (X9 _)
 ·exact ((Zya hT hm).app (ZpJ hT hh)).mono (by omega) (by omega) (by omega)
theorem Zrk {f:Edit->Edit->Lft} {list a b:Int} (hli:2<=list/\list<=9) (ha:0<=a) (hb:0<=b) {p q:Op} (op:OkO list p) (oq:OkO list q) (tp:Yo a p.e) (hl:Z1 p=Z1 q) (p2:p.kind≠2) (q2:q.kind≠2)
  (hf:p.kind=3->q.kind=3->LbX K (a+b) (f p.e q.e).x p.e):OpsX K list (a+b) (ZA f p q).x (φB q) (φB p) (Zid K p):=by
 have kp:=YQ op.1
 have kq:=YQ oq.1
 unfold kOk at kp kq
 have np:=φB_nn op.1
 have nq:=φB_nn oq.1
 have lp:=Zu op.1
 have tp':=Z3h _ p.e (Qh _) (show a<=a+b by omega) tp
 by_cases a0:p.kind=0
 ·by_cases b1:q.kind=1
  ·rw [Zrq a0 b1];exact .none nq np
  ·rw [pL0 a0 b1]
   have e:(if q.n < 1 then 1 else q.n)=Z1 q:=by
    by_cases b0:q.kind=0
    ·obtain ⟨_,h1,h2⟩:=Z1C oq.1 b0
     rw [if_neg (by omega),h2]
    ·rw [Zat oq.1 b0,if_pos (by decide),Z0k (by omega)]
   have h1:=Z1C op.1 a0
   rw [e,<-hl]
   refine (OpsX.one (ZbZ lp ?_) (Z2D (by omega))).mono ?_ ?_ (by simp [Z1p,owL,Z7])
   ·rw [h1.2.2]
    rcases op.1 with h | h | h
    ·exact h.2.2.1.2
    ·omega
    ·omega
   ·unfold φA φB;rw [if_neg (by simp),if_neg b1,Z2R];omega
   ·unfold φB;rw [if_neg (by simp),if_neg (by omega),Z2R];omega
 ·by_cases b0:q.kind=0
  ·by_cases a1:p.kind=1
   ·rw [Zrp a1 b0]
    refine (OpsX.one op tp').mono ?_ (X2 _) (Qh _)
    unfold φA φB;rw [if_neg p2,if_neg (by omega)];omega
   ·rw [Zrm a0 a1 b0]
    refine (OpsX.one op tp').mono ?_ (X2 _) (Qh _)
    unfold φA φB;rw [if_neg p2,if_neg (by omega)];omega
  ·by_cases a1:p.kind=1
   ·by_cases b1:q.kind=1
    ·rw [Zro a1 b1];exact .none nq np
    ·rw [pL1 a1 b0 b1];exact .none nq np
   ·by_cases b1:q.kind=1
    ·rw [Zrl a0 a1 b1];exact .none nq np
    ·rw [Zrn a0 a1 b0 b1]
     have p3:p.kind=3:=by omega
     obtain ⟨hw,ht,how,hk⟩:=hf p3 (by omega)
     obtain ⟨⟨e1,e2,e3,e4⟩,e5⟩:=Z0m op p3
     have l1:=Z0k p3
     have hB:φB q=1:=by unfold φB;rw [if_neg b1];omega
     have hB':φB p=1:=by unfold φB;rw [if_neg a1];omega
     rw [hB,hB']
     dsimp only
     unfold Z3K
     split
     ·refine (OpsX.one (ZbZ (by decide) (by decide)) (Z2D (by omega))).mono ?_ ?_ (by simp [Z1p,owL,Z7])
      ·unfold φA;rw [if_neg (by simp),Z2R];omega
      ·unfold φB;rw [if_neg (by simp),Z2R];omega
     ·rename_i hx0
      have hwl:Wl list (f p.e q.e).x:=by
       rcases hk with h | h | ⟨h,h'⟩
       ·exact absurd h hx0
       ·rw [h];exact e3
       ·rcases h' with h' | h'
        ·exact .inr (.inl (by omega))
        ·rcases e3 with g | g | g
         ·exact .inl g
         ·omega
         ·omega
      refine (OpsX.one ⟨.inr (.inr ⟨rfl,rfl,rfl⟩),ZjW (Y4 _ _ _ (by decide) hw.r) hx0 e1 hwl,YK (by decide) (by decide),YK (by decide) (by decide),trivial,hw.g⟩ ht).mono ?_ ?_ ?_
      ·unfold φA;rw [if_neg (show ¬(3:Int)=2 by decide),Z0k rfl];omega
      ·unfold φB;rw [if_neg (show ¬(3:Int)=1 by decide),Z0k rfl];omega
      ·simp only [Z1p,if_true];rw [if_pos p3,e5];simp only [owL,Z7,Qg];omega
theorem Zy6{f:Edit->Edit->Lft}{list a b:Int}(hli:2<=list/\list<=9)(ha:0<=a)(hb:0<=b){p q:List Op}{m h:List Tree}{S:PL}(H:Lay f p q m h S):
  (∀ o∈p,OkO list o/\Yo a o.e)->(∀ o∈q,OkO list o)->(∀ x∈p,∀ y∈q,x.kind=3->y.kind=3->LbX K (a+b) (f x.e y.e).x x.e)->Zqt list m->(h.length:Int)+ZY q<=1048576->
  OpsX K list (a+b) S.x (h.length+ZY q) (m.length+h.length+ZY p+ZY q) (owL m+Z2Q K p):=by
 induction H with
 | nil m h=>
  intro _ _ _ hm hh
  simp only [ZY] at hh
  exact (ZtX (by omega) hm (by omega)).mono (by simp only [ZY];omega) (by simp only [ZY];omega) (by omega)
 | left k2 _ ih=>
  rename_i x p q m h S _
  intro op oq hf hm hh
  have o1:=op _ Q7
  have e:=ih (fun o ho=> op o (Q5 _ ho)) oq (fun x hx=> hf x (Q5 _ hx)) (fun t ht=> (Qi.1 ht).elim (hm t) (Zm7 o1.1 (.inr k2) t)) hh
  have l2:=Z20 o1.1.1 (.inr k2)
  refine e.mono (X2 _) ?_ ?_
  ·rw [<-Z15 (_ ::_)]
   simp only [YE,Z15,φB]
   rw [if_neg (by omega),l2,Q9];omega
  ·rw [ZjT]
   simp only [Z2Q,Z1p]
   omega
 | right np k2 _ ih=>
  intro op oq hf hm hh
  have o1:=oq _ Q7
  have l2:=Z20 o1.1 (.inr k2)
  have e1:∀ (b:Op) (q:List Op),b.kind=2->ZY (b ::q)=Z1 b+ZY q:=by
   intro b q hb
   rw [<-Z15 (_ ::_)]
   simp only [YE,Z15,φB]
   rw [if_neg (by omega)]
  rw [e1 _ _ k2] at hh
  have e:=ih op (fun o ho=> oq o (Q5 _ ho)) (fun x hx y hy=> hf x hx y (Q5 _ hy)) hm (by rw [Q9];omega)
  rw [Q9] at e
  refine e.mono ?_ ?_ (Qh _)
  ·rw [e1 _ _ k2];omega
  ·rw [e1 _ _ k2];omega
 | both ka kb hn _ ih=>
  rename_i x p y q m h S n _
  intro op oq hf hm hh
  have op1:∀ o∈x ::p,OkO list o:=fun o ho=> (op o ho).1
  have lx:=Zu (op1 x Q7).1
  have ly:=Zu (oq y Q7).1
  have h1:1<=n:=by omega
  obtain ⟨t1,t2,t3,t4⟩:=ZfV op1 h1 (by omega)
  obtain ⟨u1,u2,u3,u4⟩:=ZfV oq h1 (by omega)
  obtain ⟨s1,_⟩:=Z3T Zuc (p:=x ::p) (fun o ho=> (op1 o ho).1) (by simp) h1
  obtain ⟨s2,_⟩:=Z3T Zuc (p:=y ::q) (fun o ho=> (oq o ho).1) (by simp) h1
  obtain ⟨s3,_⟩:=Z3T Zyn (p:=x ::p) (fun o ho=> (op1 o ho).1) (by simp) h1
  have so:∀ l:List Op,YE (fun o=> ((Zid K o:Nat):Int)) l=Z2Q K l:=by
   intro l
   induction l with
   | nil=> rfl
   | cons o r ih=> simp only [YE,Z2Q,ih];omega
  rw [so,so,Qk] at s3
  rw [Z15,Z15,Qk] at s1 s2
  have nq:=Zeb (l:=Zw (y ::q) n) fun o ho=> (u4 o ho).1
  have np:=Zeb (l:=Zw (x ::p) n) fun o ho=> (t4 o ho).1
  have fq:=φB_nn u1.1
  have ee:∀ o∈Zw (x ::p) n,o.e=x.e/\o.kind=x.kind\/o∈p:=fun o ho=> (Jd ho).symm.imp (fun h=> by rw [h];exact ⟨Z0V _ _,Yy _ _⟩) id
  have ee':∀ o∈Zw (y ::q) n,o.e=y.e/\o.kind=y.kind\/o∈q:=fun o ho=> (Jd ho).symm.imp (fun h=> by rw [h];exact ⟨Z0V _ _,Yy _ _⟩) id
  have hf':∀ o∈x ::p,∀ o'∈y ::q,∀ r r':Op,r.e=o.e->r'.e=o'.e->r.kind=o.kind->r'.kind=o'.kind->r.kind=3->r'.kind=3->LbX K (a+b) (f r.e r'.e).x r.e:=by
   intro o ho o' ho' r r' e1 e2 k1 k2 k3 k4
   rw [e1,e2]
   exact hf o ho o' ho' (by omega) (by omega)
  have e:=ih (fun o ho=> ⟨t4 o ho,by rcases ee o ho with ⟨h,_⟩ | h;rw [h];exact (op x Q7).2;exact (op o (Q5 _ h)).2⟩) u4
   (fun r hr r' hr' k3 k4=> by
    rcases ee r hr with ⟨e1,k1⟩ | e1
    ·rcases ee' r' hr' with ⟨e2,k2⟩ | e2
     ·exact hf' x Q7 y Q7 r r' e1 e2 k1 k2 k3 k4
     ·exact hf' x Q7 r' (Q5 _ e2) r r' e1 rfl k1 rfl k3 k4
    ·rcases ee' r' hr' with ⟨e2,k2⟩ | e2
     ·exact hf' r (Q5 _ e1) y Q7 r r' rfl e2 rfl k2 k3 k4
     ·exact hf r (Q5 _ e1) r' (Q5 _ e2) k3 k4)
   (fun t ht=> by cases ht) (by simp only [Qg];omega)
  have g:=ZtX (K:=K) (T:=a+b) (by omega) hm (h:=h) (by omega)
  have pc:=Zrk (f:=f) hli ha hb t1 u1 (by rw [Z1j];exact (op x Q7).2) (by omega) (by omega) (by omega) (hf' x Q7 y Q7 _ _ (Z1j _ _) (Z1j _ _) (Jo _ _) (Jo _ _))
  refine ((g.app pc).app e).mono ?_ ?_ ?_
  ·simp only [Qg];omega
  ·simp only [Qg];omega
  ·simp only [owL,Z7,Qg] at s3 ⊢;omega
end Go.AM.Ytpjenobkibfpcaa
namespace Go.AM.Ytpjenobkibfpcaa
open Go.AM Go.Proofs
variable {K:Nat}
theorem Z6P:rng Tree.nil:=by simp [Tree.nil,rng,ZU,InR]
theorem Z0Q{α:Type}{at_:α->Int}{f:α->α}(hf:∀ a,at_ (f a)=at_ a):∀ {l:List α} {last:Int},asc at_ last l->asc at_ last (l.map f)
 | [],_,_=> trivial
 | a ::r,last,h=> by
  refine ⟨by rw [hf];exact h.1,?_⟩
  rw [hf]
  exact Z0Q hf h.2
theorem Z05{α:Type}{at_:α->Int}{g:α->Bool}:∀ {l:List α} {last:Int},asc at_ last l->asc at_ last (l.filter g)
 | [],_,_=> trivial
 | a ::r,last,h=> by
  rw [XN]
  split
  ·exact ⟨h.1,Z05 h.2⟩
  ·exact ZmS (XY h.1) (Z05 h.2)
theorem Z7m(a b:WEdit):(Z0r a b).at_=a.at_:=rfl
theorem Zps{a b:WEdit}(ra:ZcS a):ZcS (Z0r a b)/\Yz (Z0r a b).old (Z0r a b).mask=true/\Yz (Z0r a b).new (Z0r a b).mask=true:=by
 obtain ⟨m1,_⟩:=Z5y (a:=Z3O b.mask) (b:=a.mask) (by
  have h:=(BitVec.ofInt (IntKind.bits .u8) 255 ^^^ BitVec.ofInt (IntKind.bits .u8) b.mask).isLt
  have e:(2:Nat) ^ IntKind.bits .u8=256:=rfl
  unfold Z3O
  rw [Z4H (by omega) (by omega)]
  omega) ra.2.1
 have w:∀ x m:Int,Yz (mix 0 x m) m=true:=fun x m=> Zlz fun i hi hn=> by rw [Z0L hi,if_neg (by rw [hn];decide)];exact Zu8 i
 exact ⟨⟨ra.1,m1,Z0K _ _ _,Z0K _ _ _⟩,w _ _,w _ _⟩
theorem Zuy {T:Int} {W:List WEdit} {Ks:List Kid} {p:Edit} (hT:0<=T) (p2:p.kind=2) (aw:asc WEdit.at_ (-1) W) (ak:asc KidOf.at_ (-1) Ks)
  (hw:∀ w∈W,ZcS w/\w.at_<=65534/\Yz w.old w.mask=true/\Yz w.new w.mask=true) (hk:∀ k∈Ks,k.at_<=65534/\InR k.at_/\Wk k.e/\Yo T k.e)
  (ow:65600*W.length+Z3u K Ks<=65600*p.words.length+Z3u K p.kids):LbX K T (Z2J (.mk 2 Tree.nil Tree.nil W Ks 0 [])) p:=by
 unfold Z2J
 split
 ·exact .nil hT p
 ·show LbX K T (.mk 2 Tree.nil Tree.nil (W.filter fun w=> !decide (w.mask=0)) (Ks.filter fun k:Kid=> !decide (k.e.kind=0)) 0 []) p
  refine ⟨⟨ZlT (ZaJ (Z05 aw) fun w h=> ?_) (Zbs (Z05 ak) fun k h=> ?_),?_⟩,?_,?_,.inr (.inr ⟨by rw [p2];rfl,.inl p2⟩)⟩
  ·obtain ⟨h1,h2⟩:=Xe.1 h
   obtain ⟨_,g2,g3,g4⟩:=hw w h1
   exact ⟨g2,by simpa using h2,g3,g4⟩
  ·obtain ⟨h1,h2⟩:=Xe.1 h
   obtain ⟨g1,_,g3,_⟩:=hk k h1
   exact ⟨g1,by simpa using h2,Y4 _ _ _ (by decide) g3.r⟩
  ·refine ⟨YK (by decide) (by decide),Z6P,Z6P,fun w h=> (hw w (Xe.1 h).1).1,YK (by decide) (by decide),Zgb fun k h=> ?_,trivial⟩
   obtain ⟨_,g2,g3,_⟩:=hk k (Xe.1 h).1
   exact ⟨g2,g3.g⟩
  ·rw [JT]
   refine ⟨⟨hT,hT⟩,fun k h=> (hk k (Xe.1 h).1).2.2.2,fun o h=> (by cases h)⟩
  ·have l1:=K8 (fun w:WEdit=> !decide (w.mask=0)) W
   have l2:∀ l:List Kid,Z3u K (l.filter fun k=> !decide (k.e.kind=0))<=Z3u K l:=by
    intro l
    induction l with
    | nil=> exact Qh _
    | cons k r ih=>
     rw [XN]
     split
     ·simp only [Z3u];omega
     ·simp only [Z3u];omega
   have l2:=l2 Ks
   have e:=ZeY (K:=K) p
   have m1:=ZdH p.old;have m2:=ZdH p.new
   have key:∀ w k:Nat,w<=W.length->k<=Z3u K Ks->K+1+1+65600*w+k+0<=owE K p:=by intro w k h1 h2;omega
   exact key _ _ l1 l2
theorem ZdR{α:Type}{at_:α->Int}{f:α->α->α}{q:List α}{a:α}:Yg at_ f q a=a\/∃ b∈q,at_ b=at_ a/\Yg at_ f q a=f a b:=by
 unfold Yg
 cases h:Z13 at_ q (at_ a) with
 | none=> exact .inl rfl
 | some b=> obtain ⟨h1,h2⟩:=Z2X at_ _ q b h;exact .inr ⟨b,h1,h2,rfl⟩
theorem ZxR {f:Edit->Edit->Lft} {a b:Int} (ha:0<=a) (hb:0<=b) {p q:Edit} (wp:Wk p) (wq:Wk q) (tp:Yo a p) (p2:p.kind=2)
  (hf:∀ x∈p.kids,∀ y∈q.kids,LbX K (a+b) (f x.e y.e).x x.e):LbX K (a+b) (Z3N f p q).x p:=by
 have rp:=Zk wp.r
 have gp:=ZR wp.g
 rw [JT] at tp
 have hcut:∀ k∈p.kids,LbX K (a+b) (Yg KidOf.at_ (fun a b:Kid=> ⟨a.at_,(f a.e b.e).x⟩) q.kids k).e k.e:=by
  intro k hk
  rcases ZdR (at_:=KidOf.at_) (f:=fun a b:Kid=> ⟨a.at_,(f a.e b.e).x⟩) (q:=q.kids) (a:=k) with e | ⟨y,hy,_,e⟩
  ·rw [e]
   exact .self ⟨Y4 _ _ _ (by decide) (Zs rp.kids k hk).2,(Ys gp.2.2.2.1 hk).2⟩ (Z3h _ _ (Qh _) (by omega) (tp.2.1 k hk))
  ·rw [e];exact hf k hk y hy
 have hat:∀ k:Kid,(Yg KidOf.at_ (fun a b:Kid=> ⟨a.at_,(f a.e b.e).x⟩) q.kids k).at_=k.at_:=fun k=> JK (at_:=KidOf.at_) (f:=fun a b:Kid=> ⟨a.at_,(f a.e b.e).x⟩) (fun _ _=> rfl) q.kids k
 refine Zuy (by omega) p2 (Z0Q (JK Z7m _) (Z4I rp.words)) (Z0Q hat (Z7p rp.kids)) (fun w hw=> ?_) (fun k hk=> ?_) ?_
 ·obtain ⟨v,hv,rfl⟩:=Xj.1 hw
  have A:=Z07 rp.words v hv
  have R:=gp.2.2.1 v hv
  rcases ZdR (at_:=WEdit.at_) (f:=Z0r) (q:=q.words) (a:=v) with e | ⟨y,hy,_,e⟩
  ·rw [e];exact ⟨R,A.2.1,A.2.2.2.1,A.2.2.2.2⟩
  ·rw [e]
   obtain ⟨r1,r2,r3⟩:=Zps (b:=y) R
   exact ⟨r1,by rw [Z7m];exact A.2.1,r2,r3⟩
 ·obtain ⟨v,hv,rfl⟩:=Xj.1 hk
  have A:=(Zs rp.kids v hv).1
  have H:=hcut v hv
  rw [hat]
  exact ⟨A.2.1,(Ys gp.2.2.2.1 hv).1,H.wk,H.th⟩
 ·rw [Xl]
  have key:∀ l:List Kid,(∀ k∈l,k∈p.kids)->Z3u K (l.map (Yg KidOf.at_ (fun a b:Kid=> ⟨a.at_,(f a.e b.e).x⟩) q.kids))<=Z3u K l:=by
   intro l
   induction l with
   | nil=> intro _;exact Qh _
   | cons k r ih=>
    intro hl
    have:=(hcut k (hl k Q7)).ow
    have:=ih fun x hx=> hl x (Q5 _ hx)
    simp only [Xb,Z3u,ZgC]
    omega
  exact Nat.add_le_add_left (key p.kids fun _ h=> h) _
theorem Zis{l:List Op}(h:∀ o∈l,ZM o)(hs:Yk l < 1048576/\ZY l < 1048576):Z1s l 0 < 1048576/\Z1r l 0 < 1048576:=by
 have nn:∀ o∈l,0<=Z1 o:=fun o ho=> by have:=Zu (h o ho);omega
 have a:=(Z0p l 0 nn (by decide) (by decide)).1
 have b:=(Z0o l 0 nn (by decide) (by decide)).1
 omega
theorem JV{e:Edit}(w:Wk e):∀ o∈e.ops,OkO e.list o:=by
 intro o ho
 have r:=rightOs_mem (Zk w.r).ops ho
 exact ⟨Js w.r o ho,r,Z1y (ZR w.g).2.2.2.2 ho⟩
theorem Zuz{list T:Int}{l:List Op}{A B:Int}{W:Nat}{p:Edit}(hT:0<=T)(hli:2<=list/\list<=9)(h:OpsX K list T l A B W)(hA:A<=T)(hB:B<=T)(h1:T < 1048576)(p3:p.kind=3)(hp:p.list=list)(hW:W<=Z2Q K p.ops):LbX K T (Z0j list l) p:=by
 unfold Z0j
 split
 ·have la:=h.la;have lb:=h.lb
  obtain ⟨k1,k2⟩:=Zis (fun o ho=> (h.ok o ho).1.1) (l:=l) ⟨by omega,by omega⟩
  refine ⟨⟨ZlS hli (Zbp fun o ho=> (h.ok o ho).1.2.1) k1 k2,?_⟩,?_,?_,.inr (.inr ⟨by rw [p3];rfl,.inr p3⟩)⟩
  ·exact ⟨YK (by decide) (by decide),Z6P,Z6P,fun w hw=> (by cases hw),YK (by omega) (by omega),trivial,Zga fun o ho=> (h.ok o ho).1.2.2⟩
  ·rw [JT]
   exact ⟨⟨by show Yk l<=T;omega,by show ZY l<=T;omega⟩,fun k hk=> (by cases hk),fun o ho=> (h.ok o ho).2⟩
  ·have e:=ZeY (K:=K) p
   have m1:=ZdH p.old;have m2:=ZdH p.new
   have:=h.ow
   simp only [owE,Z3u,Tree.nil,Zi,Z7,Qg]
   omega
 ·exact .nil hT p
theorem Zy0 {f:Edit->Edit->Lft} {a b:Int} (ha:0<=a) (hb:0<=b) (hab:a+b < 1048576) {p q:Edit} (wp:Wk p) (wq:Wk q) (tp:Yo a p) (tq:Yo b q) (p3:p.kind=3) (hl:p.list=q.list)
  (hf:∀ x∈p.ops,∀ y∈q.ops,x.kind=3->y.kind=3->LbX K (a+b) (f x.e y.e).x x.e):LbX K (a+b) (Z2w f p q).x p:=by
 have rp:=Zk wp.r
 have hli:=rp.list p3
 rw [JT] at tp tq
 unfold Z2w
 by_cases hc:(ZJ 2 2 p.ops q.ops []).2.1=true
 ·rw [if_pos hc]
  obtain ⟨ps,e,hL⟩:=Zcl (f:=f) _ p.ops q.ops [] (Qh _) hc
  rw [e,QO]
  have S:=Zy6 (K:=K) hli ha hb (hL [] []) (fun o ho=> ⟨JV wp o ho,tp.2.2 o ho⟩) (fun o ho=> by rw [hl];exact JV wq o ho) hf (fun t ht=> by cases ht) (by simp only [Qg];omega)
  simp only [Qg,owL,Z7] at S
  exact Zuz (by omega) hli S (by omega) (by omega) hab p3 rfl (by omega)
 ·rw [if_neg hc]
  exact .nil (by omega) p
theorem Zux {f:Edit->Edit->Lft} {a b:Int} (ha:0<=a) (hb:0<=b) (hab:a+b < 1048576) {p q:Edit} (wp:Wk p) (wq:Wk q) (tp:Yo a p) (tq:Yo b q)
  (hf:∀ x y,Z8 x+Z8 y < Z8 p+Z8 q->Wk x->Wk y->Yo a x->Yo b y->LbX K (a+b) (f x y).x x):LbX K (a+b) (Ye f p q).x p:=by
 by_cases p0:p.kind=0
 ·rw [lb0 (.inl p0)];exact .self wp (Z3h _ _ (Qh _) (by omega) tp)
 by_cases q0:q.kind=0
 ·rw [lb0 (.inr q0)];exact .self wp (Z3h _ _ (Qh _) (by omega) tp)
 by_cases p1:p.kind=1
 ·rw [lb1 p1 q0];exact .nil (by omega) p
 by_cases q1:q.kind=1
 ·rw [Zst p0 p1 q1];exact .nil (by omega) p
 by_cases hd:p.kind≠q.kind\/p.list≠q.list
 ·rw [lbd p0 p1 q0 q1 hd];exact .nil (by omega) p
 have hk:p.kind=q.kind:=by omega
 have hl:p.list=q.list:=by omega
 have rp:=Zk wp.r
 have rq:=Zk wq.r
 have tp':=JT.1 tp
 have tq':=JT.1 tq
 by_cases p2:p.kind=2
 ·rw [lb2 p2 (by omega) hl]
  refine ZxR ha hb wp wq tp p2 fun x hx y hy=> ?_
  have:=Y5 hx;have:=Y5 hy
  exact hf _ _ (by omega) ⟨Y4 _ _ _ (by decide) (Zs rp.kids x hx).2,(Ys (ZR wp.g).2.2.2.1 hx).2⟩ ⟨Y4 _ _ _ (by decide) (Zs rq.kids y hy).2,(Ys (ZR wq.g).2.2.2.1 hy).2⟩ (tp'.2.1 x hx) (tq'.2.1 y hy)
 ·have kp:=rp.kind
  rw [lb3 hk p0 p1 p2 hl]
  refine Zy0 ha hb hab wp wq tp tq (by omega) hl fun x hx y hy kx ky=> ?_
  have:=YI hx;have:=YI hy
  exact hf _ _ (by omega) ((Z0m (JV wp x hx) kx).1.2.2.2) ((Z0m (JV wq y hy) ky).1.2.2.2) (tp'.2.2 x hx) (tq'.2.2 y hy)
theorem Zy3{a b:Int}(ha:0<=a)(hb:0<=b)(hab:a+b < 1048576):∀ (n:Nat) (p q:Edit),Z8 p+Z8 q<=n->Wk p->Wk q->Yo a p->Yo b q->LbX K (a+b) (lbF n p q).x p:=by
 intro n
 induction n with
 | zero=> intro p q h;obtain ⟨k,o,nw,w,ks,l,os⟩:=p;simp only [Z8] at h;omega
 | succ n ih=>
  intro p q hn wp wq tp tq
  exact Zux ha hb hab wp wq tp tq fun x y hxy wx wy tx ty=> ih x y (by omega) wx wy tx ty
theorem Zy5{a b:Int}(ha:0<=a)(hb:0<=b)(hab:a+b < 1048576){p q:Edit}(wp:Wk p)(wq:Wk q)(tp:Yo a p)(tq:Yo b q):LbX K (a+b) (lbE p q).x p/\LbX K (a+b) (lbE p q).y q:=by
 refine ⟨Zy3 ha hb hab _ p q (Qh _) wp wq tp tq,?_⟩
 have h:=Zy3 (K:=K) hb ha (by omega) _ q p (Qh _) wq wp tq tp
 rw [show lbF (Z8 q+Z8 p) q p=lbE q p from rfl,Zpv wp.r wq.r] at h
 rw [Int.add_comm]
 exact h
theorem ZpX{T:Int}(hT:0<=T)(hK:16+68*T.toNat<=K):∀ (n:Nat) (e:Edit),Z8 e<=n->Wk e->Yo T e->ctE e<=owE K e:=by
 intro n
 induction n with
 | zero=> intro e h;obtain ⟨k,o,nw,w,ks,l,os⟩:=e;simp only [Z8] at h;omega
 | succ n ih=>
  intro e hn we te
  have re:=Zk we.r
  have te':=JT.1 te
  have hc:=Z4E e
  have ho:=ZeY (K:=K) e
  have kids:∀ l:List Kid,(∀ k∈l,k∈e.kids)->Z2C l<=Z3u K l:=by
   intro l
   induction l with
   | nil=> intro _;exact Qh _
   | cons k r ihl=>
    intro hl
    have hk:=hl k Q7
    have:=Y5 hk
    have h1:=ih k.e (by omega) ⟨Y4 _ _ _ (by decide) (Zs re.kids k hk).2,(Ys (ZR we.g).2.2.2.1 hk).2⟩ (te'.2.1 k hk)
    have h2:=ihl fun x hx=> hl x (Q5 _ hx)
    simp only [Z2C,Z3u,ZgC,Zhu]
    omega
  have lens:∀ l:List Op,(∀ o∈l,o∈e.ops)->(l.length:Int)<=Yk l+ZY l/\J3 l<=Z2Q K l+34*l.length:=by
   intro l
   induction l with
   | nil=> intro _;simp [J3,Yk,ZY]
   | cons o r ihl=>
    intro hl
    obtain ⟨h1,h2⟩:=ihl fun x hx=> hl x (Q5 _ hx)
    have hm:=hl o Q7
    have hO:=JV we o hm
    have h4:=Zu hO.1
    simp only [J3,Z2Q,Yk,ZY,Qb]
    refine ⟨?_,?_⟩
    ·by_cases k1:o.kind=1
     ·rw [if_neg (show ¬o.kind=2 by omega),if_pos k1];omega
     ·rw [if_neg k1];split <;> omega
    ·have e1:=Z2q o
     have e2:=Z1p (K:=K) o
     by_cases k3:o.kind=3
     ·have:=YI hm
      obtain ⟨⟨_,_,_,w⟩,hl⟩:=Z0m hO k3
      have h1:=ih o.e (by omega) w (te'.2.2 o hm)
      rw [if_pos k3] at e2
      have:Z7 o.l=0:=by rw [hl];try rfl
      omega
     ·have he:ctE o.e=18:=by
       rcases hO.1 with h | h | h
       ·rw [h.2.2.2];try rfl
       ·rw [h.2.2.2];try rfl
       ·omega
      rw [if_neg k3] at e2
      unfold owL at e2
      omega
  obtain ⟨l1,l2⟩:=lens e.ops fun _ h=> h
  have l3:=kids e.kids fun _ h=> h
  have t1:=te'.1
  have l4:e.ops.length<=2*T.toNat:=by omega
  omega
mutual
theorem Z74(K:Nat):∀ e:Edit,owE K e+65700<=(131402+K)*Z8 e
 | .mk k o n w ks l os=> by
  have h1:=Zoq K ks
  have h2:=Zop K os
  have w1:Zi o<=(131402+K)*Zi o:=Nat.le_mul_of_pos_left _ (by omega)
  have w2:Zi n<=(131402+K)*Zi n:=Nat.le_mul_of_pos_left _ (by omega)
  have w3:65600*w.length<=(131402+K)*w.length:=Qf _ (by omega)
  simp only [owE,Z8,Nat.mul_add]
  omega
theorem Zoq(K:Nat):∀ ks:List (KidOf Edit),Z3u K ks<=(131402+K)*ZQ ks
 | []=> X9 _
 | ⟨a,e⟩ ::r=> by
  have h1:=Z74 K e
  have h2:=Zoq K r
  simp only [Z3u,Zor,ZQ,JI,Nat.mul_add]
  omega
theorem Zop(K:Nat):∀ os:List (OpOf Edit),Z2Q K os<=(131402+K)*Zg os
 | []=> X9 _
 | ⟨k,n,l,e⟩ ::r=> by
  have h1:=Z74 K e
  have h2:=Zop K r
  have h3:=Zv l
  have w1:101*Z7 l<=(131402+K)*Z7 l:=Qf _ (by omega)
  simp only [Z2Q,Zid,owL,Zg,Zt,Nat.mul_add]
  split <;> omega
end
end Go.AM.Ytpjenobkibfpcaa
namespace Go.AM.Ytpjenobkibfpcaa
open Go.AM Go.Proofs
theorem Z59(n:Int):(JB n).length<=1:=by unfold JB;split <;> simp
theorem Z4r:∀ {ks:List Kid},J9 ks=true->∀ k∈ks,Y6 k.e=true
 | [],_,k,hk=> by cases hk
 | a ::r,h,k,hk=> by
  rw [J9,Q0] at h
  rcases Qd.1 hk with rfl | hk
  ·obtain ⟨_,e⟩:=k;exact h.1
  ·exact Z4r h.2 k hk
theorem Z4q:∀ {os:List Op},ZK os=true->∀ o∈os,Y6 o.e=true
 | [],_,k,hk=> by cases hk
 | a ::r,h,k,hk=> by
  rw [ZK,Q0] at h
  rcases Qd.1 hk with rfl | hk
  ·obtain ⟨_,_,_,e⟩:=k;exact h.1
  ·exact Z4q h.2 k hk
theorem Z3y:∀ (n:Nat) (e:Edit) (d:Int),Z8 e<=n->Z5 e d=true->Y6 e=true->Y6 (Zx e)=true
 | 0,e,d,hn,_,_=> by
  have:3<=Z8 e:=Z9t e
  omega
 | n+1,e,d,hn,hr,hl=> by
  have ra:=Zk hr
  have hops:=Z0Z.1 ra.ops
  rw [Z58] at hl
  simp only [Q0,decide_eq_true_eq] at hl
  have hz:∀ (k:Int) (o m:Tree) (w:List WEdit) (l:Int),Y6 (.mk k o m w [] l [])=true:=by
   intro k o m w l
   rw [Y6]
   simp [Z1s,Z1r,J9,ZK]
  rw [Z3v]
  split
  ·exact hz _ _ _ _ _
  ·split
   ·rw [Y6]
    simp only [Z1s,Z1r,ZK,Xc,Q0,decide_eq_true_eq]
    refine ⟨by simp,?_⟩
    have:∀ ks:List Kid,(∀ k∈ks,k∈e.kids)->J9 (Jb ks)=true:=by
     intro ks
     induction ks with
     | nil=> intro _;rfl
     | cons k r ih=>
      intro h
      rw [Jb,J9,ih fun x hx=> h x (Q5 _ hx),Xc]
      have hk:=h k Q7
      have hm:=Y5 hk
      obtain ⟨a,x⟩:=k
      exact Z3y n x (d - 1) (by have hm:Z8 x < Z8 e:=hm;omega) (Zs ra.kids _ hk).2 (Z4r hl.1.2 _ hk)
    exact this e.kids fun _ h=> h
   ·split
    ·rename_i k3
     have hsA:=Z0p e.ops 0 (fun x hx=> Z1o (Z8k (hops x hx))) (by omega) (by omega)
     have hsB:=Z0o e.ops 0 (fun x hx=> Z1o (Z8k (hops x hx))) (by omega) (by omega)
     have hlen:=ra.len
     have hsn:=Ze9 e.list e.ops (d - 1) ⟨[],[],[]⟩ ra.ops
     have hfl:=Z4L (ZO e.list e.ops ⟨[],[],[]⟩)
     have hrn:=Jt e d hr
     rw [Z3v,if_neg (by omega),if_neg (by omega),if_pos k3] at hrn
     have rn:=Zk hrn
     have nops:=Z0Z.1 rn.ops
     simp only [Edit.ops_mk,Edit.list_mk] at nops
     have nsA:=Z0p (Z0 (ZO e.list e.ops ⟨[],[],[]⟩)).out 0 (fun x hx=> Z1o (Z8k (nops x hx))) (by omega) (by omega)
     have nsB:=Z0o (Z0 (ZO e.list e.ops ⟨[],[],[]⟩)).out 0 (fun x hx=> Z1o (Z8k (nops x hx))) (by omega) (by omega)
     have hs0:sA ⟨[],[],[]⟩=0/\sB ⟨[],[],[]⟩=0:=⟨rfl,rfl⟩
     rw [Y6]
     simp only [J9,Xc,Q0,decide_eq_true_eq]
     refine ⟨by omega,?_⟩
     have hw:∀ (os:List Op),(∀ o∈os,o∈e.ops)->∀ w:Wst,ZK w.out=true->ZK (ZO e.list os w).out=true:=by
      intro os
      induction os with
      | nil=> intro _ w hw;exact hw
      | cons o r ih=>
       intro h w hw
       rw [ZO]
       refine ih (fun x hx=> h x (Q5 _ hx)) _ ?_
       have hm:=h o Q7
       rw [Z10]
       split
       ·exact light_keep _ _ hw
       ·split
        ·exact hw
        ·split
         ·exact hw
         ·split
          ·rename_i k3'
           split
           ·exact light_keep _ _ hw
           ·dsimp only
            rw [light_app,light_flush _ hw,QF,ZK,ZK,Xc]
            have:=YI hm
            exact Z3y n o.e (d - 1) (by omega) (YP (hops o hm) k3') (Z4q hl.2 _ hm)
          ·exact hw
     exact light_flush _ (hw e.ops (fun _ h=> h) _ rfl)
    ·exact hz _ _ _ _ _
where
 light_app:∀ (a b:List Op),ZK (a++b)=(ZK a && ZK b)
  | [],b=> rfl
  | o ::r,b=> by rw [QA,ZK,ZK,light_app r b,Bool.and_assoc]
 light_nil:Y6 Edit.nil=true:=by decide
 light_flush (w:Wst) (h:ZK w.out=true):ZK (Z0 w).out=true:=by
  unfold Z0 JD
  dsimp only
  rw [light_app,light_app,h,QF]
  split <;> split <;> simp [ZK,Z7k,light_nil]
 light_keep (w:Wst) (n:Int) (h:ZK w.out=true):ZK (ZH w n).out=true:=by
  unfold ZH
  dsimp only
  have h:=light_flush w h
  rcases YJ (Z0 w).out n with e | ⟨a,o,e1,e2,e3⟩
  ·rw [e,light_app,h];simp [ZK,Z7k,light_nil]
  ·rw [e3,light_app]
   rw [e1,light_app,Q0] at h
   rw [h.1]
   obtain ⟨_,_,_,x⟩:=o
   simpa [ZK,Z7k] using h.2
instance decStep:DecidableEq PStep:=fun a b=> decidable_of_iff (a.kind=b.kind/\a.at_=b.at_) (by cases a;cases b;simp)
def ZlX(p q:Edit):Prop:=Z0e p/\Z0e q/\∃ a b:Int,(0<=a/\0<=b/\a+b < 1048576)/\(Yo a (Zx p)/\Yo b (Zx q))/\owE (16+68*(a+b).toNat) (Zx p)<=9000000000/\owE (16+68*(a+b).toNat) (Zx q)<=9000000000
theorem Z70{e:Edit}(h:Z0e e):Z0e (Zx e):=by
 obtain ⟨c,g,d,r⟩:=h
 exact ⟨X4 (ZiO e) c,Z2N e d r g,d,Jt e d r⟩
theorem ZeF{p q:Edit}(h:ZlX p q):(Z0e (Zx p)/\Z0e (Zx q))/\Z0e (lbE (Zx p) (Zx q)).x/\Z0e (lbE (Zx p) (Zx q)).y:=by
 obtain ⟨hp,hq,a,b,⟨ha,hb,hab⟩,⟨tp,tq⟩,wp,wq⟩:=h
 have hp':=Z70 hp
 have hq':=Z70 hq
 obtain ⟨X,Y⟩:=Zy5 (K:=16+68*(a+b).toNat) ha hb hab (Zao hp') (Zao hq') tp tq
 have c1:=ZpX (K:=16+68*(a+b).toNat) (show 0<=a+b by omega) (Qh _) _ _ (Qh _) X.wk X.th
 have c2:=ZpX (K:=16+68*(a+b).toNat) (show 0<=a+b by omega) (Qh _) _ _ (Qh _) Y.wk Y.th
 have o1:=X.ow
 have o2:=Y.ow
 exact ⟨⟨hp',hq'⟩,⟨by omega,X.wk.g,-1,X.wk.r⟩,⟨by omega,Y.wk.g,-1,Y.wk.r⟩⟩
theorem ZaR:∀ (n:Nat) (e:Edit),Z8 e<=n->Wk e->Y6 e=true->Yo 2000 e:=by
 intro n
 induction n with
 | zero=> intro e h;obtain ⟨k,o,nw,w,ks,l,os⟩:=e;simp only [Z8] at h;omega
 | succ n ih=>
  intro e hn we h
  have re:=Zk we.r
  rw [Z58,Q0,Q0,decide_eq_true_eq] at h
  obtain ⟨⟨⟨h1,h2⟩,h3⟩,h4⟩:=h
  have nn:∀ o∈e.ops,0<=Z1 o:=fun o ho=> by have:=Zu (JV we o ho).1;omega
  have a:=(Z0p e.ops 0 nn (by decide) (by decide)).1
  have b:=(Z0o e.ops 0 nn (by decide) (by decide)).1
  rw [JT]
  refine ⟨⟨by omega,by omega⟩,fun k hk=> ?_,fun o ho=> ?_⟩
  ·have:=Y5 hk
   exact ih k.e (by omega) ⟨Y4 _ _ _ (by decide) (Zs re.kids k hk).2,(Ys (ZR we.g).2.2.2.1 hk).2⟩ (Z4r h3 k hk)
  ·have:=YI ho
   by_cases k3:o.kind=3
   ·exact ih o.e (by omega) (Z0m (JV we o ho) k3).1.2.2.2 (Z4q h4 o ho)
   ·have:o.e=Edit.nil:=by
     rcases (JV we o ho).1 with h | h | h
     ·exact h.2.2.2
     ·exact h.2.2.2
     ·omega
    rw [this];exact Z2D (by decide)
theorem ZjK{p q:Edit}{d d':Int}(rp:Z5 p d=true)(rq:Z5 q d'=true)(gp:Yl p)(gq:Yl q)(lp:Y6 p=true)(lq:Y6 q=true)(mp:Z8 p<=20000)(mq:Z8 q<=20000):ZlX p q:=by
 have cp:=Z5s p
 have cq:=Z5s q
 have np:=Z57 p
 have nq:=Z57 q
 have op:=Z74 (16+68*((2000:Int)+2000).toNat) (Zx p)
 have oq:=Z74 (16+68*((2000:Int)+2000).toNat) (Zx q)
 have e:((2000:Int)+2000).toNat=4000:=rfl
 rw [e] at op oq
 refine ⟨⟨by omega,gp,d,rp⟩,⟨by omega,gq,d',rq⟩,2000,2000,⟨by decide,by decide,by decide⟩,⟨?_,?_⟩,?_,?_⟩
 ·exact ZaR _ _ (Qh _) (.of (Jt p d rp) (Z2N p d rp gp)) (Z3y _ p d (Qh _) rp lp)
 ·exact ZaR _ _ (Qh _) (.of (Jt q d' rq) (Z2N q d' rq gq)) (Z3y _ q d' (Qh _) rq lq)
 ·rw [e];omega
 ·rw [e];omega
theorem Z25{α:Type}{at_:α->Int}:∀ {l:List α} {last:Int},asc at_ last l->∀ a∈l,Z13 at_ l (at_ a)=some a
 | x ::r,last,h,a,ha=> by
  unfold Z13
  rw [XT,Z3z]
  have none_:∀ (r:List α) (n m:Int),asc at_ m r->n<=m->Z13 at_ r n=none:=by
   intro r n m hr hn
   cases e:Z13 at_ r n with
   | none=> rfl
   | some b=>
    obtain ⟨h1,h2⟩:=Z2X at_ n r b e
    have:=Zfq hr b h1
    omega
  rcases Qd.1 ha with rfl | ha
  ·rw [none_ r _ _ h.2 (X2 _)]
   simp only [if_pos]
  ·rw [Z25 h.2 a ha]
theorem ZsI{α:Type}{at_:α->Int}{l:List α}{last:Int}(h:asc at_ last l){a b:α}(ha:a∈l)(hb:b∈l)(e:at_ a=at_ b):a=b:=by
 have h1:=Z25 h a ha
 rw [e,Z25 h b hb] at h1
 exact (Option.some.inj h1).symm
def Sq(L:Lft)(p q:Edit):Prop:=∀ t u v,RT_ t->doE false p t=some u->doE false q t=some v->
 L.a=false/\(L.c=false->∃ w1 w2,doE false L.y u=some w1/\doE false L.x v=some w2/\Eqv w1 w2)
section
variable {α β:Type} {z:α} {F:β->α->Option α} {at_:β->Int} {V:α->Prop}
theorem Zpx{l:List β}{n:Int}{last:Int}(h:asc at_ last l)(e:Z13 at_ l n=none):∀ b∈l,at_ b≠n:=by
 intro b hb hn
 have:=Z25 h b hb
 rw [hn,e] at this
 cases this
theorem Zg7 {c:β->β->β} {g:β->Bool} {p q:List β} {l u v:List α} (hc:∀ a b,at_ (c a b)=at_ a) (hp:asc at_ (-1) p) (hq:asc at_ (-1) q)
  (hu:mg z (Z60 z F at_ l) at_ p l=some u) (hv:mg z (Z60 z F at_ l) at_ q l=some v) (hV:∀ i,V (v.getD i z))
  (hg:∀ w y x,g w=false->V y->F w y=some x->x=y)
  (hb:∀ a∈p,∀ b∈q,at_ a=at_ b->∃ w,F (c a b) (v.getD (at_ a).toNat z)=some w):
  ∃ r,mg z (Z60 z F at_ v) at_ ((p.map (Yg at_ c q)).filter g) v=some r/\
   (∀ a∈p,∀ b∈q,at_ a=at_ b->F (c a b) (v.getD (at_ a).toNat z)=some (r.getD (at_ a).toNat z))/\
   ∀ i:Nat,(∀ b∈q,(at_ b).toNat≠i)->r.getD i z=u.getD i z:=by
 have ac:=Z05 (g:=g) (Z0Q (f:=Yg at_ c q) (JK hc q) hp)
 have np:=Z3J (by decide) hp
 have nq:=Z3J (by decide) hq
 obtain ⟨a1,a2⟩:=Z19 (by decide) hp hu
 obtain ⟨b1,b2⟩:=Z19 (by decide) hq hv
 have key:∀ a∈p,(∃ b∈q,at_ b=at_ a/\Yg at_ c q a=c a b)\/(Yg at_ c q a=a/\∀ b∈q,(at_ b).toNat≠(at_ a).toNat):=by
  intro a ha
  unfold Yg
  cases e:Z13 at_ q (at_ a) with
  | some b=>
   obtain ⟨h1,h2⟩:=Z2X at_ _ _ _ e
   exact .inl ⟨b,h1,h2,rfl⟩
  | none=>
   refine .inr ⟨rfl,fun b hb h=> Zpx hq e b hb ?_⟩
   have:=np a ha
   have:=nq b hb
   omega
 have ex:∀ a∈p,∃ w,F (Yg at_ c q a) (v.getD (at_ a).toNat z)=some w:=by
  intro a ha
  rcases key a ha with ⟨b,hbq,e1,e2⟩ | ⟨e,hn⟩
  ·rw [e2];exact hb a ha b hbq e1.symm
  ·rw [e,b2 _ hn]
   obtain ⟨x,hx,_⟩:=a1 a ha
   exact ⟨x,hx⟩
 obtain ⟨r,hr⟩:=Zk4 (z:=z) (f:=Z60 z F at_ v) (p:=at_) (ws:=(p.map (Yg at_ c q)).filter g) (out:=v) (by
  intro w hw
  obtain ⟨a,ha,rfl⟩:=Xj.1 (Xe.1 hw).1
  show ∃ x,F (Yg at_ c q a) (v.getD (at_ (Yg at_ c q a)).toNat z)=some x
  rw [JK hc]
  exact ex a ha)
 obtain ⟨r1,r2⟩:=Z19 (by decide) ac hr
 have at1:∀ a∈p,F (Yg at_ c q a) (v.getD (at_ a).toNat z)=some (r.getD (at_ a).toNat z):=by
  intro a ha
  by_cases hga:g (Yg at_ c q a)=true
  ·obtain ⟨x,hx,hr⟩:=r1 _ (Xe.2 ⟨Xj.2 ⟨a,ha,rfl⟩,hga⟩)
   unfold Z60 at hx
   rw [JK hc] at hx hr
   rw [hr,hx]
  ·rw [XO] at hga
   obtain ⟨x,hx⟩:=ex a ha
   rw [hx,hg _ _ _ hga (hV _) hx,r2 _ fun w hw e=> ?_]
   obtain ⟨h1,h2⟩:=Xe.1 hw
   obtain ⟨a',ha',rfl⟩:=Xj.1 h1
   rw [JK hc] at e
   have:=np a ha
   have:=np a' ha'
   have:a'=a:=ZsI hp ha' ha (by omega)
   rw [this,hga] at h2
   cases h2
 refine ⟨r,hr,fun a ha b hbq e=> ?_,fun i hn=> ?_⟩
 ·have:Yg at_ c q a=c a b:=by
   unfold Yg
   rw [e,Z25 hq b hbq]
  rw [<-this]
  exact at1 a ha
 ·by_cases hi:∃ a∈p,(at_ a).toNat=i
  ·obtain ⟨a,ha,rfl⟩:=hi
   have h:=at1 a ha
   rcases key a ha with ⟨b,hbq,e1,_⟩ | ⟨e,_⟩
   ·exact absurd (by rw [e1]) (hn b hbq)
   ·obtain ⟨x,hx,hu'⟩:=a1 a ha
    unfold Z60 at hx
    rw [e,b2 _ hn,hx] at h
    rw [hu']
    exact (Option.some.inj h).symm
  ·have hi:∀ a∈p,(at_ a).toNat≠i:=fun a ha e=> hi ⟨a,ha,e⟩
   rw [r2 i,b2 i hn,a2 i hi]
   intro w hw
   obtain ⟨a,ha,rfl⟩:=Xj.1 (Xe.1 hw).1
   rw [JK hc]
   exact hi a ha
theorem Zbo {R:α->α->Prop} (Rr:∀ x,R x x) {cx cy:β->β->β} {g:β->Bool} {p q:List β} {l u v:List α} (hx:∀ a b,at_ (cx a b)=at_ a) (hy:∀ a b,at_ (cy a b)=at_ a)
  (hp:asc at_ (-1) p) (hq:asc at_ (-1) q) (hu:mg z (Z60 z F at_ l) at_ p l=some u) (hv:mg z (Z60 z F at_ l) at_ q l=some v)
  (hVu:∀ i,V (u.getD i z)) (hVv:∀ i,V (v.getD i z)) (hg:∀ w y x,g w=false->V y->F w y=some x->x=y)
  (hb:∀ a∈p,∀ b∈q,at_ a=at_ b->∀ x y,F a (l.getD (at_ a).toNat z)=some x->F b (l.getD (at_ a).toNat z)=some y->∃ w1 w2,F (cy b a) x=some w1/\F (cx a b) y=some w2/\R w1 w2):
  ∃ w1 w2,mg z (Z60 z F at_ u) at_ ((q.map (Yg at_ cy p)).filter g) u=some w1/\mg z (Z60 z F at_ v) at_ ((p.map (Yg at_ cx q)).filter g) v=some w2/\∀ i,R (w1.getD i z) (w2.getD i z):=by
 have np:=Z3J (by decide) hp
 have nq:=Z3J (by decide) hq
 obtain ⟨a1,a2⟩:=Z19 (by decide) hp hu
 obtain ⟨b1,b2⟩:=Z19 (by decide) hq hv
 have bb:∀ a∈p,∀ b∈q,at_ a=at_ b->∃ w1 w2,F (cy b a) (u.getD (at_ a).toNat z)=some w1/\F (cx a b) (v.getD (at_ a).toNat z)=some w2/\R w1 w2:=by
  intro a ha b hbq e
  obtain ⟨x,hx1,hx2⟩:=a1 a ha
  obtain ⟨y,hy1,hy2⟩:=b1 b hbq
  unfold Z60 at hx1 hy1
  rw [<-e] at hy1 hy2
  rw [hx2,hy2]
  exact hb a ha b hbq e x y hx1 hy1
 obtain ⟨w2,e2,t2,s2⟩:=Zg7 (c:=cx) (g:=g) (V:=V) hx hp hq hu hv hVv hg fun a ha b hbq e=> by
  obtain ⟨_,w,_,h,_⟩:=bb a ha b hbq e
  exact ⟨w,h⟩
 obtain ⟨w1,e1,t1,s1⟩:=Zg7 (c:=cy) (g:=g) (V:=V) hy hq hp hv hu hVu hg fun b hbq a ha e=> by
  obtain ⟨w,_,h,_⟩:=bb a ha b hbq e.symm
  rw [e]
  exact ⟨w,h⟩
 refine ⟨w1,w2,e1,e2,fun i=> ?_⟩
 by_cases ha:∃ a∈p,(at_ a).toNat=i
 ·by_cases hbq:∃ b∈q,(at_ b).toNat=i
  ·obtain ⟨a,ha,ea⟩:=ha
   obtain ⟨b,hbq,eb⟩:=hbq
   have:=np a ha
   have:=nq b hbq
   have e:at_ a=at_ b:=by omega
   obtain ⟨x,y,h1,h2,hR⟩:=bb a ha b hbq e
   have h3:=t2 a ha b hbq e
   have h4:=t1 b hbq a ha e.symm
   rw [h2] at h3
   rw [<-e,h1] at h4
   rw [<-ea,<-Option.some.inj h3,<-Option.some.inj h4]
   exact hR
  ·have hbq:∀ b∈q,(at_ b).toNat≠i:=fun b h e=> hbq ⟨b,h,e⟩
   rw [s2 i hbq]
   have hw:w1.getD i z=u.getD i z:=by
    have ac:=Z05 (g:=g) (Z0Q (f:=Yg at_ cy p) (JK hy p) hq)
    refine (Z19 (by decide) ac e1).2 i fun w hw=> ?_
    obtain ⟨b,hb',rfl⟩:=Xj.1 (Xe.1 hw).1
    rw [JK hy]
    exact hbq b hb'
   rw [hw]
   exact Rr _
 ·have ha:∀ a∈p,(at_ a).toNat≠i:=fun a h e=> ha ⟨a,h,e⟩
  rw [s1 i ha]
  have hw:w2.getD i z=v.getD i z:=by
   have ac:=Z05 (g:=g) (Z0Q (f:=Yg at_ cx q) (JK hx q) hp)
   refine (Z19 (by decide) ac e2).2 i fun w hw=> ?_
   obtain ⟨a,ha',rfl⟩:=Xj.1 (Xe.1 hw).1
   rw [JK hx]
   exact ha a ha'
  rw [hw]
  exact Rr _
end
theorem Zdy{m:Int}(hm:0<=m/\m < 256):(0<=Z3O m/\Z3O m < 256)/\∀ i:Nat,i < 8->J1 (Z3O m) (i:Int)= !J1 m (i:Int):=by
 have hlt:(BitVec.ofInt 8 255 ^^^ BitVec.ofInt 8 m).toNat < 256:=(BitVec.ofInt 8 255 ^^^ BitVec.ofInt 8 m).isLt
 have e:Z3O m=((BitVec.ofInt 8 255 ^^^ BitVec.ofInt 8 m).toNat:Int):=by
  show IntKind.wrap .u8 ((BitVec.ofInt 8 255 ^^^ BitVec.ofInt 8 m).toNat:Int)=_
  exact Z4H (by omega) (by omega)
 refine ⟨by rw [e];omega,fun i hi=> ?_⟩
 rw [Z4n _ (by rw [e];omega) (by rw [e];omega),e,Z4n m hm.1 hm.2]
 have:(BitVec.ofInt 8 (((BitVec.ofInt 8 255 ^^^ BitVec.ofInt 8 m).toNat:Nat):Int)).toNat=(BitVec.ofInt 8 255 ^^^ BitVec.ofInt 8 m).toNat:=by
  generalize (BitVec.ofInt 8 255 ^^^ BitVec.ofInt 8 m).toNat=k at hlt ⊢
  simp
  omega
 rw [this,BitVec.toNat_xor,Nat.testBit_xor]
 have:(BitVec.ofInt 8 255).toNat.testBit i=true:=by
  revert i
  decide
 rw [this]
 cases (BitVec.ofInt 8 m).toNat.testBit i <;> rfl
theorem Zj6{a b:WEdit}(ra:ZcS a)(rb:ZcS b){x u v:Int}(hu:doW a x=some u)(hv:doW b x=some v):
  Yj a b=false/\(JY a b=false->∃ w1 w2,doW (Z0r b a) u=some w1/\doW (Z0r a b) v=some w2/\w1=w2):=by
 unfold doW at hu hv
 split at hu
 ·rename_i ea
  split at hv
  ·rename_i eb
   cases hu
   cases hv
   have A:=Z5y ra.2.1 rb.2.1
   have na:=Zdy ra.2.1
   have nb:=Zdy rb.2.1
   have A1:=Z5y na.1 rb.2.1
   have A2:=Z5y nb.1 ra.2.1
   have oa:∀ i:Nat,i < 8->J1 a.mask (i:Int)=true->Z9 a.old i=Z9 x i:=fun i hi h=> by rw [<-ea,Z0L hi,if_pos h]
   have ob:∀ i:Nat,i < 8->J1 b.mask (i:Int)=true->Z9 b.old i=Z9 x i:=fun i hi h=> by rw [<-eb,Z0L hi,if_pos h]
   refine ⟨decide_eq_false (Classical.not_not.2 (Z4F (Z0K _ _ _) (Z0K _ _ _) fun i hi=> ?_)),fun hc=> ?_⟩
   ·rw [Z0L hi,Z0L hi,A.2]
    cases ha:J1 a.mask (i:Int) with
    | false=> simp
    | true=>
     cases hb:J1 b.mask (i:Int) with
     | false=> simp
     | true=>
      rw [oa i hi ha,ob i hi hb]
   ·have hc:mix 0 a.new (Z0y a.mask b.mask)=mix 0 b.new (Z0y a.mask b.mask):=Classical.not_not.1 (of_decide_eq_false hc)
    have c1:mix 0 (mix x a.new a.mask) (Z0r b a).mask=(Z0r b a).old:=by
     show mix 0 (mix x a.new a.mask) (Z0y (Z3O a.mask) b.mask)=mix 0 b.old (Z0y (Z3O a.mask) b.mask)
     refine Z4F (Z0K _ _ _) (Z0K _ _ _) fun i hi=> ?_
     rw [Z0L hi,Z0L hi,Z0L hi,A1.2,na.2 i hi]
     cases ha:J1 a.mask (i:Int) with
     | true=> simp
     | false=>
      cases hb:J1 b.mask (i:Int) with
      | false=> simp
      | true=> rw [ob i hi hb];simp
    have c2:mix 0 (mix x b.new b.mask) (Z0r a b).mask=(Z0r a b).old:=by
     show mix 0 (mix x b.new b.mask) (Z0y (Z3O b.mask) a.mask)=mix 0 a.old (Z0y (Z3O b.mask) a.mask)
     refine Z4F (Z0K _ _ _) (Z0K _ _ _) fun i hi=> ?_
     rw [Z0L hi,Z0L hi,Z0L hi,A2.2,nb.2 i hi]
     cases hb:J1 b.mask (i:Int) with
     | true=> simp
     | false=>
      cases ha:J1 a.mask (i:Int) with
      | false=> simp
      | true=> rw [oa i hi ha];simp
    unfold doW
    rw [if_pos c1,if_pos c2]
    refine ⟨_,_,rfl,rfl,?_⟩
    show mix (mix x a.new a.mask) (mix 0 b.new (Z0y (Z3O a.mask) b.mask)) (Z0y (Z3O a.mask) b.mask)=mix (mix x b.new b.mask) (mix 0 a.new (Z0y (Z3O b.mask) a.mask)) (Z0y (Z3O b.mask) a.mask)
    refine Z4F (Z0K _ _ _) (Z0K _ _ _) fun i hi=> ?_
    have e:=congrArg (fun x=> Z9 x i) hc
    simp only [Z0L hi,A.2,A1.2,A2.2,na.2 i hi,nb.2 i hi] at e ⊢
    cases ha:J1 a.mask (i:Int) <;> cases hb:J1 b.mask (i:Int) <;> rw [ha,hb] at e <;> simp at e ⊢
    exact e
  ·cases hv
 ·cases hu
theorem ZpU{w:WEdit}{y x:Int}(h:(!decide (w.mask=0))=false)(hy:isW y)(e:doW w y=some x):x=y:=by
 have h:w.mask=0:=by simpa using h
 unfold doW at e
 rw [h] at e
 split at e
 ·rw [<-Option.some.inj e]
  refine Z4F (Z0K _ _ _) hy fun i hi=> ?_
  have z0:J1 0 (i:Int)=false:=by unfold J1;simp
  rw [Z0L hi,z0,if_neg (by decide)]
 ·cases e
theorem Zab{a:List Op}{s d:List Tree}(h:Run a s d):∀ {b:List Op} {s' d':List Tree},Run b s' d'->Run (a++b) (s++s') (d++d'):=by
 induction h with
 | nil=> intro b s' d' h;exact h
 | keep k n _ ih=> intro b s' d' h;rw [Qa,Qa];exact .keep k n (ih h)
 | gone k n _ ih=> intro b s' d' h;rw [Qa];exact .gone k n (ih h)
 | come k _ ih=> intro b s' d' h;rw [Qa];exact .come k (ih h)
 | into k e _ ih=> intro b s' d' h;exact .into k e (ih h)
theorem Z4S(l:List Tree):Run (JB l.length) l l:=by
 unfold JB
 split
 ·rename_i h
  have:l=[]:=Q6 (by omega)
  rw [this];exact .nil
 ·exact Z1m rfl rfl
theorem Zg5(l:List Tree):Run (Z30 l) [] l:=by
 unfold Z30
 split
 ·rename_i h
  rw [h];exact .nil
 ·have:=Run.come (o:=⟨2,0,l,Edit.nil⟩) (r:=[]) (s:=[]) (d:=[]) rfl .nil
  rwa [Qr] at this
def SqL(S:PL)(u v:List Tree):Prop:=S.a=false/\(S.c=false->∃ w1 w2,Run S.y u w1/\Run S.x v w2/\EqvL w1 w2)
theorem SqL.app{S T:PL}{u v u' v':List Tree}(h:SqL S u v)(k:SqL T u' v'):SqL (S.app T) (u++u') (v++v'):=by
 refine ⟨by show (S.a || T.a)=false;rw [h.1,k.1];rfl,fun c=> ?_⟩
 have c:(S.c || T.c)=false:=c
 rw [QC] at c
 obtain ⟨w1,w2,h1,h2,h3⟩:=h.2 c.1
 obtain ⟨x1,x2,k1,k2,k3⟩:=k.2 c.2
 exact ⟨_,_,Zab h1 k1,Zab h2 k2,ZpQ h3 k3⟩
theorem ZiM(m h:List Tree):SqL (Jc m h) m h:=by
 unfold Jc
 by_cases e:m≠[]/\h≠[]
 ·rw [if_pos e]
  refine ⟨rfl,fun c=> ⟨m,h,Z4S m,Z4S h,?_⟩⟩
  have c:(!Z6s m h)=false:=c
  rw [Xw] at c
  exact Z0s.1 c
 ·rw [if_neg e]
  have hm:m=[]\/h=[]:=by
   by_cases hm:m=[]
   ·exact .inl hm
   ·by_cases hh:h=[]
    ·exact .inr hh
    ·exact absurd ⟨hm,hh⟩ e
  refine ⟨rfl,fun _=> ⟨m++h,m++h,?_,?_,rfl⟩⟩
  ·have:=Zab (Z4S m) (Zg5 h)
   rwa [Qr] at this
  ·have:=Zab (Zg5 m) (Z4S h)
   exact this
theorem Zg4{e:Edit}{x y:Tree}(h:doE false e x=some y):Run [Z3K e] [x] [y]:=by
 unfold Z3K
 split
 ·rename_i k
  rw [Zd0 k] at h
  cases h
  exact Z1m rfl rfl
 ·exact .into rfl h .nil
theorem Zok {f:Edit->Edit->Lft} {p q:Op} {s u v:List Tree} (op:ZM p) (oq:ZM q) (hl:Z1 p=Z1 q) (p2:p.kind≠2) (q2:q.kind≠2) (hs:∀ t∈s,RT_ t)
  (rp:p.kind=3->∃ d,Z5 p.e d=true) (rq:q.kind=3->∃ d,Z5 q.e d=true)
  (hf:p.kind=3->q.kind=3->Sq (f p.e q.e) p.e q.e) (hp:Run [p] s u) (hq:Run [q] s v):SqL (ZA f p q) u v:=by
 have kp:=YQ op
 have kq:=YQ oq
 unfold kOk at kp kq
 by_cases a0:p.kind=0
 ·have eu:=Z5L a0 hp
  subst eu
  by_cases b1:q.kind=1
  ·rw [Zrq a0 b1]
   obtain ⟨a,s',rfl,hn,hr⟩:=(Yv b1).1 hq
   obtain ⟨rfl,rfl⟩:=Y0 hr
   exact ⟨rfl,fun _=> ⟨[],[],hq,.nil,rfl⟩⟩
  ·rw [pL0 a0 b1]
   refine ⟨rfl,fun _=> ⟨v,v,hq,Z1m rfl ?_,rfl⟩⟩
   have l1:=Z98 oq b1 hq
   show (v.length:Int)=if q.n < 1 then 1 else q.n
   by_cases b0:q.kind=0
   ·have:=(Z1C oq b0).2
    rw [if_neg (by omega)];omega
   ·have:=Zat oq b0
    rw [if_pos (by omega)]
    have:=Z0k (o:=q) (by omega)
    omega
 by_cases b0:q.kind=0
 ·have ev:=Z5L b0 hq
  subst ev
  by_cases a1:p.kind=1
  ·rw [Zrp a1 b0]
   obtain ⟨a,s',rfl,hn,hr⟩:=(Yv a1).1 hp
   obtain ⟨rfl,rfl⟩:=Y0 hr
   exact ⟨rfl,fun _=> ⟨[],[],.nil,hp,rfl⟩⟩
  ·rw [Zrm a0 a1 b0]
   refine ⟨rfl,fun _=> ⟨u,u,Z1m rfl ?_,hp,rfl⟩⟩
   have l1:=Z98 op a1 hp
   have:=Z0k (o:=p) (by omega)
   show (u.length:Int)=1
   omega
 by_cases a1:p.kind=1
 ·obtain ⟨a,s',rfl,hn,hr⟩:=(Yv a1).1 hp
  obtain ⟨rfl,rfl⟩:=Y0 hr
  by_cases b1:q.kind=1
  ·obtain ⟨a',s',es,hn',hr'⟩:=(Yv b1).1 hq
   obtain ⟨e0,rfl⟩:=Y0 hr'
   subst e0
   rw [Zro a1 b1]
   rw [Qr,Qr] at es
   subst es
   refine ⟨?_,fun _=> ⟨[],[],.nil,.nil,rfl⟩⟩
   show (!Z6s p.l q.l)=false
   rw [Xw]
   exact Z0s.2 (hn.trans hn'.symm)
  ·have b3:q.kind=3:=by omega
   rw [pL1 a1 b0 b1]
   obtain ⟨x,s',y,d',e1,_,he,hr'⟩:=(Z0i b3).1 hq
   obtain ⟨rfl,_⟩:=Y0 hr'
   rw [Qr] at e1
   subst e1
   obtain ⟨d,rq⟩:=rq b3
   have hx:Eqv x (p.l.getD 0 Tree.nil):=by
    have:=EqvL.get (show EqvL p.l [x] from hn) 0
    exact this.symm
   have:=(Z5q q.e d x _ rq hx).isSome
   rw [he] at this
   refine ⟨?_,fun c=> by cases c⟩
   show (!(doE false q.e (p.l.getD 0 Tree.nil)).isSome)=false
   rw [<-this];try rfl
 have a3:p.kind=3:=by omega
 obtain ⟨x,s',y,d',rfl,rfl,he,hr⟩:=(Z0i a3).1 hp
 obtain ⟨rfl,rfl⟩:=Y0 hr
 by_cases b1:q.kind=1
 ·obtain ⟨a,s',e1,hn,hr'⟩:=(Yv b1).1 hq
  obtain ⟨rfl,rfl⟩:=Y0 hr'
  rw [Qr] at e1
  subst e1
  rw [Zrl a0 a1 b1]
  obtain ⟨d,rp⟩:=rp a3
  have hx:Eqv x (q.l.getD 0 Tree.nil):=by
   have:=EqvL.get (show EqvL q.l [x] from hn) 0
   exact this.symm
  have:=(Z5q p.e d x _ rp hx).isSome
  rw [he] at this
  refine ⟨?_,fun c=> by cases c⟩
  show (!(doE false p.e (q.l.getD 0 Tree.nil)).isSome)=false
  rw [<-this];try rfl
 ·have b3:q.kind=3:=by omega
  obtain ⟨x',s',y',d',e1,rfl,he',hr'⟩:=(Z0i b3).1 hq
  cases e1
  obtain ⟨_,rfl⟩:=Y0 hr'
  rw [Zrn a0 a1 b0 b1]
  obtain ⟨h1,h2⟩:=hf a3 b3 x y y' (hs x Q7) he he'
  refine ⟨h1,fun c=> ?_⟩
  obtain ⟨w1,w2,g1,g2,g3⟩:=h2 c
  exact ⟨[w1],[w2],Zg4 g1,Zg4 g2,Z8z.2 g3⟩
theorem Zvu{f:Edit->Edit->Lft}:∀ (k:Nat) (p q:List Op) (m h s u v:List Tree),p.length+q.length<=k->(∀ o∈p,ZM o/\(o.kind=3->∃ d,Z5 o.e d=true))->(∀ o∈q,ZM o/\(o.kind=3->∃ d,Z5 o.e d=true))->
  (∀ a∈p,∀ b∈q,a.kind=3->b.kind=3->Sq (f a.e b.e) a.e b.e)->(∀ t∈s,RT_ t)->Run p s u->Run q s v->∃ S,Lay f p q m h S/\SqL S (m++u) (h++v):=by
 intro k
 induction k with
 | zero=>
  intro p q m h s u v hk _ _ _ _ hp hq
  have e1:p=[]:=Q6 (by omega)
  have e2:q=[]:=Q6 (by omega)
  subst e1 e2
  obtain ⟨_,rfl⟩:=Y0 hp
  obtain ⟨_,rfl⟩:=Y0 hq
  rw [Qr,Qr]
  exact ⟨_,.nil m h,ZiM m h⟩
 | succ k ih=>
  intro p q m h s u v hk op oq hf hs hp hq
  by_cases h1:∃ a p',p=a ::p'/\a.kind=2
  ·obtain ⟨a,p',rfl,k2⟩:=h1
   obtain ⟨u',rfl,hp'⟩:=(YG k2).1 hp
   obtain ⟨S,L,H⟩:=ih p' q (m++a.l) h s u' v (by simp only [Qb] at hk;omega) (fun o ho=> op o (Q5 _ ho)) oq (fun x hx=> hf x (Q5 _ hx)) hs hp' hq
   rw [Qa] at H
   exact ⟨S,.left k2 L,H⟩
  have np:∀ a∈p.head?,a.kind≠2:=by
   intro a ha e
   cases p with
   | nil=> cases ha
   | cons a' p'=> cases ha;exact h1 ⟨_,_,rfl,e⟩
  by_cases h2:∃ b q',q=b ::q'/\b.kind=2
  ·obtain ⟨b,q',rfl,k2⟩:=h2
   obtain ⟨v',rfl,hq'⟩:=(YG k2).1 hq
   obtain ⟨S,L,H⟩:=ih p q' m (h++b.l) s u v' (by simp only [Qb] at hk;omega) op (fun o ho=> oq o (Q5 _ ho)) (fun x hx y hy=> hf x hx y (Q5 _ hy)) hs hp hq'
   rw [Qa] at H
   exact ⟨S,.right np k2 L,H⟩
  have lenP:(s.length:Int)=Yk p:=(Zej hp fun o ho=> (op o ho).1).1
  have lenQ:(s.length:Int)=Yk q:=(Zej hq fun o ho=> (oq o ho).1).1
  cases p with
  | nil=>
   obtain ⟨rfl,rfl⟩:=Y0 hp
   cases q with
   | nil=>
    obtain ⟨_,rfl⟩:=Y0 hq
    rw [Qr,Qr]
    exact ⟨_,.nil m h,ZiM m h⟩
   | cons b q'=>
    exfalso
    have kb:b.kind≠2:=fun e=> h2 ⟨_,_,rfl,e⟩
    have ob:=(oq b Q7).1
    obtain ⟨m1,m',d',e,hl,_⟩:=Z5Z ob kb hq
    have:=Zu ob
    have:=congrArg List.length e
    rw [Q9,Qg] at this
    omega
  | cons a p'=>
   have ka:a.kind≠2:=fun e=> h1 ⟨_,_,rfl,e⟩
   have oa:=(op a Q7).1
   have la:=Zu oa
   cases q with
   | nil=>
    exfalso
    obtain ⟨rfl,_⟩:=Y0 hq
    obtain ⟨m1,m',d',e,hl,_⟩:=Z5Z oa ka hp
    have:=congrArg List.length e
    rw [Q9,Qg] at this
    omega
   | cons b q'=>
    have kb:b.kind≠2:=fun e=> h2 ⟨_,_,rfl,e⟩
    have ob:=(oq b Q7).1
    have lb:=Zu ob
    generalize hn:min (Z1 a) (Z1 b)=n
    have n1:1<=n:=by omega
    have np':n<=Z1 a:=by omega
    have nq':n<=Z1 b:=by omega
    obtain ⟨P1,P2,P3,_,_,PR⟩:=Z2E (fun o ho=> (op o ho).1) n1 np'
    obtain ⟨Q1,Q2,Q3,_,_,QR⟩:=Z2E (fun o ho=> (oq o ho).1) n1 nq'
    obtain ⟨s1,s2,u1,u2,rfl,rfl,hp1,hp2⟩:=(Zg6 (YQ P1)).1 ((PR s u).1 hp)
    obtain ⟨s1',s2',v1,v2,es,rfl,hq1,hq2⟩:=(Zg6 (YQ Q1)).1 ((QR _ v).1 hq)
    have l1:=Zbn P1 (by rw [P3];exact ka) hp1
    have l2:=Zbn Q1 (by rw [Q3];exact kb) hq1
    obtain ⟨rfl,rfl⟩:=KA es (by omega)
    have hlt:=Zjf (a:=a) (b:=b) (p:=p') (q:=q') hn.symm
    have tp:∀ o∈Zw (a ::p') n,ZM o/\(o.kind=3->∃ d,Z5 o.e d=true):=fun o ho=> ⟨Z4K (fun o ho=> (op o ho).1) (by simp) n1 o ho,fun k3=> by
     rcases Jd ho with h | rfl
     ·exact (op o (Q5 _ h)).2 k3
     ·rw [Z0V];rw [Yy] at k3;exact (op a Q7).2 k3⟩
    have tq:∀ o∈Zw (b ::q') n,ZM o/\(o.kind=3->∃ d,Z5 o.e d=true):=fun o ho=> ⟨Z4K (fun o ho=> (oq o ho).1) (by simp) n1 o ho,fun k3=> by
     rcases Jd ho with h | rfl
     ·exact (oq o (Q5 _ h)).2 k3
     ·rw [Z0V];rw [Yy] at k3;exact (oq b Q7).2 k3⟩
    obtain ⟨S,L,H⟩:=ih _ _ [] [] s2 u2 v2 (by omega) tp tq (fun x hx y hy kx ky=> by
     rcases Jd hx with hx | rfl
     ·rcases Jd hy with hy | rfl
      ·exact hf x (Q5 _ hx) y (Q5 _ hy) kx ky
      ·rw [Z0V];rw [Yy] at ky;exact hf x (Q5 _ hx) b Q7 kx ky
     ·rw [Z0V];rw [Yy] at kx
      rcases Jd hy with hy | rfl
      ·exact hf a Q7 y (Q5 _ hy) kx ky
      ·rw [Z0V];rw [Yy] at ky;exact hf a Q7 b Q7 kx ky) (fun t ht=> hs t (QW _ ht)) hp2 hq2
    refine ⟨_,.both ka kb hn.symm L,?_⟩
    have hpc:SqL (ZA f (Zq a n) (Zq b n)) u1 v1:=by
     refine Zok P1 Q1 (by omega) (by rw [P3];exact ka) (by rw [Q3];exact kb) (fun t ht=> hs t (QV _ ht)) ?_ ?_ ?_ hp1 hq1
     ·rw [P3,Z1j];exact (op a Q7).2
     ·rw [Q3,Z1j];exact (oq b Q7).2
     ·rw [P3,Q3,Z1j,Z1j];exact hf a Q7 b Q7
    have:=((ZiM m h).app hpc).app H
    rw [Qa,Qa] at this
    exact this
theorem ZlP{os:List Op}{s d:List Tree}(h:Run os s d):(∀ o∈os,o.kind=0)->d=s:=by
 induction h with
 | nil=> intro _;rfl
 | keep k n _ ih=> intro h;rw [ih fun o ho=> h o (Q5 _ ho)]
 | gone k n _ ih=> intro h;have:=h _ Q7;omega
 | come k _ ih=> intro h;have:=h _ Q7;omega
 | into k e _ ih=> intro h;have:=h _ Q7;omega
theorem Zjv{list:Int}{os:List Op}{s d:List Tree}(h:Run os s d):doE false (Z0j list os) (.mk list [] s)=some (.mk list [] d):=by
 unfold Z0j
 split
 ·rw [Zyi,if_pos (show (Tree.mk list [] s).kind=list from rfl)]
  show (Z2B (ZG false os s [])).map _=_
  rw [ZnK h]
  try rfl
 ·rename_i e
  rw [Zd0 rfl,ZlP h]
  intro o ho
  rw [XO,Xy] at e
  simpa using e o ho
end Go.AM.Ytpjenobkibfpcaa
namespace Go.AM.Ytpjenobkibfpcaa
open Go.AM Go.Proofs
theorem Sq.swap{L:Lft}{p q:Edit}(h:Sq L.swap q p):Sq L p q:=by
 intro t u v ht hu hv
 obtain ⟨h1,h2⟩:=h t v u ht hv hu
 refine ⟨h1,fun c=> ?_⟩
 obtain ⟨w1,w2,g1,g2,g3⟩:=h2 c
 exact ⟨w2,w1,g2,g1,Eq.symm g3⟩
theorem Z8d{a b:Tree}:ZT a b=true↔a=b:=by unfold ZT;exact @decide_eq_true_iff _ (Classical.propDecidable _)
theorem ZaG{α:Type}{at_:α->Int}{g:α->α->Bool}{p q:List α}:JG at_ g p q=false↔∀ a∈p,∀ b∈q,at_ a=at_ b->g a b=false:=by
 unfold JG
 rw [Xy]
 refine forall_congr' fun a=> forall_congr' fun ha=> ?_
 rw [XO,Xy]
 refine forall_congr' fun b=> forall_congr' fun hb=> ?_
 rw [XO,Bool.and_eq_false_iff,decide_eq_false_iff_not]
 constructor
 ·intro h e
  exact h.resolve_left fun n=> n e
 ·intro h
  by_cases e:at_ a=at_ b
  ·exact .inr (h e)
  ·exact .inl e
theorem Zjn {ws:List WEdit} {ks:List Kid} {tw a:List Int} {tk b:List Tree} (h1:wsD tw (ws.filter fun w=> !decide (w.mask=0)) tw=some a)
  (h2:Jl false tk (ks.filter fun k=> !decide (k.e.kind=0)) tk=some b):doE false (Z2J (.mk 2 Tree.nil Tree.nil ws ks 0 [])) (.mk 1 tw tk)=some (.mk 1 a b):=by
 unfold Z2J
 split
 ·rename_i h
  have h:(ws.filter fun w=> !decide (w.mask=0)).length+(ks.filter fun k=> !decide (k.e.kind=0)).length=0:=h
  rw [Q6 (show (ws.filter fun w=> !decide (w.mask=0)).length=0 by omega)] at h1
  rw [Q6 (show (ks.filter fun k=> !decide (k.e.kind=0)).length=0 by omega)] at h2
  rw [Zd0 rfl]
  cases h1
  rw [Jl] at h2
  cases h2
  try rfl
 ·show doE false (.mk 2 Tree.nil Tree.nil (ws.filter fun w=> !decide (w.mask=0)) (ks.filter fun k=> !decide (k.e.kind=0)) 0 []) (.mk 1 tw tk)=_
  rw [Zyj,if_pos (show (Tree.mk 1 tw tk).kind=1 from rfl)]
  show (wsD tw _ tw).bind (fun x=> (Jl false tk _ tk).map _)=_
  rw [h1,Qm,h2]
  try rfl
theorem Zuw{f:Edit->Edit->Lft}{p q:Edit}(wp:Wk p)(wq:Wk q)(p2:p.kind=2)(q2:q.kind=2)(hf:∀ a∈p.kids,∀ b∈q.kids,Sq (f a.e b.e) a.e b.e):Sq (Z3N f p q) p q:=by
 intro t u v ht hu hv
 have rp:=Zk wp.r
 have rq:=Zk wq.r
 rw [ZvC p2] at hu
 rw [ZvC q2] at hv
 split at hu
 ·rename_i t1
  rw [if_pos t1] at hv
  obtain ⟨uw,u1,hu⟩:=Qs.1 hu
  obtain ⟨uk,u2,rfl⟩:=Qq.1 hu
  obtain ⟨vw,v1,hv⟩:=Qs.1 hv
  obtain ⟨vk,v2,rfl⟩:=Qq.1 hv
  have iw:=(Zrg ht.2).2.1
  have iu:=Ze5 iw u1
  have iv:=Ze5 iw v1
  have hk:=ht.kids.1
  rw [Zj4] at u1 v1
  rw [Zhn] at u2 v2
  have pw:=Z4I rp.words
  have qw:=Z4I rq.words
  have pk:=Z7p rp.kids
  have qk:=Z7p rq.kids
  obtain ⟨a1,_⟩:=Z19 (by decide) pw u1
  obtain ⟨b1,_⟩:=Z19 (by decide) qw v1
  obtain ⟨c1,_⟩:=Z19 (by decide) pk u2
  obtain ⟨d1,_⟩:=Z19 (by decide) qk v2
  have gp:=ZR wp.g
  have gq:=ZR wq.g
  have W:∀ a∈p.words,∀ b∈q.words,a.at_=b.at_->Yj a b=false:=by
   intro a ha b hb e
   obtain ⟨x,hx,_⟩:=a1 a ha
   obtain ⟨y,hy,_⟩:=b1 b hb
   unfold Z60 at hx hy
   rw [<-e] at hy
   exact (Zj6 (gp.2.2.1 a ha) (gq.2.2.1 b hb) hx hy).1
  have K:∀ a∈p.kids,∀ b∈q.kids,a.at_=b.at_->(f a.e b.e).a=false:=by
   intro a ha b hb e
   obtain ⟨x,hx,_⟩:=c1 a ha
   obtain ⟨y,hy,_⟩:=d1 b hb
   unfold Z60 at hx hy
   rw [<-e] at hy
   exact (hf a ha b hb _ _ _ (ZfL hk _) hx hy).1
  refine ⟨?_,fun c=> ?_⟩
  ·show (JG WEdit.at_ Yj p.words q.words || JG KidOf.at_ (fun a b=> (f a.e b.e).a) p.kids q.kids)=false
   rw [ZaG.2 W,ZaG.2 K]
   try rfl
  ·have c:(JG WEdit.at_ (fun a b=> !Yj a b && JY a b) p.words q.words || JG KidOf.at_ (fun a b=> (f a.e b.e).c) p.kids q.kids)=false:=c
   rw [QC,ZaG,ZaG] at c
   obtain ⟨w1,w2,e1,e2,e3⟩:=Zbo (R:=Eq) (V:=isW) (cx:=Z0r) (cy:=Z0r) (g:=fun w:WEdit=> !decide (w.mask=0)) (fun _=> rfl) Z7m Z7m pw qw u1 v1
    (fun i=> Zj7 iu i) (fun i=> Zj7 iv i) (fun w y x h1 h2 h3=> ZpU h1 h2 h3) (fun a ha b hb e x y hx hy=> by
     have cc:=c.1 a ha b hb e
     rw [W a ha b hb e] at cc
     exact (Zj6 (gp.2.2.1 a ha) (gq.2.2.1 b hb) hx hy).2 cc)
   obtain ⟨k1,k2,f1,f2,f3⟩:=Zbo (R:=Eqv) (V:=fun _=> True) (F:=fun k:Kid=> doE false k.e) (cx:=fun a b:Kid=> ⟨a.at_,(f a.e b.e).x⟩) (cy:=fun b a:Kid=> ⟨b.at_,(f a.e b.e).y⟩) (g:=fun k:Kid=> !decide (k.e.kind=0)) (fun _=> rfl) (fun _ _=> rfl) (fun _ _=> rfl) pk qk u2 v2
    (fun _=> trivial) (fun _=> trivial) (fun w y x h1 _ h3=> by
     have h1:w.e.kind=0:=by simpa using h1
     have h3:doE false w.e y=some x:=h3
     rw [Zd0 h1] at h3
     exact (Option.some.inj h3).symm) (fun a ha b hb e x y hx hy=> (hf a ha b hb _ x y (ZfL hk _) hx hy).2 (c.2 a ha b hb e))
   rw [<-Zj4] at e1 e2
   rw [<-Zhn] at f1 f2
   exact ⟨_,_,Zjn e1 f1,Zjn e2 f2,(Z6r rfl rfl).2 ⟨e3,f3⟩⟩
 ·cases hu
theorem Zvo{f:Edit->Edit->Lft}{p q:Edit}(wp:Wk p)(wq:Wk q)(p3:p.kind=3)(q3:q.kind=3)(hl:p.list=q.list)(hf:∀ a∈p.ops,∀ b∈q.ops,a.kind=3->b.kind=3->Sq (f a.e b.e) a.e b.e):Sq (Z2w f p q) p q:=by
 intro t u v ht hu hv
 have rp:=Zk wp.r
 have rq:=Zk wq.r
 rw [ZvB p3] at hu
 rw [ZvB q3] at hv
 split at hu
 ·rename_i t1
  rw [if_pos (by rw [t1,hl])] at hv
  obtain ⟨ul,u1,rfl⟩:=Qq.1 hu
  obtain ⟨vl,v1,rfl⟩:=Qq.1 hv
  have op:=JV wp
  have oq:=JV wq
  rw [Zf7 fun o ho=> YQ (op o ho).1] at u1
  rw [Zf7 fun o ho=> YQ (oq o ho).1] at v1
  obtain ⟨S,L,H⟩:=Zvu (f:=f) _ p.ops q.ops [] [] t.kids ul vl (Qh _) (fun o ho=> ⟨(op o ho).1,fun k=> ⟨_,(Z0m (op o ho) k).1.2.2.2.r⟩⟩) (fun o ho=> ⟨(oq o ho).1,fun k=> ⟨_,(Z0m (oq o ho) k).1.2.2.2.r⟩⟩) hf ht.kids.1 u1 v1
  obtain ⟨b,ps,e1,e2⟩:=Zf9 L []
  have e:Z2w f p q=⟨Z0j p.list S.x,Z0j p.list S.y,S.c,S.a⟩:=by
   unfold Z2w
   rw [if_pos b,e1,QO,<-e2]
  rw [e]
  refine ⟨H.1,fun c=> ?_⟩
  obtain ⟨w1,w2,h1,h2,h3⟩:=H.2 c
  have hli:=rp.list p3
  refine ⟨_,.mk p.list [] w2,Zjv h1,?_,?_⟩
  ·rw [<-hl];exact Zjv h2
  ·exact (Zhi (show (Tree.mk p.list [] w1).kind≠0 from fun e=> by have e:p.list=0:=e;omega) (fun e=> by have e:p.list=1:=e;omega)).2 ⟨rfl,rfl,h3⟩
 ·cases hu
theorem ZfO{p q:Edit}{d:Int}(rq:Z5 q d=true)(p1:p.kind=1):Sq (JX q p.old p.new) p q:=by
 intro t u v ht hu hv
 rw [ZvD p1] at hu
 split at hu
 ·rename_i h
  cases hu
  have h:Eqv p.old t:=Z8d.1 h
  have R:=Z5q q d p.old t rq h
  rw [hv] at R
  cases e:doE false q p.old with
  | none=> rw [e] at R;exact R.elim
  | some w=>
   rw [e] at R
   have R:Eqv w v:=R
   have hd:=ZpW e
   refine ⟨?_,fun c=> ?_⟩
   ·show (!(doB q p.old).2)=false
    rw [hd];try rfl
   ·have c:((doB q p.old).2 && !ZT (Z2 (doB q p.old).1) (Z2 p.new))=false:=c
    rw [hd,QF,Xw,Z8d,J6] at c
    exact ⟨p.new,v,Zd0 rfl _,Zd0 rfl _,c.symm.trans R⟩
 ·cases hu
theorem Zy4:∀ (n:Nat) (p q:Edit),Z8 p+Z8 q<=n->Wk p->Wk q->Sq (lbF n p q) p q:=by
 intro n
 induction n with
 | zero=> intro p q h;obtain ⟨k,o,nw,w,ks,l,os⟩:=p;simp only [Z8] at h;omega
 | succ n ih=>
  intro p q hn wp wq
  have rp:=Zk wp.r
  have rq:=Zk wq.r
  show Sq (Ye (lbF n) p q) p q
  by_cases p0:p.kind=0
  ·rw [lb0 (.inl p0)]
   intro t u v ht hu hv
   rw [Zd0 p0] at hu
   cases hu
   exact ⟨rfl,fun _=> ⟨v,v,hv,Zd0 p0 v,rfl⟩⟩
  by_cases q0:q.kind=0
  ·rw [lb0 (.inr q0)]
   intro t u v ht hu hv
   rw [Zd0 q0] at hv
   cases hv
   exact ⟨rfl,fun _=> ⟨u,u,Zd0 q0 u,hu,rfl⟩⟩
  by_cases p1:p.kind=1
  ·rw [lb1 p1 q0]
   exact ZfO wq.r p1
  by_cases q1:q.kind=1
  ·rw [Zst p0 p1 q1]
   exact Sq.swap (ZfO wp.r q1)
  by_cases c2:p.kind≠q.kind\/p.list≠q.list
  ·intro t u v ht hu hv
   exfalso
   obtain ⟨x1,x2,x3,x4⟩:=Zaz wp.r hu
   obtain ⟨y1,y2,y3,y4⟩:=Zaz wq.r hv
   have hp:=rp.kind
   have hq:=rq.kind
   by_cases p2:p.kind=2
   ·have e1:=(x2 p2).2
    by_cases q2:q.kind=2
    ·have:=(rp.ops0 (by omega)).1
     have:=(rq.ops0 (by omega)).1
     omega
    ·have q3:q.kind=3:=by omega
     have:=(y3 q3).2
     have:=rq.list q3
     omega
   ·have p3:p.kind=3:=by omega
    have e1:=(x3 p3).2
    have:=rp.list p3
    by_cases q2:q.kind=2
    ·have:=(y2 q2).2
     omega
    ·have q3:q.kind=3:=by omega
     have:=(y3 q3).2
     omega
  have hk:q.kind=p.kind:=by omega
  have hli:p.list=q.list:=by omega
  by_cases p2:p.kind=2
  ·rw [lb2 p2 (by omega) hli]
   refine Zuw wp wq p2 (by omega) fun a ha b hb=> ih _ _ ?_ ?_ ?_
   ·have:=Y5 ha
    have:=Y5 hb
    omega
   ·exact ⟨Y4 _ _ _ (by decide) (Zs rp.kids a ha).2,(Ys (ZR wp.g).2.2.2.1 ha).2⟩
   ·exact ⟨Y4 _ _ _ (by decide) (Zs rq.kids b hb).2,(Ys (ZR wq.g).2.2.2.1 hb).2⟩
  ·have hp:=rp.kind
   rw [lb3 hk.symm p0 p1 p2 hli]
   refine Zvo wp wq (by omega) (by omega) hli fun a ha b hb ka kb=> ih _ _ ?_ ?_ ?_
   ·have:=YI ha
    have:=YI hb
    omega
   ·exact (Z0m (JV wp a ha) ka).1.2.2.2
   ·exact (Z0m (JV wq b hb) kb).1.2.2.2
theorem Zvt{p q:Edit}(wp:Wk p)(wq:Wk q):Sq (lbE p q) p q:=Zy4 _ p q (Qh _) wp wq
theorem Zoy{e:Edit}{d:Int}{u s w:Tree}(r:Z5 e d=true)(hu:RT_ u)(h:doE false e u=some w)(he:Eqv u s):∃ z,doE false (Zx e) s=some z/\Eqv z w:=by
 have h1:=Zc1 e d u r hu
 rw [h] at h1
 have h2:=Z5q (Zx e) d u s (Jt e d r) he
 cases e1:doE false (Zx e) u with
 | none=> rw [e1] at h1;exact h1.elim
 | some x=>
  rw [e1] at h1 h2
  cases e2:doE false (Zx e) s with
  | none=> rw [e2] at h2;exact h2.elim
  | some z=>
   rw [e2] at h2
   have h1:Eqv x w:=h1
   have h2:Eqv x z:=h2
   exact ⟨z,rfl,h2.symm.trans h1⟩
theorem Zvr{p q:Edit}{t u v:Tree}(h:ZlX p q)(ht:RT_ t)(hu:doE false p t=some u)(hv:doE false q t=some v):
  (lbN p q).2.2=13\/((lbN p q).2.2=0/\∃ w1 w2,doE false (lbN p q).2.1 (Z2 u)=some w1/\doE false (lbN p q).1 (Z2 v)=some w2/\Eqv w1 w2):=by
 obtain ⟨⟨h1,h2⟩,h3,h4⟩:=ZeF h
 obtain ⟨⟨_,gp,dp,rp⟩,⟨_,gq,dq,rq⟩,_⟩:=h
 have wp:Wk (Zx p):=Zao h1
 have wq:Wk (Zx q):=Zao h2
 have e1:=Zc1 p dp t rp ht
 have e2:=Zc1 q dq t rq ht
 rw [hu] at e1
 rw [hv] at e2
 cases hu':doE false (Zx p) t with
 | none=> rw [hu'] at e1;exact e1.elim
 | some u'=>
  cases hv':doE false (Zx q) t with
  | none=> rw [hv'] at e2;exact e2.elim
  | some v'=>
   rw [hu'] at e1
   rw [hv'] at e2
   have e1:Eqv u' u:=e1
   have e2:Eqv v' v:=e2
   obtain ⟨ha,hc⟩:=Zvt wp wq t u' v' ht hu' hv'
   unfold lbN
   rw [if_neg (by rw [ha];decide)]
   by_cases c:(lbE (Zx p) (Zx q)).c=true
   ·rw [if_pos c];exact .inl rfl
   ·rw [if_neg c]
    refine .inr ⟨rfl,?_⟩
    obtain ⟨w1,w2,g1,g2,g3⟩:=hc (by simpa using c)
    obtain ⟨_,_,dx,rx⟩:=h3
    obtain ⟨_,_,dy,ry⟩:=h4
    obtain ⟨z1,k1,k2⟩:=Zoy ry (Zhl wp.r ht wp.g hu') g1 (show Eqv u' (Z2 u) from e1.trans (J6 u).symm)
    obtain ⟨z2,k3,k4⟩:=Zoy rx (Zhl wq.r ht wq.g hv') g2 (show Eqv v' (Z2 v) from e2.trans (J6 v).symm)
    exact ⟨z1,z2,k1,k3,k2.trans (g3.trans k4.symm)⟩
noncomputable section
def Zlc:ArgL (WEdit × Int × Unit):=(.cons (aEl .wedit) (.cons (JR .u8) .nil))
def ZbM(a:WEdit × Int × Unit):Prop:=wOk a.1/\0<=a.2.1/\a.2.1 < 256
def ZhZ(a:WEdit × Int × Unit):V U:= .tup [(true,(enc .wedit ((ZdL a.1 a.2.1).1))),(false,[.bool ((ZdL a.1 a.2.1).2)])]
def Za6:Fs U:=fs Zlc (fun a=> [ZbM a]) ZhZ
def ZfB:ArgM ((Bool × Bool × Unit) × WEdit × WEdit × Unit):=(.obj 0 (.cons Z1g (.cons Z1g .nil)) (.cons (aEl .wedit) (.cons (aEl .wedit) .nil)))
def ZeU(a:(Bool × Bool × Unit) × WEdit × WEdit × Unit):Prop:=wOk a.2.1/\wOk a.2.2.1
def ZnY(a:(Bool × Bool × Unit) × WEdit × WEdit × Unit):V U:= .tup []
def Z6V(a:(Bool × Bool × Unit) × WEdit × WEdit × Unit):List (List (C U)):=[[.bool (a.1.1 || (!(Yj a.2.1 a.2.2.1) && JY a.2.1 a.2.2.1)),.bool (a.1.2.1 || Yj a.2.1 a.2.2.1)]]
def Za7:Fs U:=fsX ZfB (fun a=> [ZeU a]) ZnY Z6V
def ZeM(a:List Tree × Unit):Prop:=True
def Zev(a:List Tree × Unit):V U:= .c (sU .op (Z30 a.1) (.own (.r 0 0)))
def Z6E:Fs U:=fs Zlf (fun a=> [ZeM a]) Zev
def ZeL(a:Edit × Unit):Prop:=True
def Zeu(a:Edit × Unit):V U:= .agg (enc .op (Z3K a.1))
def Z9Z:Fs U:=fs Zlm (fun a=> [ZeL a]) Zeu
def Zlj:ArgL Unit:= .nil
def Z8p(a:Unit):Prop:=True
def Zi1(a:Unit):V U:= .tup [(true,(enc .edit Edit.nil)),(true,(enc .edit Edit.nil))]
def Za9:Fs U:=fs Zlj (fun a=> [Z8p a]) Zi1
def Zfy:ArgM ((Unit × List Op × List Op × List Tree × List Tree × Unit) × Edit × Tree × (Bool × Bool × Unit) × Unit):=(.obj 0 (.cons (cXp 1) (.cons (Z3a .op 0 1) (.cons (Z3a .op 0 2) (.cons (Z3a .tree 0 3) (.cons (Z3a .tree 0 4) .nil))))) (.cons (aEl .edit) (.cons (aEl .tree) (.hid (.cons Z1g (.cons Z1g .nil)) .nil))))
def ZbI(a:(Unit × List Op × List Op × List Tree × List Tree × Unit) × Edit × Tree × (Bool × Bool × Unit) × Unit):Prop:=(Z8 a.2.1<=20000000000/\Yl a.2.1/\∃ d,Z5 a.2.1 d=true)/\Zi a.2.2.1+ctE a.2.1<=200000000000/\rng a.2.2.1
def ZnV(a:(Unit × List Op × List Op × List Tree × List Tree × Unit) × Edit × Tree × (Bool × Bool × Unit) × Unit):V U:= .tup []
def Zac(a:(Unit × List Op × List Op × List Tree × List Tree × Unit) × Edit × Tree × (Bool × Bool × Unit) × Unit):List (List (C U)):=[[.xp 1,sU .op a.1.2.1 (.own (.x 0 1)),sU .op a.1.2.2.1 (.own (.x 0 2)),sU .tree a.1.2.2.2.1 (.own (.x 0 3)),sU .tree a.1.2.2.2.2.1 (.own (.x 0 4))],[.bool true,.bool (a.2.2.2.1.2.1 || !(doE false a.2.1 a.2.2.1).isSome)]]
def Za0:Fs U:=fsX Zfy (fun a=> [ZbI a]) ZnV Zac
def ZkD:List (FuncId × Fs U):=[(66,Z6M)]
def Zp7:Zf U:=lvl [([1,2,4],[2,4]),([1,2,4],[2,4]),([4,5],[4])]
abbrev Zzz(p:List Nat):=AW (Z6 ZkD) Try.f155 Zp7 p
theorem Zxs(w:WEdit)(m:Int)(Q:QT)(h:let z0:=IntKind.wrap .u8 (BitVec.ofInt (IntKind.bits .u8) m &&& BitVec.ofInt (IntKind.bits .u8) w.mask).toNat;((ZeV (0,w.old,z0,()))/\(ZeV (0,w.new,z0,()))/\(Q .ret (L2 [pL 4,(5,.c (.bool ((z0:Int) !=0)))] [(.loc 4,[ci w.at_,.int .u8 z0,.int .u64 (mix 0 w.old z0),.int .u64 (mix 0 w.new z0)])])))):
  Zzz [] (L2 [(0,.agg (enc .wedit w)),(1,.c (.int .u8 m))] []) Q:=
 Eq.mpr (by kernel_rfl) h
def Ztc(w:WEdit)(m:Int):Prop:=AW (Z6 ZkD) Try.f155 Zp7 [] (Zm (Zlc.can (w,m,())) []) (EQ Try.f155 (ZhZ (w,m,())) [])
theorem ZrW(c66:CT 66 Z6M)(hb:∀ (w:WEdit) (m:Int) (_:Unit),ZbM (w,m,())->Ztc w m):CT 155 Za6:=
 Z4 (l:=[(66,Z6M)]) Zn rfl (⟨c66,trivial⟩) Zp7 Try.func155 rfl rfl 2 (fun _=> rfl) (by decide) (fun ⟨w,m,_⟩=> hb w m ())
def Zp8:Zf U:=fun i=> match i with
 | 0=> ([(0,[]),(4,[]),(5,[])],[(.loc 4,[]),(.loc 5,[]),(.x 0,[])])
 | 1=> ([(0,[]),(4,[]),(5,[]),(6,[])],[(.loc 4,[]),(.loc 5,[]),(.x 0,[])])
 | 2=> ([(0,[]),(4,[]),(5,[]),(6,[]),(12,[])],[(.loc 4,[]),(.loc 5,[]),(.x 0,[])])
 | 3=> ([],[(.x 0,[])])
 | 4=> ([(0,[]),(25,[])],[(.x 0,[])])
 | 5=> ([],[(.x 0,[])])
 | _=> ([],[])
abbrev ZzA(p:List Nat):=AW (Z6 ZkD) Try.f154 Zp8 p
theorem Zxt(mc ma:Bool)(p q:WEdit)(Q:QT)(h:∀ y_1,y_1=(BitVec.ofInt (IntKind.bits .u8) p.mask &&& BitVec.ofInt (IntKind.bits .u8) q.mask)->let z0:=IntKind.wrap .u8 y_1.toNat;let z2:=((mix 0 p.old z0):Int) !=(mix 0 q.old z0);let z1:=((mix 0 p.new z0):Int) !=(mix 0 q.new z0);((ZeV (0,p.old,z0,()))/\(ZeV (0,q.old,z0,()))/\((z2=true->(Q .normal (L2 [] [(.x 0,[.bool mc,.bool true])])))/\(z2=false->(ZeV (0,p.new,z0,()))/\(ZeV (0,q.new,z0,()))/\((z1=true->(Q .normal (L2 [] [(.x 0,[.bool true,.bool ma])])))/\(z1=false->Q .normal (L2 [(0,.ptr (.x 0) 0),(25,.c (.bool z1))] [(.x 0,[.bool mc,.bool ma])]))))))):
  ZzA [] (L2 [(0,.ptr (.x 0) 0),(1,.agg (enc .wedit p)),(2,.agg (enc .wedit q))] [(.x 0,[.bool mc,.bool ma])]) Q:=
 Eq.mpr (by kernel_rfl) (h _ rfl)
def Ztd(mc ma:Bool)(p q:WEdit):Prop:=AW (Z6 ZkD) Try.f154 Zp8 [] (Zm (ZfB.can ((mc,ma,()),p,q,())) (ZfB.canX ((mc,ma,()),p,q,()))) (EQ Try.f154 (ZnY ((mc,ma,()),p,q,())) (Z6V ((mc,ma,()),p,q,())))
theorem ZrX(c66:CT 66 Z6M)(hb:∀ (mc:Bool) (ma:Bool) (p:WEdit) (q:WEdit) (_:Unit),ZeU ((mc,ma,()),p,q,())->Ztd mc ma p q):CT 154 Za7:=
 Yf (l:=[(66,Z6M)]) Zn rfl (⟨c66,trivial⟩) Zp8 Try.func154 rfl rfl 3 (fun _=> rfl) (by decide) (fun ⟨⟨mc,ma,_⟩,p,q,_⟩=> hb mc ma p q ())
def ZoW:Zf U:=lvl [([0],[]),([0,5],[]),([2],[]),([2],[])]
abbrev Zzp(p:List Nat):=AW (Z6 Ziz) Try.f178 ZoW p
theorem Zxf(l:List Tree)(Q:QT)(h:let z0:=((l.length:Int):Int)==0;((z0=true->(Q .ret (L2 [(2,.c (.nils))] [])))/\(z0=false->(Q .ret (L2 [(2,.c (sU .op ([(OpOf.mk 2 0 l (Edit.mk 0 (Tree.mk 0 [] []) (Tree.mk 0 [] []) [] [] 0 []))]) .full))] []))))):
  Zzp [] (L2 [(0,.c (sU .tree l .unk))] []) Q:=
 Eq.mpr (by kernel_rfl) h
def ZsZ(l:List Tree):Prop:=AW (Z6 Ziz) Try.f178 ZoW [] (Zm (Zlf.can (l,())) []) (EQ Try.f178 (Zev (l,())) [])
theorem ZrK(hb:∀ (l:List Tree) (_:Unit),ZeM (l,())->ZsZ l):CT 178 Z6E:=
 Z4 (l:=[]) Zn rfl trivial ZoW Try.func178 rfl rfl 1 (fun _=> rfl) (by decide) (fun ⟨l,_⟩=> hb l ())
def ZoU:Zf U:=lvl [([1,2],[1,2]),([1,2,5],[1,2]),([2],[2]),([2],[2])]
abbrev Zzn(p:List Nat):=AW (Z6 Ziz) Try.f180 ZoU p
theorem Zxd(e:Edit)(Q:QT)(h:(((e.kind==0)=true->(Q .ret (L2 [pL 2] [(.loc 2,[ci 0,ci 1,.nils,ci 0,ci 0,.nils,.nils,ci 0,.nils,.nils,.nils,.nils,ci 0,.nils])])))/\((e.kind==0)=false->(Q .ret (L2 [pL 2] [(.loc 2,([ci 3,ci 0,.nils]++enc .edit e))]))))):
  Zzn [] (L2 [(0,.agg (enc .edit e))] []) Q:=
 Eq.mpr (by kernel_rfl) h
def ZsX(e:Edit):Prop:=AW (Z6 Ziz) Try.f180 ZoU [] (Zm (Zlm.can (e,())) []) (EQ Try.f180 (Zeu (e,())) [])
theorem ZrI(hb:∀ (e:Edit) (_:Unit),ZeL (e,())->ZsX e):CT 180 Z9Z:=
 Z4 (l:=[]) Zn rfl trivial ZoU Try.func180 rfl rfl 1 (fun _=> rfl) (by decide) (fun ⟨e,_⟩=> hb e ())
def Zpf:Zf U:=lvl [([0,1],[0,1]),([0,1],[0,1])]
abbrev ZzF(p:List Nat):=AW (Z6 Ziz) Try.f113 Zpf p
theorem ZxF(Q:QT)(h:(Q .ret (L2 [pL 0,pL 1] [(.loc 0,zc1),(.loc 1,zc1)]))):
  ZzF [] (L2 [] []) Q:=
 Eq.mpr (by kernel_rfl) h
def Ztp:Prop:=AW (Z6 Ziz) Try.f113 Zpf [] (Zm (Zlj.can ()) []) (EQ Try.f113 (Zi1 ()) [])
theorem Zs7(hb:∀ (_:Unit),Z8p ()->Ztp):CT 113 Za9:=
 Z4 (l:=[]) Zn rfl trivial Zpf Try.func113 rfl rfl 0 (fun _=> rfl) (by decide) (fun _=> hb ())
def Zkr:List (FuncId × Fs U):=[(26,Z1N)]
def ZoV:Zf U:=fun i=> match i with
 | 0=> ([(0,[]),(4,[]),(5,[])],[(.loc 4,[]),(.loc 5,[]),(.x 0,[]),(.x 1,[])])
 | 1=> ([(0,[]),(7,[])],[(.x 0,[]),(.x 1,[])])
 | 2=> ([(0,[]),(15,[])],[(.x 0,[]),(.x 1,[])])
 | 3=> ([(0,[])],[(.x 0,[]),(.x 1,[])])
 | 4=> ([],[(.x 0,[]),(.x 1,[])])
 | _=> ([],[])
abbrev Zzo(p:List Nat):=AW (Z6 Zkr) Try.f179 ZoV p
theorem Zxe(sm_:Unit)(sx sy:List Op)(si sh:List Tree)(e:Edit)(t:Tree)(mc ma:Bool)(Q:QT)(h:let z1:=Tree.mk t.kind t.words t.kids;let z0:=Edit.mk e.kind (Tree.mk e.old.kind e.old.words e.old.kids) (Tree.mk e.new.kind e.new.words e.new.kids) e.words e.kids e.list e.ops;((Z2O (z0,z1,()))/\(((!((doE false z0 z1).isSome))=true->(Q .normal (L2 [] [(.x 0,[.xp 1,sU .op sx (.own (.x 0 1)),sU .op sy (.own (.x 0 2)),sU .tree si (.own (.x 0 3)),sU .tree sh (.own (.x 0 4))]),(.x 1,[.bool true,.bool true])])))/\((!((doE false z0 z1).isSome))=false->(Q .normal (L2 [] [(.x 0,[.xp 1,sU .op sx (.own (.x 0 1)),sU .op sy (.own (.x 0 2)),sU .tree si (.own (.x 0 3)),sU .tree sh (.own (.x 0 4))]),(.x 1,[.bool true,.bool ma])])))))):
  Zzo [] (L2 [(0,.ptr (.x 0) 0),(1,.agg (enc .edit e)),(2,.agg (enc .tree t))] [(.x 0,[.xp 1,sU .op sx (.own (.x 0 1)),sU .op sy (.own (.x 0 2)),sU .tree si (.own (.x 0 3)),sU .tree sh (.own (.x 0 4))]),(.x 1,[.bool mc,.bool ma])]) Q:=
 Eq.mpr (by kernel_rfl) h
def ZsY(sm_:Unit)(sx sy:List Op)(si sh:List Tree)(e:Edit)(t:Tree)(mc ma:Bool):Prop:=AW (Z6 Zkr) Try.f179 ZoV [] (Zm (Zfy.can ((sm_,sx,sy,si,sh,()),e,t,(mc,ma,()),())) (Zfy.canX ((sm_,sx,sy,si,sh,()),e,t,(mc,ma,()),()))) (EQ Try.f179 (ZnV ((sm_,sx,sy,si,sh,()),e,t,(mc,ma,()),())) (Zac ((sm_,sx,sy,si,sh,()),e,t,(mc,ma,()),())))
theorem ZrJ(c26:CT 26 Z1N)(hb:∀ (sm_:Unit) (sx:List Op) (sy:List Op) (si:List Tree) (sh:List Tree) (e:Edit) (t:Tree) (mc:Bool) (ma:Bool) (_:Unit),ZbI ((sm_,sx,sy,si,sh,()),e,t,(mc,ma,()),())->ZsY sm_ sx sy si sh e t mc ma):CT 179 Za0:=
 Yf (l:=[(26,Z1N)]) Zn rfl (⟨c26,trivial⟩) ZoV Try.func179 rfl rfl 3 (fun _=> rfl) (by decide) (fun ⟨⟨sm_,sx,sy,si,sh,_⟩,e,t,⟨mc,ma,_⟩,_⟩=> hb sm_ sx sy si sh e t mc ma ())
end
theorem ZvX:Contract Try.prog cfg 155 Za6:=by
 refine ZrW c66 ?_
 intro w m _ hp
 simp only [ZbM] at hp
 obtain ⟨hw,hm0,hm1⟩:=hp
 refine Zxs _ _ _ ?_
 intros;(simp only [vcT,vcS])
 have rm:=(Z5y ⟨hm0,hm1⟩ hw.1.2.1).1
 refine ⟨⟨⟨by omega,by omega⟩,hw.1.2.2.1,rm⟩,⟨⟨by omega,by omega⟩,hw.1.2.2.2,rm⟩,?_⟩
 have e:(IntKind.u8.wrap (BitVec.ofInt (IntKind.bits .u8) m &&& BitVec.ofInt (IntKind.bits .u8) w.mask).toNat !=0)=decide (Z0y m w.mask≠0):=by
  show (Z0y m w.mask !=0)=_
  by_cases h:Z0y m w.mask=0 <;> simp [h]
 rw [e]
 simp only [ZhZ,ZdL]
 (repeat' (first | exact trivial | exact rfl | apply And.intro))
theorem ZvY:Contract Try.prog cfg 154 Za7:=by
 refine ZrX c66 ?_
 intro mc ma p q _ hp
 simp only [ZeU] at hp
 obtain ⟨hp,hq⟩:=hp
 refine Zxt _ _ _ _ _ ?_
 intro y1 hy1
 have e:IntKind.wrap .u8 y1.toNat=Z0y p.mask q.mask:=by rw [hy1];try rfl
 (simp only [vcT,vcS])
 rw [e]
 have rm:=(Z5y hp.1.2.1 hq.1.2.1).1
 have r0:(0:Int)<=0/\(0:Int) < 18446744073709551616:=⟨by omega,by omega⟩
 refine ⟨⟨r0,hp.1.2.2.1,rm⟩,⟨r0,hq.1.2.2.1,rm⟩,fun h=> ?_,fun h=> ⟨⟨r0,hp.1.2.2.2,rm⟩,⟨r0,hq.1.2.2.2,rm⟩,fun h2=> ?_,fun h2=> ?_⟩⟩
 ·have a1:Yj p q=true:=by simp [Yj,h]
  simp only [Z6V,a1,Xq,K0,Qx,Xo]
  (repeat' (first | exact trivial | exact rfl | apply And.intro))
 ·have a1:Yj p q=false:=by simp [Yj,h]
  have a2:JY p q=true:=by simp [JY,h2]
  simp only [Z6V,a1,a2,XB,QF,Qx,Xo]
  (repeat' (first | exact trivial | exact rfl | apply And.intro))
 ·have a1:Yj p q=false:=by simp [Yj,h]
  have a2:JY p q=false:=by simp [JY,h2]
  simp only [Z6V,a1,a2,XB,QF,Qx]
  (repeat' (first | exact trivial | exact rfl | apply And.intro))
theorem ZvO:Contract Try.prog cfg 178 Z6E:=by
 refine ZrK ?_
 intro l _ hp
 refine Zxf _ _ ?_
 (simp only [vcT,vcS])
 refine ⟨fun h=> ?_,fun h=> ?_⟩
 ·have:l=[]:=Xh.1 (by omega)
  simp only [Zev,Z30,if_pos this]
  (repeat' (first | exact trivial | exact rfl | apply And.intro))
 ·have:l≠[]:=fun e=> h (by rw [e];rfl)
  simp only [Zev,Z30,if_neg this]
  (repeat' (first | exact trivial | exact rfl | apply And.intro))
theorem ZvM:Contract Try.prog cfg 180 Z9Z:=by
 refine ZrI ?_
 intro e _ hp
 refine Zxd _ _ ?_
 (simp only [vcT,vcS])
 refine ⟨fun h=> ?_,fun h=> ?_⟩
 ·simp only [Zeu,Z3K,if_pos h]
  (repeat' (first | exact trivial | exact rfl | apply And.intro))
 ·simp only [Zeu,Z3K,if_neg h]
  (repeat' (first | exact trivial | exact rfl | apply And.intro))
theorem Zw4:Contract Try.prog cfg 113 Za9:=by
 refine Zs7 ?_
 intro _ hp
 refine ZxF _ ?_
 simp only [Zi1]
 (repeat' (first | exact trivial | exact rfl | apply And.intro))
theorem ZvN:Contract Try.prog cfg 179 Za0:=by
 refine ZrJ c26 ?_
 intro sm_ sx sy si sh e t mc ma _ hp
 simp only [ZbI] at hp
 refine Zxe sm_ _ _ _ _ _ _ _ _ _ ?_
 (simp only [vcT,vcS])
 simp only [Tree.eta,Edit.eta]
 refine ⟨hp,fun h=> ?_,fun h=> ?_⟩
 ·simp only [Zac,h,XB,Xo]
  (repeat' (first | exact trivial | exact rfl | apply And.intro))
 ·simp only [Zac,h,Xq,Qx]
  (repeat' (first | exact trivial | exact rfl | apply And.intro))
end Go.AM.Ytpjenobkibfpcaa
