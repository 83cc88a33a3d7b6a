import Derived.Test.YtfapacabjkhepaaGreatWCL25l
import Derived.Test.YtfapacabjkhepaaGreatWKL22m
import Derived.Test.YtfapacabjkhepaaGreatWKL07
set_option linter.unusedSimpArgs false
set_option linter.unusedVariables false
namespace Go.AM.YtfapacabjkhepaaGreat
open Go.AM Go.Proofs
mutual
def utE:Edit->Nat
 | .mk _ o n w ks _ os=> 16+Zm o+Zm n+65600*w.length+Z5S ks+JZ os
def Z5S:List (KidOf Edit)->Nat
 | []=> 0
 | k ::r=> Zef k+Z5S r
def Zef:KidOf Edit->Nat
 | ⟨_,e⟩=> 65600+utE e
def JZ:List (OpOf Edit)->Nat
 | []=> 0
 | o ::r=> Z8x o+JZ r
def Z8x:OpOf Edit->Nat
 | ⟨k,n,l,e⟩=> if k=3 then 16+utE e else 34*(n.toNat+l.length)+Zk l
end
theorem Zeg(e:Edit):utE e=16+Zm e.old+Zm e.new+65600*e.words.length+Z5S e.kids+JZ e.ops:=by cases e;rfl
theorem Z5W(k:Kid):Zef k=65600+utE k.e:=by cases k;rfl
theorem Z1N(o:Op):Z8x o=if o.kind=3 then 16+utE o.e else 34*(o.n.toNat+o.l.length)+Zk o.l:=by cases o;rfl
theorem Zig(e:Edit):18<=utE e:=by
 have:=Zeg e
 have:=ZR e.old
 have:=ZR e.new
 omega
theorem Z4c:∀ (a b:List Op),JZ (a++b)=JZ a+JZ b
 | [],b=> by simp [JZ]
 | o ::r,b=> by simp only [Qk,JZ,Z4c r b];omega
theorem Zgu:∀ (n:Nat) (e:Edit),Z8 e<=n->(∃ d,Z9 e d=true)->ctE e<=utE e:=by
 intro n
 induction n with
 | zero=> intro e h;have:=Z1P e;omega
 | succ n ih=>
  intro e hn ⟨d,hr⟩
  have R:=Zo hr
  have hk:∀ l:List Kid,(∀ k∈l,k∈e.kids)->Z0o l<=Z5S l:=by
   intro l
   induction l with
   | nil=> intro _;trivial
   | cons a r ihl=>
    intro h
    have ha:=h a Q3
    have:=Y6 ha
    have:=ih a.e YL ⟨_,(Zq R.kids a ha).2⟩
    have:=ihl fun k hk=> h k (Q0 _ hk)
    simp only [Z0o,Z5S,Z23,Z5W];omega
  have ho:∀ l:List Op,(∀ o∈l,o∈e.ops)->J2 l<=JZ l:=by
   intro l
   induction l with
   | nil=> intro _;trivial
   | cons a r ihl=>
    intro h
    have ha:=h a Q3
    have:=ihl fun k hk=> h k (Q0 _ hk)
    have hr:=rightOs_mem R.ops ha
    have key:Z3l a<=Z8x a:=by
     have me:=Z05 ha
     rw [Z3O,Z1N]
     have rt:=Y0 hr
     cases rt with
     | keep n h1 h2=> rw [if_neg (show ¬(0:Int)=3 by decide),Z3k];grind
     | gone l h1 h2=> rw [if_neg (show ¬(1:Int)=3 by decide),Z3k];grind
     | come l h1 h2=> rw [if_neg (show ¬(2:Int)=3 by decide),Z3k];grind
     | into e' h1 h2=>
      rw [if_pos rfl]
      have:=ih e' (by grind) ⟨_,h1⟩
      simp only [Zk];omega
    simp only [J2,JZ];omega
  have:=hk e.kids fun k h=> h
  have:=ho e.ops fun k h=> h
  rw [Jz,Zeg];omega
theorem Ztw:∀ (n:Nat) (e:Edit),Z8 e<=n->(∃ d,Z9 e d=true)->Z2d e=true->utE e+131100<=65600*Z8 e+150000*Z8 e:=by
 intro n
 induction n with
 | zero=> intro e h;have:=Z1P e;omega
 | succ n ih=>
  intro e hn ⟨d,hr⟩ hl
  have R:=Zo hr
  have hm:=Z1P e
  have me:Z8 e=1+Zm e.old+Zm e.new+e.words.length+e.ops.length+Zy e.kids+Zn e.ops:=by cases e;rfl
  have mo:=ZR e.old
  have mn:=ZR e.new
  rw [ZhG,Q2,Q2,decide_eq_true_eq] at hl
  obtain ⟨⟨l1,l2⟩,l3⟩:=hl
  have hk:∀ l:List Kid,(∀ k∈l,k∈e.kids)->Z2v l=true->Z5S l<=215600*Zy l:=by
   intro l
   induction l with
   | nil=> intro _ _;trivial
   | cons a r ihl=>
    intro h hl
    simp only [Z2v,Q2,Zdh] at hl
    have ha:=h a Q3
    have:=Y6 ha
    have:=ih a.e YL ⟨_,(Zq R.kids a ha).2⟩ hl.1
    have:=ihl (fun k hk=> h k (Q0 _ hk)) hl.2
    simp only [Z5S,Zy,Z5W,Z4y];omega
  have ook:=ZO hr
  have ho:∀ l:List Op,(∀ o∈l,o∈e.ops)->Z3M l=true->(JZ l:Int)<=215600*Zn l+34*Z47 l+16*l.length:=by
   intro l
   induction l with
   | nil=> intro _ _;trivial
   | cons a r ihl=>
    intro h hl
    simp only [Z3M,Q2,Zga] at hl
    have ha:=h a Q3
    have:=ihl (fun k hk=> h k (Q0 _ hk)) hl.2
    have hr:=rightOs_mem R.ops ha
    have key:(Z8x a:Int)<=215600*Zt a+34*Z3 a+16:=by
     have me:=Z05 ha
     have ml:=Zv a.l
     rw [Z1N,ZG]
     have rt:=Y0 hr
     have hp:=Yr a
     cases rt with
     | keep n h1 h2=> grind
     | gone l h1 h2=> grind
     | come l h1 h2=> grind
     | into e' h1 h2=>
      rw [if_pos rfl] at hp ⊢
      have:=ih e' (by grind) ⟨_,h1⟩ hl.1
      grind
    simp only [JZ,Zn,Z47,Q7];omega
  have h1:=hk e.kids (fun k h=> h) l2
  have h2:=ho e.ops (fun k h=> h) l3
  have h3:=kids_sum ook
  have h4:Ju e.ops<=2000/\JE e.ops<=2000:=by
   have ok:∀ o∈e.ops,0<=Z3 o:=fun o ho=> YR (ook o ho)
   have a:=Z0w e.ops 0 ok V2 V2
   have b:=Z0v e.ops 0 ok V2 V2
   omega
  rw [Zeg,me]
  omega
where
 kids_sum:∀ {l:List Op},(∀ o∈l,ZQ o)->Z47 l<=Ju l+JE l
  | [],_=> by trivial
  | o ::r,h=> by
   have h1:=ZY (h o Q3)
   have h2:=kids_sum fun x hx=> h x (Q0 _ hx)
   simp only [Z47,Ju,JE]
   omega
theorem ZyB(e:Edit):ux ⟨3,0,[],e⟩=[⟨3,0,[],e⟩]:=(Zed (o:=⟨3,0,[],e⟩) (.inr (.inr ⟨rfl,rfl,rfl⟩)) rfl).1
theorem ZmM {f:Edit->Edit->Edit × Bool} {alone:Int} {x:Piece} {m:List APair} (hof:x.of=0\/x.of=1\/x.of=2) (ha:∀ y∈m,y.of=x.of)
  (hp:x.of≠2->ZQ x.p/\Z3 x.p=m.length/\Z5O x.p alone (m.map APair.p)) (hq:x.of≠1->ZQ x.q/\Z3 x.q=m.length/\Z5O x.q 2 (m.map APair.q))
  (hb:x.of=0->x.p.kind≠1/\x.q.kind≠2):
  Yb f m=if (ZM f x).ok then some (if (ZM f x).is then ux (ZM f x).op else []) else none:=by
 have single:∀ (o:Op) (h:APair->Op),(∀ y∈m,rp f y=([h y],true))->m.map h=ux o->ZM f x=⟨o,true,true⟩->Yb f m=if (ZM f x).ok then some (if (ZM f x).is then ux (ZM f x).op else []) else none:=by
  intro o h h1 h2 h3
  rw [ZbK f h m h1,h2,h3]
  try rfl
 by_cases c1:x.of=1
 .obtain ⟨o1,o2,o3⟩:=hp YL
  refine single x.p (fun y=> opU y.p) (fun y hy=> ?_) ?_ (by unfold ZM;grind)
  .unfold rp;grind
  .rw [<-Z1T o3,QR];try rfl
 by_cases c2:x.of=2
 .obtain ⟨o1,o2,o3⟩:=hq YL
  refine single x.q (fun y=> opU y.q) (fun y hy=> ?_) ?_ (by unfold ZM;grind)
  .unfold rp;grind
  .rw [<-Z1T o3,QR];try rfl
 have c0:x.of=0:=YL
 obtain ⟨p1,p2,p3⟩:=hp YL
 obtain ⟨q1,q2,q3⟩:=hq YL
 obtain ⟨b1,b2⟩:=hb c0
 have up:=Z1T p3
 have uq:=Z1T q3
 have kp:∀ y∈m,y.p.kind=x.p.kind:=fun y hy=> by
  have:opU y.p∈ux x.p:=by rw [<-up];exact Xc (Xc hy)
  rw [<-Z4s];exact ZdN this
 have kq:∀ y∈m,y.q.kind=x.q.kind:=fun y hy=> by
  have:opU y.q∈ux x.q:=by rw [<-uq];exact Xc (Xc hy)
  rw [<-Z4s];exact ZdN this
 have hr:∀ y∈m,rp f y=JJ f y.p y.q:=fun y hy=> by
  unfold rp;grind
 by_cases q0:x.q.kind=0
 .refine single x.p (fun y=> opU y.p) (fun y hy=> ?_) ?_ (by unfold ZM;grind)
  .rw [hr y hy,JJ,if_pos (by grind)]
  .rw [<-up,QR];try rfl
 by_cases p0:x.p.kind=0
 .refine single x.q (fun y=> opU y.q) (fun y hy=> ?_) ?_ (by unfold ZM;grind)
  .rw [hr y hy,JJ,if_neg (by grind),if_pos (by grind)]
  .rw [<-uq,QR];try rfl
 have kp':x.p.kind=2\/x.p.kind=3:=by rcases YQ p1 with k | k | k | k <;> omega
 have kq':x.q.kind=1\/x.q.kind=3:=by rcases YQ q1 with k | k | k | k <;> omega
 by_cases pq:x.p.kind=2/\x.q.kind=1
 .obtain ⟨t1,_⟩:=Z13 (k:=2) (.inr rfl) (l:=x.p.l) (m:=m.map APair.p) (by rw [up,Z1j (.inr pq.1),pq.1])
  obtain ⟨t2,_⟩:=Z13 (k:=1) (.inl rfl) (l:=x.q.l) (m:=m.map APair.q) (by rw [uq,Z1j (.inl pq.2),pq.2])
  have t1:x.p.l=m.map fun y=> y.p.t:=by rw [QR] at t1;exact t1
  have t2:x.q.l=m.map fun y=> y.q.t:=by rw [QR] at t2;exact t2
  have hc:ZM f x=⟨Op.nil,false,ZnK x.p.l x.q.l⟩:=by
   unfold ZM
   rw [V0,V0,if_pos pq]
   congr 1
   rw [Ql (by rw [t1,t2];simp)]
  obtain ⟨e1,e2⟩:=ZbI f m fun y hy=> ⟨by grind,by grind,by grind⟩
  rw [hc]
  dsimp only
  unfold ZnK
  rw [t1,t2]
  by_cases he:Zb (m.map fun y=> y.p.t)=Zb (m.map fun y=> y.q.t)
  .simp_all
  .rw [e2 he,if_neg (by rw [JI];exact he)]
 have hm1:m.length=1:=by
  have:Z3 x.p=1\/Z3 x.q=1:=by
   by_cases h:x.p.kind=3
   .exact .inl (JT h)
   .exact .inr (JT YL)
  omega
 obtain ⟨y,rfl⟩:∃ y,m=[y]:=by
  match m,hm1 with
  | [y],_=> grind
 have ky:=kp y Q3
 have kz:=kq y Q3
 have e1:Yb f [y]=if (JJ f y.p y.q).2 then some (JJ f y.p y.q).1 else none:=by
  rw [JH,hr y Q3]
  split
  .simp [Yb]
  .try rfl
 rw [e1]
 simp only [Qo,QQ] at up uq
 by_cases p2':x.p.kind=2
 .have q3':x.q.kind=3:=YL
  rw [Z1j (.inr p2')] at up
  obtain ⟨e2,_⟩:=Zed q1 q3'
  rw [e2] at uq
  have et:x.p.l=[y.p.t]:=by
   have:=(Z13 (k:=2) (.inr rfl) (l:=x.p.l) (m:=[y.p]) (by grind)).1
   simpa using this
  have ee:y.q.e=x.q.e:=by
   have h:=(List.cons.inj uq).1
   unfold opU at h
   rw [V0,V1] at h
   injection h
  have hc:ZM f x=⟨⟨2,0,[Yc (doE true y.q.e y.p.t)],Edit.nil⟩,true,(doE true y.q.e y.p.t).isSome⟩:=by
   unfold ZM
   rw [V0,V0,if_neg pq,if_pos p2',et,ee]
   simp only [Qp,doB,Z0x,Xr]
  have hu:JJ f y.p y.q=([⟨2,0,[Yc (doE true y.q.e y.p.t)],Edit.nil⟩],(doE true y.q.e y.p.t).isSome):=by
   unfold JJ
   grind
  rw [hc,hu]
  try rfl
 have p3':x.p.kind=3:=YL
 obtain ⟨e2,_⟩:=Zed p1 p3'
 rw [e2] at up
 have eep:y.p.e=x.p.e:=by
  have h:=(List.cons.inj up).1
  unfold opU at h
  rw [V0,V1] at h
  injection h
 by_cases q1':x.q.kind=1
 .rw [Z1j (.inl q1')] at uq
  have et:x.q.l=[y.q.t]:=by
   have:=(Z13 (k:=1) (.inl rfl) (l:=x.q.l) (m:=[y.q]) (by grind)).1
   simpa using this
  have hc:ZM f x=⟨⟨1,0,[Yc (doE true (Zz (Zs y.p.e)) y.q.t)],Edit.nil⟩,true,(doE true (Zz (Zs y.p.e)) y.q.t).isSome⟩:=by
   unfold ZM
   rw [V0,V0,if_neg pq,if_neg p2',if_pos q1',et,eep]
   simp only [Qp,doB,Z0x,Xr]
  have hu:JJ f y.p y.q=([⟨1,0,[Yc (doE true (Zz (Zs y.p.e)) y.q.t)],Edit.nil⟩],(doE true (Zz (Zs y.p.e)) y.q.t).isSome):=by
   unfold JJ
   grind
  rw [hc,hu]
  try rfl
 have q3':x.q.kind=3:=YL
 obtain ⟨e3,_⟩:=Zed q1 q3'
 rw [e3] at uq
 have eeq:y.q.e=x.q.e:=by
  have h:=(List.cons.inj uq).1
  unfold opU at h
  rw [V0,V1] at h
  injection h
 have hc:ZM f x=⟨⟨3,0,[],(f x.p.e x.q.e).1⟩,true,(f x.p.e x.q.e).2⟩:=by
  unfold ZM
  grind
 have hu:JJ f y.p y.q=([⟨3,0,[],(f x.p.e x.q.e).1⟩],(f x.p.e x.q.e).2):=by
  unfold JJ
  grind
 rw [hc,hu]
 try rfl
theorem Za3{f:Edit->Edit->Edit × Bool}{alone:Int}{p0 q0:List Op}:∀ {ps:List Piece} {m:List APair},Zcy alone ps m->(∀ x∈ps,POk p0 q0 x)->Yb f m=(JW f ps).map fun l=> l.flatMap ux
 | [],m,h,_=> by
  have h:m=[]:=h
  subst h
  try rfl
 | x ::r,m,h,hok=> by
  rw [Z24] at h
  obtain ⟨m1,m2,rfl,hm,⟨hof,_,ha,hp,hq⟩,hr⟩:=h
  have ih:=Za3 (f:=f) hr (fun y hy=> hok y (Q0 _ hy))
  have hx:=hok x Q3
  have j:=ZmM (f:=f) hof ha (fun h=> ⟨(hp h).1,(hp h).2.2⟩) (fun h=> ⟨(hq h).1,(hq h).2.2⟩) (fun h=> ⟨(hx.both h).1,(hx.both h).2.1⟩)
  rw [ZbJ,j,JW]
  by_cases hc:(ZM f x).ok=true
  .rw [if_pos hc,if_pos hc,Qm,ih]
   cases JW f r with
   | none=> rfl
   | some l=>
    grind
  grind
theorem Zlj{f:Edit->Edit->Edit × Bool}{p q:List Op}(hp:okL p)(hq:okL q):Z3G f p q=(Z0y f p q).map fun l=> l.flatMap ux:=by
 obtain ⟨ok,l,m,e1,e2,e3,e4⟩:=ZkU 1 (.inl rfl) _ p q [] (ZE 0 1 p) (ZE 0 2 q) [] (Q8 _) hp hq (Z4b 1 p 0) (Z4b 2 q 0)
 obtain ⟨i1,_⟩:=Z4q _ p q [] (Q8 _) (fun o ho=> (hp o ho).1) (fun o ho=> (hq o ho).1)
 unfold Z0y Z3G
 rw [e2,e3,e1]
 cases ok with
 | false=> rfl
 | true=>
  obtain ⟨ps,e,hps,_,_⟩:=i1 e2
  rw [e1,if_pos rfl] at e
  simp only [Qq] at e
  subst e
  simp only [if_true,Qq]
  exact Za3 (e4 rfl).1 hps
theorem Ztt{list:Int}{o:Op}(h:Zc list o (-2)=true)(g:YJ o):∀ y∈ux o,Zc list y (-2)=true/\YJ y:=by
 have ho:=Z0F h
 have G:=Jr g
 have R:=Y0 h
 intro y hy
 cases R with
 | keep n h1 h2=>
  rw [(Ztu ho rfl).1] at hy
  rw [Xu hy]
  exact ⟨Zpg V2 V2 _,J1 V2 V2,J1 V2 V2,trivial,G.2.2.2⟩
 | gone l h1 h2=>
  rw [Z1j (.inl rfl)] at hy
  obtain ⟨t,ht,rfl⟩:=X4.1 hy
  exact ⟨Z4r (.inl rfl) (Z1s fun x hx=> by rw [Qg.1 hx];exact Z0P h1 t ht) (by simp),G.1,J1 V2 V2,⟨YZ G.2.2.1 ht,trivial⟩,G.2.2.2⟩
 | come l h1 h2=>
  rw [Z1j (.inr rfl)] at hy
  obtain ⟨t,ht,rfl⟩:=X4.1 hy
  exact ⟨Z4r (.inr rfl) (Z1s fun x hx=> by rw [Qg.1 hx];exact Z0P h1 t ht) (by simp),G.1,J1 V2 V2,⟨YZ G.2.2.1 ht,trivial⟩,G.2.2.2⟩
 | into e h1 h2=>
  rw [ZyB] at hy
  grind
theorem Z2W(φ:Op->Int)(h:Tree->Op)(c:Tree->Int)(hc:∀ t,φ (h t)=c t):∀ l:List Tree,Y4 φ (l.map h)=(l.map c).sum
 | []=> rfl
 | t ::r=> by simp only [Qo,Y4,hc,List.sum_cons,Z2W φ h c hc r]
theorem Z9r(φ:Op->Int)(o:Op):∀ n:Nat,Y4 φ (List.replicate n o)=n*φ o
 | 0=> by simp [Y4]
 | n+1=> by
  rw [Xw,Y4,Z9r φ o n]
  grind
theorem Z6X(φ:Op->Int)(h:∀ o,ZQ o->Y4 φ (ux o)=φ o):∀ {l:List Op},(∀ o∈l,ZQ o)->Y4 φ (l.flatMap ux)=Y4 φ l
 | [],_=> rfl
 | o ::r,hl=> by
  rw [Xh,Zk9,h o (hl o Q3),Z6X φ h fun x hx=> hl x (Q0 _ hx)];try rfl
theorem Z4R(c:Int):∀ l:List Tree,(l.map fun _=> c).sum=l.length*c
 | []=> by simp
 | t ::r=> by
  rw [Qo,List.sum_cons,Z4R c r,Q7]
  grind
theorem ZJB{o:Op}(h:ZQ o):Y4 φA (ux o)=φA o:=by
 rcases YQ h with k | k | k | k
 .obtain ⟨e,hn⟩:=Ztu h k.1
  rw [e,Z9r]
  have e1:φA ⟨0,1,[],Edit.nil⟩=1:=rfl
  rw [e1]
  unfold φA
  rw [V0,Za8 h k.1]
  omega
 .rw [Z1j (.inl k),Z2W φA _ (fun _=> 1) (fun t=> by unfold φA;rw [if_neg (by grind)];unfold Z3;grind),Z4R]
  unfold φA
  rw [V0,Z03 h (.inl k)];omega
 .rw [Z1j (.inr k),Z2W φA _ (fun _=> 0) (fun t=> by unfold φA;rw [if_pos k]),Z4R]
  unfold φA
  omega
 .obtain ⟨e1,e2⟩:=Zed h k
  rw [e1,<-e2];simp [Y4]
theorem ZJA{o:Op}(h:ZQ o):Y4 φB (ux o)=φB o:=by
 rcases YQ h with k | k | k | k
 .obtain ⟨e,hn⟩:=Ztu h k.1
  rw [e,Z9r]
  have e1:φB ⟨0,1,[],Edit.nil⟩=1:=rfl
  rw [e1]
  unfold φB
  rw [V0,Za8 h k.1]
  omega
 .rw [Z1j (.inl k),Z2W φB _ (fun _=> 0) (fun t=> by unfold φB;rw [if_pos k]),Z4R]
  unfold φB
  omega
 .rw [Z1j (.inr k),Z2W φB _ (fun _=> 1) (fun t=> by unfold φB;rw [if_neg (by grind)];unfold Z3;grind),Z4R]
  unfold φB
  rw [V0,Z03 h (.inr k)];omega
 .obtain ⟨e1,e2⟩:=Zed h k
  rw [e1,<-e2];simp [Y4]
def φU(o:Op):Int:=Z8x o
theorem ZbA:∀ l,Y4 φU l=JZ l
 | []=> rfl
 | o ::r=> by simp only [Y4,JZ,φU,ZbA r];omega
theorem Zg0:∀ l:List Tree,(l.map fun t=> ((34+Zm t:Nat):Int)).sum=34*l.length+Zk l
 | []=> rfl
 | t ::r=> by rw [Qo,List.sum_cons,Zg0 r];simp only [Zk,Q7];omega
theorem ZJz{o:Op}(h:ZQ o):Y4 φU (ux o)=φU o:=by
 have hu:=Z1N o
 rcases YQ h with k | k | k | k
 .obtain ⟨e,hn⟩:=Ztu h k.1
  have hl:o.l=[]:=by rcases h with h | h | h <;> first | exact h.2.1 | omega
  rw [e,Z9r]
  have e1:φU ⟨0,1,[],Edit.nil⟩=34:=rfl
  rw [e1]
  unfold φU
  rw [hu,V0,hl]
  simp only [Zk,Qj]
  omega
 .have hn:o.n=0:=by rcases h with h | h | h <;> first | exact h.2.1 | omega
  rw [Z1j (.inl k),Z2W φU _ (fun t=> ((34+Zm t:Nat):Int)) (fun t=> by unfold φU;rw [Z1N,if_neg (by grind)];simp [Zk]),Zg0]
  unfold φU
  grind
 .have hn:o.n=0:=by rcases h with h | h | h <;> first | exact h.2.1 | omega
  rw [Z1j (.inr k),Z2W φU _ (fun t=> ((34+Zm t:Nat):Int)) (fun t=> by unfold φU;rw [Z1N,if_neg (by grind)];simp [Zk]),Zg0]
  unfold φU
  grind
 .obtain ⟨e1,e2⟩:=Zed h k
  rw [e1,<-e2];simp [Y4]
theorem ZC7:Zo8 φU:=by
 intro o n ho h1 hn
 have hl:=Yr o
 unfold φU
 rw [Z1N,Z1N,Z1N,Z0E,Z9d]
 unfold ZD JX
 rw [if_neg hn]
 rcases ho with ⟨k0,k1,k2,k3⟩ | ⟨k0,k1,k2,k3⟩ | ⟨k0,k1,k2⟩
 .rw [if_pos k0,if_pos k0,V0,V0,V0]
  rw [V0,k1] at hl
  dsimp only
  rw [k1]
  simp only [Zk,Qj] at*
  omega
 .rw [V0,V0,V0,V0,V0]
  rw [V0] at hl
  dsimp only
  have:=YY (o.l.take n.toNat) (o.l.drop n.toNat)
  rw [QH] at this
  grind
 omega
theorem ZCQ{l:List Op}{o:Op}(h:Part l o):∃ o'∈l,o.kind=o'.kind/\o.e=o'.e:=by obtain ⟨o',a,b,c,_⟩:=h;grind
theorem ZzV {f:Edit->Edit->Edit × Bool} {p q:Edit} (wp:Wk p) (wq:Wk q)
  (ih:∀ a b,Z8 a+Z8 b < Z8 p+Z8 q->Wk a->Wk b->(f a b).2=true->utE (f a b).1+18<=utE a+utE b) {ps:List Piece} (e:(Y3 1 2 p.ops q.ops []).1=ps) (hb1:(Y3 1 2 p.ops q.ops []).2.1=true) {ops:List Op} (hc:JW f ps=some ops):
  JZ ops<=JZ p.ops+JZ q.ops:=by
 have gp:=ZU wp.g
 have gq:=ZU wq.g
 have op:=ZO wp.r
 have oq:=ZO wq.r
 have wk3:∀ {e:Edit},Wk e->∀ {o:Op},Part e.ops o->o.kind=3->Z8 o.e < Z8 e/\Wk o.e:=by
  intro e w o h k
  obtain ⟨o',m,k1,e1⟩:=ZCQ h
  rw [e1]
  exact ⟨Z05 m,.of (Jo (rightOs_mem (Zo w.r).ops m) YL) (Jr (JN (ZU w.g).2.2.2.2 m)).2.2.2⟩
 obtain ⟨i1,_⟩:=Z4q _ p.ops q.ops [] (Q8 _) op oq
 obtain ⟨ps0,e0,hps,_,_⟩:=i1 hb1
 obtain ⟨ps1,e1,sA,sB,_⟩:=Za6 ZC7 ZC7 1 _ p.ops q.ops [] (Q8 _) op oq hb1
 rw [e,Qq] at e0 e1
 subst e0 e1
 have one:∀ x∈ps,(ZM f x).ok=true->(ZM f x).is=true->φU (ZM f x).op<=(if x.of=2 then 0 else φU x.p)+(if x.of=1 then 0 else φU x.q):=by
  intro x hx hok
  have X:=hps x hx
  have unn:∀ o:Op,0<=φU o:=fun o=> by unfold φU;omega
  have n1:=unn x.p
  have n2:=unn x.q
  unfold ZM at hok ⊢
  by_cases c1:x.of=1\/(x.of=0/\x.q.kind=0)
  .grind
  rw [if_neg c1] at hok ⊢
  by_cases c2:x.of=2\/x.p.kind=0
  .grind
  rw [if_neg c2] at hok ⊢
  have c0:x.of=0:=by rcases X.of with h | h | h <;> omega
  obtain ⟨b1,b2,b3⟩:=X.both c0
  have h1:x.of≠1:=YL
  have h2:x.of≠2:=YL
  obtain ⟨pp,ok1⟩:=X.pp h2
  obtain ⟨pq,ok2⟩:=X.qq h1
  have kp:x.p.kind=2\/x.p.kind=3:=by rcases YQ ok1 with k | k | k | k <;> omega
  have kq:x.q.kind=1\/x.q.kind=3:=by rcases YQ ok2 with k | k | k | k <;> omega
  rw [if_neg h2,if_neg h1]
  have up:φU x.p=Z8x x.p:=rfl
  have uq:φU x.q=Z8x x.q:=rfl
  rw [Z1N] at up uq
  by_cases c3:x.p.kind=2/\x.q.kind=1
  .grind
  rw [if_neg c3] at hok ⊢
  have one12:∀ {o:Op},(o.kind=1\/o.kind=2)->Z3 o=1->ZQ o->∃ t,o.l=[t]:=by
   intro o k h1 ho
   have hlen:=Z03 ho k
   have hl1:o.l.length=1:=YL
   match h:o.l,hl1 with
   | [t],_=> exact ⟨t,rfl⟩
  by_cases c4:x.p.kind=2
  .rw [if_pos c4] at hok ⊢
   have q3':x.q.kind=3:=YL
   have hl1:Z3 x.q=1:=JT q3'
   obtain ⟨t,ht⟩:=one12 (.inr c4) YL ok1
   obtain ⟨_,w⟩:=wk3 wq pq q3'
   rw [ht,Qp] at hok ⊢
   dsimp only at hok ⊢
   obtain ⟨v,hv,ev⟩:=Z6N hok
   intro _
   rw [ev]
   have m1:=Z1O false _ _ _ v w.r hv
   have m2:=ZK v
   have m3:=Zgu _ x.q.e (Q8 _) ⟨_,w.r⟩
   rw [V0,ht] at up
   rw [if_pos q3'] at uq
   have:φU ⟨2,0,[Z5 v],Edit.nil⟩=34+Zm (Z5 v):=rfl
   rw [this]
   simp only [Zk,Q7,Qj] at up
   omega
  rw [if_neg c4] at hok ⊢
  have p3':x.p.kind=3:=YL
  have hl0:Z3 x.p=1:=JT p3'
  obtain ⟨mp,w⟩:=wk3 wp pp p3'
  by_cases c5:x.q.kind=1
  .rw [if_pos c5] at hok ⊢
   obtain ⟨t,ht⟩:=one12 (.inl c5) YL ok2
   rw [ht,Qp] at hok ⊢
   dsimp only at hok ⊢
   obtain ⟨v,hv,ev⟩:=Z6N hok
   intro _
   rw [ev]
   have m1:=Z1O false _ _ _ v w.turn.r hv
   have m2:=ZK v
   have m3:=Zgu _ x.p.e (Q8 _) ⟨_,w.r⟩
   have m4:=Z49 (Zs x.p.e)
   rw [Z5F] at m4
   rw [V0,ht] at uq
   rw [if_pos p3'] at up
   have:φU ⟨1,0,[Z5 v],Edit.nil⟩=34+Zm (Z5 v):=rfl
   rw [this]
   simp only [Zk,Q7,Qj] at uq
   omega
  rw [if_neg c5] at hok ⊢
  have q3':x.q.kind=3:=YL
  obtain ⟨mq,w'⟩:=wk3 wq pq q3'
  dsimp only at hok ⊢
  intro _
  have H:=ih x.p.e x.q.e YL w w' hok
  rw [if_pos p3'] at up
  rw [if_pos q3'] at uq
  have:φU ⟨3,0,[],(f x.p.e x.q.e).1⟩=16+utE (f x.p.e x.q.e).1:=rfl
  rw [this]
  omega
 have all:∀ (ps:List Piece) (ops:List Op),(∀ x∈ps,(ZM f x).ok=true->(ZM f x).is=true->φU (ZM f x).op<=(if x.of=2 then 0 else φU x.p)+(if x.of=1 then 0 else φU x.q))->JW f ps=some ops->
   Y4 φU ops<=Y4 φU (Z2h ps)+Y4 φU (Z2g ps):=by
  intro ps
  induction ps with
  | nil=> intro ops _ h;cases h;trivial
  | cons x r ihp=>
   intro ops hx h
   rw [JW] at h
   split at h
   .rename_i hok
    obtain ⟨l,hl',rfl⟩:=Qc.1 h
    have j:=ihp l (fun y hy=> hx y (Q0 _ hy)) hl'
    have k:=hx x Q3 hok
    have unn:∀ o:Op,0<=φU o:=fun o=> by unfold φU;omega
    have n1:=unn x.p
    have n2:=unn x.q
    have hsP:Y4 φU (Z2h (x ::r))=(if x.of=2 then 0 else φU x.p)+Y4 φU (Z2h r):=by
     simp only [Z2h]
     split <;> simp [Y4]
    have hsQ:Y4 φU (Z2g (x ::r))=(if x.of=1 then 0 else φU x.q)+Y4 φU (Z2g r):=by
     simp only [Z2g]
     split <;> simp [Y4]
    rw [hsP,hsQ]
    by_cases his:(ZM f x).is=true
    .rw [if_pos his]
     have k:=k his
     simp only [Qk,Qq,Y4]
     omega
    grind
   .cases h
 have a:=all ps ops one hc
 rw [sA,sB,ZbA,ZbA,ZbA] at a
 omega
theorem Zoj(o n:Tree):utE (.mk 1 o n [] [] 0 [])=16+Zm o+Zm n:=by rfl
theorem Zun:∀ (n:Nat) (p q:Edit),Z8 p+Z8 q<=n->n<=18000000000->Wk p->Wk q->ComWk False (JY n p q) p q/\((JY n p q).2=true->utE (JY n p q).1+18<=utE p+utE q):=by
 intro n
 induction n with
 | zero=> intro p q h;have:=Z1P p;omega
 | succ n ih=>
  intro p q hn hN wp wq
  have rp:=Zo wp.r
  have rq:=Zo wq.r
  have ih1:∀ a b,Z8 a+Z8 b < Z8 p+Z8 q->Wk a->Wk b->ComWk False (JY n a b) a b:=fun a b h wa wb=> (ih a b YL YL wa wb).1
  have ih2:∀ a b,Z8 a+Z8 b < Z8 p+Z8 q->Wk a->Wk b->(JY n a b).2=true->utE (JY n a b).1+18<=utE a+utE b:=fun a b h wa wb=> (ih a b YL YL wa wb).2
  have S:=Zoo wp wq ih1
  have up:=Zeg p
  have uq:=Zeg q
  have u1:=Zig p
  have u2:=Zig q
  have gp:=ZU wp.g
  have gq:=ZU wq.g
  have c1:=Zgu _ p (Q8 _) ⟨_,wp.r⟩
  have c2:=Zgu _ q (Q8 _) ⟨_,wq.r⟩
  have mo:=ZR p.old;have mn:=ZR p.new;have mo':=ZR q.old;have mn':=ZR q.new
  have hB:∀ (e:Edit) (t:Tree),doB e t=(Yc (doE true e t),(doE true e t).isSome):=fun e t=> by
   unfold doB;rw [Z0x,Option.isSome_map]
  have no:∀ e:Edit,ComWk False (e,false) p q/\((e,false).2=true->utE (e,false).1+18<=utE p+utE q):=fun e=> ⟨⟨fun h=> (by cases h),fun h=> h.elim,fun _ _ h=> (by cases h),fun _ _ _ _ _ h=> (by cases h)⟩,fun h=> by cases h⟩
  show ComWk False (Ja (JY n) p q) p q/\((Ja (JY n) p q).2=true->utE (Ja (JY n) p q).1+18<=utE p+utE q)
  unfold Ji at S
  unfold Ja
  by_cases p0:p.kind=0
  .rw [if_pos p0] at S ⊢
   exact ⟨S,fun _=> by dsimp only;omega⟩
  rw [if_neg p0] at S ⊢
  by_cases q0:q.kind=0
  .rw [if_pos q0] at S ⊢
   exact ⟨S,fun _=> by dsimp only;omega⟩
  rw [if_neg q0] at S ⊢
  by_cases p1:p.kind=1
  .rw [if_pos p1] at S ⊢
   refine ⟨by rw [hB] at S;exact S,fun h=> ?_⟩
   have h:(doB q p.new).2=true:=by rw [hB];exact h
   obtain ⟨v,hv,e⟩:=Z6N h
   have e':Yc (doE true q p.new)=Z5 v:=by rw [<-e,hB]
   have:=Z1O false q _ _ v wq.r hv
   have:=ZK v
   dsimp only
   rw [Zoj,e']
   omega
  rw [if_neg p1] at S ⊢
  by_cases q1:q.kind=1
  .rw [if_pos q1] at S ⊢
   refine ⟨by rw [hB] at S;exact S,fun h=> ?_⟩
   have h:(doB (Zz (Zs p)) q.old).2=true:=by rw [hB];exact h
   obtain ⟨v,hv,e⟩:=Z6N h
   have e':Yc (doE true (Zz (Zs p)) q.old)=Z5 v:=by rw [<-e,hB]
   have:=Z1O false _ _ _ v wp.turn.r hv
   have:=ZK v
   have:=Z49 (Zs p)
   rw [Z5F] at this
   dsimp only
   rw [Zoj,e']
   omega
  rw [if_neg q1] at S ⊢
  by_cases hk:p.kind=q.kind
  .rw [if_neg (show ¬p.kind≠q.kind by omega)]
   by_cases p2:p.kind=2
   .have l1:=(rp.ops0 YL).1
    have l2:=(rq.ops0 YL).1
    rw [if_neg (by rintro (h | h);exact h hk;exact h (l1.trans l2.symm)),if_pos p2] at S
    rw [if_pos p2]
    rw [ZcS _ p.words q.words (-1) (Q8 _) (Z0O rp.words) (Z0O rq.words)]
    have hn1:1<=n\/(p.kids=[]/\q.kids=[]):=by
     by_cases h1:p.kids=[]
     .by_cases h2:q.kids=[]
      .exact .inr ⟨h1,h2⟩
      .obtain ⟨k,hk⟩:=Xt _ h2
       have:=Y6 hk
       have:=Z1P k.e
       exact .inl YL
     .obtain ⟨k,hk⟩:=Xt _ h1
      have:=Y6 hk
      have:=Z1P k.e
      exact .inl YL
    have hm:Jb (JY n) p.kids q.kids (Ye (p.kids.map KidOf.at_) (q.kids.map KidOf.at_))=Zh KidOf.at_ (JM (JY n)) p.kids q.kids:=by
     rcases hn1 with h | ⟨h1,h2⟩
     .obtain ⟨m,rfl⟩:∃ m,n=m+1:=⟨n - 1,YL⟩
      exact ZcU _ p.kids q.kids (-1) (Q8 _) (Z20 rp.kids) (Z20 rq.kids) (fun k hk=> (Z9U m (Zq rp.kids k hk).1.2.2).1) (fun k hk=> (Z9U m (Zq rq.kids k hk).1.2.2).2)
     .rw [h1,h2,QQ,Ye,Zh];try rfl
    rw [hm]
    cases hw:Zh WEdit.at_ Jh p.words q.words with
    | none=> exact no Edit.nil
    | some L=>
     rw [hw,if_pos (show (some L).isSome=true from rfl)] at S
     cases hf:Zh KidOf.at_ (JM (JY n)) p.kids q.kids with
     | none=> exact no Edit.nil
     | some M=>
      rw [hf] at S
      refine ⟨S,fun _=> ?_⟩
      have akp:=Zq rp.kids
      have akq:=Zq rq.kids
      have d1:=Z7p (fun _=> 1) _ _ _ _ (Q8 _) (fun a _ b _ _=> by omega) hw
      have d2:=Z7p Zef _ _ _ _ (Q8 _) (fun a ha b hb hc=> by
       have hc:(JY n a.e b.e).2=true:=hc
       have m1:=Y6 ha
       have m2:=Y6 hb
       have:=ih2 a.e b.e YL (.of (akp a ha).2 (YK gp.2.2.2.1 ha).2) (.of (akq b hb).2 (YK gq.2.2.2.1 hb).2) hc
       rw [Z5W,Z5W,Z5W]
       show 65600+utE (JY n a.e b.e).1<=_
       omega) hf
      rw [Z2V,Z2V,Z2V] at d1
      have su:∀ l:List Kid,Zbz Zef l=Z5S l:=by
       intro l
       induction l with
       | nil=> rfl
       | cons a r ihl=> simp only [Zbz,Z5S,ihl]
      rw [su,su,su] at d2
      simp only [utE,JZ,JP]
      omega
   .have p3:p.kind=3:=by have:=rp.kind;omega
    have q3:q.kind=3:=YL
    rw [if_neg p2]
    by_cases hl:p.list=q.list
    .rw [V0]
     have ok:∀ (e:Edit),Wk e->Z8 e<=18000000000->okL e.ops:=fun e h hm o ho=> by
      refine ⟨ZO h.r o ho,?_⟩
      have:=Z3J ho
      obtain ⟨kk,ol,nn,w,ks,l,os⟩:=e
      simp only [Z8,Edit.ops_mk] at*
      omega
     rw [Zlj (ok p wp YL) (ok q wq YL)]
     unfold Z0y
     by_cases hb1:(Y3 1 2 p.ops q.ops []).2.1=true
     .rw [if_pos hb1]
      cases hc:JW (JY n) (Y3 1 2 p.ops q.ops []).1 with
      | none=> exact no Edit.nil
      | some ops=>
       obtain ⟨j1,j2,j3,_⟩:=ZpG wp wq p3 hl ih1 rfl hb1 hc
       have ju:=ZzV wp wq ih2 rfl hb1 hc
       have ook:∀ o∈ops,ZQ o:=fun o ho=> Z0F (j1 o ho).1
       have fr:∀ y∈ops.flatMap ux,Zc p.list y (-2)=true/\YJ y:=by
        intro y hy
        obtain ⟨o,ho,hy⟩:=XZ.1 hy
        exact Ztt (j1 o ho).1 (j1 o ho).2 y hy
       have fA:=Z6X φA (fun o h=> ZJB h) ook
       have fB:=Z6X φB (fun o h=> ZJA h) ook
       have fU:=Z6X φU (fun o h=> ZJz h) ook
       rw [Zeq,Zeq] at fA
       rw [Zep,Zep] at fB
       rw [ZbA,ZbA] at fU
       have okk:∀ o∈ops.flatMap ux,0<=Z3 o:=fun o ho=> YR (Z0F (fr o ho).1)
       have lA:=Z0w _ 0 okk V2 V2
       have lB:=Z0v _ 0 okk V2 V2
       have mA:=Z0w p.ops 0 (fun o ho=> YR (ZO wp.r o ho)) V2 V2
       have mB:=Z0v q.ops 0 (fun o ho=> YR (ZO wq.r o ho)) V2 V2
       have t1:=rp.len.1
       have t2:=rq.len.2
       have hli:=rp.list p3
       show ComWk False (.mk 3 Tree.nil Tree.nil [] [] p.list (ops.flatMap ux),true) p q/\_
       refine ⟨⟨fun _=> ⟨Zhh hli (Z8J fun o ho=> (fr o ho).1) YL YL,?_⟩,fun h=> h.elim,fun _ _ _=> (show (3:Int)≠0 by decide),fun list h7 h9 _ _ _ hp' hq'=> ?_⟩,fun _=> ?_⟩
       .exact ⟨J1 V2 V2,J8,J8,by simp,V3,trivial,ZeZ fun o ho=> (fr o ho).2⟩
       .rcases hp' with h | h | h
        .exact .inl h
        .omega
        .omega
       .show utE (.mk 3 Tree.nil Tree.nil [] [] p.list (ops.flatMap ux))+18<=_
        simp only [utE,Z5S,JP,Qj]
        omega
     .rw [if_neg hb1];exact no Edit.nil
    .rw [if_pos hl];exact no Edit.nil
  .rw [if_pos hk];exact no Edit.nil
def refOk(e:Edit):Prop:=utE e<=9000000000/\YI e/\∃ d,Z9 e d=true
theorem refOk.re{e:Edit}(h:refOk e):Ym e:=⟨QJ (Zgu _ e (Q8 _) h.2.2) h.1,h.2⟩
noncomputable section
def ZqK:ArgL (Int × Unit):=(.cons (Ya .u8) .nil)
def Zfw(a:Int × Unit):Prop:=0<=a.1/\a.1 < 256
def Zu6(a:Int × Unit):V U:= .c (.int .u64 ((Z1g (a.1).toNat 8:Nat):Int))
def Z9B:Fs U:=fs ZqK (fun a=> [Zfw a]) Zu6
def ZBq(a:Tree × Unit):V U:= .c (.bool (decide (Tree.kind a.1≠10) && Ze a.1 64))
def Z8C:Fs U:=fs Zxh (fun a=> [Zhu a]) ZBq
def Zfu(a:Int × Tree × Unit):Prop:=Zm a.2.1<=18000000000/\rng a.2.1/\InR a.1
def Zu5(a:Int × Tree × Unit):V U:= .c (.bool (Ze (Tree.mk a.1 [] [a.2.1]) 64))
def Z9z:Fs U:=fs ZwQ (fun a=> [Zfu a]) Zu5
def ZqI:ArgL (Int × Edit × Unit):=(.cons (Ya .i64) (.cons (aEl .edit) .nil))
def ZmJ(a:Int × Edit × Unit):Prop:=True
def Zu4(a:Int × Edit × Unit):V U:= .c (.bool (Z1M a.1 a.2.1))
def Z5g:Fs U:=fs ZqI (fun a=> [ZmJ a]) Zu4
def ZwN:ArgL (List WEdit × Unit):=(.cons (aSl .wedit) .nil)
def ZkJ(a:List WEdit × Unit):Prop:=(a.1).length<=20000000000/\∀ x∈a.1,Z28 x
def ZBp(a:List WEdit × Unit):V U:= .c (.bool (ZN (-1) a.1))
def Z8B:Fs U:=fs ZwN (fun a=> [ZkJ a]) ZBp
def Zg4:Zd U:=lvl [([0],[]),([0,3],[]),([0,3,5],[]),([0,3,5,6],[]),([0,3,4,5],[]),([0,3,4,5,12],[]),([0,3,5],[]),([0,3,5],[]),([2],[])]
def Z4J(m x3 x5:Int):LSt U:=(L2 [(0,.c (.int .u8 m)),(3,.c (.int .u64 x3)),pI 5 x5] [])
abbrev ZJP(m:Int)(Q:QT):=AW (Z1 Znz) Tryz.f157 Zg4 [] (L2 [(0,.c (.int .u8 m))] []) Q
theorem ZH4(m:Int)(Q:QT)(h:Zj (AW (Z1 Znz) Tryz.f157 Zg4 [1,1,0,1,0,0]) (Z4J m 0 0) (xB 0 (SW (Z1 Znz) Tryz.f157 Zg4 [1,1,1] Q))):
  ZJP m Q:=
 Eq.mpr V4 h
abbrev ZAj(m x3 x5:Int)(N0:NT)(Q:QT):=AW (Z1 Znz) Tryz.f157 Zg4 [1,1,0,1,0,0] (Z4J m x3 x5) (xT N0 (xB 0 (SW (Z1 Znz) Tryz.f157 Zg4 [1,1,1] Q)))
theorem Zt5(m x3 x5:Int)(N0:NT)(Q:QT)(h:let z1:=IntKind.bits .u8;let z0:=IntKind.bits .u64;iB (decide (x5 < 8)) (((0:Int)<=x5)/\(iB (((IntKind.wrap .u8 (BitVec.ofInt z1 (Int.fdiv m (2 ^ (min x5.toNat z1))) &&& BitVec.ofInt z1 1).toNat):Int)==1) ((InR ((8:Int)*x5))/\((0:Int)<=((8:Int)*x5))/\((InR (x5+1))/\(N0 (Z4J m (IntKind.wrap .u64 (BitVec.ofInt z0 x3 ||| BitVec.ofInt z0 (IntKind.wrap .u64 ((255:Int)*2 ^ (min (Int.toNat ((8:Int)*x5)) z0)))).toNat) (x5+1))))) ((InR (x5+1))/\(N0 (Z4J m x3 (x5+1)))))) (Q .ret (L2 [(2,.c (.int .u64 x3))] []))):
  ZAj m x3 x5 N0 Q:=
 Eq.mpr V4 h
def ZAS(m:Int):Prop:=AW (Z1 Znz) Tryz.f157 Zg4 [] (Zg (ZqK.can (m,())) []) (EQ Tryz.f157 (Zu6 (m,())) [])
theorem Zze(hb:∀ (m:Int) (_:Unit),Zfw (m,())->ZAS m):CT 157 Z9B:=
 Z2 (l:=[]) Zi rfl trivial Zg4 Tryz.func157 rfl rfl 1 (fun _=> rfl) V2 (fun ⟨m,_⟩=> hb m ())
def Zq4:List (FuncId × Fs U):=[(157,Z9B)]
def Zvt:Zd U:=lvl [([0,1,2],[]),([6],[])]
abbrev ZJU(a b m:Int)(Q:QT):=AW (Z1 Zq4) Tryz.f136 Zvt [] (L2 [(0,.c (.int .u64 a)),(1,.c (.int .u64 b)),(2,.c (.int .u8 m))] []) Q
theorem ZHg(a b m:Int)(Q:QT)(h:let z0:=IntKind.bits .u64;(Zfw (m,()))/\(Zfw (m,()))/\(Q .ret (L2 [(6,.c (.int .u64 (IntKind.wrap .u64 (BitVec.ofInt z0 (IntKind.wrap .u64 (BitVec.ofInt z0 a &&& ~~~(BitVec.ofInt z0 ((Z1g m.toNat 8:Nat):Int))).toNat) ||| BitVec.ofInt z0 (IntKind.wrap .u64 (BitVec.ofInt z0 b &&& BitVec.ofInt z0 ((Z1g m.toNat 8:Nat):Int)).toNat)).toNat)))] []))):
  ZJU a b m Q:=
 Eq.mpr V4 h
def ZB4(a b m:Int):Prop:=AW (Z1 Zq4) Tryz.f136 Zvt [] (Zg (ZwT.can (a,b,m,())) []) (EQ Tryz.f136 (ZBv (a,b,m,())) [])
theorem Zzl(ZEB:CT 157 Z9B)(hb:∀ (a:Int) (b:Int) (m:Int) (_:Unit),ZcW (a,b,m,())->ZB4 a b m):CT 136 Z53:=
 Z2 (l:=[(157,Z9B)]) Zi rfl (⟨ZEB,trivial⟩) Zvt Tryz.func136 rfl rfl 3 (fun _=> rfl) V2 (fun ⟨a,b,m,_⟩=> hb a b m ())
def ZvP:List (FuncId × Fs U):=[(30,Z31)]
abbrev W96(t:Tree)(Q:QT):=AW (Z1 ZvP) Tryz.f96 ZE4 [] (L2 [(0,.agg (enc .tree t))] []) Q
theorem ZIE(t:Tree)(Q:QT)(h:let z0:=Tree.mk t.kind t.words t.kids;((Tt (t.kind !=10))/\((t.kind !=10)=true->Zhu (z0,()))/\(Tt (t.kind !=10))/\(Q .ret (L2 [pB 2 (bif (t.kind !=10) then (Ze z0 64) else false)] [])))):
  W96 t Q:=
 Eq.mpr V4 h
def ZFw(t:Tree):Prop:=AW (Z1 ZvP) Tryz.f96 ZE4 [] (Zg (Zxh.can (t,())) []) (EQ Tryz.f96 (ZBq (t,())) [])
theorem ZCY(c30:CT 30 Z31)(hb:∀ (t:Tree) (_:Unit),Zhu (t,())->ZFw t):CT 96 Z8C:=
 Z2 (l:=[(30,Z31)]) Zi rfl (⟨c30,trivial⟩) ZE4 Tryz.func96 rfl rfl 1 (fun _=> rfl) V2 (fun ⟨t,_⟩=> hb t ())
def Zvl:Zd U:=lvl [([0,3],[3]),([4],[])]
abbrev ZJM(list:Int)(t:Tree)(Q:QT):=AW (Z1 ZvP) Tryz.f160 Zvl [] (L2 [pI 0 list,(1,.agg (enc .tree t))] []) Q
theorem ZH1(list:Int)(t:Tree)(Q:QT)(h:let z0:=Tree.mk list [] ([(Tree.mk t.kind t.words t.kids)]);(Zhu (z0,()))/\(Q .ret (L2 [(4,.c (.bool (Ze z0 64)))] []))):
  ZJM list t Q:=
 Eq.mpr V4 h
def ZAP(list:Int)(t:Tree):Prop:=AW (Z1 ZvP) Tryz.f160 Zvl [] (Zg (ZwQ.can (list,t,())) []) (EQ Tryz.f160 (Zu5 (list,t,())) [])
theorem Zzb(c30:CT 30 Z31)(hb:∀ (list:Int) (t:Tree) (_:Unit),Zfu (list,t,())->ZAP list t):CT 160 Z9z:=
 Z2 (l:=[(30,Z31)]) Zi rfl (⟨c30,trivial⟩) Zvl Tryz.func160 rfl rfl 2 (fun _=> rfl) V2 (fun ⟨list,t,_⟩=> hb list t ())
def ZpV:List (FuncId × Fs U):=[(128,Z3y)]
def Zvk:Zd U:=lvl [([0,3],[3]),([0,3,5],[3]),([4],[]),([3,13],[3]),([4],[]),([4],[])]
abbrev ZJL(list:Int)(e:Edit)(Q:QT):=AW (Z1 ZpV) Tryz.f161 Zvk [] (L2 [pI 0 list,(1,.agg (enc .edit e))] []) Q
theorem ZH0(list:Int)(e:Edit)(Q:QT)(h:let z1:=decide (2<=list/\list<=7);let z0:=bif (e.kind==1) then (e.old.kind==1) else false;((Zuz (list,()))/\(Tt (!z1))/\(Tt (!z1))/\(z1=false->(!z1)=true)/\(iB (bif z1 then true else (e.kind==0)) ((Q .ret (L2 [pB 4 false] []))) ((Tt (!(list==8)))/\(Tt (!(list==8)))/\((list==8)=false->(!(list==8))=true)/\(iB (bif (list==8) then true else (e.kind==2)) ((Q .ret (L2 [pB 4 true] []))) ((Tt (e.kind==1))/\(Tt (e.kind==1))/\(Tt (e.kind==1))/\(Tt (e.kind==1))/\(Tt z0)/\(Tt z0)/\(Tt z0)/\(Tt z0)/\(Q .ret (L2 [pB 4 (bif z0 then (e.new.kind==1) else false)] [])))))))):
  ZJL list e Q:=
 Eq.mpr V4 h
def ZAO(list:Int)(e:Edit):Prop:=AW (Z1 ZpV) Tryz.f161 Zvk [] (Zg (ZqI.can (list,e,())) []) (EQ Tryz.f161 (Zu4 (list,e,())) [])
theorem Zza(Zso:CT 128 Z3y)(hb:∀ (list:Int) (e:Edit) (_:Unit),ZmJ (list,e,())->ZAO list e):CT 161 Z5g:=
 Z2 (l:=[(128,Z3y)]) Zi rfl (⟨Zso,trivial⟩) Zvk Tryz.func161 rfl rfl 2 (fun _=> rfl) V2 (fun ⟨list,e,_⟩=> hb list e ())
def Zc8:List (FuncId × Fs U):=[(136,Z53)]
def Zn4:Zd U:=lvl [([0],[]),([0,5,6,7],[]),([0,5,6,7,8],[]),([0,3,4,5,6,7],[4]),([0,4,5,6,7,39],[4]),([2],[]),([0,5,6,7,53],[]),([2],[]),([0,5,6,7],[]),([2],[])]
def ZaB(l:List WEdit)(x7:Int):LSt U:=(L2 [(0,.c (sU .wedit l .unk)),(5,.c (sU .wedit l .unk)),pI 6 (l.length:Int),pI 7 x7] [])
abbrev W97(l:List WEdit)(Q:QT):=AW (Z1 Zc8) Tryz.f97 Zn4 [] (L2 [(0,.c (sU .wedit l .unk))] []) Q
theorem ZID(l:List WEdit)(Q:QT)(h:Zj (AW (Z1 Zc8) Tryz.f97 Zn4 [1,0,1,0,0]) (ZaB l 0) (xB 0 (SW (Z1 Zc8) Tryz.f97 Zn4 [1,1] Q))):
  W97 l Q:=
 Eq.mpr V4 h
abbrev ZFa(l:List WEdit)(x7:Int)(N0:NT)(Q:QT):=AW (Z1 Zc8) Tryz.f97 Zn4 [1,0,1,0,0] (ZaB l x7) (xT N0 (xB 0 (SW (Z1 Zc8) Tryz.f97 Zn4 [1,1] Q)))
theorem ZxJ(l:List WEdit)(x7:Int)(N0:NT)(Q:QT)(h:∀ y_1,y_1=(l.getD x7.toNat (WEdit.mk 0 0 0 0))->∀ y_2,y_2=(List.getD l (Int.toNat (x7 - 1)) (WEdit.mk 0 0 0 0))->let z6:=(Q .ret (L2 [pB 2 false] []));let z5:=decide ((0:Int) < x7);let z4:=decide (y_1.at_ < 0);let z3:=((mix y_1.old 0 y_1.mask):Int) !=0;let z0:=bif z4 then true else (decide ((65535:Int)<=y_1.at_));let z2:=(!z0) && z5;let z1:=bif z0 then true else (bif z5 then (decide (y_1.at_<=y_2.at_)) else false);(iB (decide (x7 < (l.length:Int))) (((0:Int)<=x7/\x7 < (l.length:Int))/\((Tt (!z4))/\(Tt (!z4))/\(z4=false->(!z4)=true)/\(Tt (!z0))/\(Tt (!z0))/\(Tt z2)/\(z2=true->InR (x7 - 1))/\(Tt z2)/\(Tt z2)/\(z2=true->(0:Int)<=(x7 - 1)/\(x7 - 1) < (l.length:Int))/\(Tt z2)/\(Tt z2)/\(Tt z2)/\(Tt z2)/\(Tt z2)/\((!z0)=true->(True->(!z0)=true))/\((!z0)=true->(z5=true->z2=true))/\(z0=false->(!z0)=true)/\(Tt (!z1))/\(Tt (!z1))/\(z1=false->(!z1)=true)/\(iB (bif z1 then true else (y_1.mask==0)) z6 ((ZcW (y_1.old,0,y_1.mask,()))/\(Tt (!z3))/\(Tt (!z3))/\(Tt (!z3))/\(Tt (!z3))/\((!z3)=true->ZcW (y_1.new,0,y_1.mask,()))/\(Tt (!z3))/\(z3=false->(!z3)=true)/\(iB (bif z3 then true else (((mix y_1.new 0 y_1.mask):Int) !=0)) z6 ((InR (x7+1))/\(N0 (ZaB l (x7+1))))))))) ((Q .ret (L2 [pB 2 true] []))))):
  ZFa l x7 N0 Q:=
 Eq.mpr V4 (h _ rfl _ rfl)
def ZFv(l:List WEdit):Prop:=AW (Z1 Zc8) Tryz.f97 Zn4 [] (Zg (ZwN.can (l,())) []) (EQ Tryz.f97 (ZBp (l,())) [])
theorem ZCX(Zjy:CT 136 Z53)(hb:∀ (l:List WEdit) (_:Unit),ZkJ (l,())->ZFv l):CT 97 Z8B:=
 Z2 (l:=[(136,Z53)]) Zi rfl (⟨Zjy,trivial⟩) Zn4 Tryz.func97 rfl rfl 1 (fun _=> rfl) V2 (fun ⟨l,_⟩=> hb l ())
end
theorem ZwL:∀ n:Fin 256,∀ i:Fin 8,IntKind.wrap .u8 (BitVec.ofInt (IntKind.bits .u8) (Int.fdiv (n.1:Int) (2 ^ (min (Int.toNat (i.1:Int)) (IntKind.bits .u8)))) &&& BitVec.ofInt (IntKind.bits .u8) 1).toNat=((n.1 / 2 ^ i.1 % 2:Nat):Int):=by decide+kernel
theorem ZyK:∀ n:Fin 256,∀ i:Fin 8,IntKind.wrap .u64 (BitVec.ofInt (IntKind.bits .u64) ((Z1g n.1 i.1:Nat):Int) ||| BitVec.ofInt (IntKind.bits .u64) (IntKind.wrap .u64 (255*2 ^ (min (Int.toNat (8*(i.1:Int))) (IntKind.bits .u64))))).toNat=((Z1g n.1 i.1+255*2 ^ (8*i.1):Nat):Int):=by decide+kernel
theorem ZEB:Contract Tryz.prog cfg 157 Z9B:=by
 refine Zze ?_
 intro m _ hp
 simp only [Zfw] at hp
 obtain ⟨n,rfl⟩:=QZ hp.1
 have hn:n < 256:=YL
 refine ZH4 _ _ ?_
 refine Z4 (ι:=Nat) (fun i=> Z4J n ((Z1g n i:Nat):Int) i) (fun i=> i<=8) (fun i=> 8 - i) 0 rfl YL ?_
 intro i hi
 refine Zt5 _ _ _ _ _ ?_
 (simp only [iB,vcS])
 refine ⟨fun hc=> ⟨YL,fun hq=> ⟨V3,YL,V3,i+1,?_,YL,YL⟩,fun hq=> ⟨V3,i+1,?_,YL,YL⟩⟩,fun hc=> ?_⟩
 .have h1:=ZwL ⟨n,hn⟩ ⟨i,YL⟩
  have h2:=ZyK ⟨n,hn⟩ ⟨i,YL⟩
  simp only at h1 h2
  rw [h1] at hq
  rw [h2]
  have e:Z1g n (i+1)=Z1g n i+255*2 ^ (8*i):=by simp only [Z1g];grind
  rw [e]
  try rfl
 .have h1:=ZwL ⟨n,hn⟩ ⟨i,YL⟩
  simp only at h1
  rw [h1] at hq
  have e:Z1g n (i+1)=Z1g n i:=by simp only [Z1g];rw [V0];omega
  rw [e]
  try rfl
 .have:i=8:=YL
  subst this
  trivial
theorem Z7l(a:Nat)(h:a < 2 ^ 64):(BitVec.ofInt 64 (a:Int)).toNat=a:=by
 grind
theorem Zjy:Contract Tryz.prog cfg 136 Z53:=by
 refine Zzl ZEB ?_
 intro a b m _ hp
 simp only [ZcW] at hp
 obtain ⟨⟨a0,a1⟩,⟨b0,b1⟩,m0,m1⟩:=hp
 obtain ⟨x,rfl⟩:=QZ a0
 obtain ⟨y,rfl⟩:=QZ b0
 obtain ⟨n,rfl⟩:=QZ m0
 have hn:n < 256:=YL
 have hx:x < 2 ^ 64:=YL
 have hy:y < 2 ^ 64:=YL
 have hw:=ZxF ⟨n,hn⟩
 have hw2:=Zod ⟨n,hn⟩
 simp only at hw hw2
 rw [<-hw2] at hw
 refine ZHg _ _ _ _ ?_
 refine ⟨⟨m0,m1⟩,⟨m0,m1⟩,Ys rfl ?_⟩
 have em:mix x y n=(((x &&& (2 ^ 64 - 1 - Z1g n 8)) ||| (y &&& Z1g n 8):Nat):Int):=by rw [<-Zv0,<-ZuZ x y n hn]
 have e1:(BitVec.ofInt 64 (x:Int) &&& ~~~(BitVec.ofInt 64 ((Z1g n 8:Nat):Int))).toNat=x &&& (2 ^ 64 - 1 - Z1g n 8):=by
  rw [BitVec.toNat_and,BitVec.toNat_not,Z7l x hx,Z7l _ hw]
 have e2:(BitVec.ofInt 64 (y:Int) &&& BitVec.ofInt 64 ((Z1g n 8:Nat):Int)).toNat=y &&& Z1g n 8:=by
  rw [BitVec.toNat_and,Z7l y hy,Z7l _ hw]
 have l1:x &&& (2 ^ 64 - 1 - Z1g n 8) < 2 ^ 64:=Nat.lt_of_le_of_lt Nat.and_le_left hx
 have l2:y &&& Z1g n 8 < 2 ^ 64:=Nat.lt_of_le_of_lt Nat.and_le_left hy
 have l3:(x &&& (2 ^ 64 - 1 - Z1g n 8)) ||| (y &&& Z1g n 8) < 2 ^ 64:=Nat.or_lt_two_pow l1 l2
 have key:IntKind.wrap .u64 ((BitVec.ofInt 64 (IntKind.wrap .u64 ((BitVec.ofInt 64 (x:Int) &&& ~~~(BitVec.ofInt 64 ((Z1g n 8:Nat):Int))).toNat:Int)) ||| BitVec.ofInt 64 (IntKind.wrap .u64 ((BitVec.ofInt 64 (y:Int) &&& BitVec.ofInt 64 ((Z1g n 8:Nat):Int)).toNat:Int))).toNat:Int)=mix x y n:=by
  have w1:∀ k:Nat,k < 2 ^ 64->IntKind.wrap .u64 (k:Int)=k:=fun k hk=> Z5U YL YL
  grind
 exact key
theorem c96:Contract Tryz.prog cfg 96 Z8C:=by
 refine ZCY c30 ?_
 intro t _ hp
 refine ZIE _ _ ?_
 (simp only [Tree.eta,Edit.eta,Tree.kind_mk,Tree.words_mk,Tree.kids_mk])
 simp only [iB,vcT,vcS,aiT,true_and]
 refine ⟨fun _=> hp,Z6 rfl ?_⟩
 grind
theorem ZEy:Contract Tryz.prog cfg 160 Z9z:=by
 refine Zzb c30 ?_
 intro list t _ hp
 simp only [Zfu] at hp
 refine ZH1 _ _ _ ?_
 (simp only [Tree.eta,Edit.eta,Tree.kind_mk,Tree.words_mk,Tree.kids_mk])
 refine ⟨⟨?_,?_⟩,JR⟩
 .simp only [Zm,Zk,Qj];omega
 .simp only [rng,Yl]
  have hi:=hp.2.2
  unfold InR at hi
  grind
theorem ZEx:Contract Tryz.prog cfg 161 Z5g:=by
 refine Zza Zso ?_
 intro list e _ hp
 refine ZH0 _ _ _ ?_
 simp only [iB,vcT,vcS,aiT,true_and]
 refine ⟨trivial,fun h=> ?_,fun h=> ⟨fun h2=> ?_,fun h2=> ?_⟩⟩
 .exact Z6 rfl (by show false=Z1M list e;unfold Z1M;rw [if_pos h])
 .exact Z6 rfl (by show true=Z1M list e;unfold Z1M;grind)
 .refine Z6 rfl ?_
  show _=Z1M list e
  unfold Z1M
  grind
theorem Zid(last:Int)(w:WEdit)(r:List WEdit):ZN last (w ::r)=(decide (last < w.at_/\w.at_<=65534/\w.mask≠0) && Y9 w.old w.mask && Y9 w.new w.mask && ZN w.at_ r):=rfl
theorem c97:Contract Tryz.prog cfg 97 Z8B:=by
 refine ZCX Zjy ?_
 intro l _ hp
 simp only [ZkJ] at hp
 refine ZID _ _ ?_
 refine Z4 (ι:=Int) (fun i=> ZaB l i) (fun i=> 0<=i/\i<=l.length/\(i≠0->0<=(l.getD (i - 1).toNat (WEdit.mk 0 0 0 0)).at_)/\ZN (if i=0 then -1 else (l.getD (i - 1).toNat (WEdit.mk 0 0 0 0)).at_) (l.drop i.toNat)=ZN (-1) l) (fun i=> ((l.length:Int) - i).toNat) 0 rfl ⟨YL,YL,by simp,by simp⟩ ?_
 rintro i ⟨h1,h2,hpos,h3⟩
 refine ZxJ _ _ _ _ ?_
 rintro y1 hy1 y2 hy2
 simp only [iB,vcT,vcS,aiT,true_and]
 refine ⟨fun hi=> ?_,fun hi=> ?_⟩
 .have hm:=hp.2 _ (Zf (l:=l) (i:=i.toNat) YL (WEdit.mk 0 0 0 0))
  rw [ZH h1 hi (WEdit.mk 0 0 0 0),Zid] at h3
  rw [<-hy1] at h3 hm
  rw [<-hy2] at h3 hpos
  obtain ⟨r1,r2,r3,r4⟩:=hm
  unfold isW at r3 r4
  have hw:∀ x:Int,Y9 x y1.mask=decide (mix x 0 y1.mask=0):=fun x=> rfl
  refine ⟨⟨h1,hi⟩,fun _=> by unfold InR;omega,fun _=> ⟨YL,YL⟩,fun hq=> ?_,fun hq=> ⟨⟨r3,by grind,r2⟩,fun _=> ⟨r4,by grind,r2⟩,fun hz=> ?_,fun hz=> ⟨V3,i+1,rfl,⟨YL,YL,fun _=> by grind,?_⟩,YL⟩⟩⟩
  .refine Z6 rfl ?_
   show false=ZN (-1) l
   rw [<-h3,decide_eq_false]
   .try rfl
   omega
  .refine Z6 rfl ?_
   grind
  .rw [V0,show i+1 - 1=i by omega,<-hy1,<-h3,hw,hw,decide_eq_true hz.1,decide_eq_true hz.2,decide_eq_true]
   .simp
   omega
 .rw [Q6 YL] at h3
  trivial
end Go.AM.YtfapacabjkhepaaGreat
namespace Go.AM
def wr(n:Int):Int:=IntKind.wrap .i64 n
def Z1A(o:Op):Int:=if o.kind=3 then 1 else wr (o.n+o.l.length)
def Zjx(n:Int):Int:=if 1048576 < n then 1048576 else n
def Z3g:List Op->Int->Int
 | [],n=> n
 | o ::r,n=> Z3g r (if o.kind=2 then n else Zjx (wr (n+Z1A o)))
def Z3f:List Op->Int->Int
 | [],n=> n
 | o ::r,n=> Z3f r (if o.kind=1 then n else Zjx (wr (n+Z1A o)))
def Z4T(e:Edit):Bool:=
 if (e.kind≠1/\¬(Yz e.old=true/\Yz e.new=true))\/(e.kind≠2/\¬(e.words.length=0/\e.kids.length=0))\/(e.kind≠3/\(e.list≠0\/e.ops.length≠0)) then false else true
end Go.AM
namespace Go.AM.YtfapacabjkhepaaGreat
open Go.AM Go.Proofs
noncomputable section
def Zuc(a:Edit × Unit):V U:= .tup [(false,[ci (Z3g a.1.ops 0)]),(false,[ci (Z3f a.1.ops 0)])]
def Z5i:Fs U:=fs ZwS (fun a=> [Zfl a]) Zuc
def Z0t:Zd U:=lvl [([1],[1]),([1,4,5],[1]),([4,5,10,11,12],[]),([4,5,10,11,12,13],[]),([4,5,7,10,11,12],[7]),([4,5,7,8,10,11,12],[7]),([4,5,7,8,10,11,12,24],[7]),([4,5,7,8,10,11,12,24],[7]),([4,5,7,8,10,11,12,27],[7]),([4,5,7,8,10,11,12,27],[7]),([4,5,8,10,11,12,34],[]),([4,5,10,11,12],[]),([4,5,10,11,12],[]),([2,3],[])]
def Z1H(e:Edit)(x4 x5 x12:Int):LSt U:=(L2 [pI 4 x4,pI 5 x5,(10,.c (sU .op e.ops .unk)),pI 11 (e.ops.length:Int),pI 12 x12] [])
def Zck(e:Edit)(x4 x5 x12 x8_a:Int):LSt U:=(L2 [pI 4 x4,pI 5 x5,pL 7,pI 8 x8_a,(10,.c (sU .op e.ops .unk)),pI 11 (e.ops.length:Int),pI 12 x12,(24,.c (.bool (((OpOf.kind (e.ops.getD x12.toNat Op.nil)):Int)==3)))] [(.loc 7,(enc .op (e.ops.getD x12.toNat Op.nil)))])
def Zcj(e:Edit)(x5 x12 x8_a x4_b:Int):LSt U:=(L2 [pI 4 x4_b,pI 5 x5,pL 7,pI 8 x8_a,(10,.c (sU .op e.ops .unk)),pI 11 (e.ops.length:Int),pI 12 x12,(27,.c (.bool (((OpOf.kind (e.ops.getD x12.toNat Op.nil)):Int) !=2)))] [(.loc 7,(enc .op (e.ops.getD x12.toNat Op.nil)))])
abbrev ZJS(e:Edit)(Q:QT):=AW (Z0h Znz) Tryz.f138 Z0t [] (L2 [(0,.agg (enc .edit e))] []) Q
theorem ZHe(e:Edit)(Q:QT)(h:Zj (AW (Z0h Znz) Tryz.f138 Z0t [1,1,0,1,0,0]) (Z1H e 0 0 0) (xB 0 (SW (Z0h Znz) Tryz.f138 Z0t [1,1,1] Q))):
  ZJS e Q:=
 Eq.mpr V4 h
abbrev ZAm(e:Edit)(x4 x5 x12:Int)(N0:NT)(Q:QT):=AW (Z0h Znz) Tryz.f138 Z0t [1,1,0,1,0,0] (Z1H e x4 x5 x12) (xT N0 (xB 0 (SW (Z0h Znz) Tryz.f138 Z0t [1,1,1] Q)))
theorem Zte(e:Edit)(x4 x5 x12:Int)(N0:NT)(Q:QT)(h:let z1:=e.ops.getD x12.toNat Op.nil;let z0:=xB 1 (SW (Z0h Znz) Tryz.f138 Z0t [1,1,0,1,0,0,1,1,1] (xT N0 (xB 0 (SW (Z0h Znz) Tryz.f138 Z0t [1,1,1] Q))));iB (decide (x12 < (e.ops.length:Int))) (((0:Int)<=x12/\x12 < (e.ops.length:Int))/\(iB (((OpOf.kind z1):Int)==3) (AW (Z0h Znz) Tryz.f138 Z0t [1,1,0,1,0,0,1,1,0,0,1,1,1] (Zck e x4 x5 x12 1) z0) (AW (Z0h Znz) Tryz.f138 Z0t [1,1,0,1,0,0,1,1,0,0,1,1,1] (Zck e x4 x5 x12 (IntKind.wrap .i64 (((OpOf.n z1):Int)+((OpOf.l z1).length:Int)))) z0))) (Q .ret (L2 [pI 2 x4,pI 3 x5] []))):
  ZAm e x4 x5 x12 N0 Q:=
 Eq.mpr V4 h
abbrev Zr6(e:Edit)(x4 x5 x12 x8_a:Int)(N0:NT)(Q:QT):=AW (Z0h Znz) Tryz.f138 Z0t [1,1,0,1,0,0,1,1,0,0,1,1,1] (Zck e x4 x5 x12 x8_a) (xB 1 (SW (Z0h Znz) Tryz.f138 Z0t [1,1,0,1,0,0,1,1,1] (xT N0 (xB 0 (SW (Z0h Znz) Tryz.f138 Z0t [1,1,1] Q)))))
theorem Ztg(e:Edit)(x4 x5 x12 x8_a:Int)(N0:NT)(Q:QT)(h:let z1:=IntKind.wrap .i64 (x4+x8_a);let z0:=xB 1 (SW (Z0h Znz) Tryz.f138 Z0t [1,1,0,1,0,0,1,1,1] (xT N0 (xB 0 (SW (Z0h Znz) Tryz.f138 Z0t [1,1,1] Q))));iB (((OpOf.kind (e.ops.getD x12.toNat Op.nil)):Int) !=2) (AW (Z0h Znz) Tryz.f138 Z0t [1,1,0,1,0,0,1,1,0,0,1,1,1,1] (Zcj e x5 x12 x8_a (if (1048576:Int) < z1 then 1048576 else z1)) z0) (AW (Z0h Znz) Tryz.f138 Z0t [1,1,0,1,0,0,1,1,0,0,1,1,1,1] (Zcj e x5 x12 x8_a x4) z0)):
  Zr6 e x4 x5 x12 x8_a N0 Q:=
 Eq.mpr V4 h
abbrev Zr5(e:Edit)(x5 x12 x8_a x4_b:Int)(N0:NT)(Q:QT):=AW (Z0h Znz) Tryz.f138 Z0t [1,1,0,1,0,0,1,1,0,0,1,1,1,1] (Zcj e x5 x12 x8_a x4_b) (xB 1 (SW (Z0h Znz) Tryz.f138 Z0t [1,1,0,1,0,0,1,1,1] (xT N0 (xB 0 (SW (Z0h Znz) Tryz.f138 Z0t [1,1,1] Q)))))
theorem Ztf(e:Edit)(x5 x12 x8_a x4_b:Int)(N0:NT)(Q:QT)(h:let z0:=IntKind.wrap .i64 (x5+x8_a);iB (((OpOf.kind (e.ops.getD x12.toNat Op.nil)):Int) !=1) (N0 (Z1H e x4_b (if (1048576:Int) < z0 then 1048576 else z0) (IntKind.wrap .i64 (x12+1)))) (N0 (Z1H e x4_b x5 (IntKind.wrap .i64 (x12+1))))):
  Zr5 e x5 x12 x8_a x4_b N0 Q:=
 Eq.mpr V4 h
def ZB2(e:Edit):Prop:=AW (Z0h Znz) Tryz.f138 Z0t [] (Zg (ZwS.can (e,())) []) (EQ Tryz.f138 (Zuc (e,())) [])
theorem Zzk(hb:∀ (e:Edit) (_:Unit),Zfl (e,())->ZB2 e):CT 138 Z5i:=
 Zgw (l:=[]) Zi rfl trivial Z0t Tryz.func138 rfl rfl 1 (fun _=> rfl) V2 (fun ⟨e,_⟩=> hb e ())
end
theorem ZjX{n:Int}(h:InR n):wr n=n:=by
 unfold InR at h
 simp [wr,IntKind.wrap,IntKind.signed,IntKind.bits]
 omega
theorem Znd{l:List Op}{i:Int}(n:Int)(h0:0<=i)(h:i < l.length):Z3g (l.drop i.toNat) n=Z3g (l.drop (i+1).toNat) (if (l.getD i.toNat Op.nil).kind=2 then n else Zjx (wr (n+Z1A (l.getD i.toNat Op.nil)))):=by
 rw [ZH h0 h Op.nil,Z3g]
theorem Znc{l:List Op}{i:Int}(n:Int)(h0:0<=i)(h:i < l.length):Z3f (l.drop i.toNat) n=Z3f (l.drop (i+1).toNat) (if (l.getD i.toNat Op.nil).kind=1 then n else Zjx (wr (n+Z1A (l.getD i.toNat Op.nil)))):=by
 rw [ZH h0 h Op.nil,Z3f]
theorem ZEH:Contract Tryz.prog cfg 138 Z5i:=by
 refine Zzk ?_
 intro e _ hp
 simp only [Zfl] at hp
 have h1:=ZT e
 have h2:=ZF e.ops
 refine ZHe _ _ ?_
 refine Z4 (ι:=Int × Int × Int) (fun s=> Z1H e s.1 s.2.1 s.2.2) (fun s=> (0<=s.2.2/\s.2.2<=e.ops.length)/\Z3g (e.ops.drop s.2.2.toNat) s.1=Z3g e.ops 0/\Z3f (e.ops.drop s.2.2.toNat) s.2.1=Z3f e.ops 0) (fun s=> ((e.ops.length:Int) - s.2.2).toNat) (0,0,0) rfl ⟨⟨by simp,by simp⟩,rfl,rfl⟩ ?_
 rintro ⟨n,m,i⟩ ⟨⟨g1,g2⟩,g3,g4⟩
 dsimp only at g1 g2 g3 g4
 refine Zte _ _ _ _ _ _ ?_
 (simp only [iB,vcS])
 refine ⟨fun hi=> ⟨⟨g1,hi⟩,?_⟩,fun hi=> ?_⟩
 .rw [Znd _ g1 hi] at g3
  rw [Znc _ g1 hi] at g4
  have hk:IntKind.wrap .i64 (i+1)=i+1:=ZjX V3
  generalize hy:e.ops.getD i.toNat Op.nil=y at*
  have key:∀ k:Int,k=Z1A y->∀ (Q':AExit->LSt U->Prop),Zr6 e n m i k (fun s2=> ∃ j:Int × Int × Int,s2=Z1H e j.1 j.2.1 j.2.2/\((0<=j.2.2/\j.2.2<=e.ops.length)/\Z3g (e.ops.drop j.2.2.toNat) j.1=Z3g e.ops 0/\Z3f (e.ops.drop j.2.2.toNat) j.2.1=Z3f e.ops 0)/\((e.ops.length:Int) - j.2.2).toNat < ((e.ops.length:Int) - i).toNat) Q':=by
   rintro k rfl Q'
   have step2:∀ a:Int,a=(if y.kind=2 then n else Zjx (wr (n+Z1A y)))->Zr5 e m i (Z1A y) a (fun s2=> ∃ j:Int × Int × Int,s2=Z1H e j.1 j.2.1 j.2.2/\((0<=j.2.2/\j.2.2<=e.ops.length)/\Z3g (e.ops.drop j.2.2.toNat) j.1=Z3g e.ops 0/\Z3f (e.ops.drop j.2.2.toNat) j.2.1=Z3f e.ops 0)/\((e.ops.length:Int) - j.2.2).toNat < ((e.ops.length:Int) - i).toNat) Q':=by
    rintro a ha
    refine Ztf _ _ _ _ _ _ _ ?_
    rw [hy,hk]
    (simp only [iB,vcS])
    rw [<-ha] at g3
    refine ⟨fun hb=> ⟨(a,_,i+1),rfl,⟨⟨V5,V5⟩,g3,?_⟩,V5⟩,fun hb=> ⟨(a,_,i+1),rfl,⟨⟨V5,V5⟩,g3,?_⟩,V5⟩⟩
    .rw [if_neg hb] at g4;exact g4
    .rw [if_pos hb] at g4;exact g4
   refine Ztg _ _ _ _ _ _ _ ?_
   rw [hy]
   (simp only [iB,vcS])
   exact ⟨fun hb=> step2 _ (by rw [if_neg hb];rfl),fun hb=> step2 _ (by rw [if_pos hb])⟩
  exact ⟨fun hb=> key _ (by unfold Z1A;rw [if_pos hb]) _,fun hb=> key _ (by unfold Z1A;rw [if_neg hb];rfl) _⟩
 .rw [Q6 YL] at g3 g4
  simp only [Z3g,Z3f] at g3 g4
  rw [g3,g4]
  exact JR
theorem Zlo:∀ (l:List Op) (n:Int),(∀ o∈l,(0<=o.n/\o.n<=1048576)/\o.l.length<=20000000000)->0<=n->n<=1048576->Z3g l n=Z1i l n
 | [],_,_,_,_=> rfl
 | o ::r,n,h,h0,hn=> by
  have ho:=h o (Q3 ..)
  have hl:=Yr o
  have ew:Z1A o=Z3 o:=by
   unfold Z1A;rw [hl]
   split
   .try rfl
   .exact ZjX V3
  have hb:0<=Z3 o/\Z3 o<=60000000000:=by rw [hl];split <;> omega
  simp only [Z3g,Z1i]
  rw [ew,ZjX V3]
  have e2:(if o.kind=2 then n else Zjx (n+Z3 o))=min (if o.kind=2 then n else n+Z3 o) 1048576:=by
   unfold Zjx;split
   .omega
   .omega
  rw [e2]
  exact Zlo r _ (fun x hx=> h x (Q0 _ hx)) YL YL
theorem Zln:∀ (l:List Op) (n:Int),(∀ o∈l,(0<=o.n/\o.n<=1048576)/\o.l.length<=20000000000)->0<=n->n<=1048576->Z3f l n=Z1h l n
 | [],_,_,_,_=> rfl
 | o ::r,n,h,h0,hn=> by
  have ho:=h o (Q3 ..)
  have hl:=Yr o
  have ew:Z1A o=Z3 o:=by
   unfold Z1A;rw [hl]
   split
   .try rfl
   .exact ZjX V3
  have hb:0<=Z3 o/\Z3 o<=60000000000:=by rw [hl];split <;> omega
  simp only [Z3f,Z1h]
  rw [ew,ZjX V3]
  have e2:(if o.kind=1 then n else Zjx (n+Z3 o))=min (if o.kind=1 then n else n+Z3 o) 1048576:=by
   unfold Zjx;split
   .omega
   .omega
  rw [e2]
  exact Zln r _ (fun x hx=> h x (Q0 _ hx)) YL YL
noncomputable section
def ZqO:ArgL (List Tree × List Tree × Unit × Unit):=(.cons (aSl .tree) (.cons (aSl .tree) (.cons (aFn 47) .nil)))
def Zfy(a:List Tree × List Tree × Unit × Unit):Prop:=Zk a.1<=1000000000000/\Zk a.2.1<=1000000000000
def Zua(a:List Tree × List Tree × Unit × Unit):V U:= .c (.bool (eqX (Zb a.1) (Zb a.2.1)))
def Z6Z:Fs U:=fs ZqO (fun a=> [Zfy a]) Zua
def Z7u:List (FuncId × Fs U):=[(47,Z0i)]
def Zg6:Zd U:=lvl [([0,1,2],[]),([0,1,2,14],[]),([6],[]),([1,2,15,16,17],[]),([1,2,15,16,17,18],[]),([1,2,7,8,15,16,17],[8]),([1,2,8,9,15,16,17],[8,9]),([1,2,15,16,17,30],[]),([6],[]),([1,2,15,16,17],[]),([6],[])]
def Z7M(a b:List Tree)(f:Unit)(x17:Int):LSt U:=(L2 [(1,.c (sU .tree b .unk)),(2,.fn 47),(15,.c (sU .tree a .unk)),pI 16 (a.length:Int),pI 17 x17] [])
abbrev ZJR(a b:List Tree)(f:Unit)(Q:QT):=AW (Z1 Z7u) Tryz.f140 Zg6 [] (L2 [(0,.c (sU .tree a .unk)),(1,.c (sU .tree b .unk)),(2,.fn 47)] []) Q
theorem ZHc(a b:List Tree)(f:Unit)(Q:QT)(h:iB (((a.length:Int):Int) !=(b.length:Int)) (Q .ret (L2 [pB 6 false] [])) (Zj (AW (Z1 Z7u) Tryz.f140 Zg6 [1,1,0,1,0,0]) (Z7M a b f 0) (xB 0 (SW (Z1 Z7u) Tryz.f140 Zg6 [1,1,1] Q)))):
  ZJR a b f Q:=
 Eq.mpr V4 h
abbrev ZAl(a b:List Tree)(f:Unit)(x17:Int)(N0:NT)(Q:QT):=AW (Z1 Z7u) Tryz.f140 Zg6 [1,1,0,1,0,0] (Z7M a b f x17) (xT N0 (xB 0 (SW (Z1 Z7u) Tryz.f140 Zg6 [1,1,1] Q)))
theorem Ztd(a b:List Tree)(f:Unit)(x17:Int)(N0:NT)(Q:QT)(h:let z3:=a.getD x17.toNat Tree.nil;let z2:=b.getD x17.toNat Tree.nil;let z1:=Tree.mk (Tree.kind z2) (Tree.words z2) (Tree.kids z2);let z0:=Tree.mk (Tree.kind z3) (Tree.words z3) (Tree.kids z3);iB (decide (x17 < (a.length:Int))) (((0:Int)<=x17/\x17 < (a.length:Int))/\(((0:Int)<=x17/\x17 < (b.length:Int))/\((Z6e (z0,z1,()))/\(iB (!(YM (Z5 z0) (Z5 z1))) (Q .ret (L2 [pB 6 false] [])) ((InR (x17+1))/\(N0 (Z7M a b f (x17+1)))))))) (Q .ret (L2 [pB 6 true] []))):
  ZAl a b f x17 N0 Q:=
 Eq.mpr V4 h
def ZB0(a b:List Tree)(f:Unit):Prop:=AW (Z1 Z7u) Tryz.f140 Zg6 [] (Zg (ZqO.can (a,b,f,())) []) (EQ Tryz.f140 (Zua (a,b,f,())) [])
theorem Zzi(c47:CT 47 Z0i)(hb:∀ (a:List Tree) (b:List Tree) (f:Unit) (_:Unit),Zfy (a,b,f,())->ZB0 a b f):CT 140 Z6Z:=
 Z2 (l:=[(47,Z0i)]) Zi rfl (⟨c47,trivial⟩) Zg6 Tryz.func140 rfl rfl 3 (fun _=> rfl) V2 (fun ⟨a,b,f,_⟩=> hb a b f ())
end
theorem ZEF:Contract Tryz.prog cfg 140 Z6Z:=by
 refine Zzi c47 ?_
 intro a b f _ hp
 simp only [Zfy] at hp
 refine ZHc a b f _ ?_
 (simp only [iB,vcS])
 refine ⟨fun hc=> Z6 rfl (Z48 (a:=Zb a) (b:=Zb b) (fun h=> hc (by have:=congrArg List.length h;simp [Zb] at this;omega))).symm,fun hc=> ?_⟩
 have hl:a.length=b.length:=YL
 have hla:=Zv a
 refine Z4 (ι:=Int) (fun i=> Z7M a b f i) (fun i=> 0<=i/\i<=a.length/\∀ j:Nat,(j:Int) < i->Z5 (a.getD j Tree.nil)=Z5 (b.getD j Tree.nil)) (fun i=> ((a.length:Int) - i).toNat) 0 rfl ⟨YL,YL,YL⟩ ?_
 rintro i ⟨h1,h2,h3⟩
 refine Ztd a b f _ _ _ ?_
 (simp only [iB,vcS])
 (simp only [Tree.eta,Edit.eta,Tree.kind_mk,Tree.words_mk,Tree.kids_mk])
 refine ⟨fun hi=> ⟨⟨h1,hi⟩,⟨h1,YL⟩,?_,fun hq=> ?_,fun hq=> ⟨V3,i+1,rfl,⟨YL,YL,?_⟩,YL⟩⟩,fun hi=> ?_⟩
 .have:=Yx (Zf (l:=a) (i:=i.toNat) YL Tree.nil)
  have:=Yx (Zf (l:=b) (i:=i.toNat) YL Tree.nil)
  simp only [Z6e];omega
 .refine Z6 rfl (Z48 (a:=Zb a) (b:=Zb b) (fun h=> ?_)).symm
  have h5:=Z6J (d:=Tree.nil) h i.toNat
  rw [YG] at hq
  exact hq h5
 .intro j hj
  by_cases hj2:(j:Int) < i
  .exact h3 j hj2
  .rw [Yu,show i.toNat=j by omega] at hq
   exact hq
 .exact Z6 rfl (JI (a:=Zb a) (b:=Zb b).2 (Zdd Tree.nil hl (fun j hj=> h3 j YL))).symm
noncomputable section
def Z9S(a:List Int × Unit):List Int:=a.1
def Z4i:Fs U:=fsL ZwZ (fun a=> [ZkM a]) .u64 Z9S
def Zfz(a:List Tree × Unit):Prop:=a.1.length<=1000000000000
def ZdT(a:List Tree × Unit):List Tree:=a.1
def Z70:Fs U:=fsL ZqM (fun a=> [Zfz a]) .tree ZdT
def Zcw:ArgL (Edit × Tree × Unit):=(.cons (aEl .edit) (.cons (aEl .tree) .nil))
def Z4o(a:Edit × Tree × Unit):Prop:=(Z8 a.1<=20000000000/\YI a.1/\∃ d,Z9 a.1 d=true)/\Zm a.2.1+ctE a.1<=200000000000/\rng a.2.1
def ZgO(a:Edit × Tree × Unit):Nat:=2*Z8 a.1+1
def Z6a(a:Edit × Tree × Unit):V U:= .tup [(true,(enc .tree (ZdD a.1 a.2.1))),(false,[.bool ((doE false a.1 a.2.1).isSome)])]
def ZbC:Fs U:=fs Zcw (fun a=> [Z4o a]) Z6a
def Z5w(a:Edit × Tree × Unit):Prop:=Edit.kind a.1=2/\(Z8 a.1<=20000000000/\YI a.1/\∃ d,Z9 a.1 d=true)/\Zm a.2.1+ctE a.1<=200000000000/\rng a.2.1
def Zd7(a:Edit × Tree × Unit):Nat:=2*Z8 a.1
def Z5r(a:Edit × Tree × Unit):V U:= .tup [(true,(enc .tree (Yc (Z2X false a.1 a.2.1)))),(false,[.bool ((Z2X false a.1 a.2.1).isSome)])]
def ZoB:Fs U:=fs Zcw (fun a=> [Z5w a]) Z5r
def Z5v(a:Edit × Tree × Unit):Prop:=Edit.kind a.1=3/\(Z8 a.1<=20000000000/\YI a.1/\∃ d,Z9 a.1 d=true)/\Zm a.2.1+ctE a.1<=200000000000/\rng a.2.1
def Z5q(a:Edit × Tree × Unit):V U:= .tup [(true,(enc .tree (Zj4 a.1 (Z0u false a.1 a.2.1)))),(false,[.bool ((Z2z (Z0u false a.1 a.2.1)).isSome)])]
def ZoA:Fs U:=fs Zcw (fun a=> [Z5v a]) Z5q
def Zn9:Zd U:=lvk [([0],[]),([0,4],[]),([(2,[.wr .u64])],[]),([(2,[.wr .u64])],[])]
abbrev ZIA(p:List Nat):=AW (Zgb Znz) Tryz.f64 Zn9 p
theorem ZCy(l:List Int)(Q:QT)(h:(((l=[])->(Q .ret (⟨[(2,.c (.mref (.e 2 0)))],[],[(.e 2 0,LC.mk (U:=U) .u64 [] 0)]⟩:LSt U)))/\(True->((([]:List Int).length+l.length)*8<=140737488355328)/\(Q .ret (⟨[(2,.c (.mref (.e 2 0)))],[],[(.e 2 0,LC.mk (U:=U) .u64 (([]:List Int)++l) (([]:List Int).length))]⟩:LSt U))))):
  ZIA [] (L2 [(0,.c (sU .u64 l .unk))] []) Q:=
 Eq.mpr V4 h
def ZxA(l:List Int):Prop:=AW (Zgb Znz) Tryz.f64 Zn9 [] (Zg (ZwZ.can (l,())) []) (Z4a cfg Tryz.f64.ntmps Tryz.f64.results.toList (.c (.mref (.r 0 0))) [] [(.r 0 0,LC.mk (U:=U) .u64 (Z9S (l,())) 0)])
theorem Zv6(hb:∀ (l:List Int) (_:Unit),ZkM (l,())->ZxA l):CT 64 Z4i:=
 Z6S (l:=[]) Zi rfl trivial Zn9 Tryz.func64 rfl rfl 1 (fun _=> rfl) V2 (fun ⟨l,_⟩=> hb l ())
def Zvr:Zd U:=lvk [([0],[]),([0,4],[]),([(2,[.wr .tree])],[]),([(2,[.wr .tree])],[])]
abbrev ZKg(p:List Nat):=AW (Zgb Znz) Tryz.f139 Zvr p
theorem ZHd(l:List Tree)(Q:QT)(h:(((l=[])->(Q .ret (⟨[(2,.c (.mref (.e 2 0)))],[],[(.e 2 0,LC.mk (U:=U) .tree [] 0)]⟩:LSt U)))/\(True->((([]:List Tree).length+l.length)*56<=140737488355328)/\(Q .ret (⟨[(2,.c (.mref (.e 2 0)))],[],[(.e 2 0,LC.mk (U:=U) .tree (([]:List Tree)++l) (([]:List Tree).length))]⟩:LSt U))))):
  ZKg [] (L2 [(0,.c (sU .tree l .unk))] []) Q:=
 Eq.mpr V4 h
def ZB1(l:List Tree):Prop:=AW (Zgb Znz) Tryz.f139 Zvr [] (Zg (ZqM.can (l,())) []) (Z4a cfg Tryz.f139.ntmps Tryz.f139.results.toList (.c (.mref (.r 0 0))) [] [(.r 0 0,LC.mk (U:=U) .tree (ZdT (l,())) 0)])
theorem Zzj(hb:∀ (l:List Tree) (_:Unit),Zfz (l,())->ZB1 l):CT 139 Z70:=
 Z6S (l:=[]) Zi rfl trivial Zvr Tryz.func139 rfl rfl 1 (fun _=> rfl) V2 (fun ⟨l,_⟩=> hb l ())
def Zca(N:Nat):List (FuncId × Fs U):=(63,fs Zcw (fun a=> [Z4o a,ZgO a < N]) Z6a) ::(100,fs Zcw (fun a=> [Z5w a,Zd7 a < N]) Z5r) ::(101,fs Zcw (fun a=> [Z5v a,Zd7 a < N]) Z5q) ::[(47,Z0i),(81,Z54),(45,Z57),(140,Z6Z),(139,Z70),(136,Z53),(64,Z4i)]
def ZDR:Zd U:=lvl [([2,3,4],[2,3,4]),([2,3,4,7],[2,3,4]),([2,3,4,7,8],[2,3,4]),([4,5],[4]),([2,3,4,7,11],[2,3,4]),([4,5],[4]),([2,3,4,7,19],[2,3,4]),([4,5],[4]),([2,3,4,26],[2,3,4]),([4,5],[4]),([4,5],[4])]
abbrev A63(N:Nat)(p:List Nat):=AW (Z1 (Zca N)) Tryz.f63 ZDR p
theorem ZIX(N:Nat)(e:Edit)(t:Tree)(Q:QT)(h:∀ y_1,y_1=e->∀ y_2,y_2=t->∀ y_3,y_3=(e.old)->(iB (e.kind==0) ((Q .ret (L2 [pL 4,pB 5 true] [(.loc 4,(enc .tree t))]))) ((iB (e.kind==1) ((Z6e (y_3,y_2,()))/\(Q .ret (L2 [pL 4,pB 5 (YM (Z5 y_3) (Z5 y_2))] [(.loc 4,(enc .tree e.new))]))) ((iB (e.kind==2) ((Z5w (y_1,y_2,()))/\(Zd7 (y_1,y_2,()) < N)/\(Q .ret (L2 [pL 4,pB 5 ((Z2X false y_1 y_2).isSome)] [(.loc 4,(enc .tree (Yc (Z2X false y_1 y_2))))]))) ((iB (e.kind==3) ((Z5v (y_1,y_2,()))/\(Zd7 (y_1,y_2,()) < N)/\(Q .ret (L2 [pL 4,pB 5 ((Z2z (Z0u false y_1 y_2)).isSome)] [(.loc 4,(enc .tree (Zj4 y_1 (Z0u false y_1 y_2))))]))) ((Q .ret (L2 [pL 4,pB 5 false] [(.loc 4,[ci 0,.nils,.nils])]))))))))))):
  A63 N [] (L2 [(0,.agg (enc .edit e)),(1,.agg (enc .tree t))] []) Q:=
 Eq.mpr V4 (h _ (Z7 _) _ (Za _) _ (Za _))
def ZFP(N:Nat)(e:Edit)(t:Tree):Prop:=AW (Z1 (Zca N)) Tryz.f63 ZDR [] (Zg (Zcw.can (e,t,())) []) (EQ Tryz.f63 (Z6a (e,t,())) [])
abbrev ZIo:Prop:=∀ (N:Nat) (e:Edit) (t:Tree) (_:Unit),Z4o (e,t,())->ZgO (e,t,()) < N+1->ZFP N e t
def ZpE:Zd U:=lvk [([2,3,4],[2,3,4]),([2,3,4,16],[2,3,4]),([4,5],[4]),([2,3,4,6],[2,3,4,((.loc 6),[.any,.wr .u64,.wr .tree])]),([2,3,4,6,26,27,28],[2,3,4,((.loc 6),[.any,.wr .u64,.wr .tree])]),([2,3,4,6,26,27,28,29],[2,3,4,((.loc 6),[.any,.wr .u64,.wr .tree])]),([2,3,4,6,8,26,27,28],[2,3,4,((.loc 6),[.any,.wr .u64,.wr .tree]),8]),([2,3,4,6,8,9,26,27,28],[2,3,4,((.loc 6),[.any,.wr .u64,.wr .tree]),8]),([2,3,4,6,8,9,26,27,28,42],[2,3,4,((.loc 6),[.any,.wr .u64,.wr .tree]),8]),([4,5],[4]),([2,3,4,6,8,9,26,27,28,42,49],[2,3,4,((.loc 6),[.any,.wr .u64,.wr .tree]),8]),([2,3,4,6,8,9,26,27,28,42],[2,3,4,((.loc 6),[.any,.wr .u64,.wr .tree]),8]),([2,3,4,6,26,27,28],[2,3,4,((.loc 6),[.any,.wr .u64,.wr .tree])]),([2,3,4,6,26,27,28],[2,3,4,((.loc 6),[.any,.wr .u64,.wr .tree])]),([3,4,6,68,69,70],[3,4,((.loc 6),[.any,.wr .u64,.wr .tree])]),([3,4,6,68,69,70,71],[3,4,((.loc 6),[.any,.wr .u64,.wr .tree])]),([3,4,6,11,68,69,70],[3,4,((.loc 6),[.any,.wr .u64,.wr .tree]),11]),([3,4,6,11,12,13,68,69,70],[3,4,((.loc 6),[.any,.wr .u64,.wr .tree]),11,12]),([3,4,6,11,12,68,69,70,85],[3,4,((.loc 6),[.any,.wr .u64,.wr .tree]),11,12]),([4,5],[4]),([3,4,6,11,12,68,69,70,85,92],[3,4,((.loc 6),[.any,.wr .u64,.wr .tree]),11,12]),([3,4,6,11,12,68,69,70,85],[3,4,((.loc 6),[.any,.wr .u64,.wr .tree]),11,12]),([3,4,6,68,69,70],[3,4,((.loc 6),[.any,.wr .u64,.wr .tree])]),([3,4,6,68,69,70],[3,4,((.loc 6),[.any,.wr .u64,.wr .tree])]),([4,5],[4])]
def Z7U(e:Edit)(t:Tree)(x28:Int)(rl_6_1:List Int):LSt U:=(⟨[pL 2,pL 3,pL 4,pL 6,(26,.c (sU .wedit e.words .unk)),pI 27 (e.words.length:Int),pI 28 x28],[(.loc 2,(enc .edit e)),(.loc 3,(enc .tree t)),(.loc 4,[ci 0,.nils,.nils]),(.loc 6,[ci 1,.mref (.l 6 1),.mref (.l 6 2)])],[(.l 6 1,LC.mk (U:=U) .u64 rl_6_1 0),(.l 6 2,LC.mk (U:=U) .tree t.kids 0)]⟩:LSt U)
def Z7T(e:Edit)(t:Tree)(x28:Int)(rl_6_1_a:List Int):LSt U:=(⟨[pL 2,pL 3,pL 4,pL 6,pL 8,(9,.c (.int .u64 (YE (Tree.mk t.kind t.words t.kids) (WEdit.at_ (e.words.getD x28.toNat (WEdit.mk 0 0 0 0)))))),(26,.c (sU .wedit e.words .unk)),pI 27 (e.words.length:Int),pI 28 x28,(42,.c (.bool (((mix 0 (YE (Tree.mk t.kind t.words t.kids) (WEdit.at_ (e.words.getD x28.toNat (WEdit.mk 0 0 0 0)))) (WEdit.mask (e.words.getD x28.toNat (WEdit.mk 0 0 0 0)))):Int) !=(WEdit.old (e.words.getD x28.toNat (WEdit.mk 0 0 0 0))))))],[(.loc 2,(enc .edit e)),(.loc 3,(enc .tree t)),(.loc 4,[ci 0,.nils,.nils]),(.loc 6,[ci 1,.mref (.l 6 1),.mref (.l 6 2)]),(.loc 8,(enc .wedit (e.words.getD x28.toNat (WEdit.mk 0 0 0 0))))],[(.l 6 1,LC.mk (U:=U) .u64 rl_6_1_a 0),(.l 6 2,LC.mk (U:=U) .tree t.kids 0)]⟩:LSt U)
def Z7S(e:Edit)(t:Tree)(rl_6_1:List Int)(x70_b:Int)(rl_6_2_b:List Tree):LSt U:=(⟨[pL 3,pL 4,pL 6,(68,.c (sU .kid e.kids .unk)),pI 69 (e.kids.length:Int),pI 70 x70_b],[(.loc 3,(enc .tree t)),(.loc 4,[ci 0,.nils,.nils]),(.loc 6,[ci 1,.mref (.l 6 1),.mref (.l 6 2)])],[(.l 6 1,LC.mk (U:=U) .u64 rl_6_1 0),(.l 6 2,LC.mk (U:=U) .tree rl_6_2_b 0)]⟩:LSt U)
def Z7R(e:Edit)(t:Tree)(rl_6_1:List Int)(x70_b:Int)(rl_6_2_c:List Tree):LSt U:=(⟨[pL 3,pL 4,pL 6,pL 11,pL 12,(68,.c (sU .kid e.kids .unk)),pI 69 (e.kids.length:Int),pI 70 x70_b,(85,.c (.bool (!((doE false (Edit.mk (Edit.kind (KidOf.e (e.kids.getD x70_b.toNat (KidOf.mk 0 Edit.nil)))) (Tree.mk (Tree.kind (Edit.old (KidOf.e (e.kids.getD x70_b.toNat (KidOf.mk 0 Edit.nil))))) (Tree.words (Edit.old (KidOf.e (e.kids.getD x70_b.toNat (KidOf.mk 0 Edit.nil))))) (Tree.kids (Edit.old (KidOf.e (e.kids.getD x70_b.toNat (KidOf.mk 0 Edit.nil)))))) (Tree.mk (Tree.kind (Edit.new (KidOf.e (e.kids.getD x70_b.toNat (KidOf.mk 0 Edit.nil))))) (Tree.words (Edit.new (KidOf.e (e.kids.getD x70_b.toNat (KidOf.mk 0 Edit.nil))))) (Tree.kids (Edit.new (KidOf.e (e.kids.getD x70_b.toNat (KidOf.mk 0 Edit.nil)))))) (Edit.words (KidOf.e (e.kids.getD x70_b.toNat (KidOf.mk 0 Edit.nil)))) (Edit.kids (KidOf.e (e.kids.getD x70_b.toNat (KidOf.mk 0 Edit.nil)))) (Edit.list (KidOf.e (e.kids.getD x70_b.toNat (KidOf.mk 0 Edit.nil)))) (Edit.ops (KidOf.e (e.kids.getD x70_b.toNat (KidOf.mk 0 Edit.nil))))) (Tree.mk (Tree.kind (JD (Tree.mk t.kind t.words t.kids) (KidOf.at_ (e.kids.getD x70_b.toNat (KidOf.mk 0 Edit.nil))))) (Tree.words (JD (Tree.mk t.kind t.words t.kids) (KidOf.at_ (e.kids.getD x70_b.toNat (KidOf.mk 0 Edit.nil))))) (Tree.kids (JD (Tree.mk t.kind t.words t.kids) (KidOf.at_ (e.kids.getD x70_b.toNat (KidOf.mk 0 Edit.nil))))))).isSome))))],[(.loc 3,(enc .tree t)),(.loc 4,[ci 0,.nils,.nils]),(.loc 6,[ci 1,.mref (.l 6 1),.mref (.l 6 2)]),(.loc 11,(enc .kid (e.kids.getD x70_b.toNat (KidOf.mk 0 Edit.nil)))),(.loc 12,(enc .tree (ZdD (Edit.mk (Edit.kind (KidOf.e (e.kids.getD x70_b.toNat (KidOf.mk 0 Edit.nil)))) (Tree.mk (Tree.kind (Edit.old (KidOf.e (e.kids.getD x70_b.toNat (KidOf.mk 0 Edit.nil))))) (Tree.words (Edit.old (KidOf.e (e.kids.getD x70_b.toNat (KidOf.mk 0 Edit.nil))))) (Tree.kids (Edit.old (KidOf.e (e.kids.getD x70_b.toNat (KidOf.mk 0 Edit.nil)))))) (Tree.mk (Tree.kind (Edit.new (KidOf.e (e.kids.getD x70_b.toNat (KidOf.mk 0 Edit.nil))))) (Tree.words (Edit.new (KidOf.e (e.kids.getD x70_b.toNat (KidOf.mk 0 Edit.nil))))) (Tree.kids (Edit.new (KidOf.e (e.kids.getD x70_b.toNat (KidOf.mk 0 Edit.nil)))))) (Edit.words (KidOf.e (e.kids.getD x70_b.toNat (KidOf.mk 0 Edit.nil)))) (Edit.kids (KidOf.e (e.kids.getD x70_b.toNat (KidOf.mk 0 Edit.nil)))) (Edit.list (KidOf.e (e.kids.getD x70_b.toNat (KidOf.mk 0 Edit.nil)))) (Edit.ops (KidOf.e (e.kids.getD x70_b.toNat (KidOf.mk 0 Edit.nil))))) (Tree.mk (Tree.kind (JD (Tree.mk t.kind t.words t.kids) (KidOf.at_ (e.kids.getD x70_b.toNat (KidOf.mk 0 Edit.nil))))) (Tree.words (JD (Tree.mk t.kind t.words t.kids) (KidOf.at_ (e.kids.getD x70_b.toNat (KidOf.mk 0 Edit.nil))))) (Tree.kids (JD (Tree.mk t.kind t.words t.kids) (KidOf.at_ (e.kids.getD x70_b.toNat (KidOf.mk 0 Edit.nil)))))))))],[(.l 6 1,LC.mk (U:=U) .u64 rl_6_1 0),(.l 6 2,LC.mk (U:=U) .tree rl_6_2_c 0)]⟩:LSt U)
abbrev ZjW(N:Nat)(p:List Nat):=AW (Z1 (Zca N)) Tryz.f100 ZpE p
abbrev Z87(N:Nat)(p:List Nat):=SW (Z1 (Zca N)) Tryz.f100 ZpE p
theorem ZHx(N:Nat)(e:Edit)(t:Tree)(Q:QT)(h:(iB (t.kind !=1) ((Q .ret (L2 [pL 4,pB 5 false] [(.loc 4,[ci 0,.nils,.nils])]))) ((ZkM (t.words,()))/\(Zfz (t.kids,()))/\(Zj (ZjW N [1,1,1,0,1,0,0]) (Z7U e t 0 t.words) (xB 0 (Z87 N [1,1,1,1] Q)))))):
  ZjW N [] (L2 [(0,.agg (enc .edit e)),(1,.agg (enc .tree t))] []) Q:=
 Eq.mpr V4 h
theorem Ztr(N:Nat)(e:Edit)(t:Tree)(x28:Int)(rl_6_1:List Int)(N0:NT)(Q:QT)(h:∀ y_1,y_1=t->∀ y_2,y_2=(e.words.getD x28.toNat (WEdit.mk 0 0 0 0))->(iB (decide (x28 < (e.words.length:Int))) (((0:Int)<=x28/\x28 < (e.words.length:Int))/\((Zhr (y_1,y_2.at_,()))/\((ZcW (0,(YE y_1 y_2.at_),y_2.mask,()))/\(iB (((mix 0 (YE y_1 y_2.at_) y_2.mask):Int) !=y_2.old) ((Q .ret (L2 [pL 4,pB 5 false] [(.loc 4,[ci 0,.nils,.nils])]))) (Zj (ZjW N [1,1,1,0,1,0,0,1,1,0,0,1,1,1,0,0,0]) (Z7T e t x28 rl_6_1) (xB 2 (Z87 N [1,1,1,0,1,0,0,1,1,0,0,1,1,1,1] (xB 1 (Z87 N [1,1,1,0,1,0,0,1,1,1] (xT N0 (xB 0 (Z87 N [1,1,1,1] Q)))))))))))) ((Zj (ZjW N [1,1,1,1,0,1,0,0]) (Z7S e t rl_6_1 0 t.kids) (xB 4 (Z87 N [1,1,1,1,1] Q)))))):
  ZjW N [1,1,1,0,1,0,0] (Z7U e t x28 rl_6_1) (xT N0 (xB 0 (Z87 N [1,1,1,1] Q))):=
 Eq.mpr V4 (h _ (Za _) _ rfl)
theorem Ztq(N:Nat)(e:Edit)(t:Tree)(x28:Int)(rl_6_1_a:List Int)(N1 N0:NT)(Q:QT)(h:let z0:=e.words.getD x28.toNat (WEdit.mk 0 0 0 0);let z1:=YE (Tree.mk t.kind t.words t.kids) (WEdit.at_ z0);(iB (decide (((rl_6_1_a.length:Int):Int)<=(WEdit.at_ z0))) (((rl_6_1_a.length+([0]).length)*8<=140737488355328)/\(N1 (Z7T e t x28 (rl_6_1_a++([0]))))) ((ZcW (z1,(WEdit.new z0),(WEdit.mask z0),()))/\((0:Int)<=(WEdit.at_ z0)/\(WEdit.at_ z0) < (rl_6_1_a.length:Int))/\((0:Nat)<=(Int.toNat (WEdit.at_ z0)))/\((InR (x28+1))/\(N0 (Z7U e t (x28+1) (List.set rl_6_1_a (Int.toNat (WEdit.at_ z0)) (mix z1 (WEdit.new z0) (WEdit.mask z0))))))))):
  ZjW N [1,1,1,0,1,0,0,1,1,0,0,1,1,1,0,0,0] (Z7T e t x28 rl_6_1_a) (xT N1 (xB 2 (Z87 N [1,1,1,0,1,0,0,1,1,0,0,1,1,1,1] (xB 1 (Z87 N [1,1,1,0,1,0,0,1,1,1] (xT N0 (xB 0 (Z87 N [1,1,1,1] Q)))))))):=
 Eq.mpr V4 h
theorem Ztp(N:Nat)(e:Edit)(t:Tree)(rl_6_1:List Int)(x70_b:Int)(rl_6_2_b:List Tree)(N2:NT)(Q:QT)(h:∀ y_1,y_1=t->∀ y_2,y_2=(e.kids.getD x70_b.toNat (KidOf.mk 0 Edit.nil))->∀ y_3,y_3=(y_2.e)->∀ y_4,y_4=(JD y_1 y_2.at_)->(iB (decide (x70_b < (e.kids.length:Int))) (((0:Int)<=x70_b/\x70_b < (e.kids.length:Int))/\((Zhr (y_1,y_2.at_,()))/\(Z4o (y_3,y_4,()))/\(ZgO (y_3,y_4,()) < N)/\(iB (!((doE false y_3 y_4).isSome)) ((Q .ret (L2 [pL 4,pB 5 false] [(.loc 4,[ci 0,.nils,.nils])]))) (Zj (ZjW N [1,1,1,1,0,1,0,0,1,1,0,0,1,1,1,0,0,0]) (Z7R e t rl_6_1 x70_b rl_6_2_b) (xB 6 (Z87 N [1,1,1,1,0,1,0,0,1,1,0,0,1,1,1,1] (xB 5 (Z87 N [1,1,1,1,0,1,0,0,1,1,1] (xT N2 (xB 4 (Z87 N [1,1,1,1,1] Q))))))))))) ((Q .ret (L2 [pL 4,pB 5 true] [(.loc 4,[ci 1,sU .u64 rl_6_1 (.own (.l 4 1)),sU .tree rl_6_2_b (.own (.l 4 2))])]))))):
  ZjW N [1,1,1,1,0,1,0,0] (Z7S e t rl_6_1 x70_b rl_6_2_b) (xT N2 (xB 4 (Z87 N [1,1,1,1,1] Q))):=
 Eq.mpr V4 (h _ (Za _) _ rfl _ (Z7 _) _ (Za _))
theorem Zto(N:Nat)(e:Edit)(t:Tree)(rl_6_1:List Int)(x70_b:Int)(rl_6_2_c:List Tree)(N3 N2:NT)(Q:QT)(h:∀ y_1,y_1=t->∀ y_2,y_2=(e.kids.getD x70_b.toNat (KidOf.mk 0 Edit.nil))->∀ y_3,y_3=(y_2.e)->∀ y_4,y_4=(JD y_1 y_2.at_)->∀ y_5,y_5=(ZdD y_3 y_4)->(iB (decide (((rl_6_2_c.length:Int):Int)<=y_2.at_)) (((rl_6_2_c.length+([(Tree.mk 0 [] [])]).length)*56<=140737488355328)/\(N3 (Z7R e t rl_6_1 x70_b (rl_6_2_c++([(Tree.mk 0 [] [])]))))) (((0:Int)<=y_2.at_/\y_2.at_ < (rl_6_2_c.length:Int))/\((0:Nat)<=(Int.toNat y_2.at_))/\((InR (x70_b+1))/\(N2 (Z7S e t rl_6_1 (x70_b+1) (List.set rl_6_2_c (Int.toNat y_2.at_) y_5))))))):
  ZjW N [1,1,1,1,0,1,0,0,1,1,0,0,1,1,1,0,0,0] (Z7R e t rl_6_1 x70_b rl_6_2_c) (xT N3 (xB 6 (Z87 N [1,1,1,1,0,1,0,0,1,1,0,0,1,1,1,1] (xB 5 (Z87 N [1,1,1,1,0,1,0,0,1,1,1] (xT N2 (xB 4 (Z87 N [1,1,1,1,1] Q)))))))):=
 Eq.mpr V4 (h _ (Za _) _ rfl _ (Z7 _) _ (Za _) _ (Za _))
def ZBl(N:Nat)(e:Edit)(t:Tree):Prop:=AW (Z1 (Zca N)) Tryz.f100 ZpE [] (Zg (Zcw.can (e,t,())) []) (EQ Tryz.f100 (Z5r (e,t,())) [])
abbrev ZCq:Prop:=∀ (N:Nat) (e:Edit) (t:Tree) (_:Unit),Z5w (e,t,())->Zd7 (e,t,()) < N+1->ZBl N e t
def ZpD:Zd U:=lvk [([2,3,4],[2,3,4]),([2,3,4,18],[2,3,4]),([4,5],[4]),([2,3,4,6],[2,3,4,6]),([2,4,6,7],[2,4,6]),([4,6,7,26,27,28],[4,((.loc 6),[.any,.any,.own .tree])]),([4,6,7,26,27,28,29],[4,6]),([4,6,7,9,26,27,28],[4,6,9]),([4,6,7,9,10,26,27,28],[4,6,9]),([4,6,7,9,10,26,27,28,35],[4,6,9]),([4,6,7,9,10,26,27,28,35,36],[4,6,9]),([4,6,7,26,27,28,97],[4,6]),([4,6,7,9,10,26,27,28,35,44],[4,6,9]),([4,6,7,9,10,26,27,28,49],[4,6,9]),([4,6,7,9,10,26,27,28,49],[4,6,9]),([4,6,7,9,10,26,27,28,49],[4,6,9]),([4,6,7,9,10,26,27,28,54],[4,6,9]),([4,5],[4]),([4,6,7,9,10,26,27,28],[4,6,9]),([4,6,7,9,11,26,27,28],[4,6,9]),([4,6,7,12,13,26,27,28],[4,6,12]),([4,6,7,12,26,27,28,72],[4,6,12]),([4,5],[4]),([4,6,7,26,27,28,97],[4,6]),([4,6,7,9,11,26,27,28,80],[4,6,9]),([4,6,7,26,27,28,97],[4,6]),([4,6,7,9,11,26,27,28,89],[4,6,9]),([4,6,7,26,27,28,97],[4,6]),([4,5],[4]),([4,6,7,26,27,28],[4,((.loc 6),[.any,.any,.own .tree])]),([4,5],[4])]
def Z1I(e:Edit)(t:Tree)(x28:Int)(x7 ml6_2:List Tree):LSt U:=(L2 [pL 4,pL 6,(7,.c (sU .tree x7 .unk)),(26,.c (sU .op e.ops .unk)),pI 27 (e.ops.length:Int),pI 28 x28] [(.loc 4,[ci 0,.nils,.nils]),(.loc 6,[ci t.kind,.nils,sU .tree ml6_2 (.own (.l 6 2))])])
def Z2U(e:Edit)(t:Tree)(x28:Int)(x7_a ml6_2_a:List Tree)(v97_a:V U):LSt U:=(L2 [pL 4,pL 6,(7,.c (sU .tree x7_a .unk)),(26,.c (sU .op e.ops .unk)),pI 27 (e.ops.length:Int),pI 28 x28,(97,v97_a)] [(.loc 4,[ci 0,.nils,.nils]),(.loc 6,[ci t.kind,.nils,sU .tree ml6_2_a (.own (.l 6 2))])])
def Z7Q(e:Edit)(t:Tree)(x28:Int)(x7 ml6_2:List Tree)(x10_b:Int)(v49_b:V U):LSt U:=(L2 [pL 4,pL 6,(7,.c (sU .tree x7 .unk)),pL 9,pI 10 x10_b,(26,.c (sU .op e.ops .unk)),pI 27 (e.ops.length:Int),pI 28 x28,(49,v49_b)] [(.loc 4,[ci 0,.nils,.nils]),(.loc 6,[ci t.kind,.nils,sU .tree ml6_2 (.own (.l 6 2))]),(.loc 9,(enc .op (e.ops.getD x28.toNat Op.nil)))])
abbrev Zcz(N:Nat)(p:List Nat):=AW (Z1 (Zca N)) Tryz.f101 ZpD p
abbrev ZjU(N:Nat)(p:List Nat):=SW (Z1 (Zca N)) Tryz.f101 ZpD p
theorem ZHw(N:Nat)(e:Edit)(t:Tree)(Q:QT)(h:(iB (t.kind !=e.list) ((Q .ret (L2 [pL 4,pB 5 false] [(.loc 4,[ci 0,.nils,.nils])]))) ((Zj (Zcz N [1,1,1,1,0,1,0,0]) (Z1I e t 0 t.kids []) (xB 0 (ZjU N [1,1,1,1,1] Q)))))):
  Zcz N [] (L2 [(0,.agg (enc .edit e)),(1,.agg (enc .tree t))] []) Q:=
 Eq.mpr V4 h
theorem Ztm(N:Nat)(e:Edit)(t:Tree)(x28:Int)(x7 ml6_2:List Tree)(N0:NT)(Q:QT)(h:∀ y_1,y_1=(e.ops.getD x28.toNat Op.nil)->let z1:=xT N0 (xB 0 (ZjU N [1,1,1,1,1] Q));let z0:=xB 1 (ZjU N [1,1,1,1,0,1,0,0,1,1,1] z1);(iB (decide (x28 < (e.ops.length:Int))) (((0:Int)<=x28/\x28 < (e.ops.length:Int))/\(iB (y_1.kind==2) (((ml6_2.length+y_1.l.length)*56<=140737488355328)/\(Zcz N [1,1,1,1,0,1,0,0,1,1,1] (Z2U e t x28 x7 (ml6_2++y_1.l) .junk) z1)) ((iB (y_1.kind==1) ((Zcz N [1,1,1,1,0,1,0,0,1,1,0,0,1,1,1] (Z7Q e t x28 x7 ml6_2 (y_1.l.length:Int) .junk) z0)) ((iB (y_1.kind==3) ((Zcz N [1,1,1,1,0,1,0,0,1,1,0,0,1,1,1] (Z7Q e t x28 x7 ml6_2 1 (.c (.bool (y_1.kind==3)))) z0)) (Zcz N [1,1,1,1,0,1,0,0,1,1,0,0,1,1,1] (Z7Q e t x28 x7 ml6_2 y_1.n (.c (.bool (y_1.kind==3)))) z0))))))) ((Q .ret (L2 [pL 4,pB 5 (((x7.length:Int):Int)==0)] [(.loc 4,[ci t.kind,.nils,sU .tree ml6_2 (.own (.l 4 2))])]))))):
  Zcz N [1,1,1,1,0,1,0,0] (Z1I e t x28 x7 ml6_2) (xT N0 (xB 0 (ZjU N [1,1,1,1,1] Q))):=
 Eq.mpr V4 (h _ rfl)
theorem Ztn(N:Nat)(e:Edit)(t:Tree)(x28:Int)(x7_a ml6_2_a:List Tree)(v97_a:V U)(N0:NT)(Q:QT)(h:(InR (x28+1))/\(N0 (Z1I e t (x28+1) x7_a ml6_2_a))):
  Zcz N [1,1,1,1,0,1,0,0,1,1,1] (Z2U e t x28 x7_a ml6_2_a v97_a) (xT N0 (xB 0 (ZjU N [1,1,1,1,1] Q))):=
 Eq.mpr V4 h
theorem Zec(N:Nat)(e:Edit)(t:Tree)(x28:Int)(x7 ml6_2:List Tree)(x10_b:Int)(v49_b:V U)(N0:NT)(Q:QT)(h:∀ y_1,y_1=(e.ops.getD x28.toNat Op.nil)->∀ y_2,y_2=(List.getD (List.take x10_b.toNat x7) (Int.toNat 0) Tree.nil)->∀ y_3,y_3=y_2->∀ y_4,y_4=(y_1.e)->∀ y_5,y_5=(eqX (Zb y_1.l) (Zb (List.take x10_b.toNat x7)))->∀ y_6,y_6=(ZdD y_4 y_3)->let z3:=List.drop x10_b.toNat x7;let z2:=List.take x10_b.toNat x7;let z1:=xT N0 (xB 0 (ZjU N [1,1,1,1,1] Q));let z0:=(Q .ret (L2 [pL 4,pB 5 false] [(.loc 4,[ci 0,.nils,.nils])]));(iB (decide (((x7.length:Int):Int) < x10_b)) z0 ((((0:Int)<=x10_b/\x10_b<=(x7.length:Int))/\((0:Int)<=x10_b/\x10_b<=(x7.length:Int))/\(iB (y_1.kind==0) (((ml6_2.length+z2.length)*56<=140737488355328)/\(Zcz N [1,1,1,1,0,1,0,0,1,1,1] (Z2U e t x28 z3 (ml6_2++z2) .junk) z1)) ((iB (y_1.kind==1) ((Zfy (y_1.l,z2,(),()))/\(iB (!y_5) z0 (Zcz N [1,1,1,1,0,1,0,0,1,1,1] (Z2U e t x28 z3 ml6_2 (.c (.bool (!y_5)))) z1))) (((0:Int)<=0/\0 < (z2.length:Int))/\(Z4o (y_4,y_3,()))/\(ZgO (y_4,y_3,()) < N)/\(iB (!((doE false y_4 y_3).isSome)) z0 (((ml6_2.length+([y_6]).length)*56<=140737488355328)/\(Zcz N [1,1,1,1,0,1,0,0,1,1,1] (Z2U e t x28 z3 (ml6_2++([y_6])) .junk) z1))))))))))):
  Zcz N [1,1,1,1,0,1,0,0,1,1,0,0,1,1,1] (Z7Q e t x28 x7 ml6_2 x10_b v49_b) (xB 1 (ZjU N [1,1,1,1,0,1,0,0,1,1,1] (xT N0 (xB 0 (ZjU N [1,1,1,1,1] Q))))):=
 Eq.mpr V4 (h _ rfl _ rfl _ (Za _) _ (Z7 _) _ rfl _ (Za _))
def ZBk(N:Nat)(e:Edit)(t:Tree):Prop:=AW (Z1 (Zca N)) Tryz.f101 ZpD [] (Zg (Zcw.can (e,t,())) []) (EQ Tryz.f101 (Z5q (e,t,())) [])
abbrev ZCp:Prop:=∀ (N:Nat) (e:Edit) (t:Tree) (_:Unit),Z5v (e,t,())->Zd7 (e,t,()) < N+1->ZBk N e t
theorem ZyO(c47:CT 47 Z0i)(c81:CT 81 Z54)(c45:CT 45 Z57)(ZEF:CT 140 Z6Z)(ZEG:CT 139 Z70)(Zjy:CT 136 Z53)(ZwH:CT 64 Z4i)(b63:ZIo)(ZF5:ZCq)(ZF4:ZCp):
  CT 63 ZbC/\CT 100 ZoB/\CT 101 ZoA:=by
 have h82 : ∃ fn, Tryz.prog.funcs[(63 : FuncId)]? = some fn ∧ fn.body.isSome = true ∧ (fn.name == "runtime.NumGoroutine") = false := ⟨Tryz.f63, Tryz.func63, rfl, rfl⟩
 have h113 : ∃ fn, Tryz.prog.funcs[(100 : FuncId)]? = some fn ∧ fn.body.isSome = true ∧ (fn.name == "runtime.NumGoroutine") = false := ⟨Tryz.f100, Tryz.func100, rfl, rfl⟩
 have h114 : ∃ fn, Tryz.prog.funcs[(101 : FuncId)]? = some fn ∧ fn.body.isSome = true ∧ (fn.name == "runtime.NumGoroutine") = false := ⟨Tryz.f101, Tryz.func101, rfl, rfl⟩
 have key:∀ N,CT 63 (fs Zcw (fun a=> [Z4o a,ZgO a < N]) Z6a)/\CT 100 (fs Zcw (fun a=> [Z5w a,Zd7 a < N]) Z5r)/\CT 101 (fs Zcw (fun a=> [Z5v a,Zd7 a < N]) Z5q):=by
  intro N
  induction N with
  | zero=> exact ⟨Yo h82,Yo h113,Yo h114⟩
  | succ N ih=>
   have kn:=JV (l:=Zca N) ⟨ih.1,ih.2.1,ih.2.2,c47,c81,c45,ZEF,ZEG,Zjy,ZwH,trivial⟩
   exact ⟨Zr (Γ:=Z1 (Zca N)) Zi rfl kn ZDR Tryz.func63 rfl rfl (fun a=> by show 2<=_;decide) (fun ⟨e,t,_⟩ h=> b63 N e t () h.1 h.2.1),
    Zr (Γ:=Z1 (Zca N)) Zi rfl kn ZpE Tryz.func100 rfl rfl (fun a=> by show 2<=_;decide) (fun ⟨e,t,_⟩ h=> ZF5 N e t () h.1 h.2.1),
    Zr (Γ:=Z1 (Zca N)) Zi rfl kn ZpD Tryz.func101 rfl rfl (fun a=> by show 2<=_;decide) (fun ⟨e,t,_⟩ h=> ZF4 N e t () h.1 h.2.1)⟩
 exact ⟨Yp h82 fun N=> (key N).1,Yp h113 fun N=> (key N).2.1,Yp h114 fun N=> (key N).2.2⟩
end
end Go.AM.YtfapacabjkhepaaGreat
