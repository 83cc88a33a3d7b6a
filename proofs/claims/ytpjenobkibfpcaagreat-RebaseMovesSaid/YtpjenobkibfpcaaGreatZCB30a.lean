import Derived.Test.YtpjenobkibfpcaaGreatZCL30k
import Derived.Test.YtpjenobkibfpcaaGreatZCD30b
set_option linter.unusedSimpArgs false
set_option linter.unusedVariables false
namespace Go.AM.YtpjenobkibfpcaaGreat
open Go.AM Go.Proofs
def Zh5:PL:=⟨[],[],false,false⟩
theorem PL.nil_app(s:PL):Zh5.app s=s:=by cases s;rfl
theorem PL.app_nil(s:PL):s.app Zh5=s:=by cases s;simp [PL.app,Zh5]
theorem PL.app_assoc(s t u:PL):(s.app t).app u=s.app (t.app u):=by simp [PL.app,Xv]
theorem ZAj:Ym [] []=Zh5:=by unfold Ym;rw [if_neg (by simp)];try rfl
noncomputable def ZaH(g:Edit->Edit->Lft):List APair->PL
 | []=> Zh5
 | x ::r=> (Y4 g x.p x.q).app (ZaH g r)
theorem Zp5(g:Edit->Edit->Lft):∀ (m1 m2:List APair) (a b:List Tree),(∀ y∈m1,y.of=0)->m1≠[]->Jq g (m1++m2) a b=((Ym a b).app (ZaH g m1)).app (Jq g m2 [] [])
 | [],_,_,_,_,h=> absurd rfl h
 | [x],m2,a,b,h,_=> by
  have h0:=h x Q2
  rw [Qp,Qr,Jq,JL,JL,ZaH,ZaH,PL.app_nil]
 | x ::y ::r,m2,a,b,h,_=> by
  have h0:=h x Q2
  rw [Qp,Jq,JL,JL,Zp5 g (y ::r) m2 [] [] (fun z hz=> h z (Q1 _ hz)) (by simp),ZAj,PL.nil_app,show ZaH g (x ::y ::r)=(Y4 g x.p x.q).app (ZaH g (y ::r)) from rfl,PL.app_assoc,PL.app_assoc,PL.app_assoc]
theorem Z98(g:Edit->Edit->Lft)(X Y:APair->Op)(bx y_:Bool):∀ (m:List APair),(∀ y∈m,Y4 g y.p y.q=⟨if bx=true then [X y] else [],if y_=true then [Y y] else [],false,false⟩)->
  ZaH g m=⟨if bx=true then m.map X else [],if y_=true then m.map Y else [],false,false⟩
 | [],_=> by cases bx <;> cases y_ <;> rfl
 | x ::r,h=> by
  rw [ZaH,h x Q2,Z98 g X Y bx y_ r fun z hz=> h z (Q1 _ hz)]
  cases bx <;> cases y_ <;> rfl
theorem Z5s{o:Op}(h:ZC o):AlikeO [o] (ux o):=by
 refine ⟨fun list w=> ?_,?_⟩
 .rw [ZD0 list h];try rfl
 .have hne:ux o≠[]:=by
   rcases YX h with k | k | k | k
   .obtain ⟨e,hn⟩:=Zmv h k.1
    rw [e]
    obtain ⟨m,hm⟩:∃ m:Nat,o.n.toNat=m+1:=⟨o.n.toNat - 1,YS⟩
    rw [hm];simp [List.replicate]
   .rw [Z1Q (.inl k)]
    have:o.l≠[]:=by rcases h with h | h | h <;> first | exact h.2.2 | exact h.2.1 | omega | simp_all
    simpa using this
   .rw [Z1Q (.inr k)]
    have:o.l≠[]:=by rcases h with h | h | h <;> first | exact h.2.2 | exact h.2.1 | omega | simp_all
    simpa using this
   .rw [(Zmu h k).1];simp
  unfold ZvF
  obtain ⟨x,r,e⟩:=List.exists_cons_of_ne_nil hne
  have hk:∀ y∈ux o,y.kind=o.kind:=fun y hy=> ZhO hy
  have ha:(ux o).any (fun o=> !decide (o.kind=0))= !decide (o.kind=0):=by
   by_cases k:o.kind=0
   .rw [show (!decide (o.kind=0))=false by simp [k]]
    exact Xr.2 fun y hy=> by rw [hk y hy];simp [k]
   .rw [e,XZ,hk x (by rw [e];exact Q2)]
    simp [k]
  rw [ha]
  simp
theorem Zef{a b:Edit}(h:Zn a=Zn b)(k:a.kind=0↔b.kind=0):AlikeO [Z0j a] [Z0j b]:=by
 unfold Z0j
 by_cases ka:a.kind=0
 .rw [if_pos ka,if_pos (k.1 ka)];exact .refl _
 .rw [if_neg ka,if_neg fun x=> ka (k.2 x)]
  refine ⟨fun list w=> ?_,rfl⟩
  show Z01 list _ w=Z01 list _ w
  exact ZvE h w
theorem ZkC(g:Edit->Edit->Lft):∀ (m:List APair),(∀ y∈m,y.p.kind=1/\y.q.kind=1)->
  ZaH g m=⟨[],[],false,!eqX (Z8 (m.map fun y=> y.p.t)) (Z8 (m.map fun y=> y.q.t))⟩
 | [],_=> by
  rw [(YO (a:=Z8 ([].map fun y:APair=> y.p.t)) (b:=Z8 ([].map fun y:APair=> y.q.t))).2 rfl];try rfl
 | x ::r,h=> by
  have h0:=h x Q2
  rw [ZaH,ZkC g r fun z hz=> h z (Q1 _ hz)]
  have e:Y4 g x.p x.q=⟨[],[],false,!ZU (Z4 x.p.t) (Z4 x.q.t)⟩:=by
   unfold Y4
   rw [JL,JL,JL,JL,if_pos h0]
  rw [e]
  have hc:eqX (Z8 ((x ::r).map fun y=> y.p.t)) (Z8 ((x ::r).map fun y=> y.q.t))=(ZU (Z4 x.p.t) (Z4 x.q.t) && eqX (Z8 (r.map fun y=> y.p.t)) (Z8 (r.map fun y=> y.q.t))):=by
   rw [Qs,Q3,YO,YO,J4]
   simp [Z8]
  rw [hc,Bool.not_and]
  try rfl
theorem Zsp {f g:Edit->Edit->Lft} {x:Piece} {m:List APair} (hm:m≠[]) (p1:ZC x.p) (p2:Z6 x.p=m.length) (p3:Z7T x.p 2 (m.map APair.p))
  (q1:ZC x.q) (q2:Z6 x.q=m.length) (q3:Z7T x.q 2 (m.map APair.q)) (b1:x.p.kind≠2) (b2:x.q.kind≠2)
  (hf:x.p.kind=3->x.q.kind=3->SameL (f x.p.e x.q.e) (g x.p.e x.q.e)):SamePL (ZA f x.p x.q) (ZaH g m):=by
 have up:=Z96 p3
 have uq:=Z96 q3
 rw [X5] at up uq
 have kp:∀ y∈m,y.p.kind=x.p.kind:=fun y hy=> by
  have:opU y.p∈ux x.p:=by rw [<-up];exact K1 (f:=opU ∘ APair.p) hy
  rw [<-J6];exact ZhO this
 have kq:∀ y∈m,y.q.kind=x.q.kind:=fun y hy=> by
  have:opU y.q∈ux x.q:=by rw [<-uq];exact K1 (f:=opU ∘ APair.q) hy
  rw [<-J6];exact ZhO this
 have hpos:1<=m.length:=by
  cases m with
  | nil=> exact absurd rfl hm
  | cons _ _=> simp
 have ht:(true=true):=rfl
 have keeps:m.length<=1048576->AlikeO [⟨0,(m.length:Int),[],Edit.nil⟩] (m.map fun _=> (⟨0,1,[],Edit.nil⟩:Op)):=by
  intro hb
  have hk:ZC (⟨0,(m.length:Int),[],Edit.nil⟩:Op):= .inl ⟨rfl,rfl,by show ((1:Int)<=(m.length:Int)/\(m.length:Int)<=1048576)/\_;exact ⟨⟨YS,YS⟩,rfl⟩⟩
  have:=Z5s hk
  rw [(Zmv hk rfl).1] at this
  rw [List.map_const']
  simpa using this
 by_cases c1:x.p.kind=0/\x.q.kind=1
 .rw [Z98 g (fun y=> opU y.p) (fun y=> opU y.q) false true m fun y hy=> ?_]
  .unfold ZA
   rw [if_pos c1]
   refine ⟨rfl,fun _=> rfl,fun _ _=> .refl _,fun _ _=> ?_⟩
   dsimp only
   rw [if_pos rfl,show (m.map fun y=> opU y.q)=ux x.q from uq]
   exact Z5s q1
  .unfold Y4
   rw [if_pos ⟨by rw [kp y hy];exact c1.1,by rw [kq y hy];exact c1.2⟩]
   try rfl
 by_cases c2:x.p.kind=1/\x.q.kind=0
 .rw [Z98 g (fun y=> opU y.p) (fun y=> opU y.q) true false m fun y hy=> ?_]
  .unfold ZA
   rw [if_neg c1,if_pos c2]
   refine ⟨rfl,fun _=> rfl,fun _ _=> ?_,fun _ _=> .refl _⟩
   dsimp only
   rw [if_pos rfl,show (m.map fun y=> opU y.p)=ux x.p from up]
   exact Z5s p1
  .have h1:=kp y hy;have h2:=kq y hy
   unfold Y4
   rw [JL,if_pos ⟨YS,YS⟩]
   try rfl
 by_cases c3:x.p.kind=0
 .rw [Z98 g (fun _=> ⟨0,1,[],Edit.nil⟩) (fun y=> opU y.q) true true m fun y hy=> ?_]
  .have hl:(if x.q.n < 1 then 1 else x.q.n)=(m.length:Int):=by
    rcases YX q1 with k | k | k | k
    .have:=Z6M q1 k.1;rw [JL];omega
    .omega
    .omega
    .have:=Z0c k
     have hn:x.q.n=0:=by rcases q1 with h | h | h <;> first | exact h.2.1 | omega
     rw [V0];omega
   unfold ZA
   rw [if_neg c1,if_neg c2,if_pos c3,hl]
   refine ⟨rfl,fun _=> rfl,fun _ _=> ?_,fun _ _=> ?_⟩
   .refine keeps ?_
    have:=Z6M p1 c3
    rcases p1 with h | h | h <;> omega
   .dsimp only
    rw [if_pos rfl,show (m.map fun y=> opU y.q)=ux x.q from uq]
    exact Z5s q1
  .have h1:=kp y hy;have h2:=kq y hy
   unfold Y4
   rw [JL,JL,V0]
   try rfl
 have c1p:x.p.kind=1\/x.p.kind=3:=by rcases YX p1 with k | k | k | k <;> omega
 by_cases c4:x.q.kind=0
 .have c3p:x.p.kind=3:=YS
  have h1:m.length=1:=by have:=Z0c c3p;omega
  rw [Z98 g (fun y=> opU y.p) (fun _=> ⟨0,1,[],Edit.nil⟩) true true m fun y hy=> ?_]
  .unfold ZA
   rw [if_neg c1,if_neg c2,if_neg c3,if_pos c4]
   refine ⟨rfl,fun _=> rfl,fun _ _=> ?_,fun _ _=> ?_⟩
   .dsimp only
    rw [if_pos rfl,show (m.map fun y=> opU y.p)=ux x.p from up]
    exact Z5s p1
   .have:=keeps YS
    rw [h1] at this
    exact this
  .have h1:=kp y hy;have h2:=kq y hy
   unfold Y4
   rw [JL,JL,JL,V0]
   try rfl
 have c1q:x.q.kind=1\/x.q.kind=3:=by rcases YX q1 with k | k | k | k <;> omega
 by_cases c5:x.p.kind=1/\x.q.kind=1
 .have t1:=(Z3X (k:=1) (.inl rfl) (l:=x.p.l) (m:=m.map APair.p) (by rw [X5,up,Z1Q (.inl c5.1),c5.1])).1
  have t2:=(Z3X (k:=1) (.inl rfl) (l:=x.q.l) (m:=m.map APair.q) (by rw [X5,uq,Z1Q (.inl c5.2),c5.2])).1
  rw [X5] at t1 t2
  rw [ZkC g m fun y hy=> ⟨by rw [kp y hy];exact c5.1,by rw [kq y hy];exact c5.2⟩]
  unfold ZA Z2u
  rw [if_neg c1,if_neg c2,if_neg c3,if_neg c4,if_pos c5,t1,t2]
  exact .refl _
 have hm1:m.length=1:=by
  have:Z6 x.p=1\/Z6 x.q=1:=by
   by_cases h:x.p.kind=3
   .exact .inl (Z0c h)
   .exact .inr (Z0c YS)
  omega
 obtain ⟨y,rfl⟩:∃ y,m=[y]:=by
  match m,hm1 with
  | [y],_=> exact ⟨y,rfl⟩
 have ky:=kp y Q2
 have kz:=kq y Q2
 have er:∀ {z:AUnit} {o:Op},ZC o->o.kind=3->[opU z]=ux o->z.e=o.e:=by
  intro z o ho hk he
  rw [(Zmu ho hk).1] at he
  have hz:z.kind=3:=by rw [<-J6,(List.cons.inj he).1]
  have h:=(List.cons.inj he).1
  unfold opU at h
  rw [JL,if_pos hz] at h
  injection h
 have tr:∀ {z:AUnit} {o:Op},o.kind=1->[opU z]=ux o->o.l=[z.t]:=by
  intro z o hk he
  rw [Z1Q (.inl hk),hk] at he
  simpa using (Z3X (k:=1) (.inl rfl) (l:=o.l) (m:=[z]) (by simpa using he)).1
 rw [ZaH,ZaH,PL.app_nil]
 simp only [Qn,QU,Function.comp] at up uq
 have hu:Y4 g y.p y.q=if x.p.kind=1 then ⟨[],[],true,!(doE true y.q.e y.p.t).isSome⟩ else if x.q.kind=1 then ⟨[],[],true,!(doE true y.p.e y.q.t).isSome⟩
   else ⟨[Z0j (g y.p.e y.q.e).x],[Z0j (g y.p.e y.q.e).y],(g y.p.e y.q.e).c,(g y.p.e y.q.e).a⟩:=by
  unfold Y4
  rw [ky,kz,if_neg c1,if_neg c2,if_neg c3,if_neg c4,if_neg c5]
 rw [hu]
 unfold ZA
 rw [if_neg c1,if_neg c2,if_neg c3,if_neg c4,if_neg c5]
 by_cases c6:x.p.kind=1
 .rw [if_pos c6,if_pos c6,tr c6 up,er q1 YS uq,Zak,Option.isSome_map]
  exact .refl _
 by_cases c7:x.q.kind=1
 .rw [if_neg c6,if_pos c7,if_neg c6,if_pos c7,tr c7 uq,er p1 YS up,Zak,Option.isSome_map]
  exact .refl _
 .rw [if_neg c6,if_neg c7,if_neg c6,if_neg c7,er p1 YS up,er q1 YS uq]
  have h:=hf YS YS
  exact ⟨h.a,h.c,fun e e2=> Zef (h.x e e2).1 (h.x e e2).2,fun e e2=> Zef (h.y e e2).1 (h.y e e2).2⟩
theorem ZCe(g:Edit->Edit->Lft):∀ (m1 m2:List APair) (a b:List Tree),(∀ y∈m1,y.of=1)->Jq g (m1++m2) a b=Jq g m2 (a++m1.map fun y=> y.p.t) b
 | [],m2,a,b,_=> by simp
 | x ::r,m2,a,b,h=> by
  rw [Qp,Jq,if_pos (h x Q2),ZCe g r m2 _ b fun y hy=> h y (Q1 _ hy)]
  simp
theorem ZCd(g:Edit->Edit->Lft):∀ (m1 m2:List APair) (a b:List Tree),(∀ y∈m1,y.of=2)->Jq g (m1++m2) a b=Jq g m2 a (b++m1.map fun y=> y.q.t)
 | [],m2,a,b,_=> by simp
 | x ::r,m2,a,b,h=> by
  have h0:=h x Q2
  rw [Qp,Jq,JL,if_pos h0,ZCd g r m2 a _ fun y hy=> h y (Q1 _ hy)]
  simp
theorem Zlb{f g:Edit->Edit->Lft}{p0 q0:List Op}:∀ {ps:List Piece} {m:List APair},Zgi 2 ps m->(∀ x∈ps,POk2 p0 q0 x)->
  (∀ x∈ps,x.of=0->x.p.kind=3->x.q.kind=3->SameL (f x.p.e x.q.e) (g x.p.e x.q.e))->∀ a b,SamePL (Z14 f ps a b) (Jq g m a b)
 | [],m,h,_,_,a,b=> by
  have h:m=[]:=h
  subst h
  exact .refl _
 | x ::r,m,h,hok,hf,a,b=> by
  rw [Z3H] at h
  obtain ⟨m1,m2,rfl,hm,⟨hof,_,ha,hp,hq⟩,hr⟩:=h
  have ih:=Zlb hr (fun y hy=> hok y (Q1 _ hy)) fun y hy=> hf y (Q1 _ hy)
  have hx:=hok x Q2
  rw [Z14]
  by_cases c1:x.of=1
  .have k:=hx.one c1
   have up:=Z96 (hp YS).2.2.2
   have t1:=(Z3X (k:=2) (.inr rfl) (l:=x.p.l) (m:=m1.map APair.p) (by rw [up,Z1Q (.inr k),k])).1
   rw [X5] at t1
   rw [if_pos c1,ZCe g m1 m2 a b fun y hy=> by rw [ha y hy];exact c1,t1]
   exact ih _ _
  by_cases c2:x.of=2
  .have k:=hx.two c2
   have uq:=Z96 (hq YS).2.2.2
   have t1:=(Z3X (k:=2) (.inr rfl) (l:=x.q.l) (m:=m1.map APair.q) (by rw [uq,Z1Q (.inr k),k])).1
   rw [X5] at t1
   rw [if_neg c1,if_pos c2,ZCd g m1 m2 a b fun y hy=> by rw [ha y hy];exact c2,t1]
   exact ih _ _
  have c0:x.of=0:=YS
  rw [if_neg c1,if_neg c2,Zp5 g m1 m2 a b (fun y hy=> by rw [ha y hy];exact c0) hm]
  obtain ⟨p1,_,p2,p3⟩:=hp YS
  obtain ⟨q1,_,q2,q3⟩:=hq YS
  exact ((SamePL.refl _).app (Zsp hm p1 p2 p3 q1 q2 q3 (hx.both c0).1 (hx.both c0).2.1 (hf x Q2 c0))).app (ih _ _)
theorem Znu {f g:Edit->Edit->Lft} {p q:Edit} (hl:p.list=q.list) (hp:okL p.ops) (hq:okL q.ops)
  (hf:∀ a b:Op,Part p.ops a->Part q.ops b->a.kind=3->b.kind=3->SameL (f a.e b.e) (g a.e b.e)):SameL (Z4k f p q) (Z3b g p q):=by
 obtain ⟨ok,l,m,e1,e2,e3,e4⟩:=Zvw 2 (.inr rfl) _ p.ops q.ops [] (Zr 0 2 p.ops) (Zr 0 2 q.ops) [] (Qb _) hp hq (Zay 2 p.ops 0) (Zay 2 q.ops 0)
 obtain ⟨i1,_⟩:=Zb2 _ p.ops q.ops [] (Qb _) (fun o ho=> (hp o ho).1) (fun o ho=> (hq o ho).1)
 unfold Z4k Z3b
 dsimp only
 rw [e2,e3]
 cases ok with
 | false=> rw [if_neg V1,if_neg (by simp)];exact ⟨rfl,fun h=> (by cases h),fun h=> (by cases h),fun h=> (by cases h)⟩
 | true=>
  obtain ⟨ps,e,hps,_,_⟩:=i1 e2
  rw [e1,if_pos rfl] at e
  simp only [Qr] at e
  subst e
  rw [if_pos rfl,if_pos ⟨rfl,hl⟩,e1]
  simp only [if_true,Qr]
  exact ZwJ (Zlb (e4 rfl).1 hps (fun x hx h0 h1 h2=> hf x.p x.q ((hps x hx).pp YS).1 ((hps x hx).qq YS).1 h1 h2) [] [])
section
variable {α:Type} {at_:α->Int}
theorem ZnD{q:List α}{n:Int}(h:∀ b∈q,at_ b≠n):Z1b at_ q n=none:=by
 unfold Z1b
 have:∀ (l:List α) (o:Option α),(∀ b∈l,at_ b≠n)->l.foldl (fun o b=> if at_ b=n then some b else o) o=o:=by
  intro l
  induction l with
  | nil=> intro o _;rfl
  | cons x r ih=> intro o hl;rw [Xy,if_neg (hl x Q2)];exact ih _ fun b hb=> hl b (Q1 _ hb)
 exact this q none h
theorem ZnC{b:α}{q:List α}{n:Int}(h:at_ b≠n):Z1b at_ (b ::q) n=Z1b at_ q n:=by
 unfold Z1b;rw [List.foldl_cons,if_neg h]
theorem ZnE{b:α}{q:List α}(h:∀ c∈q,at_ c≠at_ b):Z1b at_ (b ::q) (at_ b)=some b:=by
 unfold Z1b
 rw [Xy,if_pos rfl]
 have:∀ (l:List α) (o:Option α),(∀ c∈l,at_ c≠at_ b)->l.foldl (fun o c=> if at_ c=at_ b then some c else o) o=o:=by
  intro l
  induction l with
  | nil=> intro o _;rfl
  | cons x r ih=> intro o hl;rw [Xy,if_neg (hl x Q2)];exact ih _ fun c hc=> hl c (Q1 _ hc)
 exact this q (some b) h
theorem Z1Y{f:α->α->α}{q:List α}{a:α}(h:∀ b∈q,at_ b≠at_ a):YL at_ f q a=a:=by unfold YL;rw [ZnD h]
theorem Zm5{f:α->α->α}{b:α}{q:List α}{a:α}(h:at_ b≠at_ a):YL at_ f (b ::q) a=YL at_ f q a:=by unfold YL;rw [ZnC h]
theorem Zam{f:α->α->α}{b:α}{q:List α}{a:α}(e:at_ a=at_ b)(h:∀ c∈q,at_ c≠at_ b):YL at_ f (b ::q) a=f a b:=by unfold YL;rw [e,ZnE h]
theorem Z1Z{g:α->α->Bool}{a:α}{p q:List α}(h:∀ b∈q,at_ a≠at_ b):Yo at_ g (a ::p) q=Yo at_ g p q:=by
 unfold Yo
 rw [XZ,Xr.2 fun b hb=> by simp [h b hb],XQ]
theorem Z4E{g:α->α->Bool}{b:α}{p q:List α}(h:∀ a∈p,at_ a≠at_ b):Yo at_ g p (b ::q)=Yo at_ g p q:=by
 unfold Yo
 rw [Qs,X6,X6]
 constructor
 .rintro ⟨a,ha,hb⟩
  refine ⟨a,ha,?_⟩
  rw [XZ] at hb
  simpa [h a ha] using hb
 .rintro ⟨a,ha,hb⟩
  refine ⟨a,ha,?_⟩
  rw [XZ,hb,Xk]
theorem Zau{g:α->α->Bool}{a b:α}{p q:List α}(e:at_ a=at_ b)(hq:∀ c∈q,at_ a≠at_ c)(hp:∀ c∈p,at_ c≠at_ b):
  Yo at_ g (a ::p) (b ::q)=(g a b || Yo at_ g p q):=by
 have h1:Yo at_ g (a ::p) (b ::q)=((b ::q).any (fun b=> decide (at_ a=at_ b) && g a b) || Yo at_ g p (b ::q)):=rfl
 rw [h1,Z4E hp,XZ,Xr.2 (fun c hc=> by simp [hq c hc]),QB]
 simp [e]
end
theorem Z0a{p q p' q':List WEdit}:∀ {l:List Int},(∀ n∈l,Z0Y p n=Z0Y p' n/\Z0Y q n=Z0Y q' n)->Y9 p q l=Y9 p' q' l
 | [],_=> rfl
 | n ::r,h=> by
  rw [Y9,Y9,(h n Q2).1,(h n Q2).2,Z0a fun m hm=> h m (Q1 _ hm)]
theorem Z6l{α:Type}{at_:α->Int}{last:Int}{l:List α}(h:asc at_ last l){n:Int}(hn:n<=last):∀ b∈l,at_ b≠n:=fun b hb=> by
 have:=Z3W h b hb;omega
noncomputable def Z24(p q:List WEdit):List WEdit:=(p.map (YL WEdit.at_ Z1m q)).filter fun w=> !decide (w.mask=0)
theorem Z0R(a:WEdit)(p q:List WEdit):Z24 (a ::p) q=(if (YL WEdit.at_ Z1m q a).mask=0 then [] else [YL WEdit.at_ Z1m q a])++Z24 p q:=by
 unfold Z24
 rw [Qn,XC]
 by_cases h:(YL WEdit.at_ Z1m q a).mask=0 <;> simp [h]
theorem Z3C{p q:List WEdit}{b:WEdit}(h:∀ a∈p,a.at_≠b.at_):Z24 p (b ::q)=Z24 p q:=by
 unfold Z24
 rw [Xc fun a ha=> Zm5 (at_:=WEdit.at_) (f:=Z1m) (b:=b) (q:=q) (a:=a) (KB (h a ha))]
theorem ZmX:∀ (k:Nat) (p q:List WEdit) (last:Int),p.length+q.length<=k->asc WEdit.at_ last p->asc WEdit.at_ last q->(∀ w∈p,w.mask≠0)->(∀ w∈q,w.mask≠0)->
  Y9 p q (Yv (p.map WEdit.at_) (q.map WEdit.at_))=(Z24 p q,Z24 q p,Yo WEdit.at_ Jj p q,Yo WEdit.at_ Yi p q):=by
 intro k
 induction k with
 | zero=>
  intro p q last hk hp hq _ _
  have e1:p=[]:=Q4 YS
  have e2:q=[]:=Q4 YS
  subst e1 e2
  rw [QU,Yv];try rfl
 | succ k ih=>
  intro p q last hk hp hq mp mq
  match p,q with
  | [],[]=> rw [QU,Yv];try rfl
  | [],b ::q=>
   have hb:asc WEdit.at_ b.at_ q:=hq.2
   simp only [Q6] at hk
   rw [QU,Yv,Qn,Y9,Z2J,show Z0Y [] b.at_=none from rfl]
   dsimp only
   rw [Z0a (p':=[]) (q':=q) (fun n hn=> ⟨rfl,Z2I (Z3W (Jg hb) n hn) q⟩)]
   have:=ih [] q b.at_ (by simp only [Q8];omega) trivial hb mp fun w hw=> mq w (Q1 _ hw)
   rw [QU,Yv] at this
   rw [this,Z0R,Z1Y (fun c hc=> by cases hc),if_neg (mq b Q2)]
   try rfl
  | a ::p,[]=>
   have ha:asc WEdit.at_ a.at_ p:=hp.2
   simp only [Q6] at hk
   rw [QU,Z17,Qn,Y9,Z2J,show Z0Y [] a.at_=none from rfl]
   dsimp only
   rw [Z0a (p':=p) (q':=[]) (fun n hn=> ⟨Z2I (Z3W (Jg ha) n hn) p,rfl⟩)]
   have:=ih p [] a.at_ (by simp only [Q8];omega) ha trivial (fun w hw=> mp w (Q1 _ hw)) mq
   rw [QU,Z17] at this
   rw [this,Z0R,Z1Y (fun c hc=> by cases hc),if_neg (mp a Q2),Z1Z (fun c hc=> by cases hc),Z1Z (fun c hc=> by cases hc)]
   try rfl
  | a ::p,b ::q=>
   simp only [Q6] at hk
   have mp':=fun w hw=> mp w (Q1 _ hw)
   have mq':=fun w hw=> mq w (Q1 _ hw)
   rw [Qn,Qn,Yv]
   by_cases h1:a.at_ < b.at_
   .rw [if_pos h1,Y9,Z2J,Zhk (Qw _) (l:=b ::q) ⟨h1,hq.2⟩]
    dsimp only
    have hb:asc WEdit.at_ a.at_ (b ::q):=⟨h1,hq.2⟩
    rw [show b.at_ ::q.map WEdit.at_=(b ::q).map WEdit.at_ from rfl]
    rw [Z0a (p':=p) (q':=b ::q) (fun n hn=> ⟨Z2I (Z6P _ _ _ a.at_ (Qb _) (Jg hp.2) (Jg hb) n hn) p,rfl⟩)]
    have hn:=Z6l hb (Qw _)
    rw [ih p (b ::q) a.at_ (by simp only [Q6];omega) hp.2 hb mp' mq,Z0R a,Z1Y hn,if_neg (mp a Q2),Z1Z (fun c hc=> (hn c hc).symm),Z1Z (fun c hc=> (hn c hc).symm),Z3C hn]
    try rfl
   .rw [if_neg h1]
    by_cases h2:b.at_ < a.at_
    .rw [if_pos h2,Y9,Z2J,Zhk (Qw _) (l:=a ::p) ⟨h2,hp.2⟩]
     dsimp only
     have ha:asc WEdit.at_ b.at_ (a ::p):=⟨h2,hp.2⟩
     rw [show a.at_ ::p.map WEdit.at_=(a ::p).map WEdit.at_ from rfl]
     rw [Z0a (p':=a ::p) (q':=q) (fun n hn=> ⟨rfl,Z2I (Z6P _ _ _ b.at_ (Qb _) (Jg ha) (Jg hq.2) n hn) q⟩)]
     have hn:=Z6l ha (Qw _)
     rw [ih (a ::p) q b.at_ (by simp only [Q6];omega) ha hq.2 mp mq',Z0R b,Z1Y hn,if_neg (mq b Q2),Z4E hn,Z4E hn,Z3C hn]
     try rfl
    .rw [if_neg h2,Y9]
     have e:a.at_=b.at_:=YS
     have hq2:asc WEdit.at_ a.at_ q:=by rw [e];exact hq.2
     have np:=Z6l hp.2 (Qw _)
     have nq:=Z6l hq.2 (Qw _)
     have e1:=Z2J b q
     rw [<-e] at e1
     rw [Z2J,e1]
     dsimp only
     rw [Z0a (p':=p) (q':=q) (fun n hn=> by
      have:=Z6P _ _ _ a.at_ (Qb _) (Jg hp.2) (Jg hq2) n hn
      exact ⟨Z2I this p,Z2I YS q⟩)]
     rw [ih p q a.at_ YS hp.2 hq2 mp' mq',Z0R a,Z0R b,Zam e nq,Zam e.symm np,Zau e (fun c hc=> by rw [e];exact (nq c hc).symm) (fun c hc=> by rw [<-e];exact np c hc),
      Zau e (fun c hc=> by rw [e];exact (nq c hc).symm) (fun c hc=> by rw [<-e];exact np c hc),Z3C (fun c hc=> by rw [<-e];exact np c hc),Z3C (fun c hc=> by rw [e];exact nq c hc)]
     try rfl
end Go.AM.YtpjenobkibfpcaaGreat
namespace Go.AM.YtpjenobkibfpcaaGreat
open Go.AM Go.Proofs
theorem Z0b{g:Edit->Edit->Lft}{p q p' q':List Kid}:∀ {l:List Int},(∀ n∈l,Ys p n=Ys p' n/\Ys q n=Ys q' n)->YB g p q l=YB g p' q' l
 | [],_=> rfl
 | n ::r,h=> by
  rw [YB,YB,(h n Q2).1,(h n Q2).2,Z0b fun m hm=> h m (Q1 _ hm)]
noncomputable def Yb(h:Edit->Edit->Edit)(p q:List Kid):List Kid:=(p.map (YL KidOf.at_ (fun a b=> ⟨a.at_,h a.e b.e⟩) q)).filter fun k=> !decide (k.e.kind=0)
theorem JB(h:Edit->Edit->Edit)(a:Kid)(p q:List Kid):
  Yb h (a ::p) q=Je a.at_ (YL KidOf.at_ (fun a b=> ⟨a.at_,h a.e b.e⟩) q a).e++Yb h p q:=by
 have ha:(YL KidOf.at_ (fun a b=> (⟨a.at_,h a.e b.e⟩:Kid)) q a).at_=a.at_:=by unfold YL;split <;> rfl
 unfold Yb Je
 rw [Qn,XC]
 generalize YL KidOf.at_ (fun a b=> (⟨a.at_,h a.e b.e⟩:Kid)) q a=k at ha
 obtain ⟨x,y⟩:=k
 have ha:x=a.at_:=ha
 subst ha
 by_cases hk:y.kind=0 <;> simp [hk]
theorem Z3D{h:Edit->Edit->Edit}{p q:List Kid}{b:Kid}(hn:∀ a∈p,a.at_≠b.at_):Yb h p (b ::q)=Yb h p q:=by
 unfold Yb
 rw [Xc fun a ha=> Zm5 (at_:=KidOf.at_) (f:=fun a b=> (⟨a.at_,h a.e b.e⟩:Kid)) (b:=b) (q:=q) (a:=a) (KB (hn a ha))]
theorem Z1s{n:Int}{e:Edit}(h:e.kind≠0):Je n e=[⟨n,e⟩]:=by unfold Je;rw [if_neg h]
theorem Z2A(n:Int):Je n Edit.nil=[]:=by exact if_pos rfl
theorem ZmY{g:Edit->Edit->Lft}(gl:∀ e:Edit,g e Edit.nil=⟨e,Edit.nil,false,false⟩)(gr:∀ e:Edit,g Edit.nil e=⟨Edit.nil,e,false,false⟩):
  ∀ (k:Nat) (p q:List Kid) (last:Int),p.length+q.length<=k->asc KidOf.at_ last p->asc KidOf.at_ last q->
  YB g p q (Yv (p.map KidOf.at_) (q.map KidOf.at_))=(Yb (fun x y=> (g x y).x) p q,Yb (fun x y=> (g y x).y) q p,
   Yo KidOf.at_ (fun a b=> (g a.e b.e).c) p q,Yo KidOf.at_ (fun a b=> (g a.e b.e).a) p q):=by
 intro k
 induction k with
 | zero=>
  intro p q last hk hp hq
  have e1:p=[]:=Q4 YS
  have e2:q=[]:=Q4 YS
  subst e1 e2
  rw [QU,Yv];try rfl
 | succ k ih=>
  intro p q last hk hp hq
  match p,q with
  | [],[]=> rw [QU,Yv];try rfl
  | [],b ::q=>
   have hb:asc KidOf.at_ b.at_ q:=hq.2
   simp only [Q6] at hk
   rw [QU,Yv,Qn,YB,Z2L,show Ys [] b.at_=Edit.nil from rfl,gr]
   dsimp only
   rw [Z0b (p':=[]) (q':=q) (fun n hn=> ⟨rfl,Z2K (Z3W (Jg hb) n hn) q⟩)]
   have:=ih [] q b.at_ (by simp only [Q8];omega) trivial hb
   rw [QU,Yv] at this
   rw [this,JB,Z1Y (fun c hc=> by cases hc),Z2A]
   try rfl
  | a ::p,[]=>
   have ha:asc KidOf.at_ a.at_ p:=hp.2
   simp only [Q6] at hk
   rw [QU,Z17,Qn,YB,Z2L,show Ys [] a.at_=Edit.nil from rfl,gl]
   dsimp only
   rw [Z0b (p':=p) (q':=[]) (fun n hn=> ⟨Z2K (Z3W (Jg ha) n hn) p,rfl⟩)]
   have:=ih p [] a.at_ (by simp only [Q8];omega) ha trivial
   rw [QU,Z17] at this
   rw [this,JB,Z1Y (fun c hc=> by cases hc),Z1Z (fun c hc=> by cases hc),Z1Z (fun c hc=> by cases hc),Z2A]
   try rfl
  | a ::p,b ::q=>
   simp only [Q6] at hk
   rw [Qn,Qn,Yv]
   by_cases h1:a.at_ < b.at_
   .rw [if_pos h1,YB,Z2L,Zhl (Qw _) (l:=b ::q) ⟨h1,hq.2⟩,gl]
    dsimp only
    have hb:asc KidOf.at_ a.at_ (b ::q):=⟨h1,hq.2⟩
    rw [show b.at_ ::q.map KidOf.at_=(b ::q).map KidOf.at_ from rfl]
    rw [Z0b (p':=p) (q':=b ::q) (fun n hn=> ⟨Z2K (Z6P _ _ _ a.at_ (Qb _) (Jg hp.2) (Jg hb) n hn) p,rfl⟩)]
    have hn:=Z6l hb (Qw _)
    rw [ih p (b ::q) a.at_ (by simp only [Q6];omega) hp.2 hb,JB _ a,Z1Y hn,Z1Z (fun c hc=> (hn c hc).symm),Z1Z (fun c hc=> (hn c hc).symm),Z3D hn,Z2A]
    try rfl
   .rw [if_neg h1]
    by_cases h2:b.at_ < a.at_
    .rw [if_pos h2,YB,Z2L,Zhl (Qw _) (l:=a ::p) ⟨h2,hp.2⟩,gr]
     dsimp only
     have ha:asc KidOf.at_ b.at_ (a ::p):=⟨h2,hp.2⟩
     rw [show a.at_ ::p.map KidOf.at_=(a ::p).map KidOf.at_ from rfl]
     rw [Z0b (p':=a ::p) (q':=q) (fun n hn=> ⟨rfl,Z2K (Z6P _ _ _ b.at_ (Qb _) (Jg ha) (Jg hq.2) n hn) q⟩)]
     have hn:=Z6l ha (Qw _)
     rw [ih (a ::p) q b.at_ (by simp only [Q6];omega) ha hq.2,JB _ b,Z1Y hn,Z4E hn,Z4E hn,Z3D hn,Z2A]
     try rfl
    .rw [if_neg h2,YB]
     have e:a.at_=b.at_:=YS
     have hq2:asc KidOf.at_ a.at_ q:=by rw [e];exact hq.2
     have np:=Z6l hp.2 (Qw _)
     have nq:=Z6l hq.2 (Qw _)
     have e1:=Z2L b q
     rw [<-e] at e1
     rw [Z2L,e1]
     rw [Z0b (p':=p) (q':=q) (fun n hn=> by
      have:=Z6P _ _ _ a.at_ (Qb _) (Jg hp.2) (Jg hq2) n hn
      exact ⟨Z2K this p,Z2K YS q⟩)]
     rw [ih p q a.at_ YS hp.2 hq2,JB _ a,JB _ b,Zam e nq,Zam e.symm np,Zau e (fun c hc=> by rw [e];exact (nq c hc).symm) (fun c hc=> by rw [<-e];exact np c hc),
      Zau e (fun c hc=> by rw [e];exact (nq c hc).symm) (fun c hc=> by rw [<-e];exact np c hc),Z3D (fun c hc=> by rw [<-e];exact np c hc),Z3D (fun c hc=> by rw [e];exact nq c hc),<-e]
theorem ZD8(f:Edit->Edit->Lft)(p q:Edit):(Z2g f p q).x=Z5x (Z24 p.words q.words) (Yb (fun x y=> (f x y).x) p.kids q.kids):=rfl
theorem ZD7(f:Edit->Edit->Lft)(p q:Edit):(Z2g f p q).y=Z5x (Z24 q.words p.words) (Yb (fun x y=> (f y x).y) q.kids p.kids):=rfl
theorem Zkp {g:Edit->Edit->Lft} (gl:∀ e:Edit,g e Edit.nil=⟨e,Edit.nil,false,false⟩) (gr:∀ e:Edit,g Edit.nil e=⟨Edit.nil,e,false,false⟩) {p q:Edit} {u v:Int}
  (hp:asc WEdit.at_ u p.words) (hq:asc WEdit.at_ u q.words) (mp:∀ w∈p.words,w.mask≠0) (mq:∀ w∈q.words,w.mask≠0) (kp:asc KidOf.at_ v p.kids) (kq:asc KidOf.at_ v q.kids):
  Z10 g p q=⟨Z5x (Z24 p.words q.words) (Yb (fun x y=> (g x y).x) p.kids q.kids),Z5x (Z24 q.words p.words) (Yb (fun x y=> (g y x).y) q.kids p.kids),
   Yo WEdit.at_ Jj p.words q.words || Yo KidOf.at_ (fun a b=> (g a.e b.e).c) p.kids q.kids,Yo WEdit.at_ Yi p.words q.words || Yo KidOf.at_ (fun a b=> (g a.e b.e).a) p.kids q.kids⟩:=by
 unfold Z10
 dsimp only
 rw [ZmX _ _ _ _ (Qb _) hp hq mp mq,ZmY gl gr _ _ _ _ (Qb _) kp kq]
inductive AlikeK:List Kid->List Kid->Prop
 | nil:AlikeK [] []
 | cons {n:Int} {a b:Edit} {p q:List Kid}:Zn a=Zn b->AlikeK p q->AlikeK (⟨n,a⟩ ::p) (⟨n,b⟩ ::q)
theorem AlikeK.len{p q:List Kid}(h:AlikeK p q):p.length=q.length:=by
 induction h with
 | nil=> rfl
 | cons _ _ ih=> simp [ih]
theorem AlikeK.nrm{p q:List Kid}(h:AlikeK p q):Jz p=Jz q:=by
 induction h with
 | nil=> rfl
 | cons h _ ih=> simp only [Jz,Z37,h,ih]
theorem Zed{w:List WEdit}{a b:List Kid}(h:AlikeK a b):Zn (Z5x w a)=Zn (Z5x w b)/\((Z5x w a).kind=0↔(Z5x w b).kind=0):=by
 unfold Z5x
 rw [h.len]
 split
 .exact ⟨rfl,QY⟩
 .exact ⟨by simp only [Zn,h.nrm],QY⟩
theorem AlikeK.refl:∀ p:List Kid,AlikeK p p
 | []=> .nil
 | ⟨_,_⟩ ::r=> .cons rfl (.refl r)
theorem AlikeK.app{a b c d:List Kid}(h:AlikeK a b)(k:AlikeK c d):AlikeK (a++c) (b++d):=by
 induction h with
 | nil=> exact k
 | cons h _ ih=> exact .cons h ih
theorem Zkq{n:Int}{a b:Edit}(h:Zn a=Zn b)(k:a.kind=0↔b.kind=0):AlikeK (Je n a) (Je n b):=by
 by_cases c:a.kind=0
 .rw [show Je n a=[] from if_pos c,show Je n b=[] from if_pos (k.1 c)];exact .nil
 .rw [show Je n a=[⟨n,a⟩] from if_neg c,show Je n b=[⟨n,b⟩] from if_neg fun x=> c (k.2 x)]
  exact .cons h .nil
theorem ZlM{α:Type}{at_:α->Int}{n:Int}:∀ {q:List α} {o:Option α} {b:α},q.foldl (fun o b=> if at_ b=n then some b else o) o=some b->(b∈q/\at_ b=n)\/o=some b
 | [],o,b,h=> .inr h
 | x ::r,o,b,h=> by
  rw [Xy] at h
  rcases ZlM h with h | h
  .exact .inl ⟨Q1 _ h.1,h.2⟩
  .by_cases c:at_ x=n
   .rw [if_pos c] at h
    injection h with h
    subst h
    exact .inl ⟨Q2,c⟩
   .rw [if_neg c] at h;exact .inr h
theorem Z59{h h':Edit->Edit->Edit}{q:List Kid}:∀ {p:List Kid},(∀ a∈p,∀ b∈q,b.at_=a.at_->Zn (h a.e b.e)=Zn (h' a.e b.e)/\((h a.e b.e).kind=0↔(h' a.e b.e).kind=0))->
  AlikeK (Yb h p q) (Yb h' p q)
 | [],_=> .nil
 | a ::p,hh=> by
  rw [JB,JB]
  refine AlikeK.app ?_ (Z59 fun x hx=> hh x (Q1 _ hx))
  unfold YL
  cases hl:Z1b KidOf.at_ q a.at_ with
  | none=> exact .refl _
  | some b=>
   rcases ZlM hl with hb | hb
   .have:=hh a Q2 b hb.1 hb.2
    exact Zkq this.1 this.2
   .cases hb
theorem ZbE{α:Type}{at_:α->Int}{g g':α->α->Bool}{p q:List α}(h:∀ a∈p,∀ b∈q,at_ a=at_ b->g a b=g' a b):Yo at_ g p q=Yo at_ g' p q:=by
 unfold Yo
 rw [Qs,X6,X6]
 have:∀ a∈p,(q.any fun b=> decide (at_ a=at_ b) && g a b)=q.any fun b=> decide (at_ a=at_ b) && g' a b:=by
  intro a ha
  rw [Qs,X6,X6]
  constructor
  .rintro ⟨b,hb,e⟩
   refine ⟨b,hb,?_⟩
   rw [Q3,decide_eq_true_eq] at e ⊢
   exact ⟨e.1,by rw [<-h a ha b hb e.1];exact e.2⟩
  .rintro ⟨b,hb,e⟩
   refine ⟨b,hb,?_⟩
   rw [Q3,decide_eq_true_eq] at e ⊢
   exact ⟨e.1,by rw [h a ha b hb e.1];exact e.2⟩
 constructor
 .rintro ⟨a,ha,e⟩;exact ⟨a,ha,by rw [<-this a ha];exact e⟩
 .rintro ⟨a,ha,e⟩;exact ⟨a,ha,by rw [this a ha];exact e⟩
theorem Zob{α:Type}{at_:α->Int}{g:α->α->Bool}{p q:List α}(h:Yo at_ g p q=false){a b:α}(ha:a∈p)(hb:b∈q)(e:at_ a=at_ b):g a b=false:=by
 unfold Yo at h
 rw [Xr] at h
 have h1:=h a ha
 rw [XM,Xr] at h1
 have h2:=h1 b hb
 simpa [e] using h2
theorem Zuz {f g:Edit->Edit->Lft} (gl:∀ e:Edit,g e Edit.nil=⟨e,Edit.nil,false,false⟩) (gr:∀ e:Edit,g Edit.nil e=⟨Edit.nil,e,false,false⟩) {p q:Edit} {u v:Int}
  (hp:asc WEdit.at_ u p.words) (hq:asc WEdit.at_ u q.words) (mp:∀ w∈p.words,w.mask≠0) (mq:∀ w∈q.words,w.mask≠0) (kp:asc KidOf.at_ v p.kids) (kq:asc KidOf.at_ v q.kids)
  (hf:∀ a∈p.kids,∀ b∈q.kids,a.at_=b.at_->SameL (f a.e b.e) (g a.e b.e)):SameL (Z2g f p q) (Z10 g p q):=by
 rw [Zkp gl gr hp hq mp mq kp kq]
 have ea:(Z2g f p q).a=(Yo WEdit.at_ Yi p.words q.words || Yo KidOf.at_ (fun a b=> (g a.e b.e).a) p.kids q.kids):=by
  show (_ || _)=_
  rw [ZbE (g':=fun a b=> (g a.e b.e).a) fun a ha b hb e=> (hf a ha b hb e).a]
 have sp:(Z2g f p q).a=false->Yo WEdit.at_ Yi p.words q.words=false/\∀ a∈p.kids,∀ b∈q.kids,a.at_=b.at_->(f a.e b.e).a=false:=by
  intro h
  have h:(Yo WEdit.at_ Yi p.words q.words || Yo KidOf.at_ (fun a b=> (f a.e b.e).a) p.kids q.kids)=false:=h
  rw [QF] at h
  exact ⟨h.1,fun a ha b hb e=> Zob h.2 ha hb e⟩
 have sc:(Z2g f p q).c=false->∀ a∈p.kids,∀ b∈q.kids,a.at_=b.at_->(f a.e b.e).c=false:=by
  intro h
  have h:(Yo WEdit.at_ (fun a b=> !Yi a b && Jj a b) p.words q.words || Yo KidOf.at_ (fun a b=> (f a.e b.e).c) p.kids q.kids)=false:=h
  rw [QF] at h
  exact fun a ha b hb e=> Zob h.2 ha hb e
 refine ⟨ea,fun h=> ?_,fun h h2=> ?_,fun h h2=> ?_⟩
 .obtain ⟨h1,h3⟩:=sp h
  show (Yo WEdit.at_ (fun a b=> !Yi a b && Jj a b) p.words q.words || Yo KidOf.at_ (fun a b=> (f a.e b.e).c) p.kids q.kids)=_
  rw [ZbE (at_:=WEdit.at_) (g':=Jj) fun a ha b hb e=> by rw [Zob h1 ha hb e];rfl,
   ZbE (at_:=KidOf.at_) (g':=fun a b=> (g a.e b.e).c) fun a ha b hb e=> (hf a ha b hb e).c (h3 a ha b hb e)]
 .rw [ZD8]
  exact Zed (Z59 fun a ha b hb e=> (hf a ha b hb e.symm).x ((sp h).2 a ha b hb e.symm) (sc h2 a ha b hb e.symm))
 .rw [ZD7]
  exact Zed (Z59 fun b hb a ha e=> (hf a ha b hb e).y ((sp h).2 a ha b hb e) (sc h2 a ha b hb e))
theorem Ziw(n:Nat)(e:Edit):rbF (n+1) e Edit.nil=⟨e,Edit.nil,false,false⟩:=by
 show JG (rbF n) e Edit.nil=_
 unfold JG
 exact if_pos (.inr rfl)
theorem ZeX(n:Nat)(e:Edit):rbF (n+1) Edit.nil e=⟨Edit.nil,e,false,false⟩:=by
 show JG (rbF n) Edit.nil e=_
 unfold JG
 exact if_pos (.inl rfl)
theorem SameL.refl(s:Lft):SameL s s:=⟨rfl,fun _=> rfl,fun _ _=> ⟨rfl,QY⟩,fun _ _=> ⟨rfl,QY⟩⟩
theorem ZmC{f g:Edit->Edit->Lft}{p q:Edit}(h1:p.kids=[])(h2:q.kids=[]):Z10 f p q=Z10 g p q:=by
 unfold Z10
 rw [h1,h2,QU,Yv]
 try rfl
theorem ZAc:∀ (n:Nat) (p q:Edit) (d d':Int),Z3 p+Z3 q<=n->n<=18000000000->Zb p d=true->Zb q d'=true->SameL (lbF n p q) (rbF n p q):=by
 intro n
 induction n with
 | zero=> intro p q d d' h;obtain ⟨k,o,nw,w,ks,l,os⟩:=p;simp only [Z3] at h;omega
 | succ n ih=>
  intro p q d d' hn hN hp hq
  have rp:=Zj hp
  have rq:=Zj hq
  show SameL (YD (lbF n) p q) (JG (rbF n) p q)
  unfold YD JG
  by_cases h0:p.kind=0\/q.kind=0
  .rw [if_pos h0,if_pos h0];exact .refl _
  rw [if_neg h0,if_neg h0]
  by_cases p1:p.kind=1
  .rw [if_pos p1,if_pos p1,ZdY];exact .refl _
  rw [if_neg p1,if_neg p1]
  by_cases q1:q.kind=1
  .rw [if_pos q1,if_pos q1,ZdY];exact .refl _
  rw [if_neg q1,if_neg q1]
  by_cases hk:p.kind=q.kind
  .by_cases p2:p.kind=2
   .have l1:=(rp.ops0 YS).1
    have l2:=(rq.ops0 YS).1
    rw [if_neg (by rintro (h | h);exact h hk;exact h (l1.trans l2.symm)),if_neg (show ¬p.kind≠q.kind by omega),if_pos p2,if_pos p2]
    have hkid:∀ a∈p.kids,∀ b∈q.kids,a.at_=b.at_->SameL (lbF n a.e b.e) (rbF n a.e b.e):=fun a ha b hb _=> by
     have:=ZV ha
     have:=ZV hb
     exact ih a.e b.e _ _ YS YS (Zp rp.kids a ha).2 (Zp rq.kids b hb).2
    have base:∀ m:Nat,(∀ a∈p.kids,∀ b∈q.kids,a.at_=b.at_->SameL (lbF n a.e b.e) (rbF (m+1) a.e b.e))->SameL (Z2g (lbF n) p q) (Z10 (rbF (m+1)) p q):=fun m hh=>
     Zuz (Ziw m) (ZeX m) (Z1n rp.words) (Z1n rq.words) (fun w hw=> (Yu rp.words w hw).2.2.1) (fun w hw=> (Yu rq.words w hw).2.2.1)
      (Z3e rp.kids) (Z3e rq.kids) hh
    cases n with
    | succ m=> exact base m hkid
    | zero=>
     have none:∀ (e:Edit),Z3 e<=1->e.kids=[]:=fun e he=> by
      cases hks:e.kids with
      | nil=> rfl
      | cons k r=>
       have:=ZV (e:=e) (k:=k) (by rw [hks];exact Q2)
       obtain ⟨_,⟨k,o,nw,w,ks,l,os⟩⟩:=k
       simp only [Z3] at this
       omega
     have e1:=none p YS
     have e2:=none q YS
     rw [ZmC (g:=rbF 1) e1 e2]
     exact base 0 fun a ha=> by rw [e1] at ha;cases ha
   .have hp3:p.kind=3:=by have:=rp.kind;omega
    have hq3:q.kind=3:=YS
    rw [if_neg (show ¬p.kind≠q.kind by omega),if_neg p2]
    have ok:∀ (e:Edit) (d:Int),Zb e d=true->Z3 e<=18000000000->okL e.ops:=fun e d h hm o ho=> by
     refine ⟨ZS h o ho,?_⟩
     obtain ⟨kk,ol,nn,w,ks,l,os⟩:=e
     have:=Z61 (os:=os) ho
     simp only [Z3] at hm
     omega
    by_cases hl:p.list=q.list
    .rw [if_neg (by rintro (h | h);exact h hk;exact h hl),if_neg p2]
     exact Znu hl (ok p d hp YS) (ok q d' hq YS) fun a b ha hb h1 h2=> by
      obtain ⟨o1,m1,k1,e1,_⟩:=ha
      obtain ⟨o2,m2,k2,e2,_⟩:=hb
      have:=YV m1
      have:=YV m2
      rw [e1,e2]
      exact ih _ _ _ _ YS YS (J5 (rightOs_mem rp.ops m1) YS) (J5 (rightOs_mem rq.ops m2) YS)
    .rw [if_pos (.inr hl),if_neg p2]
     unfold Z3b
     dsimp only
     rw [if_neg (fun h=> hl h.2)]
     exact .refl _
  .rw [if_pos (.inl hk),if_pos hk]
   exact .refl _
theorem ZAd{p q:Edit}{d d':Int}(hm:Z3 (Zn p)+Z3 (Zn q)<=18000000000)(hp:Zb (Zn p) d=true)(hq:Zb (Zn q) d'=true):lbN p q=rbN p q:=by
 have h:=ZAc _ (Zn p) (Zn q) d d' (Qb _) hm hp hq
 unfold lbN rbN lbE rbE
 rw [<-h.a]
 by_cases ha:(lbF (Z3 (Zn p)+Z3 (Zn q)) (Zn p) (Zn q)).a=true
 .rw [if_pos ha,if_pos ha]
 .have ha':=XM _▸ha
  rw [if_neg ha,if_neg ha,<-h.c ha']
  by_cases hc:(lbF (Z3 (Zn p)+Z3 (Zn q)) (Zn p) (Zn q)).c=true
  .rw [if_pos hc,if_pos hc]
  .have hc':=XM _▸hc
   rw [if_neg hc,if_neg hc,(h.x ha' hc').1,(h.y ha' hc').1]
variable {K:Nat}
theorem ZD3{g:Edit->Edit->Lft}{p q:AUnit}(kp:p.kind=0\/p.kind=1\/p.kind=3)(kq:q.kind=0\/q.kind=1\/q.kind=3):(Y4 g p q).x=(ZA g (opU p) (opU q)).x:=by
 unfold Y4 ZA
 rw [J6,J6]
 rcases kp with k | k | k <;> rcases kq with l | l | l <;> simp [k,l,opU]
def swL(g:Edit->Edit->Lft)(a b:Edit):Lft:=⟨(g b a).y,(g b a).x,(g b a).c,(g b a).a⟩
theorem ZD2{g:Edit->Edit->Lft}{p q:AUnit}(kp:p.kind=0\/p.kind=1\/p.kind=3)(kq:q.kind=0\/q.kind=1\/q.kind=3):(Y4 g p q).y=(Y4 (swL g) q p).x:=by
 unfold Y4
 rcases kp with k | k | k <;> rcases kq with l | l | l <;> simp [k,l,opU,swL]
theorem ZCk(m h:List Tree):(Ym m h).y=(Ym h m).x:=by
 unfold Ym
 by_cases a:m=[]
 .subst a;simp [Yl,Z0g]
 .by_cases b:h=[]
  .subst b;simp [Yl,Z0g]
  .rw [if_pos ⟨a,b⟩,if_pos ⟨b,a⟩]
def swU(x:APair):APair:=⟨if x.of=1 then 2 else if x.of=2 then 1 else x.of,x.q,x.p⟩
theorem Z1o(a:Int):∀ (l:List Op) (i:Int),(Zr i a l).map opU=l.flatMap ux
 | [],_=> rfl
 | o ::r,i=> by rw [Zr,Xs,Zki,Z1o a r,Xq]
theorem Z0D{a:Int}:∀ {l:List Op} {i:Int} {u:AUnit},u∈Zr i a l->u.alone=true->u.kind=a
 | o ::r,i,u,h,ha=> by
  rw [Zr] at h
  rcases Qh.1 h with h | h
  .simp only [Yq,Qh,QM] at h
   rcases h with h | ⟨t,ht,rfl⟩ | h
   .split at h
    .rw [Xz h] at ha;cases ha
    .cases h
   .exact of_decide_eq_true ha
   .split at h
    .rw [Qf.1 h] at ha;cases ha
    .cases h
  .exact Z0D h ha
theorem ZgY:∀ (k:Nat) (P Q:List AUnit) (out:List APair),P.length+Q.length<=k->(ZB P Q out).2=true->
  ∃ r,(ZB P Q out).1=out++r/\((r.filter fun x=> !decide (x.of=2)).map APair.p=P/\(r.filter fun x=> !decide (x.of=1)).map APair.q=Q)/\
   ∀ x∈r,(x.of=1/\x.p∈P/\x.p.alone=true)\/(x.of=2/\x.q∈Q/\x.q.alone=true)\/(x.of=0/\(x.p∈P/\x.p.alone=false)/\x.q∈Q/\x.q.alone=false):=by
 intro k
 induction k with
 | zero=>
  intro P Q out hk _
  have e1:P=[]:=Q4 YS
  have e2:Q=[]:=Q4 YS
  subst e1 e2
  rw [ZB,dif_neg (by simp [alo]),dif_neg (by simp [alo]),dif_pos (by simp),if_pos rfl]
  exact ⟨[],by simp,⟨rfl,rfl⟩,fun x hx=> by cases hx⟩
 | succ k ih=>
  intro P Q out hk h
  rw [ZB] at h ⊢
  have lift:∀ (P' Q':List AUnit) (x:APair),(∀ u∈P',u∈P)->(∀ u∈Q',u∈Q)->
    ((x.of=1/\x.p∈P'/\x.p.alone=true)\/(x.of=2/\x.q∈Q'/\x.q.alone=true)\/(x.of=0/\(x.p∈P'/\x.p.alone=false)/\x.q∈Q'/\x.q.alone=false))->
    ((x.of=1/\x.p∈P/\x.p.alone=true)\/(x.of=2/\x.q∈Q/\x.q.alone=true)\/(x.of=0/\(x.p∈P/\x.p.alone=false)/\x.q∈Q/\x.q.alone=false)):=by
   rintro P' Q' x hP hQ (⟨h,a,b⟩ | ⟨h,a,b⟩ | ⟨h,⟨a,b⟩,c,d⟩)
   .exact .inl ⟨h,hP _ a,b⟩
   .exact .inr (.inl ⟨h,hQ _ a,b⟩)
   .exact .inr (.inr ⟨h,⟨hP _ a,b⟩,hQ _ c,d⟩)
  by_cases h1:alo P=true
  .rw [dif_pos h1] at h ⊢
   cases P with
   | nil=> cases h1
   | cons a P'=>
    simp only [Q6] at hk
    obtain ⟨r,e1,⟨e2,e3⟩,e4⟩:=ih P' Q _ YS h
    refine ⟨⟨1,a,AUnit.nil⟩ ::r,e1.trans (by simp),⟨by simp [e2],by simp [e3]⟩,fun x hx=> ?_⟩
    rcases Qc.1 hx with rfl | hx
    .rw [Z1i] at h1
     exact .inl ⟨rfl,Q2,h1⟩
    .exact lift P' Q x (fun u hu=> Q1 _ hu) (fun u hu=> hu) (e4 x hx)
  .rw [dif_neg h1] at h ⊢
   by_cases h2:alo Q=true
   .rw [dif_pos h2] at h ⊢
    cases Q with
    | nil=> cases h2
    | cons a Q'=>
     simp only [Q6] at hk
     obtain ⟨r,e1,⟨e2,e3⟩,e4⟩:=ih P Q' _ YS h
     refine ⟨⟨2,AUnit.nil,a⟩ ::r,e1.trans (by simp),⟨by simp [e2],by simp [e3]⟩,fun x hx=> ?_⟩
     rcases Qc.1 hx with rfl | hx
     .rw [Z1i] at h2
      exact .inr (.inl ⟨rfl,Q2,h2⟩)
     .exact lift P Q' x (fun u hu=> hu) (fun u hu=> Q1 _ hu) (e4 x hx)
   .rw [dif_neg h2] at h ⊢
    by_cases h3:P.length=0\/Q.length=0
    .rw [dif_pos h3] at h ⊢
     split at h
     .rename_i h4
      have e0:P.length=0/\Q.length=0:=by
       by_cases a:P.length=0
       .by_cases b:Q.length=0
        .exact ⟨a,b⟩
        .simp [a,b] at h4
       .by_cases b:Q.length=0
        .simp [a,b] at h4
        .omega
      rw [if_pos h4]
      have e1:=Q4 e0.1
      have e2:=Q4 e0.2
      subst e1 e2
      exact ⟨[],by simp,⟨rfl,rfl⟩,fun x hx=> by cases hx⟩
     .cases h
    .rw [dif_neg h3] at h ⊢
     cases P with
     | nil=> simp at h3
     | cons a P'=>
      cases Q with
      | nil=> simp at h3
      | cons b Q'=>
       simp only [Q6] at hk
       obtain ⟨r,e1,⟨e2,e3⟩,e4⟩:=ih P' Q' _ YS h
       refine ⟨⟨0,a,b⟩ ::r,e1.trans (by simp),⟨by simp [e2],by simp [e3]⟩,fun x hx=> ?_⟩
       rcases Qc.1 hx with rfl | hx
       .rw [Z1i] at h1 h2
        exact .inr (.inr ⟨rfl,⟨Q2,by simpa using h1⟩,List.mem_cons_self,by simpa using h2⟩)
       .exact lift P' Q' x (fun u hu=> Q1 _ hu) (fun u hu=> Q1 _ hu) (e4 x hx)
theorem ZiY:∀ l:List Tree,(l.map fun t=> ((100+Zm t:Nat):Int)).sum=owL l
 | []=> rfl
 | t ::r=> by
  rw [Qn,Kz,ZiY r]
  simp only [owL,Z9,Q6];omega
theorem ZIV{o:Op}(h:ZC o):ZE (fun o=> ((Zfs K o:Nat):Int)) (ux o)=Zfs K o:=by
 have hu:=JS (K:=K) o
 rcases YX h with k | k | k | k
 .obtain ⟨e,hn⟩:=Zmv h k.1
  have hl:o.l=[]:=by rcases h with h | h | h <;> first | exact h.2.1 | omega
  rw [e,Z8L,hu,hl,JL]
  simp [JS,owL,Z9]
 .rw [Z1Q (.inl k),Z2T _ _ (fun t=> ((100+Zm t:Nat):Int)) (fun t=> by rw [JS,if_neg V2];simp [owL,Z9]),ZiY,hu,JL]
  try rfl
 .rw [Z1Q (.inr k),Z2T _ _ (fun t=> ((100+Zm t:Nat):Int)) (fun t=> by rw [JS,if_neg V2];simp [owL,Z9]),ZiY,hu,JL]
  try rfl
 .obtain ⟨e1,e2⟩:=Zmu h k
  rw [e1,<-e2];simp [ZE]
theorem Zmz:∀ l:List Op,ZE (fun o=> ((Zfs K o:Nat):Int)) l=Z1v K l
 | []=> rfl
 | o ::r=> by simp only [ZE,Z1v,Zmz r];omega
theorem Z6s{φ:Op->Int}:∀ {l:List Op},(∀ o∈l,0<=φ o)->0<=ZE φ l
 | [],_=> Qw _
 | o ::r,h=> by
  have h1:=h o Q2
  have h2:=Z6s (l:=r) fun x hx=> h x (Q1 _ hx)
  simp only [ZE];omega
def pU(r:List APair):List Op:=(r.filter fun x=> !decide (x.of=2)).map fun x=> opU x.p
def qU(r:List APair):List Op:=(r.filter fun x=> !decide (x.of=1)).map fun x=> opU x.q
theorem ZiX{x:APair}{r:List APair}(h:x.of≠2):pU (x ::r)=opU x.p ::pU r:=by unfold pU;rw [List.filter_cons_of_pos (by simpa using h)];try rfl
theorem ZyH{x:APair}{r:List APair}(h:x.of=2):pU (x ::r)=pU r:=by unfold pU;rw [List.filter_cons_of_neg (by simpa using h)]
theorem Zl1{x:APair}{r:List APair}(h:x.of≠1):qU (x ::r)=opU x.q ::qU r:=by unfold qU;rw [List.filter_cons_of_pos (by simpa using h)];try rfl
theorem ZyE{x:APair}{r:List APair}(h:x.of=1):qU (x ::r)=qU r:=by unfold qU;rw [List.filter_cons_of_neg (by simpa using h)]
def ZIl(list a:Int)(g:Edit->Edit->Lft)(K:Nat)(T:Int)(x:APair):Prop:=
 (x.of=1/\x.p.kind=2/\OkO list (opU x.p))\/(x.of=2/\x.q.kind=2/\OkO list (opU x.q))\/
  (x.of=0/\((x.p.kind≠2/\OkO list (opU x.p))/\x.q.kind≠2/\OkO list (opU x.q))/\Y2 a (opU x.p).e/\(x.p.kind=3->x.q.kind=3->LbX K T (g (opU x.p).e (opU x.q).e).x (opU x.p).e))
theorem Zx6{u:AUnit}(h:ZC (opU u))(h2:u.kind≠2):u.kind=0\/u.kind=1\/u.kind=3:=by
 have:=YX h
 unfold kOk at this
 rw [J6] at this
 omega
theorem Zp4{g:Edit->Edit->Lft}{list a b:Int}(hli:2<=list/\list<=9)(ha:0<=a)(hb:0<=b):∀ {r:List APair} {m h:List Tree},(∀ x∈r,ZIl list a g K (a+b) x)->Ztj list m->(h.length:Int)+ZE φB (qU r)<=1048576->(∀ o∈qU r,0<=φB o)->
  OpsX K list (a+b) (Jq g r m h).x (h.length+ZE φB (qU r)) (m.length+h.length+ZE φB (pU r)+ZE φB (qU r)) (owL m+Z1v K (pU r))
 | [],m,h,_,hm,hh,_=> by
  have hh:(h.length:Int)+0<=1048576:=hh
  exact (ZqH YS hm YS).mono (by show (h.length:Int)<=h.length+0;omega) (by show (m.length+h.length:Int)<=m.length+h.length+0+0;omega) (by show owL m<=owL m+0;omega)
 | x ::r,m,h,hr,hm,hh,hn=> by
  have hr':=fun y hy=> hr y (Q1 _ hy)
  rw [Jq]
  rcases hr x Q2 with ⟨h1,k2,op⟩ | ⟨h2,k2,oq⟩ | ⟨h0,⟨⟨kp,op⟩,kq,oq⟩,tp,hf⟩
  .rw [if_pos h1]
   rw [ZyE h1] at hh hn ⊢
   rw [ZiX YS]
   have el:(opU x.p).l=[x.p.t]:=by unfold opU;rw [JL,JL]
   have ek:(opU x.p).kind=2:=by rw [J6];exact k2
   have kl:=ZgZ op (.inr ek)
   rw [el] at kl
   have e:=Zp4 (g:=g) hli ha hb (m:=m++[x.p.t]) hr' (fun t ht=> (Qh.1 ht).elim (hm t) (kl t)) hh hn
   have l2:=Z15 op.1 (.inr ek)
   refine e.mono (Qw _) ?_ ?_
   .rw [Q7]
    simp only [ZE,φB]
    rw [JL,l2,el]
    simp only [Q6,Q8];omega
   .rw [ZiZ]
    simp only [Z1v,JS]
    rw [el];omega
  .rw [JL,if_pos h2]
   rw [Zl1 YS] at hh hn ⊢
   rw [ZyH h2]
   have el:(opU x.q).l=[x.q.t]:=by unfold opU;rw [JL,JL]
   have ek:(opU x.q).kind=2:=by rw [J6];exact k2
   have l2:=Z15 oq.1 (.inr ek)
   have hb1:φB (opU x.q)=1:=by unfold φB;rw [JL,l2,el];try rfl
   simp only [ZE,hb1] at hh ⊢
   have e:=Zp4 (g:=g) hli ha hb (m:=m) (h:=h++[x.q.t]) hr' hm (by rw [Q7];simp only [Q6,Q8];omega) (fun o ho=> hn o (Q1 _ ho))
   rw [Q7] at e
   simp only [Q6,Q8] at e
   exact e.mono YS YS (Qb _)
  .rw [JL,JL]
   rw [Zl1 YS] at hh hn ⊢
   rw [ZiX YS]
   simp only [ZE] at hh ⊢
   have nq:0<=ZE φB (qU r):=Z6s fun o ho=> hn o (Q1 _ ho)
   have n1:=hn _ Q2
   have e:=Zp4 (g:=g) hli ha hb (m:=[]) (h:=[]) hr' (fun t ht=> by cases ht) (by simp only [Q8];omega) (fun o ho=> hn o (Q1 _ ho))
   have gx:=ZqH (K:=K) (T:=a+b) YS hm (h:=h) YS
   have p1:=Zx6 op.1 kp
   have q1:=Zx6 oq.1 kq
   have ll:∀ {u:AUnit},ZC (opU u)->u.kind≠2->Z6 (opU u)=1:=by
    intro u hu h2
    rcases Zx6 hu h2 with k | k | k
    .have e:opU u=⟨0,1,[],Edit.nil⟩:=by unfold opU;rw [if_pos k]
     rw [e];try rfl
    .have e:opU u=⟨u.kind,0,[u.t],Edit.nil⟩:=by unfold opU;rw [JL,JL]
     rw [e,Yr,if_neg V2];try rfl
    .exact Z0c (by rw [J6];exact k)
   have pc:=Zpa (f:=g) (p:=opU x.p) (q:=opU x.q) hli ha hb op oq tp (by rw [ll op.1 kp,ll oq.1 kq]) (by rw [J6];exact kp) (by rw [J6];exact kq) (by rw [J6,J6];exact hf)
   rw [<-ZD3 p1 q1] at pc
   refine ((gx.app pc).app e).mono ?_ ?_ ?_
   .simp only [Q8];omega
   .simp only [Q8];omega
   .simp only [owL,Z9,Q8,Z1v];omega
theorem Zl2{g:Edit->Edit->Lft}:∀ {r:List APair} (m h:List Tree),(∀ x∈r,x.of=1\/x.of=2\/(x.of=0/\(x.p.kind=0\/x.p.kind=1\/x.p.kind=3)/\(x.q.kind=0\/x.q.kind=1\/x.q.kind=3)))->
  (Jq g r m h).y=(Jq (swL g) (r.map swU) h m).x
 | [],m,h,_=> ZCk m h
 | x ::r,m,h,hr=> by
  have ih:=fun m h=> Zl2 (g:=g) (r:=r) m h fun y hy=> hr y (Q1 _ hy)
  rw [Qn,Jq,Jq]
  rcases hr x Q2 with h1 | h2 | ⟨h0,kp,kq⟩
  .have e:(swU x).of=2:=by unfold swU;rw [if_pos h1]
   rw [if_pos h1,JL,if_pos e]
   exact ih _ _
  .have e:(swU x).of=1:=by unfold swU;rw [JL,if_pos h2]
   rw [JL,if_pos h2,if_pos e]
   exact ih _ _
  .have e:(swU x).of=0:=by unfold swU;rw [JL,JL];exact h0
   rw [JL,JL,JL,JL]
   show ((Ym m h).y++(Y4 g x.p x.q).y)++(Jq g r [] []).y=((Ym h m).x++(Y4 (swL g) x.q x.p).x)++(Jq (swL g) (r.map swU) [] []).x
   rw [ZCk,ZD2 kp kq,ih]
theorem ZyF(r:List APair):(∀ x∈r,x.of=0\/x.of=1\/x.of=2)->pU (r.map swU)=qU r/\qU (r.map swU)=pU r:=by
 induction r with
 | nil=> intro _;exact ⟨rfl,rfl⟩
 | cons x r ih=>
  intro hr
  obtain ⟨i1,i2⟩:=ih fun y hy=> hr y (Q1 _ hy)
  rw [Qn]
  rcases hr x Q2 with h | h | h
  .have e:(swU x).of=0:=by unfold swU;rw [JL,JL];exact h
   rw [ZiX YS,Zl1 (x:=x) YS,Zl1 (x:=swU x) YS,ZiX (x:=x) YS,i1,i2]
   exact ⟨rfl,rfl⟩
  .have e:(swU x).of=2:=by unfold swU;rw [if_pos h]
   rw [ZyH e,ZyE h,Zl1 (x:=swU x) YS,ZiX (x:=x) YS,i1,i2]
   exact ⟨rfl,rfl⟩
  .have e:(swU x).of=1:=by unfold swU;rw [JL,if_pos h]
   rw [ZiX (x:=swU x) YS,Zl1 (x:=x) YS,ZyE e,ZyH h,i1,i2]
   exact ⟨rfl,rfl⟩
theorem Zl3 {g:Edit->Edit->Lft} {a b:Int} (ha:0<=a) (hb:0<=b) (hab:a+b < 1048576) {p q:Edit} {r:List APair} (wp:Wk p) (wq:Wk q) (tp:Y2 a p) (tq:Y2 b q) (p3:p.kind=3)
  (e1:pU r=p.ops.flatMap ux) (e2:qU r=q.ops.flatMap ux) (hr:∀ x∈r,ZIl p.list a g K (a+b) x):LbX K (a+b) (Yx p.list (Jq g r [] []).x) p:=by
 have rp:=Zj wp.r
 have hli:=rp.list p3
 rw [Jc] at tp tq
 have okp:=ZS wp.r
 have okq:=ZS wq.r
 have sb:∀ {l:List Op},(∀ o∈l,ZC o)->ZE φB (l.flatMap ux)=YH l:=fun h=> by rw [Z3Z φB (fun o=> ZIW) h,Z1r]
 have so:Z1v K (p.ops.flatMap ux)=Z1v K p.ops:=by
  have:=Z3Z (fun o=> ((Zfs K o:Nat):Int)) (fun o=> ZIV) okp
  rw [Zmz,Zmz] at this
  omega
 have S:=Zp4 (K:=K) (g:=g) hli ha hb (m:=[]) (h:=[]) hr (fun t ht=> by cases ht) (by rw [e2,sb okq];simp only [Q8];omega) (fun o ho=> by
  rw [e2] at ho
  obtain ⟨o',h1,h2⟩:=Ke.1 ho
  have R:=Zkj (JT wq o' h1).2.1 (JT wq o' h1).2.2 o h2
  exact φB_nn (Z31 R.1))
 rw [e1,e2,sb okp,sb okq,so] at S
 simp only [Q8,owL,Z9] at S
 exact ZuF YS hli S YS YS hab p3 rfl YS
theorem Z0t{p:Edit}(wp:Wk p){a:Int}(ha:0<=a)(tp:Y2 a p){u:AUnit}(h:u∈Zr 0 2 p.ops):OkO p.list (opU u)/\Y2 a (opU u).e/\(u.kind=3->∃ o∈p.ops,o.kind=3/\(opU u).e=o.e/\u.e=o.e)/\(u.kind=2->u.alone=true):=by
 have okp:=ZS wp.r
 obtain ⟨o,ho,U⟩:=Z2x okp h
 have hm:opU u∈p.ops.flatMap ux:=by rw [<-Z1o 2 p.ops 0];exact K1 h
 obtain ⟨o',h1,h2⟩:=Ke.1 hm
 have R:=Zkj (JT wp o' h1).2.1 (JT wp o' h1).2.2 _ h2
 refine ⟨⟨Z31 R.1,R⟩,?_,fun k=> ⟨o,ho,by rw [<-U.kind];exact k,?_,U.into k⟩,fun k=> by rw [U.alone (.inr k)];simp [k]⟩
 .unfold opU
  split
  .exact Z1R ha
  .split
   .rename_i k
    show Y2 a u.e
    rw [U.into k]
    exact (Jc.1 tp).2.2 o ho
   .exact Z1R ha
 .unfold opU
  rw [JL,if_pos k]
  exact U.into k
theorem ZHB {g:Edit->Edit->Lft} {a b:Int} (ha:0<=a) (hb:0<=b) (hab:a+b < 1048576) {p q:Edit} (wp:Wk p) (wq:Wk q) (tp:Y2 a p) (tq:Y2 b q) (p3:p.kind=3) (q3:q.kind=3)
  (hf:∀ x∈p.ops,∀ y∈q.ops,x.kind=3->y.kind=3->LbX K (a+b) (g x.e y.e).x x.e/\LbX K (a+b) (g x.e y.e).y y.e):LbX K (a+b) (Z3b g p q).x p/\LbX K (a+b) (Z3b g p q).y q:=by
 unfold Z3b
 dsimp only
 by_cases hc:(ZB (Zr 0 2 p.ops) (Zr 0 2 q.ops) []).2=true/\p.list=q.list
 .obtain ⟨hc,hl⟩:=hc
  rw [if_pos ⟨hc,hl⟩]
  obtain ⟨r,e,⟨e1,e2⟩,hr⟩:=ZgY _ _ _ _ (Qb _) hc
  rw [e,Qr]
  have f1:pU r=p.ops.flatMap ux:=by rw [<-Z1o 2 p.ops 0,<-e1,X5];try rfl
  have f2:qU r=q.ops.flatMap ux:=by rw [<-Z1o 2 q.ops 0,<-e2,X5];try rfl
  have of3:∀ x∈r,x.of=0\/x.of=1\/x.of=2:=fun x hx=> by rcases hr x hx with h | h | h <;> omega
  have kinds:∀ x∈r,x.of=1\/x.of=2\/(x.of=0/\(x.p.kind=0\/x.p.kind=1\/x.p.kind=3)/\(x.q.kind=0\/x.q.kind=1\/x.q.kind=3)):=by
   intro x hx
   rcases hr x hx with h | h | ⟨h,⟨m1,a1⟩,m2,a2⟩
   .exact .inl h.1
   .exact .inr (.inl h.1)
   .obtain ⟨o1,_,_,c1⟩:=Z0t wp ha tp m1
    obtain ⟨o2,_,_,c2⟩:=Z0t wq hb tq m2
    refine .inr (.inr ⟨h,Zx6 o1.1 fun k=> ?_,Zx6 o2.1 fun k=> ?_⟩)
    .rw [c1 k] at a1;cases a1
    .rw [c2 k] at a2;cases a2
  refine ⟨Zl3 ha hb hab wp wq tp tq p3 f1 f2 fun x hx=> ?_,?_⟩
  .rcases hr x hx with ⟨h,m1,a1⟩ | ⟨h,m2,a2⟩ | ⟨h,⟨m1,a1⟩,m2,a2⟩
   .exact .inl ⟨h,Z0D m1 a1,(Z0t wp ha tp m1).1⟩
   .exact .inr (.inl ⟨h,Z0D m2 a2,by rw [hl];exact (Z0t wq hb tq m2).1⟩)
   .obtain ⟨o1,t1,i1,c1⟩:=Z0t wp ha tp m1
    obtain ⟨o2,t2,i2,c2⟩:=Z0t wq hb tq m2
    refine .inr (.inr ⟨h,⟨⟨fun k=> ?_,o1⟩,fun k=> ?_,by rw [hl];exact o2⟩,t1,fun k1 k2=> ?_⟩)
    .rw [c1 k] at a1;cases a1
    .rw [c2 k] at a2;cases a2
    .obtain ⟨x1,y1,z1,w1,_⟩:=i1 k1
     obtain ⟨x2,y2,z2,w2,_⟩:=i2 k2
     rw [w1,w2]
     exact (hf _ y1 _ y2 z1 z2).1
  .show LbX K (a+b) (Yx p.list (Jq g r [] []).y) q
   rw [hl,Zl2 [] [] kinds,Ko]
   obtain ⟨s1,s2⟩:=ZyF r of3
   refine Zl3 hb ha YS wq wp tq tp q3 (s1.trans f2) (s2.trans f1) fun y hy=> ?_
   obtain ⟨x,hx,rfl⟩:=QM.1 hy
   rcases hr x hx with ⟨h,m1,a1⟩ | ⟨h,m2,a2⟩ | ⟨h,⟨m1,a1⟩,m2,a2⟩
   .exact .inr (.inl ⟨by unfold swU;rw [if_pos h],Z0D m1 a1,by rw [<-hl];exact (Z0t wp ha tp m1).1⟩)
   .exact .inl ⟨by unfold swU;rw [JL,if_pos h],Z0D m2 a2,(Z0t wq hb tq m2).1⟩
   .obtain ⟨o1,t1,i1,c1⟩:=Z0t wp ha tp m1
    obtain ⟨o2,t2,i2,c2⟩:=Z0t wq hb tq m2
    refine .inr (.inr ⟨by unfold swU;rw [JL,JL];exact h,⟨⟨fun k=> ?_,o2⟩,fun k=> ?_,by rw [<-hl];exact o1⟩,t2,fun k2 k1=> ?_⟩)
    .have k:x.q.kind=2:=k
     rw [c2 k] at a2;cases a2
    .have k:x.p.kind=2:=k
     rw [c1 k] at a1;cases a1
    .obtain ⟨x1,y1,z1,w1,_⟩:=i1 k1
     obtain ⟨x2,y2,z2,w2,_⟩:=i2 k2
     show LbX K (b+a) (g (opU x.p).e (opU x.q).e).y (opU x.q).e
     rw [w1,w2,Ko]
     exact (hf _ y1 _ y2 z1 z2).2
 .rw [if_neg hc]
  exact ⟨.nil YS p,.nil YS q⟩
theorem ZHq {g:Edit->Edit->Lft} (gl:∀ e:Edit,g e Edit.nil=⟨e,Edit.nil,false,false⟩) (gr:∀ e:Edit,g Edit.nil e=⟨Edit.nil,e,false,false⟩)
  {a b:Int} (ha:0<=a) (hb:0<=b) {p q:Edit} (wp:Wk p) (wq:Wk q) (tp:Y2 a p) (tq:Y2 b q) (p2:p.kind=2) (q2:q.kind=2)
  (hf:∀ x∈p.kids,∀ y∈q.kids,LbX K (a+b) (g x.e y.e).x x.e/\LbX K (a+b) (g x.e y.e).y y.e):LbX K (a+b) (Z10 g p q).x p/\LbX K (a+b) (Z10 g p q).y q:=by
 have rp:=Zj wp.r
 have rq:=Zj wq.r
 rw [Zkp gl gr (Z1n rp.words) (Z1n rq.words) (fun w hw=> (Yu rp.words w hw).2.2.1) (fun w hw=> (Yu rq.words w hw).2.2.1) (Z3e rp.kids) (Z3e rq.kids)]
 refine ⟨Zuy (f:=g) ha hb wp wq tp p2 fun x hx y hy=> (hf x hx y hy).1,?_⟩
 rw [Ko]
 exact Zuy (f:=swL g) hb ha wq wp tq q2 fun y hy x hx=> by rw [Ko];exact (hf x hx y hy).2
theorem ZIY{a b:Int}(ha:0<=a)(hb:0<=b)(hab:a+b < 1048576):∀ (n:Nat) (p q:Edit),Z3 p+Z3 q<=n->Wk p->Wk q->Y2 a p->Y2 b q->LbX K (a+b) (rbF n p q).x p/\LbX K (a+b) (rbF n p q).y q:=by
 intro n
 induction n with
 | zero=> intro p q h;obtain ⟨k,o,nw,w,ks,l,os⟩:=p;simp only [Z3] at h;omega
 | succ n ih=>
  intro p q hn wp wq tp tq
  have m1:=Z56 p
  have m2:=Z56 q
  obtain ⟨n',rfl⟩:∃ k,n=k+1:=⟨n - 1,YS⟩
  show LbX K (a+b) (JG (rbF (n'+1)) p q).x p/\LbX K (a+b) (JG (rbF (n'+1)) p q).y q
  have rp:=Zj wp.r
  have rq:=Zj wq.r
  have tp':=Jc.1 tp
  have tq':=Jc.1 tq
  unfold JG
  by_cases h0:p.kind=0\/q.kind=0
  .rw [if_pos h0];exact ⟨.self wp (Z1q _ _ (Qb _) YS tp),.self wq (Z1q _ _ (Qb _) YS tq)⟩
  rw [if_neg h0]
  by_cases p1:p.kind=1
  .rw [if_pos p1];exact ⟨.nil YS p,.nil YS q⟩
  rw [if_neg p1]
  by_cases q1:q.kind=1
  .rw [if_pos q1];exact ⟨.nil YS p,.nil YS q⟩
  rw [if_neg q1]
  by_cases hk:p.kind≠q.kind
  .rw [if_pos hk];exact ⟨.nil YS p,.nil YS q⟩
  rw [if_neg hk]
  by_cases p2:p.kind=2
  .rw [if_pos p2]
   refine ZHq (Ziw n') (ZeX n') ha hb wp wq tp tq p2 YS fun x hx y hy=> ?_
   have:=ZV hx;have:=ZV hy
   exact ih _ _ YS ⟨YA _ _ _ V1 (Zp rp.kids x hx).2,(Yz (ZR wp.g).2.2.2.1 hx).2⟩ ⟨YA _ _ _ V1 (Zp rq.kids y hy).2,(Yz (ZR wq.g).2.2.2.1 hy).2⟩ (tp'.2.1 x hx) (tq'.2.1 y hy)
  .rw [if_neg p2]
   have:=rp.kind
   refine ZHB ha hb hab wp wq tp tq YS YS fun x hx y hy kx ky=> ?_
   have:=YV hx;have:=YV hy
   exact ih _ _ YS ((Z36 (JT wp x hx) kx).1.2.2.2) ((Z36 (JT wq y hy) ky).1.2.2.2) (tp'.2.2 x hx) (tq'.2.2 y hy)
theorem Zvg{p q:Edit}(h:ZkX p q):(J2 (Zn p)/\J2 (Zn q))/\J2 (rbE (Zn p) (Zn q)).x/\J2 (rbE (Zn p) (Zn q)).y:=by
 obtain ⟨hp,hq,a,b,⟨ha,hb,hab⟩,⟨tp,tq⟩,wp,wq⟩:=h
 have hp':=Z4a hp
 have hq':=Z4a hq
 obtain ⟨X,Y⟩:=ZIY (K:=16+68*(a+b).toNat) ha hb hab _ _ _ (Qb _) (Zdv hp') (Zdv hq') tp tq
 have c1:=ZjM (K:=16+68*(a+b).toNat) (show 0<=a+b by omega) (Qb _) _ _ (Qb _) X.wk X.th
 have c2:=ZjM (K:=16+68*(a+b).toNat) (show 0<=a+b by omega) (Qb _) _ _ (Qb _) Y.wk Y.th
 have o1:=X.ow
 have o2:=Y.ow
 exact ⟨⟨hp',hq'⟩,⟨by unfold rbE;omega,X.wk.g,-1,X.wk.r⟩,⟨by unfold rbE;omega,Y.wk.g,-1,Y.wk.r⟩⟩
theorem ZbW{f g:Edit->Edit->Lft}{p q:List Kid}:∀ {l:List Int},(∀ n∈l,f (Ys p n) (Ys q n)=g (Ys p n) (Ys q n))->YB f p q l=YB g p q l
 | [],_=> rfl
 | n ::r,h=> by rw [YB,YB,h n Q2,ZbW fun m hm=> h m (Q1 _ hm)]
theorem ZeY{f g:Edit->Edit->Lft}:∀ {r:List APair} (m h:List Tree),(∀ x∈r,x.of≠1->x.of≠2->f x.p.e x.q.e=g x.p.e x.q.e)->Jq f r m h=Jq g r m h
 | [],_,_,_=> rfl
 | x ::r,m,h,hr=> by
  have ih:=fun m h=> ZeY (f:=f) (g:=g) (r:=r) m h fun y hy=> hr y (Q1 _ hy)
  rw [Jq,Jq,ih,ih,ih]
  by_cases h1:x.of=1
  .rw [if_pos h1,if_pos h1]
  by_cases h2:x.of=2
  .rw [if_neg h1,if_neg h1,if_pos h2,if_pos h2]
  .rw [if_neg h1,if_neg h1,if_neg h2,if_neg h2]
   have:Y4 f x.p x.q=Y4 g x.p x.q:=by unfold Y4;rw [hr x List.mem_cons_self h1 h2]
   rw [this]
theorem Z9o {f g:Edit->Edit->Lft} {p q:Edit} {d d':Int} (hp:Zb p d=true) (hq:Zb q d'=true)
  (h:∀ a b,Z3 a+Z3 b < Z3 p+Z3 q->(∃ d,Zb a d=true)->(∃ d,Zb b d=true)->f a b=g a b):JG f p q=JG g p q:=by
 have hk:Z10 f p q=Z10 g p q:=by
  unfold Z10
  rw [ZbW (f:=f) (g:=g) fun n hn=> by obtain ⟨a,b,c⟩:=ZlR hp hq hn;exact h _ _ a b c]
 have ho:Z3b f p q=Z3b g p q:=by
  unfold Z3b
  dsimp only
  rw [ZeY (f:=f) (g:=g) [] [] fun x hx h1 h2=> ?_]
  rcases Zsn _ _ _ _ (Qb _) x hx with m | ⟨_,⟨m1,_⟩,m2,_⟩ | ⟨m,_⟩ | ⟨m,_⟩
  .cases m
  .obtain ⟨o1,ho1,u1⟩:=Z2x (ZS hp) m1
   obtain ⟨o2,ho2,u2⟩:=Z2x (ZS hq) m2
   obtain ⟨a1,b1⟩:=Z6n hp ho1 u1
   obtain ⟨a2,b2⟩:=Z6n hq ho2 u2
   exact h _ _ YS b1 b2
  .exact absurd m h1
  .exact absurd m h2
 unfold JG
 rw [hk,ho]
theorem ZkY:∀ (n m:Nat) (p q:Edit) (d d':Int),Zb p d=true->Zb q d'=true->Z3 p+Z3 q<=n->n<=m->rbF m p q=rbF n p q:=by
 intro n
 induction n with
 | zero=> intro m p q d d' _ _ h;obtain ⟨k,o,nw,w,ks,l,os⟩:=p;simp only [Z3] at h;omega
 | succ n ih=>
  intro m p q d d' hp hq h hm
  obtain ⟨m,rfl⟩:∃ k,m=k+1:=⟨m - 1,YS⟩
  show JG (rbF m) p q=JG (rbF n) p q
  exact Z9o hp hq fun a b hab ⟨d1,h1⟩ ⟨d2,h2⟩=> ih m a b d1 d2 h1 h2 YS YS
theorem Zvh{p q:Edit}{d d':Int}(hp:Zb p d=true)(hq:Zb q d'=true):rbE p q=JG rbE p q:=by
 have e:rbE p q=rbF (Z3 p+Z3 q+1) p q:=(ZkY _ _ p q d d' hp hq (Qb _) YS).symm
 rw [e]
 show JG (rbF (Z3 p+Z3 q)) p q=JG rbE p q
 exact Z9o hp hq fun a b hab ⟨d1,h1⟩ ⟨d2,h2⟩=> ZkY _ _ a b d1 d2 h1 h2 (Qb _) YS
end Go.AM.YtpjenobkibfpcaaGreat
namespace Go.AM.YtpjenobkibfpcaaGreat
open Go.AM Go.Proofs
noncomputable section
def Z4d(w:WEdit)(m:Int):List WEdit:=if (Z4n w (Z7P m)).1.mask=0 then [] else [(Z4n w (Z7P m)).1]
def Z3g:List APair->List Tree
 | []=> []
 | x ::r=> if x.of=0 then [] else if x.of=1 then x.p.t ::Z3g r else Z3g r
def Z3f:List APair->List Tree
 | []=> []
 | x ::r=> if x.of=0 then [] else if x.of=1 then Z3f r else x.q.t ::Z3f r
def Z07:List APair->Int
 | []=> 0
 | x ::r=> if x.of=0 then 0 else Z07 r+1
def ZfZ(l:List WEdit)(n:Int):Int:=Yy (fun w:WEdit=> decide (WEdit.at_ w=n)) l 0
def Z5a(l:List Kid)(n:Int):Int:=Yy (fun k:Kid=> decide (KidOf.at_ k=n)) l 0
end
theorem Zux{a m:Int}(ha:0<=a/\a < 256)(hm:0<=m/\m < 256):a - Z1h a m=Z1h (Z7P m) a/\0<=a - Z1h a m/\a - Z1h a m < 256:=by
 have fromN:∀ x:BitVec 8,BitVec.ofInt 8 ((x.toNat:Nat):Int)=x:=fun x=> by rw [BitVec.ofInt_natCast,BitVec.ofNat_toNat,BitVec.setWidth_eq]
 have bits:IntKind.bits .u8=8:=rfl
 have e1:∀ x y:BitVec 8,IntKind.wrap .u8 (((x &&& y).toNat:Nat):Int)=(((x &&& y).toNat:Nat):Int):=fun x y=> Z3m YS (by have:=(x &&& y).isLt;omega)
 have e2:∀ x y:BitVec 8,IntKind.wrap .u8 (((x ^^^ y).toNat:Nat):Int)=(((x ^^^ y).toNat:Nat):Int):=fun x y=> Z3m YS (by have:=(x ^^^ y).isLt;omega)
 have ax:a=(((BitVec.ofInt 8 a).toNat:Nat):Int):=by
  rw [BitVec.toNat_ofInt]
  omega
 have hA:Z1h a m=(((BitVec.ofInt 8 a &&& BitVec.ofInt 8 m).toNat:Nat):Int):=e1 _ _
 have hN:Z7P m=(((BitVec.ofInt 8 255 ^^^ BitVec.ofInt 8 m).toNat:Nat):Int):=e2 _ _
 have hB:Z1h (Z7P m) a=((((BitVec.ofInt 8 255 ^^^ BitVec.ofInt 8 m) &&& BitVec.ofInt 8 a).toNat:Nat):Int):=by
  unfold Z1h
  rw [hN]
  show IntKind.wrap .u8 (((BitVec.ofInt 8 _ &&& BitVec.ofInt 8 a).toNat:Nat):Int)=_
  rw [fromN]
  exact e1 _ _
 rw [hA,hB]
 generalize hx:BitVec.ofInt 8 a=x at*
 generalize BitVec.ofInt 8 m=y at*
 have hz:∀ i (h:i < 8),(BitVec.ofInt 8 255)[i]=true:=fun i h=> by
  rw [show BitVec.ofInt 8 255=BitVec.allOnes 8 from rfl]
  simp only [BitVec.getElem_allOnes]
 generalize BitVec.ofInt 8 255=z at*
 have h0:(x &&& y) &&& ((z ^^^ y) &&& x)=0#8:=by
  ext i hi
  simp only [BitVec.getElem_and,BitVec.getElem_xor,hz i hi]
  cases x[i] <;> cases y[i] <;> simp
 have h1:(x &&& y) ||| ((z ^^^ y) &&& x)=x:=by
  ext i hi
  simp only [BitVec.getElem_and,BitVec.getElem_or,BitVec.getElem_xor,hz i hi]
  cases x[i] <;> cases y[i] <;> simp
 have h2:=BitVec.add_eq_or_of_and_eq_zero _ _ h0
 have h3:(x &&& y).toNat+((z ^^^ y) &&& x).toNat=x.toNat:=by
  rw [<-BitVec.toNat_add_of_and_eq_zero h0,h2,h1]
 have:=x.isLt
 omega
theorem ZdB:∀ r:List APair,0<=Z07 r/\Z07 r<=r.length
 | []=> ⟨Qw _,Qw _⟩
 | x ::r=> by
  have:=ZdB r
  rw [Z07,Q6]
  split <;> omega
theorem ZqJ:∀ (r s:List APair) (x:APair),r.drop (Z07 r).toNat=x ::s->x.of=0
 | [],s,x,h=> by simp at h
 | y ::r,s,x,h=> by
  rw [Z07] at h
  by_cases c:y.of=0
  .rw [if_pos c] at h
   injection h with h1 _
   rw [<-h1];exact c
  .rw [if_neg c,show (Z07 r+1).toNat=(Z07 r).toNat+1 by have:=(ZdB r).1;omega,Qq] at h
   exact ZqJ r s x h
theorem Zl4(g:Edit->Edit->Lft):∀ (r:List APair) (m h:List Tree),(∀ x∈r,x.of=0\/x.of=1\/x.of=2)->Jq g r m h=match r.drop (Z07 r).toNat with
  | []=> Ym (m++Z3g r) (h++Z3f r)
  | x ::s=> ((Ym (m++Z3g r) (h++Z3f r)).app (Y4 g x.p x.q)).app (Jq g s [] [])
 | [],m,h,_=> by
  rw [Jq]
  show Ym m h=Ym (m++[]) (h++[])
  rw [Qo,Qo]
 | x ::r,m,h,hr=> by
  have ih:=fun m h=> Zl4 g r m h fun y hy=> hr y (Q1 _ hy)
  rw [Jq,Z07,Z3g,Z3f]
  by_cases c:x.of=0
  .rw [JL,JL,if_pos c,if_pos c,if_pos c,Qo,Qo]
   try rfl
  .rw [if_neg c,if_neg c,if_neg c,show (Z07 r+1).toNat=(Z07 r).toNat+1 by have:=(ZdB r).1;omega,Qq]
   by_cases c1:x.of=1
   .rw [if_pos c1,if_pos c1,if_pos c1,ih,Qa,Xw]
   .have c2:x.of=2:=by have:=hr x Q2;omega
    rw [if_neg c1,if_pos c2,if_neg c1,if_neg c1,ih,Qa,Xw]
theorem Zbq{α:Type}(f:α->Bool)(d:α):∀ (l:List α) (i:Int),(l.find? f=none/\Yy f l i= -1)\/∃ a,l.find? f=some a/\(i<=Yy f l i/\Yy f l i < i+l.length)/\l.getD (Yy f l i - i).toNat d=a
 | [],i=> .inl ⟨rfl,rfl⟩
 | a ::r,i=> by
  rw [Yy]
  by_cases h:f a=true
  .rw [if_pos h,List.find?_cons_of_pos h]
   refine .inr ⟨a,rfl,⟨Qw _,by rw [Q6];omega⟩,?_⟩
   rw [show (i - i).toNat=0 by omega];try rfl
  .rw [if_neg h,XU h]
   rcases Zbq f d r (i+1) with ⟨h1,h2⟩ | ⟨b,h1,h2,h3⟩
   .exact .inl ⟨h1,h2⟩
   .refine .inr ⟨b,h1,⟨YS,by rw [Q6];omega⟩,?_⟩
    rw [show (Yy f r (i+1) - i).toNat=(Yy f r (i+1) - (i+1)).toNat+1 by omega]
    exact h3
theorem Zhm(l:List WEdit)(n:Int):(Z0Y l n=none/\ZfZ l n= -1)\/∃ a,Z0Y l n=some a/\(0<=ZfZ l n/\ZfZ l n < l.length)/\l.getD (ZfZ l n).toNat ⟨0,0,0,0⟩=a:=by
 have h:=Zbq (fun w:WEdit=> decide (WEdit.at_ w=n)) ⟨0,0,0,0⟩ l 0
 rw [Int.sub_zero,Int.zero_add] at h
 exact h
theorem Zhn(l:List Kid)(n:Int):(l.find? (fun k=> decide (k.at_=n))=none/\Z5a l n= -1)\/∃ a,l.find? (fun k=> decide (k.at_=n))=some a/\(0<=Z5a l n/\Z5a l n < l.length)/\l.getD (Z5a l n).toNat ⟨0,Edit.nil⟩=a:=by
 have h:=Zbq (fun k:Kid=> decide (KidOf.at_ k=n)) ⟨0,Edit.nil⟩ l 0
 rw [Int.sub_zero,Int.zero_add] at h
 exact h
noncomputable section
def Zrx:ArgL (WEdit × Int × Unit):=(.cons (aEl .wedit) (.cons (J9 .u8) .nil))
def Zfg(a:WEdit × Int × Unit):Prop:=wOk a.1/\0<=a.2.1/\a.2.1 < 256
def ZmT(a:WEdit × Int × Unit):V U:= .tup [(true,(enc .wedit ((Z4n a.1 a.2.1).1))),(false,[.bool ((Z4n a.1 a.2.1).2)])]
def Zd8:Fs U:=fs Zrx (fun a=> [Zfg a]) ZmT
def Zk1:ArgM ((Bool × Bool × Unit) × WEdit × WEdit × Unit):=(.obj 0 (.cons Z2c (.cons Z2c .nil)) (.cons (aEl .wedit) (.cons (aEl .wedit) .nil)))
def ZiS(a:(Bool × Bool × Unit) × WEdit × WEdit × Unit):Prop:=wOk a.2.1/\wOk a.2.2.1
def Zv4(a:(Bool × Bool × Unit) × WEdit × WEdit × Unit):V U:= .tup []
def Z9i(a:(Bool × Bool × Unit) × WEdit × WEdit × Unit):List (List (C U)):=[[.bool (a.1.1 || (!(Yi a.2.1 a.2.2.1) && Jj a.2.1 a.2.2.1)),.bool (a.1.2.1 || Yi a.2.1 a.2.2.1)]]
def Zd9:Fs U:=fsX Zk1 (fun a=> [ZiS a]) Zv4 Z9i
def ZiF(a:List Tree × Unit):Prop:=True
def Zie(a:List Tree × Unit):V U:= .c (sU .op (Z0g a.1) (.own (.r 0 0)))
def Z8U:Fs U:=fs Zrd (fun a=> [ZiF a]) Zie
def ZiE(a:Edit × Unit):Prop:=True
def Zid(a:Edit × Unit):V U:= .agg (enc .op (Z0j a.1))
def ZcQ:Fs U:=fs Zrz (fun a=> [ZiE a]) Zid
def ZrF:ArgL Unit:= .nil
def ZaY(a:Unit):Prop:=True
def ZmV(a:Unit):V U:= .tup [(true,(enc .edit Edit.nil)),(true,(enc .edit Edit.nil))]
def Zdc:Fs U:=fs ZrF (fun a=> [ZaY a]) ZmV
def ZjY:ArgM ((Unit × List Op × List Op × List Tree × List Tree × Unit) × Edit × Tree × (Bool × Bool × Unit) × Unit):=(.obj 0 (.cons (cXp 1) (.cons (Z4C .op 0 1) (.cons (Z4C .op 0 2) (.cons (Z4C .tree 0 3) (.cons (Z4C .tree 0 4) .nil))))) (.cons (aEl .edit) (.cons (aEl .tree) (.hid (.cons Z2c (.cons Z2c .nil)) .nil))))
def Zf6(a:(Unit × List Op × List Op × List Tree × List Tree × Unit) × Edit × Tree × (Bool × Bool × Unit) × Unit):Prop:=(Z3 a.2.1<=20000000000/\J8 a.2.1/\∃ d,Zb a.2.1 d=true)/\Zm a.2.2.1+ctE a.2.1<=200000000000/\rng a.2.2.1
def ZuO(a:(Unit × List Op × List Op × List Tree × List Tree × Unit) × Edit × Tree × (Bool × Bool × Unit) × Unit):V U:= .tup []
def Zdf(a:(Unit × List Op × List Op × List Tree × List Tree × Unit) × Edit × Tree × (Bool × Bool × Unit) × Unit):List (List (C U)):=[[.xp 1,sU .op a.1.2.1 (.own (.x 0 1)),sU .op a.1.2.2.1 (.own (.x 0 2)),sU .tree a.1.2.2.2.1 (.own (.x 0 3)),sU .tree a.1.2.2.2.2.1 (.own (.x 0 4))],[.bool true,.bool (a.2.2.2.1.2.1 || !(doE false a.2.1 a.2.2.1).isSome)]]
def ZcR:Fs U:=fsX ZjY (fun a=> [Zf6 a]) ZuO Zdf
def Zqt:List (FuncId × Fs U):=[(176,JQ)]
def Zwx:Zc U:=lvl [([1,2,4],[2,4]),([1,2,4],[2,4]),([4,5],[4])]
abbrev ZJB(p:List Nat):=AW (Z0 Zqt) Tryz.f140 Zwx p
theorem ZGZ(w:WEdit)(m:Int)(Q:QT)(h:let z0:=IntKind.wrap .u8 (BitVec.ofInt (IntKind.bits .u8) m &&& BitVec.ofInt (IntKind.bits .u8) w.mask).toNat;((Z13 (0,w.old,z0,()))/\(Z13 (0,w.new,z0,()))/\(Q .ret (L2 [pL 4,(5,.c (.bool ((z0:Int) !=0)))] [(.loc 4,[ci w.at_,.int .u8 z0,.int .u64 (mix 0 w.old z0),.int .u64 (mix 0 w.new z0)])])))):
  ZJB [] (L2 [(0,.agg (enc .wedit w)),(1,.c (.int .u8 m))] []) Q:=
 Eq.mpr V4 h
def ZBC(w:WEdit)(m:Int):Prop:=AW (Z0 Zqt) Tryz.f140 Zwx [] (Zh (Zrx.can (w,m,())) []) (EQ Tryz.f140 (ZmT (w,m,())) [])
theorem ZzK(ZjP:CT 176 JQ)(hb:∀ (w:WEdit) (m:Int) (_:Unit),Zfg (w,m,())->ZBC w m):CT 140 Zd8:=
 Z1 (l:=[(176,JQ)]) Zi rfl (⟨ZjP,trivial⟩) Zwx Tryz.func140 rfl rfl 2 (fun _=> rfl) V1 (fun ⟨w,m,_⟩=> hb w m ())
def Zwy:Zc U:=lvk [([0,4,5],[4,5,((.x 0),[])]),([0,4,5,6],[4,5,((.x 0),[])]),([0,4,5,6,12],[4,5,((.x 0),[])]),([],[((.x 0),[])]),([0,25],[((.x 0),[])]),([],[((.x 0),[])])]
abbrev ZJC(p:List Nat):=AW (Z0 Zqt) Tryz.f139 Zwy p
theorem ZH0(mc ma:Bool)(p q:WEdit)(Q:QT)(h:∀ y_1,y_1=(BitVec.ofInt (IntKind.bits .u8) p.mask &&& BitVec.ofInt (IntKind.bits .u8) q.mask)->let z0:=IntKind.wrap .u8 y_1.toNat;let z1:=((mix 0 p.new z0):Int) !=(mix 0 q.new z0);((Z13 (0,p.old,z0,()))/\(Z13 (0,q.old,z0,()))/\(iB (((mix 0 p.old z0):Int) !=(mix 0 q.old z0)) ((Q .normal (L2 [] [(.x 0,[.bool mc,.bool true])]))) ((Z13 (0,p.new,z0,()))/\(Z13 (0,q.new,z0,()))/\(iB z1 ((Q .normal (L2 [] [(.x 0,[.bool true,.bool ma])]))) (Q .normal (L2 [(0,.ptr (.x 0) 0),(25,.c (.bool z1))] [(.x 0,[.bool mc,.bool ma])]))))))):
  ZJC [] (L2 [(0,.ptr (.x 0) 0),(1,.agg (enc .wedit p)),(2,.agg (enc .wedit q))] [(.x 0,[.bool mc,.bool ma])]) Q:=
 Eq.mpr V4 (h _ rfl)
def ZBD(mc ma:Bool)(p q:WEdit):Prop:=AW (Z0 Zqt) Tryz.f139 Zwy [] (Zh (Zk1.can ((mc,ma,()),p,q,())) (Zk1.canX ((mc,ma,()),p,q,()))) (EQ Tryz.f139 (Zv4 ((mc,ma,()),p,q,())) (Z9i ((mc,ma,()),p,q,())))
theorem ZzL(ZjP:CT 176 JQ)(hb:∀ (mc:Bool) (ma:Bool) (p:WEdit) (q:WEdit) (_:Unit),ZiS ((mc,ma,()),p,q,())->ZBD mc ma p q):CT 139 Zd9:=
 YK (l:=[(176,JQ)]) Zi rfl (⟨ZjP,trivial⟩) Zwy Tryz.func139 rfl rfl 3 (fun _=> rfl) V1 (fun ⟨⟨mc,ma,_⟩,p,q,_⟩=> hb mc ma p q ())
def Zwb:Zc U:=lvl [([0],[]),([0,5],[]),([2],[]),([2],[])]
abbrev ZJj(p:List Nat):=AW (Z0 ZnJ) Tryz.f195 Zwb p
theorem ZGk(l:List Tree)(Q:QT)(h:(iB (((l.length:Int):Int)==0) ((Q .ret (L2 [(2,.c (.nils))] []))) ((Q .ret (L2 [(2,.c (sU .op ([(OpOf.mk 2 0 l (Edit.mk 0 (Tree.mk 0 [] []) (Tree.mk 0 [] []) [] [] 0 []))]) .full))] []))))):
  ZJj [] (L2 [(0,.c (sU .tree l .unk))] []) Q:=
 Eq.mpr V4 h
def ZAX(l:List Tree):Prop:=AW (Z0 ZnJ) Tryz.f195 Zwb [] (Zh (Zrd.can (l,())) []) (EQ Tryz.f195 (Zie (l,())) [])
theorem Zz9(hb:∀ (l:List Tree) (_:Unit),ZiF (l,())->ZAX l):CT 195 Z8U:=
 Z1 (l:=[]) Zi rfl trivial Zwb Tryz.func195 rfl rfl 1 (fun _=> rfl) V1 (fun ⟨l,_⟩=> hb l ())
def Zw9:Zc U:=lvl [([1,2],[1,2]),([1,2,5],[1,2]),([2],[2]),([2],[2])]
abbrev ZJh(p:List Nat):=AW (Z0 ZnJ) Tryz.f197 Zw9 p
theorem ZGi(e:Edit)(Q:QT)(h:(iB (e.kind==0) ((Q .ret (L2 [pL 2] [(.loc 2,[ci 0,ci 1,.nils,ci 0,ci 0,.nils,.nils,ci 0,.nils,.nils,.nils,.nils,ci 0,.nils])]))) ((Q .ret (L2 [pL 2] [(.loc 2,([ci 3,ci 0,.nils]++enc .edit e))]))))):
  ZJh [] (L2 [(0,.agg (enc .edit e))] []) Q:=
 Eq.mpr V4 h
def ZAV(e:Edit):Prop:=AW (Z0 ZnJ) Tryz.f197 Zw9 [] (Zh (Zrz.can (e,())) []) (EQ Tryz.f197 (Zid (e,())) [])
theorem Zz7(hb:∀ (e:Edit) (_:Unit),ZiE (e,())->ZAV e):CT 197 ZcQ:=
 Z1 (l:=[]) Zi rfl trivial Zw9 Tryz.func197 rfl rfl 1 (fun _=> rfl) V1 (fun ⟨e,_⟩=> hb e ())
def ZwF:Zc U:=lvl [([0,1],[0,1]),([0,1],[0,1])]
abbrev ZJJ(p:List Nat):=AW (Z0 ZnJ) Tryz.f104 ZwF p
theorem ZHh(Q:QT)(h:(Q .ret (L2 [pL 0,pL 1] [(.loc 0,zc1),(.loc 1,zc1)]))):
  ZJJ [] (L2 [] []) Q:=
 Eq.mpr V4 h
def ZBU:Prop:=AW (Z0 ZnJ) Tryz.f104 ZwF [] (Zh (ZrF.can ()) []) (EQ Tryz.f104 (ZmV ()) [])
theorem ZzU(hb:∀ (_:Unit),ZaY ()->ZBU):CT 104 Zdc:=
 Z1 (l:=[]) Zi rfl trivial ZwF Tryz.func104 rfl rfl 0 (fun _=> rfl) V1 (fun _=> hb ())
def Zq6:List (FuncId × Fs U):=[(25,Z5y)]
def Zwa:Zc U:=lvk [([0,4,5],[4,5,((.x 0),[]),((.x 1),[])]),([0,7],[((.x 0),[]),((.x 1),[])]),([0,15],[((.x 0),[]),((.x 1),[])]),([0],[((.x 0),[]),((.x 1),[])]),([],[((.x 0),[]),((.x 1),[])])]
abbrev ZJi(p:List Nat):=AW (Z0 Zq6) Tryz.f196 Zwa p
theorem ZGj(sm_:Unit)(sx sy:List Op)(si sh:List Tree)(e:Edit)(t:Tree)(mc ma:Bool)(Q:QT)(h:let z1:=Tree.mk t.kind t.words t.kids;let z0:=Edit.mk e.kind (Tree.mk e.old.kind e.old.words e.old.kids) (Tree.mk e.new.kind e.new.words e.new.kids) e.words e.kids e.list e.ops;((Z4c (z0,z1,()))/\(iB (!((doE false z0 z1).isSome)) ((Q .normal (L2 [] [(.x 0,[.xp 1,sU .op sx (.own (.x 0 1)),sU .op sy (.own (.x 0 2)),sU .tree si (.own (.x 0 3)),sU .tree sh (.own (.x 0 4))]),(.x 1,[.bool true,.bool true])]))) ((Q .normal (L2 [] [(.x 0,[.xp 1,sU .op sx (.own (.x 0 1)),sU .op sy (.own (.x 0 2)),sU .tree si (.own (.x 0 3)),sU .tree sh (.own (.x 0 4))]),(.x 1,[.bool true,.bool ma])])))))):
  ZJi [] (L2 [(0,.ptr (.x 0) 0),(1,.agg (enc .edit e)),(2,.agg (enc .tree t))] [(.x 0,[.xp 1,sU .op sx (.own (.x 0 1)),sU .op sy (.own (.x 0 2)),sU .tree si (.own (.x 0 3)),sU .tree sh (.own (.x 0 4))]),(.x 1,[.bool mc,.bool ma])]) Q:=
 Eq.mpr V4 h
def ZAW(sm_:Unit)(sx sy:List Op)(si sh:List Tree)(e:Edit)(t:Tree)(mc ma:Bool):Prop:=AW (Z0 Zq6) Tryz.f196 Zwa [] (Zh (ZjY.can ((sm_,sx,sy,si,sh,()),e,t,(mc,ma,()),())) (ZjY.canX ((sm_,sx,sy,si,sh,()),e,t,(mc,ma,()),()))) (EQ Tryz.f196 (ZuO ((sm_,sx,sy,si,sh,()),e,t,(mc,ma,()),())) (Zdf ((sm_,sx,sy,si,sh,()),e,t,(mc,ma,()),())))
theorem Zz8(c25:CT 25 Z5y)(hb:∀ (sm_:Unit) (sx:List Op) (sy:List Op) (si:List Tree) (sh:List Tree) (e:Edit) (t:Tree) (mc:Bool) (ma:Bool) (_:Unit),Zf6 ((sm_,sx,sy,si,sh,()),e,t,(mc,ma,()),())->ZAW sm_ sx sy si sh e t mc ma):CT 196 ZcR:=
 YK (l:=[(25,Z5y)]) Zi rfl (⟨c25,trivial⟩) Zwa Tryz.func196 rfl rfl 3 (fun _=> rfl) V1 (fun ⟨⟨sm_,sx,sy,si,sh,_⟩,e,t,⟨mc,ma,_⟩,_⟩=> hb sm_ sx sy si sh e t mc ma ())
end
theorem ZER:Contract Tryz.prog cfg 140 Zd8:=by
 refine ZzK ZjP ?_
 intro w m _ hp
 simp only [Zfg] at hp
 obtain ⟨hw,hm0,hm1⟩:=hp
 refine ZGZ _ _ _ ?_
 intros;(simp only [iB,vcT,vcS])
 have rm:=(ZdU ⟨hm0,hm1⟩ hw.1.2.1).1
 refine ⟨⟨⟨YS,YS⟩,hw.1.2.2.1,rm⟩,⟨⟨YS,YS⟩,hw.1.2.2.2,rm⟩,?_⟩
 have e:(IntKind.u8.wrap (BitVec.ofInt (IntKind.bits .u8) m &&& BitVec.ofInt (IntKind.bits .u8) w.mask).toNat !=0)=decide (Z1h m w.mask≠0):=by
  show (Z1h m w.mask !=0)=_
  by_cases h:Z1h m w.mask=0 <;> simp [h]
 rw [e]
 simp only [ZmT,Z4n]
 exact JP
theorem ZES:Contract Tryz.prog cfg 139 Zd9:=by
 refine ZzL ZjP ?_
 intro mc ma p q _ hp
 simp only [ZiS] at hp
 obtain ⟨hp,hq⟩:=hp
 refine ZH0 _ _ _ _ _ ?_
 intro y1 hy1
 have e:IntKind.wrap .u8 y1.toNat=Z1h p.mask q.mask:=by rw [hy1];try rfl
 (simp only [iB,vcT,vcS])
 rw [e]
 have rm:=(ZdU hp.1.2.1 hq.1.2.1).1
 have r0:(0:Int)<=0/\(0:Int) < 18446744073709551616:=⟨YS,YS⟩
 refine ⟨⟨r0,hp.1.2.2.1,rm⟩,⟨r0,hq.1.2.2.1,rm⟩,fun h=> ?_,fun h=> ⟨⟨r0,hp.1.2.2.2,rm⟩,⟨r0,hq.1.2.2.2,rm⟩,fun h2=> ?_,fun h2=> ?_⟩⟩
 .have a1:Yi p q=true:=by simp [Yi,h]
  simp only [Z9i,a1,XA,K9,QB,Xk]
  exact JP
 .have a1:Yi p q=false:=by simp [Yi,h]
  have a2:Jj p q=true:=by simp [Jj,h2]
  simp only [Z9i,a1,a2,XL,QG,QB,Xk]
  exact JP
 .have a1:Yi p q=false:=by simp [Yi,h]
  have a2:Jj p q=false:=by simp [Jj,h2]
  simp only [Z9i,a1,a2,XL,QG,QB]
  exact JP
theorem ZEq:Contract Tryz.prog cfg 195 Z8U:=by
 refine Zz9 ?_
 intro l _ hp
 refine ZGk _ _ ?_
 (simp only [iB,vcT,vcS])
 refine ⟨fun h=> ?_,fun h=> ?_⟩
 .have:l=[]:=QZ.1 YS
  simp only [Zie,Z0g,if_pos this]
  exact JP
 .have:l≠[]:=fun e=> h (by rw [e];rfl)
  simp only [Zie,Z0g,if_neg this]
  exact JP
theorem ZEo:Contract Tryz.prog cfg 197 ZcQ:=by
 refine Zz7 ?_
 intro e _ hp
 refine ZGi _ _ ?_
 (simp only [iB,vcT,vcS])
 refine ⟨fun h=> ?_,fun h=> ?_⟩
 .simp only [Zid,Z0j,if_pos h]
  exact JP
 .simp only [Zid,Z0j,if_neg h]
  exact JP
theorem ZEZ:Contract Tryz.prog cfg 104 Zdc:=by
 refine ZzU ?_
 intro _ hp
 refine ZHh _ ?_
 simp only [ZmV]
 exact JP
theorem ZEp:Contract Tryz.prog cfg 196 ZcR:=by
 refine Zz8 c25 ?_
 intro sm_ sx sy si sh e t mc ma _ hp
 simp only [Zf6] at hp
 refine ZGj sm_ _ _ _ _ _ _ _ _ _ ?_
 (simp only [iB,vcT,vcS])
 simp only [Tree.eta,Edit.eta]
 refine ⟨hp,fun h=> ?_,fun h=> ?_⟩
 .simp only [Zdf,h,XL,Xk]
  exact JP
 .simp only [Zdf,h,XA,QB]
  exact JP
end Go.AM.YtpjenobkibfpcaaGreat
