import Derived.Test.YtfapacabjkhepaaGreatWCL25g
import Derived.Test.YtfapacabjkhepaaGreatWKD22
import Derived.Test.YtfapacabjkhepaaGreatWKL22m
set_option linter.unusedSimpArgs false
set_option linter.unusedVariables false
namespace Go.AM.YtfapacabjkhepaaGreat
open Go.AM Go.Proofs
theorem ZbW(list:Int):∀ (a b:List Op) (w:Wst),Zu list (a++b) w=Zu list b (Zu list a w)
 | [],_,_=> rfl
 | o ::r,b,w=> by simp only [Qk,Zu,ZbW list r b]
theorem Zs8(x:List Op):(Zl ⟨x,[],[]⟩).out=x:=by simp [Zl,Z0M]
theorem Zlw(w:Wst)(a b:Int):Yd (Yd w a) b=Yd w (a+b):=by
 unfold Yd
 rw [Zs8,Zdn]
theorem ZhL(list:Int):∀ (n:Nat) (w:Wst),Zu list (List.replicate (n+1) ⟨0,1,[],Edit.nil⟩) w=Yd w ((n:Int)+1)
 | 0,w=> by rfl
 | n+1,w=> by
  rw [Xw,Zu,Jc,if_pos rfl,ZhL list n,Zlw]
  grind
theorem ZhO(list:Int):∀ (l:List Tree) (w:Wst),Zu list (l.map fun t=> ⟨1,0,[t],Edit.nil⟩) w=⟨w.out,w.gone++Zb l,w.brought⟩
 | [],w=> by simp [Zu,Zb]
 | t ::r,w=> by
  rw [Qo,Zu,ZhO list r,Jc,if_neg (show ¬(1:Int)=0 by decide),if_pos rfl]
  simp [Zb]
theorem ZhZ(list:Int):∀ (l:List Tree) (w:Wst),Zu list (l.map fun t=> ⟨2,0,[t],Edit.nil⟩) w=⟨w.out,w.gone,w.brought++Zb l⟩
 | [],w=> by simp [Zu,Zb]
 | t ::r,w=> by
  rw [Qo,Zu,ZhZ list r,Jc,if_neg (show ¬(2:Int)=0 by decide),if_neg (show ¬(2:Int)=1 by decide),if_pos rfl]
  simp [Zb]
def ux(o:Op):List Op:=(Yn 0 0 o).map opU
theorem Zts(i a:Int)(o:Op):(Yn i a o).map opU=ux o:=by
 simp only [ux,Yn,Xy,QR]
 congr 1
 .split <;> simp [opU]
 .congr 1
  split <;> simp [opU]
theorem Z4s(u:AUnit):(opU u).kind=u.kind:=by
 unfold opU
 grind
theorem Ztu{o:Op}(h:ZQ o)(k:o.kind=0):ux o=List.replicate o.n.toNat ⟨0,1,[],Edit.nil⟩/\1<=o.n:=by
 have hl:o.l=[]:=by rcases h with h | h | h <;> first | exact h.2.1 | omega
 refine ⟨?_,by rcases h with h | h | h <;> omega⟩
 simp only [ux,Yn,hl,if_pos k]
 rw [V0]
 simp [opU]
theorem Z1j{o:Op}(k:o.kind=1\/o.kind=2):ux o=o.l.map fun t=> ⟨o.kind,0,[t],Edit.nil⟩:=by
 simp only [ux,Yn]
 rw [V0,V0]
 simp only [Qq,Qs,QR]
 refine List.map_congr_left fun t _=> ?_
 simp only [Function.comp,opU]
 grind
theorem Zed{o:Op}(h:ZQ o)(k:o.kind=3):ux o=[⟨3,0,[],o.e⟩]/\o=⟨3,0,[],o.e⟩:=by
 have hl:o.l=[]/\o.n=0:=by rcases h with h | h | h <;> first | exact ⟨h.2.2,h.2.1⟩ | omega
 constructor
 .simp only [ux,Yn,hl.1]
  rw [V0,if_pos k]
  simp [opU]
 .obtain ⟨a,b,c,d⟩:=o
  grind
theorem ZdN{o x:Op}(h:x∈ux o):x.kind=o.kind:=by
 simp only [ux,X4] at h
 obtain ⟨u,hu,rfl⟩:=h
 rw [Z4s]
 simp only [Yn,Qi,X4] at hu
 grind
theorem ZCz(list:Int){o:Op}(h:ZQ o)(w:Wst):Zu list (ux o) w=Z0r list o w:=by
 rcases YQ h with k | k | k | k
 .obtain ⟨e,hn⟩:=Ztu h k.1
  rw [e,Jc,if_pos k.1]
  obtain ⟨m,hm⟩:∃ m:Nat,o.n.toNat=m+1:=⟨o.n.toNat - 1,YL⟩
  rw [hm,ZhL]
  congr 1;omega
 .rw [Z1j (.inl k),k,ZhO,Jc,V0,if_pos k]
 .rw [Z1j (.inr k),k,ZhZ,Jc,V0,V0,if_pos k]
 .obtain ⟨e1,e2⟩:=Zed h k
  rw [e1]
  conv=> rhs;rw [e2]
  try rfl
noncomputable def rp(f:Edit->Edit->Edit × Bool)(x:APair):List Op × Bool:=
 if x.of=1 then ([opU x.p],true) else if x.of=2 then ([opU x.q],true) else JJ f x.p x.q
theorem JH(f:Edit->Edit->Edit × Bool)(x:APair)(r:List APair):Yb f (x ::r)=if (rp f x).2 then (Yb f r).map ((rp f x).1++·) else none:=by
 rw [Yb,rp]
 grind
theorem ZbJ(f:Edit->Edit->Edit × Bool):∀ (a b:List APair),Yb f (a++b)=(Yb f a).bind fun l=> (Yb f b).map (l++·)
 | [],b=> by
  rw [Qq,Yb,Qm]
  simp_all
 | x ::a,b=> by
  rw [Qk,JH,JH,ZbJ f a b]
  split
  .cases Yb f a with
   | none=> rfl
   | some l=> cases Yb f b <;> simp
  .try rfl
theorem ZbK(f:Edit->Edit->Edit × Bool)(h:APair->Op):∀ (m:List APair),(∀ y∈m,rp f y=([h y],true))->Yb f m=some (m.map h)
 | [],_=> rfl
 | y ::r,hy=> by
  rw [JH,hy y Q3,ZbK f h r fun z hz=> hy z (Q0 _ hz)]
  try rfl
theorem Z1T{o:Op}{a:Int}{l:List AUnit}(h:Z5O o a l):l.map opU=ux o:=by
 unfold Z5O at h
 rw [Zeh,Zts] at h
 exact h.symm
theorem ZHI{k:Int}{u:AUnit}(hk:u.kind=k)(h:k=1\/k=2):opU u=⟨k,0,[u.t],Edit.nil⟩:=by
 unfold opU
 grind
theorem Z13{k:Int}(hk:k=1\/k=2):∀ {l:List Tree} {m:List AUnit},m.map opU=l.map (fun t=> (⟨k,0,[t],Edit.nil⟩:Op))->l=m.map AUnit.t/\∀ u∈m,u.kind=k
 | [],[],_=> ⟨rfl,fun u hu=> (by cases hu)⟩
 | [],_ ::_,h=> by simp at h
 | _ ::_,[],h=> by simp at h
 | t ::l,u ::m,h=> by
  simp only [Qo,List.cons.injEq] at h
  obtain ⟨i1,i2⟩:=Z13 hk h.2
  have ku:u.kind=k:=by have:=congrArg OpOf.kind h.1;rwa [Z4s] at this
  have e:=h.1
  rw [ZHI ku hk] at e
  grind
theorem ZbI(f:Edit->Edit->Edit × Bool):∀ (m:List APair),(∀ y∈m,y.of=0/\y.p.kind=2/\y.q.kind=1)->
  ((Zb (m.map fun y=> y.p.t)=Zb (m.map fun y=> y.q.t)->Yb f m=some [])/\(¬Zb (m.map fun y=> y.p.t)=Zb (m.map fun y=> y.q.t)->Yb f m=none))
 | [],_=> ⟨fun _=> rfl,fun h=> absurd rfl h⟩
 | y ::r,h=> by
  obtain ⟨h0,h1,h2⟩:=h y Q3
  obtain ⟨i1,i2⟩:=ZbI f r fun z hz=> h z (Q0 _ hz)
  have e:rp f y=([],YM (Z5 y.p.t) (Z5 y.q.t)):=by
   unfold rp JJ
   grind
  have hc:Zb ((y ::r).map fun y=> y.p.t)=Zb ((y ::r).map fun y=> y.q.t)↔Z5 y.p.t=Z5 y.q.t/\Zb (r.map fun y=> y.p.t)=Zb (r.map fun y=> y.q.t):=by
   simp [Zb]
  rw [hc,JH,e]
  dsimp only
  refine ⟨fun hh=> ?_,fun hh=> ?_⟩
  .rw [if_pos (Yu.2 hh.1),i1 hh.2];try rfl
  .by_cases ht:Z5 y.p.t=Z5 y.q.t
   .grind
   .rw [if_neg (by rw [Yu];exact ht)]
structure Alike (c r:Edit × Bool):Prop where
 ok:c.2=r.2
 nrm:c.2=true->Zz c.1=Zz r.1
theorem ZuQ{list:Int}{e f:Edit}(h:Zz e=Zz f)(w:Wst):Z0r list ⟨3,0,[],e⟩ w=Z0r list ⟨3,0,[],f⟩ w:=by
 rw [Jc,Jc]
 grind
theorem ZmN {f g:Edit->Edit->Edit × Bool} {alone:Int} {x:Piece} {m:List APair} (hof:x.of=0\/x.of=1\/x.of=2) (hm:m≠[]) (ha:∀ y∈m,y.of=x.of)
  (hp:x.of≠2->ZQ x.p/\Z3 x.p=m.length/\Z5O x.p alone (m.map APair.p)) (hq:x.of≠1->ZQ x.q/\Z3 x.q=m.length/\Z5O x.q 2 (m.map APair.q))
  (hb:x.of=0->x.p.kind≠1/\x.q.kind≠2) (hf:x.of=0->x.p.kind=3->x.q.kind=3->Alike (f x.p.e x.q.e) (g x.p.e x.q.e)):
  (ZM f x).ok=(Yb g m).isSome/\∀ L,Yb g m=some L->∀ list w,Zu list (if (ZM f x).is then [(ZM f x).op] else []) w=Zu list L w:=by
 have single:∀ (o:Op),ZQ o->∀ (h:APair->Op),(∀ y∈m,rp g y=([h y],true))->m.map h=ux o->ZM f x=⟨o,true,true⟩->
   (ZM f x).ok=(Yb g m).isSome/\∀ L,Yb g m=some L->∀ list w,Zu list (if (ZM f x).is then [(ZM f x).op] else []) w=Zu list L w:=by
  intro o ho h h1 h2 h3
  rw [ZbK g h m h1,h2,h3]
  refine ⟨rfl,fun L hL list w=> ?_⟩
  cases hL
  rw [ZCz list ho]
  try rfl
 by_cases c1:x.of=1
 .obtain ⟨o1,o2,o3⟩:=hp YL
  refine single x.p o1 (fun y=> opU y.p) (fun y hy=> ?_) ?_ (by unfold ZM;grind)
  .unfold rp;grind
  .rw [<-Z1T o3,QR];try rfl
 by_cases c2:x.of=2
 .obtain ⟨o1,o2,o3⟩:=hq YL
  refine single x.q o1 (fun y=> opU y.q) (fun y hy=> ?_) ?_ (by unfold ZM;grind)
  .unfold rp;grind
  .rw [<-Z1T o3,QR];try rfl
 have c0:x.of=0:=YL
 obtain ⟨p1,p2,p3⟩:=hp YL
 obtain ⟨q1,q2,q3⟩:=hq YL
 obtain ⟨b1,b2⟩:=hb c0
 have up:=Z1T p3
 have uq:=Z1T q3
 have kp:∀ y∈m,y.p.kind=x.p.kind:=fun y hy=> by
  have:opU y.p∈ux x.p:=by rw [<-up];exact Xc (Xc hy)
  rw [<-Z4s];exact ZdN this
 have kq:∀ y∈m,y.q.kind=x.q.kind:=fun y hy=> by
  have:opU y.q∈ux x.q:=by rw [<-uq];exact Xc (Xc hy)
  rw [<-Z4s];exact ZdN this
 have hr:∀ y∈m,rp g y=JJ g y.p y.q:=fun y hy=> by
  unfold rp;grind
 by_cases q0:x.q.kind=0
 .refine single x.p p1 (fun y=> opU y.p) (fun y hy=> ?_) ?_ (by unfold ZM;grind)
  .rw [hr y hy,JJ,if_pos (by grind)]
  .rw [<-up,QR];try rfl
 by_cases p0:x.p.kind=0
 .refine single x.q q1 (fun y=> opU y.q) (fun y hy=> ?_) ?_ (by unfold ZM;grind)
  .rw [hr y hy,JJ,if_neg (by grind),if_pos (by grind)]
  .rw [<-uq,QR];try rfl
 have kp':x.p.kind=2\/x.p.kind=3:=by rcases YQ p1 with k | k | k | k <;> omega
 have kq':x.q.kind=1\/x.q.kind=3:=by rcases YQ q1 with k | k | k | k <;> omega
 by_cases pq:x.p.kind=2/\x.q.kind=1
 .obtain ⟨t1,_⟩:=Z13 (k:=2) (.inr rfl) (l:=x.p.l) (m:=m.map APair.p) (by rw [up,Z1j (.inr pq.1),pq.1])
  obtain ⟨t2,_⟩:=Z13 (k:=1) (.inl rfl) (l:=x.q.l) (m:=m.map APair.q) (by rw [uq,Z1j (.inl pq.2),pq.2])
  rw [QR] at t1 t2
  have hc:ZM f x=⟨Op.nil,false,ZnK x.p.l x.q.l⟩:=by
   unfold ZM
   rw [V0,V0,if_pos pq]
   congr 1
   rw [Ql (by rw [t1,t2];simp)]
  obtain ⟨e1,e2⟩:=ZbI g m fun y hy=> ⟨by grind,by grind,by grind⟩
  rw [hc]
  dsimp only
  unfold ZnK
  rw [t1,t2]
  by_cases he:Zb (m.map fun y=> y.p.t)=Zb (m.map fun y=> y.q.t)
  .rw [e1 he]
   refine ⟨JI.2 he,fun L hL list w=> ?_⟩
   grind
  .rw [e2 he]
   refine ⟨?_,fun L hL=> by cases hL⟩
   rw [Option.isSome_none,<-Xj,JI]
   exact he
 have hm1:m.length=1:=by
  have:Z3 x.p=1\/Z3 x.q=1:=by
   by_cases h:x.p.kind=3
   .exact .inl (JT h)
   .exact .inr (JT YL)
  omega
 obtain ⟨y,rfl⟩:∃ y,m=[y]:=by
  match m,hm1 with
  | [y],_=> grind
 have ky:=kp y Q3
 have kz:=kq y Q3
 have e1:Yb g [y]=if (JJ g y.p y.q).2 then some (JJ g y.p y.q).1 else none:=by
  rw [JH,hr y Q3]
  split
  .simp [Yb]
  .try rfl
 rw [e1]
 simp only [Qo,QQ] at up uq
 by_cases p2':x.p.kind=2
 .have q3':x.q.kind=3:=YL
  rw [Z1j (.inr p2')] at up
  obtain ⟨e2,_⟩:=Zed q1 q3'
  rw [e2] at uq
  have et:x.p.l=[y.p.t]:=by
   have:=(Z13 (k:=2) (.inr rfl) (l:=x.p.l) (m:=[y.p]) (by grind)).1
   simpa using this
  have ee:y.q.e=x.q.e:=by
   have:=List.cons.inj uq
   have h:=this.1
   unfold opU at h
   rw [V0,V1] at h
   injection h
  have hc:ZM f x=⟨⟨2,0,[Yc (doE true y.q.e y.p.t)],Edit.nil⟩,true,(doE true y.q.e y.p.t).isSome⟩:=by
   unfold ZM
   rw [V0,V0,if_neg pq,if_pos p2',et,ee]
   simp only [Qp,doB,Z0x,Xr]
  have hu:JJ g y.p y.q=([⟨2,0,[Yc (doE true y.q.e y.p.t)],Edit.nil⟩],(doE true y.q.e y.p.t).isSome):=by
   unfold JJ
   grind
  grind
 have p3':x.p.kind=3:=YL
 obtain ⟨e2,_⟩:=Zed p1 p3'
 rw [e2] at up
 have eep:y.p.e=x.p.e:=by
  have h:=(List.cons.inj up).1
  unfold opU at h
  rw [V0,V1] at h
  injection h
 by_cases q1':x.q.kind=1
 .rw [Z1j (.inl q1')] at uq
  have et:x.q.l=[y.q.t]:=by
   have:=(Z13 (k:=1) (.inl rfl) (l:=x.q.l) (m:=[y.q]) (by grind)).1
   simpa using this
  have hc:ZM f x=⟨⟨1,0,[Yc (doE true (Zz (Zs y.p.e)) y.q.t)],Edit.nil⟩,true,(doE true (Zz (Zs y.p.e)) y.q.t).isSome⟩:=by
   unfold ZM
   rw [V0,V0,if_neg pq,if_neg p2',if_pos q1',et,eep]
   simp only [Qp,doB,Z0x,Xr]
  have hu:JJ g y.p y.q=([⟨1,0,[Yc (doE true (Zz (Zs y.p.e)) y.q.t)],Edit.nil⟩],(doE true (Zz (Zs y.p.e)) y.q.t).isSome):=by
   unfold JJ
   grind
  grind
 have q3':x.q.kind=3:=YL
 obtain ⟨e3,_⟩:=Zed q1 q3'
 rw [e3] at uq
 have eeq:y.q.e=x.q.e:=by
  have h:=(List.cons.inj uq).1
  unfold opU at h
  rw [V0,V1] at h
  injection h
 have hc:ZM f x=⟨⟨3,0,[],(f x.p.e x.q.e).1⟩,true,(f x.p.e x.q.e).2⟩:=by
  unfold ZM
  grind
 have hu:JJ g y.p y.q=([⟨3,0,[],(g x.p.e x.q.e).1⟩],(g x.p.e x.q.e).2):=by
  unfold JJ
  grind
 obtain ⟨a1,a2⟩:=hf c0 p3' q3'
 rw [hc,hu]
 dsimp only
 rw [<-a1]
 by_cases hs:(f x.p.e x.q.e).2=true
 .rw [if_pos hs]
  refine ⟨hs,fun L hL list w=> ?_⟩
  cases hL
  rw [if_pos rfl,Zu,Zu,ZuQ (a2 hs)]
  try rfl
 grind
theorem Za4{f g:Edit->Edit->Edit × Bool}{alone:Int}{p0 q0:List Op}:∀ {ps:List Piece} {m:List APair},Zcy alone ps m->(∀ x∈ps,POk p0 q0 x)->
  (∀ x∈ps,x.of=0->x.p.kind=3->x.q.kind=3->Alike (f x.p.e x.q.e) (g x.p.e x.q.e))->
  (JW f ps).isSome=(Yb g m).isSome/\∀ a b,JW f ps=some a->Yb g m=some b->∀ list w,Zu list a w=Zu list b w
 | [],m,h,_,_=> by
  have h:m=[]:=h
  subst h
  refine ⟨rfl,fun a b ha hb=> ?_⟩
  cases ha;cases hb
  simp
 | x ::r,m,h,hok,hf=> by
  rw [Z24] at h
  obtain ⟨m1,m2,rfl,hm,⟨hof,_,ha,hp,hq⟩,hr⟩:=h
  obtain ⟨i1,i2⟩:=Za4 hr (fun y hy=> hok y (Q0 _ hy)) fun y hy=> hf y (Q0 _ hy)
  have hx:=hok x Q3
  obtain ⟨j1,j2⟩:=ZmN (f:=f) (g:=g) hof hm ha (fun h=> ⟨(hp h).1,(hp h).2.2⟩) (fun h=> ⟨(hq h).1,(hq h).2.2⟩) (fun h=> ⟨(hx.both h).1,(hx.both h).2.1⟩) (hf x Q3)
  rw [JW,ZbJ]
  cases hs:Yb g m1 with
  | none=>
   grind
  | some L=>
   rw [hs] at j1
   rw [if_pos (by rw [j1];rfl),Qm,Xr,Xr]
   refine ⟨i1,fun a b ha hb list w=> ?_⟩
   obtain ⟨a',ha',rfl⟩:=Qc.1 ha
   obtain ⟨b',hb',rfl⟩:=Qc.1 hb
   rw [ZbW,ZbW,j2 L hs,i2 a' b' ha' hb']
theorem Zlk {f g:Edit->Edit->Edit × Bool} {p q:List Op} (hp:okL p) (hq:okL q)
  (hf:∀ a b:Op,Part p a->Part q b->a.kind=3->b.kind=3->Alike (f a.e b.e) (g a.e b.e)):
  (Z0y f p q).isSome=(Z3G g p q).isSome/\∀ a b,Z0y f p q=some a->Z3G g p q=some b->∀ list w,Zu list a w=Zu list b w:=by
 obtain ⟨ok,l,m,e1,e2,e3,e4⟩:=ZkU 1 (.inl rfl) _ p q [] (ZE 0 1 p) (ZE 0 2 q) [] (Q8 _) hp hq (Z4b 1 p 0) (Z4b 2 q 0)
 obtain ⟨i1,_⟩:=Z4q _ p q [] (Q8 _) (fun o ho=> (hp o ho).1) (fun o ho=> (hq o ho).1)
 unfold Z0y Z3G
 rw [e2,e3,e1]
 cases ok with
 | false=> grind
 | true=>
  obtain ⟨ps,e,hps,_,_⟩:=i1 e2
  rw [e1,if_pos rfl] at e
  simp only [Qq] at e
  subst e
  simp only [if_true,Qq]
  exact Za4 (e4 rfl).1 hps fun x hx h0 h1 h2=> hf x.p x.q ((hps x hx).pp YL).1 ((hps x hx).qq YL).1 h1 h2
theorem ZhM{last n:Int}(hn:n<=last){l:List WEdit}(h:asc WEdit.at_ last l):Z1D l n=none:=by
 unfold Z1D
 rw [List.find?_eq_none]
 intro w hw
 have:=Z3n h w hw
 grind
theorem Z2N(a:WEdit)(r:List WEdit):Z1D (a ::r) a.at_=some a:=by simp [Z1D]
theorem Z2M{a:WEdit}{n:Int}(h:a.at_ < n)(r:List WEdit):Z1D (a ::r) n=Z1D r n:=by
 unfold Z1D
 grind
theorem Z3b(l:List Int):Ye l []=l:=by cases l <;> rw [Ye]
theorem Z7m:∀ (k:Nat) (a b:List Int) (last:Int),a.length+b.length<=k->asc id last a->asc id last b->∀ n∈Ye a b,last < n:=by
 intro k
 induction k with
 | zero=>
  intro a b last hk ha hb n hn
  have e1:a=[]:=Q1 YL
  have e2:b=[]:=Q1 YL
  subst e1 e2
  rw [Ye] at hn;cases hn
 | succ k ih=>
  intro a b last hk ha hb n hn
  match a,b with
  | [],b=> rw [Ye] at hn;exact Z3n hb n hn
  | x ::a,[]=> rw [Z3b] at hn;exact Z3n ha n hn
  | x ::a,y ::b=>
   simp only [Q7] at hk
   have h1:last < x:=ha.1
   have h2:last < y:=hb.1
   rw [Ye] at hn
   split at hn
   .rename_i hxy
    rcases Q9.1 hn with rfl | hn
    .exact h1
    .have:=ih a (y ::b) x (by grind) ha.2 ⟨hxy,hb.2⟩ n hn;omega
   .split at hn
    .rename_i hxy
     rcases Q9.1 hn with rfl | hn
     .exact h2
     .have:=ih (x ::a) b y (by grind) ⟨hxy,ha.2⟩ hb.2 n hn;omega
    .have hxy:x=y:=YL
     subst hxy
     rcases Q9.1 hn with rfl | hn
     .exact h1
     .have:=ih a b x YL ha.2 hb.2 n hn;omega
theorem Jj{β:Type}{at_:β->Int}:∀ {l:List β} {last:Int},asc at_ last l->asc id last (l.map at_)
 | [],_,_=> trivial
 | _ ::_,_,h=> ⟨h.1,Jj h.2⟩
theorem Z0S{p q p' q':List WEdit}:∀ {l:List Int},(∀ n∈l,Z1D p n=Z1D p' n/\Z1D q n=Z1D q' n)->Jw p q l=Jw p' q' l
 | [],_=> rfl
 | n ::r,h=> by
  rw [Jw,Jw,(h n Q3).1,(h n Q3).2,Z0S fun m hm=> h m (Q0 _ hm)]
theorem Zfb:∀ {p:List WEdit} {last:Int},asc WEdit.at_ last p->Jw p [] (p.map WEdit.at_)=some p
 | [],_,_=> rfl
 | a ::r,last,h=> by
  rw [Qo,Jw,Z2N,show Z1D [] a.at_=none from rfl]
  dsimp only
  rw [Z0S (p':=r) (q':=[]) (fun n hn=> ⟨Z2M (Z3n (Jj h.2) n hn) r,rfl⟩),Zfb h.2]
  try rfl
theorem ZcR:∀ {q:List WEdit} {last:Int},asc WEdit.at_ last q->Jw [] q (q.map WEdit.at_)=some q
 | [],_,_=> rfl
 | a ::r,last,h=> by
  rw [Qo,Jw,Z2N,show Z1D [] a.at_=none from rfl]
  dsimp only
  rw [Z0S (p':=[]) (q':=r) (fun n hn=> ⟨rfl,Z2M (Z3n (Jj h.2) n hn) r⟩),ZcR h.2]
  try rfl
theorem ZcS:∀ (k:Nat) (p q:List WEdit) (last:Int),p.length+q.length<=k->asc WEdit.at_ last p->asc WEdit.at_ last q->
  Jw p q (Ye (p.map WEdit.at_) (q.map WEdit.at_))=Zh WEdit.at_ Jh p q:=by
 intro k
 induction k with
 | zero=>
  intro p q last hk hp hq
  have e1:p=[]:=Q1 YL
  have e2:q=[]:=Q1 YL
  subst e1 e2
  rw [QQ,Ye,Zh];try rfl
 | succ k ih=>
  intro p q last hk hp hq
  match p,q with
  | [],q=> rw [QQ,Ye,Zh,ZcR hq]
  | a ::p,[]=> rw [QQ,Z3b,Zh,Zfb hp]
  | a ::p,b ::q=>
   simp only [Q7] at hk
   rw [Qo,Qo,Ye,Zh]
   by_cases h1:a.at_ < b.at_
   .rw [if_pos h1,if_pos h1,Jw,Z2N,ZhM (Xe _) (l:=b ::q) ⟨h1,hq.2⟩]
    dsimp only
    have hb:asc WEdit.at_ a.at_ (b ::q):=⟨h1,hq.2⟩
    rw [show b.at_ ::q.map WEdit.at_=(b ::q).map WEdit.at_ from rfl]
    rw [Z0S (p':=p) (q':=b ::q) (fun n hn=> ⟨Z2M (Z7m _ _ _ a.at_ (Q8 _) (Jj hp.2) (Jj hb) n hn) p,rfl⟩)]
    rw [ih p (b ::q) a.at_ (by simp only [Q7];omega) hp.2 hb]
   .rw [if_neg h1,if_neg h1]
    by_cases h2:b.at_ < a.at_
    .rw [if_pos h2,if_pos h2,Jw,Z2N,ZhM (Xe _) (l:=a ::p) ⟨h2,hp.2⟩]
     dsimp only
     have ha:asc WEdit.at_ b.at_ (a ::p):=⟨h2,hp.2⟩
     rw [show a.at_ ::p.map WEdit.at_=(a ::p).map WEdit.at_ from rfl]
     rw [Z0S (p':=a ::p) (q':=q) (fun n hn=> ⟨rfl,Z2M (Z7m _ _ _ b.at_ (Q8 _) (Jj ha) (Jj hq.2) n hn) q⟩)]
     rw [ih (a ::p) q b.at_ (by simp only [Q7];omega) ha hq.2]
    .rw [if_neg h2,if_neg h2,Jw]
     have e:a.at_=b.at_:=YL
     have hq2:asc WEdit.at_ a.at_ q:=by rw [e];exact hq.2
     rw [Z2N,e,Z2N]
     dsimp only
     rw [Z0S (p':=p) (q':=q) (fun n hn=> by
      have:=Z7m _ _ _ a.at_ (Q8 _) (Jj hp.2) (Jj hq2) n hn
      exact ⟨Z2M this p,Z2M YL q⟩)]
     rw [ih p q a.at_ YL hp.2 hq2]
theorem ZhN{last n:Int}(hn:n<=last){l:List Kid}(h:asc KidOf.at_ last l):JA l n=Edit.nil:=by
 unfold JA
 rw [List.find?_eq_none.2]
 .try rfl
 .intro w hw
  have:=Z3n h w hw
  grind
theorem Z2P(a:Kid)(r:List Kid):JA (a ::r) a.at_=a.e:=by simp [JA]
theorem Z2O{a:Kid}{n:Int}(h:a.at_ < n)(r:List Kid):JA (a ::r) n=JA r n:=by
 unfold JA
 grind
theorem Z0T{g:Edit->Edit->Edit × Bool}{p q p' q':List Kid}:∀ {l:List Int},(∀ n∈l,JA p n=JA p' n/\JA q n=JA q' n)->Jb g p q l=Jb g p' q' l
 | [],_=> rfl
 | n ::r,h=> by
  rw [Jb,Jb,(h n Q3).1,(h n Q3).2,Z0T fun m hm=> h m (Q0 _ hm)]
section
variable {g:Edit->Edit->Edit × Bool}
theorem Zfe:∀ {p:List Kid} {last:Int},asc KidOf.at_ last p->(∀ k∈p,g k.e Edit.nil=(k.e,true))->Jb g p [] (p.map KidOf.at_)=some p
 | [],_,_,_=> rfl
 | a ::r,last,h,hg=> by
  rw [Qo,Jb,Z2P,show JA [] a.at_=Edit.nil from rfl,hg a Q3]
  dsimp only
  rw [if_pos rfl,Z0T (p':=r) (q':=[]) (fun n hn=> ⟨Z2O (Z3n (Jj h.2) n hn) r,rfl⟩),Zfe h.2 fun k hk=> hg k (Q0 _ hk)]
  try rfl
theorem ZcT:∀ {q:List Kid} {last:Int},asc KidOf.at_ last q->(∀ k∈q,g Edit.nil k.e=(k.e,true))->Jb g [] q (q.map KidOf.at_)=some q
 | [],_,_,_=> rfl
 | a ::r,last,h,hg=> by
  rw [Qo,Jb,Z2P,show JA [] a.at_=Edit.nil from rfl,hg a Q3]
  dsimp only
  rw [if_pos rfl,Z0T (p':=[]) (q':=r) (fun n hn=> ⟨rfl,Z2O (Z3n (Jj h.2) n hn) r⟩),ZcT h.2 fun k hk=> hg k (Q0 _ hk)]
  try rfl
theorem ZcU:∀ (k:Nat) (p q:List Kid) (last:Int),p.length+q.length<=k->asc KidOf.at_ last p->asc KidOf.at_ last q->(∀ k∈p,g k.e Edit.nil=(k.e,true))->(∀ k∈q,g Edit.nil k.e=(k.e,true))->
  Jb g p q (Ye (p.map KidOf.at_) (q.map KidOf.at_))=Zh KidOf.at_ (JM g) p q:=by
 intro k
 induction k with
 | zero=>
  intro p q last hk hp hq gp gq
  have e1:p=[]:=Q1 YL
  have e2:q=[]:=Q1 YL
  subst e1 e2
  rw [QQ,Ye,Zh];try rfl
 | succ k ih=>
  intro p q last hk hp hq gp gq
  match p,q with
  | [],q=> rw [QQ,Ye,Zh,ZcT hq gq]
  | a ::p,[]=> rw [QQ,Z3b,Zh,Zfe hp gp]
  | a ::p,b ::q=>
   simp only [Q7] at hk
   have gp':∀ k∈p,g k.e Edit.nil=(k.e,true):=fun k hk=> gp k (Q0 _ hk)
   have gq':∀ k∈q,g Edit.nil k.e=(k.e,true):=fun k hk=> gq k (Q0 _ hk)
   rw [Qo,Qo,Ye,Zh]
   by_cases h1:a.at_ < b.at_
   .rw [if_pos h1,if_pos h1,Jb,Z2P,ZhN (Xe _) (l:=b ::q) ⟨h1,hq.2⟩,gp a Q3]
    dsimp only
    have hb:asc KidOf.at_ a.at_ (b ::q):=⟨h1,hq.2⟩
    rw [show b.at_ ::q.map KidOf.at_=(b ::q).map KidOf.at_ from rfl]
    rw [if_pos rfl,Z0T (p':=p) (q':=b ::q) (fun n hn=> ⟨Z2O (Z7m _ _ _ a.at_ (Q8 _) (Jj hp.2) (Jj hb) n hn) p,rfl⟩)]
    rw [ih p (b ::q) a.at_ (by simp only [Q7];omega) hp.2 hb gp' gq]
   .rw [if_neg h1,if_neg h1]
    by_cases h2:b.at_ < a.at_
    .rw [if_pos h2,if_pos h2,Jb,Z2P,ZhN (Xe _) (l:=a ::p) ⟨h2,hp.2⟩,gq b Q3]
     dsimp only
     have ha:asc KidOf.at_ b.at_ (a ::p):=⟨h2,hp.2⟩
     rw [show a.at_ ::p.map KidOf.at_=(a ::p).map KidOf.at_ from rfl]
     rw [if_pos rfl,Z0T (p':=a ::p) (q':=q) (fun n hn=> ⟨rfl,Z2O (Z7m _ _ _ b.at_ (Q8 _) (Jj ha) (Jj hq.2) n hn) q⟩)]
     rw [ih (a ::p) q b.at_ (by simp only [Q7];omega) ha hq.2 gp gq']
    .rw [if_neg h2,if_neg h2,Jb]
     have e:a.at_=b.at_:=YL
     have hq2:asc KidOf.at_ a.at_ q:=by rw [e];exact hq.2
     rw [Z2P,show JA (b ::q) a.at_=b.e by rw [e];exact Z2P b q]
     rw [Z0T (p':=p) (q':=q) (fun n hn=> by
      have:=Z7m _ _ _ a.at_ (Q8 _) (Jj hp.2) (Jj hq2) n hn
      exact ⟨Z2O this p,Z2O YL q⟩)]
     rw [ih p q a.at_ YL hp.2 hq2 gp' gq']
     try rfl
end
theorem ZnF{f g:Edit->Edit->Edit × Bool}:∀ (k:Nat) (p q:List Kid),p.length+q.length<=k->(∀ a∈p,∀ b∈q,Alike (f a.e b.e) (g a.e b.e))->
  (Zh KidOf.at_ (JM f) p q).isSome=(Zh KidOf.at_ (JM g) p q).isSome/\∀ a b,Zh KidOf.at_ (JM f) p q=some a->Zh KidOf.at_ (JM g) p q=some b->Jd a=Jd b:=by
 intro k
 induction k with
 | zero=>
  intro p q hk _
  have e1:p=[]:=Q1 YL
  have e2:q=[]:=Q1 YL
  subst e1 e2
  rw [Zh,Zh]
  grind
 | succ k ih=>
  intro p q hk h
  match p,q with
  | [],q=> rw [Zh,Zh];grind
  | a ::p,[]=> rw [Zh,Zh];grind
  | a ::p,b ::q=>
   simp only [Q7] at hk
   rw [Zh,Zh]
   have step:∀ (x y:Kid) (s t:Option (List Kid)),Z2c x=Z2c y->(s.isSome=t.isSome/\∀ a b,s=some a->t=some b->Jd a=Jd b)->
     (s.map (x ::·)).isSome=(t.map (y ::·)).isSome/\∀ a b,s.map (x ::·)=some a->t.map (y ::·)=some b->Jd a=Jd b:=by
    intro x y s t hxy ⟨i1,i2⟩
    refine ⟨by grind,fun c d hc hd=> ?_⟩
    obtain ⟨c',hc',rfl⟩:=Qc.1 hc
    obtain ⟨d',hd',rfl⟩:=Qc.1 hd
    rw [Jd,Jd,hxy,i2 c' d' hc' hd']
   by_cases h1:a.at_ < b.at_
   .rw [if_pos h1,if_pos h1]
    exact step a a _ _ rfl (ih p (b ::q) (by grind) fun x hx y hy=> h x (Q0 _ hx) y hy)
   .rw [if_neg h1,if_neg h1]
    by_cases h2:b.at_ < a.at_
    .rw [if_pos h2,if_pos h2]
     exact step b b _ _ rfl (ih (a ::p) q (by grind) fun x hx y hy=> h x hx y (Q0 _ hy))
    .rw [if_neg h2,if_neg h2]
     obtain ⟨o1,o2⟩:=h a Q3 b Q3
     have e:(JM f a b).2=(JM g a b).2:=o1
     rw [<-e]
     by_cases hc:(JM f a b).2=true
     .rw [if_pos hc,if_pos hc]
      refine step _ _ _ _ ?_ (ih p q YL fun x hx y hy=> h x (Q0 _ hx) y (Q0 _ hy))
      show (⟨a.at_,Zz (f a.e b.e).1⟩:Kid)=⟨a.at_,Zz (g a.e b.e).1⟩
      rw [o2 hc]
     grind
theorem Z9U(n:Nat){e:Edit}(h:e.kind≠0):JY (n+1) e Edit.nil=(e,true)/\JY (n+1) Edit.nil e=(e,true):=by
 constructor
 .show Ja _ _ _=_
  unfold Ja
  rw [if_neg h,if_pos (show Edit.nil.kind=0 from rfl)]
 try rfl
theorem ZuS(w:List WEdit)(a:List Kid):Zz (.mk 2 Tree.nil Tree.nil w a 0 [])= .mk 2 Tree.nil Tree.nil w (Jd a) 0 []:=by rfl
theorem ZuR(l:Int)(os:List Op):Zz (.mk 3 Tree.nil Tree.nil [] [] l os)= .mk 3 Tree.nil Tree.nil [] [] l (Zl (Zu l os ⟨[],[],[]⟩)).out:=by rfl
theorem Zsh:∀ (n:Nat) (p q:Edit) (d d':Int),Z8 p+Z8 q<=n->n<=18000000000->Z9 p d=true->Z9 q d'=true->Alike (Z86 n p q) (JY n p q):=by
 intro n
 induction n with
 | zero=> intro p q d d' h;obtain ⟨k,o,nw,w,ks,l,os⟩:=p;simp only [Z8] at h;omega
 | succ n ih=>
  intro p q d d' hn hN hp hq
  have rp:=Zo hp
  have rq:=Zo hq
  show Alike (Ji (Z86 n) p q) (Ja (JY n) p q)
  unfold Ji Ja
  by_cases p0:p.kind=0
  .rw [if_pos p0,if_pos p0];exact ⟨rfl,fun _=> rfl⟩
  rw [if_neg p0,if_neg p0]
  by_cases q0:q.kind=0
  .rw [if_pos q0,if_pos q0];exact ⟨rfl,fun _=> rfl⟩
  rw [if_neg q0,if_neg q0]
  have hB:∀ (e:Edit) (t:Tree),doB e t=(Yc (doE true e t),(doE true e t).isSome):=fun e t=> by
   unfold doB;rw [Z0x,Option.isSome_map]
  by_cases p1:p.kind=1
  .rw [if_pos p1,if_pos p1,hB];exact ⟨rfl,fun _=> rfl⟩
  rw [if_neg p1,if_neg p1]
  by_cases q1:q.kind=1
  .rw [if_pos q1,if_pos q1,hB];exact ⟨rfl,fun _=> rfl⟩
  rw [if_neg q1,if_neg q1]
  by_cases hk:p.kind=q.kind
  .by_cases p2:p.kind=2
   .have l1:=(rp.ops0 YL).1
    have l2:=(rq.ops0 YL).1
    rw [V0,if_neg (show ¬p.kind≠q.kind by omega),if_pos p2,if_pos p2]
    rw [ZcS _ p.words q.words (-1) (Q8 _) (Z0O rp.words) (Z0O rq.words)]
    have hn1:1<=n\/(p.kids=[]/\q.kids=[]):=by
     by_cases h1:p.kids=[]
     .by_cases h2:q.kids=[]
      .grind
      .obtain ⟨k,hk⟩:=Xt _ h2
       have:=Y6 hk
       left
       obtain ⟨_,⟨k,o,nw,w,ks,l,os⟩⟩:=k
       simp only [Z8] at this
       omega
     .obtain ⟨k,hk⟩:=Xt _ h1
      have:=Y6 hk
      left
      obtain ⟨_,⟨k,o,nw,w,ks,l,os⟩⟩:=k
      simp only [Z8] at this
      omega
    have hm:Jb (JY n) p.kids q.kids (Ye (p.kids.map KidOf.at_) (q.kids.map KidOf.at_))=Zh KidOf.at_ (JM (JY n)) p.kids q.kids:=by
     rcases hn1 with h | ⟨h1,h2⟩
     .obtain ⟨m,rfl⟩:∃ m,n=m+1:=⟨n - 1,YL⟩
      exact ZcU _ p.kids q.kids (-1) (Q8 _) (Z20 rp.kids) (Z20 rq.kids) (fun k hk=> (Z9U m (Zq rp.kids k hk).1.2.2).1) (fun k hk=> (Z9U m (Zq rq.kids k hk).1.2.2).2)
     .rw [h1,h2,QQ,Ye,Zh];try rfl
    rw [hm]
    obtain ⟨i1,i2⟩:=ZnF (f:=Z86 n) (g:=JY n) _ p.kids q.kids (Q8 _) fun a ha b hb=> by
     have:=Y6 ha
     have:=Y6 hb
     exact ih a.e b.e _ _ YL YL (Zq rp.kids a ha).2 (Zq rq.kids b hb).2
    cases hw:Zh WEdit.at_ Jh p.words q.words with
    | none=> exact ⟨rfl,fun h=> by cases h⟩
    | some L=>
     rw [if_pos (show (some L).isSome=true from rfl)]
     cases hf:Zh KidOf.at_ (JM (Z86 n)) p.kids q.kids with
     | none=>
      rw [hf] at i1
      cases hg:Zh KidOf.at_ (JM (JY n)) p.kids q.kids with
      | none=> exact ⟨rfl,fun h=> by cases h⟩
      | some b=> grind
     | some a=>
      rw [hf] at i1
      cases hg:Zh KidOf.at_ (JM (JY n)) p.kids q.kids with
      | none=> grind
      | some b=>
       refine ⟨rfl,fun _=> ?_⟩
       show Zz (.mk 2 Tree.nil Tree.nil L a 0 [])=Zz (.mk 2 Tree.nil Tree.nil L b 0 [])
       rw [ZuS,ZuS,i2 a b hf hg]
   .have hp3:p.kind=3:=by have:=rp.kind;omega
    have hq3:q.kind=3:=YL
    rw [if_neg (show ¬p.kind≠q.kind by omega),if_neg p2]
    by_cases hl:p.list=q.list
    .rw [V0,if_neg p2,V0]
     have ok:∀ (e:Edit) (d:Int),Z9 e d=true->Z8 e<=18000000000->okL e.ops:=fun e d h hm o ho=> by
      refine ⟨ZO h o ho,?_⟩
      obtain ⟨kk,ol,nn,w,ks,l,os⟩:=e
      have:=Z3J (os:=os) ho
      simp only [Z8] at hm
      omega
     obtain ⟨i1,i2⟩:=Zlk (f:=Z86 n) (g:=JY n) (ok p d hp YL) (ok q d' hq YL) fun a b ha hb h1 h2=> by
      obtain ⟨o1,m1,k1,e1,_⟩:=ha
      obtain ⟨o2,m2,k2,e2,_⟩:=hb
      have:=Z05 m1
      have:=Z05 m2
      rw [e1,e2]
      exact ih _ _ _ _ YL YL (Jo (rightOs_mem rp.ops m1) YL) (Jo (rightOs_mem rq.ops m2) YL)
     cases hf:Z0y (Z86 n) p.ops q.ops with
     | none=>
      rw [hf] at i1
      cases hg:Z3G (JY n) p.ops q.ops with
      | none=> exact ⟨rfl,fun h=> by cases h⟩
      | some b=> grind
     | some a=>
      rw [hf] at i1
      cases hg:Z3G (JY n) p.ops q.ops with
      | none=> grind
      | some b=>
       refine ⟨rfl,fun _=> ?_⟩
       show Zz (.mk 3 Tree.nil Tree.nil [] [] p.list a)=Zz (.mk 3 Tree.nil Tree.nil [] [] p.list b)
       rw [ZuR,ZuR,i2 a b hf hg]
    .rw [if_pos (.inr hl),if_neg p2,if_pos hl]
     exact ⟨rfl,fun h=> by cases h⟩
  .rw [if_pos (.inl hk),if_pos hk]
   exact ⟨rfl,fun h=> by cases h⟩
theorem ZwB{p q:Edit}{d d':Int}(hm:Z8 p+Z8 q<=18000000000)(hp:Z9 p d=true)(hq:Z9 q d'=true):Alike (Yy p q) (YX p q):=
 Zsh _ p q d d' (Q8 _) hm hp hq
end Go.AM.YtfapacabjkhepaaGreat
namespace Go.AM.YtfapacabjkhepaaGreat
open Go.AM Go.Proofs
theorem Zco(e:Edit):18<=ctE e:=by
 have:=Jz e
 have:=ZR e.old
 have:=ZR e.new
 omega
theorem Zqo(o n:Tree):ctE (.mk 1 o n [] [] 0 [])=16+Zm o+Zm n:=by rfl
mutual
theorem Z5F:∀ (e:Edit),ctE (Zs e)=ctE e
 | .mk k o n w ks l os=> by
  have h1:=ZhW ks
  have h2:=ZhV os
  simp only [Zs,ctE,QC]
  omega
theorem ZhW:∀ (ks:List (KidOf Edit)),Z0o (JQ ks)=Z0o ks
 | []=> rfl
 | k ::r=> by
  have h1:=ZnM k
  have h2:=ZhW r
  simp only [JQ,Z0o]
  omega
theorem ZnM:∀ (k:KidOf Edit),Z3m (Z12 k)=Z3m k
 | ⟨a,e⟩=> by
  have:=Z5F e
  simp only [Z12,Z3m]
  omega
theorem ZhV:∀ (os:List (OpOf Edit)),J2 (Jm os)=J2 os
 | []=> rfl
 | o ::r=> by
  have h1:=Zse o
  have h2:=ZhV r
  simp only [Jm,J2]
  omega
theorem Zse:∀ (o:OpOf Edit),Z3l (YO o)=Z3l o
 | ⟨k,n,l,e⟩=> by
  have:=Z5F e
  rw [Jt]
  dsimp only
  split
  .try rfl
  .split
   .try rfl
   .split
    .simp only [Z3l];omega
    .try rfl
end
theorem Z4Q:∀ (a b:List Op),J2 (a++b)=J2 a+J2 b
 | [],b=> by simp [J2]
 | o ::r,b=> by simp only [Qk,J2,Z4Q r b];omega
def ctW(w:Wst):Nat:=J2 w.out+(Zk w.gone+if w.gone.length=0 then 0 else 34)+(Zk w.brought+if w.brought.length=0 then 0 else 34)
theorem Z3k:ctE Edit.nil=18:=rfl
theorem Zgv(w:Wst):J2 (Zl w).out=ctW w:=by
 simp only [Zl,Z0M,ctW,Z4Q]
 by_cases h1:w.gone.length=0
 .rw [if_pos h1,if_pos h1,Q1 h1]
  by_cases h2:w.brought.length=0
  .rw [if_pos h2,if_pos h2,Q1 h2];try rfl
  .rw [if_neg h2,if_neg h2];simp only [J2,Z3l,Z3k,Zk];omega
 .rw [if_neg h1,if_neg h1]
  by_cases h2:w.brought.length=0
  .rw [if_pos h2,if_pos h2,Q1 h2];simp only [J2,Z3l,Z3k,Zk];omega
  .rw [if_neg h2,if_neg h2];simp only [J2,Z3l,Z3k];omega
theorem Zqn(w:Wst)(n:Int):ctW (Yd w n)<=ctW w+34:=by
 have h:=Zgv w
 have e:ctW (Yd w n)=J2 (Jx (Zl w).out n):=rfl
 rw [e,<-h]
 rcases Z0Y (Zl w).out n with e | ⟨a,q,e1,_,e3⟩
 .rw [e,Z4Q];simp only [J2,Z3l,Z3k,Zk];omega
 .rw [e3,e1,Z4Q,Z4Q];simp only [J2,Z3l,Z3O];omega
mutual
theorem Z49:∀ (e:Edit),ctE (Zz e)<=ctE e
 | .mk k o n w ks l os=> by
  have h1:=ZlO ks
  have h2:=ZlN l os ⟨[],[],[]⟩
  have h3:=ZK o
  have h4:=ZK n
  have:=ZR o
  have:=ZR n
  have hf:=Zgv (Zu l os ⟨[],[],[]⟩)
  have hz:ctW ⟨[],[],[]⟩=0:=rfl
  rw [Zz]
  split
  .simp only [ctE,Z0o,J2,Qj];omega
  .split
   .simp only [ctE,J2,JP];omega
   .split
    .simp only [ctE,Z0o,JP,Qj];omega
    .simp only [ctE,Z0o,J2,JP,Qj];omega
theorem ZlO:∀ (ks:List (KidOf Edit)),Z0o (Jd ks)<=Z0o ks
 | []=> Q8 _
 | k ::r=> by
  have h1:=Zsf k
  have h2:=ZlO r
  simp only [Jd,Z0o]
  omega
theorem Zsf:∀ (k:KidOf Edit),Z3m (Z2c k)<=Z3m k
 | ⟨a,e⟩=> by
  have:=Z49 e
  simp only [Z2c,Z3m]
  omega
theorem ZlN(list:Int):∀ (os:List (OpOf Edit)) (w:Wst),ctW (Zu list os w)<=ctW w+J2 os
 | [],w=> Q8 _
 | o ::r,w=> by
  have h1:=Zww list o w
  have h2:=ZlN list r (Z0r list o w)
  simp only [Zu,J2]
  omega
theorem Zww(list:Int):∀ (o:OpOf Edit) (w:Wst),ctW (Z0r list o w)<=ctW w+Z3l o
 | ⟨k,n,l,e⟩,w=> by
  have he:=Z49 e
  have h18:=Zco e
  have hl:=Z6w l
  have hc:=fun a b=> YY a b
  rw [Z0r]
  simp only [Z3l]
  split
  .have:=Zqn w n;omega
  .split
   .have:=YY w.gone (Zb l)
    simp only [ctW]
    grind
   .split
    .have:=YY w.brought (Zb l)
     simp only [ctW]
     grind
    .split
     .split
      .have:=Zqn w 1;omega
      .have hf:=Zgv w
       show J2 ((Zl w).out++[⟨3,0,[],Zz e⟩])+_+_<=_
       rw [Z4Q,hf]
       simp only [J2,Z3l,Zk,Qj,if_pos]
       omega
     .omega
end
def Y4(φ:Op->Int):List Op->Int
 | []=> 0
 | o ::r=> φ o+Y4 φ r
theorem Zk9(φ:Op->Int):∀ a b:List Op,Y4 φ (a++b)=Y4 φ a+Y4 φ b
 | [],b=> by simp [Y4]
 | o ::r,b=> by simp only [Qk,Y4,Zk9 φ r b];omega
def Zo8(φ:Op->Int):Prop:=∀ o n,ZQ o->1<=n->¬Z3 o<=n->φ (ZD o n)+φ (JX o n)=φ o
theorem Zk6{φ:Op->Int}(hφ:Zo8 φ){p:List Op}{n:Int}(hp:∀ o∈p,ZQ o)(hl:p.length≠0)(h1:1<=n):φ (ZD (p.getD 0 Op.nil) n)+Y4 φ (ZV p n)=Y4 φ p/\∀ o∈ZV p n,ZQ o:=by
 cases p with
 | nil=> grind
 | cons o r=>
  have ho:=hp o Q3
  unfold ZV
  simp only [Qp,QK,Xb]
  by_cases h:Z3 o<=n
  .rw [if_pos h]
   have e:ZD o n=o:=by unfold ZD;rw [if_pos h]
   rw [e]
   exact ⟨rfl,fun x hx=> hp x (Q0 _ hx)⟩
  .rw [if_neg h]
   refine ⟨by simp only [Y4];have:=hφ o n ho h1 h;omega,fun x hx=> ?_⟩
   rcases Q9.1 hx with rfl | hx
   .exact (Zbn ho h1 h).1
   grind
theorem Za6{φ ψ:Op->Int}(hφ:Zo8 φ)(hψ:Zo8 ψ)(a:Int):∀ (k:Nat) (p q:List Op) (out:List Piece),p.length+q.length<=k->(∀ o∈p,ZQ o)->(∀ o∈q,ZQ o)->(Y3 a 2 p q out).2.1=true->
  ∃ ps,(Y3 a 2 p q out).1=out++ps/\Y4 φ (Z2h ps)=Y4 φ p/\Y4 ψ (Z2g ps)=Y4 ψ q/\ps.length<=p.length+q.length:=by
 intro k
 induction k with
 | zero=>
  intro p q out hk hp hq h
  have e1:p=[]:=Q1 YL
  have e2:q=[]:=Q1 YL
  subst e1 e2
  rw [Y3,dif_neg (by simp [sgl]),dif_neg (by simp [sgl]),dif_pos (by simp)]
  exact ⟨[],by simp,rfl,rfl,by simp⟩
 | succ k ih=>
  intro p q out hk hp hq h
  rw [Y3] at h ⊢
  by_cases h1:sgl a p=true
  .rw [dif_pos h1] at h ⊢
   obtain ⟨g1,_⟩:=Z0B.1 h1
   cases p with
   | nil=> grind
   | cons o r=>
    simp only [Qp,QK,Xb] at h ⊢
    obtain ⟨ps,e,f1,f2,f3⟩:=ih r q _ (by grind) (fun x hx=> hp x (Q0 _ hx)) hq h
    refine ⟨⟨1,o,Op.nil⟩ ::ps,by grind,?_,?_,by grind⟩
    .show Y4 φ (o ::Z2h ps)=_
     simp only [Y4];omega
    .exact f2
  .rw [dif_neg h1] at h ⊢
   by_cases h2:sgl 2 q=true
   .rw [dif_pos h2] at h ⊢
    obtain ⟨g1,_⟩:=Z0B.1 h2
    cases q with
    | nil=> grind
    | cons o r=>
     simp only [Qp,QK,Xb] at h ⊢
     obtain ⟨ps,e,f1,f2,f3⟩:=ih p r _ (by grind) hp (fun x hx=> hq x (Q0 _ hx)) h
     refine ⟨⟨2,Op.nil,o⟩ ::ps,by grind,f1,?_,by grind⟩
     show Y4 ψ (o ::Z2g ps)=_
     simp only [Y4];omega
   .rw [dif_neg h2] at h ⊢
    by_cases h3:p.length=0\/q.length=0
    .rw [dif_pos h3] at h ⊢
     by_cases h4:decide (p.length=0)=decide (q.length=0)
     .rw [if_pos h4]
      have h5:p.length=0/\q.length=0:=by
       have:=decide_eq_decide.1 h4
       omega
      rw [Q1 h5.1,Q1 h5.2]
      exact ⟨[],by simp,rfl,rfl,by simp⟩
     grind
    .rw [dif_neg h3] at h ⊢
     have l1:p.length≠0:=YL
     have l2:q.length≠0:=YL
     have p1:=ZY (hp _ (Zf (l:=p) (i:=0) YL Op.nil))
     have p2:=ZY (hq _ (Zf (l:=q) (i:=0) YL Op.nil))
     generalize hn:min (Z3 (p.getD 0 Op.nil)) (Z3 (q.getD 0 Op.nil))=n at h ⊢
     obtain ⟨s1,s2⟩:=Zk6 hφ hp l1 (n:=n) YL
     obtain ⟨t1,t2⟩:=Zk6 hψ hq l2 (n:=n) YL
     have c1:=YD p n l1
     have c2:=YD q n l2
     have c3:Z3 (p.getD 0 Op.nil)<=n->(ZV p n).length < p.length:=fun h=> YC p _ l1 h
     have c4:Z3 (q.getD 0 Op.nil)<=n->(ZV q n).length < q.length:=fun h=> YC q _ l2 h
     obtain ⟨ps,e,f1,f2,f3⟩:=ih (ZV p n) (ZV q n) _ YL s2 t2 h
     refine ⟨⟨0,ZD (p.getD 0 Op.nil) n,ZD (q.getD 0 Op.nil) n⟩ ::ps,by grind,?_,?_,by grind⟩
     .show Y4 φ (ZD (p.getD 0 Op.nil) n ::Z2h ps)=_
      simp only [Y4];omega
     .show Y4 ψ (ZD (q.getD 0 Op.nil) n ::Z2g ps)=_
      simp only [Y4];omega
def φA(o:Op):Int:=if o.kind=2 then 0 else Z3 o
def φB(o:Op):Int:=if o.kind=1 then 0 else Z3 o
def φC(o:Op):Int:=Zk o.l+ctE o.e - 18
theorem Zeq:∀ l,Y4 φA l=Ju l
 | []=> rfl
 | o ::r=> by simp only [Y4,Ju,φA,Zeq r]
theorem Zep:∀ l,Y4 φB l=JE l
 | []=> rfl
 | o ::r=> by simp only [Y4,JE,φB,Zep r]
theorem Zii:∀ l,Y4 φC l+34*l.length=J2 l
 | []=> rfl
 | o ::r=> by
  have:=Zii r
  simp only [Y4,J2,φC,Z3O,Q7]
  omega
theorem Z9d(o:Op)(n:Int):(JX o n).kind=o.kind:=by unfold JX;split <;> rfl
theorem ZlX{o:Op}{n:Int}(ho:ZQ o)(h1:1<=n)(hn:¬Z3 o<=n):Z3 (JX o n)=Z3 o - n:=by
 obtain ⟨_,_,v3,_⟩:=Z5V (a:=1) ho h1 hn
 have hl:=Yr o
 rcases ho with ⟨k0,k1,k2,k3⟩ | ⟨k0,k1,k2,k3⟩ | ⟨k0,k1,k2⟩
 .unfold JX
  rw [if_pos k0,Yr]
  grind
 .unfold JX
  rw [V0,Yr]
  grind
 omega
theorem ZCa:Zo8 φA:=by
 intro o n ho h1 hn
 obtain ⟨_,_,v3,_⟩:=Z5V (a:=1) ho h1 hn
 have:=ZlX ho h1 hn
 unfold φA
 rw [Z0E,Z9d,v3,this]
 omega
theorem ZC9:Zo8 φB:=by
 intro o n ho h1 hn
 obtain ⟨_,_,v3,_⟩:=Z5V (a:=1) ho h1 hn
 have:=ZlX ho h1 hn
 unfold φB
 rw [Z0E,Z9d,v3,this]
 omega
theorem ZC8:Zo8 φC:=by
 intro o n ho h1 hn
 have hl:=Yr o
 unfold φC ZD JX
 rw [if_neg hn]
 rcases ho with ⟨k0,k1,k2,k3⟩ | ⟨k0,k1,k2,k3⟩ | ⟨k0,k1,k2⟩
 .rw [if_pos k0,if_pos k0]
  dsimp only
  rw [k3,k1,Z3k]
  simp [Zk]
 .rw [V0,V0]
  dsimp only
  have:=YY (o.l.take n.toNat) (o.l.drop n.toNat)
  rw [QH] at this
  rw [k3,Z3k]
  omega
 omega
theorem Zen{D list:Int}:∀ {l:List Tree},Yt D list l=true->Yt (-1) list l=true
 | [],_=> rfl
 | t ::r,h=> by
  simp only [Yt,Q2] at h ⊢
  exact ⟨JO _ _ _ V2 h.1,Zen h.2⟩
mutual
theorem Z01:∀ (e:Edit) (d m:Int),m < 0->Z9 e d=true->Z9 e m=true
 | .mk k o n w ks l os,d,m,hm,h=> by
  have h1:=ZcL ks
  have h2:=ZcJ l os
  rw [Z9] at h ⊢
  split at h
  .cases h
  .rename_i a
   rw [V0]
   split at h
   .cases h
   .rename_i b
    rw [if_neg b]
    split at h
    .rename_i c
     rw [if_pos c,Zgt hm]
     simp only [Q2] at h ⊢
     exact ⟨⟨JO _ _ _ V2 h.1.1,JO _ _ _ V2 h.1.2⟩,h.2⟩
    grind
theorem ZcL:∀ (ks:List (KidOf Edit)) (last d m:Int),m < 0->Zx last ks d=true->Zx last ks m=true
 | [],_,_,_,_,_=> rfl
 | k ::r,last,d,m,hm,h=> by
  simp only [Zx,Q2] at h ⊢
  exact ⟨Ziv k last d m hm h.1,ZcL r k.at_ d m hm h.2⟩
theorem Ziv:∀ (k:KidOf Edit) (last d m:Int),m < 0->J0 last k d=true->J0 last k m=true
 | ⟨a,e⟩,last,d,m,hm,h=> by
  simp only [J0,Q2] at h ⊢
  exact ⟨h.1,Z01 e d m hm h.2⟩
theorem ZcJ(list:Int):∀ (os:List (OpOf Edit)) (d m:Int),m < 0->Zw list os d=true->Zw list os m=true
 | [],_,_,_,_=> rfl
 | o ::r,d,m,hm,h=> by
  simp only [Zw,Q2] at h ⊢
  exact ⟨Zku list o d m hm h.1,ZcJ list r d m hm h.2⟩
theorem Zku(list:Int):∀ (o:OpOf Edit) (d m:Int),m < 0->Zc list o d=true->Zc list o m=true
 | ⟨k,n,l,e⟩,d,m,hm,h=> by
  have he:=Z01 e d m hm
  rw [Zc] at h ⊢
  split at h
  .grind
  .rename_i h0
   rw [if_neg h0]
   split at h
   .cases h
   .rename_i h1
    rw [if_neg h1]
    split at h
    .rename_i h2
     rw [if_pos h2,Zgt hm]
     simp only [Q2] at h ⊢
     exact ⟨⟨Zen h.1.1,h.1.2⟩,h.2⟩
    grind
end
structure Wk (e:Edit):Prop where
 r:Z9 e (-1)=true
 g:YI e
theorem Wk.of{e:Edit}{d:Int}(h:Z9 e d=true)(g:YI e):Wk e:=⟨Z01 e d _ V2 h,g⟩
theorem J1{n:Int}(h0:0<=n)(h9:n<=9):InR n:=V3
theorem Zhi{o n:Tree}(h1:Ze o (-1)=true)(h2:Ze n (-1)=true)(h3:o.kind≠10)(h4:n.kind≠10):Z9 (.mk 1 o n [] [] 0 []) (-1)=true:=by
 rw [Z9,if_neg V2,if_neg (by simp),if_pos rfl,Zgt V2,h1,h2]
 grind
theorem Zrr{w:List WEdit}{ks:List Kid}(h1:ZN (-1) w=true)(h2:Zx (-1) ks (-2)=true):Z9 (.mk 2 Tree.nil Tree.nil w ks 0 []) (-1)=true:=by
 rw [Z9,if_neg V2,if_neg (by simp [Yz,Tree.nil]),if_neg V2,h1,show (-1:Int) - 1= -2 from rfl,h2]
 try rfl
theorem Zhh{l:Int}{os:List Op}(hl:2<=l/\l<=9)(h:Zw l os (-2)=true)(h1:Z1i os 0 < 1048576)(h2:Z1h os 0 < 1048576):Z9 (.mk 3 Tree.nil Tree.nil [] [] l os) (-1)=true:=by
 rw [Z9,if_neg V2,if_neg (by simp [Yz,Tree.nil]),if_neg V2,show (-1:Int) - 1= -2 from rfl,h]
 simp only [ZN,Zx,QX,XL,Q2,decide_eq_true_eq]
 omega
theorem Zeb:∀ {l:List WEdit} {last:Int},asc WEdit.at_ last l->(∀ w∈l,w.at_<=65534/\w.mask≠0/\Y9 w.old w.mask=true/\Y9 w.new w.mask=true)->ZN last l=true
 | [],_,_,_=> rfl
 | a ::r,last,h,hw=> by
  obtain ⟨h1,h2,h3,h4⟩:=hw a Q3
  simp only [ZN,Q2,decide_eq_true_eq]
  exact ⟨⟨⟨⟨h.1,h1,h2⟩,h3⟩,h4⟩,Zeb h.2 fun w hw'=> hw w (Q0 _ hw')⟩
theorem Zf3{d:Int}:∀ {l:List Kid} {last:Int},asc KidOf.at_ last l->(∀ k∈l,k.at_<=65534/\k.e.kind≠0/\Z9 k.e d=true)->Zx last l d=true
 | [],_,_,_=> rfl
 | a ::r,last,h,hw=> by
  obtain ⟨h1,h2,h3⟩:=hw a Q3
  simp only [Zx,Z3F,Q2,decide_eq_true_eq]
  exact ⟨⟨⟨h.1,h1,h2⟩,h3⟩,Zf3 h.2 fun w hw'=> hw w (Q0 _ hw')⟩
theorem Z8J{list d:Int}:∀ {l:List Op},(∀ o∈l,Zc list o d=true)->Zw list l d=true
 | [],_=> rfl
 | a ::r,h=> by
  simp only [Zw,Q2]
  exact ⟨h a Q3,Z8J fun o ho=> h o (Q0 _ ho)⟩
theorem Z1s{D list:Int}:∀ {l:List Tree},(∀ t∈l,Ze (.mk list [] [t]) D=true)->Yt D list l=true
 | [],_=> rfl
 | t ::r,h=> by
  simp only [Yt,Q2]
  exact ⟨h t Q3,Z1s fun x hx=> h x (Q0 _ hx)⟩
theorem Zhg{list:Int}(hl:2<=list/\list<=9){t:Tree}(h1:Z0L list t=true)(h2:Ze t (-1)=true):Ze (.mk list [] [t]) (-1)=true:=
 Zf2 hl (by simp) fun k hk=> by grind
theorem Zpg{list n:Int}(h1:1<=n)(h2:n<=1048576)(d:Int):Zc list ⟨0,n,[],Edit.nil⟩ d=true:=by
 rw [Zc,if_pos rfl,Z34]
 grind
theorem Z4r{list k d:Int}{l:List Tree}(hk:k=1\/k=2)(h:Yt (dT d) list l=true)(hl:l≠[]):Zc list ⟨k,0,l,Edit.nil⟩ d=true:=by
 rw [Zc,V0,V0,V1,Z34,h]
 have:=List.length_pos_iff.2 hl
 grind
theorem Zph{list d:Int}{e:Edit}(h:Z9 e d=true)(h0:e.kind≠0)(hl:7 < list)(hw:list=8\/e.kind=2\/e.kind=1/\e.old.kind=1/\e.new.kind=1):Zc list ⟨3,0,[],e⟩ d=true:=by
 rw [Zc,if_neg V2,if_neg V2,if_neg V2,h]
 grind
def Wl(list:Int)(e:Edit):Prop:=list=8\/e.kind=2\/e.kind=1/\e.old.kind=1/\e.new.kind=1
theorem Z0K(t:Tree):(Z5 t).kind=t.kind:=Z2L t
theorem Zh0{w m:Int}(h:∀ i,i < 8->ZB m (i:Nat)=false->Z0 w i=0):Y9 w m=true:=by
 unfold Y9 mix of8
 rw [decide_eq_true_eq]
 have z:∀ i,i < 8->Je w 0 m i=0:=by
  intro i hi
  unfold Je
  split
  .exact ZBZ i
  .grind
 grind
theorem ZxD {a b:WEdit} (ra:Z28 a) (rb:Z28 b) (ha:a.at_<=65534/\a.mask≠0/\Y9 a.old a.mask=true/\Y9 a.new a.mask=true) (hb:Y9 b.old b.mask=true/\Y9 b.new b.mask=true)
  (hc:(Jh a b).2=true):((Jh a b).1.at_<=65534/\(Jh a b).1.mask≠0/\Y9 (Jh a b).1.old (Jh a b).1.mask=true/\Y9 (Jh a b).1.new (Jh a b).1.mask=true)/\Z28 (Jh a b).1:=by
 have hw:Z6T a b=true:=by
  unfold Jh at hc
  split at hc
  .assumption
  .cases hc
 have e:(Jh a b).1=⟨a.at_,orM a.mask b.mask,mix b.old a.old a.mask,mix a.new b.new b.mask⟩:=by unfold Jh;rw [if_pos hw]
 obtain ⟨m1,m2⟩:=ZuN ra.2.1 rb.2.1
 rw [e]
 dsimp only
 refine ⟨⟨ha.1,fun h=> ?_,Zh0 fun i hi hn=> ?_,Zh0 fun i hi hn=> ?_⟩,ra.1,m1,Zj1 _ _ _,Zj1 _ _ _⟩
 .refine ha.2.1 ?_
  have z:∀ i:Nat,ZB a.mask (i:Int)=false:=by
   intro i
   have:=m2 i
   rw [h] at this
   have z0:ZB 0 (i:Int)=false:=by unfold ZB;simp
   rw [z0] at this
   cases hn:ZB a.mask (i:Int) with
   | false=> rfl
   | true=> grind
  have h0:=z 0;have h1:=z 1;have h2:=z 2;have h3:=z 3;have h4:=z 4;have h5:=z 5;have h6:=z 6;have h7:=z 7
  have:=ra.2.1
  simp only [ZB,decide_eq_false_iff_not,X7] at h0 h1 h2 h3 h4 h5 h6 h7
  omega
 .rw [m2 i] at hn
  simp only [QE] at hn
  rw [ZmV hi,if_neg (by grind)]
  exact Z3r hb.1 hi hn.2
 .rw [m2 i] at hn
  simp only [QE] at hn
  rw [ZmV hi,if_neg (by grind)]
  exact Z3r ha.2.2.2 hi hn.1
def Zbz{β:Type}(φ:β->Nat):List β->Nat
 | []=> 0
 | a ::r=> φ a+Zbz φ r
theorem Z7p{β:Type}{at_:β->Int}{one:β->β->β × Bool}(φ:β->Nat):∀ (k:Nat) (p q L:List β),p.length+q.length<=k->(∀ a∈p,∀ b∈q,(one a b).2=true->φ (one a b).1<=φ a+φ b)->Zh at_ one p q=some L->Zbz φ L<=Zbz φ p+Zbz φ q:=by
 intro k
 induction k with
 | zero=>
  intro p q L hk _ h
  have e1:p=[]:=Q1 YL
  have e2:q=[]:=Q1 YL
  subst e1 e2
  rw [Zh] at h
  grind
 | succ k ih=>
  intro p q L hk ho h
  match p,q with
  | [],q=> rw [Zh] at h;grind
  | a ::p,[]=> rw [Zh] at h;grind
  | a ::p,b ::q=>
   simp only [Q7] at hk
   rw [Zh] at h
   split at h
   .obtain ⟨L',hL,rfl⟩:=Qc.1 h
    have:=ih p (b ::q) L' (by grind) (fun x hx y hy=> ho x (Q0 _ hx) y hy) hL
    simp only [Zbz] at this ⊢;omega
   .split at h
    .obtain ⟨L',hL,rfl⟩:=Qc.1 h
     have:=ih (a ::p) q L' (by grind) (fun x hx y hy=> ho x hx y (Q0 _ hy)) hL
     simp only [Zbz] at this ⊢;omega
    .split at h
     .rename_i hc
      obtain ⟨L',hL,rfl⟩:=Qc.1 h
      have:=ih p q L' YL (fun x hx y hy=> ho x (Q0 _ hx) y (Q0 _ hy)) hL
      have:=ho a Q3 b Q3 hc
      simp only [Zbz] at*;omega
     .cases h
theorem ZdO:∀ l:List Kid,Zbz Z3m l=Z0o l
 | []=> rfl
 | k ::r=> by simp only [Zbz,Z0o,ZdO r]
theorem Z2V{β:Type}:∀ l:List β,Zbz (fun _=> 1) l=l.length
 | []=> rfl
 | k ::r=> by simp only [Zbz,Q7,Z2V r];omega
theorem Zkp:∀ {l:List Kid},(∀ k∈l,InR k.at_/\YI k.e)->Z1l l
 | [],_=> trivial
 | ⟨a,e⟩ ::r,h=> ⟨h _ Q3,Zkp fun k hk=> h k (Q0 _ hk)⟩
theorem ZeZ:∀ {l:List Op},(∀ o∈l,YJ o)->Z0Q l
 | [],_=> trivial
 | o ::r,h=> ⟨h _ Q3,ZeZ fun k hk=> h k (Q0 _ hk)⟩
structure ComWk (K:Prop) (c:Edit × Bool) (p q:Edit):Prop where
 wk:c.2=true->Wk c.1
 ct:K->c.2=true->ctE c.1+18<=ctE p+ctE q
 kind:p.kind≠0->q.kind≠0->c.2=true->c.1.kind≠0
 wl:∀ list,7 < list->list<=9->p.kind≠0->q.kind≠0->c.2=true->Wl list p->Wl list q->Wl list c.1
theorem Z6N{e:Edit}{t:Tree}(h:(doB e t).2=true):∃ v,doE false e t=some v/\(doB e t).1=Z5 v:=by
 unfold doB at h ⊢
 cases hv:doE false e t with
 | none=> grind
 | some v=> exact ⟨v,rfl,rfl⟩
theorem Z3E{t:Tree}{d:Int}(h:Ze t d=true):Ze (Z5 t) d=true:=Z1X t d h
theorem Wk.turn{p:Edit}(h:Wk p):Wk (Zz (Zs p)):=⟨JG _ _ (JC _ _ h.r),Z0R _ _ (JC _ _ h.r) (Z7a _ h.g)⟩
theorem Zdm{list:Int}(hl:2<=list/\list<=9){e:Edit}{t u:Tree}{d:Int}(hr:Z9 e d=true)(hd:doE false e t=some u)(h7:7 < list)(hw:Wl list e)(h0:e.kind≠0)(ht:Ze t (-1)=true):Z0L list u=true:=by
 obtain ⟨j1,j2,_,_⟩:=Zbi hr hd
 unfold Z0L
 rw [V0]
 by_cases hl9:list=9
 .rw [if_pos hl9]
  refine decide_eq_true ?_
  rcases hw with q | q | q
  .omega
  .exact (j2 q).1
  .rw [j1 q.1];exact q.2.2
 .rw [if_neg hl9]
  exact decide_eq_true ((Z4P _ e d t u (Q8 _) hr ht hd).2 h0)
theorem Zgc{list:Int}(h7:7 < list){u:Tree}(h:Z0L list u=true):Z0L list (Z5 u)=true:=by
 unfold Z0L at h ⊢
 rw [V0] at h ⊢
 rw [Z0K]
 exact h
theorem ZpG {K:Prop} {f:Edit->Edit->Edit × Bool} {p q:Edit} (wp:Wk p) (wq:Wk q) (p3:p.kind=3) (hl:p.list=q.list)
  (ih:∀ a b,Z8 a+Z8 b < Z8 p+Z8 q->Wk a->Wk b->ComWk K (f a b) a b) {ps:List Piece} (e:(Y3 1 2 p.ops q.ops []).1=ps) (hb1:(Y3 1 2 p.ops q.ops []).2.1=true) {ops:List Op} (hc:JW f ps=some ops):
  (∀ o∈ops,Zc p.list o (-2)=true/\YJ o)/\Ju ops=Ju p.ops/\JE ops=JE q.ops/\(K->J2 ops<=J2 p.ops+J2 q.ops):=by
 have rp:=Zo wp.r
 have rq:=Zo wq.r
 have gp:=ZU wp.g
 have gq:=ZU wq.g
 have hli:=rp.list p3
 have op:=ZO wp.r
 have oq:=ZO wq.r
 have rpo:Zw p.list p.ops (-2)=true:=rp.ops
 have rqo:Zw p.list q.ops (-2)=true:=by rw [hl];exact rq.ops
 obtain ⟨i1,_⟩:=Z4q _ p.ops q.ops [] (Q8 _) op oq
 obtain ⟨ps0,e0,hps,_,_⟩:=i1 hb1
 obtain ⟨ps1,e1,sA,sB,hlen⟩:=Za6 ZCa ZC9 1 _ p.ops q.ops [] (Q8 _) op oq hb1
 obtain ⟨ps2,e2,sC,sD,_⟩:=Za6 ZC8 ZC8 1 _ p.ops q.ops [] (Q8 _) op oq hb1
 rw [e,Qq] at e0 e1 e2
 subst e0 e1 e2
 have side:∀ x∈ps,(x.of≠2->Zc p.list x.p (-2)=true/\YJ x.p)/\(x.of≠1->Zc p.list x.q (-2)=true/\YJ x.q):=by
  have one:∀ (l:List Op) (o:Op),(∀ o'∈l,Zc p.list o' (-2)=true)->Z0Q l->Part l o->ZQ o->Zc p.list o (-2)=true/\YJ o:=by
   intro l o hr hg ⟨o',m,k,e1,_,lt⟩ ho
   have R:=Y0 (hr o' m)
   have G:=Jr (JN hg m)
   obtain ⟨kk,nn,ll,ee⟩:=o
   have k:kk=o'.kind:=k
   have e1:ee=o'.e:=e1
   have lt:∀ t∈ll,t∈o'.l:=lt
   have gl:Yl ll:=Z9L fun t ht=> YZ G.2.2.1 (lt t ht)
   cases R with
   | keep n1 a1 a2=>
    have k:kk=0:=k
    have e1:ee=Edit.nil:=e1
    subst k e1
    rcases ho with h | h | h
    .have hl:ll=[]:=h.2.1
     subst hl
     have h3:1<=nn/\nn<=1048576:=h.2.2.1
     exact ⟨Zpg h3.1 h3.2 _,J1 V2 V2,V3,trivial,G.2.2.2⟩
    .have:=h.1;omega
    .have:=h.1;omega
   | gone l1 a1 a2=>
    have k:kk=1:=k
    have e1:ee=Edit.nil:=e1
    subst k e1
    rcases ho with h | h | h
    .have:=h.1;omega
    .have hn:nn=0:=h.2.1
     subst hn
     exact ⟨Z4r (.inl rfl) (Z1s fun t ht=> Z0P a1 t (lt t ht)) h.2.2.1,J1 V2 V2,J1 V2 V2,gl,G.2.2.2⟩
    .have:=h.1;omega
   | come l1 a1 a2=>
    have k:kk=2:=k
    have e1:ee=Edit.nil:=e1
    subst k e1
    rcases ho with h | h | h
    .have:=h.1;omega
    .have hn:nn=0:=h.2.1
     subst hn
     exact ⟨Z4r (.inr rfl) (Z1s fun t ht=> Z0P a1 t (lt t ht)) h.2.2.1,J1 V2 V2,J1 V2 V2,gl,G.2.2.2⟩
    .have:=h.1;omega
   | into e2 a1 a2 a3 a4=>
    have k:kk=3:=k
    have e1:ee=e2:=e1
    subst k e1
    rcases ho with h | h | h
    .have:=h.1;omega
    .have:=h.1;omega
    .have hn:nn=0:=h.2.1
     have hl:ll=[]:=h.2.2
     subst hn hl
     exact ⟨Zph a1 a2 a3 a4,J1 V2 V2,J1 V2 V2,trivial,G.2.2.2⟩
  intro x hx
  have X:=hps x hx
  exact ⟨fun h=> one p.ops x.p (fun o ho=> rightOs_mem rpo ho) gp.2.2.2.2 (X.pp h).1 (X.pp h).2,fun h=> one q.ops x.q (fun o ho=> rightOs_mem rqo ho) gq.2.2.2.2 (X.qq h).1 (X.qq h).2⟩
 have one:∀ x∈ps,(ZM f x).ok=true->((ZM f x).is=true->Zc p.list (ZM f x).op (-2)=true/\YJ (ZM f x).op)/\
   (φA (ZM f x).op*(if (ZM f x).is then 1 else 0)=(if x.of=2 then 0 else φA x.p))/\(φB (ZM f x).op*(if (ZM f x).is then 1 else 0)=(if x.of=1 then 0 else φB x.q))/\
   (K->(ZM f x).is=true->φC (ZM f x).op<=(if x.of=2 then 0 else φC x.p)+(if x.of=1 then 0 else φC x.q)):=by
  intro x hx hok
  have X:=hps x hx
  obtain ⟨s1,s2⟩:=side x hx
  have cnn:∀ o:Op,0<=φC o:=fun o=> by unfold φC;have:=Zco o.e;omega
  unfold ZM at hok ⊢
  by_cases c1:x.of=1\/(x.of=0/\x.q.kind=0)
  .rw [if_pos c1] at hok ⊢
   dsimp only
   have h2:x.of≠2:=YL
   rw [if_pos rfl,if_neg h2,if_neg h2]
   refine ⟨fun _=> s1 h2,YL,?_,fun _ _=> ?_⟩
   .rcases c1 with c | ⟨c,c'⟩
    .rw [if_pos c];unfold φB;rw [if_pos (X.one c)];try rfl
    .rw [V0]
     obtain ⟨b1,b2,b3⟩:=X.both c
     unfold φB
     rw [if_neg b1,V0,b3];omega
   .have:=cnn x.q
    split <;> omega
  rw [if_neg c1] at hok ⊢
  by_cases c2:x.of=2\/x.p.kind=0
  .rw [if_pos c2] at hok ⊢
   dsimp only
   have h2:x.of≠1:=YL
   rw [if_pos rfl,if_neg h2,if_neg h2]
   refine ⟨fun _=> s2 h2,?_,YL,fun _ _=> ?_⟩
   .by_cases c:x.of=2
    .rw [if_pos c];unfold φA;rw [if_pos (X.two c)];try rfl
    .rw [if_neg c]
     have c0:x.of=0:=by rcases X.of with h | h | h <;> omega
     obtain ⟨b1,b2,b3⟩:=X.both c0
     unfold φA
     rw [if_neg b2,V0,b3];omega
   .have:=cnn x.p
    split <;> omega
  rw [if_neg c2] at hok ⊢
  have c0:x.of=0:=by rcases X.of with h | h | h <;> omega
  obtain ⟨b1,b2,b3⟩:=X.both c0
  have h1:x.of≠1:=YL
  have h2:x.of≠2:=YL
  obtain ⟨u1,u2⟩:=s1 h2
  obtain ⟨v1,v2⟩:=s2 h1
  have ok1:=(X.pp h2).2
  have ok2:=(X.qq h1).2
  have kp:x.p.kind=2\/x.p.kind=3:=by rcases YQ ok1 with k | k | k | k <;> omega
  have kq:x.q.kind=1\/x.q.kind=3:=by rcases YQ ok2 with k | k | k | k <;> omega
  rw [if_neg h2,if_neg h2,if_neg h1,if_neg h1]
  by_cases c3:x.p.kind=2/\x.q.kind=1
  .rw [if_pos c3] at hok ⊢
   dsimp only
   refine ⟨fun h=> (by cases h),?_,?_,fun _ h=> by cases h⟩
   .unfold φA;rw [if_pos c3.1];try rfl
   .unfold φB;rw [if_pos c3.2];try rfl
  rw [if_neg c3] at hok ⊢
  have one3:∀ o:Op,o.kind=3->Zc p.list o (-2)=true->YJ o->(7 < p.list/\o.e.kind≠0/\Wl p.list o.e/\Wk o.e)/\o.l=[]:=by
   intro o k hr hg
   have R:=Y0 hr
   cases R with
   | keep | gone | come=> exact absurd k (by simp)
   | into e a1 a2 a3 a4=> exact ⟨⟨a3,a2,a4,⟨Z01 _ _ _ V2 a1,(Jr hg).2.2.2⟩⟩,rfl⟩
  have one12:∀ o:Op,(o.kind=1\/o.kind=2)->Z3 o=1->ZQ o->Zc p.list o (-2)=true->YJ o->∃ t,o.l=[t]/\Z0L p.list t=true/\Ze t (-1)=true/\rng t/\o.e=Edit.nil:=by
   intro o k h1 ho hr hg
   have hlen:=Z03 ho k
   have hl1:o.l.length=1:=YL
   obtain ⟨t,ht⟩:∃ t,o.l=[t]:=by
    match h:o.l,hl1 with
    | [t],_=> exact ⟨t,rfl⟩
   have R:=Y0 hr
   have gt:=(Jr hg).2.2.1
   rw [ht] at gt
   refine ⟨t,ht,?_⟩
   cases R with
   | keep=> exact absurd k (by simp)
   | into=> exact absurd k (by simp)
   | gone l a1 a2=> exact ⟨(Z0q hli a1 t (by have ht:l=[t]:=ht;rw [ht];simp)).1,(Z0q hli a1 t (by have ht:l=[t]:=ht;rw [ht];simp)).2,gt.1,rfl⟩
   | come l a1 a2=> exact ⟨(Z0q hli a1 t (by have ht:l=[t]:=ht;rw [ht];simp)).1,(Z0q hli a1 t (by have ht:l=[t]:=ht;rw [ht];simp)).2,gt.1,rfl⟩
  by_cases c4:x.p.kind=2
  .rw [if_pos c4] at hok ⊢
   have q3':x.q.kind=3:=YL
   have hl1:Z3 x.q=1:=JT q3'
   obtain ⟨t,ht,t1,t2,t3,t4⟩:=one12 x.p (.inr c4) YL ok1 u1 u2
   obtain ⟨⟨e1,e2,e3,e4⟩,e5⟩:=one3 x.q q3' v1 v2
   dsimp only at hok ⊢
   rw [ht,Qp] at hok ⊢
   obtain ⟨v,hv,ev⟩:=Z6N hok
   rw [if_pos rfl,ev]
   have kv:=Zdm hli e4.r hv e1 e3 e2 t2
   have rv:=(Z4P _ _ _ t v (Q8 _) e4.r t2 hv).1
   refine ⟨fun _=> ⟨Z4r (.inr rfl) ?_ (by simp),J1 V2 V2,J1 V2 V2,⟨J9 _ (Z5j false _ _ v e4.g t3 hv),trivial⟩,?_⟩,?_,?_,fun _ _=> ?_⟩
   .rw [Zgt V2]
    exact Z1s fun y hy=> by rw [Qg.1 hy];exact Zhg hli (Zgc e1 kv) (Z3E rv)
   .rw [<-t4];exact (Jr u2).2.2.2
   .unfold φA;rw [if_pos c4];try rfl
   .show (if (2:Int)=1 then (0:Int) else Z3 _)*1=(if x.q.kind=1 then 0 else Z3 x.q)
    rw [if_neg V2,V0,hl1];simp [Z3]
   .unfold φC
    dsimp only
    rw [ht,t4,e5]
    have:=Z1O false _ _ _ v e4.r hv
    have:=ZK v
    simp only [Zk,Z3k]
    omega
  rw [if_neg c4] at hok ⊢
  have p3':x.p.kind=3:=YL
  have hl0:Z3 x.p=1:=JT p3'
  obtain ⟨⟨e1,e2,e3,e4⟩,e5⟩:=one3 x.p p3' u1 u2
  by_cases c5:x.q.kind=1
  .rw [if_pos c5] at hok ⊢
   obtain ⟨t,ht,t1,t2,t3,t4⟩:=one12 x.q (.inl c5) YL ok2 v1 v2
   dsimp only at hok ⊢
   rw [ht,Qp] at hok ⊢
   obtain ⟨v,hv,ev⟩:=Z6N hok
   have wt:=e4.turn
   have kt:(Zz (Zs x.p.e)).kind=x.p.e.kind:=by rw [Z7n,Z1r]
   have wlt:Wl p.list (Zz (Zs x.p.e)):=by
    rcases e3 with h | h | h
    .exact .inl h
    .exact .inr (.inl YL)
    .refine .inr (.inr ⟨YL,?_,?_⟩)
     .rw [(Zaa (Zs x.p.e) (by rw [Z1r];exact h.1)).1,Z0K,Zh3];exact h.2.2
     .rw [(Zaa (Zs x.p.e) (by rw [Z1r];exact h.1)).2,Z0K,Zh4];exact h.2.1
   rw [if_pos rfl,ev]
   have kv:=Zdm hli wt.r hv e1 wlt YL t2
   have rv:=(Z4P _ _ _ t v (Q8 _) wt.r t2 hv).1
   refine ⟨fun _=> ⟨Z4r (.inl rfl) ?_ (by simp),J1 V2 V2,J1 V2 V2,⟨J9 _ (Z5j false _ _ v wt.g t3 hv),trivial⟩,?_⟩,?_,?_,fun _ _=> ?_⟩
   .rw [Zgt V2]
    exact Z1s fun y hy=> by rw [Qg.1 hy];exact Zhg hli (Zgc e1 kv) (Z3E rv)
   .rw [<-t4];exact (Jr v2).2.2.2
   .show (if (1:Int)=2 then (0:Int) else Z3 _)*1=(if x.p.kind=2 then 0 else Z3 x.p)
    rw [if_neg V2,V0,hl0];simp [Z3]
   .unfold φB;rw [if_pos c5];try rfl
   .unfold φC
    dsimp only
    rw [ht,t4,e5]
    have:=Z1O false _ _ _ v wt.r hv
    have:=ZK v
    have:=Z49 (Zs x.p.e)
    rw [Z5F] at this
    simp only [Zk,Z3k]
    omega
  rw [if_neg c5] at hok ⊢
  have q3':x.q.kind=3:=YL
  have hl1:Z3 x.q=1:=JT q3'
  obtain ⟨⟨f1,f2,f3,f4⟩,f5⟩:=one3 x.q q3' v1 v2
  dsimp only at hok ⊢
  rw [if_pos rfl]
  obtain ⟨o1,m1,_,k1,_⟩:=(X.pp h2).1
  obtain ⟨o2,m2,_,k2,_⟩:=(X.qq h1).1
  have:=Z05 m1
  have:=Z05 m2
  have H:=ih x.p.e x.q.e (by rw [k1,k2];omega) e4 f4
  refine ⟨fun _=> ⟨Zph (Z01 _ _ _ V2 (H.wk hok).r) (H.kind e2 f2 hok) e1 (H.wl p.list e1 hli.2 e2 f2 hok e3 f3),J1 V2 V2,J1 V2 V2,trivial,(H.wk hok).g⟩,?_,?_,fun hK _=> ?_⟩
  .show (if (3:Int)=2 then (0:Int) else Z3 _)*1=(if x.p.kind=2 then 0 else Z3 x.p)
   rw [if_neg V2,V0,hl0];simp [Z3]
  .show (if (3:Int)=1 then (0:Int) else Z3 _)*1=(if x.q.kind=1 then 0 else Z3 x.q)
   rw [if_neg V2,V0,hl1];simp [Z3]
  .unfold φC
   dsimp only
   rw [e5,f5]
   have:=H.ct hK hok
   simp only [Zk]
   omega
 have all:∀ (ps:List Piece) (ops:List Op),(∀ x∈ps,(ZM f x).ok=true->((ZM f x).is=true->Zc p.list (ZM f x).op (-2)=true/\YJ (ZM f x).op)/\
   (φA (ZM f x).op*(if (ZM f x).is then 1 else 0)=(if x.of=2 then 0 else φA x.p))/\(φB (ZM f x).op*(if (ZM f x).is then 1 else 0)=(if x.of=1 then 0 else φB x.q))/\
   (K->(ZM f x).is=true->φC (ZM f x).op<=(if x.of=2 then 0 else φC x.p)+(if x.of=1 then 0 else φC x.q)))->JW f ps=some ops->
   (∀ o∈ops,Zc p.list o (-2)=true/\YJ o)/\Y4 φA ops=Y4 φA (Z2h ps)/\Y4 φB ops=Y4 φB (Z2g ps)/\(K->Y4 φC ops<=Y4 φC (Z2h ps)+Y4 φC (Z2g ps))/\ops.length<=ps.length:=by
  intro ps
  induction ps with
  | nil=> intro ops _ h;cases h;exact ⟨fun o ho=> (by cases ho),rfl,rfl,fun _=> (by simp [Z2h,Z2g,Y4]),by simp⟩
  | cons x r ihp=>
   intro ops hx h
   rw [JW] at h
   split at h
   .rename_i hok
    obtain ⟨l,hl',rfl⟩:=Qc.1 h
    obtain ⟨j1,j2,j3,j4,j5⟩:=ihp l (fun y hy=> hx y (Q0 _ hy)) hl'
    obtain ⟨k1,k2,k3,k4⟩:=hx x Q3 hok
    have cnn:∀ o:Op,0<=φC o:=fun o=> by unfold φC;have:=Zco o.e;omega
    have c1:=cnn x.p
    have c2:=cnn x.q
    have hsP:∀ φ:Op->Int,Y4 φ (Z2h (x ::r))=(if x.of=2 then 0 else φ x.p)+Y4 φ (Z2h r):=fun φ=> by
     simp only [Z2h]
     split <;> simp [Y4]
    have hsQ:∀ φ:Op->Int,Y4 φ (Z2g (x ::r))=(if x.of=1 then 0 else φ x.q)+Y4 φ (Z2g r):=fun φ=> by
     simp only [Z2g]
     split <;> simp [Y4]
    rw [hsP,hsQ,hsP,hsQ]
    by_cases his:(ZM f x).is=true
    .rw [if_pos his] at k2 k3
     rw [if_pos his]
     have k4:=fun hK=> k4 hK his
     simp only [Qk,Qq,Y4,Q7]
     refine ⟨fun o ho=> ?_,YL,YL,fun hK=> (by have:=k4 hK;have:=j4 hK;omega),YL⟩
     rcases Q9.1 ho with rfl | ho
     .exact k1 his
     .exact j1 o ho
    .rw [if_neg his] at k2 k3
     rw [if_neg his]
     simp only [Qq,Q7]
     refine ⟨j1,YL,YL,fun hK=> ?_,YL⟩
     have:=j4 hK
     have:0<=(if x.of=2 then 0 else φC x.p)+(if x.of=1 then 0 else φC x.q):=by split <;> split <;> omega
     omega
   .cases h
 obtain ⟨j1,j2,j3,j4,j5⟩:=all ps ops one hc
 rw [Zeq] at j2
 rw [Zep] at j3
 rw [sA,Zeq] at j2
 rw [sB,Zep] at j3
 have x1:=Zii ops
 have x2:=Zii p.ops
 have x3:=Zii q.ops
 exact ⟨j1,j2,j3,fun hK=> (by have:=j4 hK;omega)⟩
theorem Zoo {K:Prop} {f:Edit->Edit->Edit × Bool} {p q:Edit} (wp:Wk p) (wq:Wk q)
  (ih:∀ a b,Z8 a+Z8 b < Z8 p+Z8 q->Wk a->Wk b->ComWk K (f a b) a b):ComWk K (Ji f p q) p q:=by
 have rp:=Zo wp.r
 have rq:=Zo wq.r
 have gp:=ZU wp.g
 have gq:=ZU wq.g
 have cp:=Zco p
 have cq:=Zco q
 have ap:=Jz p
 have aq:=Jz q
 unfold Ji
 by_cases p0:p.kind=0
 .rw [if_pos p0]
  exact ⟨fun _=> wq,fun _ _=> by dsimp only;omega,fun h=> absurd p0 h,fun _ _ _ h=> absurd p0 h⟩
 rw [if_neg p0]
 by_cases q0:q.kind=0
 .rw [if_pos q0]
  exact ⟨fun _=> wp,fun _ _=> by dsimp only;omega,fun _ h=> absurd q0 h,fun _ _ _ _ h=> absurd q0 h⟩
 rw [if_neg q0]
 by_cases p1:p.kind=1
 .rw [if_pos p1]
  obtain ⟨r1,r2,r3,r4⟩:=rp.rep p1
  have key:(doB q p.new).2=true->(Ze (doB q p.new).1 (-1)=true/\(doB q p.new).1.kind≠10)/\rng (doB q p.new).1/\Zm (doB q p.new).1+18<=Zm p.new+ctE q/\∀ list,7 < list->list<=9->p.new.kind=1->list=9->Wl list q->(doB q p.new).1.kind=1:=by
   intro hb
   obtain ⟨v,hv,e⟩:=Z6N hb
   rw [e]
   obtain ⟨x1,x2⟩:=Z4P _ q _ p.new v (Q8 _) wq.r r2 hv
   refine ⟨⟨Z3E x1,by rw [Z0K];exact x2 q0⟩,J9 _ (Z5j false q _ v wq.g gp.2.1 hv),?_,fun list h7 h9 hk h9' hw=> ?_⟩
   .have:=Z1O false q _ _ v wq.r hv
    have:=ZK v
    omega
   .rw [Z0K]
    obtain ⟨j1,j2,_,_⟩:=Zbi wq.r hv
    rcases hw with h | h | h
    .omega
    .exact (j2 h).1
    .rw [j1 h.1];exact h.2.2
  refine ⟨fun hb=> ?_,fun _ hb=> ?_,fun _ _ _=> (show (1:Int)≠0 by decide),fun list h7 h9 _ _ hb hp hq=> ?_⟩
  .obtain ⟨⟨k1,k2⟩,k3,_,_⟩:=key hb
   exact ⟨Zhi r1 k1 r3 k2,J1 V2 V2,gp.1,k3,by simp,J1 V2 V2,trivial,trivial⟩
  .obtain ⟨_,_,k4,_⟩:=key hb
   rw [Zqo]
   omega
  .by_cases h8:list=8
   .exact .inl h8
   .have hp':p.kind=1/\p.old.kind=1/\p.new.kind=1:=by
     rcases hp with h | h | h
     .exact absurd h h8
     .omega
     .exact h
    exact .inr (.inr ⟨rfl,hp'.2.1,(key hb).2.2.2 list h7 h9 hp'.2.2 YL hq⟩)
 rw [if_neg p1]
 by_cases q1:q.kind=1
 .rw [if_pos q1]
  obtain ⟨r1,r2,r3,r4⟩:=rq.rep q1
  have wt:=wp.turn
  have kt:(Zz (Zs p)).kind=p.kind:=by rw [Z7n,Z1r]
  have key:(doB (Zz (Zs p)) q.old).2=true->(Ze (doB (Zz (Zs p)) q.old).1 (-1)=true/\(doB (Zz (Zs p)) q.old).1.kind≠10)/\rng (doB (Zz (Zs p)) q.old).1/\Zm (doB (Zz (Zs p)) q.old).1+18<=Zm q.old+ctE p/\(p.kind=2->(doB (Zz (Zs p)) q.old).1.kind=1):=by
   intro hb
   obtain ⟨v,hv,e⟩:=Z6N hb
   rw [e]
   obtain ⟨x1,x2⟩:=Z4P _ _ _ q.old v (Q8 _) wt.r r1 hv
   refine ⟨⟨Z3E x1,by rw [Z0K];exact x2 YL⟩,J9 _ (Z5j false _ _ v wt.g gq.1 hv),?_,fun hk=> ?_⟩
   .have:=Z1O false _ _ _ v wt.r hv
    have:=ZK v
    have:=Z49 (Zs p)
    rw [Z5F] at this
    omega
   .rw [Z0K]
    exact ((Zbi wt.r hv).2.1 YL).1
  refine ⟨fun hb=> ?_,fun _ hb=> ?_,fun _ _ _=> (show (1:Int)≠0 by decide),fun list h7 h9 _ _ hb hp hq=> ?_⟩
  .obtain ⟨⟨k1,k2⟩,k3,_,_⟩:=key hb
   exact ⟨Zhi k1 r2 k2 r4,J1 V2 V2,k3,gq.2.1,by simp,J1 V2 V2,trivial,trivial⟩
  .obtain ⟨_,_,k4,_⟩:=key hb
   rw [Zqo]
   omega
  .by_cases h8:list=8
   .exact .inl h8
   .have hq':q.kind=1/\q.old.kind=1/\q.new.kind=1:=by
     rcases hq with h | h | h
     .exact absurd h h8
     .omega
     .exact h
    refine .inr (.inr ⟨rfl,(key hb).2.2.2 ?_,hq'.2.2⟩)
    rcases hp with h | h | h
    .exact absurd h h8
    .exact h
    .exact absurd h.1 p1
 rw [if_neg q1]
 by_cases hd:p.kind≠q.kind\/p.list≠q.list
 .rw [if_pos hd]
  exact ⟨fun h=> (by cases h),fun _ h=> (by cases h),fun _ _ h=> (by cases h),fun _ _ _ _ _ h=> (by cases h)⟩
 rw [if_neg hd]
 by_cases p2:p.kind=2
 .rw [if_pos p2]
  have q2:q.kind=2:=YL
  have awp:=JB rp.words
  have awq:=JB rq.words
  have akp:=Zq rp.kids
  have akq:=Zq rq.kids
  have hwat:∀ a b:WEdit,a.at_=b.at_->(Jh a b).2=true->(Jh a b).1.at_=a.at_:=fun a b _ h=> ZA9 a b h
  have hkat:∀ a b:Kid,a.at_=b.at_->(JM f a b).2=true->(JM f a b).1.at_=a.at_:=fun a b _ _=> rfl
  have hk:∀ a∈p.kids,∀ b∈q.kids,ComWk K (f a.e b.e) a.e b.e:=by
   intro a ha b hb
   have:=Y6 ha
   have:=Y6 hb
   exact ih a.e b.e YL (.of (akp a ha).2 (YK gp.2.2.2.1 ha).2) (.of (akq b hb).2 (YK gq.2.2.2.1 hb).2)
  cases hL:Zh WEdit.at_ Jh p.words q.words with
  | none=> exact ⟨fun h=> (by cases h),fun _ h=> (by cases h),fun _ _ h=> (by cases h),fun _ _ _ _ _ h=> (by cases h)⟩
  | some L=>
   rw [if_pos (show (some L).isSome=true from rfl)]
   cases hM:Zh KidOf.at_ (JM f) p.kids q.kids with
   | none=> exact ⟨fun h=> (by cases h),fun _ h=> (by cases h),fun _ _ h=> (by cases h),fun _ _ _ _ _ h=> (by cases h)⟩
   | some M=>
    have S:=(ZfW hwat _ p.words q.words (-1) (Q8 _) (Z0O rp.words) (Z0O rq.words)).2 L hL
    have T:=(ZfW hkat _ p.kids q.kids (-1) (Q8 _) (Z20 rp.kids) (Z20 rq.kids)).2 M hM
    have hw:∀ w∈L,(w.at_<=65534/\w.mask≠0/\Y9 w.old w.mask=true/\Y9 w.new w.mask=true)/\Z28 w:=by
     intro w hw
     rcases S.of w hw with ⟨h,_⟩ | ⟨h,_⟩ | ⟨a,ha,b,hb,_,hc,rfl⟩
     .exact ⟨(awp w h).2,gp.2.2.1 w h⟩
     .exact ⟨(awq w h).2,gq.2.2.1 w h⟩
     .exact ZxD (gp.2.2.1 a ha) (gq.2.2.1 b hb) (awp a ha).2 (awq b hb).2.2.2 hc
    have hm:∀ k∈M,(k.at_<=65534/\k.e.kind≠0/\Z9 k.e (-2)=true)/\InR k.at_/\YI k.e:=by
     intro k hk'
     rcases T.of k hk' with ⟨h,_⟩ | ⟨h,_⟩ | ⟨a,ha,b,hb,_,hc,rfl⟩
     .exact ⟨⟨(akp k h).1.2.1,(akp k h).1.2.2,Z01 _ _ _ V2 (akp k h).2⟩,YK gp.2.2.2.1 h⟩
     .exact ⟨⟨(akq k h).1.2.1,(akq k h).1.2.2,Z01 _ _ _ V2 (akq k h).2⟩,YK gq.2.2.2.1 h⟩
     .have H:=hk a ha b hb
      have hc:(f a.e b.e).2=true:=hc
      exact ⟨⟨(akp a ha).1.2.1,H.kind (akp a ha).1.2.2 (akq b hb).1.2.2 hc,Z01 _ _ _ V2 (H.wk hc).r⟩,(YK gp.2.2.2.1 ha).1,(H.wk hc).g⟩
    refine ⟨fun _=> ⟨Zrr (Zeb S.asc_ fun w h=> (hw w h).1) (Zf3 T.asc_ fun k h=> (hm k h).1),?_⟩,fun hK _=> ?_,fun _ _ _=> (show (2:Int)≠0 by decide),fun _ _ _ _ _ _ _ _=> .inr (.inl rfl)⟩
    .exact ⟨J1 V2 V2,J8,J8,fun w h=> (hw w h).2,J1 V2 V2,Zkp fun k h=> (hm k h).2,trivial⟩
    .have c1:=Z7p (fun _=> 1) _ _ _ _ (Q8 _) (fun a _ b _ _=> by omega) hL
     have c2:=Z7p Z3m _ _ _ _ (Q8 _) (fun a ha b hb hc=> by
      have H:=hk a ha b hb
      have hc:(f a.e b.e).2=true:=hc
      have:=H.ct hK hc
      rw [Z23,Z23,Z23]
      show 65600+ctE (f a.e b.e).1<=_
      omega) hM
     rw [Z2V,Z2V,Z2V] at c1
     rw [ZdO,ZdO,ZdO] at c2
     have mo:=ZR p.old;have mn:=ZR p.new;have mo':=ZR q.old;have mn':=ZR q.new
     simp only [ctE,J2,ofO,Xg,JP]
     omega
 .rw [if_neg p2]
  have p3:p.kind=3:=by have:=rp.kind;omega
  have q3:q.kind=3:=YL
  have hl:p.list=q.list:=YL
  have hli:=rp.list p3
  have op:=ZO wp.r
  have oq:=ZO wq.r
  unfold Z0y
  by_cases hb1:(Y3 1 2 p.ops q.ops []).2.1=true
  .rw [if_pos hb1]
   cases hc:JW f (Y3 1 2 p.ops q.ops []).1 with
   | none=> exact ⟨fun h=> (by cases h),fun _ h=> (by cases h),fun _ _ h=> (by cases h),fun _ _ _ _ _ h=> (by cases h)⟩
   | some ops=>
    obtain ⟨j1,j2,j3,j4⟩:=ZpG wp wq p3 hl ih rfl hb1 hc
    have ook:∀ o∈ops,0<=Z3 o:=fun o ho=> YR (Z0F (j1 o ho).1)
    have lA:=Z0w ops 0 ook V2 V2
    have lB:=Z0v ops 0 ook V2 V2
    have mA:=Z0w p.ops 0 (fun o ho=> YR (op o ho)) V2 V2
    have mB:=Z0v q.ops 0 (fun o ho=> YR (oq o ho)) V2 V2
    have t1:=rp.len.1
    have t2:=rq.len.2
    refine ⟨fun _=> ⟨?_,?_⟩,fun hK _=> ?_,fun _ _ _=> (show (3:Int)≠0 by decide),fun list h7 h9 _ _ _ hp' hq'=> ?_⟩
    .refine Zhh hli (Z8J fun o ho=> (j1 o ho).1) ?_ ?_
     .rw [show ofO (some ops)=ops from rfl];omega
     .rw [show ofO (some ops)=ops from rfl];omega
    .refine ⟨J1 V2 V2,J8,J8,by simp,?_,trivial,ZeZ fun o ho=> (j1 o ho).2⟩
     unfold InR;omega
    .have j4:=j4 hK;have mo:=ZR p.old;have mn:=ZR p.new;have mo':=ZR q.old;have mn':=ZR q.new
     simp only [ctE,Z0o,ofO,Xg,JP,Qj]
     omega
    .rcases hp' with h | h | h
     .exact .inl h
     .omega
     .omega
  .rw [if_neg hb1]
   exact ⟨fun h=> (by cases h),fun _ h=> (by cases h),fun _ _ h=> (by cases h),fun _ _ _ _ _ h=> (by cases h)⟩
theorem ZEg:∀ (n:Nat) (p q:Edit),Z8 p+Z8 q<=n->Wk p->Wk q->ComWk True (Z86 n p q) p q:=by
 intro n
 induction n with
 | zero=> intro p q h;obtain ⟨k,o,nw,w,ks,l,os⟩:=p;simp only [Z8] at h;omega
 | succ n ih=>
  intro p q hn wp wq
  exact Zoo wp wq fun a b hab wa wb=> ih a b YL wa wb
theorem Zhw:∀ (k:Nat) (P Q:List AUnit) (out:List APair),P.length+Q.length<=k->∀ x∈(ZX P Q out).1,x∈out\/
  (x.of=0/\(x.p∈P/\x.p.alone=false)/\x.q∈Q/\x.q.alone=false)\/(x.of=1/\x.p∈P)\/(x.of=2/\x.q∈Q):=by
 intro k
 induction k with
 | zero=>
  intro P Q out hk x hx
  have e1:P=[]:=Q1 YL
  have e2:Q=[]:=Q1 YL
  subst e1 e2
  rw [ZX,dif_neg (by simp [alo]),dif_neg (by simp [alo]),dif_pos (by simp),if_pos rfl] at hx
  exact .inl hx
 | succ k ih=>
  intro P Q out hk x hx
  have lift:∀ (P' Q':List AUnit),(∀ u∈P',u∈P)->(∀ u∈Q',u∈Q)->((x.of=0/\(x.p∈P'/\x.p.alone=false)/\x.q∈Q'/\x.q.alone=false)\/(x.of=1/\x.p∈P')\/(x.of=2/\x.q∈Q'))->
    ((x.of=0/\(x.p∈P/\x.p.alone=false)/\x.q∈Q/\x.q.alone=false)\/(x.of=1/\x.p∈P)\/(x.of=2/\x.q∈Q)):=by
   rintro P' Q' hP hQ (⟨h,⟨a,b⟩,c,d⟩ | ⟨h,a⟩ | ⟨h,a⟩)
   .grind
   .grind
   .grind
  rw [ZX] at hx
  by_cases h1:alo P=true
  .rw [dif_pos h1] at hx
   cases P with
   | nil=> cases h1
   | cons a P'=>
    simp only [Q7] at hk
    rcases ih P' Q _ YL x hx with h | h
    .grind
    .exact .inr (lift P' Q (fun u hu=> Q0 _ hu) (fun u hu=> hu) h)
  .rw [dif_neg h1] at hx
   by_cases h2:alo Q=true
   .rw [dif_pos h2] at hx
    cases Q with
    | nil=> cases h2
    | cons a Q'=>
     simp only [Q7] at hk
     rcases ih P Q' _ YL x hx with h | h
     .grind
     .exact .inr (lift P Q' (fun u hu=> hu) (fun u hu=> Q0 _ hu) h)
   .rw [dif_neg h2] at hx
    by_cases h3:P.length=0\/Q.length=0
    .grind
    .rw [dif_neg h3] at hx
     cases P with
     | nil=> simp at h3
     | cons a P'=>
      cases Q with
      | nil=> simp at h3
      | cons b Q'=>
       simp only [Q7] at hk
       rcases ih P' Q' _ YL x hx with h | h
       .rcases Qi.1 h with h | h
        .exact .inl h
        .rw [Qg.1 h]
         rw [Z4V] at h1 h2
         grind
       .exact .inr (lift P' Q' (fun u hu=> Q0 _ hu) (fun u hu=> Q0 _ hu) h)
structure UnitOf (o:Op) (a:Int) (u:AUnit):Prop where
 kind:u.kind=o.kind
 t:u.t=Tree.nil\/u.t∈o.l
 e:u.e=Edit.nil\/u.e=o.e
 into:u.kind=3->u.e=o.e
 alone:u.kind=1\/u.kind=2->u.alone=decide (u.kind=a)
theorem Z4d{a:Int}:∀ {l:List Op} {i:Int} {u:AUnit},(∀ o∈l,ZQ o)->u∈ZE i a l->∃ o∈l,UnitOf o a u
 | o ::r,i,u,hl,h=> by
  rw [ZE] at h
  rcases Qi.1 h with h | h
  .simp only [Yn,Qi,X4] at h
   refine ⟨o,Q3,?_⟩
   rcases h with h | ⟨t,ht,rfl⟩ | h
   .split at h
    .rename_i hk
     rw [Xu h]
     exact ⟨hk.symm,.inl rfl,.inl rfl,fun h=> (by cases h),fun h=> (by rcases h with h | h <;> cases h)⟩
    .cases h
   .refine ⟨rfl,.inr ht,.inl rfl,fun h3=> ?_,fun _=> rfl⟩
    have h3:o.kind=3:=h3
    rcases hl o Q3 with k | k | k
    .omega
    .omega
    .rw [k.2.2] at ht;cases ht
   .split at h
    .rename_i hk
     rw [Qg.1 h]
     exact ⟨hk.symm,.inl rfl,.inr rfl,fun _=> rfl,fun h=> (by rcases h with h | h <;> cases h)⟩
    .cases h
  .obtain ⟨o',ho',h'⟩:=Z4d (fun x hx=> hl x (Q0 _ hx)) h
   exact ⟨o',Q0 _ ho',h'⟩
theorem ZuP:∀ (k:Nat) (a b:List Int),a.length+b.length<=k->∀ n∈Ye a b,n∈a\/n∈b:=by
 intro k
 induction k with
 | zero=>
  intro a b hk n hn
  have e1:a=[]:=Q1 YL
  have e2:b=[]:=Q1 YL
  subst e1 e2
  rw [Ye] at hn;cases hn
 | succ k ih=>
  intro a b hk n hn
  match a,b with
  | [],b=> rw [Ye] at hn;exact .inr hn
  | x ::a,[]=> rw [Z3b] at hn;exact .inl hn
  | x ::a,y ::b=>
   simp only [Q7] at hk
   rw [Ye] at hn
   split at hn
   .rcases Q9.1 hn with rfl | hn
    .exact .inl Q3
    .rcases ih a (y ::b) (by simp only [Q7];omega) n hn with h | h
     .exact .inl (Q0 _ h)
     .exact .inr h
   .split at hn
    .rcases Q9.1 hn with rfl | hn
     .exact .inr Q3
     .rcases ih (x ::a) b (by simp only [Q7];omega) n hn with h | h
      .exact .inl h
      .exact .inr (Q0 _ h)
    .rcases Q9.1 hn with rfl | hn
     .exact .inl Q3
     .rcases ih a b YL n hn with h | h
      .exact .inl (Q0 _ h)
      .exact .inr (Q0 _ h)
theorem Z6D:∀ (l:List Kid) (n:Int),(JA l n=Edit.nil/\n∉l.map KidOf.at_)\/∃ k∈l,JA l n=k.e
 | [],n=> .inl ⟨rfl,by simp⟩
 | a ::r,n=> by
  rw [idxK_cons']
  split
  .exact .inr ⟨a,Q3,rfl⟩
  .rename_i h
   rcases Z6D r n with ⟨h1,h2⟩ | ⟨k,hk,h1⟩
   .refine .inl ⟨h1,?_⟩
    simp only [Qo,Q9,not_or]
    exact ⟨fun e=> h e.symm,h2⟩
   .exact .inr ⟨k,Q0 _ hk,h1⟩
where
 idxK_cons' (a:Kid) (r:List Kid) (n:Int):JA (a ::r) n=if a.at_=n then a.e else JA r n:=by
  unfold JA
  by_cases h:a.at_=n
  .rw [if_pos h,List.find?_cons_of_pos];rfl;simpa using h
  .rw [if_neg h,List.find?_cons_of_neg];simpa using h
theorem Z95:Z8 Edit.nil=3:=rfl
theorem Z1P(e:Edit):3<=Z8 e:=by
 obtain ⟨k,o,n,w,ks,l,os⟩:=e
 have:=ZR o
 have:=ZR n
 simp only [Z8];omega
theorem Z4v:Z9 Edit.nil 1=true:=rfl
theorem Zlu{p q:Edit}{d d':Int}(hp:Z9 p d=true)(hq:Z9 q d'=true){n:Int}(hn:n∈Ye (p.kids.map KidOf.at_) (q.kids.map KidOf.at_)):
  Z8 (JA p.kids n)+Z8 (JA q.kids n) < Z8 p+Z8 q/\(∃ d,Z9 (JA p.kids n) d=true)/\∃ d,Z9 (JA q.kids n) d=true:=by
 have rp:=Zo hp
 have rq:=Zo hq
 have m1:=Z1P p
 have m2:=Z1P q
 rcases Z6D p.kids n with ⟨e1,h1⟩ | ⟨k1,hk1,e1⟩
 .rcases Z6D q.kids n with ⟨e2,h2⟩ | ⟨k2,hk2,e2⟩
  .rcases ZuP _ _ _ (Q8 _) n hn with h | h
   .exact absurd h h1
   .exact absurd h h2
  .have:=Y6 hk2
   rw [e1,e2,Z95]
   exact ⟨YL,⟨1,Z4v⟩,_,(Zq rq.kids k2 hk2).2⟩
 .have:=Y6 hk1
  rcases Z6D q.kids n with ⟨e2,h2⟩ | ⟨k2,hk2,e2⟩
  .rw [e1,e2,Z95]
   exact ⟨YL,⟨_,(Zq rp.kids k1 hk1).2⟩,1,Z4v⟩
  .have:=Y6 hk2
   rw [e1,e2]
   exact ⟨YL,⟨_,(Zq rp.kids k1 hk1).2⟩,_,(Zq rq.kids k2 hk2).2⟩
theorem Zfd{f g:Edit->Edit->Edit × Bool}{p q:List Kid}:∀ {l:List Int},(∀ n∈l,f (JA p n) (JA q n)=g (JA p n) (JA q n))->Jb f p q l=Jb g p q l
 | [],_=> rfl
 | n ::r,h=> by rw [Jb,Jb,h n Q3,Zfd fun m hm=> h m (Q0 _ hm)]
theorem Z6U{p:Edit}{d:Int}(hp:Z9 p d=true){o:Op}(ho:o∈p.ops){a:Int}{u:AUnit}(hu:UnitOf o a u):Z8 u.e < Z8 p/\∃ d,Z9 u.e d=true:=by
 have:=Z05 ho
 have h3:=Z1P o.e
 rcases hu.e with e | e
 .rw [e,Z95];exact ⟨YL,1,Z4v⟩
 .rw [e]
  refine ⟨this,?_⟩
  have R:=Y0 (rightOs_mem (Zo hp).ops ho)
  cases R with
  | keep | gone | come=> exact ⟨1,Z4v⟩
  | into e h=> grind
theorem Zmx{f g:Edit->Edit->Edit × Bool}{p q:AUnit}(h:f p.e q.e=g p.e q.e):JJ f p q=JJ g p q:=by unfold JJ;rw [h]
theorem Zfc{f g:Edit->Edit->Edit × Bool}:∀ {m:List APair},(∀ x∈m,x.of≠1->x.of≠2->f x.p.e x.q.e=g x.p.e x.q.e)->Yb f m=Yb g m
 | [],_=> rfl
 | x ::r,h=> by
  rw [JH,JH,Zfc fun y hy=> h y (Q0 _ hy)]
  have:rp f x=rp g x:=by
   unfold rp
   split
   .try rfl
   .split
    .try rfl
    .exact Zmx (h x Q3 (by assumption) (by assumption))
  rw [this]
theorem Z8f {f g:Edit->Edit->Edit × Bool} {p q:Edit} {d d':Int} (hp:Z9 p d=true) (hq:Z9 q d'=true)
  (h:∀ a b,Z8 a+Z8 b < Z8 p+Z8 q->(∃ d,Z9 a d=true)->(∃ d,Z9 b d=true)->f a b=g a b):Ja f p q=Ja g p q:=by
 have hk:Jb f p.kids q.kids (Ye (p.kids.map KidOf.at_) (q.kids.map KidOf.at_))=Jb g p.kids q.kids (Ye (p.kids.map KidOf.at_) (q.kids.map KidOf.at_)):=
  Zfd fun n hn=> by obtain ⟨a,b,c⟩:=Zlu hp hq hn;exact h _ _ a b c
 have ho:Z3G f p.ops q.ops=Z3G g p.ops q.ops:=by
  unfold Z3G
  split
  .refine Zfc fun x hx h1 h2=> ?_
   rcases Zhw _ _ _ _ (Q8 _) x hx with m | ⟨_,⟨m1,_⟩,m2,_⟩ | ⟨m,_⟩ | ⟨m,_⟩
   .cases m
   .obtain ⟨o1,ho1,u1⟩:=Z4d (ZO hp) m1
    obtain ⟨o2,ho2,u2⟩:=Z4d (ZO hq) m2
    obtain ⟨a1,b1⟩:=Z6U hp ho1 u1
    obtain ⟨a2,b2⟩:=Z6U hq ho2 u2
    exact h _ _ YL b1 b2
   .exact absurd m h1
   .exact absurd m h2
  .try rfl
 unfold Ja
 rw [hk,ho]
theorem Zrt:∀ (n m:Nat) (p q:Edit) (d d':Int),Z9 p d=true->Z9 q d'=true->Z8 p+Z8 q<=n->n<=m->JY m p q=JY n p q:=by
 intro n
 induction n with
 | zero=> intro m p q d d' _ _ h;obtain ⟨k,o,nw,w,ks,l,os⟩:=p;simp only [Z8] at h;omega
 | succ n ih=>
  intro m p q d d' hp hq h hm
  obtain ⟨m,rfl⟩:∃ k,m=k+1:=⟨m - 1,YL⟩
  show Ja (JY m) p q=Ja (JY n) p q
  exact Z8f hp hq fun a b hab ⟨d1,h1⟩ ⟨d2,h2⟩=> ih m a b d1 d2 h1 h2 YL YL
theorem Zru{p q:Edit}{d d':Int}(hp:Z9 p d=true)(hq:Z9 q d'=true):YX p q=Ja YX p q:=by
 have m1:=Z1P p
 unfold YX
 obtain ⟨n,hn⟩:∃ n,Z8 p+Z8 q=n+1:=⟨Z8 p+Z8 q - 1,YL⟩
 rw [hn]
 show Ja (JY n) p q=_
 exact Z8f hp hq fun a b hab ⟨d1,h1⟩ ⟨d2,h2⟩=> Zrt _ _ a b d1 d2 h1 h2 (Q8 _) YL
end Go.AM.YtfapacabjkhepaaGreat
