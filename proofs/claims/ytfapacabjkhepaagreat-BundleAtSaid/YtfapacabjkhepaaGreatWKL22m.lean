import Derived.Test.YtfapacabjkhepaaGreatWKD22
import Derived.Test.YtfapacabjkhepaaGreatWKD20
import Derived.Test.YtfapacabjkhepaaGreatWKL07
set_option linter.unusedSimpArgs false
set_option linter.unusedVariables false
namespace Go.AM
structure Wst where
 out:List Op
 gone:List Tree
 brought:List Tree
def Z0M(out:List Op)(g b:List Tree):List Op:=
 out++((if g.length=0 then [] else [⟨1,0,g,Edit.nil⟩])++(if b.length=0 then [] else [⟨2,0,b,Edit.nil⟩]))
def Jx:List Op->Int->List Op
 | [],n=> [⟨0,n,[],Edit.nil⟩]
 | [o],n=> if o.kind=0 then [⟨o.kind,o.n+n,o.l,o.e⟩] else [o,⟨0,n,[],Edit.nil⟩]
 | o ::p ::r,n=> o ::Jx (p ::r) n
def Zl(w:Wst):Wst:=⟨Z0M w.out w.gone w.brought,[],[]⟩
def Yd(w:Wst)(n:Int):Wst:=⟨Jx (Zl w).out n,[],[]⟩
mutual
def Zz:Edit->Edit
 | .mk k o n w ks l os=>
  if k=1 then .mk k (Z5 o) (Z5 n) [] [] l []
  else if k=2 then .mk k Tree.nil Tree.nil w (Jd ks) l []
  else if k=3 then .mk k Tree.nil Tree.nil [] [] l (Zl (Zu l os ⟨[],[],[]⟩)).out
  else .mk k Tree.nil Tree.nil [] [] l []
def Jd:List (KidOf Edit)->List (KidOf Edit)
 | []=> []
 | k ::r=> Z2c k ::Jd r
def Z2c:KidOf Edit->KidOf Edit
 | ⟨a,e⟩=> ⟨a,Zz e⟩
def Zu(list:Int):List (OpOf Edit)->Wst->Wst
 | [],s=> s
 | o ::r,s=> Zu list r (Z0r list o s)
def Z0r(list:Int):OpOf Edit->Wst->Wst
 | ⟨k,n,l,e⟩,s=>
  if k=0 then Yd s n
  else if k=1 then ⟨s.out,s.gone++Zb l,s.brought⟩
  else if k=2 then ⟨s.out,s.gone,s.brought++Zb l⟩
  else if k=3 then (if Zds list (Zz e)=true then Yd s 1 else ⟨(Zl s).out++[⟨3,0,[],Zz e⟩],[],[]⟩)
  else s
end
theorem Zab(e:Edit):Zz e=if e.kind=1 then .mk e.kind (Z5 e.old) (Z5 e.new) [] [] e.list []
  else if e.kind=2 then .mk e.kind Tree.nil Tree.nil e.words (Jd e.kids) e.list []
  else if e.kind=3 then .mk e.kind Tree.nil Tree.nil [] [] e.list (Zl (Zu e.list e.ops ⟨[],[],[]⟩)).out
  else .mk e.kind Tree.nil Tree.nil [] [] e.list []:=by cases e;rfl
theorem ZbX(k:Kid):Z2c k=⟨k.at_,Zz k.e⟩:=by cases k;rfl
theorem Jc(list:Int)(o:Op)(s:Wst):Z0r list o s=if o.kind=0 then Yd s o.n
  else if o.kind=1 then ⟨s.out,s.gone++Zb o.l,s.brought⟩
  else if o.kind=2 then ⟨s.out,s.gone,s.brought++Zb o.l⟩
  else if o.kind=3 then (if Zds list (Zz o.e)=true then Yd s 1 else ⟨(Zl s).out++[⟨3,0,[],Zz o.e⟩],[],[]⟩)
  else s:=by cases o;rfl
theorem Zhy(list:Int):∀ (l:List Op) (s:Wst),Zu list l s=Zu list (l.drop (YU l).toNat) ⟨s.out,s.gone++Z1c 1 l,s.brought++Z1c 2 l⟩
 | [],s=> by simp [Zu,Z1c,YU]
 | o ::r,s=> by
  by_cases h:o.kind=1\/o.kind=2
  .have hg:0<=YU r:=gapN_nonneg r
   rw [YU,if_pos h,Z1c,Z1c,if_pos h,if_pos h,show (1+YU r).toNat=(YU r).toNat+1 by omega,QK,Zu,Jc,Zhy list r]
   grind
  .rw [YU,if_neg h,Z1c,Z1c,if_neg h,if_neg h]
   simp
where
 gapN_nonneg:∀ (l:List Op),0<=YU l
  | []=> by simp [YU]
  | o ::r=> by
   have:=gapN_nonneg r
   rw [YU];omega
end Go.AM
namespace Go.AM
def Y7{α:Type}(z:α)(l:List α)(i:Nat)(x:α):List α:=(l++List.replicate (i+1 - l.length) z).set i x
def wsD(tw:List Int):List WEdit->List Int->Option (List Int)
 | [],out=> some out
 | w ::r,out=> if mix 0 (tw.getD w.at_.toNat 0) w.mask=w.old then wsD tw r (Y7 0 out w.at_.toNat (mix (tw.getD w.at_.toNat 0) w.new w.mask)) else none
noncomputable def Z22(l rest:List Tree):Bool:=decide (l.length<=rest.length) && eqX (Zb l) (Zb (rest.take l.length))
def Z2z(r:Option (List Tree × List Tree)):Option (List Tree):=r.bind fun x=> if x.2.length=0 then some x.1 else none
def nrD(r:Bool)(t:Tree):Tree:=if r then Z5 t else t
mutual
noncomputable def doE(r:Bool):Edit->Tree->Option Tree
 | .mk k o n w ks l os,t=>
  (if k=0 then some t
  else if k=1 then (if YM (Z5 o) (Z5 t)=true then some n else none)
  else if k=2 then (if t.kind=1 then (wsD t.words w t.words).bind fun a=> (Z11 r t.kids ks t.kids).map fun b=> .mk 1 a b else none)
  else if k=3 then (if t.kind=l then (Z2z (J5 r os t.kids [])).map fun b=> .mk l [] b else none)
  else none).map (nrD r)
noncomputable def Z11(r:Bool)(tk:List Tree):List (KidOf Edit)->List Tree->Option (List Tree)
 | [],out=> some out
 | k ::s,out=> (Z1p r tk k).bind fun u=> Z11 r tk s (Y7 Tree.nil out k.at_.toNat u)
noncomputable def Z1p(r:Bool)(tk:List Tree):KidOf Edit->Option Tree
 | ⟨a,e⟩=> doE r e (tk.getD a.toNat Tree.nil)
noncomputable def J5(r:Bool):List (OpOf Edit)->List Tree->List Tree->Option (List Tree × List Tree)
 | [],rest,out=> some (out,rest)
 | o ::s,rest,out=> (Z9c r o rest out).bind fun x=> J5 r s x.2 x.1
noncomputable def Z9c(r:Bool):OpOf Edit->List Tree->List Tree->Option (List Tree × List Tree)
 | ⟨k,n,l,e⟩,rest,out=>
  if k=0 then (if n.toNat<=rest.length then some (out++rest.take n.toNat,rest.drop n.toNat) else none)
  else if k=1 then (if Z22 l rest=true then some (out,rest.drop l.length) else none)
  else if k=2 then some (out++l,rest)
  else if rest.length=0 then none else (doE r e (rest.getD 0 Tree.nil)).map fun u=> (out++[u],rest.drop 1)
end
theorem Z1K(r:Bool)(e:Edit)(t:Tree):doE r e t=(if e.kind=0 then some t
  else if e.kind=1 then (if YM (Z5 e.old) (Z5 t)=true then some e.new else none)
  else if e.kind=2 then (if t.kind=1 then (wsD t.words e.words t.words).bind fun a=> (Z11 r t.kids e.kids t.kids).map fun b=> .mk 1 a b else none)
  else if e.kind=3 then (if t.kind=e.list then (Z2z (J5 r e.ops t.kids [])).map fun b=> .mk e.list [] b else none)
  else none).map (nrD r):=by cases e;rfl
noncomputable def ZmC(r:Bool)(e:Edit)(t:Tree):Option Tree:=
 if e.kind=0 then some t
 else if e.kind=1 then (if YM (Z5 e.old) (Z5 t)=true then some e.new else none)
 else if e.kind=2 then (if t.kind=1 then (wsD t.words e.words t.words).bind fun a=> (Z11 r t.kids e.kids t.kids).map fun b=> .mk 1 a b else none)
 else if e.kind=3 then (if t.kind=e.list then (Z2z (J5 r e.ops t.kids [])).map fun b=> .mk e.list [] b else none)
 else none
theorem Ze3(r:Bool)(e:Edit)(t:Tree):doE r e t=(ZmC r e t).map (nrD r):=Z1K r e t
theorem Zgq(r:Bool)(tk:List Tree)(k:Kid):Z1p r tk k=doE r k.e (tk.getD k.at_.toNat Tree.nil):=by cases k;rfl
theorem Z5E(r:Bool)(o:Op)(rest out:List Tree):Z9c r o rest out=if o.kind=0 then (if o.n.toNat<=rest.length then some (out++rest.take o.n.toNat,rest.drop o.n.toNat) else none)
  else if o.kind=1 then (if Z22 o.l rest=true then some (out,rest.drop o.l.length) else none)
  else if o.kind=2 then some (out++o.l,rest)
  else if rest.length=0 then none else (doE r o.e (rest.getD 0 Tree.nil)).map fun u=> (out++[u],rest.drop 1):=by cases o;rfl
noncomputable def Z2X(r:Bool)(e:Edit)(t:Tree):Option Tree:=
 if t.kind=1 then (wsD t.words e.words t.words).bind fun a=> (Z11 r t.kids e.kids t.kids).map fun b=> .mk 1 a b else none
noncomputable def Z0u(r:Bool)(e:Edit)(t:Tree):Option (List Tree × List Tree):=if t.kind=e.list then J5 r e.ops t.kids [] else none
def Yc(o:Option Tree):Tree:=o.getD Tree.nil
def Zj4(e:Edit)(o:Option (List Tree × List Tree)):Tree:=match o with | some x=> .mk e.list [] x.1 | none=> Tree.nil
noncomputable def ZdD(e:Edit)(t:Tree):Tree:=
 if e.kind=0 then t else if e.kind=1 then e.new else if e.kind=2 then Yc (Z2X false e t) else if e.kind=3 then Zj4 e (Z0u false e t) else Tree.nil
theorem Z0c(o:Option Tree):o.map (nrD false)=o:=by cases o <;> rfl
theorem ZbS{e:Edit}{t u:Tree}(h:doE false e t=some u):ZdD e t=u:=by
 rw [Z1K,Z0c] at h
 unfold ZdD
 split
 .grind
 .rename_i h0;rw [if_neg h0] at h
  split
  .grind
  .rename_i h1;rw [if_neg h1] at h
   split
   .rename_i h2;rw [if_pos h2] at h
    unfold Yc Z2X
    rw [h];try rfl
   .rename_i h2;rw [if_neg h2] at h
    split
    .rename_i h3;rw [if_pos h3] at h
     unfold Zj4 Z0u
     split at h
     .rename_i h4;rw [if_pos h4]
      revert h
      cases J5 false e.ops t.kids [] with
      | none=> intro h;cases h
      | some x=>
       intro h
       simp only [Z2z,Qm] at h
       grind
     .cases h
    grind
end Go.AM
namespace Go.AM
def Z1g(m:Nat):Nat->Nat
 | 0=> 0
 | i+1=> Z1g m i+if m / 2 ^ i % 2=1 then 255*2 ^ (8*i) else 0
def ZgG:Nat->Nat->Nat
 | 0,_=> 0
 | k+1,m=> (if m % 2=1 then 255 else 0)+256*ZgG k (m / 2)
def Zd0:Nat->Nat->Nat->Nat
 | 0,_,_=> 0
 | k+1,a,m=> (if m % 2=1 then a % 256 else 0)+256*Zd0 k (a / 256) (m / 2)
def Zlc:Nat->Nat->Nat->Nat->Nat
 | 0,_,_,_=> 0
 | k+1,a,b,m=> (if m % 2=1 then b % 256 else a % 256)+256*Zlc k (a / 256) (b / 256) (m / 2)
theorem Zsu(x y u v:Nat)(hu:u < 256)(hv:v < 256):(u+256*x) &&& (v+256*y)=(u &&& v)+256*(x &&& y):=by
 have h:u &&& v < 256:=Nat.and_lt_two_pow (n:=8) u hv
 apply Nat.eq_of_testBit_eq
 intro j
 rw [XE u,XE v,XE (u &&& v),Nat.testBit_and]
 rw [show (256:Nat)=2 ^ 8 from rfl,X9 _ hu,X9 _ hv,X9 _ h]
 grind
theorem ZuM(x y u v:Nat)(hu:u < 256)(hv:v < 256):(u+256*x) ||| (v+256*y)=(u ||| v)+256*(x ||| y):=by
 have h:u ||| v < 256:=Nat.or_lt_two_pow (n:=8) hu hv
 apply Nat.eq_of_testBit_eq
 intro j
 rw [XE u,XE v,XE (u ||| v),Nat.testBit_or]
 rw [show (256:Nat)=2 ^ 8 from rfl,X9 _ hu,X9 _ hv,X9 _ h]
 grind
theorem ZgC:∀ (k a m:Nat),a &&& ZgG k m=Zd0 k a m
 | 0,a,m=> by simp [ZgG,Zd0]
 | k+1,a,m=> by
  have e:a=a % 256+256*(a / 256):=YL
  simp only [ZgG,Zd0]
  rw [<-ZgC k (a / 256) (m / 2)]
  have h:a &&& ((if m % 2=1 then 255 else 0)+256*ZgG k (m / 2))=(a % 256+256*(a / 256)) &&& ((if m % 2=1 then 255 else 0)+256*ZgG k (m / 2)):=by rw [<-e]
  rw [h,Zsu _ _ _ _ YL (by grind)]
  congr 1
  split
  .have:=Nat.and_two_pow_sub_one_eq_mod (a % 256) 8
   grind
  .simp
theorem Zpf:∀ (k a b m n:Nat),(∀ i < k,m / 2 ^ i % 2+n / 2 ^ i % 2=1)->Zd0 k a n ||| Zd0 k b m=Zlc k a b m
 | 0,a,b,m,n,_=> by simp [Zd0,Zlc]
 | k+1,a,b,m,n,h=> by
  simp only [Zd0,Zlc]
  have h0:=h 0 YL
  simp only [Nat.pow_zero,Nat.div_one] at h0
  rw [ZuM _ _ _ _ (by grind) (by grind),Zpf k (a / 256) (b / 256) (m / 2) (n / 2) (fun i hi=> by
   have:=h (i+1) YL
   rw [Xk,Xk]
   grind)]
  grind
theorem Zod:∀ m:Fin 256,Z1g m.1 8=ZgG 8 m.1:=by decide+kernel
theorem ZsH:∀ m:Fin 256,2 ^ 64 - 1 - ZgG 8 m.1=ZgG 8 (255 - m.1):=by decide+kernel
theorem ZwJ:∀ m:Fin 256,∀ i:Fin 8,m.1 / 2 ^ i.1 % 2+(255 - m.1) / 2 ^ i.1 % 2=1:=by decide+kernel
theorem ZxF:∀ m:Fin 256,ZgG 8 m.1 < 2 ^ 64:=by decide+kernel
theorem ZuZ(a b m:Nat)(hm:m < 256):(a &&& (2 ^ 64 - 1 - Z1g m 8)) ||| (b &&& Z1g m 8)=Zlc 8 a b m:=by
 have h1:=Zod ⟨m,hm⟩
 have h2:=ZsH ⟨m,hm⟩
 simp only at h1 h2
 rw [h1,h2,ZgC,ZgC]
 exact Zpf 8 a b m (255 - m) (fun i hi=> ZwJ ⟨m,hm⟩ ⟨i,hi⟩)
def ofK:Nat->(Nat->Nat)->Nat
 | 0,_=> 0
 | k+1,f=> f 0+256*ofK k (fun i=> f (i+1))
theorem Zhx:∀ (k:Nat) {f g:Nat->Nat},(∀ i,f i=g i)->ofK k f=ofK k g
 | 0,_,_,_=> rfl
 | k+1,f,g,h=> by simp only [ofK,h 0,Zhx k (fun i=> h (i+1))]
theorem Zpk:∀ (k a b m:Nat),Zlc k a b m=ofK k (fun i=> if m / 2 ^ i % 2=1 then b / 256 ^ i % 256 else a / 256 ^ i % 256)
 | 0,_,_,_=> rfl
 | k+1,a,b,m=> by
  simp only [Zlc,ofK,Nat.pow_zero,Nat.div_one]
  rw [Zpk k,Zhx k (g:=fun i=> if m / 2 ^ (i+1) % 2=1 then b / 256 ^ (i+1) % 256 else a / 256 ^ (i+1) % 256) (fun i=> ?_)]
  rw [Xk,Xk,Xk,Nat.pow_succ',Nat.pow_succ']
theorem Zv0(a b m:Nat):((Zlc 8 a b m:Nat):Int)=mix a b m:=by
 have nm:∀ i:Nat,ZB (m:Int) (i:Int)=decide (m / 2 ^ i % 2=1):=by
  intro i
  unfold ZB
  rw [decide_eq_decide,X7]
  have:((m:Int) / 2 ^ i % 2:Int)=((m / 2 ^ i % 2:Nat):Int):=by rw [Int.natCast_emod,Int.natCast_ediv,Int.natCast_pow];try rfl
  rw [this];omega
 have by_:∀ (x i:Nat),Z0 (x:Int) i=((x / 256 ^ i % 256:Nat):Int):=by
  intro x i
  unfold Z0
  rw [Int.natCast_emod,Int.natCast_ediv,Int.natCast_pow]
  try rfl
 have mx:∀ i:Nat,Je (a:Int) (b:Int) (m:Int) i=((if m / 2 ^ i % 2=1 then b / 256 ^ i % 256 else a / 256 ^ i % 256:Nat):Int):=by
  intro i
  unfold Je
  rw [nm,by_,by_]
  by_cases h:m / 2 ^ i % 2=1
  .grind
  .grind
 rw [Zpk]
 generalize hf:(fun i=> if m / 2 ^ i % 2=1 then b / 256 ^ i % 256 else a / 256 ^ i % 256)=f
 have hx:∀ i,Je (a:Int) (b:Int) (m:Int) i=(f i:Int):=by intro i;rw [mx,<-hf]
 have e:ofK 8 f=f 0+256*(f 1+256*(f 2+256*(f 3+256*(f 4+256*(f 5+256*(f 6+256*(f 7+256*0))))))):=rfl
 rw [e]
 simp only [mix,of8,hx]
 omega
def Z1M(list:Int)(e:Edit):Bool:=
 if (2<=list/\list<=7)\/e.kind=0 then false else if list=8\/e.kind=2 then true else decide (e.kind=1/\e.old.kind=1/\e.new.kind=1)
end Go.AM
namespace Go.AM
def Zsv(a b:Int):Int:=IntKind.wrap .u8 (BitVec.ofInt (IntKind.bits .u8) a &&& BitVec.ofInt (IntKind.bits .u8) b).toNat
def orM(a b:Int):Int:=IntKind.wrap .u8 (BitVec.ofInt (IntKind.bits .u8) a ||| BitVec.ofInt (IntKind.bits .u8) b).toNat
def Z6T(p q:WEdit):Bool:=decide (mix 0 p.new (Zsv p.mask q.mask)=mix 0 q.old (Zsv p.mask q.mask))
def Jh(p q:WEdit):WEdit × Bool:=
 if Z6T p q then (⟨p.at_,orM p.mask q.mask,mix q.old p.old p.mask,mix p.new q.new q.mask⟩,true) else (⟨0,0,0,0⟩,false)
def Zh{α:Type}(at_:α->Int)(one:α->α->α × Bool):List α->List α->Option (List α)
 | [],q=> some q
 | a ::p,[]=> some (a ::p)
 | a ::p,b ::q=>
  if at_ a < at_ b then (Zh at_ one p (b ::q)).map (a ::·)
  else if at_ b < at_ a then (Zh at_ one (a ::p) q).map (b ::·)
  else if (one a b).2 then (Zh at_ one p q).map ((one a b).1 ::·) else none
termination_by p q=> p.length+q.length
def ofO{α:Type}(o:Option (List α)):List α:=o.getD []
structure PRes where
 op:Op
 is:Bool
 ok:Bool
noncomputable def doB(e:Edit)(t:Tree):Tree × Bool:=(Yc ((doE false e t).map Z5),(doE false e t).isSome)
noncomputable def ZnK(a b:List Tree):Bool:=eqX (Zb a) (Zb b)
noncomputable def ZM(f:Edit->Edit->Edit × Bool)(x:Piece):PRes:=
 if x.of=1\/(x.of=0/\x.q.kind=0) then ⟨x.p,true,true⟩
 else if x.of=2\/x.p.kind=0 then ⟨x.q,true,true⟩
 else if x.p.kind=2/\x.q.kind=1 then ⟨Op.nil,false,ZnK x.p.l (x.q.l.take x.p.l.length)⟩
 else if x.p.kind=2 then ⟨⟨2,0,[(doB x.q.e (x.p.l.getD 0 Tree.nil)).1],Edit.nil⟩,true,(doB x.q.e (x.p.l.getD 0 Tree.nil)).2⟩
 else if x.q.kind=1 then ⟨⟨1,0,[(doB (Zz (Zs x.p.e)) (x.q.l.getD 0 Tree.nil)).1],Edit.nil⟩,true,(doB (Zz (Zs x.p.e)) (x.q.l.getD 0 Tree.nil)).2⟩
 else ⟨⟨3,0,[],(f x.p.e x.q.e).1⟩,true,(f x.p.e x.q.e).2⟩
noncomputable def JW(f:Edit->Edit->Edit × Bool):List Piece->Option (List Op)
 | []=> some []
 | x ::r=> if (ZM f x).ok then (JW f r).map ((if (ZM f x).is then [(ZM f x).op] else [])++·) else none
noncomputable def Z0y(f:Edit->Edit->Edit × Bool)(p q:List Op):Option (List Op):=
 if (Y3 1 2 p q []).2.1 then JW f (Y3 1 2 p q []).1 else none
def JM(f:Edit->Edit->Edit × Bool)(a b:Kid):Kid × Bool:=(⟨a.at_,(f a.e b.e).1⟩,(f a.e b.e).2)
noncomputable def Ji(f:Edit->Edit->Edit × Bool)(p q:Edit):Edit × Bool:=
 if p.kind=0 then (q,true)
 else if q.kind=0 then (p,true)
 else if p.kind=1 then (.mk 1 p.old (doB q p.new).1 [] [] 0 [],(doB q p.new).2)
 else if q.kind=1 then (.mk 1 (doB (Zz (Zs p)) q.old).1 q.new [] [] 0 [],(doB (Zz (Zs p)) q.old).2)
 else if p.kind≠q.kind\/p.list≠q.list then (Edit.nil,false)
 else if p.kind=2 then
  if (Zh WEdit.at_ Jh p.words q.words).isSome then
   (.mk 2 Tree.nil Tree.nil (ofO (Zh WEdit.at_ Jh p.words q.words)) (ofO (Zh KidOf.at_ (JM f) p.kids q.kids)) 0 [],(Zh KidOf.at_ (JM f) p.kids q.kids).isSome)
  else (Edit.nil,false)
 else (.mk 3 Tree.nil Tree.nil [] [] p.list (ofO (Z0y f p.ops q.ops)),(Z0y f p.ops q.ops).isSome)
noncomputable def Z86:Nat->Edit->Edit->Edit × Bool
 | 0,_,_=> (Edit.nil,false)
 | n+1,p,q=> Ji (Z86 n) p q
noncomputable def Yy(p q:Edit):Edit × Bool:=Z86 (Z8 p+Z8 q) p q
def Z1D(l:List WEdit)(at_:Int):Option WEdit:=l.find? (fun w=> decide (w.at_=at_))
def JA(l:List Kid)(at_:Int):Edit:=((l.find? (fun k=> decide (k.at_=at_))).map KidOf.e).getD Edit.nil
def Ye:List Int->List Int->List Int
 | [],b=> b
 | a ::p,[]=> a ::p
 | a ::p,b ::q=> if a < b then a ::Ye p (b ::q) else if b < a then b ::Ye (a ::p) q else a ::Ye p q
termination_by p q=> p.length+q.length
def Jw(p q:List WEdit):List Int->Option (List WEdit)
 | []=> some []
 | n ::r=> match Z1D p n,Z1D q n with
  | some x,none=> (Jw p q r).map (x ::·)
  | none,some y=> (Jw p q r).map (y ::·)
  | some x,some y=> if (Jh x y).2 then (Jw p q r).map ((Jh x y).1 ::·) else none
  | none,none=> (Jw p q r).map ((⟨0,0,0,0⟩:WEdit) ::·)
noncomputable def Jb(f:Edit->Edit->Edit × Bool)(p q:List Kid):List Int->Option (List Kid)
 | []=> some []
 | n ::r=> if (f (JA p n) (JA q n)).2 then (Jb f p q r).map (⟨n,(f (JA p n) (JA q n)).1⟩ ::·) else none
noncomputable def JJ(f:Edit->Edit->Edit × Bool)(p q:AUnit):List Op × Bool:=
 if q.kind=0 then ([opU p],true)
 else if p.kind=0 then ([opU q],true)
 else if p.kind=2/\q.kind=1 then ([],YM (Z5 p.t) (Z5 q.t))
 else if p.kind=2 then ([⟨2,0,[Yc (doE true q.e p.t)],Edit.nil⟩],(doE true q.e p.t).isSome)
 else if q.kind=1 then ([⟨1,0,[Yc (doE true (Zz (Zs p.e)) q.t)],Edit.nil⟩],(doE true (Zz (Zs p.e)) q.t).isSome)
 else ([⟨3,0,[],(f p.e q.e).1⟩],(f p.e q.e).2)
noncomputable def Yb(f:Edit->Edit->Edit × Bool):List APair->Option (List Op)
 | []=> some []
 | x ::r=>
  if x.of=1 then (Yb f r).map (opU x.p ::·)
  else if x.of=2 then (Yb f r).map (opU x.q ::·)
  else if (JJ f x.p x.q).2 then (Yb f r).map ((JJ f x.p x.q).1++·) else none
noncomputable def Z3G(f:Edit->Edit->Edit × Bool)(p q:List Op):Option (List Op):=
 if (ZX (ZE 0 1 p) (ZE 0 2 q) []).2 then Yb f (ZX (ZE 0 1 p) (ZE 0 2 q) []).1 else none
noncomputable def Ja(f:Edit->Edit->Edit × Bool)(p q:Edit):Edit × Bool:=
 if p.kind=0 then (q,true)
 else if q.kind=0 then (p,true)
 else if p.kind=1 then (.mk 1 p.old (Yc (doE true q p.new)) [] [] 0 [],(doE true q p.new).isSome)
 else if q.kind=1 then (.mk 1 (Yc (doE true (Zz (Zs p)) q.old)) q.new [] [] 0 [],(doE true (Zz (Zs p)) q.old).isSome)
 else if p.kind≠q.kind then (Edit.nil,false)
 else if p.kind=2 then
  match Jw p.words q.words (Ye (p.words.map WEdit.at_) (q.words.map WEdit.at_)),Jb f p.kids q.kids (Ye (p.kids.map KidOf.at_) (q.kids.map KidOf.at_)) with
  | some w,some k=> (.mk 2 Tree.nil Tree.nil w k 0 [],true)
  | _,_=> (Edit.nil,false)
 else if p.list≠q.list then (Edit.nil,false)
 else match Z3G f p.ops q.ops with
  | some l=> (.mk 3 Tree.nil Tree.nil [] [] p.list l,true)
  | none=> (Edit.nil,false)
noncomputable def JY:Nat->Edit->Edit->Edit × Bool
 | 0,_,_=> (Edit.nil,false)
 | n+1,p,q=> Ja (JY n) p q
noncomputable def YX(p q:Edit):Edit × Bool:=JY (Z8 p+Z8 q) p q
def Ym(e:Edit):Prop:=ctE e<=9000000000/\YI e/\∃ d,Z9 e d=true
def Zwg(k:Kid):Prop:=Z3m k<=9000000000/\Z1v k/\∃ d,Z9 k.e d=true
def ZdC(l:List Kid):Prop:=Z0o l<=9000000000/\Z1l l/\∀ k∈l,∃ d,Z9 k.e d=true
def Zro(l:List Op):Prop:=J2 l<=9000000000/\Z0Q l/\∀ o∈l,∃ list d,Zc list o d=true
def ZtI(o:Op):Prop:=ZQ o/\Z3l o<=9000000000/\YJ o/\(o.kind=3->∃ d,Z9 o.e d=true)
structure PcOk (x:Piece):Prop where
 of:x.of=0\/x.of=1\/x.of=2
 pp:x.of≠2->ZtI x.p
 qq:x.of≠1->ZtI x.q
 both:x.of=0->x.p.kind≠1/\x.q.kind≠2/\Z3 x.p=Z3 x.q
end Go.AM
namespace Go.AM
instance:Inhabited PStep:=⟨⟨0,0⟩⟩
def ZBS(s:PStep)(t:Tree):Prop:=s.kind=0/\0<=s.at_/\(t.kind=1/\s.at_ < 65535\/(2<=t.kind/\t.kind<=9)/\s.at_ < t.kids.length)
instance (s:PStep) (t:Tree):Decidable (ZBS s t):=by unfold ZBS;infer_instance
end Go.AM
namespace Go.AM
noncomputable def Z1e(p q:Edit):Edit × Bool:=if (Yy p q).2=true then (Zz (Yy p q).1,true) else (Edit.nil,false)
noncomputable def Z3Y(p q:Edit):Edit × Bool:=if (YX p q).2=true then (Zz (YX p q).1,true) else (Edit.nil,false)
noncomputable def ZgL(p q:Edit):Edit × Bool:=
 match Jw p.words q.words (Ye (p.words.map WEdit.at_) (q.words.map WEdit.at_)),Jb YX p.kids q.kids (Ye (p.kids.map KidOf.at_) (q.kids.map KidOf.at_)) with
 | some w,some k=> (.mk 2 Tree.nil Tree.nil w k 0 [],true)
 | _,_=> (Edit.nil,false)
noncomputable def ZgM(p q:Edit):Edit × Bool:=
 if p.list≠q.list then (Edit.nil,false)
 else match Z3G YX p.ops q.ops with
  | some l=> (.mk 3 Tree.nil Tree.nil [] [] p.list l,true)
  | none=> (Edit.nil,false)
def wOk(w:WEdit):Prop:=Z28 w/\Y9 w.old w.mask=true/\Y9 w.new w.mask=true
def uOk(u:AUnit):Prop:=(u.kind=0\/u.kind=1\/u.kind=2\/u.kind=3)/\Zm u.t<=9000000000/\rng u.t/\(u.kind=3->Ym u.e)
end Go.AM
namespace Go.AM
noncomputable def ZCF:List Edit->Tree->Option Tree
 | [],t=> some t
 | e ::r,t=> ((doE false e t).map Z5).bind (ZCF r)
noncomputable def Z4E:List Edit->Edit->Edit × Bool
 | [],x=> (x,true)
 | e ::r,x=> if (Z1e x e).2=true then Z4E r (Z1e x e).1 else (Edit.nil,false)
noncomputable def JL(l:List Edit):Edit × Bool:=if (Z4E l Edit.nil).2=true then (Zz (Z4E l Edit.nil).1,true) else (Edit.nil,false)
def ctL:List Edit->Nat
 | []=> 0
 | e ::r=> ctE e+ctL r
end Go.AM
namespace Go.AM.YtfapacabjkhepaaGreat
open Go.AM Go.Proofs
theorem Zrd(l:List Int):trim (trim l)=trim l:=by
 induction l with
 | nil=> rfl
 | cons x r ih=>
  rw [Z2I]
  split
  .try rfl
  .rename_i h
   rw [Z2I,ih,if_neg h]
theorem Zmf(l:List Tree):Yh (Yh l)=Yh l:=by
 induction l with
 | nil=> rfl
 | cons x r ih=>
  rw [Z00]
  split
  .try rfl
  .rename_i h
   rw [Z00,ih,if_neg h]
def Normed:List Tree->Prop
 | []=> True
 | t ::r=> Z5 t=t/\Normed r
theorem Normed.eq:∀ {l:List Tree},Normed l->Yk l=l
 | [],_=> rfl
 | t ::r,h=> by simp only [Yk,h.1,Normed.eq h.2]
theorem Normed.trim:∀ {l:List Tree},Normed l->Normed (Yh l)
 | [],_=> trivial
 | t ::r,h=> by
  rw [Z00]
  split
  .trivial
  .exact ⟨h.1,Normed.trim h.2⟩
mutual
theorem Z0G:∀ (t:Tree),Z5 (Z5 t)=Z5 t
 | .mk k w ks=> by
  have h:=Zad ks
  by_cases h0:k=0
  .simp [Z5,h0,Tree.nil]
  .by_cases h1:k=1
   .subst h1
    simp only [Z5,if_neg h0,if_true,Zrd,h.trim.eq,Zmf]
   .simp only [Z5,if_neg h0,if_neg h1,h.eq]
theorem Zad:∀ (ks:List Tree),Normed (Yk ks)
 | []=> trivial
 | t ::r=> ⟨Z0G t,Zad r⟩
end
noncomputable section
def ZqM:ArgL (List Tree × Unit):=(.cons (aSl .tree) .nil)
def Zfx(a:List Tree × Unit):Prop:=Zk a.1<=20000000000
def Zu8(a:List Tree × Unit):V U:= .c (sU .tree (Zb a.1) .unk)
def Z9D:Fs U:=fs ZqM (fun a=> [Zfx a]) Zu8
def ZqY:ArgL (List Op × Int × Int × Unit):=(.cons (aSl .op) (.cons (Ya .i64) (.cons (Ya .i64) .nil)))
def Z8S(a:List Op × Int × Int × Unit):Prop:=Zn a.1<=20000000000/\0<=a.2.1/\a.2.1<=(a.1).length
def Zmu(a:List Op × Int × Int × Unit):V U:= .tup [(false,[sU .tree (Z1c a.2.2.1 ((a.1).drop (a.2.1).toNat)) .unk]),(false,[ci (a.2.1+YU ((a.1).drop (a.2.1).toNat))])]
def Z71:Fs U:=fs ZqY (fun a=> [Z8S a]) Zmu
def ZiX(a:Edit × Unit):Nat:=2*Z8 a.1
def Zkz(a:Edit × Unit):V U:= .agg (enc .edit (Zs a.1))
def Zey:Fs U:=fs ZwS (fun a=> [Zfl a]) Zkz
def Z8U(a:Op × Unit):Prop:=Zt a.1<=20000000000
def ZfV(a:Op × Unit):Nat:=2*Zt a.1+1
def Z6b(a:Op × Unit):V U:= .agg (enc .op (YO a.1))
def Zoz:Fs U:=fs Zqu (fun a=> [Z8U a]) Z6b
def Z7t:List (FuncId × Fs U):=[(34,JF)]
def Zg5:Zd U:=lvk [([0],[]),([0,3],[]),([0,(3,[.own .tree]),4],[]),([0,3,4,8],[]),([0,(3,[.own .tree]),4],[]),([0,3,4],[]),([2],[])]
def Z7K(l:List Tree)(x4:Int)(x3:List Tree):LSt U:=(L2 [(0,.c (sU .tree l .unk)),(3,.c (sU .tree x3 (.own (.e 3 0)))),pI 4 x4] [])
abbrev ZJQ(l:List Tree)(Q:QT):=AW (Z1 Z7t) Tryz.f146 Zg5 [] (L2 [(0,.c (sU .tree l .unk))] []) Q
theorem ZH6(l:List Tree)(Q:QT)(h:Zj (AW (Z1 Z7t) Tryz.f146 Zg5 [1,1,0,1,0,0]) (Z7K l 0 []) (xB 0 (SW (Z1 Z7t) Tryz.f146 Zg5 [1,1,1] Q))):
  ZJQ l Q:=
 Eq.mpr V4 h
abbrev ZAk(l:List Tree)(x4:Int)(x3:List Tree)(N0:NT)(Q:QT):=AW (Z1 Z7t) Tryz.f146 Zg5 [1,1,0,1,0,0] (Z7K l x4 x3) (xT N0 (xB 0 (SW (Z1 Z7t) Tryz.f146 Zg5 [1,1,1] Q)))
theorem Zt6(l:List Tree)(x4:Int)(x3:List Tree)(N0:NT)(Q:QT)(h:let z2:=l.getD x4.toNat Tree.nil;let z0:=Tree.mk (Tree.kind z2) (Tree.words z2) (Tree.kids z2);let z1:=Tree.mk (Tree.kind (Z5 z0)) (Tree.words (Z5 z0)) (Tree.kids (Z5 z0));iB (decide (x4 < (l.length:Int))) (((0:Int)<=x4/\x4 < (l.length:Int))/\(JK (z0,()))/\((x3.length+([z1]).length)*56<=140737488355328)/\((InR (x4+1))/\(N0 (Z7K l (x4+1) (x3++([z1])))))) (Q .ret (L2 [(2,.c (sU .tree x3 (.own (.e 2 0))))] []))):
  ZAk l x4 x3 N0 Q:=
 Eq.mpr V4 h
def ZAU(l:List Tree):Prop:=AW (Z1 Z7t) Tryz.f146 Zg5 [] (Zg (ZqM.can (l,())) []) (EQ Tryz.f146 (Zu8 (l,())) [])
theorem Zzg(c34:CT 34 JF)(hb:∀ (l:List Tree) (_:Unit),Zfx (l,())->ZAU l):CT 146 Z9D:=
 Z2 (l:=[(34,JF)]) Zi rfl (⟨c34,trivial⟩) Zg5 Tryz.func146 rfl rfl 1 (fun _=> rfl) V2 (fun ⟨l,_⟩=> hb l ())
def Z7v:List (FuncId × Fs U):=[(146,Z9D)]
def Zg7:Zd U:=lvk [([0,1,2],[]),([0,1,2,8],[]),([0,2,(8,[.own .tree]),9],[]),([0,2,8,9,30],[]),([0,2,8,9,37],[]),([0,2,8,9],[]),([0,2,(8,[.own .tree]),9],[]),([6,7],[])]
def Z4O(l:List Op)(from_ kind x9:Int)(x8:List Tree):LSt U:=(L2 [(0,.c (sU .op l .unk)),pI 2 kind,(8,.c (sU .tree x8 (.own (.e 8 0)))),pI 9 x9] [])
abbrev ZJW(l:List Op)(from_ kind:Int)(Q:QT):=AW (Z1 Z7v) Tryz.f111 Zg7 [] (L2 [(0,.c (sU .op l .unk)),pI 1 from_,pI 2 kind] []) Q
theorem ZHn(l:List Op)(from_ kind:Int)(Q:QT)(h:Zj (AW (Z1 Z7v) Tryz.f111 Zg7 [1,1,1,0,0,0]) (Z4O l from_ kind from_ []) (xB 0 (SW (Z1 Z7v) Tryz.f111 Zg7 [1,1,1,1] Q))):
  ZJW l from_ kind Q:=
 Eq.mpr V4 h
abbrev ZAn(l:List Op)(from_ kind x9:Int)(x8:List Tree)(N0:NT)(Q:QT):=AW (Z1 Z7v) Tryz.f111 Zg7 [1,1,1,0,0,0] (Z4O l from_ kind x9 x8) (xT N0 (xB 0 (SW (Z1 Z7v) Tryz.f111 Zg7 [1,1,1,1] Q)))
theorem Ztk(l:List Op)(from_ kind x9:Int)(x8:List Tree)(N0:NT)(Q:QT)(h:∀ y_1,y_1=(l.getD x9.toNat Op.nil)->let z0:=decide (x9 < (l.length:Int));let z1:=z0 && (!(y_1.kind==1));((Tt z0)/\(Tt z0)/\(z0=true->(0:Int)<=x9/\x9 < (l.length:Int))/\(Tt z0)/\(Tt z0)/\(Tt z0)/\(Tt z0)/\(Tt z1)/\(Tt z1)/\(z1=true->(0:Int)<=x9/\x9 < (l.length:Int))/\(Tt z1)/\(Tt z1)/\(Tt z1)/\(z0=true->(True->z0=true))/\(z0=true->((y_1.kind==1)=false->z1=true))/\(Tt z0)/\(iB (bif z0 then (bif (y_1.kind==1) then true else (y_1.kind==2)) else false) (((0:Int)<=x9/\x9 < (l.length:Int))/\(iB (y_1.kind==kind) (((0:Int)<=x9/\x9 < (l.length:Int))/\(Zfx (y_1.l,()))/\((x8.length+(Zb y_1.l).length)*56<=140737488355328)/\((InR (x9+1))/\(N0 (Z4O l from_ kind (x9+1) (x8++(Zb y_1.l)))))) ((InR (x9+1))/\(N0 (Z4O l from_ kind (x9+1) x8))))) ((Q .ret (L2 [(6,.c (sU .tree x8 (.own (.e 6 0)))),pI 7 x9] [])))))):
  ZAn l from_ kind x9 x8 N0 Q:=
 Eq.mpr V4 (h _ rfl)
def ZBb(l:List Op)(from_ kind:Int):Prop:=AW (Z1 Z7v) Tryz.f111 Zg7 [] (Zg (ZqY.can (l,from_,kind,())) []) (EQ Tryz.f111 (Zmu (l,from_,kind,())) [])
theorem Zzs(ZED:CT 146 Z9D)(hb:∀ (l:List Op) (from_:Int) (kind:Int) (_:Unit),Z8S (l,from_,kind,())->ZBb l from_ kind):CT 111 Z71:=
 Z2 (l:=[(146,Z9D)]) Zi rfl (⟨ZED,trivial⟩) Zg7 Tryz.func111 rfl rfl 3 (fun _=> rfl) V2 (fun ⟨l,from_,kind,_⟩=> hb l from_ kind ())
def Z1a(N:Nat):List (FuncId × Fs U):=(69,fs ZwS (fun a=> [Zfl a,ZiX a < N]) Zkz) ::(105,fs Zqu (fun a=> [Z8U a,ZfV a < N]) Z6b) ::[]
def Z96:Zd U:=lvk [([1,2],[1,2]),([1,2,3],[1,2,3]),([1,2,3,20,21,22],[1,2,((.loc 3),(an 7 [.own .wedit]))]),([1,2,3,20,21,22,23],[1,2,3]),([1,2,3,5,20,21,22],[1,2,3,5]),([1,2,3,20,21,22],[1,2,3]),([1,2,3,20,21,22],[1,2,((.loc 3),(an 7 [.own .wedit]))]),([1,2,3,42,43,44],[1,2,((.loc 3),(an 8 [.own .kid]))]),([1,2,3,42,43,44,45],[1,2,3]),([1,2,3,7,42,43,44],[1,2,3,7]),([1,2,3,42,43,44],[1,2,3]),([1,2,3,42,43,44],[1,2,((.loc 3),(an 8 [.own .kid]))]),([2,3,61,62,63],[2,((.loc 3),(an 10 [.own .op]))]),([2,3,61,62,63,64],[2,3]),([2,3,9,61,62,63],[2,3,9]),([2,3,61,62,63],[2,3]),([2,3,61,62,63],[2,((.loc 3),(an 10 [.own .op]))]),([2],[2])]
def ZaH(e:Edit)(x22:Int)(ml3_7:List WEdit):LSt U:=(L2 [pL 1,pL 2,pL 3,(20,.c (sU .wedit e.words .unk)),pI 21 (e.words.length:Int),pI 22 x22] [(.loc 1,(enc .edit e)),(.loc 2,zc1),(.loc 3,([ci e.kind]++enc .tree e.new++enc .tree e.old++[sU .wedit ml3_7 (.own (.l 3 7)),.nils,ci e.list,.nils]))])
def ZaG(e:Edit)(ml3_7:List WEdit)(x44_a:Int)(ml3_8_a:List Kid):LSt U:=(L2 [pL 1,pL 2,pL 3,(42,.c (sU .kid e.kids .unk)),pI 43 (e.kids.length:Int),pI 44 x44_a] [(.loc 1,(enc .edit e)),(.loc 2,zc1),(.loc 3,([ci e.kind]++enc .tree e.new++enc .tree e.old++[sU .wedit ml3_7 (.own (.l 3 7)),sU .kid ml3_8_a (.own (.l 3 8)),ci e.list,.nils]))])
def ZaF(e:Edit)(ml3_7:List WEdit)(ml3_8_a:List Kid)(x63_b:Int)(ml3_10_b:List Op):LSt U:=(L2 [pL 2,pL 3,(61,.c (sU .op e.ops .unk)),pI 62 (e.ops.length:Int),pI 63 x63_b] [(.loc 2,zc1),(.loc 3,([ci e.kind]++enc .tree e.new++enc .tree e.old++[sU .wedit ml3_7 (.own (.l 3 7)),sU .kid ml3_8_a (.own (.l 3 8)),ci e.list,sU .op ml3_10_b (.own (.l 3 10))]))])
abbrev W69(N:Nat)(e:Edit)(Q:QT):=AW (Z1 (Z1a N)) Tryz.f69 Z96 [] (L2 [(0,.agg (enc .edit e))] []) Q
theorem ZIR(N:Nat)(e:Edit)(Q:QT)(h:Zj (AW (Z1 (Z1a N)) Tryz.f69 Z96 [1,1,0,1,0,0]) (ZaH e 0 []) (xB 0 (SW (Z1 (Z1a N)) Tryz.f69 Z96 [1,1,1] Q))):
  W69 N e Q:=
 Eq.mpr V4 h
abbrev ZFi(N:Nat)(e:Edit)(x22:Int)(ml3_7:List WEdit)(N0:NT)(Q:QT):=AW (Z1 (Z1a N)) Tryz.f69 Z96 [1,1,0,1,0,0] (ZaH e x22 ml3_7) (xT N0 (xB 0 (SW (Z1 (Z1a N)) Tryz.f69 Z96 [1,1,1] Q)))
theorem ZxV(N:Nat)(e:Edit)(x22:Int)(ml3_7:List WEdit)(N0:NT)(Q:QT)(h:let z0:=e.words.getD x22.toNat (WEdit.mk 0 0 0 0);let z1:=WEdit.mk (WEdit.at_ z0) (WEdit.mask z0) (WEdit.new z0) (WEdit.old z0);iB (decide (x22 < (e.words.length:Int))) (((0:Int)<=x22/\x22 < (e.words.length:Int))/\(((ml3_7.length+([z1]).length)*32<=140737488355328)/\((InR (x22+1))/\(N0 (ZaH e (x22+1) (ml3_7++([z1]))))))) (Zj (AW (Z1 (Z1a N)) Tryz.f69 Z96 [1,1,1,0,1,0,0]) (ZaG e ml3_7 0 []) (xB 2 (SW (Z1 (Z1a N)) Tryz.f69 Z96 [1,1,1,1] Q)))):
  ZFi N e x22 ml3_7 N0 Q:=
 Eq.mpr V4 h
abbrev ZFh(N:Nat)(e:Edit)(ml3_7:List WEdit)(x44_a:Int)(ml3_8_a:List Kid)(N1:NT)(Q:QT):=AW (Z1 (Z1a N)) Tryz.f69 Z96 [1,1,1,0,1,0,0] (ZaG e ml3_7 x44_a ml3_8_a) (xT N1 (xB 2 (SW (Z1 (Z1a N)) Tryz.f69 Z96 [1,1,1,1] Q)))
theorem ZxU(N:Nat)(e:Edit)(ml3_7:List WEdit)(x44_a:Int)(ml3_8_a:List Kid)(N1:NT)(Q:QT)(h:∀ y_1,y_1=(e.kids.getD x44_a.toNat (KidOf.mk 0 Edit.nil))->∀ y_2,y_2=(y_1.e)->∀ y_3,y_3=(Zs y_2)->iB (decide (x44_a < (e.kids.length:Int))) (((0:Int)<=x44_a/\x44_a < (e.kids.length:Int))/\((Zfl (y_2,()))/\(ZiX (y_2,()) < N)/\((ml3_8_a.length+([(KidOf.mk y_1.at_ y_3:Kid)]).length)*208<=140737488355328)/\((InR (x44_a+1))/\(N1 (ZaG e ml3_7 (x44_a+1) (ml3_8_a++([(KidOf.mk y_1.at_ y_3:Kid)]))))))) (Zj (AW (Z1 (Z1a N)) Tryz.f69 Z96 [1,1,1,1,0,1,0,0]) (ZaF e ml3_7 ml3_8_a 0 []) (xB 4 (SW (Z1 (Z1a N)) Tryz.f69 Z96 [1,1,1,1,1] Q)))):
  ZFh N e ml3_7 x44_a ml3_8_a N1 Q:=
 Eq.mpr V4 (h _ rfl _ (Z7 _) _ (Z7 _))
abbrev ZFg(N:Nat)(e:Edit)(ml3_7:List WEdit)(ml3_8_a:List Kid)(x63_b:Int)(ml3_10_b:List Op)(N2:NT)(Q:QT):=AW (Z1 (Z1a N)) Tryz.f69 Z96 [1,1,1,1,0,1,0,0] (ZaF e ml3_7 ml3_8_a x63_b ml3_10_b) (xT N2 (xB 4 (SW (Z1 (Z1a N)) Tryz.f69 Z96 [1,1,1,1,1] Q)))
theorem ZxT(N:Nat)(e:Edit)(ml3_7:List WEdit)(ml3_8_a:List Kid)(x63_b:Int)(ml3_10_b:List Op)(N2:NT)(Q:QT)(h:∀ y_1,y_1=(e.ops.getD x63_b.toNat Op.nil)->∀ y_2,y_2=y_1->∀ y_3,y_3=(YO y_2)->iB (decide (x63_b < (e.ops.length:Int))) (((0:Int)<=x63_b/\x63_b < (e.ops.length:Int))/\((Z8U (y_2,()))/\(ZfV (y_2,()) < N)/\((ml3_10_b.length+([y_3]).length)*240<=140737488355328)/\((InR (x63_b+1))/\(N2 (ZaF e ml3_7 ml3_8_a (x63_b+1) (ml3_10_b++([y_3]))))))) (Q .ret (L2 [pL 2] [(.loc 2,([ci e.kind]++enc .tree e.new++enc .tree e.old++[sU .wedit ml3_7 (.own (.l 2 7)),sU .kid ml3_8_a (.own (.l 2 8)),ci e.list,sU .op ml3_10_b (.own (.l 2 10))]))]))):
  ZFg N e ml3_7 ml3_8_a x63_b ml3_10_b N2 Q:=
 Eq.mpr V4 (h _ rfl _ (YP _) _ (YP _))
def ZFJ(N:Nat)(e:Edit):Prop:=AW (Z1 (Z1a N)) Tryz.f69 Z96 [] (Zg (ZwS.can (e,())) []) (EQ Tryz.f69 (Zkz (e,())) [])
abbrev ZIl:Prop:=∀ (N:Nat) (e:Edit) (_:Unit),Zfl (e,())->ZiX (e,()) < N+1->ZFJ N e
def ZvA:Zd U:=lvl [([1,2],[1,2]),([1,2,4],[1,2]),([1,2,4,5],[1,2]),([1,2],[1,2]),([1,2,4,8],[1,2]),([1,2],[1,2]),([1,2,11],[1,2]),([1,2],[1,2]),([2],[2])]
abbrev ZK0(N:Nat)(o:Op)(Q:QT):=AW (Z1 (Z1a N)) Tryz.f105 ZvA [] (L2 [(0,.agg (enc .op o))] []) Q
theorem ZHs(N:Nat)(o:Op)(Q:QT)(h:∀ y_1,y_1=(o.e)->iB (o.kind==1) (Q .ret (L2 [pL 2] [(.loc 2,([ci 2,ci o.n,sU .tree o.l .unk]++enc .edit o.e))])) (iB (o.kind==2) (Q .ret (L2 [pL 2] [(.loc 2,([ci 1,ci o.n,sU .tree o.l .unk]++enc .edit o.e))])) (iB (o.kind==3) ((Zfl (y_1,()))/\(ZiX (y_1,()) < N)/\(Q .ret (L2 [pL 2] [(.loc 2,([ci o.kind,ci o.n,sU .tree o.l .unk]++enc .edit (Zs y_1)))]))) (Q .ret (L2 [pL 2] [(.loc 2,(enc .op o))]))))):
  ZK0 N o Q:=
 Eq.mpr V4 (h _ (Z7 _))
def ZBg(N:Nat)(o:Op):Prop:=AW (Z1 (Z1a N)) Tryz.f105 ZvA [] (Zg (Zqu.can (o,())) []) (EQ Tryz.f105 (Z6b (o,())) [])
abbrev ZCn:Prop:=∀ (N:Nat) (o:Op) (_:Unit),Z8U (o,())->ZfV (o,()) < N+1->ZBg N o
theorem Zn1(ha:ZIl)(hb:ZCn):CT 69 Zey/\CT 105 Zoz:=
 Z1Q (μA:=ZiX) (μB:=ZfV) (l:=[]) Zi rfl trivial Z96 ZvA Tryz.func69 Tryz.func105 rfl rfl rfl rfl 1 1 (fun _=> rfl) (fun _=> rfl) V2 V2 (fun N ⟨e,_⟩=> ha N e ()) (fun N ⟨o,_⟩=> hb N o ())
end
theorem ZED:Contract Tryz.prog cfg 146 Z9D:=by
 refine Zzg c34 ?_
 intro l _ hp
 simp only [Zfx] at hp
 have hl:=Zv l
 refine ZH6 _ _ ?_
 refine Z4 (ι:=Int × List Tree) (fun s=> Z7K l s.1 s.2) (fun s=> 0<=s.1/\s.1<=l.length/\s.2.length=s.1/\s.2++Zb (l.drop s.1.toNat)=Zb l) (fun s=> ((l.length:Int) - s.1).toNat) (0,[]) rfl ⟨by simp,by simp,by simp,by simp⟩ ?_
 rintro ⟨i,out⟩ ⟨h1,h2,h3,h4⟩
 dsimp only at h1 h2 h3 h4
 refine Zt6 _ _ _ _ _ ?_
 (simp only [iB,vcS])
 (simp only [Tree.eta,Edit.eta,Tree.kind_mk,Tree.words_mk,Tree.kids_mk])
 refine ⟨fun hi=> ?_,fun hi=> ?_⟩
 .have hm:=Yx (Zf (l:=l) (i:=i.toNat) YL Tree.nil)
  rw [ZH h1 hi Tree.nil] at h4
  simp only [Zb,Qo] at h4
  refine ⟨⟨h1,hi⟩,by simp only [JK];omega,by simp;omega,V3,(i+1,out++[Z5 (l.getD i.toNat Tree.nil)]),rfl,⟨YL,YL,by simp;omega,?_⟩,YL⟩
  simp only [Qb,Qk,Qq]
  exact h4
 .rw [Q6 YL] at h4
  simp only [Zb,QQ,Qs] at h4
  rw [h4]
  exact JR
theorem ZhQ{kind:Int}{l:List Op}{i:Int}(h0:0<=i)(h:i < l.length):Z1c kind (l.drop i.toNat)=if (l.getD i.toNat Op.nil).kind=1\/(l.getD i.toNat Op.nil).kind=2 then (if (l.getD i.toNat Op.nil).kind=kind then Zb (l.getD i.toNat Op.nil).l else [])++Z1c kind (l.drop (i+1).toNat) else []:=by
 rw [ZH h0 h Op.nil,Z1c]
theorem ZhS{l:List Op}{i:Int}(h0:0<=i)(h:i < l.length):YU (l.drop i.toNat)=if (l.getD i.toNat Op.nil).kind=1\/(l.getD i.toNat Op.nil).kind=2 then 1+YU (l.drop (i+1).toNat) else 0:=by
 rw [ZH h0 h Op.nil,YU]
theorem Zld(n:Nat):∀ (l:List Op),Zn (l.drop n)<=Zn l:=by
 induction n with
 | zero=> intro l;simp
 | succ n ih=>
  intro l
  cases l with
  | nil=> simp
  | cons t r=> simp only [QK,Zn];grind
theorem ZEK:Contract Tryz.prog cfg 111 Z71:=by
 refine Zzs ZED ?_
 intro l from_ kind _ hp
 simp only [Z8S] at hp
 obtain ⟨hm,hf0,hf1⟩:=hp
 have hl:=ZF l
 refine ZHn _ _ _ _ ?_
 refine Z4 (ι:=Int × List Tree) (fun s=> Z4O l from_ kind s.1 s.2) (fun s=> from_<=s.1/\s.1<=l.length/\s.2.length+Zn (l.drop s.1.toNat)<=Zn l/\s.2++Z1c kind (l.drop s.1.toNat)=Z1c kind (l.drop from_.toNat)/\s.1+YU (l.drop s.1.toNat)=from_+YU (l.drop from_.toNat)) (fun s=> ((l.length:Int) - s.1).toNat) (from_,[]) rfl ⟨by simp,by simpa using hf1,by have:=Zld from_.toNat l;simpa using this,by simp,rfl⟩ ?_
 rintro ⟨i,out⟩ ⟨h1,h2,h3,h4,h5⟩
 dsimp only at h1 h2 h3 h4 h5
 refine Ztk _ _ _ _ _ _ _ ?_
 rintro y hy
 simp only [iB,vcT,vcS,aiT,true_and]
 refine ⟨fun hi=> ⟨YL,hi⟩,fun hi=> ⟨YL,hi.1⟩,fun hi=> ?_,fun hi=> ?_⟩
 .obtain ⟨hi,hk⟩:=hi
  have hmem:=ZI (Zf (l:=l) (i:=i.toNat) YL Op.nil)
  have hd:=congrArg Zn (ZH (show 0<=i by omega) hi Op.nil)
  rw [Z3K] at hd
  rw [ZhQ YL hi] at h4
  rw [ZhS YL hi] at h5
  rw [<-hy] at h4 h5 hmem hd
  rw [if_pos hk] at h4 h5
  rw [ZG] at hmem hd
  have hkl:=Zv y.l
  have hyl:(Zb y.l).length=y.l.length:=by simp [Zb]
  refine ⟨⟨YL,hi⟩,fun hq=> ⟨⟨YL,hi⟩,by simp only [Zfx];omega,by rw [hyl];omega,V3,(i+1,out++Zb y.l),rfl,⟨V5,V5,by simp;omega,?_,V5⟩,V5⟩,fun hq=> ⟨V3,(i+1,out),rfl,⟨V5,V5,V5,?_,V5⟩,V5⟩⟩
  .rw [if_pos hq,<-Qb] at h4;exact h4
  .rw [if_neg hq,Qq] at h4;exact h4
 .have e1:Z1c kind (l.drop i.toNat)=[]/\YU (l.drop i.toNat)=0:=by
   by_cases hc:i < l.length
   .rw [ZhQ YL hc,ZhS YL hc,<-hy,V0,V0]
    exact ⟨rfl,rfl⟩
   .rw [Q6 YL]
    exact ⟨rfl,rfl⟩
  rw [e1.1,Qs] at h4
  rw [e1.2] at h5
  have e2:i=from_+YU (l.drop from_.toNat):=YL
  simp only [Zmu,<-h4,<-e2]
  exact JR
theorem Jt(o:Op):YO o=if o.kind=1 then ⟨2,o.n,o.l,o.e⟩ else if o.kind=2 then ⟨1,o.n,o.l,o.e⟩ else if o.kind=3 then ⟨o.kind,o.n,o.l,Zs o.e⟩ else ⟨o.kind,o.n,o.l,o.e⟩:=by cases o;rfl
theorem Zty(e:Edit):Zs e= .mk e.kind e.new e.old (e.words.map Z2f) (JQ e.kids) e.list (Jm e.ops):=by cases e;rfl
theorem Zej(k:Kid):Z12 k=⟨k.at_,Zs k.e⟩:=by cases k;rfl
theorem ZJJ:ZCn:=by
 intro N o _ hp hN
 simp only [Z8U,ZfV] at hp hN
 rw [ZG] at hp hN
 have hpos:=Z4z o.e
 refine ZHs _ _ _ ?_
 rintro y hy
 (simp only [iB,vcS])
 refine ⟨fun h=> ?_,fun h=> ⟨fun h2=> ?_,fun h2=> ⟨fun h3=> ⟨by simp only [Zfl,hy];omega,by simp only [ZiX,hy];omega,?_⟩,fun h3=> ?_⟩⟩⟩
 .have e:YO o=⟨2,o.n,o.l,o.e⟩:=by rw [Jt,if_pos h]
  simp only [Z6b,e]
  exact JR
 .have e:YO o=⟨1,o.n,o.l,o.e⟩:=by rw [Jt,if_neg h,if_pos h2]
  simp only [Z6b,e]
  exact JR
 .have e:YO o=⟨o.kind,o.n,o.l,Zs o.e⟩:=by rw [Jt,if_neg h,if_neg h2,if_pos h3]
  simp only [Z6b,e]
  rw [hy]
  exact JR
 .have e:YO o=⟨o.kind,o.n,o.l,o.e⟩:=by rw [Jt,if_neg h,if_neg h2,if_neg h3]
  simp only [Z6b,e]
  exact JR
theorem b69:ZIl:=by
 intro N e _ hp hN
 simp only [Zfl,ZiX] at hp hN
 have h1:=ZT e
 have h2:=Y1 e.kids
 have h3:=ZF e.ops
 have ha:=Zty e
 refine ZIR _ _ _ ?_
 refine Z4 (ι:=Int × List WEdit) (fun s=> ZaH e s.1 s.2) (fun s=> 0<=s.1/\s.1<=e.words.length/\s.2.length=s.1/\s.2++(e.words.drop s.1.toNat).map Z2f=e.words.map Z2f) (fun s=> ((e.words.length:Int) - s.1).toNat) (0,[]) rfl ⟨by simp,by simp,by simp,by simp⟩ ?_
 rintro ⟨i,ws⟩ ⟨g1,g2,g3,g4⟩
 dsimp only at g1 g2 g3 g4
 refine ZxV _ _ _ _ _ _ ?_
 (simp only [iB,vcS])
 refine ⟨fun hi=> ?_,fun hi=> ?_⟩
 .rw [ZH g1 hi (WEdit.mk 0 0 0 0)] at g4
  simp only [Qo] at g4
  refine ⟨⟨g1,hi⟩,by simp;omega,V3,(i+1,ws++[Z2f (e.words.getD i.toNat (WEdit.mk 0 0 0 0))]),rfl,⟨YL,YL,by simp;omega,?_⟩,YL⟩
  grind
 .rw [Q6 YL] at g4
  simp only [QQ,Qs] at g4
  refine Z4 (ι:=Int × List Kid) (fun s=> ZaG e ws s.1 s.2) (fun s=> 0<=s.1/\s.1<=e.kids.length/\s.2.length=s.1/\s.2++JQ (e.kids.drop s.1.toNat)=JQ e.kids) (fun s=> ((e.kids.length:Int) - s.1).toNat) (0,[]) rfl ⟨by simp,by simp,by simp,by simp⟩ ?_
  rintro ⟨j,ks⟩ ⟨f1,f2,f3,f4⟩
  dsimp only at f1 f2 f3 f4
  refine ZxU _ _ _ _ _ _ _ ?_
  rintro y1 hy1 y2 hy2 y3 hy3
  (simp only [iB,vcS])
  refine ⟨fun hj=> ?_,fun hj=> ?_⟩
  .have hm:=Yw (Zf (l:=e.kids) (i:=j.toNat) YL (KidOf.mk 0 Edit.nil))
   rw [ZH f1 hj (KidOf.mk 0 Edit.nil)] at f4
   rw [<-hy1] at f4 hm
   simp only [JQ,Zej] at f4
   rw [<-hy2] at f4 hm
   rw [<-hy3] at f4
   refine ⟨⟨f1,hj⟩,by simp only [Zfl];omega,by simp only [ZiX];omega,by simp;omega,V3,(j+1,ks++[⟨y1.at_,y3⟩]),rfl,⟨YL,YL,by simp;omega,?_⟩,YL⟩
   grind
  .rw [Q6 YL] at f4
   simp only [JQ,Qs] at f4
   refine Z4 (ι:=Int × List Op) (fun s=> ZaF e ws ks s.1 s.2) (fun s=> 0<=s.1/\s.1<=e.ops.length/\s.2.length=s.1/\s.2++Jm (e.ops.drop s.1.toNat)=Jm e.ops) (fun s=> ((e.ops.length:Int) - s.1).toNat) (0,[]) rfl ⟨by simp,by simp,by simp,by simp⟩ ?_
   rintro ⟨k,os⟩ ⟨d1,d2,d3,d4⟩
   dsimp only at d1 d2 d3 d4
   refine ZxT _ _ _ _ _ _ _ _ ?_
   rintro z1 hz1 z2 hz2 z3 hz3
   (simp only [iB,vcS])
   refine ⟨fun hj=> ?_,fun hj=> ?_⟩
   .have hm:=ZI (Zf (l:=e.ops) (i:=k.toNat) YL Op.nil)
    rw [ZH d1 hj Op.nil] at d4
    rw [<-hz1,<-hz2] at d4 hm
    simp only [Jm] at d4
    rw [<-hz3] at d4
    refine ⟨⟨d1,hj⟩,by simp only [Z8U];omega,by simp only [ZfV];omega,by simp;omega,V3,(k+1,os++[z3]),rfl,⟨YL,YL,by simp;omega,?_⟩,YL⟩
    grind
   .rw [Q6 YL] at d4
    simp only [Jm,Qs] at d4
    rw [g4,f4,d4]
    simp only [Zkz,ha]
    exact JR
theorem ZAb:Contract Tryz.prog cfg 69 Zey/\Contract Tryz.prog cfg 105 Zoz:=Zn1 b69 ZJJ
theorem Zdn:∀ (l:List Op) (m n:Int),Jx (Jx l m) n=Jx l (m+n)
 | [],m,n=> by simp [Jx]
 | [o],m,n=> by
  by_cases h:o.kind=0
  .simp [Jx,h,Int.add_assoc]
  .simp [Jx,h]
 | o ::p ::r,m,n=> by
  have ih:=Zdn (p ::r) m n
  cases hk:Jx (p ::r) m with
  | nil=> cases r <;> simp [Jx] at hk;grind
  | cons x y=>
   rw [hk] at ih
   simp only [Jx]
   rw [hk]
   simp only [Jx]
   rw [ih]
theorem Z0Y:∀ (l:List Op) (n:Int),Jx l n=l++[⟨0,n,[],Edit.nil⟩]\/∃ a o,l=a++[o]/\o.kind=0/\Jx l n=a++[⟨o.kind,o.n+n,o.l,o.e⟩]
 | [],n=> Or.inl rfl
 | [o],n=> by
  by_cases h:o.kind=0
  .exact Or.inr ⟨[],o,rfl,h,by simp [Jx,h]⟩
  .exact Or.inl (by simp [Jx,h])
 | o ::p ::r,n=> by
  rcases Z0Y (p ::r) n with h | ⟨a,q,h1,h2,h3⟩
  .exact Or.inl (by simp only [Jx,h,Qk])
  .exact Or.inr ⟨o ::a,q,by rw [h1];rfl,h2,by simp only [Jx,h3,Qk]⟩
def W0:Wst:=⟨[],[],[]⟩
theorem Z8m(a b:List Tree):Zb (a++b)=Zb a++Zb b:=by simp [Zb]
end Go.AM.YtfapacabjkhepaaGreat
namespace Go.AM
theorem Zaf{t:Tree}(h:Yz t=true):t=Tree.nil:=by
 obtain ⟨k,w,ks⟩:=t
 simp only [Yz,decide_eq_true_eq] at h
 obtain ⟨h1,h2,h3⟩:=h
 have h1:k=0:=h1
 rw [h1,Q1 (l:=w) h2,Q1 (l:=ks) h3]
 try rfl
theorem Zkh{e:Edit}(h:Z1k e=true):e=Edit.nil:=by
 obtain ⟨k,o,n,w,ks,l,os⟩:=e
 simp only [Z1k,Q2,decide_eq_true_eq] at h
 obtain ⟨⟨⟨h1,h2⟩,h3⟩,h4,h5,h6,h7⟩:=h
 have h1:k=0:=h1
 have h7:l=0:=h7
 rw [h1,h7,Zaf (t:=o) h2,Zaf (t:=n) h3,Q1 (l:=w) h4,Q1 (l:=ks) h5,Q1 (l:=os) h6]
 try rfl
structure RightE (e:Edit) (d:Int):Prop where
 d0:d≠0
 kind:0<=e.kind/\e.kind<=3
 none:e.kind≠1->e.old=Tree.nil/\e.new=Tree.nil
 words0:e.kind≠2->e.words=[]/\e.kids=[]
 ops0:e.kind≠3->e.list=0/\e.ops=[]
 rep:e.kind=1->Ze e.old (dT d)=true/\Ze e.new (dT d)=true/\e.old.kind≠10/\e.new.kind≠10
 words:ZN (-1) e.words=true
 kids:Zx (-1) e.kids (d - 1)=true
 list:e.kind=3->2<=e.list/\e.list<=9
 ops:Zw e.list e.ops (d - 1)=true
 len:Z1i e.ops 0 < 1048576/\Z1h e.ops 0 < 1048576
theorem Zo{e:Edit}{d:Int}(h:Z9 e d=true):RightE e d:=by
 obtain ⟨k,o,n,w,ks,l,os⟩:=e
 rw [Z9] at h
 split at h
 .cases h
 .rename_i a
  split at h
  .cases h
  .rename_i b
   have b1:k≠1->o=Tree.nil/\n=Tree.nil:=by
    intro hk
    by_cases x:Yz o=true/\Yz n=true
    .exact ⟨Zaf x.1,Zaf x.2⟩
    .grind
   have b2:k≠2->w=[]/\ks=[]:=by
    intro hk
    by_cases x:w.length=0/\ks.length=0
    .exact ⟨Q1 x.1,Q1 x.2⟩
    .exact absurd (.inr (.inl ⟨hk,x⟩)) b
   have b3:k≠3->l=0/\os=[]:=by
    intro hk
    by_cases x:l≠0\/os.length≠0
    .exact absurd (.inr (.inr ⟨hk,x⟩)) b
    .exact ⟨YL,Q1 YL⟩
   split at h
   .rename_i c
    simp only [Q2,decide_eq_true_eq] at h
    obtain ⟨⟨h1,h2⟩,h3,h4⟩:=h
    have c2:=b2 YL
    have c3:=b3 YL
    obtain ⟨rfl,rfl⟩:=c2
    obtain ⟨rfl,rfl⟩:=c3
    exact ⟨YL,⟨by simp_all,by simp_all⟩,b1,b2,b3,fun _=> ⟨h1,h2,h3,h4⟩,rfl,rfl,fun e=> by simp_all,rfl,by show Z1i [] 0 < _/\Z1h [] 0 < _;trivial⟩
   .rename_i c
    simp only [Q2,decide_eq_true_eq] at h
    obtain ⟨⟨⟨⟨h1,h2⟩,h3⟩,h4⟩,h5⟩:=h
    exact ⟨YL,⟨by simp_all,by simp_all⟩,b1,b2,b3,fun e=> absurd e c,h1,h2,fun e=> by simp_all,h4,h5⟩
theorem Zq:∀ {ks:List Kid} {last d:Int},Zx last ks d=true->∀ k∈ks,(last < k.at_/\k.at_<=65534/\k.e.kind≠0)/\Z9 k.e d=true
 | [],_,_,_,_,hk=> by cases hk
 | ⟨a,e⟩ ::r,last,d,h,k,hk=> by
  simp only [Zx,J0,Q2,decide_eq_true_eq] at h
  obtain ⟨⟨h1,h2⟩,h3⟩:=h
  rcases Q9.1 hk with rfl | hk
  .grind
  .have:=Zq h3 k hk
   grind
theorem rightOs_mem{list:Int}:∀ {os:List Op} {d:Int},Zw list os d=true->∀ o∈os,Zc list o d=true
 | [],_,_,_,ho=> by cases ho
 | a ::r,d,h,o,ho=> by
  simp only [Zw,Q2] at h
  rcases Q9.1 ho with rfl | ho
  .exact h.1
  .exact rightOs_mem h.2 o ho
theorem JB:∀ {ws:List WEdit} {last:Int},ZN last ws=true->∀ w∈ws,last < w.at_/\w.at_<=65534/\w.mask≠0/\Y9 w.old w.mask=true/\Y9 w.new w.mask=true
 | [],_,_,_,hw=> by cases hw
 | a ::r,last,h,w,hw=> by
  simp only [ZN,Q2,decide_eq_true_eq] at h
  obtain ⟨⟨⟨h1,h2⟩,h3⟩,h4⟩:=h
  rcases Q9.1 hw with rfl | hw
  .grind
  .have:=JB h4 w hw
   grind
inductive RightOp (list:Int) (d:Int):Op->Prop
 | keep (n:Int):1<=n->n<=1048576->RightOp list d ⟨0,n,[],Edit.nil⟩
 | gone (l:List Tree):Yt (dT d) list l=true->0 < l.length->RightOp list d ⟨1,0,l,Edit.nil⟩
 | come (l:List Tree):Yt (dT d) list l=true->0 < l.length->RightOp list d ⟨2,0,l,Edit.nil⟩
 | into (e:Edit):Z9 e d=true->e.kind≠0->7 < list->(list=8\/e.kind=2\/e.kind=1/\e.old.kind=1/\e.new.kind=1)->RightOp list d ⟨3,0,[],e⟩
theorem Y0{list:Int}{o:Op}{d:Int}(h:Zc list o d=true):RightOp list d o:=by
 obtain ⟨k,n,l,e⟩:=o
 rw [Zc] at h
 split at h
 .rename_i hk
  simp only [Q2,decide_eq_true_eq] at h
  obtain ⟨⟨h1,h2,h3⟩,h4⟩:=h
  rw [hk,Zkh h4,Q1 h3]
  exact .keep n h1 h2
 .rename_i h0
  split at h
  .cases h
  .rename_i h1
   have hn:n=0:=YL
   subst hn
   split at h
   .rename_i h2
    simp only [Q2,decide_eq_true_eq] at h
    obtain ⟨⟨h3,h4⟩,h5⟩:=h
    rw [Zkh h5]
    by_cases hk:k=1
    .rw [hk];exact .gone l h3 h4
    .rw [show k=2 by omega];exact .come l h3 h4
   .rename_i h2
    simp only [Q2,decide_eq_true_eq] at h
    obtain ⟨⟨⟨h3,h4,h5⟩,h6⟩,h7⟩:=h
    rw [show k=3 by omega,Q1 h3]
    exact .into e h6 h4 h5 h7
theorem Zmn{e:Edit}{d:Int}(h:Z9 e d=true):(∀ k∈e.kids,∃ d,Z9 k.e d=true)/\(∀ o∈e.ops,∃ l d,Zc l o d=true)/\(e.kind=3->2<=e.list/\e.list<=9):=by
 have r:=Zo h
 exact ⟨fun k hk=> ⟨_,(Zq r.kids k hk).2⟩,fun o ho=> ⟨_,_,rightOs_mem r.ops o ho⟩,r.list⟩
theorem Jo{l d:Int}{o:Op}(h:Zc l o d=true)(hk:o.kind=3):Z9 o.e d=true:=by
 have r:=Y0 h
 cases r with
 | into e h1=> exact h1
 | keep | gone | come=> grind
end Go.AM
namespace Go.AM.YtfapacabjkhepaaGreat
open Go.AM Go.Proofs
theorem Z89{α:Type}(z:α)(l:List α)(i:Nat)(x:α):(Y7 z l i x).length=max l.length (i+1):=by
 simp only [Y7,List.length_set,Qd,Xq];omega
theorem Z1S{α:Type}(z:α)(l:List α)(i:Nat)(x:α)(j:Nat):(Y7 z l i x).getD j z=if j=i then x else l.getD j z:=by
 simp only [Y7,Qh,XY,Qd,Xq]
 grind
theorem Zmj{α β:Type}(f:α->β)(z:α)(l:List α)(i:Nat)(x:α):(Y7 z l i x).map f=Y7 (f z) (l.map f) i (f x):=by
 simp [Y7,List.map_set]
theorem Z4u:∀ l:List Tree,Yk l=Zb l
 | []=> rfl
 | t ::r=> by simp [Yk,Zb,Z4u r]
theorem ZfN(l:List Tree)(i:Nat)(x:Tree):Zb (Y7 Tree.nil l i x)=Y7 Tree.nil (Zb l) i (Z5 x):=by
 rw [Zb,Zmj,ZrH];try rfl
theorem ZrG{a b:List Tree}{i:Nat}{x y:Tree}(h:Zb a=Zb b)(hx:Z5 x=Z5 y):Zb (Y7 Tree.nil a i x)=Zb (Y7 Tree.nil b i y):=by
 rw [ZfN,ZfN,h,hx]
theorem Z0V{a b c d:List Tree}(h:Zb a=Zb b)(hx:Zb c=Zb d):Zb (a++c)=Zb (b++d):=by
 rw [Z8m,Z8m,h,hx]
theorem ZfO(k:Int)(w:List Int){a b:List Tree}(h:Zb a=Zb b):Z5 (.mk k w a)=Z5 (.mk k w b):=by
 simp only [Z5,Z4u,h]
theorem Z4t{a b:List Tree}(h:Zb a=Zb b):a.length=b.length:=by
 have:=congrArg List.length h
 simpa [Zb] using this
theorem ZbY{a b:Tree}:Zb [a]=Zb [b]↔Z5 a=Z5 b:=by simp [Zb]
def OptR{α β:Type}(R:α->β->Prop):Option α->Option β->Prop
 | none,none=> True
 | some a,some b=> R a b
 | _,_=> False
theorem OptR.rfl'{α:Type}(a:Option α):OptR Eq a a:=by cases a;exact trivial;exact rfl
theorem OptR.bind{α β γ δ:Type}{R:α->β->Prop}{S:γ->δ->Prop}{a:Option α}{b:Option β}{f:α->Option γ}{g:β->Option δ}(h:OptR R a b)(hf:∀ x y,R x y->OptR S (f x) (g y)):OptR S (a.bind f) (b.bind g):=by
 cases a <;> cases b <;> first | exact trivial | exact h.elim | exact hf _ _ h
theorem OptR.map{α β γ δ:Type}{R:α->β->Prop}{S:γ->δ->Prop}{a:Option α}{b:Option β}{f:α->γ}{g:β->δ}(h:OptR R a b)(hf:∀ x y,R x y->S (f x) (g y)):OptR S (a.map f) (b.map g):=by
 cases a <;> cases b <;> first | exact trivial | exact h.elim | exact hf _ _ h
theorem OptR.ite{α β:Type}{R:α->β->Prop}{p q:Prop} [Decidable p] [Decidable q] {a c:Option α}{b d:Option β}(h:p↔q)(h1:p->OptR R a b)(h2:¬p->OptR R c d):OptR R (if p then a else c) (if q then b else d):=by
 grind
theorem OptR.mono{α β:Type}{R S:α->β->Prop}{a:Option α}{b:Option β}(h:OptR R a b)(hf:∀ x y,R x y->S x y):OptR S a b:=by
 cases a <;> cases b <;> first | exact trivial | exact h.elim | exact hf _ _ h
theorem OptR.normed{a b:Option Tree}(h:OptR (fun x y=> Z5 x=Z5 y) a b):a.map Z5=b.map Z5:=by
 cases a <;> cases b <;> first | rfl | exact h.elim | exact congrArg some h
def Eqv(x y:Tree):Prop:=Z5 x=Z5 y
def EqvL(x y:List Tree):Prop:=Zb x=Zb y
theorem EqvL.take{x y:List Tree}(h:EqvL x y)(n:Nat):EqvL (x.take n) (y.take n):=by unfold EqvL Zb at*;simp_all
theorem EqvL.drop{x y:List Tree}(h:EqvL x y)(n:Nat):EqvL (x.drop n) (y.drop n):=by unfold EqvL Zb at*;simp_all
theorem EqvL.len{x y:List Tree}(h:EqvL x y):x.length=y.length:=Z4t h
theorem ZfM(l:List Tree)(i:Nat):(Zb l).getD i Tree.nil=Z5 (l.getD i Tree.nil):=by rw [<-Z4u];exact Z0H l i
theorem EqvL.get{x y:List Tree}(h:EqvL x y)(i:Nat):Eqv (x.getD i Tree.nil) (y.getD i Tree.nil):=by
 unfold Eqv;rw [<-ZfM,<-ZfM,h]
theorem ZlG{a b:Option (List Tree × List Tree)}(h:OptR (fun x y=> EqvL x.1 y.1/\EqvL x.2 y.2) a b):OptR EqvL (Z2z a) (Z2z b):=by
 unfold Z2z
 refine h.bind fun x y hxy=> ?_
 exact OptR.ite (by rw [hxy.2.len]) (fun _=> hxy.1) (fun _=> trivial)
mutual
theorem ZnL:∀ (e:Edit) (t:Tree),OptR Eqv (doE true e t) (doE false e t)
 | .mk k o n w ks l os,t=> by
  have h1:=Zql ks t.kids t.kids t.kids rfl
  have h2:=Zqk os t.kids [] [] rfl
  rw [Z1K,Z1K,Z0c]
  show OptR Eqv (Option.map (nrD true) _) _
  suffices h:∀ a b,OptR Eqv a b->OptR Eqv (Option.map (nrD true) a) b by
   refine h _ _ ?_
   refine OptR.ite QM (fun _=> rfl) fun _=> OptR.ite QM (fun _=> OptR.ite QM (fun _=> rfl) (fun _=> trivial)) fun _=> OptR.ite QM (fun _=> ?_) fun _=> OptR.ite QM (fun _=> ?_) (fun _=> trivial)
   .refine OptR.ite QM (fun _=> ?_) (fun _=> trivial)
    refine OptR.bind (R:=Eq) (OptR.rfl' _) ?_
    rintro a _ rfl
    exact h1.map fun x y h=> ZfO _ _ h
   .refine OptR.ite QM (fun _=> ?_) (fun _=> trivial)
    exact (ZlG (h2.mono fun x y h=> ⟨h.1,by rw [h.2];rfl⟩)).map fun x y h=> ZfO _ _ h
  intro a b h
  cases a <;> cases b <;> first | exact trivial | exact h.elim | skip
  unfold Eqv nrD at*
  simp only [Qf,if_true]
  show Z5 (Z5 _)=_
  rw [Z0G]
  exact h
theorem Zql:∀ (ks:List (KidOf Edit)) (tk a b:List Tree),EqvL a b->OptR EqvL (Z11 true tk ks a) (Z11 false tk ks b)
 | [],_,_,_,h=> h
 | k ::r,tk,a,b,h=> by
  rw [Z11,Z11]
  refine (Zwu k tk).bind fun x y hxy=> Zql r tk _ _ (ZrG h hxy)
theorem Zwu:∀ (k:KidOf Edit) (tk:List Tree),OptR Eqv (Z1p true tk k) (Z1p false tk k)
 | ⟨_,e⟩,tk=> by rw [Z1p,Z1p];exact ZnL e _
theorem Zqk:∀ (os:List (OpOf Edit)) (rest a b:List Tree),EqvL a b->OptR (fun x y=> EqvL x.1 y.1/\x.2=y.2) (J5 true os rest a) (J5 false os rest b)
 | [],rest,a,b,h=> ⟨h,rfl⟩
 | o ::r,rest,a,b,h=> by
  rw [J5,J5]
  refine (ZA6 o rest a b h).bind fun x y hxy=> ?_
  rw [hxy.2]
  exact Zqk r _ _ _ hxy.1
theorem ZA6:∀ (o:OpOf Edit) (rest a b:List Tree),EqvL a b->OptR (fun x y=> EqvL x.1 y.1/\x.2=y.2) (Z9c true o rest a) (Z9c false o rest b)
 | ⟨k,n,l,e⟩,rest,a,b,h=> by
  have he:=ZnL e (rest.getD 0 Tree.nil)
  rw [Z9c,Z9c]
  refine OptR.ite QM (fun _=> OptR.ite QM (fun _=> ⟨Z0V h rfl,rfl⟩) (fun _=> trivial)) fun _=> OptR.ite QM (fun _=> OptR.ite QM (fun _=> ⟨h,rfl⟩) (fun _=> trivial)) fun _=> OptR.ite QM (fun _=> ⟨Z0V h rfl,rfl⟩) fun _=> OptR.ite QM (fun _=> trivial) fun _=> ?_
  exact he.map fun x y h'=> ⟨Z0V h (ZbY.2 h'),rfl⟩
end
theorem Z0x(e:Edit)(t:Tree):(doE true e t)=(doE false e t).map Z5:=by
 have h:=ZnL e t
 have hi:(doE true e t).map Z5=doE true e t:=by
  rw [Z1K]
  generalize ite (e.kind=0) _ _=x
  cases x with
  | none=> rfl
  | some u=> simp [nrD,Z0G]
 rw [<-hi]
 exact h.normed
def Zxv(a b:List Int):Prop:=∀ i:Nat,a.getD i 0=b.getD i 0
def ZsB(a b:List Tree):Prop:=∀ i:Nat,Eqv (a.getD i Tree.nil) (b.getD i Tree.nil)
theorem Zgm{a b:Tree}(ha:a.kind=1)(hb:b.kind=1):Eqv a b↔Zxv a.words b.words/\ZsB a.kids b.kids:=by
 unfold Eqv Zxv ZsB
 rw [YS,ha,hb]
 simp [Eqv]
theorem Zwn{a b:Tree}(h0:a.kind≠0)(h1:a.kind≠1):Eqv a b↔a.kind=b.kind/\a.words=b.words/\EqvL a.kids b.kids:=by
 unfold Eqv EqvL
 rw [YS,if_neg h1,<-Z4u,<-Z4u,Zae]
 grind
theorem Eqv.kind{a b:Tree}(h:Eqv a b):a.kind=b.kind:=((YS a b).1 h).1
theorem Zoa{tw tv:List Int}(h:Zxv tw tv):∀ (ws:List WEdit) (a b:List Int),Zxv a b->OptR Zxv (wsD tw ws a) (wsD tv ws b)
 | [],_,_,hab=> hab
 | w ::r,a,b,hab=> by
  rw [wsD,wsD,h w.at_.toNat]
  refine OptR.ite QM (fun _=> Zoa h r _ _ fun i=> ?_) (fun _=> trivial)
  rw [Z1S,Z1S]
  split
  .try rfl
  .exact hab i
theorem Zs6(l:List Tree){a b:List Tree}(h:EqvL a b):Z22 l a=Z22 l b:=by
 unfold Z22
 rw [h.len,show Zb (a.take l.length)=Zb (b.take l.length) from h.take _]
mutual
theorem Zjs:∀ (e:Edit) (d:Int) (t s:Tree),Z9 e d=true->Eqv t s->OptR Eqv (doE false e t) (doE false e s)
 | .mk k o n w ks l os,d,t,s,hr,h=> by
  have h1:=ZlL ks t.kids s.kids
  have h2:=ZlJ os t.kids s.kids [] []
  have hk:=h.kind
  have hrt:=Zmn hr
  rw [Z1K,Z1K,Z0c,Z0c]
  show OptR Eqv (if k=0 then _ else _) (if k=0 then _ else _)
  refine OptR.ite QM (fun _=> h) fun _=> OptR.ite QM (fun _=> ?_) fun _=> OptR.ite QM (fun k2=> ?_) fun _=> OptR.ite QM (fun k3=> ?_) (fun _=> trivial)
  .rw [show Z5 t=Z5 s from h]
   exact OptR.ite QM (fun _=> rfl) (fun _=> trivial)
  .refine OptR.ite (by rw [hk]) (fun ht=> ?_) (fun _=> trivial)
   have hs:s.kind=1:=by rw [<-hk];exact ht
   obtain ⟨hw,hks⟩:=(Zgm ht hs).1 h
   refine (Zoa hw w t.words s.words hw).bind fun a b hab=> ?_
   refine (h1 hks hrt.1 t.kids s.kids hks).map fun x y hxy=> ?_
   exact (Zgm rfl rfl).2 ⟨hab,hxy⟩
  .refine OptR.ite (by rw [hk]) (fun ht=> ?_) (fun _=> trivial)
   have hl:=hrt.2.2
   have hos:=hrt.2.1
   replace ht:t.kind=l:=ht
   replace hl:2<=l/\l<=9:=hl k3
   obtain ⟨_,_,hks⟩:=(Zwn YL YL).1 h
   exact (ZlG (h2 hks rfl hos)).map fun x y hxy=> ZfO _ _ hxy
theorem ZlL:∀ (ks:List (KidOf Edit)) (tk sk:List Tree),ZsB tk sk->(∀ k∈ks,∃ d,Z9 k.e d=true)->∀ a b,ZsB a b->OptR ZsB (Z11 false tk ks a) (Z11 false sk ks b)
 | [],_,_,_,_,_,_,hab=> hab
 | k ::r,tk,sk,h,hr,a,b,hab=> by
  rw [Z11,Z11]
  obtain ⟨d,hd⟩:=hr k Q3
  refine (Zsd k d tk sk h hd).bind fun x y hxy=> ZlL r tk sk h (fun q hq=> hr q (Q0 _ hq)) _ _ fun i=> ?_
  rw [Z1S,Z1S]
  split
  .exact hxy
  .exact hab i
theorem Zsd:∀ (k:KidOf Edit) (d:Int) (tk sk:List Tree),ZsB tk sk->Z9 k.e d=true->OptR Eqv (Z1p false tk k) (Z1p false sk k)
 | ⟨a,e⟩,d,tk,sk,h,hr=> by rw [Z1p,Z1p];exact Zjs e d _ _ hr (h _)
theorem ZlJ:∀ (os:List (OpOf Edit)) (rt rs a b:List Tree),EqvL rt rs->EqvL a b->(∀ o∈os,∃ l d,Zc l o d=true)->OptR (fun x y=> EqvL x.1 y.1/\EqvL x.2 y.2) (J5 false os rt a) (J5 false os rs b)
 | [],_,_,_,_,h,hab,_=> ⟨hab,h⟩
 | o ::r,rt,rs,a,b,h,hab,hr=> by
  rw [J5,J5]
  refine (Zwt o rt rs a b h hab (hr o Q3)).bind fun x y hxy=> ZlJ r _ _ _ _ hxy.2 hxy.1 (fun q hq=> hr q (Q0 _ hq))
theorem Zwt:∀ (o:OpOf Edit) (rt rs a b:List Tree),EqvL rt rs->EqvL a b->(∃ l d,Zc l o d=true)->OptR (fun x y=> EqvL x.1 y.1/\EqvL x.2 y.2) (Z9c false o rt a) (Z9c false o rs b)
 | ⟨k,n,l,e⟩,rt,rs,a,b,h,hab,hr=> by
  obtain ⟨li,d,hr⟩:=hr
  have he:=fun h3=> Zjs e d (rt.getD 0 Tree.nil) (rs.getD 0 Tree.nil) (Jo hr h3) (h.get 0)
  have hlen:=h.len
  rw [Z9c,Z9c]
  refine OptR.ite QM (fun _=> OptR.ite (by rw [hlen]) (fun _=> ⟨Z0V hab (h.take _),h.drop _⟩) (fun _=> trivial)) fun k0=> OptR.ite QM (fun _=> ?_) fun k1=> OptR.ite QM (fun _=> ⟨Z0V hab rfl,h⟩) fun k2=> OptR.ite (by rw [hlen]) (fun _=> trivial) fun _=> ?_
  .rw [Zs6 l h]
   exact OptR.ite QM (fun _=> ⟨hab,h.drop _⟩) (fun _=> trivial)
  .have h03:k=0\/k=1\/k=2\/k=3:=by
    have r:=Y0 hr
    generalize ho:OpOf.mk k n l e=o at r
    cases r <;> (injection ho with h1;subst h1;decide)
   exact (he (by grind)).map fun x y h'=> ⟨Z0V hab (ZbY.2 h'),h.drop _⟩
end
theorem Zei:∀ (ks:List Kid),(JQ ks).length=ks.length
 | []=> rfl
 | k ::r=> by simp only [JQ,Q7,Zei r]
noncomputable section
def ZoO(a:Edit × Unit):V U:= .agg (enc .edit (Z1u a.1))
def Zew:Fs U:=fs ZwS (fun a=> [Zfl a]) ZoO
def Jq(N:Nat):List (FuncId × Fs U):=(71,fs ZwS (fun a=> [Zfl a,Zl9 a < N]) ZoO) ::[]
def Z3q:Zd U:=lvk [([1,2],[1,2]),([1,2,3],[1,2,3]),([1,2,3],[1,2,3]),([1,2,3],[1,2,3]),([1,2,3,4],[1,2,((.loc 3),(an 7 [.own .wedit]))]),([1,2,3,4,25],[1,2,3]),([1,2,3,4],[1,2,((.loc 3),(an 7 [.own .wedit]))]),([1,2,3,4,5],[1,2,3,5]),([1,2,3,4,5,6],[1,2,3,5]),([1,2,3,4,5,6],[1,2,3,5]),([1,2,3,4,5],[1,2,3,5]),([1,2,3,4],[1,2,3]),([1,2,3,7],[1,2,((.loc 3),(an 8 [.own .kid]))]),([1,2,3,7,50],[1,2,3]),([1,2,3,7],[1,2,((.loc 3),(an 8 [.own .kid]))]),([1,2,3,7],[1,2,3]),([1,2,3,8],[1,2,((.loc 3),(an 10 [.own .op]))]),([1,2,3,8,76],[1,2,3]),([1,2,3,8],[1,2,((.loc 3),(an 10 [.own .op]))]),([1,2,3,8,9],[1,2,3,9]),([1,2,3,8,9,91],[1,2,3,9]),([1,2,3,8,9,91],[1,2,3,9]),([1,2,3,8,9],[1,2,3,9]),([1,2,3,8],[1,2,3]),([2],[2])]
def ZaE(e:Edit)(x4:Int)(ml3_7:List WEdit):LSt U:=(L2 [pL 1,pL 2,pL 3,pI 4 x4] [(.loc 1,(enc .edit e)),(.loc 2,zc1),(.loc 3,([ci e.kind]++enc .tree e.new++enc .tree e.old++[sU .wedit ml3_7 (.own (.l 3 7)),.nils,ci e.list,.nils]))])
def ZaD(e:Edit)(ml3_7:List WEdit)(x7_a:Int)(ml3_8_a:List Kid):LSt U:=(L2 [pL 1,pL 2,pL 3,pI 7 x7_a] [(.loc 1,(enc .edit e)),(.loc 2,zc1),(.loc 3,([ci e.kind]++enc .tree e.new++enc .tree e.old++[sU .wedit ml3_7 (.own (.l 3 7)),sU .kid ml3_8_a (.own (.l 3 8)),ci e.list,.nils]))])
def Z4G(e:Edit)(ml3_7:List WEdit)(ml3_8_a:List Kid)(x8_b:Int)(ml3_10_b:List Op):LSt U:=(L2 [pL 1,pL 2,pL 3,pI 8 x8_b] [(.loc 1,(enc .edit e)),(.loc 2,zc1),(.loc 3,([ci e.kind]++enc .tree e.new++enc .tree e.old++[sU .wedit ml3_7 (.own (.l 3 7)),sU .kid ml3_8_a (.own (.l 3 8)),ci e.list,sU .op ml3_10_b (.own (.l 3 10))]))])
def Zgj(e:Edit)(ml3_7:List WEdit)(ml3_8_a:List Kid)(x8_b:Int)(ml3_10_b:List Op)(ml9_0_c:Int):LSt U:=(L2 [pL 1,pL 2,pL 3,pI 8 x8_b,pL 9,(91,.c (.bool (bif (((OpOf.kind (e.ops.getD x8_b.toNat Op.nil)):Int)==1) then true else (((OpOf.kind (e.ops.getD x8_b.toNat Op.nil)):Int)==2))))] [(.loc 1,(enc .edit e)),(.loc 2,zc1),(.loc 3,([ci e.kind]++enc .tree e.new++enc .tree e.old++[sU .wedit ml3_7 (.own (.l 3 7)),sU .kid ml3_8_a (.own (.l 3 8)),ci e.list,sU .op ml3_10_b (.own (.l 3 10))])),(.loc 9,([ci ml9_0_c,ci (OpOf.n (e.ops.getD x8_b.toNat Op.nil)),sU .tree (OpOf.l (e.ops.getD x8_b.toNat Op.nil)) .unk]++enc .edit (OpOf.e (e.ops.getD x8_b.toNat Op.nil))))])
abbrev W71(N:Nat)(e:Edit)(Q:QT):=AW (Z1 (Jq N)) Tryz.f71 Z3q [] (L2 [(0,.agg (enc .edit e))] []) Q
theorem ZIP(N:Nat)(e:Edit)(Q:QT)(h:Zj (AW (Z1 (Jq N)) Tryz.f71 Z3q [1,1,1,1,0,1,0,0]) (ZaE e 0 []) (xB 0 (SW (Z1 (Jq N)) Tryz.f71 Z3q [1,1,1,1,1] Q))):
  W71 N e Q:=
 Eq.mpr V4 h
abbrev ZFf(N:Nat)(e:Edit)(x4:Int)(ml3_7:List WEdit)(N0:NT)(Q:QT):=AW (Z1 (Jq N)) Tryz.f71 Z3q [1,1,1,1,0,1,0,0] (ZaE e x4 ml3_7) (xT N0 (xB 0 (SW (Z1 (Jq N)) Tryz.f71 Z3q [1,1,1,1,1] Q)))
theorem ZxR(N:Nat)(e:Edit)(x4:Int)(ml3_7:List WEdit)(N0:NT)(Q:QT)(h:let z0:=e.words.getD x4.toNat (WEdit.mk 0 0 0 0);let z1:=WEdit.mk (WEdit.at_ z0) (WEdit.mask z0) (WEdit.new z0) (WEdit.old z0);iB (decide (x4 < (e.words.length:Int))) (((0:Int)<=x4/\x4 < (e.words.length:Int))/\(((ml3_7.length+([z1]).length)*32<=140737488355328)/\((InR (x4+1))/\(N0 (ZaE e (x4+1) (ml3_7++([z1]))))))) (Zj (AW (Z1 (Jq N)) Tryz.f71 Z3q [1,1,1,1,1,0,1,0,0]) (ZaD e ml3_7 0 []) (xB 2 (SW (Z1 (Jq N)) Tryz.f71 Z3q [1,1,1,1,1,1] Q)))):
  ZFf N e x4 ml3_7 N0 Q:=
 Eq.mpr V4 h
abbrev ZFe(N:Nat)(e:Edit)(ml3_7:List WEdit)(x7_a:Int)(ml3_8_a:List Kid)(N1:NT)(Q:QT):=AW (Z1 (Jq N)) Tryz.f71 Z3q [1,1,1,1,1,0,1,0,0] (ZaD e ml3_7 x7_a ml3_8_a) (xT N1 (xB 2 (SW (Z1 (Jq N)) Tryz.f71 Z3q [1,1,1,1,1,1] Q)))
theorem ZxQ(N:Nat)(e:Edit)(ml3_7:List WEdit)(x7_a:Int)(ml3_8_a:List Kid)(N1:NT)(Q:QT)(h:∀ y_1,y_1=(e.kids.getD x7_a.toNat (KidOf.mk 0 Edit.nil))->∀ y_2,y_2=(y_1.e)->∀ y_3,y_3=(Z1u y_2)->iB (decide (x7_a < (e.kids.length:Int))) (((0:Int)<=x7_a/\x7_a < (e.kids.length:Int))/\((0:Int)<=x7_a/\x7_a < (e.kids.length:Int))/\(Zfl (y_2,()))/\(Zl9 (y_2,()) < N)/\((ml3_8_a.length+([(KidOf.mk y_1.at_ y_3:Kid)]).length)*208<=140737488355328)/\((InR (x7_a+1))/\(N1 (ZaD e ml3_7 (x7_a+1) (ml3_8_a++([(KidOf.mk y_1.at_ y_3:Kid)])))))) (Zj (AW (Z1 (Jq N)) Tryz.f71 Z3q [1,1,1,1,1,1,0,1,0,0]) (Z4G e ml3_7 ml3_8_a 0 []) (xB 4 (SW (Z1 (Jq N)) Tryz.f71 Z3q [1,1,1,1,1,1,1] Q)))):
  ZFe N e ml3_7 x7_a ml3_8_a N1 Q:=
 Eq.mpr V4 (h _ rfl _ (Z7 _) _ (Z7 _))
abbrev ZFd(N:Nat)(e:Edit)(ml3_7:List WEdit)(ml3_8_a:List Kid)(x8_b:Int)(ml3_10_b:List Op)(N2:NT)(Q:QT):=AW (Z1 (Jq N)) Tryz.f71 Z3q [1,1,1,1,1,1,0,1,0,0] (Z4G e ml3_7 ml3_8_a x8_b ml3_10_b) (xT N2 (xB 4 (SW (Z1 (Jq N)) Tryz.f71 Z3q [1,1,1,1,1,1,1] Q)))
theorem ZxP(N:Nat)(e:Edit)(ml3_7:List WEdit)(ml3_8_a:List Kid)(x8_b:Int)(ml3_10_b:List Op)(N2:NT)(Q:QT)(h:let z1:=xB 5 (SW (Z1 (Jq N)) Tryz.f71 Z3q [1,1,1,1,1,1,0,1,0,0,1,1] (xT N2 (xB 4 (SW (Z1 (Jq N)) Tryz.f71 Z3q [1,1,1,1,1,1,1] Q))));let z0:=OpOf.kind (e.ops.getD x8_b.toNat Op.nil);let z2:= !((z0:Int)==1);(iB (decide (x8_b < (e.ops.length:Int))) (((0:Int)<=x8_b/\x8_b < (e.ops.length:Int))/\((Tt z2)/\(Tt z2)/\(((z0:Int)==1)=false->z2=true)/\(iB (bif ((z0:Int)==1) then true else ((z0:Int)==2)) ((InR ((3:Int) - z0))/\(AW (Z1 (Jq N)) Tryz.f71 Z3q [1,1,1,1,1,1,0,1,0,0,1,0,0,1,1] (Zgj e ml3_7 ml3_8_a x8_b ml3_10_b ((3:Int) - z0)) z1)) (AW (Z1 (Jq N)) Tryz.f71 Z3q [1,1,1,1,1,1,0,1,0,0,1,0,0,1,1] (Zgj e ml3_7 ml3_8_a x8_b ml3_10_b z0) z1)))) ((Q .ret (L2 [pL 2] [(.loc 2,([ci e.kind]++enc .tree e.new++enc .tree e.old++[sU .wedit ml3_7 (.own (.l 2 7)),sU .kid ml3_8_a (.own (.l 2 8)),ci e.list,sU .op ml3_10_b (.own (.l 2 10))]))]))))):
  ZFd N e ml3_7 ml3_8_a x8_b ml3_10_b N2 Q:=
 Eq.mpr V4 h
abbrev Zxr(N:Nat)(e:Edit)(ml3_7:List WEdit)(ml3_8_a:List Kid)(x8_b:Int)(ml3_10_b:List Op)(ml9_0_c:Int)(N2:NT)(Q:QT):=AW (Z1 (Jq N)) Tryz.f71 Z3q [1,1,1,1,1,1,0,1,0,0,1,0,0,1,1] (Zgj e ml3_7 ml3_8_a x8_b ml3_10_b ml9_0_c) (xB 5 (SW (Z1 (Jq N)) Tryz.f71 Z3q [1,1,1,1,1,1,0,1,0,0,1,1] (xT N2 (xB 4 (SW (Z1 (Jq N)) Tryz.f71 Z3q [1,1,1,1,1,1,1] Q)))))
theorem ZxS(N:Nat)(e:Edit)(ml3_7:List WEdit)(ml3_8_a:List Kid)(x8_b:Int)(ml3_10_b:List Op)(ml9_0_c:Int)(N2:NT)(Q:QT)(h:∀ y_1,y_1=(e.ops.getD x8_b.toNat Op.nil)->∀ y_2,y_2=(y_1.e)->∀ y_3,y_3=(Z1u y_2)->(Zfl (y_2,()))/\(Zl9 (y_2,()) < N)/\(((ml3_10_b.length+([(OpOf.mk ml9_0_c y_1.n y_1.l y_3:Op)]).length)*240<=140737488355328)/\((InR (x8_b+1))/\(N2 (Z4G e ml3_7 ml3_8_a (x8_b+1) (ml3_10_b++([(OpOf.mk ml9_0_c y_1.n y_1.l y_3:Op)]))))))):
  Zxr N e ml3_7 ml3_8_a x8_b ml3_10_b ml9_0_c N2 Q:=
 Eq.mpr V4 (h _ rfl _ (Z7 _) _ (Z7 _))
def ZFH(N:Nat)(e:Edit):Prop:=AW (Z1 (Jq N)) Tryz.f71 Z3q [] (Zg (ZwS.can (e,())) []) (EQ Tryz.f71 (ZoO (e,())) [])
theorem ZD7(hb:∀ (N:Nat) (e:Edit) (_:Unit),Zfl (e,())->Zl9 (e,()) < N+1->ZFH N e):CT 71 Zew:=
 Yi (μ:=Zl9) (l:=[]) Zi rfl trivial Z3q Tryz.func71 rfl rfl 1 (fun _=> rfl) V2 (fun N ⟨e,_⟩=> hb N e ())
end
theorem Zdd{α β:Type}{f:α->β}(d:α){a b:List α}(hl:a.length=b.length)(h:∀ i:Nat,i < a.length->f (a.getD i d)=f (b.getD i d)):a.map f=b.map f:=by
 apply K0 (by simpa using hl)
 grind
theorem Z6J{α β:Type}{f:α->β}{d:α}{a b:List α}(h:a.map f=b.map f)(i:Nat):f (a.getD i d)=f (b.getD i d):=by
 have e:=congrArg (fun l=> l[i]?.getD (f d)) h
 grind
theorem Zrn(e:Edit):Z1u e= .mk e.kind e.new e.old (e.words.map Z2f) (Z2r e.kids) e.list (Z0b e.ops):=by cases e;rfl
theorem Zkl(k:Kid):Z9K k=⟨k.at_,Z1u k.e⟩:=by cases k;rfl
theorem ZeX(o:Op):ZdP o=⟨Z8G o.kind,o.n,o.l,Z1u o.e⟩:=by cases o;rfl
theorem c71:Contract Tryz.prog cfg 71 Zew:=by
 refine ZD7 ?_
 intro N e _ hp hN
 simp only [Zfl,Zl9] at hp hN
 have h1:=ZT e
 have h2:=Y1 e.kids
 have h3:=ZF e.ops
 have ha:=Zrn e
 refine ZIP _ _ _ ?_
 refine Z4 (ι:=Int × List WEdit) (fun s=> ZaE e s.1 s.2) (fun s=> 0<=s.1/\s.1<=e.words.length/\s.2.length=s.1/\s.2++(e.words.drop s.1.toNat).map Z2f=e.words.map Z2f) (fun s=> ((e.words.length:Int) - s.1).toNat) (0,[]) rfl ⟨by simp,by simp,by simp,by simp⟩ ?_
 rintro ⟨i,ws⟩ ⟨g1,g2,g3,g4⟩
 dsimp only at g1 g2 g3 g4
 refine ZxR _ _ _ _ _ _ ?_
 (simp only [iB,vcS])
 refine ⟨fun hi=> ?_,fun hi=> ?_⟩
 .rw [ZH g1 hi (WEdit.mk 0 0 0 0)] at g4
  simp only [Qo] at g4
  refine ⟨⟨g1,hi⟩,by simp;omega,V3,(i+1,ws++[Z2f (e.words.getD i.toNat (WEdit.mk 0 0 0 0))]),rfl,⟨V5,V5,by simp;omega,?_⟩,V5⟩
  simp only [Qb,Qk,Qq]
  exact g4
 .rw [Q6 YL] at g4
  simp only [QQ,Qs] at g4
  refine Z4 (ι:=Int × List Kid) (fun s=> ZaD e ws s.1 s.2) (fun s=> 0<=s.1/\s.1<=e.kids.length/\s.2.length=s.1/\s.2++Z2r (e.kids.drop s.1.toNat)=Z2r e.kids) (fun s=> ((e.kids.length:Int) - s.1).toNat) (0,[]) rfl ⟨by simp,by simp,by simp,by simp⟩ ?_
  rintro ⟨j,ks⟩ ⟨f1,f2,f3,f4⟩
  dsimp only at f1 f2 f3 f4
  refine ZxQ _ _ _ _ _ _ _ ?_
  rintro y1 hy1 y2 hy2 y3 hy3
  (simp only [iB,vcS])
  refine ⟨fun hj=> ?_,fun hj=> ?_⟩
  .have hm:=Yw (Zf (l:=e.kids) (i:=j.toNat) YL (KidOf.mk 0 Edit.nil))
   rw [ZH f1 hj (KidOf.mk 0 Edit.nil)] at f4
   rw [<-hy1] at f4 hm
   simp only [Z2r,Zkl] at f4
   rw [<-hy2] at f4 hm
   rw [<-hy3] at f4
   refine ⟨⟨f1,hj⟩,⟨f1,hj⟩,by simp only [Zfl];omega,by simp only [Zl9];omega,by simp;omega,V3,(j+1,ks++[⟨y1.at_,y3⟩]),rfl,⟨V5,V5,by simp;omega,?_⟩,V5⟩
   simp only [Qb,Qk,Qq]
   exact f4
  .rw [Q6 YL] at f4
   simp only [Z2r,Qs] at f4
   refine Z4 (ι:=Int × List Op) (fun s=> Z4G e ws ks s.1 s.2) (fun s=> 0<=s.1/\s.1<=e.ops.length/\s.2.length=s.1/\s.2++Z0b (e.ops.drop s.1.toNat)=Z0b e.ops) (fun s=> ((e.ops.length:Int) - s.1).toNat) (0,[]) rfl ⟨by simp,by simp,by simp,by simp⟩ ?_
   rintro ⟨k,os⟩ ⟨d1,d2,d3,d4⟩
   dsimp only at d1 d2 d3 d4
   refine ZxP _ _ _ _ _ _ _ _ ?_
   simp only [iB,vcT,vcS,aiT,true_and]
   refine ⟨fun hj=> ⟨⟨d1,hj⟩,?_⟩,fun hj=> ?_⟩
   .have hm:=ZI (Zf (l:=e.ops) (i:=k.toNat) YL Op.nil)
    rw [ZH d1 hj Op.nil] at d4
    simp only [Z0b,ZeX] at d4
    rw [ZG] at hm
    have next:∀ kd:Int,kd=Z8G (e.ops.getD k.toNat Op.nil).kind->∀ (R:AExit->LSt U->Prop),(∀ s,(∃ j:Int × List Op,s=Z4G e ws ks j.1 j.2/\(0<=j.1/\j.1<=e.ops.length/\j.2.length=j.1/\j.2++Z0b (e.ops.drop j.1.toNat)=Z0b e.ops)/\((e.ops.length:Int) - j.1).toNat < ((e.ops.length:Int) - k).toNat)->True)->True:=fun _ _ _ _=> trivial
    have key:∀ kd:Int,kd=Z8G (e.ops.getD k.toNat Op.nil).kind->∀ (Q':AExit->LSt U->Prop),Zxr N e ws ks k os kd (fun s2=> ∃ j:Int × List Op,s2=Z4G e ws ks j.1 j.2/\(0<=j.1/\j.1<=e.ops.length/\j.2.length=j.1/\j.2++Z0b (e.ops.drop j.1.toNat)=Z0b e.ops)/\((e.ops.length:Int) - j.1).toNat < ((e.ops.length:Int) - k).toNat) Q':=by
     intro kd hkd Q'
     refine ZxS _ _ _ _ _ _ _ _ _ ?_
     rintro z1 hz1 z2 hz2 z3 hz3
     rw [<-hz1,<-hz2] at hm
     rw [<-hz1,<-hz2,<-hz3] at d4
     rw [<-hz1] at hkd
     refine ⟨by simp only [Zfl];omega,by simp only [Zl9];omega,by simp;omega,V3,(k+1,os++[⟨kd,z1.n,z1.l,z3⟩]),rfl,⟨V5,V5,by simp;omega,?_⟩,V5⟩
     rw [hkd]
     simp only [Qb,Qk,Qq]
     exact d4
    refine ⟨fun hq=> ⟨V3,key _ (by unfold Z8G;rw [if_pos hq]) _⟩,fun hq=> key _ (by unfold Z8G;rw [V0]) _⟩
   .rw [Q6 YL] at d4
    simp only [Z0b,Qs] at d4
    rw [g4,f4,d4]
    simp only [ZoO,ha]
    exact JR
theorem ZbF:Z1u Edit.nil=Edit.nil:=by rfl
theorem ZtN{list d:Int}{o:Op}(h:Zc list o d=true)(hi:o.kind=3->Z1u o.e=Zs o.e):ZdP o=YO o:=by
 have hok:=Z0F h
 rw [ZeX,Jt]
 unfold ZQ at hok
 unfold Z8G
 rcases hok with ⟨k,a,b,c⟩ | ⟨k,a,b,c⟩ | ⟨k,a,b⟩
 .rw [V0,V0,V0,V0,c,ZbF]
 .rcases k with k | k
  .rw [if_pos (Or.inl k),if_pos k,c,ZbF,k];try rfl
  .rw [if_pos (Or.inr k),V0,if_pos k,c,ZbF,k];try rfl
 grind
mutual
theorem Z8F:∀ (e:Edit) (d:Int),Z9 e d=true->Z1u e=Zs e
 | .mk k o n w ks l os,d,h=> by
  have hin:=Z7d h
  simp only [Edit.kids_mk,Edit.ops_mk,Edit.list_mk] at hin
  have h1:=Zkk ks (d - 1) (fun k hk=> (hin.1 k hk).1)
  have h2:=Zkj l os (d - 1) hin.2
  rw [Z1u,Zs,h1,h2]
theorem Zkk:∀ (ks:List (KidOf Edit)) (d:Int),(∀ k∈ks,Z9 k.e d=true)->Z2r ks=JQ ks
 | [],_,_=> rfl
 | k ::r,d,h=> by
  have h1:=Zrm k d (h k (Q3 ..))
  have h2:=Zkk r d (fun x hx=> h x (Q0 _ hx))
  rw [Z2r,JQ,h1,h2]
theorem Zrm:∀ (k:KidOf Edit) (d:Int),Z9 k.e d=true->Z9K k=Z12 k
 | ⟨a,e⟩,d,h=> by
  have h1:=Z8F e d h
  rw [Z9K,Z12,h1]
theorem Zkj(list:Int):∀ (os:List (OpOf Edit)) (d:Int),(∀ o∈os,Zc list o d=true)->Z0b os=Jm os
 | [],_,_=> rfl
 | o ::r,d,h=> by
  have h1:=ZtO list o d (h o (Q3 ..))
  have h2:=Zkj list r d (fun x hx=> h x (Q0 _ hx))
  rw [Z0b,Jm,h1,h2]
theorem ZtO(list:Int):∀ (o:OpOf Edit) (d:Int),Zc list o d=true->ZdP o=YO o
 | ⟨k,n,l,e⟩,d,h=> by
  refine ZtN h (fun hk=> ?_)
  simp only at hk
  subst hk
  rw [Jp] at h
  simp only [show ¬(3:Int)=0 by decide,show ¬(3:Int) < 3 by decide,if_false] at h
  split at h
  .cases h
  .simp only [Q2] at h
   exact Z8F e d h.1.2
end
theorem Z2L(t:Tree):(Z5 t).kind=t.kind:=by
 obtain ⟨k,w,ks⟩:=t
 simp only [Z5]
 by_cases h0:k=0
 .rw [if_pos h0,h0];try rfl
 .rw [if_neg h0]
  by_cases h1:k=1
  .rw [if_pos h1,h1];try rfl
  .rw [if_neg h1];try rfl
theorem Zek:∀ (l:List Int),∃ r,l=trim l++r
 | []=> ⟨[],rfl⟩
 | x ::r=> by
  obtain ⟨s,hs⟩:=Zek r
  simp only [trim]
  split
  .rename_i e
   split
   .exact ⟨x ::r,rfl⟩
   .exact ⟨r,rfl⟩
  .rename_i y t e
   rw [e] at hs
   exact ⟨s,by rw [hs];rfl⟩
theorem Zbt:∀ (l:List Tree),∃ r,l=Yh l++r
 | []=> ⟨[],rfl⟩
 | x ::r=> by
  obtain ⟨s,hs⟩:=Zbt r
  simp only [Yh]
  split
  .rename_i e
   split
   .exact ⟨x ::r,rfl⟩
   .exact ⟨r,rfl⟩
  .rename_i y t e
   rw [e] at hs
   exact ⟨s,by rw [hs];rfl⟩
theorem Zf4{list d:Int}:∀ (a b:List Tree),Yv list (a++b) d=true->Yv list a d=true
 | [],_,_=> rfl
 | t ::r,b,h=> by
  simp only [Qk,Yv,Q2] at h ⊢
  exact ⟨h.1,Zf4 r b h.2⟩
theorem Z2t:∀ (l:List Tree),(Yk l).length=l.length
 | []=> rfl
 | t ::r=> by simp only [Yk,Q7,Z2t r]
theorem Zs1{list:Int}{t:Tree}(h:Z0L list t=true):Z0L list (Z5 t)=true:=by
 unfold Z0L at h ⊢
 rw [Z2L]
 split at h
 .rename_i hl
  rw [if_pos hl]
  simp only [Q2,decide_eq_true_eq] at h ⊢
  obtain ⟨⟨h1,h2,h3⟩,h4⟩:=h
  obtain ⟨k,w,ks⟩:=t
  simp only [Tree.kind_mk,Tree.kids_mk,Tree.words_mk] at h1 h2 h3 h4
  have:ks=[]:=QI.1 h2
  subst this
  subst h1
  trivial
 grind
mutual
theorem Z1X:∀ (t:Tree) (d:Int),Ze t d=true->Ze (Z5 t) d=true
 | .mk k w ks,d,h=> by
  have ih:=fun (list:Int) (h:Yv list ks (d - 1)=true)=> Z69 ks list (d - 1) h
  simp only [Ze] at h
  simp only [Z5]
  by_cases h0:k=0
  .rw [if_pos h0];try rfl
  .rw [if_neg h0] at h ⊢
   by_cases h10:k=10
   .subst h10
    rw [if_pos rfl] at h
    rw [if_neg V2]
    simp only [decide_eq_true_eq] at h
    simp only [Ze]
    rw [if_neg V2,if_pos trivial,Z2t]
    simpa using h
   .rw [if_neg h10] at h
    by_cases hd:d=0
    .grind
    .rw [if_neg hd] at h
     by_cases h1:k=1
     .subst h1
      rw [if_pos rfl] at h
      rw [if_pos rfl]
      simp only [Q2,decide_eq_true_eq] at h
      simp only [Ze]
      rw [if_neg V2,if_neg V2,if_neg hd,if_pos trivial]
      simp only [Q2,decide_eq_true_eq]
      obtain ⟨r1,e1⟩:=Zek w
      obtain ⟨r2,e2⟩:=Zbt (Yk ks)
      have l1:=congrArg List.length e1
      have l2:=congrArg List.length e2
      rw [Z2t] at l2
      simp only [Qd] at l1 l2
      refine ⟨⟨YL,YL⟩,?_⟩
      have:=ih 1 h.2
      rw [e2] at this
      exact Zf4 _ _ this
     .rw [if_neg h1] at h ⊢
      simp only [Q2,decide_eq_true_eq] at h
      simp only [Ze]
      rw [if_neg h0,if_neg h10,if_neg hd,if_neg h1,Z2t]
      grind
theorem Z69:∀ (l:List Tree) (list d:Int),Yv list l d=true->Yv list (Yk l) d=true
 | [],_,_,_=> rfl
 | t ::r,list,d,h=> by
  simp only [Yv,Q2] at h
  have h1:=Z1X t d h.1.2
  have h2:=Z69 r list d h.2
  simp only [Yk,Yv,Q2]
  exact ⟨⟨Zs1 h.1.1,h1⟩,h2⟩
end
theorem Z1r(e:Edit):(Zs e).kind=e.kind:=by cases e;rfl
theorem Zh3(e:Edit):(Zs e).old=e.new:=by cases e;rfl
theorem Zh4(e:Edit):(Zs e).new=e.old:=by cases e;rfl
theorem Z9k:∀ (l:List WEdit) (last:Int),ZN last (l.map Z2f)=ZN last l
 | [],_=> rfl
 | w ::r,last=> by
  simp only [Qo,ZN,Z9k r]
  have h1:(Z2f w).at_=w.at_:=rfl
  have h2:(Z2f w).mask=w.mask:=rfl
  have h3:(Z2f w).old=w.new:=rfl
  have h4:(Z2f w).new=w.old:=rfl
  grind
theorem Zmd(o:Op):Z3 (YO o)=Z3 o/\((YO o).kind=2↔o.kind=1)/\((YO o).kind=1↔o.kind=2):=by
 rw [Jt]
 by_cases h1:o.kind=1
 .rw [if_pos h1];simp [Z3,h1]
 .rw [if_neg h1]
  by_cases h2:o.kind=2
  .rw [if_pos h2];simp [Z3,h2]
  .rw [if_neg h2]
   by_cases h3:o.kind=3
   .rw [if_pos h3];simp [Z3,h3]
   simp_all
theorem Zav:∀ (l:List Op) (n:Int),Z1i (Jm l) n=Z1h l n/\Z1h (Jm l) n=Z1i l n
 | [],_=> ⟨rfl,rfl⟩
 | o ::r,n=> by
  obtain ⟨h1,h2,h3⟩:=Zmd o
  simp only [Jm,Z1i,Z1h]
  rw [h1]
  constructor
  .rw [(Zav r _).1]
   grind
  .rw [(Zav r _).2]
   grind
theorem Z8y:∀ (l:List Op),(Jm l).length=l.length
 | []=> rfl
 | o ::r=> by simp only [Jm,Q7,Z8y r]
theorem ZyL{list d:Int}{o:Op}(h:Zc list o d=true)(hi:Z9 o.e d=true->Z9 (Zs o.e) d=true):Zc list (YO o) d=true:=by
 have h':=h
 rw [Jp] at h
 by_cases k0:o.kind=0
 .have e:YO o=o:=by rw [Jt,V0,V0,V0]
  grind
 .rw [if_neg k0] at h
  split at h
  .cases h
  .rename_i hk
   by_cases k3:o.kind=3
   .rw [V0] at h
    have e:YO o=⟨o.kind,o.n,o.l,Zs o.e⟩:=by rw [Jt,V0,V0,if_pos k3]
    rw [e,Jp]
    simp only
    rw [if_neg k0,if_neg hk,V0,Z1r,Zh3,Zh4]
    grind
   .rw [V1] at h
    have hk':o.kind=1\/o.kind=2:=YL
    rcases hk' with k | k
    .have e:YO o=⟨2,o.n,o.l,o.e⟩:=by rw [Jt,if_pos k]
     rw [e,Jp]
     grind
    .have e:YO o=⟨1,o.n,o.l,o.e⟩:=by rw [Jt,V0,if_pos k]
     rw [e,Jp]
     grind
mutual
theorem JC:∀ (e:Edit) (d:Int),Z9 e d=true->Z9 (Zs e) d=true
 | .mk k o n w ks l os,d,h=> by
  have h1:=Z9P ks
  have h2:=Z9M l os
  simp only [Z9] at h
  simp only [Zs,Z9]
  split at h
  .cases h
  .rename_i a
   rw [if_neg a]
   split at h
   .cases h
   .rename_i b
    rw [if_neg (by rw [QC,Zei,Z8y];grind)]
    split at h
    .grind
    .rename_i c
     rw [if_neg c]
     simp only [Q2,decide_eq_true_eq] at h ⊢
     obtain ⟨⟨⟨⟨x1,x2⟩,x3⟩,x4⟩,x5⟩:=h
     refine ⟨⟨⟨⟨by rw [Z9k];exact x1,h1 _ _ x2⟩,x3⟩,h2 _ x4⟩,?_⟩
     rw [(Zav os 0).1,(Zav os 0).2]
     omega
theorem Z9P:∀ (ks:List (KidOf Edit)) (last d:Int),Zx last ks d=true->Zx last (JQ ks) d=true
 | [],_,_,_=> rfl
 | k ::r,last,d,h=> by
  simp only [Zx,Q2] at h
  have h1:=ZgK k last d h.1
  have h2:=Z9P r k.at_ d h.2
  simp only [JQ,Zx,Q2]
  exact ⟨h1,by rw [Zej];exact h2⟩
theorem ZgK:∀ (k:KidOf Edit) (last d:Int),J0 last k d=true->J0 last (Z12 k) d=true
 | ⟨a,e⟩,last,d,h=> by
  simp only [J0,Q2] at h
  have h1:=JC e d h.2
  simp only [Z12,J0,Q2]
  rw [Z1r]
  grind
theorem Z9M(list:Int):∀ (os:List (OpOf Edit)) (d:Int),Zw list os d=true->Zw list (Jm os) d=true
 | [],_,_=> rfl
 | o ::r,d,h=> by
  simp only [Zw,Q2] at h
  have h1:=Zis list o d h.1
  have h2:=Z9M list r d h.2
  simp only [Jm,Zw,Q2]
  grind
theorem Zis(list:Int):∀ (o:OpOf Edit) (d:Int),Zc list o d=true->Zc list (YO o) d=true
 | ⟨k,n,l,e⟩,d,h=> ZyL (o:=⟨k,n,l,e⟩) h (fun he=> JC e d he)
end
theorem Z6w:∀ (l:List Tree),Zk (Zb l)<=Zk l
 | []=> by trivial
 | t ::r=> by
  have h:=Z6w r
  have h2:=ZK t
  simp only [Zb] at h
  simp only [Zb,Qo,Zk]
  omega
theorem JP:Zm Tree.nil=1:=by rfl
end Go.AM.YtfapacabjkhepaaGreat
