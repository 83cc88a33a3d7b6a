import Derived.Test.YtpjenobkibfpcaaKL23r
import Derived.Test.YtpjenobkibfpcaaKD20
import Derived.Test.YtpjenobkibfpcaaKRB07
set_option linter.unusedSimpArgs false
set_option linter.unusedVariables false
namespace Go.AM.Ytpjenobkibfpcaa
open Go.AM Go.Proofs
theorem Zt2(t:Tree):t.words.length+Z4 t.kids+1=Zj t:=by obtain ⟨k,w,ks⟩:=t;simp only [Zj,Tree.words_mk,Tree.kids_mk];omega
theorem Zcr:∀ (l:List Tree) (i:Nat) (x:Tree),i < l.length->Z4 (l.set i x)+Zj (l.getD i Tree.nil)=Z4 l+Zj x
 | [],i,x,h=> by simp at h
 | a ::r,0,x,_=> by simp only [List.set_cons_zero,Z4,Qg];omega
 | a ::r,i+1,x,h=> by
  have:=Zcr r i x (by simpa using h)
  simp only [List.set_cons_succ,Z4,K4];omega
theorem ZgZ(n:Nat):Z4 (List.replicate n Tree.nil)=n:=by
 induction n with
 | zero=> rfl
 | succ n ih=> rw [List.replicate_succ,Z4,ih];simp [Tree.nil,Zj,Z4];omega
theorem Yf:∀ (a b:List Tree),Z4 (a++b)=Z4 a+Z4 b
 | [],b=> by simp [Z4]
 | t ::r,b=> by simp only [Qs,Z4,Yf r b];omega
theorem ZkN(l:List Tree)(i:Nat)(x:Tree):Z4 (J1 Tree.nil l i x)+Zj (l.getD i Tree.nil)<=Z4 l+Zj x+(i+1):=by
 have h:=Zcr (l++List.replicate (i+1 - l.length) Tree.nil) i x (by simp;omega)
 have e:(l++List.replicate (i+1 - l.length) Tree.nil).getD i Tree.nil=l.getD i Tree.nil:=by
  by_cases hi:i < l.length
  ·simp only [Qm];rw [Ql hi]
  ·simp only [Qm]
   rw [Qn (by omega),Qw (l:=l) (by omega),List.getElem?_replicate]
   split <;> rfl
 rw [e,Yf,ZgZ] at h
 simp only [J1]
 omega
theorem ZhI{tw:List Int}:∀ {ws:List WEdit} {last:Int} {out a:List Int},Y6 last ws=true->wsD tw ws out=some a->a.length<=max out.length 65535
 | [],_,out,a,_,h=> by rw [wsD] at h;cases h;omega
 | w ::r,last,out,a,hw,h=> by
  have h1:=JH hw w Q5
  simp only [Y6,Q1] at hw
  rw [wsD] at h
  split at h
  ·have:=ZhI hw.2 h
   rw [ZbC] at this
   omega
  ·cases h
theorem Z5S{last d:Int}{k:Kid}{r:List Kid}(h:Zx last (k ::r) d=true):(last < k.at_/\k.at_<=65534)/\Z6 k.e d=true/\Zx k.at_ r d=true:=by
 have:=ZD h k Q5
 simp only [Zx,Q1] at h
 exact ⟨⟨this.1.1,this.1.2.1⟩,this.2,h.2⟩
theorem Zlv{tw:List Int}{ws:List WEdit}{last:Int}{out a:List Int}(hw:Y6 last ws=true)(h:wsD tw ws out=some a):a.length<=out.length+65600*ws.length:=by
 cases ws with
 | nil=> rw [wsD] at h;cases h;omega
 | cons w r=>
  have:=ZhI hw h
  simp only [Q9]
  omega
theorem ZaU(r:Bool)(v:Tree):Zj (nrD r v)<=Zj v:=by
 unfold nrD
 split
 ·exact J8 v
 ·exact Qd _
mutual
theorem Zb1(r:Bool):∀ (e:Edit) (d:Int) (t v:Tree),Z6 e d=true->ZsK r e t=some v->Zj v+18<=Zj t+ctE e
 | .mk k o n w ks l os,d,t,v,hr,hv=> by
  have ri:=Zr hr
  have h1:=Zcp r ks t.kids
  have h2:=Zco r l os
  have ht:=Zt2 t
  have po:=Jb o
  have pn:=Jb n
  have pt:=Jb t
  unfold ZsK at hv
  simp only [ctE]
  split at hv
  ·cases hv;omega
  ·split at hv
   ·split at hv
    ·cases hv
     show Zj n+18<=_
     omega
    ·cases hv
   ·split at hv
    ·split at hv
     ·obtain ⟨a,ha,hb⟩:=Xi.1 hv
      obtain ⟨b,hb,e⟩:=Xe.1 hb
      have l1:=Zlv ri.words ha
      simp only [Edit.words_mk] at l1
      have l2:=h1 t.kids b _ (-1) (by omega) ri.kids (fun j _=> rfl) hb
      rw [<-e]
      simp only [Zj]
      omega
     ·cases hv
    ·split at hv
     ·split at hv
      ·obtain ⟨b,hb,e⟩:=Xe.1 hv
       unfold Zbk at hb
       obtain ⟨x,hx,hy⟩:=Xi.1 hb
       have l2:=h2 _ t.kids [] x (fun o ho=> Go.AM.rightOs_mem ri.ops o ho) hx
       split at hy
       ·cases hy
        rw [<-e]
        simp only [Zj,Qb]
        simp only [Z4] at l2
        omega
       ·cases hy
      ·cases hv
     ·cases hv
theorem Zcp(r:Bool):∀ (ks:List (KidOf Edit)) (tk out b:List Tree) (d last:Int),-1<=last->Zx last ks d=true->(∀ j:Nat,last < (j:Int)->out.getD j Tree.nil=tk.getD j Tree.nil)->Z8W r tk ks out=some b->Z4 b<=Z4 out+Z1W ks
 | [],tk,out,b,d,last,_,_,_,h=> by rw [Z8W] at h;cases h;simp
 | k ::s,tk,out,b,d,last,hl,hr,hj,h=> by
  obtain ⟨h1,h2,h3⟩:=Z5S hr
  rw [Z8W] at h
  obtain ⟨u,hu,hb⟩:=Xi.1 h
  have m1:=ZgX r k tk u d h2 hu
  have m2:=ZkN out k.at_.toNat u
  rw [hj k.at_.toNat (by omega)] at m2
  have m3:=Zcp r s tk _ b d k.at_ (by omega) h3 (fun j hj'=> by
   rw [ZeN,if_neg (by omega)]
   exact hj j (by omega)) hb
  have m4:k.at_.toNat+1<=65600:=by omega
  have e1:Z1W (k ::s)=65600+ctE k.e+Z1W s:=by obtain ⟨a,e⟩:=k;rfl
  rw [e1]
  omega
theorem ZgX(r:Bool):∀ (k:KidOf Edit) (tk:List Tree) (u:Tree) (d:Int),Z6 k.e d=true->Zjq r tk k=some u->Zj u+18<=Zj (tk.getD k.at_.toNat Tree.nil)+ctE k.e
 | ⟨a,e⟩,tk,u,d,hr,h=> by
  rw [Zjq,Zea] at h
  obtain ⟨v,hv,hu⟩:=Xe.1 h
  have:=Zb1 r e d (tk.getD a.toNat Tree.nil) v hr hv
  have hvu:=ZaU r v
  rw [hu] at hvu
  dsimp only
  omega
theorem Zco(r:Bool)(l:Int):∀ (os:List (OpOf Edit)) (d:Int) (rest out:List Tree) (x:List Tree × List Tree),(∀ o∈os,Zf l o d=true)->Z2o r os rest out=some x->Z4 x.1+Z4 x.2<=Z4 out+Z4 rest+YJ os
 | [],d,rest,out,x,_,h=> by rw [Z2o] at h;cases h;simp
 | o ::s,d,rest,out,x,hr,h=> by
  rw [Z2o] at h
  obtain ⟨y,hy,hx⟩:=Xi.1 h
  have m1:=ZkK r l o d rest out y (hr o Q5) hy
  have m2:=Zco r l s d _ _ x (fun q hq=> hr q (Q4 _ hq)) hx
  rw [YJ]
  omega
theorem ZkK(r:Bool)(l:Int):∀ (o:OpOf Edit) (d:Int) (rest out:List Tree) (x:List Tree × List Tree),Zf l o d=true->Zo9 r o rest out=some x->Z4 x.1+Z4 x.2<=Z4 out+Z4 rest+Z2W o
 | ⟨k,n,L,e⟩,d,rest,out,x,hr,h=> by
  have he:=Zb1 r e d (rest.getD 0 Tree.nil)
  rw [Zo9] at h
  simp only [Z2W]
  split at h
  ·split at h
   ·cases h
    have:=Yf (rest.take n.toNat) (rest.drop n.toNat)
    rw [QF] at this
    dsimp only
    rw [Yf];omega
   ·cases h
  ·split at h
   ·split at h
    ·cases h
     have:=Z1l L.length rest
     dsimp only;omega
    ·cases h
   ·split at h
    ·cases h
     dsimp only
     rw [Yf];omega
    ·split at h
     ·cases h
     ·obtain ⟨u,hu,e2⟩:=Xe.1 h
      cases e2
      have hk:k=3:=by
       have ra:=J4 hr
       generalize ho:OpOf.mk k n L e=o at ra
       cases ra <;> (injection ho with h1;try omega)
      rw [Zea] at hu
      obtain ⟨v,hv,hu⟩:=Xe.1 hu
      have:=he v (J3 hr hk) hv
      have hvu:=ZaU r v
      rw [hu] at hvu
      cases rest with
      | nil=> contradiction
      | cons a q=>
       rw [Yf]
       simp only [Z4,Qu,QD,Qg] at this ⊢
       omega
end
theorem ZpF(r:Bool)(e:Edit)(d:Int)(t u:Tree)(hr:Z6 e d=true)(h:doE r e t=some u):Zj u+18<=Zj t+ctE e:=by
 rw [Zea] at h
 obtain ⟨v,hv,hu⟩:=Xe.1 h
 have:=Zb1 r e d t v hr hv
 have hvu:=ZaU r v
 rw [hu] at hvu
 omega
theorem ZsZ{f:Nat->Int}(h:∀ i,0<=f i/\f i < 256):isW (of8 f):=by
 have h0:=h 0;have h1:=h 1;have h2:=h 2;have h3:=h 3;have h4:=h 4;have h5:=h 5;have h6:=h 6;have h7:=h 7
 unfold isW of8
 omega
theorem ZgU(a b m:Int):isW (mix a b m):=ZsZ (Z3z a b m)
theorem Zd3{l:List Tree}(h:∀ t∈l,rng t):YG l:=by
 induction l with
 | nil=> exact trivial
 | cons a r ih=> exact ⟨h a Q5,ih fun t ht=> h t (Q4 _ ht)⟩
theorem Z7d:rng Tree.nil:=⟨by decide,by simp,trivial⟩
section
variable {α β:Type} (z:α) (f:β->Option α) (p:β->Int)
def asc(last:Int):List β->Prop
 | []=> True
 | w ::r=> last < p w/\asc (p w) r
variable {z f p} {l0:List α} {ws:List β} {n a i:Int} {out:List α}
theorem Zlg{m last:Int}(h:m<=last):∀ {l:List β},asc p last l->asc p m l
 | [],_=> trivial
 | _ ::_,g=> ⟨by have:=g.1;omega,g.2⟩
end
theorem ZbP:∀ {ws:List WEdit} {last:Int},Y6 last ws=true->asc WEdit.at_ last ws
 | [],_,_=> trivial
 | w ::r,last,h=> by
  have h1:=JH h w Q5
  simp only [Y6,Q1] at h
  exact ⟨h1.1,ZbP h.2⟩
theorem ZfS:∀ {ks:List Kid} {last d:Int},Zx last ks d=true->asc KidOf.at_ last ks
 | [],_,_,_=> trivial
 | k ::r,last,d,h=> by
  obtain ⟨h1,_,h3⟩:=Z5S h
  exact ⟨h1.1,ZfS h3⟩
end Go.AM.Ytpjenobkibfpcaa
namespace Go.AM.Ytpjenobkibfpcaa
open Go.AM Go.Proofs
theorem Z2A{x y x' y':Int}(h:x+256*y=x'+256*y')(hx:0<=x/\x < 256)(hx':0<=x'/\x' < 256):x=x'/\y=y':=by omega
theorem ZpD{f g:Nat->Int}(hf:∀ i,0<=f i/\f i < 256)(hg:∀ i,0<=g i/\g i < 256)(h:of8 f=of8 g):∀ i,i < 8->f i=g i:=by
 unfold of8 at h
 obtain ⟨h0,h⟩:=Z2A h (hf 0) (hg 0)
 obtain ⟨h1,h⟩:=Z2A h (hf 1) (hg 1)
 obtain ⟨h2,h⟩:=Z2A h (hf 2) (hg 2)
 obtain ⟨h3,h⟩:=Z2A h (hf 3) (hg 3)
 obtain ⟨h4,h⟩:=Z2A h (hf 4) (hg 4)
 obtain ⟨h5,h⟩:=Z2A h (hf 5) (hg 5)
 obtain ⟨h6,h7⟩:=Z2A h (hf 6) (hg 6)
 intro i hi
 match i,hi with
 | 0,_=> exact h0
 | 1,_=> exact h1
 | 2,_=> exact h2
 | 3,_=> exact h3
 | 4,_=> exact h4
 | 5,_=> exact h5
 | 6,_=> exact h6
 | 7,_=> exact h7
theorem ZkB{a:Int}(h:isW a):of8 (Zc a)=a:=by
 obtain ⟨h0,h1⟩:=h
 simp only [of8,Zc]
 omega
theorem ZmZ{a b m:Int}{i:Nat}(h:i < 8):Zc (mix a b m) i=YD a b m i:=
 ZpD (fun i=> Z00 _ i) (Z3z a b m) (by rw [ZkB (ZgU a b m)];rfl) i h
section
variable {α β:Type} {z:α} {f:β->Option α} {p:β->Int}
end
end Go.AM.Ytpjenobkibfpcaa
namespace Go.AM.Ytpjenobkibfpcaa
open Go.AM Go.Proofs
theorem Z8r:∀ {ks:List Kid} {k:Kid},k∈ks->Z5 k.e<=ZN ks
 | ⟨_,_⟩ ::r,k,h=> by
  rcases Qc.1 h with rfl | h
  ·simp only [ZN,Jn];omega
  ·have:=Z8r h;simp only [ZN];omega
theorem Z8q:∀ {os:List Op} {o:Op},o∈os->Zs o<=Zg os
 | a ::r,o,h=> by
  rcases Qc.1 h with rfl | h
  ·simp only [Zg];omega
  ·have:=Z8q h;simp only [Zg];omega
theorem ZkM(o:Op):Z5 o.e<=Zs o:=by obtain ⟨k,n,l,e⟩:=o;simp only [Zs];omega
theorem Yo{e:Edit}{k:Kid}(h:k∈e.kids):Z5 k.e < Z5 e:=by
 obtain ⟨kk,o,n,w,ks,l,os⟩:=e
 have:=Z8r (ks:=ks) h
 simp only [Z5];omega
theorem Jd{e:Edit}{o:Op}(h:o∈e.ops):Z5 o.e < Z5 e:=by
 obtain ⟨kk,ol,n,w,ks,l,os⟩:=e
 have:=Z8q (os:=os) h
 have:=ZkM o
 simp only [Z5];omega
mutual
theorem Z44:∀ (t:Tree) (d m:Int),m < 0->Zq t d=true->Zq t m=true
 | .mk k w ks,d,m,hm,h=> by
  rw [Zq] at h ⊢
  by_cases h0:k=0
  ·rw [if_pos h0] at h ⊢;exact h
  ·rw [if_neg h0] at h ⊢
   by_cases h1:k=10
   ·rw [if_pos h1] at h ⊢;exact h
   ·rw [if_neg h1] at h ⊢
    by_cases h2:d=0
    ·rw [if_pos h2] at h;cases h
    ·rw [if_neg h2] at h
     rw [if_neg (by omega)]
     by_cases h3:k=1
     ·rw [if_pos h3,Q1] at h ⊢
      exact ⟨h.1,Z51 1 ks (d - 1) (m - 1) (by omega) h.2⟩
     ·rw [if_neg h3,Q1] at h ⊢
      exact ⟨h.1,Z51 k ks (d - 1) (m - 1) (by omega) h.2⟩
theorem Z51(list:Int):∀ (ks:List Tree) (d m:Int),m < 0->YA list ks d=true->YA list ks m=true
 | [],_,_,_,_=> rfl
 | t ::r,d,m,hm,h=> by
  simp only [YA,Q1] at h ⊢
  exact ⟨⟨h.1.1,Z44 t d m hm h.1.2⟩,Z51 list r d m hm h.2⟩
end
theorem Z0l{D list:Int}:∀ {l:List Tree},Y0 D list l=true->∀ t∈l,Zq (.mk list [] [t]) D=true
 | a ::r,h,t,ht=> by
  simp only [Y0,Q1] at h
  rcases Qc.1 ht with rfl | ht
  ·exact h.1
  ·exact Z0l h.2 t ht
inductive Run:List Op->List Tree->List Tree->Prop
 | nil:Run [] [] []
 | keep {o r a s d}:o.kind=0->(a.length:Int)=o.n->Run r s d->Run (o ::r) (a++s) (a++d)
 | gone {o r a s d}:o.kind=1->Z9 o.l=Z9 a->Run r s d->Run (o ::r) (a++s) d
 | come {o r s d}:o.kind=2->Run r s d->Run (o ::r) s (o.l++d)
 | into {o r x y s d}:o.kind=3->doE false o.e x=some y->Run r s d->Run (o ::r) (x ::s) (y ::d)
def kOk(o:Op):Prop:=(o.kind=0/\0<=o.n)\/o.kind=1\/o.kind=2\/o.kind=3
theorem ZgP{list d:Int}{os:List Op}(h:ZA list os d=true):∀ o∈os,ZO o:=fun o ho=> Zal (rightOs_mem h ho)
theorem ZdJ{o:Op}(h:ZO o):0<=Z1 o:=by have:=Zw h;omega
end Go.AM.Ytpjenobkibfpcaa
namespace Go.AM
def Z03(m:Nat):Nat->Nat
 | 0=> 0
 | i+1=> Z03 m i+if m / 2 ^ i % 2=1 then 255*2 ^ (8*i) else 0
def ZbA:Nat->Nat->Nat
 | 0,_=> 0
 | k+1,m=> (if m % 2=1 then 255 else 0)+256*ZbA k (m / 2)
def Z8j:Nat->Nat->Nat->Nat
 | 0,_,_=> 0
 | k+1,a,m=> (if m % 2=1 then a % 256 else 0)+256*Z8j k (a / 256) (m / 2)
def Zfz:Nat->Nat->Nat->Nat->Nat
 | 0,_,_,_=> 0
 | k+1,a,b,m=> (if m % 2=1 then b % 256 else a % 256)+256*Zfz k (a / 256) (b / 256) (m / 2)
theorem Zlj(x y u v:Nat)(hu:u < 256)(hv:v < 256):(u+256*x) &&& (v+256*y)=(u &&& v)+256*(x &&& y):=by
 have h:u &&& v < 256:=Nat.and_lt_two_pow (n:=8) u hv
 apply Nat.eq_of_testBit_eq
 intro j
 rw [Xm u,Xm v,Xm (u &&& v),Kn]
 rw [show (256:Nat)=2 ^ 8 from rfl,X3 _ hu,X3 _ hv,X3 _ h]
 split <;> rw [Kn]
theorem ZmN(x y u v:Nat)(hu:u < 256)(hv:v < 256):(u+256*x) ||| (v+256*y)=(u ||| v)+256*(x ||| y):=by
 have h:u ||| v < 256:=Nat.or_lt_two_pow (n:=8) hu hv
 apply Nat.eq_of_testBit_eq
 intro j
 rw [Xm u,Xm v,Xm (u ||| v),Nat.testBit_or]
 rw [show (256:Nat)=2 ^ 8 from rfl,X3 _ hu,X3 _ hv,X3 _ h]
 split <;> rw [Nat.testBit_or]
theorem Zbx:∀ (k a m:Nat),a &&& ZbA k m=Z8j k a m
 | 0,a,m=> by simp [ZbA,Z8j]
 | k+1,a,m=> by
  have e:a=a % 256+256*(a / 256):=by omega
  simp only [ZbA,Z8j]
  rw [<-Zbx k (a / 256) (m / 2)]
  have h:a &&& ((if m % 2=1 then 255 else 0)+256*ZbA k (m / 2))=(a % 256+256*(a / 256)) &&& ((if m % 2=1 then 255 else 0)+256*ZbA k (m / 2)):=by rw [<-e]
  rw [h,Zlj _ _ _ _ (by omega) (by split <;> omega)]
  congr 1
  split
  ·have:=Nat.and_two_pow_sub_one_eq_mod (a % 256) 8
   simp only [show (2:Nat) ^ 8 - 1=255 from rfl,show (2:Nat) ^ 8=256 from rfl,Nat.mod_mod] at this
   exact this
  ·simp
theorem Ziq:∀ (k a b m n:Nat),(∀ i < k,m / 2 ^ i % 2+n / 2 ^ i % 2=1)->Z8j k a n ||| Z8j k b m=Zfz k a b m
 | 0,a,b,m,n,_=> by simp [Z8j,Zfz]
 | k+1,a,b,m,n,h=> by
  simp only [Z8j,Zfz]
  have h0:=h 0 (by omega)
  simp only [Nat.pow_zero,Nat.div_one] at h0
  rw [ZmN _ _ _ _ (by split <;> omega) (by split <;> omega),Ziq k (a / 256) (b / 256) (m / 2) (n / 2) (fun i hi=> by
   have:=h (i+1) (by omega)
   rw [Xl,Xl]
   rw [Nat.pow_succ,QS] at this
   exact this)]
  congr 1
  by_cases hm:m % 2=1
  ·rw [if_pos hm,if_pos hm,if_neg (by omega)];simp
  ·rw [if_neg hm,if_neg hm,if_pos (by omega)];simp
theorem ZhJ:∀ m:Fin 256,Z03 m.1 8=ZbA 8 m.1:=by decide+kernel
theorem Zlw:∀ m:Fin 256,2 ^ 64 - 1 - ZbA 8 m.1=ZbA 8 (255 - m.1):=by decide+kernel
theorem Zoj:∀ m:Fin 256,∀ i:Fin 8,m.1 / 2 ^ i.1 % 2+(255 - m.1) / 2 ^ i.1 % 2=1:=by decide+kernel
theorem ZoS:∀ m:Fin 256,ZbA 8 m.1 < 2 ^ 64:=by decide+kernel
theorem Zn0(a b m:Nat)(hm:m < 256):(a &&& (2 ^ 64 - 1 - Z03 m 8)) ||| (b &&& Z03 m 8)=Zfz 8 a b m:=by
 have h1:=ZhJ ⟨m,hm⟩
 have h2:=Zlw ⟨m,hm⟩
 simp only at h1 h2
 rw [h1,h2,Zbx,Zbx]
 exact Ziq 8 a b m (255 - m) (fun i hi=> Zoj ⟨m,hm⟩ ⟨i,hi⟩)
def ofK:Nat->(Nat->Nat)->Nat
 | 0,_=> 0
 | k+1,f=> f 0+256*ofK k (fun i=> f (i+1))
theorem Zcf:∀ (k:Nat) {f g:Nat->Nat},(∀ i,f i=g i)->ofK k f=ofK k g
 | 0,_,_,_=> rfl
 | k+1,f,g,h=> by simp only [ofK,h 0,Zcf k (fun i=> h (i+1))]
theorem Ziz:∀ (k a b m:Nat),Zfz k a b m=ofK k (fun i=> if m / 2 ^ i % 2=1 then b / 256 ^ i % 256 else a / 256 ^ i % 256)
 | 0,_,_,_=> rfl
 | k+1,a,b,m=> by
  simp only [Zfz,ofK,Nat.pow_zero,Nat.div_one]
  rw [Ziz k,Zcf k (g:=fun i=> if m / 2 ^ (i+1) % 2=1 then b / 256 ^ (i+1) % 256 else a / 256 ^ (i+1) % 256) (fun i=> ?_)]
  rw [Xl,Xl,Xl,Nat.pow_succ',Nat.pow_succ']
theorem Zn1(a b m:Nat):((Zfz 8 a b m:Nat):Int)=mix a b m:=by
 have nm:∀ i:Nat,Z2e (m:Int) (i:Int)=decide (m / 2 ^ i % 2=1):=by
  intro i
  unfold Z2e
  rw [decide_eq_decide,QV]
  have:((m:Int) / 2 ^ i % 2:Int)=((m / 2 ^ i % 2:Nat):Int):=by rw [Kj,Kk,Kp];try rfl
  rw [this];omega
 have by_:∀ (x i:Nat),Zc (x:Int) i=((x / 256 ^ i % 256:Nat):Int):=by
  intro x i
  unfold Zc
  rw [Kj,Kk,Kp]
  try rfl
 have mx:∀ i:Nat,YD (a:Int) (b:Int) (m:Int) i=((if m / 2 ^ i % 2=1 then b / 256 ^ i % 256 else a / 256 ^ i % 256:Nat):Int):=by
  intro i
  unfold YD
  rw [nm,by_,by_]
  by_cases h:m / 2 ^ i % 2=1
  ·rw [decide_eq_true h,if_pos rfl,if_pos h]
  ·rw [decide_eq_false h,if_neg Kb,if_neg h]
 rw [Ziz]
 generalize hf:(fun i=> if m / 2 ^ i % 2=1 then b / 256 ^ i % 256 else a / 256 ^ i % 256)=f
 have hx:∀ i,YD (a:Int) (b:Int) (m:Int) i=(f i:Int):=by intro i;rw [mx,<-hf]
 have e:ofK 8 f=f 0+256*(f 1+256*(f 2+256*(f 3+256*(f 4+256*(f 5+256*(f 6+256*(f 7+256*0))))))):=rfl
 rw [e]
 simp only [mix,of8,hx]
 omega
end Go.AM
namespace Go.AM
def Z2Z(a b:Int):Int:=IntKind.wrap .u8 (BitVec.ofInt (IntKind.bits .u8) a &&& BitVec.ofInt (IntKind.bits .u8) b).toNat
noncomputable def doB(e:Edit)(t:Tree):Tree × Bool:=(Z32 ((doE false e t).map Z7),(doE false e t).isSome)
noncomputable def Z7S(a b:List Tree):Bool:=eqX (Z9 a) (Z9 b)
def JR(e:Edit):Prop:=ctE e<=9000000000/\Yz e/\∃ d,Z6 e d=true
def Zpu(l:List Op):Prop:=YJ l<=9000000000/\Z1b l/\∀ o∈l,∃ list d,Zf list o d=true
def ZcY(o:Op):Prop:=ZO o/\Z2W o<=9000000000/\Z1D o/\(o.kind=3->∃ d,Z6 o.e d=true)
end Go.AM
namespace Go.AM.Ytpjenobkibfpcaa
open Go.AM Go.Proofs
theorem Z19{o:Op}{r:List Op}{s d:List Tree}(h0:o.kind=0):Run (o ::r) s d↔∃ a s' d',s=a++s'/\d=a++d'/\(a.length:Int)=o.n/\Run r s' d':=by
 constructor
 ·intro h
  cases h with
  | keep _ h2 h3=> exact ⟨_,_,_,rfl,rfl,h2,h3⟩
  | gone h1=> omega
  | come h1=> omega
  | into h1=> omega
 ·rintro ⟨a,s',d',rfl,rfl,h2,h3⟩
  exact .keep h0 h2 h3
theorem Z1a{o:Op}{r:List Op}{s d:List Tree}(h0:o.kind=1):Run (o ::r) s d↔∃ a s',s=a++s'/\Z9 o.l=Z9 a/\Run r s' d:=by
 constructor
 ·intro h
  cases h with
  | gone _ h2 h3=> exact ⟨_,_,rfl,h2,h3⟩
  | keep h1=> omega
  | come h1=> omega
  | into h1=> omega
 ·rintro ⟨a,s',rfl,h2,h3⟩
  exact .gone h0 h2 h3
theorem Z0n{o:Op}{r:List Op}{s d:List Tree}(h0:o.kind=2):Run (o ::r) s d↔∃ d',d=o.l++d'/\Run r s d':=by
 constructor
 ·intro h
  cases h with
  | come _ h3=> exact ⟨_,rfl,h3⟩
  | keep h1=> omega
  | gone h1=> omega
  | into h1=> omega
 ·rintro ⟨d',rfl,h3⟩
  exact .come h0 h3
theorem Zaj{o:Op}{r:List Op}{s d:List Tree}(h0:o.kind=3):Run (o ::r) s d↔∃ x s' y d',s=x ::s'/\d=y ::d'/\doE false o.e x=some y/\Run r s' d':=by
 constructor
 ·intro h
  cases h with
  | into _ h2 h3=> exact ⟨_,_,_,_,rfl,rfl,h2,h3⟩
  | keep h1=> omega
  | gone h1=> omega
  | come h1=> omega
 ·rintro ⟨x,s',y,d',rfl,rfl,h2,h3⟩
  exact .into h0 h2 h3
theorem Z42{o:Op}{p r:List Op}(h:∀ s d,Run p s d↔Run r s d)(hk:kOk o)(s d:List Tree):Run (o ::p) s d↔Run (o ::r) s d:=by
 rcases hk with h0 | h1 | h2 | h3
 ·rw [Z19 h0.1,Z19 h0.1];simp only [h]
 ·rw [Z1a h1,Z1a h1];simp only [h]
 ·rw [Z0n h2,Z0n h2];simp only [h]
 ·rw [Zaj h3,Zaj h3];simp only [h]
theorem JS{o:Op}(h:ZO o):kOk o:=by
 rcases h with h | h | h
 ·exact .inl ⟨h.1,by omega⟩
 ·rcases h.1 with h1 | h1
  ·exact .inr (.inl h1)
  ·exact .inr (.inr (.inl h1))
 ·exact .inr (.inr (.inr h.1))
theorem ZdK{o:Op}(h:ZO o)(h0:o.kind=0):Z1 o=o.n:=by
 rcases h with h | h | h
 ·unfold Z1;rw [if_neg (by omega),h.2.1];simp
 ·omega
 ·omega
theorem Z2c{o:Op}(h:ZO o)(h0:o.kind=1\/o.kind=2):Z1 o=o.l.length:=by
 rcases h with h | h | h
 ·omega
 ·unfold Z1;rw [if_neg (by omega),h.2.1];omega
 ·omega
theorem Z1F{o:Op}(h0:o.kind=3):Z1 o=1:=by unfold Z1;rw [if_pos h0]
theorem Zd2{o:Op}{r:List Op}{m d:List Tree}(ho:ZO o)(hk:o.kind≠2)(h:Run (o ::r) m d):∃ m1 m' d',m=m1++m'/\(m1.length:Int)=Z1 o/\Run r m' d':=by
 rcases JS ho with h0 | h1 | h2 | h3
 ·obtain ⟨a,s',d',rfl,_,hl,hr⟩:=(Z19 h0.1).1 h
  exact ⟨a,s',d',rfl,by rw [ZdK ho h0.1];exact hl,hr⟩
 ·obtain ⟨a,s',rfl,hn,hr⟩:=(Z1a h1).1 h
  exact ⟨a,s',d,rfl,by rw [Z2c ho (.inl h1),Zci hn],hr⟩
 ·exact absurd h2 hk
 ·obtain ⟨x,s',y,d',rfl,_,_,hr⟩:=(Zaj h3).1 h
  exact ⟨[x],s',d',rfl,by rw [Z1F h3];rfl,hr⟩
theorem Zkk{o:Op}{r:List Op}{n:Int}(ho:ZO o)(h1:1<=n)(hn:¬Z1 o<=n)(s d:List Tree):Run (o ::r) s d↔Run (Zp o n ::Ym o n ::r) s d:=by
 unfold Zp Ym
 rw [if_neg hn]
 rcases JS ho with h0 | hg | hc | hi
 ·have hl:=ZdK ho h0.1
  rw [if_pos h0.1,if_pos h0.1,Z19 h0.1,Z19 (o:=⟨o.kind,n,o.l,o.e⟩) h0.1]
  constructor
  ·rintro ⟨a,s',d',rfl,rfl,ha,hr⟩
   refine ⟨a.take n.toNat,a.drop n.toNat++s',a.drop n.toNat++d',by rw [<-Qe,QF],by rw [<-Qe,QF],by rw [Qk];dsimp only;omega,?_⟩
   exact (Z19 (o:=⟨o.kind,o.n - n,o.l,o.e⟩) h0.1).2 ⟨a.drop n.toNat,s',d',rfl,rfl,by rw [X7];dsimp only;omega,hr⟩
  ·rintro ⟨a,s',d',rfl,rfl,ha,hr⟩
   obtain ⟨b,s2,d2,rfl,rfl,hb,hr2⟩:=(Z19 (o:=⟨o.kind,o.n - n,o.l,o.e⟩) h0.1).1 hr
   dsimp only at ha hb
   exact ⟨a++b,s2,d2,by rw [Qe],by rw [Qe],by rw [Q6];omega,hr2⟩
 ·have hl:=Z2c ho (.inl hg)
  rw [if_neg (by omega),if_neg (by omega),Z1a hg,Z1a (o:=⟨o.kind,o.n,o.l.take n.toNat,o.e⟩) hg]
  constructor
  ·rintro ⟨a,s',rfl,ha,hr⟩
   have hla:=Zci ha
   refine ⟨a.take n.toNat,a.drop n.toNat++s',by rw [<-Qe,QF],EqvL.take ha _,?_⟩
   exact (Z1a (o:=⟨o.kind,o.n,o.l.drop n.toNat,o.e⟩) hg).2 ⟨a.drop n.toNat,s',rfl,EqvL.drop ha _,hr⟩
  ·rintro ⟨a,s',rfl,ha,hr⟩
   obtain ⟨b,s2,rfl,hb,hr2⟩:=(Z1a (o:=⟨o.kind,o.n,o.l.drop n.toNat,o.e⟩) hg).1 hr
   refine ⟨a++b,s2,by rw [Qe],?_,hr2⟩
   have:=ZkD ha hb
   rwa [QF] at this
 ·rw [if_neg (by omega),if_neg (by omega),Z0n hc,Z0n (o:=⟨o.kind,o.n,o.l.take n.toNat,o.e⟩) hc]
  constructor
  ·rintro ⟨d',rfl,hr⟩
   refine ⟨o.l.drop n.toNat++d',by rw [<-Qe,QF],?_⟩
   exact (Z0n (o:=⟨o.kind,o.n,o.l.drop n.toNat,o.e⟩) hc).2 ⟨d',rfl,hr⟩
  ·rintro ⟨d',rfl,hr⟩
   obtain ⟨d2,rfl,hr2⟩:=(Z0n (o:=⟨o.kind,o.n,o.l.drop n.toNat,o.e⟩) hc).1 hr
   exact ⟨d2,by rw [<-Qe,QF],hr2⟩
 ·rw [Z1F hi] at hn
  omega
def Z4N:List Piece->List Op
 | []=> []
 | x ::r=> (if x.of=2 then [] else [x.p])++Z4N r
def Z4M:List Piece->List Op
 | []=> []
 | x ::r=> (if x.of=1 then [] else [x.q])++Z4M r
def Part(l:List Op)(o:Op):Prop:=∃ o'∈l,o.kind=o'.kind/\o.e=o'.e/\Zs o<=Zs o'/\∀ t∈o.l,t∈o'.l
theorem Part.mono{l l':List Op}{o:Op}(h:Part l o)(hl:∀ x∈l,Part l' x):Part l' o:=by
 obtain ⟨o',h1,h2,h3,h5,h4⟩:=h
 obtain ⟨o2,g1,g2,g3,g5,g4⟩:=hl o' h1
 exact ⟨o2,g1,h2.trans g2,h3.trans g3,QY h5 g5,fun t ht=> g4 t (h4 t ht)⟩
theorem Part.self{l:List Op}{o:Op}(h:o∈l):Part l o:=⟨o,h,rfl,rfl,Qd _,fun _ h=> h⟩
theorem Z5u{o:Op}{r:List Op}{n:Int}(h:∀ x∈o ::r,ZO x)(h1:1<=n)(hn:n<=Z1 o):
  ZO (Zp o n)/\Z1 (Zp o n)=n/\(Zp o n).kind=o.kind/\Part (o ::r) (Zp o n)/\(∀ x∈Zu (o ::r) n,ZO x/\Part (o ::r) x)/\∀ s d,Run (o ::r) s d↔Run (Zp o n ::Zu (o ::r) n) s d:=by
 have ho:=h o Q5
 have hr:∀ x∈r,ZO x/\Part (o ::r) x:=fun x hx=> ⟨h x (Q4 _ hx),Part.self (Q4 _ hx)⟩
 unfold Zu
 simp only [Qg,Qu,QD]
 by_cases hl:Z1 o<=n
 ·rw [if_pos hl]
  have e:Zp o n=o:=by unfold Zp;rw [if_pos hl]
  rw [e]
  exact ⟨ho,by omega,rfl,Part.self Q5,hr,fun s d=> XE⟩
 ·rw [if_neg hl]
  obtain ⟨_,v2,v3,v4⟩:=Z9G (a:=1) ho h1 hl
  obtain ⟨b1,b2⟩:=Z6Z ho h1 hl
  refine ⟨v2,v3,J0 o n,?_,?_,Zkk ho h1 hl⟩
  ·refine ⟨o,Q5,J0 o n,?_,v4,?_⟩
   ·unfold Zp;split;rfl;split <;> rfl
   ·intro t ht
    unfold Zp at ht
    split at ht
    ·exact ht
    ·split at ht
     ·exact ht
     ·exact List.mem_of_mem_take ht
  ·intro x hx
   rcases Qc.1 hx with rfl | hx
   ·refine ⟨b1,o,Q5,?_,?_,b2,?_⟩
    ·unfold Ym;split <;> rfl
    ·unfold Ym;split <;> rfl
    ·intro t ht
     unfold Ym at ht
     split at ht
     ·exact ht
     ·exact List.mem_of_mem_drop ht
   ·exact hr x hx
theorem ZhZ{d:List Tree}{s:List Tree}(h:Run [] s d):s=[]/\d=[]:=by cases h;exact ⟨rfl,rfl⟩
theorem Zb4(m:Int)(h0:0<=m)(h1:m < 256)(i:Nat):Z2e m (i:Int)=(BitVec.ofInt 8 m).toNat.testBit i:=by
 obtain ⟨n,rfl⟩:=QR h0
 have e:(BitVec.ofInt 8 ((n:Nat):Int)).toNat=n:=by simp;omega
 rw [e,Nat.testBit_eq_decide_div_mod_eq]
 unfold Z2e
 rw [decide_eq_decide,QV]
 have:((n:Int) / 2 ^ i % 2:Int)=((n / 2 ^ i % 2:Nat):Int):=by rw [Kj,Kk,Kp];try rfl
 rw [this];omega
theorem Zet{a b:Int}(ha:0<=a/\a < 256)(hb:0<=b/\b < 256):(0<=Z2Z a b/\Z2Z a b < 256)/\∀ i:Nat,Z2e (Z2Z a b) (i:Int)=(Z2e a (i:Int) && Z2e b (i:Int)):=by
 have hlt:(BitVec.ofInt 8 a &&& BitVec.ofInt 8 b).toNat < 256:=(BitVec.ofInt 8 a &&& BitVec.ofInt 8 b).isLt
 have e:Z2Z a b=((BitVec.ofInt 8 a &&& BitVec.ofInt 8 b).toNat:Int):=by
  show IntKind.wrap .u8 ((BitVec.ofInt 8 a &&& BitVec.ofInt 8 b).toNat:Int)=_
  exact Z5q (by omega) (by omega)
 refine ⟨by rw [e];omega,fun i=> ?_⟩
 rw [Zb4 _ (by rw [e];omega) (by rw [e];omega),e,Zb4 a ha.1 ha.2,Zb4 b hb.1 hb.2]
 have:(BitVec.ofInt 8 (((BitVec.ofInt 8 a &&& BitVec.ofInt 8 b).toNat:Nat):Int)).toNat=(BitVec.ofInt 8 a &&& BitVec.ofInt 8 b).toNat:=by
  generalize (BitVec.ofInt 8 a &&& BitVec.ofInt 8 b).toNat=k at hlt ⊢
  simp
  omega
 rw [this,Km,Kn]
theorem Zsf(i:Nat):Zc 0 i=0:=by unfold Zc;simp
theorem Zt1{a b m:Int}{i:Nat}(hi:i < 8):Zc (mix a b m) i=if Z2e m i=true then Zc b i else Zc a i:=by rw [ZmZ hi];try rfl
theorem J6{e:Edit}{d:Int}(h:Z6 e d=true):∀ o∈e.ops,ZO o:=ZgP (Zr h).ops
theorem Zwm{e:Edit}(h:e.kind=1)(t:Tree):doE false e t=if Y3 (Z7 e.old) (Z7 t)=true then some e.new else none:=by rw [Zeb,Z7x,if_neg (by omega),if_pos h]
theorem Yg{e:Edit}(h:Yz e):rng e.old/\rng e.new/\(∀ x∈e.words,ZeQ x)/\Z25 e.kids/\Z1b e.ops:=by
 obtain ⟨k,o,n,w,ks,l,os⟩:=e
 exact ⟨h.2.1,h.2.2.1,h.2.2.2.1,h.2.2.2.2.2.1,h.2.2.2.2.2.2⟩
structure Alike (c r:Edit × Bool):Prop where
 ok:c.2=r.2
 nrm:c.2=true->ZE c.1=ZE r.1
section
variable {g:Edit->Edit->Edit × Bool}
end
theorem ZdM(l:Int)(os:List Op):ZE (.mk 3 Tree.nil Tree.nil [] [] l os)= .mk 3 Tree.nil Tree.nil [] [] l (Z0 (ZP l os ⟨[],[],[]⟩)).out:=by rw [ZE,if_neg (by decide),if_neg (by decide),if_pos rfl]
end Go.AM.Ytpjenobkibfpcaa
namespace Go.AM.Ytpjenobkibfpcaa
open Go.AM Go.Proofs
theorem Zod(e:Edit):18<=ctE e:=by
 have:=Z3S e
 have:=Jb e.old
 have:=Jb e.new
 omega
theorem Z2q:∀ (a b:List Op),YJ (a++b)=YJ a+YJ b
 | [],b=> by simp [YJ]
 | o ::r,b=> by simp only [Qs,YJ,Z2q r b];omega
def ctW(w:Wst):Nat:=YJ w.out+(Z4 w.gone+if w.gone.length=0 then 0 else 34)+(Z4 w.brought+if w.brought.length=0 then 0 else 34)
theorem Z7T:ctE Edit.nil=18:=rfl
theorem Zbo(w:Wst):YJ (Z0 w).out=ctW w:=by
 simp only [Z0,Z0e,ctW,Z2q]
 by_cases h1:w.gone.length=0
 ·rw [if_pos h1,if_pos h1,Q3 h1]
  by_cases h2:w.brought.length=0
  ·rw [if_pos h2,if_pos h2,Q3 h2];simp [YJ,Z4]
  ·rw [if_neg h2,if_neg h2];simp only [YJ,Z2W,Z7T,Z4];omega
 ·rw [if_neg h1,if_neg h1]
  by_cases h2:w.brought.length=0
  ·rw [if_pos h2,if_pos h2,Q3 h2];simp only [YJ,Z2W,Z7T,Z4];omega
  ·rw [if_neg h2,if_neg h2];simp only [YJ,Z2W,Z7T];omega
theorem Zjr(w:Wst)(n:Int):ctW (ZL w n)<=ctW w+34:=by
 have h:=Zbo w
 have e:ctW (ZL w n)=YJ (Z0C (Z0 w).out n):=by simp [ZL,ctW,Z4]
 rw [e,<-h]
 rcases Jg (Z0 w).out n with e | ⟨a,q,e1,_,e3⟩
 ·rw [e,Z2q];simp only [YJ,Z2W,Z7T,Z4];omega
 ·rw [e3,e1,Z2q,Z2q];simp only [YJ,Z2W,Z1K];omega
mutual
theorem Zhs:∀ (e:Edit),ctE (ZE e)<=ctE e
 | .mk k o n w ks l os=> by
  have h1:=Zg6 ks
  have h2:=Zg5 l os ⟨[],[],[]⟩
  have h3:=J8 o
  have h4:=J8 n
  have:=Jb o
  have:=Jb n
  have hf:=Zbo (ZP l os ⟨[],[],[]⟩)
  have hz:ctW ⟨[],[],[]⟩=0:=rfl
  rw [ZE]
  split
  ·simp only [ctE,Z1W,YJ,Qb];omega
  ·split
   ·simp only [ctE,YJ,Z10];omega
   ·split
    ·simp only [ctE,Z1W,Z10,Qb];omega
    ·simp only [ctE,Z1W,YJ,Z10,Qb];omega
theorem Zg6:∀ (ks:List (KidOf Edit)),Z1W (JU ks)<=Z1W ks
 | []=> Qd _
 | k ::r=> by
  have h1:=Zl6 k
  have h2:=Zg6 r
  simp only [JU,Z1W]
  omega
theorem Zl6:∀ (k:KidOf Edit),Z6Y (Z1R k)<=Z6Y k
 | ⟨a,e⟩=> by
  have:=Zhs e
  simp only [Z1R,Z6Y]
  omega
theorem Zg5(list:Int):∀ (os:List (OpOf Edit)) (w:Wst),ctW (ZP list os w)<=ctW w+YJ os
 | [],w=> Qd _
 | o ::r,w=> by
  have h1:=Zoc list o w
  have h2:=Zg5 list r (Z05 list o w)
  simp only [ZP,YJ]
  omega
theorem Zoc(list:Int):∀ (o:OpOf Edit) (w:Wst),ctW (Z05 list o w)<=ctW w+Z2W o
 | ⟨k,n,l,e⟩,w=> by
  have he:=Zhs e
  have h18:=Zod e
  have hl:=Z3D l
  have hc:=fun a b=> Yf a b
  rw [Z05]
  simp only [Z2W]
  split
  ·have:=Zjr w n;omega
  ·split
   ·have:=Yf w.gone (Z9 l)
    simp only [ctW]
    split <;> split <;> omega
   ·split
    ·have:=Yf w.brought (Z9 l)
     simp only [ctW]
     split <;> split <;> split <;> omega
    ·split
     ·split
      ·have:=Zjr w 1;omega
      ·have hf:=Zbo w
       show YJ ((Z0 w).out++[⟨3,0,[],ZE e⟩])+_+_<=_
       rw [Z2q,hf]
       simp only [YJ,Z2W,Z4,Qb,if_pos]
       omega
     ·omega
end
def Yp(φ:Op->Int):List Op->Int
 | []=> 0
 | o ::r=> φ o+Yp φ r
theorem Z9U(φ:Op->Int):∀ a b:List Op,Yp φ (a++b)=Yp φ a+Yp φ b
 | [],b=> by simp [Yp]
 | o ::r,b=> by simp only [Qs,Yp,Z9U φ r b];omega
def Zlr(φ:Op->Int):Prop:=∀ o n,ZO o->1<=n->¬Z1 o<=n->φ (Zp o n)+φ (Ym o n)=φ o
theorem Z3a{φ:Op->Int}(hφ:Zlr φ){p:List Op}{n:Int}(hp:∀ o∈p,ZO o)(hl:p.length≠0)(h1:1<=n):φ (Zp (p.getD 0 Op.nil) n)+Yp φ (Zu p n)=Yp φ p/\∀ o∈Zu p n,ZO o:=by
 cases p with
 | nil=> exact absurd rfl hl
 | cons o r=>
  have ho:=hp o Q5
  unfold Zu
  simp only [Qg,Qu,QD]
  by_cases h:Z1 o<=n
  ·rw [if_pos h]
   have e:Zp o n=o:=by unfold Zp;rw [if_pos h]
   rw [e]
   exact ⟨rfl,fun x hx=> hp x (Q4 _ hx)⟩
  ·rw [if_neg h]
   refine ⟨by simp only [Yp];have:=hφ o n ho h1 h;omega,fun x hx=> ?_⟩
   rcases Qc.1 hx with rfl | hx
   ·exact (Z6Z ho h1 h).1
   ·exact hp x (Q4 _ hx)
theorem ZmI{φ ψ:Op->Int}(hφ:Zlr φ)(hψ:Zlr ψ)(a:Int):∀ (k:Nat) (p q:List Op) (out:List Piece),p.length+q.length<=k->(∀ o∈p,ZO o)->(∀ o∈q,ZO o)->(ZG a 2 p q out).2.1=true->
  ∃ ps,(ZG a 2 p q out).1=out++ps/\Yp φ (Z4N ps)=Yp φ p/\Yp ψ (Z4M ps)=Yp ψ q/\ps.length<=p.length+q.length:=by
 intro k
 induction k with
 | zero=>
  intro p q out hk hp hq h
  have e1:p=[]:=Q3 (by omega)
  have e2:q=[]:=Q3 (by omega)
  subst e1 e2
  rw [ZG,dif_neg (by simp [sgl]),dif_neg (by simp [sgl]),dif_pos (by simp)]
  exact ⟨[],by simp,rfl,rfl,by simp⟩
 | succ k ih=>
  intro p q out hk hp hq h
  rw [ZG] at h ⊢
  by_cases h1:sgl a p=true
  ·rw [dif_pos h1] at h ⊢
   obtain ⟨g1,_⟩:=Yq.1 h1
   cases p with
   | nil=> exact absurd rfl g1
   | cons o r=>
    simp only [Qg,Qu,QD] at h ⊢
    obtain ⟨ps,e,f1,f2,f3⟩:=ih r q _ (by simp only [Q9] at hk;omega) (fun x hx=> hp x (Q4 _ hx)) hq h
    refine ⟨⟨1,o,Op.nil⟩ ::ps,by rw [e,Qe];rfl,?_,?_,by simp only [Q9];omega⟩
    ·show Yp φ (o ::Z4N ps)=_
     simp only [Yp];omega
    ·exact f2
  ·rw [dif_neg h1] at h ⊢
   by_cases h2:sgl 2 q=true
   ·rw [dif_pos h2] at h ⊢
    obtain ⟨g1,_⟩:=Yq.1 h2
    cases q with
    | nil=> exact absurd rfl g1
    | cons o r=>
     simp only [Qg,Qu,QD] at h ⊢
     obtain ⟨ps,e,f1,f2,f3⟩:=ih p r _ (by simp only [Q9] at hk;omega) hp (fun x hx=> hq x (Q4 _ hx)) h
     refine ⟨⟨2,Op.nil,o⟩ ::ps,by rw [e,Qe];rfl,f1,?_,by simp only [Q9];omega⟩
     show Yp ψ (o ::Z4M ps)=_
     simp only [Yp];omega
   ·rw [dif_neg h2] at h ⊢
    by_cases h3:p.length=0\/q.length=0
    ·rw [dif_pos h3] at h ⊢
     by_cases h4:decide (p.length=0)=decide (q.length=0)
     ·rw [if_pos h4]
      have h5:p.length=0/\q.length=0:=by
       have:=decide_eq_decide.1 h4
       omega
      rw [Q3 h5.1,Q3 h5.2]
      exact ⟨[],by simp,rfl,rfl,by simp⟩
     ·rw [if_neg h4] at h;cases h
    ·rw [dif_neg h3] at h ⊢
     have l1:p.length≠0:=by omega
     have l2:q.length≠0:=by omega
     have p1:=Zw (hp _ (Zh (l:=p) (i:=0) (by omega) Op.nil))
     have p2:=Zw (hq _ (Zh (l:=q) (i:=0) (by omega) Op.nil))
     generalize hn:min (Z1 (p.getD 0 Op.nil)) (Z1 (q.getD 0 Op.nil))=n at h ⊢
     obtain ⟨s1,s2⟩:=Z3a hφ hp l1 (n:=n) (by omega)
     obtain ⟨t1,t2⟩:=Z3a hψ hq l2 (n:=n) (by omega)
     have c1:=ZY p n l1
     have c2:=ZY q n l2
     have c3:Z1 (p.getD 0 Op.nil)<=n->(Zu p n).length < p.length:=fun h=> ZX p _ l1 h
     have c4:Z1 (q.getD 0 Op.nil)<=n->(Zu q n).length < q.length:=fun h=> ZX q _ l2 h
     obtain ⟨ps,e,f1,f2,f3⟩:=ih (Zu p n) (Zu q n) _ (by omega) s2 t2 h
     refine ⟨⟨0,Zp (p.getD 0 Op.nil) n,Zp (q.getD 0 Op.nil) n⟩ ::ps,by rw [e,Qe];rfl,?_,?_,by simp only [Q9];omega⟩
     ·show Yp φ (Zp (p.getD 0 Op.nil) n ::Z4N ps)=_
      simp only [Yp];omega
     ·show Yp ψ (Zp (q.getD 0 Op.nil) n ::Z4M ps)=_
      simp only [Yp];omega
def φA(o:Op):Int:=if o.kind=2 then 0 else Z1 o
def φB(o:Op):Int:=if o.kind=1 then 0 else Z1 o
def φC(o:Op):Int:=Z4 o.l+ctE o.e - 18
theorem Z9V:∀ l,Yp φA l=Yy l
 | []=> rfl
 | o ::r=> by simp only [Yp,Yy,φA,Z9V r]
theorem Z0v:∀ l,Yp φB l=Y7 l
 | []=> rfl
 | o ::r=> by simp only [Yp,Y7,φB,Z0v r]
theorem Zgp:∀ l,Yp φC l+34*l.length=YJ l
 | []=> rfl
 | o ::r=> by
  have:=Zgp r
  simp only [Yp,YJ,φC,Z1K,Q9]
  omega
theorem Z0f(o:Op)(n:Int):(Ym o n).kind=o.kind:=by unfold Ym;split <;> rfl
theorem Zom{o:Op}{n:Int}(ho:ZO o)(h1:1<=n)(hn:¬Z1 o<=n):Z1 (Ym o n)=Z1 o - n:=by
 obtain ⟨_,_,v3,_⟩:=Z9G (a:=1) ho h1 hn
 have hl:=Y4 o
 rcases ho with ⟨k0,k1,k2,k3⟩ | ⟨k0,k1,k2,k3⟩ | ⟨k0,k1,k2⟩
 ·unfold Ym
  rw [if_pos k0,Y4]
  dsimp only
  rw [if_neg (by omega)] at hl ⊢
  omega
 ·unfold Ym
  rw [if_neg (by omega),Y4]
  dsimp only
  rw [if_neg (by omega)] at hl ⊢
  rw [X7]
  omega
 ·rw [if_pos k0] at hl
  omega
theorem Zsj:Zlr φB:=by
 intro o n ho h1 hn
 obtain ⟨_,_,v3,_⟩:=Z9G (a:=1) ho h1 hn
 have:=Zom ho h1 hn
 unfold φB
 rw [J0,Z0f,v3,this]
 split <;> omega
theorem Zsi:Zlr φC:=by
 intro o n ho h1 hn
 have hl:=Y4 o
 unfold φC Zp Ym
 rw [if_neg hn]
 rcases ho with ⟨k0,k1,k2,k3⟩ | ⟨k0,k1,k2,k3⟩ | ⟨k0,k1,k2⟩
 ·rw [if_pos k0,if_pos k0]
  dsimp only
  rw [k3,k1,Z7T]
  simp [Z4]
 ·rw [if_neg (by omega),if_neg (by omega)]
  dsimp only
  have:=Yf (o.l.take n.toNat) (o.l.drop n.toNat)
  rw [QF] at this
  rw [k3,Z7T]
  omega
 ·rw [if_pos k0] at hl
  omega
theorem Z9L{D list:Int}:∀ {l:List Tree},Y0 D list l=true->Y0 (-1) list l=true
 | [],_=> rfl
 | t ::r,h=> by
  simp only [Y0,Q1] at h ⊢
  exact ⟨Z44 _ _ _ (by decide) h.1,Z9L h.2⟩
mutual
theorem Yh:∀ (e:Edit) (d m:Int),m < 0->Z6 e d=true->Z6 e m=true
 | .mk k o n w ks l os,d,m,hm,h=> by
  have h1:=Z8c ks
  have h2:=Z8a l os
  rw [Z6] at h ⊢
  split at h
  ·cases h
  ·rename_i a
   rw [if_neg (by omega)]
   split at h
   ·cases h
   ·rename_i b
    rw [if_neg b]
    split at h
    ·rename_i c
     rw [if_pos c,Zbn hm]
     simp only [Q1] at h ⊢
     exact ⟨⟨Z44 _ _ _ (by decide) h.1.1,Z44 _ _ _ (by decide) h.1.2⟩,h.2⟩
    ·rename_i c
     rw [if_neg c]
     simp only [Q1] at h ⊢
     exact ⟨⟨⟨⟨h.1.1.1.1,h1 _ _ (m - 1) (by omega) h.1.1.1.2⟩,h.1.1.2⟩,h2 _ (m - 1) (by omega) h.1.2⟩,h.2⟩
theorem Z8c:∀ (ks:List (KidOf Edit)) (last d m:Int),m < 0->Zx last ks d=true->Zx last ks m=true
 | [],_,_,_,_,_=> rfl
 | k ::r,last,d,m,hm,h=> by
  simp only [Zx,Q1] at h ⊢
  exact ⟨Zd7 k last d m hm h.1,Z8c r k.at_ d m hm h.2⟩
theorem Zd7:∀ (k:KidOf Edit) (last d m:Int),m < 0->J5 last k d=true->J5 last k m=true
 | ⟨a,e⟩,last,d,m,hm,h=> by
  simp only [J5,Q1] at h ⊢
  exact ⟨h.1,Yh e d m hm h.2⟩
theorem Z8a(list:Int):∀ (os:List (OpOf Edit)) (d m:Int),m < 0->ZA list os d=true->ZA list os m=true
 | [],_,_,_,_=> rfl
 | o ::r,d,m,hm,h=> by
  simp only [ZA,Q1] at h ⊢
  exact ⟨ZeW list o d m hm h.1,Z8a list r d m hm h.2⟩
theorem ZeW(list:Int):∀ (o:OpOf Edit) (d m:Int),m < 0->Zf list o d=true->Zf list o m=true
 | ⟨k,n,l,e⟩,d,m,hm,h=> by
  have he:=Yh e d m hm
  rw [Zf] at h ⊢
  split at h
  ·rename_i h0;rw [if_pos h0];exact h
  ·rename_i h0
   rw [if_neg h0]
   split at h
   ·cases h
   ·rename_i h1
    rw [if_neg h1]
    split at h
    ·rename_i h2
     rw [if_pos h2,Zbn hm]
     simp only [Q1] at h ⊢
     exact ⟨⟨Z9L h.1.1,h.1.2⟩,h.2⟩
    ·rename_i h2
     rw [if_neg h2]
     simp only [Q1] at h ⊢
     exact ⟨⟨h.1.1,he h.1.2⟩,h.2⟩
end
structure Wk (e:Edit):Prop where
 r:Z6 e (-1)=true
 g:Yz e
theorem Wk.of{e:Edit}{d:Int}(h:Z6 e d=true)(g:Yz e):Wk e:=⟨Yh e d _ (by decide) h,g⟩
theorem Yt{n:Int}(h0:0<=n)(h9:n<=9):InR n:=by unfold InR;omega
theorem Zkn{w:List WEdit}{ks:List Kid}(h1:Y6 (-1) w=true)(h2:Zx (-1) ks (-2)=true):Z6 (.mk 2 Tree.nil Tree.nil w ks 0 []) (-1)=true:=by
 rw [Z6,if_neg (by decide),if_neg (by simp [YW,Tree.nil]),if_neg (by decide),h1,show (-1:Int) - 1= -2 from rfl,h2]
 simp [ZA,Z0O,Z0N]
theorem Zkm{l:Int}{os:List Op}(hl:2<=l/\l<=9)(h:ZA l os (-2)=true)(h1:Z0O os 0 < 1048576)(h2:Z0N os 0 < 1048576):Z6 (.mk 3 Tree.nil Tree.nil [] [] l os) (-1)=true:=by
 rw [Z6,if_neg (by decide),if_neg (by simp [YW,Tree.nil]),if_neg (by decide),show (-1:Int) - 1= -2 from rfl,h]
 simp only [Y6,Zx,Qz,QX,Q1,decide_eq_true_eq]
 exact ⟨by omega,h1,h2⟩
theorem Z9F:∀ {l:List WEdit} {last:Int},asc WEdit.at_ last l->(∀ w∈l,w.at_<=65534/\w.mask≠0/\Yj w.old w.mask=true/\Yj w.new w.mask=true)->Y6 last l=true
 | [],_,_,_=> rfl
 | a ::r,last,h,hw=> by
  obtain ⟨h1,h2,h3,h4⟩:=hw a Q5
  simp only [Y6,Q1,decide_eq_true_eq]
  exact ⟨⟨⟨⟨h.1,h1,h2⟩,h3⟩,h4⟩,Z9F h.2 fun w hw'=> hw w (Q4 _ hw')⟩
theorem Zam{d:Int}:∀ {l:List Kid} {last:Int},asc KidOf.at_ last l->(∀ k∈l,k.at_<=65534/\k.e.kind≠0/\Z6 k.e d=true)->Zx last l d=true
 | [],_,_,_=> rfl
 | a ::r,last,h,hw=> by
  obtain ⟨h1,h2,h3⟩:=hw a Q5
  simp only [Zx,Z3l,Q1,decide_eq_true_eq]
  exact ⟨⟨⟨h.1,h1,h2⟩,h3⟩,Zam h.2 fun w hw'=> hw w (Q4 _ hw')⟩
theorem Zak{list d:Int}:∀ {l:List Op},(∀ o∈l,Zf list o d=true)->ZA list l d=true
 | [],_=> rfl
 | a ::r,h=> by
  simp only [ZA,Q1]
  exact ⟨h a Q5,Zak fun o ho=> h o (Q4 _ ho)⟩
theorem Z3U{D list:Int}:∀ {l:List Tree},(∀ t∈l,Zq (.mk list [] [t]) D=true)->Y0 D list l=true
 | [],_=> rfl
 | t ::r,h=> by
  simp only [Y0,Q1]
  exact ⟨h t Q5,Z3U fun x hx=> h x (Q4 _ hx)⟩
theorem Zir{list n:Int}(h1:1<=n)(h2:n<=1048576)(d:Int):Zf list ⟨0,n,[],Edit.nil⟩ d=true:=by
 rw [Zf,if_pos rfl,Z18]
 simp only [Qb,QX,decide_eq_true_eq]
 exact ⟨h1,h2,trivial⟩
theorem ZaP{list k d:Int}{l:List Tree}(hk:k=1\/k=2)(h:Y0 (dT d) list l=true)(hl:l≠[]):Zf list ⟨k,0,l,Edit.nil⟩ d=true:=by
 rw [Zf,if_neg (by omega),if_neg (by omega),if_pos (by omega),Z18,h]
 have:=Xt.2 hl
 simp only [Qz,QX,decide_eq_true_eq]
 omega
theorem Zis{list d:Int}{e:Edit}(h:Z6 e d=true)(h0:e.kind≠0)(hl:7 < list)(hw:list=8\/e.kind=2\/e.kind=1/\e.old.kind=1/\e.new.kind=1):Zf list ⟨3,0,[],e⟩ d=true:=by
 rw [Zf,if_neg (by decide),if_neg (by decide),if_neg (by decide),h]
 simp only [Qb,QX,Q1,decide_eq_true_eq]
 exact ⟨⟨trivial,h0,hl⟩,hw⟩
def Wl(list:Int)(e:Edit):Prop:=list=8\/e.kind=2\/e.kind=1/\e.old.kind=1/\e.new.kind=1
theorem Zk3{w m:Int}(h:∀ i,i < 8->Z2e m (i:Nat)=false->Zc w i=0):Yj w m=true:=by
 unfold Yj mix of8
 rw [decide_eq_true_eq]
 have z:∀ i,i < 8->YD w 0 m i=0:=by
  intro i hi
  unfold YD
  split
  ·exact Zsf i
  ·rename_i hn;exact h i hi (by simpa using hn)
 rw [z 0 (by omega),z 1 (by omega),z 2 (by omega),z 3 (by omega),z 4 (by omega),z 5 (by omega),z 6 (by omega),z 7 (by omega)]
 try rfl
theorem ZeS:∀ {l:List Kid},(∀ k∈l,InR k.at_/\Yz k.e)->Z25 l
 | [],_=> trivial
 | ⟨a,e⟩ ::r,h=> ⟨h _ Q5,ZeS fun k hk=> h k (Q4 _ hk)⟩
theorem ZeR:∀ {l:List Op},(∀ o∈l,Z1D o)->Z1b l
 | [],_=> trivial
 | o ::r,h=> ⟨h _ Q5,ZeR fun k hk=> h k (Q4 _ hk)⟩
end Go.AM.Ytpjenobkibfpcaa
namespace Go.AM
def wOk(w:WEdit):Prop:=ZeQ w/\Yj w.old w.mask=true/\Yj w.new w.mask=true
end Go.AM
namespace Go.AM.Ytpjenobkibfpcaa
open Go.AM Go.Proofs
theorem Z5i:Z5 Edit.nil=3:=rfl
theorem ZiB(e:Edit):3<=Z5 e:=by
 obtain ⟨k,o,n,w,ks,l,os⟩:=e
 have:=Jb o
 have:=Jb n
 simp only [Z5];omega
theorem ZkE:Z6 Edit.nil 1=true:=rfl
mutual
def utE:Edit->Nat
 | .mk _ o n w ks _ os=> 16+Zj o+Zj n+65600*w.length+ZlV ks+Zk7 os
def ZlV:List (KidOf Edit)->Nat
 | []=> 0
 | k ::r=> ZrI k+ZlV r
def ZrI:KidOf Edit->Nat
 | ⟨_,e⟩=> 65600+utE e
def Zk7:List (OpOf Edit)->Nat
 | []=> 0
 | o ::r=> Zpr o+Zk7 r
def Zpr:OpOf Edit->Nat
 | ⟨k,n,l,e⟩=> if k=3 then 16+utE e else 34*(n.toNat+l.length)+Z4 l
end
theorem Zsz(e:Edit):utE e=16+Zj e.old+Zj e.new+65600*e.words.length+ZlV e.kids+Zk7 e.ops:=by cases e;rfl
theorem ZlW(k:Kid):ZrI k=65600+utE k.e:=by cases k;rfl
theorem Zpq(o:Op):Zpr o=if o.kind=3 then 16+utE o.e else 34*(o.n.toNat+o.l.length)+Z4 o.l:=by cases o;rfl
theorem ZlU:∀ (n:Nat) (e:Edit),Z5 e<=n->(∃ d,Z6 e d=true)->ZU e=true->utE e+131100<=65600*Z5 e+150000*Z5 e:=by
 intro n
 induction n with
 | zero=> intro e h;have:=ZiB e;omega
 | succ n ih=>
  intro e hn ⟨d,hr⟩ hl
  have R:=Zr hr
  have hm:=ZiB e
  have me:Z5 e=1+Zj e.old+Zj e.new+e.words.length+e.ops.length+ZN e.kids+Zg e.ops:=by cases e;rfl
  have mo:=Jb e.old
  have mn:=Jb e.new
  rw [Z4i,Q1,Q1,decide_eq_true_eq] at hl
  obtain ⟨⟨l1,l2⟩,l3⟩:=hl
  have hk:∀ l:List Kid,(∀ k∈l,k∈e.kids)->YQ l=true->ZlV l<=215600*ZN l:=by
   intro l
   induction l with
   | nil=> intro _ _;exact Qd _
   | cons a r ihl=>
    intro h hl
    simp only [YQ,Q1,Z8w] at hl
    have ha:=h a Q5
    have:=Yo ha
    have:=ih a.e (by omega) ⟨_,(ZD R.kids a ha).2⟩ hl.1
    have:=ihl (fun k hk=> h k (Q4 _ hk)) hl.2
    simp only [ZlV,ZN,ZlW,Z7B];omega
  have ook:=J6 hr
  have ho:∀ l:List Op,(∀ o∈l,o∈e.ops)->ZI l=true->(Zk7 l:Int)<=215600*Zg l+34*Z1V l+16*l.length:=by
   intro l
   induction l with
   | nil=> intro _ _;simp [Zk7,Zg,Z1V]
   | cons a r ihl=>
    intro h hl
    simp only [ZI,Q1,Zb9] at hl
    have ha:=h a Q5
    have:=ihl (fun k hk=> h k (Q4 _ hk)) hl.2
    have hr:=rightOs_mem R.ops ha
    have key:(Zpr a:Int)<=215600*Zs a+34*Z1 a+16:=by
     have me:=Jd ha
     have ml:=Zt a.l
     rw [Zpq,ZK]
     have rt:=J4 hr
     have hp:=Y4 a
     cases rt with
     | keep n h1 h2=> rw [if_neg (show ¬(0:Int)=3 by decide)];rw [if_neg (show ¬(0:Int)=3 by decide)] at hp;simp only [Z4,Qb,Z5i] at*;omega
     | gone l h1 h2=> rw [if_neg (show ¬(1:Int)=3 by decide)];rw [if_neg (show ¬(1:Int)=3 by decide)] at hp;dsimp only at*;simp only [Z5i] at*;omega
     | come l h1 h2=> rw [if_neg (show ¬(2:Int)=3 by decide)];rw [if_neg (show ¬(2:Int)=3 by decide)] at hp;dsimp only at*;simp only [Z5i] at*;omega
     | into e' h1 h2=>
      rw [if_pos rfl] at hp ⊢
      have:=ih e' (by dsimp only at me;omega) ⟨_,h1⟩ hl.1
      simp only [Z4];omega
    simp only [Zk7,Zg,Z1V,Q9];omega
  have h1:=hk e.kids (fun k h=> h) l2
  have h2:=ho e.ops (fun k h=> h) l3
  have h3:=kids_sum ook
  have h4:Yy e.ops<=2000/\Y7 e.ops<=2000:=by
   have ok:∀ o∈e.ops,0<=Z1 o:=fun o ho=> ZdJ (ook o ho)
   have a:=JW e.ops 0 ok (by decide) (by decide)
   have b:=Z0s e.ops 0 ok (by decide) (by decide)
   omega
  rw [Zsz,me]
  omega
where
 kids_sum:∀ {l:List Op},(∀ o∈l,ZO o)->Z1V l<=Yy l+Y7 l
  | [],_=> by simp [Z1V,Yy,Y7]
  | o ::r,h=> by
   have h1:=Zw (h o Q5)
   have h2:=kids_sum fun x hx=> h x (Q4 _ hx)
   simp only [Z1V,Yy,Y7]
   split <;> split <;> omega
def φU(o:Op):Int:=Zpr o
def ZvZ(e:Edit):Prop:=utE e<=9000000000/\Yz e/\∃ d,Z6 e d=true
noncomputable section
noncomputable section
def ZjQ:ArgL (Int × Unit):=(.cons (Jv .u8) .nil)
def ZaL(a:Int × Unit):Prop:=0<=a.1/\a.1 < 256
def Zmo(a:Int × Unit):V U:= .c (.int .u64 ((Z03 (a.1).toNat 8:Nat):Int))
def Z5J:Fs U:=fs ZjQ (fun a=> [ZaL a]) Zmo
def Z6f:Ze U:=lvl [([0],[]),([0,3],[]),([0,3,5],[]),([0,3,5,6],[]),([0,3,4,5],[]),([0,3,4,5,12],[]),([0,3,5],[]),([0,3,5],[]),([2],[])]
def JK(m x3 x5:Int):LSt U:=(L2 [(0,.c (.int .u8 m)),(3,.c (.int .u64 x3)),pI 5 x5] [])
abbrev Zwv(m:Int)(Q:QT):=AW (Z2 Zhc) Try.f105 Z6f [] (L2 [(0,.c (.int .u8 m))] []) Q
abbrev ZhH:=awp cfg (Z2 Zhc) (Yn cfg (Z2 Zhc)) Try.f105.ntmps Z6f
abbrev Zgs:=Zm5 cfg (Z2 Zhc) (Yn cfg (Z2 Zhc)) Try.f105.ntmps Z6f
theorem ZvR(m:Int)(Q:QT)(h:Zm (AW (Z2 Zhc) Try.f105 Z6f [1,1,0,1,0,0]) (JK m 0 0) (xB 0 (SW (Z2 Zhc) Try.f105 Z6f [1,1,1] Q))):
  Zwv m Q:=by
 have e_:(Zwv m Q)=(Zm (ZhH (cd Try.f105 [1,1,0,1,0,0])) (JK m 0 0) (xB 0 (Zgs (cd Try.f105 [1,1,1]) Q))):=by kernel_rfl
 exact e_.mpr h
abbrev Zk0(m x3 x5:Int)(N0:NT)(Q:QT):=AW (Z2 Zhc) Try.f105 Z6f [1,1,0,1,0,0] (JK m x3 x5) (xT N0 (xB 0 (SW (Z2 Zhc) Try.f105 Z6f [1,1,1] Q)))
theorem ZlS(m x3 x5:Int)(N0:NT)(Q:QT)(h:((decide (x5 < 8))=true->((0:Int)<=x5)/\(((((IntKind.wrap .u8 (BitVec.ofInt (IntKind.bits .u8) (Int.fdiv m (2 ^ (min x5.toNat (IntKind.bits .u8)))) &&& BitVec.ofInt (IntKind.bits .u8) 1).toNat):Int)==1)=true->(InR ((8:Int)*x5))/\((0:Int)<=((8:Int)*x5))/\((InR (x5+1))/\(N0 (JK m (IntKind.wrap .u64 (BitVec.ofInt (IntKind.bits .u64) x3 ||| BitVec.ofInt (IntKind.bits .u64) (IntKind.wrap .u64 ((255:Int)*2 ^ (min (Int.toNat ((8:Int)*x5)) (IntKind.bits .u64))))).toNat) (x5+1)))))/\((((IntKind.wrap .u8 (BitVec.ofInt (IntKind.bits .u8) (Int.fdiv m (2 ^ (min x5.toNat (IntKind.bits .u8)))) &&& BitVec.ofInt (IntKind.bits .u8) 1).toNat):Int)==1)=false->(InR (x5+1))/\(N0 (JK m x3 (x5+1))))))/\((decide (x5 < 8))=false->Q .ret (L2 [(2,.c (.int .u64 x3))] []))):
  Zk0 m x3 x5 N0 Q:=by
 have e_:(Zk0 m x3 x5 N0 Q)=(let zz0:=(((IntKind.wrap .u8 (BitVec.ofInt (IntKind.bits .u8) (Int.fdiv m (2 ^ (min x5.toNat (IntKind.bits .u8)))) &&& BitVec.ofInt (IntKind.bits .u8) 1).toNat):Int)==1);(((decide ((x5:Int) < 8))=true->(((0:Int)<=x5)/\((zz0=true->(InR ((8:Int)*x5))/\((0:Int)<=((8:Int)*x5))/\((InR ((x5:Int)+1))/\(N0 (JK m (IntKind.wrap .u64 (BitVec.ofInt (IntKind.bits .u64) x3 ||| BitVec.ofInt (IntKind.bits .u64) (IntKind.wrap .u64 ((255:Int)*2 ^ (min (Int.toNat ((8:Int)*x5)) (IntKind.bits .u64))))).toNat) ((x5:Int)+1)))))/\(zz0=false->(InR ((x5:Int)+1))/\(N0 (JK m x3 ((x5:Int)+1)))))))/\((decide ((x5:Int) < 8))=false->(Q .ret (L2 [(2,.c (.int .u64 x3))] []))))):=by kernel_rfl
 exact e_.mpr ⟨fun c_1=> ⟨(h.1 c_1).1,⟨fun c_2=> ⟨((h.1 c_1).2.1 c_2).1,((h.1 c_1).2.1 c_2).2.1,⟨((h.1 c_1).2.1 c_2).2.2.1,((h.1 c_1).2.1 c_2).2.2.2⟩⟩,fun c_2=> ⟨((h.1 c_1).2.2 c_2).1,((h.1 c_1).2.2 c_2).2⟩⟩⟩,fun c_1=> (h.2 c_1)⟩
def ZrE(m:Int):Prop:=AW (Z2 Zhc) Try.f105 Z6f [] (Zk (ZjQ.can (m,())) []) (EQ Try.f105 (Zmo (m,())) [])
theorem Zqj(hb:∀ (m:Int) (_:Unit),ZaL (m,())->ZrE m):CT 105 Z5J:=
 Z3 (l:=[]) Zl rfl trivial Z6f Try.func105 rfl rfl 1 (fun _=> rfl) (by decide) (fun ⟨m,_⟩=> hb m ())
def ZnR:List (FuncId × Fs U):=[(105,Z5J)]
def Ztt:Ze U:=lvl [([0,1,2],[]),([6],[])]
abbrev W66(a b m:Int)(Q:QT):=AW (Z2 ZnR) Try.f66 Ztt [] (L2 [(0,.c (.int .u64 a)),(1,.c (.int .u64 b)),(2,.c (.int .u8 m))] []) Q
theorem ZwX(a b m:Int)(Q:QT)(h:(ZaL (m,()))/\(ZaL (m,()))/\(Q .ret (L2 [(6,.c (.int .u64 (IntKind.wrap .u64 (BitVec.ofInt (IntKind.bits .u64) (IntKind.wrap .u64 (BitVec.ofInt (IntKind.bits .u64) a &&& ~~~(BitVec.ofInt (IntKind.bits .u64) ((Z03 m.toNat 8:Nat):Int))).toNat) ||| BitVec.ofInt (IntKind.bits .u64) (IntKind.wrap .u64 (BitVec.ofInt (IntKind.bits .u64) b &&& BitVec.ofInt (IntKind.bits .u64) ((Z03 m.toNat 8:Nat):Int)).toNat)).toNat)))] []))):
  W66 a b m Q:=by
 have e_:(W66 a b m Q)=(type_of% h):=by kernel_rfl
 exact e_.mpr ⟨h.1,h.2.1,h.2.2⟩
def ZuH(a b m:Int):Prop:=AW (Z2 ZnR) Try.f66 Ztt [] (Zk (ZjS.can (a,b,m,())) []) (EQ Try.f66 (Zmq (a,b,m,())) [])
theorem Ztc(Zud:CT 105 Z5J)(hb:∀ (a:Int) (b:Int) (m:Int) (_:Unit),ZdE (a,b,m,())->ZuH a b m):CT 66 Z5K:=
 Z3 (l:=[(105,Z5J)]) Zl rfl (⟨Zud,trivial⟩) Ztt Try.func66 rfl rfl 3 (fun _=> rfl) (by decide) (fun ⟨a,b,m,_⟩=> hb a b m ())
end
end
theorem Zok:∀ n:Fin 256,∀ i:Fin 8,IntKind.wrap .u8 (BitVec.ofInt (IntKind.bits .u8) (Int.fdiv (n.1:Int) (2 ^ (min (Int.toNat (i.1:Int)) (IntKind.bits .u8)))) &&& BitVec.ofInt (IntKind.bits .u8) 1).toNat=((n.1 / 2 ^ i.1 % 2:Nat):Int):=by decide+kernel
theorem ZpB:∀ n:Fin 256,∀ i:Fin 8,IntKind.wrap .u64 (BitVec.ofInt (IntKind.bits .u64) ((Z03 n.1 i.1:Nat):Int) ||| BitVec.ofInt (IntKind.bits .u64) (IntKind.wrap .u64 (255*2 ^ (min (Int.toNat (8*(i.1:Int))) (IntKind.bits .u64))))).toNat=((Z03 n.1 i.1+255*2 ^ (8*i.1):Nat):Int):=by decide+kernel
theorem Zud:Contract Try.prog cfg 105 Z5J:=by
 refine Zqj ?_
 intro m _ hp
 simp only [ZaL] at hp
 obtain ⟨n,rfl⟩:=QR hp.1
 have hn:n < 256:=by omega
 refine ZvR _ _ ?_
 refine Za (ι:=Nat) (fun i=> JK n ((Z03 n i:Nat):Int) i) (fun i=> i<=8) (fun i=> 8 - i) 0 rfl (by omega) ?_
 intro i hi
 refine ZlS _ _ _ _ _ ?_
 (simp only [vcS])
 refine ⟨fun hc=> ⟨by omega,fun hq=> ⟨by unfold InR;omega,by omega,by unfold InR;omega,i+1,?_,by omega,by omega⟩,fun hq=> ⟨by unfold InR;omega,i+1,?_,by omega,by omega⟩⟩,fun hc=> ?_⟩
 ·have h1:=Zok ⟨n,hn⟩ ⟨i,by omega⟩
  have h2:=ZpB ⟨n,hn⟩ ⟨i,by omega⟩
  simp only at h1 h2
  rw [h1] at hq
  rw [h2]
  have e:Z03 n (i+1)=Z03 n i+255*2 ^ (8*i):=by simp only [Z03];rw [if_pos (by omega)]
  rw [e]
  try rfl
 ·have h1:=Zok ⟨n,hn⟩ ⟨i,by omega⟩
  simp only at h1
  rw [h1] at hq
  have e:Z03 n (i+1)=Z03 n i:=by simp only [Z03];rw [if_neg (by omega)];omega
  rw [e]
  try rfl
 ·have:i=8:=by omega
  subst this
  exact Yi rfl rfl
theorem Z0Y(a:Nat)(h:a < 2 ^ 64):(BitVec.ofInt 64 (a:Int)).toNat=a:=by
 rw [BitVec.toNat_ofInt]
 omega
theorem c66:Contract Try.prog cfg 66 Z5K:=by
 refine Ztc Zud ?_
 intro a b m _ hp
 simp only [ZdE] at hp
 obtain ⟨⟨a0,a1⟩,⟨b0,b1⟩,m0,m1⟩:=hp
 obtain ⟨x,rfl⟩:=QR a0
 obtain ⟨y,rfl⟩:=QR b0
 obtain ⟨n,rfl⟩:=QR m0
 have hn:n < 256:=by omega
 have hx:x < 2 ^ 64:=by omega
 have hy:y < 2 ^ 64:=by omega
 have hw:=ZoS ⟨n,hn⟩
 have hw2:=ZhJ ⟨n,hn⟩
 simp only at hw hw2
 rw [<-hw2] at hw
 refine ZwX _ _ _ _ ?_
 refine ⟨⟨m0,m1⟩,⟨m0,m1⟩,Yi rfl ?_⟩
 have em:mix x y n=(((x &&& (2 ^ 64 - 1 - Z03 n 8)) ||| (y &&& Z03 n 8):Nat):Int):=by rw [<-Zn1,<-Zn0 x y n hn]
 have e1:(BitVec.ofInt 64 (x:Int) &&& ~~~(BitVec.ofInt 64 ((Z03 n 8:Nat):Int))).toNat=x &&& (2 ^ 64 - 1 - Z03 n 8):=by
  rw [Km,BitVec.toNat_not,Z0Y x hx,Z0Y _ hw]
 have e2:(BitVec.ofInt 64 (y:Int) &&& BitVec.ofInt 64 ((Z03 n 8:Nat):Int)).toNat=y &&& Z03 n 8:=by
  rw [Km,Z0Y y hy,Z0Y _ hw]
 have l1:x &&& (2 ^ 64 - 1 - Z03 n 8) < 2 ^ 64:=Nat.lt_of_le_of_lt Nat.and_le_left hx
 have l2:y &&& Z03 n 8 < 2 ^ 64:=Nat.lt_of_le_of_lt Nat.and_le_left hy
 have l3:(x &&& (2 ^ 64 - 1 - Z03 n 8)) ||| (y &&& Z03 n 8) < 2 ^ 64:=Nat.or_lt_two_pow l1 l2
 have key:IntKind.wrap .u64 ((BitVec.ofInt 64 (IntKind.wrap .u64 ((BitVec.ofInt 64 (x:Int) &&& ~~~(BitVec.ofInt 64 ((Z03 n 8:Nat):Int))).toNat:Int)) ||| BitVec.ofInt 64 (IntKind.wrap .u64 ((BitVec.ofInt 64 (y:Int) &&& BitVec.ofInt 64 ((Z03 n 8:Nat):Int)).toNat:Int))).toNat:Int)=mix x y n:=by
  have w1:∀ k:Nat,k < 2 ^ 64->IntKind.wrap .u64 (k:Int)=k:=fun k hk=> Z37 (by omega) (by omega)
  rw [e1,e2,w1 _ l1,w1 _ l2,BitVec.toNat_or,Z0Y _ l1,Z0Y _ l2,w1 _ l3,em]
 exact key
noncomputable section
noncomputable section
def ZjJ:ArgL (List Tree × List Tree × Unit × Unit):=(.cons (aSl .tree) (.cons (aSl .tree) (.cons (aFn 106) .nil)))
def Z57(a:List Tree × List Tree × Unit × Unit):Prop:=Z4 a.1<=1000000000000/\Z4 a.2.1<=1000000000000
def Zmk(a:List Tree × List Tree × Unit × Unit):V U:= .c (.bool (eqX (Z9 a.1) (Z9 a.2.1)))
def JP:Fs U:=fs ZjJ (fun a=> [Z57 a]) Zmk
def Z0i:List (FuncId × Fs U):=[(106,YV)]
def Z6e:Ze U:=lvl [([0,1,2],[]),([0,1,2,14],[]),([6],[]),([1,2,15,16,17],[]),([1,2,15,16,17,18],[]),([1,2,7,8,15,16,17],[8]),([1,2,8,9,15,16,17],[8,9]),([1,2,15,16,17,30],[]),([6],[]),([1,2,15,16,17],[]),([6],[])]
def Z13(a b:List Tree)(f:Unit)(x17:Int):LSt U:=(L2 [(1,.c (sU .tree b .unk)),(2,.fn 106),(15,.c (sU .tree a .unk)),pI 16 (a.length:Int),pI 17 x17] [])
abbrev Zwr(a b:List Tree)(f:Unit)(Q:QT):=AW (Z2 Z0i) Try.f151 Z6e [] (L2 [(0,.c (sU .tree a .unk)),(1,.c (sU .tree b .unk)),(2,.fn 106)] []) Q
abbrev ZhG:=awp cfg (Z2 Z0i) (Yn cfg (Z2 Z0i)) Try.f151.ntmps Z6e
abbrev Zgr:=Zm5 cfg (Z2 Z0i) (Yn cfg (Z2 Z0i)) Try.f151.ntmps Z6e
theorem ZvB(a b:List Tree)(f:Unit)(Q:QT)(h:((((a.length:Int):Int) !=(b.length:Int))=true->Q .ret (L2 [pB 6 false] []))/\((((a.length:Int):Int) !=(b.length:Int))=false->Zm (AW (Z2 Z0i) Try.f151 Z6e [1,1,0,1,0,0]) (Z13 a b f 0) (xB 0 (SW (Z2 Z0i) Try.f151 Z6e [1,1,1] Q)))):
  Zwr a b f Q:=by
 have e_:(Zwr a b f Q)=((((a.length:Int) !=(b.length:Int))=true->(Q .ret (L2 [pB 6 false] [])))/\(((a.length:Int) !=(b.length:Int))=false->(Zm (ZhG (cd Try.f151 [1,1,0,1,0,0])) (Z13 a b f 0) (xB 0 (Zgr (cd Try.f151 [1,1,1]) Q))))):=by kernel_rfl
 exact e_.mpr ⟨fun c_4=> (h.1 c_4),fun c_4=> (h.2 c_4)⟩
abbrev ZjY(a b:List Tree)(f:Unit)(x17:Int)(N0:NT)(Q:QT):=AW (Z2 Z0i) Try.f151 Z6e [1,1,0,1,0,0] (Z13 a b f x17) (xT N0 (xB 0 (SW (Z2 Z0i) Try.f151 Z6e [1,1,1] Q)))
theorem ZlC(a b:List Tree)(f:Unit)(x17:Int)(N0:NT)(Q:QT)(h:((decide (x17 < (a.length:Int)))=true->((0:Int)<=x17/\x17 < (a.length:Int))/\(((0:Int)<=x17/\x17 < (b.length:Int))/\((Z0y ((Tree.mk (Tree.kind (a.getD x17.toNat Tree.nil)) (Tree.words (a.getD x17.toNat Tree.nil)) (Tree.kids (a.getD x17.toNat Tree.nil))),(Tree.mk (Tree.kind (b.getD x17.toNat Tree.nil)) (Tree.words (b.getD x17.toNat Tree.nil)) (Tree.kids (b.getD x17.toNat Tree.nil))),()))/\(((!(Y3 (Z7 (Tree.mk (Tree.kind (a.getD x17.toNat Tree.nil)) (Tree.words (a.getD x17.toNat Tree.nil)) (Tree.kids (a.getD x17.toNat Tree.nil)))) (Z7 (Tree.mk (Tree.kind (b.getD x17.toNat Tree.nil)) (Tree.words (b.getD x17.toNat Tree.nil)) (Tree.kids (b.getD x17.toNat Tree.nil))))))=true->Q .ret (L2 [pB 6 false] []))/\((!(Y3 (Z7 (Tree.mk (Tree.kind (a.getD x17.toNat Tree.nil)) (Tree.words (a.getD x17.toNat Tree.nil)) (Tree.kids (a.getD x17.toNat Tree.nil)))) (Z7 (Tree.mk (Tree.kind (b.getD x17.toNat Tree.nil)) (Tree.words (b.getD x17.toNat Tree.nil)) (Tree.kids (b.getD x17.toNat Tree.nil))))))=false->(InR (x17+1))/\(N0 (Z13 a b f (x17+1))))))))/\((decide (x17 < (a.length:Int)))=false->Q .ret (L2 [pB 6 true] []))):
  ZjY a b f x17 N0 Q:=by
 have e_:(ZjY a b f x17 N0 Q)=(let zz0:=(!(Y3 (Z7 (Tree.mk (Tree.kind (a.getD x17.toNat Tree.nil)) (Tree.words (a.getD x17.toNat Tree.nil)) (Tree.kids (a.getD x17.toNat Tree.nil)))) (Z7 (Tree.mk (Tree.kind (b.getD x17.toNat Tree.nil)) (Tree.words (b.getD x17.toNat Tree.nil)) (Tree.kids (b.getD x17.toNat Tree.nil))))));(((decide ((x17:Int) < (a.length:Int)))=true->((0:Int)<=x17/\x17 < (a.length:Int))/\(((0:Int)<=x17/\x17 < (b.length:Int))/\((Z0y ((Tree.mk (Tree.kind (a.getD x17.toNat Tree.nil)) (Tree.words (a.getD x17.toNat Tree.nil)) (Tree.kids (a.getD x17.toNat Tree.nil))),(Tree.mk (Tree.kind (b.getD x17.toNat Tree.nil)) (Tree.words (b.getD x17.toNat Tree.nil)) (Tree.kids (b.getD x17.toNat Tree.nil))),()))/\((zz0=true->(Q .ret (L2 [pB 6 false] [])))/\(zz0=false->(InR ((x17:Int)+1))/\(N0 (Z13 a b f ((x17:Int)+1))))))))/\((decide ((x17:Int) < (a.length:Int)))=false->(Q .ret (L2 [pB 6 true] []))))):=by kernel_rfl
 exact e_.mpr ⟨fun c_5=> ⟨(h.1 c_5).1,⟨(h.1 c_5).2.1,⟨(h.1 c_5).2.2.1,⟨fun c_6=> ((h.1 c_5).2.2.2.1 c_6),fun c_6=> ⟨((h.1 c_5).2.2.2.2 c_6).1,((h.1 c_5).2.2.2.2 c_6).2⟩⟩⟩⟩⟩,fun c_5=> (h.2 c_5)⟩
def Zro(a b:List Tree)(f:Unit):Prop:=AW (Z2 Z0i) Try.f151 Z6e [] (Zk (ZjJ.can (a,b,f,())) []) (EQ Try.f151 (Zmk (a,b,f,())) [])
theorem Zq7(Z8X:CT 106 YV)(hb:∀ (a:List Tree) (b:List Tree) (f:Unit) (_:Unit),Z57 (a,b,f,())->Zro a b f):CT 151 JP:=
 Z3 (l:=[(106,YV)]) Zl rfl (⟨Z8X,trivial⟩) Z6e Try.func151 rfl rfl 3 (fun _=> rfl) (by decide) (fun ⟨a,b,f,_⟩=> hb a b f ())
end
end
theorem Zee:Contract Try.prog cfg 151 JP:=by
 refine Zq7 Z8X ?_
 intro a b f _ hp
 simp only [Z57] at hp
 refine ZvB a b f _ ?_
 (simp only [vcS])
 refine ⟨fun hc=> Zb rfl (Z2U (a:=Z9 a) (b:=Z9 b) (fun h=> hc (by have:=congrArg List.length h;simp [Z9] at this;omega))).symm,fun hc=> ?_⟩
 have hl:a.length=b.length:=by omega
 have hla:=Zt a
 refine Za (ι:=Int) (fun i=> Z13 a b f i) (fun i=> 0<=i/\i<=a.length/\∀ j:Nat,(j:Int) < i->Z7 (a.getD j Tree.nil)=Z7 (b.getD j Tree.nil)) (fun i=> ((a.length:Int) - i).toNat) 0 rfl ⟨by omega,by omega,by intro j hj;omega⟩ ?_
 rintro i ⟨h1,h2,h3⟩
 refine ZlC a b f _ _ _ ?_
 (simp only [vcS])
 (simp only [Tree.eta,Edit.eta,Tree.kind_mk,Tree.words_mk,Tree.kids_mk])
 refine ⟨fun hi=> ⟨⟨h1,hi⟩,⟨h1,by omega⟩,?_,fun hq=> ?_,fun hq=> ⟨by unfold InR;omega,i+1,rfl,⟨by omega,by omega,?_⟩,by omega⟩⟩,fun hi=> ?_⟩
 ·have:=YS (Zh (l:=a) (i:=i.toNat) (by omega) Tree.nil)
  have:=YS (Zh (l:=b) (i:=i.toNat) (by omega) Tree.nil)
  simp only [Z0y];omega
 ·refine Zb rfl (Z2U (a:=Z9 a) (b:=Z9 b) (fun h=> ?_)).symm
  have h5:=ZfX (d:=Tree.nil) h i.toNat
  rw [Yr] at hq
  exact hq h5
 ·intro j hj
  by_cases hj2:(j:Int) < i
  ·exact h3 j hj2
  ·rw [J2,show i.toNat=j by omega] at hq
   exact hq
 ·exact Zb rfl (Jz (a:=Z9 a) (b:=Z9 b).2 (ZfD Tree.nil hl (fun j hj=> h3 j (by omega)))).symm
noncomputable section
def Z60(a:List Int × Unit):List Int:=a.1
def Z22:Fs U:=fsL ZjP (fun a=> [ZaK a]) .u64 Z60
def ZjK:ArgL (List Tree × Unit):=(.cons (aSl .tree) .nil)
def ZaG(a:List Tree × Unit):Prop:=a.1.length<=1000000000000
def Z9m(a:List Tree × Unit):List Tree:=a.1
def Z3X:Fs U:=fsL ZjK (fun a=> [ZaG a]) .tree Z9m
def Z7X:ArgL (Edit × Tree × Unit):=(.cons (aEl .edit) (.cons (aEl .tree) .nil))
def Z27(a:Edit × Tree × Unit):Prop:=(Z5 a.1<=20000000000/\Yz a.1/\∃ d,Z6 a.1 d=true)/\Zj a.2.1+ctE a.1<=200000000000/\rng a.2.1
def ZbE(a:Edit × Tree × Unit):Nat:=2*Z5 a.1+1
def Z3n(a:Edit × Tree × Unit):V U:= .tup [(true,(enc .tree (Z8R a.1 a.2.1))),(false,[.bool ((doE false a.1 a.2.1).isSome)])]
def Z79:Fs U:=fs Z7X (fun a=> [Z27 a]) Z3n
def Z2L(a:Edit × Tree × Unit):Prop:=Edit.kind a.1=2/\(Z5 a.1<=20000000000/\Yz a.1/\∃ d,Z6 a.1 d=true)/\Zj a.2.1+ctE a.1<=200000000000/\rng a.2.1
def Z8o(a:Edit × Tree × Unit):Nat:=2*Z5 a.1
def Z2H(a:Edit × Tree × Unit):V U:= .tup [(true,(enc .tree (Z32 (Z8P false a.1 a.2.1)))),(false,[.bool ((Z8P false a.1 a.2.1).isSome)])]
def ZhV:Fs U:=fs Z7X (fun a=> [Z2L a]) Z2H
def Z2K(a:Edit × Tree × Unit):Prop:=Edit.kind a.1=3/\(Z5 a.1<=20000000000/\Yz a.1/\∃ d,Z6 a.1 d=true)/\Zj a.2.1+ctE a.1<=200000000000/\rng a.2.1
def Z2G(a:Edit × Tree × Unit):V U:= .tup [(true,(enc .tree (ZnC a.1 (Z4J false a.1 a.2.1)))),(false,[.bool ((Zbk (Z4J false a.1 a.2.1)).isSome)])]
def ZhU:Fs U:=fs Z7X (fun a=> [Z2K a]) Z2G
def Zh1:Ze U:=fun i=> match i with
 | 0=> ([(0,[])],[])
 | 1=> ([(0,[]),(4,[])],[])
 | 2=> ([(2,[.wr .u64])],[])
 | 3=> ([(2,[.wr .u64])],[])
 | _=> ([],[])
abbrev ZwK(p:List Nat):=AW (Z1o Zhc) Try.f109 Zh1 p
theorem Zsx(l:List Int)(Q:QT)(h:(((l=[])->(Q .ret (⟨[(2,.c (.mref (.e 2 0)))],[],[(.e 2 0,LC.mk (U:=U) .u64 [] 0)]⟩:LSt U)))/\(True->((([]:List Int).length+l.length)*8<=140737488355328)/\(Q .ret (⟨[(2,.c (.mref (.e 2 0)))],[],[(.e 2 0,LC.mk (U:=U) .u64 (([]:List Int)++l) (([]:List Int).length))]⟩:LSt U))))):
  ZwK [] (L2 [(0,.c (sU .u64 l .unk))] []) Q:=
 Eq.mpr (by kernel_rfl) h
def ZoM(l:List Int):Prop:=AW (Z1o Zhc) Try.f109 Zh1 [] (Zk (ZjP.can (l,())) []) (JG cfg Try.f109.ntmps Try.f109.results.toList (.c (.mref (.r 0 0))) [] [(.r 0 0,LC.mk (U:=U) .u64 (Z60 (l,())) 0)])
theorem Zn5(hb:∀ (l:List Int) (_:Unit),ZaK (l,())->ZoM l):CT 109 Z22:=
 JZ (l:=[]) Zl rfl trivial Zh1 Try.func109 rfl rfl 1 (fun _=> rfl) (by decide) (fun ⟨l,_⟩=> hb l ())
def Znt:Ze U:=fun i=> match i with
 | 0=> ([(0,[])],[])
 | 1=> ([(0,[]),(4,[])],[])
 | 2=> ([(2,[.wr .tree])],[])
 | 3=> ([(2,[.wr .tree])],[])
 | _=> ([],[])
abbrev ZxF(p:List Nat):=AW (Z1o Zhc) Try.f150 Znt p
theorem ZvC(l:List Tree)(Q:QT)(h:(((l=[])->(Q .ret (⟨[(2,.c (.mref (.e 2 0)))],[],[(.e 2 0,LC.mk (U:=U) .tree [] 0)]⟩:LSt U)))/\(True->((([]:List Tree).length+l.length)*56<=140737488355328)/\(Q .ret (⟨[(2,.c (.mref (.e 2 0)))],[],[(.e 2 0,LC.mk (U:=U) .tree (([]:List Tree)++l) (([]:List Tree).length))]⟩:LSt U))))):
  ZxF [] (L2 [(0,.c (sU .tree l .unk))] []) Q:=
 Eq.mpr (by kernel_rfl) h
def Zrp(l:List Tree):Prop:=AW (Z1o Zhc) Try.f150 Znt [] (Zk (ZjK.can (l,())) []) (JG cfg Try.f150.ntmps Try.f150.results.toList (.c (.mref (.r 0 0))) [] [(.r 0 0,LC.mk (U:=U) .tree (Z9m (l,())) 0)])
theorem Zq8(hb:∀ (l:List Tree) (_:Unit),ZaG (l,())->Zrp l):CT 150 Z3X:=
 JZ (l:=[]) Zl rfl trivial Znt Try.func150 rfl rfl 1 (fun _=> rfl) (by decide) (fun ⟨l,_⟩=> hb l ())
def Z7I(N:Nat):List (FuncId × Fs U):=(70,fs Z7X (fun a=> [Z27 a,ZbE a < N]) Z3n) ::(107,fs Z7X (fun a=> [Z2L a,Z8o a < N]) Z2H) ::(108,fs Z7X (fun a=> [Z2K a,Z8o a < N]) Z2G) ::[(106,YV),(149,Z0G),(91,Z2B),(151,JP),(150,Z3X),(66,Z5K),(109,Z22)]
def Zts:Ze U:=lvl [([2,3,4],[2,3,4]),([2,3,4,7],[2,3,4]),([2,3,4,7,8],[2,3,4]),([4,5],[4]),([2,3,4,7,11],[2,3,4]),([4,5],[4]),([2,3,4,7,19],[2,3,4]),([4,5],[4]),([2,3,4,26],[2,3,4]),([4,5],[4]),([4,5],[4])]
abbrev A70(N:Nat)(p:List Nat):=AW (Z2 (Z7I N)) Try.f70 Zts p
theorem ZwT(N:Nat)(e:Edit)(t:Tree)(Q:QT)(h:∀ y_1,y_1=e->∀ y_2,y_2=t->∀ y_3,y_3=(e.old)->(((e.kind==0)=true->(Q .ret (L2 [pL 4,pB 5 true] [(.loc 4,(enc .tree t))])))/\((e.kind==0)=false->(((e.kind==1)=true->(Z0y (y_3,y_2,()))/\(Q .ret (L2 [pL 4,pB 5 (Y3 (Z7 y_3) (Z7 y_2))] [(.loc 4,(enc .tree e.new))])))/\((e.kind==1)=false->(((e.kind==2)=true->(Z2L (y_1,y_2,()))/\(Z8o (y_1,y_2,()) < N)/\(Q .ret (L2 [pL 4,pB 5 ((Z8P false y_1 y_2).isSome)] [(.loc 4,(enc .tree (Z32 (Z8P false y_1 y_2))))])))/\((e.kind==2)=false->(((e.kind==3)=true->(Z2K (y_1,y_2,()))/\(Z8o (y_1,y_2,()) < N)/\(Q .ret (L2 [pL 4,pB 5 ((Zbk (Z4J false y_1 y_2)).isSome)] [(.loc 4,(enc .tree (ZnC y_1 (Z4J false y_1 y_2))))])))/\((e.kind==3)=false->(Q .ret (L2 [pL 4,pB 5 false] [(.loc 4,[ci 0,.nils,.nils])]))))))))))):
  A70 N [] (L2 [(0,.agg (enc .edit e)),(1,.agg (enc .tree t))] []) Q:=
 Eq.mpr (by kernel_rfl) (h _ (Z8 _) _ (Zd _) _ (Zd _))
def ZuD(N:Nat)(e:Edit)(t:Tree):Prop:=AW (Z2 (Z7I N)) Try.f70 Zts [] (Zk (Z7X.can (e,t,())) []) (EQ Try.f70 (Z3n (e,t,())) [])
abbrev ZwF:Prop:=∀ (N:Nat) (e:Edit) (t:Tree) (_:Unit),Z27 (e,t,())->ZbE (e,t,()) < N+1->ZuD N e t
def ZiK:Ze U:=fun i=> match i with
 | 0=> ([(2,[]),(3,[]),(4,[])],[(.loc 2,[]),(.loc 3,[]),(.loc 4,[])])
 | 1=> ([(2,[]),(3,[]),(4,[]),(16,[])],[(.loc 2,[]),(.loc 3,[]),(.loc 4,[])])
 | 2=> ([(4,[]),(5,[])],[(.loc 4,[])])
 | 3=> ([(2,[]),(3,[]),(4,[]),(6,[])],[(.loc 2,[]),(.loc 3,[]),(.loc 4,[]),(.loc 6,[.any,.wr .u64,.wr .tree])])
 | 4=> ([(2,[]),(3,[]),(4,[]),(6,[]),(26,[]),(27,[]),(28,[])],[(.loc 2,[]),(.loc 3,[]),(.loc 4,[]),(.loc 6,[.any,.wr .u64,.wr .tree])])
 | 5=> ([(2,[]),(3,[]),(4,[]),(6,[]),(26,[]),(27,[]),(28,[]),(29,[])],[(.loc 2,[]),(.loc 3,[]),(.loc 4,[]),(.loc 6,[.any,.wr .u64,.wr .tree])])
 | 6=> ([(2,[]),(3,[]),(4,[]),(6,[]),(8,[]),(26,[]),(27,[]),(28,[])],[(.loc 2,[]),(.loc 3,[]),(.loc 4,[]),(.loc 6,[.any,.wr .u64,.wr .tree]),(.loc 8,[])])
 | 7=> ([(2,[]),(3,[]),(4,[]),(6,[]),(8,[]),(9,[]),(26,[]),(27,[]),(28,[])],[(.loc 2,[]),(.loc 3,[]),(.loc 4,[]),(.loc 6,[.any,.wr .u64,.wr .tree]),(.loc 8,[])])
 | 8=> ([(2,[]),(3,[]),(4,[]),(6,[]),(8,[]),(9,[]),(26,[]),(27,[]),(28,[]),(42,[])],[(.loc 2,[]),(.loc 3,[]),(.loc 4,[]),(.loc 6,[.any,.wr .u64,.wr .tree]),(.loc 8,[])])
 | 9=> ([(4,[]),(5,[])],[(.loc 4,[])])
 | 10=> ([(2,[]),(3,[]),(4,[]),(6,[]),(8,[]),(9,[]),(26,[]),(27,[]),(28,[]),(42,[]),(49,[])],[(.loc 2,[]),(.loc 3,[]),(.loc 4,[]),(.loc 6,[.any,.wr .u64,.wr .tree]),(.loc 8,[])])
 | 11=> ([(2,[]),(3,[]),(4,[]),(6,[]),(8,[]),(9,[]),(26,[]),(27,[]),(28,[]),(42,[])],[(.loc 2,[]),(.loc 3,[]),(.loc 4,[]),(.loc 6,[.any,.wr .u64,.wr .tree]),(.loc 8,[])])
 | 12=> ([(2,[]),(3,[]),(4,[]),(6,[]),(26,[]),(27,[]),(28,[])],[(.loc 2,[]),(.loc 3,[]),(.loc 4,[]),(.loc 6,[.any,.wr .u64,.wr .tree])])
 | 13=> ([(2,[]),(3,[]),(4,[]),(6,[]),(26,[]),(27,[]),(28,[])],[(.loc 2,[]),(.loc 3,[]),(.loc 4,[]),(.loc 6,[.any,.wr .u64,.wr .tree])])
 | 14=> ([(3,[]),(4,[]),(6,[]),(68,[]),(69,[]),(70,[])],[(.loc 3,[]),(.loc 4,[]),(.loc 6,[.any,.wr .u64,.wr .tree])])
 | 15=> ([(3,[]),(4,[]),(6,[]),(68,[]),(69,[]),(70,[]),(71,[])],[(.loc 3,[]),(.loc 4,[]),(.loc 6,[.any,.wr .u64,.wr .tree])])
 | 16=> ([(3,[]),(4,[]),(6,[]),(11,[]),(68,[]),(69,[]),(70,[])],[(.loc 3,[]),(.loc 4,[]),(.loc 6,[.any,.wr .u64,.wr .tree]),(.loc 11,[])])
 | 17=> ([(3,[]),(4,[]),(6,[]),(11,[]),(12,[]),(13,[]),(68,[]),(69,[]),(70,[])],[(.loc 3,[]),(.loc 4,[]),(.loc 6,[.any,.wr .u64,.wr .tree]),(.loc 11,[]),(.loc 12,[])])
 | 18=> ([(3,[]),(4,[]),(6,[]),(11,[]),(12,[]),(68,[]),(69,[]),(70,[]),(85,[])],[(.loc 3,[]),(.loc 4,[]),(.loc 6,[.any,.wr .u64,.wr .tree]),(.loc 11,[]),(.loc 12,[])])
 | 19=> ([(4,[]),(5,[])],[(.loc 4,[])])
 | 20=> ([(3,[]),(4,[]),(6,[]),(11,[]),(12,[]),(68,[]),(69,[]),(70,[]),(85,[]),(92,[])],[(.loc 3,[]),(.loc 4,[]),(.loc 6,[.any,.wr .u64,.wr .tree]),(.loc 11,[]),(.loc 12,[])])
 | 21=> ([(3,[]),(4,[]),(6,[]),(11,[]),(12,[]),(68,[]),(69,[]),(70,[]),(85,[])],[(.loc 3,[]),(.loc 4,[]),(.loc 6,[.any,.wr .u64,.wr .tree]),(.loc 11,[]),(.loc 12,[])])
 | 22=> ([(3,[]),(4,[]),(6,[]),(68,[]),(69,[]),(70,[])],[(.loc 3,[]),(.loc 4,[]),(.loc 6,[.any,.wr .u64,.wr .tree])])
 | 23=> ([(3,[]),(4,[]),(6,[]),(68,[]),(69,[]),(70,[])],[(.loc 3,[]),(.loc 4,[]),(.loc 6,[.any,.wr .u64,.wr .tree])])
 | 24=> ([(4,[]),(5,[])],[(.loc 4,[])])
 | _=> ([],[])
def Z4x(e:Edit)(t:Tree)(x28:Int)(rl_6_1:List Int):LSt U:=(⟨[pL 2,pL 3,pL 4,pL 6,(26,.c (sU .wedit e.words .unk)),pI 27 (e.words.length:Int),pI 28 x28],[(.loc 2,(enc .edit e)),(.loc 3,(enc .tree t)),(.loc 4,[ci 0,.nils,.nils]),(.loc 6,[ci 1,.mref (.l 6 1),.mref (.l 6 2)])],[(.l 6 1,LC.mk (U:=U) .u64 rl_6_1 0),(.l 6 2,LC.mk (U:=U) .tree t.kids 0)]⟩:LSt U)
def Z4w(e:Edit)(t:Tree)(x28:Int)(rl_6_1_a:List Int):LSt U:=(⟨[pL 2,pL 3,pL 4,pL 6,pL 8,(9,.c (.int .u64 (YY (Tree.mk t.kind t.words t.kids) (WEdit.at_ (e.words.getD x28.toNat (WEdit.mk 0 0 0 0)))))),(26,.c (sU .wedit e.words .unk)),pI 27 (e.words.length:Int),pI 28 x28,(42,.c (.bool (((mix 0 (YY (Tree.mk t.kind t.words t.kids) (WEdit.at_ (e.words.getD x28.toNat (WEdit.mk 0 0 0 0)))) (WEdit.mask (e.words.getD x28.toNat (WEdit.mk 0 0 0 0)))):Int) !=(WEdit.old (e.words.getD x28.toNat (WEdit.mk 0 0 0 0))))))],[(.loc 2,(enc .edit e)),(.loc 3,(enc .tree t)),(.loc 4,[ci 0,.nils,.nils]),(.loc 6,[ci 1,.mref (.l 6 1),.mref (.l 6 2)]),(.loc 8,(enc .wedit (e.words.getD x28.toNat (WEdit.mk 0 0 0 0))))],[(.l 6 1,LC.mk (U:=U) .u64 rl_6_1_a 0),(.l 6 2,LC.mk (U:=U) .tree t.kids 0)]⟩:LSt U)
def Z4v(e:Edit)(t:Tree)(rl_6_1:List Int)(x70_b:Int)(rl_6_2_b:List Tree):LSt U:=(⟨[pL 3,pL 4,pL 6,(68,.c (sU .kid e.kids .unk)),pI 69 (e.kids.length:Int),pI 70 x70_b],[(.loc 3,(enc .tree t)),(.loc 4,[ci 0,.nils,.nils]),(.loc 6,[ci 1,.mref (.l 6 1),.mref (.l 6 2)])],[(.l 6 1,LC.mk (U:=U) .u64 rl_6_1 0),(.l 6 2,LC.mk (U:=U) .tree rl_6_2_b 0)]⟩:LSt U)
def Z4u(e:Edit)(t:Tree)(rl_6_1:List Int)(x70_b:Int)(rl_6_2_c:List Tree):LSt U:=(⟨[pL 3,pL 4,pL 6,pL 11,pL 12,(68,.c (sU .kid e.kids .unk)),pI 69 (e.kids.length:Int),pI 70 x70_b,(85,.c (.bool (!((doE false (Edit.mk (Edit.kind (KidOf.e (e.kids.getD x70_b.toNat (KidOf.mk 0 Edit.nil)))) (Tree.mk (Tree.kind (Edit.old (KidOf.e (e.kids.getD x70_b.toNat (KidOf.mk 0 Edit.nil))))) (Tree.words (Edit.old (KidOf.e (e.kids.getD x70_b.toNat (KidOf.mk 0 Edit.nil))))) (Tree.kids (Edit.old (KidOf.e (e.kids.getD x70_b.toNat (KidOf.mk 0 Edit.nil)))))) (Tree.mk (Tree.kind (Edit.new (KidOf.e (e.kids.getD x70_b.toNat (KidOf.mk 0 Edit.nil))))) (Tree.words (Edit.new (KidOf.e (e.kids.getD x70_b.toNat (KidOf.mk 0 Edit.nil))))) (Tree.kids (Edit.new (KidOf.e (e.kids.getD x70_b.toNat (KidOf.mk 0 Edit.nil)))))) (Edit.words (KidOf.e (e.kids.getD x70_b.toNat (KidOf.mk 0 Edit.nil)))) (Edit.kids (KidOf.e (e.kids.getD x70_b.toNat (KidOf.mk 0 Edit.nil)))) (Edit.list (KidOf.e (e.kids.getD x70_b.toNat (KidOf.mk 0 Edit.nil)))) (Edit.ops (KidOf.e (e.kids.getD x70_b.toNat (KidOf.mk 0 Edit.nil))))) (Tree.mk (Tree.kind (Jf (Tree.mk t.kind t.words t.kids) (KidOf.at_ (e.kids.getD x70_b.toNat (KidOf.mk 0 Edit.nil))))) (Tree.words (Jf (Tree.mk t.kind t.words t.kids) (KidOf.at_ (e.kids.getD x70_b.toNat (KidOf.mk 0 Edit.nil))))) (Tree.kids (Jf (Tree.mk t.kind t.words t.kids) (KidOf.at_ (e.kids.getD x70_b.toNat (KidOf.mk 0 Edit.nil))))))).isSome))))],[(.loc 3,(enc .tree t)),(.loc 4,[ci 0,.nils,.nils]),(.loc 6,[ci 1,.mref (.l 6 1),.mref (.l 6 2)]),(.loc 11,(enc .kid (e.kids.getD x70_b.toNat (KidOf.mk 0 Edit.nil)))),(.loc 12,(enc .tree (Z8R (Edit.mk (Edit.kind (KidOf.e (e.kids.getD x70_b.toNat (KidOf.mk 0 Edit.nil)))) (Tree.mk (Tree.kind (Edit.old (KidOf.e (e.kids.getD x70_b.toNat (KidOf.mk 0 Edit.nil))))) (Tree.words (Edit.old (KidOf.e (e.kids.getD x70_b.toNat (KidOf.mk 0 Edit.nil))))) (Tree.kids (Edit.old (KidOf.e (e.kids.getD x70_b.toNat (KidOf.mk 0 Edit.nil)))))) (Tree.mk (Tree.kind (Edit.new (KidOf.e (e.kids.getD x70_b.toNat (KidOf.mk 0 Edit.nil))))) (Tree.words (Edit.new (KidOf.e (e.kids.getD x70_b.toNat (KidOf.mk 0 Edit.nil))))) (Tree.kids (Edit.new (KidOf.e (e.kids.getD x70_b.toNat (KidOf.mk 0 Edit.nil)))))) (Edit.words (KidOf.e (e.kids.getD x70_b.toNat (KidOf.mk 0 Edit.nil)))) (Edit.kids (KidOf.e (e.kids.getD x70_b.toNat (KidOf.mk 0 Edit.nil)))) (Edit.list (KidOf.e (e.kids.getD x70_b.toNat (KidOf.mk 0 Edit.nil)))) (Edit.ops (KidOf.e (e.kids.getD x70_b.toNat (KidOf.mk 0 Edit.nil))))) (Tree.mk (Tree.kind (Jf (Tree.mk t.kind t.words t.kids) (KidOf.at_ (e.kids.getD x70_b.toNat (KidOf.mk 0 Edit.nil))))) (Tree.words (Jf (Tree.mk t.kind t.words t.kids) (KidOf.at_ (e.kids.getD x70_b.toNat (KidOf.mk 0 Edit.nil))))) (Tree.kids (Jf (Tree.mk t.kind t.words t.kids) (KidOf.at_ (e.kids.getD x70_b.toNat (KidOf.mk 0 Edit.nil)))))))))],[(.l 6 1,LC.mk (U:=U) .u64 rl_6_1 0),(.l 6 2,LC.mk (U:=U) .tree rl_6_2_c 0)]⟩:LSt U)
abbrev ZeA(N:Nat)(p:List Nat):=AW (Z2 (Z7I N)) Try.f107 ZiK p
abbrev Z4K(N:Nat)(p:List Nat):=SW (Z2 (Z7I N)) Try.f107 ZiK p
theorem ZvP(N:Nat)(e:Edit)(t:Tree)(Q:QT)(h:(((t.kind !=1)=true->(Q .ret (L2 [pL 4,pB 5 false] [(.loc 4,[ci 0,.nils,.nils])])))/\((t.kind !=1)=false->(ZaK (t.words,()))/\(ZaG (t.kids,()))/\(Zm (ZeA N [1,1,1,0,1,0,0]) (Z4x e t 0 t.words) (xB 0 (Z4K N [1,1,1,1] Q)))))):
  ZeA N [] (L2 [(0,.agg (enc .edit e)),(1,.agg (enc .tree t))] []) Q:=
 Eq.mpr (by kernel_rfl) h
theorem ZlP(N:Nat)(e:Edit)(t:Tree)(x28:Int)(rl_6_1:List Int)(N0:NT)(Q:QT)(h:∀ y_1,y_1=t->∀ y_2,y_2=(e.words.getD x28.toNat (WEdit.mk 0 0 0 0))->let z1:=decide (x28 < (e.words.length:Int));let z0:=((mix 0 (YY y_1 y_2.at_) y_2.mask):Int) !=y_2.old;((z1=true->((0:Int)<=x28/\x28 < (e.words.length:Int))/\((Z7n (y_1,y_2.at_,()))/\((ZdE (0,(YY y_1 y_2.at_),y_2.mask,()))/\((z0=true->(Q .ret (L2 [pL 4,pB 5 false] [(.loc 4,[ci 0,.nils,.nils])])))/\(z0=false->Zm (ZeA N [1,1,1,0,1,0,0,1,1,0,0,1,1,1,0,0,0]) (Z4w e t x28 rl_6_1) (xB 2 (Z4K N [1,1,1,0,1,0,0,1,1,0,0,1,1,1,1] (xB 1 (Z4K N [1,1,1,0,1,0,0,1,1,1] (xT N0 (xB 0 (Z4K N [1,1,1,1] Q))))))))))))/\(z1=false->(Zm (ZeA N [1,1,1,1,0,1,0,0]) (Z4v e t rl_6_1 0 t.kids) (xB 4 (Z4K N [1,1,1,1,1] Q)))))):
  ZeA N [1,1,1,0,1,0,0] (Z4x e t x28 rl_6_1) (xT N0 (xB 0 (Z4K N [1,1,1,1] Q))):=
 Eq.mpr (by kernel_rfl) (h _ (Zd _) _ rfl)
theorem ZlO(N:Nat)(e:Edit)(t:Tree)(x28:Int)(rl_6_1_a:List Int)(N1 N0:NT)(Q:QT)(h:let z0:=e.words.getD x28.toNat (WEdit.mk 0 0 0 0);let z2:=YY (Tree.mk t.kind t.words t.kids) (WEdit.at_ z0);let z1:=decide (((rl_6_1_a.length:Int):Int)<=(WEdit.at_ z0));((z1=true->((rl_6_1_a.length+([0]).length)*8<=140737488355328)/\(N1 (Z4w e t x28 (rl_6_1_a++([0])))))/\(z1=false->(ZdE (z2,(WEdit.new z0),(WEdit.mask z0),()))/\((0:Int)<=(WEdit.at_ z0)/\(WEdit.at_ z0) < (rl_6_1_a.length:Int))/\((0:Nat)<=(Int.toNat (WEdit.at_ z0)))/\((InR (x28+1))/\(N0 (Z4x e t (x28+1) (List.set rl_6_1_a (Int.toNat (WEdit.at_ z0)) (mix z2 (WEdit.new z0) (WEdit.mask z0))))))))):
  ZeA N [1,1,1,0,1,0,0,1,1,0,0,1,1,1,0,0,0] (Z4w e t x28 rl_6_1_a) (xT N1 (xB 2 (Z4K N [1,1,1,0,1,0,0,1,1,0,0,1,1,1,1] (xB 1 (Z4K N [1,1,1,0,1,0,0,1,1,1] (xT N0 (xB 0 (Z4K N [1,1,1,1] Q)))))))):=
 Eq.mpr (by kernel_rfl) h
theorem ZlN(N:Nat)(e:Edit)(t:Tree)(rl_6_1:List Int)(x70_b:Int)(rl_6_2_b:List Tree)(N2:NT)(Q:QT)(h:∀ y_1,y_1=t->∀ y_2,y_2=(e.kids.getD x70_b.toNat (KidOf.mk 0 Edit.nil))->∀ y_3,y_3=(y_2.e)->∀ y_4,y_4=(Jf y_1 y_2.at_)->let z1:= !((doE false y_3 y_4).isSome);let z0:=decide (x70_b < (e.kids.length:Int));((z0=true->((0:Int)<=x70_b/\x70_b < (e.kids.length:Int))/\((Z7n (y_1,y_2.at_,()))/\(Z27 (y_3,y_4,()))/\(ZbE (y_3,y_4,()) < N)/\((z1=true->(Q .ret (L2 [pL 4,pB 5 false] [(.loc 4,[ci 0,.nils,.nils])])))/\(z1=false->Zm (ZeA N [1,1,1,1,0,1,0,0,1,1,0,0,1,1,1,0,0,0]) (Z4u e t rl_6_1 x70_b rl_6_2_b) (xB 6 (Z4K N [1,1,1,1,0,1,0,0,1,1,0,0,1,1,1,1] (xB 5 (Z4K N [1,1,1,1,0,1,0,0,1,1,1] (xT N2 (xB 4 (Z4K N [1,1,1,1,1] Q)))))))))))/\(z0=false->(Q .ret (L2 [pL 4,pB 5 true] [(.loc 4,[ci 1,sU .u64 rl_6_1 (.own (.l 4 1)),sU .tree rl_6_2_b (.own (.l 4 2))])]))))):
  ZeA N [1,1,1,1,0,1,0,0] (Z4v e t rl_6_1 x70_b rl_6_2_b) (xT N2 (xB 4 (Z4K N [1,1,1,1,1] Q))):=
 Eq.mpr (by kernel_rfl) (h _ (Zd _) _ rfl _ (Z8 _) _ (Zd _))
theorem ZlM(N:Nat)(e:Edit)(t:Tree)(rl_6_1:List Int)(x70_b:Int)(rl_6_2_c:List Tree)(N3 N2:NT)(Q:QT)(h:∀ y_1,y_1=t->∀ y_2,y_2=(e.kids.getD x70_b.toNat (KidOf.mk 0 Edit.nil))->∀ y_3,y_3=(y_2.e)->∀ y_4,y_4=(Jf y_1 y_2.at_)->∀ y_5,y_5=(Z8R y_3 y_4)->let z0:=decide (((rl_6_2_c.length:Int):Int)<=y_2.at_);((z0=true->((rl_6_2_c.length+([(Tree.mk 0 [] [])]).length)*56<=140737488355328)/\(N3 (Z4u e t rl_6_1 x70_b (rl_6_2_c++([(Tree.mk 0 [] [])])))))/\(z0=false->((0:Int)<=y_2.at_/\y_2.at_ < (rl_6_2_c.length:Int))/\((0:Nat)<=(Int.toNat y_2.at_))/\((InR (x70_b+1))/\(N2 (Z4v e t rl_6_1 (x70_b+1) (List.set rl_6_2_c (Int.toNat y_2.at_) y_5))))))):
  ZeA N [1,1,1,1,0,1,0,0,1,1,0,0,1,1,1,0,0,0] (Z4u e t rl_6_1 x70_b rl_6_2_c) (xT N3 (xB 6 (Z4K N [1,1,1,1,0,1,0,0,1,1,0,0,1,1,1,1] (xB 5 (Z4K N [1,1,1,1,0,1,0,0,1,1,1] (xT N2 (xB 4 (Z4K N [1,1,1,1,1] Q)))))))):=
 Eq.mpr (by kernel_rfl) (h _ (Zd _) _ rfl _ (Z8 _) _ (Zd _) _ (Zd _))
def ZrC(N:Nat)(e:Edit)(t:Tree):Prop:=AW (Z2 (Z7I N)) Try.f107 ZiK [] (Zk (Z7X.can (e,t,())) []) (EQ Try.f107 (Z2H (e,t,())) [])
abbrev Zst:Prop:=∀ (N:Nat) (e:Edit) (t:Tree) (_:Unit),Z2L (e,t,())->Z8o (e,t,()) < N+1->ZrC N e t
def ZiJ:Ze U:=fun i=> match i with
 | 0=> ([(2,[]),(3,[]),(4,[])],[(.loc 2,[]),(.loc 3,[]),(.loc 4,[])])
 | 1=> ([(2,[]),(3,[]),(4,[]),(18,[])],[(.loc 2,[]),(.loc 3,[]),(.loc 4,[])])
 | 2=> ([(4,[]),(5,[])],[(.loc 4,[])])
 | 3=> ([(2,[]),(3,[]),(4,[]),(6,[])],[(.loc 2,[]),(.loc 3,[]),(.loc 4,[]),(.loc 6,[])])
 | 4=> ([(2,[]),(4,[]),(6,[]),(7,[])],[(.loc 2,[]),(.loc 4,[]),(.loc 6,[])])
 | 5=> ([(4,[]),(6,[]),(7,[]),(26,[]),(27,[]),(28,[])],[(.loc 4,[]),(.loc 6,[.any,.any,.own .tree])])
 | 6=> ([(4,[]),(6,[]),(7,[]),(26,[]),(27,[]),(28,[]),(29,[])],[(.loc 4,[]),(.loc 6,[])])
 | 7=> ([(4,[]),(6,[]),(7,[]),(9,[]),(26,[]),(27,[]),(28,[])],[(.loc 4,[]),(.loc 6,[]),(.loc 9,[])])
 | 8=> ([(4,[]),(6,[]),(7,[]),(9,[]),(10,[]),(26,[]),(27,[]),(28,[])],[(.loc 4,[]),(.loc 6,[]),(.loc 9,[])])
 | 9=> ([(4,[]),(6,[]),(7,[]),(9,[]),(10,[]),(26,[]),(27,[]),(28,[]),(35,[])],[(.loc 4,[]),(.loc 6,[]),(.loc 9,[])])
 | 10=> ([(4,[]),(6,[]),(7,[]),(9,[]),(10,[]),(26,[]),(27,[]),(28,[]),(35,[]),(36,[])],[(.loc 4,[]),(.loc 6,[]),(.loc 9,[])])
 | 11=> ([(4,[]),(6,[]),(7,[]),(26,[]),(27,[]),(28,[]),(97,[])],[(.loc 4,[]),(.loc 6,[])])
 | 12=> ([(4,[]),(6,[]),(7,[]),(9,[]),(10,[]),(26,[]),(27,[]),(28,[]),(35,[]),(44,[])],[(.loc 4,[]),(.loc 6,[]),(.loc 9,[])])
 | 13=> ([(4,[]),(6,[]),(7,[]),(9,[]),(10,[]),(26,[]),(27,[]),(28,[]),(49,[])],[(.loc 4,[]),(.loc 6,[]),(.loc 9,[])])
 | 14=> ([(4,[]),(6,[]),(7,[]),(9,[]),(10,[]),(26,[]),(27,[]),(28,[]),(49,[])],[(.loc 4,[]),(.loc 6,[]),(.loc 9,[])])
 | 15=> ([(4,[]),(6,[]),(7,[]),(9,[]),(10,[]),(26,[]),(27,[]),(28,[]),(49,[])],[(.loc 4,[]),(.loc 6,[]),(.loc 9,[])])
 | 16=> ([(4,[]),(6,[]),(7,[]),(9,[]),(10,[]),(26,[]),(27,[]),(28,[]),(54,[])],[(.loc 4,[]),(.loc 6,[]),(.loc 9,[])])
 | 17=> ([(4,[]),(5,[])],[(.loc 4,[])])
 | 18=> ([(4,[]),(6,[]),(7,[]),(9,[]),(10,[]),(26,[]),(27,[]),(28,[])],[(.loc 4,[]),(.loc 6,[]),(.loc 9,[])])
 | 19=> ([(4,[]),(6,[]),(7,[]),(9,[]),(11,[]),(26,[]),(27,[]),(28,[])],[(.loc 4,[]),(.loc 6,[]),(.loc 9,[])])
 | 20=> ([(4,[]),(6,[]),(7,[]),(12,[]),(13,[]),(26,[]),(27,[]),(28,[])],[(.loc 4,[]),(.loc 6,[]),(.loc 12,[])])
 | 21=> ([(4,[]),(6,[]),(7,[]),(12,[]),(26,[]),(27,[]),(28,[]),(72,[])],[(.loc 4,[]),(.loc 6,[]),(.loc 12,[])])
 | 22=> ([(4,[]),(5,[])],[(.loc 4,[])])
 | 23=> ([(4,[]),(6,[]),(7,[]),(26,[]),(27,[]),(28,[]),(97,[])],[(.loc 4,[]),(.loc 6,[])])
 | 24=> ([(4,[]),(6,[]),(7,[]),(9,[]),(11,[]),(26,[]),(27,[]),(28,[]),(80,[])],[(.loc 4,[]),(.loc 6,[]),(.loc 9,[])])
 | 25=> ([(4,[]),(6,[]),(7,[]),(26,[]),(27,[]),(28,[]),(97,[])],[(.loc 4,[]),(.loc 6,[])])
 | 26=> ([(4,[]),(6,[]),(7,[]),(9,[]),(11,[]),(26,[]),(27,[]),(28,[]),(89,[])],[(.loc 4,[]),(.loc 6,[]),(.loc 9,[])])
 | 27=> ([(4,[]),(6,[]),(7,[]),(26,[]),(27,[]),(28,[]),(97,[])],[(.loc 4,[]),(.loc 6,[])])
 | 28=> ([(4,[]),(5,[])],[(.loc 4,[])])
 | 29=> ([(4,[]),(6,[]),(7,[]),(26,[]),(27,[]),(28,[])],[(.loc 4,[]),(.loc 6,[.any,.any,.own .tree])])
 | 30=> ([(4,[]),(5,[])],[(.loc 4,[])])
 | _=> ([],[])
def Z0d(e:Edit)(t:Tree)(x28:Int)(x7 ml6_2:List Tree):LSt U:=(L2 [pL 4,pL 6,(7,.c (sU .tree x7 .unk)),(26,.c (sU .op e.ops .unk)),pI 27 (e.ops.length:Int),pI 28 x28] [(.loc 4,[ci 0,.nils,.nils]),(.loc 6,[ci t.kind,.nils,sU .tree ml6_2 (.own (.l 6 2))])])
def Z15(e:Edit)(t:Tree)(x28:Int)(x7_a ml6_2_a:List Tree)(v97_a:V U):LSt U:=(L2 [pL 4,pL 6,(7,.c (sU .tree x7_a .unk)),(26,.c (sU .op e.ops .unk)),pI 27 (e.ops.length:Int),pI 28 x28,(97,v97_a)] [(.loc 4,[ci 0,.nils,.nils]),(.loc 6,[ci t.kind,.nils,sU .tree ml6_2_a (.own (.l 6 2))])])
def Z4t(e:Edit)(t:Tree)(x28:Int)(x7 ml6_2:List Tree)(x10_b:Int)(v49_b:V U):LSt U:=(L2 [pL 4,pL 6,(7,.c (sU .tree x7 .unk)),pL 9,pI 10 x10_b,(26,.c (sU .op e.ops .unk)),pI 27 (e.ops.length:Int),pI 28 x28,(49,v49_b)] [(.loc 4,[ci 0,.nils,.nils]),(.loc 6,[ci t.kind,.nils,sU .tree ml6_2 (.own (.l 6 2))]),(.loc 9,(enc .op (e.ops.getD x28.toNat Op.nil)))])
abbrev Z7Z(N:Nat)(p:List Nat):=AW (Z2 (Z7I N)) Try.f108 ZiJ p
abbrev Zez(N:Nat)(p:List Nat):=SW (Z2 (Z7I N)) Try.f108 ZiJ p
theorem ZvO(N:Nat)(e:Edit)(t:Tree)(Q:QT)(h:(((t.kind !=e.list)=true->(Q .ret (L2 [pL 4,pB 5 false] [(.loc 4,[ci 0,.nils,.nils])])))/\((t.kind !=e.list)=false->(Zm (Z7Z N [1,1,1,1,0,1,0,0]) (Z0d e t 0 t.kids []) (xB 0 (Zez N [1,1,1,1,1] Q)))))):
  Z7Z N [] (L2 [(0,.agg (enc .edit e)),(1,.agg (enc .tree t))] []) Q:=
 Eq.mpr (by kernel_rfl) h
theorem ZlK(N:Nat)(e:Edit)(t:Tree)(x28:Int)(x7 ml6_2:List Tree)(N0:NT)(Q:QT)(h:∀ y_1,y_1=(e.ops.getD x28.toNat Op.nil)->let z2:=decide (x28 < (e.ops.length:Int));let z1:=xT N0 (xB 0 (Zez N [1,1,1,1,1] Q));let z0:=xB 1 (Zez N [1,1,1,1,0,1,0,0,1,1,1] z1);((z2=true->((0:Int)<=x28/\x28 < (e.ops.length:Int))/\(((y_1.kind==2)=true->((ml6_2.length+y_1.l.length)*56<=140737488355328)/\(Z7Z N [1,1,1,1,0,1,0,0,1,1,1] (Z15 e t x28 x7 (ml6_2++y_1.l) .junk) z1))/\((y_1.kind==2)=false->(((y_1.kind==1)=true->(Z7Z N [1,1,1,1,0,1,0,0,1,1,0,0,1,1,1] (Z4t e t x28 x7 ml6_2 (y_1.l.length:Int) .junk) z0))/\((y_1.kind==1)=false->(((y_1.kind==3)=true->(Z7Z N [1,1,1,1,0,1,0,0,1,1,0,0,1,1,1] (Z4t e t x28 x7 ml6_2 1 (.c (.bool (y_1.kind==3)))) z0))/\((y_1.kind==3)=false->Z7Z N [1,1,1,1,0,1,0,0,1,1,0,0,1,1,1] (Z4t e t x28 x7 ml6_2 y_1.n (.c (.bool (y_1.kind==3)))) z0)))))))/\(z2=false->(Q .ret (L2 [pL 4,pB 5 (((x7.length:Int):Int)==0)] [(.loc 4,[ci t.kind,.nils,sU .tree ml6_2 (.own (.l 4 2))])]))))):
  Z7Z N [1,1,1,1,0,1,0,0] (Z0d e t x28 x7 ml6_2) (xT N0 (xB 0 (Zez N [1,1,1,1,1] Q))):=
 Eq.mpr (by kernel_rfl) (h _ rfl)
theorem ZlL(N:Nat)(e:Edit)(t:Tree)(x28:Int)(x7_a ml6_2_a:List Tree)(v97_a:V U)(N0:NT)(Q:QT)(h:(InR (x28+1))/\(N0 (Z0d e t (x28+1) x7_a ml6_2_a))):
  Z7Z N [1,1,1,1,0,1,0,0,1,1,1] (Z15 e t x28 x7_a ml6_2_a v97_a) (xT N0 (xB 0 (Zez N [1,1,1,1,1] Q))):=
 Eq.mpr (by kernel_rfl) h
theorem Z9H(N:Nat)(e:Edit)(t:Tree)(x28:Int)(x7 ml6_2:List Tree)(x10_b:Int)(v49_b:V U)(N0:NT)(Q:QT)(h:∀ y_1,y_1=(e.ops.getD x28.toNat Op.nil)->∀ y_2,y_2=(List.getD (List.take x10_b.toNat x7) (Int.toNat 0) Tree.nil)->∀ y_3,y_3=y_2->∀ y_4,y_4=(y_1.e)->∀ y_5,y_5=(eqX (Z9 y_1.l) (Z9 (List.take x10_b.toNat x7)))->∀ y_6,y_6=(Z8R y_4 y_3)->let z5:= !((doE false y_4 y_3).isSome);let z4:=decide (((x7.length:Int):Int) < x10_b);let z3:=List.drop x10_b.toNat x7;let z2:=List.take x10_b.toNat x7;let z1:=xT N0 (xB 0 (Zez N [1,1,1,1,1] Q));let z0:=Q .ret (L2 [pL 4,pB 5 false] [(.loc 4,[ci 0,.nils,.nils])]);((z4=true->z0)/\(z4=false->(((0:Int)<=x10_b/\x10_b<=(x7.length:Int))/\((0:Int)<=x10_b/\x10_b<=(x7.length:Int))/\(((y_1.kind==0)=true->((ml6_2.length+z2.length)*56<=140737488355328)/\(Z7Z N [1,1,1,1,0,1,0,0,1,1,1] (Z15 e t x28 z3 (ml6_2++z2) .junk) z1))/\((y_1.kind==0)=false->(((y_1.kind==1)=true->(Z57 (y_1.l,z2,(),()))/\(((!y_5)=true->z0)/\((!y_5)=false->Z7Z N [1,1,1,1,0,1,0,0,1,1,1] (Z15 e t x28 z3 ml6_2 (.c (.bool (!y_5)))) z1)))/\((y_1.kind==1)=false->((0:Int)<=0/\0 < (z2.length:Int))/\(Z27 (y_4,y_3,()))/\(ZbE (y_4,y_3,()) < N)/\((z5=true->z0)/\(z5=false->((ml6_2.length+([y_6]).length)*56<=140737488355328)/\(Z7Z N [1,1,1,1,0,1,0,0,1,1,1] (Z15 e t x28 z3 (ml6_2++([y_6])) .junk) z1))))))))))):
  Z7Z N [1,1,1,1,0,1,0,0,1,1,0,0,1,1,1] (Z4t e t x28 x7 ml6_2 x10_b v49_b) (xB 1 (Zez N [1,1,1,1,0,1,0,0,1,1,1] (xT N0 (xB 0 (Zez N [1,1,1,1,1] Q))))):=
 Eq.mpr (by kernel_rfl) (h _ rfl _ rfl _ (Zd _) _ (Z8 _) _ rfl _ (Zd _))
def ZrB(N:Nat)(e:Edit)(t:Tree):Prop:=AW (Z2 (Z7I N)) Try.f108 ZiJ [] (Zk (Z7X.can (e,t,())) []) (EQ Try.f108 (Z2G (e,t,())) [])
abbrev Zss:Prop:=∀ (N:Nat) (e:Edit) (t:Tree) (_:Unit),Z2K (e,t,())->Z8o (e,t,()) < N+1->ZrB N e t
theorem ZpH(Z8X:CT 106 YV)(Zlc:CT 149 Z0G)(c91:CT 91 Z2B)(Zee:CT 151 JP)(Zu6:CT 150 Z3X)(c66:CT 66 Z5K)(Zoh:CT 109 Z22)(b70:ZwF)(Zul:Zst)(Zuk:Zss):
  CT 70 Z79/\CT 107 ZhV/\CT 108 ZhU:=by
 have h82 : ∃ fn, Try.prog.funcs[(70 : FuncId)]? = some fn ∧ fn.body.isSome = true ∧ (fn.name == "runtime.NumGoroutine") = false := ⟨Try.f70, Try.func70, rfl, rfl⟩
 have h113 : ∃ fn, Try.prog.funcs[(107 : FuncId)]? = some fn ∧ fn.body.isSome = true ∧ (fn.name == "runtime.NumGoroutine") = false := ⟨Try.f107, Try.func107, rfl, rfl⟩
 have h114 : ∃ fn, Try.prog.funcs[(108 : FuncId)]? = some fn ∧ fn.body.isSome = true ∧ (fn.name == "runtime.NumGoroutine") = false := ⟨Try.f108, Try.func108, rfl, rfl⟩
 have key:∀ N,CT 70 (fs Z7X (fun a=> [Z27 a,ZbE a < N]) Z3n)/\CT 107 (fs Z7X (fun a=> [Z2L a,Z8o a < N]) Z2H)/\CT 108 (fs Z7X (fun a=> [Z2K a,Z8o a < N]) Z2G):=by
  intro N
  induction N with
  | zero=> exact ⟨Z6S h82,Z6S h113,Z6S h114⟩
  | succ N ih=>
   have kn:=Z0h (l:=Z7I N) ⟨ih.1,ih.2.1,ih.2.2,Z8X,Zlc,c91,Zee,Zu6,c66,Zoh,trivial⟩
   exact ⟨Jk (Γ:=Z2 (Z7I N)) Zl rfl kn Zts Try.func70 rfl rfl (fun a=> by show 2<=_;decide) (fun ⟨e,t,_⟩ h=> b70 N e t () h.1 h.2.1),
    Jk (Γ:=Z2 (Z7I N)) Zl rfl kn ZiK Try.func107 rfl rfl (fun a=> by show 2<=_;decide) (fun ⟨e,t,_⟩ h=> Zul N e t () h.1 h.2.1),
    Jk (Γ:=Z2 (Z7I N)) Zl rfl kn ZiJ Try.func108 rfl rfl (fun a=> by show 2<=_;decide) (fun ⟨e,t,_⟩ h=> Zuk N e t () h.1 h.2.1)⟩
 exact ⟨Z6T h82 fun N=> (key N).1,Z6T h113 fun N=> (key N).2.1,Z6T h114 fun N=> (key N).2.2⟩
end
noncomputable section
def Zia(a:Edit × Tree × Unit):V U:= .tup [(true,(enc .tree (Z32 ((doE false a.1 a.2.1).map Z7)))),(false,[.bool ((doE false a.1 a.2.1).isSome)])]
def Z3e:Fs U:=fs Z7X (fun a=> [Z27 a]) Zia
def ZnX:List (FuncId × Fs U):=[(71,JB),(70,Z79)]
def Ztz:Ze U:=lvl [([2,3,4],[2,3,4]),([4,6,7],[4,6]),([4,6,15],[4,6]),([4,5],[4]),([4,5],[4])]
abbrev A26(p:List Nat):=AW (Z2 ZnX) Try.f26 Ztz p
theorem Zxa(e:Edit)(t:Tree)(Q:QT)(h:∀ y_1,y_1=e->∀ y_2,y_2=t->∀ y_3,y_3=(Z8R y_1 y_2)->let z0:= !((doE false y_1 y_2).isSome);((Z27 (y_1,y_2,()))/\((z0=true->(Q .ret (L2 [pL 4,pB 5 false] [(.loc 4,[ci 0,.nils,.nils])])))/\(z0=false->(Z04 (y_3,()))/\(Q .ret (L2 [pL 4,pB 5 true] [(.loc 4,(enc .tree (Z7 y_3)))])))))):
  A26 [] (L2 [(0,.agg (enc .edit e)),(1,.agg (enc .tree t))] []) Q:=
 Eq.mpr (by kernel_rfl) (h _ (Z8 _) _ (Zd _) _ (Zd _))
def ZuU(e:Edit)(t:Tree):Prop:=AW (Z2 ZnX) Try.f26 Ztz [] (Zk (Z7X.can (e,t,())) []) (EQ Try.f26 (Zia (e,t,())) [])
theorem Ztn(c71:CT 71 JB)(c70:CT 70 Z79)(hb:∀ (e:Edit) (t:Tree) (_:Unit),Z27 (e,t,())->ZuU e t):CT 26 Z3e:=
 Z3 (l:=[(71,JB),(70,Z79)]) Zl rfl (⟨c71,c70,trivial⟩) Ztz Try.func26 rfl rfl 2 (fun _=> rfl) (by decide) (fun ⟨e,t,_⟩=> hb e t ())
end
end Go.AM.Ytpjenobkibfpcaa
