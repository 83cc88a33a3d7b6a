import Derived.Test.YtpjenobkibfpcaaKL23r
import Derived.Test.YtpjenobkibfpcaaKD20
set_option linter.unusedSimpArgs false
set_option linter.unusedVariables false
namespace Go.AM.Ytpjenobkibfpcaa
open Go.AM Go.Proofs
theorem ZuN(t:Tree):t.words.length+Z7 t.kids+1=Zi t:=by obtain ⟨k,w,ks⟩:=t;simp only [Zi,Tree.words_mk,Tree.kids_mk];omega
theorem ZdG:∀ (l:List Tree) (i:Nat) (x:Tree),i < l.length->Z7 (l.set i x)+Zi (l.getD i Tree.nil)=Z7 l+Zi x
 | [],i,x,h=> by simp at h
 | a ::r,0,x,_=> by simp only [List.set_cons_zero,Z7,Qk];omega
 | a ::r,i+1,x,h=> by
  have:=ZdG r i x (by simpa using h)
  simp only [List.set_cons_succ,Z7,Kg];omega
theorem Zin(n:Nat):Z7 (List.replicate n Tree.nil)=n:=by
 induction n with
 | zero=> rfl
 | succ n ih=> rw [List.replicate_succ,Z7,ih];simp [Tree.nil,Zi,Z7];omega
theorem Yu:∀ (a b:List Tree),Z7 (a++b)=Z7 a+Z7 b
 | [],b=> by simp [Z7]
 | t ::r,b=> by simp only [QA,Z7,Yu r b];omega
theorem Zmj(l:List Tree)(i:Nat)(x:Tree):Z7 (Yb Tree.nil l i x)+Zi (l.getD i Tree.nil)<=Z7 l+Zi x+(i+1):=by
 have h:=ZdG (l++List.replicate (i+1 - l.length) Tree.nil) i x (by simp;omega)
 have e:(l++List.replicate (i+1 - l.length) Tree.nil).getD i Tree.nil=l.getD i Tree.nil:=by
  by_cases hi:i < l.length
  ·simp only [Qo];rw [Qt hi]
  ·simp only [Qo]
   rw [Qv (by omega),Qu (l:=l) (by omega),List.getElem?_replicate]
   split <;> rfl
 rw [e,Yu,Zin] at h
 simp only [Yb]
 omega
theorem Ze4{tw:List Int}:∀ {ws:List WEdit} {last:Int} {out a:List Int},Yh last ws=true->wsD tw ws out=some a->a.length<=max out.length 65535
 | [],_,out,a,_,h=> by rw [wsD] at h;cases h;omega
 | w ::r,last,out,a,hw,h=> by
  have h1:=Z07 hw w Q7
  simp only [Yh,Q0] at hw
  rw [wsD] at h
  split at h
  ·have:=Ze4 hw.2 h
   rw [Z5I] at this
   omega
  ·cases h
theorem Z6R{last d:Int}{k:Kid}{r:List Kid}(h:ZB last (k ::r) d=true):(last < k.at_/\k.at_<=65534)/\Z5 k.e d=true/\ZB k.at_ r d=true:=by
 have:=Zs h k Q7
 simp only [ZB,Q0] at h
 exact ⟨⟨this.1.1,this.1.2.1⟩,this.2,h.2⟩
theorem Zn9{tw:List Int}{ws:List WEdit}{last:Int}{out a:List Int}(hw:Yh last ws=true)(h:wsD tw ws out=some a):a.length<=out.length+65600*ws.length:=by
 cases ws with
 | nil=> rw [wsD] at h;cases h;omega
 | cons w r=>
  have:=Ze4 hw h
  simp only [Qb]
  omega
theorem Zc3(r:Bool)(v:Tree):Zi (nrD r v)<=Zi v:=by
 unfold nrD
 split
 ·exact Jv v
 ·exact Qh _
mutual
theorem Zcd(r:Bool):∀ (e:Edit) (d:Int) (t v:Tree),Z5 e d=true->Zi7 r e t=some v->Zi v+18<=Zi t+ctE e
 | .mk k o n w ks l os,d,t,v,hr,hv=> by
  have ri:=Zk hr
  have h1:=ZdE r ks t.kids
  have h2:=ZdD r l os
  have ht:=ZuN t
  have po:=Jy o
  have pn:=Jy n
  have pt:=Jy t
  unfold Zi7 at hv
  simp only [ctE]
  split at hv
  ·cases hv;omega
  ·split at hv
   ·split at hv
    ·cases hv
     show Zi n+18<=_
     omega
    ·cases hv
   ·split at hv
    ·split at hv
     ·obtain ⟨a,ha,hb⟩:=Qs.1 hv
      obtain ⟨b,hb,e⟩:=Qq.1 hb
      have l1:=Zn9 ri.words ha
      simp only [Edit.words_mk] at l1
      have l2:=h1 t.kids b _ (-1) (by omega) ri.kids (fun j _=> rfl) hb
      rw [<-e]
      simp only [Zi]
      omega
     ·cases hv
    ·split at hv
     ·split at hv
      ·obtain ⟨b,hb,e⟩:=Qq.1 hv
       unfold Z2B at hb
       obtain ⟨x,hx,hy⟩:=Qs.1 hb
       have l2:=h2 _ t.kids [] x (fun o ho=> Go.AM.rightOs_mem ri.ops o ho) hx
       split at hy
       ·cases hy
        rw [<-e]
        simp only [Zi,Qg]
        simp only [Z7] at l2
        omega
       ·cases hy
      ·cases hv
     ·cases hv
theorem ZdE(r:Bool):∀ (ks:List (KidOf Edit)) (tk out b:List Tree) (d last:Int),-1<=last->ZB last ks d=true->(∀ j:Nat,last < (j:Int)->out.getD j Tree.nil=tk.getD j Tree.nil)->Jl r tk ks out=some b->Z7 b<=Z7 out+Z2C ks
 | [],tk,out,b,d,last,_,_,_,h=> by rw [Jl] at h;cases h;simp
 | k ::s,tk,out,b,d,last,hl,hr,hj,h=> by
  obtain ⟨h1,h2,h3⟩:=Z6R hr
  rw [Jl] at h
  obtain ⟨u,hu,hb⟩:=Qs.1 h
  have m1:=Zil r k tk u d h2 hu
  have m2:=Zmj out k.at_.toNat u
  rw [hj k.at_.toNat (by omega)] at m2
  have m3:=ZdE r s tk _ b d k.at_ (by omega) h3 (fun j hj'=> by
   rw [Jp,if_neg (by omega)]
   exact hj j (by omega)) hb
  have m4:k.at_.toNat+1<=65600:=by omega
  have e1:Z2C (k ::s)=65600+ctE k.e+Z2C s:=by obtain ⟨a,e⟩:=k;rfl
  rw [e1]
  omega
theorem Zil(r:Bool):∀ (k:KidOf Edit) (tk:List Tree) (u:Tree) (d:Int),Z5 k.e d=true->Z28 r tk k=some u->Zi u+18<=Zi (tk.getD k.at_.toNat Tree.nil)+ctE k.e
 | ⟨a,e⟩,tk,u,d,hr,h=> by
  rw [Z28,Z7X] at h
  obtain ⟨v,hv,hu⟩:=Qq.1 h
  have:=Zcd r e d (tk.getD a.toNat Tree.nil) v hr hv
  have hvu:=Zc3 r v
  rw [hu] at hvu
  dsimp only
  omega
theorem ZdD(r:Bool)(l:Int):∀ (os:List (OpOf Edit)) (d:Int) (rest out:List Tree) (x:List Tree × List Tree),(∀ o∈os,Za l o d=true)->ZG r os rest out=some x->Z7 x.1+Z7 x.2<=Z7 out+Z7 rest+J3 os
 | [],d,rest,out,x,_,h=> by rw [ZG] at h;cases h;simp
 | o ::s,d,rest,out,x,hr,h=> by
  rw [ZG] at h
  obtain ⟨y,hy,hx⟩:=Qs.1 h
  have m1:=Zmg r l o d rest out y (hr o Q7) hy
  have m2:=ZdD r l s d _ _ x (fun q hq=> hr q (Q5 _ hq)) hx
  rw [J3]
  omega
theorem Zmg(r:Bool)(l:Int):∀ (o:OpOf Edit) (d:Int) (rest out:List Tree) (x:List Tree × List Tree),Za l o d=true->Z3E r o rest out=some x->Z7 x.1+Z7 x.2<=Z7 out+Z7 rest+Z3G o
 | ⟨k,n,L,e⟩,d,rest,out,x,hr,h=> by
  have he:=Zcd r e d (rest.getD 0 Tree.nil)
  rw [Z3E] at h
  simp only [Z3G]
  split at h
  ·split at h
   ·cases h
    have:=Yu (rest.take n.toNat) (rest.drop n.toNat)
    rw [QH] at this
    dsimp only
    rw [Yu];omega
   ·cases h
  ·split at h
   ·split at h
    ·cases h
     have:=Z22 L.length rest
     dsimp only;omega
    ·cases h
   ·split at h
    ·cases h
     dsimp only
     rw [Yu];omega
    ·split at h
     ·cases h
     ·obtain ⟨u,hu,e2⟩:=Qq.1 h
      cases e2
      have hk:k=3:=by
       have ra:=ZN hr
       generalize ho:OpOf.mk k n L e=o at ra
       cases ra <;> (injection ho with h1;try omega)
      rw [Z7X] at hu
      obtain ⟨v,hv,hu⟩:=Qq.1 hu
      have:=he v (YP hr hk) hv
      have hvu:=Zc3 r v
      rw [hu] at hvu
      cases rest with
      | nil=> contradiction
      | cons a q=>
       rw [Yu]
       simp only [Z7,Qz,QK,Qk] at this ⊢
       omega
end
theorem Zrx(r:Bool)(e:Edit)(d:Int)(t u:Tree)(hr:Z5 e d=true)(h:doE r e t=some u):Zi u+18<=Zi t+ctE e:=by
 rw [Z7X] at h
 obtain ⟨v,hv,hu⟩:=Qq.1 h
 have:=Zcd r e d t v hr hv
 have hvu:=Zc3 r v
 rw [hu] at hvu
 omega
theorem ZuL{f:Nat->Int}(h:∀ i,0<=f i/\f i < 256):isW (of8 f):=by
 have h0:=h 0;have h1:=h 1;have h2:=h 2;have h3:=h 3;have h4:=h 4;have h5:=h 5;have h6:=h 6;have h7:=h 7
 unfold isW of8
 omega
theorem Z0K(a b m:Int):isW (mix a b m):=ZuL (Z4i a b m)
theorem Z4U{l:List Tree}(h:∀ t∈l,rng t):ZU l:=by
 induction l with
 | nil=> exact trivial
 | cons a r ih=> exact ⟨h a Q7,ih fun t ht=> h t (Q5 _ ht)⟩
theorem Z0G:rng Tree.nil:=⟨by decide,by simp,trivial⟩
theorem Z5Y{α:Type}{z x y:α}{l:List α}{i:Nat}(h:y∈Yb z l i x):y∈l\/y=z\/y=x:=by
 rcases List.mem_or_eq_of_mem_set h with h | h
 ·rcases Qi.1 h with h | h
  ·exact .inl h
  ·exact .inr (.inl (List.eq_of_mem_replicate h))
 ·exact .inr (.inr h)
theorem Zjr{ks:List Tree}(h:ZU ks)(i:Nat):rng (ks.getD i Tree.nil):=by
 by_cases hi:i < ks.length
 ·exact YY h (Zl hi _)
 ·rw [Qo,Qu (by omega)]
  exact Z0G
theorem Ze5{tw:List Int}:∀ {ws:List WEdit} {out a:List Int},(∀ x∈out,isW x)->wsD tw ws out=some a->∀ x∈a,isW x
 | [],out,a,h,hw=> by rw [wsD] at hw;cases hw;exact h
 | w ::r,out,a,h,hw=> by
  rw [wsD] at hw
  split at hw
  ·refine Ze5 (fun x hx=> ?_) hw
   rcases Z5Y hx with hx | rfl | rfl
   ·exact h x hx
   ·exact ⟨by omega,by omega⟩
   ·exact Z0K _ _ _
  ·cases hw
mutual
theorem Zek(r:Bool):∀ (e:Edit) (t u:Tree),Yl e->rng t->doE r e t=some u->rng u
 | .mk k o n w ks l os,t,u,hr,ht,h=> by
  have h1:=Zg9 r ks
  have h2:=Zg8 r os
  simp only [Yl] at hr
  obtain ⟨r1,r2,r3,r4,r5,r6,r7⟩:=hr
  have hta:InR t.kind/\(∀ x∈t.words,isW x)/\ZU t.kids:=by obtain ⟨k,w,ks⟩:=t;exact ht
  rw [Z0t] at h
  obtain ⟨v,hv,hu⟩:=Qq.1 h
  suffices rng v by
   rw [<-hu];unfold nrD
   split
   ·exact Z2M v this
   ·exact this
  clear h hu
  split at hv
  ·cases hv;exact ht
  ·split at hv
   ·split at hv
    ·cases hv;exact r3
    ·cases hv
   ·split at hv
    ·split at hv
     ·obtain ⟨a,ha,hb⟩:=Qs.1 hv
      obtain ⟨b,hb,e⟩:=Qq.1 hb
      rw [<-e]
      exact ⟨by decide,Ze5 hta.2.1 ha,h1 _ _ _ r6 hta.2.2 hta.2.2 hb⟩
     ·cases hv
    ·split at hv
     ·split at hv
      ·obtain ⟨b,hb,e⟩:=Qq.1 hv
       unfold Z2B at hb
       obtain ⟨x,hx,hy⟩:=Qs.1 hb
       split at hy
       ·cases hy
        rw [<-e]
        exact ⟨r5,by simp,(h2 _ [] _ r7 hta.2.2 trivial hx).1⟩
       ·cases hy
      ·cases hv
     ·cases hv
theorem Zg9(r:Bool):∀ (ks:List (KidOf Edit)) (tk out b:List Tree),Z2l ks->ZU tk->ZU out->Jl r tk ks out=some b->ZU b
 | [],tk,out,b,_,_,ho,h=> by rw [Jl] at h;cases h;exact ho
 | k ::s,tk,out,b,hk,ht,ho,h=> by
  rw [Jl] at h
  obtain ⟨u,hu,hb⟩:=Qs.1 h
  have m1:=ZlQ r k tk u hk.1 ht hu
  refine Zg9 r s tk _ b hk.2 ht (Z4U fun x hx=> ?_) hb
  rcases Z5Y hx with hx | rfl | rfl
  ·exact YY ho hx
  ·exact Z0G
  ·exact m1
theorem ZlQ(r:Bool):∀ (k:KidOf Edit) (tk:List Tree) (u:Tree),Z62 k->ZU tk->Z28 r tk k=some u->rng u
 | ⟨a,e⟩,tk,u,hr,ht,h=> by
  rw [Z28] at h
  exact Zek r e _ u hr.2 (Zjr ht _) h
theorem Zg8(r:Bool):∀ (os:List (OpOf Edit)) (rest out:List Tree) (x:List Tree × List Tree),Z1c os->ZU rest->ZU out->ZG r os rest out=some x->ZU x.1/\ZU x.2
 | [],rest,out,x,_,hr,ho,h=> by rw [ZG] at h;cases h;exact ⟨ho,hr⟩
 | o ::s,rest,out,x,hs,hr,ho,h=> by
  rw [ZG] at h
  obtain ⟨y,hy,hx⟩:=Qs.1 h
  have m1:=ZnM r o rest out y hs.1 hr ho hy
  exact Zg8 r s _ _ x hs.2 m1.2 m1.1 hx
theorem ZnM(r:Bool):∀ (o:OpOf Edit) (rest out:List Tree) (x:List Tree × List Tree),Z1d o->ZU rest->ZU out->Z3E r o rest out=some x->ZU x.1/\ZU x.2
 | ⟨k,n,L,e⟩,rest,out,x,hs,hr,ho,h=> by
  have he:=Zek r e (rest.getD 0 Tree.nil)
  simp only [Z1d] at hs
  have hd:∀ n,ZU (rest.drop n):=fun n=> Z4U fun t ht=> YY hr (XA ht)
  have hap:∀ l,ZU l->ZU (out++l):=fun l hl=> Z41.2 ⟨ho,hl⟩
  rw [Z3E] at h
  split at h
  ·split at h
   ·cases h
    exact ⟨hap _ (Z4U fun t ht=> YY hr (Kd ht)),hd _⟩
   ·cases h
  ·split at h
   ·split at h
    ·cases h
     exact ⟨ho,hd _⟩
    ·cases h
   ·split at h
    ·cases h
     exact ⟨hap _ hs.2.2.1,hr⟩
    ·split at h
     ·cases h
     ·obtain ⟨u,hu,e2⟩:=Qq.1 h
      cases e2
      exact ⟨hap _ ⟨he u hs.2.2.2 (Zjr hr 0) hu,trivial⟩,hd _⟩
end
section
variable {α β:Type} (z:α) (f:β->Option α) (p:β->Int)
def mg:List β->List α->Option (List α)
 | [],out=> some out
 | w ::r,out=> (f w).bind fun v=> mg r (Yb z out (p w).toNat v)
def asc(last:Int):List β->Prop
 | []=> True
 | w ::r=> last < p w/\asc (p w) r
variable {z f p} {l0:List α} {ws:List β} {n a i:Int} {out:List α}
theorem Zfq{last:Int}:∀ {l:List β},asc p last l->∀ w∈l,last < p w
 | [],_,_,hw=> by cases hw
 | b ::r,h,w,hw=> by
  rcases Qd.1 hw with rfl | hw
  ·exact h.1
  ·have:=Zfq h.2 w hw
   have:=h.1
   omega
theorem ZmS{m last:Int}(h:m<=last):∀ {l:List β},asc p last l->asc p m l
 | [],_=> trivial
 | _ ::_,g=> ⟨by have:=g.1;omega,g.2⟩
end
theorem Zn8(tw:List Int):∀ (ws:List WEdit) (out:List Int),wsD tw ws out=mg 0 (fun w=> if mix 0 (tw.getD w.at_.toNat 0) w.mask=w.old then some (mix (tw.getD w.at_.toNat 0) w.new w.mask) else none) WEdit.at_ ws out
 | [],_=> rfl
 | w ::r,out=> by
  rw [wsD,mg]
  split
  ·rw [Qm];exact Zn8 tw r _
  ·try rfl
theorem ZkV(r:Bool)(tk:List Tree):∀ (ks:List Kid) (out:List Tree),Jl r tk ks out=mg Tree.nil (Z28 r tk) KidOf.at_ ks out
 | [],_=> by rw [Jl];try rfl
 | k ::s,out=> by
  rw [Jl,mg]
  congr 1
  funext u
  exact ZkV r tk s _
theorem Z4I:∀ {ws:List WEdit} {last:Int},Yh last ws=true->asc WEdit.at_ last ws
 | [],_,_=> trivial
 | w ::r,last,h=> by
  have h1:=Z07 h w Q7
  simp only [Yh,Q0] at h
  exact ⟨h1.1,Z4I h.2⟩
theorem Z7p:∀ {ks:List Kid} {last d:Int},ZB last ks d=true->asc KidOf.at_ last ks
 | [],_,_,_=> trivial
 | k ::r,last,d,h=> by
  obtain ⟨h1,_,h3⟩:=Z6R h
  exact ⟨h1.1,Z7p h3⟩
end Go.AM.Ytpjenobkibfpcaa
namespace Go.AM
def Z4x(t:Tree):Bool:=decide (0<=Zz t 80 3000) && Zh t 64 && decide (t.kind≠10)
end Go.AM
namespace Go.AM.Ytpjenobkibfpcaa
open Go.AM Go.Proofs
theorem Z3i{x y x' y':Int}(h:x+256*y=x'+256*y')(hx:0<=x/\x < 256)(hx':0<=x'/\x' < 256):x=x'/\y=y':=by omega
theorem Zrv{f g:Nat->Int}(hf:∀ i,0<=f i/\f i < 256)(hg:∀ i,0<=g i/\g i < 256)(h:of8 f=of8 g):∀ i,i < 8->f i=g i:=by
 unfold of8 at h
 obtain ⟨h0,h⟩:=Z3i h (hf 0) (hg 0)
 obtain ⟨h1,h⟩:=Z3i h (hf 1) (hg 1)
 obtain ⟨h2,h⟩:=Z3i h (hf 2) (hg 2)
 obtain ⟨h3,h⟩:=Z3i h (hf 3) (hg 3)
 obtain ⟨h4,h⟩:=Z3i h (hf 4) (hg 4)
 obtain ⟨h5,h⟩:=Z3i h (hf 5) (hg 5)
 obtain ⟨h6,h7⟩:=Z3i h (hf 6) (hg 6)
 intro i hi
 match i,hi with
 | 0,_=> exact h0
 | 1,_=> exact h1
 | 2,_=> exact h2
 | 3,_=> exact h3
 | 4,_=> exact h4
 | 5,_=> exact h5
 | 6,_=> exact h6
 | 7,_=> exact h7
theorem Z8x{a:Int}(h:isW a):of8 (Z9 a)=a:=by
 obtain ⟨h0,h1⟩:=h
 simp only [of8,Z9]
 omega
theorem Z4F{a b:Int}(ha:isW a)(hb:isW b)(h:∀ i,i < 8->Z9 a i=Z9 b i):a=b:=by
 rw [<-Z8x ha,<-Z8x hb]
 unfold of8
 rw [h 0 (by omega),h 1 (by omega),h 2 (by omega),h 3 (by omega),h 4 (by omega),h 5 (by omega),h 6 (by omega),h 7 (by omega)]
theorem ZoG{a b m:Int}{i:Nat}(h:i < 8):Z9 (mix a b m) i=YU a b m i:=
 Zrv (fun i=> Z0w _ i) (Z4i a b m) (by rw [Z8x (Z0K a b m)];rfl) i h
section
variable {α β:Type} {z:α} {f:β->Option α} {p:β->Int}
theorem Z19:∀ {ws:List β} {last:Int} {out r:List α},-1<=last->asc p last ws->mg z f p ws out=some r->
  (∀ w∈ws,∃ v,f w=some v/\r.getD (p w).toNat z=v)/\(∀ i:Nat,(∀ w∈ws,(p w).toNat≠i)->r.getD i z=out.getD i z)
 | [],_,out,r,_,_,h=> by
  rw [mg] at h;cases h
  exact ⟨fun w hw=> (by cases hw),fun _ _=> rfl⟩
 | w ::s,last,out,r,hl,ha,h=> by
  rw [mg] at h
  obtain ⟨v,hv,hr⟩:=Qs.1 h
  have h1:=ha.1
  obtain ⟨i1,i2⟩:=Z19 (by omega) ha.2 hr
  have hn:∀ x∈s,(p x).toNat≠(p w).toNat:=fun x hx=> by have:=Zfq ha.2 x hx;omega
  refine ⟨fun x hx=> ?_,fun i hi=> ?_⟩
  ·rcases Qd.1 hx with rfl | hx
   ·refine ⟨v,hv,?_⟩
    rw [i2 _ hn,Jp,if_pos rfl]
   ·exact i1 x hx
  ·rw [i2 i (fun x hx=> hi x (Q5 _ hx)),Jp,if_neg (fun e=> hi w Q7 e.symm)]
end
theorem Z65{list d:Int}:∀ {l:List Tree},ZZ list l d=true->∀ t∈l,Zh t d=true
 | [],_,_,ht=> by cases ht
 | a ::r,h,t,ht=> by
  simp only [ZZ,Q0] at h
  rcases Qd.1 ht with rfl | ht
  ·exact h.1.2
  ·exact Z65 h.2 t ht
def RT_(t:Tree):Prop:=(∃ d,Zh t d=true)/\rng t
theorem RT_.kids{t:Tree}(h:RT_ t):(∀ k∈t.kids,RT_ k)/\(t.kind≠0->t.kind≠1->t.kind≠10->t.words=[]):=by
 obtain ⟨⟨d,h⟩,hr⟩:=h
 obtain ⟨k,w,ks⟩:=t
 have hk:∀ x∈ks,rng x:=fun x hx=> YY hr.2.2 hx
 show (∀ x∈ks,RT_ x)/\(k≠0->k≠1->k≠10->w=[])
 rw [Zh] at h
 split at h
 ·simp only [decide_eq_true_eq] at h
  rw [Q6 h.2]
  exact ⟨fun x hx=> (by cases hx),fun h0=> absurd ‹_› h0⟩
 ·split at h
  ·simp only [decide_eq_true_eq] at h
   rw [Q6 h.2]
   exact ⟨fun x hx=> (by cases hx),fun _ _ h0=> absurd ‹_› h0⟩
  ·split at h
   ·cases h
   ·split at h
    ·simp only [Q0] at h
     exact ⟨fun x hx=> ⟨⟨_,Z65 h.2 x hx⟩,hk x hx⟩,fun _ h1=> absurd ‹_› h1⟩
    ·simp only [Q0,decide_eq_true_eq] at h
     exact ⟨fun x hx=> ⟨⟨_,Z65 h.2 x hx⟩,hk x hx⟩,fun _ _ _=> Q6 h.1.2.2.1⟩
theorem Zwn:RT_ Tree.nil:=⟨⟨1,rfl⟩,Z0G⟩
theorem ZfL{l:List Tree}(h:∀ t∈l,RT_ t)(i:Nat):RT_ (l.getD i Tree.nil):=by
 by_cases hi:i < l.length
 ·exact h _ (Zl hi _)
 ·rw [Qo,Qu (by omega)];exact Zwn
theorem Zrg{t:Tree}(h:rng t):InR t.kind/\(∀ x∈t.words,isW x)/\ZU t.kids:=by obtain ⟨k,w,ks⟩:=t;exact h
theorem Zbr{list:Int}{o:Op}{d:Int}(h:Za list o d=true):o.kind=0\/o.kind=1\/o.kind=2\/o.kind=3:=by
 have r:=ZN h
 cases r with
 | keep=> exact .inl rfl
 | gone=> exact .inr (.inl rfl)
 | come=> exact .inr (.inr (.inl rfl))
 | into=> exact .inr (.inr (.inr rfl))
end Go.AM.Ytpjenobkibfpcaa
namespace Go.AM.Ytpjenobkibfpcaa
open Go.AM Go.Proofs
def Rx(x y:List Tree × List Tree):Prop:=EqvL x.1 y.1/\EqvL x.2 y.2
theorem Rx.rfl'(a:Option (List Tree × List Tree)):OptR Rx a a:=by cases a;exact trivial;exact ⟨rfl,rfl⟩
theorem Rx.of{a b:Option (List Tree × List Tree)}(h:a=b):OptR Rx a b:=by rw [h];exact Rx.rfl' b
theorem OptR.trans'{α:Type}{R:α->α->Prop}(ht:∀ x y z,R x y->R y z->R x z){a b c:Option α}(h1:OptR R a b)(h2:OptR R b c):OptR R a c:=by
 cases a <;> cases b <;> cases c <;> first | exact trivial | exact h1.elim | exact h2.elim | exact ht _ _ _ h1 h2
theorem Rx.trans{a b c:Option (List Tree × List Tree)}(h1:OptR Rx a b)(h2:OptR Rx b c):OptR Rx a c:=
 OptR.trans' (fun _ _ _ p q=> ⟨Eq.trans p.1 q.1,Eq.trans p.2 q.2⟩) h1 h2
theorem Z36(r:Bool):∀ (a b:List Op) (rest out:List Tree),ZG r (a++b) rest out=(ZG r a rest out).bind fun x=> ZG r b x.2 x.1
 | [],b,rest,out=> by rw [ZG];try rfl
 | o ::s,b,rest,out=> by
  rw [QA,ZG,ZG]
  cases h:Z3E r o rest out with
  | none=> rfl
  | some x=> rw [Qm,Qm];exact Z36 r s b _ _
theorem Zcy(r:Bool)(o:Op)(rest out:List Tree):ZG r [o] rest out=Z3E r o rest out:=by
 rw [ZG]
 cases Z3E r o rest out with
 | none=> rfl
 | some x=> rw [Qm,ZG]
theorem Z4C(r:Bool)(a:List Op)(o:Op)(rest out:List Tree):ZG r (a++[o]) rest out=(ZG r a rest out).bind fun x=> Z3E r o x.2 x.1:=by
 rw [Z36]
 congr 1
 funext x
 exact Zcy r o _ _
theorem Z4B{r:Bool}:∀ {os:List Op} {rest out:List Tree} {x:List Tree × List Tree},ZG r os rest out=some x->∃ n,x.2=rest.drop n
 | [],rest,out,x,h=> by rw [ZG] at h;cases h;exact ⟨0,by simp⟩
 | o ::s,rest,out,x,h=> by
  rw [ZG] at h
  obtain ⟨y,hy,hx⟩:=Qs.1 h
  obtain ⟨n,hn⟩:=Z4B hx
  have:∃ m,y.2=rest.drop m:=by
   rw [Yi] at hy
   split at hy
   ·split at hy
    ·cases hy;exact ⟨_,rfl⟩
    ·cases hy
   ·split at hy
    ·split at hy
     ·cases hy;exact ⟨_,rfl⟩
     ·cases hy
    ·split at hy
     ·cases hy;exact ⟨0,by simp⟩
     ·split at hy
      ·cases hy
      ·obtain ⟨u,_,e⟩:=Qq.1 hy
       cases e
       exact ⟨1,rfl⟩
  obtain ⟨m,hm⟩:=this
  exact ⟨m+n,by rw [hn,hm,XL]⟩
theorem Zmw(rest:List Tree):Jj [] rest=true:=by unfold Jj;rw [Z0s.2 (by simp)];simp
theorem Zhc(l rest:List Tree):Jj (Z3 l) rest=Jj l rest:=by
 unfold Jj
 rw [Z9m,show (Z3 l).length=l.length by simp [Z3]]
theorem Z35(l rest:List Tree):Jj l rest=true↔l.length<=rest.length/\Z3 l=Z3 (rest.take l.length):=by
 unfold Jj
 rw [Q0,decide_eq_true_eq,Z0s]
theorem Zmy(a b rest:List Tree):Jj (a++b) rest=(Jj a rest && Jj b (rest.drop a.length)):=by
 rw [QD,Q0,Z35,Z35,Z35]
 simp only [Q9,X6]
 constructor
 ·rintro ⟨h1,h2⟩
  rw [YR,List.take_add,YR] at h2
  obtain ⟨h3,h4⟩:=KA h2 (by simp [Z3];omega)
  exact ⟨⟨by omega,h3⟩,by omega,h4⟩
 ·rintro ⟨⟨h1,h2⟩,h3,h4⟩
  refine ⟨by omega,?_⟩
  rw [YR,List.take_add,YR,h2,h4]
theorem Z7V(s:Wst)(rest out:List Tree):ZG false (Z0 s).out rest out=(ZG false s.out rest out).bind fun x=> if Jj s.gone x.2=true then some (x.1++s.brought,x.2.drop s.gone.length) else none:=by
 simp only [Z0,JD]
 rw [Z36]
 congr 1
 funext x
 rw [Z36]
 have h1:ZG false (if s.gone.length=0 then [] else [⟨1,0,s.gone,Edit.nil⟩]) x.2 x.1=if Jj s.gone x.2=true then some (x.1,x.2.drop s.gone.length) else none:=by
  split
  ·rename_i h
   rw [Q6 h,Zmw,if_pos rfl,ZG]
   try rfl
  ·rw [Zcy,Yi]
   rw [if_neg (by show ¬(1:Int)=0;omega),if_pos rfl]
 have h2:∀ y:List Tree × List Tree,ZG false (if s.brought.length=0 then [] else [⟨2,0,s.brought,Edit.nil⟩]) y.2 y.1=some (y.1++s.brought,y.2):=by
  intro y
  split
  ·rename_i h
   rw [Q6 h,Qr,ZG]
  ·rw [Zcy,Yi]
   rw [if_neg (by show ¬(2:Int)=0;omega),if_neg (by show ¬(2:Int)=1;omega),if_pos rfl]
 rw [h1]
 split
 ·rw [Qm,h2]
 ·try rfl
theorem Zsv{F:List Op}{n:Int}(hF:∀ o∈F,0<=o.n)(hn:0<=n)(rest out:List Tree):ZG false (Z0C F n) rest out=ZG false (F++[⟨0,n,[],Edit.nil⟩]) rest out:=by
 rcases YJ F n with h | ⟨a,o,h1,h2,h3⟩
 ·rw [h]
 ·rw [h3,h1,Z4C,Z4C,Z4C]
  cases hx:ZG false a rest out with
  | none=> rfl
  | some x=>
   have ho:=hF o (by rw [h1];simp)
   simp only [Qm]
   rw [Yi,Yi,if_pos h2,if_pos h2]
   simp only
   have e:(o.n+n).toNat=o.n.toNat+n.toNat:=by omega
   rw [e]
   by_cases c:o.n.toNat<=x.2.length
   ·rw [if_pos c,Qm,Yi,if_pos rfl]
    simp only [X6]
    by_cases c2:n.toNat<=x.2.length - o.n.toNat
    ·rw [if_pos c2,if_pos (by omega),XL,Qa,<-List.take_add]
    ·rw [if_neg c2,if_neg (by omega)]
   ·rw [if_neg c,if_neg (by omega)]
    try rfl
def N0s(s:Wst):Prop:=∀ o∈s.out,0<=o.n
theorem N0s.flush{s:Wst}(h:N0s s):∀ o∈(Z0 s).out,0<=o.n:=by
 intro o ho
 simp only [Z0,JD,Qi] at ho
 rcases ho with ho | ho | ho
 ·exact h o ho
 ·split at ho
  ·cases ho
  ·simp only [Qj] at ho;subst ho;exact X2 0
 ·split at ho
  ·cases ho
  ·simp only [Qj] at ho;subst ho;exact X2 0
theorem N0s.keep{s:Wst}(h:N0s s){n:Int}(hn:0<=n):N0s (ZH s n):=by
 intro o ho
 simp only [ZH] at ho
 rcases YJ (Z0 s).out n with e | ⟨a,p,h1,h2,h3⟩
 ·rw [e] at ho
  rcases Qi.1 ho with ho | ho
  ·exact h.flush o ho
  ·simp only [Qj] at ho;subst ho;exact hn
 ·rw [h3] at ho
  rcases Qi.1 ho with ho | ho
  ·exact h.flush o (by rw [h1];simp [ho])
  ·simp only [Qj] at ho;subst ho
   have:=h.flush p (by rw [h1];simp)
   show 0<=p.n+n
   omega
theorem Zjt{list d:Int}{o:Op}(h:Za list o d=true):0<=o.n:=by
 have r:=ZN h
 cases r with
 | keep n h1=> show 0<=n;omega
 | gone | come | into=> exact X2 0
theorem N0s.op{list d:Int}{s:Wst}{o:Op}(h:N0s s)(hr:Za list o d=true):N0s (Z09 list o s):=by
 rw [Z10]
 split
 ·exact h.keep (Zjt hr)
 ·split
  ·exact h
  ·split
   ·exact h
   ·split
    ·split
     ·exact h.keep (by omega)
     ·intro p hp
      rcases Qi.1 hp with hp | hp
      ·exact h.flush p hp
      ·simp only [Qj] at hp;subst hp;exact X2 0
    ·exact h
def K9(list:Int)(l:List Tree):Prop:=(∀ t∈l,RT_ t)/\(list=9->∀ t∈l,t.kind=1)
theorem K9.drop{list:Int}{l:List Tree}(h:K9 list l)(n:Nat):K9 list (l.drop n):=⟨fun t ht=> h.1 t (XA ht),fun e t ht=> h.2 e t (XA ht)⟩
theorem Zju{d:Int}:∀ {l:List Tree},ZZ 9 l d=true->∀ t∈l,t.kind=1
 | [],_,t,ht=> by cases ht
 | a ::r,h,t,ht=> by
  simp only [ZZ,Q0] at h
  rcases Qd.1 ht with rfl | ht
  ·have:=h.1.1
   simpa [Z3P] using this
  ·exact Zju h.2 t ht
theorem RT_.k9{t:Tree}(h:RT_ t):K9 t.kind t.kids:=by
 refine ⟨h.kids.1,fun e=> ?_⟩
 obtain ⟨⟨d,h⟩,_⟩:=h
 obtain ⟨k,w,ks⟩:=t
 have e:k=9:=e
 subst e
 rw [Zh,if_neg (by omega),if_neg (by omega)] at h
 split at h
 ·cases h
 ·rw [if_neg (by omega)] at h
  simp only [Q0] at h
  exact Zju h.2
theorem Zrb {list d:Int} {s:Wst} {o:Op} (hs:N0s s) (hr:Za list o d=true) {rest:List Tree} (hk:K9 list rest) (out:List Tree)
  (ih:∀ y,RT_ y->Z5 o.e d=true->OptR Eqv (doE false (Zx o.e) y) (doE false o.e y)):
  OptR Rx (ZG false (Z0 (Z09 list o s)).out rest out) ((ZG false (Z0 s).out rest out).bind fun x=> Z3E false o x.2 x.1):=by
 have keep:∀ n:Int,0<=n->ZG false (Z0 (ZH s n)).out rest out=(ZG false (Z0 s).out rest out).bind fun x=> Z3E false ⟨0,n,[],Edit.nil⟩ x.2 x.1:=by
  intro n hn
  have e:(Z0 (ZH s n)).out=Z0C (Z0 s).out n:=by simp [Z0,JD,ZH]
  rw [e,Zsv hs.flush hn,Z4C]
 rw [Z10]
 have r1:=Zbr hr
 by_cases h0:o.kind=0
 ·rw [if_pos h0,keep _ (Zjt hr)]
  refine Rx.of ?_
  congr 1
  funext x
  rw [Yi,Yi,if_pos rfl,if_pos h0]
 ·rw [if_neg h0]
  by_cases h1:o.kind=1
  ·rw [if_pos h1,Z7V,Z7V]
   refine Rx.of ?_
   rw [Kp]
   congr 1
   funext x
   simp only
   rw [Zmy,Zhc]
   by_cases c:Jj s.gone x.2=true
   ·rw [if_pos c,c,QF,Qm,Yi,if_neg h0,if_pos h1]
    simp only
    rw [XL,show (s.gone++Z3 o.l).length=s.gone.length+o.l.length by simp [Z3]]
   ·rw [if_neg c,if_neg (by simp only [Q0];exact fun h=> c h.1)]
    try rfl
  ·rw [if_neg h1]
   by_cases h2:o.kind=2
   ·rw [if_pos h2,Z7V,Z7V,Kp]
    refine OptR.bind (R:=Eq) (OptR.rfl' _) ?_
    rintro x _ rfl
    simp only
    split
    ·rw [Qm,Yi,if_neg h0,if_neg h1,if_pos h2]
     refine ⟨?_,rfl⟩
     show Z3 (x.1++(s.brought++Z3 o.l))=Z3 (x.1++s.brought++o.l)
     simp only [YR,Z9m,Qa]
    ·exact trivial
   ·have h3:o.kind=3:=by rcases r1 with h | h | h | h <;> first | exact absurd h h0 | exact absurd h h1 | exact absurd h h2 | exact h
    rw [if_neg h2,if_pos h3]
    have hre:=YP hr h3
    have ra:=ZN hr
    by_cases hi:Z5R list (Zx o.e)=true
    ·rw [if_pos hi,keep 1 (by omega)]
     cases hx:ZG false (Z0 s).out rest out with
     | none=> exact trivial
     | some x=>
      obtain ⟨m,hm⟩:=Z4B hx
      have hk2:=hk.drop m
      rw [<-hm] at hk2
      simp only [Qm]
      rw [Yi,Yi,if_pos rfl,if_neg h0,if_neg h1,if_neg h2]
      cases hx2:x.2 with
      | nil=> exact trivial
      | cons y q=>
       rw [hx2] at hk2
       have hek:o.e.kind≠0:=by
        cases ra with
        | into e _ h=> exact h
        | keep | gone | come=> exact absurd h3 (by simp)
       simp only [Z5R,decide_eq_true_eq,Z8y] at hi
       rcases hi with hi | ⟨hl9,he2,hw,hks⟩
       ·exact absurd hi hek
       ·have hy:=hk2.2 hl9 y Q7
        have hn:=Z3v o.e
        rw [if_neg (by omega),if_pos he2] at hn
        have e1:o.e.words=[]:=by rw [hn] at hw;exact Q6 hw
        have e2:o.e.kids=[]:=by
         rw [hn] at hks
         have:(Jb o.e.kids).length=0:=hks
         cases hh:o.e.kids with
         | nil=> rfl
         | cons a b=> rw [hh] at this;simp [Jb] at this
        have hd:doE false o.e y=some (.mk 1 y.words y.kids):=by
         rw [Z0t,if_neg hek,if_neg (by omega),if_pos he2,if_pos hy,e1,e2,wsD,Qm,Jl]
         try rfl
        rw [if_neg (show ¬(y ::q).length=0 by simp),Qk,hd,if_pos (show Int.toNat 1<=(y ::q).length by simp)]
        refine ⟨?_,rfl⟩
        show Z3 (x.1++[y])=Z3 (x.1++[Tree.mk 1 y.words y.kids])
        rw [show Tree.mk 1 y.words y.kids=y by rw [<-hy];exact Tree.eta y]
    ·rw [if_neg hi]
     have e:(Z0 ⟨(Z0 s).out++[⟨3,0,[],Zx o.e⟩],[],[]⟩).out=(Z0 s).out++[⟨3,0,[],Zx o.e⟩]:=by simp [Z0,JD]
     rw [e,Z4C]
     cases hx:ZG false (Z0 s).out rest out with
     | none=> exact trivial
     | some x=>
      obtain ⟨m,hm⟩:=Z4B hx
      have hk2:=hk.drop m
      rw [<-hm] at hk2
      simp only [Qm]
      rw [Yi,Yi,if_neg h0,if_neg h1,if_neg h2,if_neg (by show ¬(3:Int)=0;omega),if_neg (by show ¬(3:Int)=1;omega),if_neg (by show ¬(3:Int)=2;omega)]
      refine OptR.ite QN (fun _=> trivial) fun _=> ?_
      exact (ih _ (ZfL hk2.1 0) hre).map fun u v h=> ⟨Z1E rfl (Z8z.2 h),rfl⟩
mutual
theorem Zc1:∀ (e:Edit) (d:Int) (t:Tree),Z5 e d=true->RT_ t->OptR Eqv (doE false (Zx e) t) (doE false e t)
 | .mk k o n w ks l os,d,t,hr,ht=> by
  have ri:=Zk hr
  have h1:=ZgK ks
  have h2:=ZgJ l os
  have hkid:=ht.kids.1
  have hn:Zx (.mk k o n w ks l os)=if k=1 then .mk k (Z2 o) (Z2 n) [] [] l [] else if k=2 then .mk k Tree.nil Tree.nil w (Jb ks) l [] else if k=3 then .mk k Tree.nil Tree.nil [] [] l (Z0 (ZO l os ⟨[],[],[]⟩)).out else .mk k Tree.nil Tree.nil [] [] l []:=by rw [Zx]
  rw [Z7X,Z7X,Yt,Yt]
  by_cases c1:k=1
  ·subst c1
   rw [if_pos rfl] at hn
   unfold Zi7
   rw [hn]
   refine OptR.ite QN (fun _=> rfl) fun _=> OptR.ite QN (fun _=> ?_) (fun h=> absurd rfl h)
   show OptR Eqv (if ZT (Z2 (Z2 o)) (Z2 t)=true then some (Z2 n) else none) (if ZT (Z2 o) (Z2 t)=true then some n else none)
   rw [J6]
   exact OptR.ite QN (fun _=> J6 n) (fun _=> trivial)
  ·by_cases c2:k=2
   ·subst c2
    rw [if_neg c1,if_pos rfl] at hn
    unfold Zi7
    rw [hn]
    refine OptR.ite QN (fun _=> rfl) fun _=> OptR.ite QN (fun h=> absurd h c1) fun _=> OptR.ite QN (fun _=> ?_) (fun h=> absurd rfl h)
    refine OptR.ite QN (fun ht1=> ?_) (fun _=> trivial)
    refine OptR.bind (R:=Eq) (OptR.rfl' _) ?_
    rintro a _ rfl
    exact (h1 (d - 1) t.kids t.kids t.kids (fun k hk=> (Zs ri.kids k hk).2) hkid rfl).map fun x y h=> Zc6 _ _ h
   ·by_cases c3:k=3
    ·subst c3
     rw [if_neg c1,if_neg c2,if_pos rfl] at hn
     unfold Zi7
     rw [hn]
     refine OptR.ite QN (fun _=> rfl) fun _=> OptR.ite QN (fun h=> absurd h c1) fun _=> OptR.ite QN (fun h=> absurd h c2) fun _=> OptR.ite QN (fun _=> ?_) (fun h=> absurd rfl h)
     refine OptR.ite QN (fun ht1=> ?_) (fun _=> trivial)
     have hk9:=ht.k9
     rw [ht1] at hk9
     have:=h2 (d - 1) ⟨[],[],[]⟩ t.kids [] (fun o ho=> Go.AM.rightOs_mem ri.ops o ho) (fun o ho=> by cases ho) hk9
     exact (Zhj this).map fun x y h=> Zc6 _ _ h
    ·have e0:k=0:=by have:=ri.kind;have:0<=k/\k<=3:=this;omega
     subst e0
     rw [if_neg c1,if_neg c2,if_neg c3] at hn
     unfold Zi7
     rw [hn]
     exact OptR.ite QN (fun _=> rfl) fun h=> absurd rfl h
theorem ZgK:∀ (ks:List (KidOf Edit)) (d:Int) (tk a b:List Tree),(∀ k∈ks,Z5 k.e d=true)->(∀ t∈tk,RT_ t)->EqvL a b->OptR EqvL (Jl false tk (Jb ks) a) (Jl false tk ks b)
 | [],d,tk,a,b,_,_,h=> by rw [Jb];exact h
 | k ::r,d,tk,a,b,hr,ht,h=> by
  rw [Jb,Jl,Jl]
  have e:(Z0J k).at_=k.at_:=by cases k;rfl
  rw [e]
  refine (Zm8 k d tk (hr k Q7) ht).bind fun x y hxy=> ZgK r d tk _ _ (fun q hq=> hr q (Q5 _ hq)) ht (Zm9 h hxy)
theorem Zm8:∀ (k:KidOf Edit) (d:Int) (tk:List Tree),Z5 k.e d=true->(∀ t∈tk,RT_ t)->OptR Eqv (Z28 false tk (Z0J k)) (Z28 false tk k)
 | ⟨a,e⟩,d,tk,hr,ht=> by rw [Z0J,Z28,Z28];exact Zc1 e d _ hr (ZfL ht _)
theorem ZgJ(list:Int):∀ (os:List (OpOf Edit)) (d:Int) (s:Wst) (rest out:List Tree),(∀ o∈os,Za list o d=true)->N0s s->K9 list rest->OptR Rx (ZG false (Z0 (ZO list os s)).out rest out) (ZG false ((Z0 s).out++os) rest out)
 | [],d,s,rest,out,_,_,_=> by rw [ZO,Qr];exact Rx.rfl' _
 | o ::r,d,s,rest,out,hr,hs,hk=> by
  have ho:=hr o Q7
  have st:=Zrb hs ho hk out (Zox o d)
  rw [ZO]
  refine Rx.trans (ZgJ list r d _ rest out (fun q hq=> hr q (Q5 _ hq)) (hs.op ho) hk) ?_
  rw [Z36,Z36]
  have e:∀ x:List Tree × List Tree,ZG false (o ::r) x.2 x.1=(Z3E false o x.2 x.1).bind fun y=> ZG false r y.2 y.1:=fun x=> by rw [ZG]
  rw [show (fun x:List Tree × List Tree=> ZG false (o ::r) x.2 x.1)=fun x=> (Z3E false o x.2 x.1).bind fun y=> ZG false r y.2 y.1 from funext e,<-Kp]
  exact st.bind fun x y hxy=> Zcz r _ _ _ _ hxy.2 hxy.1 (fun q hq=> ⟨_,_,hr q (Q5 _ hq)⟩)
theorem Zox:∀ (o:OpOf Edit) (d:Int),∀ y,RT_ y->Z5 o.e d=true->OptR Eqv (doE false (Zx o.e) y) (doE false o.e y)
 | ⟨_,_,_,e⟩,d,y,hy,hr=> Zc1 e d y hr hy
end
theorem Zk4{α β:Type}{z:α}{f:β->Option α}{p:β->Int}:∀ {ws:List β} {out:List α},(∀ w∈ws,∃ v,f w=some v)->∃ r,mg z f p ws out=some r
 | [],out,_=> ⟨out,rfl⟩
 | w ::s,out,h=> by
  obtain ⟨v,hv⟩:=h w Q7
  rw [mg,hv,Qm]
  exact Zk4 fun x hx=> h x (Q5 _ hx)
theorem Zj7{l:List Int}(h:∀ x∈l,isW x)(i:Nat):isW (l.getD i 0):=by
 by_cases hi:i < l.length
 ·exact h _ (Zl hi _)
 ·rw [Qo,Qu (by omega)];show 0<=(0:Int)/\(0:Int) < _;omega
theorem Z9s:∀ {ks:List Kid} {k:Kid},k∈ks->Z8 k.e<=ZQ ks
 | ⟨_,_⟩ ::r,k,h=> by
  rcases Qd.1 h with rfl | h
  ·simp only [ZQ,JI];omega
  ·have:=Z9s h;simp only [ZQ];omega
theorem Z9r:∀ {os:List Op} {o:Op},o∈os->Zt o<=Zg os
 | a ::r,o,h=> by
  rcases Qd.1 h with rfl | h
  ·simp only [Zg];omega
  ·have:=Z9r h;simp only [Zg];omega
theorem Zmi(o:Op):Z8 o.e<=Zt o:=by obtain ⟨k,n,l,e⟩:=o;simp only [Zt];omega
theorem Y5{e:Edit}{k:Kid}(h:k∈e.kids):Z8 k.e < Z8 e:=by
 obtain ⟨kk,o,n,w,ks,l,os⟩:=e
 have:=Z9s (ks:=ks) h
 simp only [Z8];omega
theorem YI{e:Edit}{o:Op}(h:o∈e.ops):Z8 o.e < Z8 e:=by
 obtain ⟨kk,ol,n,w,ks,l,os⟩:=e
 have:=Z9r (os:=os) h
 have:=Zmi o
 simp only [Z8];omega
mutual
theorem YZ:∀ (t:Tree) (d m:Int),m < 0->Zh t d=true->Zh t m=true
 | .mk k w ks,d,m,hm,h=> by
  rw [Zh] at h ⊢
  by_cases h0:k=0
  ·rw [if_pos h0] at h ⊢;exact h
  ·rw [if_neg h0] at h ⊢
   by_cases h1:k=10
   ·rw [if_pos h1] at h ⊢;exact h
   ·rw [if_neg h1] at h ⊢
    by_cases h2:d=0
    ·rw [if_pos h2] at h;cases h
    ·rw [if_neg h2] at h
     rw [if_neg (by omega)]
     by_cases h3:k=1
     ·rw [if_pos h3,Q0] at h ⊢
      exact ⟨h.1,Z64 1 ks (d - 1) (m - 1) (by omega) h.2⟩
     ·rw [if_neg h3,Q0] at h ⊢
      exact ⟨h.1,Z64 k ks (d - 1) (m - 1) (by omega) h.2⟩
theorem Z64(list:Int):∀ (ks:List Tree) (d m:Int),m < 0->ZZ list ks d=true->ZZ list ks m=true
 | [],_,_,_,_=> rfl
 | t ::r,d,m,hm,h=> by
  simp only [ZZ,Q0] at h ⊢
  exact ⟨⟨h.1.1,YZ t d m hm h.1.2⟩,Z64 list r d m hm h.2⟩
end
theorem RT_.neg{t:Tree}(h:RT_ t):Zh t (-1)=true:=by
 obtain ⟨⟨d,h⟩,_⟩:=h
 exact YZ t d (-1) (by decide) h
theorem Z1S{list d:Int}:∀ {ks:List Tree},ZZ list ks d=true↔∀ t∈ks,Z3P list t=true/\Zh t d=true
 | []=> by simp [ZZ]
 | t ::r=> by
  simp only [ZZ,Q0,Z1S (ks:=r),Qd,forall_eq_or_imp]
theorem Z42{t:Tree}(h:Zh t (-1)=true):t.kind≠0->t.kind≠10->
  (t.kind=1->t.words.length < 65536/\t.kids.length < 65536)/\(t.kind≠1->(2<=t.kind/\t.kind<=9)/\t.words=[]/\t.kids.length < 1048576)/\∀ k∈t.kids,Z3P t.kind k=true/\Zh k (-1)=true:=by
 obtain ⟨k,w,ks⟩:=t
 intro h0 h1
 have h0:k≠0:=h0
 have h1:k≠10:=h1
 rw [Zh,if_neg h0,if_neg h1,if_neg (by decide)] at h
 by_cases h3:k=1
 ·rw [if_pos h3,Q0,decide_eq_true_eq,Z1S] at h
  subst h3
  exact ⟨fun _=> h.1,fun e=> absurd rfl e,fun x hx=> ⟨(h.2 x hx).1,YZ _ _ _ (by decide) (h.2 x hx).2⟩⟩
 ·rw [if_neg h3,Q0,decide_eq_true_eq,Z1S] at h
  exact ⟨fun e=> absurd e h3,fun _=> ⟨⟨h.1.1,h.1.2.1⟩,Q6 h.1.2.2.1,h.1.2.2.2⟩,fun x hx=> ⟨(h.2 x hx).1,YZ _ _ _ (by decide) (h.2 x hx).2⟩⟩
theorem Zel{w:List Int}{ks:List Tree}(h1:w.length < 65536)(h2:ks.length < 65536)(h:∀ k∈ks,Z3P 1 k=true/\Zh k (-1)=true):Zh (.mk 1 w ks) (-1)=true:=by
 rw [Zh,if_neg (by decide),if_neg (by decide),if_neg (by decide),if_pos rfl,Q0,decide_eq_true_eq,Z1S]
 exact ⟨⟨h1,h2⟩,fun x hx=> ⟨(h x hx).1,YZ _ _ _ (by decide) (h x hx).2⟩⟩
theorem ZhS{l:Int}{ks:List Tree}(hl:2<=l/\l<=9)(h2:ks.length < 1048576)(h:∀ k∈ks,Z3P l k=true/\Zh k (-1)=true):Zh (.mk l [] ks) (-1)=true:=by
 rw [Zh,if_neg (by omega),if_neg (by omega),if_neg (by decide),if_neg (by omega),Q0,decide_eq_true_eq,Z1S]
 exact ⟨⟨hl.1,hl.2,rfl,h2⟩,fun x hx=> ⟨(h x hx).1,YZ _ _ _ (by decide) (h x hx).2⟩⟩
theorem Z08{D list:Int}:∀ {l:List Tree},Y3 D list l=true->∀ t∈l,Zh (.mk list [] [t]) D=true
 | a ::r,h,t,ht=> by
  simp only [Y3,Q0] at h
  rcases Qd.1 ht with rfl | ht
  ·exact h.1
  ·exact Z08 h.2 t ht
theorem ZcQ{D list:Int}(hl:2<=list/\list<=9){l:List Tree}(h:Y3 D list l=true):∀ t∈l,Z3P list t=true/\Zh t (-1)=true:=by
 intro t ht
 have:=Z42 (YZ _ _ (-1) (by decide) (Z08 h t ht)) (by show list≠0;omega) (by show list≠10;omega)
 exact this.2.2 t (by simp)
inductive Run:List Op->List Tree->List Tree->Prop
 | nil:Run [] [] []
 | keep {o r a s d}:o.kind=0->(a.length:Int)=o.n->Run r s d->Run (o ::r) (a++s) (a++d)
 | gone {o r a s d}:o.kind=1->Z3 o.l=Z3 a->Run r s d->Run (o ::r) (a++s) d
 | come {o r s d}:o.kind=2->Run r s d->Run (o ::r) s (o.l++d)
 | into {o r x y s d}:o.kind=3->doE false o.e x=some y->Run r s d->Run (o ::r) (x ::s) (y ::d)
def kOk(o:Op):Prop:=(o.kind=0/\0<=o.n)\/o.kind=1\/o.kind=2\/o.kind=3
theorem ZnK:∀ {os:List Op} {s d:List Tree},Run os s d->∀ out,ZG false os s out=some (out++d,[]):=by
 intro os s d h
 induction h with
 | nil=> intro out;simp [ZG]
 | keep h0 hn hr0 ih=>
  rename_i o r a s d
  intro out
  rw [ZG,Yi,if_pos h0,if_pos (by rw [Q9];omega),show o.n.toNat=a.length by omega]
  simp only [Qm,List.take_left,List.drop_left]
  rw [ih,Qa]
 | gone h1 hn hr0 ih=>
  rename_i o r a s d
  intro out
  have hl:=Z2S hn
  rw [ZG,Yi,if_neg (by omega),if_pos h1,if_pos]
  ·simp only [Qm]
   rw [hl,List.drop_left,ih]
  ·rw [Z35,hl,List.take_left]
   exact ⟨by simp,hn⟩
 | come h2 hr0 ih=>
  intro out
  rw [ZG,Yi,if_neg (by omega),if_neg (by omega),if_pos h2]
  simp only [Qm]
  rw [ih,Qa]
 | into h3 he hr0 ih=>
  intro out
  rw [ZG,Yi,if_neg (by omega),if_neg (by omega),if_neg (by omega),if_neg (by simp)]
  simp only [Qk,he,Qc,Qm,Qz,QK]
  rw [ih,Qa]
  try rfl
theorem Zcx:∀ {os:List Op} {s out:List Tree} {x:List Tree × List Tree},(∀ o∈os,kOk o)->ZG false os s out=some x->x.2=[]->∃ d,x.1=out++d/\Run os s d
 | [],s,out,x,_,h,hx=> by
  rw [ZG] at h
  cases h
  have hx:s=[]:=hx
  subst hx
  exact ⟨[],by simp,.nil⟩
 | o ::r,s,out,x,hk,h,hx=> by
  rw [ZG,Yi] at h
  have hr:∀ o∈r,kOk o:=fun o ho=> hk o (Q5 _ ho)
  rcases hk o Q7 with h0 | h1 | h2 | h3
  ·rw [if_pos h0.1] at h
   split at h
   ·rename_i hl
    simp only [Qm] at h
    obtain ⟨d,e,hd⟩:=Zcx hr h hx
    refine ⟨s.take o.n.toNat++d,by rw [e,Qa],?_⟩
    have:=Run.keep (a:=s.take o.n.toNat) h0.1 (by rw [Qp];omega) hd
    rwa [QH] at this
   ·cases h
  ·rw [if_neg (by omega),if_pos h1] at h
   split at h
   ·rename_i hg
    obtain ⟨g1,g2⟩:=(Z35 _ _).1 hg
    simp only [Qm] at h
    obtain ⟨d,e,hd⟩:=Zcx hr h hx
    refine ⟨d,e,?_⟩
    have:=Run.gone (a:=s.take o.l.length) h1 g2 hd
    rwa [QH] at this
   ·cases h
  ·rw [if_neg (by omega),if_neg (by omega),if_pos h2] at h
   simp only [Qm] at h
   obtain ⟨d,e,hd⟩:=Zcx hr h hx
   exact ⟨o.l++d,by rw [e,Qa],.come h2 hd⟩
  ·rw [if_neg (by omega),if_neg (by omega),if_neg (by omega)] at h
   split at h
   ·cases h
   ·rename_i hl
    obtain ⟨y,hy,h⟩:=Qs.1 h
    obtain ⟨z,hz,rfl⟩:=Qq.1 hy
    obtain ⟨d,e,hd⟩:=Zcx hr h hx
    cases s with
    | nil=> simp at hl
    | cons x0 s=>
     refine ⟨z ::d,by rw [e];simp,.into h3 (by simpa using hz) (by simpa using hd)⟩
theorem Zf7{os:List Op}{s d:List Tree}(hk:∀ o∈os,kOk o):Z2B (ZG false os s [])=some d↔Run os s d:=by
 constructor
 ·intro h
  unfold Z2B at h
  obtain ⟨x,hx,h⟩:=Qs.1 h
  split at h
  ·rename_i hl
   cases h
   obtain ⟨d,e,hd⟩:=Zcx hk hx (Q6 hl)
   rw [e];exact hd
  ·cases h
 ·intro h
  have:=ZnK h []
  unfold Z2B
  rw [this]
  simp
theorem Zmu{list d:Int}{o:Op}(h:Za list o d=true):kOk o:=by
 have:=ZN h
 cases this with
 | keep n h1=> exact .inl ⟨rfl,by show 0<=n;omega⟩
 | gone=> exact .inr (.inl rfl)
 | come=> exact .inr (.inr (.inl rfl))
 | into=> exact .inr (.inr (.inr rfl))
theorem Zej:∀ {os:List Op} {s d:List Tree},Run os s d->(∀ o∈os,ZM o)->(s.length:Int)=Yk os/\(d.length:Int)=ZY os:=by
 intro os s d h
 induction h with
 | nil=> intro _;simp [Yk,ZY]
 | keep h0 hn hr0 ih=>
  rename_i o r a s d
  intro hk
  obtain ⟨i1,i2⟩:=ih fun o ho=> hk o (Q5 _ ho)
  have ho:=hk o Q7
  have hl:Z1 o=o.n:=by
   rcases ho with h | h | h
   ·unfold Z1;rw [if_neg (by omega),h.2.1];simp
   ·omega
   ·omega
  simp only [Yk,ZY,Q9]
  rw [if_neg (by omega),if_neg (by omega),hl]
  omega
 | gone h1 hn hr0 ih=>
  rename_i o r a s d
  intro hk
  obtain ⟨i1,i2⟩:=ih fun o ho=> hk o (Q5 _ ho)
  have ho:=hk o Q7
  have hl:Z1 o=a.length:=by
   have:=Z2S hn
   rcases ho with h | h | h
   ·omega
   ·unfold Z1;rw [if_neg (by omega),h.2.1];omega
   ·omega
  simp only [Yk,ZY,Q9]
  rw [if_neg (by omega),if_pos h1,hl]
  omega
 | come h2 hr0 ih=>
  rename_i o r s d
  intro hk
  obtain ⟨i1,i2⟩:=ih fun o ho=> hk o (Q5 _ ho)
  have ho:=hk o Q7
  have hl:Z1 o=o.l.length:=by
   rcases ho with h | h | h
   ·omega
   ·unfold Z1;rw [if_neg (by omega),h.2.1];omega
   ·omega
  simp only [Yk,ZY,Q9]
  rw [if_pos h2,if_neg (by omega),hl]
  omega
 | into h3 he hr0 ih=>
  rename_i o r x y s d
  intro hk
  obtain ⟨i1,i2⟩:=ih fun o ho=> hk o (Q5 _ ho)
  have hl:Z1 o=1:=by unfold Z1;rw [if_pos h3]
  simp only [Yk,ZY,Qb]
  rw [if_neg (by omega),if_neg (by omega),hl]
  omega
theorem Zho{r:Bool}{tk:List Tree}:∀ {ks:List Kid} {out b:List Tree},Jl r tk ks out=some b->(∀ k∈ks,k.at_<=65534)->
  b.length<=max out.length 65535/\∀ y∈b,y∈out\/y=Tree.nil\/∃ k∈ks,doE r k.e (tk.getD k.at_.toNat Tree.nil)=some y
 | [],out,b,h,_=> by
  rw [Jl] at h
  cases h
  exact ⟨by omega,fun y hy=> .inl hy⟩
 | k ::s,out,b,h,ha=> by
  rw [Jl,ZcA] at h
  obtain ⟨v,hv,hb⟩:=Qs.1 h
  obtain ⟨i1,i2⟩:=Zho hb fun x hx=> ha x (Q5 _ hx)
  have:=ha k Q7
  rw [Z5I] at i1
  refine ⟨by omega,fun y hy=> ?_⟩
  rcases i2 y hy with h1 | h1 | ⟨q,hq,h1⟩
  ·rcases Z5Y h1 with h1 | h1 | h1
   ·exact .inl h1
   ·exact .inr (.inl h1)
   ·subst h1
    exact .inr (.inr ⟨k,Q7,hv⟩)
  ·exact .inr (.inl h1)
  ·exact .inr (.inr ⟨q,Q5 _ hq,h1⟩)
theorem Zre:∀ {os:List Op} {s d:List Tree},Run os s d->∀ y∈d,y∈s\/(∃ o∈os,o.kind=2/\y∈o.l)\/∃ o∈os,o.kind=3/\∃ x∈s,doE false o.e x=some y:=by
 intro os s d h
 induction h with
 | nil=> intro y hy;cases hy
 | keep h0 hn hr0 ih=>
  intro y hy
  rcases Qi.1 hy with hy | hy
  ·exact .inl (QV _ hy)
  ·rcases ih y hy with h | ⟨o,ho,h⟩ | ⟨o,ho,hk,x,hx,h⟩
   ·exact .inl (QW _ h)
   ·exact .inr (.inl ⟨o,Q5 _ ho,h⟩)
   ·exact .inr (.inr ⟨o,Q5 _ ho,hk,x,QW _ hx,h⟩)
 | gone h1 hn hr0 ih=>
  intro y hy
  rcases ih y hy with h | ⟨o,ho,h⟩ | ⟨o,ho,hk,x,hx,h⟩
  ·exact .inl (QW _ h)
  ·exact .inr (.inl ⟨o,Q5 _ ho,h⟩)
  ·exact .inr (.inr ⟨o,Q5 _ ho,hk,x,QW _ hx,h⟩)
 | come h2 hr0 ih=>
  intro y hy
  rcases Qi.1 hy with hy | hy
  ·exact .inr (.inl ⟨_,Q7,h2,hy⟩)
  ·rcases ih y hy with h | ⟨o,ho,h⟩ | ⟨o,ho,hk,x,hx,h⟩
   ·exact .inl h
   ·exact .inr (.inl ⟨o,Q5 _ ho,h⟩)
   ·exact .inr (.inr ⟨o,Q5 _ ho,hk,x,hx,h⟩)
 | into h3 he hr0 ih=>
  intro y hy
  rcases Qd.1 hy with rfl | hy
  ·exact .inr (.inr ⟨_,Q7,h3,_,Q7,he⟩)
  ·rcases ih y hy with h | ⟨o,ho,h⟩ | ⟨o,ho,hk,x,hx,h⟩
   ·exact .inl (Q5 _ h)
   ·exact .inr (.inl ⟨o,Q5 _ ho,h⟩)
   ·exact .inr (.inr ⟨o,Q5 _ ho,hk,x,Q5 _ hx,h⟩)
theorem Zvv{y:Tree}(h:y.kind≠10):Z3P 1 y=true:=by
 unfold Z3P
 rw [if_neg (by decide),if_neg (by decide)]
 exact decide_eq_true h
theorem Z6i{list d:Int}{os:List Op}(h:ZD list os d=true):∀ o∈os,ZM o:=fun o ho=> Zbq (rightOs_mem h ho)
theorem Z76{o:Op}(h:ZM o):0<=Z1 o:=by have:=Zu h;omega
theorem Zaz{e:Edit}{d:Int}{t u:Tree}(hr:Z5 e d=true)(h:doE false e t=some u):(e.kind=1->u=e.new)/\(e.kind=2->u.kind=1/\t.kind=1)/\(e.kind=3->u.kind=e.list/\t.kind=e.list)/\(e.kind=0->u=t):=by
 rw [Z0t,Yt] at h
 refine ⟨fun hk=> ?_,fun hk=> ?_,fun hk=> ?_,fun hk=> ?_⟩
 ·rw [if_neg (by omega),if_pos hk] at h
  split at h
  ·exact (Option.some.inj h).symm
  ·cases h
 ·rw [if_neg (by omega),if_neg (by omega),if_pos hk] at h
  split at h
  ·rename_i ht
   obtain ⟨a,ha,h⟩:=Qs.1 h
   obtain ⟨b,hb,rfl⟩:=Qq.1 h
   exact ⟨rfl,ht⟩
  ·cases h
 ·rw [if_neg (by omega),if_neg (by omega),if_neg (by omega),if_pos hk] at h
  split at h
  ·rename_i ht
   obtain ⟨b,hb,rfl⟩:=Qq.1 h
   exact ⟨rfl,ht⟩
  ·cases h
 ·rw [if_pos hk] at h
  exact (Option.some.inj h).symm
theorem ZmF:∀ (n:Nat) (e:Edit) (d:Int) (t u:Tree),Z8 e<=n->Z5 e d=true->Zh t (-1)=true->doE false e t=some u->Zh u (-1)=true/\(e.kind≠0->u.kind≠10):=by
 intro n
 induction n with
 | zero=> intro e d t u hm;obtain ⟨k,o,nw,w,ks,l,os⟩:=e;simp only [Z8] at hm;omega
 | succ n ih=>
  intro e d t u hm hr ht h
  have R:=Zk hr
  obtain ⟨k1,k2,k3,k0⟩:=Zaz hr h
  have hk:=R.kind
  by_cases h0:e.kind=0
  ·rw [k0 h0];exact ⟨ht,fun q=> absurd h0 q⟩
  by_cases h1:e.kind=1
  ·rw [k1 h1]
   obtain ⟨r1,r2,r3,r4⟩:=R.rep h1
   exact ⟨YZ _ _ _ (by decide) r2,fun _=> r4⟩
  by_cases h2:e.kind=2
  ·obtain ⟨u1,t1⟩:=k2 h2
   refine ⟨?_,fun _=> by omega⟩
   rw [Z0t,Yt,if_neg h0,if_neg h1,if_pos h2,if_pos t1] at h
   obtain ⟨a,ha,h⟩:=Qs.1 h
   obtain ⟨b,hb,rfl⟩:=Qq.1 h
   obtain ⟨p1,_,p3⟩:=Z42 ht (by omega) (by omega)
   have p1:=p1 t1
   rw [t1] at p3
   have hl:=Ze4 R.words ha
   have ha':=Zs R.kids
   obtain ⟨m1,m2⟩:=Zho hb fun k hk=> (ha' k hk).1.2.1
   refine Zel (by omega) (by omega) fun y hy=> ?_
   rcases m2 y hy with h | rfl | ⟨k,hk,h⟩
   ·exact p3 y h
   ·exact ⟨rfl,rfl⟩
   ·have hx:Zh (t.kids.getD k.at_.toNat Tree.nil) (-1)=true:=by
     by_cases hi:k.at_.toNat < t.kids.length
     ·rw [Qo,Q4 hi]
      exact (p3 _ (XM hi)).2
     ·rw [Qo,Qu (by omega)];try rfl
    obtain ⟨g1,g2⟩:=ih k.e _ _ y (by have:=Y5 hk;omega) (ha' k hk).2 hx h
    exact ⟨Zvv (g2 (ha' k hk).1.2.2),g1⟩
  ·have h3:e.kind=3:=by omega
   obtain ⟨u1,t1⟩:=k3 h3
   have hli:=R.list h3
   refine ⟨?_,fun _=> by omega⟩
   rw [Z0t,Yt,if_neg h0,if_neg h1,if_neg h2,if_pos h3,if_pos t1] at h
   obtain ⟨b,hb,rfl⟩:=Qq.1 h
   have ho:∀ o∈e.ops,Za e.list o (d - 1)=true:=fun o h=> rightOs_mem R.ops h
   have hrun:=(Zf7 (fun o h=> Zmu (ho o h))).1 hb
   obtain ⟨_,q2⟩:=Zej hrun (Z6i R.ops)
   obtain ⟨q3,q4⟩:=Z0o e.ops 0 (fun o h=> Z76 (Z6i R.ops o h)) (by decide) (by decide)
   have q5:=R.len.2
   obtain ⟨_,_,p3⟩:=Z42 ht (by omega) (by omega)
   rw [t1] at p3
   refine ZhS hli (by omega) fun y hy=> ?_
   rcases Zre hrun y hy with h | ⟨o,hoo,hk2,hyl⟩ | ⟨o,hoo,hk3,x,hx,h⟩
   ·exact p3 y h
   ·have:=ZN (ho o hoo)
    cases this with
    | come l h1 h2=> exact ZcQ hli h1 y hyl
    | keep | gone | into=> exact absurd hk2 (by simp)
   ·have:=ZN (ho o hoo)
    cases this with
    | into e' g1 g2 g3 g4=>
     obtain ⟨f1,f2⟩:=ih e' _ x y (by have:=YI hoo;dsimp only at this;omega) g1 (p3 x hx).2 h
     refine ⟨?_,f1⟩
     obtain ⟨j1,j2,_,_⟩:=Zaz g1 h
     unfold Z3P
     rw [if_neg (by omega)]
     by_cases hl9:e.list=9
     ·rw [if_pos hl9]
      refine decide_eq_true ?_
      rcases g4 with q | q | q
      ·omega
      ·exact (j2 q).1
      ·rw [j1 q.1];exact q.2.2
     ·rw [if_neg hl9]
      exact decide_eq_true (f2 g2)
    | keep | gone | come=> exact absurd hk3 (by simp)
theorem Zhl{e:Edit}{d:Int}{t u:Tree}(hr:Z5 e d=true)(ht:RT_ t)(he:Yl e)(h:doE false e t=some u):RT_ u:=
 ⟨⟨-1,(ZmF _ e d t u (Qh _) hr ht.neg h).1⟩,Zek false e t u he ht.2 h⟩
end Go.AM.Ytpjenobkibfpcaa
namespace Go.AM
def Z0z(m:Nat):Nat->Nat
 | 0=> 0
 | i+1=> Z0z m i+if m / 2 ^ i % 2=1 then 255*2 ^ (8*i) else 0
def ZcP:Nat->Nat->Nat
 | 0,_=> 0
 | k+1,m=> (if m % 2=1 then 255 else 0)+256*ZcP k (m / 2)
def Z9j:Nat->Nat->Nat->Nat
 | 0,_,_=> 0
 | k+1,a,m=> (if m % 2=1 then a % 256 else 0)+256*Z9j k (a / 256) (m / 2)
def ZgR:Nat->Nat->Nat->Nat->Nat
 | 0,_,_,_=> 0
 | k+1,a,b,m=> (if m % 2=1 then b % 256 else a % 256)+256*ZgR k (a / 256) (b / 256) (m / 2)
theorem ZmV(x y u v:Nat)(hu:u < 256)(hv:v < 256):(u+256*x) &&& (v+256*y)=(u &&& v)+256*(x &&& y):=by
 have h:u &&& v < 256:=Nat.and_lt_two_pow (n:=8) u hv
 apply Nat.eq_of_testBit_eq
 intro j
 rw [Xu u,Xu v,Xu (u &&& v),Ky]
 rw [show (256:Nat)=2 ^ 8 from rfl,Xf _ hu,Xf _ hv,Xf _ h]
 split <;> rw [Ky]
theorem Zos(x y u v:Nat)(hu:u < 256)(hv:v < 256):(u+256*x) ||| (v+256*y)=(u ||| v)+256*(x ||| y):=by
 have h:u ||| v < 256:=Nat.or_lt_two_pow (n:=8) hu hv
 apply Nat.eq_of_testBit_eq
 intro j
 rw [Xu u,Xu v,Xu (u ||| v),Nat.testBit_or]
 rw [show (256:Nat)=2 ^ 8 from rfl,Xf _ hu,Xf _ hv,Xf _ h]
 split <;> rw [Nat.testBit_or]
theorem ZcM:∀ (k a m:Nat),a &&& ZcP k m=Z9j k a m
 | 0,a,m=> by simp [ZcP,Z9j]
 | k+1,a,m=> by
  have e:a=a % 256+256*(a / 256):=by omega
  simp only [ZcP,Z9j]
  rw [<-ZcM k (a / 256) (m / 2)]
  have h:a &&& ((if m % 2=1 then 255 else 0)+256*ZcP k (m / 2))=(a % 256+256*(a / 256)) &&& ((if m % 2=1 then 255 else 0)+256*ZcP k (m / 2)):=by rw [<-e]
  rw [h,ZmV _ _ _ _ (by omega) (by split <;> omega)]
  congr 1
  split
  ·have:=Nat.and_two_pow_sub_one_eq_mod (a % 256) 8
   simp only [show (2:Nat) ^ 8 - 1=255 from rfl,show (2:Nat) ^ 8=256 from rfl,Nat.mod_mod] at this
   exact this
  ·simp
theorem ZjU:∀ (k a b m n:Nat),(∀ i < k,m / 2 ^ i % 2+n / 2 ^ i % 2=1)->Z9j k a n ||| Z9j k b m=ZgR k a b m
 | 0,a,b,m,n,_=> by simp [Z9j,ZgR]
 | k+1,a,b,m,n,h=> by
  simp only [Z9j,ZgR]
  have h0:=h 0 (by omega)
  simp only [Nat.pow_zero,Nat.div_one] at h0
  rw [Zos _ _ _ _ (by split <;> omega) (by split <;> omega),ZjU k (a / 256) (b / 256) (m / 2) (n / 2) (fun i hi=> by
   have:=h (i+1) (by omega)
   rw [Xt,Xt]
   rw [Nat.pow_succ,X8] at this
   exact this)]
  congr 1
  by_cases hm:m % 2=1
  ·rw [if_pos hm,if_pos hm,if_neg (by omega)];simp
  ·rw [if_neg hm,if_neg hm,if_pos (by omega)];simp
theorem Zj8:∀ m:Fin 256,Z0z m.1 8=ZcP 8 m.1:=by decide+kernel
theorem Zna:∀ m:Fin 256,2 ^ 64 - 1 - ZcP 8 m.1=ZcP 8 (255 - m.1):=by decide+kernel
theorem Zq5:∀ m:Fin 256,∀ i:Fin 8,m.1 / 2 ^ i.1 % 2+(255 - m.1) / 2 ^ i.1 % 2=1:=by decide+kernel
theorem ZqF:∀ m:Fin 256,ZcP 8 m.1 < 2 ^ 64:=by decide+kernel
theorem ZoH(a b m:Nat)(hm:m < 256):(a &&& (2 ^ 64 - 1 - Z0z m 8)) ||| (b &&& Z0z m 8)=ZgR 8 a b m:=by
 have h1:=Zj8 ⟨m,hm⟩
 have h2:=Zna ⟨m,hm⟩
 simp only at h1 h2
 rw [h1,h2,ZcM,ZcM]
 exact ZjU 8 a b m (255 - m) (fun i hi=> Zq5 ⟨m,hm⟩ ⟨i,hi⟩)
def ofK:Nat->(Nat->Nat)->Nat
 | 0,_=> 0
 | k+1,f=> f 0+256*ofK k (fun i=> f (i+1))
theorem Zdw:∀ (k:Nat) {f g:Nat->Nat},(∀ i,f i=g i)->ofK k f=ofK k g
 | 0,_,_,_=> rfl
 | k+1,f,g,h=> by simp only [ofK,h 0,Zdw k (fun i=> h (i+1))]
theorem Zk3:∀ (k a b m:Nat),ZgR k a b m=ofK k (fun i=> if m / 2 ^ i % 2=1 then b / 256 ^ i % 256 else a / 256 ^ i % 256)
 | 0,_,_,_=> rfl
 | k+1,a,b,m=> by
  simp only [ZgR,ofK,Nat.pow_zero,Nat.div_one]
  rw [Zk3 k,Zdw k (g:=fun i=> if m / 2 ^ (i+1) % 2=1 then b / 256 ^ (i+1) % 256 else a / 256 ^ (i+1) % 256) (fun i=> ?_)]
  rw [Xt,Xt,Xt,Nat.pow_succ',Nat.pow_succ']
theorem ZoI(a b m:Nat):((ZgR 8 a b m:Nat):Int)=mix a b m:=by
 have nm:∀ i:Nat,J1 (m:Int) (i:Int)=decide (m / 2 ^ i % 2=1):=by
  intro i
  unfold J1
  rw [decide_eq_decide,Xa]
  have:((m:Int) / 2 ^ i % 2:Int)=((m / 2 ^ i % 2:Nat):Int):=by rw [Ku,Kv,KB];try rfl
  rw [this];omega
 have by_:∀ (x i:Nat),Z9 (x:Int) i=((x / 256 ^ i % 256:Nat):Int):=by
  intro x i
  unfold Z9
  rw [Ku,Kv,KB]
  try rfl
 have mx:∀ i:Nat,YU (a:Int) (b:Int) (m:Int) i=((if m / 2 ^ i % 2=1 then b / 256 ^ i % 256 else a / 256 ^ i % 256:Nat):Int):=by
  intro i
  unfold YU
  rw [nm,by_,by_]
  by_cases h:m / 2 ^ i % 2=1
  ·rw [decide_eq_true h,if_pos rfl,if_pos h]
  ·rw [decide_eq_false h,if_neg Km,if_neg h]
 rw [Zk3]
 generalize hf:(fun i=> if m / 2 ^ i % 2=1 then b / 256 ^ i % 256 else a / 256 ^ i % 256)=f
 have hx:∀ i,YU (a:Int) (b:Int) (m:Int) i=(f i:Int):=by intro i;rw [mx,<-hf]
 have e:ofK 8 f=f 0+256*(f 1+256*(f 2+256*(f 3+256*(f 4+256*(f 5+256*(f 6+256*(f 7+256*0))))))):=rfl
 rw [e]
 simp only [mix,of8,hx]
 omega
end Go.AM
namespace Go.AM
def Z0y(a b:Int):Int:=IntKind.wrap .u8 (BitVec.ofInt (IntKind.bits .u8) a &&& BitVec.ofInt (IntKind.bits .u8) b).toNat
noncomputable def doB(e:Edit)(t:Tree):Tree × Bool:=(JM ((doE false e t).map Z2),(doE false e t).isSome)
noncomputable def Z6s(a b:List Tree):Bool:=eqX (Z3 a) (Z3 b)
def Z0e(e:Edit):Prop:=ctE e<=9000000000/\Yl e/\∃ d,Z5 e d=true
def Zrf(l:List Op):Prop:=J3 l<=9000000000/\Z1c l/\∀ o∈l,∃ list d,Za list o d=true
def Zef(o:Op):Prop:=ZM o/\Z3G o<=9000000000/\Z1d o/\(o.kind=3->∃ d,Z5 o.e d=true)
end Go.AM
namespace Go.AM.Ytpjenobkibfpcaa
open Go.AM Go.Proofs
theorem YX{o:Op}{r:List Op}{s d:List Tree}(h0:o.kind=0):Run (o ::r) s d↔∃ a s' d',s=a++s'/\d=a++d'/\(a.length:Int)=o.n/\Run r s' d':=by
 constructor
 ·intro h
  cases h with
  | keep _ h2 h3=> exact ⟨_,_,_,rfl,rfl,h2,h3⟩
  | gone h1=> omega
  | come h1=> omega
  | into h1=> omega
 ·rintro ⟨a,s',d',rfl,rfl,h2,h3⟩
  exact .keep h0 h2 h3
theorem Yv{o:Op}{r:List Op}{s d:List Tree}(h0:o.kind=1):Run (o ::r) s d↔∃ a s',s=a++s'/\Z3 o.l=Z3 a/\Run r s' d:=by
 constructor
 ·intro h
  cases h with
  | gone _ h2 h3=> exact ⟨_,_,rfl,h2,h3⟩
  | keep h1=> omega
  | come h1=> omega
  | into h1=> omega
 ·rintro ⟨a,s',rfl,h2,h3⟩
  exact .gone h0 h2 h3
theorem YG{o:Op}{r:List Op}{s d:List Tree}(h0:o.kind=2):Run (o ::r) s d↔∃ d',d=o.l++d'/\Run r s d':=by
 constructor
 ·intro h
  cases h with
  | come _ h3=> exact ⟨_,rfl,h3⟩
  | keep h1=> omega
  | gone h1=> omega
  | into h1=> omega
 ·rintro ⟨d',rfl,h3⟩
  exact .come h0 h3
theorem Z0i{o:Op}{r:List Op}{s d:List Tree}(h0:o.kind=3):Run (o ::r) s d↔∃ x s' y d',s=x ::s'/\d=y ::d'/\doE false o.e x=some y/\Run r s' d':=by
 constructor
 ·intro h
  cases h with
  | into _ h2 h3=> exact ⟨_,_,_,_,rfl,rfl,h2,h3⟩
  | keep h1=> omega
  | gone h1=> omega
  | come h1=> omega
 ·rintro ⟨x,s',y,d',rfl,rfl,h2,h3⟩
  exact .into h0 h2 h3
theorem Z4T{o:Op}{p r:List Op}(h:∀ s d,Run p s d↔Run r s d)(hk:kOk o)(s d:List Tree):Run (o ::p) s d↔Run (o ::r) s d:=by
 rcases hk with h0 | h1 | h2 | h3
 ·rw [YX h0.1,YX h0.1];simp only [h]
 ·rw [Yv h1,Yv h1];simp only [h]
 ·rw [YG h2,YG h2];simp only [h]
 ·rw [Z0i h3,Z0i h3];simp only [h]
theorem YQ{o:Op}(h:ZM o):kOk o:=by
 rcases h with h | h | h
 ·exact .inl ⟨h.1,by omega⟩
 ·rcases h.1 with h1 | h1
  ·exact .inr (.inl h1)
  ·exact .inr (.inr (.inl h1))
 ·exact .inr (.inr (.inr h.1))
theorem Zau{o:Op}(h:ZM o)(h0:o.kind=0):Z1 o=o.n:=by
 rcases h with h | h | h
 ·unfold Z1;rw [if_neg (by omega),h.2.1];simp
 ·omega
 ·omega
theorem Z20{o:Op}(h:ZM o)(h0:o.kind=1\/o.kind=2):Z1 o=o.l.length:=by
 rcases h with h | h | h
 ·omega
 ·unfold Z1;rw [if_neg (by omega),h.2.1];omega
 ·omega
theorem Z0k{o:Op}(h0:o.kind=3):Z1 o=1:=by unfold Z1;rw [if_pos h0]
theorem Zrd{o:Op}{r:List Op}{s m:List Tree}(ho:ZM o)(hk:o.kind≠1)(h:Run (o ::r) s m):∃ m1 s' m',m=m1++m'/\(m1.length:Int)=Z1 o/\Run r s' m':=by
 rcases YQ ho with h0 | h1 | h2 | h3
 ·obtain ⟨a,s',d',_,rfl,hl,hr⟩:=(YX h0.1).1 h
  exact ⟨a,s',d',rfl,by rw [Zau ho h0.1];exact hl,hr⟩
 ·exact absurd h1 hk
 ·obtain ⟨d',rfl,hr⟩:=(YG h2).1 h
  exact ⟨o.l,s,d',rfl,by rw [Z20 ho (.inr h2)],hr⟩
 ·obtain ⟨x,s',y,d',_,rfl,_,hr⟩:=(Z0i h3).1 h
  exact ⟨[y],s',d',rfl,by rw [Z0k h3];rfl,hr⟩
theorem Z5Z{o:Op}{r:List Op}{m d:List Tree}(ho:ZM o)(hk:o.kind≠2)(h:Run (o ::r) m d):∃ m1 m' d',m=m1++m'/\(m1.length:Int)=Z1 o/\Run r m' d':=by
 rcases YQ ho with h0 | h1 | h2 | h3
 ·obtain ⟨a,s',d',rfl,_,hl,hr⟩:=(YX h0.1).1 h
  exact ⟨a,s',d',rfl,by rw [Zau ho h0.1];exact hl,hr⟩
 ·obtain ⟨a,s',rfl,hn,hr⟩:=(Yv h1).1 h
  exact ⟨a,s',d,rfl,by rw [Z20 ho (.inl h1),Z2S hn],hr⟩
 ·exact absurd h2 hk
 ·obtain ⟨x,s',y,d',rfl,_,_,hr⟩:=(Z0i h3).1 h
  exact ⟨[x],s',d',rfl,by rw [Z0k h3];rfl,hr⟩
theorem ZlO{o:Op}{r:List Op}{n:Int}(ho:ZM o)(h1:1<=n)(hn:¬Z1 o<=n)(s d:List Tree):Run (o ::r) s d↔Run (Zq o n ::YC o n ::r) s d:=by
 unfold Zq YC
 rw [if_neg hn]
 rcases YQ ho with h0 | hg | hc | hi
 ·have hl:=Zau ho h0.1
  rw [if_pos h0.1,if_pos h0.1,YX h0.1,YX (o:=⟨o.kind,n,o.l,o.e⟩) h0.1]
  constructor
  ·rintro ⟨a,s',d',rfl,rfl,ha,hr⟩
   refine ⟨a.take n.toNat,a.drop n.toNat++s',a.drop n.toNat++d',by rw [<-Qa,QH],by rw [<-Qa,QH],by rw [Qp];dsimp only;omega,?_⟩
   exact (YX (o:=⟨o.kind,o.n - n,o.l,o.e⟩) h0.1).2 ⟨a.drop n.toNat,s',d',rfl,rfl,by rw [X6];dsimp only;omega,hr⟩
  ·rintro ⟨a,s',d',rfl,rfl,ha,hr⟩
   obtain ⟨b,s2,d2,rfl,rfl,hb,hr2⟩:=(YX (o:=⟨o.kind,o.n - n,o.l,o.e⟩) h0.1).1 hr
   dsimp only at ha hb
   exact ⟨a++b,s2,d2,by rw [Qa],by rw [Qa],by rw [Q9];omega,hr2⟩
 ·have hl:=Z20 ho (.inl hg)
  rw [if_neg (by omega),if_neg (by omega),Yv hg,Yv (o:=⟨o.kind,o.n,o.l.take n.toNat,o.e⟩) hg]
  constructor
  ·rintro ⟨a,s',rfl,ha,hr⟩
   have hla:=Z2S ha
   refine ⟨a.take n.toNat,a.drop n.toNat++s',by rw [<-Qa,QH],EqvL.take ha _,?_⟩
   exact (Yv (o:=⟨o.kind,o.n,o.l.drop n.toNat,o.e⟩) hg).2 ⟨a.drop n.toNat,s',rfl,EqvL.drop ha _,hr⟩
  ·rintro ⟨a,s',rfl,ha,hr⟩
   obtain ⟨b,s2,rfl,hb,hr2⟩:=(Yv (o:=⟨o.kind,o.n,o.l.drop n.toNat,o.e⟩) hg).1 hr
   refine ⟨a++b,s2,by rw [Qa],?_,hr2⟩
   have:=Z1E ha hb
   rwa [QH] at this
 ·rw [if_neg (by omega),if_neg (by omega),YG hc,YG (o:=⟨o.kind,o.n,o.l.take n.toNat,o.e⟩) hc]
  constructor
  ·rintro ⟨d',rfl,hr⟩
   refine ⟨o.l.drop n.toNat++d',by rw [<-Qa,QH],?_⟩
   exact (YG (o:=⟨o.kind,o.n,o.l.drop n.toNat,o.e⟩) hc).2 ⟨d',rfl,hr⟩
  ·rintro ⟨d',rfl,hr⟩
   obtain ⟨d2,rfl,hr2⟩:=(YG (o:=⟨o.kind,o.n,o.l.drop n.toNat,o.e⟩) hc).1 hr
   exact ⟨d2,by rw [<-Qa,QH],hr2⟩
 ·rw [Z0k hi] at hn
  omega
def Z5H:List Piece->List Op
 | []=> []
 | x ::r=> (if x.of=2 then [] else [x.p])++Z5H r
def Z5G:List Piece->List Op
 | []=> []
 | x ::r=> (if x.of=1 then [] else [x.q])++Z5G r
def Part(l:List Op)(o:Op):Prop:=∃ o'∈l,o.kind=o'.kind/\o.e=o'.e/\Zt o<=Zt o'/\∀ t∈o.l,t∈o'.l
theorem Part.mono{l l':List Op}{o:Op}(h:Part l o)(hl:∀ x∈l,Part l' x):Part l' o:=by
 obtain ⟨o',h1,h2,h3,h5,h4⟩:=h
 obtain ⟨o2,g1,g2,g3,g5,g4⟩:=hl o' h1
 exact ⟨o2,g1,h2.trans g2,h3.trans g3,X4 h5 g5,fun t ht=> g4 t (h4 t ht)⟩
theorem Part.self{l:List Op}{o:Op}(h:o∈l):Part l o:=⟨o,h,rfl,rfl,Qh _,fun _ h=> h⟩
theorem Z2E{o:Op}{r:List Op}{n:Int}(h:∀ x∈o ::r,ZM x)(h1:1<=n)(hn:n<=Z1 o):
  ZM (Zq o n)/\Z1 (Zq o n)=n/\(Zq o n).kind=o.kind/\Part (o ::r) (Zq o n)/\(∀ x∈Zw (o ::r) n,ZM x/\Part (o ::r) x)/\∀ s d,Run (o ::r) s d↔Run (Zq o n ::Zw (o ::r) n) s d:=by
 have ho:=h o Q7
 have hr:∀ x∈r,ZM x/\Part (o ::r) x:=fun x hx=> ⟨h x (Q5 _ hx),Part.self (Q5 _ hx)⟩
 unfold Zw
 simp only [Qk,Qz,QK]
 by_cases hl:Z1 o<=n
 ·rw [if_pos hl]
  have e:Zq o n=o:=by unfold Zq;rw [if_pos hl]
  rw [e]
  exact ⟨ho,by omega,rfl,Part.self Q7,hr,fun s d=> QN⟩
 ·rw [if_neg hl]
  obtain ⟨_,v2,v3,v4⟩:=ZaK (a:=1) ho h1 hl
  obtain ⟨b1,b2⟩:=Z81 ho h1 hl
  refine ⟨v2,v3,Jo o n,?_,?_,ZlO ho h1 hl⟩
  ·refine ⟨o,Q7,Jo o n,?_,v4,?_⟩
   ·unfold Zq;split;rfl;split <;> rfl
   ·intro t ht
    unfold Zq at ht
    split at ht
    ·exact ht
    ·split at ht
     ·exact ht
     ·exact Kd ht
  ·intro x hx
   rcases Qd.1 hx with rfl | hx
   ·refine ⟨b1,o,Q7,?_,?_,b2,?_⟩
    ·unfold YC;split <;> rfl
    ·unfold YC;split <;> rfl
    ·intro t ht
     unfold YC at ht
     split at ht
     ·exact ht
     ·exact XA ht
   ·exact hr x hx
theorem Y0{d:List Tree}{s:List Tree}(h:Run [] s d):s=[]/\d=[]:=by cases h;exact ⟨rfl,rfl⟩
theorem Zg6{o:Op}{r:List Op}{s d:List Tree}(hk:kOk o):Run (o ::r) s d↔∃ s1 s2 d1 d2,s=s1++s2/\d=d1++d2/\Run [o] s1 d1/\Run r s2 d2:=by
 constructor
 ·intro h
  rcases hk with h0 | h1 | h2 | h3
  ·obtain ⟨a,s',d',rfl,rfl,hl,hr⟩:=(YX h0.1).1 h
   exact ⟨a,s',a,d',rfl,rfl,(YX h0.1).2 ⟨a,[],[],by simp,by simp,hl,.nil⟩,hr⟩
  ·obtain ⟨a,s',rfl,hl,hr⟩:=(Yv h1).1 h
   exact ⟨a,s',[],d,rfl,rfl,(Yv h1).2 ⟨a,[],by simp,hl,.nil⟩,hr⟩
  ·obtain ⟨d',rfl,hr⟩:=(YG h2).1 h
   exact ⟨[],s,o.l,d',rfl,rfl,(YG h2).2 ⟨[],by simp,.nil⟩,hr⟩
  ·obtain ⟨x,s',y,d',rfl,rfl,he,hr⟩:=(Z0i h3).1 h
   exact ⟨[x],s',[y],d',rfl,rfl,.into h3 he .nil,hr⟩
 ·rintro ⟨s1,s2,d1,d2,rfl,rfl,h1,h2⟩
  rcases hk with h0 | hg | hc | h3
  ·obtain ⟨a,s',d',rfl,rfl,hl,hr⟩:=(YX h0.1).1 h1
   obtain ⟨rfl,rfl⟩:=Y0 hr
   rw [Qr]
   exact .keep h0.1 hl h2
  ·obtain ⟨a,s',rfl,hl,hr⟩:=(Yv hg).1 h1
   obtain ⟨rfl,rfl⟩:=Y0 hr
   rw [Qr]
   exact .gone hg hl h2
  ·obtain ⟨d',rfl,hr⟩:=(YG hc).1 h1
   obtain ⟨rfl,rfl⟩:=Y0 hr
   rw [Qr]
   exact .come hc h2
  ·obtain ⟨x,s',y,d',rfl,rfl,he,hr⟩:=(Z0i h3).1 h1
   obtain ⟨rfl,rfl⟩:=Y0 hr
   exact .into h3 he h2
theorem Z98{o:Op}{s d:List Tree}(ho:ZM o)(hk:o.kind≠1)(h:Run [o] s d):(d.length:Int)=Z1 o:=by
 obtain ⟨m1,s',m',rfl,hl,hr⟩:=Zrd ho hk h
 obtain ⟨_,rfl⟩:=Y0 hr
 simpa using hl
theorem Zbn{o:Op}{s d:List Tree}(ho:ZM o)(hk:o.kind≠2)(h:Run [o] s d):(s.length:Int)=Z1 o:=by
 obtain ⟨m1,s',m',rfl,hl,hr⟩:=Z5Z ho hk h
 obtain ⟨rfl,_⟩:=Y0 hr
 simpa using hl
theorem Z1m{o:Op}{s:List Tree}(h0:o.kind=0)(hl:(s.length:Int)=o.n):Run [o] s s:=
 (YX h0).2 ⟨s,[],[],by simp,by simp,hl,.nil⟩
theorem Z5L{o:Op}{s d:List Tree}(h0:o.kind=0)(h:Run [o] s d):d=s:=by
 obtain ⟨a,s',d',rfl,rfl,hl,hr⟩:=(YX h0).1 h
 obtain ⟨rfl,rfl⟩:=Y0 hr
 try rfl
theorem ZpQ{a b c d:List Tree}(h:EqvL a b)(h':EqvL c d):EqvL (a++c) (b++d):=Z1E h h'
section
variable {β:Type} {at_:β->Int} {one:β->β->β × Bool}
variable {α:Type} {z:α} {F:β->α->Option α} {R:α->α->Prop}
def Z60(z:α)(F:β->α->Option α)(at_:β->Int)(l:List α)(w:β):Option α:=F w (l.getD (at_ w).toNat z)
theorem Z3J{last:Int}(hl: -1<=last){l:List β}(h:asc at_ last l):∀ w∈l,0<=at_ w:=fun w hw=> by have:=Zfq h w hw;omega
end
end Go.AM.Ytpjenobkibfpcaa
namespace Go.AM.Ytpjenobkibfpcaa
open Go.AM Go.Proofs
theorem Z4n(m:Int)(h0:0<=m)(h1:m < 256)(i:Nat):J1 m (i:Int)=(BitVec.ofInt 8 m).toNat.testBit i:=by
 obtain ⟨n,rfl⟩:=X7 h0
 have e:(BitVec.ofInt 8 ((n:Nat):Int)).toNat=n:=by simp;omega
 rw [e,Nat.testBit_eq_decide_div_mod_eq]
 unfold J1
 rw [decide_eq_decide,Xa]
 have:((n:Int) / 2 ^ i % 2:Int)=((n / 2 ^ i % 2:Nat):Int):=by rw [Ku,Kv,KB];try rfl
 rw [this];omega
theorem Z5y{a b:Int}(ha:0<=a/\a < 256)(hb:0<=b/\b < 256):(0<=Z0y a b/\Z0y a b < 256)/\∀ i:Nat,J1 (Z0y a b) (i:Int)=(J1 a (i:Int) && J1 b (i:Int)):=by
 have hlt:(BitVec.ofInt 8 a &&& BitVec.ofInt 8 b).toNat < 256:=(BitVec.ofInt 8 a &&& BitVec.ofInt 8 b).isLt
 have e:Z0y a b=((BitVec.ofInt 8 a &&& BitVec.ofInt 8 b).toNat:Int):=by
  show IntKind.wrap .u8 ((BitVec.ofInt 8 a &&& BitVec.ofInt 8 b).toNat:Int)=_
  exact Z4H (by omega) (by omega)
 refine ⟨by rw [e];omega,fun i=> ?_⟩
 rw [Z4n _ (by rw [e];omega) (by rw [e];omega),e,Z4n a ha.1 ha.2,Z4n b hb.1 hb.2]
 have:(BitVec.ofInt 8 (((BitVec.ofInt 8 a &&& BitVec.ofInt 8 b).toNat:Nat):Int)).toNat=(BitVec.ofInt 8 a &&& BitVec.ofInt 8 b).toNat:=by
  generalize (BitVec.ofInt 8 a &&& BitVec.ofInt 8 b).toNat=k at hlt ⊢
  simp
  omega
 rw [this,Kx,Ky]
def doW(w:WEdit)(x:Int):Option Int:=if mix 0 x w.mask=w.old then some (mix x w.new w.mask) else none
theorem Zu8(i:Nat):Z9 0 i=0:=by unfold Z9;simp
theorem Z0L{a b m:Int}{i:Nat}(hi:i < 8):Z9 (mix a b m) i=if J1 m i=true then Z9 b i else Z9 a i:=by rw [ZoG hi];try rfl
theorem Zj4(tw:List Int)(ws:List WEdit)(out:List Int):wsD tw ws out=mg 0 (Z60 0 doW WEdit.at_ tw) WEdit.at_ ws out:=Zn8 tw ws out
theorem Zhn(tk:List Tree)(ks:List Kid)(out:List Tree):Jl false tk ks out=mg Tree.nil (Z60 Tree.nil (fun k:Kid=> doE false k.e) KidOf.at_ tk) KidOf.at_ ks out:=by
 rw [ZkV]
 congr 1
 funext k
 exact ZcA false tk k
theorem Js{e:Edit}{d:Int}(h:Z5 e d=true):∀ o∈e.ops,ZM o:=Z6i (Zk h).ops
theorem Zd0{e:Edit}(h:e.kind=0)(t:Tree):doE false e t=some t:=by rw [Z0t,Yt,if_pos h]
theorem ZvD{e:Edit}(h:e.kind=1)(t:Tree):doE false e t=if ZT (Z2 e.old) (Z2 t)=true then some e.new else none:=by rw [Z0t,Yt,if_neg (by omega),if_pos h]
theorem ZvC{e:Edit}(h:e.kind=2)(t:Tree):doE false e t=if t.kind=1 then (wsD t.words e.words t.words).bind fun a=> (Jl false t.kids e.kids t.kids).map fun b=> .mk 1 a b else none:=by
 rw [Z0t,Yt,if_neg (by omega),if_neg (by omega),if_pos h]
theorem ZvB{e:Edit}(h:e.kind=3)(t:Tree):doE false e t=if t.kind=e.list then (Z2B (ZG false e.ops t.kids [])).map fun b=> .mk e.list [] b else none:=by
 rw [Z0t,Yt,if_neg (by omega),if_neg (by omega),if_neg (by omega),if_pos h]
theorem Zyj(w:List WEdit)(ks:List Kid)(t:Tree):doE false (.mk 2 Tree.nil Tree.nil w ks 0 []) t=if t.kind=1 then (wsD t.words w t.words).bind fun a=> (Jl false t.kids ks t.kids).map fun b=> .mk 1 a b else none:=ZvC rfl t
theorem Zyi(l:Int)(os:List Op)(t:Tree):doE false (.mk 3 Tree.nil Tree.nil [] [] l os) t=if t.kind=l then (Z2B (ZG false os t.kids [])).map fun b=> .mk l [] b else none:=ZvB rfl t
theorem ZpW{e:Edit}{t v:Tree}(h:doE false e t=some v):doB e t=(Z2 v,true):=by unfold doB;rw [h];try rfl
theorem ZR{e:Edit}(h:Yl e):rng e.old/\rng e.new/\(∀ x∈e.words,ZcS x)/\Z2l e.kids/\Z1c e.ops:=by
 obtain ⟨k,o,n,w,ks,l,os⟩:=e
 exact ⟨h.2.1,h.2.2.1,h.2.2.2.1,h.2.2.2.2.2.1,h.2.2.2.2.2.2⟩
structure Alike (c r:Edit × Bool):Prop where
 ok:c.2=r.2
 nrm:c.2=true->Zx c.1=Zx r.1
section
variable {g:Edit->Edit->Edit × Bool}
end
theorem Zf0(l:Int)(os:List Op):Zx (.mk 3 Tree.nil Tree.nil [] [] l os)= .mk 3 Tree.nil Tree.nil [] [] l (Z0 (ZO l os ⟨[],[],[]⟩)).out:=by rw [Zx,if_neg (by decide),if_neg (by decide),if_pos rfl]
end Go.AM.Ytpjenobkibfpcaa
namespace Go.AM.Ytpjenobkibfpcaa
open Go.AM Go.Proofs
theorem ZpZ(e:Edit):18<=ctE e:=by
 have:=Z4E e
 have:=Jy e.old
 have:=Jy e.new
 omega
theorem Z38:∀ (a b:List Op),J3 (a++b)=J3 a+J3 b
 | [],b=> by simp [J3]
 | o ::r,b=> by simp only [QA,J3,Z38 r b];omega
def ctW(w:Wst):Nat:=J3 w.out+(Z7 w.gone+if w.gone.length=0 then 0 else 34)+(Z7 w.brought+if w.brought.length=0 then 0 else 34)
theorem Z8U:ctE Edit.nil=18:=rfl
theorem ZcE(w:Wst):J3 (Z0 w).out=ctW w:=by
 simp only [Z0,JD,ctW,Z38]
 by_cases h1:w.gone.length=0
 ·rw [if_pos h1,if_pos h1,Q6 h1]
  by_cases h2:w.brought.length=0
  ·rw [if_pos h2,if_pos h2,Q6 h2];simp [J3,Z7]
  ·rw [if_neg h2,if_neg h2];simp only [J3,Z3G,Z8U,Z7];omega
 ·rw [if_neg h1,if_neg h1]
  by_cases h2:w.brought.length=0
  ·rw [if_pos h2,if_pos h2,Q6 h2];simp only [J3,Z3G,Z8U,Z7];omega
  ·rw [if_neg h2,if_neg h2];simp only [J3,Z3G,Z8U];omega
theorem ZkW(w:Wst)(n:Int):ctW (ZH w n)<=ctW w+34:=by
 have h:=ZcE w
 have e:ctW (ZH w n)=J3 (Z0C (Z0 w).out n):=by simp [ZH,ctW,Z7]
 rw [e,<-h]
 rcases YJ (Z0 w).out n with e | ⟨a,q,e1,_,e3⟩
 ·rw [e,Z38];simp only [J3,Z3G,Z8U,Z7];omega
 ·rw [e3,e1,Z38,Z38];simp only [J3,Z3G,Z2q];omega
mutual
theorem ZiO:∀ (e:Edit),ctE (Zx e)<=ctE e
 | .mk k o n w ks l os=> by
  have h1:=Zht ks
  have h2:=Zhs l os ⟨[],[],[]⟩
  have h3:=Jv o
  have h4:=Jv n
  have:=Jy o
  have:=Jy n
  have hf:=ZcE (ZO l os ⟨[],[],[]⟩)
  have hz:ctW ⟨[],[],[]⟩=0:=rfl
  rw [Zx]
  split
  ·simp only [ctE,Z2C,J3,Qg];omega
  ·split
   ·simp only [ctE,J3,Z1G];omega
   ·split
    ·simp only [ctE,Z2C,Z1G,Qg];omega
    ·simp only [ctE,Z2C,J3,Z1G,Qg];omega
theorem Zht:∀ (ks:List (KidOf Edit)),Z2C (Jb ks)<=Z2C ks
 | []=> Qh _
 | k ::r=> by
  have h1:=ZmI k
  have h2:=Zht r
  simp only [Jb,Z2C]
  omega
theorem ZmI:∀ (k:KidOf Edit),Z7Z (Z0J k)<=Z7Z k
 | ⟨a,e⟩=> by
  have:=ZiO e
  simp only [Z0J,Z7Z]
  omega
theorem Zhs(list:Int):∀ (os:List (OpOf Edit)) (w:Wst),ctW (ZO list os w)<=ctW w+J3 os
 | [],w=> Qh _
 | o ::r,w=> by
  have h1:=ZpY list o w
  have h2:=Zhs list r (Z09 list o w)
  simp only [ZO,J3]
  omega
theorem ZpY(list:Int):∀ (o:OpOf Edit) (w:Wst),ctW (Z09 list o w)<=ctW w+Z3G o
 | ⟨k,n,l,e⟩,w=> by
  have he:=ZiO e
  have h18:=ZpZ e
  have hl:=Z4m l
  have hc:=fun a b=> Yu a b
  rw [Z09]
  simp only [Z3G]
  split
  ·have:=ZkW w n;omega
  ·split
   ·have:=Yu w.gone (Z3 l)
    simp only [ctW]
    split <;> split <;> omega
   ·split
    ·have:=Yu w.brought (Z3 l)
     simp only [ctW]
     split <;> split <;> split <;> omega
    ·split
     ·split
      ·have:=ZkW w 1;omega
      ·have hf:=ZcE w
       show J3 ((Z0 w).out++[⟨3,0,[],Zx e⟩])+_+_<=_
       rw [Z38,hf]
       simp only [J3,Z3G,Z7,Qg,if_pos]
       omega
     ·omega
end
def YE(φ:Op->Int):List Op->Int
 | []=> 0
 | o ::r=> φ o+YE φ r
theorem ZaY(φ:Op->Int):∀ a b:List Op,YE φ (a++b)=YE φ a+YE φ b
 | [],b=> by simp [YE]
 | o ::r,b=> by simp only [QA,YE,ZaY φ r b];omega
def Zn4(φ:Op->Int):Prop:=∀ o n,ZM o->1<=n->¬Z1 o<=n->φ (Zq o n)+φ (YC o n)=φ o
theorem Z3T{φ:Op->Int}(hφ:Zn4 φ){p:List Op}{n:Int}(hp:∀ o∈p,ZM o)(hl:p.length≠0)(h1:1<=n):φ (Zq (p.getD 0 Op.nil) n)+YE φ (Zw p n)=YE φ p/\∀ o∈Zw p n,ZM o:=by
 cases p with
 | nil=> exact absurd rfl hl
 | cons o r=>
  have ho:=hp o Q7
  unfold Zw
  simp only [Qk,Qz,QK]
  by_cases h:Z1 o<=n
  ·rw [if_pos h]
   have e:Zq o n=o:=by unfold Zq;rw [if_pos h]
   rw [e]
   exact ⟨rfl,fun x hx=> hp x (Q5 _ hx)⟩
  ·rw [if_neg h]
   refine ⟨by simp only [YE];have:=hφ o n ho h1 h;omega,fun x hx=> ?_⟩
   rcases Qd.1 hx with rfl | hx
   ·exact (Z81 ho h1 h).1
   ·exact hp x (Q5 _ hx)
theorem Zon{φ ψ:Op->Int}(hφ:Zn4 φ)(hψ:Zn4 ψ)(a:Int):∀ (k:Nat) (p q:List Op) (out:List Piece),p.length+q.length<=k->(∀ o∈p,ZM o)->(∀ o∈q,ZM o)->(ZJ a 2 p q out).2.1=true->
  ∃ ps,(ZJ a 2 p q out).1=out++ps/\YE φ (Z5H ps)=YE φ p/\YE ψ (Z5G ps)=YE ψ q/\ps.length<=p.length+q.length:=by
 intro k
 induction k with
 | zero=>
  intro p q out hk hp hq h
  have e1:p=[]:=Q6 (by omega)
  have e2:q=[]:=Q6 (by omega)
  subst e1 e2
  rw [ZJ,dif_neg (by simp [sgl]),dif_neg (by simp [sgl]),dif_pos (by simp)]
  exact ⟨[],by simp,rfl,rfl,by simp⟩
 | succ k ih=>
  intro p q out hk hp hq h
  rw [ZJ] at h ⊢
  by_cases h1:sgl a p=true
  ·rw [dif_pos h1] at h ⊢
   obtain ⟨g1,_⟩:=YF.1 h1
   cases p with
   | nil=> exact absurd rfl g1
   | cons o r=>
    simp only [Qk,Qz,QK] at h ⊢
    obtain ⟨ps,e,f1,f2,f3⟩:=ih r q _ (by simp only [Qb] at hk;omega) (fun x hx=> hp x (Q5 _ hx)) hq h
    refine ⟨⟨1,o,Op.nil⟩ ::ps,by rw [e,Qa];rfl,?_,?_,by simp only [Qb];omega⟩
    ·show YE φ (o ::Z5H ps)=_
     simp only [YE];omega
    ·exact f2
  ·rw [dif_neg h1] at h ⊢
   by_cases h2:sgl 2 q=true
   ·rw [dif_pos h2] at h ⊢
    obtain ⟨g1,_⟩:=YF.1 h2
    cases q with
    | nil=> exact absurd rfl g1
    | cons o r=>
     simp only [Qk,Qz,QK] at h ⊢
     obtain ⟨ps,e,f1,f2,f3⟩:=ih p r _ (by simp only [Qb] at hk;omega) hp (fun x hx=> hq x (Q5 _ hx)) h
     refine ⟨⟨2,Op.nil,o⟩ ::ps,by rw [e,Qa];rfl,f1,?_,by simp only [Qb];omega⟩
     show YE ψ (o ::Z5G ps)=_
     simp only [YE];omega
   ·rw [dif_neg h2] at h ⊢
    by_cases h3:p.length=0\/q.length=0
    ·rw [dif_pos h3] at h ⊢
     by_cases h4:decide (p.length=0)=decide (q.length=0)
     ·rw [if_pos h4]
      have h5:p.length=0/\q.length=0:=by
       have:=decide_eq_decide.1 h4
       omega
      rw [Q6 h5.1,Q6 h5.2]
      exact ⟨[],by simp,rfl,rfl,by simp⟩
     ·rw [if_neg h4] at h;cases h
    ·rw [dif_neg h3] at h ⊢
     have l1:p.length≠0:=by omega
     have l2:q.length≠0:=by omega
     have p1:=Zu (hp _ (Zl (l:=p) (i:=0) (by omega) Op.nil))
     have p2:=Zu (hq _ (Zl (l:=q) (i:=0) (by omega) Op.nil))
     generalize hn:min (Z1 (p.getD 0 Op.nil)) (Z1 (q.getD 0 Op.nil))=n at h ⊢
     obtain ⟨s1,s2⟩:=Z3T hφ hp l1 (n:=n) (by omega)
     obtain ⟨t1,t2⟩:=Z3T hψ hq l2 (n:=n) (by omega)
     have c1:=Y9 p n l1
     have c2:=Y9 q n l2
     have c3:Z1 (p.getD 0 Op.nil)<=n->(Zw p n).length < p.length:=fun h=> Y8 p _ l1 h
     have c4:Z1 (q.getD 0 Op.nil)<=n->(Zw q n).length < q.length:=fun h=> Y8 q _ l2 h
     obtain ⟨ps,e,f1,f2,f3⟩:=ih (Zw p n) (Zw q n) _ (by omega) s2 t2 h
     refine ⟨⟨0,Zq (p.getD 0 Op.nil) n,Zq (q.getD 0 Op.nil) n⟩ ::ps,by rw [e,Qa];rfl,?_,?_,by simp only [Qb];omega⟩
     ·show YE φ (Zq (p.getD 0 Op.nil) n ::Z5H ps)=_
      simp only [YE];omega
     ·show YE ψ (Zq (q.getD 0 Op.nil) n ::Z5G ps)=_
      simp only [YE];omega
def φA(o:Op):Int:=if o.kind=2 then 0 else Z1 o
def φB(o:Op):Int:=if o.kind=1 then 0 else Z1 o
def φC(o:Op):Int:=Z7 o.l+ctE o.e - 18
theorem ZaZ:∀ l,YE φA l=Yk l
 | []=> rfl
 | o ::r=> by simp only [YE,Yk,φA,ZaZ r]
theorem Z15:∀ l,YE φB l=ZY l
 | []=> rfl
 | o ::r=> by simp only [YE,ZY,φB,Z15 r]
theorem ZhM:∀ l,YE φC l+34*l.length=J3 l
 | []=> rfl
 | o ::r=> by
  have:=ZhM r
  simp only [YE,J3,φC,Z2q,Qb]
  omega
theorem Yy(o:Op)(n:Int):(YC o n).kind=o.kind:=by unfold YC;split <;> rfl
theorem Zq7{o:Op}{n:Int}(ho:ZM o)(h1:1<=n)(hn:¬Z1 o<=n):Z1 (YC o n)=Z1 o - n:=by
 obtain ⟨_,_,v3,_⟩:=ZaK (a:=1) ho h1 hn
 have hl:=Yd o
 rcases ho with ⟨k0,k1,k2,k3⟩ | ⟨k0,k1,k2,k3⟩ | ⟨k0,k1,k2⟩
 ·unfold YC
  rw [if_pos k0,Yd]
  dsimp only
  rw [if_neg (by omega)] at hl ⊢
  omega
 ·unfold YC
  rw [if_neg (by omega),Yd]
  dsimp only
  rw [if_neg (by omega)] at hl ⊢
  rw [X6]
  omega
 ·rw [if_pos k0] at hl
  omega
theorem Zuc:Zn4 φB:=by
 intro o n ho h1 hn
 obtain ⟨_,_,v3,_⟩:=ZaK (a:=1) ho h1 hn
 have:=Zq7 ho h1 hn
 unfold φB
 rw [Jo,Yy,v3,this]
 split <;> omega
theorem Zub:Zn4 φC:=by
 intro o n ho h1 hn
 have hl:=Yd o
 unfold φC Zq YC
 rw [if_neg hn]
 rcases ho with ⟨k0,k1,k2,k3⟩ | ⟨k0,k1,k2,k3⟩ | ⟨k0,k1,k2⟩
 ·rw [if_pos k0,if_pos k0]
  dsimp only
  rw [k3,k1,Z8U]
  simp [Z7]
 ·rw [if_neg (by omega),if_neg (by omega)]
  dsimp only
  have:=Yu (o.l.take n.toNat) (o.l.drop n.toNat)
  rw [QH] at this
  rw [k3,Z8U]
  omega
 ·rw [if_pos k0] at hl
  omega
theorem ZaP{D list:Int}:∀ {l:List Tree},Y3 D list l=true->Y3 (-1) list l=true
 | [],_=> rfl
 | t ::r,h=> by
  simp only [Y3,Q0] at h ⊢
  exact ⟨YZ _ _ _ (by decide) h.1,ZaP h.2⟩
mutual
theorem Y4:∀ (e:Edit) (d m:Int),m < 0->Z5 e d=true->Z5 e m=true
 | .mk k o n w ks l os,d,m,hm,h=> by
  have h1:=Z9d ks
  have h2:=Z9b l os
  rw [Z5] at h ⊢
  split at h
  ·cases h
  ·rename_i a
   rw [if_neg (by omega)]
   split at h
   ·cases h
   ·rename_i b
    rw [if_neg b]
    split at h
    ·rename_i c
     rw [if_pos c,ZcD hm]
     simp only [Q0] at h ⊢
     exact ⟨⟨YZ _ _ _ (by decide) h.1.1,YZ _ _ _ (by decide) h.1.2⟩,h.2⟩
    ·rename_i c
     rw [if_neg c]
     simp only [Q0] at h ⊢
     exact ⟨⟨⟨⟨h.1.1.1.1,h1 _ _ (m - 1) (by omega) h.1.1.1.2⟩,h.1.1.2⟩,h2 _ (m - 1) (by omega) h.1.2⟩,h.2⟩
theorem Z9d:∀ (ks:List (KidOf Edit)) (last d m:Int),m < 0->ZB last ks d=true->ZB last ks m=true
 | [],_,_,_,_,_=> rfl
 | k ::r,last,d,m,hm,h=> by
  simp only [ZB,Q0] at h ⊢
  exact ⟨Zep k last d m hm h.1,Z9d r k.at_ d m hm h.2⟩
theorem Zep:∀ (k:KidOf Edit) (last d m:Int),m < 0->Jr last k d=true->Jr last k m=true
 | ⟨a,e⟩,last,d,m,hm,h=> by
  simp only [Jr,Q0] at h ⊢
  exact ⟨h.1,Y4 e d m hm h.2⟩
theorem Z9b(list:Int):∀ (os:List (OpOf Edit)) (d m:Int),m < 0->ZD list os d=true->ZD list os m=true
 | [],_,_,_,_=> rfl
 | o ::r,d,m,hm,h=> by
  simp only [ZD,Q0] at h ⊢
  exact ⟨Zgf list o d m hm h.1,Z9b list r d m hm h.2⟩
theorem Zgf(list:Int):∀ (o:OpOf Edit) (d m:Int),m < 0->Za list o d=true->Za list o m=true
 | ⟨k,n,l,e⟩,d,m,hm,h=> by
  have he:=Y4 e d m hm
  rw [Za] at h ⊢
  split at h
  ·rename_i h0;rw [if_pos h0];exact h
  ·rename_i h0
   rw [if_neg h0]
   split at h
   ·cases h
   ·rename_i h1
    rw [if_neg h1]
    split at h
    ·rename_i h2
     rw [if_pos h2,ZcD hm]
     simp only [Q0] at h ⊢
     exact ⟨⟨ZaP h.1.1,h.1.2⟩,h.2⟩
    ·rename_i h2
     rw [if_neg h2]
     simp only [Q0] at h ⊢
     exact ⟨⟨h.1.1,he h.1.2⟩,h.2⟩
end
structure Wk (e:Edit):Prop where
 r:Z5 e (-1)=true
 g:Yl e
theorem Wk.of{e:Edit}{d:Int}(h:Z5 e d=true)(g:Yl e):Wk e:=⟨Y4 e d _ (by decide) h,g⟩
theorem YK{n:Int}(h0:0<=n)(h9:n<=9):InR n:=by unfold InR;omega
theorem ZlT{w:List WEdit}{ks:List Kid}(h1:Yh (-1) w=true)(h2:ZB (-1) ks (-2)=true):Z5 (.mk 2 Tree.nil Tree.nil w ks 0 []) (-1)=true:=by
 rw [Z5,if_neg (by decide),if_neg (by simp [Ji,Tree.nil]),if_neg (by decide),h1,show (-1:Int) - 1= -2 from rfl,h2]
 simp [ZD,Z1s,Z1r]
theorem ZlS{l:Int}{os:List Op}(hl:2<=l/\l<=9)(h:ZD l os (-2)=true)(h1:Z1s os 0 < 1048576)(h2:Z1r os 0 < 1048576):Z5 (.mk 3 Tree.nil Tree.nil [] [] l os) (-1)=true:=by
 rw [Z5,if_neg (by decide),if_neg (by simp [Ji,Tree.nil]),if_neg (by decide),show (-1:Int) - 1= -2 from rfl,h]
 simp only [Yh,ZB,QF,Xc,Q0,decide_eq_true_eq]
 exact ⟨by omega,h1,h2⟩
theorem ZaJ:∀ {l:List WEdit} {last:Int},asc WEdit.at_ last l->(∀ w∈l,w.at_<=65534/\w.mask≠0/\Yz w.old w.mask=true/\Yz w.new w.mask=true)->Yh last l=true
 | [],_,_,_=> rfl
 | a ::r,last,h,hw=> by
  obtain ⟨h1,h2,h3,h4⟩:=hw a Q7
  simp only [Yh,Q0,decide_eq_true_eq]
  exact ⟨⟨⟨⟨h.1,h1,h2⟩,h3⟩,h4⟩,ZaJ h.2 fun w hw'=> hw w (Q5 _ hw')⟩
theorem Zbs{d:Int}:∀ {l:List Kid} {last:Int},asc KidOf.at_ last l->(∀ k∈l,k.at_<=65534/\k.e.kind≠0/\Z5 k.e d=true)->ZB last l d=true
 | [],_,_,_=> rfl
 | a ::r,last,h,hw=> by
  obtain ⟨h1,h2,h3⟩:=hw a Q7
  simp only [ZB,Z44,Q0,decide_eq_true_eq]
  exact ⟨⟨⟨h.1,h1,h2⟩,h3⟩,Zbs h.2 fun w hw'=> hw w (Q5 _ hw')⟩
theorem Zbp{list d:Int}:∀ {l:List Op},(∀ o∈l,Za list o d=true)->ZD list l d=true
 | [],_=> rfl
 | a ::r,h=> by
  simp only [ZD,Q0]
  exact ⟨h a Q7,Zbp fun o ho=> h o (Q5 _ ho)⟩
theorem Z4J{D list:Int}:∀ {l:List Tree},(∀ t∈l,Zh (.mk list [] [t]) D=true)->Y3 D list l=true
 | [],_=> rfl
 | t ::r,h=> by
  simp only [Y3,Q0]
  exact ⟨h t Q7,Z4J fun x hx=> h x (Q5 _ hx)⟩
theorem ZjV{list n:Int}(h1:1<=n)(h2:n<=1048576)(d:Int):Za list ⟨0,n,[],Edit.nil⟩ d=true:=by
 rw [Za,if_pos rfl,Z1R]
 simp only [Qg,Xc,decide_eq_true_eq]
 exact ⟨h1,h2,trivial⟩
theorem ZbX{list k d:Int}{l:List Tree}(hk:k=1\/k=2)(h:Y3 (dT d) list l=true)(hl:l≠[]):Za list ⟨k,0,l,Edit.nil⟩ d=true:=by
 rw [Za,if_neg (by omega),if_neg (by omega),if_pos (by omega),Z1R,h]
 have:=XE.2 hl
 simp only [QF,Xc,decide_eq_true_eq]
 omega
theorem ZjW{list d:Int}{e:Edit}(h:Z5 e d=true)(h0:e.kind≠0)(hl:7 < list)(hw:list=8\/e.kind=2\/e.kind=1/\e.old.kind=1/\e.new.kind=1):Za list ⟨3,0,[],e⟩ d=true:=by
 rw [Za,if_neg (by decide),if_neg (by decide),if_neg (by decide),h]
 simp only [Qg,Xc,Q0,decide_eq_true_eq]
 exact ⟨⟨trivial,h0,hl⟩,hw⟩
def Wl(list:Int)(e:Edit):Prop:=list=8\/e.kind=2\/e.kind=1/\e.old.kind=1/\e.new.kind=1
theorem Zlz{w m:Int}(h:∀ i,i < 8->J1 m (i:Nat)=false->Z9 w i=0):Yz w m=true:=by
 unfold Yz mix of8
 rw [decide_eq_true_eq]
 have z:∀ i,i < 8->YU w 0 m i=0:=by
  intro i hi
  unfold YU
  split
  ·exact Zu8 i
  ·rename_i hn;exact h i hi (by simpa using hn)
 rw [z 0 (by omega),z 1 (by omega),z 2 (by omega),z 3 (by omega),z 4 (by omega),z 5 (by omega),z 6 (by omega),z 7 (by omega)]
 try rfl
theorem Zgb:∀ {l:List Kid},(∀ k∈l,InR k.at_/\Yl k.e)->Z2l l
 | [],_=> trivial
 | ⟨a,e⟩ ::r,h=> ⟨h _ Q7,Zgb fun k hk=> h k (Q5 _ hk)⟩
theorem Zga:∀ {l:List Op},(∀ o∈l,Z1d o)->Z1c l
 | [],_=> trivial
 | o ::r,h=> ⟨h _ Q7,Zga fun k hk=> h k (Q5 _ hk)⟩
end Go.AM.Ytpjenobkibfpcaa
namespace Go.AM
def wOk(w:WEdit):Prop:=ZcS w/\Yz w.old w.mask=true/\Yz w.new w.mask=true
end Go.AM
namespace Go.AM.Ytpjenobkibfpcaa
open Go.AM Go.Proofs
theorem Z6n:Z8 Edit.nil=3:=rfl
theorem Zk6(e:Edit):3<=Z8 e:=by
 obtain ⟨k,o,n,w,ks,l,os⟩:=e
 have:=Jy o
 have:=Jy n
 simp only [Z8];omega
theorem Zma:Z5 Edit.nil 1=true:=rfl
mutual
def utE:Edit->Nat
 | .mk _ o n w ks _ os=> 16+Zi o+Zi n+65600*w.length+Znz ks+ZlC os
def Znz:List (KidOf Edit)->Nat
 | []=> 0
 | k ::r=> ZtA k+Znz r
def ZtA:KidOf Edit->Nat
 | ⟨_,e⟩=> 65600+utE e
def ZlC:List (OpOf Edit)->Nat
 | []=> 0
 | o ::r=> Zra o+ZlC r
def Zra:OpOf Edit->Nat
 | ⟨k,n,l,e⟩=> if k=3 then 16+utE e else 34*(n.toNat+l.length)+Z7 l
end
theorem Zus(e:Edit):utE e=16+Zi e.old+Zi e.new+65600*e.words.length+Znz e.kids+ZlC e.ops:=by cases e;rfl
theorem ZnA(k:Kid):ZtA k=65600+utE k.e:=by cases k;rfl
theorem Zr9(o:Op):Zra o=if o.kind=3 then 16+utE o.e else 34*(o.n.toNat+o.l.length)+Z7 o.l:=by cases o;rfl
theorem Zny:∀ (n:Nat) (e:Edit),Z8 e<=n->(∃ d,Z5 e d=true)->Y6 e=true->utE e+131100<=65600*Z8 e+150000*Z8 e:=by
 intro n
 induction n with
 | zero=> intro e h;have:=Zk6 e;omega
 | succ n ih=>
  intro e hn ⟨d,hr⟩ hl
  have R:=Zk hr
  have hm:=Zk6 e
  have me:Z8 e=1+Zi e.old+Zi e.new+e.words.length+e.ops.length+ZQ e.kids+Zg e.ops:=by cases e;rfl
  have mo:=Jy e.old
  have mn:=Jy e.new
  rw [Z58,Q0,Q0,decide_eq_true_eq] at hl
  obtain ⟨⟨l1,l2⟩,l3⟩:=hl
  have hk:∀ l:List Kid,(∀ k∈l,k∈e.kids)->J9 l=true->Znz l<=215600*ZQ l:=by
   intro l
   induction l with
   | nil=> intro _ _;exact Qh _
   | cons a r ihl=>
    intro h hl
    simp only [J9,Q0,Z9x] at hl
    have ha:=h a Q7
    have:=Y5 ha
    have:=ih a.e (by omega) ⟨_,(Zs R.kids a ha).2⟩ hl.1
    have:=ihl (fun k hk=> h k (Q5 _ hk)) hl.2
    simp only [Znz,ZQ,ZnA,Z8E];omega
  have ook:=Js hr
  have ho:∀ l:List Op,(∀ o∈l,o∈e.ops)->ZK l=true->(ZlC l:Int)<=215600*Zg l+34*Z2A l+16*l.length:=by
   intro l
   induction l with
   | nil=> intro _ _;simp [ZlC,Zg,Z2A]
   | cons a r ihl=>
    intro h hl
    simp only [ZK,Q0,Zck] at hl
    have ha:=h a Q7
    have:=ihl (fun k hk=> h k (Q5 _ hk)) hl.2
    have hr:=rightOs_mem R.ops ha
    have key:(Zra a:Int)<=215600*Zt a+34*Z1 a+16:=by
     have me:=YI ha
     have ml:=Zv a.l
     rw [Zr9,ZV]
     have rt:=ZN hr
     have hp:=Yd a
     cases rt with
     | keep n h1 h2=> rw [if_neg (show ¬(0:Int)=3 by decide)];rw [if_neg (show ¬(0:Int)=3 by decide)] at hp;simp only [Z7,Qg,Z6n] at*;omega
     | gone l h1 h2=> rw [if_neg (show ¬(1:Int)=3 by decide)];rw [if_neg (show ¬(1:Int)=3 by decide)] at hp;dsimp only at*;simp only [Z6n] at*;omega
     | come l h1 h2=> rw [if_neg (show ¬(2:Int)=3 by decide)];rw [if_neg (show ¬(2:Int)=3 by decide)] at hp;dsimp only at*;simp only [Z6n] at*;omega
     | into e' h1 h2=>
      rw [if_pos rfl] at hp ⊢
      have:=ih e' (by dsimp only at me;omega) ⟨_,h1⟩ hl.1
      simp only [Z7];omega
    simp only [ZlC,Zg,Z2A,Qb];omega
  have h1:=hk e.kids (fun k h=> h) l2
  have h2:=ho e.ops (fun k h=> h) l3
  have h3:=kids_sum ook
  have h4:Yk e.ops<=2000/\ZY e.ops<=2000:=by
   have ok:∀ o∈e.ops,0<=Z1 o:=fun o ho=> Z76 (ook o ho)
   have a:=Z0p e.ops 0 ok (by decide) (by decide)
   have b:=Z0o e.ops 0 ok (by decide) (by decide)
   omega
  rw [Zus,me]
  omega
where
 kids_sum:∀ {l:List Op},(∀ o∈l,ZM o)->Z2A l<=Yk l+ZY l
  | [],_=> by simp [Z2A,Yk,ZY]
  | o ::r,h=> by
   have h1:=Zu (h o Q7)
   have h2:=kids_sum fun x hx=> h x (Q5 _ hx)
   simp only [Z2A,Yk,ZY]
   split <;> split <;> omega
def φU(o:Op):Int:=Zra o
def ZxT(e:Edit):Prop:=utE e<=9000000000/\Yl e/\∃ d,Z5 e d=true
end Go.AM.Ytpjenobkibfpcaa
