import Derived.Test.YtpjenobkibfpcaaKL23r
import Derived.Test.YtpjenobkibfpcaaKD20
set_option linter.unusedSimpArgs false
set_option linter.unusedVariables false
namespace Go.AM.Ytpjenobkibfpcaa
open Go.AM Go.Proofs
theorem ZqF(t:Tree):t.words.length+Ze t.kids+1=Zm t:=by obtain ⟨k,w,ks⟩:=t;simp only [Zm,Tree.words_mk,Tree.kids_mk];omega
theorem Zbd:∀ (l:List Tree) (i:Nat) (x:Tree),i < l.length->Ze (l.set i x)+Zm (l.getD i Tree.nil)=Ze l+Zm x
 | [],i,x,h=> by simp at h
 | a ::r,0,x,_=> by simp only [List.set_cons_zero,Ze,Xr];omega
 | a ::r,i+1,x,h=> by
  have:=Zbd r i x (by simpa using h)
  simp only [List.set_cons_succ,Ze,XK];omega
theorem Zfi(n:Nat):Ze (List.replicate n Tree.nil)=n:=by
 induction n with
 | zero=> rfl
 | succ n ih=> rw [List.replicate_succ,Ze,ih];simp [Tree.nil,Zm,Ze];omega
theorem Jd:∀ (a b:List Tree),Ze (a++b)=Ze a+Ze b
 | [],b=> by simp [Ze]
 | t ::r,b=> by simp only [Qt,Ze,Jd r b];omega
theorem ZiT(l:List Tree)(i:Nat)(x:Tree):Ze (Y4 Tree.nil l i x)+Zm (l.getD i Tree.nil)<=Ze l+Zm x+(i+1):=by
 have h:=Zbd (l++List.replicate (i+1 - l.length) Tree.nil) i x (by simp;omega)
 have e:(l++List.replicate (i+1 - l.length) Tree.nil).getD i Tree.nil=l.getD i Tree.nil:=by
  by_cases hi:i < l.length
  ·simp only [Qp];rw [Qi hi]
  ·simp only [Qp]
   rw [Qk (by omega),Ql (l:=l) (by omega),List.getElem?_replicate]
   split <;> rfl
 rw [e,Jd,Zfi] at h
 simp only [Y4]
 omega
theorem Zgf{tw:List Int}:∀ {ws:List WEdit} {last:Int} {out a:List Int},Zk last ws=true->wsD tw ws out=some a->a.length<=max out.length 65535
 | [],_,out,a,_,h=> by rw [wsD] at h;cases h;omega
 | w ::r,last,out,a,hw,h=> by
  have h1:=Z0e hw w Qa
  simp only [Zk,Q1] at hw
  rw [wsD] at h
  split at h
  ·have:=Zgf hw.2 h
   rw [Zar] at this
   omega
  ·cases h
theorem Z5I{last d:Int}{k:Kid}{r:List Kid}(h:Zp last (k ::r) d=true):(last < k.at_/\k.at_<=65534)/\Z4 k.e d=true/\Zp k.at_ r d=true:=by
 have:=JC h k Qa
 simp only [Zp,Q1] at h
 exact ⟨⟨this.1.1,this.1.2.1⟩,this.2,h.2⟩
theorem ZjC{tw:List Int}{ws:List WEdit}{last:Int}{out a:List Int}(hw:Zk last ws=true)(h:wsD tw ws out=some a):a.length<=out.length+65600*ws.length:=by
 cases ws with
 | nil=> rw [wsD] at h;cases h;omega
 | cons w r=>
  have:=Zgf hw h
  simp only [Qw]
  omega
theorem Z9L(r:Bool)(v:Tree):Zm (nrD r v)<=Zm v:=by
 unfold nrD
 split
 ·exact J0 v
 ·exact QF _
mutual
theorem Z9X(r:Bool):∀ (e:Edit) (d:Int) (t v:Tree),Z4 e d=true->Zau r e t=some v->Zm v+18<=Zm t+ctE e
 | .mk k o n w ks l os,d,t,v,hr,hv=> by
  have ri:=Z01 hr
  have h1:=Zb9 r ks t.kids
  have h2:=Zb8 r l os
  have ht:=ZqF t
  have po:=Z1i o
  have pn:=Z1i n
  have pt:=Z1i t
  unfold Zau at hv
  simp only [ctE]
  split at hv
  ·cases hv;omega
  ·split at hv
   ·split at hv
    ·cases hv
     show Zm n+18<=_
     omega
    ·cases hv
   ·split at hv
    ·split at hv
     ·obtain ⟨a,ha,hb⟩:=Qm.1 hv
      obtain ⟨b,hb,e⟩:=Qq.1 hb
      have l1:=ZjC ri.words ha
      simp only [Edit.words_mk] at l1
      have l2:=h1 t.kids b _ (-1) (by omega) ri.kids (fun j _=> rfl) hb
      rw [<-e]
      simp only [Zm]
      omega
     ·cases hv
    ·split at hv
     ·split at hv
      ·obtain ⟨b,hb,e⟩:=Qq.1 hv
       unfold Z2Y at hb
       obtain ⟨x,hx,hy⟩:=Qm.1 hb
       have l2:=h2 _ t.kids [] x (fun o ho=> Go.AM.rightOs_mem ri.ops o ho) hx
       split at hy
       ·cases hy
        rw [<-e]
        simp only [Zm,Qx]
        simp only [Ze] at l2
        omega
       ·cases hy
      ·cases hv
     ·cases hv
theorem Zb9(r:Bool):∀ (ks:List (KidOf Edit)) (tk out b:List Tree) (d last:Int),-1<=last->Zp last ks d=true->(∀ j:Nat,last < (j:Int)->out.getD j Tree.nil=tk.getD j Tree.nil)->Je r tk ks out=some b->Ze b<=Ze out+Z1p ks
 | [],tk,out,b,d,last,_,_,_,h=> by rw [Je] at h;cases h;simp
 | k ::s,tk,out,b,d,last,hl,hr,hj,h=> by
  obtain ⟨h1,h2,h3⟩:=Z5I hr
  rw [Je] at h
  obtain ⟨u,hu,hb⟩:=Qm.1 h
  have m1:=Zff r k tk u d h2 hu
  have m2:=ZiT out k.at_.toNat u
  rw [hj k.at_.toNat (by omega)] at m2
  have m3:=Zb9 r s tk _ b d k.at_ (by omega) h3 (fun j hj'=> by
   rw [YU,if_neg (by omega)]
   exact hj j (by omega)) hb
  have m4:k.at_.toNat+1<=65600:=by omega
  have e1:Z1p (k ::s)=65600+ctE k.e+Z1p s:=by obtain ⟨a,e⟩:=k;rfl
  rw [e1]
  omega
theorem Zff(r:Bool):∀ (k:KidOf Edit) (tk:List Tree) (u:Tree) (d:Int),Z4 k.e d=true->Z0o r tk k=some u->Zm u+18<=Zm (tk.getD k.at_.toNat Tree.nil)+ctE k.e
 | ⟨a,e⟩,tk,u,d,hr,h=> by
  rw [Z0o,Z2O] at h
  obtain ⟨v,hv,hu⟩:=Qq.1 h
  have:=Z9X r e d (tk.getD a.toNat Tree.nil) v hr hv
  have hvu:=Z9L r v
  rw [hu] at hvu
  dsimp only
  omega
theorem Zb8(r:Bool)(l:Int):∀ (os:List (OpOf Edit)) (d:Int) (rest out:List Tree) (x:List Tree × List Tree),(∀ o∈os,Zb l o d=true)->ZH r os rest out=some x->Ze x.1+Ze x.2<=Ze out+Ze rest+YQ os
 | [],d,rest,out,x,_,h=> by rw [ZH] at h;cases h;simp
 | o ::s,d,rest,out,x,hr,h=> by
  rw [ZH] at h
  obtain ⟨y,hy,hx⟩:=Qm.1 h
  have m1:=ZiR r l o d rest out y (hr o Qa) hy
  have m2:=Zb8 r l s d _ _ x (fun q hq=> hr q (Q5 _ hq)) hx
  rw [YQ]
  omega
theorem ZiR(r:Bool)(l:Int):∀ (o:OpOf Edit) (d:Int) (rest out:List Tree) (x:List Tree × List Tree),Zb l o d=true->Z0n r o rest out=some x->Ze x.1+Ze x.2<=Ze out+Ze rest+Z2P o
 | ⟨k,n,L,e⟩,d,rest,out,x,hr,h=> by
  have he:=Z9X r e d (rest.getD 0 Tree.nil)
  rw [Z0n] at h
  simp only [Z2P]
  split at h
  ·split at h
   ·cases h
    have:=Jd (rest.take n.toNat) (rest.drop n.toNat)
    rw [Xl] at this
    dsimp only
    rw [Jd];omega
   ·cases h
  ·split at h
   ·split at h
    ·cases h
     have:=Z2J L.length rest
     dsimp only;omega
    ·cases h
   ·split at h
    ·cases h
     dsimp only
     rw [Jd];omega
    ·split at h
     ·cases h
     ·obtain ⟨u,hu,e2⟩:=Qq.1 h
      cases e2
      have hk:k=3:=by
       have ra:=YX hr
       generalize ho:OpOf.mk k n L e=o at ra
       cases ra <;> (injection ho with h1;try omega)
      rw [Z2O] at hu
      obtain ⟨v,hv,hu⟩:=Qq.1 hu
      have:=he v (Z14 hr hk) hv
      have hvu:=Z9L r v
      rw [hu] at hvu
      cases rest with
      | nil=> contradiction
      | cons a q=>
       rw [Jd]
       simp only [Ze,List.drop_succ_cons,XM,Xr] at this ⊢
       omega
end
theorem Zce(r:Bool)(e:Edit)(d:Int)(t u:Tree)(hr:Z4 e d=true)(h:doE r e t=some u):Zm u+18<=Zm t+ctE e:=by
 rw [Z2O] at h
 obtain ⟨v,hv,hu⟩:=Qq.1 h
 have:=Z9X r e d t v hr hv
 have hvu:=Z9L r v
 rw [hu] at hvu
 omega
theorem ZqC{f:Nat->Int}(h:∀ i,0<=f i/\f i < 256):isW (of8 f):=by
 have h0:=h 0;have h1:=h 1;have h2:=h 2;have h3:=h 3;have h4:=h 4;have h5:=h 5;have h6:=h 6;have h7:=h 7
 unfold isW of8
 omega
theorem Zcc(a b m:Int):isW (mix a b m):=ZqC (Z3y a b m)
theorem ZbP{l:List Tree}(h:∀ t∈l,rng t):ZQ l:=by
 induction l with
 | nil=> exact trivial
 | cons a r ih=> exact ⟨h a Qa,ih fun t ht=> h t (Q5 _ ht)⟩
theorem Z3X:rng Tree.nil:=⟨by decide,by simp,trivial⟩
theorem Z9g{α:Type}{z x y:α}{l:List α}{i:Nat}(h:y∈Y4 z l i x):y∈l\/y=z\/y=x:=by
 rcases List.mem_or_eq_of_mem_set h with h | h
 ·rcases Q9.1 h with h | h
  ·exact .inl h
  ·exact .inr (.inl (List.eq_of_mem_replicate h))
 ·exact .inr (.inr h)
theorem Zgx{ks:List Tree}(h:ZQ ks)(i:Nat):rng (ks.getD i Tree.nil):=by
 by_cases hi:i < ks.length
 ·exact JL h (Zl hi _)
 ·rw [Qp,Ql (by omega)]
  exact Z3X
theorem ZjD{tw:List Int}:∀ {ws:List WEdit} {out a:List Int},(∀ x∈out,isW x)->wsD tw ws out=some a->∀ x∈a,isW x
 | [],out,a,h,hw=> by rw [wsD] at hw;cases hw;exact h
 | w ::r,out,a,h,hw=> by
  rw [wsD] at hw
  split at hw
  ·refine ZjD (fun x hx=> ?_) hw
   rcases Z9g hx with hx | rfl | rfl
   ·exact h x hx
   ·exact ⟨by omega,by omega⟩
   ·exact Zcc _ _ _
  ·cases hw
mutual
theorem ZbO(r:Bool):∀ (e:Edit) (t u:Tree),Yk e->rng t->doE r e t=some u->rng u
 | .mk k o n w ks l os,t,u,hr,ht,h=> by
  have h1:=Zdb r ks
  have h2:=Zda r os
  simp only [Yk] at hr
  obtain ⟨r1,r2,r3,r4,r5,r6,r7⟩:=hr
  have hta:InR t.kind/\(∀ x∈t.words,isW x)/\ZQ t.kids:=by obtain ⟨k,w,ks⟩:=t;exact ht
  rw [Z3N] at h
  obtain ⟨v,hv,hu⟩:=Qq.1 h
  suffices rng v by
   rw [<-hu];unfold nrD
   split
   ·exact Z0g v this
   ·exact this
  clear h hu
  split at hv
  ·cases hv;exact ht
  ·split at hv
   ·split at hv
    ·cases hv;exact r3
    ·cases hv
   ·split at hv
    ·split at hv
     ·obtain ⟨a,ha,hb⟩:=Qm.1 hv
      obtain ⟨b,hb,e⟩:=Qq.1 hb
      rw [<-e]
      exact ⟨by decide,ZjD hta.2.1 ha,h1 _ _ _ r6 hta.2.2 hta.2.2 hb⟩
     ·cases hv
    ·split at hv
     ·split at hv
      ·obtain ⟨b,hb,e⟩:=Qq.1 hv
       unfold Z2Y at hb
       obtain ⟨x,hx,hy⟩:=Qm.1 hb
       split at hy
       ·cases hy
        rw [<-e]
        exact ⟨r5,by simp,(h2 _ [] _ r7 hta.2.2 trivial hx).1⟩
       ·cases hy
      ·cases hv
     ·cases hv
theorem Zdb(r:Bool):∀ (ks:List (KidOf Edit)) (tk out b:List Tree),JB ks->ZQ tk->ZQ out->Je r tk ks out=some b->ZQ b
 | [],tk,out,b,_,_,ho,h=> by rw [Je] at h;cases h;exact ho
 | k ::s,tk,out,b,hk,ht,ho,h=> by
  rw [Je] at h
  obtain ⟨u,hu,hb⟩:=Qm.1 h
  have m1:=Ziu r k tk u hk.1 ht hu
  refine Zdb r s tk _ b hk.2 ht (ZbP fun x hx=> ?_) hb
  rcases Z9g hx with hx | rfl | rfl
  ·exact JL ho hx
  ·exact Z3X
  ·exact m1
theorem Ziu(r:Bool):∀ (k:KidOf Edit) (tk:List Tree) (u:Tree),Z0t k->ZQ tk->Z0o r tk k=some u->rng u
 | ⟨a,e⟩,tk,u,hr,ht,h=> by
  rw [Z0o] at h
  exact ZbO r e _ u hr.2 (Zgx ht _) h
theorem Zda(r:Bool):∀ (os:List (OpOf Edit)) (rest out:List Tree) (x:List Tree × List Tree),JK os->ZQ rest->ZQ out->ZH r os rest out=some x->ZQ x.1/\ZQ x.2
 | [],rest,out,x,_,hr,ho,h=> by rw [ZH] at h;cases h;exact ⟨ho,hr⟩
 | o ::s,rest,out,x,hs,hr,ho,h=> by
  rw [ZH] at h
  obtain ⟨y,hy,hx⟩:=Qm.1 h
  have m1:=Zkl r o rest out y hs.1 hr ho hy
  exact Zda r s _ _ x hs.2 m1.2 m1.1 hx
theorem Zkl(r:Bool):∀ (o:OpOf Edit) (rest out:List Tree) (x:List Tree × List Tree),Jg o->ZQ rest->ZQ out->Z0n r o rest out=some x->ZQ x.1/\ZQ x.2
 | ⟨k,n,L,e⟩,rest,out,x,hs,hr,ho,h=> by
  have he:=ZbO r e (rest.getD 0 Tree.nil)
  simp only [Jg] at hs
  have hd:∀ n,ZQ (rest.drop n):=fun n=> ZbP fun t ht=> JL hr (Xf ht)
  have hap:∀ l,ZQ l->ZQ (out++l):=fun l hl=> Z3d.2 ⟨ho,hl⟩
  rw [Z0n] at h
  split at h
  ·split at h
   ·cases h
    exact ⟨hap _ (ZbP fun t ht=> JL hr (List.mem_of_mem_take ht)),hd _⟩
   ·cases h
  ·split at h
   ·split at h
    ·cases h
     exact ⟨ho,hd _⟩
    ·cases h
   ·split at h
    ·cases h
     exact ⟨hap _ hs.2.2.1,hr⟩
    ·split at h
     ·cases h
     ·obtain ⟨u,hu,e2⟩:=Qq.1 h
      cases e2
      exact ⟨hap _ ⟨he u hs.2.2.2 (Zgx hr 0) hu,trivial⟩,hd _⟩
end
section
variable {α β:Type} (z:α) (f:β->Option α) (p:β->Int)
def mg:List β->List α->Option (List α)
 | [],out=> some out
 | w ::r,out=> (f w).bind fun v=> mg r (Y4 z out (p w).toNat v)
def asc(last:Int):List β->Prop
 | []=> True
 | w ::r=> last < p w/\asc (p w) r
variable {z f p} {l0:List α} {ws:List β} {n a i:Int} {out:List α}
theorem ZmD{last:Int}:∀ {l:List β},asc p last l->∀ w∈l,last < p w
 | [],_,_,hw=> by cases hw
 | b ::r,h,w,hw=> by
  rcases Qc.1 hw with rfl | hw
  ·exact h.1
  ·have:=ZmD h.2 w hw
   have:=h.1
   omega
end
theorem Zeu(tw:List Int):∀ (ws:List WEdit) (out:List Int),wsD tw ws out=mg 0 (fun w=> if mix 0 (tw.getD w.at_.toNat 0) w.mask=w.old then some (mix (tw.getD w.at_.toNat 0) w.new w.mask) else none) WEdit.at_ ws out
 | [],_=> rfl
 | w ::r,out=> by
  rw [wsD,mg]
  split
  ·rw [Qh];exact Zeu tw r _
  ·try rfl
theorem Zcu(r:Bool)(tk:List Tree):∀ (ks:List Kid) (out:List Tree),Je r tk ks out=mg Tree.nil (Z0o r tk) KidOf.at_ ks out
 | [],_=> by rw [Je];try rfl
 | k ::s,out=> by
  rw [Je,mg]
  congr 1
  funext u
  exact Zcu r tk s _
theorem Z6L:∀ {ws:List WEdit} {last:Int},Zk last ws=true->asc WEdit.at_ last ws
 | [],_,_=> trivial
 | w ::r,last,h=> by
  have h1:=Z0e h w Qa
  simp only [Zk,Q1] at h
  exact ⟨h1.1,Z6L h.2⟩
theorem Za3:∀ {ks:List Kid} {last d:Int},Zp last ks d=true->asc KidOf.at_ last ks
 | [],_,_,_=> trivial
 | k ::r,last,d,h=> by
  obtain ⟨h1,_,h3⟩:=Z5I h
  exact ⟨h1.1,Za3 h3⟩
end Go.AM.Ytpjenobkibfpcaa
namespace Go.AM.Ytpjenobkibfpcaa
open Go.AM Go.Proofs
theorem Z2m{x y x' y':Int}(h:x+256*y=x'+256*y')(hx:0<=x/\x < 256)(hx':0<=x'/\x' < 256):x=x'/\y=y':=by omega
theorem ZnW{f g:Nat->Int}(hf:∀ i,0<=f i/\f i < 256)(hg:∀ i,0<=g i/\g i < 256)(h:of8 f=of8 g):∀ i,i < 8->f i=g i:=by
 unfold of8 at h
 obtain ⟨h0,h⟩:=Z2m h (hf 0) (hg 0)
 obtain ⟨h1,h⟩:=Z2m h (hf 1) (hg 1)
 obtain ⟨h2,h⟩:=Z2m h (hf 2) (hg 2)
 obtain ⟨h3,h⟩:=Z2m h (hf 3) (hg 3)
 obtain ⟨h4,h⟩:=Z2m h (hf 4) (hg 4)
 obtain ⟨h5,h⟩:=Z2m h (hf 5) (hg 5)
 obtain ⟨h6,h7⟩:=Z2m h (hf 6) (hg 6)
 intro i hi
 match i,hi with
 | 0,_=> exact h0
 | 1,_=> exact h1
 | 2,_=> exact h2
 | 3,_=> exact h3
 | 4,_=> exact h4
 | 5,_=> exact h5
 | 6,_=> exact h6
 | 7,_=> exact h7
theorem Z78{a:Int}(h:isW a):of8 (Zd a)=a:=by
 obtain ⟨h0,h1⟩:=h
 simp only [of8,Zd]
 omega
theorem Zem{a b:Int}(ha:isW a)(hb:isW b)(h:∀ i,i < 8->Zd a i=Zd b i):a=b:=by
 rw [<-Z78 ha,<-Z78 hb]
 unfold of8
 rw [h 0 (by omega),h 1 (by omega),h 2 (by omega),h 3 (by omega),h 4 (by omega),h 5 (by omega),h 6 (by omega),h 7 (by omega)]
theorem Z21{a b m:Int}{i:Nat}(h:i < 8):Zd (mix a b m) i=Ye a b m i:=
 ZnW (fun i=> JV _ i) (Z3y a b m) (by rw [Z78 (Zcc a b m)];rfl) i h
section
variable {α β:Type} {z:α} {f:β->Option α} {p:β->Int}
theorem Z9T:∀ {ws:List β} {last:Int} {out r:List α},-1<=last->asc p last ws->mg z f p ws out=some r->
  (∀ w∈ws,∃ v,f w=some v/\r.getD (p w).toNat z=v)/\(∀ i:Nat,(∀ w∈ws,(p w).toNat≠i)->r.getD i z=out.getD i z)
 | [],_,out,r,_,_,h=> by
  rw [mg] at h;cases h
  exact ⟨fun w hw=> (by cases hw),fun _ _=> rfl⟩
 | w ::s,last,out,r,hl,ha,h=> by
  rw [mg] at h
  obtain ⟨v,hv,hr⟩:=Qm.1 h
  have h1:=ha.1
  obtain ⟨i1,i2⟩:=Z9T (by omega) ha.2 hr
  have hn:∀ x∈s,(p x).toNat≠(p w).toNat:=fun x hx=> by have:=ZmD ha.2 x hx;omega
  refine ⟨fun x hx=> ?_,fun i hi=> ?_⟩
  ·rcases Qc.1 hx with rfl | hx
   ·refine ⟨v,hv,?_⟩
    rw [i2 _ hn,YU,if_pos rfl]
   ·exact i1 x hx
  ·rw [i2 i (fun x hx=> hi x (Q5 _ hx)),YU,if_neg (fun e=> hi w Qa e.symm)]
end
theorem Z4V{list d:Int}:∀ {l:List Tree},Y7 list l d=true->∀ t∈l,Z9 t d=true
 | [],_,_,ht=> by cases ht
 | a ::r,h,t,ht=> by
  simp only [Y7,Q1] at h
  rcases Qc.1 ht with rfl | ht
  ·exact h.1.2
  ·exact Z4V h.2 t ht
def RT_(t:Tree):Prop:=(∃ d,Z9 t d=true)/\rng t
theorem RT_.kids{t:Tree}(h:RT_ t):(∀ k∈t.kids,RT_ k)/\(t.kind≠0->t.kind≠1->t.kind≠10->t.words=[]):=by
 obtain ⟨⟨d,h⟩,hr⟩:=h
 obtain ⟨k,w,ks⟩:=t
 have hk:∀ x∈ks,rng x:=fun x hx=> JL hr.2.2 hx
 show (∀ x∈ks,RT_ x)/\(k≠0->k≠1->k≠10->w=[])
 rw [Z9] at h
 split at h
 ·simp only [decide_eq_true_eq] at h
  rw [Q3 h.2]
  exact ⟨fun x hx=> (by cases hx),fun h0=> absurd ‹_› h0⟩
 ·split at h
  ·simp only [decide_eq_true_eq] at h
   rw [Q3 h.2]
   exact ⟨fun x hx=> (by cases hx),fun _ _ h0=> absurd ‹_› h0⟩
  ·split at h
   ·cases h
   ·split at h
    ·simp only [Q1] at h
     exact ⟨fun x hx=> ⟨⟨_,Z4V h.2 x hx⟩,hk x hx⟩,fun _ h1=> absurd ‹_› h1⟩
    ·simp only [Q1,decide_eq_true_eq] at h
     exact ⟨fun x hx=> ⟨⟨_,Z4V h.2 x hx⟩,hk x hx⟩,fun _ _ _=> Q3 h.1.2.2.1⟩
theorem Zsn:RT_ Tree.nil:=⟨⟨1,rfl⟩,Z3X⟩
theorem ZcX{l:List Tree}(h:∀ t∈l,RT_ t)(i:Nat):RT_ (l.getD i Tree.nil):=by
 by_cases hi:i < l.length
 ·exact h _ (Zl hi _)
 ·rw [Qp,Ql (by omega)];exact Zsn
theorem ZnR{t:Tree}(h:rng t):InR t.kind/\(∀ x∈t.words,isW x)/\ZQ t.kids:=by obtain ⟨k,w,ks⟩:=t;exact h
theorem Z3f{list:Int}{o:Op}{d:Int}(h:Zb list o d=true):o.kind=0\/o.kind=1\/o.kind=2\/o.kind=3:=by
 have r:=YX h
 cases r with
 | keep=> exact .inl rfl
 | gone=> exact .inr (.inl rfl)
 | come=> exact .inr (.inr (.inl rfl))
 | into=> exact .inr (.inr (.inr rfl))
end Go.AM.Ytpjenobkibfpcaa
namespace Go.AM.Ytpjenobkibfpcaa
open Go.AM Go.Proofs
def Rx(x y:List Tree × List Tree):Prop:=EqvL x.1 y.1/\EqvL x.2 y.2
theorem Rx.rfl'(a:Option (List Tree × List Tree)):OptR Rx a a:=by cases a;exact trivial;exact ⟨rfl,rfl⟩
theorem Rx.of{a b:Option (List Tree × List Tree)}(h:a=b):OptR Rx a b:=by rw [h];exact Rx.rfl' b
theorem OptR.trans'{α:Type}{R:α->α->Prop}(ht:∀ x y z,R x y->R y z->R x z){a b c:Option α}(h1:OptR R a b)(h2:OptR R b c):OptR R a c:=by
 cases a <;> cases b <;> cases c <;> first | exact trivial | exact h1.elim | exact h2.elim | exact ht _ _ _ h1 h2
theorem Rx.trans{a b c:Option (List Tree × List Tree)}(h1:OptR Rx a b)(h2:OptR Rx b c):OptR Rx a c:=
 OptR.trans' (fun _ _ _ p q=> ⟨Eq.trans p.1 q.1,Eq.trans p.2 q.2⟩) h1 h2
theorem Z2d(r:Bool):∀ (a b:List Op) (rest out:List Tree),ZH r (a++b) rest out=(ZH r a rest out).bind fun x=> ZH r b x.2 x.1
 | [],b,rest,out=> by rw [ZH];try rfl
 | o ::s,b,rest,out=> by
  rw [Qt,ZH,ZH]
  cases h:Z0n r o rest out with
  | none=> rfl
  | some x=> rw [Qh,Qh];exact Z2d r s b _ _
theorem Z6I(r:Bool)(o:Op)(rest out:List Tree):ZH r [o] rest out=Z0n r o rest out:=by
 rw [ZH]
 cases Z0n r o rest out with
 | none=> rfl
 | some x=> rw [Qh,ZH]
theorem Z3M(r:Bool)(a:List Op)(o:Op)(rest out:List Tree):ZH r (a++[o]) rest out=(ZH r a rest out).bind fun x=> Z0n r o x.2 x.1:=by
 rw [Z2d]
 congr 1
 funext x
 exact Z6I r o _ _
theorem Z1B{r:Bool}:∀ {os:List Op} {rest out:List Tree} {x:List Tree × List Tree},ZH r os rest out=some x->∃ n,x.2=rest.drop n
 | [],rest,out,x,h=> by rw [ZH] at h;cases h;exact ⟨0,by simp⟩
 | o ::s,rest,out,x,h=> by
  rw [ZH] at h
  obtain ⟨y,hy,hx⟩:=Qm.1 h
  obtain ⟨n,hn⟩:=Z1B hx
  have:∃ m,y.2=rest.drop m:=by
   rw [YG] at hy
   split at hy
   ·split at hy
    ·cases hy;exact ⟨_,rfl⟩
    ·cases hy
   ·split at hy
    ·split at hy
     ·cases hy;exact ⟨_,rfl⟩
     ·cases hy
    ·split at hy
     ·cases hy;exact ⟨0,by simp⟩
     ·split at hy
      ·cases hy
      ·obtain ⟨u,_,e⟩:=Qq.1 hy
       cases e
       exact ⟨1,rfl⟩
  obtain ⟨m,hm⟩:=this
  exact ⟨m+n,by rw [hn,hm,XN]⟩
theorem Zj6(rest:List Tree):YJ [] rest=true:=by unfold YJ;rw [Z6G.2 (by simp)];simp
theorem Ze5(l rest:List Tree):YJ (Z5 l) rest=YJ l rest:=by
 unfold YJ
 rw [Z7Q,show (Z5 l).length=l.length by simp [Z5]]
theorem Z2c(l rest:List Tree):YJ l rest=true↔l.length<=rest.length/\Z5 l=Z5 (rest.take l.length):=by
 unfold YJ
 rw [Q1,decide_eq_true_eq,Z6G]
theorem Zj8(a b rest:List Tree):YJ (a++b) rest=(YJ a rest && YJ b (rest.drop a.length)):=by
 rw [Qd,Q1,Z2c,Z2c,Z2c]
 simp only [Qf,X5]
 constructor
 ·rintro ⟨h1,h2⟩
  rw [ZR,List.take_add,ZR] at h2
  obtain ⟨h3,h4⟩:=List.append_inj h2 (by simp [Z5];omega)
  exact ⟨⟨by omega,h3⟩,by omega,h4⟩
 ·rintro ⟨⟨h1,h2⟩,h3,h4⟩
  refine ⟨by omega,?_⟩
  rw [ZR,List.take_add,ZR,h2,h4]
theorem Z6F(s:Wst)(rest out:List Tree):ZH false (Z2 s).out rest out=(ZH false s.out rest out).bind fun x=> if YJ s.gone x.2=true then some (x.1++s.brought,x.2.drop s.gone.length) else none:=by
 simp only [Z2,Jz]
 rw [Z2d]
 congr 1
 funext x
 rw [Z2d]
 have h1:ZH false (if s.gone.length=0 then [] else [⟨1,0,s.gone,Edit.nil⟩]) x.2 x.1=if YJ s.gone x.2=true then some (x.1,x.2.drop s.gone.length) else none:=by
  split
  ·rename_i h
   rw [Q3 h,Zj6,if_pos rfl,ZH]
   try rfl
  ·rw [Z6I,YG]
   rw [if_neg (by show ¬(1:Int)=0;omega),if_pos rfl]
 have h2:∀ y:List Tree × List Tree,ZH false (if s.brought.length=0 then [] else [⟨2,0,s.brought,Edit.nil⟩]) y.2 y.1=some (y.1++s.brought,y.2):=by
  intro y
  split
  ·rename_i h
   rw [Q3 h,QH,ZH]
  ·rw [Z6I,YG]
   rw [if_neg (by show ¬(2:Int)=0;omega),if_neg (by show ¬(2:Int)=1;omega),if_pos rfl]
 rw [h1]
 split
 ·rw [Qh,h2]
 ·try rfl
theorem ZoK{F:List Op}{n:Int}(hF:∀ o∈F,0<=o.n)(hn:0<=n)(rest out:List Tree):ZH false (Z0x F n) rest out=ZH false (F++[⟨0,n,[],Edit.nil⟩]) rest out:=by
 rcases J6 F n with h | ⟨a,o,h1,h2,h3⟩
 ·rw [h]
 ·rw [h3,h1,Z3M,Z3M,Z3M]
  cases hx:ZH false a rest out with
  | none=> rfl
  | some x=>
   have ho:=hF o (by rw [h1];simp)
   simp only [Qh]
   rw [YG,YG,if_pos h2,if_pos h2]
   simp only
   have e:(o.n+n).toNat=o.n.toNat+n.toNat:=by omega
   rw [e]
   by_cases c:o.n.toNat<=x.2.length
   ·rw [if_pos c,Qh,YG,if_pos rfl]
    simp only [X5]
    by_cases c2:n.toNat<=x.2.length - o.n.toNat
    ·rw [if_pos c2,if_pos (by omega),XN,Qj,<-List.take_add]
    ·rw [if_neg c2,if_neg (by omega)]
   ·rw [if_neg c,if_neg (by omega)]
    try rfl
def N0s(s:Wst):Prop:=∀ o∈s.out,0<=o.n
theorem N0s.flush{s:Wst}(h:N0s s):∀ o∈(Z2 s).out,0<=o.n:=by
 intro o ho
 simp only [Z2,Jz,Q9] at ho
 rcases ho with ho | ho | ho
 ·exact h o ho
 ·split at ho
  ·cases ho
  ·simp only [Q7] at ho;subst ho;exact Xq 0
 ·split at ho
  ·cases ho
  ·simp only [Q7] at ho;subst ho;exact Xq 0
theorem N0s.keep{s:Wst}(h:N0s s){n:Int}(hn:0<=n):N0s (ZK s n):=by
 intro o ho
 simp only [ZK] at ho
 rcases J6 (Z2 s).out n with e | ⟨a,p,h1,h2,h3⟩
 ·rw [e] at ho
  rcases Q9.1 ho with ho | ho
  ·exact h.flush o ho
  ·simp only [Q7] at ho;subst ho;exact hn
 ·rw [h3] at ho
  rcases Q9.1 ho with ho | ho
  ·exact h.flush o (by rw [h1];simp [ho])
  ·simp only [Q7] at ho;subst ho
   have:=h.flush p (by rw [h1];simp)
   show 0<=p.n+n
   omega
theorem Zgz{list d:Int}{o:Op}(h:Zb list o d=true):0<=o.n:=by
 have r:=YX h
 cases r with
 | keep n h1=> show 0<=n;omega
 | gone | come | into=> exact Xq 0
theorem N0s.op{list d:Int}{s:Wst}{o:Op}(h:N0s s)(hr:Zb list o d=true):N0s (Z0i list o s):=by
 rw [Z1Z]
 split
 ·exact h.keep (Zgz hr)
 ·split
  ·exact h
  ·split
   ·exact h
   ·split
    ·split
     ·exact h.keep (by omega)
     ·intro p hp
      rcases Q9.1 hp with hp | hp
      ·exact h.flush p hp
      ·simp only [Q7] at hp;subst hp;exact Xq 0
    ·exact h
def K9(list:Int)(l:List Tree):Prop:=(∀ t∈l,RT_ t)/\(list=9->∀ t∈l,t.kind=1)
theorem K9.drop{list:Int}{l:List Tree}(h:K9 list l)(n:Nat):K9 list (l.drop n):=⟨fun t ht=> h.1 t (Xf ht),fun e t ht=> h.2 e t (Xf ht)⟩
theorem ZgA{d:Int}:∀ {l:List Tree},Y7 9 l d=true->∀ t∈l,t.kind=1
 | [],_,t,ht=> by cases ht
 | a ::r,h,t,ht=> by
  simp only [Y7,Q1] at h
  rcases Qc.1 ht with rfl | ht
  ·have:=h.1.1
   simpa [Z3E] using this
  ·exact ZgA h.2 t ht
theorem RT_.k9{t:Tree}(h:RT_ t):K9 t.kind t.kids:=by
 refine ⟨h.kids.1,fun e=> ?_⟩
 obtain ⟨⟨d,h⟩,_⟩:=h
 obtain ⟨k,w,ks⟩:=t
 have e:k=9:=e
 subst e
 rw [Z9,if_neg (by omega),if_neg (by omega)] at h
 split at h
 ·cases h
 ·rw [if_neg (by omega)] at h
  simp only [Q1] at h
  exact ZgA h.2
theorem ZnP {list d:Int} {s:Wst} {o:Op} (hs:N0s s) (hr:Zb list o d=true) {rest:List Tree} (hk:K9 list rest) (out:List Tree)
  (ih:∀ y,RT_ y->Z4 o.e d=true->OptR Eqv (doE false (ZI o.e) y) (doE false o.e y)):
  OptR Rx (ZH false (Z2 (Z0i list o s)).out rest out) ((ZH false (Z2 s).out rest out).bind fun x=> Z0n false o x.2 x.1):=by
 have keep:∀ n:Int,0<=n->ZH false (Z2 (ZK s n)).out rest out=(ZH false (Z2 s).out rest out).bind fun x=> Z0n false ⟨0,n,[],Edit.nil⟩ x.2 x.1:=by
  intro n hn
  have e:(Z2 (ZK s n)).out=Z0x (Z2 s).out n:=by simp [Z2,Jz,ZK]
  rw [e,ZoK hs.flush hn,Z3M]
 rw [Z1Z]
 have r1:=Z3f hr
 by_cases h0:o.kind=0
 ·rw [if_pos h0,keep _ (Zgz hr)]
  refine Rx.of ?_
  congr 1
  funext x
  rw [YG,YG,if_pos rfl,if_pos h0]
 ·rw [if_neg h0]
  by_cases h1:o.kind=1
  ·rw [if_pos h1,Z6F,Z6F]
   refine Rx.of ?_
   rw [XT]
   congr 1
   funext x
   simp only
   rw [Zj8,Ze5]
   by_cases c:YJ s.gone x.2=true
   ·rw [if_pos c,c,QM,Qh,YG,if_neg h0,if_pos h1]
    simp only
    rw [XN,show (s.gone++Z5 o.l).length=s.gone.length+o.l.length by simp [Z5]]
   ·rw [if_neg c,if_neg (by simp only [Q1];exact fun h=> c h.1)]
    try rfl
  ·rw [if_neg h1]
   by_cases h2:o.kind=2
   ·rw [if_pos h2,Z6F,Z6F,XT]
    refine OptR.bind (R:=Eq) (OptR.rfl' _) ?_
    rintro x _ rfl
    simp only
    split
    ·rw [Qh,YG,if_neg h0,if_neg h1,if_pos h2]
     refine ⟨?_,rfl⟩
     show Z5 (x.1++(s.brought++Z5 o.l))=Z5 (x.1++s.brought++o.l)
     simp only [ZR,Z7Q,Qj]
    ·exact trivial
   ·have h3:o.kind=3:=by rcases r1 with h | h | h | h <;> first | exact absurd h h0 | exact absurd h h1 | exact absurd h h2 | exact h
    rw [if_neg h2,if_pos h3]
    have hre:=Z14 hr h3
    have ra:=YX hr
    by_cases hi:Z4G list (ZI o.e)=true
    ·rw [if_pos hi,keep 1 (by omega)]
     cases hx:ZH false (Z2 s).out rest out with
     | none=> exact trivial
     | some x=>
      obtain ⟨m,hm⟩:=Z1B hx
      have hk2:=hk.drop m
      rw [<-hm] at hk2
      simp only [Qh]
      rw [YG,YG,if_pos rfl,if_neg h0,if_neg h1,if_neg h2]
      cases hx2:x.2 with
      | nil=> exact trivial
      | cons y q=>
       rw [hx2] at hk2
       have hek:o.e.kind≠0:=by
        cases ra with
        | into e _ h=> exact h
        | keep | gone | come=> exact absurd h3 (by simp)
       simp only [Z4G,decide_eq_true_eq,Z79] at hi
       rcases hi with hi | ⟨hl9,he2,hw,hks⟩
       ·exact absurd hi hek
       ·have hy:=hk2.2 hl9 y Qa
        have hn:=Z5P o.e
        rw [if_neg (by omega),if_pos he2] at hn
        have e1:o.e.words=[]:=by rw [hn] at hw;exact Q3 hw
        have e2:o.e.kids=[]:=by
         rw [hn] at hks
         have:(Jh o.e.kids).length=0:=hks
         cases hh:o.e.kids with
         | nil=> rfl
         | cons a b=> rw [hh] at this;simp [Jh] at this
        have hd:doE false o.e y=some (.mk 1 y.words y.kids):=by
         rw [Z3N,if_neg hek,if_neg (by omega),if_pos he2,if_pos hy,e1,e2,wsD,Qh,Je]
         try rfl
        rw [if_neg (show ¬(y ::q).length=0 by simp),Xr,hd,if_pos (show Int.toNat 1<=(y ::q).length by simp)]
        refine ⟨?_,rfl⟩
        show Z5 (x.1++[y])=Z5 (x.1++[Tree.mk 1 y.words y.kids])
        rw [show Tree.mk 1 y.words y.kids=y by rw [<-hy];exact Tree.eta y]
    ·rw [if_neg hi]
     have e:(Z2 ⟨(Z2 s).out++[⟨3,0,[],ZI o.e⟩],[],[]⟩).out=(Z2 s).out++[⟨3,0,[],ZI o.e⟩]:=by simp [Z2,Jz]
     rw [e,Z3M]
     cases hx:ZH false (Z2 s).out rest out with
     | none=> exact trivial
     | some x=>
      obtain ⟨m,hm⟩:=Z1B hx
      have hk2:=hk.drop m
      rw [<-hm] at hk2
      simp only [Qh]
      rw [YG,YG,if_neg h0,if_neg h1,if_neg h2,if_neg (by show ¬(3:Int)=0;omega),if_neg (by show ¬(3:Int)=1;omega),if_neg (by show ¬(3:Int)=2;omega)]
      refine OptR.ite QI (fun _=> trivial) fun _=> ?_
      exact (ih _ (ZcX hk2.1 0) hre).map fun u v h=> ⟨Z49 rfl (Zb3.2 h),rfl⟩
mutual
theorem Zfa:∀ (e:Edit) (d:Int) (t:Tree),Z4 e d=true->RT_ t->OptR Eqv (doE false (ZI e) t) (doE false e t)
 | .mk k o n w ks l os,d,t,hr,ht=> by
  have ri:=Z01 hr
  have h1:=ZdD ks
  have h2:=ZdC l os
  have hkid:=ht.kids.1
  have hn:ZI (.mk k o n w ks l os)=if k=1 then .mk k (Z3 o) (Z3 n) [] [] l [] else if k=2 then .mk k Tree.nil Tree.nil w (Jh ks) l [] else if k=3 then .mk k Tree.nil Tree.nil [] [] l (Z2 (Yd l os ⟨[],[],[]⟩)).out else .mk k Tree.nil Tree.nil [] [] l []:=by rw [ZI]
  rw [Z2O,Z2O,Ja,Ja]
  by_cases c1:k=1
  ·subst c1
   rw [if_pos rfl] at hn
   unfold Zau
   rw [hn]
   refine OptR.ite QI (fun _=> rfl) fun _=> OptR.ite QI (fun _=> ?_) (fun h=> absurd rfl h)
   show OptR Eqv (if Yf (Z3 (Z3 o)) (Z3 t)=true then some (Z3 n) else none) (if Yf (Z3 o) (Z3 t)=true then some n else none)
   rw [Jv]
   exact OptR.ite QI (fun _=> Jv n) (fun _=> trivial)
  ·by_cases c2:k=2
   ·subst c2
    rw [if_neg c1,if_pos rfl] at hn
    unfold Zau
    rw [hn]
    refine OptR.ite QI (fun _=> rfl) fun _=> OptR.ite QI (fun h=> absurd h c1) fun _=> OptR.ite QI (fun _=> ?_) (fun h=> absurd rfl h)
    refine OptR.ite QI (fun ht1=> ?_) (fun _=> trivial)
    refine OptR.bind (R:=Eq) (OptR.rfl' _) ?_
    rintro a _ rfl
    exact (h1 (d - 1) t.kids t.kids t.kids (fun k hk=> (JC ri.kids k hk).2) hkid rfl).map fun x y h=> Z9O _ _ h
   ·by_cases c3:k=3
    ·subst c3
     rw [if_neg c1,if_neg c2,if_pos rfl] at hn
     unfold Zau
     rw [hn]
     refine OptR.ite QI (fun _=> rfl) fun _=> OptR.ite QI (fun h=> absurd h c1) fun _=> OptR.ite QI (fun h=> absurd h c2) fun _=> OptR.ite QI (fun _=> ?_) (fun h=> absurd rfl h)
     refine OptR.ite QI (fun ht1=> ?_) (fun _=> trivial)
     have hk9:=ht.k9
     rw [ht1] at hk9
     have:=h2 (d - 1) ⟨[],[],[]⟩ t.kids [] (fun o ho=> Go.AM.rightOs_mem ri.ops o ho) (fun o ho=> by cases ho) hk9
     exact (Zeb this).map fun x y h=> Z9O _ _ h
    ·have e0:k=0:=by have:=ri.kind;have:0<=k/\k<=3:=this;omega
     subst e0
     rw [if_neg c1,if_neg c2,if_neg c3] at hn
     unfold Zau
     rw [hn]
     exact OptR.ite QI (fun _=> rfl) fun h=> absurd rfl h
theorem ZdD:∀ (ks:List (KidOf Edit)) (d:Int) (tk a b:List Tree),(∀ k∈ks,Z4 k.e d=true)->(∀ t∈tk,RT_ t)->EqvL a b->OptR EqvL (Je false tk (Jh ks) a) (Je false tk ks b)
 | [],d,tk,a,b,_,_,h=> by rw [Jh];exact h
 | k ::r,d,tk,a,b,hr,ht,h=> by
  rw [Jh,Je,Je]
  have e:(Z1h k).at_=k.at_:=by cases k;rfl
  rw [e]
  refine (ZiG k d tk (hr k Qa) ht).bind fun x y hxy=> ZdD r d tk _ _ (fun q hq=> hr q (Q5 _ hq)) ht (ZiH h hxy)
theorem ZiG:∀ (k:KidOf Edit) (d:Int) (tk:List Tree),Z4 k.e d=true->(∀ t∈tk,RT_ t)->OptR Eqv (Z0o false tk (Z1h k)) (Z0o false tk k)
 | ⟨a,e⟩,d,tk,hr,ht=> by rw [Z1h,Z0o,Z0o];exact Zfa e d _ hr (ZcX ht _)
theorem ZdC(list:Int):∀ (os:List (OpOf Edit)) (d:Int) (s:Wst) (rest out:List Tree),(∀ o∈os,Zb list o d=true)->N0s s->K9 list rest->OptR Rx (ZH false (Z2 (Yd list os s)).out rest out) (ZH false ((Z2 s).out++os) rest out)
 | [],d,s,rest,out,_,_,_=> by rw [Yd,QH];exact Rx.rfl' _
 | o ::r,d,s,rest,out,hr,hs,hk=> by
  have ho:=hr o Qa
  have st:=ZnP hs ho hk out (Zli o d)
  rw [Yd]
  refine Rx.trans (ZdC list r d _ rest out (fun q hq=> hr q (Q5 _ hq)) (hs.op ho) hk) ?_
  rw [Z2d,Z2d]
  have e:∀ x:List Tree × List Tree,ZH false (o ::r) x.2 x.1=(Z0n false o x.2 x.1).bind fun y=> ZH false r y.2 y.1:=fun x=> by rw [ZH]
  rw [show (fun x:List Tree × List Tree=> ZH false (o ::r) x.2 x.1)=fun x=> (Z0n false o x.2 x.1).bind fun y=> ZH false r y.2 y.1 from funext e,<-XT]
  exact st.bind fun x y hxy=> Zaa r _ _ _ _ hxy.2 hxy.1 (fun q hq=> ⟨_,_,hr q (Q5 _ hq)⟩)
theorem Zli:∀ (o:OpOf Edit) (d:Int),∀ y,RT_ y->Z4 o.e d=true->OptR Eqv (doE false (ZI o.e) y) (doE false o.e y)
 | ⟨_,_,_,e⟩,d,y,hy,hr=> Zfa e d y hr hy
end
theorem ZiQ{a n m:Int}(hn:isW n)(hw:J8 n m=true):mix 0 (mix a n m) m=n:=by
 unfold J8 at hw
 have hw:mix n 0 m=0:=of_decide_eq_true hw
 refine Zem (Zcc _ _ _) hn fun i hi=> ?_
 have e:=congrArg (fun x=> Zd x i) hw
 simp only [Z21 hi,Ye] at e
 rw [Z21 hi,Ye]
 by_cases h:Z7R m i=true
 ·rw [if_pos h,Z21 hi,Ye,if_pos h]
 ·rw [if_neg h] at e ⊢
  exact e.symm
theorem ZiP{a n o m:Int}(ha:isW a)(ho:mix 0 a m=o):mix (mix a n m) o m=a:=by
 refine Zem (Zcc _ _ _) ha fun i hi=> ?_
 rw [Z21 hi,Ye]
 by_cases h:Z7R m i=true
 ·rw [if_pos h,<-ho,Z21 hi,Ye,if_pos h]
 ·rw [if_neg h,Z21 hi,Ye,if_neg h]
theorem Zcd{α β:Type}{z:α}{f:β->Option α}{p:β->Int}:∀ {ws:List β} {out:List α},(∀ w∈ws,∃ v,f w=some v)->∃ r,mg z f p ws out=some r
 | [],out,_=> ⟨out,rfl⟩
 | w ::s,out,h=> by
  obtain ⟨v,hv⟩:=h w Qa
  rw [mg,hv,Qh]
  exact Zcd fun x hx=> h x (Q5 _ hx)
theorem Znd{l:List Int}(h:∀ x∈l,isW x)(i:Nat):isW (l.getD i 0):=by
 by_cases hi:i < l.length
 ·exact h _ (Zl hi _)
 ·rw [Qp,Ql (by omega)];show 0<=(0:Int)/\(0:Int) < _;omega
theorem Zex{tw:List Int}{ws:List WEdit}{r:List Int}(hw:Zk (-1) ws=true)(it:∀ x∈tw,isW x)(iw:∀ w∈ws,ZeL w)(h:wsD tw ws tw=some r):∃ v,wsD r (ws.map Yt) r=some v/\Zjy v tw:=by
 rw [Zeu] at h
 obtain ⟨a1,a2⟩:=Z9T (by omega) (Z6L hw) h
 have key:∀ w∈ws,(if mix 0 (r.getD (Yt w).at_.toNat 0) (Yt w).mask=(Yt w).old then some (mix (r.getD (Yt w).at_.toNat 0) (Yt w).new (Yt w).mask) else none)=some (tw.getD w.at_.toNat 0):=by
  intro w hm
  obtain ⟨v,hv,hr⟩:=a1 w hm
  split at hv
  ·rename_i c
   cases hv
   have ok:=Z0e hw w hm
   show (if mix 0 (r.getD w.at_.toNat 0) w.mask=w.new then some (mix (r.getD w.at_.toNat 0) w.old w.mask) else none)=_
   rw [hr,ZiQ (iw w hm).2.2.2 ok.2.2.2.2,if_pos rfl,ZiP (Znd it _) c]
  ·cases hv
 have hw':Zk (-1) (ws.map Yt)=true:=by rw [Z2k];exact hw
 obtain ⟨v,hv⟩:=Zcd (z:=0) (p:=WEdit.at_) (out:=r) (f:=fun w=> if mix 0 (r.getD w.at_.toNat 0) w.mask=w.old then some (mix (r.getD w.at_.toNat 0) w.new w.mask) else none) (ws:=ws.map Yt) (fun w hm=> by
  obtain ⟨x,hx,rfl⟩:=Xh.1 hm
  exact ⟨_,key x hx⟩)
 obtain ⟨b1,b2⟩:=Z9T (by omega) (Z6L hw') hv
 refine ⟨v,by rw [Zeu];exact hv,fun i=> ?_⟩
 by_cases hi:∃ w∈ws,w.at_.toNat=i
 ·obtain ⟨w,hm,rfl⟩:=hi
  obtain ⟨y,hy,hr⟩:=b1 (Yt w) (List.mem_map_of_mem hm)
  have:=key w hm
  rw [this] at hy
  cases hy
  exact hr
 ·have h1:∀ w∈ws,w.at_.toNat≠i:=fun w hm e=> hi ⟨w,hm,e⟩
  rw [b2 i (fun w hm=> by obtain ⟨x,hx,rfl⟩:=Xh.1 hm;exact h1 x hx),a2 i h1]
theorem Z4N:∀ {ks:List Kid} {k:Kid},k∈ZS ks->∃ q∈ks,k=Ys q
 | [],k,h=> by cases h
 | a ::r,k,h=> by
  rw [ZS] at h
  rcases Qc.1 h with rfl | h
  ·exact ⟨a,Qa,rfl⟩
  ·obtain ⟨q,hq,e⟩:=Z4N h
   exact ⟨q,Q5 _ hq,e⟩
theorem Z9U:∀ {ks:List Kid} {k:Kid},k∈ks->Ys k∈ZS ks
 | [],k,h=> by cases h
 | a ::r,k,h=> by
  rw [ZS]
  rcases Qc.1 h with rfl | h
  ·exact Qa
  ·exact Q5 _ (Z9U h)
theorem Z06(k:Kid):(Ys k).at_=k.at_/\(Ys k).e=ZF k.e:=by cases k;exact ⟨rfl,rfl⟩
theorem Zj1 {tk:List Tree} {ks:List Kid} {r:List Tree} {d:Int} (hk:Zp (-1) ks d=true) (h:Je false tk ks tk=some r)
  (ih:∀ k∈ks,∀ u,doE false k.e (tk.getD k.at_.toNat Tree.nil)=some u->∃ v,doE false (ZF k.e) u=some v/\Eqv v (tk.getD k.at_.toNat Tree.nil)):∃ v,Je false r (ZS ks) r=some v/\Zge v tk:=by
 rw [Zcu] at h
 obtain ⟨a1,a2⟩:=Z9T (by omega) (Za3 hk) h
 have key:∀ k∈ks,∃ v,Z0o false r (Ys k)=some v/\Eqv v (tk.getD k.at_.toNat Tree.nil):=by
  intro k hm
  obtain ⟨u,hu,hr⟩:=a1 k hm
  rw [Zab] at hu
  obtain ⟨v,hv,he⟩:=ih k hm u hu
  refine ⟨v,?_,he⟩
  rw [Zab,(Z06 k).1,(Z06 k).2,hr]
  exact hv
 have hk':=Z2z ks _ _ hk
 obtain ⟨v,hv⟩:=Zcd (z:=Tree.nil) (p:=KidOf.at_) (out:=r) (f:=Z0o false r) (ws:=ZS ks) (fun k hm=> by
  obtain ⟨q,hq,rfl⟩:=Z4N hm
  obtain ⟨v,hv,_⟩:=key q hq
  exact ⟨v,hv⟩)
 obtain ⟨b1,b2⟩:=Z9T (by omega) (Za3 hk') hv
 refine ⟨v,by rw [Zcu];exact hv,fun i=> ?_⟩
 by_cases hi:∃ k∈ks,k.at_.toNat=i
 ·obtain ⟨k,hm,rfl⟩:=hi
  obtain ⟨y,hy,hr⟩:=b1 (Ys k) (Z9U hm)
  obtain ⟨x,hx,he⟩:=key k hm
  rw [hx] at hy
  cases hy
  rw [(Z06 k).1] at hr
  rw [hr]
  exact he
 ·have h1:∀ k∈ks,k.at_.toNat≠i:=fun k hm e=> hi ⟨k,hm,e⟩
  rw [b2 i (fun k hm=> by obtain ⟨q,hq,rfl⟩:=Z4N hm;rw [(Z06 q).1];exact h1 q hq),a2 i h1]
  exact rfl
theorem Zk8(n:Int)(l:List Tree)(e:Edit):ZX ⟨0,n,l,e⟩=⟨0,n,l,e⟩:=rfl
theorem Zk7(n:Int)(l:List Tree)(e:Edit):ZX ⟨1,n,l,e⟩=⟨2,n,l,e⟩:=rfl
theorem Zk6(n:Int)(l:List Tree)(e:Edit):ZX ⟨2,n,l,e⟩=⟨1,n,l,e⟩:=rfl
theorem Zk5(n:Int)(l:List Tree)(e:Edit):ZX ⟨3,n,l,e⟩=⟨3,n,l,ZF e⟩:=rfl
mutual
theorem ZbE:∀ (e:Edit) (d:Int) (t u:Tree),Z4 e d=true->Yk e->RT_ t->doE false e t=some u->∃ v,doE false (ZF e) u=some v/\Eqv v t
 | .mk k o n w ks l os,d,t,u,hr,he,ht,h=> by
  have ri:=Z01 hr
  have h1:=ZaI ks
  have h2:=ZaH os
  have hkid:=ht.kids
  have hta:=ZnR ht.2
  have hea:(∀ x∈w,ZeL x)/\JB ks/\JK os:=by simp only [Yk] at he;exact ⟨he.2.2.2.1,he.2.2.2.2.2.1,he.2.2.2.2.2.2⟩
  rw [Z2O,Ja] at h
  unfold Zau at h
  simp only [ZF]
  have hraw:∀ u:Tree,Zau false (.mk k n o (w.map Yt) (ZS ks) l (ZW os)) u=if k=0 then some u else if k=1 then (if Yf (Z3 n) (Z3 u)=true then some o else none) else if k=2 then (if u.kind=1 then (wsD u.words (w.map Yt) u.words).bind fun a=> (Je false u.kids (ZS ks) u.kids).map fun b=> .mk 1 a b else none) else if k=3 then (if u.kind=l then (Z2Y (ZH false (ZW os) u.kids [])).map fun b=> .mk l [] b else none) else none:=fun _=> rfl
  have fin:∀ x v,x=some v->Eqv v t->Zau false (.mk k n o (w.map Yt) (ZS ks) l (ZW os)) u=x->∃ v,doE false (.mk k n o (w.map Yt) (ZS ks) l (ZW os)) u=some v/\Eqv v t:=by
   rintro x v rfl hv hx
   exact ⟨v,by rw [Z2O,Ja];exact hx,hv⟩
  split at h
  ·rename_i c
   cases h
   refine fin _ t rfl rfl ?_
   replace c:k=0:=c
   rw [hraw,if_pos c]
  ·rename_i c0
   replace c0:¬k=0:=c0
   split at h
   ·rename_i c1
    replace c1:k=1:=c1
    split at h
    ·rename_i c
     cases h
     refine fin _ o rfl (Jt.1 c) ?_
     rw [hraw,if_neg c0,if_pos c1]
     show (if Yf (Z3 n) (Z3 n)=true then some o else none)=some o
     rw [Z4Q]
     try rfl
    ·cases h
   ·rename_i c1
    replace c1:¬k=1:=c1
    split at h
    ·rename_i c2
     replace c2:k=2:=c2
     split at h
     ·rename_i c
      obtain ⟨a,ha,hb⟩:=Qm.1 h
      obtain ⟨b,hb2,e⟩:=Qq.1 hb
      obtain ⟨va,hva,ea⟩:=Zex ri.words hta.2.1 hea.1 ha
      obtain ⟨vb,hvb,eb⟩:=Zj1 ri.kids hb2 (fun q hq x hx=> h1 (d - 1) q hq _ x (JC ri.kids q hq).2 hea.2.1 (ZcX hkid.1 _) hx)
      subst e
      refine fin _ (.mk 1 va vb) rfl ((Z5i rfl c).2 ⟨ea,eb⟩) ?_
      rw [hraw,if_neg c0,if_neg c1,if_pos c2,if_pos (show (Tree.mk 1 a b).kind=1 from rfl)]
      have q1:wsD a (w.map Yt) a=some va:=hva
      have q2:Je false b (ZS ks) b=some vb:=hvb
      show ((wsD a (w.map Yt) a).bind fun a_1=> (Je false b (ZS ks) b).map fun b_1=> Tree.mk 1 a_1 b_1)=_
      rw [q1,Qh,q2]
      try rfl
     ·cases h
    ·rename_i c2
     replace c2:¬k=2:=c2
     split at h
     ·rename_i c3
      replace c3:k=3:=c3
      split at h
      ·rename_i c
       obtain ⟨b,hb,e⟩:=Qq.1 h
       unfold Z2Y at hb
       obtain ⟨x,hx,hy⟩:=Qm.1 hb
       split at hy
       ·rename_i z0
        cases hy
        subst e
        obtain ⟨X,e1,hX⟩:=h2 (d - 1) t.kids [] x (fun q hq=> ⟨_,Go.AM.rightOs_mem ri.ops q hq⟩) hea.2.2 hkid.1 hx
        obtain ⟨Y,hY,e2⟩:=hX [] []
        have hl:2<=l/\l<=9:=ri.list c3
        have c:t.kind=l:=c
        rw [X3] at e1
        rw [QH,<-e1,X3] at hY
        rw [Q3 z0] at e2
        refine fin _ (.mk l [] Y) rfl ((Zea (a:= .mk l [] Y) (by show l≠0;omega) (by show l≠1;omega)).2 ⟨c.symm,(hkid.2 (by omega) (by omega) (by omega)).symm,by show Z5 Y=Z5 t.kids;rw [<-e2];simp [Z5]⟩) ?_
        rw [hraw,if_neg c0,if_neg c1,if_neg c2,if_pos c3,if_pos (show (Tree.mk (Edit.mk k o n w ks l os).list [] x.1).kind=l from rfl)]
        show (Z2Y (ZH false (ZW os) x.1 [])).map (fun b=> Tree.mk l [] b)=_
        rw [hY]
        try rfl
       ·cases hy
      ·cases h
     ·cases h
theorem ZaI:∀ (ks:List (KidOf Edit)) (d:Int),∀ k∈ks,∀ (t u:Tree),Z4 k.e d=true->JB ks->RT_ t->doE false k.e t=some u->∃ v,doE false (ZF k.e) u=some v/\Eqv v t
 | [],d,k,hk=> by cases hk
 | ⟨a,e⟩ ::r,d,k,hk=> by
  have h1:=ZbE e d
  have h2:=ZaI r d
  intro t u hr hg ht h
  simp only [JB,Z0t] at hg
  rcases Qc.1 hk with rfl | hk
  ·exact h1 t u hr hg.1.2 ht h
  ·exact h2 k hk t u hr hg.2 ht h
theorem ZaH:∀ (os:List (OpOf Edit)) (d:Int) (rest out:List Tree) (x:List Tree × List Tree),(∀ o∈os,∃ l,Zb l o d=true)->JK os->(∀ t∈rest,RT_ t)->ZH false os rest out=some x->
  ∃ X,x.1=out++X/\∀ z out2,∃ Y,ZH false (ZW os) (X++z) out2=some (out2++Y,z)/\Z5 Y++Z5 x.2=Z5 rest
 | [],d,rest,out,x,_,_,_,h=> by
  rw [ZH] at h
  cases h
  exact ⟨[],by simp,fun z out2=> ⟨[],by rw [ZW,ZH];simp,by simp [Z5]⟩⟩
 | o ::s,d,rest,out,x,hr,hg,ht,h=> by
  rw [ZH] at h
  obtain ⟨y,hy,hx⟩:=Qm.1 h
  simp only [JK] at hg
  obtain ⟨X0,e0,h0⟩:=Zig o d rest out y (hr o Qa) hg.1 ht hy
  have hsuf:∀ t∈y.2,RT_ t:=by
   obtain ⟨m,hm⟩:=Z1B (os:=[o]) (by rw [Z6I];exact hy)
   rw [hm]
   exact fun t h=> ht t (Xf h)
  obtain ⟨X1,e1,h1⟩:=ZaH s d y.2 y.1 x (fun q hq=> hr q (Q5 _ hq)) hg.2 hsuf hx
  refine ⟨X0++X1,by rw [e1,e0,Qj],fun z out2=> ?_⟩
  obtain ⟨Y0,p0,q0⟩:=h0 (X1++z) out2
  obtain ⟨Y1,p1,q1⟩:=h1 z (out2++Y0)
  refine ⟨Y0++Y1,?_,?_⟩
  ·rw [ZW,ZH,Qj,p0,Qh,p1,Qj]
  ·rw [ZR,Qj,q1,q0]
theorem Zig:∀ (o:OpOf Edit) (d:Int) (rest out:List Tree) (y:List Tree × List Tree),(∃ l,Zb l o d=true)->Jg o->(∀ t∈rest,RT_ t)->Z0n false o rest out=some y->
  ∃ X,y.1=out++X/\∀ z out2,∃ Y,Z0n false (ZX o) (X++z) out2=some (out2++Y,z)/\Z5 Y++Z5 y.2=Z5 rest
 | ⟨k,n,l,e⟩,d,rest,out,y,⟨li,hr⟩,hg,ht,h=> by
  have ie:=ZbE e d (rest.getD 0 Tree.nil)
  have r1:=Z3f hr
  simp only [Jg] at hg
  rw [Z0n] at h
  split at h
  ·rename_i c
   subst c
   split at h
   ·rename_i c
    cases h
    refine ⟨rest.take n.toNat,rfl,fun z out2=> ⟨rest.take n.toNat,?_,?_⟩⟩
    ·have hl:(rest.take n.toNat).length=n.toNat:=by rw [Qg];omega
     rw [Zk8,Z0n,if_pos rfl,if_pos (by rw [Qf];omega),List.take_left' hl,List.drop_left' hl]
    ·rw [<-ZR,Xl]
   ·cases h
  ·rename_i c0
   split at h
   ·rename_i c
    subst c
    split at h
    ·rename_i c
     cases h
     refine ⟨[],by simp,fun z out2=> ⟨l,?_,?_⟩⟩
     ·rw [Zk7,Z0n,if_neg (by omega),if_neg (by omega),if_pos rfl]
      try rfl
     ·rw [((Z2c l rest).1 c).2,<-ZR,Xl]
    ·cases h
   ·rename_i c1
    split at h
    ·rename_i c
     subst c
     cases h
     refine ⟨l,rfl,fun z out2=> ⟨[],?_,by simp [Z5]⟩⟩
     have hg2:YJ l (l++z)=true:=by rw [Z2c];exact ⟨by simp,by rw [List.take_left' rfl]⟩
     rw [Zk6,Z0n,if_neg (by omega),if_pos rfl,if_pos hg2,List.drop_left' rfl,QH]
    ·rename_i c2
     split at h
     ·cases h
     ·rename_i z0
      have hk:k=3:=by rcases r1 with h | h | h | h <;> first | exact absurd h c0 | exact absurd h c1 | exact absurd h c2 | exact h
      subst hk
      obtain ⟨u,hu,ey⟩:=Qq.1 h
      cases ey
      obtain ⟨v,hv,hev⟩:=ie u (Z14 hr rfl) hg.2.2.2 (ZcX ht 0) hu
      refine ⟨[u],rfl,fun z out2=> ⟨[v],?_,?_⟩⟩
      ·rw [Zk5,Z0n,if_neg (by omega),if_neg (by omega),if_neg (by omega),if_neg (by simp)]
       show (doE false (ZF e) u).map _=_
       rw [hv]
       try rfl
      ·cases rest with
       | nil=> exact absurd rfl z0
       | cons a q=>
        show Z5 ([v]++q)=Z5 (a ::q)
        simp only [Z5,Qt,X3,QL]
        rw [show Z3 v=Z3 a from hev]
end
inductive Run:List Op->List Tree->List Tree->Prop
 | nil:Run [] [] []
 | keep {o r a s d}:o.kind=0->(a.length:Int)=o.n->Run r s d->Run (o ::r) (a++s) (a++d)
 | gone {o r a s d}:o.kind=1->Z5 o.l=Z5 a->Run r s d->Run (o ::r) (a++s) d
 | come {o r s d}:o.kind=2->Run r s d->Run (o ::r) s (o.l++d)
 | into {o r x y s d}:o.kind=3->doE false o.e x=some y->Run r s d->Run (o ::r) (x ::s) (y ::d)
end Go.AM.Ytpjenobkibfpcaa
namespace Go.AM
def JX(m:Nat):Nat->Nat
 | 0=> 0
 | i+1=> JX m i+if m / 2 ^ i % 2=1 then 255*2 ^ (8*i) else 0
def Zap:Nat->Nat->Nat
 | 0,_=> 0
 | k+1,m=> (if m % 2=1 then 255 else 0)+256*Zap k (m / 2)
def Z7N:Nat->Nat->Nat->Nat
 | 0,_,_=> 0
 | k+1,a,m=> (if m % 2=1 then a % 256 else 0)+256*Z7N k (a / 256) (m / 2)
def ZdJ:Nat->Nat->Nat->Nat->Nat
 | 0,_,_,_=> 0
 | k+1,a,b,m=> (if m % 2=1 then b % 256 else a % 256)+256*ZdJ k (a / 256) (b / 256) (m / 2)
theorem Zjq(x y u v:Nat)(hu:u < 256)(hv:v < 256):(u+256*x) &&& (v+256*y)=(u &&& v)+256*(x &&& y):=by
 have h:u &&& v < 256:=Nat.and_lt_two_pow (n:=8) u hv
 apply Nat.eq_of_testBit_eq
 intro j
 rw [Xg u,Xg v,Xg (u &&& v),Nat.testBit_and]
 rw [show (256:Nat)=2 ^ 8 from rfl,QS _ hu,QS _ hv,QS _ h]
 split <;> rw [Nat.testBit_and]
theorem Zlf(x y u v:Nat)(hu:u < 256)(hv:v < 256):(u+256*x) ||| (v+256*y)=(u ||| v)+256*(x ||| y):=by
 have h:u ||| v < 256:=Nat.or_lt_two_pow (n:=8) hu hv
 apply Nat.eq_of_testBit_eq
 intro j
 rw [Xg u,Xg v,Xg (u ||| v),Nat.testBit_or]
 rw [show (256:Nat)=2 ^ 8 from rfl,QS _ hu,QS _ hv,QS _ h]
 split <;> rw [Nat.testBit_or]
theorem Zam:∀ (k a m:Nat),a &&& Zap k m=Z7N k a m
 | 0,a,m=> by simp [Zap,Z7N]
 | k+1,a,m=> by
  have e:a=a % 256+256*(a / 256):=by omega
  simp only [Zap,Z7N]
  rw [<-Zam k (a / 256) (m / 2)]
  have h:a &&& ((if m % 2=1 then 255 else 0)+256*Zap k (m / 2))=(a % 256+256*(a / 256)) &&& ((if m % 2=1 then 255 else 0)+256*Zap k (m / 2)):=by rw [<-e]
  rw [h,Zjq _ _ _ _ (by omega) (by split <;> omega)]
  congr 1
  split
  ·have:=Nat.and_two_pow_sub_one_eq_mod (a % 256) 8
   simp only [show (2:Nat) ^ 8 - 1=255 from rfl,show (2:Nat) ^ 8=256 from rfl,Nat.mod_mod] at this
   exact this
  ·simp
theorem ZgW:∀ (k a b m n:Nat),(∀ i < k,m / 2 ^ i % 2+n / 2 ^ i % 2=1)->Z7N k a n ||| Z7N k b m=ZdJ k a b m
 | 0,a,b,m,n,_=> by simp [Z7N,ZdJ]
 | k+1,a,b,m,n,h=> by
  simp only [Z7N,ZdJ]
  have h0:=h 0 (by omega)
  simp only [Nat.pow_zero,Nat.div_one] at h0
  rw [Zlf _ _ _ _ (by split <;> omega) (by split <;> omega),ZgW k (a / 256) (b / 256) (m / 2) (n / 2) (fun i hi=> by
   have:=h (i+1) (by omega)
   rw [X9,X9]
   rw [Nat.pow_succ,QO] at this
   exact this)]
  congr 1
  by_cases hm:m % 2=1
  ·rw [if_pos hm,if_pos hm,if_neg (by omega)];simp
  ·rw [if_neg hm,if_neg hm,if_pos (by omega)];simp
theorem Zgi:∀ m:Fin 256,JX m.1 8=Zap 8 m.1:=by decide+kernel
theorem ZjE:∀ m:Fin 256,2 ^ 64 - 1 - Zap 8 m.1=Zap 8 (255 - m.1):=by decide+kernel
theorem ZmB:∀ m:Fin 256,∀ i:Fin 8,m.1 / 2 ^ i.1 % 2+(255 - m.1) / 2 ^ i.1 % 2=1:=by decide+kernel
theorem Znf:∀ m:Fin 256,Zap 8 m.1 < 2 ^ 64:=by decide+kernel
theorem Zlp(a b m:Nat)(hm:m < 256):(a &&& (2 ^ 64 - 1 - JX m 8)) ||| (b &&& JX m 8)=ZdJ 8 a b m:=by
 have h1:=Zgi ⟨m,hm⟩
 have h2:=ZjE ⟨m,hm⟩
 simp only at h1 h2
 rw [h1,h2,Zam,Zam]
 exact ZgW 8 a b m (255 - m) (fun i hi=> ZmB ⟨m,hm⟩ ⟨i,hi⟩)
def ofK:Nat->(Nat->Nat)->Nat
 | 0,_=> 0
 | k+1,f=> f 0+256*ofK k (fun i=> f (i+1))
theorem Zb1:∀ (k:Nat) {f g:Nat->Nat},(∀ i,f i=g i)->ofK k f=ofK k g
 | 0,_,_,_=> rfl
 | k+1,f,g,h=> by simp only [ofK,h 0,Zb1 k (fun i=> h (i+1))]
theorem ZgZ:∀ (k a b m:Nat),ZdJ k a b m=ofK k (fun i=> if m / 2 ^ i % 2=1 then b / 256 ^ i % 256 else a / 256 ^ i % 256)
 | 0,_,_,_=> rfl
 | k+1,a,b,m=> by
  simp only [ZdJ,ofK,Nat.pow_zero,Nat.div_one]
  rw [ZgZ k,Zb1 k (g:=fun i=> if m / 2 ^ (i+1) % 2=1 then b / 256 ^ (i+1) % 256 else a / 256 ^ (i+1) % 256) (fun i=> ?_)]
  rw [X9,X9,X9,Nat.pow_succ',Nat.pow_succ']
theorem Zlq(a b m:Nat):((ZdJ 8 a b m:Nat):Int)=mix a b m:=by
 have nm:∀ i:Nat,Z7R (m:Int) (i:Int)=decide (m / 2 ^ i % 2=1):=by
  intro i
  unfold Z7R
  rw [decide_eq_decide,QZ]
  have:((m:Int) / 2 ^ i % 2:Int)=((m / 2 ^ i % 2:Nat):Int):=by rw [Int.natCast_emod,Int.natCast_ediv,Int.natCast_pow];try rfl
  rw [this];omega
 have by_:∀ (x i:Nat),Zd (x:Int) i=((x / 256 ^ i % 256:Nat):Int):=by
  intro x i
  unfold Zd
  rw [Int.natCast_emod,Int.natCast_ediv,Int.natCast_pow]
  try rfl
 have mx:∀ i:Nat,Ye (a:Int) (b:Int) (m:Int) i=((if m / 2 ^ i % 2=1 then b / 256 ^ i % 256 else a / 256 ^ i % 256:Nat):Int):=by
  intro i
  unfold Ye
  rw [nm,by_,by_]
  by_cases h:m / 2 ^ i % 2=1
  ·rw [decide_eq_true h,if_pos rfl,if_pos h]
  ·rw [decide_eq_false h,if_neg Bool.false_ne_true,if_neg h]
 rw [ZgZ]
 generalize hf:(fun i=> if m / 2 ^ i % 2=1 then b / 256 ^ i % 256 else a / 256 ^ i % 256)=f
 have hx:∀ i,Ye (a:Int) (b:Int) (m:Int) i=(f i:Int):=by intro i;rw [mx,<-hf]
 have e:ofK 8 f=f 0+256*(f 1+256*(f 2+256*(f 3+256*(f 4+256*(f 5+256*(f 6+256*(f 7+256*0))))))):=rfl
 rw [e]
 simp only [mix,of8,hx]
 omega
def Y6(list:Int)(e:Edit):Bool:=
 if (2<=list/\list<=7)\/e.kind=0 then false else if list=8\/e.kind=2 then true else decide (e.kind=1/\e.old.kind=1/\e.new.kind=1)
end Go.AM
namespace Go.AM
def Z4t(e:Edit):Prop:=ctE e<=9000000000/\Yk e/\∃ d,Z4 e d=true
end Go.AM
namespace Go.AM.Ytpjenobkibfpcaa
open Go.AM Go.Proofs
theorem Zk4{e:Edit}{d:Int}{x y l:Tree}(hr:Z4 e d=true)(he:Yk e)(hx:RT_ x)(hl:RT_ l)(h:doE false e x=some y)(hy:Eqv y l):∃ z,doE false (ZI (ZF e)) l=some z/\Eqv z x:=by
 obtain ⟨v,hv,hvx⟩:=ZbE e d x y hr he hx h
 have h1:=Zcv (ZF e) d y l (YY e d hr) hy
 have h2:=Zfa (ZF e) d l (YY e d hr) hl
 rw [hv] at h1
 cases hw:doE false (ZF e) l with
 | none=> rw [hw] at h1;exact h1.elim
 | some w=>
  rw [hw] at h1 h2
  cases hz:doE false (ZI (ZF e)) l with
  | none=> rw [hz] at h2;exact h2.elim
  | some z=>
   rw [hz] at h2
   have h1:Eqv v w:=h1
   have h2:Eqv z w:=h2
   exact ⟨z,rfl,h2.trans (h1.symm.trans hvx)⟩
theorem Zvo{e:Edit}(h:e.kind=2)(t:Tree):doE false e t=if t.kind=1 then (wsD t.words e.words t.words).bind fun a=> (Je false t.kids e.kids t.kids).map fun b=> .mk 1 a b else none:=by
 rw [Z3N,Ja,if_neg (by omega),if_neg (by omega),if_pos h]
theorem Zu8(w:List WEdit)(ks:List Kid)(t:Tree):doE false (.mk 2 Tree.nil Tree.nil w ks 0 []) t=if t.kind=1 then (wsD t.words w t.words).bind fun a=> (Je false t.kids ks t.kids).map fun b=> .mk 1 a b else none:=Zvo rfl t
structure Alike (c r:Edit × Bool):Prop where
 ok:c.2=r.2
 nrm:c.2=true->ZI c.1=ZI r.1
section
variable {g:Edit->Edit->Edit × Bool}
end
theorem ZqD(w:List WEdit)(a:List Kid):ZI (.mk 2 Tree.nil Tree.nil w a 0 [])= .mk 2 Tree.nil Tree.nil w (Jh a) 0 []:=by rw [ZI,if_neg (by decide),if_pos rfl]
end Go.AM.Ytpjenobkibfpcaa
namespace Go.AM.Ytpjenobkibfpcaa
open Go.AM Go.Proofs
theorem ZrK(e:Edit):18<=ctE e:=by
 have:=ZfP e
 have:=Z1i e.old
 have:=Z1i e.new
 omega
mutual
theorem Zcx:∀ (e:Edit),ctE (ZF e)=ctE e
 | .mk k o n w ks l os=> by
  have h1:=Zbo ks
  have h2:=Zbn os
  simp only [ZF,ctE,X4]
  omega
theorem Zbo:∀ (ks:List (KidOf Edit)),Z1p (ZS ks)=Z1p ks
 | []=> rfl
 | k ::r=> by
  have h1:=ZfN k
  have h2:=Zbo r
  simp only [ZS,Z1p]
  omega
theorem ZfN:∀ (k:KidOf Edit),Z2V (Ys k)=Z2V k
 | ⟨a,e⟩=> by
  have:=Zcx e
  simp only [Ys,Z2V]
  omega
theorem Zbn:∀ (os:List (OpOf Edit)),YQ (ZW os)=YQ os
 | []=> rfl
 | o ::r=> by
  have h1:=Zjf o
  have h2:=Zbn r
  simp only [ZW,YQ]
  omega
theorem Zjf:∀ (o:OpOf Edit),Z2P (ZX o)=Z2P o
 | ⟨k,n,l,e⟩=> by
  have:=Zcx e
  rw [YK]
  dsimp only
  split
  ·try rfl
  ·split
   ·try rfl
   ·split
    ·simp only [Z2P];omega
    ·try rfl
end
theorem Z2f:∀ (a b:List Op),YQ (a++b)=YQ a+YQ b
 | [],b=> by simp [YQ]
 | o ::r,b=> by simp only [Qt,YQ,Z2f r b];omega
def ctW(w:Wst):Nat:=YQ w.out+(Ze w.gone+if w.gone.length=0 then 0 else 34)+(Ze w.brought+if w.brought.length=0 then 0 else 34)
theorem Zcz:ctE Edit.nil=18:=rfl
theorem Zad(w:Wst):YQ (Z2 w).out=ctW w:=by
 simp only [Z2,Jz,ctW,Z2f]
 by_cases h1:w.gone.length=0
 ·rw [if_pos h1,if_pos h1,Q3 h1]
  by_cases h2:w.brought.length=0
  ·rw [if_pos h2,if_pos h2,Q3 h2];simp [YQ,Ze]
  ·rw [if_neg h2,if_neg h2];simp only [YQ,Z2P,Zcz,Ze];omega
 ·rw [if_neg h1,if_neg h1]
  by_cases h2:w.brought.length=0
  ·rw [if_pos h2,if_pos h2,Q3 h2];simp only [YQ,Z2P,Zcz,Ze];omega
  ·rw [if_neg h2,if_neg h2];simp only [YQ,Z2P,Zcz];omega
theorem ZhA(w:Wst)(n:Int):ctW (ZK w n)<=ctW w+34:=by
 have h:=Zad w
 have e:ctW (ZK w n)=YQ (Z0x (Z2 w).out n):=by simp [ZK,ctW,Ze]
 rw [e,<-h]
 rcases J6 (Z2 w).out n with e | ⟨a,q,e1,_,e3⟩
 ·rw [e,Z2f];simp only [YQ,Z2P,Zcz,Ze];omega
 ·rw [e3,e1,Z2f,Z2f];simp only [YQ,Z2P,ZhB];omega
mutual
theorem Zcy:∀ (e:Edit),ctE (ZI e)<=ctE e
 | .mk k o n w ks l os=> by
  have h1:=Zeg ks
  have h2:=Zef l os ⟨[],[],[]⟩
  have h3:=J0 o
  have h4:=J0 n
  have:=Z1i o
  have:=Z1i n
  have hf:=Zad (Yd l os ⟨[],[],[]⟩)
  have hz:ctW ⟨[],[],[]⟩=0:=rfl
  rw [ZI]
  split
  ·simp only [ctE,Z1p,YQ,Qx];omega
  ·split
   ·simp only [ctE,YQ,Z7d];omega
   ·split
    ·simp only [ctE,Z1p,Z7d,Qx];omega
    ·simp only [ctE,Z1p,YQ,Z7d,Qx];omega
theorem Zeg:∀ (ks:List (KidOf Edit)),Z1p (Jh ks)<=Z1p ks
 | []=> QF _
 | k ::r=> by
  have h1:=Zjg k
  have h2:=Zeg r
  simp only [Jh,Z1p]
  omega
theorem Zjg:∀ (k:KidOf Edit),Z2V (Z1h k)<=Z2V k
 | ⟨a,e⟩=> by
  have:=Zcy e
  simp only [Z1h,Z2V]
  omega
theorem Zef(list:Int):∀ (os:List (OpOf Edit)) (w:Wst),ctW (Yd list os w)<=ctW w+YQ os
 | [],w=> QF _
 | o ::r,w=> by
  have h1:=Zmu list o w
  have h2:=Zef list r (Z0i list o w)
  simp only [Yd,YQ]
  omega
theorem Zmu(list:Int):∀ (o:OpOf Edit) (w:Wst),ctW (Z0i list o w)<=ctW w+Z2P o
 | ⟨k,n,l,e⟩,w=> by
  have he:=Zcy e
  have h18:=ZrK e
  have hl:=Z80 l
  have hc:=fun a b=> Jd a b
  rw [Z0i]
  simp only [Z2P]
  split
  ·have:=ZhA w n;omega
  ·split
   ·have:=Jd w.gone (Z5 l)
    simp only [ctW]
    split <;> split <;> omega
   ·split
    ·have:=Jd w.brought (Z5 l)
     simp only [ctW]
     split <;> split <;> split <;> omega
    ·split
     ·split
      ·have:=ZhA w 1;omega
      ·have hf:=Zad w
       show YQ ((Z2 w).out++[⟨3,0,[],ZI e⟩])+_+_<=_
       rw [Z2f,hf]
       simp only [YQ,Z2P,Ze,Qx,if_pos]
       omega
     ·omega
end
def φA(o:Op):Int:=if o.kind=2 then 0 else Zt o
def φB(o:Op):Int:=if o.kind=1 then 0 else Zt o
def φC(o:Op):Int:=Ze o.l+ctE o.e - 18
structure Wk (e:Edit):Prop where
 r:Z4 e (-1)=true
 g:Yk e
theorem Zhv{n:Int}(h0:0<=n)(h9:n<=9):InR n:=by unfold InR;omega
mutual
def utE:Edit->Nat
 | .mk _ o n w ks _ os=> 16+Zm o+Zm n+65600*w.length+ZtO ks+ZtM os
def ZtO:List (KidOf Edit)->Nat
 | []=> 0
 | k ::r=> ZtP k+ZtO r
def ZtP:KidOf Edit->Nat
 | ⟨_,e⟩=> 65600+utE e
def ZtM:List (OpOf Edit)->Nat
 | []=> 0
 | o ::r=> ZtN o+ZtM r
def ZtN:OpOf Edit->Nat
 | ⟨k,n,l,e⟩=> if k=3 then 16+utE e else 34*(n.toNat+l.length)+Ze l
end
def φU(o:Op):Int:=ZtN o
noncomputable section
noncomputable section
def ZhV:ArgL (Int × Unit):=(.cons (Yq .u8) .nil)
def Z9F(a:Int × Unit):Prop:=0<=a.1/\a.1 < 256
def ZkQ(a:Int × Unit):V U:= .c (.int .u64 ((JX (a.1).toNat 8:Nat):Int))
def Z5C:Fs U:=fs ZhV (fun a=> [Z9F a]) ZkQ
def ZkL(a:Tree × Unit):V U:= .c (.bool (decide (Tree.kind a.1≠10) && Z9 a.1 64))
def Z2w:Fs U:=fs ZmX (fun a=> [Z9u a]) ZkL
def Z9z(a:Int × Tree × Unit):Prop:=Zm a.2.1<=18000000000/\rng a.2.1/\InR a.1
def ZkD(a:Int × Tree × Unit):V U:= .c (.bool (Z9 (Tree.mk a.1 [] [a.2.1]) 64))
def Z5s:Fs U:=fs ZhK (fun a=> [Z9z a]) ZkD
def ZhF:ArgL (Int × Edit × Unit):=(.cons (Yq .i64) (.cons (aEl .edit) .nil))
def Zc4(a:Int × Edit × Unit):Prop:=True
def ZkC(a:Int × Edit × Unit):V U:= .c (.bool (Y6 a.1 a.2.1))
def Z2s:Fs U:=fs ZhF (fun a=> [Zc4 a]) ZkC
def ZhP:ArgL (List WEdit × Unit):=(.cons (aSl .wedit) .nil)
def Z74(a:List WEdit × Unit):Prop:=(a.1).length<=20000000000/\∀ x∈a.1,ZeL x
def ZkK(a:List WEdit × Unit):V U:= .c (.bool (Zk (-1) a.1))
def Z2v:Fs U:=fs ZhP (fun a=> [Z74 a]) ZkK
def Z63:Zc U:=lvl [([0],[]),([0,3],[]),([0,3,5],[]),([0,3,5,6],[]),([0,3,4,5],[]),([0,3,4,5,12],[]),([0,3,5],[]),([0,3,5],[]),([2],[])]
def JF(m x3 x5:Int):LSt U:=(L2 [(0,.c (.int .u8 m)),(3,.c (.int .u64 x3)),pI 5 x5] [])
abbrev Zuv(m:Int)(Q:QT):=AW (Z1 Zfw) Try.f105 Z63 [] (L2 [(0,.c (.int .u8 m))] []) Q
abbrev Zgd:=awp cfg (Z1 Zfw) (ZC cfg (Z1 Zfw)) Try.f105.ntmps Z63
abbrev ZeK:=Z9h cfg (Z1 Zfw) (ZC cfg (Z1 Zfw)) Try.f105.ntmps Z63
theorem ZtI(m:Int)(Q:QT)(h:Zh (AW (Z1 Zfw) Try.f105 Z63 [1,1,0,1,0,0]) (JF m 0 0) (xB 0 (SW (Z1 Zfw) Try.f105 Z63 [1,1,1] Q))):
  Zuv m Q:=by
 have e_:(Zuv m Q)=(Zh (Zgd (cd Try.f105 [1,1,0,1,0,0])) (JF m 0 0) (xB 0 (ZeK (cd Try.f105 [1,1,1]) Q))):=by kernel_rfl
 exact e_.mpr h
abbrev Zic(m x3 x5:Int)(N0:NT)(Q:QT):=AW (Z1 Zfw) Try.f105 Z63 [1,1,0,1,0,0] (JF m x3 x5) (xT N0 (xB 0 (SW (Z1 Zfw) Try.f105 Z63 [1,1,1] Q)))
theorem Zk2(m x3 x5:Int)(N0:NT)(Q:QT)(h:((decide (x5 < 8))=true->((0:Int)<=x5)/\(((((IntKind.wrap .u8 (BitVec.ofInt (IntKind.bits .u8) (Int.fdiv m (2 ^ (min x5.toNat (IntKind.bits .u8)))) &&& BitVec.ofInt (IntKind.bits .u8) 1).toNat):Int)==1)=true->(InR ((8:Int)*x5))/\((0:Int)<=((8:Int)*x5))/\((InR (x5+1))/\(N0 (JF m (IntKind.wrap .u64 (BitVec.ofInt (IntKind.bits .u64) x3 ||| BitVec.ofInt (IntKind.bits .u64) (IntKind.wrap .u64 ((255:Int)*2 ^ (min (Int.toNat ((8:Int)*x5)) (IntKind.bits .u64))))).toNat) (x5+1)))))/\((((IntKind.wrap .u8 (BitVec.ofInt (IntKind.bits .u8) (Int.fdiv m (2 ^ (min x5.toNat (IntKind.bits .u8)))) &&& BitVec.ofInt (IntKind.bits .u8) 1).toNat):Int)==1)=false->(InR (x5+1))/\(N0 (JF m x3 (x5+1))))))/\((decide (x5 < 8))=false->Q .ret (L2 [(2,.c (.int .u64 x3))] []))):
  Zic m x3 x5 N0 Q:=by
 have e_:(Zic m x3 x5 N0 Q)=(let zz0:=(((IntKind.wrap .u8 (BitVec.ofInt (IntKind.bits .u8) (Int.fdiv m (2 ^ (min x5.toNat (IntKind.bits .u8)))) &&& BitVec.ofInt (IntKind.bits .u8) 1).toNat):Int)==1);(((decide ((x5:Int) < 8))=true->(((0:Int)<=x5)/\((zz0=true->(InR ((8:Int)*x5))/\((0:Int)<=((8:Int)*x5))/\((InR ((x5:Int)+1))/\(N0 (JF m (IntKind.wrap .u64 (BitVec.ofInt (IntKind.bits .u64) x3 ||| BitVec.ofInt (IntKind.bits .u64) (IntKind.wrap .u64 ((255:Int)*2 ^ (min (Int.toNat ((8:Int)*x5)) (IntKind.bits .u64))))).toNat) ((x5:Int)+1)))))/\(zz0=false->(InR ((x5:Int)+1))/\(N0 (JF m x3 ((x5:Int)+1)))))))/\((decide ((x5:Int) < 8))=false->(Q .ret (L2 [(2,.c (.int .u64 x3))] []))))):=by kernel_rfl
 exact e_.mpr ⟨fun c_1=> ⟨(h.1 c_1).1,⟨fun c_2=> ⟨((h.1 c_1).2.1 c_2).1,((h.1 c_1).2.1 c_2).2.1,⟨((h.1 c_1).2.1 c_2).2.2.1,((h.1 c_1).2.1 c_2).2.2.2⟩⟩,fun c_2=> ⟨((h.1 c_1).2.2 c_2).1,((h.1 c_1).2.2 c_2).2⟩⟩⟩,fun c_1=> (h.2 c_1)⟩
def Zpy(m:Int):Prop:=AW (Z1 Zfw) Try.f105 Z63 [] (Zg (ZhV.can (m,())) []) (EQ Try.f105 (ZkQ (m,())) [])
theorem Zop(hb:∀ (m:Int) (_:Unit),Z9F (m,())->Zpy m):CT 105 Z5C:=
 Z7 (l:=[]) Zj rfl trivial Z63 Try.func105 rfl rfl 1 (fun _=> rfl) (by decide) (fun ⟨m,_⟩=> hb m ())
def Zm6:List (FuncId × Fs U):=[(105,Z5C)]
def Zro:Zc U:=lvl [([0,1,2],[]),([6],[])]
abbrev W66(a b m:Int)(Q:QT):=AW (Z1 Zm6) Try.f66 Zro [] (L2 [(0,.c (.int .u64 a)),(1,.c (.int .u64 b)),(2,.c (.int .u8 m))] []) Q
theorem ZuY(a b m:Int)(Q:QT)(h:(Z9F (m,()))/\(Z9F (m,()))/\(Q .ret (L2 [(6,.c (.int .u64 (IntKind.wrap .u64 (BitVec.ofInt (IntKind.bits .u64) (IntKind.wrap .u64 (BitVec.ofInt (IntKind.bits .u64) a &&& ~~~(BitVec.ofInt (IntKind.bits .u64) ((JX m.toNat 8:Nat):Int))).toNat) ||| BitVec.ofInt (IntKind.bits .u64) (IntKind.wrap .u64 (BitVec.ofInt (IntKind.bits .u64) b &&& BitVec.ofInt (IntKind.bits .u64) ((JX m.toNat 8:Nat):Int)).toNat)).toNat)))] []))):
  W66 a b m Q:=by
 have e_:(W66 a b m Q)=(type_of% h):=by kernel_rfl
 exact e_.mpr ⟨h.1,h.2.1,h.2.2⟩
def ZsI(a b m:Int):Prop:=AW (Z1 Zm6) Try.f66 Zro [] (Zg (ZhX.can (a,b,m,())) []) (EQ Try.f66 (ZkS (a,b,m,())) [])
theorem ZqV(Zs6:CT 105 Z5C)(hb:∀ (a:Int) (b:Int) (m:Int) (_:Unit),Zc7 (a,b,m,())->ZsI a b m):CT 66 Z5D:=
 Z7 (l:=[(105,Z5C)]) Zj rfl (⟨Zs6,trivial⟩) Zro Try.func66 rfl rfl 3 (fun _=> rfl) (by decide) (fun ⟨a,b,m,_⟩=> hb a b m ())
def Zho:List (FuncId × Fs U):=[(80,JI)]
abbrev Zus(t:Tree)(Q:QT):=AW (Z1 Zho) Try.f122 ZrB [] (L2 [(0,.agg (enc .tree t))] []) Q
theorem Zty(t:Tree)(Q:QT)(h:((t.kind !=10)=true->Z9u ((Tree.mk t.kind t.words t.kids),()))/\(Q .ret (L2 [pB 2 (bif (t.kind !=10) then (Z9 (Tree.mk t.kind t.words t.kids) 64) else false)] []))):
  Zus t Q:=by
 have e_:(Zus t Q)=((Tr ((t.kind !=10)=true))/\((t.kind !=10)=true->Z9u ((Tree.mk t.kind t.words t.kids),()))/\(Tr ((t.kind !=10)=true))/\(Q .ret (L2 [pB 2 (bif (t.kind !=10) then (Z9 (Tree.mk t.kind t.words t.kids) 64) else false)] []))):=by kernel_rfl
 exact e_.mpr ⟨id,h.1,(by generalize ((t.kind:Int) !=10)=b0;revert b0;decide),h.2⟩
def Zpo(t:Tree):Prop:=AW (Z1 Zho) Try.f122 ZrB [] (Zg (ZmX.can (t,())) []) (EQ Try.f122 (ZkL (t,())) [])
theorem Zoi(c80:CT 80 JI)(hb:∀ (t:Tree) (_:Unit),Z9u (t,())->Zpo t):CT 122 Z2w:=
 Z7 (l:=[(80,JI)]) Zj rfl (⟨c80,trivial⟩) ZrB Try.func122 rfl rfl 1 (fun _=> rfl) (by decide) (fun ⟨t,_⟩=> hb t ())
def Zlx:Zc U:=lvl [([0,3],[3]),([4],[])]
abbrev Zue(list:Int)(t:Tree)(Q:QT):=AW (Z1 Zho) Try.f186 Zlx [] (L2 [pI 0 list,(1,.agg (enc .tree t))] []) Q
theorem Ztf(list:Int)(t:Tree)(Q:QT)(h:(Z9u ((Tree.mk list [] ([(Tree.mk t.kind t.words t.kids)])),()))/\(Q .ret (L2 [(4,.c (.bool (Z9 (Tree.mk list [] ([(Tree.mk t.kind t.words t.kids)])) 64)))] []))):
  Zue list t Q:=by
 have e_:(Zue list t Q)=(type_of% h):=by kernel_rfl
 exact e_.mpr ⟨h.1,h.2⟩
def Zp5(list:Int)(t:Tree):Prop:=AW (Z1 Zho) Try.f186 Zlx [] (Zg (ZhK.can (list,t,())) []) (EQ Try.f186 (ZkD (list,t,())) [])
theorem Zo3(c80:CT 80 JI)(hb:∀ (list:Int) (t:Tree) (_:Unit),Z9z (list,t,())->Zp5 list t):CT 186 Z5s:=
 Z7 (l:=[(80,JI)]) Zj rfl (⟨c80,trivial⟩) Zlx Try.func186 rfl rfl 2 (fun _=> rfl) (by decide) (fun ⟨list,t,_⟩=> hb list t ())
def Zhb:List (FuncId × Fs U):=[(120,Z1s)]
def Zlw:Zc U:=lvl [([0,3],[3]),([0,3,5],[3]),([4],[]),([3,13],[3]),([4],[]),([4],[])]
abbrev Zud(list:Int)(e:Edit)(Q:QT):=AW (Z1 Zhb) Try.f187 Zlw [] (L2 [pI 0 list,(1,.agg (enc .edit e))] []) Q
theorem Zte(list:Int)(e:Edit)(Q:QT)(h:(Zf8 (list,()))/\(((bif (decide (2<=list/\list<=7)) then true else (e.kind==0))=true->Q .ret (L2 [pB 4 false] []))/\((bif (decide (2<=list/\list<=7)) then true else (e.kind==0))=false->((bif (list==8) then true else (e.kind==2))=true->Q .ret (L2 [pB 4 true] []))/\((bif (list==8) then true else (e.kind==2))=false->Q .ret (L2 [pB 4 (bif (bif (e.kind==1) then (e.old.kind==1) else false) then (e.new.kind==1) else false)] []))))):
  Zud list e Q:=by
 have e_:(Zud list e Q)=(let zz2:=(bif ((list:Int)==8) then true else (e.kind==2));let zz1:=(decide (2<=list/\list<=7));let zz0:=(bif (e.kind==1) then ((e.old.kind:Int)==1) else false);((Zf8 (list,()))/\(Tr ((!zz1)=true))/\(Tr ((!zz1)=true))/\(zz1=false->(!zz1)=true)/\(((bif zz1 then true else (e.kind==0))=true->(Q .ret (L2 [pB 4 false] [])))/\((bif zz1 then true else (e.kind==0))=false->(Tr ((!((list:Int)==8))=true))/\(Tr ((!((list:Int)==8))=true))/\(((list:Int)==8)=false->(!((list:Int)==8))=true)/\((zz2=true->(Q .ret (L2 [pB 4 true] [])))/\(zz2=false->(Tr ((e.kind==1)=true))/\(Tr ((e.kind==1)=true))/\(Tr ((e.kind==1)=true))/\(Tr ((e.kind==1)=true))/\(Tr (zz0=true))/\(Tr (zz0=true))/\(Tr (zz0=true))/\(Tr (zz0=true))/\(Q .ret (L2 [pB 4 (bif zz0 then ((e.new.kind:Int)==1) else false)] [])))))))):=by kernel_rfl
 exact e_.mpr ⟨h.1,id,id,(by generalize (decide (2<=list/\list<=7))=b0;revert b0;decide),⟨fun c_3=> (h.2.1 c_3),fun c_3=> ⟨id,id,(by generalize ((list:Int)==8)=b0;revert b0;decide),⟨fun c_4=> ((h.2.2 c_3).1 c_4),fun c_4=> ⟨id,id,id,(by generalize ((e.kind:Int)==1)=b0;revert b0;decide),id,id,id,(by generalize ((e.old.kind:Int)==1)=b0;generalize ((e.kind:Int)==1)=b1;revert b0 b1;decide),((h.2.2 c_3).2 c_4)⟩⟩⟩⟩⟩
def Zp4(list:Int)(e:Edit):Prop:=AW (Z1 Zhb) Try.f187 Zlw [] (Zg (ZhF.can (list,e,())) []) (EQ Try.f187 (ZkC (list,e,())) [])
theorem Zo2(Zjk:CT 120 Z1s)(hb:∀ (list:Int) (e:Edit) (_:Unit),Zc4 (list,e,())->Zp4 list e):CT 187 Z2s:=
 Z7 (l:=[(120,Z1s)]) Zj rfl (⟨Zjk,trivial⟩) Zlw Try.func187 rfl rfl 2 (fun _=> rfl) (by decide) (fun ⟨list,e,_⟩=> hb list e ())
def Z0b:List (FuncId × Fs U):=[(66,Z5D)]
def Z62:Zc U:=lvl [([0],[]),([0,5,6,7],[]),([0,5,6,7,8],[]),([0,3,4,5,6,7],[4]),([0,4,5,6,7,39],[4]),([2],[]),([0,5,6,7,53],[]),([2],[]),([0,5,6,7],[]),([2],[])]
def Z0S(l:List WEdit)(x7:Int):LSt U:=(L2 [(0,.c (sU .wedit l .unk)),(5,.c (sU .wedit l .unk)),pI 6 (l.length:Int),pI 7 x7] [])
abbrev Zur(l:List WEdit)(Q:QT):=AW (Z1 Z0b) Try.f123 Z62 [] (L2 [(0,.c (sU .wedit l .unk))] []) Q
abbrev Zgc:=awp cfg (Z1 Z0b) (ZC cfg (Z1 Z0b)) Try.f123.ntmps Z62
abbrev ZeJ:=Z9h cfg (Z1 Z0b) (ZC cfg (Z1 Z0b)) Try.f123.ntmps Z62
theorem Ztx(l:List WEdit)(Q:QT)(h:Zh (AW (Z1 Z0b) Try.f123 Z62 [1,0,1,0,0]) (Z0S l 0) (xB 0 (SW (Z1 Z0b) Try.f123 Z62 [1,1] Q))):
  Zur l Q:=by
 have e_:(Zur l Q)=(Zh (Zgc (cd Try.f123 [1,0,1,0,0])) (Z0S l 0) (xB 0 (ZeJ (cd Try.f123 [1,1]) Q))):=by kernel_rfl
 exact e_.mpr h
abbrev Zi8(l:List WEdit)(x7:Int)(N0:NT)(Q:QT):=AW (Z1 Z0b) Try.f123 Z62 [1,0,1,0,0] (Z0S l x7) (xT N0 (xB 0 (SW (Z1 Z0b) Try.f123 Z62 [1,1] Q)))
theorem ZjP(l:List WEdit)(x7:Int)(N0:NT)(Q:QT)(h:∀ y_1,y_1=(l.getD x7.toNat (WEdit.mk 0 0 0 0))->∀ y_2,y_2=(List.getD l (Int.toNat (x7 - 1)) (WEdit.mk 0 0 0 0))->((decide (x7 < (l.length:Int)))=true->((0:Int)<=x7/\x7 < (l.length:Int))/\((((!(bif (decide (y_1.at_ < 0)) then true else (decide ((65535:Int)<=y_1.at_)))) && (decide ((0:Int) < x7)))=true->InR (x7 - 1))/\(((!(bif (decide (y_1.at_ < 0)) then true else (decide ((65535:Int)<=y_1.at_)))) && (decide ((0:Int) < x7)))=true->(0:Int)<=(x7 - 1)/\(x7 - 1) < (l.length:Int))/\(((bif (bif (bif (decide (y_1.at_ < 0)) then true else (decide ((65535:Int)<=y_1.at_))) then true else (bif (decide ((0:Int) < x7)) then (decide (y_1.at_<=y_2.at_)) else false)) then true else (y_1.mask==0))=true->Q .ret (L2 [pB 2 false] []))/\((bif (bif (bif (decide (y_1.at_ < 0)) then true else (decide ((65535:Int)<=y_1.at_))) then true else (bif (decide ((0:Int) < x7)) then (decide (y_1.at_<=y_2.at_)) else false)) then true else (y_1.mask==0))=false->(Zc7 (y_1.old,0,y_1.mask,()))/\((!(((mix y_1.old 0 y_1.mask):Int) !=0))=true->Zc7 (y_1.new,0,y_1.mask,()))/\(((bif (((mix y_1.old 0 y_1.mask):Int) !=0) then true else (((mix y_1.new 0 y_1.mask):Int) !=0))=true->Q .ret (L2 [pB 2 false] []))/\((bif (((mix y_1.old 0 y_1.mask):Int) !=0) then true else (((mix y_1.new 0 y_1.mask):Int) !=0))=false->(InR (x7+1))/\(N0 (Z0S l (x7+1)))))))))/\((decide (x7 < (l.length:Int)))=false->Q .ret (L2 [pB 2 true] []))):
  Zi8 l x7 N0 Q:=by
 have e_:(Zi8 l x7 N0 Q)=(let y_1:=(l.getD x7.toNat (WEdit.mk 0 0 0 0));let y_2:=(List.getD l (Int.toNat ((x7:Int) - 1)) (WEdit.mk 0 0 0 0));let zz5:=(((mix y_1.new 0 y_1.mask):Int) !=0);let zz4:=(decide (y_1.at_ < 0));let zz3:=(decide ((0:Int) < x7));let zz2:=(bif zz3 then (decide (y_1.at_<=y_2.at_)) else false);let zz1:=(((mix y_1.old 0 y_1.mask):Int) !=0);let zz0:=(bif zz4 then true else (decide ((65535:Int)<=y_1.at_)));(((decide ((x7:Int) < (l.length:Int)))=true->((0:Int)<=x7/\x7 < (l.length:Int))/\((Tr ((!zz4)=true))/\(Tr ((!zz4)=true))/\(zz4=false->(!zz4)=true)/\(Tr ((!zz0)=true))/\(Tr ((!zz0)=true))/\(Tr (((!zz0) && zz3)=true))/\(((!zz0) && zz3)=true->InR ((x7:Int) - 1))/\(Tr (((!zz0) && zz3)=true))/\(Tr (((!zz0) && zz3)=true))/\(((!zz0) && zz3)=true->(0:Int)<=((x7:Int) - 1)/\((x7:Int) - 1) < (l.length:Int))/\(Tr (((!zz0) && zz3)=true))/\(Tr (((!zz0) && zz3)=true))/\(Tr (((!zz0) && zz3)=true))/\(Tr (((!zz0) && zz3)=true))/\(Tr (((!zz0) && zz3)=true))/\((!zz0)=true->(True->(!zz0)=true))/\((!zz0)=true->(zz3=true->((!zz0) && zz3)=true))/\(zz0=false->(!zz0)=true)/\(Tr ((!(bif zz0 then true else zz2))=true))/\(Tr ((!(bif zz0 then true else zz2))=true))/\((bif zz0 then true else zz2)=false->(!(bif zz0 then true else zz2))=true)/\(((bif (bif zz0 then true else zz2) then true else (y_1.mask==0))=true->(Q .ret (L2 [pB 2 false] [])))/\((bif (bif zz0 then true else zz2) then true else (y_1.mask==0))=false->(Zc7 (y_1.old,0,y_1.mask,()))/\(Tr ((!zz1)=true))/\(Tr ((!zz1)=true))/\(Tr ((!zz1)=true))/\(Tr ((!zz1)=true))/\((!zz1)=true->Zc7 (y_1.new,0,y_1.mask,()))/\(Tr ((!zz1)=true))/\(zz1=false->(!zz1)=true)/\(((bif zz1 then true else zz5)=true->(Q .ret (L2 [pB 2 false] [])))/\((bif zz1 then true else zz5)=false->(InR ((x7:Int)+1))/\(N0 (Z0S l ((x7:Int)+1)))))))))/\((decide ((x7:Int) < (l.length:Int)))=false->(Q .ret (L2 [pB 2 true] []))))):=by kernel_rfl
 exact e_.mpr (by intro y_1 y_2;have hh:=h y_1 rfl y_2 rfl;exact ⟨fun c_5=> ⟨(hh.1 c_5).1,⟨id,id,(by generalize (decide ((y_1.at_:Int) < 0))=b0;revert b0;decide),id,id,id,(hh.1 c_5).2.1,id,id,(hh.1 c_5).2.2.1,id,id,id,id,id,(by generalize (decide ((65535:Int)<=y_1.at_))=b0;generalize (decide ((y_1.at_:Int) < 0))=b1;revert b0 b1;decide),(by generalize (decide ((65535:Int)<=y_1.at_))=b0;generalize (decide ((y_1.at_:Int) < 0))=b1;generalize (decide ((0:Int) < x7))=b2;revert b0 b1 b2;decide),(by generalize (decide ((65535:Int)<=y_1.at_))=b0;generalize (decide ((y_1.at_:Int) < 0))=b1;revert b0 b1;decide),id,id,(by generalize (decide ((y_1.at_:Int)<=y_2.at_))=b0;generalize (decide ((65535:Int)<=y_1.at_))=b1;generalize (decide ((y_1.at_:Int) < 0))=b2;generalize (decide ((0:Int) < x7))=b3;revert b0 b1 b2 b3;decide),⟨fun c_6=> ((hh.1 c_5).2.2.2.1 c_6),fun c_6=> ⟨((hh.1 c_5).2.2.2.2 c_6).1,id,id,id,id,((hh.1 c_5).2.2.2.2 c_6).2.1,id,(by generalize (((mix y_1.old 0 y_1.mask):Int) !=0)=b0;revert b0;decide),⟨fun c_7=> (((hh.1 c_5).2.2.2.2 c_6).2.2.1 c_7),fun c_7=> ⟨(((hh.1 c_5).2.2.2.2 c_6).2.2.2 c_7).1,(((hh.1 c_5).2.2.2.2 c_6).2.2.2 c_7).2⟩⟩⟩⟩⟩⟩,fun c_5=> (hh.2 c_5)⟩)
def Zpn(l:List WEdit):Prop:=AW (Z1 Z0b) Try.f123 Z62 [] (Zg (ZhP.can (l,())) []) (EQ Try.f123 (ZkK (l,())) [])
theorem Zoh(c66:CT 66 Z5D)(hb:∀ (l:List WEdit) (_:Unit),Z74 (l,())->Zpn l):CT 123 Z2v:=
 Z7 (l:=[(66,Z5D)]) Zj rfl (⟨c66,trivial⟩) Z62 Try.func123 rfl rfl 1 (fun _=> rfl) (by decide) (fun ⟨l,_⟩=> hb l ())
end
end
theorem ZmC:∀ n:Fin 256,∀ i:Fin 8,IntKind.wrap .u8 (BitVec.ofInt (IntKind.bits .u8) (Int.fdiv (n.1:Int) (2 ^ (min (Int.toNat (i.1:Int)) (IntKind.bits .u8)))) &&& BitVec.ofInt (IntKind.bits .u8) 1).toNat=((n.1 / 2 ^ i.1 % 2:Nat):Int):=by decide+kernel
theorem ZnU:∀ n:Fin 256,∀ i:Fin 8,IntKind.wrap .u64 (BitVec.ofInt (IntKind.bits .u64) ((JX n.1 i.1:Nat):Int) ||| BitVec.ofInt (IntKind.bits .u64) (IntKind.wrap .u64 (255*2 ^ (min (Int.toNat (8*(i.1:Int))) (IntKind.bits .u64))))).toNat=((JX n.1 i.1+255*2 ^ (8*i.1):Nat):Int):=by decide+kernel
theorem Zs6:Contract Try.prog cfg 105 Z5C:=by
 refine Zop ?_
 intro m _ hp
 simp only [Z9F] at hp
 obtain ⟨n,rfl⟩:=QW hp.1
 have hn:n < 256:=by omega
 refine ZtI _ _ ?_
 refine Za (ι:=Nat) (fun i=> JF n ((JX n i:Nat):Int) i) (fun i=> i<=8) (fun i=> 8 - i) 0 rfl (by omega) ?_
 intro i hi
 refine Zk2 _ _ _ _ _ ?_
 (simp only [vcS])
 refine ⟨fun hc=> ⟨by omega,fun hq=> ⟨by unfold InR;omega,by omega,by unfold InR;omega,i+1,?_,by omega,by omega⟩,fun hq=> ⟨by unfold InR;omega,i+1,?_,by omega,by omega⟩⟩,fun hc=> ?_⟩
 ·have h1:=ZmC ⟨n,hn⟩ ⟨i,by omega⟩
  have h2:=ZnU ⟨n,hn⟩ ⟨i,by omega⟩
  simp only at h1 h2
  rw [h1] at hq
  rw [h2]
  have e:JX n (i+1)=JX n i+255*2 ^ (8*i):=by simp only [JX];rw [if_pos (by omega)]
  rw [e]
  try rfl
 ·have h1:=ZmC ⟨n,hn⟩ ⟨i,by omega⟩
  simp only at h1
  rw [h1] at hq
  have e:JX n (i+1)=JX n i:=by simp only [JX];rw [if_neg (by omega)];omega
  rw [e]
  try rfl
 ·have:i=8:=by omega
  subst this
  exact Yz rfl rfl
theorem Z0N(a:Nat)(h:a < 2 ^ 64):(BitVec.ofInt 64 (a:Int)).toNat=a:=by
 rw [BitVec.toNat_ofInt]
 omega
theorem c66:Contract Try.prog cfg 66 Z5D:=by
 refine ZqV Zs6 ?_
 intro a b m _ hp
 simp only [Zc7] at hp
 obtain ⟨⟨a0,a1⟩,⟨b0,b1⟩,m0,m1⟩:=hp
 obtain ⟨x,rfl⟩:=QW a0
 obtain ⟨y,rfl⟩:=QW b0
 obtain ⟨n,rfl⟩:=QW m0
 have hn:n < 256:=by omega
 have hx:x < 2 ^ 64:=by omega
 have hy:y < 2 ^ 64:=by omega
 have hw:=Znf ⟨n,hn⟩
 have hw2:=Zgi ⟨n,hn⟩
 simp only at hw hw2
 rw [<-hw2] at hw
 refine ZuY _ _ _ _ ?_
 refine ⟨⟨m0,m1⟩,⟨m0,m1⟩,Yz rfl ?_⟩
 have em:mix x y n=(((x &&& (2 ^ 64 - 1 - JX n 8)) ||| (y &&& JX n 8):Nat):Int):=by rw [<-Zlq,<-Zlp x y n hn]
 have e1:(BitVec.ofInt 64 (x:Int) &&& ~~~(BitVec.ofInt 64 ((JX n 8:Nat):Int))).toNat=x &&& (2 ^ 64 - 1 - JX n 8):=by
  rw [BitVec.toNat_and,BitVec.toNat_not,Z0N x hx,Z0N _ hw]
 have e2:(BitVec.ofInt 64 (y:Int) &&& BitVec.ofInt 64 ((JX n 8:Nat):Int)).toNat=y &&& JX n 8:=by
  rw [BitVec.toNat_and,Z0N y hy,Z0N _ hw]
 have l1:x &&& (2 ^ 64 - 1 - JX n 8) < 2 ^ 64:=Nat.lt_of_le_of_lt Nat.and_le_left hx
 have l2:y &&& JX n 8 < 2 ^ 64:=Nat.lt_of_le_of_lt Nat.and_le_left hy
 have l3:(x &&& (2 ^ 64 - 1 - JX n 8)) ||| (y &&& JX n 8) < 2 ^ 64:=Nat.or_lt_two_pow l1 l2
 have key:IntKind.wrap .u64 ((BitVec.ofInt 64 (IntKind.wrap .u64 ((BitVec.ofInt 64 (x:Int) &&& ~~~(BitVec.ofInt 64 ((JX n 8:Nat):Int))).toNat:Int)) ||| BitVec.ofInt 64 (IntKind.wrap .u64 ((BitVec.ofInt 64 (y:Int) &&& BitVec.ofInt 64 ((JX n 8:Nat):Int)).toNat:Int))).toNat:Int)=mix x y n:=by
  have w1:∀ k:Nat,k < 2 ^ 64->IntKind.wrap .u64 (k:Int)=k:=fun k hk=> Z2Z (by omega) (by omega)
  rw [e1,e2,w1 _ l1,w1 _ l2,BitVec.toNat_or,Z0N _ l1,Z0N _ l2,w1 _ l3,em]
 exact key
theorem Zs1:Contract Try.prog cfg 122 Z2w:=by
 refine Zoi c80 ?_
 intro t _ hp
 refine Zty _ _ ?_
 (simp only [Tree.eta,Edit.eta,Tree.kind_mk,Tree.words_mk,Tree.kids_mk])
 refine ⟨fun _=> hp,Z0 rfl ?_⟩
 rw [Qd]
 (simp only [vcS])
theorem ZrP:Contract Try.prog cfg 186 Z5s:=by
 refine Zo3 c80 ?_
 intro list t _ hp
 simp only [Z9z] at hp
 refine Ztf _ _ _ ?_
 (simp only [Tree.eta,Edit.eta,Tree.kind_mk,Tree.words_mk,Tree.kids_mk])
 refine ⟨⟨?_,?_⟩,by (repeat' (first | exact trivial | exact rfl | apply And.intro))⟩
 ·simp only [Zm,Ze,Qx];omega
 ·simp only [rng,ZQ]
  have hi:=hp.2.2
  unfold InR at hi
  exact ⟨hi,by simp,hp.2.1,trivial⟩
theorem ZrO:Contract Try.prog cfg 187 Z2s:=by
 refine Zo2 Zjk ?_
 intro list e _ hp
 refine Zte _ _ _ ?_
 (simp only [vcS])
 refine ⟨trivial,fun h=> ?_,fun h=> ⟨fun h2=> ?_,fun h2=> ?_⟩⟩
 ·exact Z0 rfl (by show false=Y6 list e;unfold Y6;rw [if_pos h])
 ·exact Z0 rfl (by show true=Y6 list e;unfold Y6;rw [if_neg (by omega),if_pos h2])
 ·refine Z0 rfl ?_
  show _=Y6 list e
  unfold Y6
  rw [if_neg (by omega),if_neg (by omega),Qd]
  (simp only [vcS])
  omega
theorem ZbC(last:Int)(w:WEdit)(r:List WEdit):Zk last (w ::r)=(decide (last < w.at_/\w.at_<=65534/\w.mask≠0) && J8 w.old w.mask && J8 w.new w.mask && Zk w.at_ r):=rfl
theorem Zs0:Contract Try.prog cfg 123 Z2v:=by
 refine Zoh c66 ?_
 intro l _ hp
 simp only [Z74] at hp
 refine Ztx _ _ ?_
 refine Za (ι:=Int) (fun i=> Z0S l i) (fun i=> 0<=i/\i<=l.length/\(i≠0->0<=(l.getD (i - 1).toNat (WEdit.mk 0 0 0 0)).at_)/\Zk (if i=0 then -1 else (l.getD (i - 1).toNat (WEdit.mk 0 0 0 0)).at_) (l.drop i.toNat)=Zk (-1) l) (fun i=> ((l.length:Int) - i).toNat) 0 rfl ⟨by omega,by omega,by simp,by simp⟩ ?_
 rintro i ⟨h1,h2,hpos,h3⟩
 refine ZjP _ _ _ _ ?_
 rintro y1 hy1 y2 hy2
 (simp only [vcS])
 refine ⟨fun hi=> ?_,fun hi=> ?_⟩
 ·have hm:=hp.2 _ (Zl (l:=l) (i:=i.toNat) (by omega) (WEdit.mk 0 0 0 0))
  rw [Yr h1 hi (WEdit.mk 0 0 0 0),ZbC] at h3
  rw [<-hy1] at h3 hm
  rw [<-hy2] at h3 hpos
  obtain ⟨r1,r2,r3,r4⟩:=hm
  unfold isW at r3 r4
  have hw:∀ x:Int,J8 x y1.mask=decide (mix x 0 y1.mask=0):=fun x=> rfl
  refine ⟨⟨h1,hi⟩,fun _=> by unfold InR;omega,fun _=> ⟨by omega,by omega⟩,fun hq=> ?_,fun hq=> ⟨⟨r3,by dsimp only;omega,r2⟩,fun _=> ⟨r4,by dsimp only;omega,r2⟩,fun hz=> ?_,fun hz=> ⟨by unfold InR;omega,i+1,rfl,⟨by omega,by omega,fun _=> by rw [show i+1 - 1=i by omega,<-hy1];omega,?_⟩,by omega⟩⟩⟩
  ·refine Z0 rfl ?_
   show false=Zk (-1) l
   rw [<-h3,decide_eq_false]
   ·try rfl
   ·split <;> omega
  ·refine Z0 rfl ?_
   show false=Zk (-1) l
   rw [<-h3,hw,hw]
   rcases hz with hz | hz
   ·rw [decide_eq_false hz];simp
   ·rw [decide_eq_false hz];simp
  ·rw [if_neg (by omega),show i+1 - 1=i by omega,<-hy1,<-h3,hw,hw,decide_eq_true hz.1,decide_eq_true hz.2,decide_eq_true]
   ·simp
   ·split <;> omega
 ·rw [Qb (by omega)] at h3
  exact Z0 rfl (by show true=Zk (-1) l;rw [<-h3];rfl)
end Go.AM.Ytpjenobkibfpcaa
namespace Go.AM
def wr(n:Int):Int:=IntKind.wrap .i64 n
def Z02(o:Op):Int:=if o.kind=3 then 1 else wr (o.n+o.l.length)
def ZcE(n:Int):Int:=if 1048576 < n then 1048576 else n
def Z0l:List Op->Int->Int
 | [],n=> n
 | o ::r,n=> Z0l r (if o.kind=2 then n else ZcE (wr (n+Z02 o)))
def Z0w:List Op->Int->Int
 | [],n=> n
 | o ::r,n=> Z0w r (if o.kind=1 then n else ZcE (wr (n+Z02 o)))
def Z0q(e:Edit):Bool:=
 if (e.kind≠1/\¬(ZJ e.old=true/\ZJ e.new=true))\/(e.kind≠2/\¬(e.words.length=0/\e.kids.length=0))\/(e.kind≠3/\(e.list≠0\/e.ops.length≠0)) then false else true
end Go.AM
namespace Go.AM.Ytpjenobkibfpcaa
open Go.AM Go.Proofs
noncomputable section
def ZkG(a:Edit × Unit):V U:= .tup [(false,[ci (Z0l a.1.ops 0)]),(false,[ci (Z0w a.1.ops 0)])]
def Z2u:Fs U:=fs ZhW (fun a=> [Z52 a]) ZkG
def ZT:Zc U:=lvl [([1],[1]),([1,4,5],[1]),([4,5,10,11,12],[]),([4,5,10,11,12,13],[]),([4,5,7,10,11,12],[7]),([4,5,7,8,10,11,12],[7]),([4,5,7,8,10,11,12,24],[7]),([4,5,7,8,10,11,12,24],[7]),([4,5,7,8,10,11,12,27],[7]),([4,5,7,8,10,11,12,27],[7]),([4,5,8,10,11,12,34],[]),([4,5,10,11,12],[]),([4,5,10,11,12],[]),([2,3],[])]
def YL(e:Edit)(x4 x5 x12:Int):LSt U:=(L2 [pI 4 x4,pI 5 x5,(10,.c (sU .op e.ops .unk)),pI 11 (e.ops.length:Int),pI 12 x12] [])
def Z29(e:Edit)(x4 x5 x12 x8_a:Int):LSt U:=(L2 [pI 4 x4,pI 5 x5,pL 7,pI 8 x8_a,(10,.c (sU .op e.ops .unk)),pI 11 (e.ops.length:Int),pI 12 x12,(24,.c (.bool (((OpOf.kind (e.ops.getD x12.toNat Op.nil)):Int)==3)))] [(.loc 7,(enc .op (e.ops.getD x12.toNat Op.nil)))])
def Z28(e:Edit)(x5 x12 x8_a x4_b:Int):LSt U:=(L2 [pI 4 x4_b,pI 5 x5,pL 7,pI 8 x8_a,(10,.c (sU .op e.ops .unk)),pI 11 (e.ops.length:Int),pI 12 x12,(27,.c (.bool (((OpOf.kind (e.ops.getD x12.toNat Op.nil)):Int) !=2)))] [(.loc 7,(enc .op (e.ops.getD x12.toNat Op.nil)))])
abbrev Zuj(e:Edit)(Q:QT):=AW (ZP Zfw) Try.f164 ZT [] (L2 [(0,.agg (enc .edit e))] []) Q
theorem Ztl(e:Edit)(Q:QT)(h:Zh (AW (ZP Zfw) Try.f164 ZT [1,1,0,1,0,0]) (YL e 0 0 0) (xB 0 (SW (ZP Zfw) Try.f164 ZT [1,1,1] Q))):
  Zuj e Q:=by
 have e_:(Zuj e Q)=(Zh (AW (ZP Zfw) Try.f164 ZT [1,1,0,1,0,0]) (YL e 0 0 0) (xB 0 (SW (ZP Zfw) Try.f164 ZT [1,1,1] Q))):=by kernel_rfl
 exact e_.mpr h
abbrev Zi3(e:Edit)(x4 x5 x12:Int)(N0:NT)(Q:QT):=AW (ZP Zfw) Try.f164 ZT [1,1,0,1,0,0] (YL e x4 x5 x12) (xT N0 (xB 0 (SW (ZP Zfw) Try.f164 ZT [1,1,1] Q)))
theorem ZjH(e:Edit)(x4 x5 x12:Int)(N0:NT)(Q:QT)(h:((decide (x12 < (e.ops.length:Int)))=true->((0:Int)<=x12/\x12 < (e.ops.length:Int))/\(((((OpOf.kind (e.ops.getD x12.toNat Op.nil)):Int)==3)=true->AW (ZP Zfw) Try.f164 ZT [1,1,0,1,0,0,1,1,0,0,1,1,1] (Z29 e x4 x5 x12 1) (xB 1 (SW (ZP Zfw) Try.f164 ZT [1,1,0,1,0,0,1,1,1] (xT N0 (xB 0 (SW (ZP Zfw) Try.f164 ZT [1,1,1] Q))))))/\((((OpOf.kind (e.ops.getD x12.toNat Op.nil)):Int)==3)=false->AW (ZP Zfw) Try.f164 ZT [1,1,0,1,0,0,1,1,0,0,1,1,1] (Z29 e x4 x5 x12 (IntKind.wrap .i64 (((OpOf.n (e.ops.getD x12.toNat Op.nil)):Int)+((OpOf.l (e.ops.getD x12.toNat Op.nil)).length:Int)))) (xB 1 (SW (ZP Zfw) Try.f164 ZT [1,1,0,1,0,0,1,1,1] (xT N0 (xB 0 (SW (ZP Zfw) Try.f164 ZT [1,1,1] Q))))))))/\((decide (x12 < (e.ops.length:Int)))=false->Q .ret (L2 [pI 2 x4,pI 3 x5] []))):
  Zi3 e x4 x5 x12 N0 Q:=by
 have e_:(Zi3 e x4 x5 x12 N0 Q)=(let zz0:=(((OpOf.kind (e.ops.getD x12.toNat Op.nil)):Int)==3);(((decide ((x12:Int) < (e.ops.length:Int)))=true->((0:Int)<=x12/\x12 < (e.ops.length:Int))/\((zz0=true->(AW (ZP Zfw) Try.f164 ZT [1,1,0,1,0,0,1,1,0,0,1,1,1] (Z29 e x4 x5 x12 1) (xB 1 (SW (ZP Zfw) Try.f164 ZT [1,1,0,1,0,0,1,1,1] (xT N0 (xB 0 (SW (ZP Zfw) Try.f164 ZT [1,1,1] Q)))))))/\(zz0=false->AW (ZP Zfw) Try.f164 ZT [1,1,0,1,0,0,1,1,0,0,1,1,1] (Z29 e x4 x5 x12 (IntKind.wrap .i64 (((OpOf.n (e.ops.getD x12.toNat Op.nil)):Int)+((OpOf.l (e.ops.getD x12.toNat Op.nil)).length:Int)))) (xB 1 (SW (ZP Zfw) Try.f164 ZT [1,1,0,1,0,0,1,1,1] (xT N0 (xB 0 (SW (ZP Zfw) Try.f164 ZT [1,1,1] Q))))))))/\((decide ((x12:Int) < (e.ops.length:Int)))=false->(Q .ret (L2 [pI 2 x4,pI 3 x5] []))))):=by kernel_rfl
 exact e_.mpr ⟨fun c_1=> ⟨(h.1 c_1).1,⟨fun c_2=> ((h.1 c_1).2.1 c_2),fun c_2=> ((h.1 c_1).2.2 c_2)⟩⟩,fun c_1=> (h.2 c_1)⟩
abbrev ZcV(e:Edit)(x4 x5 x12 x8_a:Int)(N0:NT)(Q:QT):=AW (ZP Zfw) Try.f164 ZT [1,1,0,1,0,0,1,1,0,0,1,1,1] (Z29 e x4 x5 x12 x8_a) (xB 1 (SW (ZP Zfw) Try.f164 ZT [1,1,0,1,0,0,1,1,1] (xT N0 (xB 0 (SW (ZP Zfw) Try.f164 ZT [1,1,1] Q)))))
theorem ZjJ(e:Edit)(x4 x5 x12 x8_a:Int)(N0:NT)(Q:QT)(h:((((OpOf.kind (e.ops.getD x12.toNat Op.nil)):Int) !=2)=true->AW (ZP Zfw) Try.f164 ZT [1,1,0,1,0,0,1,1,0,0,1,1,1,1] (Z28 e x5 x12 x8_a (if (1048576:Int) < (IntKind.wrap .i64 (x4+x8_a)) then 1048576 else (IntKind.wrap .i64 (x4+x8_a)))) (xB 1 (SW (ZP Zfw) Try.f164 ZT [1,1,0,1,0,0,1,1,1] (xT N0 (xB 0 (SW (ZP Zfw) Try.f164 ZT [1,1,1] Q))))))/\((((OpOf.kind (e.ops.getD x12.toNat Op.nil)):Int) !=2)=false->AW (ZP Zfw) Try.f164 ZT [1,1,0,1,0,0,1,1,0,0,1,1,1,1] (Z28 e x5 x12 x8_a x4) (xB 1 (SW (ZP Zfw) Try.f164 ZT [1,1,0,1,0,0,1,1,1] (xT N0 (xB 0 (SW (ZP Zfw) Try.f164 ZT [1,1,1] Q))))))):
  ZcV e x4 x5 x12 x8_a N0 Q:=by
 have e_:(ZcV e x4 x5 x12 x8_a N0 Q)=(let zz0:=(((OpOf.kind (e.ops.getD x12.toNat Op.nil)):Int) !=2);((zz0=true->(AW (ZP Zfw) Try.f164 ZT [1,1,0,1,0,0,1,1,0,0,1,1,1,1] (Z28 e x5 x12 x8_a (if (1048576:Int) < (IntKind.wrap .i64 ((x4:Int)+x8_a)) then 1048576 else (IntKind.wrap .i64 ((x4:Int)+x8_a)))) (xB 1 (SW (ZP Zfw) Try.f164 ZT [1,1,0,1,0,0,1,1,1] (xT N0 (xB 0 (SW (ZP Zfw) Try.f164 ZT [1,1,1] Q)))))))/\(zz0=false->AW (ZP Zfw) Try.f164 ZT [1,1,0,1,0,0,1,1,0,0,1,1,1,1] (Z28 e x5 x12 x8_a x4) (xB 1 (SW (ZP Zfw) Try.f164 ZT [1,1,0,1,0,0,1,1,1] (xT N0 (xB 0 (SW (ZP Zfw) Try.f164 ZT [1,1,1] Q)))))))):=by kernel_rfl
 exact e_.mpr ⟨fun c_3=> (h.1 c_3),fun c_3=> (h.2 c_3)⟩
abbrev ZcU(e:Edit)(x5 x12 x8_a x4_b:Int)(N0:NT)(Q:QT):=AW (ZP Zfw) Try.f164 ZT [1,1,0,1,0,0,1,1,0,0,1,1,1,1] (Z28 e x5 x12 x8_a x4_b) (xB 1 (SW (ZP Zfw) Try.f164 ZT [1,1,0,1,0,0,1,1,1] (xT N0 (xB 0 (SW (ZP Zfw) Try.f164 ZT [1,1,1] Q)))))
theorem ZjI(e:Edit)(x5 x12 x8_a x4_b:Int)(N0:NT)(Q:QT)(h:((((OpOf.kind (e.ops.getD x12.toNat Op.nil)):Int) !=1)=true->N0 (YL e x4_b (if (1048576:Int) < (IntKind.wrap .i64 (x5+x8_a)) then 1048576 else (IntKind.wrap .i64 (x5+x8_a))) (IntKind.wrap .i64 (x12+1))))/\((((OpOf.kind (e.ops.getD x12.toNat Op.nil)):Int) !=1)=false->N0 (YL e x4_b x5 (IntKind.wrap .i64 (x12+1))))):
  ZcU e x5 x12 x8_a x4_b N0 Q:=by
 have e_:(ZcU e x5 x12 x8_a x4_b N0 Q)=(((((OpOf.kind (e.ops.getD x12.toNat Op.nil)):Int) !=1)=true->(N0 (YL e x4_b (if (1048576:Int) < (IntKind.wrap .i64 ((x5:Int)+x8_a)) then 1048576 else (IntKind.wrap .i64 ((x5:Int)+x8_a))) (IntKind.wrap .i64 ((x12:Int)+1)))))/\((((OpOf.kind (e.ops.getD x12.toNat Op.nil)):Int) !=1)=false->(N0 (YL e x4_b x5 (IntKind.wrap .i64 ((x12:Int)+1)))))):=by kernel_rfl
 exact e_.mpr ⟨fun c_4=> (h.1 c_4),fun c_4=> (h.2 c_4)⟩
def Zpb(e:Edit):Prop:=AW (ZP Zfw) Try.f164 ZT [] (Zg (ZhW.can (e,())) []) (EQ Try.f164 (ZkG (e,())) [])
theorem Zo8(hb:∀ (e:Edit) (_:Unit),Z52 (e,())->Zpb e):CT 164 Z2u:=
 Zae (l:=[]) Zj rfl trivial ZT Try.func164 rfl rfl 1 (fun _=> rfl) (by decide) (fun ⟨e,_⟩=> hb e ())
end
end Go.AM.Ytpjenobkibfpcaa
