import Derived.Test.YtpjenobkibfpcaaGreatZCL25i
import Derived.Test.YtpjenobkibfpcaaGreatZKRB07
set_option linter.unusedSimpArgs false
set_option linter.unusedVariables false
namespace Go.AM.YtpjenobkibfpcaaGreat
open Go.AM Go.Proofs
theorem Zxk(e:Edit):18<=ctE e:=by
 have:=JO e
 have:=Z04 e.old
 have:=Z04 e.new
 omega
theorem Z4A:∀ (a b:List Op),Jx (a++b)=Jx a+Jx b
 | [],b=> by simp [Jx]
 | o ::r,b=> by simp only [Qp,Jx,Z4A r b];omega
def ctW(w:Wst):Nat:=Jx w.out+(Z9 w.gone+if w.gone.length=0 then 0 else 34)+(Z9 w.brought+if w.brought.length=0 then 0 else 34)
theorem Zbx:ctE Edit.nil=18:=rfl
theorem Zg9(w:Wst):Jx (Z2 w).out=ctW w:=by
 simp only [Z2,Z0r,ctW,Z4A]
 by_cases h1:w.gone.length=0
 .rw [if_pos h1,if_pos h1,Q4 h1]
  by_cases h2:w.brought.length=0
  .rw [if_pos h2,if_pos h2,Q4 h2];simp [Jx,Z9]
  .rw [if_neg h2,if_neg h2];simp only [Jx,Z5h,Zbx,Z9];omega
 .rw [if_neg h1,if_neg h1]
  by_cases h2:w.brought.length=0
  .rw [if_pos h2,if_pos h2,Q4 h2];simp only [Jx,Z5h,Zbx,Z9];omega
  .rw [if_neg h2,if_neg h2];simp only [Jx,Z5h,Zbx];omega
theorem ZqQ(w:Wst)(n:Int):ctW (ZM w n)<=ctW w+34:=by
 have h:=Zg9 w
 have e:ctW (ZM w n)=Jx (Jp (Z2 w).out n):=by simp [ZM,ctW,Z9]
 rw [e,<-h]
 rcases Z05 (Z2 w).out n with e | ⟨a,q,e1,_,e3⟩
 .rw [e,Z4A];simp only [Jx,Z5h,Zbx,Z9];omega
 .rw [e3,e1,Z4A,Z4A];simp only [Jx,Z5h,Z3G];omega
mutual
theorem ZnX:∀ (e:Edit),ctE (Zn e)<=ctE e
 | .mk k o n w ks l os=> by
  have h1:=Zm7 ks
  have h2:=Zm6 l os ⟨[],[],[]⟩
  have h3:=JH o
  have h4:=JH n
  have:=Z04 o
  have:=Z04 n
  have hf:=Zg9 (Zt l os ⟨[],[],[]⟩)
  have hz:ctW ⟨[],[],[]⟩=0:=rfl
  rw [Zn]
  split
  .simp only [ctE,Z3h,Jx,Q8];omega
  .split
   .simp only [ctE,Jx,Z2F];omega
   .split
    .simp only [ctE,Z3h,Z2F,Q8];omega
    .simp only [ctE,Z3h,Jx,Z2F,Q8];omega
theorem Zm7:∀ (ks:List (KidOf Edit)),Z3h (Jz ks)<=Z3h ks
 | []=> Qb _
 | k ::r=> by
  have h1:=ZsX k
  have h2:=Zm7 r
  simp only [Jz,Z3h]
  omega
theorem ZsX:∀ (k:KidOf Edit),Zan (Z37 k)<=Zan k
 | ⟨a,e⟩=> by
  have:=ZnX e
  simp only [Z37,Zan]
  omega
theorem Zm6(list:Int):∀ (os:List (OpOf Edit)) (w:Wst),ctW (Zt list os w)<=ctW w+Jx os
 | [],w=> Qb _
 | o ::r,w=> by
  have h1:=Zxj list o w
  have h2:=Zm6 list r (Z01 list o w)
  simp only [Zt,Jx]
  omega
theorem Zxj(list:Int):∀ (o:OpOf Edit) (w:Wst),ctW (Z01 list o w)<=ctW w+Z5h o
 | ⟨k,n,l,e⟩,w=> by
  have he:=ZnX e
  have h18:=Zxk e
  have hl:=Z62 l
  have hc:=fun a b=> J3 a b
  rw [Z01]
  simp only [Z5h]
  split
  .have:=ZqQ w n;omega
  .split
   .have:=J3 w.gone (Z8 l)
    simp only [ctW]
    split <;> split <;> omega
   .split
    .have:=J3 w.brought (Z8 l)
     simp only [ctW]
     split <;> split <;> split <;> omega
    .split
     .split
      .have:=ZqQ w 1;omega
      .have hf:=Zg9 w
       show Jx ((Z2 w).out++[⟨3,0,[],Zn e⟩])+_+_<=_
       rw [Z4A,hf]
       simp only [Jx,Z5h,Z9,Q8,if_pos]
       omega
     .omega
end
def ZE(φ:Op->Int):List Op->Int
 | []=> 0
 | o ::r=> φ o+ZE φ r
theorem Z40(φ:Op->Int):∀ a b:List Op,ZE φ (a++b)=ZE φ a+ZE φ b
 | [],b=> by simp [ZE]
 | o ::r,b=> by simp only [Qp,ZE,Z40 φ r b];omega
def Ztk(φ:Op->Int):Prop:=∀ o n,ZC o->1<=n->¬Z6 o<=n->φ (Zs o n)+φ (Jb o n)=φ o
theorem Z5w{φ:Op->Int}(hφ:Ztk φ){p:List Op}{n:Int}(hp:∀ o∈p,ZC o)(hl:p.length≠0)(h1:1<=n):φ (Zs (p.getD 0 Op.nil) n)+ZE φ (Zz p n)=ZE φ p/\∀ o∈Zz p n,ZC o:=by
 cases p with
 | nil=> exact absurd rfl hl
 | cons o r=>
  have ho:=hp o Q2
  unfold Zz
  simp only [Ql,Qq,QH]
  by_cases h:Z6 o<=n
  .rw [if_pos h]
   have e:Zs o n=o:=by unfold Zs;rw [if_pos h]
   rw [e]
   exact ⟨rfl,fun x hx=> hp x (Q1 _ hx)⟩
  .rw [if_neg h]
   refine ⟨by simp only [ZE];have:=hφ o n ho h1 h;omega,fun x hx=> ?_⟩
   rcases Qc.1 hx with rfl | hx
   .exact (Z6k ho h1 h).1
   .exact hp x (Q1 _ hx)
theorem Zvv{φ ψ:Op->Int}(hφ:Ztk φ)(hψ:Ztk ψ)(a:Int):∀ (k:Nat) (p q:List Op) (out:List Piece),p.length+q.length<=k->(∀ o∈p,ZC o)->(∀ o∈q,ZC o)->(ZH a 2 p q out).2.1=true->
  ∃ ps,(ZH a 2 p q out).1=out++ps/\ZE φ (Z7S ps)=ZE φ p/\ZE ψ (Z7R ps)=ZE ψ q/\ps.length<=p.length+q.length:=by
 intro k
 induction k with
 | zero=>
  intro p q out hk hp hq h
  have e1:p=[]:=Q4 YS
  have e2:q=[]:=Q4 YS
  subst e1 e2
  rw [ZH,dif_neg (by simp [sgl]),dif_neg (by simp [sgl]),dif_pos (by simp)]
  exact ⟨[],by simp,rfl,rfl,by simp⟩
 | succ k ih=>
  intro p q out hk hp hq h
  rw [ZH] at h ⊢
  by_cases h1:sgl a p=true
  .rw [dif_pos h1] at h ⊢
   obtain ⟨g1,_⟩:=YE.1 h1
   cases p with
   | nil=> exact absurd rfl g1
   | cons o r=>
    simp only [Ql,Qq,QH] at h ⊢
    obtain ⟨ps,e,f1,f2,f3⟩:=ih r q _ (by simp only [Q6] at hk;omega) (fun x hx=> hp x (Q1 _ hx)) hq h
    refine ⟨⟨1,o,Op.nil⟩ ::ps,by rw [e,Qa];rfl,?_,?_,by simp only [Q6];omega⟩
    .show ZE φ (o ::Z7S ps)=_
     simp only [ZE];omega
    .exact f2
  .rw [dif_neg h1] at h ⊢
   by_cases h2:sgl 2 q=true
   .rw [dif_pos h2] at h ⊢
    obtain ⟨g1,_⟩:=YE.1 h2
    cases q with
    | nil=> exact absurd rfl g1
    | cons o r=>
     simp only [Ql,Qq,QH] at h ⊢
     obtain ⟨ps,e,f1,f2,f3⟩:=ih p r _ (by simp only [Q6] at hk;omega) hp (fun x hx=> hq x (Q1 _ hx)) h
     refine ⟨⟨2,Op.nil,o⟩ ::ps,by rw [e,Qa];rfl,f1,?_,by simp only [Q6];omega⟩
     show ZE ψ (o ::Z7R ps)=_
     simp only [ZE];omega
   .rw [dif_neg h2] at h ⊢
    by_cases h3:p.length=0\/q.length=0
    .rw [dif_pos h3] at h ⊢
     by_cases h4:decide (p.length=0)=decide (q.length=0)
     .rw [if_pos h4]
      have h5:p.length=0/\q.length=0:=by
       have:=decide_eq_decide.1 h4
       omega
      rw [Q4 h5.1,Q4 h5.2]
      exact ⟨[],by simp,rfl,rfl,by simp⟩
     .rw [if_neg h4] at h;cases h
    .rw [dif_neg h3] at h ⊢
     have l1:p.length≠0:=YS
     have l2:q.length≠0:=YS
     have p1:=Zw (hp _ (Ze (l:=p) (i:=0) YS Op.nil))
     have p2:=Zw (hq _ (Ze (l:=q) (i:=0) YS Op.nil))
     generalize hn:min (Z6 (p.getD 0 Op.nil)) (Z6 (q.getD 0 Op.nil))=n at h ⊢
     obtain ⟨s1,s2⟩:=Z5w hφ hp l1 (n:=n) YS
     obtain ⟨t1,t2⟩:=Z5w hψ hq l2 (n:=n) YS
     have c1:=Yf p n l1
     have c2:=Yf q n l2
     have c3:Z6 (p.getD 0 Op.nil)<=n->(Zz p n).length < p.length:=fun h=> Ye p _ l1 h
     have c4:Z6 (q.getD 0 Op.nil)<=n->(Zz q n).length < q.length:=fun h=> Ye q _ l2 h
     obtain ⟨ps,e,f1,f2,f3⟩:=ih (Zz p n) (Zz q n) _ YS s2 t2 h
     refine ⟨⟨0,Zs (p.getD 0 Op.nil) n,Zs (q.getD 0 Op.nil) n⟩ ::ps,by rw [e,Qa];rfl,?_,?_,by simp only [Q6];omega⟩
     .show ZE φ (Zs (p.getD 0 Op.nil) n ::Z7S ps)=_
      simp only [ZE];omega
     .show ZE ψ (Zs (q.getD 0 Op.nil) n ::Z7R ps)=_
      simp only [ZE];omega
def φA(o:Op):Int:=if o.kind=2 then 0 else Z6 o
def φB(o:Op):Int:=if o.kind=1 then 0 else Z6 o
def φC(o:Op):Int:=Z9 o.l+ctE o.e - 18
theorem Zec:∀ l,ZE φA l=Jd l
 | []=> rfl
 | o ::r=> by simp only [ZE,Jd,φA,Zec r]
theorem Z1r:∀ l,ZE φB l=YH l
 | []=> rfl
 | o ::r=> by simp only [ZE,YH,φB,Z1r r]
theorem ZmB:∀ l,ZE φC l+34*l.length=Jx l
 | []=> rfl
 | o ::r=> by
  have:=ZmB r
  simp only [ZE,Jx,φC,Z3G,Q6]
  omega
theorem Z1G(o:Op)(n:Int):(Jb o n).kind=o.kind:=by unfold Jb;split <;> rfl
theorem Zxu{o:Op}{n:Int}(ho:ZC o)(h1:1<=n)(hn:¬Z6 o<=n):Z6 (Jb o n)=Z6 o - n:=by
 obtain ⟨_,_,v3,_⟩:=Z8C (a:=1) ho h1 hn
 have hl:=Yr o
 rcases ho with ⟨k0,k1,k2,k3⟩ | ⟨k0,k1,k2,k3⟩ | ⟨k0,k1,k2⟩
 .unfold Jb
  rw [if_pos k0,Yr]
  dsimp only
  rw [JL] at hl ⊢
  omega
 .unfold Jb
  rw [JL,Yr]
  dsimp only
  rw [JL] at hl ⊢
  rw [Qk]
  omega
 .rw [if_pos k0] at hl
  omega
theorem ZCz:Ztk φB:=by
 intro o n ho h1 hn
 obtain ⟨_,_,v3,_⟩:=Z8C (a:=1) ho h1 hn
 have:=Zxu ho h1 hn
 unfold φB
 rw [Jk,Z1G,v3,this]
 split <;> omega
theorem ZCy:Ztk φC:=by
 intro o n ho h1 hn
 have hl:=Yr o
 unfold φC Zs Jb
 rw [if_neg hn]
 rcases ho with ⟨k0,k1,k2,k3⟩ | ⟨k0,k1,k2,k3⟩ | ⟨k0,k1,k2⟩
 .rw [if_pos k0,if_pos k0]
  dsimp only
  rw [k3,k1,Zbx]
  simp [Z9]
 .rw [JL,JL]
  dsimp only
  have:=J3 (o.l.take n.toNat) (o.l.drop n.toNat)
  rw [QS] at this
  rw [k3,Zbx]
  omega
 .rw [if_pos k0] at hl
  omega
theorem Ze4{D list:Int}:∀ {l:List Tree},YG D list l=true->YG (-1) list l=true
 | [],_=> rfl
 | t ::r,h=> by
  simp only [YG,Q3] at h ⊢
  exact ⟨Z6G _ _ _ V1 h.1,Ze4 h.2⟩
mutual
theorem YA:∀ (e:Edit) (d m:Int),m < 0->Zb e d=true->Zb e m=true
 | .mk k o n w ks l os,d,m,hm,h=> by
  have h1:=ZbS ks
  have h2:=ZbQ l os
  rw [Zb] at h ⊢
  split at h
  .cases h
  .rename_i a
   rw [JL]
   split at h
   .cases h
   .rename_i b
    rw [if_neg b]
    split at h
    .rename_i c
     rw [if_pos c,Zg8 hm]
     simp only [Q3] at h ⊢
     exact ⟨⟨Z6G _ _ _ V1 h.1.1,Z6G _ _ _ V1 h.1.2⟩,h.2⟩
    .rename_i c
     rw [if_neg c]
     simp only [Q3] at h ⊢
     exact ⟨⟨⟨⟨h.1.1.1.1,h1 _ _ (m - 1) YS h.1.1.1.2⟩,h.1.1.2⟩,h2 _ (m - 1) YS h.1.2⟩,h.2⟩
theorem ZbS:∀ (ks:List (KidOf Edit)) (last d m:Int),m < 0->ZK last ks d=true->ZK last ks m=true
 | [],_,_,_,_,_=> rfl
 | k ::r,last,d,m,hm,h=> by
  simp only [ZK,Q3] at h ⊢
  exact ⟨Zi7 k last d m hm h.1,ZbS r k.at_ d m hm h.2⟩
theorem Zi7:∀ (k:KidOf Edit) (last d m:Int),m < 0->JY last k d=true->JY last k m=true
 | ⟨a,e⟩,last,d,m,hm,h=> by
  simp only [JY,Q3] at h ⊢
  exact ⟨h.1,YA e d m hm h.2⟩
theorem ZbQ(list:Int):∀ (os:List (OpOf Edit)) (d m:Int),m < 0->ZO list os d=true->ZO list os m=true
 | [],_,_,_,_=> rfl
 | o ::r,d,m,hm,h=> by
  simp only [ZO,Q3] at h ⊢
  exact ⟨ZkI list o d m hm h.1,ZbQ list r d m hm h.2⟩
theorem ZkI(list:Int):∀ (o:OpOf Edit) (d m:Int),m < 0->Zk list o d=true->Zk list o m=true
 | ⟨k,n,l,e⟩,d,m,hm,h=> by
  have he:=YA e d m hm
  rw [Zk] at h ⊢
  split at h
  .rename_i h0;rw [if_pos h0];exact h
  .rename_i h0
   rw [if_neg h0]
   split at h
   .cases h
   .rename_i h1
    rw [if_neg h1]
    split at h
    .rename_i h2
     rw [if_pos h2,Zg8 hm]
     simp only [Q3] at h ⊢
     exact ⟨⟨Ze4 h.1.1,h.1.2⟩,h.2⟩
    .rename_i h2
     rw [if_neg h2]
     simp only [Q3] at h ⊢
     exact ⟨⟨h.1.1,he h.1.2⟩,h.2⟩
end
structure Wk (e:Edit):Prop where
 r:Zb e (-1)=true
 g:J8 e
theorem Wk.of{e:Edit}{d:Int}(h:Zb e d=true)(g:J8 e):Wk e:=⟨YA e d _ V1 h,g⟩
theorem YW{n:Int}(h0:0<=n)(h9:n<=9):InR n:=V3
theorem Zsd{w:List WEdit}{ks:List Kid}(h1:YM (-1) w=true)(h2:ZK (-1) ks (-2)=true):Zb (.mk 2 Tree.nil Tree.nil w ks 0 []) (-1)=true:=by
 rw [Zb,if_neg V1,if_neg (by simp [JU,Tree.nil]),if_neg V1,h1,show (-1:Int) - 1= -2 from rfl,h2]
 simp [ZO,Z2r,Z2q]
theorem Zsc{l:Int}{os:List Op}(hl:2<=l/\l<=9)(h:ZO l os (-2)=true)(h1:Z2r os 0 < 1048576)(h2:Z2q os 0 < 1048576):Zb (.mk 3 Tree.nil Tree.nil [] [] l os) (-1)=true:=by
 rw [Zb,if_neg V1,if_neg (by simp [JU,Tree.nil]),if_neg V1,show (-1:Int) - 1= -2 from rfl,h]
 simp only [YM,ZK,QG,Xe,Q3,decide_eq_true_eq]
 exact ⟨YS,h1,h2⟩
theorem ZdX:∀ {l:List WEdit} {last:Int},asc WEdit.at_ last l->(∀ w∈l,w.at_<=65534/\w.mask≠0/\J7 w.old w.mask=true/\J7 w.new w.mask=true)->YM last l=true
 | [],_,_,_=> rfl
 | a ::r,last,h,hw=> by
  obtain ⟨h1,h2,h3,h4⟩:=hw a Q2
  simp only [YM,Q3,decide_eq_true_eq]
  exact ⟨⟨⟨⟨h.1,h1,h2⟩,h3⟩,h4⟩,ZdX h.2 fun w hw'=> hw w (Q1 _ hw')⟩
theorem ZeF{d:Int}:∀ {l:List Kid} {last:Int},asc KidOf.at_ last l->(∀ k∈l,k.at_<=65534/\k.e.kind≠0/\Zb k.e d=true)->ZK last l d=true
 | [],_,_,_=> rfl
 | a ::r,last,h,hw=> by
  obtain ⟨h1,h2,h3⟩:=hw a Q2
  simp only [ZK,Z5H,Q3,decide_eq_true_eq]
  exact ⟨⟨⟨h.1,h1,h2⟩,h3⟩,ZeF h.2 fun w hw'=> hw w (Q1 _ hw')⟩
theorem ZeE{list d:Int}:∀ {l:List Op},(∀ o∈l,Zk list o d=true)->ZO list l d=true
 | [],_=> rfl
 | a ::r,h=> by
  simp only [ZO,Q3]
  exact ⟨h a Q2,ZeE fun o ho=> h o (Q1 _ ho)⟩
theorem Z2z{D list:Int}:∀ {l:List Tree},(∀ t∈l,ZD (.mk list [] [t]) D=true)->YG D list l=true
 | [],_=> rfl
 | t ::r,h=> by
  simp only [YG,Q3]
  exact ⟨h t Q2,Z2z fun x hx=> h x (Q1 _ hx)⟩
theorem Zj1{list n:Int}(h1:1<=n)(h2:n<=1048576)(d:Int):Zk list ⟨0,n,[],Edit.nil⟩ d=true:=by
 rw [Zk,if_pos rfl,Z2X]
 simp only [Q8,Xe,decide_eq_true_eq]
 exact ⟨h1,h2,trivial⟩
theorem Z5S{list k d:Int}{l:List Tree}(hk:k=1\/k=2)(h:YG (dT d) list l=true)(hl:l≠[]):Zk list ⟨k,0,l,Edit.nil⟩ d=true:=by
 rw [Zk,JL,JL,V0,Z2X,h]
 have:=Xt.2 hl
 simp only [QG,Xe,decide_eq_true_eq]
 omega
theorem Zpe{list d:Int}{e:Edit}(h:Zb e d=true)(h0:e.kind≠0)(hl:7 < list)(hw:list=8\/e.kind=2\/e.kind=1/\e.old.kind=1/\e.new.kind=1):Zk list ⟨3,0,[],e⟩ d=true:=by
 rw [Zk,if_neg V1,if_neg V1,if_neg V1,h]
 simp only [Q8,Xe,Q3,decide_eq_true_eq]
 exact ⟨⟨trivial,h0,hl⟩,hw⟩
def Wl(list:Int)(e:Edit):Prop:=list=8\/e.kind=2\/e.kind=1/\e.old.kind=1/\e.new.kind=1
theorem ZrW{w m:Int}(h:∀ i,i < 8->Z5m m (i:Nat)=false->Zl w i=0):J7 w m=true:=by
 unfold J7 mix of8
 rw [decide_eq_true_eq]
 have z:∀ i,i < 8->Jo w 0 m i=0:=by
  intro i hi
  unfold Jo
  split
  .exact ZCv i
  .rename_i hn;exact h i hi (by simpa using hn)
 rw [z 0 YS,z 1 YS,z 2 YS,z 3 YS,z 4 YS,z 5 YS,z 6 YS,z 7 YS]
 try rfl
theorem ZkE:∀ {l:List Kid},(∀ k∈l,InR k.at_/\J8 k.e)->Z48 l
 | [],_=> trivial
 | ⟨a,e⟩ ::r,h=> ⟨h _ Q2,ZkE fun k hk=> h k (Q1 _ hk)⟩
theorem ZkD:∀ {l:List Op},(∀ o∈l,Z28 o)->Z30 l
 | [],_=> trivial
 | o ::r,h=> ⟨h _ Q2,ZkD fun k hk=> h k (Q1 _ hk)⟩
end Go.AM.YtpjenobkibfpcaaGreat
namespace Go.AM
def wOk(w:WEdit):Prop:=Zi3 w/\J7 w.old w.mask=true/\J7 w.new w.mask=true
def uOk(u:AUnit):Prop:=(u.kind=0\/u.kind=1\/u.kind=2\/u.kind=3)/\Zm u.t<=9000000000/\rng u.t/\(u.kind=3->J2 u.e)
end Go.AM
namespace Go.AM.YtpjenobkibfpcaaGreat
open Go.AM Go.Proofs
theorem Zsn:∀ (k:Nat) (P Q:List AUnit) (out:List APair),P.length+Q.length<=k->∀ x∈(ZB P Q out).1,x∈out\/
  (x.of=0/\(x.p∈P/\x.p.alone=false)/\x.q∈Q/\x.q.alone=false)\/(x.of=1/\x.p∈P)\/(x.of=2/\x.q∈Q):=by
 intro k
 induction k with
 | zero=>
  intro P Q out hk x hx
  have e1:P=[]:=Q4 YS
  have e2:Q=[]:=Q4 YS
  subst e1 e2
  rw [ZB,dif_neg (by simp [alo]),dif_neg (by simp [alo]),dif_pos (by simp),if_pos rfl] at hx
  exact .inl hx
 | succ k ih=>
  intro P Q out hk x hx
  have lift:∀ (P' Q':List AUnit),(∀ u∈P',u∈P)->(∀ u∈Q',u∈Q)->((x.of=0/\(x.p∈P'/\x.p.alone=false)/\x.q∈Q'/\x.q.alone=false)\/(x.of=1/\x.p∈P')\/(x.of=2/\x.q∈Q'))->
    ((x.of=0/\(x.p∈P/\x.p.alone=false)/\x.q∈Q/\x.q.alone=false)\/(x.of=1/\x.p∈P)\/(x.of=2/\x.q∈Q)):=by
   rintro P' Q' hP hQ (⟨h,⟨a,b⟩,c,d⟩ | ⟨h,a⟩ | ⟨h,a⟩)
   .exact .inl ⟨h,⟨hP _ a,b⟩,hQ _ c,d⟩
   .exact .inr (.inl ⟨h,hP _ a⟩)
   .exact .inr (.inr ⟨h,hQ _ a⟩)
  rw [ZB] at hx
  by_cases h1:alo P=true
  .rw [dif_pos h1] at hx
   cases P with
   | nil=> cases h1
   | cons a P'=>
    simp only [Q6] at hk
    rcases ih P' Q _ YS x hx with h | h
    .rcases Qh.1 h with h | h
     .exact .inl h
     .rw [Qf.1 h]
      exact .inr (.inr (.inl ⟨rfl,Q2⟩))
    .exact .inr (lift P' Q (fun u hu=> Q1 _ hu) (fun u hu=> hu) h)
  .rw [dif_neg h1] at hx
   by_cases h2:alo Q=true
   .rw [dif_pos h2] at hx
    cases Q with
    | nil=> cases h2
    | cons a Q'=>
     simp only [Q6] at hk
     rcases ih P Q' _ YS x hx with h | h
     .rcases Qh.1 h with h | h
      .exact .inl h
      .rw [Qf.1 h]
       exact .inr (.inr (.inr ⟨rfl,Q2⟩))
     .exact .inr (lift P Q' (fun u hu=> hu) (fun u hu=> Q1 _ hu) h)
   .rw [dif_neg h2] at hx
    by_cases h3:P.length=0\/Q.length=0
    .rw [dif_pos h3] at hx
     split at hx
     .exact .inl hx
     .cases hx
    .rw [dif_neg h3] at hx
     cases P with
     | nil=> simp at h3
     | cons a P'=>
      cases Q with
      | nil=> simp at h3
      | cons b Q'=>
       simp only [Q6] at hk
       rcases ih P' Q' _ YS x hx with h | h
       .rcases Qh.1 h with h | h
        .exact .inl h
        .rw [Qf.1 h]
         rw [Z1i] at h1 h2
         exact .inr (.inl ⟨rfl,⟨Q2,by simpa using h1⟩,List.mem_cons_self,by simpa using h2⟩)
       .exact .inr (lift P' Q' (fun u hu=> Q1 _ hu) (fun u hu=> Q1 _ hu) h)
structure UnitOf (o:Op) (a:Int) (u:AUnit):Prop where
 kind:u.kind=o.kind
 t:u.t=Tree.nil\/u.t∈o.l
 e:u.e=Edit.nil\/u.e=o.e
 into:u.kind=3->u.e=o.e
 alone:u.kind=1\/u.kind=2->u.alone=decide (u.kind=a)
theorem Z2x{a:Int}:∀ {l:List Op} {i:Int} {u:AUnit},(∀ o∈l,ZC o)->u∈Zr i a l->∃ o∈l,UnitOf o a u
 | o ::r,i,u,hl,h=> by
  rw [Zr] at h
  rcases Qh.1 h with h | h
  .simp only [Yq,Qh,QM] at h
   refine ⟨o,Q2,?_⟩
   rcases h with h | ⟨t,ht,rfl⟩ | h
   .split at h
    .rename_i hk
     rw [Xz h]
     exact ⟨hk.symm,.inl rfl,.inl rfl,fun h=> (by cases h),fun h=> (by rcases h with h | h <;> cases h)⟩
    .cases h
   .refine ⟨rfl,.inr ht,.inl rfl,fun h3=> ?_,fun _=> rfl⟩
    have h3:o.kind=3:=h3
    rcases hl o Q2 with k | k | k
    .omega
    .omega
    .rw [k.2.2] at ht;cases ht
   .split at h
    .rename_i hk
     rw [Qf.1 h]
     exact ⟨hk.symm,.inl rfl,.inr rfl,fun _=> rfl,fun h=> (by rcases h with h | h <;> cases h)⟩
    .cases h
  .obtain ⟨o',ho',h'⟩:=Z2x (fun x hx=> hl x (Q1 _ hx)) h
   exact ⟨o',Q1 _ ho',h'⟩
theorem Zfw:∀ (k:Nat) (a b:List Int),a.length+b.length<=k->∀ n∈Yv a b,n∈a\/n∈b:=by
 intro k
 induction k with
 | zero=>
  intro a b hk n hn
  have e1:a=[]:=Q4 YS
  have e2:b=[]:=Q4 YS
  subst e1 e2
  rw [Yv] at hn;cases hn
 | succ k ih=>
  intro a b hk n hn
  match a,b with
  | [],b=> rw [Yv] at hn;exact .inr hn
  | x ::a,[]=> rw [Z17] at hn;exact .inl hn
  | x ::a,y ::b=>
   simp only [Q6] at hk
   rw [Yv] at hn
   split at hn
   .rcases Qc.1 hn with rfl | hn
    .exact .inl Q2
    .rcases ih a (y ::b) (by simp only [Q6];omega) n hn with h | h
     .exact .inl (Q1 _ h)
     .exact .inr h
   .split at hn
    .rcases Qc.1 hn with rfl | hn
     .exact .inr Q2
     .rcases ih (x ::a) b (by simp only [Q6];omega) n hn with h | h
      .exact .inl h
      .exact .inr (Q1 _ h)
    .rcases Qc.1 hn with rfl | hn
     .exact .inl Q2
     .rcases ih a b YS n hn with h | h
      .exact .inl (Q1 _ h)
      .exact .inr (Q1 _ h)
theorem Z6a:∀ (l:List Kid) (n:Int),(Ys l n=Edit.nil/\n∉l.map KidOf.at_)\/∃ k∈l,Ys l n=k.e
 | [],n=> .inl ⟨rfl,by simp⟩
 | a ::r,n=> by
  rw [idxK_cons']
  split
  .exact .inr ⟨a,Q2,rfl⟩
  .rename_i h
   rcases Z6a r n with ⟨h1,h2⟩ | ⟨k,hk,h1⟩
   .refine .inl ⟨h1,?_⟩
    simp only [Qn,Qc,not_or]
    exact ⟨fun e=> h e.symm,h2⟩
   .exact .inr ⟨k,Q1 _ hk,h1⟩
where
 idxK_cons' (a:Kid) (r:List Kid) (n:Int):Ys (a ::r) n=if a.at_=n then a.e else Ys r n:=by
  unfold Ys
  by_cases h:a.at_=n
  .rw [if_pos h,List.find?_cons_of_pos];rfl;simpa using h
  .rw [if_neg h,XU];simpa using h
theorem Z0K:Z3 Edit.nil=3:=rfl
theorem Z56(e:Edit):3<=Z3 e:=by
 obtain ⟨k,o,n,w,ks,l,os⟩:=e
 have:=Z04 o
 have:=Z04 n
 simp only [Z3];omega
theorem Z4g:Zb Edit.nil 1=true:=rfl
theorem ZlR{p q:Edit}{d d':Int}(hp:Zb p d=true)(hq:Zb q d'=true){n:Int}(hn:n∈Yv (p.kids.map KidOf.at_) (q.kids.map KidOf.at_)):
  Z3 (Ys p.kids n)+Z3 (Ys q.kids n) < Z3 p+Z3 q/\(∃ d,Zb (Ys p.kids n) d=true)/\∃ d,Zb (Ys q.kids n) d=true:=by
 have rp:=Zj hp
 have rq:=Zj hq
 have m1:=Z56 p
 have m2:=Z56 q
 rcases Z6a p.kids n with ⟨e1,h1⟩ | ⟨k1,hk1,e1⟩
 .rcases Z6a q.kids n with ⟨e2,h2⟩ | ⟨k2,hk2,e2⟩
  .rcases Zfw _ _ _ (Qb _) n hn with h | h
   .exact absurd h h1
   .exact absurd h h2
  .have:=ZV hk2
   rw [e1,e2,Z0K]
   exact ⟨YS,⟨1,Z4g⟩,_,(Zp rq.kids k2 hk2).2⟩
 .have:=ZV hk1
  rcases Z6a q.kids n with ⟨e2,h2⟩ | ⟨k2,hk2,e2⟩
  .rw [e1,e2,Z0K]
   exact ⟨YS,⟨_,(Zp rp.kids k1 hk1).2⟩,1,Z4g⟩
  .have:=ZV hk2
   rw [e1,e2]
   exact ⟨YS,⟨_,(Zp rp.kids k1 hk1).2⟩,_,(Zp rq.kids k2 hk2).2⟩
theorem Z6n{p:Edit}{d:Int}(hp:Zb p d=true){o:Op}(ho:o∈p.ops){a:Int}{u:AUnit}(hu:UnitOf o a u):Z3 u.e < Z3 p/\∃ d,Zb u.e d=true:=by
 have:=YV ho
 have h3:=Z56 o.e
 rcases hu.e with e | e
 .rw [e,Z0K];exact ⟨YS,1,Z4g⟩
 .rw [e]
  refine ⟨this,?_⟩
  have R:=J1 (rightOs_mem (Zj hp).ops ho)
  cases R with
  | keep | gone | come=> exact ⟨1,Z4g⟩
  | into e h=> exact ⟨_,h⟩
mutual
def utE:Edit->Nat
 | .mk _ o n w ks _ os=> 16+Zm o+Zm n+65600*w.length+Zur ks+Zs0 os
def Zur:List (KidOf Edit)->Nat
 | []=> 0
 | k ::r=> ZC0 k+Zur r
def ZC0:KidOf Edit->Nat
 | ⟨_,e⟩=> 65600+utE e
def Zs0:List (OpOf Edit)->Nat
 | []=> 0
 | o ::r=> Zyw o+Zs0 r
def Zyw:OpOf Edit->Nat
 | ⟨k,n,l,e⟩=> if k=3 then 16+utE e else 34*(n.toNat+l.length)+Z9 l
end
theorem ZD1(e:Edit):utE e=16+Zm e.old+Zm e.new+65600*e.words.length+Zur e.kids+Zs0 e.ops:=by cases e;rfl
theorem Zus(k:Kid):ZC0 k=65600+utE k.e:=by cases k;rfl
theorem Zyv(o:Op):Zyw o=if o.kind=3 then 16+utE o.e else 34*(o.n.toNat+o.l.length)+Z9 o.l:=by cases o;rfl
theorem Zuq:∀ (n:Nat) (e:Edit),Z3 e<=n->(∃ d,Zb e d=true)->YR e=true->utE e+131100<=65600*Z3 e+150000*Z3 e:=by
 intro n
 induction n with
 | zero=> intro e h;have:=Z56 e;omega
 | succ n ih=>
  intro e hn ⟨d,hr⟩ hl
  have R:=Zj hr
  have hm:=Z56 e
  have me:Z3 e=1+Zm e.old+Zm e.new+e.words.length+e.ops.length+Ya e.kids+Zg e.ops:=by cases e;rfl
  have mo:=Z04 e.old
  have mn:=Z04 e.new
  rw [Z6W,Q3,Q3,decide_eq_true_eq] at hl
  obtain ⟨⟨l1,l2⟩,l3⟩:=hl
  have hk:∀ l:List Kid,(∀ k∈l,k∈e.kids)->JJ l=true->Zur l<=215600*Ya l:=by
   intro l
   induction l with
   | nil=> intro _ _;exact Qb _
   | cons a r ihl=>
    intro h hl
    simp only [JJ,Q3,Zcj] at hl
    have ha:=h a Q2
    have:=ZV ha
    have:=ih a.e YS ⟨_,(Zp R.kids a ha).2⟩ hl.1
    have:=ihl (fun k hk=> h k (Q1 _ hk)) hl.2
    simp only [Zur,Ya,Zus,Zbe];omega
  have ook:=ZS hr
  have ho:∀ l:List Op,(∀ o∈l,o∈e.ops)->ZX l=true->(Zs0 l:Int)<=215600*Zg l+34*Z1y l+16*l.length:=by
   intro l
   induction l with
   | nil=> intro _ _;simp [Zs0,Zg,Z1y]
   | cons a r ihl=>
    intro h hl
    simp only [ZX,Q3,ZfQ] at hl
    have ha:=h a Q2
    have:=ihl (fun k hk=> h k (Q1 _ hk)) hl.2
    have hr:=rightOs_mem R.ops ha
    have key:(Zyw a:Int)<=215600*Zu a+34*Z6 a+16:=by
     have me:=YV ha
     have ml:=Zq a.l
     rw [Zyv,ZI]
     have rt:=J1 hr
     have hp:=Yr a
     cases rt with
     | keep n h1 h2=> rw [if_neg (show ¬(0:Int)=3 by decide)];rw [if_neg (show ¬(0:Int)=3 by decide)] at hp;simp only [Z9,Q8,Z0K] at*;omega
     | gone l h1 h2=> rw [if_neg (show ¬(1:Int)=3 by decide)];rw [if_neg (show ¬(1:Int)=3 by decide)] at hp;dsimp only at*;simp only [Z0K] at*;omega
     | come l h1 h2=> rw [if_neg (show ¬(2:Int)=3 by decide)];rw [if_neg (show ¬(2:Int)=3 by decide)] at hp;dsimp only at*;simp only [Z0K] at*;omega
     | into e' h1 h2=>
      rw [if_pos rfl] at hp ⊢
      have:=ih e' (by dsimp only at me;omega) ⟨_,h1⟩ hl.1
      simp only [Z9];omega
    simp only [Zs0,Zg,Z1y,Q6];omega
  have h1:=hk e.kids (fun k h=> h) l2
  have h2:=ho e.ops (fun k h=> h) l3
  have h3:=kids_sum ook
  have h4:Jd e.ops<=2000/\YH e.ops<=2000:=by
   have ok:∀ o∈e.ops,0<=Z6 o:=fun o ho=> Z9y (ook o ho)
   have a:=Z0u e.ops 0 ok V1 V1
   have b:=Z19 e.ops 0 ok V1 V1
   omega
  rw [ZD1,me]
  omega
where
 kids_sum:∀ {l:List Op},(∀ o∈l,ZC o)->Z1y l<=Jd l+YH l
  | [],_=> by simp [Z1y,Jd,YH]
  | o ::r,h=> by
   have h1:=Zw (h o Q2)
   have h2:=kids_sum fun x hx=> h x (Q1 _ hx)
   simp only [Z1y,Jd,YH]
   split <;> split <;> omega
theorem Zyu(e:Edit):ux ⟨3,0,[],e⟩=[⟨3,0,[],e⟩]:=(Zmu (o:=⟨3,0,[],e⟩) (.inr (.inr ⟨rfl,rfl,rfl⟩)) rfl).1
theorem Zkj{list:Int}{o:Op}(h:Zk list o (-2)=true)(g:Z28 o):∀ y∈ux o,Zk list y (-2)=true/\Z28 y:=by
 have ho:=Z31 h
 have G:=Z0y g
 have R:=J1 h
 intro y hy
 cases R with
 | keep n h1 h2=>
  rw [(Zmv ho rfl).1] at hy
  rw [Xz hy]
  exact ⟨Zj1 V1 V1 _,YW V1 V1,YW V1 V1,trivial,G.2.2.2⟩
 | gone l h1 h2=>
  rw [Z1Q (.inl rfl)] at hy
  obtain ⟨t,ht,rfl⟩:=QM.1 hy
  exact ⟨Z5S (.inl rfl) (Z2z fun x hx=> by rw [Qf.1 hx];exact JW h1 t ht) (by simp),G.1,YW V1 V1,⟨JX G.2.2.1 ht,trivial⟩,G.2.2.2⟩
 | come l h1 h2=>
  rw [Z1Q (.inr rfl)] at hy
  obtain ⟨t,ht,rfl⟩:=QM.1 hy
  exact ⟨Z5S (.inr rfl) (Z2z fun x hx=> by rw [Qf.1 hx];exact JW h1 t ht) (by simp),G.1,YW V1 V1,⟨JX G.2.2.1 ht,trivial⟩,G.2.2.2⟩
 | into e h1 h2=>
  rw [Zyu] at hy
  rw [Qf.1 hy]
  exact ⟨h,g⟩
theorem Z2T(φ:Op->Int)(h:Tree->Op)(c:Tree->Int)(hc:∀ t,φ (h t)=c t):∀ l:List Tree,ZE φ (l.map h)=(l.map c).sum
 | []=> rfl
 | t ::r=> by simp only [Qn,ZE,hc,Kz,Z2T φ h c hc r]
theorem Z8L(φ:Op->Int)(o:Op):∀ n:Nat,ZE φ (List.replicate n o)=n*φ o
 | 0=> by simp [ZE]
 | n+1=> by
  rw [XP,ZE,Z8L φ o n]
  have:((n+1:Nat):Int)*φ o=n*φ o+φ o:=by rw [KM,Int.add_mul];simp
  omega
theorem Z3Z(φ:Op->Int)(h:∀ o,ZC o->ZE φ (ux o)=φ o):∀ {l:List Op},(∀ o∈l,ZC o)->ZE φ (l.flatMap ux)=ZE φ l
 | [],_=> rfl
 | o ::r,hl=> by
  rw [Xq,Z40,h o (hl o Q2),Z3Z φ h fun x hx=> hl x (Q1 _ hx)];try rfl
theorem Zby(c:Int):∀ l:List Tree,(l.map fun _=> c).sum=l.length*c
 | []=> by simp
 | t ::r=> by
  rw [Qn,Kz,Zby c r,Q6]
  have:((r.length+1:Nat):Int)*c=r.length*c+c:=by rw [KM,Int.add_mul];simp
  omega
theorem ZIW{o:Op}(h:ZC o):ZE φB (ux o)=φB o:=by
 rcases YX h with k | k | k | k
 .obtain ⟨e,hn⟩:=Zmv h k.1
  rw [e,Z8L]
  have e1:φB ⟨0,1,[],Edit.nil⟩=1:=rfl
  rw [e1]
  unfold φB
  rw [JL,Z6M h k.1]
  omega
 .rw [Z1Q (.inl k),Z2T φB _ (fun _=> 0) (fun t=> by unfold φB;rw [if_pos k]),Zby]
  unfold φB
  rw [if_pos k];omega
 .rw [Z1Q (.inr k),Z2T φB _ (fun _=> 1) (fun t=> by unfold φB;rw [if_neg V2];unfold Z6;rw [if_neg V2];rfl),Zby]
  unfold φB
  rw [JL,Z15 h (.inr k)];omega
 .obtain ⟨e1,e2⟩:=Zmu h k
  rw [e1,<-e2];simp [ZE]
def φU(o:Op):Int:=Zyw o
def ZHs(e:Edit):Prop:=utE e<=9000000000/\J8 e/\∃ d,Zb e d=true
noncomputable section
noncomputable section
def ZqZ:ArgL (Int × Unit):=(.cons (J9 .u8) .nil)
def Zf5(a:Int × Unit):Prop:=0<=a.1/\a.1 < 256
def ZuN(a:Int × Unit):V U:= .c (.int .u64 ((Z1j (a.1).toNat 8:Nat):Int))
def Z8Q:Fs U:=fs ZqZ (fun a=> [Zf5 a]) ZuN
def Z9I:Zc U:=lvl [([0],[]),([0,3],[]),([0,3,5],[]),([0,3,5,6],[]),([0,3,4,5],[]),([0,3,4,5,12],[]),([0,3,5],[]),([0,3,5],[]),([2],[])]
def Z0S(m x3 x5:Int):LSt U:=(L2 [(0,.c (.int .u8 m)),(3,.c (.int .u64 x3)),pI 5 x5] [])
abbrev ZHX(m:Int)(Q:QT):=AW (Z0 ZnJ) Tryz.f215 Z9I [] (L2 [(0,.c (.int .u8 m))] []) Q
abbrev Zmi:=awp cfg (Z0 ZnJ) (Yn cfg (Z0 ZnJ)) Tryz.f215.ntmps Z9I
abbrev Zkx:=Zi0 cfg (Z0 ZnJ) (Yn cfg (Z0 ZnJ)) Tryz.f215.ntmps Z9I
theorem ZGc(m:Int)(Q:QT)(h:Zd (AW (Z0 ZnJ) Tryz.f215 Z9I [1,1,0,1,0,0]) (Z0S m 0 0) (xB 0 (SW (Z0 ZnJ) Tryz.f215 Z9I [1,1,1] Q))):
  ZHX m Q:=by
 have e_:(ZHX m Q)=(Zd (Zmi (cd Tryz.f215 [1,1,0,1,0,0])) (Z0S m 0 0) (xB 0 (Zkx (cd Tryz.f215 [1,1,1]) Q))):=V4
 exact e_.mpr h
abbrev ZrN(m x3 x5:Int)(N0:NT)(Q:QT):=AW (Z0 ZnJ) Tryz.f215 Z9I [1,1,0,1,0,0] (Z0S m x3 x5) (xT N0 (xB 0 (SW (Z0 ZnJ) Tryz.f215 Z9I [1,1,1] Q)))
theorem Ztu(m x3 x5:Int)(N0:NT)(Q:QT)(h:((decide (x5 < 8))=true->((0:Int)<=x5)/\(((((IntKind.wrap .u8 (BitVec.ofInt (IntKind.bits .u8) (Int.fdiv m (2 ^ (min x5.toNat (IntKind.bits .u8)))) &&& BitVec.ofInt (IntKind.bits .u8) 1).toNat):Int)==1)=true->(InR ((8:Int)*x5))/\((0:Int)<=((8:Int)*x5))/\((InR (x5+1))/\(N0 (Z0S m (IntKind.wrap .u64 (BitVec.ofInt (IntKind.bits .u64) x3 ||| BitVec.ofInt (IntKind.bits .u64) (IntKind.wrap .u64 ((255:Int)*2 ^ (min (Int.toNat ((8:Int)*x5)) (IntKind.bits .u64))))).toNat) (x5+1)))))/\((((IntKind.wrap .u8 (BitVec.ofInt (IntKind.bits .u8) (Int.fdiv m (2 ^ (min x5.toNat (IntKind.bits .u8)))) &&& BitVec.ofInt (IntKind.bits .u8) 1).toNat):Int)==1)=false->(InR (x5+1))/\(N0 (Z0S m x3 (x5+1))))))/\((decide (x5 < 8))=false->Q .ret (L2 [(2,.c (.int .u64 x3))] []))):
  ZrN m x3 x5 N0 Q:=by
 have e_:(ZrN m x3 x5 N0 Q)=(let zz0:=(((IntKind.wrap .u8 (BitVec.ofInt (IntKind.bits .u8) (Int.fdiv m (2 ^ (min x5.toNat (IntKind.bits .u8)))) &&& BitVec.ofInt (IntKind.bits .u8) 1).toNat):Int)==1);(((decide ((x5:Int) < 8))=true->(((0:Int)<=x5)/\((zz0=true->(InR ((8:Int)*x5))/\((0:Int)<=((8:Int)*x5))/\((InR ((x5:Int)+1))/\(N0 (Z0S m (IntKind.wrap .u64 (BitVec.ofInt (IntKind.bits .u64) x3 ||| BitVec.ofInt (IntKind.bits .u64) (IntKind.wrap .u64 ((255:Int)*2 ^ (min (Int.toNat ((8:Int)*x5)) (IntKind.bits .u64))))).toNat) ((x5:Int)+1)))))/\(zz0=false->(InR ((x5:Int)+1))/\(N0 (Z0S m x3 ((x5:Int)+1)))))))/\((decide ((x5:Int) < 8))=false->(Q .ret (L2 [(2,.c (.int .u64 x3))] []))))):=V4
 exact e_.mpr ⟨fun c_1=> ⟨(h.1 c_1).1,⟨fun c_2=> ⟨((h.1 c_1).2.1 c_2).1,((h.1 c_1).2.1 c_2).2.1,⟨((h.1 c_1).2.1 c_2).2.2.1,((h.1 c_1).2.1 c_2).2.2.2⟩⟩,fun c_2=> ⟨((h.1 c_1).2.2 c_2).1,((h.1 c_1).2.2 c_2).2⟩⟩⟩,fun c_1=> (h.2 c_1)⟩
def ZAP(m:Int):Prop:=AW (Z0 ZnJ) Tryz.f215 Z9I [] (Zh (ZqZ.can (m,())) []) (EQ Tryz.f215 (ZuN (m,())) [])
theorem Zz1(hb:∀ (m:Int) (_:Unit),Zf5 (m,())->ZAP m):CT 215 Z8Q:=
 Z1 (l:=[]) Zi rfl trivial Z9I Tryz.func215 rfl rfl 1 (fun _=> rfl) V1 (fun ⟨m,_⟩=> hb m ())
def Zqc:List (FuncId × Fs U):=[(215,Z8Q)]
def Zwg:Zc U:=lvl [([0,1,2],[]),([6],[])]
abbrev ZI0(a b m:Int)(Q:QT):=AW (Z0 Zqc) Tryz.f176 Zwg [] (L2 [(0,.c (.int .u64 a)),(1,.c (.int .u64 b)),(2,.c (.int .u8 m))] []) Q
theorem ZGy(a b m:Int)(Q:QT)(h:(Zf5 (m,()))/\(Zf5 (m,()))/\(Q .ret (L2 [(6,.c (.int .u64 (IntKind.wrap .u64 (BitVec.ofInt (IntKind.bits .u64) (IntKind.wrap .u64 (BitVec.ofInt (IntKind.bits .u64) a &&& ~~~(BitVec.ofInt (IntKind.bits .u64) ((Z1j m.toNat 8:Nat):Int))).toNat) ||| BitVec.ofInt (IntKind.bits .u64) (IntKind.wrap .u64 (BitVec.ofInt (IntKind.bits .u64) b &&& BitVec.ofInt (IntKind.bits .u64) ((Z1j m.toNat 8:Nat):Int)).toNat)).toNat)))] []))):
  ZI0 a b m Q:=by
 have e_:(ZI0 a b m Q)=(type_of% h):=V4
 exact e_.mpr ⟨h.1,h.2.1,h.2.2⟩
def ZBb(a b m:Int):Prop:=AW (Z0 Zqc) Tryz.f176 Zwg [] (Zh (ZrA.can (a,b,m,())) []) (EQ Tryz.f176 (Zv6 (a,b,m,())) [])
theorem Zzl(ZEi:CT 215 Z8Q)(hb:∀ (a:Int) (b:Int) (m:Int) (_:Unit),Z13 (a,b,m,())->ZBb a b m):CT 176 JQ:=
 Z1 (l:=[(215,Z8Q)]) Zi rfl (⟨ZEi,trivial⟩) Zwg Tryz.func176 rfl rfl 3 (fun _=> rfl) V1 (fun ⟨a,b,m,_⟩=> hb a b m ())
end
end
theorem Zxs:∀ n:Fin 256,∀ i:Fin 8,IntKind.wrap .u8 (BitVec.ofInt (IntKind.bits .u8) (Int.fdiv (n.1:Int) (2 ^ (min (Int.toNat (i.1:Int)) (IntKind.bits .u8)))) &&& BitVec.ofInt (IntKind.bits .u8) 1).toNat=((n.1 / 2 ^ i.1 % 2:Nat):Int):=by decide+kernel
theorem ZyK:∀ n:Fin 256,∀ i:Fin 8,IntKind.wrap .u64 (BitVec.ofInt (IntKind.bits .u64) ((Z1j n.1 i.1:Nat):Int) ||| BitVec.ofInt (IntKind.bits .u64) (IntKind.wrap .u64 (255*2 ^ (min (Int.toNat (8*(i.1:Int))) (IntKind.bits .u64))))).toNat=((Z1j n.1 i.1+255*2 ^ (8*i.1):Nat):Int):=by decide+kernel
theorem ZEi:Contract Tryz.prog cfg 215 Z8Q:=by
 refine Zz1 ?_
 intro m _ hp
 simp only [Zf5] at hp
 obtain ⟨n,rfl⟩:=X7 hp.1
 have hn:n < 256:=YS
 refine ZGc _ _ ?_
 refine Z5 (ι:=Nat) (fun i=> Z0S n ((Z1j n i:Nat):Int) i) (fun i=> i<=8) (fun i=> 8 - i) 0 rfl YS ?_
 intro i hi
 refine Ztu _ _ _ _ _ ?_
 (simp only [iB,vcS])
 refine ⟨fun hc=> ⟨YS,fun hq=> ⟨V3,YS,V3,i+1,?_,YS,YS⟩,fun hq=> ⟨V3,i+1,?_,YS,YS⟩⟩,fun hc=> ?_⟩
 .have h1:=Zxs ⟨n,hn⟩ ⟨i,YS⟩
  have h2:=ZyK ⟨n,hn⟩ ⟨i,YS⟩
  simp only at h1 h2
  rw [h1] at hq
  rw [h2]
  have e:Z1j n (i+1)=Z1j n i+255*2 ^ (8*i):=by simp only [Z1j];rw [V0]
  rw [e]
  try rfl
 .have h1:=Zxs ⟨n,hn⟩ ⟨i,YS⟩
  simp only at h1
  rw [h1] at hq
  have e:Z1j n (i+1)=Z1j n i:=by simp only [Z1j];rw [JL];omega
  rw [e]
  try rfl
 .have:i=8:=YS
  subst this
  exact Yd rfl rfl
theorem Z2E(a:Nat)(h:a < 2 ^ 64):(BitVec.ofInt 64 (a:Int)).toNat=a:=by
 rw [BitVec.toNat_ofInt]
 omega
theorem ZjP:Contract Tryz.prog cfg 176 JQ:=by
 refine Zzl ZEi ?_
 intro a b m _ hp
 simp only [Z13] at hp
 obtain ⟨⟨a0,a1⟩,⟨b0,b1⟩,m0,m1⟩:=hp
 obtain ⟨x,rfl⟩:=X7 a0
 obtain ⟨y,rfl⟩:=X7 b0
 obtain ⟨n,rfl⟩:=X7 m0
 have hn:n < 256:=YS
 have hx:x < 2 ^ 64:=YS
 have hy:y < 2 ^ 64:=YS
 have hw:=Zy0 ⟨n,hn⟩
 have hw2:=Zom ⟨n,hn⟩
 simp only at hw hw2
 rw [<-hw2] at hw
 refine ZGy _ _ _ _ ?_
 refine ⟨⟨m0,m1⟩,⟨m0,m1⟩,Yd rfl ?_⟩
 have em:mix x y n=(((x &&& (2 ^ 64 - 1 - Z1j n 8)) ||| (y &&& Z1j n 8):Nat):Int):=by rw [<-ZvQ,<-ZvP x y n hn]
 have e1:(BitVec.ofInt 64 (x:Int) &&& ~~~(BitVec.ofInt 64 ((Z1j n 8:Nat):Int))).toNat=x &&& (2 ^ 64 - 1 - Z1j n 8):=by
  rw [KJ,BitVec.toNat_not,Z2E x hx,Z2E _ hw]
 have e2:(BitVec.ofInt 64 (y:Int) &&& BitVec.ofInt 64 ((Z1j n 8:Nat):Int)).toNat=y &&& Z1j n 8:=by
  rw [KJ,Z2E y hy,Z2E _ hw]
 have l1:x &&& (2 ^ 64 - 1 - Z1j n 8) < 2 ^ 64:=Nat.lt_of_le_of_lt Nat.and_le_left hx
 have l2:y &&& Z1j n 8 < 2 ^ 64:=Nat.lt_of_le_of_lt Nat.and_le_left hy
 have l3:(x &&& (2 ^ 64 - 1 - Z1j n 8)) ||| (y &&& Z1j n 8) < 2 ^ 64:=Nat.or_lt_two_pow l1 l2
 have key:IntKind.wrap .u64 ((BitVec.ofInt 64 (IntKind.wrap .u64 ((BitVec.ofInt 64 (x:Int) &&& ~~~(BitVec.ofInt 64 ((Z1j n 8:Nat):Int))).toNat:Int)) ||| BitVec.ofInt 64 (IntKind.wrap .u64 ((BitVec.ofInt 64 (y:Int) &&& BitVec.ofInt 64 ((Z1j n 8:Nat):Int)).toNat:Int))).toNat:Int)=mix x y n:=by
  have w1:∀ k:Nat,k < 2 ^ 64->IntKind.wrap .u64 (k:Int)=k:=fun k hk=> Z5r YS YS
  rw [e1,e2,w1 _ l1,w1 _ l2,BitVec.toNat_or,Z2E _ l1,Z2E _ l2,w1 _ l3,em]
 exact key
noncomputable section
noncomputable section
def Zre:ArgL (List Tree × List Tree × Unit × Unit):=(.cons (aSl .tree) (.cons (aSl .tree) (.cons (aFn 114) .nil)))
def Z8i(a:List Tree × List Tree × Unit × Unit):Prop:=Z9 a.1<=1000000000000/\Z9 a.2.1<=1000000000000
def ZuT(a:List Tree × List Tree × Unit × Unit):V U:= .c (.bool (eqX (Z8 a.1) (Z8 a.2.1)))
def Z11:Fs U:=fs Zre (fun a=> [Z8i a]) ZuT
def Z1L:List (FuncId × Fs U):=[(114,JR)]
def Z9K:Zc U:=lvl [([0,1,2],[]),([0,1,2,14],[]),([6],[]),([1,2,15,16,17],[]),([1,2,15,16,17,18],[]),([1,2,7,8,15,16,17],[8]),([1,2,8,9,15,16,17],[8,9]),([1,2,15,16,17,30],[]),([6],[]),([1,2,15,16,17],[]),([6],[])]
def Z2O(a b:List Tree)(f:Unit)(x17:Int):LSt U:=(L2 [(1,.c (sU .tree b .unk)),(2,.fn 114),(15,.c (sU .tree a .unk)),pI 16 (a.length:Int),pI 17 x17] [])
abbrev ZHZ(a b:List Tree)(f:Unit)(Q:QT):=AW (Z0 Z1L) Tryz.f177 Z9K [] (L2 [(0,.c (sU .tree a .unk)),(1,.c (sU .tree b .unk)),(2,.fn 114)] []) Q
abbrev Zmk:=awp cfg (Z0 Z1L) (Yn cfg (Z0 Z1L)) Tryz.f177.ntmps Z9K
abbrev Zkz:=Zi0 cfg (Z0 Z1L) (Yn cfg (Z0 Z1L)) Tryz.f177.ntmps Z9K
theorem ZGx(a b:List Tree)(f:Unit)(Q:QT)(h:((((a.length:Int):Int) !=(b.length:Int))=true->Q .ret (L2 [pB 6 false] []))/\((((a.length:Int):Int) !=(b.length:Int))=false->Zd (AW (Z0 Z1L) Tryz.f177 Z9K [1,1,0,1,0,0]) (Z2O a b f 0) (xB 0 (SW (Z0 Z1L) Tryz.f177 Z9K [1,1,1] Q)))):
  ZHZ a b f Q:=by
 have e_:(ZHZ a b f Q)=((((a.length:Int) !=(b.length:Int))=true->(Q .ret (L2 [pB 6 false] [])))/\(((a.length:Int) !=(b.length:Int))=false->(Zd (Zmk (cd Tryz.f177 [1,1,0,1,0,0])) (Z2O a b f 0) (xB 0 (Zkz (cd Tryz.f177 [1,1,1]) Q))))):=V4
 exact e_.mpr ⟨fun c_4=> (h.1 c_4),fun c_4=> (h.2 c_4)⟩
abbrev ZrP(a b:List Tree)(f:Unit)(x17:Int)(N0:NT)(Q:QT):=AW (Z0 Z1L) Tryz.f177 Z9K [1,1,0,1,0,0] (Z2O a b f x17) (xT N0 (xB 0 (SW (Z0 Z1L) Tryz.f177 Z9K [1,1,1] Q)))
theorem ZtJ(a b:List Tree)(f:Unit)(x17:Int)(N0:NT)(Q:QT)(h:((decide (x17 < (a.length:Int)))=true->((0:Int)<=x17/\x17 < (a.length:Int))/\(((0:Int)<=x17/\x17 < (b.length:Int))/\((Z23 ((Tree.mk (Tree.kind (a.getD x17.toNat Tree.nil)) (Tree.words (a.getD x17.toNat Tree.nil)) (Tree.kids (a.getD x17.toNat Tree.nil))),(Tree.mk (Tree.kind (b.getD x17.toNat Tree.nil)) (Tree.words (b.getD x17.toNat Tree.nil)) (Tree.kids (b.getD x17.toNat Tree.nil))),()))/\(((!(ZU (Z4 (Tree.mk (Tree.kind (a.getD x17.toNat Tree.nil)) (Tree.words (a.getD x17.toNat Tree.nil)) (Tree.kids (a.getD x17.toNat Tree.nil)))) (Z4 (Tree.mk (Tree.kind (b.getD x17.toNat Tree.nil)) (Tree.words (b.getD x17.toNat Tree.nil)) (Tree.kids (b.getD x17.toNat Tree.nil))))))=true->Q .ret (L2 [pB 6 false] []))/\((!(ZU (Z4 (Tree.mk (Tree.kind (a.getD x17.toNat Tree.nil)) (Tree.words (a.getD x17.toNat Tree.nil)) (Tree.kids (a.getD x17.toNat Tree.nil)))) (Z4 (Tree.mk (Tree.kind (b.getD x17.toNat Tree.nil)) (Tree.words (b.getD x17.toNat Tree.nil)) (Tree.kids (b.getD x17.toNat Tree.nil))))))=false->(InR (x17+1))/\(N0 (Z2O a b f (x17+1))))))))/\((decide (x17 < (a.length:Int)))=false->Q .ret (L2 [pB 6 true] []))):
  ZrP a b f x17 N0 Q:=by
 have e_:(ZrP a b f x17 N0 Q)=(let zz0:=(!(ZU (Z4 (Tree.mk (Tree.kind (a.getD x17.toNat Tree.nil)) (Tree.words (a.getD x17.toNat Tree.nil)) (Tree.kids (a.getD x17.toNat Tree.nil)))) (Z4 (Tree.mk (Tree.kind (b.getD x17.toNat Tree.nil)) (Tree.words (b.getD x17.toNat Tree.nil)) (Tree.kids (b.getD x17.toNat Tree.nil))))));(((decide ((x17:Int) < (a.length:Int)))=true->((0:Int)<=x17/\x17 < (a.length:Int))/\(((0:Int)<=x17/\x17 < (b.length:Int))/\((Z23 ((Tree.mk (Tree.kind (a.getD x17.toNat Tree.nil)) (Tree.words (a.getD x17.toNat Tree.nil)) (Tree.kids (a.getD x17.toNat Tree.nil))),(Tree.mk (Tree.kind (b.getD x17.toNat Tree.nil)) (Tree.words (b.getD x17.toNat Tree.nil)) (Tree.kids (b.getD x17.toNat Tree.nil))),()))/\((zz0=true->(Q .ret (L2 [pB 6 false] [])))/\(zz0=false->(InR ((x17:Int)+1))/\(N0 (Z2O a b f ((x17:Int)+1))))))))/\((decide ((x17:Int) < (a.length:Int)))=false->(Q .ret (L2 [pB 6 true] []))))):=V4
 exact e_.mpr ⟨fun c_5=> ⟨(h.1 c_5).1,⟨(h.1 c_5).2.1,⟨(h.1 c_5).2.2.1,⟨fun c_6=> ((h.1 c_5).2.2.2.1 c_6),fun c_6=> ⟨((h.1 c_5).2.2.2.2 c_6).1,((h.1 c_5).2.2.2.2 c_6).2⟩⟩⟩⟩⟩,fun c_5=> (h.2 c_5)⟩
def ZBa(a b:List Tree)(f:Unit):Prop:=AW (Z0 Z1L) Tryz.f177 Z9K [] (Zh (Zre.can (a,b,f,())) []) (EQ Tryz.f177 (ZuT (a,b,f,())) [])
theorem Zzk(ZcL:CT 114 JR)(hb:∀ (a:List Tree) (b:List Tree) (f:Unit) (_:Unit),Z8i (a,b,f,())->ZBa a b f):CT 177 Z11:=
 Z1 (l:=[(114,JR)]) Zi rfl (⟨ZcL,trivial⟩) Z9K Tryz.func177 rfl rfl 3 (fun _=> rfl) V1 (fun ⟨a,b,f,_⟩=> hb a b f ())
end
end
theorem ZjO:Contract Tryz.prog cfg 177 Z11:=by
 refine Zzk ZcL ?_
 intro a b f _ hp
 simp only [Z8i] at hp
 refine ZGx a b f _ ?_
 (simp only [iB,vcS])
 refine ⟨fun hc=> Zf rfl (Z3U (a:=Z8 a) (b:=Z8 b) (fun h=> hc (by have:=congrArg List.length h;simp [Z8] at this;omega))).symm,fun hc=> ?_⟩
 have hl:a.length=b.length:=YS
 have hla:=Zq a
 refine Z5 (ι:=Int) (fun i=> Z2O a b f i) (fun i=> 0<=i/\i<=a.length/\∀ j:Nat,(j:Int) < i->Z4 (a.getD j Tree.nil)=Z4 (b.getD j Tree.nil)) (fun i=> ((a.length:Int) - i).toNat) 0 rfl ⟨YS,YS,by intro j hj;omega⟩ ?_
 rintro i ⟨h1,h2,h3⟩
 refine ZtJ a b f _ _ _ ?_
 (simp only [iB,vcS])
 (simp only [Tree.eta,Edit.eta,Tree.kind_mk,Tree.words_mk,Tree.kids_mk])
 refine ⟨fun hi=> ⟨⟨h1,hi⟩,⟨h1,YS⟩,?_,fun hq=> ?_,fun hq=> ⟨V3,i+1,rfl,⟨YS,YS,?_⟩,YS⟩⟩,fun hi=> ?_⟩
 .have:=YN (Ze (l:=a) (i:=i.toNat) YS Tree.nil)
  have:=YN (Ze (l:=b) (i:=i.toNat) YS Tree.nil)
  simp only [Z23];omega
 .refine Zf rfl (Z3U (a:=Z8 a) (b:=Z8 b) (fun h=> ?_)).symm
  have h5:=Zct (d:=Tree.nil) h i.toNat
  rw [J0] at hq
  exact hq h5
 .intro j hj
  by_cases hj2:(j:Int) < i
  .exact h3 j hj2
  .rw [J4,show i.toNat=j by omega] at hq
   exact hq
 .exact Zf rfl (YO (a:=Z8 a) (b:=Z8 b).2 (Zcf Tree.nil hl (fun j hj=> h3 j YS))).symm
noncomputable section
def Z9m(a:List Int × Unit):List Int:=a.1
def Z45:Fs U:=fsL Zxw (fun a=> [Zl5 a]) .u64 Z9m
def Zf8(a:List Tree × Unit):Prop:=a.1.length<=1000000000000
def Zdo(a:List Tree × Unit):List Tree:=a.1
def Z6w:Fs U:=fsL Zrd (fun a=> [Zf8 a]) .tree Zdo
def ZbC:ArgL (Edit × Tree × Unit):=(.cons (aEl .edit) (.cons (aEl .tree) .nil))
def Z4c(a:Edit × Tree × Unit):Prop:=(Z3 a.1<=20000000000/\J8 a.1/\∃ d,Zb a.1 d=true)/\Zm a.2.1+ctE a.1<=200000000000/\rng a.2.1
def Zgr(a:Edit × Tree × Unit):Nat:=2*Z3 a.1+1
def Z5J(a:Edit × Tree × Unit):V U:= .tup [(true,(enc .tree (ZcD a.1 a.2.1))),(false,[.bool ((doE false a.1 a.2.1).isSome)])]
def ZaC:Fs U:=fs ZbC (fun a=> [Z4c a]) Z5J
def Z52(a:Edit × Tree × Unit):Prop:=Edit.kind a.1=2/\(Z3 a.1<=20000000000/\J8 a.1/\∃ d,Zb a.1 d=true)/\Zm a.2.1+ctE a.1<=200000000000/\rng a.2.1
def Zca(a:Edit × Tree × Unit):Nat:=2*Z3 a.1
def Z4V(a:Edit × Tree × Unit):V U:= .tup [(true,(enc .tree (Z0O (Z2U false a.1 a.2.1)))),(false,[.bool ((Z2U false a.1 a.2.1).isSome)])]
def ZoA:Fs U:=fs ZbC (fun a=> [Z52 a]) Z4V
def Z51(a:Edit × Tree × Unit):Prop:=Edit.kind a.1=3/\(Z3 a.1<=20000000000/\J8 a.1/\∃ d,Zb a.1 d=true)/\Zm a.2.1+ctE a.1<=200000000000/\rng a.2.1
def Z4U(a:Edit × Tree × Unit):V U:= .tup [(true,(enc .tree (Zjb a.1 (Z0o false a.1 a.2.1)))),(false,[.bool ((Z3l (Z0o false a.1 a.2.1)).isSome)])]
def Zoz:Fs U:=fs ZbC (fun a=> [Z51 a]) Z4U
def Znt:Zc U:=lvk [([0],[]),([0,4],[]),([(2,[.wr .u64])],[]),([(2,[.wr .u64])],[])]
abbrev ZIu(p:List Nat):=AW (Z3d ZnJ) Tryz.f117 Znt p
theorem ZCZ(l:List Int)(Q:QT)(h:(((l=[])->(Q .ret (⟨[(2,.c (.mref (.e 2 0)))],[],[(.e 2 0,LC.mk (U:=U) .u64 [] 0)]⟩:LSt U)))/\(True->((([]:List Int).length+l.length)*8<=140737488355328)/\(Q .ret (⟨[(2,.c (.mref (.e 2 0)))],[],[(.e 2 0,LC.mk (U:=U) .u64 (([]:List Int)++l) (([]:List Int).length))]⟩:LSt U))))):
  ZIu [] (L2 [(0,.c (sU .u64 l .unk))] []) Q:=
 Eq.mpr V4 h
def ZxU(l:List Int):Prop:=AW (Z3d ZnJ) Tryz.f117 Znt [] (Zh (Zxw.can (l,())) []) (Z09 cfg Tryz.f117.ntmps Tryz.f117.results.toList (.c (.mref (.r 0 0))) [] [(.r 0 0,LC.mk (U:=U) .u64 (Z9m (l,())) 0)])
theorem ZvY(hb:∀ (l:List Int) (_:Unit),Zl5 (l,())->ZxU l):CT 117 Z45:=
 Z1e (l:=[]) Zi rfl trivial Znt Tryz.func117 rfl rfl 1 (fun _=> rfl) V1 (fun ⟨l,_⟩=> hb l ())
def Zwh:Zc U:=lvk [([0],[]),([0,4],[]),([(2,[.wr .tree])],[]),([(2,[.wr .tree])],[])]
abbrev ZJn(p:List Nat):=AW (Z3d ZnJ) Tryz.f175 Zwh p
theorem ZGz(l:List Tree)(Q:QT)(h:(((l=[])->(Q .ret (⟨[(2,.c (.mref (.e 2 0)))],[],[(.e 2 0,LC.mk (U:=U) .tree [] 0)]⟩:LSt U)))/\(True->((([]:List Tree).length+l.length)*56<=140737488355328)/\(Q .ret (⟨[(2,.c (.mref (.e 2 0)))],[],[(.e 2 0,LC.mk (U:=U) .tree (([]:List Tree)++l) (([]:List Tree).length))]⟩:LSt U))))):
  ZJn [] (L2 [(0,.c (sU .tree l .unk))] []) Q:=
 Eq.mpr V4 h
def ZBc(l:List Tree):Prop:=AW (Z3d ZnJ) Tryz.f175 Zwh [] (Zh (Zrd.can (l,())) []) (Z09 cfg Tryz.f175.ntmps Tryz.f175.results.toList (.c (.mref (.r 0 0))) [] [(.r 0 0,LC.mk (U:=U) .tree (Zdo (l,())) 0)])
theorem Zzm(hb:∀ (l:List Tree) (_:Unit),Zf8 (l,())->ZBc l):CT 175 Z6w:=
 Z1e (l:=[]) Zi rfl trivial Zwh Tryz.func175 rfl rfl 1 (fun _=> rfl) V1 (fun ⟨l,_⟩=> hb l ())
def Zbm(N:Nat):List (FuncId × Fs U):=(74,fs ZbC (fun a=> [Z4c a,Zgr a < N]) Z5J) ::(115,fs ZbC (fun a=> [Z52 a,Zca a < N]) Z4V) ::(116,fs ZbC (fun a=> [Z51 a,Zca a < N]) Z4U) ::[(114,JR),(173,Z2i),(174,Z2h),(177,Z11),(175,Z6w),(176,JQ),(117,Z45)]
def ZDR:Zc U:=lvl [([2,3,4],[2,3,4]),([2,3,4,7],[2,3,4]),([2,3,4,7,8],[2,3,4]),([4,5],[4]),([2,3,4,7,11],[2,3,4]),([4,5],[4]),([2,3,4,7,19],[2,3,4]),([4,5],[4]),([2,3,4,26],[2,3,4]),([4,5],[4]),([4,5],[4])]
abbrev A74(N:Nat)(p:List Nat):=AW (Z0 (Zbm N)) Tryz.f74 ZDR p
theorem ZID(N:Nat)(e:Edit)(t:Tree)(Q:QT)(h:∀ y_1,y_1=e->∀ y_2,y_2=t->∀ y_3,y_3=(e.old)->(iB (e.kind==0) ((Q .ret (L2 [pL 4,pB 5 true] [(.loc 4,(enc .tree t))]))) ((iB (e.kind==1) ((Z23 (y_3,y_2,()))/\(Q .ret (L2 [pL 4,pB 5 (ZU (Z4 y_3) (Z4 y_2))] [(.loc 4,(enc .tree e.new))]))) ((iB (e.kind==2) ((Z52 (y_1,y_2,()))/\(Zca (y_1,y_2,()) < N)/\(Q .ret (L2 [pL 4,pB 5 ((Z2U false y_1 y_2).isSome)] [(.loc 4,(enc .tree (Z0O (Z2U false y_1 y_2))))]))) ((iB (e.kind==3) ((Z51 (y_1,y_2,()))/\(Zca (y_1,y_2,()) < N)/\(Q .ret (L2 [pL 4,pB 5 ((Z3l (Z0o false y_1 y_2)).isSome)] [(.loc 4,(enc .tree (Zjb y_1 (Z0o false y_1 y_2))))]))) ((Q .ret (L2 [pL 4,pB 5 false] [(.loc 4,[ci 0,.nils,.nils])]))))))))))):
  A74 N [] (L2 [(0,.agg (enc .edit e)),(1,.agg (enc .tree t))] []) Q:=
 Eq.mpr V4 (h _ (Z7 _) _ (Za _) _ (Za _))
def ZFq(N:Nat)(e:Edit)(t:Tree):Prop:=AW (Z0 (Zbm N)) Tryz.f74 ZDR [] (Zh (ZbC.can (e,t,())) []) (EQ Tryz.f74 (Z5J (e,t,())) [])
abbrev ZIn:Prop:=∀ (N:Nat) (e:Edit) (t:Tree) (_:Unit),Z4c (e,t,())->Zgr (e,t,()) < N+1->ZFq N e t
def ZpL:Zc U:=lvk [([2,3,4],[2,3,4]),([2,3,4,16],[2,3,4]),([4,5],[4]),([2,3,4,6],[2,3,4,((.loc 6),[.any,.wr .u64,.wr .tree])]),([2,3,4,6,26,27,28],[2,3,4,((.loc 6),[.any,.wr .u64,.wr .tree])]),([2,3,4,6,26,27,28,29],[2,3,4,((.loc 6),[.any,.wr .u64,.wr .tree])]),([2,3,4,6,8,26,27,28],[2,3,4,((.loc 6),[.any,.wr .u64,.wr .tree]),8]),([2,3,4,6,8,9,26,27,28],[2,3,4,((.loc 6),[.any,.wr .u64,.wr .tree]),8]),([2,3,4,6,8,9,26,27,28,42],[2,3,4,((.loc 6),[.any,.wr .u64,.wr .tree]),8]),([4,5],[4]),([2,3,4,6,8,9,26,27,28,42,49],[2,3,4,((.loc 6),[.any,.wr .u64,.wr .tree]),8]),([2,3,4,6,8,9,26,27,28,42],[2,3,4,((.loc 6),[.any,.wr .u64,.wr .tree]),8]),([2,3,4,6,26,27,28],[2,3,4,((.loc 6),[.any,.wr .u64,.wr .tree])]),([2,3,4,6,26,27,28],[2,3,4,((.loc 6),[.any,.wr .u64,.wr .tree])]),([3,4,6,68,69,70],[3,4,((.loc 6),[.any,.wr .u64,.wr .tree])]),([3,4,6,68,69,70,71],[3,4,((.loc 6),[.any,.wr .u64,.wr .tree])]),([3,4,6,11,68,69,70],[3,4,((.loc 6),[.any,.wr .u64,.wr .tree]),11]),([3,4,6,11,12,13,68,69,70],[3,4,((.loc 6),[.any,.wr .u64,.wr .tree]),11,12]),([3,4,6,11,12,68,69,70,85],[3,4,((.loc 6),[.any,.wr .u64,.wr .tree]),11,12]),([4,5],[4]),([3,4,6,11,12,68,69,70,85,92],[3,4,((.loc 6),[.any,.wr .u64,.wr .tree]),11,12]),([3,4,6,11,12,68,69,70,85],[3,4,((.loc 6),[.any,.wr .u64,.wr .tree]),11,12]),([3,4,6,68,69,70],[3,4,((.loc 6),[.any,.wr .u64,.wr .tree])]),([3,4,6,68,69,70],[3,4,((.loc 6),[.any,.wr .u64,.wr .tree])]),([4,5],[4])]
def Z7o(e:Edit)(t:Tree)(x28:Int)(rl_6_1:List Int):LSt U:=(⟨[pL 2,pL 3,pL 4,pL 6,(26,.c (sU .wedit e.words .unk)),pI 27 (e.words.length:Int),pI 28 x28],[(.loc 2,(enc .edit e)),(.loc 3,(enc .tree t)),(.loc 4,[ci 0,.nils,.nils]),(.loc 6,[ci 1,.mref (.l 6 1),.mref (.l 6 2)])],[(.l 6 1,LC.mk (U:=U) .u64 rl_6_1 0),(.l 6 2,LC.mk (U:=U) .tree t.kids 0)]⟩:LSt U)
def Z7n(e:Edit)(t:Tree)(x28:Int)(rl_6_1_a:List Int):LSt U:=(⟨[pL 2,pL 3,pL 4,pL 6,pL 8,(9,.c (.int .u64 (YF (Tree.mk t.kind t.words t.kids) (WEdit.at_ (e.words.getD x28.toNat (WEdit.mk 0 0 0 0)))))),(26,.c (sU .wedit e.words .unk)),pI 27 (e.words.length:Int),pI 28 x28,(42,.c (.bool (((mix 0 (YF (Tree.mk t.kind t.words t.kids) (WEdit.at_ (e.words.getD x28.toNat (WEdit.mk 0 0 0 0)))) (WEdit.mask (e.words.getD x28.toNat (WEdit.mk 0 0 0 0)))):Int) !=(WEdit.old (e.words.getD x28.toNat (WEdit.mk 0 0 0 0))))))],[(.loc 2,(enc .edit e)),(.loc 3,(enc .tree t)),(.loc 4,[ci 0,.nils,.nils]),(.loc 6,[ci 1,.mref (.l 6 1),.mref (.l 6 2)]),(.loc 8,(enc .wedit (e.words.getD x28.toNat (WEdit.mk 0 0 0 0))))],[(.l 6 1,LC.mk (U:=U) .u64 rl_6_1_a 0),(.l 6 2,LC.mk (U:=U) .tree t.kids 0)]⟩:LSt U)
def Z7m(e:Edit)(t:Tree)(rl_6_1:List Int)(x70_b:Int)(rl_6_2_b:List Tree):LSt U:=(⟨[pL 3,pL 4,pL 6,(68,.c (sU .kid e.kids .unk)),pI 69 (e.kids.length:Int),pI 70 x70_b],[(.loc 3,(enc .tree t)),(.loc 4,[ci 0,.nils,.nils]),(.loc 6,[ci 1,.mref (.l 6 1),.mref (.l 6 2)])],[(.l 6 1,LC.mk (U:=U) .u64 rl_6_1 0),(.l 6 2,LC.mk (U:=U) .tree rl_6_2_b 0)]⟩:LSt U)
def Z7l(e:Edit)(t:Tree)(rl_6_1:List Int)(x70_b:Int)(rl_6_2_c:List Tree):LSt U:=(⟨[pL 3,pL 4,pL 6,pL 11,pL 12,(68,.c (sU .kid e.kids .unk)),pI 69 (e.kids.length:Int),pI 70 x70_b,(85,.c (.bool (!((doE false (Edit.mk (Edit.kind (KidOf.e (e.kids.getD x70_b.toNat (KidOf.mk 0 Edit.nil)))) (Tree.mk (Tree.kind (Edit.old (KidOf.e (e.kids.getD x70_b.toNat (KidOf.mk 0 Edit.nil))))) (Tree.words (Edit.old (KidOf.e (e.kids.getD x70_b.toNat (KidOf.mk 0 Edit.nil))))) (Tree.kids (Edit.old (KidOf.e (e.kids.getD x70_b.toNat (KidOf.mk 0 Edit.nil)))))) (Tree.mk (Tree.kind (Edit.new (KidOf.e (e.kids.getD x70_b.toNat (KidOf.mk 0 Edit.nil))))) (Tree.words (Edit.new (KidOf.e (e.kids.getD x70_b.toNat (KidOf.mk 0 Edit.nil))))) (Tree.kids (Edit.new (KidOf.e (e.kids.getD x70_b.toNat (KidOf.mk 0 Edit.nil)))))) (Edit.words (KidOf.e (e.kids.getD x70_b.toNat (KidOf.mk 0 Edit.nil)))) (Edit.kids (KidOf.e (e.kids.getD x70_b.toNat (KidOf.mk 0 Edit.nil)))) (Edit.list (KidOf.e (e.kids.getD x70_b.toNat (KidOf.mk 0 Edit.nil)))) (Edit.ops (KidOf.e (e.kids.getD x70_b.toNat (KidOf.mk 0 Edit.nil))))) (Tree.mk (Tree.kind (JC (Tree.mk t.kind t.words t.kids) (KidOf.at_ (e.kids.getD x70_b.toNat (KidOf.mk 0 Edit.nil))))) (Tree.words (JC (Tree.mk t.kind t.words t.kids) (KidOf.at_ (e.kids.getD x70_b.toNat (KidOf.mk 0 Edit.nil))))) (Tree.kids (JC (Tree.mk t.kind t.words t.kids) (KidOf.at_ (e.kids.getD x70_b.toNat (KidOf.mk 0 Edit.nil))))))).isSome))))],[(.loc 3,(enc .tree t)),(.loc 4,[ci 0,.nils,.nils]),(.loc 6,[ci 1,.mref (.l 6 1),.mref (.l 6 2)]),(.loc 11,(enc .kid (e.kids.getD x70_b.toNat (KidOf.mk 0 Edit.nil)))),(.loc 12,(enc .tree (ZcD (Edit.mk (Edit.kind (KidOf.e (e.kids.getD x70_b.toNat (KidOf.mk 0 Edit.nil)))) (Tree.mk (Tree.kind (Edit.old (KidOf.e (e.kids.getD x70_b.toNat (KidOf.mk 0 Edit.nil))))) (Tree.words (Edit.old (KidOf.e (e.kids.getD x70_b.toNat (KidOf.mk 0 Edit.nil))))) (Tree.kids (Edit.old (KidOf.e (e.kids.getD x70_b.toNat (KidOf.mk 0 Edit.nil)))))) (Tree.mk (Tree.kind (Edit.new (KidOf.e (e.kids.getD x70_b.toNat (KidOf.mk 0 Edit.nil))))) (Tree.words (Edit.new (KidOf.e (e.kids.getD x70_b.toNat (KidOf.mk 0 Edit.nil))))) (Tree.kids (Edit.new (KidOf.e (e.kids.getD x70_b.toNat (KidOf.mk 0 Edit.nil)))))) (Edit.words (KidOf.e (e.kids.getD x70_b.toNat (KidOf.mk 0 Edit.nil)))) (Edit.kids (KidOf.e (e.kids.getD x70_b.toNat (KidOf.mk 0 Edit.nil)))) (Edit.list (KidOf.e (e.kids.getD x70_b.toNat (KidOf.mk 0 Edit.nil)))) (Edit.ops (KidOf.e (e.kids.getD x70_b.toNat (KidOf.mk 0 Edit.nil))))) (Tree.mk (Tree.kind (JC (Tree.mk t.kind t.words t.kids) (KidOf.at_ (e.kids.getD x70_b.toNat (KidOf.mk 0 Edit.nil))))) (Tree.words (JC (Tree.mk t.kind t.words t.kids) (KidOf.at_ (e.kids.getD x70_b.toNat (KidOf.mk 0 Edit.nil))))) (Tree.kids (JC (Tree.mk t.kind t.words t.kids) (KidOf.at_ (e.kids.getD x70_b.toNat (KidOf.mk 0 Edit.nil)))))))))],[(.l 6 1,LC.mk (U:=U) .u64 rl_6_1 0),(.l 6 2,LC.mk (U:=U) .tree rl_6_2_c 0)]⟩:LSt U)
abbrev Zkc(N:Nat)(p:List Nat):=AW (Z0 (Zbm N)) Tryz.f115 ZpL p
abbrev Z7Q(N:Nat)(p:List Nat):=SW (Z0 (Zbm N)) Tryz.f115 ZpL p
theorem ZH9(N:Nat)(e:Edit)(t:Tree)(Q:QT)(h:(iB (t.kind !=1) ((Q .ret (L2 [pL 4,pB 5 false] [(.loc 4,[ci 0,.nils,.nils])]))) ((Zl5 (t.words,()))/\(Zf8 (t.kids,()))/\(Zd (Zkc N [1,1,1,0,1,0,0]) (Z7o e t 0 t.words) (xB 0 (Z7Q N [1,1,1,1] Q)))))):
  Zkc N [] (L2 [(0,.agg (enc .edit e)),(1,.agg (enc .tree t))] []) Q:=
 Eq.mpr V4 h
theorem Zu7(N:Nat)(e:Edit)(t:Tree)(x28:Int)(rl_6_1:List Int)(N0:NT)(Q:QT)(h:∀ y_1,y_1=t->∀ y_2,y_2=(e.words.getD x28.toNat (WEdit.mk 0 0 0 0))->(iB (decide (x28 < (e.words.length:Int))) (((0:Int)<=x28/\x28 < (e.words.length:Int))/\((ZaT (y_1,y_2.at_,()))/\((Z13 (0,(YF y_1 y_2.at_),y_2.mask,()))/\(iB (((mix 0 (YF y_1 y_2.at_) y_2.mask):Int) !=y_2.old) ((Q .ret (L2 [pL 4,pB 5 false] [(.loc 4,[ci 0,.nils,.nils])]))) (Zd (Zkc N [1,1,1,0,1,0,0,1,1,0,0,1,1,1,0,0,0]) (Z7n e t x28 rl_6_1) (xB 2 (Z7Q N [1,1,1,0,1,0,0,1,1,0,0,1,1,1,1] (xB 1 (Z7Q N [1,1,1,0,1,0,0,1,1,1] (xT N0 (xB 0 (Z7Q N [1,1,1,1] Q)))))))))))) ((Zd (Zkc N [1,1,1,1,0,1,0,0]) (Z7m e t rl_6_1 0 t.kids) (xB 4 (Z7Q N [1,1,1,1,1] Q)))))):
  Zkc N [1,1,1,0,1,0,0] (Z7o e t x28 rl_6_1) (xT N0 (xB 0 (Z7Q N [1,1,1,1] Q))):=
 Eq.mpr V4 (h _ (Za _) _ rfl)
theorem Zu6(N:Nat)(e:Edit)(t:Tree)(x28:Int)(rl_6_1_a:List Int)(N1 N0:NT)(Q:QT)(h:let z0:=e.words.getD x28.toNat (WEdit.mk 0 0 0 0);let z1:=YF (Tree.mk t.kind t.words t.kids) (WEdit.at_ z0);(iB (decide (((rl_6_1_a.length:Int):Int)<=(WEdit.at_ z0))) (((rl_6_1_a.length+([0]).length)*8<=140737488355328)/\(N1 (Z7n e t x28 (rl_6_1_a++([0]))))) ((Z13 (z1,(WEdit.new z0),(WEdit.mask z0),()))/\((0:Int)<=(WEdit.at_ z0)/\(WEdit.at_ z0) < (rl_6_1_a.length:Int))/\((0:Nat)<=(Int.toNat (WEdit.at_ z0)))/\((InR (x28+1))/\(N0 (Z7o e t (x28+1) (List.set rl_6_1_a (Int.toNat (WEdit.at_ z0)) (mix z1 (WEdit.new z0) (WEdit.mask z0))))))))):
  Zkc N [1,1,1,0,1,0,0,1,1,0,0,1,1,1,0,0,0] (Z7n e t x28 rl_6_1_a) (xT N1 (xB 2 (Z7Q N [1,1,1,0,1,0,0,1,1,0,0,1,1,1,1] (xB 1 (Z7Q N [1,1,1,0,1,0,0,1,1,1] (xT N0 (xB 0 (Z7Q N [1,1,1,1] Q)))))))):=
 Eq.mpr V4 h
theorem Zu5(N:Nat)(e:Edit)(t:Tree)(rl_6_1:List Int)(x70_b:Int)(rl_6_2_b:List Tree)(N2:NT)(Q:QT)(h:∀ y_1,y_1=t->∀ y_2,y_2=(e.kids.getD x70_b.toNat (KidOf.mk 0 Edit.nil))->∀ y_3,y_3=(y_2.e)->∀ y_4,y_4=(JC y_1 y_2.at_)->(iB (decide (x70_b < (e.kids.length:Int))) (((0:Int)<=x70_b/\x70_b < (e.kids.length:Int))/\((ZaT (y_1,y_2.at_,()))/\(Z4c (y_3,y_4,()))/\(Zgr (y_3,y_4,()) < N)/\(iB (!((doE false y_3 y_4).isSome)) ((Q .ret (L2 [pL 4,pB 5 false] [(.loc 4,[ci 0,.nils,.nils])]))) (Zd (Zkc N [1,1,1,1,0,1,0,0,1,1,0,0,1,1,1,0,0,0]) (Z7l e t rl_6_1 x70_b rl_6_2_b) (xB 6 (Z7Q N [1,1,1,1,0,1,0,0,1,1,0,0,1,1,1,1] (xB 5 (Z7Q N [1,1,1,1,0,1,0,0,1,1,1] (xT N2 (xB 4 (Z7Q N [1,1,1,1,1] Q))))))))))) ((Q .ret (L2 [pL 4,pB 5 true] [(.loc 4,[ci 1,sU .u64 rl_6_1 (.own (.l 4 1)),sU .tree rl_6_2_b (.own (.l 4 2))])]))))):
  Zkc N [1,1,1,1,0,1,0,0] (Z7m e t rl_6_1 x70_b rl_6_2_b) (xT N2 (xB 4 (Z7Q N [1,1,1,1,1] Q))):=
 Eq.mpr V4 (h _ (Za _) _ rfl _ (Z7 _) _ (Za _))
theorem Zu4(N:Nat)(e:Edit)(t:Tree)(rl_6_1:List Int)(x70_b:Int)(rl_6_2_c:List Tree)(N3 N2:NT)(Q:QT)(h:∀ y_1,y_1=t->∀ y_2,y_2=(e.kids.getD x70_b.toNat (KidOf.mk 0 Edit.nil))->∀ y_3,y_3=(y_2.e)->∀ y_4,y_4=(JC y_1 y_2.at_)->∀ y_5,y_5=(ZcD y_3 y_4)->(iB (decide (((rl_6_2_c.length:Int):Int)<=y_2.at_)) (((rl_6_2_c.length+([(Tree.mk 0 [] [])]).length)*56<=140737488355328)/\(N3 (Z7l e t rl_6_1 x70_b (rl_6_2_c++([(Tree.mk 0 [] [])]))))) (((0:Int)<=y_2.at_/\y_2.at_ < (rl_6_2_c.length:Int))/\((0:Nat)<=(Int.toNat y_2.at_))/\((InR (x70_b+1))/\(N2 (Z7m e t rl_6_1 (x70_b+1) (List.set rl_6_2_c (Int.toNat y_2.at_) y_5))))))):
  Zkc N [1,1,1,1,0,1,0,0,1,1,0,0,1,1,1,0,0,0] (Z7l e t rl_6_1 x70_b rl_6_2_c) (xT N3 (xB 6 (Z7Q N [1,1,1,1,0,1,0,0,1,1,0,0,1,1,1,1] (xB 5 (Z7Q N [1,1,1,1,0,1,0,0,1,1,1] (xT N2 (xB 4 (Z7Q N [1,1,1,1,1] Q)))))))):=
 Eq.mpr V4 (h _ (Za _) _ rfl _ (Z7 _) _ (Za _) _ (Za _))
def ZBM(N:Nat)(e:Edit)(t:Tree):Prop:=AW (Z0 (Zbm N)) Tryz.f115 ZpL [] (Zh (ZbC.can (e,t,())) []) (EQ Tryz.f115 (Z4V (e,t,())) [])
abbrev ZCM:Prop:=∀ (N:Nat) (e:Edit) (t:Tree) (_:Unit),Z52 (e,t,())->Zca (e,t,()) < N+1->ZBM N e t
def ZpK:Zc U:=lvk [([2,3,4],[2,3,4]),([2,3,4,18],[2,3,4]),([4,5],[4]),([2,3,4,6],[2,3,4,6]),([2,4,6,7],[2,4,6]),([4,6,7,26,27,28],[4,((.loc 6),[.any,.any,.own .tree])]),([4,6,7,26,27,28,29],[4,6]),([4,6,7,9,26,27,28],[4,6,9]),([4,6,7,9,10,26,27,28],[4,6,9]),([4,6,7,9,10,26,27,28,35],[4,6,9]),([4,6,7,9,10,26,27,28,35,36],[4,6,9]),([4,6,7,26,27,28,97],[4,6]),([4,6,7,9,10,26,27,28,35,44],[4,6,9]),([4,6,7,9,10,26,27,28,49],[4,6,9]),([4,6,7,9,10,26,27,28,49],[4,6,9]),([4,6,7,9,10,26,27,28,49],[4,6,9]),([4,6,7,9,10,26,27,28,54],[4,6,9]),([4,5],[4]),([4,6,7,9,10,26,27,28],[4,6,9]),([4,6,7,9,11,26,27,28],[4,6,9]),([4,6,7,12,13,26,27,28],[4,6,12]),([4,6,7,12,26,27,28,72],[4,6,12]),([4,5],[4]),([4,6,7,26,27,28,97],[4,6]),([4,6,7,9,11,26,27,28,80],[4,6,9]),([4,6,7,26,27,28,97],[4,6]),([4,6,7,9,11,26,27,28,89],[4,6,9]),([4,6,7,26,27,28,97],[4,6]),([4,5],[4]),([4,6,7,26,27,28],[4,((.loc 6),[.any,.any,.own .tree])]),([4,5],[4])]
def Z1C(e:Edit)(t:Tree)(x28:Int)(x7 ml6_2:List Tree):LSt U:=(L2 [pL 4,pL 6,(7,.c (sU .tree x7 .unk)),(26,.c (sU .op e.ops .unk)),pI 27 (e.ops.length:Int),pI 28 x28] [(.loc 4,[ci 0,.nils,.nils]),(.loc 6,[ci t.kind,.nils,sU .tree ml6_2 (.own (.l 6 2))])])
def Z2R(e:Edit)(t:Tree)(x28:Int)(x7_a ml6_2_a:List Tree)(v97_a:V U):LSt U:=(L2 [pL 4,pL 6,(7,.c (sU .tree x7_a .unk)),(26,.c (sU .op e.ops .unk)),pI 27 (e.ops.length:Int),pI 28 x28,(97,v97_a)] [(.loc 4,[ci 0,.nils,.nils]),(.loc 6,[ci t.kind,.nils,sU .tree ml6_2_a (.own (.l 6 2))])])
def Z7k(e:Edit)(t:Tree)(x28:Int)(x7 ml6_2:List Tree)(x10_b:Int)(v49_b:V U):LSt U:=(L2 [pL 4,pL 6,(7,.c (sU .tree x7 .unk)),pL 9,pI 10 x10_b,(26,.c (sU .op e.ops .unk)),pI 27 (e.ops.length:Int),pI 28 x28,(49,v49_b)] [(.loc 4,[ci 0,.nils,.nils]),(.loc 6,[ci t.kind,.nils,sU .tree ml6_2 (.own (.l 6 2))]),(.loc 9,(enc .op (e.ops.getD x28.toNat Op.nil)))])
abbrev ZbF(N:Nat)(p:List Nat):=AW (Z0 (Zbm N)) Tryz.f116 ZpK p
abbrev Zka(N:Nat)(p:List Nat):=SW (Z0 (Zbm N)) Tryz.f116 ZpK p
theorem ZH8(N:Nat)(e:Edit)(t:Tree)(Q:QT)(h:(iB (t.kind !=e.list) ((Q .ret (L2 [pL 4,pB 5 false] [(.loc 4,[ci 0,.nils,.nils])]))) ((Zd (ZbF N [1,1,1,1,0,1,0,0]) (Z1C e t 0 t.kids []) (xB 0 (Zka N [1,1,1,1,1] Q)))))):
  ZbF N [] (L2 [(0,.agg (enc .edit e)),(1,.agg (enc .tree t))] []) Q:=
 Eq.mpr V4 h
theorem Zu2(N:Nat)(e:Edit)(t:Tree)(x28:Int)(x7 ml6_2:List Tree)(N0:NT)(Q:QT)(h:∀ y_1,y_1=(e.ops.getD x28.toNat Op.nil)->let z1:=xT N0 (xB 0 (Zka N [1,1,1,1,1] Q));let z0:=xB 1 (Zka N [1,1,1,1,0,1,0,0,1,1,1] z1);(iB (decide (x28 < (e.ops.length:Int))) (((0:Int)<=x28/\x28 < (e.ops.length:Int))/\(iB (y_1.kind==2) (((ml6_2.length+y_1.l.length)*56<=140737488355328)/\(ZbF N [1,1,1,1,0,1,0,0,1,1,1] (Z2R e t x28 x7 (ml6_2++y_1.l) .junk) z1)) ((iB (y_1.kind==1) ((ZbF N [1,1,1,1,0,1,0,0,1,1,0,0,1,1,1] (Z7k e t x28 x7 ml6_2 (y_1.l.length:Int) .junk) z0)) ((iB (y_1.kind==3) ((ZbF N [1,1,1,1,0,1,0,0,1,1,0,0,1,1,1] (Z7k e t x28 x7 ml6_2 1 (.c (.bool (y_1.kind==3)))) z0)) (ZbF N [1,1,1,1,0,1,0,0,1,1,0,0,1,1,1] (Z7k e t x28 x7 ml6_2 y_1.n (.c (.bool (y_1.kind==3)))) z0))))))) ((Q .ret (L2 [pL 4,pB 5 (((x7.length:Int):Int)==0)] [(.loc 4,[ci t.kind,.nils,sU .tree ml6_2 (.own (.l 4 2))])]))))):
  ZbF N [1,1,1,1,0,1,0,0] (Z1C e t x28 x7 ml6_2) (xT N0 (xB 0 (Zka N [1,1,1,1,1] Q))):=
 Eq.mpr V4 (h _ rfl)
theorem Zu3(N:Nat)(e:Edit)(t:Tree)(x28:Int)(x7_a ml6_2_a:List Tree)(v97_a:V U)(N0:NT)(Q:QT)(h:(InR (x28+1))/\(N0 (Z1C e t (x28+1) x7_a ml6_2_a))):
  ZbF N [1,1,1,1,0,1,0,0,1,1,1] (Z2R e t x28 x7_a ml6_2_a v97_a) (xT N0 (xB 0 (Zka N [1,1,1,1,1] Q))):=
 Eq.mpr V4 h
theorem ZdZ(N:Nat)(e:Edit)(t:Tree)(x28:Int)(x7 ml6_2:List Tree)(x10_b:Int)(v49_b:V U)(N0:NT)(Q:QT)(h:∀ y_1,y_1=(e.ops.getD x28.toNat Op.nil)->∀ y_2,y_2=(List.getD (List.take x10_b.toNat x7) (Int.toNat 0) Tree.nil)->∀ y_3,y_3=y_2->∀ y_4,y_4=(y_1.e)->∀ y_5,y_5=(eqX (Z8 y_1.l) (Z8 (List.take x10_b.toNat x7)))->∀ y_6,y_6=(ZcD y_4 y_3)->let z3:=List.drop x10_b.toNat x7;let z2:=List.take x10_b.toNat x7;let z1:=xT N0 (xB 0 (Zka N [1,1,1,1,1] Q));let z0:=(Q .ret (L2 [pL 4,pB 5 false] [(.loc 4,[ci 0,.nils,.nils])]));(iB (decide (((x7.length:Int):Int) < x10_b)) z0 ((((0:Int)<=x10_b/\x10_b<=(x7.length:Int))/\((0:Int)<=x10_b/\x10_b<=(x7.length:Int))/\(iB (y_1.kind==0) (((ml6_2.length+z2.length)*56<=140737488355328)/\(ZbF N [1,1,1,1,0,1,0,0,1,1,1] (Z2R e t x28 z3 (ml6_2++z2) .junk) z1)) ((iB (y_1.kind==1) ((Z8i (y_1.l,z2,(),()))/\(iB (!y_5) z0 (ZbF N [1,1,1,1,0,1,0,0,1,1,1] (Z2R e t x28 z3 ml6_2 (.c (.bool (!y_5)))) z1))) (((0:Int)<=0/\0 < (z2.length:Int))/\(Z4c (y_4,y_3,()))/\(Zgr (y_4,y_3,()) < N)/\(iB (!((doE false y_4 y_3).isSome)) z0 (((ml6_2.length+([y_6]).length)*56<=140737488355328)/\(ZbF N [1,1,1,1,0,1,0,0,1,1,1] (Z2R e t x28 z3 (ml6_2++([y_6])) .junk) z1))))))))))):
  ZbF N [1,1,1,1,0,1,0,0,1,1,0,0,1,1,1] (Z7k e t x28 x7 ml6_2 x10_b v49_b) (xB 1 (Zka N [1,1,1,1,0,1,0,0,1,1,1] (xT N0 (xB 0 (Zka N [1,1,1,1,1] Q))))):=
 Eq.mpr V4 (h _ rfl _ rfl _ (Za _) _ (Z7 _) _ rfl _ (Za _))
def ZBL(N:Nat)(e:Edit)(t:Tree):Prop:=AW (Z0 (Zbm N)) Tryz.f116 ZpK [] (Zh (ZbC.can (e,t,())) []) (EQ Tryz.f116 (Z4U (e,t,())) [])
abbrev ZCL:Prop:=∀ (N:Nat) (e:Edit) (t:Tree) (_:Unit),Z51 (e,t,())->Zca (e,t,()) < N+1->ZBL N e t
theorem ZyQ(ZcL:CT 114 JR)(Zt4:CT 173 Z2i)(Zt3:CT 174 Z2h)(ZjO:CT 177 Z11)(ZEy:CT 175 Z6w)(ZjP:CT 176 JQ)(Zxq:CT 117 Z45)(b74:ZIn)(ZF9:ZCM)(ZF8:ZCL):
  CT 74 ZaC/\CT 115 ZoA/\CT 116 Zoz:=by
 have h82 : ∃ fn, Tryz.prog.funcs[(74 : FuncId)]? = some fn ∧ fn.body.isSome = true ∧ (fn.name == "runtime.NumGoroutine") = false := ⟨Tryz.f74, Tryz.func74, rfl, rfl⟩
 have h113 : ∃ fn, Tryz.prog.funcs[(115 : FuncId)]? = some fn ∧ fn.body.isSome = true ∧ (fn.name == "runtime.NumGoroutine") = false := ⟨Tryz.f115, Tryz.func115, rfl, rfl⟩
 have h114 : ∃ fn, Tryz.prog.funcs[(116 : FuncId)]? = some fn ∧ fn.body.isSome = true ∧ (fn.name == "runtime.NumGoroutine") = false := ⟨Tryz.f116, Tryz.func116, rfl, rfl⟩
 have key:∀ N,CT 74 (fs ZbC (fun a=> [Z4c a,Zgr a < N]) Z5J)/\CT 115 (fs ZbC (fun a=> [Z52 a,Zca a < N]) Z4V)/\CT 116 (fs ZbC (fun a=> [Z51 a,Zca a < N]) Z4U):=by
  intro N
  induction N with
  | zero=> exact ⟨Z0A h82,Z0A h113,Z0A h114⟩
  | succ N ih=>
   have kn:=Z0z (l:=Zbm N) ⟨ih.1,ih.2.1,ih.2.2,ZcL,Zt4,Zt3,ZjO,ZEy,ZjP,Zxq,trivial⟩
   exact ⟨Y7 (Γ:=Z0 (Zbm N)) Zi rfl kn ZDR Tryz.func74 rfl rfl (fun a=> by show 2<=_;decide) (fun ⟨e,t,_⟩ h=> b74 N e t () h.1 h.2.1),
    Y7 (Γ:=Z0 (Zbm N)) Zi rfl kn ZpL Tryz.func115 rfl rfl (fun a=> by show 2<=_;decide) (fun ⟨e,t,_⟩ h=> ZF9 N e t () h.1 h.2.1),
    Y7 (Γ:=Z0 (Zbm N)) Zi rfl kn ZpK Tryz.func116 rfl rfl (fun a=> by show 2<=_;decide) (fun ⟨e,t,_⟩ h=> ZF8 N e t () h.1 h.2.1)⟩
 exact ⟨Z0B h82 fun N=> (key N).1,Z0B h113 fun N=> (key N).2.1,Z0B h114 fun N=> (key N).2.2⟩
end
noncomputable section
def ZoS(a:Edit × Tree × Unit):V U:= .tup [(true,(enc .tree (Z0O ((doE false a.1 a.2.1).map Z4)))),(false,[.bool ((doE false a.1 a.2.1).isSome)])]
def Z5y:Fs U:=fs ZbC (fun a=> [Z4c a]) ZoS
def Zf4(a:Tree × Int × Unit):Prop:=0<=a.2.1
def Z6u:Fs U:=fs Zri (fun a=> [Zf4 a]) Zik
def Z6t:Fs U:=fs Zri (fun a=> [Zf4 a]) Zij
def Z3O(a:Edit × Tree × Unit):V U:= .tup [(true,(enc .tree (Z0O (doE true a.1 a.2.1)))),(false,[.bool ((doE true a.1 a.2.1).isSome)])]
def Z3s:Fs U:=fs ZbC (fun a=> [Z4c a]) Z3O
def Z3N(a:Edit × Tree × Unit):V U:= .tup [(true,(enc .tree (Z0O (Z2U true a.1 a.2.1)))),(false,[.bool ((Z2U true a.1 a.2.1).isSome)])]
def Zow:Fs U:=fs ZbC (fun a=> [Z52 a]) Z3N
def Z4T(a:Edit × Tree × Unit):V U:= .tup [(true,(enc .tree (Zjb a.1 (Z0o true a.1 a.2.1)))),(false,[.bool ((Z3l (Z0o true a.1 a.2.1)).isSome)])]
def Zov:Fs U:=fs ZbC (fun a=> [Z51 a]) Z4T
def ZwZ:List (FuncId × Fs U):=[(75,Z0l),(74,ZaC)]
def ZDV:Zc U:=lvl [([2,3,4],[2,3,4]),([4,6,7],[4,6]),([4,6,15],[4,6]),([4,5],[4]),([4,5],[4])]
abbrev A25(p:List Nat):=AW (Z0 ZwZ) Tryz.f25 ZDV p
theorem ZIP(e:Edit)(t:Tree)(Q:QT)(h:∀ y_1,y_1=e->∀ y_2,y_2=t->∀ y_3,y_3=(ZcD y_1 y_2)->((Z4c (y_1,y_2,()))/\(iB (!((doE false y_1 y_2).isSome)) ((Q .ret (L2 [pL 4,pB 5 false] [(.loc 4,[ci 0,.nils,.nils])]))) ((Jy (y_3,()))/\(Q .ret (L2 [pL 4,pB 5 true] [(.loc 4,(enc .tree (Z4 y_3)))])))))):
  A25 [] (L2 [(0,.agg (enc .edit e)),(1,.agg (enc .tree t))] []) Q:=
 Eq.mpr V4 (h _ (Z7 _) _ (Za _) _ (Za _))
def ZFC(e:Edit)(t:Tree):Prop:=AW (Z0 ZwZ) Tryz.f25 ZDV [] (Zh (ZbC.can (e,t,())) []) (EQ Tryz.f25 (ZoS (e,t,())) [])
theorem ZDK(c75:CT 75 Z0l)(c74:CT 74 ZaC)(hb:∀ (e:Edit) (t:Tree) (_:Unit),Z4c (e,t,())->ZFC e t):CT 25 Z5y:=
 Z1 (l:=[(75,Z0l),(74,ZaC)]) Zi rfl (⟨c75,c74,trivial⟩) ZDV Tryz.func25 rfl rfl 2 (fun _=> rfl) V1 (fun ⟨e,t,_⟩=> hb e t ())
def Zw4:Zc U:=lvl [([1,2],[2]),([1,2,9],[2]),([4],[]),([4],[])]
abbrev ZJc(p:List Nat):=AW (Z0 ZnJ) Tryz.f222 Zw4 p
theorem ZGb(t:Tree)(i:Int)(Q:QT)(h:(iB (decide (i < (t.words.length:Int))) (((0:Int)<=i/\i < (t.words.length:Int))/\(Q .ret (L2 [(4,.c (.int .u64 (t.words.getD i.toNat (0:Int))))] []))) ((Q .ret (L2 [(4,.c (.int .u64 0))] []))))):
  ZJc [] (L2 [(0,.agg (enc .tree t)),pI 1 i] []) Q:=
 Eq.mpr V4 h
def ZAO(t:Tree)(i:Int):Prop:=AW (Z0 ZnJ) Tryz.f222 Zw4 [] (Zh (Zri.can (t,i,())) []) (EQ Tryz.f222 (Zik (t,i,())) [])
theorem Zz0(hb:∀ (t:Tree) (i:Int) (_:Unit),Zf4 (t,i,())->ZAO t i):CT 222 Z6u:=
 Z1 (l:=[]) Zi rfl trivial Zw4 Tryz.func222 rfl rfl 2 (fun _=> rfl) V1 (fun ⟨t,i,_⟩=> hb t i ())
def Zw3:Zc U:=lvl [([1,2,4],[2,4]),([1,2,4,9],[2,4]),([4],[4]),([4],[4])]
abbrev ZJb(p:List Nat):=AW (Z0 ZnJ) Tryz.f223 Zw3 p
theorem ZGa(t:Tree)(i:Int)(Q:QT)(h:(iB (decide (i < (t.kids.length:Int))) (((0:Int)<=i/\i < (t.kids.length:Int))/\(Q .ret (L2 [pL 4] [(.loc 4,(enc .tree (t.kids.getD i.toNat Tree.nil)))]))) ((Q .ret (L2 [pL 4] [(.loc 4,[ci 0,.nils,.nils])]))))):
  ZJb [] (L2 [(0,.agg (enc .tree t)),pI 1 i] []) Q:=
 Eq.mpr V4 h
def ZAN(t:Tree)(i:Int):Prop:=AW (Z0 ZnJ) Tryz.f223 Zw3 [] (Zh (Zri.can (t,i,())) []) (EQ Tryz.f223 (Zij (t,i,())) [])
theorem ZyZ(hb:∀ (t:Tree) (i:Int) (_:Unit),Zf4 (t,i,())->ZAN t i):CT 223 Z6t:=
 Z1 (l:=[]) Zi rfl trivial Zw3 Tryz.func223 rfl rfl 2 (fun _=> rfl) V1 (fun ⟨t,i,_⟩=> hb t i ())
def Z6X(N:Nat):List (FuncId × Fs U):=(135,fs ZbC (fun a=> [Z4c a,Zgr a < N]) Z3O) ::(184,fs ZbC (fun a=> [Z52 a,Zca a < N]) Z3N) ::(185,fs ZbC (fun a=> [Z51 a,Zca a < N]) Z4T) ::[(41,Z0l),(151,JR),(222,Z6u),(136,JQ),(223,Z6t)]
def ZwB:Zc U:=lvl [([2,3,4],[2,3,4]),([2,3,4,6],[2,3,4,6]),([2,3,4,6,10],[2,3,4,6]),([4,6,7],[4,6]),([2,3,4,6,10,11],[2,3,4,6]),([4,6,7],[4,6]),([2,3,4,6,10,13],[2,3,4,6]),([2,3,4,6],[2,3,4,6]),([4,6,7],[4,6]),([2,3,4,6,10,21],[2,3,4,6]),([4,6,7],[4,6]),([2,3,4,6,29],[2,3,4,6]),([4,6,7],[4,6]),([4,6,38],[4,6]),([4,5],[4]),([4,5],[4])]
abbrev ZJF(N:Nat)(p:List Nat):=AW (Z0 (Z6X N)) Tryz.f135 ZwB p
theorem ZH4(N:Nat)(e:Edit)(t:Tree)(Q:QT)(h:∀ y_1,y_1=e->∀ y_2,y_2=t->∀ y_3,y_3=(e.new)->∀ y_4,y_4=(e.old)->∀ y_5,y_5=(Z0O (Z2U true y_1 y_2))->∀ y_6,y_6=(Zjb y_1 (Z0o true y_1 y_2))->let z1:=Q .ret (L2 [pL 4,pB 5 true] [(.loc 4,(enc .tree (Z4 y_2)))]);let z0:=(Q .ret (L2 [pL 4,pB 5 false] [(.loc 4,[ci 0,.nils,.nils])]));(iB (e.kind==0) ((iB (!true) z0 ((Jy (y_2,()))/\z1))) ((iB (e.kind==1) (((Z23 (y_4,y_2,()))/\(iB (!(ZU (Z4 y_4) (Z4 y_2))) z0 ((Jy (y_3,()))/\(Q .ret (L2 [pL 4,pB 5 true] [(.loc 4,(enc .tree (Z4 y_3)))])))))) ((iB (e.kind==2) ((Z52 (y_1,y_2,()))/\(Zca (y_1,y_2,()) < N)/\(iB (!((Z2U true y_1 y_2).isSome)) z0 ((Jy (y_5,()))/\(Q .ret (L2 [pL 4,pB 5 true] [(.loc 4,(enc .tree (Z4 y_5)))]))))) ((iB (e.kind==3) ((Z51 (y_1,y_2,()))/\(Zca (y_1,y_2,()) < N)/\(iB (!((Z3l (Z0o true y_1 y_2)).isSome)) z0 ((Jy (y_6,()))/\(Q .ret (L2 [pL 4,pB 5 true] [(.loc 4,(enc .tree (Z4 y_6)))]))))) ((iB (!false) z0 ((Jy (y_2,()))/\z1))))))))))):
  ZJF N [] (L2 [(0,.agg (enc .edit e)),(1,.agg (enc .tree t))] []) Q:=
 Eq.mpr V4 (h _ (Z7 _) _ (Za _) _ (Za _) _ (Za _) _ (Za _) _ (Za _))
def ZBH(N:Nat)(e:Edit)(t:Tree):Prop:=AW (Z0 (Z6X N)) Tryz.f135 ZwB [] (Zh (ZbC.can (e,t,())) []) (EQ Tryz.f135 (Z3O (e,t,())) [])
abbrev ZCK:Prop:=∀ (N:Nat) (e:Edit) (t:Tree) (_:Unit),Z4c (e,t,())->Zgr (e,t,()) < N+1->ZBH N e t
def Zpz:Zc U:=lvk [([2,3,4],[2,3,4]),([2,3,4,21],[2,3,4]),([4,5],[4]),([2,3,4,6],[2,3,4,6]),([2,3,4,6,7,8],[2,3,4,6]),([2,3,4,6,7,8,9],[2,3,4,6]),([2,3,4,6,7,8,9,45],[2,3,4,6]),([2,3,4,6,7,8],[2,3,4,6]),([2,3,4,6,7,8,10],[2,3,4,6]),([2,3,4,6,7,8,10,69],[2,3,4,6]),([2,3,4,6,7,8],[2,3,4,6]),([2,3,4,6,7,8,11],[2,3,4,6]),([2,3,4,6,7,8,11,12],[2,3,4,((.loc 6),[.any,.own .u64])]),([2,3,4,6,7,8,11,12,80],[2,3,4,6]),([2,3,4,6,7,8,11,12],[2,3,4,((.loc 6),[.any,.own .u64])]),([2,3,4,6,7,8,11,12,13],[2,3,4,6]),([2,3,4,6,7,8,11,12,13,100],[2,3,4,6]),([2,3,4,6,7,8,11,12,13,14],[2,3,4,6,14]),([2,3,4,6,7,8,11,12,13,14,112],[2,3,4,6,14]),([4,5],[4]),([2,3,4,6,7,8,11,12,13],[2,3,4,6]),([2,3,4,6,7,8,11,12,13],[2,3,4,6]),([2,3,4,6,7,8,11,12],[2,3,4,6]),([2,3,4,6,8,11],[2,3,4,6]),([2,3,4,6,8,11,15],[2,3,4,((.loc 6),[.any,.any,.own .tree])]),([2,3,4,6,8,11,15,130],[2,3,4,6]),([2,3,4,6,8,11,15],[2,3,4,((.loc 6),[.any,.any,.own .tree])]),([2,3,4,6,8,11,15,16],[2,3,4,6,16]),([2,3,4,6,8,11,15,16,150],[2,3,4,6,16]),([2,3,4,6,8,11,15,16,17,18],[2,3,4,6,16,17]),([2,3,4,6,8,11,15,16,17,163],[2,3,4,6,16,17]),([4,5],[4]),([2,3,4,6,8,11,15,16],[2,3,4,6,16]),([2,3,4,6,8,11,15,16],[2,3,4,6,16]),([2,3,4,6,8,11,15],[2,3,4,6]),([4,5],[4])]
def Z0h(e:Edit)(t:Tree)(x8 x7 x11 x12:Int)(ml6_1:List Int):LSt U:=(L2 [pL 2,pL 3,pL 4,pL 6,pI 7 x7,pI 8 x8,pI 11 x11,pI 12 x12] [(.loc 2,(enc .edit e)),(.loc 3,(enc .tree t)),(.loc 4,[ci 0,.nils,.nils]),(.loc 6,[ci 1,sU .u64 ml6_1 (.own (.l 6 1)),.nils])])
def Z4w(e:Edit)(t:Tree)(x8:Int)(ml6_1:List Int)(x11_a x15_a:Int)(ml6_2_a:List Tree):LSt U:=(L2 [pL 2,pL 3,pL 4,pL 6,pI 8 x8,pI 11 x11_a,pI 15 x15_a] [(.loc 2,(enc .edit e)),(.loc 3,(enc .tree t)),(.loc 4,[ci 0,.nils,.nils]),(.loc 6,[ci 1,sU .u64 ml6_1 (.own (.l 6 1)),sU .tree ml6_2_a (.own (.l 6 2))])])
abbrev Ztl(N:Nat)(p:List Nat):=AW (Z0 (Z6X N)) Tryz.f184 Zpz p
abbrev ZxM(N:Nat)(p:List Nat):=SW (Z0 (Z6X N)) Tryz.f184 Zpz p
theorem ZGv(N:Nat)(e:Edit)(t:Tree)(Q:QT)(h:∀ y_1,y_1=(List.getD e.words (Int.toNat (((e.words.length:Int):Int) - 1)) (WEdit.mk 0 0 0 0))->∀ y_2,y_2=(List.getD e.kids (Int.toNat (((e.kids.length:Int):Int) - 1)) (KidOf.mk 0 Edit.nil))->let z5:=InR (((e.kids.length:Int):Int) - 1);let z3:=xB 0 (ZxM N [1,1,1,1,1,1,1,1] Q);let z2:=Ztl N [1,1,1,1,1,1,1,0,1,0,0];let z1:=decide ((0:Int) < (e.words.length:Int));let z0:=decide ((0:Int) < (e.kids.length:Int));let z4:=bif z0 then (decide (((t.kids.length:Int):Int)<=y_2.at_)) else false;(iB (t.kind !=1) ((Q .ret (L2 [pL 4,pB 5 false] [(.loc 4,[ci 0,.nils,.nils])]))) (((Tt z1)/\(Tt z1)/\(z1=true->InR (((e.words.length:Int):Int) - 1))/\(Tt z1)/\(Tt z1)/\(z1=true->(0:Int)<=(((e.words.length:Int):Int) - 1)/\(((e.words.length:Int):Int) - 1) < (e.words.length:Int))/\(Tt z1)/\(Tt z1)/\(Tt z1)/\(Tt z1)/\(Tt z1)/\(iB (bif z1 then (decide (((t.words.length:Int):Int)<=y_1.at_)) else false) ((InR (((e.words.length:Int):Int) - 1))/\((0:Int)<=(((e.words.length:Int):Int) - 1)/\(((e.words.length:Int):Int) - 1) < (e.words.length:Int))/\(InR (y_1.at_+1))/\((Tt z0)/\(Tt z0)/\(z0=true->InR (((e.kids.length:Int):Int) - 1))/\(Tt z0)/\(Tt z0)/\(z0=true->(0:Int)<=(((e.kids.length:Int):Int) - 1)/\(((e.kids.length:Int):Int) - 1) < (e.kids.length:Int))/\(Tt z0)/\(Tt z0)/\(Tt z0)/\(Tt z0)/\(Tt z0)/\(iB z4 (z5/\((0:Int)<=(((e.kids.length:Int):Int) - 1)/\(((e.kids.length:Int):Int) - 1) < (e.kids.length:Int))/\(InR (y_2.at_+1))/\(Zd z2 (Z0h e t (y_2.at_+1) (y_1.at_+1) 0 0 []) z3)) ((Zd z2 (Z0h e t (t.kids.length:Int) (y_1.at_+1) 0 0 []) z3))))) (((Tt z0)/\(Tt z0)/\(z0=true->InR (((e.kids.length:Int):Int) - 1))/\(Tt z0)/\(Tt z0)/\(z0=true->(0:Int)<=(((e.kids.length:Int):Int) - 1)/\(((e.kids.length:Int):Int) - 1) < (e.kids.length:Int))/\(Tt z0)/\(Tt z0)/\(Tt z0)/\(Tt z0)/\(Tt z0)/\(iB z4 (z5/\((0:Int)<=(((e.kids.length:Int):Int) - 1)/\(((e.kids.length:Int):Int) - 1) < (e.kids.length:Int))/\(InR (y_2.at_+1))/\(Zd z2 (Z0h e t (y_2.at_+1) (t.words.length:Int) 0 0 []) z3)) ((Zd z2 (Z0h e t (t.kids.length:Int) (t.words.length:Int) 0 0 []) z3)))))))))):
  Ztl N [] (L2 [(0,.agg (enc .edit e)),(1,.agg (enc .tree t))] []) Q:=
 Eq.mpr V4 (h _ rfl _ rfl)
theorem ZtH(N:Nat)(e:Edit)(t:Tree)(x8 x7 x11 x12:Int)(ml6_1:List Int)(N0:NT)(Q:QT)(h:∀ y_1,y_1=t->∀ y_2,y_2=(e.words.getD x11.toNat (WEdit.mk 0 0 0 0))->let z0:=decide (x11 < (e.words.length:Int));(iB (decide (x12 < x7)) ((Zf4 (y_1,x12,()))/\((Tt z0)/\(Tt z0)/\(Tt z0)/\(z0=true->(0:Int)<=x11/\x11 < (e.words.length:Int))/\(Tt z0)/\(Tt z0)/\(Tt z0)/\(Tt z0)/\(Tt z0)/\(iB (bif z0 then (y_2.at_==x12) else false) (((0:Int)<=x11/\x11 < (e.words.length:Int))/\((Z13 (0,(YF y_1 x12),y_2.mask,()))/\(iB (((mix 0 (YF y_1 x12) y_2.mask):Int) !=y_2.old) ((Q .ret (L2 [pL 4,pB 5 false] [(.loc 4,[ci 0,.nils,.nils])]))) ((Z13 ((YF y_1 x12),y_2.new,y_2.mask,()))/\((InR (x11+1))/\(((ml6_1.length+([mix (YF y_1 x12) y_2.new y_2.mask]).length)*8<=140737488355328)/\((InR (x12+1))/\(N0 (Z0h e t x8 x7 (x11+1) (x12+1) (ml6_1++([mix (YF y_1 x12) y_2.new y_2.mask]))))))))))) (((ml6_1.length+([YF y_1 x12]).length)*8<=140737488355328)/\((InR (x12+1))/\(N0 (Z0h e t x8 x7 x11 (x12+1) (ml6_1++([YF y_1 x12]))))))))) ((Zd (Ztl N [1,1,1,1,1,1,1,1,1,0,1,0,0]) (Z4w e t x8 ml6_1 0 0 []) (xB 2 (ZxM N [1,1,1,1,1,1,1,1,1,1] Q)))))):
  Ztl N [1,1,1,1,1,1,1,0,1,0,0] (Z0h e t x8 x7 x11 x12 ml6_1) (xT N0 (xB 0 (ZxM N [1,1,1,1,1,1,1,1] Q))):=
 Eq.mpr V4 (h _ (Za _) _ rfl)
theorem ZtG(N:Nat)(e:Edit)(t:Tree)(x8:Int)(ml6_1:List Int)(x11_a x15_a:Int)(ml6_2_a:List Tree)(N1:NT)(Q:QT)(h:∀ y_1,y_1=t->∀ y_2,y_2=(e.kids.getD x11_a.toNat (KidOf.mk 0 Edit.nil))->∀ y_3,y_3=(y_2.e)->∀ y_4,y_4=(JC y_1 x15_a)->∀ y_5,y_5=(Z0O (doE true y_3 y_4))->let z0:=decide (x11_a < (e.kids.length:Int));(iB (decide (x15_a < x8)) ((Zf4 (y_1,x15_a,()))/\((Tt z0)/\(Tt z0)/\(Tt z0)/\(z0=true->(0:Int)<=x11_a/\x11_a < (e.kids.length:Int))/\(Tt z0)/\(Tt z0)/\(Tt z0)/\(Tt z0)/\(Tt z0)/\(iB (bif z0 then (y_2.at_==x15_a) else false) (((0:Int)<=x11_a/\x11_a < (e.kids.length:Int))/\(Z4c (y_3,y_4,()))/\(Zgr (y_3,y_4,()) < N)/\(iB (!((doE true y_3 y_4).isSome)) ((Q .ret (L2 [pL 4,pB 5 false] [(.loc 4,[ci 0,.nils,.nils])]))) (((InR (x11_a+1))/\(((ml6_2_a.length+([y_5]).length)*56<=140737488355328)/\((InR (x15_a+1))/\(N1 (Z4w e t x8 ml6_1 (x11_a+1) (x15_a+1) (ml6_2_a++([y_5])))))))))) (((ml6_2_a.length+([y_4]).length)*56<=140737488355328)/\((InR (x15_a+1))/\(N1 (Z4w e t x8 ml6_1 x11_a (x15_a+1) (ml6_2_a++([y_4]))))))))) ((Q .ret (L2 [pL 4,pB 5 true] [(.loc 4,[ci 1,sU .u64 ml6_1 (.own (.l 4 1)),sU .tree ml6_2_a (.own (.l 4 2))])]))))):
  Ztl N [1,1,1,1,1,1,1,1,1,0,1,0,0] (Z4w e t x8 ml6_1 x11_a x15_a ml6_2_a) (xT N1 (xB 2 (ZxM N [1,1,1,1,1,1,1,1,1,1] Q))):=
 Eq.mpr V4 (h _ (Za _) _ rfl _ (Z7 _) _ (Za _) _ (Za _))
def ZB8(N:Nat)(e:Edit)(t:Tree):Prop:=AW (Z0 (Z6X N)) Tryz.f184 Zpz [] (Zh (ZbC.can (e,t,())) []) (EQ Tryz.f184 (Z3N (e,t,())) [])
abbrev ZCH:Prop:=∀ (N:Nat) (e:Edit) (t:Tree) (_:Unit),Z52 (e,t,())->Zca (e,t,()) < N+1->ZB8 N e t
def Zpy:Zc U:=lvk [([2,3,4],[2,3,4]),([2,3,4,18],[2,3,4]),([4,5],[4]),([2,3,4,6],[2,3,4,6]),([2,3,4,6,7],[2,3,4,6]),([2,3,4,6,7,8],[2,3,4,((.loc 6),[.any,.any,.own .tree])]),([2,3,4,6,7,8,27],[2,3,4,6]),([2,3,4,6,7,8],[2,3,4,((.loc 6),[.any,.any,.own .tree])]),([2,3,4,6,7,8,9],[2,3,4,6,9]),([2,3,4,6,7,8,9,10],[2,3,4,((.loc 6),[.any,.any,.own .tree]),9]),([2,3,4,6,7,8,9,10,43],[2,3,4,6,9]),([2,3,4,6,7,8,9,10],[2,3,4,((.loc 6),[.any,.any,.own .tree]),9]),([2,3,4,6,7,8,9,10,50],[2,3,4,6,9]),([4,5],[4]),([2,3,4,6,7,8,9,10],[2,3,4,6,9]),([2,3,4,6,7,8,9,10],[2,3,4,6,9]),([2,3,4,6,7,8,9,11],[2,3,4,((.loc 6),[.any,.any,.own .tree]),9]),([2,3,4,6,7,8,9,11,68],[2,3,4,6,9]),([2,3,4,6,7,8,9,11],[2,3,4,((.loc 6),[.any,.any,.own .tree]),9]),([2,3,4,6,7,8,9,11,73],[2,3,4,6,9]),([2,3,4,6,7,8,9,11],[2,3,4,6,9]),([2,3,4,6,7,8,9,11,102],[2,3,4,6,9]),([4,5],[4]),([2,3,4,6,7,8,9,11],[2,3,4,6,9]),([2,3,4,6,7,8,9,108],[2,3,4,6,9]),([2,3,4,6,7,8,9,113],[2,3,4,6,9]),([4,5],[4]),([2,3,4,6,7,8,12,13],[2,3,4,6,12]),([2,3,4,6,7,8,12,127],[2,3,4,6,12]),([4,5],[4]),([2,3,4,6,7,8],[2,3,4,6]),([2,3,4,6,7,8],[2,3,4,6]),([4,5],[4])]
def Z1B(e:Edit)(t:Tree)(x7 x8:Int)(ml6_2:List Tree):LSt U:=(L2 [pL 2,pL 3,pL 4,pL 6,pI 7 x7,pI 8 x8] [(.loc 2,(enc .edit e)),(.loc 3,(enc .tree t)),(.loc 4,[ci 0,.nils,.nils]),(.loc 6,[ci t.kind,.nils,sU .tree ml6_2 (.own (.l 6 2))])])
def Z1A(e:Edit)(t:Tree)(x8 x7_a x10_a:Int)(ml6_2_a:List Tree):LSt U:=(L2 [pL 2,pL 3,pL 4,pL 6,pI 7 x7_a,pI 8 x8,pL 9,pI 10 x10_a] [(.loc 2,(enc .edit e)),(.loc 3,(enc .tree t)),(.loc 4,[ci 0,.nils,.nils]),(.loc 6,[ci t.kind,.nils,sU .tree ml6_2_a (.own (.l 6 2))]),(.loc 9,(enc .op (e.ops.getD x8.toNat Op.nil)))])
def Z0T(e:Edit)(t:Tree)(x8 x11_b x7_b:Int)(ml6_2_b:List Tree):LSt U:=(L2 [pL 2,pL 3,pL 4,pL 6,pI 7 x7_b,pI 8 x8,pL 9,pI 11 x11_b] [(.loc 2,(enc .edit e)),(.loc 3,(enc .tree t)),(.loc 4,[ci 0,.nils,.nils]),(.loc 6,[ci t.kind,.nils,sU .tree ml6_2_b (.own (.l 6 2))]),(.loc 9,(enc .op (e.ops.getD x8.toNat Op.nil)))])
abbrev Zog(N:Nat)(p:List Nat):=AW (Z0 (Z6X N)) Tryz.f185 Zpy p
abbrev Zav(N:Nat)(p:List Nat):=SW (Z0 (Z6X N)) Tryz.f185 Zpy p
theorem ZGu(N:Nat)(e:Edit)(t:Tree)(Q:QT)(h:(iB (t.kind !=e.list) ((Q .ret (L2 [pL 4,pB 5 false] [(.loc 4,[ci 0,.nils,.nils])]))) ((Zd (Zog N [1,1,1,1,0,1,0,0]) (Z1B e t 0 0 []) (xB 0 (Zav N [1,1,1,1,1] Q)))))):
  Zog N [] (L2 [(0,.agg (enc .edit e)),(1,.agg (enc .tree t))] []) Q:=
 Eq.mpr V4 h
theorem ZtF(N:Nat)(e:Edit)(t:Tree)(x7 x8:Int)(ml6_2:List Tree)(N0:NT)(Q:QT)(h:(iB (decide (x8 < (e.ops.length:Int))) (((0:Int)<=x8/\x8 < (e.ops.length:Int))/\(Zd (Zog N [1,1,1,1,0,1,0,0,1,0,0,1,0,1,0,0]) (Z1A e t x8 x7 0 ml6_2) (xB 2 (Zav N [1,1,1,1,0,1,0,0,1,0,0,1,1] (xB 1 (Zav N [1,1,1,1,0,1,0,0,1,1] (xT N0 (xB 0 (Zav N [1,1,1,1,1] Q))))))))) ((Q .ret (L2 [pL 4,pB 5 (x7==(t.kids.length:Int))] [(.loc 4,[ci t.kind,.nils,sU .tree ml6_2 (.own (.l 4 2))])]))))):
  Zog N [1,1,1,1,0,1,0,0] (Z1B e t x7 x8 ml6_2) (xT N0 (xB 0 (Zav N [1,1,1,1,1] Q))):=
 Eq.mpr V4 h
theorem Z8E(N:Nat)(e:Edit)(t:Tree)(x8 x7_a x10_a:Int)(ml6_2_a:List Tree)(N1 N0:NT)(Q:QT)(h:∀ y_1,y_1=(e.ops.getD x8.toNat Op.nil)->∀ y_2,y_2=(t.kids.getD x7_a.toNat Tree.nil)->let z0:=decide (x10_a < y_1.n);(Tt z0)/\(Tt z0)/\(Tt z0)/\(iB (bif z0 then (y_1.kind==0) else false) ((iB (decide (((t.kids.length:Int):Int)<=x7_a)) ((Q .ret (L2 [pL 4,pB 5 false] [(.loc 4,[ci 0,.nils,.nils])]))) (((0:Int)<=x7_a/\x7_a < (t.kids.length:Int))/\((ml6_2_a.length+([y_2]).length)*56<=140737488355328)/\((InR (x7_a+1))/\((InR (x10_a+1))/\(N1 (Z1A e t x8 (x7_a+1) (x10_a+1) (ml6_2_a++([y_2]))))))))) ((Zd (Zog N [1,1,1,1,0,1,0,0,1,0,0,1,1,0,1,0,0]) (Z0T e t x8 0 x7_a ml6_2_a) (xB 4 (Zav N [1,1,1,1,0,1,0,0,1,0,0,1,1,1] (xB 1 (Zav N [1,1,1,1,0,1,0,0,1,1] (xT N0 (xB 0 (Zav N [1,1,1,1,1] Q))))))))))):
  Zog N [1,1,1,1,0,1,0,0,1,0,0,1,0,1,0,0] (Z1A e t x8 x7_a x10_a ml6_2_a) (xT N1 (xB 2 (Zav N [1,1,1,1,0,1,0,0,1,0,0,1,1] (xB 1 (Zav N [1,1,1,1,0,1,0,0,1,1] (xT N0 (xB 0 (Zav N [1,1,1,1,1] Q)))))))):=
 Eq.mpr V4 (h _ rfl _ (Za _))
theorem Z8D(N:Nat)(e:Edit)(t:Tree)(x8 x11_b x7_b:Int)(ml6_2_b:List Tree)(N2 N0:NT)(Q:QT)(h:∀ y_1,y_1=(e.ops.getD x8.toNat Op.nil)->∀ y_2,y_2=(t.kids.getD x7_b.toNat Tree.nil)->∀ y_3,y_3=y_2->∀ y_4,y_4=(y_1.e)->∀ y_5,y_5=(y_1.l.getD x11_b.toNat Tree.nil)->∀ y_6,y_6=y_5->∀ y_7,y_7=(Z0O (doE true y_4 y_3))->let z1:=(Q .ret (L2 [pL 4,pB 5 false] [(.loc 4,[ci 0,.nils,.nils])]));let z0:=decide (((t.kids.length:Int):Int)<=x7_b);(iB (decide (x11_b < (y_1.l.length:Int))) ((iB (y_1.kind==2) (((0:Int)<=x11_b/\x11_b < (y_1.l.length:Int))/\((ml6_2_b.length+([y_6]).length)*56<=140737488355328)/\((InR (x11_b+1))/\(N2 (Z0T e t x8 (x11_b+1) x7_b (ml6_2_b++([y_6])))))) ((Tt (!z0))/\(Tt (!z0))/\(Tt (!z0))/\((!z0)=true->(0:Int)<=x7_b/\x7_b < (t.kids.length:Int))/\(Tt (!z0))/\(Tt (!z0))/\(Tt (!z0))/\(Tt (!z0))/\((!z0)=true->(0:Int)<=x11_b/\x11_b < (y_1.l.length:Int))/\(Tt (!z0))/\(Tt (!z0))/\(Tt (!z0))/\((!z0)=true->Z23 (y_3,y_6,()))/\(Tt (!z0))/\(z0=false->(!z0)=true)/\(iB (bif z0 then true else (!(ZU (Z4 y_3) (Z4 y_6)))) z1 ((InR (x7_b+1))/\((InR (x11_b+1))/\(N2 (Z0T e t x8 (x11_b+1) (x7_b+1) ml6_2_b)))))))) ((iB (y_1.kind==3) ((iB z0 z1 (((0:Int)<=x7_b/\x7_b < (t.kids.length:Int))/\(Z4c (y_4,y_3,()))/\(Zgr (y_4,y_3,()) < N)/\(iB (!((doE true y_4 y_3).isSome)) z1 (((ml6_2_b.length+([y_7]).length)*56<=140737488355328)/\((InR (x7_b+1))/\((InR (x8+1))/\(N0 (Z1B e t (x7_b+1) (x8+1) (ml6_2_b++([y_7]))))))))))) ((InR (x8+1))/\(N0 (Z1B e t x7_b (x8+1) ml6_2_b))))))):
  Zog N [1,1,1,1,0,1,0,0,1,0,0,1,1,0,1,0,0] (Z0T e t x8 x11_b x7_b ml6_2_b) (xT N2 (xB 4 (Zav N [1,1,1,1,0,1,0,0,1,0,0,1,1,1] (xB 1 (Zav N [1,1,1,1,0,1,0,0,1,1] (xT N0 (xB 0 (Zav N [1,1,1,1,1] Q)))))))):=
 Eq.mpr V4 (h _ rfl _ rfl _ (Za _) _ (Z7 _) _ rfl _ (Za _) _ (Za _))
def ZB7(N:Nat)(e:Edit)(t:Tree):Prop:=AW (Z0 (Z6X N)) Tryz.f185 Zpy [] (Zh (ZbC.can (e,t,())) []) (EQ Tryz.f185 (Z4T (e,t,())) [])
abbrev ZCG:Prop:=∀ (N:Nat) (e:Edit) (t:Tree) (_:Unit),Z51 (e,t,())->Zca (e,t,()) < N+1->ZB7 N e t
theorem ZvT(c41:CT 41 Z0l)(ZcJ:CT 151 JR)(ZEh:CT 222 Z6u)(ZcK:CT 136 JQ)(ZEg:CT 223 Z6t)(ZF7:ZCK)(ZF4:ZCH)(ZF3:ZCG):
  CT 135 Z3s/\CT 184 Zow/\CT 185 Zov:=by
 have h53 : ∃ fn, Tryz.prog.funcs[(135 : FuncId)]? = some fn ∧ fn.body.isSome = true ∧ (fn.name == "runtime.NumGoroutine") = false := ⟨Tryz.f135, Tryz.func135, rfl, rfl⟩
 have h83 : ∃ fn, Tryz.prog.funcs[(184 : FuncId)]? = some fn ∧ fn.body.isSome = true ∧ (fn.name == "runtime.NumGoroutine") = false := ⟨Tryz.f184, Tryz.func184, rfl, rfl⟩
 have h84 : ∃ fn, Tryz.prog.funcs[(185 : FuncId)]? = some fn ∧ fn.body.isSome = true ∧ (fn.name == "runtime.NumGoroutine") = false := ⟨Tryz.f185, Tryz.func185, rfl, rfl⟩
 have key:∀ N,CT 135 (fs ZbC (fun a=> [Z4c a,Zgr a < N]) Z3O)/\CT 184 (fs ZbC (fun a=> [Z52 a,Zca a < N]) Z3N)/\CT 185 (fs ZbC (fun a=> [Z51 a,Zca a < N]) Z4T):=by
  intro N
  induction N with
  | zero=> exact ⟨Z0A h53,Z0A h83,Z0A h84⟩
  | succ N ih=>
   have kn:=Z0z (l:=Z6X N) ⟨ih.1,ih.2.1,ih.2.2,c41,ZcJ,ZEh,ZcK,ZEg,trivial⟩
   exact ⟨Y7 (Γ:=Z0 (Z6X N)) Zi rfl kn ZwB Tryz.func135 rfl rfl (fun a=> by show 2<=_;decide) (fun ⟨e,t,_⟩ h=> ZF7 N e t () h.1 h.2.1),
    Y7 (Γ:=Z0 (Z6X N)) Zi rfl kn Zpz Tryz.func184 rfl rfl (fun a=> by show 2<=_;decide) (fun ⟨e,t,_⟩ h=> ZF4 N e t () h.1 h.2.1),
    Y7 (Γ:=Z0 (Z6X N)) Zi rfl kn Zpy Tryz.func185 rfl rfl (fun a=> by show 2<=_;decide) (fun ⟨e,t,_⟩ h=> ZF3 N e t () h.1 h.2.1)⟩
 exact ⟨Z0B h53 fun N=> (key N).1,Z0B h83 fun N=> (key N).2.1,Z0B h84 fun N=> (key N).2.2⟩
end
end Go.AM.YtpjenobkibfpcaaGreat
