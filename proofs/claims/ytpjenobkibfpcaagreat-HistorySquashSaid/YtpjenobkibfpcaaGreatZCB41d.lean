import Derived.Test.YtpjenobkibfpcaaGreatZCL30g
import Derived.Test.YtpjenobkibfpcaaGreatZKG20x
set_option linter.unusedSimpArgs false
set_option linter.unusedVariables false
namespace Go.AM.YtpjenobkibfpcaaGreat
open Go.AM Go.Proofs
mutual
def Z3X:Tree->Nat
 | .mk k _ ks=> (if k=1 then 0 else ks.length)+YD ks
def YD:List Tree->Nat
 | []=> 0
 | t ::r=> Z3X t+YD r
end
theorem ZqU(t:Tree):Z3X t=(if t.kind=1 then 0 else t.kids.length)+YD t.kids:=by cases t;rfl
theorem Z2r:∀ a b:List Tree,YD (a++b)=YD a+YD b
 | [],b=> by simp [YD]
 | t ::r,b=> by simp only [QA,YD,Z2r r b];omega
mutual
theorem Zct:∀ t:Tree,Z3X t+1<=Zo t
 | .mk k w ks=> by
  have:=Zcu ks
  simp only [Z3X,Zo]
  split <;> omega
theorem Zcu:∀ l:List Tree,YD l+l.length<=Zg l
 | []=> by simp [YD,Zg]
 | t ::r=> by
  have s:=Zct t
  have h:=Zcu r
  simp only [YD,Zg,Qm]
  omega
end
theorem ZiE(l:List Tree){i j:Nat}(h:i<=j):Z3X (l.getD j Tree.nil)+YD (l.drop (j+1))<=YD (l.drop i):=by
 have s:YD (l.drop j)<=YD (l.drop i):=by
  have e:l.drop j=(l.drop i).drop (j - i):=by rw [XT];congr 1;omega
  have:=Z2r ((l.drop i).take (j - i)) ((l.drop i).drop (j - i))
  rw [Qx] at this
  rw [e];omega
 by_cases hj:j < l.length
 .have e:l.drop j=l.getD j Tree.nil ::l.drop (j+1):=by
   rw [QI hj,Qq,Q4 hj];try rfl
  rw [e,YD] at s
  exact s
 .rw [Qq,QQ JX,Qc JX]
  exact QG _
theorem Zyj(l:List Tree)(i:Nat):Z3X (l.getD i Tree.nil)<=YD l:=by
 have:=ZiE l (QG i)
 rw [QM] at this
 omega
theorem Zmt:∀ (l:List Tree) (i:Nat) (x:Tree),i < l.length->YD (l.set i x)+Z3X (l.getD i Tree.nil)=YD l+Z3X x
 | [],i,x,h=> by simp at h
 | t ::r,0,x,h=> by simp only [List.set_cons_zero,YD,Qh];omega
 | t ::r,i+1,x,h=> by
  have:=Zmt r i x (by simpa using h)
  simp only [List.set_cons_succ,YD,Kh]
  omega
theorem ZtU(n:Nat):YD (List.replicate n Tree.nil)=0:=by
 induction n with
 | zero=> rfl
 | succ n ih=> rw [Kg,YD,ih];try rfl
theorem Zyi(l:List Tree)(i:Nat)(x:Tree):YD (YG Tree.nil l i x)+Z3X (l.getD i Tree.nil)=YD l+Z3X x:=by
 have h:=Zmt (l++List.replicate (i+1 - l.length) Tree.nil) i x (by simp;omega)
 have e:(l++List.replicate (i+1 - l.length) Tree.nil).getD i Tree.nil=l.getD i Tree.nil:=by
  by_cases hi:i < l.length
  .simp only [Qq];rw [QH hi]
  .simp only [Qq]
   rw [Qu JX,QQ (l:=l) JX,List.getElem?_replicate]
   split <;> rfl
 rw [e,Z2r,ZtU] at h
 exact h
theorem ZiD:∀ l:List Tree,YD (Yp l)<=YD l
 | []=> Qb _
 | t ::r=> by
  have h:=ZiD r
  rw [Yp]
  split
  .split
   .exact QG _
   .simp only [YD];omega
  .rename_i y s e
   rw [e] at h
   simp only [YD] at h ⊢
   omega
mutual
theorem ZgX:∀ t:Tree,Z3X (Z0 t)<=Z3X t
 | .mk k w ks=> by
  have h:=ZiC ks
  have s:=ZiD (Yz ks)
  simp only [Z0]
  split
  .exact QG _
  .split
   .rename_i k1
    subst k1
    simp only [Z3X,if_true]
    omega
   .simp only [Z3X]
    split <;> omega
theorem ZiC:∀ l:List Tree,YD (Yz l)<=YD l/\(Yz l).length=l.length
 | []=> ⟨Qb _,rfl⟩
 | t ::r=> by
  have s:=ZgX t
  have h:=ZiC r
  simp only [Yz,YD,Qm]
  omega
end
def Wga:Wt:=⟨0,0,1⟩
def Wgb:Wt:=⟨16,65600,34⟩
structure Sem (e:Edit) (s u:Tree):Prop where
 g:Z3X u<=Z3X s+owE Wga e
 t:∀ T:Int,((Z3X s+owE Wga e:Nat):Int)<=T->YR T e
 c:ctE e<=owE Wgb e+34*Z3X s
theorem Zc4:∀ (n:Nat) (e:Edit) (d:Int) (s u:Tree),Z8 e<=n->Z3 e d=true->doE false e s=some u->Sem e s u:=by
 intro n
 induction n with
 | zero=> intro e d s u h;obtain ⟨k,o,nw,w,ks,l,os⟩:=e;simp only [Z8] at h;omega
 | succ n ih=>
  intro e d s u hn hr h
  have re:=Zh hr
  have f0:=Zgt (K:=Wga) e
  have f1:=Zgt (K:=Wgb) e
  have f2:=Z23 e
  have hk:∀ (ks:List Kid) (tk out b:List Tree) (d ab:Int),(∀ k∈ks,k∈e.kids)->-1<=ab->Zw ab ks d=true->(∀ j:Nat,ab < (j:Int)->out.getD j Tree.nil=tk.getD j Tree.nil)->Jy false tk ks out=some b->
    YD b<=YD out+Z0B Wga ks/\Z0W ks<=Z0B Wgb ks+34*YD (tk.drop (ab+1).toNat)/\∀ T:Int,((YD tk+Z0B Wga ks:Nat):Int)<=T->∀ k∈ks,YR T k.e:=by
   intro ks
   induction ks with
   | nil=>
    intro tk out b d ab _ _ _ _ h
    rw [Jy] at h
    cases h
    exact ⟨by simp [Z0B],by simp [Z0W],fun T _ k hk=> by cases hk⟩
   | cons k r ihk=>
    intro tk out b d ab hm hl hr hj h
    obtain ⟨h1,h2,h3⟩:=Z5G hr
    rw [Jy] at h
    obtain ⟨v,hv,hb⟩:=Qd.1 h
    rw [Z5a] at hv
    have:=Yd (hm k Q7)
    have S:=ih k.e _ _ _ JX h2 hv
    have p:=Zyi out k.at_.toNat v
    rw [hj k.at_.toNat JX] at p
    obtain ⟨g1,g2,g3⟩:=ihk tk _ b d k.at_ (fun x hx=> hm x (Q0 _ hx)) JX h3 (fun j bj=> by
     rw [JP,J3]
     exact hj j JX) hb
    have q:=ZiE tk (i:=(ab+1).toNat) (j:=k.at_.toNat) JX
    rw [show k.at_.toNat+1=(k.at_+1).toNat by omega] at q
    have sg:=S.g
    have sc:=S.c
    have qg:=Zyj tk k.at_.toNat
    simp only [Z0B,Zm8,Z0W,Z3T]
    have c0:Wga.c=0:=rfl
    have c1:Wgb.c=65600:=rfl
    refine ⟨JX,JX,fun T hT x hx=> ?_⟩
    rcases Qa.1 hx with rfl | hx
    .exact S.t T JX
    .exact g3 T JX x hx
  have ho:∀ (os:List Op) (d:Int) (aa out:List Tree) (x:List Tree × List Tree),(∀ o∈os,o∈e.ops/\Zb e.list o d=true)->ZM false os aa out=some x->
    (YD x.1+x.1.length+YD x.2+x.2.length<=YD out+out.length+YD aa+aa.length+Jv Wga os/\Jh os+34*(YD x.2+x.2.length)<=Jv Wgb os+34*(YD aa+aa.length))/\
    (Ju os+x.2.length=aa.length/\J5 os+out.length=x.1.length)/\∀ T:Int,((YD aa+Jv Wga os:Nat):Int)<=T->∀ o∈os,YR T o.e:=by
   intro os
   induction os with
   | nil=>
    intro d aa out x _ h
    rw [ZM] at h
    cases h
    exact ⟨⟨by simp [Jv],by simp [Jh,Jv]⟩,⟨by simp [Ju],by simp [J5]⟩,fun T _ o ho=> by cases ho⟩
   | cons o r iho=>
    intro d aa out x hm h
    rw [ZM] at h
    obtain ⟨y,hy,hx⟩:=Qd.1 h
    obtain ⟨⟨g1,g2⟩,⟨g3,g4⟩,g5⟩:=iho d _ _ x (fun q hq=> hm q (Q0 _ hq)) hx
    obtain ⟨mo,ro⟩:=hm o Q7
    have a5:(YD y.1+y.1.length+YD y.2+y.2.length<=YD out+out.length+YD aa+aa.length+Z3V Wga o/\Z3S o+34*(YD y.2+y.2.length)<=Z3V Wgb o+34*(YD aa+aa.length))/\
      ((if o.kind=2 then 0 else Z4 o)+y.2.length=aa.length/\(if o.kind=1 then 0 else Z4 o)+out.length=y.1.length)/\(YD y.2<=YD aa/\∀ T:Int,((YD aa+Z3V Wga o:Nat):Int)<=T->YR T o.e):=by
     have ah:∀ T:Int,∀ m:Nat,(m:Int)<=T->YR T Edit.nil:=fun T m h=> Z4B JX
     have d0:Wga.d=1:=rfl
     have d1:Wgb.d=34:=rfl
     have cn:ctE Edit.nil=18:=rfl
     rw [Z1y,Z1y,Z2f,Yy,d0,d1]
     rw [YP] at hy
     cases ZN ro with
     | keep m a1 a2=>
      rw [if_pos rfl] at hy
      split at hy
      .rename_i hl
       cases hy
       have e:=Z2r (aa.take m.toNat) (aa.drop m.toNat)
       rw [Qx] at e
       dsimp only at hl ⊢
       simp only [Z2r,Qk,Qr,X9,owL,Zg,Qp,cn,d0,d1]
       rw [Xo hl]
       refine ⟨⟨by simp;omega,by simp;omega⟩,⟨by simp;omega,by simp;omega⟩,JX,fun T h=> ah T _ h⟩
      .cases hy
     | gone l a1 a2=>
      rw [if_neg (show ¬(1:Int)=0 by decide),if_pos rfl] at hy
      split at hy
      .rename_i hg
       cases hy
       have hl:l.length<=aa.length:=by
        unfold JT at hg
        rw [Q6,decide_eq_true_eq] at hg
        exact hg.1
       have e:=Z2r (aa.take l.length) (aa.drop l.length)
       rw [Qx] at e
       dsimp only
       simp only [X9,owL,cn,d0,d1]
       refine ⟨⟨by simp;omega,by simp;omega⟩,⟨by simp;omega,by simp⟩,JX,fun T h=> ah T _ h⟩
      .cases hy
     | come l a1 a2=>
      rw [if_neg (show ¬(2:Int)=0 by decide),if_neg (show ¬(2:Int)=1 by decide),if_pos rfl] at hy
      cases hy
      have:=Zcu l
      dsimp only
      simp only [Z2r,Qk,owL,cn,d0,d1]
      refine ⟨⟨by simp;omega,by simp;omega⟩,⟨by simp,by simp;omega⟩,Qb _,fun T h=> ah T _ h⟩
     | into e2 a1 a2 a3 a4=>
      rw [if_neg (show ¬(3:Int)=0 by decide),if_neg (show ¬(3:Int)=1 by decide),if_neg (show ¬(3:Int)=2 by decide)] at hy
      split at hy
      .cases hy
      .rename_i h0
       obtain ⟨v,hv,hy⟩:=Q9.1 hy
       cases hy
       have mm:=YV mo
       have S:=ih e2 _ _ _ (by dsimp only at mm;omega) a1 hv
       have sg:=S.g
       have sc:=S.c
       cases aa with
       | nil=> exact absurd rfl h0
       | cons t q=>
        dsimp only
        simp only [Qh] at sg sc
        simp only [Z2r,Qk,YD,Qm,Qp,Qw,QM,owL,Zg,d0,d1]
        refine ⟨⟨by simp;omega,by simp;omega⟩,⟨by simp;omega,by simp;omega⟩,JX,fun T h=> S.t T ?_⟩
        simp only [Qh]
        simp at h
        omega
    obtain ⟨⟨k1,k2⟩,⟨k3,k4⟩,k5,k6⟩:=a5
    simp only [Jv,Jh,Ju,J5]
    refine ⟨⟨JX,JX⟩,⟨JX,JX⟩,fun T hT q hq=> ?_⟩
    rcases Qa.1 hq with rfl | hq
    .exact k6 T JX
    .exact g5 T JX q hq
  rw [Z18,YA] at h
  have z0:Wga.k=0/\Wga.c=0:=⟨rfl,rfl⟩
  have z1:Wgb.k=16/\Wgb.c=65600:=⟨rfl,rfl⟩
  rw [z0.1,z0.2] at f0
  rw [z1.1,z1.2] at f1
  have e0:∀ T:Int,0<=T->e.kids=[]->e.ops=[]->YR T e:=fun T hT a b=> by
   rw [Z0N,a,b]
   exact ⟨⟨hT,hT⟩,fun x hx=> (by cases hx),fun x hx=> (by cases hx)⟩
  have aj:e.kind≠2->Z0B Wga e.kids=0/\Z0B Wgb e.kids=0/\Z0W e.kids=0:=fun h=> by rw [(re.words0 h).2];exact ⟨rfl,rfl,rfl⟩
  have ai:e.kind≠3->Jv Wga e.ops=0/\Jv Wgb e.ops=0/\Jh e.ops=0:=fun h=> by rw [(re.ops0 h).2];exact ⟨rfl,rfl,rfl⟩
  by_cases k0:e.kind=0
  .rw [if_pos k0] at h
   cases h
   have:=aj JX
   have:=ai JX
   exact ⟨Km _ _,fun T h=> e0 T JX (re.words0 JX).2 (re.ops0 JX).2,JX⟩
  by_cases k1:e.kind=1
  .rw [if_neg k0,if_pos k1] at h
   split at h
   .cases h
    have:=aj JX
    have:=ai JX
    have:=Zct e.new
    exact ⟨JX,fun T h=> e0 T JX (re.words0 JX).2 (re.ops0 JX).2,JX⟩
   .cases h
  by_cases k2:e.kind=2
  .rw [if_neg k0,if_neg k1,if_pos k2] at h
   split at h
   .rename_i ks
    obtain ⟨a,ha,hb⟩:=Qd.1 h
    obtain ⟨b,hb,e9⟩:=Q9.1 hb
    obtain ⟨g1,g2,g3⟩:=hk e.kids s.kids s.kids b _ (-1) (fun k hk=> hk) JX re.kids (fun j _=> rfl) hb
    have:=ai JX
    have es:=ZqU s
    rw [if_pos ks] at es
    have eu:Z3X u=0+YD b:=by rw [<-e9];try rfl
    rw [show ((-1:Int)+1).toNat=0 from rfl,QM] at g2
    refine ⟨JX,fun T hT=> ?_,JX⟩
    rw [Z0N,(re.ops0 JX).2]
    exact ⟨⟨show (0:Int)<=T by omega,show (0:Int)<=T by omega⟩,g3 T JX,fun x hx=> by cases hx⟩
   .cases h
  by_cases k3:e.kind=3
  .rw [if_neg k0,if_neg k1,if_neg k2,if_pos k3] at h
   split at h
   .rename_i ks
    obtain ⟨b,hb,e9⟩:=Q9.1 h
    unfold Z22 at hb
    obtain ⟨x,hx,hy⟩:=Qd.1 hb
    obtain ⟨⟨g1,g2⟩,⟨g3,g4⟩,g5⟩:=ho e.ops _ s.kids [] x (fun o ho=> ⟨ho,Go.AM.rightOs_mem re.ops _ ho⟩) hx
    split at hy
    .rename_i h0
     cases hy
     have:=aj JX
     have hl:=re.list k3
     have es:=ZqU s
     rw [J3] at es
     have eu:Z3X u=x.1.length+YD x.1:=by rw [<-e9];simp only [Z3X];rw [J3]
     have z:YD ([]:List Tree)=0:=rfl
     simp only [Qp] at g1 g4
     refine ⟨JX,fun T hT=> ?_,JX⟩
     rw [Z0N,(re.words0 JX).2]
     exact ⟨⟨JX,JX⟩,fun x hx=> (by cases hx),g5 T JX⟩
    .cases hy
   .cases h
  .rw [if_neg k0,if_neg k1,if_neg k2,if_neg k3] at h
   cases h
variable {K:Wt}
def owW(K:Wt)(w:Wst):Nat:=Jv K w.out+owL K w.gone+owL K w.brought
theorem Zci(w:Wst):Jv K (Zi w).out=owW K w:=by
 have z:owL K []=0:=rfl
 have h:¬(2:Int)=3/\¬(1:Int)=3:=⟨V2,V2⟩
 simp only [Zi,Z0L,owW,Z3z]
 by_cases h1:w.gone.length=0
 .rw [if_pos h1,Q5 h1]
  by_cases h2:w.brought.length=0
  .rw [if_pos h2,Q5 h2];simp only [Jv];omega
  .rw [if_neg h2];simp only [Jv,Z3V,if_neg h.1];omega
 .rw [if_neg h1]
  by_cases h2:w.brought.length=0
  .rw [if_pos h2,Q5 h2];simp only [Jv,Z3V,if_neg h.2];omega
  .rw [if_neg h2];simp only [Jv,Z3V,if_neg h.1,if_neg h.2];omega
theorem Zm7(w:Wst)(n:Int):owW K (Yr w n)<=owW K w:=by
 have z:owL K []=0:=rfl
 have h:=Zci (K:=K) w
 have e:owW K (Yr w n)=Jv K (Z2u (Zi w).out n):=by simp [Yr,owW,z]
 rw [e,<-h]
 rcases JS (Zi w).out n with e | ⟨a,q,e1,e2,e3⟩
 .rw [e,Z3z];simp only [Jv,Z3V,if_neg (show ¬(0:Int)=3 by decide)];omega
 .rw [e3,e1,Z3z,Z3z]
  simp only [Jv,Z3V,Z1y,e2,if_neg (show ¬(0:Int)=3 by decide)]
  exact Qb _
mutual
theorem Z0Z:∀ (e:Edit),owE K (Zj e)<=owE K e
 | .mk k o n w ks l os=> by
  have h:=Zim ks
  have h2:=Zil l os ⟨[],[],[]⟩
  have u:=Ym o
  have s:=Ym n
  have:=Z4T o
  have:=Z4T n
  have hf:=Zci (K:=K) (J1 l os ⟨[],[],[]⟩)
  have hz:owW K ⟨[],[],[]⟩=0:=rfl
  rw [Zj]
  split
  .simp only [owE,Z0B,Jv,Qp,XF];omega
  .split
   .simp only [owE,Jv,Z1k];omega
   .split
    .simp only [owE,Z0B,Z1k,Qp,XF];omega
    .simp only [owE,Z0B,Jv,Z1k,Qp,XF];omega
theorem Zim:∀ (ks:List (KidOf Edit)),Z0B K (Z0R ks)<=Z0B K ks
 | []=> Qb _
 | k ::r=> by
  have s:=Zo8 k
  have h:=Zim r
  simp only [Z0R,Z0B]
  omega
theorem Zo8:∀ (k:KidOf Edit),Z8P K (Z1T k)<=Z8P K k
 | ⟨a,e⟩=> by
  have:=Z0Z e
  simp only [Z1T,Z8P]
  omega
theorem Zil(list:Int):∀ (os:List (OpOf Edit)) (w:Wst),owW K (J1 list os w)<=owW K w+Jv K os
 | [],w=> Qb _
 | o ::r,w=> by
  have s:=Ztx list o w
  have h:=Zil list r (Z1i list o w)
  simp only [J1,Jv]
  omega
theorem Ztx(list:Int):∀ (o:OpOf Edit) (w:Wst),owW K (Z1i list o w)<=owW K w+Z3V K o
 | ⟨k,n,l,e⟩,w=> by
  have u:=Z0Z e
  have hl:=Z78 l
  have h:(Z6 l).length=l.length:=by simp [Z6]
  have s:owL K (Z6 l)<=owL K l:=by unfold owL;rw [h];omega
  have z:owL K []=0:=rfl
  rw [Z1i]
  simp only [Z3V]
  split
  .have:=Zm7 (K:=K) w n;omega
  .split
   .have:=ZeA (K:=K) w.gone (Z6 l)
    simp only [owW]
    omega
   .split
    .have:=ZeA (K:=K) w.brought (Z6 l)
     simp only [owW]
     omega
    .split
     .split
      .have:=Zm7 (K:=K) w 1;omega
      .have:=Zci (K:=K) w
       simp only [owW,Z3z,Jv,Z3V,if_true] at this ⊢
       omega
     .omega
end
mutual
theorem Zgs:∀ (e:Edit),owE K (Zn e)=owE K e
 | .mk k o n w ks l os=> by
  have s:=Zgr ks
  have h:=Zgq os
  simp only [Zn,owE,X3,s,h]
  omega
theorem Zgr:∀ (ks:List (KidOf Edit)),Z0B K (Y9 ks)=Z0B K ks
 | []=> rfl
 | k ::r=> by
  have s:=Zm6 k
  have h:=Zgr r
  simp only [Y9,Z0B,s,h]
theorem Zm6:∀ (k:KidOf Edit),Z8P K (YY k)=Z8P K k
 | ⟨a,e⟩=> by
  have h:=Zgs e
  simp only [YY,Z8P,h]
theorem Zgq:∀ (os:List (OpOf Edit)),Jv K (Ye os)=Jv K os
 | []=> rfl
 | o ::r=> by
  have s:=Zo7 o
  have h:=Zgq r
  simp only [Ye,Jv,s,h]
theorem Zo7:∀ (o:OpOf Edit),Z3V K (Y8 o)=Z3V K o
 | ⟨k,n,l,e⟩=> by
  have h:=Zgs e
  simp only [Y8]
  split
  .rename_i k1;subst k1;rfl
  .split
   .rename_i s;subst s;rfl
   .split
    .rename_i u;simp only [Z3V,h]
    .try rfl
end
mutual
theorem Zck:∀ e:Edit,owE Wga e+2<=2*Z8 e
 | .mk k o n w ks l os=> by
  have s:=Zqq ks
  have h:=Zqp os
  simp only [owE,Z8]
  have c0:Wga.c=0:=rfl
  have k0:Wga.k=0:=rfl
  rw [c0,k0]
  omega
theorem Zqq:∀ ks:List (KidOf Edit),Z0B Wga ks<=2*Zx ks
 | []=> QG _
 | ⟨a,e⟩ ::r=> by
  have s:=Zck e
  have h:=Zqq r
  have c0:Wga.c=0:=rfl
  simp only [Z0B,Z8P,Zx,YO,c0]
  omega
theorem Zqp:∀ os:List (OpOf Edit),Jv Wga os<=2*Zt os
 | []=> QG _
 | ⟨k,n,l,e⟩ ::r=> by
  have h:=Zck e
  have h2:=Zqp r
  have u:=Zy l
  have s:1<=Z8 e:=Z3f e
  have d0:Wga.d=1:=rfl
  simp only [Jv,Z3V,owL,Zt,Zu,d0]
  split <;> omega
end
mutual
theorem Zcj:∀ e:Edit,owE Wgb e+65600<=65600*Z8 e
 | .mk k o n w ks l os=> by
  have s:=Zqo ks
  have h:=Zqn os
  have:=Z4T o
  have:=Z4T n
  have c0:Wgb.c=65600:=rfl
  have k0:Wgb.k=16:=rfl
  simp only [owE,Z8,c0,k0]
  omega
theorem Zqo:∀ ks:List (KidOf Edit),Z0B Wgb ks<=65600*Zx ks
 | []=> QG _
 | ⟨a,e⟩ ::r=> by
  have s:=Zcj e
  have h:=Zqo r
  have c0:Wgb.c=65600:=rfl
  simp only [Z0B,Z8P,Zx,YO,c0]
  omega
theorem Zqn:∀ os:List (OpOf Edit),Jv Wgb os<=65600*Zt os
 | []=> QG _
 | ⟨k,n,l,e⟩ ::r=> by
  have u:=Zcj e
  have s:=Zqn r
  have h:=Zy l
  have d0:Wgb.d=34:=rfl
  simp only [Jv,Z3V,owL,Zt,Zu,d0]
  split <;> omega
end
end Go.AM.YtpjenobkibfpcaaGreat
namespace Go.AM.YtpjenobkibfpcaaGreat
open Go.AM Go.Proofs
theorem Z3O{α:Type}{at_:α->Int}:∀ {l:List α} {last:Int},asc at_ last l->∀ a∈l,Z3P at_ l (at_ a)=some a
 | x ::r,last,h,a,ha=> by
  unfold Z3P
  rw [Ke,Z5V]
  have s:∀ (r:List α) (n m:Int),asc at_ m r->n<=m->Z3P at_ r n=none:=by
   intro r n m hr hn
   cases e:Z3P at_ r n with
   | none=> rfl
   | some b=>
    obtain ⟨u,h2⟩:=Z4Y at_ n r b e
    have:=ZcO hr b u
    omega
  rcases Qa.1 ha with rfl | ha
  .rw [s r _ _ h.2 (Xa _)]
   grind
  .rw [Z3O h.2 a ha]
theorem ZCn{α:Type}{at_:α->Int}{l:List α}{last:Int}(h:asc at_ last l){a b:α}(ha:a∈l)(hb:b∈l)(e:at_ a=at_ b):a=b:=by
 have s:=Z3O h a ha
 rw [e,Z3O h b hb] at s
 grind
def Sq(L:Lft)(p q:Edit):Prop:=∀ t u v,RT_ t->doE false p t=some u->doE false q t=some v->
 L.a=false/\(L.c=false->∃ w1 w2,doE false L.y u=some w1/\doE false L.x v=some w2/\Eqv w1 w2)
section
variable {α β:Type} {z:α} {F:β->α->Option α} {at_:β->Int} {V:α->Prop}
theorem Zyy{l:List β}{n:Int}{last:Int}(h:asc at_ last l)(e:Z3P at_ l n=none):∀ b∈l,at_ b≠n:=by
 intro b s u
 have:=Z3O h b s
 grind
theorem ZlI {c:β->β->β} {g:β->Bool} {p q:List β} {l u v:List α} (hc:∀ a b,at_ (c a b)=at_ a) (hp:asc at_ (-1) p) (hq:asc at_ (-1) q)
  (hu:mg z (JV z F at_ l) at_ p l=some u) (hv:mg z (JV z F at_ l) at_ q l=some v) (hV:∀ i,V (v.getD i z))
  (hg:∀ w y x,g w=false->V y->F w y=some x->x=y)
  (hb:∀ a∈p,∀ b∈q,at_ a=at_ b->∃ w,F (c a b) (v.getD (at_ a).toNat z)=some w):
  ∃ r,mg z (JV z F at_ v) at_ ((p.map (YX at_ c q)).filter g) v=some r/\
   (∀ a∈p,∀ b∈q,at_ a=at_ b->F (c a b) (v.getD (at_ a).toNat z)=some (r.getD (at_ a).toNat z))/\
   ∀ i:Nat,(∀ b∈q,(at_ b).toNat≠i)->r.getD i z=u.getD i z:=by
 have ac:=Z19 (g:=g) (Z25 (f:=YX at_ c q) (Z1F hc q) hp)
 have np:=Z0v V2 hp
 have nq:=Z0v V2 hq
 obtain ⟨a1,a2⟩:=JF V2 hp hu
 obtain ⟨b1,b2⟩:=JF V2 hq hv
 have af:∀ a∈p,(∃ b∈q,at_ b=at_ a/\YX at_ c q a=c a b)\/(YX at_ c q a=a/\∀ b∈q,(at_ b).toNat≠(at_ a).toNat):=by
  intro a s
  unfold YX
  cases e:Z3P at_ q (at_ a) with
  | some b=>
   obtain ⟨h1,h2⟩:=Z4Y at_ _ _ _ e
   grind
  | none=>
   refine .inr ⟨rfl,fun b hb h=> Zyy hq e b hb ?_⟩
   grind
 have ex:∀ a∈p,∃ w,F (YX at_ c q a) (v.getD (at_ a).toNat z)=some w:=by
  intro a s
  rcases af a s with ⟨b,ab,e1,e2⟩ | ⟨e,hn⟩
  .grind
  .rw [e,b2 _ hn]
   obtain ⟨x,hx,_⟩:=a1 a s
   exact ⟨x,hx⟩
 obtain ⟨r,hr⟩:=Z5Q (z:=z) (f:=JV z F at_ v) (p:=at_) (ws:=(p.map (YX at_ c q)).filter g) (out:=v) (by
  intro w hw
  obtain ⟨a,s,rfl⟩:=X8.1 (Xi.1 hw).1
  show ∃ x,F (YX at_ c q a) (v.getD (at_ (YX at_ c q a)).toNat z)=some x
  grind)
 obtain ⟨r1,r2⟩:=JF V2 ac hr
 have at1:∀ a∈p,F (YX at_ c q a) (v.getD (at_ a).toNat z)=some (r.getD (at_ a).toNat z):=by
  intro a s
  by_cases hga:g (YX at_ c q a)=true
  .obtain ⟨x,hx,hr⟩:=r1 _ (Xi.2 ⟨X8.2 ⟨a,s,rfl⟩,hga⟩)
   unfold JV at hx
   rw [Z1F hc] at hx hr
   rw [hr,hx]
  .rw [K7] at hga
   obtain ⟨x,hx⟩:=ex a s
   rw [hx,hg _ _ _ hga (hV _) hx,r2 _ fun w hw e=> ?_]
   obtain ⟨h1,h2⟩:=Xi.1 hw
   obtain ⟨a',ai,rfl⟩:=X8.1 h1
   rw [Z1F hc] at e
   have:=np a s
   have:=np a' ai
   have:a'=a:=ZCn hp ai s JX
   grind
 refine ⟨r,hr,fun a s b ab e=> ?_,fun i hn=> ?_⟩
 .have:YX at_ c q a=c a b:=by
   unfold YX
   rw [e,Z3O hq b ab]
  grind
 .by_cases hi:∃ a∈p,(at_ a).toNat=i
  .obtain ⟨a,s,rfl⟩:=hi
   have h:=at1 a s
   rcases af a s with ⟨b,ab,e1,_⟩ | ⟨e,_⟩
   .grind
   .obtain ⟨x,hx,az⟩:=a1 a s
    unfold JV at hx
    grind
  .have hi:∀ a∈p,(at_ a).toNat≠i:=fun a s e=> hi ⟨a,s,e⟩
   rw [r2 i,b2 i hn,a2 i hi]
   intro w hw
   obtain ⟨a,s,rfl⟩:=X8.1 (Xi.1 hw).1
   grind
theorem ZfA {R:α->α->Prop} (Rr:∀ x,R x x) {cx cy:β->β->β} {g:β->Bool} {p q:List β} {l u v:List α} (hx:∀ a b,at_ (cx a b)=at_ a) (hy:∀ a b,at_ (cy a b)=at_ a)
  (hp:asc at_ (-1) p) (hq:asc at_ (-1) q) (hu:mg z (JV z F at_ l) at_ p l=some u) (hv:mg z (JV z F at_ l) at_ q l=some v)
  (hVu:∀ i,V (u.getD i z)) (hVv:∀ i,V (v.getD i z)) (hg:∀ w y x,g w=false->V y->F w y=some x->x=y)
  (hb:∀ a∈p,∀ b∈q,at_ a=at_ b->∀ x y,F a (l.getD (at_ a).toNat z)=some x->F b (l.getD (at_ a).toNat z)=some y->∃ w1 w2,F (cy b a) x=some w1/\F (cx a b) y=some w2/\R w1 w2):
  ∃ w1 w2,mg z (JV z F at_ u) at_ ((q.map (YX at_ cy p)).filter g) u=some w1/\mg z (JV z F at_ v) at_ ((p.map (YX at_ cx q)).filter g) v=some w2/\∀ i,R (w1.getD i z) (w2.getD i z):=by
 have np:=Z0v V2 hp
 have nq:=Z0v V2 hq
 obtain ⟨a1,a2⟩:=JF V2 hp hu
 obtain ⟨b1,b2⟩:=JF V2 hq hv
 have bb:∀ a∈p,∀ b∈q,at_ a=at_ b->∃ w1 w2,F (cy b a) (u.getD (at_ a).toNat z)=some w1/\F (cx a b) (v.getD (at_ a).toNat z)=some w2/\R w1 w2:=by
  intro a ha b s e
  obtain ⟨x,ah,ak⟩:=a1 a ha
  obtain ⟨y,ab,af⟩:=b1 b s
  unfold JV at ah ab
  rw [<-e] at ab af
  rw [ak,af]
  exact hb a ha b s e x y ah ab
 obtain ⟨w2,e2,t2,s2⟩:=ZlI (c:=cx) (g:=g) (V:=V) hx hp hq hu hv hVv hg fun a ha b s e=> by
  grind
 obtain ⟨w1,e1,t1,s1⟩:=ZlI (c:=cy) (g:=g) (V:=V) hy hq hp hv hu hVu hg fun b s a ha e=> by
  obtain ⟨w,_,h,_⟩:=bb a ha b s e.symm
  grind
 refine ⟨w1,w2,e1,e2,fun i=> ?_⟩
 by_cases ha:∃ a∈p,(at_ a).toNat=i
 .by_cases s:∃ b∈q,(at_ b).toNat=i
  .obtain ⟨a,ha,ea⟩:=ha
   obtain ⟨b,s,eb⟩:=s
   have:=np a ha
   have:=nq b s
   have e:at_ a=at_ b:=JX
   obtain ⟨x,y,h1,h2,hR⟩:=bb a ha b s e
   grind
  .have s:∀ b∈q,(at_ b).toNat≠i:=fun b h e=> s ⟨b,h,e⟩
   rw [s2 i s]
   have hw:w1.getD i z=u.getD i z:=by
    have ac:=Z19 (g:=g) (Z25 (f:=YX at_ cy p) (Z1F hy p) hq)
    refine (JF V2 ac e1).2 i fun w hw=> ?_
    obtain ⟨b,aj,rfl⟩:=X8.1 (Xi.1 hw).1
    rw [Z1F hy]
    exact s b aj
   grind
 .have ha:∀ a∈p,(at_ a).toNat≠i:=fun a h e=> ha ⟨a,h,e⟩
  rw [s1 i ha]
  have hw:w2.getD i z=v.getD i z:=by
   have ac:=Z19 (g:=g) (Z25 (f:=YX at_ cx q) (Z1F hx q) hp)
   refine (JF V2 ac e2).2 i fun w hw=> ?_
   obtain ⟨a,al,rfl⟩:=X8.1 (Xi.1 hw).1
   rw [Z1F hx]
   exact ha a al
  grind
end
theorem Zip{m:Int}(hm:0<=m/\m < 256):(0<=Z6l m/\Z6l m < 256)/\∀ i:Nat,i < 8->Ys (Z6l m) (i:Int)= !Ys m (i:Int):=by
 have h:(BitVec.ofInt 8 255 ^^^ BitVec.ofInt 8 m).toNat < 256:=(BitVec.ofInt 8 255 ^^^ BitVec.ofInt 8 m).isLt
 have e:Z6l m=((BitVec.ofInt 8 255 ^^^ BitVec.ofInt 8 m).toNat:Int):=by
  show IntKind.wrap .u8 ((BitVec.ofInt 8 255 ^^^ BitVec.ofInt 8 m).toNat:Int)=_
  exact Z5m JX JX
 refine ⟨by rw [e];omega,fun i s=> ?_⟩
 rw [Z2q _ (by rw [e];omega) (by rw [e];omega),e,Z2q m hm.1 hm.2]
 have:(BitVec.ofInt 8 (((BitVec.ofInt 8 255 ^^^ BitVec.ofInt 8 m).toNat:Nat):Int)).toNat=(BitVec.ofInt 8 255 ^^^ BitVec.ofInt 8 m).toNat:=by
  generalize (BitVec.ofInt 8 255 ^^^ BitVec.ofInt 8 m).toNat=k at h ⊢
  simp
  omega
 rw [this,BitVec.toNat_xor,Nat.testBit_xor]
 have:(BitVec.ofInt 8 255).toNat.testBit i=true:=by
  revert i
  decide
 grind
theorem Zpf{a b:WEdit}(ra:Z0O a)(rb:Z0O b){x u v:Int}(hu:doW a x=some u)(hv:doW b x=some v):
  J4 a b=false/\(Z12 a b=false->∃ w1 w2,doW (Z1D b a) u=some w1/\doW (Z1D a b) v=some w2/\w1=w2):=by
 unfold doW at hu hv
 split at hu
 .rename_i ea
  split at hv
  .rename_i eb
   cases hu
   cases hv
   have A:=Z4i ra.2.1 rb.2.1
   have na:=Zip ra.2.1
   have nb:=Zip rb.2.1
   have A1:=Z4i na.1 rb.2.1
   have A2:=Z4i nb.1 ra.2.1
   have oa:∀ i:Nat,i < 8->Ys a.mask (i:Int)=true->Zl a.old i=Zl x i:=fun i s h=> by rw [<-ea,Yn s,if_pos h]
   have ob:∀ i:Nat,i < 8->Ys b.mask (i:Int)=true->Zl b.old i=Zl x i:=fun i s h=> by rw [<-eb,Yn s,if_pos h]
   refine ⟨decide_eq_false (Classical.not_not.2 (Z02 (J7 _ _ _) (J7 _ _ _) fun i s=> ?_)),fun hc=> ?_⟩
   .rw [Yn s,Yn s,A.2]
    grind
   .have hc:mix 0 a.new (Z0Y a.mask b.mask)=mix 0 b.new (Z0Y a.mask b.mask):=Classical.not_not.1 (of_decide_eq_false hc)
    have c1:mix 0 (mix x a.new a.mask) (Z1D b a).mask=(Z1D b a).old:=by
     show mix 0 (mix x a.new a.mask) (Z0Y (Z6l a.mask) b.mask)=mix 0 b.old (Z0Y (Z6l a.mask) b.mask)
     refine Z02 (J7 _ _ _) (J7 _ _ _) fun i s=> ?_
     rw [Yn s,Yn s,Yn s,A1.2,na.2 i s]
     cases ha:Ys a.mask (i:Int) with
     | true=> simp
     | false=>
      grind
    have c2:mix 0 (mix x b.new b.mask) (Z1D a b).mask=(Z1D a b).old:=by
     show mix 0 (mix x b.new b.mask) (Z0Y (Z6l b.mask) a.mask)=mix 0 a.old (Z0Y (Z6l b.mask) a.mask)
     refine Z02 (J7 _ _ _) (J7 _ _ _) fun i s=> ?_
     rw [Yn s,Yn s,Yn s,A2.2,nb.2 i s]
     cases hb:Ys b.mask (i:Int) with
     | true=> simp
     | false=>
      grind
    unfold doW
    rw [if_pos c1,if_pos c2]
    refine ⟨_,_,rfl,rfl,?_⟩
    show mix (mix x a.new a.mask) (mix 0 b.new (Z0Y (Z6l a.mask) b.mask)) (Z0Y (Z6l a.mask) b.mask)=mix (mix x b.new b.mask) (mix 0 a.new (Z0Y (Z6l b.mask) a.mask)) (Z0Y (Z6l b.mask) a.mask)
    refine Z02 (J7 _ _ _) (J7 _ _ _) fun i s=> ?_
    have e:=congrArg (fun x=> Zl x i) hc
    simp only [Yn s,A.2,A1.2,A2.2,na.2 i s,nb.2 i s] at e ⊢
    grind
  .cases hv
 .cases hu
theorem Zz6{w:WEdit}{y x:Int}(h:(!decide (w.mask=0))=false)(hy:isW y)(e:doW w y=some x):x=y:=by
 have h:w.mask=0:=by simpa using h
 unfold doW at e
 rw [h] at e
 split at e
 .rw [<-Option.some.inj e]
  refine Z02 (J7 _ _ _) hy fun i u=> ?_
  have s:Ys 0 (i:Int)=false:=by unfold Ys;simp
  rw [Yn u,s,if_neg V2]
 .cases e
theorem Zeg{a:List Op}{s d:List Tree}(h:Run a s d):∀ {b:List Op} {u d':List Tree},Run b u d'->Run (a++b) (s++u) (d++d'):=by
 induction h with
 | nil=> grind
 | keep k n _ ih=> intro b u d' h;rw [Qo,Qo];exact .keep k n (ih h)
 | gone k n _ ih=> intro b u d' h;rw [Qo];exact .gone k n (ih h)
 | come k _ ih=> intro b u d' h;rw [Qo];exact .come k (ih h)
 | into k e _ ih=> intro b u d' h;exact .into k e (ih h)
theorem Z7z(l:List Tree):Run (Z0F l.length) l l:=by
 unfold Z0F
 split
 .rename_i h
  have:l=[]:=Q5 JX
  rw [this];exact .nil
 .exact Z0y rfl rfl
theorem ZlH(l:List Tree):Run (Z5X l) [] l:=by
 unfold Z5X
 split
 .rename_i h
  rw [h];exact .nil
 .have:=Run.come (o:=⟨2,0,l,Edit.nil⟩) (r:=[]) (s:=[]) (d:=[]) rfl .nil
  grind
def SqL(S:PL)(u v:List Tree):Prop:=S.a=false/\(S.c=false->∃ w1 w2,Run S.y u w1/\Run S.x v w2/\EqvL w1 w2)
theorem SqL.app{S T:PL}{u v u' v':List Tree}(h:SqL S u v)(k:SqL T u' v'):SqL (S.app T) (u++u') (v++v'):=by
 refine ⟨by show (S.a || T.a)=false;rw [h.1,k.1];rfl,fun c=> ?_⟩
 have c:(S.c || T.c)=false:=c
 rw [QB] at c
 obtain ⟨w1,w2,s,h2,h3⟩:=h.2 c.1
 obtain ⟨x1,x2,k1,k2,k3⟩:=k.2 c.2
 exact ⟨_,_,Zeg s k1,Zeg h2 k2,Zh9 h3 k3⟩
theorem ZoK(m h:List Tree):SqL (Z0r m h) m h:=by
 unfold Z0r
 by_cases e:m≠[]/\h≠[]
 .rw [if_pos e]
  refine ⟨rfl,fun c=> ⟨m,h,Z7z m,Z7z h,?_⟩⟩
  have c:(!Z2Y m h)=false:=c
  rw [Xu] at c
  exact Z0c.1 c
 .rw [if_neg e]
  have s:m=[]\/h=[]:=by
   by_cases s:m=[]
   .exact .inl s
   .by_cases hh:h=[]
    .exact .inr hh
    .exact absurd ⟨s,hh⟩ e
  refine ⟨rfl,fun _=> ⟨m++h,m++h,?_,?_,rfl⟩⟩
  .have:=Zeg (Z7z m) (ZlH h)
   grind
  .have:=Zeg (ZlH m) (Z7z h)
   exact this
theorem ZlG{e:Edit}{x y:Tree}(h:doE false e x=some y):Run [Z6b e] [x] [y]:=by
 unfold Z6b
 split
 .rename_i k
  rw [Z9H k] at h
  cases h
  exact Z0y rfl rfl
 .exact .into rfl h .nil
theorem ZwR {f:Edit->Edit->Lft} {p q:Op} {s u v:List Tree} (op:ZX p) (oq:ZX q) (hl:Z4 p=Z4 q) (p2:p.kind≠2) (q2:q.kind≠2) (hs:∀ t∈s,RT_ t)
  (rp:p.kind=3->∃ d,Z3 p.e d=true) (rq:q.kind=3->∃ d,Z3 q.e d=true)
  (hf:p.kind=3->q.kind=3->Sq (f p.e q.e) p.e q.e) (hp:Run [p] s u) (hq:Run [q] s v):SqL (ZP f p q) u v:=by
 have kp:=ZH op
 have kq:=ZH oq
 unfold kOk at kp kq
 by_cases a0:p.kind=0
 .have eu:=Z2d a0 hp
  subst eu
  by_cases b1:q.kind=1
  .rw [ZAy a0 b1]
   obtain ⟨a,s',rfl,hn,hr⟩:=(ZV b1).1 hq
   obtain ⟨rfl,rfl⟩:=Zr hr
   exact ⟨rfl,fun _=> ⟨[],[],hq,.nil,rfl⟩⟩
  .rw [pL0 a0 b1]
   refine ⟨rfl,fun _=> ⟨v,v,hq,Z0y rfl ?_,rfl⟩⟩
   have l1:=Z47 oq b1 hq
   show (v.length:Int)=if q.n < 1 then 1 else q.n
   by_cases b0:q.kind=0
   .have:=(Z3c oq b0).2
    omega
   .have:=ZeD oq b0
    rw [Jq]
    have:=J0 (o:=q) JX
    omega
 by_cases b0:q.kind=0
 .have ev:=Z2d b0 hq
  subst ev
  by_cases a1:p.kind=1
  .rw [ZAx a1 b0]
   obtain ⟨a,s',rfl,hn,hr⟩:=(ZV a1).1 hp
   obtain ⟨rfl,rfl⟩:=Zr hr
   exact ⟨rfl,fun _=> ⟨[],[],.nil,hp,rfl⟩⟩
  .rw [ZAu a0 a1 b0]
   refine ⟨rfl,fun _=> ⟨u,u,Z0y rfl ?_,hp,rfl⟩⟩
   have l1:=Z47 op a1 hp
   have:=J0 (o:=p) JX
   grind
 by_cases a1:p.kind=1
 .obtain ⟨a,s',rfl,hn,hr⟩:=(ZV a1).1 hp
  obtain ⟨rfl,rfl⟩:=Zr hr
  by_cases b1:q.kind=1
  .obtain ⟨a',s',es,ai,h⟩:=(ZV b1).1 hq
   obtain ⟨e0,rfl⟩:=Zr h
   subst e0
   rw [ZAw a1 b1]
   rw [Ql,Ql] at es
   subst es
   refine ⟨?_,fun _=> ⟨[],[],.nil,.nil,rfl⟩⟩
   show (!Z2Y p.l q.l)=false
   rw [Xu]
   exact Z0c.2 (hn.trans ai.symm)
  .have b3:q.kind=3:=JX
   rw [pL1 a1 b0 b1]
   obtain ⟨x,s',y,d',e1,_,he,h⟩:=(Jw b3).1 hq
   obtain ⟨rfl,_⟩:=Zr h
   rw [Ql] at e1
   subst e1
   obtain ⟨d,rq⟩:=rq b3
   have hx:Eqv x (p.l.getD 0 Tree.nil):=by
    have:=EqvL.get (show EqvL p.l [x] from hn) 0
    exact this.symm
   have:=(Z30 q.e d x _ rq hx).isSome
   rw [he] at this
   refine ⟨?_,fun c=> by cases c⟩
   grind
 have a3:p.kind=3:=JX
 obtain ⟨x,s',y,d',rfl,rfl,he,hr⟩:=(Jw a3).1 hp
 obtain ⟨rfl,rfl⟩:=Zr hr
 by_cases b1:q.kind=1
 .obtain ⟨a,s',e1,hn,h⟩:=(ZV b1).1 hq
  obtain ⟨rfl,rfl⟩:=Zr h
  rw [Ql] at e1
  subst e1
  rw [ZAt a0 a1 b1]
  obtain ⟨d,rp⟩:=rp a3
  have hx:Eqv x (q.l.getD 0 Tree.nil):=by
   have:=EqvL.get (show EqvL q.l [x] from hn) 0
   exact this.symm
  have:=(Z30 p.e d x _ rp hx).isSome
  rw [he] at this
  refine ⟨?_,fun c=> by cases c⟩
  grind
 .have b3:q.kind=3:=JX
  obtain ⟨x',s',y',d',e1,rfl,aj,h⟩:=(Jw b3).1 hq
  cases e1
  obtain ⟨_,rfl⟩:=Zr h
  rw [ZAv a0 a1 b0 b1]
  obtain ⟨h1,h2⟩:=hf a3 b3 x y y' (hs x Q7) he aj
  refine ⟨h1,fun c=> ?_⟩
  obtain ⟨w1,w2,g1,g2,g3⟩:=h2 c
  exact ⟨[w1],[w2],ZlG g1,ZlG g2,JK.2 g3⟩
theorem ZGs{f:Edit->Edit->Lft}:∀ (k:Nat) (p q:List Op) (m h s u v:List Tree),p.length+q.length<=k->(∀ o∈p,ZX o/\(o.kind=3->∃ d,Z3 o.e d=true))->(∀ o∈q,ZX o/\(o.kind=3->∃ d,Z3 o.e d=true))->
  (∀ a∈p,∀ b∈q,a.kind=3->b.kind=3->Sq (f a.e b.e) a.e b.e)->(∀ t∈s,RT_ t)->Run p s u->Run q s v->∃ S,Lay f p q m h S/\SqL S (m++u) (h++v):=by
 intro k
 induction k with
 | zero=>
  intro p q m h s u v hk _ _ _ _ hp hq
  have e1:p=[]:=Q5 JX
  have e2:q=[]:=Q5 JX
  subst e1 e2
  obtain ⟨_,rfl⟩:=Zr hp
  obtain ⟨_,rfl⟩:=Zr hq
  rw [Ql,Ql]
  exact ⟨_,.nil m h,ZoK m h⟩
 | succ k ih=>
  intro p q m h s u v hk op oq hf hs hp hq
  by_cases h1:∃ a p',p=a ::p'/\a.kind=2
  .obtain ⟨a,p',rfl,k2⟩:=h1
   obtain ⟨u',rfl,a3⟩:=(ZY k2).1 hp
   obtain ⟨S,L,H⟩:=ih p' q (m++a.l) h s u' v (by grind) (fun o ho=> op o (Q0 _ ho)) oq (fun x hx=> hf x (Q0 _ hx)) hs a3 hq
   rw [Qo] at H
   exact ⟨S,.left k2 L,H⟩
  have np:∀ a∈p.head?,a.kind≠2:=by
   intro a ha e
   cases p with
   | nil=> cases ha
   | cons a' p'=> grind
  by_cases h2:∃ b q',q=b ::q'/\b.kind=2
  .obtain ⟨b,q',rfl,k2⟩:=h2
   obtain ⟨v',rfl,az⟩:=(ZY k2).1 hq
   obtain ⟨S,L,H⟩:=ih p q' m (h++b.l) s u v' (by grind) op (fun o ho=> oq o (Q0 _ ho)) (fun x hx y hy=> hf x hx y (Q0 _ hy)) hs hp az
   rw [Qo] at H
   exact ⟨S,.right np k2 L,H⟩
  have a9:(s.length:Int)=Ju p:=(Zjq hp fun o ho=> (op o ho).1).1
  have a6:(s.length:Int)=Ju q:=(Zjq hq fun o ho=> (oq o ho).1).1
  cases p with
  | nil=>
   obtain ⟨rfl,rfl⟩:=Zr hp
   cases q with
   | nil=>
    obtain ⟨_,rfl⟩:=Zr hq
    rw [Ql,Ql]
    exact ⟨_,.nil m h,ZoK m h⟩
   | cons b q'=>
    exfalso
    have kb:b.kind≠2:=fun e=> h2 ⟨_,_,rfl,e⟩
    have ob:=(oq b Q7).1
    obtain ⟨m1,m',d',e,hl,_⟩:=Z5B ob kb hq
    have:=ZJ ob
    grind
  | cons a p'=>
   have ka:a.kind≠2:=fun e=> h1 ⟨_,_,rfl,e⟩
   have oa:=(op a Q7).1
   have la:=ZJ oa
   cases q with
   | nil=>
    exfalso
    obtain ⟨rfl,_⟩:=Zr hq
    obtain ⟨m1,m',d',e,hl,_⟩:=Z5B oa ka hp
    grind
   | cons b q'=>
    have kb:b.kind≠2:=fun e=> h2 ⟨_,_,rfl,e⟩
    have ob:=(oq b Q7).1
    have lb:=ZJ ob
    generalize hn:min (Z4 a) (Z4 b)=n
    have n1:1<=n:=JX
    have a1:n<=Z4 a:=JX
    have av:n<=Z4 b:=JX
    obtain ⟨P1,P2,P3,_,_,PR⟩:=Z2i (fun o ho=> (op o ho).1) n1 a1
    obtain ⟨Q1,Q2,Q3,_,_,QR⟩:=Z2i (fun o ho=> (oq o ho).1) n1 av
    obtain ⟨s1,s2,u1,u2,rfl,rfl,al,a4⟩:=(Z6G (ZH P1)).1 ((PR s u).1 hp)
    obtain ⟨bb,bl,v1,v2,es,rfl,ao,ay⟩:=(Z6G (ZH Q1)).1 ((QR _ v).1 hq)
    have l1:=Z5A P1 JX al
    have l2:=Z5A Q1 JX ao
    obtain ⟨rfl,rfl⟩:=XP es JX
    have bc:=Zpn (a:=a) (b:=b) (p:=p') (q:=q') hn.symm
    have tp:∀ o∈ZF (a ::p') n,ZX o/\(o.kind=3->∃ d,Z3 o.e d=true):=fun o ho=> ⟨Z7t (fun o ho=> (op o ho).1) (by simp) n1 o ho,fun k3=> by
     rcases Z05 ho with h | rfl
     .grind
     .rw [Z2g];rw [J9] at k3;grind⟩
    have tq:∀ o∈ZF (b ::q') n,ZX o/\(o.kind=3->∃ d,Z3 o.e d=true):=fun o ho=> ⟨Z7t (fun o ho=> (oq o ho).1) (by simp) n1 o ho,fun k3=> by
     rcases Z05 ho with h | rfl
     .grind
     .rw [Z2g];rw [J9] at k3;grind⟩
    obtain ⟨S,L,H⟩:=ih _ _ [] [] s2 u2 v2 JX tp tq (fun x hx y hy kx ky=> by
     rcases Z05 hx with hx | rfl
     .rcases Z05 hy with hy | rfl
      .grind
      .rw [Z2g];rw [J9] at ky;grind
     .rw [Z2g];rw [J9] at kx
      rcases Z05 hy with hy | rfl
      .grind
      .rw [Z2g];rw [J9] at ky;grind) (fun t ht=> hs t (X5 _ ht)) a4 ay
    refine ⟨_,.both ka kb hn.symm L,?_⟩
    have a0:SqL (ZP f (ZB a n) (ZB b n)) u1 v1:=by
     refine ZwR P1 Q1 JX JX JX (fun t ht=> hs t (QP _ ht)) ?_ ?_ ?_ al ao
     .rw [P3,Z2I];grind
     .rw [Q3,Z2I];grind
     .rw [P3,Q3,Z2I,Z2I];grind
    have:=((ZoK m h).app a0).app H
    grind
theorem Ztg{os:List Op}{s d:List Tree}(h:Run os s d):(∀ o∈os,o.kind=0)->d=s:=by
 induction h with
 | nil=> intro _;rfl
 | keep k n _ ih=> grind
 | gone k n _ ih=> grind
 | come k _ ih=> grind
 | into k e _ ih=> grind
theorem ZpS{list:Int}{os:List Op}{s d:List Tree}(h:Run os s d):doE false (Z1w list os) (.mk list [] s)=some (.mk list [] d):=by
 unfold Z1w
 split
 .rw [Zz5,if_pos (show (Tree.mk list [] s).kind=list from rfl)]
  show (Z22 (ZM false os s [])).map _=_
  rw [Zns h]
  try rfl
 .rename_i e
  rw [Z9H rfl,Ztg h]
  grind
end Go.AM.YtpjenobkibfpcaaGreat
namespace Go.AM.YtpjenobkibfpcaaGreat
open Go.AM Go.Proofs
theorem Sq.swap{L:Lft}{p q:Edit}(h:Sq L.swap q p):Sq L p q:=by
 intro t u v ht hu hv
 obtain ⟨h1,h2⟩:=h t v u ht hv hu
 refine ⟨h1,fun c=> ?_⟩
 obtain ⟨w1,w2,g1,s,g3⟩:=h2 c
 exact ⟨w2,w1,s,g1,Eq.symm g3⟩
theorem ZhY{a b:Tree}:Yf a b=true↔a=b:=by unfold Yf;grind
theorem ZeV{α:Type}{at_:α->Int}{g:α->α->Bool}{p q:List α}:Z0w at_ g p q=false↔∀ a∈p,∀ b∈q,at_ a=at_ b->g a b=false:=by
 unfold Z0w
 grind
theorem ZpH {ws:List WEdit} {ks:List Kid} {tw a:List Int} {tk b:List Tree} (h1:wsD tw (ws.filter fun w=> !decide (w.mask=0)) tw=some a)
  (h2:Jy false tk (ks.filter fun k=> !decide (k.e.kind=0)) tk=some b):doE false (Z4H (.mk 2 Tree.nil Tree.nil ws ks 0 [])) (.mk 1 tw tk)=some (.mk 1 a b):=by
 unfold Z4H
 split
 .rename_i h
  have h:(ws.filter fun w=> !decide (w.mask=0)).length+(ks.filter fun k=> !decide (k.e.kind=0)).length=0:=h
  rw [Q5 (show (ws.filter fun w=> !decide (w.mask=0)).length=0 by omega)] at h1
  rw [Q5 (show (ks.filter fun k=> !decide (k.e.kind=0)).length=0 by omega)] at h2
  rw [Z9H rfl]
  cases h1
  rw [Jy] at h2
  grind
 .show doE false (.mk 2 Tree.nil Tree.nil (ws.filter fun w=> !decide (w.mask=0)) (ks.filter fun k=> !decide (k.e.kind=0)) 0 []) (.mk 1 tw tk)=_
  rw [ZrV,if_pos (show (Tree.mk 1 tw tk).kind=1 from rfl)]
  simp_all
theorem ZFi{f:Edit->Edit->Lft}{p q:Edit}(wp:Wk p)(wq:Wk q)(p2:p.kind=2)(q2:q.kind=2)(hf:∀ a∈p.kids,∀ b∈q.kids,Sq (f a.e b.e) a.e b.e):Sq (Z6k f p q) p q:=by
 intro t u v ht hu hv
 have rp:=Zh wp.r
 have rq:=Zh wq.r
 rw [ZoO p2] at hu
 rw [ZoO q2] at hv
 split at hu
 .rename_i t1
  rw [if_pos t1] at hv
  obtain ⟨uw,u1,hu⟩:=Qd.1 hu
  obtain ⟨uk,u2,rfl⟩:=Q9.1 hu
  obtain ⟨vw,v1,hv⟩:=Qd.1 hv
  obtain ⟨vk,v2,rfl⟩:=Q9.1 hv
  have iw:=(Zeh ht.2).2.1
  have iu:=Zj9 iw u1
  have iv:=Zj9 iw v1
  have hk:=ht.kids.1
  rw [Z5l] at u1 v1
  rw [Z3R] at u2 v2
  have pw:=Z03 rp.words
  have qw:=Z03 rq.words
  have pk:=Z0U rp.kids
  have qk:=Z0U rq.kids
  obtain ⟨a1,_⟩:=JF V2 pw u1
  obtain ⟨b1,_⟩:=JF V2 qw v1
  obtain ⟨c1,_⟩:=JF V2 pk u2
  obtain ⟨d1,_⟩:=JF V2 qk v2
  have gp:=ZC wp.g
  have gq:=ZC wq.g
  have W:∀ a∈p.words,∀ b∈q.words,a.at_=b.at_->J4 a b=false:=by
   intro a h b s e
   obtain ⟨x,hx,_⟩:=a1 a h
   obtain ⟨y,hy,_⟩:=b1 b s
   unfold JV at hx hy
   rw [<-e] at hy
   exact (Zpf (gp.2.2.1 a h) (gq.2.2.1 b s) hx hy).1
  have K:∀ a∈p.kids,∀ b∈q.kids,a.at_=b.at_->(f a.e b.e).a=false:=by
   intro a h b s e
   obtain ⟨x,hx,_⟩:=c1 a h
   obtain ⟨y,hy,_⟩:=d1 b s
   unfold JV at hx hy
   rw [<-e] at hy
   exact (hf a h b s _ _ _ (Z7s hk _) hx hy).1
  refine ⟨?_,fun c=> ?_⟩
  .show (Z0w WEdit.at_ J4 p.words q.words || Z0w KidOf.at_ (fun a b=> (f a.e b.e).a) p.kids q.kids)=false
   rw [ZeV.2 W,ZeV.2 K]
   try rfl
  .have c:(Z0w WEdit.at_ (fun a b=> !J4 a b && Z12 a b) p.words q.words || Z0w KidOf.at_ (fun a b=> (f a.e b.e).c) p.kids q.kids)=false:=c
   rw [QB,ZeV,ZeV] at c
   obtain ⟨w1,w2,e1,e2,e3⟩:=ZfA (R:=Eq) (V:=isW) (cx:=Z1D) (cy:=Z1D) (g:=fun w:WEdit=> !decide (w.mask=0)) (fun _=> rfl) Zbf Zbf pw qw u1 v1
    (fun i=> Z9N iu i) (fun i=> Z9N iv i) (fun w y x h1 h2 h3=> Zz6 h1 h2 h3) (fun a h b s e x y hx hy=> by
     have cc:=c.1 a h b s e
     rw [W a h b s e] at cc
     exact (Zpf (gp.2.2.1 a h) (gq.2.2.1 b s) hx hy).2 cc)
   obtain ⟨k1,k2,f1,f2,f3⟩:=ZfA (R:=Eqv) (V:=fun _=> True) (F:=fun k:Kid=> doE false k.e) (cx:=fun a b:Kid=> ⟨a.at_,(f a.e b.e).x⟩) (cy:=fun b a:Kid=> ⟨b.at_,(f a.e b.e).y⟩) (g:=fun k:Kid=> !decide (k.e.kind=0)) (fun _=> rfl) (fun _ _=> rfl) (fun _ _=> rfl) pk qk u2 v2
    (fun _=> trivial) (fun _=> trivial) (fun w y x h1 _ h3=> by
     have h1:w.e.kind=0:=by simpa using h1
     have h3:doE false w.e y=some x:=h3
     rw [Z9H h1] at h3
     grind) (fun a h b s e x y hx hy=> (hf a h b s _ x y (Z7s hk _) hx hy).2 (c.2 a h b s e))
   rw [<-Z5l] at e1 e2
   rw [<-Z3R] at f1 f2
   exact ⟨_,_,ZpH e1 f1,ZpH e2 f2,(Z21 rfl rfl).2 ⟨e3,f3⟩⟩
 .cases hu
theorem ZGo{f:Edit->Edit->Lft}{p q:Edit}(wp:Wk p)(wq:Wk q)(p3:p.kind=3)(q3:q.kind=3)(hl:p.list=q.list)(hf:∀ a∈p.ops,∀ b∈q.ops,a.kind=3->b.kind=3->Sq (f a.e b.e) a.e b.e):Sq (Z4V f p q) p q:=by
 intro t u v ht s hv
 have rp:=Zh wp.r
 have rq:=Zh wq.r
 rw [ZoN p3] at s
 rw [ZoN q3] at hv
 split at s
 .rename_i t1
  rw [if_pos (by rw [t1,hl])] at hv
  obtain ⟨ul,u1,rfl⟩:=Q9.1 s
  obtain ⟨vl,v1,rfl⟩:=Q9.1 hv
  have op:=Z4c wp
  have oq:=Z4c wq
  rw [Z4f fun o h=> ZH (op o h).1] at u1
  rw [Z4f fun o h=> ZH (oq o h).1] at v1
  obtain ⟨S,L,H⟩:=ZGs (f:=f) _ p.ops q.ops [] [] t.kids ul vl (Qb _) (fun o h=> ⟨(op o h).1,fun k=> ⟨_,(Z3D (op o h) k).1.2.2.2.r⟩⟩) (fun o h=> ⟨(oq o h).1,fun k=> ⟨_,(Z3D (oq o h) k).1.2.2.2.r⟩⟩) hf ht.kids.1 u1 v1
  obtain ⟨b,ps,e1,e2⟩:=Zow L []
  have e:Z4V f p q=⟨Z1w p.list S.x,Z1w p.list S.y,S.c,S.a⟩:=by
   unfold Z4V
   grind
  rw [e]
  refine ⟨H.1,fun c=> ?_⟩
  obtain ⟨w1,w2,h1,h2,h3⟩:=H.2 c
  have am:=rp.list p3
  refine ⟨_,.mk p.list [] w2,ZpS h1,?_,?_⟩
  .rw [<-hl];exact ZpS h2
  .exact (Zh8 (show (Tree.mk p.list [] w1).kind≠0 from fun e=> by simp_all) (fun e=> by simp_all)).2 ⟨rfl,rfl,h3⟩
 .cases s
theorem Zlo{p q:Edit}{d:Int}(rq:Z3 q d=true)(p1:p.kind=1):Sq (Z11 q p.old p.new) p q:=by
 intro t u v ht s hv
 rw [ZmV p1] at s
 split at s
 .rename_i h
  cases s
  have h:Eqv p.old t:=ZhY.1 h
  have R:=Z30 q d p.old t rq h
  rw [hv] at R
  cases e:doE false q p.old with
  | none=> rw [e] at R;exact R.elim
  | some w=>
   rw [e] at R
   have R:Eqv w v:=R
   have hd:=Z7k e
   refine ⟨?_,fun c=> ?_⟩
   .show (!(doB q p.old).2)=false
    rw [hd];try rfl
   .have c:((doB q p.old).2 && !Yf (Z0 (doB q p.old).1) (Z0 p.new))=false:=c
    rw [hd,QL,Xu,ZhY,ZI] at c
    exact ⟨p.new,v,Z9H rfl _,Z9H rfl _,c.symm.trans R⟩
 .cases s
theorem ZKq:∀ (n:Nat) (p q:Edit),Z8 p+Z8 q<=n->Wk p->Wk q->Sq (lbF n p q) p q:=by
 intro n
 induction n with
 | zero=> intro p q h;obtain ⟨k,o,nw,w,ks,l,os⟩:=p;simp only [Z8] at h;omega
 | succ n ih=>
  intro p q hn wp s
  have rp:=Zh wp.r
  have rq:=Zh s.r
  show Sq (YW (lbF n) p q) p q
  by_cases p0:p.kind=0
  .rw [lb0 (.inl p0)]
   intro t u v ht hu hv
   rw [Z9H p0] at hu
   cases hu
   exact ⟨rfl,fun _=> ⟨v,v,hv,Z9H p0 v,rfl⟩⟩
  by_cases q0:q.kind=0
  .rw [lb0 (.inr q0)]
   intro t u v ht hu hv
   rw [Z9H q0] at hv
   cases hv
   exact ⟨rfl,fun _=> ⟨u,u,Z9H q0 u,hu,rfl⟩⟩
  by_cases p1:p.kind=1
  .rw [lb1 p1 q0]
   exact Zlo s.r p1
  by_cases q1:q.kind=1
  .rw [ZC4 p0 p1 q1]
   exact Sq.swap (Zlo wp.r q1)
  by_cases c2:p.kind≠q.kind\/p.list≠q.list
  .intro t u v ht hu hv
   exfalso
   obtain ⟨x1,x2,x3,x4⟩:=Z2Z wp.r hu
   obtain ⟨y1,y2,y3,y4⟩:=Z2Z s.r hv
   have hp:=rp.kind
   have hq:=rq.kind
   by_cases p2:p.kind=2
   .have e1:=(x2 p2).2
    by_cases q2:q.kind=2
    .have:=(rp.ops0 JX).1
     have:=(rq.ops0 JX).1
     omega
    .have q3:q.kind=3:=JX
     have:=(y3 q3).2
     have:=rq.list q3
     omega
   .have p3:p.kind=3:=JX
    have e1:=(x3 p3).2
    have:=rp.list p3
    grind
  have hk:q.kind=p.kind:=JX
  have aa:p.list=q.list:=JX
  by_cases p2:p.kind=2
  .rw [lb2 p2 JX aa]
   refine ZFi wp s p2 JX fun a ha b hb=> ih _ _ ?_ ?_ ?_
   .have:=Yd ha
    have:=Yd hb
    omega
   .exact ⟨Ya _ _ _ V2 (Zs rp.kids a ha).2,(Y6 (ZC wp.g).2.2.2.1 ha).2⟩
   .exact ⟨Ya _ _ _ V2 (Zs rq.kids b hb).2,(Y6 (ZC s.g).2.2.2.1 hb).2⟩
  .have hp:=rp.kind
   rw [lb3 hk.symm p0 p1 p2 aa]
   refine ZGo wp s JX JX aa fun a ha b hb ka kb=> ih _ _ ?_ ?_ ?_
   .have:=YV ha
    have:=YV hb
    omega
   .exact (Z3D (Z4c wp a ha) ka).1.2.2.2
   .exact (Z3D (Z4c s b hb) kb).1.2.2.2
theorem Zyw{p q:Edit}(wp:Wk p)(wq:Wk q):Sq (lbE p q) p q:=ZKq _ p q (Qb _) wp wq
theorem Zx5{e:Edit}{d:Int}{u s w:Tree}(r:Z3 e d=true)(hu:RT_ u)(h:doE false e u=some w)(he:Eqv u s):∃ z,doE false (Zj e) s=some z/\Eqv z w:=by
 have h1:=Z3E e d u r hu
 rw [h] at h1
 have h2:=Z30 (Zj e) d u s (Jm e d r) he
 cases e1:doE false (Zj e) u with
 | none=> rw [e1] at h1;exact h1.elim
 | some x=>
  rw [e1] at h1 h2
  cases e2:doE false (Zj e) s with
  | none=> rw [e2] at h2;exact h2.elim
  | some z=>
   rw [e2] at h2
   have h1:Eqv x w:=h1
   have h2:Eqv x z:=h2
   exact ⟨z,rfl,h2.symm.trans h1⟩
theorem ZGr{p q:Edit}{t u v:Tree}(h:Zto p q)(ht:RT_ t)(hu:doE false p t=some u)(hv:doE false q t=some v):
  (lbN p q).2.2=13\/((lbN p q).2.2=0/\∃ w1 w2,doE false (lbN p q).2.1 (Z0 u)=some w1/\doE false (lbN p q).1 (Z0 v)=some w2/\Eqv w1 w2):=by
 obtain ⟨⟨h1,h2⟩,h3⟩:=Zqa h
 obtain ⟨⟨_,gp,dp,rp⟩,⟨_,gq,dq,rq⟩,_⟩:=h
 have wp:Wk (Zj p):=Zev h1
 have s:Wk (Zj q):=Zev h2
 have e1:=Z3E p dp t rp ht
 have e2:=Z3E q dq t rq ht
 rw [hu] at e1
 rw [hv] at e2
 cases hu':doE false (Zj p) t with
 | none=> rw [hu'] at e1;exact e1.elim
 | some u'=>
  cases hv':doE false (Zj q) t with
  | none=> rw [hv'] at e2;exact e2.elim
  | some v'=>
   rw [hu'] at e1
   rw [hv'] at e2
   have e1:Eqv u' u:=e1
   have e2:Eqv v' v:=e2
   obtain ⟨ha,hc⟩:=Zyw wp s t u' v' ht hu' hv'
   unfold lbN
   rw [if_neg (by grind)]
   by_cases c:(lbE (Zj p) (Zj q)).c=true
   .grind
   .rw [if_neg c]
    refine .inr ⟨rfl,?_⟩
    obtain ⟨w1,w2,g1,g2,g3⟩:=hc (by simpa using c)
    obtain ⟨⟨_,_,dx,rx⟩,_,_,dy,ry⟩:=h3 ha (by simpa using c)
    obtain ⟨z1,k1,k2⟩:=Zx5 ry (Zhb wp.r ht wp.g hu') g1 (show Eqv u' (Z0 u) from e1.trans (ZI u).symm)
    obtain ⟨z2,k3,k4⟩:=Zx5 rx (Zhb s.r ht s.g hv') g2 (show Eqv v' (Z0 v) from e2.trans (ZI v).symm)
    exact ⟨z1,z2,k1,k3,k2.trans (g3.trans k4.symm)⟩
noncomputable section
def ZsF:ArgL (WEdit × Int × Unit):=(.cons (aEl .wedit) (.cons (Jj .u8) .nil))
def Zge(a:WEdit × Int × Unit):Prop:=wOk a.1/\0<=a.2.1/\a.2.1 < 256
def ZnN(a:WEdit × Int × Unit):V U:= .tup [(true,(enc .wedit ((ZiG a.1 a.2.1).1))),(false,[.bool ((ZiG a.1 a.2.1).2)])]
def Zeb:Fs U:=fs ZsF (fun a=> [Zge a]) ZnN
def Zl9:ArgM ((Bool × Bool × Unit) × WEdit × WEdit × Unit):=(.obj 0 (.cons Z2E (.cons Z2E .nil)) (.cons (aEl .wedit) (.cons (aEl .wedit) .nil)))
def Zke(a:(Bool × Bool × Unit) × WEdit × WEdit × Unit):Prop:=wOk a.2.1/\wOk a.2.2.1
def Zwq(a:(Bool × Bool × Unit) × WEdit × WEdit × Unit):V U:= .tup []
def ZaA(a:(Bool × Bool × Unit) × WEdit × WEdit × Unit):List (List (C U)):=[[.bool (a.1.1 || (!(J4 a.2.1 a.2.2.1) && Z12 a.2.1 a.2.2.1)),.bool (a.1.2.1 || J4 a.2.1 a.2.2.1)]]
def Zec:Fs U:=fsX Zl9 (fun a=> [Zke a]) Zwq ZaA
def Zk5(a:List Tree × Unit):Prop:=True
def ZjI(a:List Tree × Unit):V U:= .c (sU .op (Z5X a.1) (.own (.r 0 0)))
def Zac:Fs U:=fs Zsw (fun a=> [Zk5 a]) ZjI
def Zk4(a:Edit × Unit):Prop:=True
def ZjH(a:Edit × Unit):V U:= .agg (enc .op (Z6b a.1))
def Ze4:Fs U:=fs ZsH (fun a=> [Zk4 a]) ZjH
def ZsP:ArgL Unit:= .nil
def Zcf(a:Unit):Prop:=True
def ZnO(a:Unit):V U:= .tup [(true,(enc .edit Edit.nil)),(true,(enc .edit Edit.nil))]
def Zee:Fs U:=fs ZsP (fun a=> [Zcf a]) ZnO
def Zl6:ArgM ((Unit × List Op × List Op × List Tree × List Tree × Unit) × Edit × Tree × (Bool × Bool × Unit) × Unit):=(.obj 0 (.cons (cXp 1) (.cons (Z5d .op 0 1) (.cons (Z5d .op 0 2) (.cons (Z5d .tree 0 3) (.cons (Z5d .tree 0 4) .nil))))) (.cons (aEl .edit) (.cons (aEl .tree) (.hid (.cons Z2E (.cons Z2E .nil)) .nil))))
def Zg4(a:(Unit × List Op × List Op × List Tree × List Tree × Unit) × Edit × Tree × (Bool × Bool × Unit) × Unit):Prop:=(Z8 a.2.1<=20000000000/\ZZ a.2.1/\∃ d,Z3 a.2.1 d=true)/\Zo a.2.2.1+ctE a.2.1<=200000000000/\rng a.2.2.1
def Zwe(a:(Unit × List Op × List Op × List Tree × List Tree × Unit) × Edit × Tree × (Bool × Bool × Unit) × Unit):V U:= .tup []
def Zej(a:(Unit × List Op × List Op × List Tree × List Tree × Unit) × Edit × Tree × (Bool × Bool × Unit) × Unit):List (List (C U)):=[[.xp 1,sU .op a.1.2.1 (.own (.x 0 1)),sU .op a.1.2.2.1 (.own (.x 0 2)),sU .tree a.1.2.2.2.1 (.own (.x 0 3)),sU .tree a.1.2.2.2.2.1 (.own (.x 0 4))],[.bool true,.bool (a.2.2.2.1.2.1 || !(doE false a.2.1 a.2.2.1).isSome)]]
def Ze5:Fs U:=fsX Zl6 (fun a=> [Zg4 a]) Zwe Zej
def Zy4:Za U:=lvl [([1,2,4],[2,4]),([1,2,4],[2,4]),([4,5],[4])]
abbrev ZMK(p:List Nat):=AW (Z2 Z7V) Tryz.f140 Zy4 p
theorem ZJE(w:WEdit)(m:Int)(Q:QT)(h:let z0:=IntKind.wrap .u8 (BitVec.ofInt (IntKind.bits .u8) m &&& BitVec.ofInt (IntKind.bits .u8) w.mask).toNat;((Zkf (0,w.old,z0,()))/\(Zkf (0,w.new,z0,()))/\(Q .ret (L2 [pL 4,(5,.c (.bool ((z0:Int) !=0)))] [(.loc 4,[ci w.at_,.int .u8 z0,.int .u64 (mix 0 w.old z0),.int .u64 (mix 0 w.new z0)])])))):
  ZMK [] (L2 [(0,.agg (enc .wedit w)),(1,.c (.int .u8 m))] []) Q:=
 Eq.mpr V3 h
def ZDN(w:WEdit)(m:Int):Prop:=AW (Z2 Z7V) Tryz.f140 Zy4 [] (Zf (ZsF.can (w,m,())) []) (EQ Tryz.f140 (ZnN (w,m,())) [])
theorem ZBA(Z9J:CT 176 Zam)(hb:∀ (w:WEdit) (m:Int) (_:Unit),Zge (w,m,())->ZDN w m):CT 140 Zeb:=
 Z1 (l:=[(176,Zam)]) Ze rfl (⟨Z9J,trivial⟩) Zy4 Tryz.func140 rfl rfl 2 (fun _=> rfl) V2 (fun ⟨w,m,_⟩=> hb w m ())
def Zy5:Za U:=lvk [([0,4,5],[4,5,((.x 0),[])]),([0,4,5,6],[4,5,((.x 0),[])]),([0,4,5,6,12],[4,5,((.x 0),[])]),([],[((.x 0),[])]),([0,25],[((.x 0),[])]),([],[((.x 0),[])])]
abbrev ZML(p:List Nat):=AW (Z2 Z7V) Tryz.f139 Zy5 p
theorem ZJF(mc ma:Bool)(p q:WEdit)(Q:QT)(h:∀ s,s=(BitVec.ofInt (IntKind.bits .u8) p.mask &&& BitVec.ofInt (IntKind.bits .u8) q.mask)->let z0:=IntKind.wrap .u8 s.toNat;let z1:=((mix 0 p.new z0):Int) !=(mix 0 q.new z0);((Zkf (0,p.old,z0,()))/\(Zkf (0,q.old,z0,()))/\(iB (((mix 0 p.old z0):Int) !=(mix 0 q.old z0)) ((Q .normal (L2 [] [(.x 0,[.bool mc,.bool true])]))) ((Zkf (0,p.new,z0,()))/\(Zkf (0,q.new,z0,()))/\(iB z1 ((Q .normal (L2 [] [(.x 0,[.bool true,.bool ma])]))) (Q .normal (L2 [(0,.ptr (.x 0) 0),(25,.c (.bool z1))] [(.x 0,[.bool mc,.bool ma])]))))))):
  ZML [] (L2 [(0,.ptr (.x 0) 0),(1,.agg (enc .wedit p)),(2,.agg (enc .wedit q))] [(.x 0,[.bool mc,.bool ma])]) Q:=
 Eq.mpr V3 (h _ rfl)
def ZDO(mc ma:Bool)(p q:WEdit):Prop:=AW (Z2 Z7V) Tryz.f139 Zy5 [] (Zf (Zl9.can ((mc,ma,()),p,q,())) (Zl9.canX ((mc,ma,()),p,q,()))) (EQ Tryz.f139 (Zwq ((mc,ma,()),p,q,())) (ZaA ((mc,ma,()),p,q,())))
theorem ZBB(Z9J:CT 176 Zam)(hb:∀ (h:Bool) (s:Bool) (p:WEdit) (q:WEdit) (_:Unit),Zke ((h,s,()),p,q,())->ZDO h s p q):CT 139 Zec:=
 Zv (l:=[(176,Zam)]) Ze rfl (⟨Z9J,trivial⟩) Zy5 Tryz.func139 rfl rfl 3 (fun _=> rfl) V2 (fun ⟨⟨h,s,_⟩,p,q,_⟩=> hb h s p q ())
def ZxH:Za U:=lvl [([0],[]),([0,5],[]),([2],[]),([2],[])]
abbrev ZMu(p:List Nat):=AW (Z2 ZoA) Tryz.f195 ZxH p
theorem ZJ7(l:List Tree)(Q:QT)(h:(iB (((l.length:Int):Int)==0) ((Q .ret (L2 [(2,.c (.nils))] []))) ((Q .ret (L2 [(2,.c (sU .op ([(OpOf.mk 2 0 l (Edit.mk 0 (Tree.mk 0 [] []) (Tree.mk 0 [] []) [] [] 0 []))]) .full))] []))))):
  ZMu [] (L2 [(0,.c (sU .tree l .unk))] []) Q:=
 Eq.mpr V3 h
def ZDg(l:List Tree):Prop:=AW (Z2 ZoA) Tryz.f195 ZxH [] (Zf (Zsw.can (l,())) []) (EQ Tryz.f195 (ZjI (l,())) [])
theorem ZB8(hb:∀ (l:List Tree) (_:Unit),Zk5 (l,())->ZDg l):CT 195 Zac:=
 Z1 (l:=[]) Ze rfl trivial ZxH Tryz.func195 rfl rfl 1 (fun _=> rfl) V2 (fun ⟨l,_⟩=> hb l ())
def ZxF:Za U:=lvl [([1,2],[1,2]),([1,2,5],[1,2]),([2],[2]),([2],[2])]
abbrev ZMs(p:List Nat):=AW (Z2 ZoA) Tryz.f197 ZxF p
theorem ZJ5(e:Edit)(Q:QT)(h:(iB (e.kind==0) ((Q .ret (L2 [pL 2] [(.loc 2,[ci 0,ci 1,.nils,ci 0,ci 0,.nils,.nils,ci 0,.nils,.nils,.nils,.nils,ci 0,.nils])]))) ((Q .ret (L2 [pL 2] [(.loc 2,([ci 3,ci 0,.nils]++enc .edit e))]))))):
  ZMs [] (L2 [(0,.agg (enc .edit e))] []) Q:=
 Eq.mpr V3 h
def ZDe(e:Edit):Prop:=AW (Z2 ZoA) Tryz.f197 ZxF [] (Zf (ZsH.can (e,())) []) (EQ Tryz.f197 (ZjH (e,())) [])
theorem ZB6(hb:∀ (e:Edit) (_:Unit),Zk4 (e,())->ZDe e):CT 197 Ze4:=
 Z1 (l:=[]) Ze rfl trivial ZxF Tryz.func197 rfl rfl 1 (fun _=> rfl) V2 (fun ⟨e,_⟩=> hb e ())
def Zye:Za U:=lvl [([0,1],[0,1]),([0,1],[0,1])]
abbrev ZMS(p:List Nat):=AW (Z2 ZoA) Tryz.f104 Zye p
theorem ZK0(Q:QT)(h:(Q .ret (L2 [pL 0,pL 1] [(.loc 0,zc1),(.loc 1,zc1)]))):
  ZMS [] (L2 [] []) Q:=
 Eq.mpr V3 h
def ZE9:Prop:=AW (Z2 ZoA) Tryz.f104 Zye [] (Zf (ZsP.can ()) []) (EQ Tryz.f104 (ZnO ()) [])
theorem ZBN(hb:∀ (_:Unit),Zcf ()->ZE9):CT 104 Zee:=
 Z1 (l:=[]) Ze rfl trivial Zye Tryz.func104 rfl rfl 0 (fun _=> rfl) V2 (fun _=> hb ())
def Zri:List (FuncId × Fs U):=[(25,JD)]
def ZxG:Za U:=lvk [([0,4,5],[4,5,((.x 0),[]),((.x 1),[])]),([0,7],[((.x 0),[]),((.x 1),[])]),([0,15],[((.x 0),[]),((.x 1),[])]),([0],[((.x 0),[]),((.x 1),[])]),([],[((.x 0),[]),((.x 1),[])])]
abbrev ZMt(p:List Nat):=AW (Z2 Zri) Tryz.f196 ZxG p
theorem ZJ6(sm_:Unit)(sx sy:List Op)(si sh:List Tree)(e:Edit)(t:Tree)(mc ma:Bool)(Q:QT)(h:let z1:=Tree.mk t.kind t.words t.kids;let z0:=Edit.mk e.kind (Tree.mk e.old.kind e.old.words e.old.kids) (Tree.mk e.new.kind e.new.words e.new.kids) e.words e.kids e.list e.ops;((Z4N (z0,z1,()))/\(iB (!((doE false z0 z1).isSome)) ((Q .normal (L2 [] [(.x 0,[.xp 1,sU .op sx (.own (.x 0 1)),sU .op sy (.own (.x 0 2)),sU .tree si (.own (.x 0 3)),sU .tree sh (.own (.x 0 4))]),(.x 1,[.bool true,.bool true])]))) ((Q .normal (L2 [] [(.x 0,[.xp 1,sU .op sx (.own (.x 0 1)),sU .op sy (.own (.x 0 2)),sU .tree si (.own (.x 0 3)),sU .tree sh (.own (.x 0 4))]),(.x 1,[.bool true,.bool ma])])))))):
  ZMt [] (L2 [(0,.ptr (.x 0) 0),(1,.agg (enc .edit e)),(2,.agg (enc .tree t))] [(.x 0,[.xp 1,sU .op sx (.own (.x 0 1)),sU .op sy (.own (.x 0 2)),sU .tree si (.own (.x 0 3)),sU .tree sh (.own (.x 0 4))]),(.x 1,[.bool mc,.bool ma])]) Q:=
 Eq.mpr V3 h
def ZDf(sm_:Unit)(sx sy:List Op)(si sh:List Tree)(e:Edit)(t:Tree)(mc ma:Bool):Prop:=AW (Z2 Zri) Tryz.f196 ZxG [] (Zf (Zl6.can ((sm_,sx,sy,si,sh,()),e,t,(mc,ma,()),())) (Zl6.canX ((sm_,sx,sy,si,sh,()),e,t,(mc,ma,()),()))) (EQ Tryz.f196 (Zwe ((sm_,sx,sy,si,sh,()),e,t,(mc,ma,()),())) (Zej ((sm_,sx,sy,si,sh,()),e,t,(mc,ma,()),())))
theorem ZB7(c25:CT 25 JD)(hb:∀ (h:Unit) (s:List Op) (sy:List Op) (si:List Tree) (u:List Tree) (e:Edit) (t:Tree) (mc:Bool) (ma:Bool) (_:Unit),Zg4 ((h,s,sy,si,u,()),e,t,(mc,ma,()),())->ZDf h s sy si u e t mc ma):CT 196 Ze5:=
 Zv (l:=[(25,JD)]) Ze rfl (⟨c25,trivial⟩) ZxG Tryz.func196 rfl rfl 3 (fun _=> rfl) V2 (fun ⟨⟨h,s,sy,si,u,_⟩,e,t,⟨mc,ma,_⟩,_⟩=> hb h s sy si u e t mc ma ())
end
theorem ZHf:Contract Tryz.prog cfg 140 Zeb:=by
 refine ZBA Z9J ?_
 intro w m _ hp
 simp only [Zge] at hp
 obtain ⟨s,u,h⟩:=hp
 refine ZJE _ _ _ ?_
 intros;(simp only [iB,vcT,vcS])
 have rm:=(Z4i ⟨u,h⟩ s.1.2.1).1
 refine ⟨⟨⟨JX,JX⟩,s.1.2.2.1,rm⟩,⟨⟨JX,JX⟩,s.1.2.2.2,rm⟩,?_⟩
 have e:(IntKind.u8.wrap (BitVec.ofInt (IntKind.bits .u8) m &&& BitVec.ofInt (IntKind.bits .u8) w.mask).toNat !=0)=decide (Z0Y m w.mask≠0):=by
  show (Z0Y m w.mask !=0)=_
  grind
 rw [e]
 simp only [ZnN,ZiG]
 exact V0
theorem ZHg:Contract Tryz.prog cfg 139 Zec:=by
 refine ZBB Z9J ?_
 intro mc ma p q _ s
 simp only [Zke] at s
 obtain ⟨s,hq⟩:=s
 refine ZJF _ _ _ _ _ ?_
 intro y1 af
 have e:IntKind.wrap .u8 y1.toNat=Z0Y p.mask q.mask:=by rw [af];try rfl
 (simp only [iB,vcT,vcS])
 rw [e]
 have rm:=(Z4i s.1.2.1 hq.1.2.1).1
 have r0:(0:Int)<=0/\(0:Int) < 18446744073709551616:=⟨JX,JX⟩
 refine ⟨⟨r0,s.1.2.2.1,rm⟩,⟨r0,hq.1.2.2.1,rm⟩,fun h=> ?_,fun h=> ⟨⟨r0,s.1.2.2.2,rm⟩,⟨r0,hq.1.2.2.2,rm⟩,fun h2=> ?_,fun h2=> ?_⟩⟩
 .have u:J4 p q=true:=by simp [J4,h]
  simp only [ZaA,u,Xw,XU,QC,Xm]
  exact V0
 .have u:J4 p q=false:=by simp [J4,h]
  have a2:Z12 p q=true:=by simp [Z12,h2]
  simp only [ZaA,u,a2,Xy,QL,QC,Xm]
  exact V0
 .have u:J4 p q=false:=by simp [J4,h]
  have a2:Z12 p q=false:=by simp [Z12,h2]
  simp only [ZaA,u,a2,Xy,QL,QC]
  exact V0
theorem ZGW:Contract Tryz.prog cfg 195 Zac:=by
 refine ZB8 ?_
 intro l _ s
 refine ZJ7 _ _ ?_
 (simp only [iB,vcT,vcS])
 refine ⟨fun h=> ?_,fun h=> ?_⟩
 .have:l=[]:=QW.1 JX
  simp only [ZjI,Z5X,if_pos this]
  exact V0
 .have:l≠[]:=fun e=> h (by rw [e];rfl)
  simp only [ZjI,Z5X,if_neg this]
  exact V0
theorem ZGU:Contract Tryz.prog cfg 197 Ze4:=by
 refine ZB6 ?_
 intro e _ s
 refine ZJ5 _ _ ?_
 (simp only [iB,vcT,vcS])
 refine ⟨fun h=> ?_,fun h=> ?_⟩
 .simp only [ZjH,Z6b,if_pos h]
  exact V0
 .simp only [ZjH,Z6b,if_neg h]
  exact V0
theorem ZHr:Contract Tryz.prog cfg 104 Zee:=by
 refine ZBN ?_
 intro _ h
 refine ZK0 _ ?_
 simp only [ZnO]
 exact V0
theorem ZGV:Contract Tryz.prog cfg 196 Ze5:=by
 refine ZB7 c25 ?_
 intro s sx sy si sh e t mc ma _ u
 simp only [Zg4] at u
 refine ZJ6 s _ _ _ _ _ _ _ _ _ ?_
 (simp only [iB,vcT,vcS])
 simp only [Tree.eta,Edit.eta]
 refine ⟨u,fun h=> ?_,fun h=> ?_⟩
 .simp only [Zej,h,Xy,Xm]
  exact V0
 .simp only [Zej,h,Xw,QC]
  exact V0
noncomputable section
def ZnK(a:WEdit × Unit):V U:= .c (.bool (decide (WEdit.mask a.1=0)))
def Z44:Fs U:=fs Zsg (fun a=> [Zca a]) ZnK
def ZnJ(a:Kid × Unit):V U:= .c (.bool (decide (Edit.kind a.1.e=0)))
def Z43:Fs U:=fs Zse (fun a=> [Zc9 a]) ZnJ
def Zo1(a:Op × Unit):Prop:=True
def ZnH(a:Op × Unit):V U:= .c (.bool (!decide (OpOf.kind a.1=0)))
def Zaa:Fs U:=fs Zs6 (fun a=> [Zo1 a]) ZnH
def Zs7:ArgL (List WEdit × Unit × Unit):=(.cons (aSl .wedit) (.cons (aFn 190) .nil))
def ZjZ(a:List WEdit × Unit × Unit):Prop:=(a.1).length<=1000000000000
def ZjE(a:List WEdit × Unit × Unit):V U:= .c (ci (JL (fun w:WEdit=> decide (WEdit.mask w=0)) a.1 0))
def Za2:Fs U:=fs Zs7 (fun a=> [ZjZ a]) ZjE
def Zn9:ArgL (List Kid × Unit × Unit):=(.cons (aSl .kid) (.cons (aFn 192) .nil))
def Zez(a:List Kid × Unit × Unit):Prop:=(a.1).length<=1000000000000
def Zeu(a:List Kid × Unit × Unit):V U:= .c (ci (JL (fun k:Kid=> decide (Edit.kind k.e=0)) a.1 0))
def Z6D:Fs U:=fs Zn9 (fun a=> [Zez a]) Zeu
def Zs5:ArgL (List Op × Unit × Unit):=(.cons (aSl .op) (.cons (aFn 199) .nil))
def ZjY(a:List Op × Unit × Unit):Prop:=(a.1).length<=1000000000000
def ZjD(a:List Op × Unit × Unit):V U:= .c (ci (JL (fun o:Op=> !decide (OpOf.kind o=0)) a.1 0))
def Z9Z:Fs U:=fs Zs5 (fun a=> [ZjY a]) ZjD
def ZnI(a:List Op × Unit × Unit):V U:= .c (.bool ((a.1).any fun o=> !decide (OpOf.kind o=0)))
def Zab:Fs U:=fs Zs5 (fun a=> [ZjY a]) ZnI
def ZjJ(a:Int × Unit):V U:= .c (sU .op (Z0F a.1) (.own (.r 0 0)))
def Zad:Fs U:=fs ZsJ (fun a=> [Zo5 a]) ZjJ
def Zgf(a:List WEdit × Unit):Prop:=(a.1).length<=100000000000
def Zet(a:List WEdit × Unit):List WEdit:=a.1
def Zed:Fs U:=fsL ZsL (fun a=> [Zgf a]) .wedit Zet
def ZsE:ArgL (List Kid × Unit):=(.cons (aSl .kid) .nil)
def Zgd(a:List Kid × Unit):Prop:=(a.1).length<=100000000000
def Zes(a:List Kid × Unit):List Kid:=a.1
def Zea:Fs U:=fsL ZsE (fun a=> [Zgd a]) .kid Zes
def ZeM:ArgM (List WEdit × Unit × Unit):=(.lst (cWt .wedit (.e 0 0)) (.cons (aFn 190) .nil))
def ZjM(a:List WEdit × Unit × Unit):V U:= .c (sU .wedit ((a.1).filter fun w=> !decide (WEdit.mask w=0)) .unk)
def Zem(a:List WEdit × Unit × Unit):List (List (C U)):=[]
def Zep(a:List WEdit × Unit × Unit):List (Tok × LC U):=[]
def Zaf:Fs U:=(ZhC ZeM (fun a=> [ZjZ a]) ZjM Zem Zep).passing [0]
def ZeL:ArgM (List Kid × Unit × Unit):=(.lst (cWt .kid (.e 0 0)) (.cons (aFn 192) .nil))
def ZjL(a:List Kid × Unit × Unit):V U:= .c (sU .kid ((a.1).filter fun k=> !decide (Edit.kind k.e=0)) .unk)
def Zel(a:List Kid × Unit × Unit):List (List (C U)):=[]
def Zeo(a:List Kid × Unit × Unit):List (Tok × LC U):=[]
def Zae:Fs U:=(ZhC ZeL (fun a=> [Zez a]) ZjL Zel Zeo).passing [0]
def ZeR:ArgM ((Int × Int × List Int × List Tree × Int × List Int × List Tree × List WEdit × List Kid × Int × List Op × Unit) × Unit):=(.agg (.cons (Z67 .i64) (.cons (Z67 .i64) (.cons (cSl .u64) (.cons (cSl .tree) (.cons (Z67 .i64) (.cons (cSl .u64) (.cons (cSl .tree) (.cons (cWt .wedit (.e 0 7)) (.cons (cWt .kid (.e 0 8)) (.cons (Z67 .i64) (.cons (cSl .op) .nil))))))))))) .nil)
def Zgc(a:(Int × Int × List Int × List Tree × Int × List Int × List Tree × List WEdit × List Kid × Int × List Op × Unit) × Unit):Prop:=(a.1.2.2.2.2.2.2.2.1).length<=10000000000/\(a.1.2.2.2.2.2.2.2.2.1).length<=10000000000
def ZjQ(a:(Int × Int × List Int × List Tree × Int × List Int × List Tree × List WEdit × List Kid × Int × List Op × Unit) × Unit):V U:= .agg (enc .edit (Z4H (Edit.mk a.1.1 (Tree.mk a.1.2.1 a.1.2.2.1 a.1.2.2.2.1) (Tree.mk a.1.2.2.2.2.1 a.1.2.2.2.2.2.1 a.1.2.2.2.2.2.2.1) a.1.2.2.2.2.2.2.2.1 a.1.2.2.2.2.2.2.2.2.1 a.1.2.2.2.2.2.2.2.2.2.1 a.1.2.2.2.2.2.2.2.2.2.2.1)))
def Zen(a:(Int × Int × List Int × List Tree × Int × List Int × List Tree × List WEdit × List Kid × Int × List Op × Unit) × Unit):List (List (C U)):=[]
def Zer(a:(Int × Int × List Int × List Tree × Int × List Int × List Tree × List WEdit × List Kid × Int × List Op × Unit) × Unit):List (Tok × LC U):=[]
def Ze9:Fs U:=(ZhC ZeR (fun a=> [Zgc a]) ZjQ Zen Zer).passing [0]
def Zgb(a:Int × List Op × Unit):Prop:=(a.2.1).length<=1000000000000
def ZjP(a:Int × List Op × Unit):V U:= .agg (enc .edit (Z1w a.1 a.2.1))
def Ze6:Fs U:=fs ZeT (fun a=> [Zgb a]) ZjP
def Zlc:ArgM ((Bool × Bool × Unit) × Edit × Tree × Tree × Unit):=(.obj 0 (.cons Z2E (.cons Z2E .nil)) (.cons (aEl .edit) (.cons (aEl .tree) (.cons (aEl .tree) .nil))))
def Zcg(a:(Bool × Bool × Unit) × Edit × Tree × Tree × Unit):Prop:=(Z8 a.2.1<=20000000000/\ZZ a.2.1/\∃ d,Z3 a.2.1 d=true)/\(Zo a.2.2.1+ctE a.2.1<=200000000000/\rng a.2.2.1)/\Zo a.2.2.2.1<=100000000000
def ZfR(a:(Bool × Bool × Unit) × Edit × Tree × Tree × Unit):V U:= .tup []
def ZaD(a:(Bool × Bool × Unit) × Edit × Tree × Tree × Unit):List (List (C U)):=[[.bool (a.1.1 || (Z11 a.2.1 a.2.2.1 a.2.2.2.1).c),.bool (a.1.2.1 || (Z11 a.2.1 a.2.2.1 a.2.2.2.1).a)]]
def Zef:Fs U:=fsX Zlc (fun a=> [Zcg a]) ZfR ZaD
def Zl8:ArgM ((Unit × List Op × List Op × List Tree × List Tree × Unit) × (Bool × Bool × Unit) × Unit):=(.obj 0 (.cons (cXp 1) (.cons (Z5d .op 0 1) (.cons (Z5d .op 0 2) (.cons (Z5d .tree 0 3) (.cons (Z5d .tree 0 4) .nil))))) (.hid (.cons Z2E (.cons Z2E .nil)) .nil))
def Zkd(a:(Unit × List Op × List Op × List Tree × List Tree × Unit) × (Bool × Bool × Unit) × Unit):Prop:=((a.1.2.1).length<=10000000000/\(a.1.2.2.1).length<=10000000000)/\Zg a.1.2.2.2.1<=100000000000/\Zg a.1.2.2.2.2.1<=100000000000
def Zwo(a:(Unit × List Op × List Op × List Tree × List Tree × Unit) × (Bool × Bool × Unit) × Unit):V U:= .tup []
def Zaz(a:(Unit × List Op × List Op × List Tree × List Tree × Unit) × (Bool × Bool × Unit) × Unit):List (List (C U)):=[[.xp 1,sU .op (a.1.2.1++(Z0r a.1.2.2.2.1 a.1.2.2.2.2.1).x) (.own (.x 0 1)),sU .op (a.1.2.2.1++(Z0r a.1.2.2.2.1 a.1.2.2.2.2.1).y) (.own (.x 0 2)),sU .tree ([]:List Tree) (.own (.x 0 3)),sU .tree ([]:List Tree) (.own (.x 0 4))],[.bool (a.2.1.1 || (Z0r a.1.2.2.2.1 a.1.2.2.2.2.1).c),.bool a.2.1.2.1]]
def Ze7:Fs U:=fsX Zl8 (fun a=> [Zkd a]) Zwo Zaz
abbrev ZMx(p:List Nat):=AW (Z2 ZoA) Tryz.f190 ZGj p
theorem ZJc(w:WEdit)(Q:QT)(h:(Q .ret (L2 [pB 2 (w.mask==0)] []))):
  ZMx [] (L2 [(0,.agg (enc .wedit w))] []) Q:=
 Eq.mpr V3 h
def ZDl(w:WEdit):Prop:=AW (Z2 ZoA) Tryz.f190 ZGj [] (Zf (Zsg.can (w,())) []) (EQ Tryz.f190 (ZnK (w,())) [])
theorem ZBd(hb:∀ (w:WEdit) (_:Unit),Zca (w,())->ZDl w):CT 190 Z44:=
 Z1 (l:=[]) Ze rfl trivial ZGj Tryz.func190 rfl rfl 1 (fun _=> rfl) V2 (fun ⟨w,_⟩=> hb w ())
abbrev ZMw(p:List Nat):=AW (Z2 ZoA) Tryz.f192 ZGj p
theorem ZJa(k:Kid)(Q:QT)(h:(Q .ret (L2 [pB 2 (k.e.kind==0)] []))):
  ZMw [] (L2 [(0,.agg (enc .kid k))] []) Q:=
 Eq.mpr V3 h
def ZDj(k:Kid):Prop:=AW (Z2 ZoA) Tryz.f192 ZGj [] (Zf (Zse.can (k,())) []) (EQ Tryz.f192 (ZnJ (k,())) [])
theorem ZBb(hb:∀ (k:Kid) (_:Unit),Zc9 (k,())->ZDj k):CT 192 Z43:=
 Z1 (l:=[]) Ze rfl trivial ZGj Tryz.func192 rfl rfl 1 (fun _=> rfl) V2 (fun ⟨k,_⟩=> hb k ())
abbrev ZMq(p:List Nat):=AW (Z2 ZoA) Tryz.f199 ZGj p
theorem ZJ3(o:Op)(Q:QT)(h:(Q .ret (L2 [pB 2 (o.kind !=0)] []))):
  ZMq [] (L2 [(0,.agg (enc .op o))] []) Q:=
 Eq.mpr V3 h
def ZDc(o:Op):Prop:=AW (Z2 ZoA) Tryz.f199 ZGj [] (Zf (Zs6.can (o,())) []) (EQ Tryz.f199 (ZnH (o,())) [])
theorem ZB4(hb:∀ (o:Op) (_:Unit),Zo1 (o,())->ZDc o):CT 199 Zaa:=
 Z1 (l:=[]) Ze rfl trivial ZGj Tryz.func199 rfl rfl 1 (fun _=> rfl) V2 (fun ⟨o,_⟩=> hb o ())
def Zku:List (FuncId × Fs U):=[(190,Z44)]
def ZqB:Za U:=lvl [([0,1],[]),([0,1,7,8],[]),([0,1,7,8,9],[]),([0,1,5,7,8],[]),([0,1,5,7,8,16],[]),([4],[]),([0,1,7,8],[]),([4],[])]
def Z81(l:List WEdit)(f:Unit)(h:Int):LSt U:=(L2 [(0,.c (sU .wedit l .unk)),(1,.fn 190),pI 7 (l.length:Int),pI 8 h] [])
abbrev ZIo(p:List Nat):=AW (Z2 Zku) Tryz.f224 ZqB p
abbrev ZKM(p:List Nat):=SW (Z2 Zku) Tryz.f224 ZqB p
theorem ZIN(l:List WEdit)(f:Unit)(Q:QT)(h:(Zp (ZIo [1,0,1,0,0]) (Z81 l f 0) (xB 0 (ZKM [1,1] Q)))):
  ZIo [] (L2 [(0,.c (sU .wedit l .unk)),(1,.fn 190)] []) Q:=
 Eq.mpr V3 h
theorem ZuR(l:List WEdit)(f:Unit)(s:Int)(N0:NT)(Q:QT)(h:let z0:=l.getD s.toNat (WEdit.mk 0 0 0 0);let z1:=WEdit.mk (WEdit.at_ z0) (WEdit.mask z0) (WEdit.old z0) (WEdit.new z0);(iB (decide (s < (l.length:Int))) ((((0:Int)<=s/\s < (l.length:Int))/\(Zca (z1,()))/\(iB (decide (WEdit.mask z1=0)) ((Q .ret (L2 [pI 4 s] []))) ((InR (s+1))/\(N0 (Z81 l f (s+1))))))) ((Q .ret (L2 [pI 4 (-1)] []))))):
  ZIo [1,0,1,0,0] (Z81 l f s) (xT N0 (xB 0 (ZKM [1,1] Q))):=
 Eq.mpr V3 h
def ZCW(l:List WEdit)(f:Unit):Prop:=AW (Z2 Zku) Tryz.f224 ZqB [] (Zf (Zs7.can (l,f,())) []) (EQ Tryz.f224 (ZjE (l,f,())) [])
theorem ZAR(Zuq:CT 190 Z44)(hb:∀ (l:List WEdit) (f:Unit) (_:Unit),ZjZ (l,f,())->ZCW l f):CT 224 Za2:=
 Z1 (l:=[(190,Z44)]) Ze rfl (⟨Zuq,trivial⟩) ZqB Tryz.func224 rfl rfl 2 (fun _=> rfl) V2 (fun ⟨l,f,_⟩=> hb l f ())
def Zh0:List (FuncId × Fs U):=[(192,Z43)]
def Z5Z(l:List Kid)(f:Unit)(h:Int):LSt U:=(L2 [(0,.c (sU .kid l .unk)),(1,.fn 192),pI 7 (l.length:Int),pI 8 h] [])
abbrev ZzS(p:List Nat):=AW (Z2 Zh0) Tryz.f225 ZqB p
abbrev ZEK(p:List Nat):=SW (Z2 Zh0) Tryz.f225 ZqB p
theorem ZFb(l:List Kid)(f:Unit)(Q:QT)(h:(Zp (ZzS [1,0,1,0,0]) (Z5Z l f 0) (xB 0 (ZEK [1,1] Q)))):
  ZzS [] (L2 [(0,.c (sU .kid l .unk)),(1,.fn 192)] []) Q:=
 Eq.mpr V3 h
theorem Zt1(l:List Kid)(f:Unit)(s:Int)(N0:NT)(Q:QT)(h:∀ aa,aa=(l.getD s.toNat (KidOf.mk 0 Edit.nil))->∀ u,u=aa->(iB (decide (s < (l.length:Int))) ((((0:Int)<=s/\s < (l.length:Int))/\(Zc9 (u,()))/\(iB (decide (Edit.kind u.e=0)) ((Q .ret (L2 [pI 4 s] []))) ((InR (s+1))/\(N0 (Z5Z l f (s+1))))))) ((Q .ret (L2 [pI 4 (-1)] []))))):
  ZzS [1,0,1,0,0] (Z5Z l f s) (xT N0 (xB 0 (ZEK [1,1] Q))):=
 Eq.mpr V3 (h _ rfl _ (Z6Q _))
def ZzN(l:List Kid)(f:Unit):Prop:=AW (Z2 Zh0) Tryz.f225 ZqB [] (Zf (Zn9.can (l,f,())) []) (EQ Tryz.f225 (Zeu (l,f,())) [])
theorem Zxi(Zup:CT 192 Z43)(hb:∀ (l:List Kid) (f:Unit) (_:Unit),Zez (l,f,())->ZzN l f):CT 225 Z6D:=
 Z1 (l:=[(192,Z43)]) Ze rfl (⟨Zup,trivial⟩) ZqB Tryz.func225 rfl rfl 2 (fun _=> rfl) V2 (fun ⟨l,f,_⟩=> hb l f ())
def Zkt:List (FuncId × Fs U):=[(199,Zaa)]
def Z80(l:List Op)(f:Unit)(h:Int):LSt U:=(L2 [(0,.c (sU .op l .unk)),(1,.fn 199),pI 7 (l.length:Int),pI 8 h] [])
abbrev ZIn(p:List Nat):=AW (Z2 Zkt) Tryz.f230 ZqB p
abbrev ZKL(p:List Nat):=SW (Z2 Zkt) Tryz.f230 ZqB p
theorem ZII(l:List Op)(f:Unit)(Q:QT)(h:(Zp (ZIn [1,0,1,0,0]) (Z80 l f 0) (xB 0 (ZKL [1,1] Q)))):
  ZIn [] (L2 [(0,.c (sU .op l .unk)),(1,.fn 199)] []) Q:=
 Eq.mpr V3 h
theorem ZuQ(l:List Op)(f:Unit)(s:Int)(N0:NT)(Q:QT)(h:∀ aa,aa=(l.getD s.toNat Op.nil)->∀ u,u=aa->(iB (decide (s < (l.length:Int))) ((((0:Int)<=s/\s < (l.length:Int))/\(Zo1 (u,()))/\(iB (!decide (OpOf.kind u=0)) ((Q .ret (L2 [pI 4 s] []))) ((InR (s+1))/\(N0 (Z80 l f (s+1))))))) ((Q .ret (L2 [pI 4 (-1)] []))))):
  ZIn [1,0,1,0,0] (Z80 l f s) (xT N0 (xB 0 (ZKL [1,1] Q))):=
 Eq.mpr V3 (h _ rfl _ (YB _))
def ZCR(l:List Op)(f:Unit):Prop:=AW (Z2 Zkt) Tryz.f230 ZqB [] (Zf (Zs5.can (l,f,())) []) (EQ Tryz.f230 (ZjD (l,f,())) [])
theorem ZAM(ZGS:CT 199 Zaa)(hb:∀ (l:List Op) (f:Unit) (_:Unit),ZjY (l,f,())->ZCR l f):CT 230 Z9Z:=
 Z1 (l:=[(199,Zaa)]) Ze rfl (⟨ZGS,trivial⟩) ZqB Tryz.func230 rfl rfl 2 (fun _=> rfl) V2 (fun ⟨l,f,_⟩=> hb l f ())
def Zrg:List (FuncId × Fs U):=[(230,Z9Z)]
abbrev ZMr(p:List Nat):=AW (Z2 Zrg) Tryz.f198 Zyg p
theorem ZJ4(l:List Op)(f:Unit)(Q:QT)(h:((ZjY (l,(),()))/\(Q .ret (L2 [(4,.c (.bool (decide ((0:Int)<=(JL (fun o:Op=> !decide (OpOf.kind o=0)) l 0)))))] [])))):
  ZMr [] (L2 [(0,.c (sU .op l .unk)),(1,.fn 199)] []) Q:=
 Eq.mpr V3 h
def ZDd(l:List Op)(f:Unit):Prop:=AW (Z2 Zrg) Tryz.f198 Zyg [] (Zf (Zs5.can (l,f,())) []) (EQ Tryz.f198 (ZnI (l,f,())) [])
theorem ZB5(ZGD:CT 230 Z9Z)(hb:∀ (l:List Op) (f:Unit) (_:Unit),ZjY (l,f,())->ZDd l f):CT 198 Zab:=
 Z1 (l:=[(230,Z9Z)]) Ze rfl (⟨ZGD,trivial⟩) Zyg Tryz.func198 rfl rfl 2 (fun _=> rfl) V2 (fun ⟨l,f,_⟩=> hb l f ())
abbrev ZMv(p:List Nat):=AW (Z2 ZoA) Tryz.f194 Zyc p
theorem ZJ8(n:Int)(Q:QT)(h:(iB (n==0) ((Q .ret (L2 [(2,.c (.nils))] []))) ((Q .ret (L2 [(2,.c (sU .op ([(OpOf.mk 0 n [] (Edit.mk 0 (Tree.mk 0 [] []) (Tree.mk 0 [] []) [] [] 0 []))]) .full))] []))))):
  ZMv [] (L2 [pI 0 n] []) Q:=
 Eq.mpr V3 h
def ZDh(n:Int):Prop:=AW (Z2 ZoA) Tryz.f194 Zyc [] (Zf (ZsJ.can (n,())) []) (EQ Tryz.f194 (ZjJ (n,())) [])
theorem ZB9(hb:∀ (n:Int) (_:Unit),Zo5 (n,())->ZDh n):CT 194 Zad:=
 Z1 (l:=[]) Ze rfl trivial Zyc Tryz.func194 rfl rfl 1 (fun _=> rfl) V2 (fun ⟨n,_⟩=> hb n ())
def Zy6:Za U:=lvk [([0],[]),([0,4],[]),([(2,[.wr .wedit])],[]),([(2,[.wr .wedit])],[])]
abbrev ZMM(p:List Nat):=AW (Z3Q ZoA) Tryz.f138 Zy6 p
theorem ZJG(l:List WEdit)(Q:QT)(h:(((l=[])->(Q .ret (⟨[(2,.c (.mref (.e 2 0)))],[],[(.e 2 0,LC.mk (U:=U) .wedit [] 0)]⟩:LSt U)))/\(True->((([]:List WEdit).length+l.length)*32<=140737488355328)/\(Q .ret (⟨[(2,.c (.mref (.e 2 0)))],[],[(.e 2 0,LC.mk (U:=U) .wedit (([]:List WEdit)++l) (([]:List WEdit).length))]⟩:LSt U))))):
  ZMM [] (L2 [(0,.c (sU .wedit l .unk))] []) Q:=
 Eq.mpr V3 h
def ZDP(l:List WEdit):Prop:=AW (Z3Q ZoA) Tryz.f138 Zy6 [] (Zf (ZsL.can (l,())) []) (Z1a cfg Tryz.f138.ntmps Tryz.f138.results.toList (.c (.mref (.r 0 0))) [] [(.r 0 0,LC.mk (U:=U) .wedit (Zet (l,())) 0)])
theorem ZBC(hb:∀ (l:List WEdit) (_:Unit),Zgf (l,())->ZDP l):CT 138 Zed:=
 Z1H (l:=[]) Ze rfl trivial Zy6 Tryz.func138 rfl rfl 1 (fun _=> rfl) V2 (fun ⟨l,_⟩=> hb l ())
def Zy3:Za U:=lvk [([0],[]),([0,4],[]),([(2,[.wr .kid])],[]),([(2,[.wr .kid])],[])]
abbrev ZMJ(p:List Nat):=AW (Z3Q ZoA) Tryz.f141 Zy3 p
theorem ZJD(l:List Kid)(Q:QT)(h:(((l=[])->(Q .ret (⟨[(2,.c (.mref (.e 2 0)))],[],[(.e 2 0,LC.mk (U:=U) .kid [] 0)]⟩:LSt U)))/\(True->((([]:List Kid).length+l.length)*208<=140737488355328)/\(Q .ret (⟨[(2,.c (.mref (.e 2 0)))],[],[(.e 2 0,LC.mk (U:=U) .kid (([]:List Kid)++l) (([]:List Kid).length))]⟩:LSt U))))):
  ZMJ [] (L2 [(0,.c (sU .kid l .unk))] []) Q:=
 Eq.mpr V3 h
def ZDM(l:List Kid):Prop:=AW (Z3Q ZoA) Tryz.f141 Zy3 [] (Zf (ZsE.can (l,())) []) (Z1a cfg Tryz.f141.ntmps Tryz.f141.results.toList (.c (.mref (.r 0 0))) [] [(.r 0 0,LC.mk (U:=U) .kid (Zes (l,())) 0)])
theorem ZBz(hb:∀ (l:List Kid) (_:Unit),Zgd (l,())->ZDM l):CT 141 Zea:=
 Z1H (l:=[]) Ze rfl trivial Zy3 Tryz.func141 rfl rfl 1 (fun _=> rfl) V2 (fun ⟨l,_⟩=> hb l ())
def Zkz:List (FuncId × Fs U):=[(190,Z44),(224,Za2.lend)]
def ZqG:Za U:=lvk [([(0,[.wr .wedit]),1],[]),([(0,[.wr .wedit]),1,5],[]),([(0,[.wr .wedit]),1,5,12],[]),([4],[]),([(0,[.wr .wedit]),1,5,6],[]),([(0,[.wr .wedit]),1,5,6,19],[]),([(0,[.wr .wedit]),1,5,6],[]),([(0,[.wr .wedit]),1,5,6,7],[7]),([(0,[.wr .wedit]),1,5,6,7,29],[7]),([(0,[.wr .wedit]),1,5,6],[]),([(0,[.wr .wedit]),1,5,6],[]),([(0,[.wr .wedit]),5],[]),([4],[])]
def Z53(l:List WEdit)(f:Unit)(s h:Int)(re_0_0:List WEdit):LSt U:=(⟨[(0,.c (.mref (.e 0 0))),(1,.fn 190),pI 5 s,pI 6 h],[],[(.e 0 0,LC.mk (U:=U) .wedit re_0_0 0)]⟩:LSt U)
abbrev ZIu(p:List Nat):=AW (Z2 Zkz) Tryz.f189 ZqG p
abbrev ZKQ(p:List Nat):=SW (Z2 Zkz) Tryz.f189 ZqG p
theorem ZJd(l:List WEdit)(f:Unit)(Q:QT)(h:((ZjZ (l,(),()))/\(iB (((JL (fun w:WEdit=> decide (WEdit.mask w=0)) l 0):Int)==(-1)) ((Q .ret (L2 [(4,.c (sU .wedit l (.own (.e 4 0))))] []))) ((InR (((JL (fun w:WEdit=> decide (WEdit.mask w=0)) l 0):Int)+1))/\(Zp (ZIu [1,1,1,0,1,0,0]) (Z53 l f (JL (fun w:WEdit=> decide (WEdit.mask w=0)) l 0) (((JL (fun w:WEdit=> decide (WEdit.mask w=0)) l 0):Int)+1) l) (xB 0 (ZKQ [1,1,1,1] Q))))))):
  ZIu [] (⟨[(0,.c (.mref (.e 0 0))),(1,.fn 190)],[],[(.e 0 0,LC.mk (U:=U) .wedit l 0)]⟩:LSt U) Q:=
 Eq.mpr V3 h
theorem ZuY(l:List WEdit)(f:Unit)(s u:Int)(re_0_0:List WEdit)(N0:NT)(Q:QT)(h:∀ ab,ab=(re_0_0.getD u.toNat (WEdit.mk 0 0 0 0))->∀ aa,aa=ab->(iB (decide (u < (re_0_0.length:Int))) (((0:Int)<=u/\u < (re_0_0.length:Int))/\((Zca (aa,()))/\(iB (!(decide (WEdit.mask aa=0))) (((0:Int)<=s/\s < (re_0_0.length:Int))/\((0:Nat)<=s.toNat)/\((InR (s+1))/\((InR (u+1))/\(N0 (Z53 l f (s+1) (u+1) (List.set re_0_0 s.toNat aa)))))) ((InR (u+1))/\(N0 (Z53 l f s (u+1) re_0_0)))))) (((0:Int)<=s/\s<=(re_0_0.length:Int))/\((0:Nat)<=s.toNat)/\(((0:Int)<=s/\s<=((List.take s.toNat re_0_0++List.replicate (re_0_0.length - Int.toNat s) (WEdit.mk 0 0 0 0)).length:Int))/\(Q .ret (L2 [(4,.c (sU .wedit (List.take s.toNat (List.take s.toNat re_0_0++List.replicate (re_0_0.length - Int.toNat s) (WEdit.mk 0 0 0 0))) .unk))] [])))))):
  ZIu [1,1,1,0,1,0,0] (Z53 l f s u re_0_0) (xT N0 (xB 0 (ZKQ [1,1,1,1] Q))):=
 Eq.mpr V3 (h _ rfl _ (Z0m _))
def ZDm(l:List WEdit)(f:Unit):Prop:=AW (Z2 Zkz) Tryz.f189 ZqG [] (Z0s (ZeM.can (l,f,())) (ZeM.canX (l,f,())) (ZeM.canL (l,f,()))) (Z1a cfg Tryz.f189.ntmps Tryz.f189.results.toList (ZjM (l,f,())) (Zem (l,f,())) (Zep (l,f,())))
theorem ZBe(Zuq:CT 190 Z44)(ZGG:CT 224 Za2)(hb:∀ (l:List WEdit) (f:Unit) (_:Unit),ZjZ (l,f,())->ZDm l f):CT 189 Zaf:=
 Contract.passing <| J8 (l:=[(190,Z44),(224,Za2.lend)]) Ze rfl (⟨Zuq,ZGG.lend,trivial⟩) ZqG Tryz.func189 rfl rfl 2 (fun _=> rfl) V2 (fun ⟨l,f,_⟩=> hb l f ())
def Zky:List (FuncId × Fs U):=[(192,Z43),(225,Z6D.lend)]
def ZqF:Za U:=lvk [([(0,[.wr .kid]),1],[]),([(0,[.wr .kid]),1,5],[]),([(0,[.wr .kid]),1,5,12],[]),([4],[]),([(0,[.wr .kid]),1,5,6],[]),([(0,[.wr .kid]),1,5,6,19],[]),([(0,[.wr .kid]),1,5,6],[]),([(0,[.wr .kid]),1,5,6,7],[7]),([(0,[.wr .kid]),1,5,6,7,29],[7]),([(0,[.wr .kid]),1,5,6],[]),([(0,[.wr .kid]),1,5,6],[]),([(0,[.wr .kid]),5],[]),([4],[])]
def Z52(l:List Kid)(f:Unit)(s h:Int)(re_0_0:List Kid):LSt U:=(⟨[(0,.c (.mref (.e 0 0))),(1,.fn 192),pI 5 s,pI 6 h],[],[(.e 0 0,LC.mk (U:=U) .kid re_0_0 0)]⟩:LSt U)
abbrev ZIt(p:List Nat):=AW (Z2 Zky) Tryz.f191 ZqF p
abbrev ZKP(p:List Nat):=SW (Z2 Zky) Tryz.f191 ZqF p
theorem ZJb(l:List Kid)(f:Unit)(Q:QT)(h:((Zez (l,(),()))/\(iB (((JL (fun k:Kid=> decide (Edit.kind k.e=0)) l 0):Int)==(-1)) ((Q .ret (L2 [(4,.c (sU .kid l (.own (.e 4 0))))] []))) ((InR (((JL (fun k:Kid=> decide (Edit.kind k.e=0)) l 0):Int)+1))/\(Zp (ZIt [1,1,1,0,1,0,0]) (Z52 l f (JL (fun k:Kid=> decide (Edit.kind k.e=0)) l 0) (((JL (fun k:Kid=> decide (Edit.kind k.e=0)) l 0):Int)+1) l) (xB 0 (ZKP [1,1,1,1] Q))))))):
  ZIt [] (⟨[(0,.c (.mref (.e 0 0))),(1,.fn 192)],[],[(.e 0 0,LC.mk (U:=U) .kid l 0)]⟩:LSt U) Q:=
 Eq.mpr V3 h
theorem ZuX(l:List Kid)(f:Unit)(s u:Int)(re_0_0:List Kid)(N0:NT)(Q:QT)(h:∀ ab,ab=(re_0_0.getD u.toNat (KidOf.mk 0 Edit.nil))->∀ aa,aa=ab->(iB (decide (u < (re_0_0.length:Int))) (((0:Int)<=u/\u < (re_0_0.length:Int))/\((Zc9 (aa,()))/\(iB (!(decide (Edit.kind aa.e=0))) (((0:Int)<=s/\s < (re_0_0.length:Int))/\((0:Nat)<=s.toNat)/\((InR (s+1))/\((InR (u+1))/\(N0 (Z52 l f (s+1) (u+1) (List.set re_0_0 s.toNat aa)))))) ((InR (u+1))/\(N0 (Z52 l f s (u+1) re_0_0)))))) (((0:Int)<=s/\s<=(re_0_0.length:Int))/\((0:Nat)<=s.toNat)/\(((0:Int)<=s/\s<=((List.take s.toNat re_0_0++List.replicate (re_0_0.length - Int.toNat s) (KidOf.mk 0 Edit.nil)).length:Int))/\(Q .ret (L2 [(4,.c (sU .kid (List.take s.toNat (List.take s.toNat re_0_0++List.replicate (re_0_0.length - Int.toNat s) (KidOf.mk 0 Edit.nil))) .unk))] [])))))):
  ZIt [1,1,1,0,1,0,0] (Z52 l f s u re_0_0) (xT N0 (xB 0 (ZKP [1,1,1,1] Q))):=
 Eq.mpr V3 (h _ rfl _ (Z6Q _))
def ZDk(l:List Kid)(f:Unit):Prop:=AW (Z2 Zky) Tryz.f191 ZqF [] (Z0s (ZeL.can (l,f,())) (ZeL.canX (l,f,())) (ZeL.canL (l,f,()))) (Z1a cfg Tryz.f191.ntmps Tryz.f191.results.toList (ZjL (l,f,())) (Zel (l,f,())) (Zeo (l,f,())))
theorem ZBc(Zup:CT 192 Z43)(Zzh:CT 225 Z6D)(hb:∀ (l:List Kid) (f:Unit) (_:Unit),Zez (l,f,())->ZDk l f):CT 191 Zae:=
 Contract.passing <| J8 (l:=[(192,Z43),(225,Z6D.lend)]) Ze rfl (⟨Zup,Zzh.lend,trivial⟩) ZqF Tryz.func191 rfl rfl 2 (fun _=> rfl) V2 (fun ⟨l,f,_⟩=> hb l f ())
def ZrE:List (FuncId × Fs U):=[(189,Zaf),(191,Zae)]
def Zy2:Za U:=lvk [([1,2],[((.loc 1),(an 7 [.wr .wedit,.wr .kid])),2]),([1,2],[((.loc 1),(an 8 [.wr .kid])),2]),([1,2],[1,2]),([1,2,18],[1,2]),([2],[2]),([2],[2])]
abbrev ZMI(p:List Nat):=AW (Z2 ZrE) Tryz.f142 Zy2 p
set_option maxHeartbeats 2000000 in
theorem ZJC(ek eo:Int)(eow:List Int)(eok:List Tree)(en:Int)(enw:List Int)(enk:List Tree)(ew:List WEdit)(ec:List Kid)(li:Int)(eos:List Op)(Q:QT)(h:((ZjZ (ew,(),()))/\((Zez (ec,(),()))/\((InR ((((ew.filter fun w=> !decide (WEdit.mask w=0)).length:Int):Int)+((ec.filter fun k=> !decide (Edit.kind k.e=0)).length:Int)))/\(iB ((((((ew.filter fun w=> !decide (WEdit.mask w=0)).length:Int):Int)+((ec.filter fun k=> !decide (Edit.kind k.e=0)).length:Int)):Int)==0) ((Q .ret (L2 [pL 2] [(.loc 2,zc1)]))) ((Q .ret (L2 [pL 2] [(.loc 2,[ci ek,ci eo,sU .u64 eow .unk,sU .tree eok .unk,ci en,sU .u64 enw .unk,sU .tree enk .unk,sU .wedit (ew.filter fun w=> !decide (WEdit.mask w=0)) .unk,sU .kid (ec.filter fun k=> !decide (Edit.kind k.e=0)) .unk,ci li,sU .op eos .unk])])))))))):
  ZMI [] (⟨[(0,.agg [ci ek,ci eo,sU .u64 eow .unk,sU .tree eok .unk,ci en,sU .u64 enw .unk,sU .tree enk .unk,.mref (.e 0 7),.mref (.e 0 8),ci li,sU .op eos .unk])],[],[(.e 0 7,LC.mk (U:=U) .wedit ew 0),(.e 0 8,LC.mk (U:=U) .kid ec 0)]⟩:LSt U) Q:=
 Eq.mpr V3 h
def ZDL(ek eo:Int)(eow:List Int)(eok:List Tree)(en:Int)(enw:List Int)(enk:List Tree)(ew:List WEdit)(ec:List Kid)(li:Int)(eos:List Op):Prop:=AW (Z2 ZrE) Tryz.f142 Zy2 [] (Z0s (ZeR.can ((ek,eo,eow,eok,en,enw,enk,ew,ec,li,eos,()),())) (ZeR.canX ((ek,eo,eow,eok,en,enw,enk,ew,ec,li,eos,()),())) (ZeR.canL ((ek,eo,eow,eok,en,enw,enk,ew,ec,li,eos,()),()))) (Z1a cfg Tryz.f142.ntmps Tryz.f142.results.toList (ZjQ ((ek,eo,eow,eok,en,enw,enk,ew,ec,li,eos,()),())) (Zen ((ek,eo,eow,eok,en,enw,enk,ew,ec,li,eos,()),())) (Zer ((ek,eo,eow,eok,en,enw,enk,ew,ec,li,eos,()),())))
set_option maxHeartbeats 2000000 in
theorem ZBy(ZGZ:CT 189 Zaf)(ZGY:CT 191 Zae)(hb:∀ (ek:Int) (eo:Int) (h:List Int) (ab:List Tree) (en:Int) (u:List Int) (aa:List Tree) (ew:List WEdit) (ec:List Kid) (li:Int) (s:List Op) (_:Unit),Zgc ((ek,eo,h,ab,en,u,aa,ew,ec,li,s,()),())->ZDL ek eo h ab en u aa ew ec li s):CT 142 Ze9:=
 Contract.passing <| J8 (l:=[(189,Zaf),(191,Zae)]) Ze rfl (⟨ZGZ,ZGY,trivial⟩) Zy2 Tryz.func142 rfl rfl 1 (fun _=> rfl) V2 (fun ⟨⟨ek,eo,h,ab,en,u,aa,ew,ec,li,s,_⟩,_⟩=> hb ek eo h ab en u aa ew ec li s ())
def ZrA:List (FuncId × Fs U):=[(198,Zab)]
def ZxY:Za U:=lvl [([0,1,4],[4]),([0,1,4,7],[4]),([4],[4]),([4],[4])]
abbrev ZME(p:List Nat):=AW (Z2 ZrA) Tryz.f146 ZxY p
theorem ZJy(list:Int)(l:List Op)(Q:QT)(h:((ZjY (l,(),()))/\(iB (!(l.any fun o=> !decide (OpOf.kind o=0))) ((Q .ret (L2 [pL 4] [(.loc 4,zc1)]))) ((Q .ret (L2 [pL 4] [(.loc 4,[ci 3,ci 0,.nils,.nils,ci 0,.nils,.nils,.nils,.nils,ci list,sU .op l .unk])])))))):
  ZME [] (L2 [pI 0 list,(1,.c (sU .op l .unk))] []) Q:=
 Eq.mpr V3 h
def ZDH(list:Int)(l:List Op):Prop:=AW (Z2 ZrA) Tryz.f146 ZxY [] (Zf (ZeT.can (list,l,())) []) (EQ Tryz.f146 (ZjP (list,l,())) [])
theorem ZBv(ZGT:CT 198 Zab)(hb:∀ (list:Int) (l:List Op) (_:Unit),Zgb (list,l,())->ZDH list l):CT 146 Ze6:=
 Z1 (l:=[(198,Zab)]) Ze rfl (⟨ZGT,trivial⟩) ZxY Tryz.func146 rfl rfl 2 (fun _=> rfl) V2 (fun ⟨list,l,_⟩=> hb list l ())
def ZrQ:List (FuncId × Fs U):=[(25,JD),(114,YN)]
def Zyf:Za U:=lvk [([0,5,6,7],[5,6,7,((.x 0),[])]),([0,7,8,9],[7,8,((.x 0),[])]),([0,7,8,16],[7,8,((.x 0),[])]),([],[((.x 0),[])]),([0,22],[((.x 0),[])]),([],[((.x 0),[])])]
abbrev ZMT(p:List Nat):=AW (Z2 ZrQ) Tryz.f103 Zyf p
theorem ZK1(mc ma:Bool)(e:Edit)(o n:Tree)(Q:QT)(h:∀ u,u=e->∀ aa,aa=n->∀ s,s=o->∀ ab,ab=(Z1h ((doE false u s).map Z0))->let z0:= !(Yf (Z0 ab) (Z0 aa));((Z4N (u,s,()))/\(iB (!((doE false u s).isSome)) ((Q .normal (L2 [] [(.x 0,[.bool mc,.bool true])]))) ((Z2z (ab,aa,()))/\(iB z0 ((Q .normal (L2 [] [(.x 0,[.bool true,.bool ma])]))) (Q .normal (L2 [(0,.ptr (.x 0) 0),pB 22 z0] [(.x 0,[.bool mc,.bool ma])]))))))):
  ZMT [] (L2 [(0,.ptr (.x 0) 0),(1,.agg (enc .edit e)),(2,.agg (enc .tree o)),(3,.agg (enc .tree n))] [(.x 0,[.bool mc,.bool ma])]) Q:=
 Eq.mpr V3 (h _ (Z7 _) _ (Z9 _) _ (Z9 _) _ (Z9 _))
def ZEa(mc ma:Bool)(e:Edit)(o n:Tree):Prop:=AW (Z2 ZrQ) Tryz.f103 Zyf [] (Zf (Zlc.can ((mc,ma,()),e,o,n,())) (Zlc.canX ((mc,ma,()),e,o,n,()))) (EQ Tryz.f103 (ZfR ((mc,ma,()),e,o,n,())) (ZaD ((mc,ma,()),e,o,n,())))
theorem ZBO(c25:CT 25 JD)(Z9K:CT 114 YN)(hb:∀ (s:Bool) (h:Bool) (e:Edit) (o:Tree) (n:Tree) (_:Unit),Zcg ((s,h,()),e,o,n,())->ZEa s h e o n):CT 103 Zef:=
 Zv (l:=[(25,JD),(114,YN)]) Ze rfl (⟨c25,Z9K,trivial⟩) Zyf Tryz.func103 rfl rfl 4 (fun _=> rfl) V2 (fun ⟨⟨s,h,_⟩,e,o,n,_⟩=> hb s h e o n ())
def ZrC:List (FuncId × Fs U):=[(177,Z1t),(194,Zad),(195,Zac)]
def Zy0:Za U:=lvk [([0],[((.x 0),[]),((.x 1),[])]),([0],[((.x 0),[]),((.x 1),[])]),([0,42],[((.x 0),[]),((.x 1),[])]),([0,66],[((.x 0),[]),((.x 1),[])]),([0],[((.x 0),[]),((.x 1),[])]),([0],[((.x 0),[]),((.x 1),[])]),([],[((.x 0),[]),((.x 1),[])])]
abbrev ZMG(p:List Nat):=AW (Z2 ZrC) Tryz.f144 Zy0 p
theorem ZJA(sm_:Unit)(sx sy:List Op)(si sh:List Tree)(mc ma:Bool)(Q:QT)(h:let z4:=Zo5 ((si.length:Int),());let z3:=Zo5 ((sh.length:Int),());let z2:=Z0F (sh.length:Int);let z1:=Z0F (si.length:Int);let z0:=decide ((0:Int) < (si.length:Int));(Tt z0)/\(Tt z0)/\(Tt z0)/\(Tt z0)/\(Tt z0)/\(Tt z0)/\(iB (bif z0 then (decide ((0:Int) < (sh.length:Int))) else false) ((Z9o (si,sh,(),()))/\(iB (!(eqX (Z6 si) (Z6 sh))) ((z3/\((sx.length+z2.length)*240<=140737488355328)/\z4/\((sy.length+z1.length)*240<=140737488355328)/\(Q .normal (L2 [] [(.x 0,[.xp 1,sU .op (sx++z2) (.own (.x 0 1)),sU .op (sy++z1) (.own (.x 0 2)),.nils,.nils]),(.x 1,[.bool true,.bool ma])])))) (z3/\((sx.length+z2.length)*240<=140737488355328)/\z4/\((sy.length+z1.length)*240<=140737488355328)/\(Q .normal (L2 [] [(.x 0,[.xp 1,sU .op (sx++z2) (.own (.x 0 1)),sU .op (sy++z1) (.own (.x 0 2)),.nils,.nils]),(.x 1,[.bool mc,.bool ma])]))))) ((Zk5 (si,()))/\((sx.length+(Z5X si).length)*240<=140737488355328)/\z3/\(((sx++(Z5X si)).length+z2.length)*240<=140737488355328)/\(z4/\((sy.length+z1.length)*240<=140737488355328)/\(Zk5 (sh,()))/\(((sy++z1).length+(Z5X sh).length)*240<=140737488355328)/\(Q .normal (L2 [] [(.x 0,[.xp 1,sU .op ((sx++(Z5X si))++z2) (.own (.x 0 1)),sU .op ((sy++z1)++(Z5X sh)) (.own (.x 0 2)),.nils,.nils]),(.x 1,[.bool mc,.bool ma])])))))):
  ZMG [] (L2 [(0,.ptr (.x 0) 0)] [(.x 0,[.xp 1,sU .op sx (.own (.x 0 1)),sU .op sy (.own (.x 0 2)),sU .tree si (.own (.x 0 3)),sU .tree sh (.own (.x 0 4))]),(.x 1,[.bool mc,.bool ma])]) Q:=
 Eq.mpr V3 h
def ZDJ(sm_:Unit)(sx sy:List Op)(si sh:List Tree)(mc ma:Bool):Prop:=AW (Z2 ZrC) Tryz.f144 Zy0 [] (Zf (Zl8.can ((sm_,sx,sy,si,sh,()),(mc,ma,()),())) (Zl8.canX ((sm_,sx,sy,si,sh,()),(mc,ma,()),()))) (EQ Tryz.f144 (Zwo ((sm_,sx,sy,si,sh,()),(mc,ma,()),())) (Zaz ((sm_,sx,sy,si,sh,()),(mc,ma,()),())))
theorem ZBw(ZkX:CT 177 Z1t)(ZGX:CT 194 Zad)(ZGW:CT 195 Zac)(hb:∀ (h:Unit) (s:List Op) (sy:List Op) (si:List Tree) (u:List Tree) (mc:Bool) (ma:Bool) (_:Unit),Zkd ((h,s,sy,si,u,()),(mc,ma,()),())->ZDJ h s sy si u mc ma):CT 144 Ze7:=
 Zv (l:=[(177,Z1t),(194,Zad),(195,Zac)]) Ze rfl (⟨ZkX,ZGX,ZGW,trivial⟩) Zy0 Tryz.func144 rfl rfl 1 (fun _=> rfl) V2 (fun ⟨⟨h,s,sy,si,u,_⟩,⟨mc,ma,_⟩,_⟩=> hb h s sy si u mc ma ())
end
noncomputable section
def Zhq:ArgM ((Bool × Bool × Unit) × Edit × Edit × Unit):=(.obj 0 (.cons Z2E (.cons Z2E .nil)) (.cons (aEl .edit) (.cons (aEl .edit) .nil)))
def ZfY(a:(Bool × Bool × Unit) × Edit × Edit × Unit):Prop:=Y4 a.2.1/\Y4 a.2.2.1
def Zxb(a:(Bool × Bool × Unit) × Edit × Edit × Unit):Nat:=8*(Z8 a.2.1+Z8 a.2.2.1)+1
def ZlW(a:(Bool × Bool × Unit) × Edit × Edit × Unit):V U:= .tup [(true,(enc .edit ((lbE a.2.1 a.2.2.1).x))),(true,(enc .edit ((lbE a.2.1 a.2.2.1).y)))]
def ZfI(a:(Bool × Bool × Unit) × Edit × Edit × Unit):List (List (C U)):=[[.bool (a.1.1 || (lbE a.2.1 a.2.2.1).c),.bool (a.1.2.1 || (lbE a.2.1 a.2.2.1).a)]]
def Zc0:Fs U:=fsX Zhq (fun a=> [ZfY a]) ZlW ZfI
def Zgk(a:(Bool × Bool × Unit) × Edit × Edit × Unit):Prop:=Y4 a.2.1/\Y4 a.2.2.1/\Edit.kind a.2.1=2/\Edit.kind a.2.2.1=2
def Zqw(a:(Bool × Bool × Unit) × Edit × Edit × Unit):Nat:=8*(Z8 a.2.1+Z8 a.2.2.1)
def ZfQ(a:(Bool × Bool × Unit) × Edit × Edit × Unit):V U:= .tup [(true,(enc .edit ((Z6k lbE a.2.1 a.2.2.1).x))),(true,(enc .edit ((Z6k lbE a.2.1 a.2.2.1).y)))]
def ZaC(a:(Bool × Bool × Unit) × Edit × Edit × Unit):List (List (C U)):=[[.bool (a.1.1 || (Z6k lbE a.2.1 a.2.2.1).c),.bool (a.1.2.1 || (Z6k lbE a.2.1 a.2.2.1).a)]]
def ZpE:Fs U:=fsX Zhq (fun a=> [Zgk a]) ZfQ ZaC
def Zgj(a:(Bool × Bool × Unit) × Edit × Edit × Unit):Prop:=Y4 a.2.1/\Y4 a.2.2.1/\Edit.kind a.2.1=3/\Edit.kind a.2.2.1=3
def ZfP(a:(Bool × Bool × Unit) × Edit × Edit × Unit):V U:= .tup [(true,(enc .edit ((Z4V lbE a.2.1 a.2.2.1).x))),(true,(enc .edit ((Z4V lbE a.2.1 a.2.2.1).y)))]
def ZaB(a:(Bool × Bool × Unit) × Edit × Edit × Unit):List (List (C U)):=[[.bool (a.1.1 || (Z4V lbE a.2.1 a.2.2.1).c),.bool (a.1.2.1 || (Z4V lbE a.2.1 a.2.2.1).a)]]
def ZpD:Fs U:=fsX Zhq (fun a=> [Zgj a]) ZfP ZaB
def ZbO:ArgM ((Unit × List Op × List Op × List Tree × List Tree × Unit) × Op × Op × (Bool × Bool × Unit) × Unit):=(.obj 0 (.cons (cXp 1) (.cons (Z5d .op 0 1) (.cons (Z5d .op 0 2) (.cons (Z5d .tree 0 3) (.cons (Z5d .tree 0 4) .nil))))) (.cons (aEl .op) (.cons (aEl .op) (.hid (.cons Z2E (.cons Z2E .nil)) .nil))))
def Zcd(a:(Unit × List Op × List Op × List Tree × List Tree × Unit) × Op × Op × (Bool × Bool × Unit) × Unit):Prop:=(Zc2 a.2.1/\Zc2 a.2.2.1/\Z4 a.2.1=Z4 a.2.2.1/\OpOf.kind a.2.1≠2/\OpOf.kind a.2.2.1≠2)/\((a.1.2.1).length<=10000000000/\(a.1.2.2.1).length<=10000000000)
def Zqu(a:(Unit × List Op × List Op × List Tree × List Tree × Unit) × Op × Op × (Bool × Bool × Unit) × Unit):Nat:=8*(Zu a.2.1+Zu a.2.2.1)+2
def ZfM(a:(Unit × List Op × List Op × List Tree × List Tree × Unit) × Op × Op × (Bool × Bool × Unit) × Unit):V U:= .tup []
def Zay(a:(Unit × List Op × List Op × List Tree × List Tree × Unit) × Op × Op × (Bool × Bool × Unit) × Unit):List (List (C U)):=[[.xp 1,sU .op (a.1.2.1++(ZP lbE a.2.1 a.2.2.1).x) (.own (.x 0 1)),sU .op (a.1.2.2.1++(ZP lbE a.2.1 a.2.2.1).y) (.own (.x 0 2)),sU .tree a.1.2.2.2.1 (.own (.x 0 3)),sU .tree a.1.2.2.2.2.1 (.own (.x 0 4))],[.bool (a.2.2.2.1.1 || (ZP lbE a.2.1 a.2.2.1).c),.bool (a.2.2.2.1.2.1 || (ZP lbE a.2.1 a.2.2.1).a)]]
def Zpx:Fs U:=fsX ZbO (fun a=> [Zcd a]) ZfM Zay
def Z4x(N:Nat):List (FuncId × Fs U):=(66,fsX Zhq (fun a=> [ZfY a,Zxb a < N]) ZlW ZfI) ::(105,fsX Zhq (fun a=> [Zgk a,Zqw a < N]) ZfQ ZaC) ::(106,fsX Zhq (fun a=> [Zgj a,Zqw a < N]) ZfP ZaB) ::(145,fsX ZbO (fun a=> [Zcd a,Zqu a < N]) ZfM Zay) ::[(114,YN),(103,Zef),(104,Zee),(177,Z1t),(138,Zed),(139,Zec),(140,Zeb),(141,Zea),(142,Ze9),(143,Ze8),(144,Ze7),(146,Ze6),(196,Ze5),(197,Ze4)]
def ZGa:Za U:=lvk [([0,4,5,6,7],[4,5,6,7,((.x 0),[])]),([0,4,5,6,7,8],[4,5,6,7,((.x 0),[])]),([6,7],[6,7,((.x 0),[])]),([0,4,5,6,7,19],[4,5,6,7,((.x 0),[])]),([6,7],[6,7,((.x 0),[])]),([6,7],[6,7,((.x 0),[])]),([0,4,5,6,7,33],[4,5,6,7,((.x 0),[])]),([6,7],[6,7,((.x 0),[])]),([6,7],[6,7,((.x 0),[])]),([0,4,5,6,7,47],[4,5,6,7,((.x 0),[])]),([6,7],[6,7,((.x 0),[])]),([6,7],[6,7,((.x 0),[])]),([0,4,5,6,7,66],[4,5,6,7,((.x 0),[])]),([6,7],[6,7,((.x 0),[])]),([6,7],[6,7,((.x 0),[])])]
abbrev A66(N:Nat)(p:List Nat):=AW (Z2 (Z4x N)) Tryz.f66 ZGa p
theorem ZLl(N:Nat)(mc ma:Bool)(p q:Edit)(Q:QT)(h:∀ u,u=p->∀ s,s=q->∀ ab,ab=(p.new)->∀ af,af=(q.new)->∀ ae,ae=(p.old)->∀ aa,aa=(q.old)->let z3:=Z4V lbE u s;let z2:=Z6k lbE u s;let z1:=enc .edit Edit.nil;let z0:=p.kind !=q.kind;((Tt (!(p.kind==0)))/\(Tt (!(p.kind==0)))/\((p.kind==0)=false->(!(p.kind==0))=true)/\(iB (bif (p.kind==0) then true else (q.kind==0)) ((Q .ret (L2 [pL 6,pL 7] [(.loc 6,(enc .edit p)),(.loc 7,(enc .edit q)),(.x 0,[.bool mc,.bool ma])]))) ((iB (p.kind==1) ((Zcg ((mc,ma,()),s,ae,ab,()))/\((Zcf ())/\(Q .ret (L2 [pL 6,pL 7] [(.loc 6,z1),(.loc 7,z1),(.x 0,[.bool (mc || (Z11 s ae ab).c),.bool (ma || (Z11 s ae ab).a)])])))) ((iB (q.kind==1) ((Zcg ((mc,ma,()),u,aa,af,()))/\((Zcf ())/\(Q .ret (L2 [pL 6,pL 7] [(.loc 6,z1),(.loc 7,z1),(.x 0,[.bool (mc || (Z11 u aa af).c),.bool (ma || (Z11 u aa af).a)])])))) ((Tt (!z0))/\(Tt (!z0))/\(Tt (!z0))/\(Tt (!z0))/\(z0=false->(!z0)=true)/\(iB (bif z0 then true else (p.list !=q.list)) (((Zcf ())/\(Q .ret (L2 [pL 6,pL 7] [(.loc 6,z1),(.loc 7,z1),(.x 0,[.bool mc,.bool true])])))) ((iB (p.kind==2) ((Zgk ((mc,ma,()),u,s,()))/\(Zqw ((mc,ma,()),u,s,()) < N)/\(Q .ret (L2 [pL 6,pL 7] [(.loc 6,(enc .edit (z2.x))),(.loc 7,(enc .edit (z2.y))),(.x 0,[.bool (mc || z2.c),.bool (ma || z2.a)])]))) ((Zgj ((mc,ma,()),u,s,()))/\(Zqw ((mc,ma,()),u,s,()) < N)/\(Q .ret (L2 [pL 6,pL 7] [(.loc 6,(enc .edit (z3.x))),(.loc 7,(enc .edit (z3.y))),(.x 0,[.bool (mc || z3.c),.bool (ma || z3.a)])])))))))))))))):
  A66 N [] (L2 [(0,.ptr (.x 0) 0),(1,.agg (enc .edit p)),(2,.agg (enc .edit q))] [(.x 0,[.bool mc,.bool ma])]) Q:=
 Eq.mpr V3 (h _ (Z7 _) _ (Z7 _) _ (Z9 _) _ (Z9 _) _ (Z9 _) _ (Z9 _))
def ZI3(N:Nat)(mc ma:Bool)(p q:Edit):Prop:=AW (Z2 (Z4x N)) Tryz.f66 ZGa [] (Zf (Zhq.can ((mc,ma,()),p,q,())) (Zhq.canX ((mc,ma,()),p,q,()))) (EQ Tryz.f66 (ZlW ((mc,ma,()),p,q,())) (ZfI ((mc,ma,()),p,q,())))
abbrev ZL2:Prop:=∀ (N:Nat) (mc:Bool) (ma:Bool) (p:Edit) (q:Edit) (_:Unit),ZfY ((mc,ma,()),p,q,())->Zxb ((mc,ma,()),p,q,()) < N+1->ZI3 N mc ma p q
def ZkK(N:Nat):List (FuncId × Fs U):=Z4x N
def ZqR:Za U:=lvk [([0,4,5,6,7],[4,5,6,7,((.x 0),[])]),([0,4,5,6,7,8,9],[4,5,6,7,8,9,((.x 0),[])]),([0,4,5,6,7,8,9],[4,5,6,7,((.loc 8),(an 7 [.wr .wedit])),((.loc 9),(an 7 [.wr .wedit])),((.x 0),[])]),([0,4,5,6,7,8,9,29,30,31],[4,5,6,7,((.loc 8),(an 7 [.wr .wedit])),((.loc 9),(an 7 [.wr .wedit])),((.x 0),[])]),([0,4,5,6,7,8,9,29,30,31,32],[4,5,6,7,((.loc 8),(an 7 [.wr .wedit])),((.loc 9),(an 7 [.wr .wedit])),((.x 0),[])]),([0,4,5,6,7,8,9,10,11,29,30,31],[4,5,6,7,((.loc 8),(an 7 [.wr .wedit])),((.loc 9),(an 7 [.wr .wedit])),11,((.x 0),[])]),([0,4,5,6,7,8,9,10,11,29,30,31,37,38,39],[4,5,6,7,((.loc 8),(an 7 [.wr .wedit])),((.loc 9),(an 7 [.wr .wedit])),11,((.x 0),[])]),([0,4,5,6,7,8,9,10,11,29,30,31,37,38,39,40],[4,5,6,7,((.loc 8),(an 7 [.wr .wedit])),((.loc 9),(an 7 [.wr .wedit])),11,((.x 0),[])]),([0,4,5,6,7,8,9,10,11,12,13,29,30,31,37,38,39],[4,5,6,7,((.loc 8),(an 7 [.wr .wedit])),((.loc 9),(an 7 [.wr .wedit])),11,13,((.x 0),[])]),([0,4,5,6,7,8,9,10,11,12,13,29,30,31,37,38,39,48],[4,5,6,7,((.loc 8),(an 7 [.wr .wedit])),((.loc 9),(an 7 [.wr .wedit])),11,13,((.x 0),[])]),([0,4,5,6,7,8,9,10,11,12,13,29,30,31,37,38,39],[4,5,6,7,((.loc 8),(an 7 [.wr .wedit])),((.loc 9),(an 7 [.wr .wedit])),11,13,((.x 0),[])]),([0,4,5,6,7,8,9,10,11,12,13,29,30,31,37,38,39],[4,5,6,7,((.loc 8),(an 7 [.wr .wedit])),((.loc 9),(an 7 [.wr .wedit])),11,13,((.x 0),[])]),([0,4,5,6,7,8,9,10,11,12,13,29,30,31,37,38,39,48],[4,5,6,7,((.loc 8),(an 7 [.wr .wedit])),((.loc 9),(an 7 [.wr .wedit])),11,13,((.x 0),[])]),([0,4,5,6,7,8,9,10,11,29,30,31,37,38,39],[4,5,6,7,((.loc 8),(an 7 [.wr .wedit])),((.loc 9),(an 7 [.wr .wedit])),11,((.x 0),[])]),([0,4,5,6,7,8,9,29,30,31],[4,5,6,7,((.loc 8),(an 7 [.wr .wedit])),((.loc 9),(an 7 [.wr .wedit])),((.x 0),[])]),([0,4,5,6,7,8,9],[4,5,6,7,((.loc 8),(an 7 [.wr .wedit,.wr .kid])),((.loc 9),(an 7 [.wr .wedit,.wr .kid])),((.x 0),[])]),([0,5,6,7,8,9,88,89,90],[5,6,7,((.loc 8),(an 7 [.wr .wedit,.wr .kid])),((.loc 9),(an 7 [.wr .wedit,.wr .kid])),((.x 0),[])]),([0,5,6,7,8,9,88,89,90,91],[5,6,7,((.loc 8),(an 7 [.wr .wedit,.wr .kid])),((.loc 9),(an 7 [.wr .wedit,.wr .kid])),((.x 0),[])]),([0,5,6,7,8,9,14,15,88,89,90],[5,6,7,((.loc 8),(an 7 [.wr .wedit,.wr .kid])),((.loc 9),(an 7 [.wr .wedit,.wr .kid])),15,((.x 0),[])]),([0,5,6,7,8,9,14,15,88,89,90,96,97,98],[5,6,7,((.loc 8),(an 7 [.wr .wedit,.wr .kid])),((.loc 9),(an 7 [.wr .wedit,.wr .kid])),15,((.x 0),[])]),([0,5,6,7,8,9,14,15,88,89,90,96,97,98,99],[5,6,7,((.loc 8),(an 7 [.wr .wedit,.wr .kid])),((.loc 9),(an 7 [.wr .wedit,.wr .kid])),15,((.x 0),[])]),([0,5,6,7,8,9,14,15,16,17,88,89,90,96,97,98],[5,6,7,((.loc 8),(an 7 [.wr .wedit,.wr .kid])),((.loc 9),(an 7 [.wr .wedit,.wr .kid])),15,17,((.x 0),[])]),([0,5,6,7,8,9,14,15,16,17,88,89,90,96,97,98,107],[5,6,7,((.loc 8),(an 7 [.wr .wedit,.wr .kid])),((.loc 9),(an 7 [.wr .wedit,.wr .kid])),15,17,((.x 0),[])]),([0,5,6,7,8,9,14,15,16,17,88,89,90,96,97,98,107],[5,6,7,((.loc 8),(an 7 [.wr .wedit,.wr .kid])),((.loc 9),(an 7 [.wr .wedit,.wr .kid])),15,17,((.x 0),[])]),([0,5,6,7,8,9,14,15,88,89,90,96,97,98],[5,6,7,((.loc 8),(an 7 [.wr .wedit,.wr .kid])),((.loc 9),(an 7 [.wr .wedit,.wr .kid])),15,((.x 0),[])]),([0,5,6,7,8,9,88,89,90],[5,6,7,((.loc 8),(an 7 [.wr .wedit,.wr .kid])),((.loc 9),(an 7 [.wr .wedit,.wr .kid])),((.x 0),[])]),([6,7],[6,7,((.x 0),[])])]
def Z8o(mc ma:Bool)(p q:Edit)(u:Int)(mx0_0 mx0_1:Bool)(s h:List WEdit):LSt U:=(⟨[(0,.ptr (.x 0) 0),pL 4,pL 5,pL 6,pL 7,pL 8,pL 9,(29,.c (sU .wedit p.words .unk)),pI 30 (p.words.length:Int),pI 31 u],[(.loc 4,(enc .edit p)),(.loc 5,(enc .edit q)),(.loc 6,zc1),(.loc 7,zc1),(.loc 8,[ci 2,ci 0,.nils,.nils,ci 0,.nils,.nils,.mref (.l 8 7),.nils,ci 0,.nils]),(.loc 9,[ci 2,ci 0,.nils,.nils,ci 0,.nils,.nils,.mref (.l 9 7),.nils,ci 0,.nils]),(.x 0,[.bool mx0_0,.bool mx0_1])],[(.l 8 7,LC.mk (U:=U) .wedit s 0),(.l 9 7,LC.mk (U:=U) .wedit h 0)]⟩:LSt U)
def Z8n(mc ma:Bool)(p q:Edit)(aa u:Int)(mx0_0_a mx0_1_a:Bool)(h s:List WEdit):LSt U:=(⟨[(0,.ptr (.x 0) 0),pL 4,pL 5,pL 6,pL 7,pL 8,pL 9,pI 10 aa,pL 11,(29,.c (sU .wedit p.words .unk)),pI 30 (p.words.length:Int),pI 31 aa,(37,.c (sU .wedit q.words .unk)),pI 38 (q.words.length:Int),pI 39 u],[(.loc 4,(enc .edit p)),(.loc 5,(enc .edit q)),(.loc 6,zc1),(.loc 7,zc1),(.loc 8,[ci 2,ci 0,.nils,.nils,ci 0,.nils,.nils,.mref (.l 8 7),.nils,ci 0,.nils]),(.loc 9,[ci 2,ci 0,.nils,.nils,ci 0,.nils,.nils,.mref (.l 9 7),.nils,ci 0,.nils]),(.loc 11,(enc .wedit (p.words.getD aa.toNat (WEdit.mk 0 0 0 0)))),(.x 0,[.bool mx0_0_a,.bool mx0_1_a])],[(.l 8 7,LC.mk (U:=U) .wedit h 0),(.l 9 7,LC.mk (U:=U) .wedit s 0)]⟩:LSt U)
def Z8m(mc ma:Bool)(p q:Edit)(aa u:List WEdit)(ab:Int)(mx0_0_b mx0_1_b:Bool)(h s:List Kid):LSt U:=(⟨[(0,.ptr (.x 0) 0),pL 5,pL 6,pL 7,pL 8,pL 9,(88,.c (sU .kid p.kids .unk)),pI 89 (p.kids.length:Int),pI 90 ab],[(.loc 5,(enc .edit q)),(.loc 6,zc1),(.loc 7,zc1),(.loc 8,[ci 2,ci 0,.nils,.nils,ci 0,.nils,.nils,.mref (.l 8 7),.mref (.l 8 8),ci 0,.nils]),(.loc 9,[ci 2,ci 0,.nils,.nils,ci 0,.nils,.nils,.mref (.l 9 7),.mref (.l 9 8),ci 0,.nils]),(.x 0,[.bool mx0_0_b,.bool mx0_1_b])],[(.l 8 7,LC.mk (U:=U) .wedit aa 0),(.l 8 8,LC.mk (U:=U) .kid h 0),(.l 9 7,LC.mk (U:=U) .wedit u 0),(.l 9 8,LC.mk (U:=U) .kid s 0)]⟩:LSt U)
def ZcF(mc ma:Bool)(p q:Edit)(ab h:Int)(aa:V U)(mx0_0_c mx0_1_c:Bool)(u s:List WEdit):LSt U:=(⟨[(0,.ptr (.x 0) 0),pL 4,pL 5,pL 6,pL 7,pL 8,pL 9,pI 10 ab,pL 11,pI 12 h,pL 13,(29,.c (sU .wedit p.words .unk)),pI 30 (p.words.length:Int),pI 31 ab,(37,.c (sU .wedit q.words .unk)),pI 38 (q.words.length:Int),pI 39 h,(48,aa)],[(.loc 4,(enc .edit p)),(.loc 5,(enc .edit q)),(.loc 6,zc1),(.loc 7,zc1),(.loc 8,[ci 2,ci 0,.nils,.nils,ci 0,.nils,.nils,.mref (.l 8 7),.nils,ci 0,.nils]),(.loc 9,[ci 2,ci 0,.nils,.nils,ci 0,.nils,.nils,.mref (.l 9 7),.nils,ci 0,.nils]),(.loc 11,(enc .wedit (p.words.getD ab.toNat (WEdit.mk 0 0 0 0)))),(.loc 13,(enc .wedit (q.words.getD h.toNat (WEdit.mk 0 0 0 0)))),(.x 0,[.bool mx0_0_c,.bool mx0_1_c])],[(.l 8 7,LC.mk (U:=U) .wedit u 0),(.l 9 7,LC.mk (U:=U) .wedit s 0)]⟩:LSt U)
def Z8l(mc ma:Bool)(p q:Edit)(ab aa:List WEdit)(h ae:Int)(mx0_0_d mx0_1_d:Bool)(u s:List Kid):LSt U:=(⟨[(0,.ptr (.x 0) 0),pL 5,pL 6,pL 7,pL 8,pL 9,pI 14 h,pL 15,(88,.c (sU .kid p.kids .unk)),pI 89 (p.kids.length:Int),pI 90 h,(96,.c (sU .kid q.kids .unk)),pI 97 (q.kids.length:Int),pI 98 ae],[(.loc 5,(enc .edit q)),(.loc 6,zc1),(.loc 7,zc1),(.loc 8,[ci 2,ci 0,.nils,.nils,ci 0,.nils,.nils,.mref (.l 8 7),.mref (.l 8 8),ci 0,.nils]),(.loc 9,[ci 2,ci 0,.nils,.nils,ci 0,.nils,.nils,.mref (.l 9 7),.mref (.l 9 8),ci 0,.nils]),(.loc 15,(enc .kid (p.kids.getD h.toNat (KidOf.mk 0 Edit.nil)))),(.x 0,[.bool mx0_0_d,.bool mx0_1_d])],[(.l 8 7,LC.mk (U:=U) .wedit ab 0),(.l 8 8,LC.mk (U:=U) .kid u 0),(.l 9 7,LC.mk (U:=U) .wedit aa 0),(.l 9 8,LC.mk (U:=U) .kid s 0)]⟩:LSt U)
def ZcE(mc ma:Bool)(p q:Edit)(ae ab:List WEdit)(h s:Int)(mx0_0_e mx0_1_e:Bool)(u aa:List Kid):LSt U:=(⟨[(0,.ptr (.x 0) 0),pL 5,pL 6,pL 7,pL 8,pL 9,pI 14 h,pL 15,pI 16 s,pL 17,(88,.c (sU .kid p.kids .unk)),pI 89 (p.kids.length:Int),pI 90 h,(96,.c (sU .kid q.kids .unk)),pI 97 (q.kids.length:Int),pI 98 s,(107,.c (.bool (((KidOf.at_ (p.kids.getD h.toNat (KidOf.mk 0 Edit.nil))):Int)==(KidOf.at_ (q.kids.getD s.toNat (KidOf.mk 0 Edit.nil))))))],[(.loc 5,(enc .edit q)),(.loc 6,zc1),(.loc 7,zc1),(.loc 8,[ci 2,ci 0,.nils,.nils,ci 0,.nils,.nils,.mref (.l 8 7),.mref (.l 8 8),ci 0,.nils]),(.loc 9,[ci 2,ci 0,.nils,.nils,ci 0,.nils,.nils,.mref (.l 9 7),.mref (.l 9 8),ci 0,.nils]),(.loc 15,(enc .kid (p.kids.getD h.toNat (KidOf.mk 0 Edit.nil)))),(.loc 17,(enc .kid (q.kids.getD s.toNat (KidOf.mk 0 Edit.nil)))),(.x 0,[.bool mx0_0_e,.bool mx0_1_e])],[(.l 8 7,LC.mk (U:=U) .wedit ae 0),(.l 8 8,LC.mk (U:=U) .kid u 0),(.l 9 7,LC.mk (U:=U) .wedit ab 0),(.l 9 8,LC.mk (U:=U) .kid aa 0)]⟩:LSt U)
abbrev Z9M(N:Nat)(p:List Nat):=AW (Z3Q (ZkK N)) Tryz.f105 ZqR p
abbrev Z5j(N:Nat)(p:List Nat):=SW (Z3Q (ZkK N)) Tryz.f105 ZqR p
theorem ZJZ(N:Nat)(mc ma:Bool)(p q:Edit)(Q:QT)(h:((Zgf (p.words,()))/\(Zgf (q.words,()))/\(Zp (Z9M N [1,1,1,0,1,0,0]) (Z8o mc ma p q 0 mc ma p.words q.words) (xB 0 (Z5j N [1,1,1,1] Q))))):
  Z9M N [] (L2 [(0,.ptr (.x 0) 0),(1,.agg (enc .edit p)),(2,.agg (enc .edit q))] [(.x 0,[.bool mc,.bool ma])]) Q:=
 Eq.mpr V3 h
theorem Zvu(N:Nat)(mc ma:Bool)(p q:Edit)(aa:Int)(mx0_0 mx0_1:Bool)(u s:List WEdit)(N0:NT)(Q:QT)(h:(iB (decide (aa < (p.words.length:Int))) (((0:Int)<=aa/\aa < (p.words.length:Int))/\(Zp (Z9M N [1,1,1,0,1,0,0,1,1,0,0,1,1,0,0]) (Z8n mc ma p q aa 0 mx0_0 mx0_1 u s) (xB 2 (xB 1 (Z5j N [1,1,1,0,1,0,0,1,1,1] (xT N0 (xB 0 (Z5j N [1,1,1,1] Q)))))))) ((Zgd (p.kids,()))/\(Zgd (q.kids,()))/\(Zp (Z9M N [1,1,1,1,1,0,1,0,0]) (Z8m mc ma p q u s 0 mx0_0 mx0_1 p.kids q.kids) (xB 4 (Z5j N [1,1,1,1,1,1] Q)))))):
  Z9M N [1,1,1,0,1,0,0] (Z8o mc ma p q aa mx0_0 mx0_1 u s) (xT N0 (xB 0 (Z5j N [1,1,1,1] Q))):=
 Eq.mpr V3 h
theorem Zvt(N:Nat)(mc ma:Bool)(p q:Edit)(ab s:Int)(mx0_0_a mx0_1_a:Bool)(aa u:List WEdit)(N1 N0:NT)(Q:QT)(h:∀ ai,ai=(p.words.getD ab.toNat (WEdit.mk 0 0 0 0))->∀ ah,ah=(q.words.getD s.toNat (WEdit.mk 0 0 0 0))->∀ ae,ae=ai->∀ af,af=ah->∀ ak,ak=((ZiG ae (IntKind.wrap .u8 (BitVec.ofInt (IntKind.bits .u8) 255 ^^^ BitVec.ofInt (IntKind.bits .u8) ah.mask).toNat)).1)->∀ aj,aj=((ZiG af (IntKind.wrap .u8 (BitVec.ofInt (IntKind.bits .u8) 255 ^^^ BitVec.ofInt (IntKind.bits .u8) ai.mask).toNat)).1)->let z1:=IntKind.bits .u8;let z0:=xT N1 (xB 2 (xB 1 (Z5j N [1,1,1,0,1,0,0,1,1,1] (xT N0 (xB 0 (Z5j N [1,1,1,1] Q))))));(iB (decide (s < (q.words.length:Int))) (((0:Int)<=s/\s < (q.words.length:Int))/\(iB (ai.at_==ah.at_) ((Zke ((mx0_0_a,mx0_1_a,()),ae,af,()))/\((Zge (ae,(IntKind.wrap .u8 (BitVec.ofInt z1 255 ^^^ BitVec.ofInt z1 ah.mask).toNat),()))/\((0:Int)<=ab/\ab < (aa.length:Int))/\((0:Nat)<=ab.toNat)/\((Zge (af,(IntKind.wrap .u8 (BitVec.ofInt z1 255 ^^^ BitVec.ofInt z1 ai.mask).toNat),()))/\((0:Int)<=s/\s < (u.length:Int))/\((0:Nat)<=s.toNat)/\(Z9M N [1,1,1,0,1,0,0,1,1,0,0,1,1,0,0,1,1,1] (ZcF mc ma p q ab s .junk (mx0_0_a || (!(J4 ae af) && Z12 ae af)) (mx0_1_a || J4 ae af) (List.set aa ab.toNat ak) (List.set u s.toNat aj)) z0)))) (Z9M N [1,1,1,0,1,0,0,1,1,0,0,1,1,0,0,1,1,1] (ZcF mc ma p q ab s (.c (.bool (ai.at_==ah.at_))) mx0_0_a mx0_1_a aa u) z0))) ((InR (ab+1))/\(N0 (Z8o mc ma p q (ab+1) mx0_0_a mx0_1_a aa u))))):
  Z9M N [1,1,1,0,1,0,0,1,1,0,0,1,1,0,0] (Z8n mc ma p q ab s mx0_0_a mx0_1_a aa u) (xT N1 (xB 2 (xB 1 (Z5j N [1,1,1,0,1,0,0,1,1,1] (xT N0 (xB 0 (Z5j N [1,1,1,1] Q))))))):=
 Eq.mpr V3 (h _ rfl _ rfl _ (Z0m _) _ (Z0m _) _ (Z0m _) _ (Z0m _))
theorem Zvs(N:Nat)(mc ma:Bool)(p q:Edit)(ab aa:List WEdit)(ae:Int)(mx0_0_b mx0_1_b:Bool)(s u:List Kid)(N2:NT)(Q:QT)(h:∀ ah,ah=(Edit.mk 2 (Tree.mk 0 ([]:List Int) ([]:List Tree)) (Tree.mk 0 ([]:List Int) ([]:List Tree)) ab s 0 ([]:List Op))->∀ af,af=(Edit.mk 2 (Tree.mk 0 ([]:List Int) ([]:List Tree)) (Tree.mk 0 ([]:List Int) ([]:List Tree)) aa u 0 ([]:List Op))->(iB (decide (ae < (p.kids.length:Int))) (((0:Int)<=ae/\ae < (p.kids.length:Int))/\(Zp (Z9M N [1,1,1,1,1,0,1,0,0,1,1,0,0,1,1,0,0]) (Z8l mc ma p q ab aa ae 0 mx0_0_b mx0_1_b s u) (xB 6 (xB 5 (Z5j N [1,1,1,1,1,0,1,0,0,1,1,1] (xT N2 (xB 4 (Z5j N [1,1,1,1,1,1] Q)))))))) ((Zgc ((2,0,([]:List Int),([]:List Tree),0,([]:List Int),([]:List Tree),ab,s,0,([]:List Op),()),()))/\(Zgc ((2,0,([]:List Int),([]:List Tree),0,([]:List Int),([]:List Tree),aa,u,0,([]:List Op),()),()))/\(Q .ret (L2 [pL 6,pL 7] [(.loc 6,(enc .edit (Z4H ah))),(.loc 7,(enc .edit (Z4H af))),(.x 0,[.bool mx0_0_b,.bool mx0_1_b])]))))):
  Z9M N [1,1,1,1,1,0,1,0,0] (Z8m mc ma p q ab aa ae mx0_0_b mx0_1_b s u) (xT N2 (xB 4 (Z5j N [1,1,1,1,1,1] Q))):=
 Eq.mpr V3 (h _ rfl _ rfl)
theorem Zlr(N:Nat)(mc ma:Bool)(p q:Edit)(ae aa:Int)(ab:V U)(mx0_0_c mx0_1_c:Bool)(u s:List WEdit)(N1 N0:NT)(Q:QT)(h:(InR (aa+1))/\(N1 (Z8n mc ma p q ae (aa+1) mx0_0_c mx0_1_c u s))):
  Z9M N [1,1,1,0,1,0,0,1,1,0,0,1,1,0,0,1,1,1] (ZcF mc ma p q ae aa ab mx0_0_c mx0_1_c u s) (xT N1 (xB 2 (xB 1 (Z5j N [1,1,1,0,1,0,0,1,1,1] (xT N0 (xB 0 (Z5j N [1,1,1,1] Q))))))):=
 Eq.mpr V3 h
theorem Zvr(N:Nat)(mc ma:Bool)(p q:Edit)(af ae:List WEdit)(ab s:Int)(mx0_0_d mx0_1_d:Bool)(aa u:List Kid)(N4 N2:NT)(Q:QT)(h:∀ ak,ak=(p.kids.getD ab.toNat (KidOf.mk 0 Edit.nil))->∀ aj,aj=(q.kids.getD s.toNat (KidOf.mk 0 Edit.nil))->∀ ah,ah=(ak.e)->∀ ai,ai=(aj.e)->∀ am,am=((lbE ah ai).x)->∀ al,al=((lbE ah ai).y)->let z0:=xT N4 (xB 6 (xB 5 (Z5j N [1,1,1,1,1,0,1,0,0,1,1,1] (xT N2 (xB 4 (Z5j N [1,1,1,1,1,1] Q))))));(iB (decide (s < (q.kids.length:Int))) (((0:Int)<=s/\s < (q.kids.length:Int))/\(iB (ak.at_==aj.at_) ((ZfY ((mx0_0_d,mx0_1_d,()),ah,ai,()))/\(Zxb ((mx0_0_d,mx0_1_d,()),ah,ai,()) < N)/\((0:Int)<=ab/\ab < (aa.length:Int))/\((0:Nat)<=ab.toNat)/\((0:Int)<=s/\s < (u.length:Int))/\((0:Nat)<=s.toNat)/\(Z9M N [1,1,1,1,1,0,1,0,0,1,1,0,0,1,1,0,0,1,1,1] (ZcE mc ma p q af ae ab s (mx0_0_d || (lbE ah ai).c) (mx0_1_d || (lbE ah ai).a) (List.set aa ab.toNat (KidOf.mk (KidOf.at_ (aa.getD ab.toNat (KidOf.mk 0 Edit.nil))) am)) (List.set u s.toNat (KidOf.mk (KidOf.at_ (u.getD s.toNat (KidOf.mk 0 Edit.nil))) al))) z0)) (Z9M N [1,1,1,1,1,0,1,0,0,1,1,0,0,1,1,0,0,1,1,1] (ZcE mc ma p q af ae ab s mx0_0_d mx0_1_d aa u) z0))) ((InR (ab+1))/\(N2 (Z8m mc ma p q af ae (ab+1) mx0_0_d mx0_1_d aa u))))):
  Z9M N [1,1,1,1,1,0,1,0,0,1,1,0,0,1,1,0,0] (Z8l mc ma p q af ae ab s mx0_0_d mx0_1_d aa u) (xT N4 (xB 6 (xB 5 (Z5j N [1,1,1,1,1,0,1,0,0,1,1,1] (xT N2 (xB 4 (Z5j N [1,1,1,1,1,1] Q))))))):=
 Eq.mpr V3 (h _ rfl _ rfl _ (Z7 _) _ (Z7 _) _ (Z7 _) _ (Z7 _))
theorem Zlq(N:Nat)(mc ma:Bool)(p q:Edit)(ae ab:List WEdit)(af aa:Int)(mx0_0_e mx0_1_e:Bool)(s u:List Kid)(N4 N2:NT)(Q:QT)(h:(InR (aa+1))/\(N4 (Z8l mc ma p q ae ab af (aa+1) mx0_0_e mx0_1_e s u))):
  Z9M N [1,1,1,1,1,0,1,0,0,1,1,0,0,1,1,0,0,1,1,1] (ZcE mc ma p q ae ab af aa mx0_0_e mx0_1_e s u) (xT N4 (xB 6 (xB 5 (Z5j N [1,1,1,1,1,0,1,0,0,1,1,1] (xT N2 (xB 4 (Z5j N [1,1,1,1,1,1] Q))))))):=
 Eq.mpr V3 h
def ZE8(N:Nat)(mc ma:Bool)(p q:Edit):Prop:=AW (Z3Q (ZkK N)) Tryz.f105 ZqR [] (Zf (Zhq.can ((mc,ma,()),p,q,())) (Zhq.canX ((mc,ma,()),p,q,()))) (EQ Tryz.f105 (ZfQ ((mc,ma,()),p,q,())) (ZaC ((mc,ma,()),p,q,())))
abbrev ZF3:Prop:=∀ (N:Nat) (mc:Bool) (ma:Bool) (p:Edit) (q:Edit) (_:Unit),Zgk ((mc,ma,()),p,q,())->Zqw ((mc,ma,()),p,q,()) < N+1->ZE8 N mc ma p q
def ZqQ:Za U:=lvk [([0,4,5,6,7],[4,5,6,7,((.x 0),[])]),([0,4,6,7,8,9],[4,6,7,((.x 0),[])]),([0,4,6,7,8,22],[4,6,7,((.x 0),[])]),([6,7],[6,7,((.x 0),[])]),([6,7],[6,7,((.x 0),[])]),([4,6,7,8,10],[4,6,7,31,((.x 0),[])]),([4,6,7,10,32,33,34],[4,6,7,((.loc 31),[.any,.own .op,.own .op,.own .tree,.own .tree]),((.x 0),[])]),([4,6,7,10,32,33,34,35],[4,6,7,31,((.x 0),[])]),([4,6,7,10,12,32,33,34],[4,6,7,12,31,((.x 0),[])]),([4,6,7,10,12,32,33,34,39],[4,6,7,12,31,((.x 0),[])]),([4,6,7,10,12,32,33,34],[4,6,7,12,31,((.x 0),[])]),([4,6,7,10,32,33,34],[4,6,7,31,((.x 0),[])]),([4,6,7,10,12,32,33,34,39,48],[4,6,7,12,31,((.x 0),[])]),([4,6,7,10,32,33,34],[4,6,7,31,((.x 0),[])]),([4,6,7,10,12,32,33,34,61],[4,6,7,12,31,((.x 0),[])]),([4,6,7,10,32,33,34],[4,6,7,31,((.x 0),[])]),([4,6,7,10,32,33,34],[4,6,7,((.loc 31),[.any,.own .op,.own .op,.own .tree,.own .tree]),((.x 0),[])]),([4,6,7,10],[4,6,7,31,((.x 0),[])]),([6,7],[6,7,((.x 0),[])])]
def Z3m(mc ma:Bool)(p q:Edit)(ab:Int)(mx0_0 mx0_1:Bool)(s h:List Tree)(aa u:List Op):LSt U:=(L2 [pL 4,pL 6,pL 7,(10,.ptr (.loc 31) 0),(32,.c (sU .piece ((ZA 2 2 p.ops q.ops []).1) .unk)),pI 33 (((ZA 2 2 p.ops q.ops []).1).length:Int),pI 34 ab] [(.loc 4,(enc .edit p)),(.loc 6,zc1),(.loc 7,zc1),(.loc 31,[.xp 0,sU .op aa (.own (.l 31 1)),sU .op u (.own (.l 31 2)),sU .tree s (.own (.l 31 3)),sU .tree h (.own (.l 31 4))]),(.x 0,[.bool mx0_0,.bool mx0_1])])
abbrev ZIC(N:Nat)(p:List Nat):=AW (Z2 (ZkK N)) Tryz.f106 ZqQ p
abbrev ZKY(N:Nat)(p:List Nat):=SW (Z2 (ZkK N)) Tryz.f106 ZqQ p
theorem ZJY(N:Nat)(mc ma:Bool)(p q:Edit)(Q:QT)(h:((Zo4 (p.ops,q.ops,()))/\(iB (!((ZA 2 2 p.ops q.ops []).2.1)) (((Zcf ())/\(Q .ret (L2 [pL 6,pL 7] [(.loc 6,(enc .edit Edit.nil)),(.loc 7,(enc .edit Edit.nil)),(.x 0,[.bool mc,.bool true])])))) ((Zp (ZIC N [1,1,1,1,0,1,0,0]) (Z3m mc ma p q 0 mc ma [] [] [] []) (xB 0 (ZKY N [1,1,1,1,1] Q))))))):
  ZIC N [] (L2 [(0,.ptr (.x 0) 0),(1,.agg (enc .edit p)),(2,.agg (enc .edit q))] [(.x 0,[.bool mc,.bool ma])]) Q:=
 Eq.mpr V3 h
theorem Zvq(N:Nat)(mc ma:Bool)(p q:Edit)(ae:Int)(mx0_0 mx0_1:Bool)(ab aa:List Tree)(u s:List Op)(N0:NT)(Q:QT)(h:∀ ak,ak=(Edit.new (Z1w p.list (u++(Z0r ab aa).x)))->∀ aj,aj=(Edit.new (Z1w p.list (s++(Z0r ab aa).y)))->∀ al,al=(Edit.old (Z1w p.list (u++(Z0r ab aa).x)))->∀ am,am=(Edit.old (Z1w p.list (s++(Z0r ab aa).y)))->∀ af,af=(List.getD ((ZA 2 2 p.ops q.ops []).1) ae.toNat (Piece.mk 0 Op.nil Op.nil))->∀ ah,ah=(af.p)->∀ ai,ai=(af.q)->let z4:=ZP lbE ah ai;let z3:=Zkd (((),u,s,ab,aa,()),(mx0_0,mx0_1,()),());let z0:=Z0r ab aa;let z2:=Z1w p.list (s++z0.y);let z1:=Z1w p.list (u++z0.x);(iB (decide (ae < (((ZA 2 2 p.ops q.ops []).1).length:Int))) (((0:Int)<=ae/\ae < (((ZA 2 2 p.ops q.ops []).1).length:Int))/\(iB (af.of==1) (((ab.length+af.p.l.length)*56<=140737488355328)/\((InR (ae+1))/\(N0 (Z3m mc ma p q (ae+1) mx0_0 mx0_1 (ab++af.p.l) aa u s)))) ((iB (af.of==2) (((aa.length+af.q.l.length)*56<=140737488355328)/\((InR (ae+1))/\(N0 (Z3m mc ma p q (ae+1) mx0_0 mx0_1 ab (aa++af.q.l) u s)))) (z3/\((Zcd (((),(u++z0.x),(s++z0.y),([]:List Tree),([]:List Tree),()),ah,ai,((mx0_0 || z0.c),mx0_1,()),()))/\(Zqu (((),(u++z0.x),(s++z0.y),([]:List Tree),([]:List Tree),()),ah,ai,((mx0_0 || z0.c),mx0_1,()),()) < N)/\((InR (ae+1))/\(N0 (Z3m mc ma p q (ae+1) ((mx0_0 || z0.c) || z4.c) (mx0_1 || z4.a) ([]:List Tree) ([]:List Tree) ((u++z0.x)++z4.x) ((s++z0.y)++z4.y)))))))))) (z3/\((Zgb (p.list,(u++z0.x),()))/\(Zgb (p.list,(s++z0.y),()))/\(Q .ret (L2 [pL 6,pL 7] [(.loc 6,([ci (Edit.kind z1)]++enc .tree al++enc .tree ak++[sU .wedit (Edit.words z1) .unk,sU .kid (Edit.kids z1) .unk,ci (Edit.list z1),sU .op (Edit.ops z1) .unk])),(.loc 7,([ci (Edit.kind z2)]++enc .tree am++enc .tree aj++[sU .wedit (Edit.words z2) .unk,sU .kid (Edit.kids z2) .unk,ci (Edit.list z2),sU .op (Edit.ops z2) .unk])),(.x 0,[.bool (mx0_0 || z0.c),.bool mx0_1])])))))):
  ZIC N [1,1,1,1,0,1,0,0] (Z3m mc ma p q ae mx0_0 mx0_1 ab aa u s) (xT N0 (xB 0 (ZKY N [1,1,1,1,1] Q))):=
 Eq.mpr V3 (h _ rfl _ rfl _ rfl _ rfl _ rfl _ (YB _) _ (YB _))
def ZE7(N:Nat)(mc ma:Bool)(p q:Edit):Prop:=AW (Z2 (ZkK N)) Tryz.f106 ZqQ [] (Zf (Zhq.can ((mc,ma,()),p,q,())) (Zhq.canX ((mc,ma,()),p,q,()))) (EQ Tryz.f106 (ZfP ((mc,ma,()),p,q,())) (ZaB ((mc,ma,()),p,q,())))
abbrev ZF2:Prop:=∀ (N:Nat) (mc:Bool) (ma:Bool) (p:Edit) (q:Edit) (_:Unit),Zgj ((mc,ma,()),p,q,())->Zqw ((mc,ma,()),p,q,()) < N+1->ZE7 N mc ma p q
def ZxZ:Za U:=lvk [([0,4,5],[4,5,((.x 0),[]),((.x 1),[])]),([0,6,7],[6,7,((.x 0),[]),((.x 1),[])]),([],[((.x 0),[]),((.x 1),[])]),([0,4,5,42],[4,5,((.x 0),[]),((.x 1),[])]),([],[((.x 0),[]),((.x 1),[])]),([0,4,5,62],[4,5,((.x 0),[]),((.x 1),[])]),([],[((.x 0),[]),((.x 1),[])]),([0,4,5,82],[4,5,((.x 0),[]),((.x 1),[])]),([],[((.x 0),[]),((.x 1),[])]),([0,4,5,109],[4,5,((.x 0),[]),((.x 1),[])]),([],[((.x 0),[]),((.x 1),[])]),([0,4,5,133],[4,5,((.x 0),[]),((.x 1),[])]),([0,147],[((.x 0),[]),((.x 1),[])]),([],[((.x 0),[]),((.x 1),[])]),([0,4,5,154],[4,5,((.x 0),[]),((.x 1),[])]),([],[((.x 0),[]),((.x 1),[])]),([0,4,5,166],[4,5,((.x 0),[]),((.x 1),[])]),([],[((.x 0),[]),((.x 1),[])])]
abbrev ZMF(N:Nat)(p:List Nat):=AW (Z2 (ZkK N)) Tryz.f145 ZxZ p
theorem ZJz(N:Nat)(sm_:Unit)(sx sy:List Op)(si sh:List Tree)(p q:Op)(mc ma:Bool)(Q:QT)(h:∀ ah,ah=p->∀ af,af=q->∀ u,u=(p.e)->∀ aa,aa=(q.e)->∀ al,al=(List.getD p.l (Int.toNat 0) Tree.nil)->∀ ai,ai=(List.getD q.l (Int.toNat 0) Tree.nil)->∀ s,s=(Edit.mk 0 (Tree.mk 0 [] []) (Tree.mk 0 [] []) [] [] 0 [])->∀ ak,ak=((lbE u aa).x)->∀ aj,aj=((lbE u aa).y)->∀ ab,ab=(Z6b ak)->∀ ae,ae=(Z6b aj)->let z0:= !(eqX (Z6 p.l) (Z6 q.l));((Tt (p.kind==0))/\(Tt (p.kind==0))/\(Tt (p.kind==0))/\(iB (bif (p.kind==0) then (q.kind==1) else false) (((sy.length+([(OpOf.mk 0 0 [] s)]).length)*240<=140737488355328)/\((0:Int)<=(sy.length:Int)/\(sy.length:Int) < ((sy++([(OpOf.mk 0 0 [] s)])).length:Int))/\(sy.length<=(Int.toNat (sy.length:Int)))/\(Q .normal (L2 [] [(.x 0,[.xp 1,sU .op sx (.own (.x 0 1)),sU .op (List.set (sy++([(OpOf.mk 0 0 [] s)])) (Int.toNat (sy.length:Int)) af) (.own (.x 0 2)),sU .tree si (.own (.x 0 3)),sU .tree sh (.own (.x 0 4))]),(.x 1,[.bool mc,.bool ma])]))) ((Tt (p.kind==1))/\(Tt (p.kind==1))/\(Tt (p.kind==1))/\(iB (bif (p.kind==1) then (q.kind==0) else false) (((sx.length+([(OpOf.mk 0 0 [] s)]).length)*240<=140737488355328)/\((0:Int)<=(sx.length:Int)/\(sx.length:Int) < ((sx++([(OpOf.mk 0 0 [] s)])).length:Int))/\(sx.length<=(Int.toNat (sx.length:Int)))/\(Q .normal (L2 [] [(.x 0,[.xp 1,sU .op (List.set (sx++([(OpOf.mk 0 0 [] s)])) (Int.toNat (sx.length:Int)) ah) (.own (.x 0 1)),sU .op sy (.own (.x 0 2)),sU .tree si (.own (.x 0 3)),sU .tree sh (.own (.x 0 4))]),(.x 1,[.bool mc,.bool ma])]))) ((iB (p.kind==0) (((sx.length+([(OpOf.mk 0 (if q.n < 1 then 1 else q.n) [] s)]).length)*240<=140737488355328)/\((sy.length+([af]).length)*240<=140737488355328)/\(Q .normal (L2 [] [(.x 0,[.xp 1,sU .op (sx++([(OpOf.mk 0 (if q.n < 1 then 1 else q.n) [] s)])) (.own (.x 0 1)),sU .op (sy++([af])) (.own (.x 0 2)),sU .tree si (.own (.x 0 3)),sU .tree sh (.own (.x 0 4))]),(.x 1,[.bool mc,.bool ma])]))) ((iB (q.kind==0) (((sx.length+([ah]).length)*240<=140737488355328)/\((sy.length+([(OpOf.mk 0 1 [] s)]).length)*240<=140737488355328)/\(Q .normal (L2 [] [(.x 0,[.xp 1,sU .op (sx++([ah])) (.own (.x 0 1)),sU .op (sy++([(OpOf.mk 0 1 [] s)])) (.own (.x 0 2)),sU .tree si (.own (.x 0 3)),sU .tree sh (.own (.x 0 4))]),(.x 1,[.bool mc,.bool ma])]))) ((Tt (p.kind==1))/\(Tt (p.kind==1))/\(Tt (p.kind==1))/\(iB (bif (p.kind==1) then (q.kind==1) else false) ((Z9o (p.l,q.l,(),()))/\(iB z0 ((Q .normal (L2 [] [(.x 0,[.xp 1,sU .op sx (.own (.x 0 1)),sU .op sy (.own (.x 0 2)),sU .tree si (.own (.x 0 3)),sU .tree sh (.own (.x 0 4))]),(.x 1,[.bool mc,.bool true])]))) (Q .normal (L2 [(0,.ptr (.x 0) 0),pB 147 z0] [(.x 0,[.xp 1,sU .op sx (.own (.x 0 1)),sU .op sy (.own (.x 0 2)),sU .tree si (.own (.x 0 3)),sU .tree sh (.own (.x 0 4))]),(.x 1,[.bool mc,.bool ma])])))) ((iB (p.kind==1) (((0:Int)<=0/\0 < (p.l.length:Int))/\(Zg4 (((),sx,sy,si,sh,()),aa,al,(mc,ma,()),()))/\(Q .normal (L2 [] [(.x 0,[.xp 1,sU .op sx (.own (.x 0 1)),sU .op sy (.own (.x 0 2)),sU .tree si (.own (.x 0 3)),sU .tree sh (.own (.x 0 4))]),(.x 1,[.bool true,.bool (ma || !(doE false aa al).isSome)])]))) ((iB (q.kind==1) (((0:Int)<=0/\0 < (q.l.length:Int))/\(Zg4 (((),sx,sy,si,sh,()),u,ai,(mc,ma,()),()))/\(Q .normal (L2 [] [(.x 0,[.xp 1,sU .op sx (.own (.x 0 1)),sU .op sy (.own (.x 0 2)),sU .tree si (.own (.x 0 3)),sU .tree sh (.own (.x 0 4))]),(.x 1,[.bool true,.bool (ma || !(doE false u ai).isSome)])]))) ((ZfY ((mc,ma,()),u,aa,()))/\(Zxb ((mc,ma,()),u,aa,()) < N)/\((Zk4 (ak,()))/\((sx.length+([ab]).length)*240<=140737488355328)/\(Zk4 (aj,()))/\((sy.length+([ae]).length)*240<=140737488355328)/\(Q .normal (L2 [] [(.x 0,[.xp 1,sU .op (sx++([ab])) (.own (.x 0 1)),sU .op (sy++([ae])) (.own (.x 0 2)),sU .tree si (.own (.x 0 3)),sU .tree sh (.own (.x 0 4))]),(.x 1,[.bool (mc || (lbE u aa).c),.bool (ma || (lbE u aa).a)])]))))))))))))))))))):
  ZMF N [] (L2 [(0,.ptr (.x 0) 0),(1,.agg (enc .op p)),(2,.agg (enc .op q))] [(.x 0,[.xp 1,sU .op sx (.own (.x 0 1)),sU .op sy (.own (.x 0 2)),sU .tree si (.own (.x 0 3)),sU .tree sh (.own (.x 0 4))]),(.x 1,[.bool mc,.bool ma])]) Q:=
 Eq.mpr V3 (h _ (YB _) _ (YB _) _ (Z7 _) _ (Z7 _) _ (Z9 _) _ (Z9 _) _ rfl _ (Z7 _) _ (Z7 _) _ (YB _) _ (YB _))
def ZDI(N:Nat)(sm_:Unit)(sx sy:List Op)(si sh:List Tree)(p q:Op)(mc ma:Bool):Prop:=AW (Z2 (ZkK N)) Tryz.f145 ZxZ [] (Zf (ZbO.can ((sm_,sx,sy,si,sh,()),p,q,(mc,ma,()),())) (ZbO.canX ((sm_,sx,sy,si,sh,()),p,q,(mc,ma,()),()))) (EQ Tryz.f145 (ZfM ((sm_,sx,sy,si,sh,()),p,q,(mc,ma,()),())) (Zay ((sm_,sx,sy,si,sh,()),p,q,(mc,ma,()),())))
abbrev ZEU:Prop:=∀ (N:Nat) (sm_:Unit) (sx:List Op) (sy:List Op) (si:List Tree) (sh:List Tree) (p:Op) (q:Op) (mc:Bool) (ma:Bool) (_:Unit),Zcd ((sm_,sx,sy,si,sh,()),p,q,(mc,ma,()),())->Zqu ((sm_,sx,sy,si,sh,()),p,q,(mc,ma,()),()) < N+1->ZDI N sm_ sx sy si sh p q mc ma
theorem ZAJ(Z9K:CT 114 YN)(ZHs:CT 103 Zef)(ZHr:CT 104 Zee)(ZkX:CT 177 Z1t)(ZHh:CT 138 Zed)(ZHg:CT 139 Zec)(ZHf:CT 140 Zeb)(ZHe:CT 141 Zea)(ZHd:CT 142 Ze9)(ZHc:CT 143 Ze8)(ZHb:CT 144 Ze7)(ZHa:CT 146 Ze6)(ZGV:CT 196 Ze5)(ZGU:CT 197 Ze4)(b66:ZL2)(ZHI:ZF3)(ZHH:ZF2)(ZHB:ZEU):
  CT 66 Zc0/\CT 105 ZpE/\CT 106 ZpD/\CT 145 Zpx:=by
 have ah:FK 66:=⟨Tryz.f66,Tryz.func66,rfl,rfl⟩
 have ab:FK 105:=⟨Tryz.f105,Tryz.func105,rfl,rfl⟩
 have aa:FK 106:=⟨Tryz.f106,Tryz.func106,rfl,rfl⟩
 have u:FK 145:=⟨Tryz.f145,Tryz.func145,rfl,rfl⟩
 have s:∀ N,CT 66 (fsX Zhq (fun a=> [ZfY a,Zxb a < N]) ZlW ZfI)/\CT 105 (fsX Zhq (fun a=> [Zgk a,Zqw a < N]) ZfQ ZaC)/\CT 106 (fsX Zhq (fun a=> [Zgj a,Zqw a < N]) ZfP ZaB)/\CT 145 (fsX ZbO (fun a=> [Zcd a,Zqu a < N]) ZfM Zay):=by
  intro N
  induction N with
  | zero=> exact ⟨ZbF ah,ZbF ab,ZbF aa,ZbF u⟩
  | succ N ih=>
   have kn:=Z0a (l:=Z4x N) ⟨ih.1,ih.2.1,ih.2.2.1,ih.2.2.2,Z9K,ZHs,ZHr,ZkX,ZHh,ZHg,ZHf,ZHe,ZHd,ZHc,ZHb,ZHa,ZGV,ZGU,trivial⟩
   exact ⟨Z1G (Γ:=Z2 (Z4x N)) Ze rfl kn ZGa Tryz.func66 rfl rfl (fun a=> by show 3<=_;decide) (fun ⟨⟨mc,ma,_⟩,p,q,_⟩ h=> b66 N mc ma p q () h.1 h.2.1),
    Z1G (Γ:=Z3Q (Z4x N)) Ze rfl kn ZqR Tryz.func105 rfl rfl (fun a=> by show 3<=_;decide) (fun ⟨⟨mc,ma,_⟩,p,q,_⟩ h=> ZHI N mc ma p q () h.1 h.2.1),
    Z1G (Γ:=Z2 (Z4x N)) Ze rfl kn ZqQ Tryz.func106 rfl rfl (fun a=> by show 3<=_;decide) (fun ⟨⟨mc,ma,_⟩,p,q,_⟩ h=> ZHH N mc ma p q () h.1 h.2.1),
    Z1G (Γ:=Z2 (Z4x N)) Ze rfl kn ZxZ Tryz.func145 rfl rfl (fun a=> by show 3<=_;decide) (fun ⟨⟨aj,sx,sy,si,sh,_⟩,p,q,⟨mc,ma,_⟩,_⟩ h=> ZHB N aj sx sy si sh p q mc ma () h.1 h.2.1)⟩
 exact ⟨ZbG ah fun N=> (s N).1,ZbG ab fun N=> (s N).2.1,ZbG aa fun N=> (s N).2.2.1,ZbG u fun N=> (s N).2.2.2⟩
end
noncomputable section
def ZzB:ArgL (List Edit × Unit):=(.cons (aSl .edit) .nil)
def Zqk(a:List Edit × Unit):Prop:=(∀ x∈a.1,Y4 x)/\ctL a.1<=8000000000
def Zq3(a:List Edit × Unit):V U:= .tup [(true,(enc .edit ((Z6d a.1).1))),(false,[.bool ((Z6d a.1).2)])]
def Zfq:Fs U:=fs ZzB (fun a=> [Zqk a]) Zq3
def ZoH:List (FuncId × Fs U):=[(71,Zfk),(67,Z0h)]
def ZC1:Za U:=lvk [([0,2],[2]),([0,2,4],[2,4]),([2,4,10,11,12],[2,((.loc 4),[.any,.any,.unk .u64,.unk .tree,.any,.unk .u64,.unk .tree,.unk .wedit,.unk .kid,.any,.unk .op])]),([2,4,10,11,12,13],[2,4]),([2,4,6,10,11,12],[2,4,6]),([2,4,7,8,10,11,12],[2,4,7]),([2,4,7,10,11,12,23],[2,4,7]),([2,3],[2]),([2,4,10,11,12],[2,4]),([2,4,10,11,12],[2,((.loc 4),[.any,.any,.unk .u64,.unk .tree,.any,.unk .u64,.unk .tree,.unk .wedit,.unk .kid,.any,.unk .op])]),([2,3],[2])]
def ZbC(l:List Edit)(al ak ab aa ah:Int)(aj:List Int)(ai:List Tree)(ae:List Int)(u:List Tree)(s:List WEdit)(af:List Kid)(h:List Op):LSt U:=(L2 [pL 2,pL 4,(10,.c (sU .edit l .unk)),pI 11 (l.length:Int),pI 12 al] [(.loc 2,zc1),(.loc 4,[ci ak,ci ab,sU .u64 aj .unk,sU .tree ai .unk,ci aa,sU .u64 ae .unk,sU .tree u .unk,sU .wedit s .unk,sU .kid af .unk,ci ah,sU .op h .unk])])
abbrev A20(p:List Nat):=AW (Z2 ZoH) Tryz.f20 ZC1 p
abbrev S20(p:List Nat):=SW (Z2 ZoH) Tryz.f20 ZC1 p
theorem ZLC(l:List Edit)(Q:QT)(h:(Zp (A20 [1,1,0,1,0,0]) (ZbC l 0 0 0 0 0 [] [] [] [] [] [] []) (xB 0 (S20 [1,1,1] Q)))):
  A20 [] (L2 [(0,.c (sU .edit l .unk))] []) Q:=
 Eq.mpr V3 h
theorem ZAh(l:List Edit)(aa aq ai ah al:Int)(ao:List Int)(am:List Tree)(aj:List Int)(af:List Tree)(ae:List WEdit)(ak:List Kid)(ab:List Op)(N0:NT)(Q:QT)(h:∀ ar,ar=(l.getD aa.toNat Edit.nil)->∀ s,s=(Edit.mk aq (Tree.mk ai ao am) (Tree.mk ah aj af) ae ak al ab)->∀ u,u=ar->let z1:=Edit.new ((Z24 s u).1);let z0:=Edit.old ((Z24 s u).1);(iB (decide (aa < (l.length:Int))) (((0:Int)<=aa/\aa < (l.length:Int))/\((Z2A (s,u,()))/\(iB (!((Z24 s u).2)) ((Q .ret (L2 [pL 2,pB 3 false] [(.loc 2,zc1)]))) (((InR (aa+1))/\(N0 (ZbC l (aa+1) (Edit.kind ((Z24 s u).1)) (Tree.kind z0) (Tree.kind z1) (Edit.list ((Z24 s u).1)) (Tree.words z0) (Tree.kids z0) (Tree.words z1) (Tree.kids z1) (Edit.words ((Z24 s u).1)) (Edit.kids ((Z24 s u).1)) (Edit.ops ((Z24 s u).1))))))))) ((Z1g (s,()))/\(Q .ret (L2 [pL 2,pB 3 true] [(.loc 2,(enc .edit (Zj s)))]))))):
  A20 [1,1,0,1,0,0] (ZbC l aa aq ai ah al ao am aj af ae ak ab) (xT N0 (xB 0 (S20 [1,1,1] Q))):=
 Eq.mpr V3 (h _ rfl _ rfl _ (Z7 _))
def ZIk(l:List Edit):Prop:=AW (Z2 ZoH) Tryz.f20 ZC1 [] (Zf (ZzB.can (l,())) []) (EQ Tryz.f20 (Zq3 (l,())) [])
theorem ZFZ(c71:CT 71 Zfk)(c67:CT 67 Z0h)(hb:∀ (l:List Edit) (_:Unit),Zqk (l,())->ZIk l):CT 20 Zfq:=
 Z1 (l:=[(71,Zfk),(67,Z0h)]) Ze rfl (⟨c71,c67,trivial⟩) ZC1 Tryz.func20 rfl rfl 1 (fun _=> rfl) V2 (fun ⟨l,_⟩=> hb l ())
end
theorem ZrZ:∀ l:List Edit,l.length<=ctL l
 | []=> Qb _
 | e ::r=> by have:=ZrZ r;have:=Z9I e;simp only [ctL,Qm];omega
theorem ZCk{p q:Edit}(hp:Y4 p)(hq:Y4 q)(h:(Z24 p q).2=true)(hs:ctE p+ctE q<=9000000000):Y4 (Z24 p q).1/\ctE (Z24 p q).1+18<=ctE p+ctE q:=by
 have F:=Z8v hp hq
 unfold Z24 at h ⊢
 split at h
 .rename_i hc
  rw [if_pos hc]
  have w:=F.wk hc
  have c:=F.ct trivial hc
  have n:=Z4y (Yt p q).1
  dsimp only
  exact ⟨⟨JX,Z0A _ _ w.r w.g,_,Jm _ _ w.r⟩,JX⟩
 .cases h
theorem c20:Contract Tryz.prog cfg 20 Zfq:=by
 refine ZFZ c71 Zhl.1 ?_
 intro l _ hp
 simp only [Zqk] at hp
 obtain ⟨hx,hc⟩:=hp
 have aq:=ZrZ l
 refine ZLC _ _ ?_
 (simp only [iB,vcT,vcS])
 refine Zc (ι:=Int × Edit) (fun j=> ZbC l j.1 j.2.kind j.2.old.kind j.2.new.kind j.2.list j.2.old.words j.2.old.kids j.2.new.words j.2.new.kids j.2.words j.2.kids j.2.ops) (fun j=> (0<=j.1/\j.1<=l.length)/\(Y4 j.2/\ctE j.2+ctL (l.drop j.1.toNat)<=8000000018)/\Z6e (l.drop j.1.toNat) j.2=Z6e l Edit.nil) (fun j=> ((l.length:Int) - j.1).toNat) (0,Edit.nil) rfl ⟨⟨JX,JX⟩,⟨ZfU,by
   have:ctE Edit.nil=18:=rfl
   grind⟩,by simp⟩ ?_
 rintro ⟨i,x⟩ ⟨⟨i1,i2⟩,⟨s,x2⟩,h⟩
 dsimp only at i1 i2 s x2 h
 refine ZAh _ _ _ _ _ _ _ _ _ _ _ _ _ _ _ ?_
 rintro y1 aa y2 u y3 rfl
 dsimp only at u
 have e2:y2=x:=by rw [u];obtain ⟨k,⟨_,_,_⟩,⟨_,_,_⟩,w,ks,l,os⟩:=x;rfl
 subst e2
 (simp only [iB,vcT,vcS])
 refine ⟨fun hi=> ?_,fun hi=> ?_⟩
 .have hd:=YE i1 hi Edit.nil
  rw [<-aa] at hd
  have hm:y3∈l:=by rw [aa];exact Zk JX _
  rw [hd,ctL] at x2
  rw [hd,Z6e] at h
  refine ⟨⟨i1,hi⟩,⟨s,hx _ hm⟩,fun hc=> ?_,fun hc=> ⟨V1,(i+1,(Z24 y2 y3).1),rfl,⟨⟨JX,JX⟩,?_,?_⟩,JX⟩⟩
  .rw [if_neg (by grind)] at h
   have:Z6d l=(Edit.nil,false):=by rw [Z6d,if_neg];rw [<-h];decide
   simp only [Zq3,this]
   exact V0
  .have:=ZCk s (hx _ hm) hc JX
   grind
  grind
 .rw [Qc JX,Z6e] at h
  have hm:=YI s
  refine ⟨⟨by grind,s.2.2⟩,?_⟩
  have:Z6d l=(Zj y2,true):=by rw [Z6d,<-h];try rfl
  simp only [Zq3,this]
  exact V0
def at1(n:Int):Tree:= .mk 10 [n] []
theorem ZvL{o:Option Tree}(h:o.isSome=true):∃ v,o=some v:=by cases o with | none=> cases h | some v=> grind
end Go.AM.YtpjenobkibfpcaaGreat
