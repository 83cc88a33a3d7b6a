import Derived.Test.YthokdjgpdonhgaaQGn
import Derived.Test.YthokdjgpdonhgaaQBb
import Derived.Test.YthokdjgpdonhgaaQL15
import Derived.Test.YthokdjgpdonhgaaQGl
set_option linter.unusedSimpArgs false
set_option linter.unusedVariables false
namespace Go.AM.Ythokdjgpdonhgaa
open Go.AM Go.Proofs
def KidsOk(ks:List Tree):Prop:=∀ k∈ks,k.kind≠10/\∃ d,Z8 k d=true
theorem Z3y:∀ (ks:List Tree) (a to:Int),KidsOk ks->(Zt ks a to).2.length=ZD ks
 | [],_,_,_=> by rw [Zt,ZD];try rfl
 | t ::r,a,to,h=> by
  obtain ⟨h1,d,h2⟩:=h t QH
  rw [Zt,ZD,Q3,Z8i t d to h2 h1,Z3y r _ _ fun t ht=> h t (Qn _ ht)]
theorem KidsOk.take{ks:List Tree}(h:KidsOk ks)(n:Nat):KidsOk (ks.take n):=fun k hk=> h k (X9 hk)
theorem Z6r{A S:List Int}{ks:List Tree}{to:Int}{i:Nat}(hi:i < ks.length)(hK:KidsOk ks)(hl:A.length+ks.length+S.length+ZD ks<=1000000):
  A.length+i < (ZN A S ks to i).length/\(ZN A S ks to i).length+Zq (ks.getD i Tree.nil)<=1000000:=by
 have h1:=Z83 A S ks to (K6 hi)
 rw [Z3y _ _ _ (hK.take i)] at h1
 have h2:=Z1c (ks:=ks) (i:=i) (by omega) (by omega)
 have h3:=JI ks (i+1)
 rw [show ((i:Int)+1).toNat=i+1 by omega,Q4] at h2
 omega
theorem Z2H{t:Tree}(h:rng t){k:Tree}(hk:k∈t.kids):rng k:=by
 obtain ⟨k',w,ks⟩:=t
 rw [rng] at h
 have:∀ l:List Tree,Z1B l->∀ t'∈l,rng t':=by
  intro l
  induction l with
  | nil=> intro _ t' h;cases h
  | cons x l ih=>
   intro h t' ht
   rw [Z1B] at h
   rcases QJ.1 ht with rfl | ht
   ·exact h.1
   ·exact ih h.2 t' ht
 exact this ks h.2.2 k hk
theorem RiT.kidsOk{k:Int}{w:List Int}{ks:List Tree}{d:Int}(h:RiT k w ks d)(hk:k=1\/k=8):KidsOk ks:=fun t ht=> ⟨(h.kids t ht).2.2.1 hk,_,(h.kids t ht).1⟩
theorem Zne{ks:List Tree}(h:∀ t∈ks,t.words.length < 65536/\t.kids.length < 65536):frW ks < 65536/\frK ks < 65536:=by
 induction ks with
 | nil=> exact ⟨by simp [frW],by simp [frK]⟩
 | cons t l ih=>
  have h1:=h t QH
  have h2:=ih fun t ht=> h t (Qn _ ht)
  rw [frW,frK]
  omega
theorem ZgE{t:Tree}{d:Int}(h:Z8 t d=true):RiT t.kind t.words t.kids d:=riT (by rw [Tree.eta];exact h)
theorem RiT.rows{w:List Int}{ks:List Tree}{d:Int}(h:RiT 9 w ks d):∀ t∈ks,t.kind=1/\KidsOk t.kids/\t.words.length < 65536/\t.kids.length < 65536:=by
 intro t ht
 have h1:=h.kids t ht
 have hk:=h1.2.2.2 rfl
 have r:=ZgE h1.1
 rw [hk] at r
 exact ⟨hk,r.kidsOk (.inl rfl),r.stru rfl⟩
def Jo(fw fk:Nat):List Tree->List Int
 | []=> []
 | t ::r=> t.words++(zs (fw+fk - t.words.length)++Jo fw fk r)
theorem Z7B(fw fk:Nat):∀ a b:List Tree,Jo fw fk (a++b)=Jo fw fk a++Jo fw fk b
 | [],b=> rfl
 | t ::r,b=> by rw [QN,Jo,Z7B fw fk r b,Jo];simp only [Qb]
theorem Z7A{fw fk:Nat}:∀ {ks:List Tree},Fit fw fk ks->(Jo fw fk ks).length=ks.length*(fw+fk)
 | [],_=> by simp [Jo]
 | t ::r,h=> by
  have h1:=h t QH
  rw [Jo,Q3,Q3,Y6,Z7A fun t ht=> h t (Qn _ ht),Qh,Qd]
  omega
theorem Zfu{fw fk:Nat}{ks:List Tree}{i:Nat}(h:i < ks.length):Jo fw fk (ks.drop i)=(ks.getD i Tree.nil).words++(zs (fw+fk - (ks.getD i Tree.nil).words.length)++Jo fw fk (ks.drop (i+1))):=by
 have:ks.drop i=ks.getD i Tree.nil ::ks.drop (i+1):=by
  rw [Q7,Q0 h]
  exact QR h
 rw [this,Jo]
theorem Z3g(fw fk:Nat):∀ (ks:List Tree) (a to:Int),(∀ t∈ks,KidsOk t.kids)->(ZS fw fk ks a to).2.length=Y7 ks
 | [],_,_,_=> by rw [ZS,Y7];try rfl
 | .mk k w l ::r,a,to,h=> by
  have h1:=h _ QH
  rw [ZS,Y7,Q3,Z3y l _ _ h1,Z3g fw fk r _ _ fun t ht=> h t (Qn _ ht)]
theorem JW(t:Tree):Zq t=if t.kind=1 then t.words.length+t.kids.length+ZD t.kids else if t.kind=8 then t.kids.length+ZD t.kids else if t.kind=9 then 1+t.kids.length*(frW t.kids+frK t.kids)+Y7 t.kids
  else if 2<=t.kind/\t.kind<=7 then (ZK (t.kind - 2) t.kids.length).toNat else ZD t.kids:=by
 obtain ⟨k,w,ks⟩:=t
 rw [Zq];try rfl
theorem JY(a to:Int)(t:Tree):ZO a to t=if t.kind=0 then 0
  else if t.kind=1 then Z0b a (if t.words.length+t.kids.length=0 then a else to) 0 (t.words.length+65536*t.kids.length)
  else if t.kind=8 then Z0b a to 1 (6+8*t.kids.length)
  else if t.kind=9 then Z0b a to 1 (7+8*(t.kids.length*(frW t.kids+frK t.kids):Nat))
  else Z0b a to 1 (t.kind - 2+8*t.kids.length):=by
 obtain ⟨k,w,ks⟩:=t
 try rfl
theorem Z2y(t:Tree)(to:Int):Z0q t to=if t.kind=0 then []
  else if t.kind=1 then t.words++((Zt t.kids (to+t.words.length) (to+t.words.length+t.kids.length)).1++(Zt t.kids (to+t.words.length) (to+t.words.length+t.kids.length)).2)
  else if t.kind=8 then (Zt t.kids to (to+t.kids.length)).1++(Zt t.kids to (to+t.kids.length)).2
  else if t.kind=9 then Z1F t.kids.length (frW t.kids) (frK t.kids) ::((ZS (frW t.kids) (frK t.kids) t.kids (to+1) (to+1+(t.kids.length*(frW t.kids+frK t.kids):Nat))).1++(ZS (frW t.kids) (frK t.kids) t.kids (to+1) (to+1+(t.kids.length*(frW t.kids+frK t.kids):Nat))).2)
  else Z3W (t.kind - 2) (Yd t.kids):=by
 obtain ⟨k,w,ks⟩:=t
 rw [Z0q];try rfl
set_option maxHeartbeats 1000000 in
theorem c76:Contract Try.prog cfg 76 Z6T:=by
 refine ZnV ZpI ZpH ZpG c82 c18 ?_
 intro N l at_ t _ hp hN
 obtain ⟨⟨h1,h2,h3⟩,⟨hm,hg⟩,h10,d,hr⟩:=hp
 dsimp only at h1 h2 h3 hm hg h10 hr
 have hN:Zh t < N+1:=hN
 obtain ⟨a,rfl⟩:=Qg h1
 have rt:=ZgE hr
 have hk:=JJ t
 have hkr:=rt.kind
 have hlen:=rt.len
 have fin:∀ {L:List Int},L=YZ l a t->YP cfg Try.f76.ntmps Try.f76.results.toList (Zb2 (l,(a:Int),t,())) (Z7t (l,(a:Int),t,())) (Z7w (l,(a:Int),t,())) .ret (⟨[(6,.c (.mref (.e 6 0)))],[],[(.e 6 0,LC.mk (U:=U) .u64 L 0)]⟩:LSt U):=by
  rintro L rfl
  (repeat' (first | exact trivial | exact rfl | apply And.intro))
 have lay:∀ {h:Int} {b:List Int},t.kind≠0->ZO a l.length t=h->Z0q t l.length=b->l.set a h++b=YZ l a t:=by
  rintro h b h0 rfl rfl
  unfold YZ
  rw [if_neg h0]
  try rfl
 have kid:∀ {i:Nat},i < t.kids.length->Zh (t.kids.getD i Tree.nil) < N/\Zh (t.kids.getD i Tree.nil)<=1000000/\rng (t.kids.getD i Tree.nil)/\t.kids.getD i Tree.nil∈t.kids:=fun {i} hi=> by
  have:=Js hi
  have hmem:=YK hi Tree.nil
  exact ⟨by omega,by omega,Z2H hg hmem,hmem⟩
 have w8:IntKind.wrap .u64 (8*IntKind.wrap .u64 (t.kids.length:Int))=8*(t.kids.length:Int):=by rw [Zo (n:=(t.kids.length:Int)) (by omega) (by omega),Zo (by omega) (by omega)]
 refine Zsu _ _ _ _ _ ?_
 rintro y1 rfl y2 e2 y3 e3 y4 e4 y5 e5 y6 e6 y7 e7 y8 e8
 rw [w8] at e2
 rw [Zo (n:=(y1.kids.length:Int)) (by omega) (by omega),Zo (by omega) (by omega)] at e3
 (simp only [vcT,vcS])
 refine ⟨fun k0=> fin (by unfold YZ;rw [if_pos k0]),fun k0=> ⟨fun k1=> ?_,fun k1=> ⟨fun k8=> ?_,fun k8=> ⟨fun k9=> ?_,fun k9=> ?_⟩⟩⟩⟩
 ·-- a struct
  have hs:=rt.stru k1
  have sz:=JW y1
  rw [if_pos k1] at sz
  have hh:=JY a l.length y1
  rw [if_neg k0,if_pos k1] at hh
  have hb:=Z2y y1 l.length
  rw [if_neg k0,if_pos k1] at hb
  rw [Zo (n:=(y1.words.length:Int)) (by omega) (by omega),e3,Zo (by omega) (by omega)] at e5
  have kOk:=rt.kidsOk (.inl k1)
  have key:∀ {x:Int} {h:Int},ZO a l.length y1=h->(y1.kids.length≠0->x=l.length)->0<=x->x<=1000000->Zk (A76 N [1,1,0,1,0,1,1,1,0,1,1,1,1,0,1,0,0]) (Z0R l a y1 x ((l.set a h++y1.words)++zs y1.kids.length) 0) (AExit.inBlock 1 (S76 N [1,1,0,1,0,1,1,1,0,1,1,1,1,1] (AExit.inBlock 0 (S76 N [1,1,1] (YP cfg Try.f76.ntmps Try.f76.results.toList (Zb2 (l,(a:Int),y1,())) (Z7t (l,(a:Int),y1,())) (Z7w (l,(a:Int),y1,()))))))):=by
   intro x h hhd hx x0 x1
   have hA:(l.set a h++y1.words).length=l.length+y1.words.length:=by simp
   refine Za (ι:=Int) (fun p=> Z0R l a y1 x (ZN (l.set a h++y1.words) [] y1.kids ((l.set a h++y1.words).length+y1.kids.length+([]:List Int).length:Nat) p.toNat) p) (fun p=> 0<=p/\p<=y1.kids.length) (fun p=> ((y1.kids.length:Int) - p).toNat) 0 (by rw [show (0:Int).toNat=0 from rfl,Z0G];simp [zs]) ⟨by omega,by omega⟩ ?_
   rintro i ⟨g1,g2⟩
   refine ZkB _ _ _ _ _ _ _ _ _ ?_
   (simp only [vcT,vcS])
   simp only [Tree.eta]
   refine ⟨fun hi=> ?_,fun hi=> ?_⟩
   ·obtain ⟨m1,m2,m3,m4⟩:=kid (i:=i.toNat) (by omega)
    obtain ⟨p1,p2⟩:=Z6r (A:=l.set a h++y1.words) (S:=[]) (to:=((l.set a h++y1.words).length+y1.kids.length+([]:List Int).length:Nat)) (i:=i.toNat) (by omega) kOk (by rw [hA];simp only [QK];omega)
    have st:=Z2F (A:=l.set a h++y1.words) (S:=[]) (i:=i.toNat) (ks:=y1.kids) (by omega)
    have ex:=hx (by omega)
    refine ⟨by ((unfold InR;omega)),by ((unfold InR;omega)),⟨g1,hi⟩,⟨⟨by dsimp only;omega,by dsimp only;omega,by dsimp only;omega⟩,⟨m2,m3⟩,(kOk _ m4).1,(kOk _ m4).2⟩,m1,by ((unfold InR;omega)),i+1,?_,⟨by omega,by omega⟩,by omega⟩
    rw [show (i+1).toNat=i.toNat+1 by omega,<-st,hA]
    congr 2
    omega
   ·have e:i=y1.kids.length:=by omega
    subst e
    refine fin ?_
    rw [Q4,Z0j,<-lay k0 hhd hb,hA]
    simp only [Qb,Xh,QK,Xe,QD]
  refine ⟨by ((unfold InR;omega)),fun hz=> ?_,fun hz=> ?_⟩
  ·have hz':y1.words.length+y1.kids.length=0:=by omega
   rw [if_pos hz'] at hh
   have eh:Z0b a a 0 y5=ZO a l.length y1:=by rw [hh,e5]
   rw [eh]
   refine ⟨⟨⟨by dsimp only;omega,Int.le_refl _,by dsimp only;omega⟩,⟨by dsimp only;omega,by dsimp only;omega⟩,by dsimp only;omega,by dsimp only;omega⟩,⟨by omega,h2⟩,Nat.zero_le _,?_,⟨?_,by dsimp only;omega,by dsimp only;omega⟩,key rfl (by omega) (by omega) (by omega)⟩
   ·rw [K8];omega
   ·dsimp only;rw [List.length_append,List.length_set];omega
  ·have hz':¬(y1.words.length+y1.kids.length=0):=by omega
   rw [if_neg hz'] at hh
   have eh:Z0b a l.length 0 y5=ZO a l.length y1:=by rw [hh,e5]
   rw [e7,eh]
   refine ⟨⟨⟨by dsimp only;omega,by dsimp only;omega,by dsimp only;omega⟩,⟨by dsimp only;omega,by dsimp only;omega⟩,by dsimp only;omega,by dsimp only;omega⟩,⟨by omega,h2⟩,Nat.zero_le _,?_,⟨?_,by dsimp only;omega,by dsimp only;omega⟩,key rfl (fun _=> rfl) (by omega) (by omega)⟩
   ·rw [K8];dsimp only;omega
   ·dsimp only;rw [List.length_append,List.length_set];omega
 ·-- pointers
  have sz:=JW y1
  rw [if_neg k1,if_pos k8] at sz
  have hh:=JY a l.length y1
  rw [if_neg k0,if_neg k1,if_pos k8] at hh
  have hb:=Z2y y1 l.length
  rw [if_neg k0,if_neg k1,if_pos k8] at hb
  have kOk:=rt.kidsOk (.inr k8)
  rw [e2,Zo (n:=6+8*(y1.kids.length:Int)) (by omega) (by omega),<-hh]
  have hA:(l.set a (ZO a l.length y1)).length=l.length:=by simp
  refine ⟨⟨⟨by dsimp only;omega,by dsimp only;omega,by dsimp only;omega⟩,⟨by dsimp only;omega,by dsimp only;omega⟩,by dsimp only;omega,by dsimp only;omega⟩,⟨by omega,h2⟩,Nat.zero_le _,⟨by dsimp only;rw [Int.toNat_natCast,hA];omega,by dsimp only;omega,by dsimp only;omega⟩,?_⟩
  refine Za (ι:=Int) (fun p=> Z4p l a y1 p (ZN (l.set a (ZO a l.length y1)) [] y1.kids ((l.set a (ZO a l.length y1)).length+y1.kids.length+([]:List Int).length:Nat) p.toNat)) (fun p=> 0<=p/\p<=y1.kids.length) (fun p=> ((y1.kids.length:Int) - p).toNat) 0 (by rw [show (0:Int).toNat=0 from rfl,Z0G];simp [zs]) ⟨by omega,by omega⟩ ?_
  rintro i ⟨g1,g2⟩
  refine ZkA _ _ _ _ _ _ _ _ ?_
  (simp only [vcT,vcS])
  simp only [Tree.eta]
  refine ⟨fun hi=> ?_,fun hi=> ?_⟩
  ·obtain ⟨m1,m2,m3,m4⟩:=kid (i:=i.toNat) (by omega)
   obtain ⟨p1,p2⟩:=Z6r (A:=l.set a (ZO a l.length y1)) (S:=[]) (to:=((l.set a (ZO a l.length y1)).length+y1.kids.length+([]:List Int).length:Nat)) (i:=i.toNat) (by omega) kOk (by rw [hA];simp only [QK];omega)
   have st:=Z2F (A:=l.set a (ZO a l.length y1)) (S:=[]) (i:=i.toNat) (ks:=y1.kids) (by omega)
   refine ⟨by ((unfold InR;omega)),⟨g1,hi⟩,⟨⟨by dsimp only;omega,by dsimp only;omega,by dsimp only;omega⟩,⟨m2,m3⟩,(kOk _ m4).1,(kOk _ m4).2⟩,m1,by ((unfold InR;omega)),i+1,?_,⟨by omega,by omega⟩,by omega⟩
   rw [show (i+1).toNat=i.toNat+1 by omega,<-st,hA]
   congr 2
   omega
  ·have e:i=y1.kids.length:=by omega
   subst e
   refine fin ?_
   rw [Q4,Z0j,<-lay k0 rfl hb,hA]
   simp only [Xh,QK,Xe,QD]
 ·-- a list of structs
  rw [k9] at rt
  have rows:=rt.rows
  have hfr:=Zne fun t ht=> (rows t ht).2.2
  have hfit:Fit (frW y1.kids) (frK y1.kids) y1.kids:=fun t ht=> Zat ht
  have sz:=JW y1
  rw [if_neg k1,if_neg k8,if_pos k9] at sz
  have hh:=JY a l.length y1
  rw [if_neg k0,if_neg k1,if_neg k8,if_pos k9] at hh
  have hb:=Z2y y1 l.length
  rw [if_neg k0,if_neg k1,if_neg k8,if_pos k9] at hb
  generalize hfw:frW y1.kids=fw at*
  generalize hfk:frK y1.kids=fk at*
  obtain ⟨P,hP⟩:∃ P,P=y1.kids.length*(fw+fk):=⟨_,rfl⟩
  have hPI:(y1.kids.length:Int)*((fw:Int)+fk)=P:=by rw [hP,QX,QD]
  rw [<-hP] at sz hh hb
  rw [hPI,Zo (n:=(P:Int)) (by omega) (by omega)] at e6
  rw [e6,Zo (n:=8*(P:Int)) (by omega) (by omega),Zo (n:=7+8*(P:Int)) (by omega) (by omega)] at e8
  have etag:IntKind.wrap .u64 (IntKind.wrap .u64 (4*(y1.kids.length:Int))+IntKind.wrap .u64 (4294967296*IntKind.wrap .u64 (IntKind.wrap .u64 (fw:Int)+IntKind.wrap .u64 (65536*IntKind.wrap .u64 (fk:Int)))))=Z1F y1.kids.length fw fk:=by
   rw [Zo (n:=(fk:Int)) (by omega) (by omega),Zo (n:=65536*(fk:Int)) (by omega) (by omega),Zo (n:=(fw:Int)) (by omega) (by omega),Zo (n:=(fw:Int)+65536*fk) (by omega) (by omega),Zo (n:=4*(y1.kids.length:Int)) (by omega) (by omega),Zo (n:=4294967296*((fw:Int)+65536*fk)) (by omega) (by omega),Zo (by omega) (by omega)]
   try rfl
  rw [etag,hPI,e8,<-hh]
  have hB:(l.set a (ZO a l.length y1)).length=l.length:=by simp
  have hA:(l.set a (ZO a l.length y1)++[Z1F y1.kids.length fw fk]).length=l.length+1:=by simp
  refine ⟨hm,by ((unfold InR;omega)),by ((unfold InR;omega)),⟨⟨by dsimp only;omega,by dsimp only;omega,by dsimp only;omega⟩,⟨by dsimp only;omega,by dsimp only;omega⟩,by dsimp only;omega,by dsimp only;omega⟩,⟨by omega,h2⟩,Nat.zero_le _,by ((unfold InR;omega)),by rw [Int.toNat_natCast,hB];simp only [List.length_singleton];omega,?_⟩
  have hraw:∀ n:Nat,n<=y1.kids.length->(Jo fw fk (y1.kids.take n)).length<=P:=by
   intro n hn
   rw [Z7A (hfit.take n),Qa,QI hn,hP]
   exact Q5 _ hn
  rw [Q4]
  refine Za (ι:=Int) (fun p=> Z4o l a y1 p ((l.set a (ZO a l.length y1)++[Z1F y1.kids.length fw fk])++Jo fw fk (y1.kids.take p.toNat))) (fun p=> 0<=p/\p<=y1.kids.length) (fun p=> ((y1.kids.length:Int) - p).toNat) 0 (by simp [Jo]) ⟨by omega,by omega⟩ ?_
  rintro i ⟨g1,g2⟩
  refine Zkz _ _ _ _ _ _ _ _ ?_
  rintro y9 rfl y10 e10
  rw [hfw,hfk]
  (simp only [vcT,vcS])
  refine ⟨fun hi=> ?_,fun hi=> ?_⟩
  ·have hmem:=YK (l:=y9.kids) (i:=i.toNat) (by omega) Tree.nil
   have hf:=hfit _ hmem
   rw [<-e10] at hf
   have hr1:=hraw i.toNat (by omega)
   have htk:=Z8M g1 hi
   have hr2:=hraw (i+1).toNat (by omega)
   rw [htk,Z7B,<-e10,Jo,Jo] at hr2
   simp only [Q3,Y6,QK] at hr2
   refine ⟨⟨g1,hi⟩,by rw [Q3,hA];omega,by ((unfold InR;omega)),⟨g1,hi⟩,by ((unfold InR;omega)),⟨by dsimp only;rw [List.length_append,List.length_append,hA];omega,by dsimp only;omega,by dsimp only;omega⟩,by ((unfold InR;omega)),i+1,?_,⟨by omega,by omega⟩,by omega⟩
   rw [htk,Z7B,<-e10,Jo,Jo,show ((fw:Int)+fk - y10.words.length).toNat=fw+fk - y10.words.length by omega]
   simp only [Qb,Xa]
  ·have e:i=y9.kids.length:=by omega
   subst e
   rw [Q4,QM]
   generalize hAA:l.set a (ZO a l.length y9)++[Z1F y9.kids.length fw fk]=A at*
   refine Za (ι:=Int) (fun p=> Z4n l a y9 p (Ju A (Jo fw fk (y9.kids.drop p.toNat)) fw fk y9.kids p.toNat)) (fun p=> 0<=p/\p<=y9.kids.length) (fun p=> ((y9.kids.length:Int) - p).toNat) 0 (by simp [Ju,ZS]) ⟨by omega,by omega⟩ ?_
   rintro i ⟨f1,f2⟩
   refine Zky _ _ _ _ _ _ _ _ ?_
   (simp only [vcT,vcS])
   refine ⟨fun hi=> ?_,fun hi=> ?_⟩
   ·have hmem:=YK (l:=y9.kids) (i:=i.toNat) (by omega) Tree.nil
    obtain ⟨r1,r2,r3,r4⟩:=rows _ hmem
    have hR:(Jo fw fk (y9.kids.drop (i.toNat+1))).length=(y9.kids.length - (i.toNat+1))*(fw+fk):=by
     rw [Z7A (fun t ht=> hfit t (Xm ht)),X4]
    have hAl:=Z3V (A:=A) hfit (i:=i.toNat) (by omega)
    have hSl:=Z7o (A:=A) hfit (i:=i.toNat) (by omega) hR
    have hz:=ZaT (A:=A) (R:=Jo fw fk (y9.kids.drop (i.toNat+1))) hfit (i:=i.toNat) (by omega) ((Z2S A fw fk y9.kids i.toNat).length+(y9.kids.getD i.toNat Tree.nil).kids.length+(Z3h A (Jo fw fk (y9.kids.drop (i.toNat+1))) fw fk y9.kids i.toNat).length:Nat)
    have hall:=Zdl (A:=A) hfit (i:=i.toNat) (by omega) hR
    rw [<-Zfu (by omega)] at hz
    have hrb:=Z3g fw fk (y9.kids.take i.toNat) A.length (A.length+y9.kids.length*(fw+fk):Nat) (fun t ht=> (rows t (X9 ht)).2.1)
    rw [hrb,<-hP] at hSl
    have hst:=Z1b f1 hi
    have hsl:=JH y9.kids (i+1).toNat
    have hip:i.toNat*(fw+fk)+(fw+fk)<=P:=by
     rw [<-K5,hP]
     exact Q5 _ (by omega)
    have hipI:i*((fw:Int)+fk)=(i.toNat*(fw+fk):Nat):=by rw [QX,QD,Xq f1]
    rw [<-hz]
    refine Za (ι:=Int) (fun p=> Z4m l a y9 i p (ZN (Z2S A fw fk y9.kids i.toNat) (Z3h A (Jo fw fk (y9.kids.drop (i.toNat+1))) fw fk y9.kids i.toNat) (y9.kids.getD i.toNat Tree.nil).kids ((Z2S A fw fk y9.kids i.toNat).length+(y9.kids.getD i.toNat Tree.nil).kids.length+(Z3h A (Jo fw fk (y9.kids.drop (i.toNat+1))) fw fk y9.kids i.toNat).length:Nat) p.toNat)) (fun p=> 0<=p/\p<=(y9.kids.getD i.toNat Tree.nil).kids.length) (fun p=> (((y9.kids.getD i.toNat Tree.nil).kids.length:Int) - p).toNat) 0 rfl ⟨by omega,by omega⟩ ?_
    rintro j ⟨j1,j2⟩
    refine Zkx _ _ _ _ _ _ _ _ _ _ ?_
    rintro z1 rfl z2 q2 z3 q3 z4 rfl
    rw [hfw,hfk,hipI]
    rw [<-q2] at j2 r2 hall hst hSl ⊢
    (simp only [vcT,vcS])
    refine ⟨⟨f1,hi⟩,fun hj=> ?_,fun hj=> ?_⟩
    ·obtain ⟨m1,m2,m3,m4⟩:=kid (i:=i.toNat) (by omega)
     rw [<-q2] at m1 m2 m3
     have hm2:=Js (t:=z2) (i:=j.toNat) (by omega)
     have hmem2:=YK (l:=z2.kids) (i:=j.toNat) (by omega) Tree.nil
     rw [<-q3] at hm2 hmem2
     obtain ⟨p1,p2⟩:=Z6r (A:=Z2S A fw fk z1.kids i.toNat) (S:=Z3h A (Jo fw fk (z1.kids.drop (i.toNat+1))) fw fk z1.kids i.toNat) (ks:=z2.kids) (to:=((Z2S A fw fk z1.kids i.toNat).length+z2.kids.length+(Z3h A (Jo fw fk (z1.kids.drop (i.toNat+1))) fw fk z1.kids i.toNat).length:Nat)) (i:=j.toNat) (by omega) r2 (by rw [hSl];omega)
     have st:=Z2F (A:=Z2S A fw fk z1.kids i.toNat) (S:=Z3h A (Jo fw fk (z1.kids.drop (i.toNat+1))) fw fk z1.kids i.toNat) (ks:=z2.kids) (i:=j.toNat) (by omega)
     rw [<-q3] at p2 st
     have hq1:Zh z4 < N:=by omega
     have hq2:Zh z4<=1000000:=by omega
     refine ⟨by ((unfold InR;omega)),by ((unfold InR;omega)),by ((unfold InR;omega)),by ((unfold InR;omega)),by ((unfold InR;omega)),by ((unfold InR;omega)),⟨f1,hi⟩,⟨j1,hj⟩,⟨⟨by dsimp only;omega,by dsimp only;omega,by dsimp only;omega⟩,⟨hq2,Z2H m3 hmem2⟩,(r2 _ hmem2).1,(r2 _ hmem2).2⟩,hq1,by ((unfold InR;omega)),j+1,?_,⟨by omega,by omega⟩,by omega⟩
     rw [show (j+1).toNat=j.toNat+1 by omega,<-st]
     congr 2
     omega
    ·have e:j=z2.kids.length:=by omega
     subst e
     refine ⟨by ((unfold InR;omega)),i+1,?_,⟨by omega,by omega⟩,by omega⟩
     rw [Q4,hall,show (i+1).toNat=i.toNat+1 by omega]
   ·have e:i=y9.kids.length:=by omega
    subst e
    refine fin ?_
    rw [Q4,List.drop_length,<-lay k0 rfl hb,<-Xv,<-Qb,hAA]
    unfold Ju
    rw [QM,hA,Jo,<-hP]
    simp only [Xh,QD,Int.natCast_one]
 ·-- numbers
  have hk27:2<=y1.kind/\y1.kind<=7:=by omega
  obtain ⟨hfit,hat⟩:=rt.data hk27.1 hk27.2
  have sz:=JW y1
  rw [if_neg k1,if_neg k8,if_neg k9,if_pos hk27] at sz
  have hh:=JY a l.length y1
  rw [if_neg k0,if_neg k1,if_neg k8,if_neg k9] at hh
  have hb:=Z2y y1 l.length
  rw [if_neg k0,if_neg k1,if_neg k8,if_neg k9] at hb
  rw [Zo (n:=y1.kind - 2) (by omega) (by omega),e2,Zo (by omega) (by omega)] at e4
  rw [e4,<-hh]
  have hnl:(Yd y1.kids).length=y1.kids.length:=by rw [Yd,QW]
  have hnW:okW (Yd y1.kids):=by
   intro x hx
   obtain ⟨t',ht',rfl⟩:=Xn.1 hx
   have:=Z2H hg ht'
   obtain ⟨k',w',l'⟩:=t'
   rw [rng] at this
   exact Yr this.2.1 0
  have hpl:(Z3W (y1.kind - 2) (Yd y1.kids)).length=Zq y1:=by
   unfold Z3W
   rw [if_pos hfit,Z7D,hnl,sz]
  refine ⟨by ((unfold InR;omega)),⟨hm,fun k hk=> (hat k hk).2.2⟩,⟨hnW,by dsimp only;omega⟩,by ((unfold InR;omega)),⟨⟨by dsimp only;omega,by dsimp only;omega,by dsimp only;omega⟩,⟨by dsimp only;omega,by dsimp only;omega⟩,by dsimp only;omega,by dsimp only;omega⟩,⟨by omega,h2⟩,Nat.zero_le _,by rw [List.length_set,hpl];omega,fin ?_⟩
  rw [<-lay k0 rfl hb]
  try rfl
theorem c36:Contract Try.prog cfg 36 Z7d:=by
 refine Zor c43 c50 c54 c76 ?_
 intro t most _ hp
 obtain ⟨hm,hg⟩:=hp
 dsimp only at hm hg
 have no:¬(Z8 t 64=true/\t.kind≠10/\(Zq (Ze t):Int) < most/\Zq (Ze t) < 131072)->Zx cfg Try.f36.ntmps Try.f36.results.toList (Zb7 (t,most,())) [] .ret (⟨[(4,.c (.nils)),(5,.c (.bool false))],[],[]⟩:LSt U):=by
  intro h
  refine ZG (r':= .tup [(false,[.slice (U:=U) .u64 [] .unk]),(false,[.bool false])]) ?_ (by (repeat' (first | exact trivial | exact rfl | apply And.intro)))
  simp only [Zb7]
  unfold YN
  split
  ·rw [if_neg (by rename_i h2;exact fun h3=> h ⟨h2.1,h2.2,h3⟩)]
  ·try rfl
 have hn:=JB t
 refine Zt1 _ _ _ ?_
 rintro y1 rfl y2 rfl
 (simp only [vcT,vcS])
 have q1:Zh y1<=1000000000000:=by omega
 have q2:Zh (Ze y1)<=1000000:=by omega
 refine ⟨⟨hm,hg,by dsimp only;omega,by dsimp only;omega⟩,fun h=> no (fun h2=> ?_),fun h=> ⟨q1,q2,fun _=> q2,fun h2=> no (fun h3=> ?_),fun h2=> ⟨⟨⟨Int.le_refl _,by dsimp only;simp,by dsimp only;simp only [List.length_singleton];omega⟩,⟨by dsimp only;omega,Z1V _ hg⟩,?_,64,J8 _ _ h.1⟩,?_⟩⟩⟩
 ·rcases h with h | h
  ·rw [h2.1] at h;cases h
  ·exact h2.2.1 h
 ·omega
 ·dsimp only
  rw [Z1h]
  exact h.2
 ·refine ZG (r':= .tup [(false,[.slice (U:=U) .u64 (YZ [0] 0 (Ze y1)) .unk]),(false,[.bool true])]) ?_ (by (repeat' (first | exact trivial | exact rfl | apply And.intro)))
  simp only [Zb7]
  unfold YN
  rw [if_pos ⟨h.1,h.2⟩,if_pos (by omega)]
theorem Z6k(A S:List Int)(n:Nat):Z6x (A++(zs n++S)) A.length n:=⟨A,S,rfl,rfl⟩
theorem Z6m(A B:List Int){a:Nat}(h:A.length=a):(A++B).take a=A:=by rw [<-h,List.take_left]
theorem Zax(A B:List Int){a:Nat}(h:A.length=a):(A++B).drop a=B:=by rw [<-h,List.drop_left]
theorem Z9I{X Y:List Int}{fw:Nat}{t:Tree}{a:Nat}(ha:X.length=a)(hw:t.words.length<=fw)(n:Nat):
  Zc6 (X++(zs (fw+(t.kids.length+n))++Y)) a fw t=X++(t.words++(zs (fw - t.words.length)++((Zt t.kids ((a:Int)+fw) (X++(zs (fw+(t.kids.length+n))++Y)).length).1++(zs n++(Y++(Zt t.kids ((a:Int)+fw) (X++(zs (fw+(t.kids.length+n))++Y)).length).2))))):=by
 generalize hP:Zt t.kids ((a:Int)+fw) (X++(zs (fw+(t.kids.length+n))++Y)).length=P
 unfold Zc6
 rw [hP,Q4,Q4,Z6m _ _ ha]
 have e:X++(zs (fw+(t.kids.length+n))++Y)=(X++zs (fw+t.kids.length))++(zs n++Y):=by
  rw [<-Xx,Z14 (fw+t.kids.length) n]
  simp only [Qb]
 rw [e,Zax (a:=a+fw+t.kids.length) _ _ (by rw [Q3,Y6];omega)]
 simp only [Qb]
theorem Zl1{A:List Int}{fw fk:Nat}{ks:List Tree}(h:Fit fw fk ks){i:Nat}(hi:i < ks.length):
  Z6x (Ju A (zs ((ks.length - i)*(fw+fk))) fw fk ks i) (A.length+i*(fw+fk)) (fw+(ks.getD i Tree.nil).kids.length)/\
   Zc6 (Ju A (zs ((ks.length - i)*(fw+fk))) fw fk ks i) ((A.length+i*(fw+fk):Nat):Int) fw (ks.getD i Tree.nil)=Ju A (zs ((ks.length - (i+1))*(fw+fk))) fw fk ks (i+1):=by
 have hf:=h.get hi
 have hall:=Zdl (A:=A) (R:=zs ((ks.length - (i+1))*(fw+fk))) h hi (Y6 _)
 have hz:=ZaT (A:=A) (R:=zs ((ks.length - (i+1))*(fw+fk))) h hi 0
 have hAl:=Z3V (A:=A) h hi
 have hSl:=Z7o (A:=A) (R:=zs ((ks.length - (i+1))*(fw+fk))) h hi (Y6 _)
 generalize hk:ks.getD i Tree.nil=t at*
 have ez:(ks.length - i)*(fw+fk)=fw+(t.kids.length+((fk - t.kids.length)+(ks.length - (i+1))*(fw+fk))):=by
  have:(ks.length - i)*(fw+fk)=(ks.length - (i+1))*(fw+fk)+(fw+fk):=by rw [<-K5];congr 1;omega
  omega
 have eL:Ju A (zs ((ks.length - i)*(fw+fk))) fw fk ks i=(A++(ZS fw fk (ks.take i) A.length (A.length+ks.length*(fw+fk):Nat)).1)++(zs (fw+(t.kids.length+((fk - t.kids.length)+(ks.length - (i+1))*(fw+fk))))++(ZS fw fk (ks.take i) A.length (A.length+ks.length*(fw+fk):Nat)).2):=by
  unfold Ju
  rw [ez]
  simp only [Qb]
 have eX:(A++(ZS fw fk (ks.take i) A.length (A.length+ks.length*(fw+fk):Nat)).1).length=A.length+i*(fw+fk):=by
  rw [Q3,Z0L _ _ _ (h.take i),Qa,QI (K6 hi)]
 constructor
 ·rw [eL,<-eX,<-Xx fw,Z14]
  have:=Z6k (A++(ZS fw fk (ks.take i) A.length (A.length+ks.length*(fw+fk):Nat)).1) (zs ((fk - t.kids.length)+(ks.length - (i+1))*(fw+fk))++(ZS fw fk (ks.take i) A.length (A.length+ks.length*(fw+fk):Nat)).2) (fw+t.kids.length)
  rwa [<-Qb (zs _)] at this
 ·have hlen:((A++(ZS fw fk (ks.take i) A.length (A.length+ks.length*(fw+fk):Nat)).1)++(zs (fw+(t.kids.length+((fk - t.kids.length)+(ks.length - (i+1))*(fw+fk))))++(ZS fw fk (ks.take i) A.length (A.length+ks.length*(fw+fk):Nat)).2)).length=(Z2S A fw fk ks i).length+t.kids.length+(Z3h A (zs ((ks.length - (i+1))*(fw+fk))) fw fk ks i).length:=by
   rw [hSl,Q3,eX,Q3,Y6]
   have:ks.length*(fw+fk)=i*(fw+fk)+(ks.length - i)*(fw+fk):=by rw [<-Qd];congr 1;omega
   omega
  rw [eL,Z9I eX hf.1,hlen,<-hall,Z0j,hAl]
  unfold Z2S Z3h
  rw [hk,Z14 (fk - t.kids.length)]
  simp only [Qb,QD]
theorem Zjd{X Y w:List Int}{n:Nat}{a:Nat}(ha:X.length=a)(hw:w.length<=n):cpL (X++(zs n++Y)) a w=X++(w++(zs (n - w.length)++Y)):=by
 unfold cpL
 have e:X++(zs n++Y)=(X++zs w.length)++(zs (n - w.length)++Y):=by
  rw [show n=w.length+(n - w.length) by omega,Z14]
  simp only [Qb,show w.length+(n - w.length) - w.length=n - w.length by omega]
 rw [Z6m _ _ ha,Qi (by simp only [Q3,Y6];omega)]
 conv=> lhs;rw [e]
 rw [Zax (a:=a+w.length) _ _ (by rw [Q3,Y6];omega)]
theorem Z3T{l b:List Int}{a:Nat}(h:a < l.length)(x:Int):(l++b).set a x=l.set a x++b:=List.set_append_left _ _ h
theorem b99:Zs0:=by
 intro N l at_ t _ hp hN
 obtain ⟨⟨h1,h2,h3⟩,⟨hm,hg⟩,hK⟩:=hp
 dsimp only at h1 h2 h3 hm hg hK
 have hN:4*Zh t+1 < N+1:=hN
 obtain ⟨a,rfl⟩:=Qg h1
 rw [Q4] at h3
 have hk:=JJ t
 obtain ⟨s1,s2,s3⟩:=Z03 h3
 have hl:=Z9l h3
 refine Zs7 _ _ _ _ _ ?_
 refine Za (ι:=Int) (fun p=> Z4f l a t p (ZN (l.take a) (l.drop (a+t.kids.length)) t.kids l.length p.toNat)) (fun p=> 0<=p/\p<=t.kids.length) (fun p=> ((t.kids.length:Int) - p).toNat) 0 (by rw [show (0:Int).toNat=0 from rfl,ZcL h3]) ⟨by omega,by omega⟩ ?_
 rintro i ⟨g1,g2⟩
 refine Zkg _ _ _ _ _ _ _ _ ?_
 (simp only [vcT,vcS])
 simp only [Tree.eta,vcF]
 refine ⟨fun hi=> ?_,fun hi=> ?_⟩
 ·have m1:=Js (t:=t) (i:=i.toNat) (by omega)
  have m4:=YK (l:=t.kids) (i:=i.toNat) (by omega) Tree.nil
  obtain ⟨p1,p2⟩:=Z6r (A:=l.take a) (S:=l.drop (a+t.kids.length)) (ks:=t.kids) (to:=l.length) (i:=i.toNat) (by omega) hK (by rw [hl];exact h2)
  rw [s2] at p1
  have st:=ZcM h3 (i:=i.toNat) (by omega)
  refine ⟨⟨g1,hi⟩,?_,⟨⟨?_,?_,?_⟩,⟨?_,Z2H hg m4⟩,(hK _ m4).1,(hK _ m4).2⟩,?_,by ((unfold InR;omega)),i+1,?_,⟨by omega,by omega⟩,by omega⟩
  ·show InR ((a:Int)+i);((unfold InR;omega))
  ·show 0<=(a:Int)+i;omega
  ·show (a:Int)+i < ((ZN (l.take a) (l.drop (a+t.kids.length)) t.kids l.length i.toNat).length:Nat);omega
  ·exact p2
  ·show Zh (t.kids.getD i.toNat Tree.nil)<=1000000;omega
  ·show 4*Zh (t.kids.getD i.toNat Tree.nil)+3 < N;omega
  ·rw [show (i+1).toNat=i.toNat+1 by omega,<-st,show ((i.toNat:Nat):Int)=i by omega]
 ·have e:i=t.kids.length:=by omega
  subst e
  rw [Q4,ZfP h3]
  (repeat' (first | exact trivial | exact rfl | apply And.intro))
theorem b97:Zs2:=by
 intro N l at_ n t _ hp hN
 obtain ⟨⟨⟨h1,h4⟩,h2,h3⟩,⟨hm,hg⟩,hK⟩:=hp
 dsimp only at h1 h2 h3 h4 hm hg hK
 have hN:4*Zh t+2 < N+1:=hN
 obtain ⟨a,rfl⟩:=Qg h1
 obtain ⟨m,rfl⟩:=Qg (show 0<=n by omega)
 rw [Q4,Q4] at h3
 have h4:t.words.length<=m:=by have:(t.words.length:Int)<=(m:Int):=h4;omega
 obtain ⟨X,Y,rfl,ha⟩:=h3
 have hlen:(X++(zs (m+t.kids.length)++Y)).length=a+(m+t.kids.length)+Y.length:=by simp only [Q3,Y6];omega
 have ecp:cpL (X++(zs (m+t.kids.length)++Y)) a t.words=(X++(t.words++zs (m - t.words.length)))++(zs t.kids.length++Y):=by
  rw [Zjd ha (by omega),show m+t.kids.length - t.words.length=(m - t.words.length)+t.kids.length by omega,Z14]
  simp only [Qb]
 have eX:(X++(t.words++zs (m - t.words.length))).length=a+m:=by simp only [Q3,Y6];omega
 have hl2:((X++(t.words++zs (m - t.words.length)))++(zs t.kids.length++Y)).length=(X++(zs (m+t.kids.length)++Y)).length:=by
  rw [hlen,Q3,eX];simp only [Q3,Y6];omega
 have hz:Z6x ((X++(t.words++zs (m - t.words.length)))++(zs t.kids.length++Y)) (a+m) t.kids.length:=by rw [<-eX];exact Z6k _ _ _
 have eres:Z82 ((X++(t.words++zs (m - t.words.length)))++(zs t.kids.length++Y)) ((a:Int)+m) t=Zc6 (X++(zs (m+t.kids.length)++Y)) a m t:=by
  have:=Z9I (X:=X) (Y:=Y) (fw:=m) (t:=t) ha h4 0
  rw [Xe] at this
  rw [this]
  unfold Z82
  rw [hl2,show ((a:Int)+m).toNat=a+m by omega,Z6m _ _ eX,<-Qb _ (zs t.kids.length) Y,Zax (a:=a+m+t.kids.length) _ _ (by rw [Q3,eX,Y6])]
  simp [zs]
 refine Zs9 N (X++(zs (m+t.kids.length)++Y)) a m t _ ?_
 simp only [Tree.eta]
 rw [Q4,ecp]
 refine ⟨⟨by omega,by rw [hlen];omega⟩,XX _,?_,⟨⟨?_,?_,?_⟩,⟨hm,hg⟩,hK⟩,?_,?_⟩
 ·show InR ((a:Int)+m)
  rw [hlen] at h2
  ((unfold InR;omega))
 ·show 0<=(a:Int)+m;omega
 ·show ((X++(t.words++zs (m - t.words.length)))++(zs t.kids.length++Y)).length+_<=_;rw [hl2];exact h2
 ·show Z6x _ ((a:Int)+m).toNat _
  rw [show ((a:Int)+m).toNat=a+m by omega]
  exact hz
 ·show 4*Zh t+1 < N;omega
 ·rw [eres]
  (repeat' (first | exact trivial | exact rfl | apply And.intro))
theorem Zfz{a to:Int}{t:Tree}(k1:t.kind=1):Z42 a to (Ptr.mk 1 0 (t.words.length:Int) (t.kids.length:Int) 0 0 0 false)=ZO a to t:=by
 rw [JY,if_neg (by omega),if_pos k1]
 unfold Z42
 dsimp only
 rw [if_pos rfl]
 congr 1
 split <;> split <;> omega
theorem Z7O{a to:Int}{c n:Int}:Z42 a to (Ptr.mk 2 0 0 0 c n 0 false)=Z0b a to 1 (c+8*n):=by
 unfold Z42
 dsimp only
 rw [if_neg (by decide)]
theorem ZnA{o d p:Int}(hd:0<=d/\d < 65536)(hp:0<=p/\p < 65536):ZdZ (Ptr.mk 1 o d p 0 0 0 false):=⟨.inl ⟨rfl,hd,hp,rfl,rfl⟩,rfl,rfl⟩
theorem Zck{o c n:Int}(hc:0<=c/\c < 8)(hn:0<=n/\n < 536870912):ZdZ (Ptr.mk 2 o 0 0 c n 0 false):=⟨.inr ⟨rfl,rfl,rfl,hc,hn⟩,rfl,rfl⟩
set_option maxHeartbeats 1000000 in
theorem b74:Zs5:=by
 intro N l at_ t _ hp hN
 obtain ⟨⟨h1,h2,h3⟩,⟨hm,hg⟩,h10,d,hr⟩:=hp
 dsimp only at h1 h2 h3 hm hg h10 hr
 have hN:4*Zh t+3 < N+1:=hN
 obtain ⟨a,rfl⟩:=Qg h1
 have h2:a < l.length:=by have:(a:Int) < l.length:=h2;omega
 have rt:=ZgE hr
 have hk:=JJ t
 have hkr:=rt.kind
 have hlen:=rt.len
 have fin:∀ {L:List Int},L=YZ l a t->YP cfg Try.f74.ntmps Try.f74.results.toList (Zb3 ((l,()),(a:Int),t,())) (Z7u ((l,()),(a:Int),t,())) (Z7x ((l,()),(a:Int),t,())) .ret (⟨[(6,.c (.bool true))],[((.x 0),[.mref (.x 0 0)])],[(.x 0 0,LC.mk (U:=U) .u64 L 0)]⟩:LSt U):=by
  rintro L rfl
  (repeat' (first | exact trivial | exact rfl | apply And.intro))
 have lay:∀ {h:Int} {b:List Int},t.kind≠0->ZO a l.length t=h->Z0q t l.length=b->l.set a h++b=YZ l a t:=by
  rintro h b h0 rfl rfl
  unfold YZ
  rw [if_neg h0]
  try rfl
 refine Zsw N l a t _ ?_
 rintro y1 rfl y2 e2 y3 e3 y4 e4
 (simp only [vcT,vcS])
 simp only [vcF,Q4]
 refine ⟨fun k0=> fin (by unfold YZ;rw [if_pos k0]),fun k0=> ⟨fun k1=> ?_,fun k1=> ⟨fun k9=> ?_,fun k9=> ⟨fun k8=> ?_,fun k8=> ?_⟩⟩⟩⟩
 ·have hs:=rt.stru k1
  have sz:=JW y1
  rw [if_pos k1] at sz
  have hb:=Z2y y1 l.length
  rw [if_neg k0,if_pos k1] at hb
  have kOk:=rt.kidsOk (.inl k1)
  have e2:y2=y1.words.length+(y1.kids.length+0):=by omega
  rw [e3,Zfz k1,Z3T h2,e2]
  have hls:(l.set a (ZO a l.length y1)).length=l.length:=by simp
  have hz:l.set a (ZO a l.length y1)++zs (y1.words.length+(y1.kids.length+0))=l.set a (ZO a l.length y1)++(zs (y1.words.length+(y1.kids.length+0))++[]):=by simp
  have hst:=Z9I (X:=l.set a (ZO a l.length y1)) (Y:=[]) (fw:=y1.words.length) (t:=y1) hls (QS _) 0
  rw [<-hz] at hst
  rw [hst]
  refine ⟨by ((unfold InR;omega)),⟨by dsimp only;omega,by dsimp only;omega,by dsimp only;omega⟩,⟨⟨by dsimp only;omega,?_,by dsimp only;omega,by dsimp only;omega⟩,ZnA (by omega) (by omega)⟩,⟨⟨⟨by dsimp only;omega,by dsimp only;omega⟩,?_,?_⟩,⟨hm,hg⟩,kOk⟩,?_,fin ?_⟩
  ·dsimp only;rw [List.length_append,Y6];omega
  ·dsimp only;rw [List.length_append,hls,Y6];omega
  ·dsimp only
   rw [Q4,Q4,hz]
   have:=Z6k (l.set a (ZO a l.length y1)) [] (y1.words.length+(y1.kids.length+0))
   rw [hls] at this
   exact this
  ·show 4*Zh y1+2 < N;omega
  ·rw [<-lay k0 rfl hb,XA,Q3,hls,Y6]
   simp [zs,Int.add_assoc]
 ·refine ⟨⟨⟨h1,by dsimp only;omega,h3⟩,⟨hm,hg⟩,h10,d,hr,k9⟩,?_,fin rfl⟩
  show 4*Zh y1+2 < N
  omega
 ·have sz:=JW y1
  rw [if_neg k1,if_pos k8] at sz
  have hh:=JY a l.length y1
  rw [if_neg k0,if_neg k1,if_pos k8] at hh
  have hb:=Z2y y1 l.length
  rw [if_neg k0,if_neg k1,if_pos k8] at hb
  have kOk:=rt.kidsOk (.inr k8)
  rw [e4,Z7O,<-hh,Z3T h2]
  have hls:(l.set a (ZO a l.length y1)).length=l.length:=by simp
  have hz:l.set a (ZO a l.length y1)++zs y1.kids.length=l.set a (ZO a l.length y1)++(zs y1.kids.length++[]):=by simp
  refine ⟨⟨by dsimp only;omega,by dsimp only;omega,by dsimp only;omega⟩,⟨⟨by dsimp only;omega,?_,by dsimp only;omega,by dsimp only;omega⟩,Zck (by omega) (by omega)⟩,⟨⟨by dsimp only;omega,?_,?_⟩,⟨hm,hg⟩,kOk⟩,?_,fin ?_⟩
  ·dsimp only;rw [List.length_append,Y6];omega
  ·dsimp only;rw [List.length_append,hls,Y6];omega
  ·dsimp only
   rw [Q4,hz]
   have:=Z6k (l.set a (ZO a l.length y1)) [] y1.kids.length
   rw [hls] at this
   exact this
  ·show 4*Zh y1+1 < N;omega
  ·rw [<-lay k0 rfl hb]
   unfold Z82
   rw [Q4,Z6m _ _ hls,XH (by rw [Q3,hls,Y6];omega),Q3,hls,Y6]
   simp
 ·have hk27:2<=y1.kind/\y1.kind<=7:=by omega
  obtain ⟨hfit,hat⟩:=rt.data hk27.1 hk27.2
  have sz:=JW y1
  rw [if_neg k1,if_neg k8,if_neg k9,if_pos hk27] at sz
  have hh:=JY a l.length y1
  rw [if_neg k0,if_neg k1,if_neg k8,if_neg k9] at hh
  have hb:=Z2y y1 l.length
  rw [if_neg k0,if_neg k1,if_neg k8,if_neg k9] at hb
  have hnl:(Yd y1.kids).length=y1.kids.length:=by rw [Yd,QW]
  have hnW:okW (Yd y1.kids):=by
   intro x hx
   obtain ⟨t',ht',rfl⟩:=Xn.1 hx
   have:=Z2H hg ht'
   obtain ⟨k',w',l'⟩:=t'
   rw [rng] at this
   exact Yr this.2.1 0
  have hpl:(Z2T (y1.kind - 2) (Yd y1.kids)).length=Zq y1:=by rw [Z7D,hnl,sz]
  refine ⟨by ((unfold InR;omega)),?_⟩
  refine Za (ι:=Int × List Int) (fun p=> Z4q l a y1 p.1 p.2) (fun p=> 0<=p.1/\p.1<=y1.kids.length/\p.2=Yd (y1.kids.take p.1.toNat)) (fun p=> ((y1.kids.length:Int) - p.1).toNat) (0,[]) rfl ⟨by dsimp only;omega,by dsimp only;omega,rfl⟩ ?_
  rintro ⟨i,m⟩ ⟨g1,g2,g3⟩
  dsimp only at g1 g2 g3
  subst g3
  refine ZkC _ _ _ _ _ _ _ _ ?_
  rintro z1 q1 z2 q2 z3 rfl
  (simp only [vcT,vcS])
  refine ⟨fun hi=> ?_,fun hi=> ?_⟩
  ·have hl:(Yd (y1.kids.take i.toNat)).length<=y1.kids.length:=by rw [Yd,QW,Qa];omega
   refine ⟨⟨g1,hi⟩,trivial,?_,by ((unfold InR;omega)),(i+1,_),rfl,⟨by dsimp only;omega,by dsimp only;omega,?_⟩,by dsimp only;omega⟩
   ·simp only [XN]
    omega
   ·dsimp only
    rw [Z8M g1 hi,Yd,Yd,List.map_append,q1]
    try rfl
  ·have e:i=y1.kids.length:=by omega
   subst e
   simp only [Q4,QM] at q2 ⊢
   have ecp:cpL (l++zs z2) l.length (Z2T (y1.kind - 2) (Yd y1.kids))=l++Z2T (y1.kind - 2) (Yd y1.kids):=by
    have:=Zjd (X:=l) (Y:=[]) (w:=Z2T (y1.kind - 2) (Yd y1.kids)) (n:=z2) rfl (by omega)
    rw [Xa] at this
    rw [this,q2]
    simp [zs]
   rw [ecp,Z7O,Z3T h2,<-hh]
   refine ⟨⟨⟨hnW,by dsimp only;omega⟩,hfit⟩,⟨by dsimp only;omega,by dsimp only;omega,by dsimp only;omega⟩,⟨by omega,by rw [List.length_append];omega⟩,Nat.zero_le _,⟨⟨by dsimp only;omega,by dsimp only;rw [List.length_append];omega,by dsimp only;omega,by dsimp only;omega⟩,Zck (by omega) (by omega)⟩,fin ?_⟩
   have:Z0q y1 l.length=Z2T (y1.kind - 2) (Yd y1.kids):=by
    rw [hb]
    unfold Z3W
    rw [if_pos hfit]
   exact lay k0 rfl this
set_option maxHeartbeats 1000000 in
theorem b98:Zs1:=by
 intro N l at_ t _ hp hN
 obtain ⟨⟨h1,h2,h3⟩,⟨hm,hg⟩,h10,d,hr,k9⟩:=hp
 dsimp only at h1 h2 h3 hm hg h10 hr k9
 have hN:4*Zh t+2 < N+1:=hN
 obtain ⟨a,rfl⟩:=Qg h1
 have h2:a < l.length:=by have:(a:Int) < l.length:=h2;omega
 have rt:=ZgE hr
 have hk:=JJ t
 have hlen:=rt.len
 rw [k9] at rt
 have rows:=rt.rows
 have hfr:=Zne fun t ht=> (rows t ht).2.2
 have hfit:Fit (frW t.kids) (frK t.kids) t.kids:=fun t ht=> Zat ht
 have hfm:=Z1s t.kids
 have sz:=JW t
 rw [if_neg (by omega),if_neg (by omega),if_pos k9] at sz
 have hh:=JY a l.length t
 rw [if_neg (by omega),if_neg (by omega),if_neg (by omega),if_pos k9] at hh
 have hb:=Z2y t l.length
 rw [if_neg (by omega),if_neg (by omega),if_neg (by omega),if_pos k9] at hb
 refine Zs8 N l a t _ ?_
 rintro y1 rfl y2 e2 y3 e3 y4 e4 y5 e5 y6 e6
 have fz:y1.kids.length=0->frW y1.kids=0/\frK y1.kids=0:=fun h=> by
  rw [Qy.1 h];exact ⟨rfl,rfl⟩
 generalize hfw:frW y1.kids=fw at*
 generalize hfk:frK y1.kids=fk at*
 obtain ⟨P,hP⟩:∃ P,P=y1.kids.length*(fw+fk):=⟨_,rfl⟩
 have hPI:(y1.kids.length:Int)*((fw:Int)+fk)=P:=by rw [hP,QX,QD]
 rw [<-hP] at sz hh hb
 rw [hPI] at e3 e4 e5
 have hy4:y4=1+P:=by omega
 have hy3:y3:=by rw [e3];((unfold InR;omega))
 have hok:(eqP (Z4 (YR y2)) y2 && !decide (y2.kind=4))=true/\YR y2=Z1F y1.kids.length fw fk\/(eqP (Z4 (YR y2)) y2 && !decide (y2.kind=4))=false/\0=Z1F y1.kids.length fw fk/\y1.kids.length=0/\fw=0/\fk=0:=by
  have hen:YR y2=Z1F y1.kids.length fw fk:=by
   rw [e2]
   unfold YR
   dsimp only
   rw [if_pos rfl,if_pos ⟨by omega,by omega,by omega⟩]
   unfold Z1F
   omega
  by_cases hz:y1.kids.length=0
  ·right
   obtain ⟨z1,z2⟩:=fz hz
   subst z1 z2
   rw [e2,hz]
   exact ⟨by decide+kernel,rfl,rfl,rfl,rfl⟩
  ·left
   refine ⟨?_,hen⟩
   have hd:Z4 (YR y2)=y2:=by
    rw [hen,e2]
    have:=Z8e (o:=y1.kids.length) (d:=fw) (p:=fk) (by omega) (by omega) (by omega) (by omega)
    rw [<-this]
    congr 1
    unfold Z1F
    omega
   rw [hd,ZbO,e2]
   try rfl
 have hB:(l.set a (ZO a l.length y1)).length=l.length:=by simp
 have hA:(l.set a (ZO a l.length y1)++[Z1F y1.kids.length fw fk]).length=l.length+1:=by simp
 have hset:((l++zs y4).set l.length (Z1F y1.kids.length fw fk)).set a (Z42 a l.length y5)=(l.set a (ZO a l.length y1)++[Z1F y1.kids.length fw fk])++zs P:=by
  rw [e5,Z7O,<-hh,hy4,Z14,XM _ _ (QS _),XA,Z3T h2]
  simp [zs]
 have loop:Zk (A98 N [1,1,1,1,1,1,1,1,0,1,0,0]) (Z0P l a y1 ((l.set a (ZO a l.length y1)++[Z1F y1.kids.length fw fk])++zs P) 0) (AExit.inBlock 0 (S98 N [1,1,1,1,1,1,1,1,1] (YP cfg Try.f98.ntmps Try.f98.results.toList (Zb3 ((l,()),(a:Int),y1,())) (Z7u ((l,()),(a:Int),y1,())) (Z7x ((l,()),(a:Int),y1,()))))):=by
  generalize hAA:l.set a (ZO a l.length y1)++[Z1F y1.kids.length fw fk]=A at*
  refine Za (ι:=Int) (fun p=> Z0P l a y1 (Ju A (zs ((y1.kids.length - p.toNat)*(fw+fk))) fw fk y1.kids p.toNat) p) (fun p=> 0<=p/\p<=y1.kids.length) (fun p=> ((y1.kids.length:Int) - p).toNat) 0 (by simp [Ju,ZS,hP]) ⟨by omega,by omega⟩ ?_
  rintro i ⟨f1,f2⟩
  refine Zkh _ _ _ _ _ _ _ _ ?_
  rintro z1 rfl z2 q2 z3 rfl z4 q4
  rw [hfw,hfk] at q4 ⊢
  rw [<-e2] at q4
  subst q4
  (simp only [vcT,vcS])
  simp only [vcF]
  refine ⟨fun hi=> ?_,fun hi=> ?_⟩
  ·have hmem:=YK (l:=z1.kids) (i:=i.toNat) (by omega) Tree.nil
   obtain ⟨r1,r2,r3,r4⟩:=rows _ hmem
   have hf:=hfit _ hmem
   have m1:=Js (t:=z1) (i:=i.toNat) (by omega)
   have hrg:=Z2H hg hmem
   obtain ⟨s1,s2⟩:=Zl1 (A:=A) hfit (i:=i.toNat) (by omega)
   have hst:=Z1b f1 hi
   have hsl:=JH z1.kids (i+1).toNat
   have hrb:=Z3g fw fk (z1.kids.take i.toNat) A.length (A.length+z1.kids.length*(fw+fk):Nat) (fun t ht=> (rows t (X9 ht)).2.1)
   rw [<-q2] at r2 hf m1 hrg s1 s2 hst
   have hip:i.toNat*(fw+fk)+(fw+fk)<=P:=by
    rw [<-K5,hP]
    exact Q5 _ (by omega)
   have hipI:i*((fw:Int)+fk)=(i.toNat*(fw+fk):Nat):=by rw [QX,QD,Xq f1]
   have hLl:(Ju A (zs ((z1.kids.length - i.toNat)*(fw+fk))) fw fk z1.kids i.toNat).length=A.length+P+Y7 (z1.kids.take i.toNat):=by
    unfold Ju
    rw [Q3,Q3,Q3,Y6,Z0L _ _ _ (hfit.take _),hrb,Qa,QI (by omega),hP]
    have:z1.kids.length*(fw+fk)=i.toNat*(fw+fk)+(z1.kids.length - i.toNat)*(fw+fk):=by rw [<-Qd];congr 1;omega
    omega
   rw [hA] at s1 s2 hLl
   rw [hipI,show (l.length:Int)+1+((i.toNat*(fw+fk):Nat):Int)=((l.length+1+i.toNat*(fw+fk):Nat):Int) by omega,s2]
   refine ⟨⟨f1,hi⟩,by ((unfold InR;omega)),by ((unfold InR;omega)),by ((unfold InR;omega)),⟨⟨⟨by dsimp only;omega,by dsimp only;omega⟩,?_,?_⟩,⟨?_,hrg⟩,r2⟩,?_,by ((unfold InR;omega)),i+1,?_,⟨by omega,by omega⟩,by omega⟩
   ·dsimp only;rw [hLl];omega
   ·dsimp only;rw [Int.toNat_natCast,Int.toNat_natCast];exact s1
   ·show Zh z3<=1000000;omega
   ·show 4*Zh z3+2 < N;omega
   ·rw [show (i+1).toNat=i.toNat+1 by omega]
  ·have e:i=z1.kids.length:=by omega
   subst e
   have eL:Ju A (zs ((z1.kids.length - (z1.kids.length:Int).toNat)*(fw+fk))) fw fk z1.kids (z1.kids.length:Int).toNat=YZ l a z1:=by
    unfold YZ
    rw [if_neg (by omega),Q4,Q4,hb,<-Xv,<-Qb,hAA]
    unfold Ju
    rw [QM,hA,<-hP,XA]
    simp [zs]
   rw [eL]
   refine ⟨fun _=> by ((unfold InR;omega)),?_⟩
   have ebool:(bif (eqP (Z4 (YR z4)) z4 && !decide (z4.kind=4)) then true else (((z1.kids.length:Int)+((fw:Int)+fk))==0))=true:=by
    rcases hok with h | ⟨h,_,q1,q2,q3⟩
    ·rw [h.1];try rfl
    ·rw [h,q1,q2,q3];try rfl
   rw [ebool]
   (repeat' (first | exact trivial | exact rfl | apply And.intro))
 have pre1:Z7I ((l,()),1+(P:Int),()):=⟨by dsimp only;omega,by dsimp only;omega,by dsimp only;omega⟩
 have pre2:∀ {L:List Int},L.length=l.length+y4->Z5E ((L,()),(a:Int),(l.length:Int),y5,()):=by
  intro L hL
  refine ⟨⟨by dsimp only;omega,by dsimp only;omega,by dsimp only;omega,by dsimp only;omega⟩,?_⟩
  rw [e5]
  exact Zck (by omega) (by omega)
 have hl4:(l++zs y4).length=l.length+y4:=by simp
 rw [hPI,Q4,Q4]
 rw [Q4] at e6
 (simp only [vcT,vcS])
 simp only [vcF]
 refine ⟨hm,by ((unfold InR;omega)),by rw [e2];exact .inl rfl,fun h=> ⟨hy3,by ((unfold InR;omega)),pre1,⟨by omega,by rw [hl4];omega⟩,Nat.zero_le _,hy3,pre2 (by rw [List.length_set,hl4]),?_⟩,fun h=> ⟨hy3,by ((unfold InR;omega)),pre1,⟨by omega,by rw [hl4];omega⟩,Nat.zero_le _,hy3,pre2 (by rw [e6,List.length_set,hl4]),?_⟩⟩
 ·rcases hok with q | ⟨_,q,_⟩
  ·rw [Q2,Qz,decide_eq_false_iff_not] at q
   exact absurd (h q.1.1) (by simp [q.1.2])
  ·rw [show (l++zs y4).set l.length (0:Int)=(l++zs y4).set l.length (Z1F y1.kids.length fw fk) by rw [<-q],hset]
   exact loop
 ·rcases hok with ⟨_,q⟩ | ⟨q,_⟩
  ·rw [e6,q,hset]
   exact loop
  ·rw [Bool.and_eq_false_imp] at q
   have:=q h.1
   simp only [XZ,decide_eq_true_eq] at this
   exact absurd this h.2
theorem Ztl:Contract Try.prog cfg 74 Z4S/\Contract Try.prog cfg 99 Zgy/\Contract Try.prog cfg 97 ZgA/\Contract Try.prog cfg 98 Zgz:=Zlb c75 c96 ZpJ Zje Zg2 Zg1 b74 b99 b97 b98
theorem c74:Contract Try.prog cfg 74 Z4S:=Ztl.1
noncomputable section
def ZjV:ArgL Unit:= .nil
def Zbm(a:Unit):Prop:=True
def Zn0(a:Unit):V U:= .c (.bool true)
def Z7e:Fs U:=fs ZjV (fun a=> [Zbm a]) Zn0
def ZiT:List (FuncId × Fs U):=[(71,Z6V),(72,Z1K),(73,Z6U),(74,Z4S),(75,Z1Q)]
def Zpd:Z6 U:=lvl [([1,2],[2]),([1,2,16],[2]),([4,5],[]),([1,2],[2]),([1,2,6],[2]),([2,27],[2]),([4,5],[]),([2,7],[2,29]),([7,8],[29]),([4,5],[])]
abbrev A35(p:List Nat):=AW (Z1 ZiT) Try.f35 Zpd p
theorem Zt2(t:Tree)(most:Int)(Q:QT)(h:∀ y_1,y_1=t->∀ y_2,y_2=(Ze y_1)->let z3:=Q .ret (L2 [(4,.c (.nils)),pB 5 false] []);let z2:= !(Z8 y_1 64);let z4:=bif z2 then true else (t.kind==10);let z0:=decide (most<=(Zq (Ze y_2):Int));let z1:=bif z0 then true else (decide ((131072:Int)<=(Zq (Ze y_2):Int)));((Zhn (y_1,()))/\(Tr ((!z2)=true))/\(Tr ((!z2)=true))/\(z2=false->(!z2)=true)/\((z4=true->z3)/\(z4=false->(Z5I (y_1,()))/\((Zhm (y_2,()))/\((Tr ((!z0)=true))/\(z0=false->(!z0)=true)/\((z1=true->z3)/\(z1=false->((Zaf ((([]:List Int),()),1,()))/\(Z94 (((([]:List Int)++zs (Int.toNat 1)),()),(([]:List Int).length:Int),y_2,()))/\(Q .ret (L2 [(4,.c (sU .u64 (YZ (([]:List Int)++zs (Int.toNat 1)) (([]:List Int).length:Int) y_2) (.own (.e 4 0)))),pB 5 true] []))))))))))):
  A35 [] (L2 [(0,.agg (enc .tree t)),pI 1 most] []) Q:=
 (Eq.mpr (by kernel_rfl) (h _ (Zu _) _ (Zu _)):)
abbrev ZqL(t:Tree)(most:Int):Prop:=AW (Z1 ZiT) Try.f35 Zpd [] (Zb (Zf4.can (t,most,())) []) (EQ Try.f35 (Zb7 (t,most,())) [])
theorem Zos(c71:CT 71 Z6V)(c72:CT 72 Z1K)(c73:CT 73 Z6U)(c74:CT 74 Z4S)(Zjf:CT 75 Z1Q)(hb:∀ (t:Tree) (most:Int) (_:Unit),Zhu (t,most,())->ZqL t most):CT 35 Z7d:=
 Z0 (l:=[(71,Z6V),(72,Z1K),(73,Z6U),(74,Z4S),(75,Z1Q)]) Z9 rfl (⟨c71,c72,c73,c74,Zjf,trivial⟩) Zpd Try.func35 rfl rfl 2 (fun _=> rfl) (by decide) (fun ⟨t,most,_⟩=> hb t most ())
def ZiU:List (FuncId × Fs U):=[(35,Z7d),(37,Z09)]
def Zpe:Z6 U:=lvl [([],[]),([1,2],[]),([0],[])]
abbrev A34(p:List Nat):=AW (Z1 ZiU) Try.f34 Zpe p
theorem Zt3(Q:QT)(h:let z0:=Tree.mk 1 ([5]) ([(Tree.mk 8 [] ([(Tree.mk 0 [] [])]))]);((Zhu (z0,9,()))/\((Tr (((YN z0 9).2)=true))/\(Tr (((YN z0 9).2)=true))/\(((YN z0 9).2)=true->Z5K (((YN z0 9).1),([281479271677952,5,60129542145,0]),()))/\(Tr (((YN z0 9).2)=true))/\(Q .ret (L2 [(0,.c (.bool (bif ((YN z0 9).2) then (decide (((YN z0 9).1)=([281479271677952,5,60129542145,0]))) else false)))] []))))):
  A34 [] (L2 [] []) Q:=
 (Eq.mpr (by kernel_rfl) h:)
abbrev ZqM:Prop:=AW (Z1 ZiU) Try.f34 Zpe [] (Zb (ZjV.can ()) []) (EQ Try.f34 (Zn0 ()) [])
theorem Zot(c35:CT 35 Z7d)(c37:CT 37 Z09)(hb:∀ (_:Unit),Zbm ()->ZqM):CT 34 Z7e:=
 Z0 (l:=[(35,Z7d),(37,Z09)]) Z9 rfl (⟨c35,c37,trivial⟩) Zpe Try.func34 rfl rfl 0 (fun _=> rfl) (by decide) (fun _=> hb ())
end
theorem Z0h(f:Int->Int->Tree × Int × Int){n:Int}{i left:Int}(acc:List Tree)(hi:i < n):Zz f (n - i).toNat i left acc=if (f i left).2.2=0 then Zz f (n - (i+1)).toNat (i+1) (f i left).2.1 (acc++[(f i left).1]) else (acc,(f i left).2):=by
 rw [show (n - i).toNat=(n - (i+1)).toNat+1 by omega]
 try rfl
theorem Ztn:Znm:=by
 intro N l x d left _ hp hN
 obtain ⟨hl,hx,hd,h0,h1,hd0,hk⟩:=hp
 dsimp only at hl hx hd h0 h1 hd0 hk
 have hN':2*d.toNat+2 < N+1:=hN
 have hpt:=hx.ptrs
 have hr:∀ {acc:List Tree} {w e:Int},Zz (fun j left=> if (Zc l x j).2=0 then Zl l d.toNat (Zc l x j).1 left else (Tree.nil,left,(Zc l x j).2)) x.ptrs.toNat 0 left []=(acc,w,e)->∀ {s:LSt U},
   Zx cfg Try.f109.ntmps Try.f109.results.toList (.tup [(true,enc .tree ⟨1,Zg l x,acc⟩),(false,[.int .i64 w]),(false,[.int .i64 e])]) [] .ret s->Zx cfg Try.f109.ntmps Try.f109.results.toList (Z50 (l,x,d,left,())) [] .ret s:=by
  intro acc w e he s hs
  refine ZG ?_ hs
  simp only [Z50,YG]
  rw [he]
  try rfl
 refine Zrl _ _ _ _ _ _ ?_
 refine ⟨⟨hl,hx⟩,?_⟩
 refine Za (ι:=Int × Int × List Tree) (fun p=> Z2J l x d left p.1 p.2.1 p.2.2)
  (fun p=> 0<=p.1/\p.1<=left/\0<=p.2.1/\p.2.1<=x.ptrs/\p.2.2.length=p.2.1/\Zz (fun j left=> if (Zc l x j).2=0 then Zl l d.toNat (Zc l x j).1 left else (Tree.nil,left,(Zc l x j).2)) (x.ptrs - p.2.1).toNat p.2.1 p.1 p.2.2=Zz (fun j left=> if (Zc l x j).2=0 then Zl l d.toNat (Zc l x j).1 left else (Tree.nil,left,(Zc l x j).2)) x.ptrs.toNat 0 left [])
  (fun p=> (x.ptrs - p.2.1).toNat) (left,0,[]) rfl ⟨h0,QQ _,by dsimp only;omega,hpt.1,rfl,by dsimp only;rw [Int.sub_zero]⟩ ?_
 rintro ⟨w,i,acc⟩ ⟨w0,w1,i0,i1,ha,hL⟩
 dsimp only at w0 w1 i0 i1 ha hL
 refine Zgq _ _ _ _ _ _ _ _ _ _ ?_
 rintro y1 hy1 y2 hy2 y3 hy3
 replace hy1:=hy1.symm
 subst hy1
 (simp only [vcT,vcS])
 have hkx:=Yv hl hx i
 refine ⟨fun hi=> ⟨⟨hl,hx⟩,fun he=> ?_,fun he=> ⟨?_,?_,fun hn=> ?_,fun hn=> ⟨by simp;omega,by ((unfold InR;omega)),?_⟩⟩⟩,fun hi=> ?_⟩
 ·rw [Z0h _ _ hi] at hL
  simp only [he,if_false] at hL
  exact hr hL.symm (by (repeat' (first | exact trivial | exact rfl | apply And.intro)))
 ·rw [hy2];exact ⟨hl,hkx,hd,w0,by dsimp only;omega⟩
 ·show 2*d.toNat+1 < N
  omega
 ·rw [Z0h _ _ hi] at hL
  simp only [he,if_true,<-hy2,if_neg hn] at hL
  exact hr (acc:=acc) (w:=(Zl l d.toNat y2 w).2.1) (e:=(Zl l d.toNat y2 w).2.2) hL.symm (by (repeat' (first | exact trivial | exact rfl | apply And.intro)))
 ·rw [Z0h _ _ hi] at hL
  simp only [he,if_true,<-hy2,if_pos hn,<-hy3] at hL
  have hf:=Jc hl d.toNat y2 w (by rw [hy2];exact hkx) w0
  exact ⟨((Zl l d.toNat y2 w).2.1,i+1,acc++[y3]),rfl,⟨hf.1,Int.le_trans hf.2 w1,by dsimp only;omega,by dsimp only;omega,by simp;omega,hL⟩,by dsimp only;omega⟩
 ·rw [show (x.ptrs - i).toNat=0 by omega] at hL
  exact hr hL.symm (by (repeat' (first | exact trivial | exact rfl | apply And.intro)))
theorem b78:Zs3:=by
 intro N l x d left _ hp hN
 obtain ⟨hl,hx,hd,h0,h1⟩:=hp
 dsimp only at hl hx hd h0 h1
 have hN':2*d.toNat+1 < N+1:=hN
 have hkl:=Z4e hx
 have hop:=Z24 hx
 have hdt:=hx.data
 have hpt:=hx.ptrs
 have hct:=hx.count
 have hr:∀ {T:Tree} {w e:Int},Zl l d.toNat x left=(T,w,e)->∀ {s:LSt U},
   Zx cfg Try.f78.ntmps Try.f78.results.toList (.tup [(true,enc .tree T),(false,[.int .i64 w]),(false,[.int .i64 e])]) [] .ret s->Zx cfg Try.f78.ntmps Try.f78.results.toList (Z2Z (l,x,d,left,())) [] .ret s:=by
  intro T w e he s hs
  refine ZG ?_ hs
  simp only [Z2Z]
  rw [he]
  try rfl
 have cut1:¬x.kind=0->(1<=d/\(x.kind=9->0 < x.count->2<=d))->A78 N [1,1,1,1,1,1,1] (Z4j l x d left (ZC x)) (Zx cfg Try.f78.ntmps Try.f78.results.toList (Z2Z (l,x,d,left,())) []):=by
  intro hk0 hdd
  have hD:1<=d.toNat:=by omega
  refine Zku _ _ _ _ _ _ _ ?_
  (simp only [vcT,vcS])
  refine ⟨fun h=> ?_,fun h=> ⟨by ((unfold InR;omega)),?_⟩⟩
  ·refine hr (T:=⟨x.kind,Zg l x,[]⟩) (w:=left) (e:=3) ?_ (by (repeat' (first | exact trivial | exact rfl | apply And.intro)))
   rw [JX hD]
   unfold Yy
   rw [if_neg hk0,if_pos (.inr (.inr h))]
  have hM:Zl l d.toNat x left=(⟨x.kind,Zg l x,(Zz (ZY l (Zl l (d.toNat - 1)) (Zl l (d.toNat - 2)) x) (Zf x).toNat 0 (left - ZC x) []).1⟩,(Zz (ZY l (Zl l (d.toNat - 1)) (Zl l (d.toNat - 2)) x) (Zf x).toNat 0 (left - ZC x) []).2):=by
   rw [JX hD]
   unfold Yy
   rw [if_neg hk0,if_neg]
   rintro (q | q | q)
   ·omega
   ·have:=hdd.2 q.1 q.2.1
    have:=q.2.2
    omega
   ·omega
  have hr2:∀ {acc:List Tree} {w e:Int},Zz (ZY l (Zl l (d.toNat - 1)) (Zl l (d.toNat - 2)) x) (Zf x).toNat 0 (left - ZC x) []=(acc,w,e)->∀ {s:LSt U},
    Zx cfg Try.f78.ntmps Try.f78.results.toList (.tup [(true,enc .tree ⟨x.kind,Zg l x,acc⟩),(false,[.int .i64 w]),(false,[.int .i64 e])]) [] .ret s->Zx cfg Try.f78.ntmps Try.f78.results.toList (Z2Z (l,x,d,left,())) [] .ret s:=by
   intro acc w e he s hs
   refine hr (T:=⟨x.kind,Zg l x,acc⟩) (w:=w) (e:=e) ?_ hs
   rw [hM,he]
  refine Za (ι:=Int × Int × List Tree) (fun p=> Z2k l x d left p.1 p.2.1 p.2.2)
   (fun p=> 0<=p.1/\p.1<=left/\0<=p.2.1/\p.2.1<=Zf x/\p.2.2.length=p.2.1/\Zz (ZY l (Zl l (d.toNat - 1)) (Zl l (d.toNat - 2)) x) (Zf x - p.2.1).toNat p.2.1 p.1 p.2.2=Zz (ZY l (Zl l (d.toNat - 1)) (Zl l (d.toNat - 2)) x) (Zf x).toNat 0 (left - ZC x) [])
   (fun p=> (Zf x - p.2.1).toNat) (left - ZC x,0,[]) rfl ⟨by dsimp only;omega,by dsimp only;omega,by dsimp only;omega,hkl.1,rfl,by dsimp only;rw [Int.sub_zero]⟩ ?_
  rintro ⟨w,i,acc⟩ ⟨w0,w1,i0,i1,ha,hL⟩
  dsimp only at w0 w1 i0 i1 ha hL
  have hkx:=Yv hl hx i
  refine Zkr _ _ _ _ _ _ _ _ _ _ ?_
  rintro y1 hy1 y2 hy2
  replace hy1:=hy1.symm
  subst hy1
  (simp only [vcT,vcS])
  have hk29:Zf x < 536870912:=by unfold Zf;split <;> omega
  have key:∀ (r:Tree × Int × Int) (v:V U),i < Zf x->ZY l (Zl l (d.toNat - 1)) (Zl l (d.toNat - 2)) x i w=r->∀ N2:LSt U->Prop,(∀ p:Int × Int × List Tree,(0<=p.1/\p.1<=left/\0<=p.2.1/\p.2.1<=Zf x/\p.2.2.length=p.2.1/\Zz (ZY l (Zl l (d.toNat - 1)) (Zl l (d.toNat - 2)) x) (Zf x - p.2.1).toNat p.2.1 p.1 p.2.2=Zz (ZY l (Zl l (d.toNat - 1)) (Zl l (d.toNat - 2)) x) (Zf x).toNat 0 (left - ZC x) [])->(Zf x - p.2.1).toNat < (Zf x - i).toNat->N2 (Z2k l x d left p.1 p.2.1 p.2.2))->
    A78 N [1,1,1,1,1,1,1,1,1,0,1,0,0,1,0,0,1,1,1,1] (Z2j l x d left i acc r.2.1 r.2.2 r.1.kind r.1.words r.1.kids v)
     (AExit.inBlock 1 (S78 N [1,1,1,1,1,1,1,1,1,0,1,0,0,1,1] (AExit.then N2 (AExit.inBlock 0 (S78 N [1,1,1,1,1,1,1,1,1,1] (Zx cfg Try.f78.ntmps Try.f78.results.toList (Z2Z (l,x,d,left,())) [])))))):=by
   intro r v hi hf N2 hN2
   refine Zkt _ _ _ _ _ _ _ _ _ _ _ _ _ _ _ ?_
   (simp only [vcT,vcS])
   rw [Z0h _ _ hi,hf] at hL
   refine ⟨fun he=> ?_,fun he=> ⟨by simp;omega,?_⟩⟩
   ·rw [if_neg he] at hL
    exact hr2 (acc:=acc) (w:=r.2.1) (e:=r.2.2) hL.symm (by (repeat' (first | exact trivial | exact rfl | apply And.intro)))
   ·rw [if_pos he] at hL
    have hfi:=Z5j hl (Jc hl (d.toNat - 1)) (Jc hl (d.toNat - 2)) hx i w w0
    rw [hf] at hfi
    refine Zks _ _ _ _ _ _ _ _ _ _ _ _ _ ?_
    refine ⟨by ((unfold InR;omega)),hN2 (r.2.1,i+1,acc++[Tree.mk r.1.kind r.1.words r.1.kids]) ⟨hfi.1,Int.le_trans hfi.2 w1,by dsimp only;omega,by dsimp only;omega,by simp;omega,?_⟩ (by dsimp only;omega)⟩
    dsimp only
    rw [Tree.eta]
    exact hL
  have hN2:∀ p:Int × Int × List Tree,(0<=p.1/\p.1<=left/\0<=p.2.1/\p.2.1<=Zf x/\p.2.2.length=p.2.1/\Zz (ZY l (Zl l (d.toNat - 1)) (Zl l (d.toNat - 2)) x) (Zf x - p.2.1).toNat p.2.1 p.1 p.2.2=Zz (ZY l (Zl l (d.toNat - 1)) (Zl l (d.toNat - 2)) x) (Zf x).toNat 0 (left - ZC x) [])->True:=fun _ _=> trivial
  refine ⟨trivial,fun hi=> ⟨⟨hl,hx⟩,fun he=> ?_,fun he=> ⟨?_,fun k9=> ⟨by ((unfold InR;omega)),?_,?_,?_⟩,fun k9=> ⟨fun k18=> ⟨by ((unfold InR;omega)),?_,?_,?_⟩,fun k18=> ?_⟩⟩⟩,fun hi=> ?_⟩
  ·rw [Z0h _ _ hi] at hL
   rw [show ZY l (Zl l (d.toNat - 1)) (Zl l (d.toNat - 2)) x i w=(Tree.nil,w,(Zc l x i).2) by unfold ZY;rw [if_neg he]] at hL
   rw [if_neg he] at hL
   exact hr2 hL.symm (by (repeat' (first | exact trivial | exact rfl | apply And.intro)))
  ·rw [hy2];exact ⟨hl,hkx⟩
  ·rw [hy2]
   refine ⟨hl,hkx,by dsimp only;omega,w0,by dsimp only;omega,?_,?_⟩
   ·have:Zf x=x.count:=by unfold Zf;rw [if_neg (by omega)]
    have:=hdd.2 k9 (by omega)
    show 0<=d - 2
    omega
   ·show (Zc l x i).1.kind=1
    unfold Zc
    rw [if_neg (by omega),if_neg (by omega),if_neg (by omega),if_pos k9]
  ·show 2*(d - 2).toNat+2 < N
   have:Zf x=x.count:=by unfold Zf;rw [if_neg (by omega)]
   have:=hdd.2 k9 (by omega)
   omega
  ·rw [show (d - 2).toNat=d.toNat - 2 by omega,hy2]
   exact key _ _ hi (by unfold ZY;rw [if_pos he,if_pos k9]) _ (fun p h h'=> ⟨p,rfl,h,h'⟩)
  ·rw [hy2];exact ⟨hl,hkx,by dsimp only;omega,w0,by dsimp only;omega⟩
  ·show 2*(d - 1).toNat+1 < N
   omega
  ·rw [show (d - 1).toNat=d.toNat - 1 by omega,hy2]
   exact key _ _ hi (by unfold ZY;rw [if_pos he,if_neg k9,if_pos k18]) _ (fun p h h'=> ⟨p,rfl,h,h'⟩)
  ·rw [hy2,he]
   exact key (⟨(Zc l x i).1.kind,Zg l (Zc l x i).1,[]⟩,w,0) _ hi (by unfold ZY;rw [if_pos he,if_neg k9,if_neg (by omega)]) _ (fun p h h'=> ⟨p,rfl,h,h'⟩)
  ·rw [show (Zf x - i).toNat=0 by omega] at hL
   exact hr2 (acc:=acc) (w:=w) (e:=0) hL.symm (by (repeat' (first | exact trivial | exact rfl | apply And.intro)))
 have cut0:∀ n:Int,(x.kind≠9->n=ZC x)->¬x.kind=0->(1<=d/\(x.kind=9->0 < x.count->2<=d))->A78 N [1,1,1,1,1,1] (Z4k l x d left n) (Zx cfg Try.f78.ntmps Try.f78.results.toList (Z2Z (l,x,d,left,())) []):=by
  intro n hn hk0 hdd
  refine Zkv _ _ _ _ _ _ _ ?_
  (simp only [vcT,vcS])
  have e3:=QE hct.1 (show 0<=1+x.data+x.ptrs by omega)
  have e4:=XW (QP hct.2) (show 1+x.data+x.ptrs<=131072 by omega) (by omega) (by decide:(0:Int)<=536870912)
  refine ⟨fun k9=> ⟨by ((unfold InR;omega)),by ((unfold InR;omega)),by ((unfold InR;omega)),by ((unfold InR;omega)),?_⟩,fun k9=> ?_⟩
  ·rw [show 1+x.count*(1+x.data+x.ptrs)=ZC x by unfold ZC;rw [if_neg (by omega),if_pos k9]]
   exact cut1 hk0 hdd
  ·rw [hn k9]
   exact cut1 hk0 hdd
 refine Zss _ _ _ _ _ _ ?_
 rintro y1 hy1
 replace hy1:=hy1.symm
 dsimp only at hy1
 subst hy1
 (simp only [vcT,vcS])
 refine ⟨⟨hl,hx⟩,fun h=> ?_,fun hk0=> ⟨fun a b=> ⟨a,b⟩,fun a b=> ⟨a,b⟩,fun h=> ?_,fun h=> ⟨trivial,?_,fun k1=> ⟨by ((unfold InR;omega)),by ((unfold InR;omega)),?_⟩,fun k1=> ?_⟩⟩⟩
 ·refine hr (T:=⟨0,Zg l x,[]⟩) (w:=left) (e:=0) ?_ ?_
  ·rw [show x=xz from hx.null h,Z2E];try rfl
  ·rw [h];(repeat' (first | exact trivial | exact rfl | apply And.intro))
 ·refine hr (T:=⟨x.kind,Zg l x,[]⟩) (w:=left) (e:=3) ?_ (by (repeat' (first | exact trivial | exact rfl | apply And.intro)))
  by_cases hD:1<=d.toNat
  ·rw [JX hD]
   unfold Yy
   rw [if_neg hk0,if_pos]
   rcases h with h | h
   ·omega
   ·exact .inr (.inl ⟨h.1.1,h.1.2,by omega⟩)
  ·rw [show d.toNat=0 by omega,Z9c,if_neg hk0]
 ·have hk29:Zf x < 536870912:=by unfold Zf;split <;> omega
  ((unfold InR;omega))
 ·exact cut0 _ (fun _=> by unfold ZC;rw [if_pos k1]) hk0 ⟨by omega,fun a b=> by omega⟩
 ·exact cut0 _ (fun k9=> by unfold ZC Zf;rw [if_neg k1,if_neg k9,if_neg k1]) hk0 ⟨by omega,fun a b=> by omega⟩
theorem Ztj:Contract Try.prog cfg 78 Z4Q/\Contract Try.prog cfg 109 Zdd:=Zcq c67 c29 c30 b78 Ztn
theorem c78:Contract Try.prog cfg 78 Z4Q:=Ztj.1
theorem c41:Contract Try.prog cfg 41 Z7a:=by
 refine Zon c47 c27 c78 ?_
 intro l x _ hl
 simp only [ZdQ] at hl
 refine ZsX _ _ _ ?_
 rintro y hy z hz m hm
 dsimp only at hy hz hm
 replace hy:=hy.symm
 subst hy
 have hx:=Z59 hl 0 0
 have hlv:=Zeg x
 (simp only [vcT,vcS])
 have hr:∀ {T:Tree} {w e:Int},ZV l x=(T,w,e)->∀ {s:LSt U},
   Zx cfg Try.f41.ntmps Try.f41.results.toList (.tup [(true,enc .tree T),(false,[.int .i64 w]),(false,[.int .i64 e])]) [] .ret s->Zx cfg Try.f41.ntmps Try.f41.results.toList (Zdx (l,x,())) [] .ret s:=by
  intro T w e he s hs
  refine ZG ?_ hs
  simp only [Zdx]
  rw [he]
  try rfl
 have hwf:=Jc hl (Yf x).depth.toNat _ (Yf x).weight hx hlv.2.2.1
 rw [<-hz,<-hm] at hwf
 refine ⟨trivial,hl,fun h=> ?_,fun h=> ?_⟩
 ·exact hr (T:=Tree.nil) (w:=0) (e:=(Zp l 0 0).2) (by unfold ZV;rw [if_neg h]) (by (repeat' (first | exact trivial | exact rfl | apply And.intro)))
 ·refine ⟨⟨hl,by rw [hz];exact hx,hlv.2.1,hlv.2.2⟩,fun h2=> ?_,fun h2=> ⟨by have:=hwf.1;have:=hwf.2;((unfold InR;omega)),?_⟩⟩
  ·exact hr (T:=Tree.nil) (w:=0) (e:=m.2.2) (by unfold ZV;rw [if_pos h,<-hz,<-hm,if_neg h2]) (by (repeat' (first | exact trivial | exact rfl | apply And.intro)))
  ·exact hr (T:=m.1) (w:=(Yf x).weight - m.2.1) (e:=0) (by unfold ZV;rw [if_pos h,<-hz,<-hm,if_pos h2]) (by (repeat' (first | exact trivial | exact rfl | apply And.intro)))
theorem Z4I(n t:Int)(h:0<=t):0<=Y2 n t/\Y2 n t<=t:=by unfold Y2;split <;> (try split) <;> omega
theorem Zfb{l:List (List Int)}(hl:ZX l)(x:Limits)(h:(ZV l x).2.2=0):
  Z8 (ZV l x).1 64=true/\rng (ZV l x).1/\Z2x (ZV l x).1<=(Yf x).depth/\weight (ZV l x).1=(ZV l x).2.1/\(ZV l x).2.1<=(Yf x).weight/\Zh (ZV l x).1<=140000:=by
 have hd:=Z4I x.depth 64 (by omega)
 have hw:=Z4I x.weight 65536 (by omega)
 rw [show Y2 x.depth 64=(Yf x).depth from rfl] at hd
 rw [show Y2 x.weight 65536=(Yf x).weight from rfl] at hw
 unfold ZV at h ⊢
 by_cases h1:(Zp l 0 0).2=0
 ·rw [if_pos h1] at h ⊢
  by_cases h2:(Zl l (Yf x).depth.toNat (Zp l 0 0).1 (Yf x).weight).2.2=0
  ·rw [if_pos h2] at h ⊢
   obtain ⟨g1,g2,g3,g4,g5⟩:=Z9e hl (Yf x).depth.toNat _ _ (Z59 hl 0 0) hw.1 hw.2 h2
   rw [Xq hd.1] at g2
   have hm:=Z2b _ _ g2
   refine ⟨Z5A _ _ _ hd.1 hd.2 g2,g3,(Z9s _ _ hd.1 g2).2,g5,by dsimp only;omega,?_⟩
   dsimp only
   split at hm <;> omega
  ·rw [if_neg h2] at h;exact absurd h h2
 ·rw [if_neg h1] at h;exact absurd h h1
end Go.AM.Ythokdjgpdonhgaa
namespace Go.AM
def Zm9(r r':Tree × Int × Int)(k:Int):Prop:=r.2.2=0->r'=(r.1,r.2.1+k,0)
def Z68(m m':XRef->Int->Tree × Int × Int)(k:Int):Prop:=∀ x left,Zm9 (m x left) (m' x (left+k)) k
theorem Z3u{f g:Int->Int->Tree × Int × Int}{k:Int}(h:∀ i left,Zm9 (f i left) (g i (left+k)) k):∀ (n:Nat) (i left:Int) (acc:List Tree),(Zz f n i left acc).2.2=0->
  Zz g n i (left+k) acc=((Zz f n i left acc).1,(Zz f n i left acc).2.1+k,0)
 | 0,_,_,_,_=> rfl
 | n+1,i,left,acc,h0=> by
  simp only [Zz] at h0 ⊢
  by_cases he:(f i left).2.2=0
  ·rw [if_pos he] at h0 ⊢
   have hg:=h i left he
   rw [hg]
   simp only
   rw [if_pos trivial]
   exact Z3u h n (i+1) (f i left).2.1 (acc++[(f i left).1]) h0
  ·rw [if_neg he] at h0
   exact absurd h0 he
theorem ZcN{l:List (List Int)}{m m':XRef->Int->Tree × Int × Int}{k:Int}(h:Z68 m m' k)(x:XRef)(left:Int):Zm9 (YG l m x left) (YG l m' x (left+k)) k:=by
 intro h0
 unfold YG at h0 ⊢
 have:=Z3u (f:=fun j left=> if (Zc l x j).2=0 then m (Zc l x j).1 left else (Tree.nil,left,(Zc l x j).2)) (g:=fun j left=> if (Zc l x j).2=0 then m' (Zc l x j).1 left else (Tree.nil,left,(Zc l x j).2)) (k:=k) (by
  intro i left hi
  by_cases he:(Zc l x i).2=0
  ·simp only [he,if_true] at hi ⊢
   exact h _ _ hi
  ·simp only [he,if_false] at hi) x.ptrs.toNat 0 left [] h0
 rw [this]
theorem ZfQ{l:List (List Int)}{m m' n n':XRef->Int->Tree × Int × Int}{k:Int}(h:Z68 m m' k)(h':Z68 n n' k)(x:XRef)(i left:Int):Zm9 (ZY l m n x i left) (ZY l m' n' x i (left+k)) k:=by
 intro h0
 unfold ZY at h0 ⊢
 by_cases he:(Zc l x i).2=0
 ·rw [if_pos he] at h0 ⊢
  rw [if_pos he]
  by_cases h9:x.kind=9
  ·rw [if_pos h9] at h0 ⊢
   rw [if_pos h9]
   exact ZcN h' _ _ h0
  ·rw [if_neg h9] at h0 ⊢
   rw [if_neg h9]
   by_cases h1:x.kind=1\/x.kind=8
   ·rw [if_pos h1] at h0 ⊢
    rw [if_pos h1]
    exact h _ _ h0
   ·rw [if_neg h1,if_neg h1]
 ·rw [if_neg he] at h0
  exact absurd h0 he
theorem Jy{l:List (List Int)}{d d':Nat}(hd:d<=d'){m m' n n':XRef->Int->Tree × Int × Int}{k:Int}(hk:0<=k)(h:Z68 m m' k)(h':Z68 n n' k):Z68 (Yy l d m n) (Yy l d' m' n') k:=by
 intro x left h0
 unfold Yy at h0 ⊢
 by_cases h1:x.kind=0
 ·rw [if_pos h1,if_pos h1]
 ·rw [if_neg h1] at h0 ⊢
  rw [if_neg h1]
  by_cases h2:d=0\/(x.kind=9/\0 < x.count/\d < 2)\/left < ZC x
  ·rw [if_pos h2] at h0;cases h0
  ·rw [if_neg h2] at h0 ⊢
   rw [if_neg (show ¬(d'=0\/(x.kind=9/\0 < x.count/\d' < 2)\/left+k < ZC x) by
    rintro (q | q | q)
    ·exact h2 (.inl (by omega))
    ·exact h2 (.inr (.inl ⟨q.1,q.2.1,by omega⟩))
    ·exact h2 (.inr (.inr (by omega))))]
   have:=Z3u (k:=k) (fun i left=> ZfQ (l:=l) h h' x i left) (Zf x).toNat 0 (left - ZC x) [] h0
   rw [show left+k - ZC x=left - ZC x+k by omega,this]
theorem Jb{m':XRef->Int->Tree × Int × Int}{k:Int}:Z68 (fun _ left=> (Tree.nil,left,3)) m' k:=fun _ _ h=> by cases h
theorem ZfL{l:List (List Int)}{k:Int}(hk:0<=k):∀ (d d':Nat),d<=d'->Z68 (Zl l d) (Zl l d') k:=by
 intro d
 induction d using Nat.strongRecOn with
 | ind d ih=>
  intro d' hd
  match d,d',hd with
  | 0,0,hd=> exact Jy hd hk Jb Jb
  | 0,1,hd=> exact Jy hd hk Jb Jb
  | 0,d'+2,hd=> exact Jy hd hk Jb Jb
  | 1,1,hd=> exact Jy hd hk (ih 0 (by omega) 0 (by omega)) Jb
  | 1,d'+2,hd=> exact Jy hd hk (ih 0 (by omega) (d'+1) (by omega)) Jb
  | d+2,d'+2,hd=> exact Jy hd hk (ih (d+1) (by omega) (d'+1) (by omega)) (ih d (by omega) d' (by omega))
end Go.AM
namespace Go.AM.Ythokdjgpdonhgaa
open Go.AM
def Z8s(l:List (List Int))(x:XRef):Tree:=(Zl l 64 x 65536).1
def Z6a(r:Ref):Tree:=Z8s (Z2 r.a) (unX r)
def ZkZ(r:Ref):Prop:=(Zl (Z2 r.a) 64 (unX r) 65536).2.2=0
theorem Zc2{l:List (List Int)}{d:Nat}{x:XRef}{left:Int}(hd:d<=64)(hl:left<=65536)(h:(Zl l d x left).2.2=0):(Zl l 64 x 65536).2.2=0/\(Zl l d x left).1=Z8s l x:=by
 have:=ZfL (l:=l) (k:=65536 - left) (by omega) d 64 hd x left h
 rw [show left+(65536 - left)=65536 by omega] at this
 unfold Z8s
 rw [this]
 exact ⟨rfl,rfl⟩
theorem Z9g{f:Int->Int->Tree × Int × Int}{Q:Int->Int->Prop}(hf:∀ i left,Q i left->(f i left).2.2=0->Q (i+1) (f i left).2.1):
  ∀ (n:Nat) (i left:Int) (acc:List Tree),Q i left->(Zz f n i left acc).2.2=0->
   ∃ ks,(Zz f n i left acc).1=acc++ks/\ks.length=n/\∀ j:Nat,j < n->∃ le,Q (i+j) le/\(f (i+j) le).2.2=0/\ks.getD j Tree.nil=(f (i+j) le).1
 | 0,i,left,acc,_,_=> ⟨[],by simp [Zz]⟩
 | n+1,i,left,acc,h0,he=> by
  simp only [Zz] at he ⊢
  by_cases h1:(f i left).2.2=0
  ·rw [if_pos h1] at he ⊢
   obtain ⟨ks,q1,q2,q3⟩:=Z9g hf n (i+1) (f i left).2.1 (acc++[(f i left).1]) (hf i left h0 h1) he
   refine ⟨(f i left).1 ::ks,by rw [q1];simp,by simp [q2],?_⟩
   rintro (_ | j) hj
   ·exact ⟨left,by simpa using h0,by simpa using h1,by simp⟩
   ·obtain ⟨le,a1,a2,a3⟩:=q3 j (by omega)
    rw [show i+1+(j:Int)=i+((j+1:Nat):Int) by omega] at a1 a2 a3
    exact ⟨le,a1,a2,by rw [List.getD_cons_succ];exact a3⟩
  ·rw [if_neg h1] at he
   exact absurd he h1
theorem Z8I{l:List (List Int)}{x:XRef}(h:x.kind=0):Z8s l x=⟨0,Zg l x,[]⟩/\(Zl l 64 x 65536).2.2=0:=by
 unfold Z8s
 rw [JX (by omega)]
 unfold Yy
 rw [if_pos h]
 exact ⟨rfl,rfl⟩
theorem Zgu{l:List (List Int)}(hl:ZX l){x:XRef}(hx:OkX l x)(h:(Zl l 64 x 65536).2.2=0):
  ∃ ks,Z8s l x=⟨x.kind,Zg l x,ks⟩/\(ks.length:Int)=Zf x/\∀ i:Int,0<=i->i < Zf x->(Zc l x i).2=0/\(Zl l 64 (Zc l x i).1 65536).2.2=0/\ks.getD i.toNat Tree.nil=Z8s l (Zc l x i).1:=by
 have hkx:=Z4e hx
 by_cases h0:x.kind=0
 ·refine ⟨[],by rw [(Z8I h0).1,h0],?_,?_⟩
  ·have:=hx.null h0
   rw [this];try rfl
  ·intro i h1 h2
   rw [hx.null h0] at h2
   exact absurd h2 (by show ¬i < 0;omega)
 have hdt:=hx.data
 have hpt:=hx.ptrs
 have hcc:=hx.count
 have hown:=Z24 hx
 unfold Z8s
 rw [JX (by omega)] at h ⊢
 unfold Yy at h ⊢
 rw [if_neg h0] at h ⊢
 by_cases hq:(64:Nat)=0\/(x.kind=9/\0 < x.count/\64 < 2)\/(65536:Int) < ZC x
 ·rw [if_pos hq] at h;cases h
 ·rw [if_neg hq] at h ⊢
  obtain ⟨ks,q1,q2,q3⟩:=Z9g (Q:=fun _ left=> 0<=left/\left<=65536 - ZC x) (f:=ZY l (Zl l 63) (Zl l 62) x) (fun i left hQ he=> by
   have hf:=Z5j hl (Jc hl 63) (Jc hl 62) hx i left hQ.1
   exact ⟨hf.1,Int.le_trans hf.2 hQ.2⟩) (Zf x).toNat 0 (65536 - ZC x) [] ⟨by omega,QQ _⟩ h
  refine ⟨ks,by dsimp only;rw [q1,List.nil_append],by rw [q2,Int.toNat_of_nonneg hkx.1],?_⟩
  intro i hi hn
  obtain ⟨le,a1,a2,a3⟩:=q3 i.toNat (by omega)
  rw [show (0:Int)+(i.toNat:Int)=i by omega] at a2 a3
  rw [a3]
  unfold ZY at a2 ⊢
  by_cases hk2:(Zc l x i).2=0
  ·rw [if_pos hk2] at a2 ⊢
   refine ⟨hk2,?_⟩
   by_cases h9:x.kind=9
   ·rw [if_pos h9] at a2 ⊢
    have hkx':=Yv hl hx i
    have e1:(Zc l x i).1.kind=1/\(Zc l x i).1.data=x.data/\(Zc l x i).1.ptrs=x.ptrs:=by
     have e:Zf x=x.count:=by unfold Zf;rw [if_neg (by omega)]
     unfold Zc
     rw [if_neg (by omega),if_neg (by omega),if_neg (by omega),if_pos h9]
     exact ⟨rfl,rfl,rfl⟩
    generalize (Zc l x i).1=z at a2 e1 hkx' ⊢
    have hoz:ZC z=1+x.data+x.ptrs:=by unfold ZC;rw [if_pos e1.1,e1.2.1,e1.2.2]
    have hox:1+x.data+x.ptrs < ZC x:=by
     have e:Zf x=x.count:=by unfold Zf;rw [if_neg (by omega)]
     unfold ZC
     rw [if_neg (by omega),if_pos h9]
     have:1*(1+x.data+x.ptrs)<=x.count*(1+x.data+x.ptrs):=QY (by omega) (by omega)
     omega
    have key:Zl l 63 z (le+ZC z)=YG l (Zl l 62) z le:=by
     rw [JX (by omega)]
     unfold Yy YG
     rw [if_neg (show ¬z.kind=0 by omega),if_neg (show ¬((63:Nat)=0\/(z.kind=9/\0 < z.count/\(63:Nat) < 2)\/le+ZC z < ZC z) by omega),show le+ZC z - ZC z=le by omega,show Zf z=z.ptrs by unfold Zf;rw [if_pos e1.1]]
     have ef:ZY l (Zl l 62) (Zl l 61) z=fun j left=> if (Zc l z j).2=0 then Zl l 62 (Zc l z j).1 left else (Tree.nil,left,(Zc l z j).2):=by
      funext j left
      unfold ZY
      rw [if_neg (show ¬z.kind=9 by omega),if_pos (show z.kind=1\/z.kind=8 from .inl e1.1)]
     rw [e1.1,show (63:Nat) - 1=62 from rfl,show (63:Nat) - 2=61 from rfl,ef]
    rw [<-key] at a2 ⊢
    exact Zc2 (by omega) (by omega) a2
   ·rw [if_neg h9] at a2 ⊢
    by_cases h18:x.kind=1\/x.kind=8
    ·rw [if_pos h18] at a2 ⊢
     exact Zc2 (by omega) (by omega) a2
    ·rw [if_neg h18]
     have e:Zf x=x.count:=by unfold Zf;rw [if_neg (by omega)]
     have ek:(Zc l x i).1.kind=10:=by
      unfold Zc
      rw [if_neg (by omega),if_neg (by omega),if_neg (by omega),if_neg (by omega)]
     have hz:=Yv hl hx i
     generalize (Zc l x i).1=z at ek hz ⊢
     have h10:=hz.zero (.inr ek)
     have hkz:Zf z=0:=by unfold Zf;rw [if_neg (by omega)];exact h10
     have ho:ZC z=1:=by unfold ZC;rw [if_neg (by omega),if_neg (by omega),h10];try rfl
     rw [JX (by omega)]
     unfold Yy
     rw [if_neg (show ¬z.kind=0 by omega),if_neg (show ¬((64:Nat)=0\/(z.kind=9/\0 < z.count/\(64:Nat) < 2)\/(65536:Int) < ZC z) by omega),hkz]
     exact ⟨rfl,rfl⟩
  ·rw [if_neg hk2] at a2
   exact absurd a2 hk2
theorem ZaN{a:Option Arena}{x:XRef}(hx:OkX (Z2 a) x):Z6a (Y0 a x)=Z8s (Z2 a) x/\((Zl (Z2 a) 64 x 65536).2.2=0->ZkZ (Y0 a x)):=by
 unfold Z6a ZkZ
 rw [Z3C hx]
 by_cases h0:x.kind=0
 ·have e:=hx.null h0
  subst e
  exact ⟨rfl,fun _=> (Z8I rfl).2⟩
 ·rw [Z8o h0]
  exact ⟨rfl,id⟩
theorem ZaO{r:Ref}(h:okR r)(he:ZkZ r):Z8 (Z6a r) 64=true/\rng (Z6a r)/\Zh (Z6a r)<=140000:=by
 obtain ⟨g1,g2,g3,g4,g5⟩:=Z9e h.1 64 (unX r) 65536 h.2 (by omega) (by omega) he
 have hm:=Z2b _ _ g2
 refine ⟨g2,g3,?_⟩
 show Zh (Zl (Z2 r.a) 64 (unX r) 65536).1<=140000
 split at hm <;> omega
theorem Zgv{l:List (List Int)}{x:Limits}(h:(ZV l x).2.2=0):(Zp l 0 0).2=0/\(Zl l 64 (Zp l 0 0).1 65536).2.2=0/\(ZV l x).1=Z8s l (Zp l 0 0).1:=by
 have hd:=Z4I x.depth 64 (by omega)
 have hw:=Z4I x.weight 65536 (by omega)
 rw [show Y2 x.depth 64=(Yf x).depth from rfl] at hd
 rw [show Y2 x.weight 65536=(Yf x).weight from rfl] at hw
 unfold ZV at h ⊢
 by_cases h1:(Zp l 0 0).2=0
 ·rw [if_pos h1] at h ⊢
  by_cases h2:(Zl l (Yf x).depth.toNat (Zp l 0 0).1 (Yf x).weight).2.2=0
  ·rw [if_pos h2] at h ⊢
   have:=Zc2 (by omega) hw.2 h2
   exact ⟨h1,this⟩
  ·rw [if_neg h2] at h;exact absurd h h2
 ·rw [if_neg h1] at h;exact absurd h h1
theorem Zd9{l:List (List Int)}{x:Limits}(h:(ZV l x).2.2≠0):(ZV l x).1=Tree.nil:=by
 unfold ZV at h ⊢
 by_cases h1:(Zp l 0 0).2=0
 ·rw [if_pos h1] at h ⊢
  by_cases h2:(Zl l (Yf x).depth.toNat (Zp l 0 0).1 (Yf x).weight).2.2=0
  ·rw [if_pos h2] at h;exact absurd rfl h
  ·rw [if_neg h2]
 ·rw [if_neg h1]
end Go.AM.Ythokdjgpdonhgaa
namespace Go.AM.Ythokdjgpdonhgaa
open Go.AM Go.Proofs
def Has(A:List Int)(to:Int)(b:List Int):Prop:=∃ p s,A=p++(b++s)/\(p.length:Int)=to
theorem Zik{n:Tree}{d:Int}(hr:Z8 n d=true)(h10:n.kind≠10):
  (YZ [0] 0 n).length=Zq n+1/\(YZ [0] 0 n).getD 0 0=ZO 0 1 n/\Has (YZ [0] 0 n) 1 (Z0q n 1):=by
 have hb:=Z8i n d 1 hr h10
 unfold YZ
 by_cases h0:n.kind=0
 ·have rt:=ZgE hr
  have e:=rt.nil h0
  have hs:Zq n=0:=by rw [JW,if_neg (by omega),if_neg (by omega),if_neg (by omega),if_neg (by omega),e.2];try rfl
  have hbl:Z0q n 1=[]:=Qy.1 (by omega)
  rw [if_pos h0,hs,hbl]
  refine ⟨rfl,?_,⟨[0],[],rfl,rfl⟩⟩
  rw [JY,if_pos h0]
  try rfl
 ·rw [if_neg h0]
  refine ⟨?_,rfl,⟨[ZO 0 1 n],[],by simp,rfl⟩⟩
  rw [Q3,K8]
  show 1+(Z0q n 1).length=_
  omega
theorem ZlY{t:Tree}{m:Int}(h:(YN t m).2=true):Z8 t 64=true/\t.kind≠10/\(Zq (Ze t):Int) < m/\Zq (Ze t) < 131072/\YN t m=(YZ [0] 0 (Ze t),true):=by
 unfold YN at h ⊢
 split at h
 ·rename_i h1
  rw [if_pos h1]
  split at h
  ·rename_i h2
   rw [if_pos h2]
   exact ⟨h1.1,h1.2,h2.1,h2.2,rfl⟩
  ·cases h
 ·cases h
theorem Zj9{t:Tree}{m:Int}(h:(YN t m).2=false):YN t m=([],false):=by
 unfold YN at h ⊢
 split
 ·rename_i h1
  rw [if_pos h1] at h
  split
  ·rename_i h2
   rw [if_pos h2] at h
   cases h
  ·try rfl
 ·try rfl
theorem enc_len(t:Tree)(m:Int):(YN t m).1.length<=131072:=by
 cases h:(YN t m).2 with
 | false=> rw [Zj9 h];simp
 | true=>
  obtain ⟨h1,h2,_,h4,h5⟩:=ZlY h
  rw [h5]
  have:=(Zik (J8 _ _ h1) (by rw [Z1h];exact h2)).1
  dsimp only
  omega
theorem c35:Contract Try.prog cfg 35 Z7d:=by
 refine Zos c71 c72 c73 c74 Zjf ?_
 intro t most _ hp
 obtain ⟨hm,hg⟩:=hp
 dsimp only at hm hg
 have no:¬(Z8 t 64=true/\t.kind≠10/\(Zq (Ze t):Int) < most/\Zq (Ze t) < 131072)->Zx cfg Try.f35.ntmps Try.f35.results.toList (Zb7 (t,most,())) [] .ret (⟨[(4,.c (.nils)),(5,.c (.bool false))],[],[]⟩:LSt U):=by
  intro h
  refine ZG (r':= .tup [(false,[.slice (U:=U) .u64 [] .unk]),(false,[.bool false])]) ?_ (by (repeat' (first | exact trivial | exact rfl | apply And.intro)))
  simp only [Zb7]
  unfold YN
  split
  ·rw [if_neg (by rename_i h2;exact fun h3=> h ⟨h2.1,h2.2,h3⟩)]
  ·try rfl
 have hn:=JB t
 refine Zt2 _ _ _ ?_
 rintro y1 rfl y2 rfl
 rw [Z3s]
 (simp only [vcT,vcS])
 have q1:Zh y1<=1000000000000:=by omega
 have q2:Zh (Ze y1)<=1000000:=by omega
 refine ⟨⟨hm,hg⟩,fun h=> no (fun h2=> ?_),fun h=> ⟨q1,⟨q2,64,J8 _ _ h.1⟩,fun h2=> no (fun h3=> ?_),fun h2=> ⟨⟨rfl,by decide,by decide⟩,⟨⟨QQ _,by dsimp only;simp [zs],by dsimp only;simp [zs];omega⟩,⟨q2,Z1V _ hg⟩,?_,64,J8 _ _ h.1⟩,?_⟩⟩⟩
 ·rcases h with h | h
  ·rw [h2.1] at h;cases h
  ·exact h2.2.1 h
 ·omega
 ·dsimp only
  rw [Z1h]
  exact h.2
 ·refine ZG (r':= .tup [(false,[.slice (U:=U) .u64 (YZ [0] 0 (Ze y1)) .unk]),(false,[.bool true])]) ?_ (by (repeat' (first | exact trivial | exact rfl | apply And.intro)))
  simp only [Zb7]
  unfold YN
  rw [if_pos ⟨h.1,h.2⟩,if_pos (by omega)]
theorem c34:Contract Try.prog cfg 34 Z7e:=by
 refine Zot c35 c37 ?_
 rintro _ hp
 have e:YN (Tree.mk 1 [5] [Tree.mk 8 [] [Tree.mk 0 [] []]]) 9=([281479271677952,5,60129542145,0],true):=by rfl
 refine Zt3 _ ?_
 simp only [e]
 (simp only [vcT,vcS])
 refine ⟨⟨by decide,?_⟩,by show (_:Nat)<=_;decide,?_⟩
 ·refine ⟨by decide,?_,⟨by decide,?_,⟨by decide,?_,trivial⟩,trivial⟩,trivial⟩
  all_goals (intro x hx;simp at hx;try omega)
 ·(repeat' (first | exact trivial | exact rfl | apply And.intro))
noncomputable section
def Zbl(a:Ref × Unit):Prop:=okR a.1/\ZkZ a.1
def Zl9(a:Ref × Unit):Nat:=Zh (Z6a a.1)
def Zb5(a:Ref × Unit):V U:= .tup [(true,(enc .tree (Z6a a.1))),(false,[ci 0])]
def Z74:Fs U:=fs Zk3 (fun a=> [Zbl a]) Zb5
def Zdw(a:Option Arena × Limits × Unit):V U:= .tup [(true,(enc .tree (Ze (ZV (Z2 a.1) a.2.1).1))),(false,[ci ((ZV (Z2 a.1) a.2.1).2.2)])]
def Z76:Fs U:=fs ZjQ (fun a=> [ZdR a]) Zdw
def ZcH(N:Nat):List (FuncId × Fs U):=(52,fs Zk3 (fun a=> [Zbl a,Zl9 a < N]) Zb5) ::[(22,Z0a),(59,Z08),(25,Z7f),(23,Jm),(24,Z1O)]
def ZlO:Z6 U:=fun i=> match i with
 | 0=> ([(1,[]),(2,[])],[(.loc 1,[]),(.loc 2,[])])
 | 1=> ([(1,[]),(2,[]),(4,[])],[(.loc 1,[]),(.loc 2,[]),(.loc 4,[])])
 | 2=> ([(1,[]),(2,[]),(4,[]),(14,[]),(15,[])],[(.loc 1,[]),(.loc 2,[]),(.loc 4,[.any,.own .u64])])
 | 3=> ([(1,[]),(2,[]),(4,[]),(14,[]),(15,[]),(16,[])],[(.loc 1,[]),(.loc 2,[]),(.loc 4,[])])
 | 4=> ([(1,[]),(2,[]),(4,[]),(5,[]),(14,[]),(15,[])],[(.loc 1,[]),(.loc 2,[]),(.loc 4,[])])
 | 5=> ([(1,[]),(2,[]),(4,[]),(14,[]),(15,[])],[(.loc 1,[]),(.loc 2,[]),(.loc 4,[])])
 | 6=> ([(1,[]),(2,[]),(4,[]),(14,[]),(15,[])],[(.loc 1,[]),(.loc 2,[]),(.loc 4,[.any,.own .u64])])
 | 7=> ([(1,[]),(2,[]),(4,[]),(28,[]),(29,[])],[(.loc 1,[]),(.loc 2,[]),(.loc 4,[.any,.any,.own .tree])])
 | 8=> ([(1,[]),(2,[]),(4,[]),(28,[]),(29,[]),(30,[])],[(.loc 1,[]),(.loc 2,[]),(.loc 4,[])])
 | 9=> ([(1,[]),(2,[]),(4,[]),(6,[]),(28,[]),(29,[])],[(.loc 1,[]),(.loc 2,[]),(.loc 4,[])])
 | 10=> ([(1,[]),(2,[]),(4,[]),(7,[]),(8,[]),(28,[]),(29,[])],[(.loc 1,[]),(.loc 2,[]),(.loc 4,[]),(.loc 7,[])])
 | 11=> ([(1,[]),(2,[]),(4,[]),(7,[]),(8,[]),(28,[]),(29,[]),(39,[])],[(.loc 1,[]),(.loc 2,[]),(.loc 4,[]),(.loc 7,[])])
 | 12=> ([(2,[]),(3,[])],[(.loc 2,[])])
 | 13=> ([(1,[]),(2,[]),(4,[]),(8,[]),(9,[]),(28,[]),(29,[])],[(.loc 1,[]),(.loc 2,[]),(.loc 4,[]),(.loc 9,[])])
 | 14=> ([(1,[]),(2,[]),(4,[]),(8,[]),(9,[]),(28,[]),(29,[]),(48,[])],[(.loc 1,[]),(.loc 2,[]),(.loc 4,[]),(.loc 9,[])])
 | 15=> ([(2,[]),(3,[])],[(.loc 2,[])])
 | 16=> ([(1,[]),(2,[]),(4,[]),(28,[]),(29,[])],[(.loc 1,[]),(.loc 2,[]),(.loc 4,[])])
 | 17=> ([(1,[]),(2,[]),(4,[]),(28,[]),(29,[])],[(.loc 1,[]),(.loc 2,[]),(.loc 4,[.any,.any,.own .tree])])
 | 18=> ([(2,[]),(3,[])],[(.loc 2,[])])
 | _=> ([],[])
def Z0S(r:Ref)(x15:Int)(ml4_1:List Int):LSt U:=(L2 [pL 1,pL 2,pL 4,pI 14 (Jh (Ref.mk (Ref.a r) (Ref.kind r) (Ref.segment r) (Ref.at_ r) (Ref.data r) (Ref.kids r) (Ref.count r) (Ref.number r))),pI 15 x15] [(.loc 1,(enc .ref r)),(.loc 2,[ci 0,.nils,.nils]),(.loc 4,[ci (Ref.kind (Ref.mk (Ref.a r) (Ref.kind r) (Ref.segment r) (Ref.at_ r) (Ref.data r) (Ref.kids r) (Ref.count r) (Ref.number r))),sU .u64 ml4_1 (.own (.l 4 1)),.nils])])
def Z4x(r:Ref)(ml4_1:List Int)(x29_a:Int)(ml4_2_a:List Tree):LSt U:=(L2 [pL 1,pL 2,pL 4,pI 28 (Zw (Ref.mk (Ref.a r) (Ref.kind r) (Ref.segment r) (Ref.at_ r) (Ref.data r) (Ref.kids r) (Ref.count r) (Ref.number r))),pI 29 x29_a] [(.loc 1,(enc .ref r)),(.loc 2,[ci 0,.nils,.nils]),(.loc 4,[ci (Ref.kind (Ref.mk (Ref.a r) (Ref.kind r) (Ref.segment r) (Ref.at_ r) (Ref.data r) (Ref.kids r) (Ref.count r) (Ref.number r))),sU .u64 ml4_1 (.own (.l 4 1)),sU .tree ml4_2_a (.own (.l 4 2))])])
abbrev A52(N:Nat)(p:List Nat):=AW (Z1 (ZcH N)) Try.f52 ZlO p
abbrev S52(N:Nat)(p:List Nat):=SW (Z1 (ZcH N)) Try.f52 ZlO p
theorem ZsQ(N:Nat)(r:Ref)(Q:QT)(h:let z0:=Ref.mk (Ref.a r) (Ref.kind r) (Ref.segment r) (Ref.at_ r) (Ref.data r) (Ref.kids r) (Ref.count r) (Ref.number r);((Z41 (z0,()))/\((Z41 (z0,()))/\(Zk (A52 N [1,1,0,1,0,0]) (Z0S r 0 []) (xB 0 (S52 N [1,1,1] Q)))))):
  A52 N [] (L2 [(0,.agg (enc .ref r))] []) Q:=
 Eq.mpr (by kernel_rfl) h
theorem ZkP(N:Nat)(r:Ref)(x15:Int)(ml4_1:List Int)(N0:NT)(Q:QT)(h:let z0:=Ref.mk (Ref.a r) (Ref.kind r) (Ref.segment r) (Ref.at_ r) (Ref.data r) (Ref.kids r) (Ref.count r) (Ref.number r);(((decide (x15 < (Jh z0)))=true->((Zhv (z0,x15,()))/\((ml4_1.length+([Z1D z0 x15]).length)*8<=140737488355328)/\((InR (x15+1))/\(N0 (Z0S r (x15+1) (ml4_1++([Z1D z0 x15])))))))/\((decide (x15 < (Jh z0)))=false->(Z41 (z0,()))/\(Zk (A52 N [1,1,1,0,1,0,0]) (Z4x r ml4_1 0 []) (xB 2 (S52 N [1,1,1,1] Q)))))):
  A52 N [1,1,0,1,0,0] (Z0S r x15 ml4_1) (xT N0 (xB 0 (S52 N [1,1,1] Q))):=
 Eq.mpr (by kernel_rfl) h
theorem ZkO(N:Nat)(r:Ref)(ml4_1:List Int)(x29_a:Int)(ml4_2_a:List Tree)(N1:NT)(Q:QT)(h:∀ y_1,y_1=r->∀ y_2,y_2=(Y0 (Ref.a y_1) (Zc (Z2 (Ref.a y_1)) (unX y_1) x29_a).1)->∀ y_3,y_3=y_2->∀ y_4,y_4=(Z6a y_3)->let z1:=decide (x29_a < (Zw y_1));let z0:=Zc (Z2 (Ref.a y_1)) (unX y_1) x29_a;((z1=true->((Zhv (y_1,x29_a,()))/\(((((z0.2):Int) !=0)=true->(Q .ret (L2 [pL 2,(3,.c (ci (z0.2)))] [(.loc 2,[ci 0,.nils,.nils])])))/\((((z0.2):Int) !=0)=false->(Zbl (y_3,()))/\(Zl9 (y_3,()) < N)/\((((0:Int) !=0)=true->(Q .ret (L2 [pL 2,pI 3 0] [(.loc 2,[ci 0,.nils,.nils])])))/\(((0:Int) !=0)=false->((ml4_2_a.length+([y_4]).length)*56<=140737488355328)/\((InR (x29_a+1))/\(N1 (Z4x r ml4_1 (x29_a+1) (ml4_2_a++([y_4])))))))))))/\(z1=false->(Q .ret (L2 [pL 2,pI 3 0] [(.loc 2,[ci (Ref.kind y_1),sU .u64 ml4_1 (.own (.l 2 1)),sU .tree ml4_2_a (.own (.l 2 2))])]))))):
  A52 N [1,1,1,0,1,0,0] (Z4x r ml4_1 x29_a ml4_2_a) (xT N1 (xB 2 (S52 N [1,1,1,1] Q))):=
 Eq.mpr (by kernel_rfl) (h _ (Yp _) _ rfl _ (Yp _) _ (Zu _))
def Zqz(N:Nat)(r:Ref):Prop:=AW (Z1 (ZcH N)) Try.f52 ZlO [] (Zb (Zk3.can (r,())) []) (EQ Try.f52 (Zb5 (r,())) [])
theorem Zog(c22:CT 22 Z0a)(c59:CT 59 Z08)(c25:CT 25 Z7f)(c23:CT 23 Jm)(c24:CT 24 Z1O)(hb:∀ (N:Nat) (r:Ref) (_:Unit),Zbl (r,())->Zl9 (r,()) < N+1->Zqz N r):CT 52 Z74:=
 Yg (μ:=Zl9) (l:=[(22,Z0a),(59,Z08),(25,Z7f),(23,Jm),(24,Z1O)]) Z9 rfl (⟨c22,c59,c25,c23,c24,trivial⟩) ZlO Try.func52 rfl rfl 1 (fun _=> rfl) (by decide) (fun N ⟨r,_⟩=> hb N r ())
def ZiM:List (FuncId × Fs U):=[(40,Z7b),(21,Z1P),(52,Z74),(72,Z1K)]
def Zp6:Z6 U:=lvl [([0,3,4],[3,4]),([0,4,7],[4]),([0,4,7,18],[4]),([4,5],[4]),([4,8,9],[4,8]),([4,8,9,27],[4,8]),([4,5],[4]),([4,9,10],[4,10]),([4,5],[4])]
abbrev A48(p:List Nat):=AW (Z1 ZiM) Try.f48 Zp6 p
theorem ZsT(a:Option Arena)(x:Limits)(Q:QT)(h:∀ y_1,y_1=x->∀ y_2,y_2=(Y0 a (Zp (Z2 a) 0 0).1)->∀ y_3,y_3=(Z6a y_2)->let z1:=(((Zp (Z2 a) 0 0).2):Int) !=0;let z0:=(((ZV (Z2 a) y_1).2.2):Int) !=0;((ZdR (a,y_1,()))/\((z0=true->(Q .ret (L2 [pL 4,pI 5 ((ZV (Z2 a) y_1).2.2)] [(.loc 4,[ci 0,.nils,.nils])])))/\(z0=false->(Zae (a,()))/\((z1=true->(Q .ret (L2 [pL 4,pI 5 ((Zp (Z2 a) 0 0).2)] [(.loc 4,[ci 0,.nils,.nils])])))/\(z1=false->(Zbl (y_2,()))/\((Z5I (y_3,()))/\(Q .ret (L2 [pL 4,pI 5 0] [(.loc 4,(enc .tree (Ze y_3)))]))))))))):
  A48 [] (L2 [(0,.c (.po (U:=U) .arena a)),(1,.agg (enc .limits x))] []) Q:=
 Eq.mpr (by kernel_rfl) (h _ (J9 _) _ (Yp _) _ (Zu _))
def ZqC(a:Option Arena)(x:Limits):Prop:=AW (Z1 ZiM) Try.f48 Zp6 [] (Zb (ZjQ.can (a,x,())) []) (EQ Try.f48 (Zdw (a,x,())) [])
theorem Zoj(c40:CT 40 Z7b)(c21:CT 21 Z1P)(c52:CT 52 Z74)(c72:CT 72 Z1K)(hb:∀ (a:Option Arena) (x:Limits) (_:Unit),ZdR (a,x,())->ZqC a x):CT 48 Z76:=
 Z0 (l:=[(40,Z7b),(21,Z1P),(52,Z74),(72,Z1K)]) Z9 rfl (⟨c40,c21,c52,c72,trivial⟩) Zp6 Try.func48 rfl rfl 2 (fun _=> rfl) (by decide) (fun ⟨a,x,_⟩=> hb a x ())
end
theorem Z8L{α:Type}(l:List α)(d:α)(i:Int)(h0:0<=i)(h:i < l.length):l.take i.toNat++[l.getD i.toNat d]=l.take (i+1).toNat:=by
 rw [show (i+1).toNat=i.toNat+1 by omega,Q7,Q0 (show i.toNat < l.length by omega),QL]
 exact XC (by omega)
theorem ZhV{k:Int}{w:List Int}{ks:List Tree}{i:Nat}(h:i < ks.length):Zh (ks.getD i Tree.nil) < Zh (.mk k w ks):=by
 have:=Je h
 rw [Zh]
 omega
theorem c52:Contract Try.prog cfg 52 Z74:=by
 refine Zog c22 c59 c25 c23 c24 ?_
 rintro N r _ hp hN
 obtain ⟨hr,he⟩:=hp
 dsimp only at hr he
 have hN':Zh (Z6a r) < N+1:=hN
 have hg:=ZaO hr he
 obtain ⟨ks,e0,hks,hkid⟩:=Zgu hr.1 hr.2 he
 have e0':Z6a r=⟨r.kind,Zg (Z2 r.a) (unX r),ks⟩:=e0
 have hkd:Zw r=ks.length:=by rw [Z2f];exact hks.symm
 have hw:((Zg (Z2 r.a) (unX r)).length:Int)=Jh r:=by
  rw [(Z15 hr.1 hr.2).2]
  have hk:(unX r).kind=r.kind:=rfl
  have hd:(unX r).data=r.data:=rfl
  rw [hk,hd]
  unfold Jh
  by_cases h1:r.kind=1
  ·simp [h1]
  ·simp [h1]
 have hm:(Zg (Z2 r.a) (unX r)).length+ks.length<=140000:=by
  have h1:=hg.2.2
  have h2:=Jd ks
  rw [e0',Zh] at h1
  omega
 have fin:Zx cfg Try.f52.ntmps Try.f52.results.toList (Zb5 (r,())) [] .ret (⟨[(2,.ptr (.loc 2) 0),(3,.c (.int .i64 0))],[((.loc 2),[.int .i64 r.kind,.slice .u64 (Zg (Z2 r.a) (unX r)) (.own (.l 2 1)),.slice .tree ks (.own (.l 2 2))])],[]⟩:LSt U):=by
  have h:Zx cfg Try.f52.ntmps Try.f52.results.toList (.tup [(true,enc .tree ⟨r.kind,Zg (Z2 r.a) (unX r),ks⟩),(false,[.int .i64 0])]) [] .ret (⟨[(2,.ptr (.loc 2) 0),(3,.c (.int .i64 0))],[((.loc 2),[.int .i64 r.kind,.slice .u64 (Zg (Z2 r.a) (unX r)) (.own (.l 2 1)),.slice .tree ks (.own (.l 2 2))])],[]⟩:LSt U):=by (repeat' (first | exact trivial | exact rfl | apply And.intro))
  refine ZG ?_ h
  simp only [Zb5]
  rw [e0']
  try rfl
 refine ZsQ N _ _ ?_
 refine ⟨trivial,trivial,?_⟩
 refine Za (ι:=Int) (fun p=> Z0S r p ((Zg (Z2 r.a) (unX r)).take p.toNat)) (fun p=> 0<=p/\p<=Jh r) (fun p=> (Jh r - p).toNat) 0 rfl ⟨by omega,by omega⟩ ?_
 rintro i ⟨h1,h2⟩
 refine ZkP _ _ _ _ _ _ ?_
 (simp only [vcT,vcS])
 refine ⟨fun hi=> ⟨hr,by simp only [Q3,Qa,Qh,QK];omega,by ((unfold InR;omega)),i+1,?_,⟨by omega,?_⟩,?_⟩,fun hi=> ⟨trivial,?_⟩⟩
 ·show Z0S r (i+1) (_++[Z1D r i])=Z0S r (i+1) _
  have hi':i < Jh r:=hi
  rw [<-Z8L (Zg (Z2 r.a) (unX r)) 0 i h1 (by omega)]
  unfold Z1D
  rw [if_neg (by omega)]
 ·have hi':i < Jh r:=hi
  omega
 ·have hi':i < Jh r:=hi
  omega
 ·have hi':¬i < Jh r:=hi
  rw [Qi (by omega)]
  refine Za (ι:=Int) (fun p=> Z4x r (Zg (Z2 r.a) (unX r)) p (ks.take p.toNat)) (fun p=> 0<=p/\p<=ks.length) (fun p=> ((ks.length:Int) - p).toNat) 0 rfl ⟨by omega,by omega⟩ ?_
  rintro j ⟨g1,g2⟩
  refine ZkO _ _ _ _ _ _ _ ?_
  rintro y1 hy1 y2 hy2 y3 hy3 y4 hy4
  replace hy1:=hy1.symm
  subst hy1
  subst hy3
  (simp only [vcT,vcS])
  rw [hkd]
  refine ⟨fun hj=> ?_,fun hj=> ?_⟩
  ·obtain ⟨q1,q2,q3⟩:=hkid j g1 (by rw [<-hks];exact hj)
   have hkx:=Yv hr.1 hr.2 j
   have hl:=ZaN hkx
   rw [<-hy2] at hl
   rw [<-hl.1,<-hy4] at q3
   have hmk:=ZhV (k:=r.kind) (w:=Zg (Z2 r.a) (unX r)) (ks:=ks) (i:=j.toNat) (by omega)
   rw [q3,<-e0'] at hmk
   refine ⟨hr,fun h=> absurd q1 h,fun _=> ⟨⟨?_,hl.2 q2⟩,?_,fun h=> absurd trivial h,by simp only [Q3,Qa,Qh,QK];omega,by ((unfold InR;omega)),j+1,?_,⟨by omega,by omega⟩,by omega⟩⟩
   ·show okR y3
    rw [hy2]
    exact Z44 hr.1 hkx
   ·show Zh (Z6a y3) < N
    rw [<-hy4]
    omega
   ·rw [<-Z8L ks Tree.nil j g1 hj,q3]
  ·rw [Qi (by omega)]
   exact fin
theorem c48:Contract Try.prog cfg 48 Z76:=by
 refine Zoj c40 c21 c52 c72 ?_
 rintro a x _ ha
 simp only [ZdR] at ha
 refine ZsT _ _ _ ?_
 rintro y1 hy1 y2 hy2 y3 hy3
 replace hy1:=hy1.symm
 subst hy1
 (simp only [vcT,vcS])
 have fin:∀ {T:Tree} {e:Int},Ze (ZV (Z2 a) x).1=T->(ZV (Z2 a) x).2.2=e->∀ {s:LSt U},
   Zx cfg Try.f48.ntmps Try.f48.results.toList (.tup [(true,enc .tree T),(false,[.int .i64 e])]) [] .ret s->Zx cfg Try.f48.ntmps Try.f48.results.toList (Zdw (a,x,())) [] .ret s:=by
  intro T e h1 h2 s hs
  refine ZG ?_ hs
  simp only [Zdw]
  rw [h1,h2]
  try rfl
 refine ⟨ha,fun he=> fin (T:=Tree.nil) (by rw [Zd9 he];rfl) rfl (by (repeat' (first | exact trivial | exact rfl | apply And.intro))),fun he=> ?_⟩
 obtain ⟨u1,u2,u3⟩:=Zgv he
 have hx:=Z59 ha 0 0
 have hl:=ZaN hx
 rw [<-hy2] at hl
 have hok:okR y2:=by rw [hy2];exact Z44 ha hx
 have hg:=ZaO hok (hl.2 u2)
 rw [<-hl.1,<-hy3] at u3
 rw [<-hy3] at hg
 refine ⟨ha,fun h=> absurd u1 h,fun _=> ⟨⟨hok,hl.2 u2⟩,by show Zh y3<=_;omega,fin (T:=Ze y3) (by rw [u3]) he (by (repeat' (first | exact trivial | exact rfl | apply And.intro)))⟩⟩
def Z4G(l:List Int)(x:Limits):Tree × Int:=
 if (ZV [l] x).2.2=0 then
  if (YN (Ze (ZV [l] x).1) 131072).2=true/\l=(YN (Ze (ZV [l] x).1) 131072).1 then (Ze (ZV [l] x).1,0) else (Tree.nil,5)
 else (Tree.nil,(ZV [l] x).2.2)
noncomputable section
def ZjL:ArgL (List Int × Limits × Unit):=(.cons (aSl .u64) (.cons (aEl .limits) .nil))
def ZdO(a:List Int × Limits × Unit):Prop:=ZX [a.1]
def Zdv(a:List Int × Limits × Unit):V U:= .tup [(true,(enc .tree ((Z4G a.1 a.2.1).1))),(false,[ci ((Z4G a.1 a.2.1).2)])]
def Z73:Fs U:=fs ZjL (fun a=> [ZdO a]) Zdv
def Zn7(a:List Int × Limits × Unit):V U:= .c (.bool true)
def Z9M:Fs U:=fs ZjL (fun a=> [ZdO a]) Zn7
def ZiL:List (FuncId × Fs U):=[(20,Z7g),(48,Z76),(35,Z7d),(81,Z09)]
def Zp5:Z6 U:=lvl [([0,3,4],[3,4]),([0,4,6,7],[4,6]),([0,4,6,7,19],[4,6]),([4,5],[4]),([0,4,6,8,9],[4,6]),([4,6,34],[4,6]),([4,5],[4]),([4,5],[4])]
abbrev A53(p:List Nat):=AW (Z1 ZiL) Try.f53 Zp5 p
theorem ZsP(l:List Int)(x:Limits)(Q:QT)(h:∀ y_1,y_1=x->∀ y_2,y_2=(Ze (ZV (Z2 (some (Arena.mk ([l]) 0 0 0))) y_1).1)->let z1:=ZV (Z2 (some (Arena.mk ([l]) 0 0 0))) y_1;let z0:= !((YN y_2 131072).2);let z2:=bif z0 then true else (!(decide (l=((YN y_2 131072).1))));((ZdW (([l]),()))/\(ZdR ((some (Arena.mk ([l]) 0 0 0)),y_1,()))/\(((((z1.2.2):Int) !=0)=true->(Q .ret (L2 [pL 4,(5,.c (ci (z1.2.2)))] [(.loc 4,[ci 0,.nils,.nils])])))/\((((z1.2.2):Int) !=0)=false->(Zhu (y_2,131072,()))/\((Tr ((!z0)=true))/\(Tr ((!z0)=true))/\((!z0)=true->Z5K (l,((YN y_2 131072).1),()))/\(Tr ((!z0)=true))/\(z0=false->(!z0)=true)/\((z2=true->(Q .ret (L2 [pL 4,pI 5 5] [(.loc 4,[ci 0,.nils,.nils])])))/\(z2=false->(Q .ret (L2 [pL 4,pI 5 0] [(.loc 4,(enc .tree (Ze z1.1)))]))))))))):
  A53 [] (L2 [(0,.c (sU .u64 l .unk)),(1,.agg (enc .limits x))] []) Q:=
 (Eq.mpr (by kernel_rfl) (h _ (J9 _) _ (Zu _)):)
abbrev Zqy(l:List Int)(x:Limits):Prop:=AW (Z1 ZiL) Try.f53 Zp5 [] (Zb (ZjL.can (l,x,())) []) (EQ Try.f53 (Zdv (l,x,())) [])
theorem Zof(c20:CT 20 Z7g)(c48:CT 48 Z76)(c35:CT 35 Z7d)(c81:CT 81 Z09)(hb:∀ (l:List Int) (x:Limits) (_:Unit),ZdO (l,x,())->Zqy l x):CT 53 Z73:=
 Z0 (l:=[(20,Z7g),(48,Z76),(35,Z7d),(81,Z09)]) Z9 rfl (⟨c20,c48,c35,c81,trivial⟩) Zp5 Try.func53 rfl rfl 2 (fun _=> rfl) (by decide) (fun ⟨l,x,_⟩=> hb l x ())
def Zj4:List (FuncId × Fs U):=[(39,Z7c),(53,Z73),(41,Z7a),(50,Z1K),(36,Z7d),(37,Z09),(49,Z75),(34,Z7e)]
def Zpo:Z6 U:=lvl [([0,3],[3]),([0,3],[3]),([0,3,5,6],[3,5]),([0,5,6,7,9],[5,7]),([0,5,6,7,9,29],[5,7]),([4],[]),([0,5,6,7],[5,7]),([0,5,6,7,10],[5,7]),([5,6,7,51],[5,7]),([4],[]),([4],[])]
abbrev A16(p:List Nat):=AW (Z1 Zj4) Try.f16 Zpo p
theorem Ztf(l:List Int)(x:Limits)(Q:QT)(h:∀ y_1,y_1=x->∀ y_2,y_2=(Z3x y_1)->∀ y_3,y_3=((Z4G l y_2).1)->∀ y_4,y_4=((ZV ([l]) y_2).1)->∀ y_5,y_5=(Ze y_4)->let z8:=(((ZV ([l]) y_2).2.2):Int) !=0;let z7:= !(decide (l=((YN y_5 131072).1)));let z3:=JS y_3 (Tree.mk 0 [] []);let z2:=(((Z4G l y_2).2):Int)==0;let z4:=bif z2 then (JS y_3 y_5) else false;let z1:=(((Z4G l y_2).2):Int)==5;let z6:=bif z1 then z3 else false;let z0:=(((Z4G l y_2).2):Int)==((ZV ([l]) y_2).2.2);let z5:=bif z0 then z3 else false;((Zhs (y_1,()))/\((ZdO (l,y_2,()))/\((ZdQ (([l]),y_2,()))/\((z8=true->(Tr (z0=true))/\(Tr (z0=true))/\(z0=true->Z40 (y_3,(Tree.mk 0 [] []),()))/\(Tr (z0=true))/\(z5=true->Zbm ())/\(Tr (z5=true))/\(Q .ret (L2 [(4,.c (.bool (bif z5 then true else false)))] [])))/\(z8=false->(Z5I (y_4,()))/\((Zhu (y_5,131072,()))/\((Z5K (l,((YN y_5 131072).1),()))/\((z7=true->(Tr (z1=true))/\(Tr (z1=true))/\(z1=true->Z40 (y_3,(Tree.mk 0 [] []),()))/\(Tr (z1=true))/\(z6=true->Zbm ())/\(Tr (z6=true))/\(Q .ret (L2 [(4,.c (.bool (bif z6 then true else false)))] [])))/\(z7=false->(Tr (z2=true))/\(Tr (z2=true))/\(z2=true->Z40 (y_3,y_5,()))/\(Tr (z2=true))/\(z4=true->Zbm ())/\(Tr (z4=true))/\(Q .ret (L2 [(4,.c (.bool (bif z4 then true else false)))] [])))))))))))):
  A16 [] (L2 [(0,.c (sU .u64 l .unk)),(1,.agg (enc .limits x))] []) Q:=
 (Eq.mpr (by kernel_rfl) (h _ (J9 _) _ (J9 _) _ (Zu _) _ (Zu _) _ (Zu _)):)
abbrev ZqY(l:List Int)(x:Limits):Prop:=AW (Z1 Zj4) Try.f16 Zpo [] (Zb (ZjL.can (l,x,())) []) (EQ Try.f16 (Zn7 (l,x,())) [])
theorem ZoF(c39:CT 39 Z7c)(c53:CT 53 Z73)(c41:CT 41 Z7a)(c50:CT 50 Z1K)(c36:CT 36 Z7d)(c37:CT 37 Z09)(c49:CT 49 Z75)(c34:CT 34 Z7e)(hb:∀ (l:List Int) (x:Limits) (_:Unit),ZdO (l,x,())->ZqY l x):CT 16 Z9M:=
 Z0 (l:=[(39,Z7c),(53,Z73),(41,Z7a),(50,Z1K),(36,Z7d),(37,Z09),(49,Z75),(34,Z7e)]) Z9 rfl (⟨c39,c53,c41,c50,c36,c37,c49,c34,trivial⟩) Zpo Try.func16 rfl rfl 2 (fun _=> rfl) (by decide) (fun ⟨l,x,_⟩=> hb l x ())
end
end Go.AM.Ythokdjgpdonhgaa
