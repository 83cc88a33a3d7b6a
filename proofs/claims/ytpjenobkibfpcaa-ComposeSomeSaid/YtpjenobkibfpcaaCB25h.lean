import Derived.Test.YtpjenobkibfpcaaCG25e
set_option linter.unusedSimpArgs false
set_option linter.unusedVariables false
namespace Go.AM.Ytpjenobkibfpcaa
open Go.AM Go.Proofs
theorem Zpn{α:Type}(z:α)(l:List α)(a:Int)(x:α)(h0:0≤a)(h:(l.length:Int)≤a+1):List.set (l++List.replicate (Int.toNat (a+1 - l.length)) z) a.toNat x=ZV z l a.toNat x:=by
 unfold ZV
 rw [show (a+1 - (l.length:Int)).toNat=a.toNat+1 - l.length by omega]
theorem Zmj{l d:Int}{o:Op}(h:Za l o d=true):((Z1n l o).length:Int)=if o.kind=2 then 0 else Z2 o:=by
 have:=ZC h
 cases this with
 | keep n h1 h2=> simp only [Z1n,Z2];simp;omega
 | gone t h1 h2=> simp [Z1n,Z2]
 | come t h1 h2=> simp [Z1n]
 | into e h1 h2=> simp [Z1n,Z2]
theorem Z6V{l d:Int}:∀ {os:List Op},(∀ o∈os,Za l o d=true)→((Z09 l os).length:Int)=J8 os
 | [],_=> rfl
 | o ::r,h=> by
  rw [Z09,List.length_append,J8,Int.natCast_add,Zmj (h o List.mem_cons_self),Z6V fun x hx=> h x (List.mem_cons_of_mem _ hx)]
theorem b51:Zzs:=by
 intro N e _ hp hN
 simp only [Zaf,Zhr] at hp hN
 obtain ⟨hm,d,hr⟩:=hp
 have ra:=Zp hr
 have hmw:Zc e=1+Zq e.old+Zq e.new+e.words.length+e.ops.length+Zw e.kids+Zs e.ops:=by cases e;rfl
 refine ZzY _ _ _ ?_
 (simp only [vcT,vcS])
 refine ⟨fun h1=> ?_,fun h1=> ⟨fun h2=> ?_,fun h2=> ⟨fun h3=> ?_,fun h3=> ?_⟩⟩⟩
 ·have:Z0C e=e.old:=by rw [Z1o,if_pos h1]
  simp only [Zad,this]
  (repeat' (first | exact trivial | exact rfl | apply And.intro))
 ·have hE:Z0C e= .mk 1 (Z1m e.words []) (Js e.kids []):=by rw [Z1o,if_neg h1,if_pos h2]
  refine Ze (ι:=Int × List Int) (fun j=> Z8T e j.1 j.2) (fun j=> (0≤j.1∧j.1≤e.words.length)∧(∃ last:Int,-1≤last∧last≤65534∧j.2.length≤last+1∧Zk last (e.words.drop j.1.toNat)=true)∧Z1m (e.words.drop j.1.toNat) j.2=Z1m e.words []) (fun j=> ((e.words.length:Int) - j.1).toNat) (0,[]) rfl ⟨⟨by dsimp only;omega,by dsimp only;omega⟩,⟨-1,by omega,by omega,by simp,ra.words⟩,rfl⟩ ?_
  rintro ⟨i,out⟩ ⟨⟨i1,i2⟩,⟨last,l1,l2,l3,l4⟩,i3⟩
  dsimp only at i1 i2 l3 l4 i3
  refine ZrR _ _ _ _ _ _ ?_
  (simp only [vcT,vcS])
  refine ⟨fun hi=> ?_,fun hi=> ?_⟩
  ·rw [YU i1 hi ⟨0,0,0,0⟩] at l4 i3
   generalize e.words.getD i.toNat ⟨0,0,0,0⟩=w at l4 i3 ⊢
   have hw:=Y8 l4 w List.mem_cons_self
   have hw2:Zk w.at_ (e.words.drop (i+1).toNat)=true:=by simp only [Zk,Bool.and_eq_true] at l4;exact l4.2
   refine ⟨⟨i1,hi⟩,by unfold InR;omega,by unfold InR;omega,⟨by omega,by omega⟩,⟨by omega,by rw [List.length_append,List.length_replicate];omega⟩,by omega,by unfold InR;omega,(i+1,ZV 0 out w.at_.toNat w.old),?_,⟨⟨by dsimp only;omega,by dsimp only;omega⟩,⟨w.at_,by omega,by omega,by dsimp only;rw [JD];omega,hw2⟩,i3⟩,by dsimp only;omega⟩
   rw [Zpn 0 out w.at_ w.old (by omega) (by omega)]
  ·rw [List.drop_of_length_le (by omega),Z1m] at i3
   refine Ze (ι:=Int × List Tree) (fun j=> Z8R e out j.1 j.2) (fun j=> (0≤j.1∧j.1≤e.kids.length)∧(∃ last:Int,-1≤last∧last≤65534∧j.2.length≤last+1∧Zr last (e.kids.drop j.1.toNat) (d - 1)=true)∧Js (e.kids.drop j.1.toNat) j.2=Js e.kids []) (fun j=> ((e.kids.length:Int) - j.1).toNat) (0,[]) rfl ⟨⟨by dsimp only;omega,by dsimp only;omega⟩,⟨-1,by omega,by omega,by simp,ra.kids⟩,rfl⟩ ?_
   rintro ⟨k,ks⟩ ⟨⟨k1,k2⟩,⟨la,m1,m2,m3,m4⟩,k3⟩
   dsimp only at k1 k2 m3 m4 k3
   refine ZrP _ _ _ _ _ _ _ ?_
   rintro y1 hy1 y2 hy2 y3 hy3
   (simp only [vcT,vcS])
   refine ⟨fun hk=> ?_,fun hk=> ?_⟩
   ·have hkm:y1∈e.kids:=by rw [hy1];exact Zm (by omega) _
    rw [YU k1 hk ⟨0,Edit.nil⟩,←hy1] at m4 k3
    rw [Js,Z4j,←hy2,←hy3] at k3
    obtain ⟨q1,q2,q3⟩:=Z0G m4
    have hlt:=J4 hkm
    have hkl:=Yi e.kids
    rw [←hy2] at q2 hlt
    refine ⟨⟨k1,hk⟩,by unfold InR;omega,by unfold InR;omega,⟨by omega,by omega⟩,⟨by dsimp only;omega,_,q2⟩,by simp only [Zhr];omega,⟨by omega,by rw [List.length_append,List.length_replicate];omega⟩,by omega,by unfold InR;omega,(k+1,ZV Tree.nil ks y1.at_.toNat y3),?_,⟨⟨by dsimp only;omega,by dsimp only;omega⟩,⟨y1.at_,by omega,by omega,by dsimp only;rw [JD];omega,q3⟩,k3⟩,by dsimp only;omega⟩
    rw [Zpn Tree.nil ks y1.at_ y3 (by omega) (by omega)]
   ·rw [List.drop_of_length_le (by omega),Js] at k3
    simp only [Zad,hE,←i3,←k3]
    (repeat' (first | exact trivial | exact rfl | apply And.intro))
 ·have hE:Z0C e= .mk e.list [] (Z09 e.list e.ops):=by rw [Z1o,if_neg h1,if_neg h2,if_pos h3]
  have hops:=Z0y.1 ra.ops
  have hlen:=ra.len
  have hsA:=Z0P e.ops 0 (fun x hx=> Z4F (Zfm (hops x hx))) (by omega) (by omega)
  have htl:=Z6V hops
  refine Ze (ι:=Int × List Tree) (fun j=> Z8S e j.1 j.2) (fun j=> (0≤j.1∧j.1≤e.ops.length)∧j.2++Z09 e.list (e.ops.drop j.1.toNat)=Z09 e.list e.ops) (fun j=> ((e.ops.length:Int) - j.1).toNat) (0,[]) rfl ⟨⟨by dsimp only;omega,by dsimp only;omega⟩,rfl⟩ ?_
  rintro ⟨i,out⟩ ⟨⟨i1,i2⟩,i3⟩
  dsimp only at i1 i2 i3
  refine ZrQ _ _ _ _ _ _ ?_
  rintro y1 hy1 y2 rfl
  (simp only [vcT,vcS])
  refine ⟨fun hi=> ?_,fun hi=> ?_⟩
  ·have hm1:y2∈e.ops:=by rw [hy1];exact Zm (by omega) _
   rw [YU i1 hi Op.nil,←hy1,Z09] at i3
   have hl:=congrArg List.length i3
   simp only [List.length_append] at hl
   have hmo:=Z3g hm1
   have hol:=massOs_len e.ops
   refine ⟨⟨i1,hi⟩,⟨by dsimp only;omega,_,hops y2 hm1⟩,by simp only [ZmN];omega,by omega,by unfold InR;omega,(i+1,out++Z1n e.list y2),rfl,⟨⟨by dsimp only;omega,by dsimp only;omega⟩,?_⟩,by dsimp only;omega⟩
   dsimp only
   rw [List.append_assoc];exact i3
  ·rw [List.drop_of_length_le (by omega),Z09,List.append_nil] at i3
   simp only [Zad,hE,←i3]
   (repeat' (first | exact trivial | exact rfl | apply And.intro))
 ·have:Z0C e= .mk e.list [] []:=by rw [Z1o,if_neg h1,if_neg h2,if_neg h3]
  simp only [Zad,this]
  (repeat' (first | exact trivial | exact rfl | apply And.intro))
where
 massOs_len:∀ l:List Op,l.length≤Zs l
  | []=> Nat.zero_le _
  | o ::r=> by have:=massOs_len r;have h:=Z5J o.e;have h2:Zx o=Zg o.l+Zc o.e:=(by cases o;rfl);simp only [Zs,List.length_cons];omega
theorem b88:Zzn:=by
 intro N list o _ hp hN
 simp only [Zea,ZmN] at hp hN
 obtain ⟨hm,d,hr⟩:=hp
 have hmo:Zx o=Zg o.l+Zc o.e:=by cases o;rfl
 have hn:=Z26 hr
 refine ZzD _ _ _ _ ?_
 rintro y1 hy1 y2 hy2
 (simp only [vcT,vcS])
 refine ⟨fun h1=> ?_,fun h1=> ⟨fun h3=> ⟨⟨by rw [hy1];dsimp only;omega,d,by rw [hy1];exact YE hr h3⟩,by simp only [Zhr];rw [hy1];dsimp only;omega,?_⟩,fun h3=> ⟨fun h2=> ?_,fun h2=> ⟨by omega,?_⟩⟩⟩⟩
 ·have:Z1n list o=o.l:=by rw [Z3I,if_pos h1]
  simp only [Zab,this]
  (repeat' (first | exact trivial | exact rfl | apply And.intro))
 ·have:Z1n list o=[y2]:=by rw [Z3I,if_neg h1,if_pos h3,hy2,hy1]
  simp only [Zab,this]
  (repeat' (first | exact trivial | exact rfl | apply And.intro))
 ·have:Z1n list o=[]:=by rw [Z3I,if_neg h1,if_neg h3,if_pos h2]
  simp only [Zab,this]
  (repeat' (first | exact trivial | exact rfl | apply And.intro))
 ·have hE:Z1n list o=List.replicate o.n.toNat (Z7w list):=by rw [Z3I,if_neg h1,if_neg h3,if_neg h2]
  refine Ze (ι:=Int × List Tree) (fun j=> Z45 list o j.1 j.2) (fun j=> (0≤j.1∧j.1≤o.n)∧j.2=List.replicate j.1.toNat (Z7w list)++List.replicate (o.n - j.1).toNat Tree.nil) (fun j=> (o.n - j.1).toNat) (0,List.replicate o.n.toNat Tree.nil) rfl ⟨⟨by dsimp only;omega,by dsimp only;omega⟩,by simp⟩ ?_
  rintro ⟨i,out⟩ ⟨⟨i1,i2⟩,i3⟩
  dsimp only at i1 i2 i3
  refine Zrx _ _ _ _ _ _ _ ?_
  (simp only [vcT,vcS])
  rw [List.length_replicate]
  have hl:=congrArg List.length i3
  simp only [List.length_append,List.length_replicate] at hl
  have hstep:∀ x:Tree,i < o.n→List.set out i.toNat x=List.replicate i.toNat (Z7w list)++x ::List.replicate (o.n - (i+1)).toNat Tree.nil:=by
   intro x hi
   rw [i3,show (o.n - i).toNat=(o.n - (i+1)).toNat+1 by omega,List.replicate_succ]
   rw [List.set_append_right _ _ (by rw [List.length_replicate];exact Nat.le_refl _),List.length_replicate,Nat.sub_self]
   try rfl
  have hnext:i < o.n→List.replicate i.toNat (Z7w list)++Z7w list ::List.replicate (o.n - (i+1)).toNat Tree.nil=List.replicate (i+1).toNat (Z7w list)++List.replicate (o.n - (i+1)).toNat Tree.nil:=by
   intro hi
   rw [show (i+1).toNat=i.toNat+1 by omega,List.replicate_succ',List.append_assoc];try rfl
  refine ⟨fun hi=> ⟨trivial,fun hk=> ⟨⟨i1,by omega⟩,by omega,by unfold InR;omega,(i+1,_),rfl,⟨⟨by dsimp only;omega,by dsimp only;omega⟩,?_⟩,by dsimp only;omega⟩,fun hk=> ⟨fun h9=> ⟨⟨i1,by omega⟩,by omega,by unfold InR;omega,(i+1,_),rfl,⟨⟨by dsimp only;omega,by dsimp only;omega⟩,?_⟩,by dsimp only;omega⟩,fun h9=> ⟨by unfold InR;omega,(i+1,_),rfl,⟨⟨by dsimp only;omega,by dsimp only;omega⟩,?_⟩,by dsimp only;omega⟩⟩⟩,fun hi=> ?_⟩
  ·dsimp only
   rw [hstep _ (by omega),←hnext (by omega),Z7w,if_pos hk]
  ·dsimp only
   have hg:out.getD i.toNat Tree.nil=Tree.nil:=by
    rw [i3,List.getD_eq_getElem?_getD,List.getElem?_append_right (by rw [List.length_replicate];exact Nat.le_refl _),List.length_replicate,Nat.sub_self,show (o.n - i).toNat=(o.n - (i+1)).toNat+1 by omega,List.replicate_succ];try rfl
   rw [hg,hstep _ (by omega),←hnext (by omega),Z7w,if_neg (by omega),if_pos h9]
   try rfl
  ·dsimp only
   have:Z7w list=Tree.nil:=by rw [Z7w,if_neg (by omega),if_neg h9]
   rw [←hnext (by omega),this,i3,this,show (o.n - i).toNat=(o.n - (i+1)).toNat+1 by omega,List.replicate_succ]
  ·have:out=Z1n list o:=by
    rw [hE,i3,show (o.n - i).toNat=0 by omega,show i.toNat=o.n.toNat by omega];simp
   simp only [Zab,←this]
   (repeat' (first | exact trivial | exact rfl | apply And.intro))
theorem ZAd:Contract Try.prog cfg 51 ZbO∧Contract Try.prog cfg 88 Zos:=Zsd Zg1 b51 b88
end Go.AM.Ytpjenobkibfpcaa
namespace Go.AM.Ytpjenobkibfpcaa
open Go.AM Go.Proofs
noncomputable section
def Zrd:ArgL (Edit × Edit × Unit):=(.cons (aEl .edit) (.cons (aEl .edit) .nil))
def Zkw(a:Edit × Edit × Unit):Prop:=(Z2r a.1∧ZS a.1)∧Z2r a.2.1∧ZS a.2.1
def Zcd(a:Edit × Edit × Unit):V U:= .c (.bool true)
def ZeX:Fs U:=fs Zrd (fun a=> [Zkw a]) Zcd
def Zqr:List (FuncId × Fs U):=[(15,ZbT),(20,ZbS),(21,Z5g),(26,Z1E),(51,ZbO),(52,ZbN),(53,ZbM)]
def Zw5:Zh U:=lvl [([2,3],[2,3]),([2,3,21],[2,3]),([4],[]),([2,3,5,6],[2,3,5]),([2,3,5,30],[2,3,5]),([4],[]),([2,3,5,7],[2,3,5,7]),([2,3,5,7,41],[2,3,5,7]),([4],[]),([3,5,7,8,9],[3,5,7,8]),([3,5,7,8,9,54],[3,5,7,8]),([4],[]),([5,7,9,11],[5,7]),([9,11,13],[]),([4],[])]
abbrev A13(p:List Nat):=AW (Z1 Zqr) Try.f13 Zw5 p
theorem ZA7(p q:Edit)(Q:QT)(h:∀ y_1,y_1=p→∀ y_2,y_2=q→∀ y_3,y_3=((Z4U y_1 y_2).1)→∀ y_4,y_4=(Z0C y_3)→∀ y_5,y_5=(Z5z ((doE false y_1 y_4).map Z7))→let z5:=bif (!(Z0u y_1)) then true else (!(Z0u y_2));let z3:= !(Z0 y_3 64);let z7:=bif z3 then true else (!(ZaI y_4));let z2:=Q .ret (L2 [(4,.c (.bool true))] []);let z1:=doE false y_1 y_4;let z6:=bif (z1.isSome) then (!(ZaI y_5)) else false;let z4:=bif (z1.isSome) then ((doE false y_2 y_5).isSome) else false;let z0:=bif z4 then ((doE false y_3 y_4).isSome) else false;((Zhc (y_1,()))∧(Tr ((!(!(Z0u y_1)))=true))∧((!(!(Z0u y_1)))=true→Zhc (y_2,()))∧(Tr ((!(!(Z0u y_1)))=true))∧((!(Z0u y_1))=false→(!(!(Z0u y_1)))=true)∧((z5=true→(Zck ())∧z2)∧(z5=false→(Zkv (y_1,y_2,()))∧(((!((Z4U y_1 y_2).2))=true→(Zck ())∧z2)∧((!((Z4U y_1 y_2).2))=false→(Zaf (y_3,()))∧((Zkt (y_3,()))∧(Tr ((!z3)=true))∧((!z3)=true→Zhb (y_4,()))∧(Tr ((!z3)=true))∧(z3=false→(!z3)=true)∧((z7=true→(Zck ())∧z2)∧(z7=false→(Z5t (y_1,y_4,()))∧((Tr ((z1.isSome)=true))∧((z1.isSome)=true→Zhb (y_5,()))∧(Tr ((z1.isSome)=true))∧(Tr ((z1.isSome)=true))∧((z6=true→(Zck ())∧z2)∧(z6=false→(Z5t (y_2,y_5,()))∧((Z5t (y_3,y_4,()))∧((Tr ((z1.isSome)=true))∧(Tr (z4=true))∧(z0=true→Zck ())∧(Tr (z0=true))∧(Q .ret (L2 [(4,.c (.bool (bif z0 then true else false)))] [])))))))))))))))):
  A13 [] (L2 [(0,.agg (enc .edit p)),(1,.agg (enc .edit q))] []) Q:=
 Eq.mpr (by kernel_rfl) (h _ (Zf _) _ (Zf _) _ (Zf _) _ (Zi _) _ (Zi _))
def ZxF(p q:Edit):Prop:=AW (Z1 Zqr) Try.f13 Zw5 [] (Zn (Zrd.can (p,q,())) []) (EQ Try.f13 (Zcd (p,q,())) [])
theorem ZvL(c15:CT 15 ZbT)(c20:CT 20 ZbS)(c21:CT 21 Z5g)(c26:CT 26 Z1E)(c51:CT 51 ZbO)(c52:CT 52 ZbN)(c53:CT 53 ZbM)(hb:∀ (p:Edit) (q:Edit) (_:Unit),Zkw (p,q,())→ZxF p q):CT 13 ZeX:=
 Z6 (l:=[(15,ZbT),(20,ZbS),(21,Z5g),(26,Z1E),(51,ZbO),(52,ZbN),(53,ZbM)]) Zo rfl (⟨c15,c20,c21,c26,c51,c52,c53,trivial⟩) Zw5 Try.func13 rfl rfl 2 (fun _=> rfl) (by decide) (fun ⟨p,q,_⟩=> hb p q ())
end
end Go.AM.Ytpjenobkibfpcaa
namespace Go.AM.Ytpjenobkibfpcaa
open Go.AM Go.Proofs
theorem ZdN:∀ {ws:List WEdit} {last:Int} {out:List Int},Zk last ws=true→out.length≤65535→(Z1m ws out).length≤65535
 | [],last,out,_,h=> h
 | w ::r,last,out,h,hl=> by
  have h1:=Y8 h w List.mem_cons_self
  have h2:Zk w.at_ r=true:=by simp only [Zk,Bool.and_eq_true] at h;exact h.2
  rw [Z1m]
  exact ZdN h2 (by rw [JD];omega)
theorem ZgE:∀ {ws:List WEdit} {out:List Int},(∀ w∈ws,isW w.old)→(∀ x∈out,isW x)→∀ x∈Z1m ws out,isW x
 | [],out,_,h=> h
 | w ::r,out,hw,h=> by
  rw [Z1m]
  refine ZgE (fun x hx=> hw x (List.mem_cons_of_mem _ hx)) fun x hx=> ?_
  rcases Z2t hx with hx | rfl | rfl
  ·exact h x hx
  ·exact ⟨by omega,by omega⟩
  ·exact hw w List.mem_cons_self
theorem ZbA:∀ {ks:List Kid} {out:List Tree},∀ x∈Js ks out,x∈out∨x=Tree.nil∨∃ k∈ks,x=Z0C k.e
 | [],out,x,h=> .inl h
 | k ::r,out,x,h=> by
  rw [Js,Z4j] at h
  rcases ZbA x h with h | h | ⟨k',h1,h2⟩
  ·rcases Z2t h with h | h | h
   ·exact .inl h
   ·exact .inr (.inl h)
   ·exact .inr (.inr ⟨k,List.mem_cons_self,h⟩)
  ·exact .inr (.inl h)
  ·exact .inr (.inr ⟨k',List.mem_cons_of_mem _ h1,h2⟩)
theorem ZbB{d:Int}:∀ {ks:List Kid} {last:Int} {out:List Tree},Zr last ks d=true→out.length≤65535→(Js ks out).length≤65535
 | [],last,out,_,h=> h
 | k ::r,last,out,h,hl=> by
  obtain ⟨h1,h2,h3⟩:=Z0G h
  rw [Js]
  exact ZbB h3 (by rw [JD];omega)
theorem Zbz{l:Int}:∀ {os:List Op},∀ x∈Z09 l os,∃ o∈os,x∈Z1n l o
 | [],x,h=> by cases h
 | o ::r,x,h=> by
  rw [Z09,List.mem_append] at h
  rcases h with h | h
  ·exact ⟨o,List.mem_cons_self,h⟩
  ·obtain ⟨o',h1,h2⟩:=Zbz x h
   exact ⟨o',List.mem_cons_of_mem _ h1,h2⟩
theorem Z9f:∀ {l:List Tree},(∀ t∈l,JK t)→JQ l
 | [],_=> trivial
 | t ::r,h=> ⟨h t List.mem_cons_self,Z9f fun x hx=> h x (List.mem_cons_of_mem _ hx)⟩
theorem Ztk(l:Int):JK (Z7w l)∧rng (Z7w l):=by
 unfold Z7w
 split
 ·exact ⟨by simp [JK,JQ],by decide,by intro x hx;rw [List.mem_singleton.1 hx];omega,trivial⟩
 ·split
  ·exact ⟨by simp [JK,JQ],by decide,by simp,trivial⟩
  ·exact ⟨by simp [Tree.nil,JK,JQ],Jj⟩
theorem Zb5:∀ (n:Nat) (e:Edit) (d:Int),Zc e≤n→Zc e≤17592186044416→Z0 e d=true→ZS e→JK (Z0C e)∧rng (Z0C e)
 | 0,e,d,hn,_,_,_=> by
  have:3≤Zc e:=Z5J e
  omega
 | n+1,e,d,hn,hb,hr,hg=> by
  have ra:=Zp hr
  have ga:=Yg hg
  have hmw:Zc e=1+Zq e.old+Zq e.new+e.words.length+e.ops.length+Zw e.kids+Zs e.ops:=by cases e;rfl
  rw [Z1o]
  split
  ·exact ⟨Z1d _ (by omega),ga.1⟩
  ·split
   ·have h1:=ZdN (out:=[]) ra.words (by simp)
    have h2:=ZbB (out:=[]) ra.kids (by simp)
    have hk:∀ x∈Js e.kids [],JK x∧rng x:=by
     intro x hx
     rcases ZbA x hx with hx | rfl | ⟨k,hk,rfl⟩
     ·cases hx
     ·exact ⟨by simp [Tree.nil,JK,JQ],Jj⟩
     ·have:=J4 hk
      exact Zb5 n k.e (d - 1) (by omega) (by omega) (ZG ra.kids k hk).2 (YB ga.2.2.2.1 hk).2
    exact ⟨⟨by omega,by omega,Z9f fun x hx=> (hk x hx).1⟩,by decide,ZgE (fun w hw=> (ga.2.2.1 w hw).2.2.1) (by simp),Z4z fun x hx=> (hk x hx).2⟩
   ·split
    ·rename_i k3
     have hops:=Z0y.1 ra.ops
     have hlen:=ra.len
     have hsA:=Z0P e.ops 0 (fun x hx=> Z4F (Zfm (hops x hx))) (by omega) (by omega)
     have htl:=Z6V hops
     have hli:=ra.list k3
     have hk:∀ x∈Z09 e.list e.ops,JK x∧rng x:=by
      intro x hx
      obtain ⟨o,ho,hx⟩:=Zbz x hx
      have hmo:=Z3g ho
      have hmp:Zx o=Zg o.l+Zc o.e:=by cases o;rfl
      have go:=JE ga.2.2.2.2 ho
      have hro:=ZC (hops o ho)
      rw [Z3I] at hx
      split at hx
      ·have:=YW hx
       exact ⟨Z1d _ (by omega),by obtain ⟨_,_,_,_⟩:=o;exact YX go.2.2.1 hx⟩
      ·split at hx
       ·rename_i k3
        rw [List.mem_singleton] at hx
        subst hx
        have:=JY ho
        exact Zb5 n o.e (d - 1) (by omega) (by omega) (YE (hops o ho) k3) (by obtain ⟨_,_,_,_⟩:=o;exact go.2.2.2)
       ·split at hx
        ·cases hx
        ·rw [List.mem_replicate] at hx
         rw [hx.2]
         exact Ztk _
     exact ⟨⟨by simp,by omega,Z9f fun x hx=> (hk x hx).1⟩,by omega,by simp,Z4z fun x hx=> (hk x hx).2⟩
    ·have hk:=ra.kind
     have k0:=ra.ops0 (by omega)
     exact ⟨by simp [JK,JQ],by rw [k0.1];exact Jj⟩
theorem ZqI{p q:Edit}(hp:Z1R p)(hq:Z1R q)(h:(Z4U p q).2=true):(Y5 p q).2=true∧(Z4U p q).1=ZR (Y5 p q).1:=by
 unfold Z4U at h ⊢
 split at h
 ·rename_i hc
  rw [if_pos hc]
  exact ⟨hc,rfl⟩
 ·cases h
theorem c13:Contract Try.prog cfg 13 ZeX:=by
 refine ZvL c15 c20 c21 c26 ZAd.1 c52 c53 ?_
 intro p q _ hp
 simp only [Zkw] at hp
 obtain ⟨⟨hp1,hp2⟩,hq1,hq2⟩:=hp
 refine ZA7 _ _ _ ?_
 rintro y1 rfl y2 rfl y3 hy3 y4 hy4 y5 hy5
 (simp only [vcT,vcS])
 refine ⟨⟨hp1,hp2⟩,fun _=> ⟨hq1,hq2⟩,fun _=> ⟨trivial,by simp only [Zcd];(repeat' (first | exact trivial | exact rfl | apply And.intro))⟩,fun hg=> ?_⟩
 obtain ⟨rp,pm,pr⟩:=ZhO hg.1 hp2
 obtain ⟨rq,qm,qr⟩:=ZhO hg.2 hq2
 have P1:=rp.re
 have P2:=rq.re
 refine ⟨⟨P1,P2⟩,fun _=> ⟨trivial,by simp only [Zcd];(repeat' (first | exact trivial | exact rfl | apply And.intro))⟩,fun hc=> ?_⟩
 obtain ⟨c1,c2⟩:=ZqI P1 P2 hc
 have F:=ZeA P1 P2
 have W:=F.wk c1
 have ct:=F.ct trivial c1
 have cp:=Zbh y1
 have cq:=Zbh y2
 have cn:=Z9K (Y5 y1 y2).1
 rw [←hy3] at c2
 have ct3:ctE y3≤400000000:=by rw [c2];omega
 have m3:Zc y3≤400000000:=Nat.le_trans (Z8o y3) ct3
 have g3:ZS y3:=by rw [c2];exact Z3P _ _ W.r W.g
 have r3:∃ d,Z0 y3 d=true:=by rw [c2];exact ⟨_,Z11 _ _ W.r⟩
 refine ⟨⟨by dsimp only;omega,r3⟩,⟨by dsimp only;omega,g3⟩,fun h=> ?_,fun _=> ⟨trivial,by simp only [Zcd];(repeat' (first | exact trivial | exact rfl | apply And.intro))⟩,fun h=> ?_⟩
 ·have:=Zb5 _ y3 64 (Nat.le_refl _) (by omega) h g3
  rw [←hy4] at this
  exact this
 ·obtain ⟨h1,h2⟩:=h
  have hin:=Zb5 _ y3 64 (Nat.le_refl _) (by omega) h1 g3
  rw [←hy4] at hin
  obtain ⟨_,rt,_,_⟩:=Zqv h2 hin.2
  have m4:=ZyP h2
  obtain ⟨w,hw⟩:=ZeU _ y3 64 (Nat.le_refl _) h1 g3
  rw [←hy4] at hw
  have hn:=ZcB (Y5 y1 y2).1 _ y4 W.r rt
  rw [←c2,hw] at hn
  cases hcx:doE false (Y5 y1 y2).1 y4 with
  | none=> rw [hcx] at hn;exact absurd hn id
  | some w'=>
   obtain ⟨u,v,du,dv,_⟩:=(Zwf pr qr hp2 hq2).fwd rt c1 hcx
   have mu:=Z6k false y1 64 y4 u pr du
   have ru:=ZqC pr rt hp2 du
   rw [du] at hy5
   have hy5:y5=Z7 u:=hy5
   have m5:Zq y5≤Zq u:=by rw [hy5];exact Je u
   have r5:rng y5:=by rw [hy5];exact Z0g _ ru.2
   have q5:=Z92 y2 64 y5 u qr (by rw [hy5];exact Zd1 u)
   rw [dv] at q5
   have q5s:(doE false y2 y5).isSome=true:=by
    cases hx:doE false y2 y5 with
    | none=> rw [hx] at q5;exact absurd q5 id
    | some v'=> rfl
   refine ⟨⟨⟨by dsimp only;omega,hp2,64,pr⟩,by dsimp only;omega,hin.2⟩,fun _=> ⟨Z1d _ (by dsimp only;omega),r5⟩,fun _=> ⟨trivial,by simp only [Zcd];(repeat' (first | exact trivial | exact rfl | apply And.intro))⟩,fun _=> ⟨⟨⟨by dsimp only;omega,hq2,64,qr⟩,by dsimp only;omega,r5⟩,⟨⟨by dsimp only;omega,g3,64,h1⟩,by dsimp only;omega,hin.2⟩,fun _=> trivial,?_⟩⟩
   rw [du,q5s,hw]
   simp only [Zcd]
   (repeat' (first | exact trivial | exact rfl | apply And.intro))
end Go.AM.Ytpjenobkibfpcaa
