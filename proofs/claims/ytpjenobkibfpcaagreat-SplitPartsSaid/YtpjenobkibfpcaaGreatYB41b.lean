import Derived.Test.YtpjenobkibfpcaaGreatYG41b
import Derived.Test.YtpjenobkibfpcaaGreatZCL40c
set_option linter.unusedSimpArgs false
set_option linter.unusedVariables false
namespace Go.AM.YtpjenobkibfpcaaGreat
open Go.AM Go.Proofs
theorem ZC5:Contract Tryz.prog cfg 118 Z97:=by
 refine Zxg ?_
 intro list a o b _ hp
 simp only [Zeg] at hp
 refine ZEb _ _ _ _ _ ?_
 (simp only [vcT,vcS])
 have key:∀ l:List Op,l=ZT a→l.length≤1→ZkW [1,1,1] (Z7k list a o b l) (Jx cfg Tryz.f118.ntmps Tryz.f118.results.toList (ZdX (list,a,o,b,())) []):=by
  intro l hl hn
  refine ZrL _ _ _ _ _ _ ?_
  rintro y1 rfl
  (simp only [vcT,vcS])
  refine ⟨by simp only [List.length_cons,List.length_nil];omega,fun hb=> ⟨by simp only [List.length_append,List.length_cons,List.length_nil];omega,?_⟩,fun hb=> ?_⟩
  ·refine ZiV _ _ _ _ _ _ ?_
   have:Jq list a y1 b= .mk 3 Tree.nil Tree.nil [] [] list ((l++[y1])++[⟨0,b,[],Edit.nil⟩]):=by unfold Jq;rw [hl];congr 2;unfold ZT;rw [if_neg (show ¬b=0 by omega)]
   simp only [ZdX,this]
   (repeat' (first | exact trivial | exact rfl | apply And.intro))
  ·refine ZiV _ _ _ _ _ _ ?_
   have:Jq list a y1 b= .mk 3 Tree.nil Tree.nil [] [] list (l++[y1]):=by unfold Jq;rw [hl,show b=0 by omega];simp [ZT]
   simp only [ZdX,this]
   (repeat' (first | exact trivial | exact rfl | apply And.intro))
 refine ⟨fun ha=> ⟨by simp,?_⟩,fun ha=> ?_⟩
 ·refine key _ ?_ (by simp)
  unfold ZT;rw [if_neg (show ¬a=0 by omega)];try rfl
 ·refine key _ ?_ (by simp)
  rw [show a=0 by omega];try rfl
theorem ZpX{l:List Op}{i:Int}(h0:0≤i)(h:i < l.length):l.take (i+1).toNat=l.take i.toNat++[l.getD i.toNat Op.nil]:=by
 rw [show (i+1).toNat=i.toNat+1 by omega,List.take_succ_eq_append_getElem (by omega),List.getD_eq_getElem?_getD,List.getElem?_eq_getElem (by omega)];try rfl
theorem ZfQ{l:List Op}{i:Int}(h0:0≤i)(h:i < l.length):Yf (l.take (i+1).toNat)=Yf (l.take i.toNat)+(if (l.getD i.toNat Op.nil).kind=1 then 0 else Z3 (l.getD i.toNat Op.nil)):=by
 rw [ZpX h0 h,Z1Q];simp [Yf]
theorem ZfR{l:List Op}{i:Int}(h0:0≤i)(h:i < l.length):ZH (l.drop i.toNat)=(if (l.getD i.toNat Op.nil).kind=2 then 0 else Z3 (l.getD i.toNat Op.nil))+ZH (l.drop (i+1).toNat):=by
 rw [Y3 h0 h Op.nil,ZH]
theorem Z4Y{l:List Op}{list d:Int}(h:∀ o∈l,Zc list o d=true):0≤ZH l∧0≤Yf l:=
 ⟨(Yl l 0 (fun x hx=> ZM (Ya (h x hx))) (by omega) (by omega)).2,(YW l 0 (fun x hx=> ZM (Ya (h x hx))) (by omega) (by omega)).2⟩
theorem Zl6(l:List Op)(i:Nat):ZH (l.take i)+ZH (l.drop i)=ZH l:=by rw [←Z36,List.take_append_drop]
theorem Zdg(l:List Op)(i:Nat):Yf (l.take i)+Yf (l.drop i)=Yf l:=by rw [←Z1Q,List.take_append_drop]
theorem ZC4:Contract Tryz.prog cfg 119 Z96:=by
 refine Zxf ?_
 intro l to _ hp
 simp only [Zef] at hp
 obtain ⟨⟨li,d,hr⟩,hA,hB,t0,t1,hl⟩:=hp
 refine ZEa _ _ _ ?_
 (simp only [vcT,vcS])
 refine Za (ι:=Int × Int) (fun j=> Z1x l to j.1 j.2) (fun j=> (0≤j.2∧j.2≤to)∧j.1=Yf (l.take j.2.toNat)) (fun j=> (to - j.2).toNat) (0,0) rfl ⟨⟨by dsimp only;omega,by dsimp only;omega⟩,by simp [Yf]⟩ ?_
 rintro ⟨n,i⟩ ⟨⟨i1,i2⟩,i3⟩
 dsimp only at i1 i2 i3
 refine ZrK _ _ _ _ _ _ ?_
 (simp only [vcT,vcS])
 refine ⟨fun hi=> ?_,fun hi=> ?_⟩
 ·have hx:=ZfQ (l:=l) i1 (by omega)
  have hm:l.getD i.toNat Op.nil∈l:=Zi (by omega) _
  have hro:=hr _ hm
  generalize l.getD i.toNat Op.nil=o at hx hm hro ⊢
  have s1:=Zdg l i.toNat
  have s2:=Zdg l (i+1).toNat
  have n1:=(Z4Y (l:=l.drop i.toNat) fun o ho=> hr o (List.mem_of_mem_drop ho)).2
  have n2:=(Z4Y (l:=l.drop (i+1).toNat) fun o ho=> hr o (List.mem_of_mem_drop ho)).2
  have n3:=(Z4Y (l:=l.take i.toNat) fun o ho=> hr o (List.mem_of_mem_take ho)).2
  have hok:=Y9 hro
  have hol:=ZM (Ya hro)
  refine ⟨⟨i1,by omega⟩,fun k0=> ?_,fun k0=> ⟨fun k2=> ?_,fun k2=> ⟨fun k3=> ?_,fun k3=> ?_⟩⟩⟩
  ·have ol:=Z3M hok k0
   rw [if_neg (by omega),ol] at hx
   exact ⟨⟨i1,by omega⟩,by unfold InR;omega,by unfold InR;omega,(n+o.n,i+1),rfl,⟨⟨by dsimp only;omega,by dsimp only;omega⟩,by dsimp only;omega⟩,by dsimp only;omega⟩
  ·have ol:=Yr hok (.inr k2)
   rw [if_neg (by omega),ol] at hx
   exact ⟨⟨i1,by omega⟩,by unfold InR;omega,by unfold InR;omega,(n+o.l.length,i+1),rfl,⟨⟨by dsimp only;omega,by dsimp only;omega⟩,by dsimp only;omega⟩,by dsimp only;omega⟩
  ·have ol:=Z11 k3
   rw [if_neg (by omega),ol] at hx
   exact ⟨by unfold InR;omega,by unfold InR;omega,(n+1,i+1),rfl,⟨⟨by dsimp only;omega,by dsimp only;omega⟩,by dsimp only;omega⟩,by dsimp only;omega⟩
  ·have k1:o.kind=1:=by
    have:=ZC hro
    cases this <;> first | rfl | (exfalso;first | exact k0 rfl | exact k2 rfl | exact k3 rfl)
   rw [if_pos k1] at hx
   exact ⟨by unfold InR;omega,(n,i+1),rfl,⟨⟨by dsimp only;omega,by dsimp only;omega⟩,by dsimp only;omega⟩,by dsimp only;omega⟩
 ·have:i=to:=by omega
  subst this
  simp only [Zls,←i3]
  (repeat' (first | exact trivial | exact rfl | apply And.intro))
theorem ZC3:Contract Tryz.prog cfg 120 Z95:=by
 refine Zxe ?_
 intro l from_ _ hp
 simp only [Zee] at hp
 obtain ⟨⟨li,d,hr⟩,hA,hB,t0,t1,hl⟩:=hp
 refine ZE9 _ _ _ ?_
 (simp only [vcT,vcS])
 refine Za (ι:=Int × Int) (fun j=> Z1w l from_ j.1 j.2) (fun j=> (0≤j.2∧j.2≤l.length)∧0≤j.1∧j.1+ZH (l.drop j.2.toNat)=ZH (l.drop from_.toNat)) (fun j=> ((l.length:Int) - j.2).toNat) (0,from_) rfl ⟨⟨by dsimp only;omega,by dsimp only;omega⟩,by dsimp only;omega,by dsimp only;omega⟩ ?_
 rintro ⟨n,i⟩ ⟨⟨i1,i2⟩,n0,i3⟩
 dsimp only at i1 i2 n0 i3
 refine ZrJ _ _ _ _ _ _ ?_
 (simp only [vcT,vcS])
 have s1:=Zl6 l from_.toNat
 have n4:=(Z4Y (l:=l.take from_.toNat) fun o ho=> hr o (List.mem_of_mem_take ho)).1
 refine ⟨fun hi=> ?_,fun hi=> ?_⟩
 ·have hx:=ZfR (l:=l) i1 hi
  have hm:l.getD i.toNat Op.nil∈l:=Zi (by omega) _
  have hro:=hr _ hm
  generalize l.getD i.toNat Op.nil=o at hx hm hro ⊢
  have n2:=(Z4Y (l:=l.drop (i+1).toNat) fun o ho=> hr o (List.mem_of_mem_drop ho)).1
  have hok:=Y9 hro
  have hol:=ZM (Ya hro)
  refine ⟨⟨i1,by omega⟩,fun k0=> ?_,fun k0=> ⟨fun k1=> ?_,fun k1=> ⟨fun k3=> ?_,fun k3=> ?_⟩⟩⟩
  ·have ol:=Z3M hok k0
   rw [if_neg (by omega),ol] at hx
   exact ⟨⟨i1,by omega⟩,by unfold InR;omega,by unfold InR;omega,(n+o.n,i+1),rfl,⟨⟨by dsimp only;omega,by dsimp only;omega⟩,by dsimp only;omega,by dsimp only;omega⟩,by dsimp only;omega⟩
  ·have ol:=Yr hok (.inl k1)
   rw [if_neg (by omega),ol] at hx
   exact ⟨⟨i1,by omega⟩,by unfold InR;omega,by unfold InR;omega,(n+o.l.length,i+1),rfl,⟨⟨by dsimp only;omega,by dsimp only;omega⟩,by dsimp only;omega,by dsimp only;omega⟩,by dsimp only;omega⟩
  ·have ol:=Z11 k3
   rw [if_neg (by omega),ol] at hx
   exact ⟨by unfold InR;omega,by unfold InR;omega,(n+1,i+1),rfl,⟨⟨by dsimp only;omega,by dsimp only;omega⟩,by dsimp only;omega,by dsimp only;omega⟩,by dsimp only;omega⟩
  ·have k2:o.kind=2:=by
    have:=ZC hro
    cases this <;> first | rfl | (exfalso;first | exact k0 rfl | exact k1 rfl | exact k3 rfl)
   rw [if_pos k2] at hx
   exact ⟨by unfold InR;omega,(n,i+1),rfl,⟨⟨by dsimp only;omega,by dsimp only;omega⟩,by dsimp only;omega,by dsimp only;omega⟩,by dsimp only;omega⟩
 ·rw [List.drop_of_length_le (by omega)] at i3
  have:n=ZH (l.drop from_.toNat):=by simp only [ZH] at i3;omega
  simp only [Zlr,←this]
  (repeat' (first | exact trivial | exact rfl | apply And.intro))
theorem ZlG{e:Edit}{d:Int}(hr:Z2 e d=true):Y7 e=(e.words.map Js++ZP e.kids)++ZL e.list e.ops 0 (ZH e.ops):=by
 have ra:=Zz hr
 have hops:=Yb.1 ra.ops
 have hlen:=ra.len
 have hsA:=Yl e.ops 0 (fun x hx=> ZM (Ya (hops x hx))) (by omega) (by omega)
 unfold Y7
 by_cases k2:e.kind=2
 ·rw [if_pos k2,(ra.ops0 (by omega)).2,ZL,List.append_nil]
 ·rw [if_neg k2,(ra.words0 k2).1,(ra.words0 k2).2]
  by_cases k3:e.kind=3
  ·rw [if_pos k3,show Ym e.ops 0=ZH e.ops by omega];try rfl
  ·rw [if_neg k3,(ra.ops0 k3).2];try rfl
theorem c77:Contract Tryz.prog cfg 77 Zdn:=by
 refine ZAK ZC5 ZC4 ZC3 ?_
 intro N e _ hp hN
 simp only [ZbU,ZhL] at hp hN
 obtain ⟨hm,d,hr⟩:=hp
 have ra:=Zz hr
 have hops:=Yb.1 ra.ops
 have hlen:=ra.len
 have hsA:=Yl e.ops 0 (fun x hx=> ZM (Ya (hops x hx))) (by omega) (by omega)
 have hsB:=YW e.ops 0 (fun x hx=> ZM (Ya (hops x hx))) (by omega) (by omega)
 have hmw:Z9 e=1+Zu e.old+Zu e.new+e.words.length+e.ops.length+Zq e.kids+Zg e.ops:=by cases e;rfl
 have hkl:=Y2 e.kids
 have hR:=ZlG hr
 have hlen':e.kind≠0→(Y7 e).length≤1000000:=by
  intro h0
  have h4:=(Z1Z e).2
  rw [YC,if_neg h0] at h4
  split at h4 <;> omega
 refine ZFE _ _ _ ?_
 (simp only [vcT,vcS])
 refine ⟨fun h0=> ?_,fun h0=> ?_⟩
 ·have:Zk e=[]:=by rw [YC,if_pos h0]
  simp only [Zg9,this]
  (repeat' (first | exact trivial | exact rfl | apply And.intro))
 have hl0:=hlen' h0
 have hl1:=congrArg List.length hR
 simp only [List.length_append,List.length_map] at hl1
 refine Za (ι:=Int × List Edit) (fun j=> Za5 e j.1 j.2) (fun j=> (0≤j.1∧j.1≤e.words.length)∧j.2++(e.words.drop j.1.toNat).map Js=e.words.map Js) (fun j=> ((e.words.length:Int) - j.1).toNat) (0,[]) rfl ⟨⟨by dsimp only;omega,by dsimp only;omega⟩,by simp⟩ ?_
 rintro ⟨i,out⟩ ⟨⟨i1,i2⟩,i3⟩
 dsimp only at i1 i2 i3
 refine ZvG _ _ _ _ _ _ ?_
 (simp only [vcT,vcS])
 have hl2:=congrArg List.length i3
 simp only [List.length_append,List.length_map] at hl2
 refine ⟨fun hi=> ⟨⟨i1,hi⟩,by simp only [List.length_cons,List.length_nil];omega,by unfold InR;omega,(i+1,out++[Js (e.words.getD i.toNat ⟨0,0,0,0⟩)]),?_,⟨⟨by dsimp only;omega,by dsimp only;omega⟩,?_⟩,by dsimp only;omega⟩,fun hi=> ?_⟩
 ·dsimp only;rw [ZfG]
 ·rw [Y3 i1 hi ⟨0,0,0,0⟩,List.map_cons] at i3
  dsimp only
  rw [List.append_assoc];exact i3
 rw [List.drop_of_length_le (by omega),List.map_nil,List.append_nil] at i3
 refine Za (ι:=Int × List Edit) (fun j=> Za4 e j.1 j.2) (fun j=> (0≤j.1∧j.1≤e.kids.length)∧j.2++ZP (e.kids.drop j.1.toNat)=e.words.map Js++ZP e.kids) (fun j=> ((e.kids.length:Int) - j.1).toNat) (0,out) rfl ⟨⟨by dsimp only;omega,by dsimp only;omega⟩,by rw [i3];rfl⟩ ?_
 rintro ⟨k,out⟩ ⟨⟨k1,k2⟩,k3⟩
 dsimp only at k1 k2 k3
 refine ZvF _ _ _ _ _ _ ?_
 rintro z2 hz2
 (simp only [vcT,vcS])
 refine ⟨fun hk=> ?_,fun hk=> ?_⟩
 ·have hkm:e.kids.getD k.toNat ⟨0,Edit.nil⟩∈e.kids:=Zi (by omega) _
  have hke:=J6 hkm
  have hkr:=(Y1 ra.kids _ hkm).2
  rw [←hz2] at hke hkr
  have hst:ZP (e.kids.drop k.toNat)=(Zk z2).map (Z3w (e.kids.getD k.toNat ⟨0,Edit.nil⟩).at_)++ZP (e.kids.drop (k+1).toNat):=by
   rw [Y3 k1 hk ⟨0,Edit.nil⟩,ZP,Z1Y,←hz2]
  refine ⟨⟨k1,hk⟩,⟨by dsimp only;omega,_,hkr⟩,by simp only [ZhL];omega,?_⟩
  refine Za (ι:=Int × List Edit) (fun j=> Za3 e k j.1 j.2) (fun j=> (0≤j.1∧j.1≤(Zk z2).length)∧j.2++((Zk z2).drop j.1.toNat).map (Z3w (e.kids.getD k.toNat ⟨0,Edit.nil⟩).at_)=out++(Zk z2).map (Z3w (e.kids.getD k.toNat ⟨0,Edit.nil⟩).at_)) (fun j=> (((Zk z2).length:Int) - j.1).toNat) (0,out) rfl ⟨⟨by dsimp only;omega,by dsimp only;omega⟩,by simp⟩ ?_
  rintro ⟨j,o2⟩ ⟨⟨j1,j2⟩,j3⟩
  dsimp only at j1 j2 j3
  refine ZvE _ _ _ _ _ _ _ _ ?_
  rintro x1 hx1 x2 hx2 x3 hx3
  have ex:x2=z2:=by rw [hx2,hz2,hx1]
  subst ex
  (simp only [vcT,vcS])
  have hl3:=congrArg List.length j3
  have hl4:=congrArg List.length k3
  rw [hst] at hl4
  simp only [List.length_append,List.length_map,List.length_drop] at hl3 hl4
  refine ⟨fun hj=> ⟨⟨k1,hk⟩,⟨j1,hj⟩,by simp only [List.length_cons,List.length_nil];omega,by unfold InR;omega,(j+1,o2++[Z3w x1.at_ x3]),rfl,⟨⟨by dsimp only;omega,by dsimp only;omega⟩,?_⟩,by dsimp only;omega⟩,fun hj=> ⟨by unfold InR;omega,(k+1,o2),rfl,⟨⟨by dsimp only;omega,by dsimp only;omega⟩,?_⟩,by dsimp only;omega⟩⟩
  ·rw [Y3 j1 hj Edit.nil,List.map_cons,←hx3,←hx1] at j3
   dsimp only
   rw [List.append_assoc,←hx1];exact j3
  ·rw [List.drop_of_length_le (by omega),List.map_nil,List.append_nil] at j3
   dsimp only
   rw [j3,List.append_assoc,←hst];exact k3
 rw [List.drop_of_length_le (by omega),ZP,List.append_nil] at k3
 have hinv:∀ i:Int,0≤i→i≤e.ops.length→(∃ l d,∀ o∈e.ops,Zc l o d=true)∧ZH e.ops≤2000000∧Yf e.ops≤2000000∧0≤i∧i≤e.ops.length∧e.ops.length≤1000000:=fun i h1 h2=> ⟨⟨_,_,hops⟩,by omega,by omega,h1,h2,by omega⟩
 refine Za (ι:=Int × List Edit) (fun j=> Z4C e j.1 j.2) (fun j=> (0≤j.1∧j.1≤e.ops.length)∧j.2++ZL e.list (e.ops.drop j.1.toNat) (Yf (e.ops.take j.1.toNat)) (ZH (e.ops.drop j.1.toNat))=Y7 e) (fun j=> ((e.ops.length:Int) - j.1).toNat) (0,out) rfl ⟨⟨by dsimp only;omega,by dsimp only;omega⟩,by rw [hR,←k3];rfl⟩ ?_
 rintro ⟨i,out⟩ ⟨⟨q1,q2⟩,q3⟩
 dsimp only at q1 q2 q3
 refine ZvD _ _ _ _ _ _ ?_
 rintro y1 rfl y2 hy2 y3 rfl y4 hy4 y5 hy5 y6 rfl
 (simp only [vcT,vcS])
 refine ⟨fun hi=> ?_,fun hi=> ?_⟩
 ·have hm1:y3∈y1.ops:=by rw [hy2];exact Zi (by omega) _
  have hro:=hops y3 hm1
  have hok:=Y9 hro
  have hxB:=ZfQ (l:=y1.ops) q1 hi
  have hxA:=ZfR (l:=y1.ops) q1 hi
  rw [←hy2] at hxA hxB
  have nB:=(Z4Y (l:=y1.ops.take i.toNat) fun o ho=> hops o (List.mem_of_mem_take ho)).2
  have nA:=(Z4Y (l:=y1.ops.drop (i+1).toNat) fun o ho=> hops o (List.mem_of_mem_drop ho)).1
  have hl4:=congrArg List.length q3
  obtain ⟨S,hS⟩:∃ S,S=ZH (y1.ops.drop i.toNat):=⟨_,rfl⟩
  rw [←hS] at q3
  rw [Y3 q1 hi Op.nil,←hy2,ZL,Z1o] at q3
  rw [hS] at q3
  refine ⟨⟨q1,hi⟩,fun k12=> ⟨hinv i q1 (by omega),by unfold InR;omega,hinv (i+1) (by omega) (by omega),⟨nB,nA⟩,?_,fun k3'=> ?_,fun k3'=> ⟨by unfold InR;omega,(i+1,out++[y6]),rfl,⟨⟨by dsimp only;omega,by dsimp only;omega⟩,?_⟩,by dsimp only;omega⟩⟩,fun k12=> ⟨fun k3'=> ?_,fun k3'=> ⟨by unfold InR;omega,(i+1,out),rfl,⟨⟨by dsimp only;omega,by dsimp only;omega⟩,?_⟩,by dsimp only;omega⟩⟩⟩
  ·have hl5:=congrArg List.length q3
   have k0:¬y3.kind=0:=by omega
   rw [if_neg k0] at hl5
   rcases k12 with k | k
   ·rw [if_pos k] at hl5
    simp only [List.length_append,List.length_cons,List.length_nil] at hl5 ⊢
    omega
   ·rw [if_neg (by omega),if_pos k] at hl5
    simp only [List.length_append,List.length_cons,List.length_nil] at hl5 ⊢
    omega
  ·exfalso;omega
  ·dsimp only
   have k0:¬y3.kind=0:=by omega
   rw [if_neg k0] at q3
   rcases k12 with k | k
   ·have ol:=Yr hok (.inl k)
    rw [if_pos k] at hxB q3
    rw [if_neg (by omega),ol] at hxA
    rw [if_pos k,if_neg (by omega),ol,←List.append_assoc] at q3
    rw [hy5,hxB,Int.add_zero,show ZH (y1.ops.drop (i+1).toNat)=ZH (y1.ops.drop i.toNat) - y3.l.length by omega]
    exact q3
   ·have ol:=Yr hok (.inr k)
    rw [if_neg (by omega),ol] at hxB
    rw [if_pos k] at hxA
    rw [if_neg (by omega),if_pos k,if_neg (by omega),if_pos k,ol,←List.append_assoc] at q3
    rw [hy5,hxB,show ZH (y1.ops.drop (i+1).toNat)=ZH (y1.ops.drop i.toNat) - 0 by omega]
    rw [Int.sub_zero] at q3 ⊢
    exact q3
  ·have ol:=Z11 k3'
   have hro3:Z2 y4 (d - 1)=true:=by rw [hy4];exact Jm hro k3'
   have hm3:Z9 y4 < Z9 y1:=by rw [hy4];exact Jw hm1
   rw [if_neg (by omega),ol] at hxA hxB
   rw [if_neg (by omega),if_neg (by omega),if_neg (by omega),if_neg (by omega),if_neg (by omega),ol,←hy4] at q3
   have ho2:=congrArg List.length q3
   simp only [List.length_append,List.length_map] at ho2
   refine ⟨⟨by dsimp only;omega,_,hro3⟩,by simp only [ZhL];omega,?_⟩
   refine Za (ι:=Int × List Edit) (fun j=> Z6u y1 i j.2 j.1) (fun j=> (0≤j.1∧j.1≤(Zk y4).length)∧j.2++((Zk y4).drop j.1.toNat).map (fun x=> Jq y1.list (Yf (y1.ops.take i.toNat)) ⟨3,0,[],x⟩ (ZH (y1.ops.drop (i+1).toNat)))=out++(Zk y4).map (fun x=> Jq y1.list (Yf (y1.ops.take i.toNat)) ⟨3,0,[],x⟩ (ZH (y1.ops.drop (i+1).toNat)))) (fun j=> (((Zk y4).length:Int) - j.1).toNat) (0,out) rfl ⟨⟨by dsimp only;omega,by dsimp only;omega⟩,by simp⟩ ?_
   rintro ⟨j,o2⟩ ⟨⟨j1,j2⟩,j3⟩
   dsimp only at j1 j2 j3
   refine ZvC _ _ _ _ _ _ _ _ ?_
   rintro x1 hx1 x2 hx2 x3 hx3 x4 rfl x5 hx5
   have ex:x2=y4:=by rw [hx2,hy4,hx1,hy2]
   subst ex
   (simp only [vcT,vcS])
   have hl3:=congrArg List.length j3
   simp only [List.length_append,List.length_map,List.length_drop] at hl3
   refine ⟨fun hj=> ⟨hinv i q1 (by omega),⟨j1,hj⟩,by unfold InR;omega,hinv (i+1) (by omega) (by omega),⟨nB,nA⟩,by simp only [List.length_cons,List.length_nil];omega,by unfold InR;omega,(j+1,o2++[x5]),rfl,⟨⟨by dsimp only;omega,by dsimp only;omega⟩,?_⟩,by dsimp only;omega⟩,fun hj=> ⟨by unfold InR;omega,(i+1,o2),rfl,⟨⟨by dsimp only;omega,by dsimp only;omega⟩,?_⟩,by dsimp only;omega⟩⟩
   ·rw [Y3 j1 hj Edit.nil,List.map_cons,←hx3] at j3
    dsimp only
    rw [List.append_assoc,hx5];exact j3
   ·rw [show (Zk x2).drop j.toNat=[] from List.drop_of_length_le (by omega),List.map_nil,List.append_nil] at j3
    dsimp only
    rw [j3,hxB,List.append_assoc]
    rw [show ZH (y1.ops.drop i.toNat) - 1=ZH (y1.ops.drop (i+1).toNat) by omega] at q3
    exact q3
  ·dsimp only
   have k0:y3.kind=0:=by
    have:=ZC hro
    cases this <;> first | rfl | (exfalso;first | exact k3' rfl | exact k12.1 rfl | exact k12.2 rfl)
   have ol:=Z3M hok k0
   rw [if_neg (by omega),ol] at hxA hxB
   rw [if_pos k0,if_neg (by omega),if_neg (by omega),ol,List.nil_append] at q3
   rw [hxB,show ZH (y1.ops.drop (i+1).toNat)=ZH (y1.ops.drop i.toNat) - y3.n by omega]
   exact q3
 ·rw [List.drop_of_length_le (by omega),ZL,List.append_nil] at q3
  refine ⟨fun hl=> ?_,fun hl=> ?_⟩
  ·have:Zk y1=[y1]:=by rw [YC,if_neg h0,←q3,if_pos (by omega)]
   simp only [Zg9,this]
   (repeat' (first | exact trivial | exact rfl | apply And.intro))
  ·have:Zk y1=out:=by rw [YC,if_neg h0,←q3,if_neg (by omega)]
   simp only [Zg9,this]
   (repeat' (first | exact trivial | exact rfl | apply And.intro))
theorem c27:Contract Tryz.prog cfg 27 Zdx:=by
 refine ZAV ZuL.1 c77 ?_
 intro e _ hp
 simp only [Znt] at hp
 obtain ⟨hm,d,hr⟩:=hp
 refine ZFU _ _ ?_
 rintro y1 rfl y2 hy2
 have:=Z4w y1
 refine ⟨⟨by dsimp only;omega,d,hr⟩,⟨by rw [hy2];dsimp only;omega,d,by rw [hy2];exact Jo _ _ hr⟩,?_⟩
 simp only [Zsp,hy2]
 (repeat' (first | exact trivial | exact rfl | apply And.intro))
end Go.AM.YtpjenobkibfpcaaGreat
namespace Go.AM.YtpjenobkibfpcaaGreat
open Go.AM Go.Proofs
theorem c5:Contract Tryz.prog cfg 5 ZmI:=by
 refine ZEy c14 c18 c19 c22 c24 c27 c28 ZuL.1 ?_
 intro e _ hp
 simp only [Zwj] at hp
 refine vc5 _ _ ?_
 rintro y1 rfl
 (simp only [vcT,vcS])
 refine ⟨hp,fun hg=> ?_,fun _=> ⟨trivial,by simp only [Zwe];(repeat' (first | exact trivial | exact rfl | apply And.intro))⟩,fun hg=> ?_⟩
 ·show Z9 y1≤_
  exact Nat.le_trans (Zkv hg hp.2).2.1 (by decide)
 obtain ⟨g1,g2⟩:=hg
 obtain ⟨_,gm,gr⟩:=Zkv g1 hp.2
 have gl:YL y1=true:=by simp only [Z0J,Bool.and_eq_true] at g1;exact g1.2
 have gr':=Jo y1 64 gr
 have gl':=Z8s _ y1 64 (Nat.le_refl _) gr gl
 have gn':=Z2L _ 64 gr hp.2
 have gm':=Z4w y1
 have hpm:=Z1Z (Zv y1)
 have hpr:=Z1X _ (Zv y1) 64 (Nat.le_refl _) gr' gl'
 have hpg:=Zb4 _ (Zv y1) 64 (Nat.le_refl _) gr' gn'
 have hpn:=Zb5 _ (Zv y1) 64 (Nat.le_refl _) gr' gl' (Z78 y1)
 refine ⟨⟨by dsimp only;omega,64,gr⟩,⟨by dsimp only;omega,64,gr⟩,fun h=> absurd trivial h,?_⟩
 refine Za (ι:=Int) (fun i=> ZcS y1 i) (fun i=> 0≤i∧i≤(Zk (Zv y1)).length) (fun i=> (((Zk (Zv y1)).length:Int) - i).toNat) 0 rfl ⟨by omega,by omega⟩ ?_
 rintro i ⟨i1,i2⟩
 refine ZAc _ _ _ _ ?_
 rintro z1 rfl z2 hz2 z3 rfl z4 hz4
 (simp only [vcT,vcS])
 refine ⟨fun hi=> ?_,fun hi=> ⟨trivial,by simp only [Zwe];(repeat' (first | exact trivial | exact rfl | apply And.intro))⟩⟩
 have hmem:z3∈Zk (Zv z1):=by rw [hz2];exact Zi (by omega) _
 have m3:=hpm.1 z3 hmem
 have r3:=(hpr z3 hmem).right
 have e4:z4=z3:=by rw [hz4];exact hpn z3 hmem
 have hix:0≤i∧i < (Zk (Zv z1)).length:=⟨i1,hi⟩
 have exx:eqX z3 z3=true:=Zaq z3
 subst e4
 refine ⟨hix,hix,by show Z9 z4≤_;omega,fun _=> hix,fun _=> ⟨by dsimp only;omega,hpg z4 hmem⟩,fun _=> hix,fun _=> ⟨by dsimp only;omega,64,r3⟩,fun _=> hix,fun _=> by show Z9 z4≤_;omega,fun h=> ?_,fun _=> ⟨by unfold InR;omega,i+1,rfl,⟨by omega,by omega⟩,by omega⟩⟩
 exfalso
 rw [exx,r3] at h
 simp at h
end Go.AM.YtpjenobkibfpcaaGreat
