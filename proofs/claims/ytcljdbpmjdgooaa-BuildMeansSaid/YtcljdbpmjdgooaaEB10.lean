import Derived.Test.YtcljdbpmjdgooaaEL8
import Derived.Test.YtcljdbpmjdgooaaEL3
import Derived.Test.YtcljdbpmjdgooaaEmY
import Derived.Test.YtcljdbpmjdgooaaEQBa
import Derived.Test.YtcljdbpmjdgooaaEG1
set_option linter.unusedSimpArgs false
set_option linter.unusedVariables false
namespace Go.AM.Ytcljdbpmjdgooaa
open Go.AM Go.Proofs
theorem Zla(w:List Int):∀ n:Nat,trim (w++zs n)=trim w:=by
 have one:∀ l:List Int,trim (l++[0])=trim l:=by
  intro l
  induction l with
  | nil=> rfl
  | cons x r ih=>
   rw [QX,trim,trim,ih]
 intro n
 induction n with
 | zero=> simp [zs]
 | succ n ih=> rw [Znx,<-QM,show zs 1=[0] from rfl,one,ih]
theorem Zd4(l:List Tree):∀ n:Nat,Yp (l++List.replicate n Tree.nil)=Yp l:=by
 intro n
 induction n with
 | zero=> simp
 | succ n ih=> rw [List.replicate_succ',<-QM,Z1V rfl,ih]
theorem Z5b:∀ a b:List Tree,ZS (a++b)=ZS a++ZS b
 | [],b=> by rw [ZS];try rfl
 | t ::r,b=> by rw [QX,ZS,ZS,Z5b r b];try rfl
theorem Z2r:∀ n:Nat,ZS (List.replicate n Tree.nil)=List.replicate n Tree.nil
 | 0=> by rw [List.replicate_zero,ZS]
 | n+1=> by rw [K2,ZS,Z2r n,Zgt]
theorem Zgs:∀ (N:Nat) (t:Tree),Zm t<=N->∀ d,Z5 t d=true->Z9 (Zt t)=Z9 t:=by
 intro N
 induction N with
 | zero=> intro t h;have:=Z5h t;omega
 | succ N ih=>
 intro t hN d hr
 obtain ⟨k,w,ks⟩:=t
 rw [Zm] at hN
 have rt:=riT hr
 have kidsN:∀ (l:List Tree),Zp l<=N->(∀ t∈l,∃ d,Z5 t d=true)->ZS (ZL l)=ZS l:=by
  intro l
  induction l with
  | nil=> intro _ _;rw [ZL]
  | cons t l ih2=>
   intro hm h
   rw [Zp] at hm
   obtain ⟨d',h'⟩:=h t Q9
   rw [ZL,ZS,ZS,ih t (by omega) d' h',ih2 (by omega) fun t ht=> h t (Q7 _ ht)]
 rw [Zt,Z9,Z9]
 by_cases h0:k=0
 .rw [if_pos h0,if_pos h0]
 rw [if_neg h0,if_neg h0]
 by_cases h1:k=1
 .rw [if_pos h1,if_pos h1,if_neg (by omega),kidsN ks (by omega) fun t ht=> ⟨_,(rt.kids t ht).1⟩]
 rw [if_neg h1,if_neg h1]
 by_cases h9:k=9
 .rw [if_pos h9,Z1J]
  have:∀ (l:List Tree) (fw fk:Nat),Zp l<=N->(∀ t∈l,t.kind=1/\∃ d,Z5 t d=true)->ZS (l.map (Jh fw fk))=ZS l:=by
   intro l fw fk
   induction l with
   | nil=> intro _ _;rfl
   | cons t l ih2=>
    intro hm h
    rw [Zp] at hm
    obtain ⟨k1,d',h'⟩:=h t Q9
    rw [Xe,ZS,ZS,ih2 (by omega) fun t ht=> h t (Q7 _ ht)]
    congr 1
    obtain ⟨k',w',l'⟩:=t
    have k1:k'=1:=k1
    subst k1
    have r':=riT h'
    rw [Zm] at hm
    unfold Jh
    rw [if_neg (show ¬(Tree.mk 1 w' l').kind=9 from (by show ¬(1:Int)=9;decide))]
    show Z9 (.mk 1 (w'++zs (fw - w'.length)) (ZL l'++List.replicate (fk - l'.length) Tree.nil))=Z9 (.mk 1 w' l')
    rw [Z9,Z9,if_neg (by decide),if_pos rfl,if_neg (by decide),if_pos rfl,Zla,Z5b,Z2r,Zd4,kidsN l' (by omega) fun t ht=> ⟨_,(r'.kids t ht).1⟩]
  rw [this ks _ _ (by omega) fun t ht=> ⟨(rt.kids t ht).2.2.2 h9,_,(rt.kids t ht).1⟩]
 .rw [if_neg h9,kidsN ks (by omega) fun t ht=> ⟨_,(rt.kids t ht).1⟩]
theorem ZiQ{n:Tree}{d:Int}(hr:Z5 n d=true)(h10:n.kind≠10):
  (ZgG [0] 0 n).length=JZ n+1/\(ZgG [0] 0 n).getD 0 0=Zcu 0 1 n/\Has (ZgG [0] 0 n) 1 (Zbn n 1):=by
 have hb:=ZcO n d 1 hr h10
 unfold ZgG
 by_cases h0:n.kind=0
 .have rt:=Zhq hr
  have e:=rt.nil h0
  have hs:JZ n=0:=by rw [Zet,if_neg (by omega),if_neg (by omega),if_neg (by omega),if_neg (by omega),e.2];try rfl
  have hbl:Zbn n 1=[]:=Qk.1 (by omega)
  rw [if_pos h0,hs,hbl]
  refine ⟨rfl,?_,⟨[0],[],rfl,rfl⟩⟩
  rw [ZlZ,if_pos h0]
  try rfl
 .rw [if_neg h0]
  refine ⟨?_,rfl,⟨[Zcu 0 1 n],[],by simp,rfl⟩⟩
  rw [Qb,QR]
  show 1+(Zbn n 1).length=_
  omega
theorem Zm8{t:Tree}{m:Int}(h:(ZcG t m).2=true):Z5 t 64=true/\t.kind≠10/\(JZ (Z9 t):Int) < m/\JZ (Z9 t) < 131072/\ZcG t m=(ZgG [0] 0 (Z9 t),true):=by
 unfold ZcG at h ⊢
 split at h
 .rename_i h1
  rw [if_pos h1]
  split at h
  .rename_i h2
   rw [if_pos h2]
   exact ⟨h1.1,h1.2,h2.1,h2.2,rfl⟩
  .cases h
 .cases h
theorem Zpt{t:Tree}{m:Int}(h:(ZcG t m).2=false):ZcG t m=([],false):=by
 unfold ZcG at h ⊢
 split
 .rename_i h1
  rw [if_pos h1] at h
  split
  .rename_i h2
   rw [if_pos h2] at h
   cases h
  .try rfl
 .try rfl
theorem enc_len(t:Tree)(m:Int):(ZcG t m).1.length<=131072:=by
 cases h:(ZcG t m).2 with
 | false=> rw [Zpt h];simp
 | true=>
  obtain ⟨h1,h2,_,h4,h5⟩:=Zm8 h
  rw [h5]
  have:=(ZiQ (J2 _ _ h1) (by rw [Z0T];exact h2)).1
  dsimp only
  omega
def ZfV(L:List (List Int)):Prop:=L.length<=16/\∀ s,(Zh L s).length<=131072
theorem Z92{d:Bool}{s o:Int}(hs:0<=s/\s < 4294967296)(ho:0<=o/\o < 536870912):Z6 (Yo d s o)=⟨3,o,0,0,0,0,s,d⟩:=by
 unfold Yo Z6
 cases d with
 | true=>
  rw [if_pos rfl,if_neg (by omega),if_neg (by omega),if_neg (by omega),if_pos (by omega)]
  congr 1
  .omega
  .omega
  .exact decide_eq_true (by omega)
 | false=>
  simp only [Qs,if_false]
  rw [if_neg (by omega),if_neg (by omega),if_neg (by omega),if_pos (by omega)]
  congr 1
  .omega
  .omega
  .exact decide_eq_false (by omega)
structure PtrOf (k up m:Int) (P:Int->Ptr):Prop where
 dec:∀ o,-536870912<=o/\o < 536870912->¬(o=0/\k=0/\up=0)->Z6 (4*(o % 1073741824)+k+4294967296*up)=P o
 off:∀ o,(P o).off=o
 kind:∀ o,(P o).kind=1\/(P o).kind=2
 words:∀ o,ZY (P o)=m
 zero:∀ o,Zdz (P o)=P 0
theorem Z1G{L:List (List Int)}(h:ZfV L){s i n:Int}(hh:Zc L s i n=true):(0<=s/\s < 16)/\(0<=i/\i<=131072):=by
 have hb:=Z3.1 hh
 have:=h.1
 have:=h.2 s
 omega
theorem ZbR{p:Ptr}(h:p.kind=1\/p.kind=2):Jj p=0:=by
 unfold Jj
 rw [if_neg (by omega),if_pos h]
theorem Z2h{F:Int->Int->Prop}{L:List (List Int)}(hL:ZfV L){s i s' i' k up m:Int}{P:Int->Ptr}(hP:PtrOf k up m P)(hp:Points F L s i s' i' k up)(hm:Zc L s' i' m=true)(hz0:k=0/\up=0->m=0):
  Ze L s i=(⟨P 0,if k=0/\up=0 then s else s',if k=0/\up=0 then i else i'⟩,0):=by
 obtain ⟨⟨h1,_⟩,h3⟩:=hp
 have b1:=Z1G hL h1
 have b2:=Z1G hL hm
 have hb1:=Z3.1 h1
 have near:∀ {x y o s2 i2:Int},-536870912<=o/\o < 536870912->¬(o=0/\k=0/\up=0)->Zg L x y=4*(o % 1073741824)+k+4294967296*up->x=s2->y+1+o=i2->Zc L s2 i2 m=true->Jr L (Z6 (Zg L x y)) x y=(⟨P 0,s2,i2⟩,0):=by
  intro x y o s2 i2 ho hz hg e1 e2 hh
  rw [hg,hP.dec o ho hz]
  unfold Jr YA
  rw [if_pos (ZbR (hP.kind o))]
  dsimp only
  rw [hP.off,hP.words,e1,e2,if_pos hh,hP.zero]
 rcases h3 with ⟨hc,hg⟩ | ⟨hz,p,e1,⟨e2,_⟩,e4⟩ | ⟨hz,x,y,e1,⟨e2,_,_⟩,e5,e6⟩
 .by_cases hz:k=0/\up=0
  .rw [if_pos hz,if_pos hz]
   have hg':Zg L s i=4*((-1) % 1073741824)+k+4294967296*up:=by
    rw [hg]
    unfold pwA
    rw [if_pos hz,hz.1,hz.2]
    decide
   have hd:=hP.dec (-1) (by decide) (by omega)
   have hn:=near (o:= -1) (s2:=s) (i2:=i) (by decide) (by omega) hg' rfl (by omega) (by rw [hz0 hz];exact Z3.2 ⟨hb1.1,hb1.2.1,hb1.2.2.1,by decide,by omega⟩)
   unfold Ze
   have hk:=hP.kind (-1)
   rw [if_pos h1,hg',hd,if_neg (by omega),if_pos (by omega),<-hd,<-hg',hn]
  .have hs:s=s':=hc.resolve_right hz
   rw [if_neg hz,if_neg hz]
   have hg':Zg L s i=4*((i' - i - 1) % 1073741824)+k+4294967296*up:=by
    rw [hg]
    unfold pwA
    rw [if_neg hz]
    try rfl
   have hd:=hP.dec (i' - i - 1) (by omega) (fun q=> hz q.2)
   have hn:=near (o:=i' - i - 1) (s2:=s') (i2:=i') (by omega) (fun q=> hz q.2) hg' hs (by omega) hm
   unfold Ze
   have hk:=hP.kind (i' - i - 1)
   rw [if_pos h1,hg',hd,if_neg (by omega),if_pos (by omega),<-hd,<-hg',hn]
 .rw [if_neg hz,if_neg hz]
  have b3:=Z1G hL e2
  have hd:=Z92 (d:=false) (s:=s') (o:=p) ⟨by omega,by omega⟩ ⟨by omega,by omega⟩
  have hg':Zg L s' p=4*((i' - p - 1) % 1073741824)+k+4294967296*up:=by
   rw [e4]
   unfold pwA
   rw [if_neg hz]
   try rfl
  have hn:=near (o:=i' - p - 1) (s2:=s') (i2:=i') (by omega) (fun q=> hz q.2) hg' rfl (by omega) hm
  unfold Ze
  rw [if_pos h1,e1,hd]
  dsimp only
  rw [if_neg (by decide),if_neg (by decide),if_neg (by decide),if_pos e2,hn]
 .rw [if_neg hz,if_neg hz]
  have b3:=Z1G hL e2
  have hd:=Z92 (d:=true) (s:=x) (o:=y) ⟨by omega,by omega⟩ ⟨by omega,by omega⟩
  have hd2:=Z92 (d:=false) (s:=s') (o:=i') ⟨by omega,by omega⟩ ⟨by omega,by omega⟩
  have hd3:=hP.dec 0 (by decide) (fun q=> hz q.2)
  rw [show 4*((0:Int) % 1073741824)+k+4294967296*up=k+4294967296*up by omega] at hd3
  unfold Ze
  rw [if_pos h1,e1,hd]
  dsimp only
  rw [if_neg (by decide),if_neg (by decide),if_pos rfl]
  unfold Je
  rw [if_pos e2,e5,hd2,e6,hd3,if_neg (by dsimp only;rintro (q | q);exact q rfl;cases q),if_neg (by rw [ZbR (hP.kind 0)];exact fun q=> q rfl),if_neg (by rw [hP.off];exact fun q=> q rfl)]
  unfold YA
  dsimp only
  rw [hP.words,if_pos hm,hP.zero]
theorem Zdo{d p:Int}(hd:0<=d/\d < 65536)(hp:0<=p/\p < 65536):PtrOf 0 (d+65536*p) (d+p) (fun o=> ⟨1,o,d,p,0,0,0,false⟩):=
 ⟨fun o ho hz=> Z4E ho hd hp (by omega),fun _=> rfl,fun _=> .inl rfl,fun _=> rfl,fun _=> rfl⟩
theorem Z8p{c n m:Int}(hc:0<=c/\c < 8)(hn:0<=n/\n < 536870912)(hm:∀ o,ZY ⟨2,o,0,0,c,n,0,false⟩=m):PtrOf 1 (c+8*n) m (fun o=> ⟨2,o,0,0,c,n,0,false⟩):=
 ⟨fun o ho _=> ZcI ho hc hn,fun _=> rfl,fun _=> .inr rfl,hm,fun _=> rfl⟩
theorem Z5Z{f:Int->Int->Tree × Int × Int}{cost:Tree->Int}:∀ (l:List Tree) (i left:Int) (acc:List Tree),0<=left->
  (∀ j:Nat,j < l.length->∀ left,0<=left->(cost (l.getD j Tree.nil)<=left->f (i+j) left=(l.getD j Tree.nil,left - cost (l.getD j Tree.nil),0))/\(left < cost (l.getD j Tree.nil)->(f (i+j) left).2.2=3))->(∀ t∈l,0<=cost t)->
   (Z0t cost l<=left->ZZ f l.length i left acc=(acc++l,left - Z0t cost l,0))/\(left < Z0t cost l->(ZZ f l.length i left acc).2.2=3)
 | [],i,left,acc,hl0,_,_=> ⟨fun _=> by simp [ZZ,Z0t],fun h=> by rw [Z0t] at h;omega⟩
 | t ::r,i,left,acc,hl0,h,h0=> by
  have ht0:=h0 t Q9
  have hr0:=Z2B fun t ht=> h0 t (Q7 _ ht)
  have h1:=h 0 (by simp) left hl0
  simp only [List.getD_cons_zero,Int.natCast_zero,K1] at h1
  have hr:=fun hp=> Z5Z r (i+1) (left - cost t) (acc++[t]) hp (fun j hj left hl=> by
   have:=h (j+1) (by simpa using hj) left hl
   rw [show i+1+(j:Int)=i+((j+1:Nat):Int) by omega]
   simpa using this) (fun t ht=> h0 t (List.mem_cons_of_mem _ ht))
  rw [Z0t,Qc,ZZ]
  refine ⟨fun hl=> ?_,fun hl=> ?_⟩
  .rw [h1.1 (by omega)]
   dsimp only
   rw [if_pos rfl,(hr (by omega)).1 (by omega)]
   simp only [QM,List.singleton_append,Prod.mk.injEq,true_and,and_true]
   omega
  .by_cases hc:cost t<=left
   .rw [h1.1 hc]
    dsimp only
    rw [if_pos rfl]
    exact (hr (by omega)).2 (by omega)
   .have:=h1.2 (by omega)
    rw [if_neg (by rw [this];decide)]
    exact this
theorem Z4N {L:List (List Int)} {d:Nat} {m m':XRef->Int->Tree × Int × Int} {x:XRef} {left own W:Int} {l:List Tree} {cost:Tree->Int} (hk:x.kind≠0) (hd:¬(d=0\/(x.kind=9/\0 < x.count/\d < 2))) (hown:ZV x=own) (hlen:(ZH x).toNat=l.length)
  (hf:∀ j:Nat,j < l.length->∀ left,0<=left->(cost (l.getD j Tree.nil)<=left->Ym L m m' x (0+(j:Int)) left=(l.getD j Tree.nil,left - cost (l.getD j Tree.nil),0))/\(left < cost (l.getD j Tree.nil)->(Ym L m m' x (0+(j:Int)) left).2.2=3)) (h0:∀ t∈l,0<=cost t) (hW:W=own+Z0t cost l):
  (W<=left->YR L d m m' x left=(⟨x.kind,ZF L x,l⟩,left - W,0))/\(left < W->(YR L d m m' x left).2.2=3):=by
 have hs:=Z2B h0
 unfold YR
 rw [if_neg hk,hown,hlen]
 by_cases ho:left < own
 .rw [if_pos (.inr (.inr ho))]
  exact ⟨fun h=> by omega,fun _=> rfl⟩
 .rw [if_neg (by rintro (q | q | q);exact hd (.inl q);exact hd (.inr q);exact ho q)]
  obtain ⟨r1,r2⟩:=Z5Z l 0 (left - own) [] (by omega) hf h0
  refine ⟨fun h=> ?_,fun h=> ?_⟩
  .rw [r1 (by omega)]
   simp only [X5,Prod.mk.injEq,true_and,and_true]
   omega
  .exact r2 (by omega)
theorem LiesK.get{F:Int->Int->Prop}{L:List (List Int)}:∀ {ks:List Tree} {s i:Int},LiesK F L ks s i->∀ j:Nat,j < ks.length->Lies F L (ks.getD j Tree.nil) s (i+j)
 | [],_,_,_,j,hj=> by cases hj
 | t ::r,s,i,h,j,hj=> by
  rw [LiesK] at h
  cases j with
  | zero=> simpa using h.1
  | succ j=>
   have:=LiesK.get h.2 j (by simpa using hj)
   rw [show i+((j+1:Nat):Int)=i+1+(j:Int) by omega]
   simpa using this
theorem LiesR.get{fw fk:Nat}{F:Int->Int->Prop}{L:List (List Int)}:∀ {ks:List Tree} {s i:Int},LiesR fw fk F L ks s i->∀ j:Nat,j < ks.length->
  WordsAt F L s (i+j*((fw:Int)+fk)) ((ks.getD j Tree.nil).words++zs (fw - (ks.getD j Tree.nil).words.length))/\LiesK F L (ks.getD j Tree.nil).kids s (i+j*((fw:Int)+fk)+fw)/\WordsAt F L s (i+j*((fw:Int)+fk)+fw+(ks.getD j Tree.nil).kids.length) (zs (fk - (ks.getD j Tree.nil).kids.length))
 | [],_,_,_,j,hj=> by cases hj
 | .mk k w l ::r,s,i,h,j,hj=> by
  rw [LiesR] at h
  cases j with
  | zero=> simpa using ⟨h.1,h.2.1,h.2.2.1⟩
  | succ j=>
   have:=LiesR.get h.2.2.2 j (by simpa using hj)
   have e:i+((j+1:Nat):Int)*((fw:Int)+fk)=i+((fw:Int)+fk)+j*((fw:Int)+fk):=by
    rw [Xw,Xn]
    omega
   rw [e]
   simpa using this
theorem Z4c{F:Int->Int->Prop}{L:List (List Int)}{s i:Int}{w:List Int}(h:WordsAt F L s i w):((Zh L s).drop i.toNat).take w.length=w:=by
 obtain ⟨h1,h2⟩:=h
 have hb:=Z3.1 h1
 refine Ka (by rw [Qd,Xq];omega) fun j hj hj2=> ?_
 have:=(h2 j hj2).2
 unfold Zg at this
 rw [Q2,Q0 (by omega),Qu,Q2,Q0 hj2,Qu] at this
 rw [List.getElem_take,List.getElem_drop,<-this]
 congr 1
 omega
theorem ZeM{L:List (List Int)}{s i:Int}(h:Zc L s i 1=true)(hz:Zg L s i=0):Zo L s i=(xz,0):=by
 have hf:Ze L s i=(Z1l,0):=by
  unfold Ze
  rw [if_pos h,hz]
  try rfl
 unfold Zo
 rw [hf]
 try rfl
theorem ZcA:∀ l:List Tree,(∀ t∈l,t.kind=10/\t.kids.length=0/\t.words.length=1)->ZL l=l/\Zl l=l.length
 | [],_=> ⟨by rw [ZL],by rw [Zl];rfl⟩
 | t ::l,h=> by
  obtain ⟨i1,i2⟩:=ZcA l fun t ht=> h t (Q7 _ ht)
  have h1:=h t Q9
  obtain ⟨k',w',l'⟩:=t
  obtain ⟨e1,e2,_⟩:=h1
  dsimp only [Tree.kind_mk,Tree.kids_mk] at e1 e2
  have e2:=Qk.1 e2
  subst e1 e2
  refine ⟨by rw [ZL,i1,Zt,if_neg (by decide),ZL],?_⟩
  rw [Zl,i2,weight,if_neg (by decide),if_neg (by decide),if_neg (by decide),Zl,Qc]
  omega
theorem Z9L:∀ l:List Tree,Z0t (fun _=> 0) l=0
 | []=> rfl
 | _ ::l=> by rw [Z0t,Z9L l];try rfl
def Znv(L:List (List Int))(d:Nat)(t:Tree)(s i:Int):Prop:=
 ∃ x,Zo L s i=(x,0)/\∀ left,0<=left->(weight (Zt t)<=left->Zs L d x left=(Zt t,left - weight (Zt t),0))/\(left < weight (Zt t)->(Zs L d x left).2.2=3)
theorem Z64{L:List (List Int)}{d:Nat}{t:Tree}{s i left:Int}(h:Znv L d t s i)(hl:0<=left):
  (weight (Zt t)<=left->(if (Zo L s i).2=0 then Zs L d (Zo L s i).1 left else (Tree.nil,left,(Zo L s i).2))=(Zt t,left - weight (Zt t),0))/\
   (left < weight (Zt t)->(if (Zo L s i).2=0 then Zs L d (Zo L s i).1 left else (Tree.nil,left,(Zo L s i).2)).2.2=3):=by
 obtain ⟨x,h1,h2⟩:=h
 rw [h1,if_pos rfl]
 exact h2 left hl
set_option maxHeartbeats 1000000 in
theorem ZgC{L:List (List Int)}(hL:ZfV L){F:Int->Int->Prop}:∀ (N:Nat) (t:Tree),Zm t<=N->∀ (d:Nat) (s i:Int),Z5 t d=true->t.kind≠10->rng t->Lies F L t s i->Znv L d t s i:=by
 intro N
 induction N with
 | zero=> intro t h;have:=Z5h t;omega
 | succ N ih=>
 intro t hN d s i hr h10 hg hl
 obtain ⟨k,w,ks⟩:=t
 have h10:k≠10:=h10
 have rt:=riT hr
 have hk:=rt.kind
 have hlk:=rt.len
 rw [Zm] at hN
 rw [Lies] at hl
 by_cases h0:k=0
 .rw [if_pos h0] at hl
  obtain ⟨rfl,rfl⟩:=rt.nil h0
  subst h0
  have e2:Zt (.mk 0 [] [])=Tree.nil:=by rw [Zt,if_neg (by decide),ZL];try rfl
  refine ⟨xz,ZeM hl.1.1 hl.2,fun left hl0=> ?_⟩
  rw [e2,Zf9]
  refine ⟨fun _=> by simp [Tree.nil,weight],fun q=> ?_⟩
  have:weight Tree.nil=0:=by simp [Tree.nil,weight]
  omega
 rw [if_neg h0] at hl
 have hd:1<=d:=by
  rcases Nat.eq_zero_or_pos d with h | h
  .subst h
   rw [Z5,if_neg h0,if_neg h10,if_pos (by simp)] at hr
   cases hr
  .exact h
 have hdI:((d - 1:Nat):Int)=(d:Int) - 1:=by omega
 have hgk:∀ t'∈ks,rng t':=fun t' ht=> Jx hg (show t'∈(Tree.mk k w ks).kids from ht)
 have hwk:0<=Zl (ZL ks):=by rw [<-JD];exact Z2B fun t _=> Jq t
 by_cases h1:k=1
 .rw [if_pos h1] at hl
  obtain ⟨s',i',pt,hh,wd,lk⟩:=hl
  have hs:=rt.stru h1
  have hfo:=Z2h hL (Zdo (d:=(w.length:Int)) (p:=(ks.length:Int)) (by omega) (by omega)) pt hh (fun q=> by omega)
  obtain ⟨X,hX⟩:∃ X,X=if (0:Int)=0/\(w.length:Int)+65536*ks.length=0 then s else s':=⟨_,rfl⟩
  obtain ⟨Y,hY⟩:∃ Y,Y=if (0:Int)=0/\(w.length:Int)+65536*ks.length=0 then i else i':=⟨_,rfl⟩
  rw [<-hX,<-hY] at hfo
  have hne:w.length+ks.length≠0->X=s'/\Y=i':=fun q=> by rw [hX,hY,if_neg (by omega),if_neg (by omega)];exact ⟨rfl,rfl⟩
  have hxe:Zo L s i=(⟨1,X,Y,w.length,ks.length,0,0⟩,0):=by
   unfold Zo
   rw [hfo]
   try rfl
  refine ⟨_,hxe,fun left hl0=> ?_⟩
  have ef:Zt (.mk k w ks)= .mk 1 w (ZL ks):=by rw [Zt,if_neg (by omega),h1]
  have ew:weight (.mk 1 w (ZL ks))=1+(w.length:Int)+ks.length+Z0t weight (ZL ks):=by rw [weight,if_neg (by decide),if_pos rfl,Yx,JD];omega
  have ewx:ZF L ⟨1,X,Y,w.length,ks.length,0,0⟩=w:=by
   unfold ZF
   rw [if_neg (show ¬(1:Int)=10 by decide),if_pos rfl]
   dsimp only
   by_cases hz:w.length+ks.length=0
   .have:w=[]:=Qk.1 (by omega)
    subst this
    try rfl
   .rw [(hne hz).1,(hne hz).2,Qj]
    exact Z4c wd
  rw [JT hd,ef]
  have hst:=Z4N (L:=L) (d:=d) (m:=Zs L (d - 1)) (m':=Zs L (d - 2)) (x:=⟨1,X,Y,w.length,ks.length,0,0⟩) (left:=left) (own:=1+(w.length:Int)+ks.length) (W:=weight (.mk 1 w (ZL ks))) (l:=ZL ks) (cost:=weight)
   (show ¬(1:Int)=0 by decide) (by rintro (q | q);omega;exact absurd q.1 (show ¬(1:Int)=9 by decide)) rfl (by rw [Yx];rfl) (fun j hj left' hl'=> by
    rw [Yx] at hj
    rw [Z3Q ks j hj]
    have hm:=Z1I hj
    have hkx:Zk L ⟨1,X,Y,w.length,ks.length,0,0⟩ (0+(j:Int))=Zo L s' (i'+w.length+j):=by
     unfold Zk
     rw [if_neg (by show ¬((0:Int)+j < 0\/(ks.length:Int)<=0+j);omega),if_pos rfl]
     dsimp only
     rw [(hne (by omega)).1,(hne (by omega)).2,XO]
    unfold Ym
    rw [hkx]
    dsimp only
    rw [if_neg (show ¬(1:Int)=9 by decide),if_pos (show (1:Int)=1\/(1:Int)=8 from .inl rfl)]
    exact Z64 (ih _ (by have:=Z1x hm;omega) (d - 1) s' _ (by rw [hdI];exact (rt.kids _ hm).1) ((rt.kids _ hm).2.2.1 (.inl h1)) (hgk _ hm) (lk.get j hj)) hl') (fun t _=> Jq t) ew
  rw [ewx] at hst
  exact hst
 rw [if_neg h1] at hl
 have hw0:w=[]:=rt.list h1 h10
 subst hw0
 by_cases h8:k=8
 .rw [if_pos h8] at hl
  obtain ⟨s',i',pt,hh,lk⟩:=hl
  have hfo:=Z2h hL (Z8p (c:=6) (n:=(ks.length:Int)) (m:=(ks.length:Int)) (by decide) (by omega) (fun o=> by rw [Z6n (by decide) (by omega),show Z0k 6=64 from rfl];omega)) pt hh (fun q=> absurd q.1 (by decide))
  rw [if_neg (fun q=> absurd q.1 (by decide)),if_neg (fun q=> absurd q.1 (by decide))] at hfo
  have hxe:Zo L s i=(⟨8,s',i',0,0,ks.length,0⟩,0):=by
   unfold Zo
   rw [hfo]
   try rfl
  refine ⟨_,hxe,fun left hl0=> ?_⟩
  have ef:Zt (.mk k [] ks)= .mk 8 [] (ZL ks):=by rw [Zt,if_neg (by omega),h8]
  have ew:weight (.mk 8 [] (ZL ks))=1+(ks.length:Int)+Z0t weight (ZL ks):=by rw [weight,if_neg (by decide),if_neg (by decide),if_pos rfl,Yx,JD]
  rw [JT hd,ef]
  exact Z4N (L:=L) (d:=d) (m:=Zs L (d - 1)) (m':=Zs L (d - 2)) (x:=⟨8,s',i',0,0,ks.length,0⟩) (left:=left) (own:=1+(ks.length:Int)) (W:=weight (.mk 8 [] (ZL ks))) (l:=ZL ks) (cost:=weight)
   (show ¬(8:Int)=0 by decide) (by rintro (q | q);omega;exact absurd q.1 (show ¬(8:Int)=9 by decide)) rfl (by rw [Yx];rfl) (fun j hj left' hl'=> by
    rw [Yx] at hj
    rw [Z3Q ks j hj]
    have hm:=Z1I hj
    have hkx:Zk L ⟨8,s',i',0,0,ks.length,0⟩ (0+(j:Int))=Zo L s' (i'+j):=by
     unfold Zk
     rw [if_neg (by show ¬((0:Int)+j < 0\/(ks.length:Int)<=0+j);omega),if_neg (show ¬(8:Int)=1 by decide),if_pos rfl]
     dsimp only
     rw [XO]
    unfold Ym
    rw [hkx]
    dsimp only
    rw [if_neg (show ¬(8:Int)=9 by decide),if_pos (show (8:Int)=1\/(8:Int)=8 from .inr rfl)]
    exact Z64 (ih _ (by have:=Z1x hm;omega) (d - 1) s' _ (by rw [hdI];exact (rt.kids _ hm).1) ((rt.kids _ hm).2.2.1 (.inr h8)) (hgk _ hm) (lk.get j hj)) hl') (fun t _=> Jq t) ew
 rw [if_neg h8] at hl
 by_cases h9:k=9
 .rw [if_pos h9] at hl
  obtain ⟨s',i',pt,hh,⟨_,htag⟩,lr⟩:=hl
  have hkk:∀ t'∈ks,t'.kind=1:=fun t' ht=> (rt.kids t' ht).2.2.2 h9
  have hfr:=Zfw (ks:=ks) fun t' ht=> by
   have hk1:=hkk t' ht
   have:=(rt.kids t' ht).1
   obtain ⟨k',w',l'⟩:=t'
   exact (riT this).stru hk1
  have hfit:∀ t'∈ks,t'.words.length<=frW ks/\t'.kids.length<=frK ks:=fun t' ht=> Z4C ht
  have ef:Zt (.mk k [] ks)= .mk 9 [] (ks.map (Jh (frW ks) (frK ks))):=by rw [Zt,if_pos h9,Z1J,h9]
  have fz:ks.length=0->frW ks=0/\frK ks=0:=fun h=> by
   rw [Qk.1 h];exact ⟨rfl,rfl⟩
  generalize hfw:frW ks=fw at*
  generalize hfk:frK ks=fk at*
  obtain ⟨P,hP⟩:∃ P:Int,P=(ks.length:Int)*((fw:Int)+fk):=⟨_,rfl⟩
  have hP0:0<=P:=by rw [hP];exact Qw (by omega) (by omega)
  rw [<-hP] at pt hh
  have bs:=Z1G hL hh
  have hhb:=Z3.1 hh
  have hsl:=hL.2 s'
  have hfo:=Z2h hL (Z8p (c:=7) (n:=P) (m:=1+P) (by decide) (by omega) (fun o=> by show P+1=1+P;omega)) pt hh (fun q=> absurd q.1 (by decide))
  rw [if_neg (fun q=> absurd q.1 (by decide)),if_neg (fun q=> absurd q.1 (by decide))] at hfo
  have hcx:Z0r L s' i' P=(⟨9,s',i'+1,fw,fk,ks.length,0⟩,0):=by
   by_cases hz:ks.length=0
   .obtain ⟨z1,z2⟩:=fz hz
    have ht0:Zg L s' i'=0:=by rw [htag,hz,z1,z2];try rfl
    have hn0:P=0:=by rw [hP,hz];simp
    unfold Z0r
    rw [ht0,hn0,hz,z1,z2]
    try rfl
   .have ht:Z6 (Zg L s' i')=⟨1,ks.length,fw,fk,0,0,0,false⟩:=by
     rw [htag]
     have:=Z4E (o:=ks.length) (d:=fw) (p:=fk) (by omega) (by omega) (by omega) (by omega)
     rw [<-this]
     congr 1
     unfold Z5G
     omega
    unfold Z0r
    rw [ht,if_neg]
    dsimp only
    rintro (h | h | h)
    .exact h.2 rfl
    .omega
    .omega
  have hxe:Zo L s i=(⟨9,s',i'+1,fw,fk,ks.length,0⟩,0):=by
   unfold Zo
   rw [hfo]
   dsimp only
   rw [if_neg (by rintro (q | q);exact q rfl;cases q),if_neg (by decide),if_neg (by decide),hcx]
  refine ⟨_,hxe,fun left hl0=> ?_⟩
  have cost:∀ t'∈ks,weight (Jh fw fk t')=1+(fw:Int)+fk+Zl (ZL t'.kids):=by
   intro t' ht
   have:=hfit t' ht
   unfold Jh
   rw [hkk t' ht,weight,if_neg (by decide),if_pos rfl,if_neg (by decide),Z2z,Z2y]
   simp only [Qb,Z0G,Qv,Yx]
   omega
  let c:Tree->Int:=fun t'=> weight t' - (1+(fw:Int)+fk)
  have hc0:∀ t'∈ks.map (Jh fw fk),0<=c t':=by
   intro t' ht
   obtain ⟨s,hs,rfl⟩:=Xi.1 ht
   show 0<=weight _ - _
   rw [cost s hs]
   have:0<=Zl (ZL s.kids):=by rw [<-JD];exact Z2B fun t _=> Jq t
   omega
  have hsum:∀ l:List Tree,Z0t c l=Zl l - l.length*(1+(fw:Int)+fk):=by
   intro l
   induction l with
   | nil=> rw [Z0t,Zl];simp
   | cons t l ih=>
    rw [Z0t,Zl,ih,Qc]
    show weight t - _+_=_
    rw [Xw,Xn]
    omega
  have hs:=hsum (ks.map (Jh fw fk))
  rw [QG] at hs
  have ew:weight (.mk 9 [] (ks.map (Jh fw fk)))=(1+(ks.length:Int)*(1+(fw:Int)+fk))+Z0t c (ks.map (Jh fw fk)):=by rw [weight,if_neg (by decide),if_neg (by decide),if_neg (by decide)];omega
  have hd2:0 < ks.length->2<=d:=by
   intro hp
   have hm:=Z1I hp
   have:=(rt.kids _ hm).1
   have hk1:=hkk _ hm
   clear hm
   generalize ks.getD 0 Tree.nil=s at*
   obtain ⟨k',w',l'⟩:=s
   have hk1:k'=1:=hk1
   rw [Z5,if_neg (by omega),if_neg (by omega)] at this
   split at this
   .cases this
   .omega
  rw [JT hd,ef]
  exact Z4N (L:=L) (d:=d) (m:=Zs L (d - 1)) (m':=Zs L (d - 2)) (x:=⟨9,s',i'+1,fw,fk,ks.length,0⟩) (left:=left) (own:=1+(ks.length:Int)*(1+(fw:Int)+fk)) (W:=weight (.mk 9 [] (ks.map (Jh fw fk)))) (l:=ks.map (Jh fw fk)) (cost:=c)
   (show ¬(9:Int)=0 by decide) (by rintro (q | q);omega;(have h1:=q.2.1;have h2:=hd2 (by dsimp only at h1;omega);have h3:=q.2.2;omega)) rfl (by rw [List.length_map];rfl) (fun j hj left' hl'=> by
    rw [QG] at hj
    have eg:(ks.map (Jh fw fk)).getD j Tree.nil=Jh fw fk (ks.getD j Tree.nil):=by
     rw [Q2,Qa,Q0 hj,Q2,Q0 hj];try rfl
    rw [eg]
    have hm:=Z1I hj
    have hft:=hfit _ hm
    have hc:=cost _ hm
    obtain ⟨l1,l2,l3⟩:=lr.get j hj
    generalize ht':ks.getD j Tree.nil=st at*
    have hs1:=hkk st hm
    have hsr:=(rt.kids st hm).1
    have hsg:=hgk st hm
    have hsm:=Z1x hm
    obtain ⟨sk,sw,sl⟩:=st
    have hs1:sk=1:=hs1
    subst hs1
    dsimp only [Tree.words_mk,Tree.kids_mk] at l1 l2 l3 hft hc
    have rs:=riT hsr
    rw [Zm] at hsm
    have ec:c (Jh fw fk (.mk 1 sw sl))=Zl (ZL sl):=by
     show weight _ - _=_
     rw [hc];omega
    obtain ⟨B,hB⟩:∃ B:Int,B=i'+1+j*((fw:Int)+fk):=⟨_,rfl⟩
    rw [<-hB] at l1 l2 l3
    have hkx:Zk L ⟨9,s',i'+1,fw,fk,ks.length,0⟩ (0+(j:Int))=(⟨1,s',B,fw,fk,0,0⟩,0):=by
     unfold Zk
     rw [if_neg (by show ¬((0:Int)+j < 0\/(ks.length:Int)<=0+j);omega),if_neg (show ¬(9:Int)=1 by decide),if_neg (show ¬(9:Int)=8 by decide),if_pos rfl]
     dsimp only
     rw [XO,hB]
    have ewx:ZF L ⟨1,s',B,fw,fk,0,0⟩=sw++zs (fw - sw.length):=by
     unfold ZF
     rw [if_neg (show ¬(1:Int)=10 by decide),if_pos rfl]
     dsimp only
     have:=Z4c l1
     rw [Qb,Z0G,show sw.length+(fw - sw.length)=fw by omega] at this
     rw [Qj]
     exact this
    have hsumk:Z0t weight (ZL sl++List.replicate (fk - sl.length) Tree.nil)=Zl (ZL sl):=by rw [JD,Z2z,Z2y];omega
    have hlk':(ZL sl++List.replicate (fk - sl.length) Tree.nil).length=fk:=by rw [Qb,Yx,Qv];omega
    have hin:=Z5Z (f:=fun j' left=> if (Zk L ⟨1,s',B,fw,fk,0,0⟩ j').2=0 then Zs L (d - 2) (Zk L ⟨1,s',B,fw,fk,0,0⟩ j').1 left else (Tree.nil,left,(Zk L ⟨1,s',B,fw,fk,0,0⟩ j').2)) (cost:=weight)
     (ZL sl++List.replicate (fk - sl.length) Tree.nil) 0 left' [] hl' (fun i2 hi left2 hle2=> by
      rw [hlk'] at hi
      have hkx2:Zk L ⟨1,s',B,fw,fk,0,0⟩ (0+(i2:Int))=Zo L s' (B+fw+i2):=by
       unfold Zk
       rw [if_neg (by show ¬((0:Int)+i2 < 0\/(fk:Int)<=0+i2);omega),if_pos rfl]
       dsimp only
       rw [XO]
      rw [hkx2]
      by_cases hi2:i2 < sl.length
      .have egk:(ZL sl++List.replicate (fk - sl.length) Tree.nil).getD i2 Tree.nil=Zt (sl.getD i2 Tree.nil):=by
        rw [Q2,Qf (by rw [Yx];exact hi2),<-Q2,Z3Q sl i2 hi2]
       rw [egk]
       have hm2:=Z1I hi2
       have hd2':=hd2 (by omega)
       have hsg2:rng (sl.getD i2 Tree.nil):=Jx hsg (show sl.getD i2 Tree.nil∈(Tree.mk 1 sw sl).kids from hm2)
       exact Z64 (ih (sl.getD i2 Tree.nil) (by have:=Z1x hm2;omega) (d - 2) s' _ (by rw [show ((d - 2:Nat):Int)=(d:Int) - 1 - 1 by omega];exact (rs.kids _ hm2).1) ((rs.kids _ hm2).2.2.1 (.inl rfl)) hsg2 (l2.get i2 hi2)) hle2
      .have egk:(ZL sl++List.replicate (fk - sl.length) Tree.nil).getD i2 Tree.nil=Tree.nil:=by
        rw [Q2,Qe (by rw [Yx];omega),QW]
        split <;> rfl
       rw [egk]
       obtain ⟨w1,w2⟩:=l3
       have wb:=Z3.1 w1
       rw [Z0G] at wb
       have wz:=(w2 (i2 - sl.length) (by rw [Z0G];omega)).2
       rw [show B+(fw:Int)+(sl.length:Int)+((i2 - sl.length:Nat):Int)=B+fw+i2 by omega] at wz
       have hz0:(zs (fk - sl.length)).getD (i2 - sl.length) 0=0:=by
        rw [Q2,zs,QW]
        split <;> rfl
       rw [hz0] at wz
       rw [ZeM (Z3.2 ⟨wb.1,wb.2.1,by omega,by decide,by omega⟩) wz]
       dsimp only
       rw [if_pos rfl,Zf9]
       have:weight Tree.nil=0:=by simp [Tree.nil,weight]
       refine ⟨fun _=> by rw [this];simp,fun q=> by omega⟩) (fun t _=> Jq t)
    rw [hsumk,hlk'] at hin
    have hkm:Ym L (Zs L (d - 1)) (Zs L (d - 2)) ⟨9,s',i'+1,fw,fk,ks.length,0⟩ (0+(j:Int)) left'=Js L (Zs L (d - 2)) ⟨1,s',B,fw,fk,0,0⟩ left':=by
     unfold Ym
     rw [hkx]
     dsimp only
     rw [if_pos rfl,if_pos rfl]
    rw [hkm,ec]
    unfold Js
    rw [ewx]
    dsimp only
    rw [Qj]
    refine ⟨fun q=> ?_,fun q=> hin.2 q⟩
    rw [hin.1 q]
    unfold Jh
    rw [if_neg (show ¬(Tree.mk 1 sw sl).kind=9 from (by show ¬(1:Int)=9;decide)),X5]
    rfl) hc0 ew
 .rw [if_neg h9] at hl
  obtain ⟨s',i',pt,wd⟩:=hl
  have hk27:2<=k/\k<=7:=by omega
  obtain ⟨hfit,hat⟩:=rt.data hk27.1 hk27.2
  obtain ⟨e1,e2⟩:=ZcA ks hat
  have hnl:(ZO ks).length=ks.length:=by rw [ZO,QG]
  have hnW:okW (ZO ks):=Z8C hg
  have hpR:JX (k - 2) (ZO ks)=J3 (k - 2) (ZO ks):=by unfold JX;rw [if_pos hfit]
  rw [hpR] at wd
  have hpl:=Z8m (k - 2) (ZO ks)
  rw [hnl] at hpl
  have hh:=wd.1
  rw [hpl] at hh
  have hfo:=Z2h hL (Z8p (c:=k - 2) (n:=(ks.length:Int)) (m:=((YI (k - 2) (ks.length:Int)).toNat:Int)) (by omega) (by omega) (fun o=> by rw [Z6n (by omega) (by omega)];exact Zgb (by omega) (by omega))) pt hh (fun q=> absurd q.1 (by decide))
  rw [if_neg (fun q=> absurd q.1 (by decide)),if_neg (fun q=> absurd q.1 (by decide))] at hfo
  have hxe:Zo L s i=(⟨k,s',i',0,0,ks.length,0⟩,0):=by
   unfold Zo
   rw [hfo]
   dsimp only
   rw [if_neg (by rintro (q | q);exact q rfl;cases q),if_neg (by decide),if_pos (by omega),show 2+(k - 2)=k by omega]
  refine ⟨_,hxe,fun left hl0=> ?_⟩
  have ef:Zt (.mk k [] ks)= .mk k [] ks:=by rw [Zt,if_neg h9,e1]
  have ew:weight (.mk k [] ks)=1+(ks.length:Int)+Z0t (fun _=> 0) ks:=by rw [weight,if_neg h0,if_neg h1,if_neg h8,e2,Z9L];omega
  have ewx:ZF L ⟨k,s',i',0,0,ks.length,0⟩=[]:=by unfold ZF;dsimp only;rw [if_neg (show ¬k=10 from h10),if_neg h1]
  rw [JT hd,ef]
  have hst:=Z4N (L:=L) (d:=d) (m:=Zs L (d - 1)) (m':=Zs L (d - 2)) (x:=⟨k,s',i',0,0,ks.length,0⟩) (left:=left) (own:=1+(ks.length:Int)) (W:=weight (.mk k [] ks)) (l:=ks) (cost:=fun _=> 0)
   h0 (by rintro (q | q);omega;exact absurd q.1 h9) (by unfold ZV;rw [if_neg h1,if_neg h9]) (by unfold ZH;rw [if_neg h1];rfl) (fun j hj left' hl'=> by
    have hm:=Z1I hj
    have hkx:Zk L ⟨k,s',i',0,0,ks.length,0⟩ (0+(j:Int))=(⟨10,0,0,0,0,0,Jn ((Zh L s').drop i'.toNat) (k - 2) j⟩,0):=by
     unfold Zk
     rw [if_neg (by unfold ZH;rw [if_neg h1];dsimp only;omega),if_neg h1,if_neg h8,if_neg h9]
     dsimp only
     rw [XO]
    have hget:Jn ((Zh L s').drop i'.toNat) (k - 2) j=(ZO ks).getD j 0:=by
     have hs:(Zh L s').drop i'.toNat=J3 (k - 2) (ZO ks)++((Zh L s').drop i'.toNat).drop (J3 (k - 2) (ZO ks)).length:=by
      conv=> lhs;rw [<-List.take_append_drop (J3 (k - 2) (ZO ks)).length ((Zh L s').drop i'.toNat),Z4c wd]
     rw [hs]
     by_cases hw:1<=Go.AM.wd (k - 2)
     .have:=ZgM hw hnW (by rw [hnl];omega) hfit (j:=(j:Int)) (by omega) (by rw [hnl];omega)
      rw [<-Qj j,<-this,Qj]
      obtain ⟨r1,r2⟩:=Z7l hw (i:=(j:Int)) (n:=ks.length) (by omega) (by omega) (by omega)
      unfold Jn
      rw [if_neg (by rw [Qb];omega),if_neg (by omega)]
      rw [Q2,Qf (by omega),<-Q2]
     .have hw0:Go.AM.wd (k - 2)=0:=by
       unfold Ju at hfit
       rw [Q3] at hfit
       have:=of_decide_eq_true hfit.1
       omega
      have hf:=Z1K hfit (i:=j) (by rw [hnl];exact hj)
      have hf:=Z7r hf
      rw [hw0] at hf
      have h0':=Jd hnW j
      have:(ZO ks).getD j 0=0:=by have h2:(ZO ks).getD j 0 < 2 ^ (0:Int).toNat:=hf.2;have h3:(2:Int) ^ (0:Int).toNat=1:=rfl;omega
      rw [this]
      unfold Jn
      rw [if_pos (by omega)]
    have htj:ks.getD j Tree.nil= .mk 10 [(ZO ks).getD j 0] []:=by
     have e3:(ZO ks).getD j 0=(ks.getD j Tree.nil).words.getD 0 0:=by
      rw [ZO,Q2,Qa,Q0 hj,Q2 (l:=ks),Q0 hj];try rfl
     rw [e3]
     have:=hat _ hm
     generalize ks.getD j Tree.nil=s at this ⊢
     obtain ⟨k',w',l'⟩:=s
     obtain ⟨e1,e2,e3⟩:=this
     dsimp only [Tree.kind_mk,Tree.kids_mk,Tree.words_mk] at e1 e2 e3 ⊢
     have e2:=Qk.1 e2
     subst e1 e2
     match w',e3 with
     | [x],_=> rfl
    have hkm:Ym L (Zs L (d - 1)) (Zs L (d - 2)) ⟨k,s',i',0,0,ks.length,0⟩ (0+(j:Int)) left'=(ks.getD j Tree.nil,left' - 0,0):=by
     unfold Ym
     rw [hkx]
     dsimp only
     rw [if_pos rfl,if_neg h9,if_neg (by omega),htj,hget]
     unfold ZF
     rw [if_pos rfl]
     simp
    exact ⟨fun _=> hkm,fun q=> by omega⟩) (fun t _=> QE _) ew
  rw [ewx] at hst
  exact hst
theorem ZjE{t:Tree}(h:0<=ZR t 80 3000):Zm t<=1000000:=by
 have:=Z1X t 80 3000 h
 omega
noncomputable section
def Zc8(a:Ref × Unit):Prop:=okR a.1/\Zl8 a.1
def Zlo(a:Ref × Unit):Nat:=Zm (Z7c a.1)
def ZbZ(a:Ref × Unit):V U:= .tup [(true,(enc .tree (Z7c a.1))),(false,[ci 0])]
def Z7V:Fs U:=fs Zk8 (fun a=> [Zc8 a]) ZbZ
def ZeK(a:Option Arena × Limits × Unit):V U:= .tup [(true,(enc .tree (Z9 (Z0l (Z1 a.1) a.2.1).1))),(false,[ci ((Z0l (Z1 a.1) a.2.1).2.2)])]
def Z84:Fs U:=fs Zkg (fun a=> [Zf0 a]) ZeK
def ZdP(N:Nat):List (FuncId × Fs U):=(36,fs Zk8 (fun a=> [Zc8 a,Zlo a < N]) ZbZ) ::[(64,Z0L),(65,Z0K),(66,Z7P),(67,JP),(68,Z2J)]
def ZlN:Z8 U:=fun i=> match i with
 | 0=> ([(1,[]),(2,[])],[(.loc 1,[]),(.loc 2,[])])
 | 1=> ([(1,[]),(2,[]),(4,[])],[(.loc 1,[]),(.loc 2,[]),(.loc 4,[])])
 | 2=> ([(1,[]),(2,[]),(4,[]),(14,[]),(15,[])],[(.loc 1,[]),(.loc 2,[]),(.loc 4,[.any,.own .u64])])
 | 3=> ([(1,[]),(2,[]),(4,[]),(14,[]),(15,[]),(16,[])],[(.loc 1,[]),(.loc 2,[]),(.loc 4,[])])
 | 4=> ([(1,[]),(2,[]),(4,[]),(5,[]),(14,[]),(15,[])],[(.loc 1,[]),(.loc 2,[]),(.loc 4,[])])
 | 5=> ([(1,[]),(2,[]),(4,[]),(14,[]),(15,[])],[(.loc 1,[]),(.loc 2,[]),(.loc 4,[])])
 | 6=> ([(1,[]),(2,[]),(4,[]),(14,[]),(15,[])],[(.loc 1,[]),(.loc 2,[]),(.loc 4,[.any,.own .u64])])
 | 7=> ([(1,[]),(2,[]),(4,[]),(28,[]),(29,[])],[(.loc 1,[]),(.loc 2,[]),(.loc 4,[.any,.any,.own .tree])])
 | 8=> ([(1,[]),(2,[]),(4,[]),(28,[]),(29,[]),(30,[])],[(.loc 1,[]),(.loc 2,[]),(.loc 4,[])])
 | 9=> ([(1,[]),(2,[]),(4,[]),(6,[]),(28,[]),(29,[])],[(.loc 1,[]),(.loc 2,[]),(.loc 4,[])])
 | 10=> ([(1,[]),(2,[]),(4,[]),(7,[]),(8,[]),(28,[]),(29,[])],[(.loc 1,[]),(.loc 2,[]),(.loc 4,[]),(.loc 7,[])])
 | 11=> ([(1,[]),(2,[]),(4,[]),(7,[]),(8,[]),(28,[]),(29,[]),(39,[])],[(.loc 1,[]),(.loc 2,[]),(.loc 4,[]),(.loc 7,[])])
 | 12=> ([(2,[]),(3,[])],[(.loc 2,[])])
 | 13=> ([(1,[]),(2,[]),(4,[]),(8,[]),(9,[]),(28,[]),(29,[])],[(.loc 1,[]),(.loc 2,[]),(.loc 4,[]),(.loc 9,[])])
 | 14=> ([(1,[]),(2,[]),(4,[]),(8,[]),(9,[]),(28,[]),(29,[]),(48,[])],[(.loc 1,[]),(.loc 2,[]),(.loc 4,[]),(.loc 9,[])])
 | 15=> ([(2,[]),(3,[])],[(.loc 2,[])])
 | 16=> ([(1,[]),(2,[]),(4,[]),(28,[]),(29,[])],[(.loc 1,[]),(.loc 2,[]),(.loc 4,[])])
 | 17=> ([(1,[]),(2,[]),(4,[]),(28,[]),(29,[])],[(.loc 1,[]),(.loc 2,[]),(.loc 4,[.any,.any,.own .tree])])
 | 18=> ([(2,[]),(3,[])],[(.loc 2,[])])
 | _=> ([],[])
def Z1E(r:Ref)(x15:Int)(ml4_1:List Int):LSt U:=(L2 [pL 1,pL 2,pL 4,pI 14 (JN (Ref.mk (Ref.a r) (Ref.kind r) (Ref.segment r) (Ref.at_ r) (Ref.data r) (Ref.kids r) (Ref.count r) (Ref.number r))),pI 15 x15] [(.loc 1,(enc .ref r)),(.loc 2,[ci 0,.nils,.nils]),(.loc 4,[ci (Ref.kind (Ref.mk (Ref.a r) (Ref.kind r) (Ref.segment r) (Ref.at_ r) (Ref.data r) (Ref.kids r) (Ref.count r) (Ref.number r))),sU .u64 ml4_1 (.own (.l 4 1)),.nils])])
def Z5m(r:Ref)(ml4_1:List Int)(x29_a:Int)(ml4_2_a:List Tree):LSt U:=(L2 [pL 1,pL 2,pL 4,pI 28 (ZB (Ref.mk (Ref.a r) (Ref.kind r) (Ref.segment r) (Ref.at_ r) (Ref.data r) (Ref.kids r) (Ref.count r) (Ref.number r))),pI 29 x29_a] [(.loc 1,(enc .ref r)),(.loc 2,[ci 0,.nils,.nils]),(.loc 4,[ci (Ref.kind (Ref.mk (Ref.a r) (Ref.kind r) (Ref.segment r) (Ref.at_ r) (Ref.data r) (Ref.kids r) (Ref.count r) (Ref.number r))),sU .u64 ml4_1 (.own (.l 4 1)),sU .tree ml4_2_a (.own (.l 4 2))])])
abbrev A36(N:Nat)(p:List Nat):=AW (Z0 (ZdP N)) Try.f36 ZlN p
abbrev S36(N:Nat)(p:List Nat):=SW (Z0 (ZdP N)) Try.f36 ZlN p
theorem Zso(N:Nat)(r:Ref)(Q:QT)(h:let z0:=Ref.mk (Ref.a r) (Ref.kind r) (Ref.segment r) (Ref.at_ r) (Ref.data r) (Ref.kids r) (Ref.count r) (Ref.number r);((Z52 (z0,()))/\((Z52 (z0,()))/\(ZJ (A36 N [1,1,0,1,0,0]) (Z1E r 0 []) (xB 0 (S36 N [1,1,1] Q)))))):
  A36 N [] (L2 [(0,.agg (enc .ref r))] []) Q:=
 Eq.mpr (by kernel_rfl) h
theorem ZkT(N:Nat)(r:Ref)(x15:Int)(ml4_1:List Int)(N0:NT)(Q:QT)(h:let z0:=Ref.mk (Ref.a r) (Ref.kind r) (Ref.segment r) (Ref.at_ r) (Ref.data r) (Ref.kids r) (Ref.count r) (Ref.number r);(((decide (x15 < (JN z0)))=true->((Zi7 (z0,x15,()))/\((ml4_1.length+([Z2x z0 x15]).length)*8<=140737488355328)/\((InR (x15+1))/\(N0 (Z1E r (x15+1) (ml4_1++([Z2x z0 x15])))))))/\((decide (x15 < (JN z0)))=false->(Z52 (z0,()))/\(ZJ (A36 N [1,1,1,0,1,0,0]) (Z5m r ml4_1 0 []) (xB 2 (S36 N [1,1,1,1] Q)))))):
  A36 N [1,1,0,1,0,0] (Z1E r x15 ml4_1) (xT N0 (xB 0 (S36 N [1,1,1] Q))):=
 Eq.mpr (by kernel_rfl) h
theorem ZkS(N:Nat)(r:Ref)(ml4_1:List Int)(x29_a:Int)(ml4_2_a:List Tree)(N1:NT)(Q:QT)(h:∀ y_1,y_1=r->∀ y_2,y_2=(Yc (Ref.a y_1) (Zk (Z1 (Ref.a y_1)) (unX y_1) x29_a).1)->∀ y_3,y_3=y_2->∀ y_4,y_4=(Z7c y_3)->let z1:=decide (x29_a < (ZB y_1));let z0:=Zk (Z1 (Ref.a y_1)) (unX y_1) x29_a;((z1=true->((Zi7 (y_1,x29_a,()))/\(((((z0.2):Int) !=0)=true->(Q .ret (L2 [pL 2,(3,.c (ci (z0.2)))] [(.loc 2,[ci 0,.nils,.nils])])))/\((((z0.2):Int) !=0)=false->(Zc8 (y_3,()))/\(Zlo (y_3,()) < N)/\((((0:Int) !=0)=true->(Q .ret (L2 [pL 2,pI 3 0] [(.loc 2,[ci 0,.nils,.nils])])))/\(((0:Int) !=0)=false->((ml4_2_a.length+([y_4]).length)*56<=140737488355328)/\((InR (x29_a+1))/\(N1 (Z5m r ml4_1 (x29_a+1) (ml4_2_a++([y_4])))))))))))/\(z1=false->(Q .ret (L2 [pL 2,pI 3 0] [(.loc 2,[ci (Ref.kind y_1),sU .u64 ml4_1 (.own (.l 2 1)),sU .tree ml4_2_a (.own (.l 2 2))])]))))):
  A36 N [1,1,1,0,1,0,0] (Z5m r ml4_1 x29_a ml4_2_a) (xT N1 (xB 2 (S36 N [1,1,1,1] Q))):=
 Eq.mpr (by kernel_rfl) (h _ (YJ _) _ rfl _ (YJ _) _ (ZT _))
def Zqt(N:Nat)(r:Ref):Prop:=AW (Z0 (ZdP N)) Try.f36 ZlN [] (Zi (Zk8.can (r,())) []) (EQ Try.f36 (ZbZ (r,())) [])
theorem Zos(c64:CT 64 Z0L)(c65:CT 65 Z0K)(c66:CT 66 Z7P)(c67:CT 67 JP)(c68:CT 68 Z2J)(hb:∀ (N:Nat) (r:Ref) (_:Unit),Zc8 (r,())->Zlo (r,()) < N+1->Zqt N r):CT 36 Z7V:=
 YB (μ:=Zlo) (l:=[(64,Z0L),(65,Z0K),(66,Z7P),(67,JP),(68,Z2J)]) Zf rfl (⟨c64,c65,c66,c67,c68,trivial⟩) ZlN Try.func36 rfl rfl 1 (fun _=> rfl) (by decide) (fun N ⟨r,_⟩=> hb N r ())
def Zjs:List (FuncId × Fs U):=[(34,Z7W),(35,Z2L),(36,Z7V),(24,Z85)]
def Zpj:Z8 U:=lvl [([0,3,4],[3,4]),([0,4,7],[4]),([0,4,7,18],[4]),([4,5],[4]),([4,8,9],[4,8]),([4,8,9,27],[4,8]),([4,5],[4]),([4,9,10],[4,10]),([4,5],[4])]
abbrev A14(p:List Nat):=AW (Z0 Zjs) Try.f14 Zpj p
theorem ZsD(a:Option Arena)(x:Limits)(Q:QT)(h:∀ y_1,y_1=x->∀ y_2,y_2=(Yc a (Zo (Z1 a) 0 0).1)->∀ y_3,y_3=(Z7c y_2)->let z1:=(((Zo (Z1 a) 0 0).2):Int) !=0;let z0:=(((Z0l (Z1 a) y_1).2.2):Int) !=0;((Zf0 (a,y_1,()))/\((z0=true->(Q .ret (L2 [pL 4,pI 5 ((Z0l (Z1 a) y_1).2.2)] [(.loc 4,[ci 0,.nils,.nils])])))/\(z0=false->(Z5Q (a,()))/\((z1=true->(Q .ret (L2 [pL 4,pI 5 ((Zo (Z1 a) 0 0).2)] [(.loc 4,[ci 0,.nils,.nils])])))/\(z1=false->(Zc8 (y_2,()))/\((Z6G (y_3,()))/\(Q .ret (L2 [pL 4,pI 5 0] [(.loc 4,(enc .tree (Z9 y_3)))]))))))))):
  A14 [] (L2 [(0,.c (.po (U:=U) .arena a)),(1,.agg (enc .limits x))] []) Q:=
 Eq.mpr (by kernel_rfl) (h _ (Z6y _) _ (YJ _) _ (ZT _))
def ZqI(a:Option Arena)(x:Limits):Prop:=AW (Z0 Zjs) Try.f14 Zpj [] (Zi (Zkg.can (a,x,())) []) (EQ Try.f14 (ZeK (a,x,())) [])
theorem ZoG(c34:CT 34 Z7W)(c35:CT 35 Z2L)(c36:CT 36 Z7V)(c24:CT 24 Z85)(hb:∀ (a:Option Arena) (x:Limits) (_:Unit),Zf0 (a,x,())->ZqI a x):CT 14 Z84:=
 Z2 (l:=[(34,Z7W),(35,Z2L),(36,Z7V),(24,Z85)]) Zf rfl (⟨c34,c35,c36,c24,trivial⟩) Zpj Try.func14 rfl rfl 2 (fun _=> rfl) (by decide) (fun ⟨a,x,_⟩=> hb a x ())
end
theorem Z9K{α:Type}(l:List α)(d:α)(i:Int)(h0:0<=i)(h:i < l.length):l.take i.toNat++[l.getD i.toNat d]=l.take (i+1).toNat:=by
 rw [show (i+1).toNat=i.toNat+1 by omega,Q2,Q0 (show i.toNat < l.length by omega),Qu]
 exact Xp (by omega)
theorem Ziv{k:Int}{w:List Int}{ks:List Tree}{i:Nat}(h:i < ks.length):Zm (ks.getD i Tree.nil) < Zm (.mk k w ks):=by
 have:=Jc h
 rw [Zm]
 omega
theorem c36:Contract Try.prog cfg 36 Z7V:=by
 refine Zos c64 c65 c66 c67 c68 ?_
 rintro N r _ hp hN
 obtain ⟨hr,he⟩:=hp
 dsimp only at hr he
 have hN':Zm (Z7c r) < N+1:=hN
 have hg:=ZbL hr he
 obtain ⟨ks,e0,hks,hkid⟩:=Zhd hr.1 hr.2 he
 have e0':Z7c r=⟨r.kind,ZF (Z1 r.a) (unX r),ks⟩:=e0
 have hkd:ZB r=ks.length:=by rw [Z3a];exact hks.symm
 have hw:((ZF (Z1 r.a) (unX r)).length:Int)=JN r:=by
  rw [(Z1T hr.1 hr.2).2]
  have hk:(unX r).kind=r.kind:=rfl
  have hd:(unX r).data=r.data:=rfl
  rw [hk,hd]
  unfold JN
  by_cases h1:r.kind=1
  .simp [h1]
  .simp [h1]
 have hm:(ZF (Z1 r.a) (unX r)).length+ks.length<=140000:=by
  have h1:=hg.2.2
  have h2:=JG ks
  rw [e0',Zm] at h1
  omega
 have fin:Yg cfg Try.f36.ntmps Try.f36.results.toList (ZbZ (r,())) [] .ret (⟨[(2,.ptr (.loc 2) 0),(3,.c (.int .i64 0))],[((.loc 2),[.int .i64 r.kind,.slice .u64 (ZF (Z1 r.a) (unX r)) (.own (.l 2 1)),.slice .tree ks (.own (.l 2 2))])],[]⟩:LSt U):=by
  have h:Yg cfg Try.f36.ntmps Try.f36.results.toList (.tup [(true,enc .tree ⟨r.kind,ZF (Z1 r.a) (unX r),ks⟩),(false,[.int .i64 0])]) [] .ret (⟨[(2,.ptr (.loc 2) 0),(3,.c (.int .i64 0))],[((.loc 2),[.int .i64 r.kind,.slice .u64 (ZF (Z1 r.a) (unX r)) (.own (.l 2 1)),.slice .tree ks (.own (.l 2 2))])],[]⟩:LSt U):=by (repeat' (first | exact trivial | exact rfl | apply And.intro))
  refine Y4 ?_ h
  simp only [ZbZ]
  rw [e0']
  try rfl
 refine Zso N _ _ ?_
 refine ⟨trivial,trivial,?_⟩
 refine Zr (ι:=Int) (fun p=> Z1E r p ((ZF (Z1 r.a) (unX r)).take p.toNat)) (fun p=> 0<=p/\p<=JN r) (fun p=> (JN r - p).toNat) 0 rfl ⟨by omega,by omega⟩ ?_
 rintro i ⟨h1,h2⟩
 refine ZkT _ _ _ _ _ _ ?_
 (simp only [vcT,vcS])
 refine ⟨fun hi=> ⟨hr,by simp only [Qb,Qd,Qc,QS];omega,by ((unfold InR;omega)),i+1,?_,⟨by omega,?_⟩,?_⟩,fun hi=> ⟨trivial,?_⟩⟩
 .show Z1E r (i+1) (_++[Z2x r i])=Z1E r (i+1) _
  have hi':i < JN r:=hi
  rw [<-Z9K (ZF (Z1 r.a) (unX r)) 0 i h1 (by omega)]
  unfold Z2x
  rw [if_neg (by omega)]
 .have hi':i < JN r:=hi
  omega
 .have hi':i < JN r:=hi
  omega
 .have hi':¬i < JN r:=hi
  rw [Qt (by omega)]
  refine Zr (ι:=Int) (fun p=> Z5m r (ZF (Z1 r.a) (unX r)) p (ks.take p.toNat)) (fun p=> 0<=p/\p<=ks.length) (fun p=> ((ks.length:Int) - p).toNat) 0 rfl ⟨by omega,by omega⟩ ?_
  rintro j ⟨g1,g2⟩
  refine ZkS _ _ _ _ _ _ _ ?_
  rintro y1 hy1 y2 hy2 y3 hy3 y4 hy4
  replace hy1:=hy1.symm
  subst hy1
  subst hy3
  (simp only [vcT,vcS])
  rw [hkd]
  refine ⟨fun hj=> ?_,fun hj=> ?_⟩
  .obtain ⟨q1,q2,q3⟩:=hkid j g1 (by rw [<-hks];exact hj)
   have hkx:=Ja hr.1 hr.2 j
   have hl:=ZbK hkx
   rw [<-hy2] at hl
   rw [<-hl.1,<-hy4] at q3
   have hmk:=Ziv (k:=r.kind) (w:=ZF (Z1 r.a) (unX r)) (ks:=ks) (i:=j.toNat) (by omega)
   rw [q3,<-e0'] at hmk
   refine ⟨hr,fun h=> absurd q1 h,fun _=> ⟨⟨?_,hl.2 q2⟩,?_,fun h=> absurd trivial h,by simp only [Qb,Qd,Qc,QS];omega,by ((unfold InR;omega)),j+1,?_,⟨by omega,by omega⟩,by omega⟩⟩
   .show okR y3
    rw [hy2]
    exact Z58 hr.1 hkx
   .show Zm (Z7c y3) < N
    rw [<-hy4]
    omega
   .rw [<-Z9K ks Tree.nil j g1 hj,q3]
  .rw [Qt (by omega)]
   exact fin
theorem c14:Contract Try.prog cfg 14 Z84:=by
 refine ZoG c34 c35 c36 c24 ?_
 rintro a x _ ha
 simp only [Zf0] at ha
 refine ZsD _ _ _ ?_
 rintro y1 hy1 y2 hy2 y3 hy3
 replace hy1:=hy1.symm
 subst hy1
 (simp only [vcT,vcS])
 have fin:∀ {T:Tree} {e:Int},Z9 (Z0l (Z1 a) x).1=T->(Z0l (Z1 a) x).2.2=e->∀ {s:LSt U},
   Yg cfg Try.f14.ntmps Try.f14.results.toList (.tup [(true,enc .tree T),(false,[.int .i64 e])]) [] .ret s->Yg cfg Try.f14.ntmps Try.f14.results.toList (ZeK (a,x,())) [] .ret s:=by
  intro T e h1 h2 s hs
  refine Y4 ?_ hs
  simp only [ZeK]
  rw [h1,h2]
  try rfl
 refine ⟨ha,fun he=> fin (T:=Tree.nil) (by rw [Zl9 he];rfl) rfl (by (repeat' (first | exact trivial | exact rfl | apply And.intro))),fun he=> ?_⟩
 obtain ⟨u1,u2,u3⟩:=Zhe he
 have hx:=Zb8 ha 0 0
 have hl:=ZbK hx
 rw [<-hy2] at hl
 have hok:okR y2:=by rw [hy2];exact Z58 ha hx
 have hg:=ZbL hok (hl.2 u2)
 rw [<-hl.1,<-hy3] at u3
 rw [<-hy3] at hg
 refine ⟨ha,fun h=> absurd u1 h,fun _=> ⟨⟨hok,hl.2 u2⟩,by show Zm y3<=_;omega,fin (T:=Z9 y3) (by rw [u3]) he (by (repeat' (first | exact trivial | exact rfl | apply And.intro)))⟩⟩
noncomputable section
def ZeI(a:Tree × Unit):V U:= .agg (enc .tree (Zt a.1))
def Z82:Fs U:=fs Zno (fun a=> [ZeY a]) ZeI
def ZdS(N:Nat):List (FuncId × Fs U):=(17,fs Zno (fun a=> [ZeY a,ZgA a < N]) ZeI) ::[(38,Z7U)]
def ZlQ:Z8 U:=fun i=> match i with
 | 0=> ([(1,[]),(2,[])],[(.loc 1,[]),(.loc 2,[])])
 | 1=> ([(1,[]),(2,[]),(3,[])],[(.loc 1,[]),(.loc 2,[]),(.loc 3,[])])
 | 2=> ([(1,[]),(2,[]),(3,[]),(4,[]),(5,[])],[(.loc 1,[]),(.loc 2,[]),(.loc 3,[])])
 | 3=> ([(1,[]),(2,[]),(3,[]),(4,[]),(5,[]),(6,[])],[(.loc 1,[]),(.loc 2,[]),(.loc 3,[.any,.any,.own .tree])])
 | 4=> ([(1,[]),(2,[]),(3,[]),(4,[]),(5,[]),(6,[]),(22,[])],[(.loc 1,[]),(.loc 2,[]),(.loc 3,[])])
 | 5=> ([(1,[]),(2,[]),(3,[]),(4,[]),(5,[]),(6,[])],[(.loc 1,[]),(.loc 2,[]),(.loc 3,[.any,.any,.own .tree])])
 | 6=> ([(1,[]),(2,[]),(3,[]),(4,[]),(5,[]),(6,[]),(7,[])],[(.loc 1,[]),(.loc 2,[]),(.loc 3,[]),(.loc 7,[])])
 | 7=> ([(1,[]),(2,[]),(3,[]),(4,[]),(5,[]),(6,[]),(7,[]),(33,[])],[(.loc 1,[]),(.loc 2,[]),(.loc 3,[]),(.loc 7,[])])
 | 8=> ([(1,[]),(2,[]),(3,[]),(4,[]),(5,[]),(6,[]),(7,[])],[(.loc 1,[]),(.loc 2,[]),(.loc 3,[]),(.loc 7,[])])
 | 9=> ([(1,[]),(2,[]),(3,[]),(4,[]),(5,[]),(6,[]),(7,[])],[(.loc 1,[]),(.loc 2,[]),(.loc 3,[]),(.loc 7,[])])
 | 10=> ([(1,[]),(2,[]),(3,[]),(4,[]),(5,[]),(6,[])],[(.loc 1,[]),(.loc 2,[]),(.loc 3,[])])
 | 11=> ([(2,[])],[(.loc 2,[])])
 | _=> ([],[])
def Z3o(t:Tree)(x6:Int)(ml3_2:List Tree):LSt U:=(L2 [pL 1,pL 2,pL 3,pI 4 (frW (Tree.kids (Tree.mk t.kind t.words t.kids)):Int),pI 5 (frK (Tree.kids (Tree.mk t.kind t.words t.kids)):Int),pI 6 x6] [(.loc 1,(enc .tree t)),(.loc 2,[ci 0,.nils,.nils]),(.loc 3,[ci t.kind,sU .u64 t.words .unk,sU .tree ml3_2 (.own (.l 3 2))])])
abbrev A17(N:Nat)(p:List Nat):=AW (Z0 (ZdS N)) Try.f17 ZlQ p
abbrev S17(N:Nat)(p:List Nat):=SW (Z0 (ZdS N)) Try.f17 ZlQ p
theorem ZsA(N:Nat)(t:Tree)(Q:QT)(h:((ZeY ((Tree.mk t.kind t.words t.kids),()))/\(ZJ (A17 N [1,1,1,0,1,0,0]) (Z3o t 0 []) (xB 0 (S17 N [1,1,1,1] Q))))):
  A17 N [] (L2 [(0,.agg (enc .tree t))] []) Q:=
 (Eq.mpr (by kernel_rfl) h:)
theorem Zl2(N:Nat)(t:Tree)(x6:Int)(ml3_2:List Tree)(N0:NT)(Q:QT)(h:∀ y_1,y_1=t->∀ y_2,y_2=(t.kids.getD x6.toNat Tree.nil)->∀ y_3,y_3=y_2->∀ y_4,y_4=(Zt y_3)->let z3:=decide (x6 < (t.kids.length:Int));let z2:=Tree.kids (Zt y_3);let z1:=Tree.words (Zt y_3);let z0:=Tree.mk (Tree.kind (Zt y_3)) ((([]:List Int)++z1)++List.replicate (Int.toNat (((frW y_1.kids:Int):Int) - (z1.length:Int))) (0:Int)) ((([]:List Tree)++z2)++List.replicate (Int.toNat (((frK y_1.kids:Int):Int) - (z2.length:Int))) Tree.nil);((z3=true->((0:Int)<=x6/\x6 < (t.kids.length:Int))/\(ZeY (y_3,()))/\(ZgA (y_3,()) < N)/\(((t.kind==9)=true->((([]:List Int).length+z1.length)*8<=140737488355328)/\(InR (((frW y_1.kids:Int):Int) - (z1.length:Int)))/\((0:Int)<=((frW y_1.kids:Int):Int) - (z1.length:Int)/\(((([]:List Int)++z1).length:Int)+(((frW y_1.kids:Int):Int) - (z1.length:Int)))*((8:Nat):Int)<=140737488355328)/\(((([]:List Tree).length+z2.length)*56<=140737488355328)/\(InR (((frK y_1.kids:Int):Int) - (z2.length:Int)))/\((0:Int)<=((frK y_1.kids:Int):Int) - (z2.length:Int)/\(((([]:List Tree)++z2).length:Int)+(((frK y_1.kids:Int):Int) - (z2.length:Int)))*((56:Nat):Int)<=140737488355328)/\(((ml3_2.length+([z0]).length)*56<=140737488355328)/\((InR (x6+1))/\(N0 (Z3o t (x6+1) (ml3_2++([z0]))))))))/\((t.kind==9)=false->((ml3_2.length+([y_4]).length)*56<=140737488355328)/\((InR (x6+1))/\(N0 (Z3o t (x6+1) (ml3_2++([y_4]))))))))/\(z3=false->(Q .ret (L2 [pL 2] [(.loc 2,[ci t.kind,sU .u64 t.words .unk,sU .tree ml3_2 (.own (.l 2 2))])]))))):
  A17 N [1,1,1,0,1,0,0] (Z3o t x6 ml3_2) (xT N0 (xB 0 (S17 N [1,1,1,1] Q))):=
 (Eq.mpr (by kernel_rfl) (h _ (ZT _) _ rfl _ (ZT _) _ (ZT _)):)
abbrev ZqF(N:Nat)(t:Tree):Prop:=AW (Z0 (ZdS N)) Try.f17 ZlQ [] (Zi (Zno.can (t,())) []) (EQ Try.f17 (ZeI (t,())) [])
theorem ZoD(c38:CT 38 Z7U)(hb:∀ (N:Nat) (t:Tree) (_:Unit),ZeY (t,())->ZgA (t,()) < N+1->ZqF N t):CT 17 Z82:=
 YB (μ:=ZgA) (l:=[(38,Z7U)]) Zf rfl (⟨c38,trivial⟩) ZlQ Try.func17 rfl rfl 1 (fun _=> rfl) (by decide) (fun N ⟨t,_⟩=> hb N t ())
end
theorem Z8Z(t:Tree):(Zt t).kind=t.kind/\(Zt t).words=t.words/\(Zt t).kids.length=t.kids.length:=by
 obtain ⟨k,w,ks⟩:=t
 rw [Zt]
 refine ⟨rfl,rfl,?_⟩
 show (if k=9 then Z71 (frW ks) (frK ks) ks else ZL ks).length=ks.length
 split
 .rw [Z1J,QG]
 .exact Yx ks
def Z1e(k:Int)(fw fk:Nat)(t:Tree):Tree:=if k=9 then Jh fw fk t else Zt t
theorem ZjC(t:Tree):Zt t= .mk t.kind t.words (t.kids.map (Z1e t.kind (frW t.kids) (frK t.kids))):=by
 obtain ⟨k,w,ks⟩:=t
 rw [Zt]
 show Tree.mk k w _=Tree.mk k w (ks.map (Z1e k (frW ks) (frK ks)))
 congr 1
 by_cases h9:k=9
 .rw [if_pos h9,Z1J]
  congr 1
  funext t
  unfold Z1e
  rw [if_pos h9]
 .rw [if_neg h9]
  have:∀ l:List Tree,ZL l=l.map (Z1e k (frW ks) (frK ks)):=by
   intro l
   induction l with
   | nil=> rw [ZL];try rfl
   | cons t l ih=> rw [ZL,ih,Xe];congr 1;unfold Z1e;rw [if_neg h9]
  exact this ks
theorem ZjD(fw fk:Nat)(t:Tree):Jh fw fk t= .mk (Zt t).kind ((Zt t).words++zs (fw - (Zt t).words.length)) ((Zt t).kids++List.replicate (fk - (Zt t).kids.length) Tree.nil):=by
 obtain ⟨h1,h2,h3⟩:=Z8Z t
 rw [h1,h2,h3]
 obtain ⟨k,w,ks⟩:=t
 unfold Jh
 rw [Zt]
 try rfl
theorem c17:Contract Try.prog cfg 17 Z82:=by
 refine ZoD c38 ?_
 intro N t _ hp hN
 simp only [ZeY] at hp
 have hN:Zm t < N+1:=hN
 have hk:=Z3L t
 have hfm:=Z7q t.kids
 have hmk:Zp t.kids<=Zm t:=by obtain ⟨k,w,ks⟩:=t;rw [Zm];show Zp ks<=_;omega
 refine ZsA N t _ ?_
 simp only [Tree.eta]
 refine ⟨hp,?_⟩
 refine Zr (ι:=Int) (fun p=> Z3o t p ((t.kids.take p.toNat).map (Z1e t.kind (frW t.kids) (frK t.kids)))) (fun p=> 0<=p/\p<=t.kids.length) (fun p=> ((t.kids.length:Int) - p).toNat) 0 rfl ⟨by omega,by omega⟩ ?_
 rintro i ⟨g1,g2⟩
 refine Zl2 _ _ _ _ _ _ ?_
 rintro y1 rfl y2 e2 y3 rfl y4 rfl
 (simp only [vcT,vcS])
 refine ⟨fun hi=> ?_,fun hi=> ?_⟩
 .have hm:=Z8R (t:=y1) (i:=i.toNat) (by omega)
  have hmem:=Z1w (l:=y1.kids) (i:=i.toNat) (by omega) Tree.nil
  have hf:=Z4C hmem
  rw [<-e2] at hm hf
  obtain ⟨f1,f2,f3⟩:=Z8Z y3
  have q1:Zm y3<=1000000:=by omega
  have q2:Zm y3 < N:=by omega
  have hll:((y1.kids.take i.toNat).map (Z1e y1.kind (frW y1.kids) (frK y1.kids))).length<=y1.kids.length:=by rw [QG,Qd];omega
  have htk:(y1.kids.take (i+1).toNat).map (Z1e y1.kind (frW y1.kids) (frK y1.kids))=(y1.kids.take i.toNat).map (Z1e y1.kind (frW y1.kids) (frK y1.kids))++[Z1e y1.kind (frW y1.kids) (frK y1.kids) y3]:=by
   rw [Zhf g1 hi,XY,<-e2]
   try rfl
  refine ⟨⟨g1,hi⟩,q1,q2,fun h9=> ?_,fun h9=> ?_⟩
  .have ex:Z1e y1.kind (frW y1.kids) (frK y1.kids) y3=Tree.mk (Zt y3).kind (([]++(Zt y3).words)++List.replicate (Int.toNat ((frW y1.kids:Int) - (Zt y3).words.length)) 0) (([]++(Zt y3).kids)++List.replicate (Int.toNat ((frK y1.kids:Int) - (Zt y3).kids.length)) Tree.nil):=by
    unfold Z1e
    rw [if_pos h9,ZjD,X5,X5,show ((frW y1.kids:Int) - (Zt y3).words.length).toNat=frW y1.kids - (Zt y3).words.length by omega,show ((frK y1.kids:Int) - (Zt y3).kids.length).toNat=frK y1.kids - (Zt y3).kids.length by omega]
    try rfl
   have ew:((Zt y3).words.length:Int)=y3.words.length:=by rw [f2]
   have ek:((Zt y3).kids.length:Int)=y3.kids.length:=by rw [f3]
   refine ⟨?_,by ((unfold InR;omega)),⟨by omega,?_⟩,?_,by ((unfold InR;omega)),⟨by omega,?_⟩,?_,by ((unfold InR;omega)),i+1,?_,⟨by omega,by omega⟩,by omega⟩
   .simp only [QS];omega
   .simp only [X5];omega
   .simp only [QS];omega
   .simp only [X5];omega
   .simp only [Xl];omega
   .rw [htk,ex]
  .refine ⟨by simp only [Xl];omega,by ((unfold InR;omega)),i+1,?_,⟨by omega,by omega⟩,by omega⟩
   rw [htk]
   unfold Z1e
   rw [if_neg h9]
 .have e:i=y1.kids.length:=by omega
  subst e
  rw [Qj,XC]
  refine Y4 (r':= .agg (enc .tree (.mk y1.kind y1.words (y1.kids.map (Z1e y1.kind (frW y1.kids) (frK y1.kids)))))) ?_ (by (repeat' (first | exact trivial | exact rfl | apply And.intro)))
  simp only [ZeI]
  rw [ZjC]
  try rfl
theorem ZgO:∀ (N:Nat) (t:Tree),Zm t<=N->∀ d,Z5 t d=true->Zm (Zt t)<=Zm t+JZ t:=by
 intro N
 induction N with
 | zero=> intro t h;have:=Z5h t;omega
 | succ N ih=>
 intro t hN d hr
 obtain ⟨k,w,ks⟩:=t
 have rt:=riT hr
 have sz:JZ (.mk k w ks)=if k=1 then w.length+ks.length+YZ ks else if k=8 then ks.length+YZ ks else if k=9 then 1+ks.length*(frW ks+frK ks)+Z2m ks
   else if 2<=k/\k<=7 then (YI (k - 2) ks.length).toNat else YZ ks:=by rw [JZ]
 rw [Zm] at hN
 have kids:∀ (l:List Tree),Zp l<=N->(∀ t∈l,∃ d,Z5 t d=true)->Zp (ZL l)<=Zp l+YZ l:=by
  intro l
  induction l with
  | nil=> intro _ _;rw [ZL];omega
  | cons t l ih2=>
   intro hm h
   rw [Zp] at hm
   obtain ⟨d',h'⟩:=h t Q9
   have:=ih t (by omega) d' h'
   have:=ih2 (by omega) fun t ht=> h t (Q7 _ ht)
   rw [ZL,Zp,Zp,YZ]
   omega
 have nils:∀ n:Nat,Zp (List.replicate n Tree.nil)=n:=by
  intro n
  induction n with
  | zero=> rfl
  | succ n ih=> rw [K2,Zp,ih];show 1+0+0+n=_;omega
 have mapp:∀ a b:List Tree,Zp (a++b)=Zp a+Zp b:=by
  intro a b
  induction a with
  | nil=> simp [Zp]
  | cons t l ih=> rw [QX,Zp,Zp,ih];omega
 rw [Zt,Zm,Zm]
 by_cases h9:k=9
 .subst h9
  rw [if_neg (by decide),if_neg (by decide),if_pos rfl] at sz
  rw [if_pos rfl,Z1J]
  have rows:=rt.rows
  have all:∀ (fw fk:Nat) (l:List Tree),Zp l<=N->(∀ t∈l,(t.kind=1/\t.words.length<=fw/\t.kids.length<=fk)/\Z12 t.kids)->Zp (l.map (Jh fw fk))<=Zp l+l.length*(fw+fk)+Z2m l:=by
   intro fw fk l
   induction l with
   | nil=> intro _ _;simp [Zp]
   | cons t l ih2=>
    intro hm h
    obtain ⟨⟨k1,f1,f2⟩,q⟩:=h t Q9
    have i2:=ih2 (by rw [Zp] at hm;omega) fun t ht=> h t (Q7 _ ht)
    obtain ⟨k',w',l'⟩:=t
    have k1:k'=1:=k1
    subst k1
    have f1:w'.length<=fw:=f1
    have f2:l'.length<=fk:=f2
    rw [Zp,Zm] at hm
    have hkk:=kids l' (by omega) fun t ht=> (q t ht).2
    rw [Xe,Zp,Zp,Z2m,Qc,Qr]
    have:Zm (Jh fw fk (.mk 1 w' l'))=1+fw+(Zp (ZL l')+(fk - l'.length)):=by
     unfold Jh
     rw [if_neg (show ¬(Tree.mk 1 w' l').kind=9 from (by show ¬(1:Int)=9;decide))]
     show Zm (.mk 1 (w'++zs (fw - w'.length)) (ZL l'++List.replicate (fk - l'.length) Tree.nil))=_
     rw [Zm,mapp,nils,Qb,Z0G]
     omega
    rw [this,Zm]
    omega
  have:=all (frW ks) (frK ks) ks (by omega) fun t ht=> ⟨⟨(rows t ht).1,Z4C ht⟩,(rows t ht).2.1⟩
  omega
 .rw [if_neg h9]
  have hkk:=kids ks (by omega) fun t ht=> ⟨_,(rt.kids t ht).1⟩
  have:YZ ks<=JZ (.mk k w ks):=by
   rw [sz]
   split
   .omega
   .split
    .omega
    .split
     .rename_i h27
      have hat:=(rt.data h27.1 h27.2).2
      have:∀ l:List Tree,(∀ t∈l,t.kind=10/\t.kids.length=0/\t.words.length=1)->YZ l=0:=by
       intro l
       induction l with
       | nil=> intro _;rw [YZ]
       | cons t l ih=>
        intro h
        have h1:=h t Q9
        rw [YZ,ih fun t ht=> h t (Q7 _ ht),Zet,if_neg (by omega),if_neg (by omega),if_neg (by omega),if_neg (by omega),Qk.1 h1.2.1]
        try rfl
      rw [this ks hat]
      omega
     .omega
  omega
noncomputable section
def Zn4(a:Int × Int × Unit):List (C U):=[.nils,ci (max a.1 1),ci (min (max a.2.1 0) 131072),ci 0]
def Z7Y:Fs U:=fsN ZjM (fun a=> [Jg a]) Zn4
def Zdq(a:Tree × Int × Int × Unit):Prop:=(Zm a.1<=1000000/\rng a.1)/\InR a.2.1
def ZhG(a:Tree × Int × Int × Unit):V U:= .tup [(false,[.po (U:=U) .arena (if (Zj a.1 a.2.1 a.2.2.1).2=true then some (Zj a.1 a.2.1 a.2.2.1).1 else none)]),(false,[.bool ((Zj a.1 a.2.1 a.2.2.1).2)])]
def Z6r:Fs U:=fs Zec (fun a=> [Zdq a]) ZhG
def Zpi:Z8 U:=lvl [([0,1],[]),([4],[11])]
abbrev W21(size most:Int)(Q:QT):=AW (Z0 Zj1) Try.f21 Zpi [] (L2 [pI 0 size,pI 1 most] []) Q
theorem Zsw(size most:Int)(Q:QT)(h:Q .ret (L2 [(4,.ptr (.loc 11) 0)] [(.loc 11,[.nils,ci (if size < 1 then 1 else size),ci (if (131072:Int) < (if most < 0 then 0 else most) then 131072 else (if most < 0 then 0 else most)),ci 0])])):
  W21 size most Q:=by
 have e_:(W21 size most Q)=(Q .ret (L2 [(4,.ptr (.loc 11) 0)] [(.loc 11,[.nils,ci (if (size:Int) < 1 then 1 else size),ci (if (131072:Int) < (if (most:Int) < 0 then 0 else most) then 131072 else (if (most:Int) < 0 then 0 else most)),ci 0])])):=by kernel_rfl
 exact e_.mpr h
abbrev ZqB(size most:Int):Prop:=AW (Z0 Zj1) Try.f21 Zpi [] (Zi (ZjM.can (size,most,())) []) (ZbI cfg Try.f21.ntmps Try.f21.results.toList [] (Zn4 (size,most,())))
theorem Zoz(hb:∀ (size:Int) (most:Int) (_:Unit),Jg (size,most,())->ZqB size most):CT 21 Z7Y:=
 Z93 (l:=[]) Zf rfl trivial Zpi Try.func21 rfl rfl 2 (fun _=> rfl) (by decide) (fun ⟨size,most,_⟩=> hb size most ())
def Znf:List (FuncId × Fs U):=[(21,ZpF Z7Y),(20,Z7Z),(22,Z03),(24,Z85),(23,Z5J)]
def lv8:Z8 U:=fun i=> match i with
 | 0=> ([(1,[]),(2,[]),(3,[])],[(.loc 3,[])])
 | 1=> ([(1,[]),(2,[]),(3,[]),(18,[])],[(.loc 3,[])])
 | 2=> ([(6,[]),(7,[])],[])
 | 3=> ([(3,[]),(8,[])],[(.loc 3,[]),(.loc 8,[.ar])])
 | 4=> ([(3,[]),(8,[]),(9,[]),(10,[])],[(.loc 3,[]),(.loc 8,[.ar]),(.loc 9,[])])
 | 5=> ([(8,[]),(37,[])],[(.loc 8,[.ar])])
 | 6=> ([(6,[]),(7,[])],[])
 | 7=> ([(6,[.pt .arena]),(7,[])],[])
 | _=> ([],[])
abbrev W8(t:Tree)(size most:Int)(Q:QT):=AW (Zfc Znf) Try.f8 lv8 [] (L2 [(0,.agg (enc .tree t)),pI 1 size,pI 2 most] []) Q
theorem vc8(t:Tree)(size most:Int)(Q:QT)(h:∀ y_1,y_1=t->∀ y_2,y_2=(Zd (Arena.mk [] (max size 1) (min (max most 0) 131072) 0) 1)->∀ y_3,y_3=(Z4 (Arena.mk [] (max size 1) (min (max most 0) 131072) 0) 1)->∀ y_4,y_4=(Spot.mk (if Z4 (Arena.mk [] (max size 1) (min (max most 0) 131072) 0) 1 then giveS (Arena.mk [] (max size 1) (min (max most 0) 131072) 0) 1 else 0) (if Z4 (Arena.mk [] (max size 1) (min (max most 0) 131072) 0) 1 then giveT (Arena.mk [] (max size 1) (min (max most 0) 131072) 0) 1 else 0))->∀ y_5,y_5=y_4->∀ y_6,y_6=(Z9 y_1)->(Zf2 (y_1,()))/\(((bif (!(Z5 y_1 64)) then true else (t.kind==10))=true->Q .ret (L2 [(6,.c (.nilp)),pB 7 false] []))/\((bif (!(Z5 y_1 64)) then true else (t.kind==10))=false->(Jg (size,most,()))/\((Z2p (((Arena.mk [] (max size 1) (min (max most 0) 131072) 0),()),1,()))/\(((!(!y_3))=true->Z6G (y_1,()))/\((!(!y_3))=true->Z6D ((y_2,()),y_5,y_6,()))/\(((bif (!y_3) then true else (!((ZP y_6 y_2 (Spot.segment y_5) (Spot.at_ y_5)).2)))=true->Q .ret (L2 [(6,.c (.nilp)),pB 7 false] []))/\((bif (!y_3) then true else (!((ZP y_6 y_2 (Spot.segment y_5) (Spot.at_ y_5)).2)))=false->Q .ret (L2 [(6,.c (.po (U:=U) .arena (some (bif (!(!y_3)) then ((ZP y_6 y_2 (Spot.segment y_5) (Spot.at_ y_5)).1) else y_2)))),pB 7 true] [])))))))):
  W8 t size most Q:=by
 have e_:(W8 t size most Q)=(let y_1:=(Z04 t);let y_2:=(Zd (Arena.mk [] (max size 1) (min (max most 0) 131072) 0) 1);let y_3:=(Z4 (Arena.mk [] (max size 1) (min (max most 0) 131072) 0) 1);let y_4:=(Spot.mk (if Z4 (Arena.mk [] (max size 1) (min (max most 0) 131072) 0) 1 then giveS (Arena.mk [] (max size 1) (min (max most 0) 131072) 0) 1 else 0) (if Z4 (Arena.mk [] (max size 1) (min (max most 0) 131072) 0) 1 then giveT (Arena.mk [] (max size 1) (min (max most 0) 131072) 0) 1 else 0));let y_5:=(YM y_4);let y_6:=(Z04 (Z9 y_1));let zz1:=(bif (!(Z5 y_1 64)) then true else (t.kind==10));let zz0:=(bif (!y_3) then true else (!((ZP y_6 y_2 (Spot.segment y_5) (Spot.at_ y_5)).2)));((Zf2 (y_1,()))/\(Tr ((!(!(Z5 y_1 64)))=true))/\(Tr ((!(!(Z5 y_1 64)))=true))/\((!(Z5 y_1 64))=false->(!(!(Z5 y_1 64)))=true)/\((zz1=true->(Q .ret (L2 [(6,.c (.nilp)),pB 7 false] [])))/\(zz1=false->(Jg (size,most,()))/\((Z2p (((Arena.mk [] (max size 1) (min (max most 0) 131072) 0),()),1,()))/\(((!(!y_3))=true->(!(!y_3))=true)/\((!(!y_3))=true->Z6G (y_1,()))/\((!(!y_3))=true->(!(!y_3))=true)/\((!(!y_3))=true->(!(!y_3))=true)/\((!(!y_3))=true->(!(!y_3))=true)/\((!(!y_3))=true->Z6D ((y_2,()),y_5,y_6,()))/\((!(!y_3))=true->(!(!y_3))=true)/\((!y_3)=false->(!(!y_3))=true)/\((zz0=true->(Q .ret (L2 [(6,.c (.nilp)),pB 7 false] [])))/\(zz0=false->(Q .ret (L2 [(6,.c (.po (U:=U) .arena (some (bif (!(!y_3)) then ((ZP y_6 y_2 (Spot.segment y_5) (Spot.at_ y_5)).1) else y_2)))),pB 7 true] [])))))))))):=by kernel_rfl
 exact e_.mpr (by intro y_1 y_2 y_3 y_4 y_5 y_6;have hh:=h y_1 (ZT _) y_2 rfl y_3 rfl y_4 rfl y_5 (ZU _) y_6 (ZT _);exact ⟨hh.1,id,id,(by generalize (Z5 y_1 64)=b0;revert b0;decide),⟨fun c_1=> (hh.2.1 c_1),fun c_1=> ⟨(hh.2.2 c_1).1,⟨(hh.2.2 c_1).2.1,⟨id,(hh.2.2 c_1).2.2.1,id,id,id,(hh.2.2 c_1).2.2.2.1,id,(by generalize y_3=b0;revert b0;decide),⟨fun c_2=> ((hh.2.2 c_1).2.2.2.2.1 c_2),fun c_2=> ((hh.2.2 c_1).2.2.2.2.2 c_2)⟩⟩⟩⟩⟩⟩)
abbrev ZrB(t:Tree)(size most:Int):Prop:=AW (Zfc Znf) Try.f8 lv8 [] (Zi (Zec.can (t,size,most,())) []) (EQ Try.f8 (ZhG (t,size,most,())) [])
theorem Zrd(c21:CT 21 Z7Y)(c20:CT 20 Z7Z)(c22:CT 22 Z03)(c24:CT 24 Z85)(c23:CT 23 Z5J)(hb:∀ (t:Tree) (size:Int) (most:Int) (_:Unit),Zdq (t,size,most,())->ZrB t size most):CT 8 Z6r:=
 Z95 (l:=[(21,ZpF Z7Y),(20,Z7Z),(22,Z03),(24,Z85),(23,Z5J)]) Zf rfl (⟨Zbl c21,c20,c22,c24,c23,trivial⟩) lv8 Try.func8 rfl rfl 3 (fun _=> rfl) (by decide) (fun ⟨t,size,most,_⟩=> hb t size most ())
end
theorem Zrc(x y:Int):(if x < y then y else x)=max x y:=by omega
theorem ZsI(x y:Int):(if y < x then y else x)=min x y:=by omega
theorem c21:Contract Try.prog cfg 21 Z7Y:=by
 refine Zoz ?_
 intro size most _ _
 refine Zsw size most _ ?_
 rw [Zrc,Zrc,ZsI]
 (repeat' (first | exact trivial | exact rfl | apply And.intro))
theorem c8:Contract Try.prog cfg 8 Z6r:=by
 refine Zrd c21 c20 c22 c24 c23 ?_
 intro t size most _ hp
 obtain ⟨⟨hm,hg⟩,hs⟩:=hp
 dsimp only at hm hg hs
 have fin:∀ {r:Arena},Zj t size most=(r,false)->Yg cfg Try.f8.ntmps Try.f8.results.toList (ZhG (t,size,most,())) [] .ret (⟨[(6,.c (.nilp)),(7,.c (.bool false))],[],[]⟩:LSt U):=by
  intro r e
  refine Y4 (r':= .tup [(false,[.po (U:=U) .arena none]),(false,[.bool false])]) ?_ (by (repeat' (first | exact trivial | exact rfl | apply And.intro)))
  simp only [ZhG,e]
  try rfl
 have hn:=Z4w t
 refine vc8 t size most _ ?_
 rintro y1 rfl y2 hy2 y3 hy3 y4 hy4 y5 rfl y6 hy6
 have eA:(Arena.mk ([]) (max size 1) (min (max most 0) 131072) 0)=Y6 size most:=rfl
 rw [eA] at hy2 hy3 hy4 ⊢
 have ok0:OkAr (Y6 size most):=OkAr.new size most (by unfold InR at hs;omega)
 refine ⟨⟨by dsimp only;omega,hg⟩,fun hb=> ?_,fun hb=> ?_⟩
 .have:¬(Z5 y1 64=true/\y1.kind≠10):=by
   rintro ⟨q1,q2⟩
   rw [q1] at hb
   exact q2 (eq_of_beq hb)
  refine fin (r:=Y6 size most) ?_
  unfold Zj
  rw [if_neg this]
 .have hr:Z5 y1 64=true:=by
   cases q:Z5 y1 64 with
   | true=> rfl
   | false=> rw [q] at hb;cases hb
  have hk:y1.kind≠10:=by
   intro q
   rw [hr,q] at hb
   cases hb
  have hn10:(Z9 y1).kind≠10:=by rw [Z0T];exact hk
  have hB:Zj y1 size most=if Z4 (Y6 size most) 1 then ZP (Z9 y1) (Zd (Y6 size most) 1) (giveS (Y6 size most) 1) (giveT (Y6 size most) 1) else (Y6 size most,false):=by
   unfold Zj
   rw [if_pos ⟨hr,hk⟩]
  subst hy6
  refine ⟨trivial,ok0,fun _=> (show Zm y1<=1000000000000 by omega),fun q=> ?_,fun q=> ?_,fun q=> ?_⟩
  .have q3:Z4 (Y6 size most) 1=true:=by
    rw [<-hy3]
    cases y3 with
    | true=> rfl
    | false=> cases q
   have hy5:y5=Spot.mk (giveS (Y6 size most) 1) (giveT (Y6 size most) 1):=by rw [hy4,if_pos q3,if_pos q3]
   rw [hy5]
   exact ⟨⟨by rw [hy2];exact ok0.give _,by rw [hy2];exact Z0Y q3⟩,⟨by dsimp only;omega,Z2U _ hg⟩,hn10,64,J2 _ _ hr⟩
  .cases q3:Z4 (Y6 size most) 1 with
   | false=>
    refine fin (r:=Y6 size most) ?_
    rw [hB,q3]
    try rfl
   | true=>
    have hy5:y5=Spot.mk (giveS (Y6 size most) 1) (giveT (Y6 size most) 1):=by rw [hy4,if_pos q3,if_pos q3]
    rw [hy3,q3,hy5,hy2] at q
    have q:(ZP (Z9 y1) (Zd (Y6 size most) 1) (giveS (Y6 size most) 1) (giveT (Y6 size most) 1)).2=false:=by
     cases q4:(ZP (Z9 y1) (Zd (Y6 size most) 1) (giveS (Y6 size most) 1) (giveT (Y6 size most) 1)).2 with
     | false=> rfl
     | true=> dsimp only at q;rw [q4] at q;cases q
    refine fin (r:=(ZP (Z9 y1) (Zd (Y6 size most) 1) (giveS (Y6 size most) 1) (giveT (Y6 size most) 1)).1) ?_
    rw [hB,if_pos q3,<-q]
  .cases q3:Z4 (Y6 size most) 1 with
   | false=> rw [hy3,q3] at q;cases q
   | true=>
    have hy5:y5=Spot.mk (giveS (Y6 size most) 1) (giveT (Y6 size most) 1):=by rw [hy4,if_pos q3,if_pos q3]
    rw [hy3,q3,hy5,hy2] at q
    have q:(ZP (Z9 y1) (Zd (Y6 size most) 1) (giveS (Y6 size most) 1) (giveT (Y6 size most) 1)).2=true:=by
     cases q4:(ZP (Z9 y1) (Zd (Y6 size most) 1) (giveS (Y6 size most) 1) (giveT (Y6 size most) 1)).2 with
     | true=> rfl
     | false=> dsimp only at q;rw [q4] at q;cases q
    rw [hy3,q3,hy5,hy2]
    refine Y4 (r':= .tup [(false,[.po (U:=U) .arena (some (ZP (Z9 y1) (Zd (Y6 size most) 1) (giveS (Y6 size most) 1) (giveT (Y6 size most) 1)).1)]),(false,[.bool true])]) ?_ (by (repeat' (first | exact trivial | exact rfl | apply And.intro)))
    simp only [ZhG,hB,if_pos q3,q,if_true]
noncomputable section
def Znn:ArgL Unit:= .nil
def Z9o(a:Unit):Prop:=True
def Zr0(a:Unit):V U:= .c (.bool true)
def ZbO:Fs U:=fs Znn (fun a=> [Z9o a]) Zr0
def Zng:List (FuncId × Fs U):=[(8,Z6r),(11,Z2Q),(10,Z86)]
def lv7:Z8 U:=lvl [([],[]),([1,2],[]),([0],[])]
abbrev W7(Q:QT):=AW (Z0 Zng) Try.f7 lv7 [] (L2 [] []) Q
theorem vc7(Q:QT)(h:(Zdq ((Tree.mk 1 ([5]) []),1,9,()))/\((((Zj (Tree.mk 1 ([5]) []) 1 9).2)=true->Z5Q ((if (Zj (Tree.mk 1 ([5]) []) 1 9).2=true then some (Zj (Tree.mk 1 ([5]) []) 1 9).1 else none),()))/\(((Zj (Tree.mk 1 ([5]) []) 1 9).2)=true->Zcb ((Z1 (if (Zj (Tree.mk 1 ([5]) []) 1 9).2=true then some (Zj (Tree.mk 1 ([5]) []) 1 9).1 else none)),([[8589934598],[5],[4294967298,4294967296]]),()))/\(Q .ret (L2 [(0,.c (.bool (bif ((Zj (Tree.mk 1 ([5]) []) 1 9).2) then (decide ((Z1 (if (Zj (Tree.mk 1 ([5]) []) 1 9).2=true then some (Zj (Tree.mk 1 ([5]) []) 1 9).1 else none))=([[8589934598],[5],[4294967298,4294967296]]))) else false)))] [])))):
  W7 Q:=by
 have e_:(W7 Q)=((Zdq ((Tree.mk 1 ([5]) []),1,9,()))/\((Tr (((Zj (Tree.mk 1 ([5]) []) 1 9).2)=true))/\(((Zj (Tree.mk 1 ([5]) []) 1 9).2)=true->Z5Q ((if (Zj (Tree.mk 1 ([5]) []) 1 9).2=true then some (Zj (Tree.mk 1 ([5]) []) 1 9).1 else none),()))/\(Tr (((Zj (Tree.mk 1 ([5]) []) 1 9).2)=true))/\(Tr (((Zj (Tree.mk 1 ([5]) []) 1 9).2)=true))/\(Tr (((Zj (Tree.mk 1 ([5]) []) 1 9).2)=true))/\(Tr (((Zj (Tree.mk 1 ([5]) []) 1 9).2)=true))/\(Tr (((Zj (Tree.mk 1 ([5]) []) 1 9).2)=true))/\(((Zj (Tree.mk 1 ([5]) []) 1 9).2)=true->Zcb ((Z1 (if (Zj (Tree.mk 1 ([5]) []) 1 9).2=true then some (Zj (Tree.mk 1 ([5]) []) 1 9).1 else none)),([[8589934598],[5],[4294967298,4294967296]]),()))/\(Tr (((Zj (Tree.mk 1 ([5]) []) 1 9).2)=true))/\(Q .ret (L2 [(0,.c (.bool (bif ((Zj (Tree.mk 1 ([5]) []) 1 9).2) then (decide ((Z1 (if (Zj (Tree.mk 1 ([5]) []) 1 9).2=true then some (Zj (Tree.mk 1 ([5]) []) 1 9).1 else none))=([[8589934598],[5],[4294967298,4294967296]]))) else false)))] [])))):=by kernel_rfl
 exact e_.mpr ⟨h.1,⟨id,h.2.1,id,id,id,id,id,h.2.2.1,(by generalize ((Zj (Tree.mk 1 ([5]) []) 1 9).2)=b0;revert b0;decide),h.2.2.2⟩⟩
abbrev ZrC:Prop:=AW (Z0 Zng) Try.f7 lv7 [] (Zi (Znn.can ()) []) (EQ Try.f7 (Zr0 ()) [])
theorem Zre(c8:CT 8 Z6r)(c11:CT 11 Z2Q)(c10:CT 10 Z86)(hb:∀ (_:Unit),Z9o ()->ZrC):CT 7 ZbO:=
 Z2 (l:=[(8,Z6r),(11,Z2Q),(10,Z86)]) Zf rfl (⟨c8,c11,c10,trivial⟩) lv7 Try.func7 rfl rfl 0 (fun _=> rfl) (by decide) (fun _=> hb ())
end
theorem Z4v{t:Tree}{size most:Int}(hg:rng t)(hs:InR size):OkAr (Zj t size most).1:=by
 have ok0:OkAr (Y6 size most):=OkAr.new size most (by unfold InR at hs;omega)
 unfold Zj
 split
 .rename_i h
  split
  .exact (Z57 (Z9 t) _ _ (ok0.give 1) (Z2U _ hg) ⟨64,J2 _ _ h.1⟩).1
  .exact ok0
 .exact ok0
theorem c7:Contract Try.prog cfg 7 ZbO:=by
 refine Zre c8 c11 c10 ?_
 rintro _ hp
 have e:Zj (Tree.mk 1 [5] []) 1 9=(Arena.mk [[8589934598],[5],[4294967298,4294967296]] 1 9 4,true):=by rfl
 refine vc7 _ ?_
 simp only [e,if_true,cond_true]
 have ok:YK [[8589934598],[5],[4294967298,4294967296]]:=by
  refine ⟨by decide,fun w hw=> ?_⟩
  simp only [QH,List.not_mem_nil,or_false] at hw
  rcases hw with rfl | rfl | rfl <;> exact ⟨by decide,by decide⟩
 refine ⟨⟨⟨by decide,by decide,?_,trivial⟩,by unfold InR;decide⟩,fun _=> ok,fun _=> ok,?_⟩
 .intro x hx
  simp at hx
  omega
 ·(repeat' (first | exact trivial | exact rfl | apply And.intro))
theorem Z0g(a:Arena)(s i w:Int):(ZW a s i w).used=a.used:=by
 unfold ZW
 split <;> rfl
theorem Z3B:∀ (l:List Int) (a:Arena) (s i:Int),(ZG l a s i).used=a.used
 | [],_,_,_=> rfl
 | w ::r,a,s,i=> by rw [ZG,Z3B r,Z0g]
theorem ZlX(a:Arena)(s n:Int):a.used<=(inA a s n).used:=by
 unfold inA
 split
 .rename_i h
  unfold Z0W at h
  rw [Q3,decide_eq_true_eq] at h
  show a.used<=a.used+n
  omega
 .exact QE _
theorem Z67{a:Arena}{n:Int}(h:Z4 a n=true):(Zd a n).used=a.used+n:=by
 unfold Zd
 rw [if_pos h]
 show (Yz a n).used+n=_
 rw [(Z22 a n).1]
theorem Zdu(a:Arena)(s i s' i' k up:Int):a.used<=(ZN a s i s' i' k up).1.used:=by
 unfold ZN
 split
 .rw [Z0g];exact QE _
 .split
  .rw [Z0g,Z0g];exact ZlX a s' 1
  .split
   .rename_i h
    rw [Z0g,Z0g,Z0g,Z67 h]
    omega
   .exact QE _
theorem Z2j{a:Arena}{s i n k up:Int}(h:(Y5 a s i n k up).2=true):a.used+n<=(Y5 a s i n k up).1.used:=by
 have hg:=(Z3S h).1
 rw [Z5y hg,<-Z67 hg]
 exact Zdu _ _ _ _ _ _ _
mutual
theorem Zcn:∀ (t:Tree) (a:Arena) (s i:Int),(∃ d,Z5 t d=true)->t.kind≠10->(ZP t a s i).2=true->a.used+JZ t<=(ZP t a s i).1.used
 | .mk k w ks,a,s,i,⟨d,hr⟩,h10,h2=> by
  have h10:k≠10:=h10
  have rt:=riT hr
  have hkr:=rt.kind
  rw [ZP] at h2 ⊢
  rw [JZ]
  by_cases h0:k=0
  .obtain ⟨_,rfl⟩:=rt.nil h0
   rw [if_pos h0,if_neg (by omega),if_neg (by omega),if_neg (by omega),if_neg (by omega),YZ]
   show a.used+((0:Nat):Int)<=a.used
   omega
  rw [if_neg h0] at h2 ⊢
  by_cases h1:k=1
  .rw [if_pos h1] at h2 ⊢
   rw [if_pos h1]
   obtain ⟨b2,f2,e2⟩:=Jz h2
   have hb:=Z2j b2
   have:=Z3J ks _ _ _ (rt.kidsOk (.inl h1)) f2
   rw [e2]
   rw [Z3B] at this
   omega
  rw [if_neg h1] at h2 ⊢
  by_cases h8:k=8
  .rw [if_pos h8] at h2 ⊢
   rw [if_neg h1,if_pos h8]
   obtain ⟨b2,f2,e2⟩:=Jz h2
   have hb:=Z2j b2
   have:=Z3J ks _ _ _ (rt.kidsOk (.inr h8)) f2
   rw [e2]
   omega
  rw [if_neg h8] at h2 ⊢
  by_cases h9:k=9
  .rw [if_pos h9] at h2 ⊢
   rw [if_neg h1,if_neg h8,if_pos h9]
   rw [h9] at rt
   obtain ⟨b2,f2,e2⟩:=Jz h2
   have hb:=Z2j b2
   have:=Z9N _ _ ks _ _ _ (fun t ht=> (rt.rows t ht).2.1) f2
   rw [e2]
   rw [Z0g] at this
   have e:((ks.length*(frW ks+frK ks):Nat):Int)=(ks.length:Int)*((frW ks:Int)+frK ks):=by rw [Xv,Xw]
   omega
  rw [if_neg h9] at h2 ⊢
  rw [if_neg h1,if_neg h8,if_neg h9,if_pos ⟨by omega,by omega⟩]
  obtain ⟨hfit,_⟩:=rt.data (by omega) (by omega)
  obtain ⟨b2,f2,e2⟩:=Jz h2
  have hb:=Z2j b2
  have hp:(JX (k - 2) (ZO ks)).length=(YI (k - 2) ks.length).toNat:=by
   unfold JX
   rw [if_pos hfit,Z8m,ZO,QG]
  rw [e2,Z3B,<-hp]
  exact hb
theorem Z3J:∀ (ks:List Tree) (a:Arena) (s i:Int),Z12 ks->(ZX ks a s i).2=true->a.used+YZ ks<=(ZX ks a s i).1.used
 | [],a,s,i,_,_=> by
  rw [ZX,YZ]
  show a.used+((0:Nat):Int)<=a.used
  omega
 | t ::r,a,s,i,hk,h2=> by
  rw [ZX] at h2 ⊢
  rw [YZ]
  obtain ⟨b2,f2,e2⟩:=Jz h2
  have h1:=Zcn t a s i (hk t (Q9 ..)).2 (hk t (Q9 ..)).1 b2
  have h3:=Z3J r _ s (i+1) (fun x hx=> hk x (Q7 _ hx)) f2
  rw [e2]
  omega
theorem Z9N:∀ (fw fk:Nat) (ks:List Tree) (a:Arena) (s i:Int),(∀ t∈ks,Z12 t.kids)->(YT fw fk ks a s i).2=true->a.used+Z2m ks<=(YT fw fk ks a s i).1.used
 | _,_,[],a,s,i,_,_=> by
  rw [YT,Z2m]
  show a.used+((0:Nat):Int)<=a.used
  omega
 | fw,fk,.mk k w l ::r,a,s,i,hk,h2=> by
  rw [YT] at h2 ⊢
  rw [Z2m]
  obtain ⟨b2,f2,e2⟩:=Jz h2
  have h1:=Z3J l _ s (i+fw) (hk _ (Q9 ..)) b2
  have h3:=Z9N fw fk r _ s _ (fun x hx=> hk x (Q7 _ hx)) f2
  rw [Z3B] at h1
  rw [e2]
  omega
end
theorem OkAr.small{a:Arena}(h:OkAr a):ZfV a.segs:=⟨h.few,fun s=> by have:=h.len s;have:=h.used;omega⟩
theorem Z9a{t:Tree}{size most:Int}(hg:rng t)(hs:InR size)(h2:(Zj t size most).2=true):
  (Z5 t 64=true/\t.kind≠10)/\JZ (Z9 t) < 131072/\∃ F,Lies F (Zj t size most).1.segs (Z9 t) 0 0:=by
 have hok:=Z4v (most:=most) hg hs
 have ok0:OkAr (Y6 size most):=OkAr.new size most (by unfold InR at hs;omega)
 unfold Zj at h2 hok ⊢
 by_cases h:Z5 t 64=true/\t.kind≠10
 .rw [if_pos h] at h2 hok ⊢
  by_cases hk:Z4 (Y6 size most) 1=true
  .rw [if_pos hk] at h2 hok ⊢
   have hn10:(Z9 t).kind≠10:=by rw [Z0T];exact h.2
   have hr:∃ d,Z5 (Z9 t) d=true:=⟨64,J2 _ _ h.1⟩
   have eo:Yz (Y6 size most) 1=⟨[[]],max size 1,min (max most 0) 131072,0⟩:=by
    unfold Yz
    rw [if_pos (.inl rfl)]
    try rfl
   have eS:giveS (Y6 size most) 1=0:=by unfold giveS;rw [eo];try rfl
   have eT:giveT (Y6 size most) 1=0:=by unfold giveT;rw [eS,eo];try rfl
   have gh:=Z0Y hk
   rw [eS,eT] at h2 hok gh ⊢
   have hz:Zg (Zd (Y6 size most) 1).segs 0 0=0:=by rw [Z8Y (QE _)];try rfl
   have hl:=Zco (Z9 t) (Zd (Y6 size most) 1) 0 0 (ok0.give 1) (Z2U _ hg) hr gh hz h2
   have hu:=Zcn (Z9 t) (Zd (Y6 size most) 1) 0 0 hr hn10 h2
   rw [Z67 hk] at hu
   have e0:(Y6 size most).used=0:=rfl
   have hm:=hok.used
   exact ⟨h,by omega,_,hl.2⟩
  .rw [if_neg hk] at h2
   cases h2
 .rw [if_neg h] at h2
  cases h2
theorem ZgX{t:Tree}{size most:Int}(hg:rng t)(hs:InR size)(h2:(Zj t size most).2=true):
  (weight (Zt (Z9 t))<=65536->Z0l (Zj t size most).1.segs (Limits.mk 64 65536 0 0)=(Zt (Z9 t),weight (Zt (Z9 t)),0))/\
   (65536 < weight (Zt (Z9 t))->(Z0l (Zj t size most).1.segs (Limits.mk 64 65536 0 0)).2.2=3):=by
 obtain ⟨⟨hr,h10⟩,_,F,hl⟩:=Z9a hg hs h2
 have hok:=Z4v (most:=most) hg hs
 obtain ⟨x,h1,hm⟩:=ZgC hok.small (Zm (Z9 t)) (Z9 t) (Qn _) 64 0 0 (J2 _ _ hr) (by rw [Z0T];exact h10) (Z2U _ hg) hl
 obtain ⟨m1,m2⟩:=hm 65536 (by decide)
 have e:JM (Limits.mk 64 65536 0 0)=⟨64,65536,0,0⟩:=rfl
 have e2:(Int.toNat 64)=64:=rfl
 unfold Z0l
 rw [e,h1]
 dsimp only
 rw [e2,if_pos rfl]
 refine ⟨fun h=> ?_,fun h=> ?_⟩
 .rw [m1 h]
  dsimp only
  rw [if_pos rfl]
  congr 2
  omega
 .have:=m2 h
  rw [this,if_neg (by decide)]
noncomputable section
def ZnI(a:Tree × Int × Unit):Prop:=(small a.1/\rng a.1)/\InR a.2.1
def Zr2(a:Tree × Int × Unit):V U:= .c (.bool true)
def Zes:Fs U:=fs Zkb (fun a=> [ZnI a]) Zr2
def Znh:List (FuncId × Fs U):=[(6,ZbP),(7,ZbO),(8,Z6r),(13,Z85),(14,Z84),(15,Z2P),(16,Z83),(17,Z82),(18,Z81),(11,Z2Q)]
def lv5:Z8 U:=lvl [([1,2],[2]),([1,2,12],[2]),([4],[]),([2,5,6],[2]),([2,5,21],[2]),([4],[]),([5,7],[7]),([7,8,9],[7,8]),([7,8,9,34],[7,8]),([4],[]),([4],[])]
abbrev W5(t:Tree)(size:Int)(Q:QT):=AW (Z0 Znh) Try.f5 lv5 [] (L2 [(0,.agg (enc .tree t)),pI 1 size] []) Q
theorem vc5(t:Tree)(size:Int)(Q:QT)(h:∀ y_1,y_1=t->∀ y_2,y_2=(Z9 y_1)->∀ y_3,y_3=(Z1 (if (Zj y_1 size 131072).2=true then some (Zj y_1 size 131072).1 else none))->∀ y_4,y_4=(Zt y_2)->∀ y_5,y_5=(Z0l (Z1 (some (Arena.mk y_3 0 0 0))) (Limits.mk 64 65536 0 0))->∀ y_6,y_6=(Z9 y_5.1)->(pre6 (y_1,()))/\(((!(decide (0<=ZR y_1 80 3000)))=true->(Z9o ())/\(Q .ret (L2 [pB 4 true] [])))/\((!(decide (0<=ZR y_1 80 3000)))=false->(Zdq (y_1,size,131072,()))/\(((!((Zj y_1 size 131072).2))=true->(Z9o ())/\(Q .ret (L2 [pB 4 true] [])))/\((!((Zj y_1 size 131072).2))=false->(Z6G (y_1,()))/\((Z5Q ((if (Zj y_1 size 131072).2=true then some (Zj y_1 size 131072).1 else none),()))/\(Z8w (y_3,()))/\(Zf0 ((some (Arena.mk y_3 0 0 0)),(Limits.mk 64 65536 0 0),()))/\(((((y_5.2.2):Int)==3)=true->(ZeY (y_2,()))/\(ZeY (y_4,()))/\((decide ((65536:Int) < (weight y_4)))=true->Z9o ())/\(Q .ret (L2 [(4,.c (.bool (bif (decide ((65536:Int) < (weight y_4))) then true else false)))] [])))/\((((y_5.2.2):Int)==3)=false->((((y_5.2.2):Int)==0)=true->Z6E (y_6,y_2,()))/\((bif (((y_5.2.2):Int)==0) then (Z00 y_6 y_2) else false)=true->Z9o ())/\(Q .ret (L2 [(4,.c (.bool (bif (bif (((y_5.2.2):Int)==0) then (Z00 y_6 y_2) else false) then true else false)))] [])))))))))):
  W5 t size Q:=by
 have e_:(W5 t size Q)=(let y_1:=(Z04 t);let y_2:=(Z04 (Z9 y_1));let y_3:=(Z1 (if (Zj y_1 size 131072).2=true then some (Zj y_1 size 131072).1 else none));let y_4:=(Z04 (Zt y_2));let y_5:=(Z0l (Z1 (some (Arena.mk y_3 0 0 0))) (Limits.mk 64 65536 0 0));let y_6:=(Z04 (Z9 y_5.1));let zz1:=(decide ((65536:Int) < (weight y_4)));let zz0:=(((y_5.2.2):Int)==0);((pre6 (y_1,()))/\(((!(decide (0<=ZR y_1 80 3000)))=true->(Z9o ())/\(Q .ret (L2 [pB 4 true] [])))/\((!(decide (0<=ZR y_1 80 3000)))=false->(Zdq (y_1,size,131072,()))/\(((!((Zj y_1 size 131072).2))=true->(Z9o ())/\(Q .ret (L2 [pB 4 true] [])))/\((!((Zj y_1 size 131072).2))=false->(Z6G (y_1,()))/\((Z5Q ((if (Zj y_1 size 131072).2=true then some (Zj y_1 size 131072).1 else none),()))/\(Z8w (y_3,()))/\(Zf0 ((some (Arena.mk y_3 0 0 0)),(Limits.mk 64 65536 0 0),()))/\(((((y_5.2.2):Int)==3)=true->(ZeY (y_2,()))/\(ZeY (y_4,()))/\(zz1=true->Z9o ())/\(Tr (zz1=true))/\(Q .ret (L2 [pB 4 (bif zz1 then true else false)] [])))/\((((y_5.2.2):Int)==3)=false->(Tr (zz0=true))/\(Tr (zz0=true))/\(zz0=true->Z6E (y_6,y_2,()))/\(Tr (zz0=true))/\((bif zz0 then (Z00 y_6 y_2) else false)=true->Z9o ())/\(Tr ((bif zz0 then (Z00 y_6 y_2) else false)=true))/\(Q .ret (L2 [pB 4 (bif (bif zz0 then (Z00 y_6 y_2) else false) then true else false)] []))))))))))):=by kernel_rfl
 exact e_.mpr (by intro y_1 y_2 y_3 y_4 y_5 y_6;have hh:=h y_1 (ZT _) y_2 (ZT _) y_3 rfl y_4 (ZT _) y_5 rfl y_6 (ZT _);exact ⟨hh.1,⟨fun c_1=> ⟨(hh.2.1 c_1).1,(hh.2.1 c_1).2⟩,fun c_1=> ⟨(hh.2.2 c_1).1,⟨fun c_2=> ⟨((hh.2.2 c_1).2.1 c_2).1,((hh.2.2 c_1).2.1 c_2).2⟩,fun c_2=> ⟨((hh.2.2 c_1).2.2 c_2).1,⟨((hh.2.2 c_1).2.2 c_2).2.1,((hh.2.2 c_1).2.2 c_2).2.2.1,((hh.2.2 c_1).2.2 c_2).2.2.2.1,⟨fun c_3=> ⟨(((hh.2.2 c_1).2.2 c_2).2.2.2.2.1 c_3).1,(((hh.2.2 c_1).2.2 c_2).2.2.2.2.1 c_3).2.1,(((hh.2.2 c_1).2.2 c_2).2.2.2.2.1 c_3).2.2.1,(by generalize (decide ((65536:Int) < (weight y_4)))=b0;revert b0;decide),(((hh.2.2 c_1).2.2 c_2).2.2.2.2.1 c_3).2.2.2⟩,fun c_3=> ⟨id,id,(((hh.2.2 c_1).2.2 c_2).2.2.2.2.2 c_3).1,(by generalize (((y_5.2.2):Int)==0)=b0;revert b0;decide),(((hh.2.2 c_1).2.2 c_2).2.2.2.2.2 c_3).2.1,(by generalize (Z00 y_6 y_2)=b0;generalize (((y_5.2.2):Int)==0)=b1;revert b0 b1;decide),(((hh.2.2 c_1).2.2 c_2).2.2.2.2.2 c_3).2.2⟩⟩⟩⟩⟩⟩⟩⟩)
abbrev ZrE(t:Tree)(size:Int):Prop:=AW (Z0 Znh) Try.f5 lv5 [] (Zi (Zkb.can (t,size,())) []) (EQ Try.f5 (Zr2 (t,size,())) [])
theorem Zrg(c6:CT 6 ZbP)(c7:CT 7 ZbO)(c8:CT 8 Z6r)(c13:CT 13 Z85)(c14:CT 14 Z84)(c15:CT 15 Z2P)(c16:CT 16 Z83)(c17:CT 17 Z82)(c18:CT 18 Z81)(c11:CT 11 Z2Q)(hb:∀ (t:Tree) (size:Int) (_:Unit),ZnI (t,size,())->ZrE t size):CT 5 Zes:=
 Z2 (l:=[(6,ZbP),(7,ZbO),(8,Z6r),(13,Z85),(14,Z84),(15,Z2P),(16,Z83),(17,Z82),(18,Z81),(11,Z2Q)]) Zf rfl (⟨c6,c7,c8,c13,c14,c15,c16,c17,c18,c11,trivial⟩) lv5 Try.func5 rfl rfl 2 (fun _=> rfl) (by decide) (fun ⟨t,size,_⟩=> hb t size ())
end
theorem c5:Contract Try.prog cfg 5 Zes:=by
 refine Zrg c6 c7 c8 c13 c14 c15 c16 c17 c18 c11 ?_
 intro t size _ hp
 obtain ⟨⟨hs,hg⟩,hsz⟩:=hp
 dsimp only at hs hg hsz
 refine vc5 t size _ ?_
 rintro y1 rfl y2 hy2 y3 hy3 y4 hy4 y5 hy5 y6 hy6
 refine ⟨hs,fun _=> ⟨trivial,by (repeat' (first | exact trivial | exact rfl | apply And.intro))⟩,fun hf=> ?_⟩
 have hf:0<=ZR y1 80 3000:=by simpa using hf
 have hm:=ZjE hf
 have hm3:Zm y1<=3000:=by have:=Z1X y1 80 3000 hf;omega
 have pre:Zdq (y1,size,131072,()):=⟨⟨hm,hg⟩,hsz⟩
 have ok:=Z4v (t:=y1) (most:=131072) hg hsz
 refine ⟨pre,fun _=> ⟨trivial,by (repeat' (first | exact trivial | exact rfl | apply And.intro))⟩,fun hb=> ?_⟩
 have hb:(Zj y1 size 131072).2=true:=by simpa using hb
 rw [if_pos hb] at hy3 ⊢
 have hy3:y3=(Zj y1 size 131072).1.segs:=hy3
 obtain ⟨⟨hr,h10⟩,hsn,_⟩:=Z9a hg hsz hb
 obtain ⟨u1,u2⟩:=ZgX hg hsz hb
 have hn:=Z4w y1
 have r2:Z5 y2 64=true:=by rw [hy2];exact J2 _ _ hr
 have n2:Z9 y2=y2:=by rw [hy2];exact Z8G y1
 rw [<-hy2] at hsn u1 u2 hn
 have hfm:=ZgO _ y2 (Qn _) _ r2
 rw [<-hy4] at hfm u1 u2
 have hA:Z1 (some (Arena.mk y3 0 0 0))=(Zj y1 size 131072).1.segs:=by rw [hy3];try rfl
 rw [hA] at hy5
 have q1:Zm y1<=1000000000000:=by omega
 have q2:Zm y2<=1000000:=by omega
 have q4:Zm y4<=1000000:=by omega
 have p11:Z5Q (some (Zj y1 size 131072).1,()):=ok.seg
 have p15:Z8w (y3,()):=by rw [hy3];exact ok.seg
 have p14:Zf0 (some (Arena.mk y3 0 0 0),Limits.mk 64 65536 0 0,()):=by show YK y3;rw [hy3];exact ok.seg
 refine ⟨q1,p11,p15,p14,?_⟩
 by_cases hw:weight y4<=65536
 .rw [u1 hw] at hy5
  have e5:y5.2.2=0:=by rw [hy5]
  have e6:y6=y2:=by
   rw [hy6,hy5]
   have nf:=Zgs _ y2 (Qn _) _ r2
   rw [n2,<-hy4] at nf
   exact nf
  rw [e5,e6]
  have st:Z00 y2 y2=true:=by simp [Z00]
  rw [st]
  refine ⟨fun q=> absurd q (by decide),fun _=> ⟨fun _=> (show Zm y2<=1000000000000 by omega),fun _=> trivial,by (repeat' (first | exact trivial | exact rfl | apply And.intro))⟩⟩
 .have e5:y5.2.2=3:=by rw [hy5];exact u2 (by omega)
  rw [e5]
  have e:decide (65536 < weight y4)=true:=decide_eq_true (by omega)
  rw [e]
  refine ⟨fun _=> ⟨q2,q4,fun _=> trivial,by (repeat' (first | exact trivial | exact rfl | apply And.intro))⟩,fun q=> absurd q (by decide)⟩
end Go.AM.Ytcljdbpmjdgooaa
