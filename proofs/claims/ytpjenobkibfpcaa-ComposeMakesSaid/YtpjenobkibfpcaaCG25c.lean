import Derived.Test.YtpjenobkibfpcaaCB25a
import Derived.Test.YtpjenobkibfpcaaKG20d
import Derived.Test.YtpjenobkibfpcaaKB22b
import Derived.Test.YtpjenobkibfpcaaKB21b
import Derived.Test.YtpjenobkibfpcaaCD25
import Derived.Test.YtpjenobkibfpcaaKB24c
set_option linter.unusedSimpArgs false
set_option linter.unusedVariables false
namespace Go.AM.Ytpjenobkibfpcaa
open Go.AM Go.Proofs
theorem Zx1(e:Edit):e.words.length+e.ops.length+Zt e.kids+Zh e.ops+Zo e.old+Zo e.new+1=Z5 e:=by obtain ⟨k,o,n,w,ks,l,os⟩:=e;simp only [Z5,Edit.words_mk,Edit.ops_mk,Edit.kids_mk,Edit.old_mk,Edit.new_mk];omega
theorem Zmz(t:Tree):1≤Zo t:=by obtain ⟨k,w,ks⟩:=t;simp only [Zo];omega
theorem Z0M{e:Edit}(h:JK e):Z5 e≤9000000000:=Nat.le_trans (Z7g e) h.1
theorem Z6I{e:Edit}(h:JK e):ZfJ (e,())∧JK (Zy (Zv e)):=by
 have hm:=Z0M h
 obtain ⟨m,r,d,hr⟩:=h
 refine ⟨⟨by dsimp only;omega,d,hr⟩,?_,?_,d,Z32 _ _ (Jx _ _ hr)⟩
 ·have:=Z8F (Zv e)
  rw [Z5n] at this
  omega
 ·exact Z6Z _ d (Jx _ _ hr) (Z6Y e r)
theorem Zap{e:Edit}{t:Tree}(h:JK e)(hm:Zo t≤100000000000)(ht:rng t):ZbO (e,t,()):=by
 have:=Z0M h
 have:=h.1
 exact ⟨⟨by dsimp only;omega,h.2⟩,by dsimp only;omega,ht⟩
theorem Zml{e:Edit}(h:JK e):Zcs e.kids:=by
 obtain ⟨m,r,d,hr⟩:=h
 have:=Jt e
 exact ⟨by omega,(ZV r).2.2.2.1,fun k hk=> ⟨_,(Zp (Zn hr).kids k hk).2⟩⟩
theorem Zmk{e:Edit}(h:JK e):Zoy e.ops:=by
 obtain ⟨m,r,d,hr⟩:=h
 have:=Jt e
 exact ⟨by omega,(ZV r).2.2.2.2,fun o ho=> ⟨_,_,rightOs_mem (Zn hr).ops ho⟩⟩
theorem b60:ZC8:=by
 intro N p q _ hp hN
 obtain ⟨op,oq⟩:=hp
 dsimp only at op oq
 have hN':8*(Z5 p+Z5 q) < N+1:=hN
 obtain ⟨dp,rp⟩:=op.2.2
 obtain ⟨dq,rq⟩:=oq.2.2
 have hst:=Zgj rp rq
 unfold Jn at hst
 have lp:=Zx1 p
 have lq:=Zx1 q
 have mo:=Zmz p.old;have mn:=Zmz p.new;have mo':=Zmz q.old;have mn':=Zmz q.new
 have gp:=ZV op.2.1
 have gq:=ZV oq.2.1
 have cp:=Jt p;have cq:=Jt q;have cp':=op.1;have cq':=oq.1
 have fin:∀ {X:Edit} {b:Bool} {s:LSt U},Yh p q=(X,b)→Ys cfg Try.f60.ntmps Try.f60.results.toList (.tup [(true,enc .edit X),(false,[.bool b])]) [] .ret s→Ys cfg Try.f60.ntmps Try.f60.results.toList (Z5Y (p,q,())) [] .ret s:=by
  intro X b s h hs
  refine Y8 ?_ hs
  simp only [Z5Y]
  rw [h]
  try rfl
 refine ZCC N p q _ ?_
 intro y1 h1 y2 h2 y3 h3 y4 h4 y5 h5
 replace h1:=h1.symm;replace h2:=h2.symm;replace h3:=h3.symm;replace h4:=h4.symm
 subst h1 h2 h3 h4
 (simp only [vcT,vcS])
 try dsimp only at h5 ⊢
 refine ⟨fun p0=> fin (by rw [hst,if_pos p0]) (by (repeat' (first | exact trivial | exact rfl | apply And.intro))),fun p0=> ?_⟩
 rw [if_neg p0] at hst
 refine ⟨fun q0=> fin (by rw [hst,if_pos q0]) (by (repeat' (first | exact trivial | exact rfl | apply And.intro))),fun q0=> ?_⟩
 rw [if_neg q0] at hst
 refine ⟨fun p1=> ⟨Zap oq (by omega) gp.2.1,fin (by rw [hst,if_pos p1]) (by unfold doB;(repeat' (first | exact trivial | exact rfl | apply And.intro)))⟩,fun p1=> ?_⟩
 rw [if_neg p1] at hst
 refine ⟨fun q1=> ⟨(Z6I op).1,by rw [h5];exact Zap (Z6I op).2 (by omega) gq.1,fin (by rw [hst,if_pos q1,←h5]) (by unfold doB;(repeat' (first | exact trivial | exact rfl | apply And.intro)))⟩,fun q1=> ?_⟩
 rw [if_neg q1] at hst
 refine ⟨fun hd=> fin (by rw [hst,if_pos hd]) (by (repeat' (first | exact trivial | exact rfl | apply And.intro))),fun hd=> ?_⟩
 rw [if_neg (by rintro (h | h);exact h hd.1;exact h hd.2)] at hst
 refine ⟨fun p2=> ?_,fun p2=> ?_⟩
 ·rw [if_pos p2] at hst
  refine ⟨⟨⟨gp.2.2.1,by dsimp only;omega⟩,gq.2.2.1,by dsimp only;omega⟩,fun hw=> ?_,fun hw=> ⟨⟨Zml op,Zml oq⟩,by show 8*(Zt p.kids+Zt q.kids)+4 < N;omega,?_⟩⟩
  ·exact fin (by rw [hst,if_neg (by rw [hw];decide)]) (by (repeat' (first | exact trivial | exact rfl | apply And.intro)))
  ·exact fin (by rw [hst,if_pos hw]) (by (repeat' (first | exact trivial | exact rfl | apply And.intro)))
 ·rw [if_neg p2] at hst
  exact ⟨⟨Zmk op,Zmk oq⟩,by show 8*(Zh p.ops+Zh q.ops)+40 < N;omega,fin hst (by (repeat' (first | exact trivial | exact rfl | apply And.intro)))⟩
theorem b97:ZC2:=by
 intro N a b _ hp hN
 have hN':8*(Zt a+Zt b)+4 < N+1:=hN
 refine ZCg N a b _ ?_
 exact ⟨hp,by show 8*(Zt a+Zt b)+3 < N;omega,by (repeat' (first | exact trivial | exact rfl | apply And.intro))⟩
theorem Zip{k:Kid}(h:Z1j k):isI k.at_∧YT k.e:=by cases k;exact h
theorem Zzu:Zxu:=by
 intro N a b _ hp hN
 obtain ⟨oa,ob⟩:=hp
 dsimp only at oa ob
 have hN':8*(YI a+YI b)+1 < N+1:=hN
 have ka:=Z4l a
 have kb:=Z4l b
 refine ZB4 N a b _ ?_
 intro y1 h1 y2 h2
 replace h1:=h1.symm;replace h2:=h2.symm
 subst h1 h2
 try dsimp only
 have ra:JK a.e:=⟨by have:=oa.1;rw [Z1W] at this;omega,(Zip oa.2.1).2,oa.2.2⟩
 have rb:JK b.e:=⟨by have:=ob.1;rw [Z1W] at this;omega,(Zip ob.2.1).2,ob.2.2⟩
 exact ⟨⟨ra,rb⟩,by show 8*(Z5 a.e+Z5 b.e) < N;omega,by unfold Z3T Jv;(repeat' (first | exact trivial | exact rfl | apply And.intro))⟩
theorem Zfw{l:List Kid}(h:Zcs l):Zcs (l.drop 1):=by
 cases l with
 | nil=> exact h
 | cons k r=>
  obtain ⟨h1,h2,h3⟩:=h
  simp only [Z0n] at h1
  exact ⟨by simp only [List.drop_succ_cons,List.drop_zero];omega,h2.2,fun x hx=> h3 x (List.mem_cons_of_mem _ hx)⟩
theorem Zfv{l:List Kid}(h:Zcs l)(hl:0 < l.length)(z:Kid):ZsI (l.getD 0 z)∧YI (l.getD 0 z)+Zt (l.drop 1)=Zt l:=by
 cases l with
 | nil=> simp at hl
 | cons k r=>
  obtain ⟨h1,h2,h3⟩:=h
  simp only [Z0n] at h1
  exact ⟨⟨by simp only [List.getD_cons_zero];omega,h2.1,h3 k List.mem_cons_self⟩,rfl⟩
theorem Zc6:∀ l:List Kid,Zt (l.drop 1)≤Zt l
 | []=> Nat.le_refl _
 | k ::r=> by simp only [List.drop_succ_cons,List.drop_zero,Zt];omega
theorem Zzv:Zxv:=by
 rintro N p q ⟨⟩ ⟨⟩ _ hp hN
 obtain ⟨op,oq⟩:=hp
 dsimp only at op oq
 have hN':8*(Zt p+Zt q)+3 < N+1:=hN
 have lp:=Ym p
 have lq:=Ym q
 have bp:=Nat.le_trans (Z4k p) op.1;have bq:=Nat.le_trans (Z4k q) oq.1
 refine ZB6 N p q () () _ ?_
 refine Z6 (ι:=List Kid × List Kid × List Kid) (fun x=> Z2M p q () () x.1 x.2.1 x.2.2) (fun x=> MInv KidOf.at_ (Jv Yh) p q x.1 x.2.1 x.2.2∧(Zcs x.1∧Zt x.1≤Zt p)∧Zcs x.2.1∧Zt x.2.1≤Zt q) (fun x=> x.1.length+x.2.1.length) (p,q,[]) rfl
  ⟨⟨by dsimp only;cases Zd KidOf.at_ (Jv Yh) p q <;> simp,by simp⟩,⟨op,Nat.le_refl _⟩,oq,Nat.le_refl _⟩ ?_
 rintro ⟨x0,x1,x10⟩ ⟨inv,⟨r0,m0⟩,r1,m1⟩
 dsimp only at inv r0 r1 m0 m1
 have hlen:=inv.len
 refine Zqd N p q () () _ _ _ _ _ ?_
 intro y1 h1 y2 h2 y3 h3 y4 h4 y5 h5
 subst h3 h4
 (simp only [vcT,vcS])
 have h3:y3=x0.getD 0 ⟨0,Edit.nil⟩:=h1
 have h4:y4=x1.getD 0 ⟨0,Edit.nil⟩:=h2
 have d0:Zcs (x0.drop 1)∧Zt (x0.drop 1)≤Zt p:=⟨Zfw r0,by have:=Zc6 x0;omega⟩
 have d1:Zcs (x1.drop 1)∧Zt (x1.drop 1)≤Zt q:=⟨Zfw r1,by have:=Zc6 x1;omega⟩
 refine ⟨fun hne=> ⟨fun h=> ⟨by omega,by omega⟩,fun _=> trivial,fun h=> ⟨by omega,by omega⟩,fun _=> trivial,fun g1 g2=> ⟨g1,g2⟩,fun hA=> ?_,fun hB=> ?_⟩,fun hE=> ?_⟩
 ·refine ⟨⟨by omega,by omega⟩,by simp only [List.length_cons,List.length_nil];omega,⟨by omega,by omega⟩,(x0.drop 1,x1,x10++[y3]),rfl,⟨?_,d0,r1,m1⟩,by dsimp only;rw [List.length_drop];omega⟩
  rw [h3]
  exact inv.left' _ (by omega) (by rw [←h3,←h4];omega)
 ·refine ⟨fun h=> ⟨by omega,by omega⟩,fun _=> trivial,fun h=> ⟨by omega,by omega⟩,fun _=> trivial,fun hC=> ?_,fun hD=> ?_⟩
  ·refine ⟨⟨by omega,by omega⟩,by simp only [List.length_cons,List.length_nil];omega,⟨by omega,by omega⟩,(x0,x1.drop 1,x10++[y4]),rfl,⟨?_,⟨r0,m0⟩,d1⟩,by dsimp only;rw [List.length_drop];omega⟩
   rw [h4]
   exact inv.right' _ (by omega) (by rw [←h3,←h4];omega)
  ·have hb:=inv.both' ⟨0,Edit.nil⟩ (by omega) (by omega) (by rw [←h3,←h4];omega)
   rw [←h3,←h4] at hb
   obtain ⟨k3,n3⟩:=Zfv r0 (by omega) ⟨0,Edit.nil⟩
   obtain ⟨k4,n4⟩:=Zfv r1 (by omega) ⟨0,Edit.nil⟩
   rw [←h3] at k3 n3
   rw [←h4] at k4 n4
   refine ⟨⟨by omega,by omega⟩,⟨by omega,by omega⟩,⟨k3,k4⟩,by show 8*(YI y3+YI y4)+1 < N;omega,fun hc=> ?_,fun hc=> ?_⟩
   ·have e:=Zeg (hb.2 hc)
    refine Y8 (r':= .tup [(false,[.slice (U:=U) .kid [] .unk]),(false,[.bool false])]) ?_ (by (repeat' (first | exact trivial | exact rfl | apply And.intro)))
    simp only [Z34]
    rw [e.1,e.2]
   ·refine ⟨by simp only [List.length_cons,List.length_nil];omega,⟨by omega,by omega⟩,⟨by omega,by omega⟩,(x0.drop 1,x1.drop 1,x10++[y5]),rfl,⟨?_,d0,d1⟩,by dsimp only;rw [List.length_drop,List.length_drop];omega⟩
    rw [h5]
    exact hb.1 hc
 ·have e0:x0=[]:=List.eq_nil_of_length_eq_zero (by omega)
  have e1:x1=[]:=List.eq_nil_of_length_eq_zero (by omega)
  subst e0 e1
  have e:=inv.done
  refine Y8 (r':= .tup [(false,[.slice (U:=U) .kid x10 .unk]),(false,[.bool true])]) ?_ (by (repeat' (first | exact trivial | exact rfl | apply And.intro)))
  simp only [Z34]
  rw [e]
  try rfl
theorem ZiO{l:List Op}{o:Op}(h:Part l o)(ho:ZN o)(hl:Z0j l):YH o:=by
 obtain ⟨o',m,k,e1,_,lt⟩:=h
 have G:=JD (Z06 hl m)
 obtain ⟨kk,nn,ll,ee⟩:=o
 have k:kk=o'.kind:=k
 have e1:ee=o'.e:=e1
 have lt:∀ t∈ll,t∈o'.l:=lt
 refine ⟨by rw [k];exact G.1,?_,Z9a fun t ht=> Jd G.2.2.1 (lt t ht),by rw [e1];exact G.2.2.2⟩
 rcases ho with h | h | h
 ·have:=h.2.2.1
  unfold isI
  dsimp only at this
  omega
 ·have h2:nn=0:=h.2.1
  rw [h2];exact YS (by decide) (by decide)
 ·have h2:nn=0:=h.2.1
  rw [h2];exact YS (by decide) (by decide)
theorem Z77{l:List Op}{o:Op}(h:Part l o):Z3p o≤J4 l∧Zs o≤Zh l:=by
 obtain ⟨o',m,k,e1,hm,_⟩:=h
 have h1:=Z6B m
 have h2:=ZL m
 have a:=Z3L o
 rw [ZI,ZI,e1] at hm
 rw [e1] at a
 rw [ZI] at h2
 rw [ZI,e1]
 omega
theorem Ze0{l:List Op}{o:Op}(h:Part l o)(hl:∀ o∈l,∃ list d,Zc list o d=true)(k3:o.kind=3):∃ d,Za o.e d=true:=by
 obtain ⟨o',m,k,e1,hm,_⟩:=h
 obtain ⟨list,d,hr⟩:=hl o' m
 exact ⟨d,by rw [e1];exact JE hr (by omega)⟩
theorem ZrC{p q:List Op}(hp:Zoy p)(hq:Zoy q){x:Piece}(h:POk p q x):PcOk x:=by
 refine ⟨h.of,fun e=> ?_,fun e=> ?_,h.both⟩
 ·obtain ⟨a,b⟩:=h.pp e
  exact ⟨b,Nat.le_trans (Z77 a).1 hp.1,ZiO a b hp.2.1,Ze0 a hp.2.2⟩
 ·obtain ⟨a,b⟩:=h.qq e
  exact ⟨b,Nat.le_trans (Z77 a).1 hq.1,ZiO a b hq.2.1,Ze0 a hq.2.2⟩
theorem ZwL{p:List Op}(hp:Zoy p):Z9u p:=by
 refine ⟨fun o ho=> ?_,?_⟩
 ·obtain ⟨_,_,h⟩:=hp.2.2 o ho
  exact Z0A h
 ·have:=Z1p p
  have:=hp.1
  omega
theorem b98:ZC1:=by
 intro N p q _ hp hN
 obtain ⟨op,oq⟩:=hp
 dsimp only at op oq
 have hN':8*(Zh p+Zh q)+40 < N+1:=hN
 have kp:=ZwL op
 have kq:=ZwL oq
 obtain ⟨i1,_⟩:=Z4d _ p q [] (Nat.le_refl _) kp.1 kq.1
 refine ZCf N p q _ ?_
 (simp only [vcT,vcS])
 refine ⟨⟨kp,kq⟩,fun hb=> ?_,fun hb=> ?_⟩
 ·have e:Z04 Yh p q=none:=by unfold Z04;rw [if_neg (by rw [hb];decide)]
  refine Y8 (r':= .tup [(false,[.slice (U:=U) .op [] .unk]),(false,[.bool false])]) ?_ (by (repeat' (first | exact trivial | exact rfl | apply And.intro)))
  simp only [Z5x]
  rw [e];try rfl
 ·obtain ⟨ps,e,hps,_,_⟩:=i1 hb
  obtain ⟨ps1,e1,_,_,hlen⟩:=Z9s Zxj Zxi 1 _ p q [] (Nat.le_refl _) kp.1 kq.1 hb
  rw [e,List.nil_append,List.nil_append] at e1
  subst e1
  rw [List.nil_append] at e
  have hco:Z04 Yh p q=Jk Yh ps:=by unfold Z04;rw [if_pos hb,e]
  refine Z6 (ι:=Int × List Op) (fun s=> Z6q p q s.1 s.2) (fun s=> 0≤s.1∧s.1≤ps.length∧Jk Yh ps=(Jk Yh (ps.drop s.1.toNat)).map (s.2++·)∧s.2.length+(ps.drop s.1.toNat).length≤ps.length) (fun s=> ((ps.length:Int) - s.1).toNat) (0,[]) rfl ⟨by simp,by simp,by simp,by simp⟩ ?_
  rintro ⟨i,out⟩ ⟨f1,f2,f3,f4⟩
  dsimp only at f1 f2 f3 f4
  refine ZtQ N p q _ _ _ _ ?_
  intro y1 h1 y2 h2 y3 h3
  rw [e] at h1 ⊢
  subst h2
  (simp only [vcT,vcS])
  refine ⟨fun hi=> ?_,fun hi=> ?_⟩
  ·have h1:y2=ps.getD i.toNat (Piece.mk 0 Op.nil Op.nil):=h1
   have hmem:y2∈ps:=by rw [h1];exact Zg (by omega) _
   have hx:=hps y2 hmem
   have hd:ps.drop i.toNat=y2 ::ps.drop (i+1).toNat:=by rw [h1];exact Y1 f1 hi _
   rw [hd,Jk] at f3
   rw [hd,List.length_cons] at f4
   have hmu:8*(Zs y2.p+Zs y2.q)+1 < N:=by
    rcases hx.of with h | h | h
    ·have:=(Z77 (hx.pp (by omega)).1).2;have:=(Z77 (hx.qq (by omega)).1).2;omega
    ·have:=(Z77 (hx.pp (by omega)).1).2;rw [hx.qn h,show Zs Op.nil=3 from rfl];omega
    ·have:=(Z77 (hx.qq (by omega)).1).2;rw [hx.pn h,show Zs Op.nil=3 from rfl];omega
   have c1:=Z1p p;have c2:=Z1p q;have c3:=op.1;have c4:=oq.1
   refine ⟨⟨f1,hi⟩,ZrC op oq hx,hmu,fun hc=> ?_,fun hc=> ⟨fun his=> ?_,fun his=> ?_⟩⟩
   ·rw [if_neg (by rw [hc];decide)] at f3
    refine Y8 (r':= .tup [(false,[.slice (U:=U) .op [] .unk]),(false,[.bool false])]) ?_ (by (repeat' (first | exact trivial | exact rfl | apply And.intro)))
    simp only [Z5x]
    rw [hco,f3];try rfl
   ·rw [if_pos hc,if_pos his] at f3
    refine ⟨by simp only [List.length_cons,List.length_nil];omega,by unfold InR;omega,(i+1,out++[y3]),rfl,⟨by dsimp only;omega,by dsimp only;omega,?_,?_⟩,by dsimp only;omega⟩
    ·rw [f3,h3]
     cases Jk Yh (ps.drop (i+1).toNat) <;> simp
    ·simp only [List.length_append,List.length_cons,List.length_nil];omega
   ·rw [if_pos hc,if_neg (by rw [his];decide)] at f3
    refine ⟨by unfold InR;omega,(i+1,out),rfl,⟨by dsimp only;omega,by dsimp only;omega,?_,by dsimp only;omega⟩,by dsimp only;omega⟩
    rw [f3]
    cases Jk Yh (ps.drop (i+1).toNat) <;> simp
  ·rw [List.drop_of_length_le (by omega),Jk] at f3
   refine Y8 (r':= .tup [(false,[.slice (U:=U) .op out .unk]),(false,[.bool true])]) ?_ (by (repeat' (first | exact trivial | exact rfl | apply And.intro)))
   simp only [Z5x]
   rw [hco,f3]
   simp [ofO]
theorem Zav{α:Type}{l:List α}{i:Nat}(h:i < l.length)(d:α):l.take (i+1)=l.take i++[l.getD i d]:=by
 rw [List.take_succ_eq_append_getElem h,List.getD_eq_getElem?_getD,List.getElem?_eq_getElem h];try rfl
theorem Zjx{a b:List Tree}(h:Z8 a=Z8 b):Zl9 a b=true:=Jm.2 h
theorem ZvI{a b:List Tree}(h:¬Z8 a=Z8 b):Zl9 a b=false:=by rw [←Bool.not_eq_true];exact fun e=> h (Jm.1 e)
theorem Zjc(o:Op):Zf o.l≤Z3p o:=by rw [Z3L];omega
theorem Zzt:Zxt:=by
 intro N x _ hp hN
 have hp:PcOk x:=hp
 have hN':8*(Zs x.p+Zs x.q)+1 < N+1:=hN
 have fin:∀ {o:Op} {i k:Bool} {s:LSt U},ZF Yh x=⟨o,i,k⟩→Ys cfg Try.f136.ntmps Try.f136.results.toList (.tup [(true,enc .op o),(false,[.bool i]),(false,[.bool k])]) [] .ret s→Ys cfg Try.f136.ntmps Try.f136.results.toList (Z33 (x,())) [] .ret s:=by
  intro o i k s h hs
  refine Y8 ?_ hs
  simp only [Z33]
  rw [h];try rfl
 refine ZB2 N x _ ?_
 intro y1 h1 y2 h2 y3 h3 y4 h4 y5 h5 y6 h6 y7 h7 y8 h8 y9 h9
 subst h1 h2 h5 h6
 (simp only [vcT,vcS])
 have hc:=ZF.eq_1 Yh x
 refine ⟨fun _ h=> ⟨by omega,h⟩,fun c1=> fin (by rw [hc,if_pos c1]) (by (repeat' (first | exact trivial | exact rfl | apply And.intro))),fun c1=> ?_⟩
 rw [if_neg (by omega)] at hc
 refine ⟨fun c2=> fin (by rw [hc,if_pos c2]) (by (repeat' (first | exact trivial | exact rfl | apply And.intro))),fun c2=> ?_⟩
 rw [if_neg (by omega)] at hc
 have c0:x.of=0:=by rcases hp.of with h | h | h <;> omega
 obtain ⟨b1,b2,b3⟩:=hp.both c0
 obtain ⟨op,mp,gp,rp⟩:=hp.pp (by omega)
 obtain ⟨oq,mq,gq,rq⟩:=hp.qq (by omega)
 have ep:=Z3L x.p
 have eq:=Z3L x.q
 have gp':=JD gp
 have gq':=JD gq
 have ap:=Zjc x.p
 have aq:=Zjc x.q
 refine ⟨fun c3=> ?_,fun c3=> ?_⟩
 ·rw [if_pos c3] at hc
  have l1:=JY op (.inr c3.1)
  have l2:=JY oq (.inl c3.2)
  have k1:=ZA x.p.l
  rw [List.take_of_length_le (by omega)] at hc
  refine Z6 (ι:=Int) (fun i=> Z7u x i) (fun i=> 0≤i∧i≤x.p.l.length∧Z8 (x.p.l.take i.toNat)=Z8 (x.q.l.take i.toNat)) (fun i=> ((x.p.l.length:Int) - i).toNat) 0 rfl ⟨by omega,by omega,by simp⟩ ?_
  rintro i ⟨f1,f2,f3⟩
  refine Zqc N x _ _ _ ?_
  intro z1 g1 z2 g2 z3 g3 z4 g4
  subst g1 g2
  (simp only [vcT,vcS])
  have l3:x.p.l.length=x.q.l.length:=by omega
  refine ⟨fun hi=> ?_,fun hi=> ?_⟩
  ·have m1:z3∈x.p.l:=by rw [g3];exact Zg (by omega) _
   have m2:z4∈x.q.l:=by rw [g4];exact Zg (by omega) _
   have m1':=YJ m1
   have m2':=YJ m2
   have t1:x.p.l.take (i+1).toNat=x.p.l.take i.toNat++[z3]:=by rw [g3,show (i+1).toNat=i.toNat+1 by omega];exact Zav (by omega) _
   have t2:x.q.l.take (i+1).toNat=x.q.l.take i.toNat++[z4]:=by rw [g4,show (i+1).toNat=i.toNat+1 by omega];exact Zav (by omega) _
   refine ⟨⟨f1,hi⟩,⟨f1,by omega⟩,⟨by dsimp only;omega,by dsimp only;omega⟩,fun hne=> fin (by rw [hc,ZvI];intro he;rw [YE] at hne;apply hne;rw [g3,g4];exact Z6v he i.toNat) (by (repeat' (first | exact trivial | exact rfl | apply And.intro))),fun heq=> ⟨by unfold InR;omega,i+1,rfl,⟨by omega,by omega,?_⟩,by omega⟩⟩
   rw [t1,t2]
   exact Z4h f3 (ZfQ.2 (Yw.1 heq))
  ·rw [List.take_of_length_le (by omega),List.take_of_length_le (by omega)] at f3
   exact fin (by rw [hc,Zjx f3]) (by (repeat' (first | exact trivial | exact rfl | apply And.intro)))
 rw [if_neg (by omega)] at hc
 have kp:x.p.kind=2∨x.p.kind=3:=by rcases YX op with k | k | k | k <;> omega
 have kq:x.q.kind=1∨x.q.kind=3:=by rcases YX oq with k | k | k | k <;> omega
 refine ⟨fun c4=> ?_,fun c4=> ?_⟩
 ·rw [if_pos c4] at hc
  have l1:=JY op (.inr c4)
  have l2:=JQ (o:=x.q) (by omega)
  have hl:0 < x.p.l.length:=by omega
  have m3:y5∈x.p.l:=by rw [h3];exact Zg hl _
  have m3':=YJ m3
  refine ⟨⟨by omega,by omega⟩,Zap ⟨by omega,gq'.2.2.2,rq (by omega)⟩ (by omega) (Jd gp'.2.2.1 m3),fin hc ?_⟩
  rw [show x.p.l.getD 0 Tree.nil=y5 from h3.symm]
  unfold doB
  rw [←h8]
  (repeat' (first | exact trivial | exact rfl | apply And.intro))
 rw [if_neg c4] at hc
 have p3:x.p.kind=3:=by omega
 refine ⟨fun c5=> ?_,fun c5=> ?_⟩
 ·rw [if_pos c5] at hc
  have l1:=JY oq (.inl c5)
  have l2:=JQ (o:=x.p) p3
  have hl:0 < x.q.l.length:=by omega
  have m4:y6∈x.q.l:=by rw [h4];exact Zg hl _
  have m4':=YJ m4
  have rk:JK x.p.e:=⟨by omega,gp'.2.2.2,rp p3⟩
  refine ⟨(Z6I rk).1,⟨by omega,by omega⟩,by rw [h7];exact Zap (Z6I rk).2 (by omega) (Jd gq'.2.2.1 m4),fin hc ?_⟩
  rw [show x.q.l.getD 0 Tree.nil=y6 from h4.symm,←h7]
  unfold doB
  rw [←h9]
  (repeat' (first | exact trivial | exact rfl | apply And.intro))
 ·rw [if_neg c5] at hc
  have k1:JK x.p.e:=⟨by omega,gp'.2.2.2,rp p3⟩
  have k2:JK x.q.e:=⟨by omega,gq'.2.2.2,rq (by omega)⟩
  refine ⟨⟨k1,k2⟩,?_,fin hc (by (repeat' (first | exact trivial | exact rfl | apply And.intro)))⟩
  show 8*(Z5 x.p.e+Z5 x.q.e) < N
  rw [ZI,ZI] at hN'
  omega
theorem ZD2:Contract Try.prog cfg 60 ZaC∧Contract Try.prog cfg 97 ZqH∧Contract Try.prog cfg 132 ZlR∧Contract Try.prog cfg 134 ZlQ∧Contract Try.prog cfg 98 ZqG∧Contract Try.prog cfg 136 ZlP:=
 ZuI c26 c83 ZhE c96 Zze (Zzd Zt1) b60 b97 Zzv Zzu b98 Zzt
theorem c60:Contract Try.prog cfg 60 ZaC:=ZD2.1
end Go.AM.Ytpjenobkibfpcaa
namespace Go.AM.Ytpjenobkibfpcaa
open Go.AM Go.Proofs
noncomputable section
def ZnX:ArgL (Edit × Unit):=(.cons (aEl .edit) .nil)
def ZaX(a:Edit × Unit):Prop:=Z5 a.1≤20000000000∧∃ d,Za a.1 d=true
def Zkd(a:Edit × Unit):V U:= .agg (enc .edit (Zy (Zv a.1)))
def Z50:Fs U:=fs ZnX (fun a=> [ZaX a]) Zkd
def Zni:List (FuncId × Fs U):=[(32,Z5M),(140,Z8Z)]
def Zsk:Zj U:=lvl [([1,2],[1,2]),([2],[2])]
abbrev ZBS(e:Edit)(Q:QT):=AW (Z1 Zni) Try.f100 Zsk [] (L2 [(0,.agg (enc .edit e))] []) Q
theorem ZBo(e:Edit)(Q:QT)(h:∀ y_1,y_1=e→∀ y_2,y_2=(JV y_1)→(Z1m (y_1,()))∧(Z39 (y_2,()))∧(Q .ret (L2 [(2,.ptr (.loc 2) 0)] [(.loc 2,(enc .edit (Zy y_2)))]))):
  ZBS e Q:=by
 have e_:(ZBS e Q)=(let y_1:=(Yx e);let y_2:=(Yx (JV y_1));((Z1m (y_1,()))∧(Z39 (y_2,()))∧(Q .ret (L2 [(2,.ptr (.loc 2) 0)] [(.loc 2,(enc .edit (Zy y_2)))])))):=by kernel_rfl
 exact e_.mpr (by intro y_1 y_2;have hh:=h y_1 (Z9 _) y_2 (Z9 _);exact ⟨hh.1,hh.2.1,hh.2.2⟩)
def ZwJ(e:Edit):Prop:=AW (Z1 Zni) Try.f100 Zsk [] (Zk (ZnX.can (e,())) []) (EQ Try.f100 (Zkd (e,())) [])
theorem Zvi(c32:CT 32 Z5M)(Zzc:CT 140 Z8Z)(hb:∀ (e:Edit) (_:Unit),ZaX (e,())→ZwJ e):CT 100 Z50:=
 Z7 (l:=[(32,Z5M),(140,Z8Z)]) Zm rfl (⟨c32,Zzc,trivial⟩) Zsk Try.func100 rfl rfl 1 (fun _=> rfl) (by decide) (fun ⟨e,_⟩=> hb e ())
end
end Go.AM.Ytpjenobkibfpcaa
namespace Go.AM.Ytpjenobkibfpcaa
open Go.AM Go.Proofs
theorem Zzn:Contract Try.prog cfg 100 Z50:=by
 refine Zvi ZsZ.1 Zzc ?_
 intro e _ hp
 simp only [ZaX] at hp
 obtain ⟨hm,d,hr⟩:=hp
 refine ZBo _ _ ?_
 rintro y1 hy1 y2 hy2
 subst hy1
 have h1:=Z5h y1
 have h2:=Jx _ _ hr
 have e2:y2=Zv y1:=by rw [hy2,Z8d _ _ hr]
 rw [←e2] at h1 h2
 refine ⟨by simp only [Z1m];omega,by simp only [Z39];exact ⟨by omega,d,h2⟩,?_⟩
 simp only [Zkd]
 rw [←e2]
 (repeat' (first | exact trivial | exact rfl | apply And.intro))
end Go.AM.Ytpjenobkibfpcaa
namespace Go.AM.Ytpjenobkibfpcaa
open Go.AM Go.Proofs
noncomputable section
def Ztt:ArgL (Edit × Edit × Unit):=(.cons (aEl .edit) (.cons (aEl .edit) .nil))
def Zmo(a:Edit × Edit × Unit):Prop:=JK a.1∧JK a.2.1
def Zmf(a:Edit × Edit × Unit):V U:= .tup [(true,(enc .edit ((Z5p a.1 a.2.1).1))),(false,[.bool ((Z5p a.1 a.2.1).2)])]
def Z5O:Fs U:=fs Ztt (fun a=> [Zmo a]) Zmf
def Ztq:ArgL (WEdit × WEdit × Unit):=(.cons (aEl .wedit) (.cons (aEl .wedit) .nil))
def Zrx(a:WEdit × WEdit × Unit):Prop:=wOk a.1∧wOk a.2.1
def Zmb(a:WEdit × WEdit × Unit):V U:= .tup [(true,(enc .wedit ((J5 a.1 a.2.1).1))),(false,[.bool ((J5 a.1 a.2.1).2)])]
def Z8a:Fs U:=fs Ztq (fun a=> [Zrx a]) Zmb
def ZnK:ArgL (List WEdit × Int × Unit):=(.cons (aSl .wedit) (.cons (JI .i64) .nil))
def ZgZ(a:List WEdit × Int × Unit):Prop:=(a.1).length≤1000000
def ZgO(a:List WEdit × Int × Unit):V U:= .tup [(true,(enc .wedit ((Z0V a.1 a.2.1).getD (WEdit.mk 0 0 0 0)))),(false,[.bool ((Z0V a.1 a.2.1).isSome)])]
def Z4Y:Fs U:=fs ZnK (fun a=> [ZgZ a]) ZgO
def ZnJ:ArgL (List Kid × Int × Unit):=(.cons (aSl .kid) (.cons (JI .i64) .nil))
def ZaT(a:List Kid × Int × Unit):Prop:=(a.1).length≤1000000
def ZgN(a:List Kid × Int × Unit):V U:= .agg (enc .edit (Ju a.1 a.2.1))
def Z4X:Fs U:=fs ZnJ (fun a=> [ZaT a]) ZgN
def Zny:ArgL (List Int × List Int × Unit):=(.cons (aSl .int) (.cons (aSl .int) .nil))
def ZgW(a:List Int × List Int × Unit):Prop:=(a.1).length≤1000000∧(a.2.1).length≤1000000
def Zk9(a:List Int × List Int × Unit):V U:= .c (sU .int (Yd a.1 a.2.1) .unk)
def Z8W:Fs U:=fs Zny (fun a=> [ZgW a]) Zk9
def ZnL:ArgL (Edit × Edit × Unit):=(.cons (aEl .edit) (.cons (aEl .edit) .nil))
def Zkn(a:Edit × Edit × Unit):Prop:=((a.1).words.length≤1000000∧(a.1).kids.length≤1000000)∧(a.2.1).words.length≤1000000∧(a.2.1).kids.length≤1000000
def Zr8(a:Edit × Edit × Unit):V U:= .tup [(false,[sU .int (Yd ((a.1).words.map WEdit.at_) ((a.2.1).words.map WEdit.at_)) .unk]),(false,[sU .int (Yd ((a.1).kids.map KidOf.at_) ((a.2.1).kids.map KidOf.at_)) .unk])]
def Z4Z:Fs U:=fs ZnL (fun a=> [Zkn a]) Zr8
def Z8I:ArgL (Edit × Edit × Unit):=(.cons (aEl .edit) (.cons (aEl .edit) .nil))
def Z7X(a:Edit × Edit × Unit):Prop:=JK a.1∧JK a.2.1
def Zj3(a:Edit × Edit × Unit):Nat:=8*(Z5 a.1+Z5 a.2.1)+1
def Z9j(a:Edit × Edit × Unit):V U:= .tup [(true,(enc .edit ((J2 a.1 a.2.1).1))),(false,[.bool ((J2 a.1 a.2.1).2)])]
def ZaB:Fs U:=fs Z8I (fun a=> [Z7X a]) Z9j
def Z5v:ArgL (Edit × Edit × Unit):=(.cons (aEl .edit) (.cons (aEl .edit) .nil))
def Z68(a:Edit × Edit × Unit):Prop:=Edit.kind a.1=2∧Edit.kind a.2.1=2∧JK a.1∧JK a.2.1
def Zee(a:Edit × Edit × Unit):Nat:=8*(Z5 a.1+Z5 a.2.1)
def Z58(a:Edit × Edit × Unit):V U:= .tup [(true,(enc .edit ((Zf3 a.1 a.2.1).1))),(false,[.bool ((Zf3 a.1 a.2.1).2)])]
def ZlV:Fs U:=fs Z5v (fun a=> [Z68 a]) Z58
def Z5u:ArgL (Edit × Edit × Unit):=(.cons (aEl .edit) (.cons (aEl .edit) .nil))
def Z67(a:Edit × Edit × Unit):Prop:=Edit.kind a.1=3∧Edit.kind a.2.1=3∧JK a.1∧JK a.2.1
def Zed(a:Edit × Edit × Unit):Nat:=8*(Z5 a.1+Z5 a.2.1)
def Z57(a:Edit × Edit × Unit):V U:= .tup [(true,(enc .edit ((Zf4 a.1 a.2.1).1))),(false,[.bool ((Zf4 a.1 a.2.1).2)])]
def ZlU:Fs U:=fs Z5u (fun a=> [Z67 a]) Z57
def Z5t:ArgL (AUnit × AUnit × Unit):=(.cons (aEl .unit) (.cons (aEl .unit) .nil))
def Z64(a:AUnit × AUnit × Unit):Prop:=(uOk a.1∧uOk a.2.1)∧AUnit.kind a.1≠1∧AUnit.kind a.2.1≠2
def Zec(a:AUnit × AUnit × Unit):Nat:=8*(Z5 a.1.e+Z5 a.2.1.e)+2
def Z53(a:AUnit × AUnit × Unit):V U:= .tup [(false,[sU .op ((JJ J2 a.1 a.2.1).1) .unk]),(false,[.bool ((JJ J2 a.1 a.2.1).2)])]
def ZlM:Fs U:=fs Z5t (fun a=> [Z64 a]) Z53
def ZsE:List (FuncId × Fs U):=[(60,ZaC),(57,Z5L)]
def ZyK:Zj U:=lvl [([2,3,4],[2,3,4]),([4,6,7],[4,6]),([4,6,15],[4,6]),([4,5],[4]),([4,5],[4])]
abbrev A21(p:List Nat):=AW (Z1 ZsE) Try.f21 ZyK p
theorem ZCQ(p q:Edit)(Q:QT)(h:∀ y_1,y_1=p→∀ y_2,y_2=q→∀ y_3,y_3=((Yh y_1 y_2).1)→((Z5y (y_1,y_2,()))∧(((!((Yh y_1 y_2).2))=true→(Q .ret (L2 [(4,.ptr (.loc 4) 0),(5,.c (.bool false))] [(.loc 4,zc1)])))∧((!((Yh y_1 y_2).2))=false→(Z26 (y_3,()))∧(Q .ret (L2 [(4,.ptr (.loc 4) 0),(5,.c (.bool true))] [(.loc 4,(enc .edit (Zy y_3)))])))))):
  A21 [] (L2 [(0,.agg (enc .edit p)),(1,.agg (enc .edit q))] []) Q:=
 Eq.mpr (by kernel_rfl) (h _ (Z9 _) _ (Z9 _) _ (Z9 _))
def ZAl(p q:Edit):Prop:=AW (Z1 ZsE) Try.f21 ZyK [] (Zk (Ztt.can (p,q,())) []) (EQ Try.f21 (Zmf (p,q,())) [])
theorem Zyr(c60:CT 60 ZaC)(c57:CT 57 Z5L)(hb:∀ (p:Edit) (q:Edit) (_:Unit),Zmo (p,q,())→ZAl p q):CT 21 Z5O:=
 Z7 (l:=[(60,ZaC),(57,Z5L)]) Zm rfl (⟨c60,c57,trivial⟩) ZyK Try.func21 rfl rfl 2 (fun _=> rfl) (by decide) (fun ⟨p,q,_⟩=> hb p q ())
def ZkY:List (FuncId × Fs U):=[(67,Z5K),(68,Z5J),(69,Z5I)]
def Zvy:Zj U:=lvl [([2,3,4],[2,3,4]),([2,3,4,6],[2,3,4,6]),([2,3,4,6,7,8,9,10],[2,3,4,6,7,8,9,10]),([2,3,4,6,7,8,9,10,11],[2,3,4,6,7,8,9,10]),([2,3,4,6,7,8,9,10,11,12],[2,3,4,6,7,8,9,10]),([2,3,4,6,7,8,9,10,11,12,13,14],[2,3,4,6,7,8,9,10,13,14]),([2,3,4,6,7,8,9,10,11,12,13,14,15],[2,3,4,6,7,8,9,10,13,14]),([2,3,4,6,7,8,9,10,11,12,13,14,15,34],[2,3,4,6,7,8,9,10,13,14]),([2,3,4,6,7,8,9,10,11,12,13,14,15],[2,3,4,6,7,8,9,10,13,14]),([2,3,4,6,7,8,9,10,11,12,13,14,15,16,17],[2,3,4,6,7,8,9,10,13,14]),([2,3,4,6,7,8,9,10,11,12,13,14,15,16,17,57],[2,3,4,6,7,8,9,10,13,14]),([4,5],[4]),([2,3,4,6,7,8,9,10,11,12,13,14,15,16,17,62],[2,3,4,6,7,8,9,10,13,14]),([2,3,4,6,7,8,9,10,11,12,13,14,15,16,17,62],[2,3,4,6,7,8,9,10,13,14]),([2,3,4,6,7,8,9,10,11,12,13,14,15,16,17],[2,3,4,6,7,8,9,10,13,14]),([2,3,4,6,7,8,9,10,11,12,13,14,15,16,17,68],[2,3,4,6,7,8,9,10,13,14]),([2,3,4,6,7,8,9,10,11,12,13,14,15,16,17],[2,3,4,6,7,8,9,10,13,14]),([2,3,4,6,7,8,9,10,11,12,13,14,15,16,17,68],[2,3,4,6,7,8,9,10,13,14]),([2,3,4,6,7,8,9,10,11,12,13,14,15,16,17,79],[2,3,4,6,7,8,9,10,13,14]),([2,3,4,6,7,8,9,10,11,12,13,14,15,16,17,79],[2,3,4,6,7,8,9,10,13,14]),([2,3,4,6,7,8,9,10,11,12,13,14,15,89],[2,3,4,6,7,8,9,10,13,14]),([2,3,4,6,7,8,9,10,11,12,13,14,15,89],[2,3,4,6,7,8,9,10,13,14]),([4,6,13,14],[4,6,13,14]),([4,6,14],[4,6,14]),([4,6],[4,6]),([4,5],[4])]
def Z1U(p q:WEdit)(x11 x12 x15 ml13_0 ml13_1 ml13_2 ml13_3 ml13_4 ml13_5 ml13_6 ml13_7 ml14_0 ml14_1 ml14_2 ml14_3 ml14_4 ml14_5 ml14_6 ml14_7:Int):LSt U:=(L2 [(2,.ptr (.loc 2) 0),(3,.ptr (.loc 3) 0),(4,.ptr (.loc 4) 0),(6,.ptr (.loc 6) 0),(7,.ptr (.loc 7) 0),(8,.ptr (.loc 8) 0),(9,.ptr (.loc 9) 0),(10,.ptr (.loc 10) 0),(11,.c (ci x11)),(12,.c (ci x12)),(13,.ptr (.loc 13) 0),(14,.ptr (.loc 14) 0),(15,.c (ci x15))] [(.loc 2,(enc .wedit p)),(.loc 3,(enc .wedit q)),(.loc 4,[ci 0,.int .u8 0,.int .u64 0,.int .u64 0]),(.loc 6,[ci p.at_,.int .u8 0,.int .u64 0,.int .u64 0]),(.loc 7,[.int .u8 (Z0 p.old 0),.int .u8 (Z0 p.old 1),.int .u8 (Z0 p.old 2),.int .u8 (Z0 p.old 3),.int .u8 (Z0 p.old 4),.int .u8 (Z0 p.old 5),.int .u8 (Z0 p.old 6),.int .u8 (Z0 p.old 7)]),(.loc 8,[.int .u8 (Z0 p.new 0),.int .u8 (Z0 p.new 1),.int .u8 (Z0 p.new 2),.int .u8 (Z0 p.new 3),.int .u8 (Z0 p.new 4),.int .u8 (Z0 p.new 5),.int .u8 (Z0 p.new 6),.int .u8 (Z0 p.new 7)]),(.loc 9,[.int .u8 (Z0 q.old 0),.int .u8 (Z0 q.old 1),.int .u8 (Z0 q.old 2),.int .u8 (Z0 q.old 3),.int .u8 (Z0 q.old 4),.int .u8 (Z0 q.old 5),.int .u8 (Z0 q.old 6),.int .u8 (Z0 q.old 7)]),(.loc 10,[.int .u8 (Z0 q.new 0),.int .u8 (Z0 q.new 1),.int .u8 (Z0 q.new 2),.int .u8 (Z0 q.new 3),.int .u8 (Z0 q.new 4),.int .u8 (Z0 q.new 5),.int .u8 (Z0 q.new 6),.int .u8 (Z0 q.new 7)]),(.loc 13,[.int .u8 ml13_0,.int .u8 ml13_1,.int .u8 ml13_2,.int .u8 ml13_3,.int .u8 ml13_4,.int .u8 ml13_5,.int .u8 ml13_6,.int .u8 ml13_7]),(.loc 14,[.int .u8 ml14_0,.int .u8 ml14_1,.int .u8 ml14_2,.int .u8 ml14_3,.int .u8 ml14_4,.int .u8 ml14_5,.int .u8 ml14_6,.int .u8 ml14_7])])
def Zab(p q:WEdit)(x11 x15 ml13_0 ml13_1 ml13_2 ml13_3 ml13_4 ml13_5 ml13_6 ml13_7 ml14_0 ml14_1 ml14_2 ml14_3 ml14_4 ml14_5 ml14_6 ml14_7 x12_a:Int):LSt U:=(L2 [(2,.ptr (.loc 2) 0),(3,.ptr (.loc 3) 0),(4,.ptr (.loc 4) 0),(6,.ptr (.loc 6) 0),(7,.ptr (.loc 7) 0),(8,.ptr (.loc 8) 0),(9,.ptr (.loc 9) 0),(10,.ptr (.loc 10) 0),(11,.c (ci x11)),(12,.c (ci x12_a)),(13,.ptr (.loc 13) 0),(14,.ptr (.loc 14) 0),(15,.c (ci x15)),(16,.c (.bool (Zx p.mask x15))),(17,.c (.bool (Zx q.mask x15))),(62,.c (.bool (bif (Zx p.mask x15) then true else (Zx q.mask x15))))] [(.loc 2,(enc .wedit p)),(.loc 3,(enc .wedit q)),(.loc 4,[ci 0,.int .u8 0,.int .u64 0,.int .u64 0]),(.loc 6,[ci p.at_,.int .u8 0,.int .u64 0,.int .u64 0]),(.loc 7,[.int .u8 (Z0 p.old 0),.int .u8 (Z0 p.old 1),.int .u8 (Z0 p.old 2),.int .u8 (Z0 p.old 3),.int .u8 (Z0 p.old 4),.int .u8 (Z0 p.old 5),.int .u8 (Z0 p.old 6),.int .u8 (Z0 p.old 7)]),(.loc 8,[.int .u8 (Z0 p.new 0),.int .u8 (Z0 p.new 1),.int .u8 (Z0 p.new 2),.int .u8 (Z0 p.new 3),.int .u8 (Z0 p.new 4),.int .u8 (Z0 p.new 5),.int .u8 (Z0 p.new 6),.int .u8 (Z0 p.new 7)]),(.loc 9,[.int .u8 (Z0 q.old 0),.int .u8 (Z0 q.old 1),.int .u8 (Z0 q.old 2),.int .u8 (Z0 q.old 3),.int .u8 (Z0 q.old 4),.int .u8 (Z0 q.old 5),.int .u8 (Z0 q.old 6),.int .u8 (Z0 q.old 7)]),(.loc 10,[.int .u8 (Z0 q.new 0),.int .u8 (Z0 q.new 1),.int .u8 (Z0 q.new 2),.int .u8 (Z0 q.new 3),.int .u8 (Z0 q.new 4),.int .u8 (Z0 q.new 5),.int .u8 (Z0 q.new 6),.int .u8 (Z0 q.new 7)]),(.loc 13,[.int .u8 ml13_0,.int .u8 ml13_1,.int .u8 ml13_2,.int .u8 ml13_3,.int .u8 ml13_4,.int .u8 ml13_5,.int .u8 ml13_6,.int .u8 ml13_7]),(.loc 14,[.int .u8 ml14_0,.int .u8 ml14_1,.int .u8 ml14_2,.int .u8 ml14_3,.int .u8 ml14_4,.int .u8 ml14_5,.int .u8 ml14_6,.int .u8 ml14_7])])
def ZeA(p q:WEdit)(x11 x15 x12_a:Int)(v68_b:V U)(ml13_0_b ml13_1_b ml13_2_b ml13_3_b ml13_4_b ml13_5_b ml13_6_b ml13_7_b ml14_0_b ml14_1_b ml14_2_b ml14_3_b ml14_4_b ml14_5_b ml14_6_b ml14_7_b:Int):LSt U:=(L2 [(2,.ptr (.loc 2) 0),(3,.ptr (.loc 3) 0),(4,.ptr (.loc 4) 0),(6,.ptr (.loc 6) 0),(7,.ptr (.loc 7) 0),(8,.ptr (.loc 8) 0),(9,.ptr (.loc 9) 0),(10,.ptr (.loc 10) 0),(11,.c (ci ((2:Int)*x11))),(12,.c (ci x12_a)),(13,.ptr (.loc 13) 0),(14,.ptr (.loc 14) 0),(15,.c (ci x15)),(16,.c (.bool (Zx p.mask x15))),(17,.c (.bool (Zx q.mask x15))),(68,v68_b)] [(.loc 2,(enc .wedit p)),(.loc 3,(enc .wedit q)),(.loc 4,[ci 0,.int .u8 0,.int .u64 0,.int .u64 0]),(.loc 6,[ci p.at_,.int .u8 0,.int .u64 0,.int .u64 0]),(.loc 7,[.int .u8 (Z0 p.old 0),.int .u8 (Z0 p.old 1),.int .u8 (Z0 p.old 2),.int .u8 (Z0 p.old 3),.int .u8 (Z0 p.old 4),.int .u8 (Z0 p.old 5),.int .u8 (Z0 p.old 6),.int .u8 (Z0 p.old 7)]),(.loc 8,[.int .u8 (Z0 p.new 0),.int .u8 (Z0 p.new 1),.int .u8 (Z0 p.new 2),.int .u8 (Z0 p.new 3),.int .u8 (Z0 p.new 4),.int .u8 (Z0 p.new 5),.int .u8 (Z0 p.new 6),.int .u8 (Z0 p.new 7)]),(.loc 9,[.int .u8 (Z0 q.old 0),.int .u8 (Z0 q.old 1),.int .u8 (Z0 q.old 2),.int .u8 (Z0 q.old 3),.int .u8 (Z0 q.old 4),.int .u8 (Z0 q.old 5),.int .u8 (Z0 q.old 6),.int .u8 (Z0 q.old 7)]),(.loc 10,[.int .u8 (Z0 q.new 0),.int .u8 (Z0 q.new 1),.int .u8 (Z0 q.new 2),.int .u8 (Z0 q.new 3),.int .u8 (Z0 q.new 4),.int .u8 (Z0 q.new 5),.int .u8 (Z0 q.new 6),.int .u8 (Z0 q.new 7)]),(.loc 13,[.int .u8 ml13_0_b,.int .u8 ml13_1_b,.int .u8 ml13_2_b,.int .u8 ml13_3_b,.int .u8 ml13_4_b,.int .u8 ml13_5_b,.int .u8 ml13_6_b,.int .u8 ml13_7_b]),(.loc 14,[.int .u8 ml14_0_b,.int .u8 ml14_1_b,.int .u8 ml14_2_b,.int .u8 ml14_3_b,.int .u8 ml14_4_b,.int .u8 ml14_5_b,.int .u8 ml14_6_b,.int .u8 ml14_7_b])])
def Zez(p q:WEdit)(x11 x15 x12_a ml14_0_b ml14_1_b ml14_2_b ml14_3_b ml14_4_b ml14_5_b ml14_6_b ml14_7_b ml13_0_c ml13_1_c ml13_2_c ml13_3_c ml13_4_c ml13_5_c ml13_6_c ml13_7_c:Int):LSt U:=(L2 [(2,.ptr (.loc 2) 0),(3,.ptr (.loc 3) 0),(4,.ptr (.loc 4) 0),(6,.ptr (.loc 6) 0),(7,.ptr (.loc 7) 0),(8,.ptr (.loc 8) 0),(9,.ptr (.loc 9) 0),(10,.ptr (.loc 10) 0),(11,.c (ci ((2:Int)*x11))),(12,.c (ci x12_a)),(13,.ptr (.loc 13) 0),(14,.ptr (.loc 14) 0),(15,.c (ci x15)),(16,.c (.bool (Zx p.mask x15))),(17,.c (.bool (Zx q.mask x15))),(79,.c (.bool (Zx p.mask x15)))] [(.loc 2,(enc .wedit p)),(.loc 3,(enc .wedit q)),(.loc 4,[ci 0,.int .u8 0,.int .u64 0,.int .u64 0]),(.loc 6,[ci p.at_,.int .u8 0,.int .u64 0,.int .u64 0]),(.loc 7,[.int .u8 (Z0 p.old 0),.int .u8 (Z0 p.old 1),.int .u8 (Z0 p.old 2),.int .u8 (Z0 p.old 3),.int .u8 (Z0 p.old 4),.int .u8 (Z0 p.old 5),.int .u8 (Z0 p.old 6),.int .u8 (Z0 p.old 7)]),(.loc 8,[.int .u8 (Z0 p.new 0),.int .u8 (Z0 p.new 1),.int .u8 (Z0 p.new 2),.int .u8 (Z0 p.new 3),.int .u8 (Z0 p.new 4),.int .u8 (Z0 p.new 5),.int .u8 (Z0 p.new 6),.int .u8 (Z0 p.new 7)]),(.loc 9,[.int .u8 (Z0 q.old 0),.int .u8 (Z0 q.old 1),.int .u8 (Z0 q.old 2),.int .u8 (Z0 q.old 3),.int .u8 (Z0 q.old 4),.int .u8 (Z0 q.old 5),.int .u8 (Z0 q.old 6),.int .u8 (Z0 q.old 7)]),(.loc 10,[.int .u8 (Z0 q.new 0),.int .u8 (Z0 q.new 1),.int .u8 (Z0 q.new 2),.int .u8 (Z0 q.new 3),.int .u8 (Z0 q.new 4),.int .u8 (Z0 q.new 5),.int .u8 (Z0 q.new 6),.int .u8 (Z0 q.new 7)]),(.loc 13,[.int .u8 ml13_0_c,.int .u8 ml13_1_c,.int .u8 ml13_2_c,.int .u8 ml13_3_c,.int .u8 ml13_4_c,.int .u8 ml13_5_c,.int .u8 ml13_6_c,.int .u8 ml13_7_c]),(.loc 14,[.int .u8 ml14_0_b,.int .u8 ml14_1_b,.int .u8 ml14_2_b,.int .u8 ml14_3_b,.int .u8 ml14_4_b,.int .u8 ml14_5_b,.int .u8 ml14_6_b,.int .u8 ml14_7_b])])
def Zey(p q:WEdit)(x11 x15 x12_a ml13_0_c ml13_1_c ml13_2_c ml13_3_c ml13_4_c ml13_5_c ml13_6_c ml13_7_c ml14_0_d ml14_1_d ml14_2_d ml14_3_d ml14_4_d ml14_5_d ml14_6_d ml14_7_d:Int):LSt U:=(L2 [(2,.ptr (.loc 2) 0),(3,.ptr (.loc 3) 0),(4,.ptr (.loc 4) 0),(6,.ptr (.loc 6) 0),(7,.ptr (.loc 7) 0),(8,.ptr (.loc 8) 0),(9,.ptr (.loc 9) 0),(10,.ptr (.loc 10) 0),(11,.c (ci ((2:Int)*x11))),(12,.c (ci x12_a)),(13,.ptr (.loc 13) 0),(14,.ptr (.loc 14) 0),(15,.c (ci x15)),(89,.c (.bool (bif (Zx p.mask x15) then (!(Zx q.mask x15)) else false)))] [(.loc 2,(enc .wedit p)),(.loc 3,(enc .wedit q)),(.loc 4,[ci 0,.int .u8 0,.int .u64 0,.int .u64 0]),(.loc 6,[ci p.at_,.int .u8 0,.int .u64 0,.int .u64 0]),(.loc 7,[.int .u8 (Z0 p.old 0),.int .u8 (Z0 p.old 1),.int .u8 (Z0 p.old 2),.int .u8 (Z0 p.old 3),.int .u8 (Z0 p.old 4),.int .u8 (Z0 p.old 5),.int .u8 (Z0 p.old 6),.int .u8 (Z0 p.old 7)]),(.loc 8,[.int .u8 (Z0 p.new 0),.int .u8 (Z0 p.new 1),.int .u8 (Z0 p.new 2),.int .u8 (Z0 p.new 3),.int .u8 (Z0 p.new 4),.int .u8 (Z0 p.new 5),.int .u8 (Z0 p.new 6),.int .u8 (Z0 p.new 7)]),(.loc 9,[.int .u8 (Z0 q.old 0),.int .u8 (Z0 q.old 1),.int .u8 (Z0 q.old 2),.int .u8 (Z0 q.old 3),.int .u8 (Z0 q.old 4),.int .u8 (Z0 q.old 5),.int .u8 (Z0 q.old 6),.int .u8 (Z0 q.old 7)]),(.loc 10,[.int .u8 (Z0 q.new 0),.int .u8 (Z0 q.new 1),.int .u8 (Z0 q.new 2),.int .u8 (Z0 q.new 3),.int .u8 (Z0 q.new 4),.int .u8 (Z0 q.new 5),.int .u8 (Z0 q.new 6),.int .u8 (Z0 q.new 7)]),(.loc 13,[.int .u8 ml13_0_c,.int .u8 ml13_1_c,.int .u8 ml13_2_c,.int .u8 ml13_3_c,.int .u8 ml13_4_c,.int .u8 ml13_5_c,.int .u8 ml13_6_c,.int .u8 ml13_7_c]),(.loc 14,[.int .u8 ml14_0_d,.int .u8 ml14_1_d,.int .u8 ml14_2_d,.int .u8 ml14_3_d,.int .u8 ml14_4_d,.int .u8 ml14_5_d,.int .u8 ml14_6_d,.int .u8 ml14_7_d])])
abbrev A25(p:List Nat):=AW (Z1 ZkY) Try.f25 Zvy p
abbrev S25(p:List Nat):=SW (Z1 ZkY) Try.f25 Zvy p
theorem ZCM(p q:WEdit)(Q:QT)(h:((Z9m (p.old,()))∧(Z9m (p.new,()))∧(Z9m (q.old,()))∧(Z9m (q.new,()))∧(Ze (A25 [1,1,1,1,1,1,0,1,0,0]) (Z1U p q 1 0 0 0 0 0 0 0 0 0 0 0 0 0 0 0 0 0 0) (xB 0 (S25 [1,1,1,1,1,1,1] Q))))):
  A25 [] (L2 [(0,.agg (enc .wedit p)),(1,.agg (enc .wedit q))] []) Q:=
 Eq.mpr (by kernel_rfl) h
theorem Zum(p q:WEdit)(x11 x12 x15 ml13_0 ml13_1 ml13_2 ml13_3 ml13_4 ml13_5 ml13_6 ml13_7 ml14_0 ml14_1 ml14_2 ml14_3 ml14_4 ml14_5 ml14_6 ml14_7:Int)(N0:NT)(Q:QT)(h:let z3:=Zx p.mask x15;let z4:=bif z3 then true else (Zx q.mask x15);let z2:=xB 1 (S25 [1,1,1,1,1,1,0,1,0,0,1,1] (xT N0 (xB 0 (S25 [1,1,1,1,1,1,1] Q))));let z0:=bif z3 then (Zx q.mask x15) else false;let z1:=bif z0 then (((List.getD [Z0 p.new 0,Z0 p.new 1,Z0 p.new 2,Z0 p.new 3,Z0 p.new 4,Z0 p.new 5,Z0 p.new 6,Z0 p.new 7] x15.toNat 0):Int) !=(List.getD [Z0 q.old 0,Z0 q.old 1,Z0 q.old 2,Z0 q.old 3,Z0 q.old 4,Z0 q.old 5,Z0 q.old 6,Z0 q.old 7] x15.toNat 0)) else false;(((decide (x15 < 8))=true→(ZfL (p.mask,x15,()))∧(ZfL (q.mask,x15,()))∧((Tr (z3=true))∧(Tr (z0=true))∧(z0=true→(0:Int)≤x15∧x15 < ((8:Nat):Int))∧(Tr (z0=true))∧(Tr (z0=true))∧(z0=true→(0:Int)≤x15∧x15 < ((8:Nat):Int))∧(Tr (z0=true))∧(Tr (z0=true))∧(Tr (z0=true))∧(Tr (z0=true))∧((z1=true→(Q .ret (L2 [(4,.ptr (.loc 4) 0),(5,.c (.bool false))] [(.loc 4,[ci 0,.int .u8 0,.int .u64 0,.int .u64 0])])))∧(z1=false→(z3=false→(!z3)=true)∧((z4=true→(InR (x12+x11))∧(A25 [1,1,1,1,1,1,0,1,0,0,1,0,0,1,1,1] (Zab p q x11 x15 ml13_0 ml13_1 ml13_2 ml13_3 ml13_4 ml13_5 ml13_6 ml13_7 ml14_0 ml14_1 ml14_2 ml14_3 ml14_4 ml14_5 ml14_6 ml14_7 (x12+x11)) z2))∧(z4=false→A25 [1,1,1,1,1,1,0,1,0,0,1,0,0,1,1,1] (Zab p q x11 x15 ml13_0 ml13_1 ml13_2 ml13_3 ml13_4 ml13_5 ml13_6 ml13_7 ml14_0 ml14_1 ml14_2 ml14_3 ml14_4 ml14_5 ml14_6 ml14_7 x12) z2))))))∧((decide (x15 < 8))=false→((ZiI (([ml13_0,ml13_1,ml13_2,ml13_3,ml13_4,ml13_5,ml13_6,ml13_7]),0,()))∧((ZiI (([ml14_0,ml14_1,ml14_2,ml14_3,ml14_4,ml14_5,ml14_6,ml14_7]),0,()))∧(Q .ret (L2 [(4,.ptr (.loc 4) 0),(5,.c (.bool true))] [(.loc 4,[ci p.at_,.int .u8 (IntKind.wrap .u8 x12),.int .u64 (of8 (fun i=> ([ml13_0,ml13_1,ml13_2,ml13_3,ml13_4,ml13_5,ml13_6,ml13_7]).getD i 0)),.int .u64 (of8 (fun i=> ([ml14_0,ml14_1,ml14_2,ml14_3,ml14_4,ml14_5,ml14_6,ml14_7]).getD i 0))])]))))))):
  A25 [1,1,1,1,1,1,0,1,0,0] (Z1U p q x11 x12 x15 ml13_0 ml13_1 ml13_2 ml13_3 ml13_4 ml13_5 ml13_6 ml13_7 ml14_0 ml14_1 ml14_2 ml14_3 ml14_4 ml14_5 ml14_6 ml14_7) (xT N0 (xB 0 (S25 [1,1,1,1,1,1,1] Q))):=
 Eq.mpr (by kernel_rfl) h
theorem Zun(p q:WEdit)(x11 x15 ml13_0 ml13_1 ml13_2 ml13_3 ml13_4 ml13_5 ml13_6 ml13_7 ml14_0 ml14_1 ml14_2 ml14_3 ml14_4 ml14_5 ml14_6 ml14_7 x12_a:Int)(N0:NT)(Q:QT)(h:∀ y_1,y_1=(List.getD [Z0 q.new 0,Z0 q.new 1,Z0 q.new 2,Z0 q.new 3,Z0 q.new 4,Z0 q.new 5,Z0 q.new 6,Z0 q.new 7] x15.toNat 0)→∀ y_2,y_2=(List.getD [Z0 q.old 0,Z0 q.old 1,Z0 q.old 2,Z0 q.old 3,Z0 q.old 4,Z0 q.old 5,Z0 q.old 6,Z0 q.old 7] x15.toNat 0)→let z1:=Zx q.mask x15;let z0:=xB 1 (S25 [1,1,1,1,1,1,0,1,0,0,1,1] (xT N0 (xB 0 (S25 [1,1,1,1,1,1,1] Q))));(InR ((2:Int)*x11))∧((z1=true→((0:Int)≤x15∧x15 < ((8:Nat):Int))∧((0:Int)≤x15∧x15 < ((8:Nat):Int))∧(((0:Int)≤x15∧x15 < ((8:Nat):Int))∧((0:Int)≤x15∧x15 < ((8:Nat):Int))∧(A25 [1,1,1,1,1,1,0,1,0,0,1,0,0,1,1,1,1,1] (ZeA p q x11 x15 x12_a .junk (Ye x15 0 y_2 ml13_0) (Ye x15 1 y_2 ml13_1) (Ye x15 2 y_2 ml13_2) (Ye x15 3 y_2 ml13_3) (Ye x15 4 y_2 ml13_4) (Ye x15 5 y_2 ml13_5) (Ye x15 6 y_2 ml13_6) (Ye x15 7 y_2 ml13_7) (Ye x15 0 y_1 ml14_0) (Ye x15 1 y_1 ml14_1) (Ye x15 2 y_1 ml14_2) (Ye x15 3 y_1 ml14_3) (Ye x15 4 y_1 ml14_4) (Ye x15 5 y_1 ml14_5) (Ye x15 6 y_1 ml14_6) (Ye x15 7 y_1 ml14_7)) z0)))∧(z1=false→A25 [1,1,1,1,1,1,0,1,0,0,1,0,0,1,1,1,1,1] (ZeA p q x11 x15 x12_a (.c (.bool z1)) ml13_0 ml13_1 ml13_2 ml13_3 ml13_4 ml13_5 ml13_6 ml13_7 ml14_0 ml14_1 ml14_2 ml14_3 ml14_4 ml14_5 ml14_6 ml14_7) z0))):
  A25 [1,1,1,1,1,1,0,1,0,0,1,0,0,1,1,1] (Zab p q x11 x15 ml13_0 ml13_1 ml13_2 ml13_3 ml13_4 ml13_5 ml13_6 ml13_7 ml14_0 ml14_1 ml14_2 ml14_3 ml14_4 ml14_5 ml14_6 ml14_7 x12_a) (xB 1 (S25 [1,1,1,1,1,1,0,1,0,0,1,1] (xT N0 (xB 0 (S25 [1,1,1,1,1,1,1] Q))))):=
 Eq.mpr (by kernel_rfl) (h _ rfl _ rfl)
theorem ZlA(p q:WEdit)(x11 x15 x12_a:Int)(v68_b:V U)(ml13_0_b ml13_1_b ml13_2_b ml13_3_b ml13_4_b ml13_5_b ml13_6_b ml13_7_b ml14_0_b ml14_1_b ml14_2_b ml14_3_b ml14_4_b ml14_5_b ml14_6_b ml14_7_b:Int)(N0:NT)(Q:QT)(h:∀ y_1,y_1=(List.getD [Z0 p.old 0,Z0 p.old 1,Z0 p.old 2,Z0 p.old 3,Z0 p.old 4,Z0 p.old 5,Z0 p.old 6,Z0 p.old 7] x15.toNat 0)→let z0:=xB 1 (S25 [1,1,1,1,1,1,0,1,0,0,1,1] (xT N0 (xB 0 (S25 [1,1,1,1,1,1,1] Q))));(((Zx p.mask x15)=true→((0:Int)≤x15∧x15 < ((8:Nat):Int))∧((0:Int)≤x15∧x15 < ((8:Nat):Int))∧(A25 [1,1,1,1,1,1,0,1,0,0,1,0,0,1,1,1,1,1,1] (Zez p q x11 x15 x12_a ml14_0_b ml14_1_b ml14_2_b ml14_3_b ml14_4_b ml14_5_b ml14_6_b ml14_7_b (Ye x15 0 y_1 ml13_0_b) (Ye x15 1 y_1 ml13_1_b) (Ye x15 2 y_1 ml13_2_b) (Ye x15 3 y_1 ml13_3_b) (Ye x15 4 y_1 ml13_4_b) (Ye x15 5 y_1 ml13_5_b) (Ye x15 6 y_1 ml13_6_b) (Ye x15 7 y_1 ml13_7_b)) z0))∧((Zx p.mask x15)=false→A25 [1,1,1,1,1,1,0,1,0,0,1,0,0,1,1,1,1,1,1] (Zez p q x11 x15 x12_a ml14_0_b ml14_1_b ml14_2_b ml14_3_b ml14_4_b ml14_5_b ml14_6_b ml14_7_b ml13_0_b ml13_1_b ml13_2_b ml13_3_b ml13_4_b ml13_5_b ml13_6_b ml13_7_b) z0))):
  A25 [1,1,1,1,1,1,0,1,0,0,1,0,0,1,1,1,1,1] (ZeA p q x11 x15 x12_a v68_b ml13_0_b ml13_1_b ml13_2_b ml13_3_b ml13_4_b ml13_5_b ml13_6_b ml13_7_b ml14_0_b ml14_1_b ml14_2_b ml14_3_b ml14_4_b ml14_5_b ml14_6_b ml14_7_b) (xB 1 (S25 [1,1,1,1,1,1,0,1,0,0,1,1] (xT N0 (xB 0 (S25 [1,1,1,1,1,1,1] Q))))):=
 Eq.mpr (by kernel_rfl) (h _ rfl)
theorem ZcC(p q:WEdit)(x11 x15 x12_a ml14_0_b ml14_1_b ml14_2_b ml14_3_b ml14_4_b ml14_5_b ml14_6_b ml14_7_b ml13_0_c ml13_1_c ml13_2_c ml13_3_c ml13_4_c ml13_5_c ml13_6_c ml13_7_c:Int)(N0:NT)(Q:QT)(h:∀ y_1,y_1=(List.getD [Z0 p.new 0,Z0 p.new 1,Z0 p.new 2,Z0 p.new 3,Z0 p.new 4,Z0 p.new 5,Z0 p.new 6,Z0 p.new 7] x15.toNat 0)→let z2:=Zx p.mask x15;let z1:=xT N0 (xB 0 (S25 [1,1,1,1,1,1,1] Q));let z0:=bif z2 then (!(Zx q.mask x15)) else false;(Tr (z2=true))∧(Tr (z2=true))∧((z0=true→((0:Int)≤x15∧x15 < ((8:Nat):Int))∧((0:Int)≤x15∧x15 < ((8:Nat):Int))∧(A25 [1,1,1,1,1,1,0,1,0,0,1,1] (Zey p q x11 x15 x12_a ml13_0_c ml13_1_c ml13_2_c ml13_3_c ml13_4_c ml13_5_c ml13_6_c ml13_7_c (Ye x15 0 y_1 ml14_0_b) (Ye x15 1 y_1 ml14_1_b) (Ye x15 2 y_1 ml14_2_b) (Ye x15 3 y_1 ml14_3_b) (Ye x15 4 y_1 ml14_4_b) (Ye x15 5 y_1 ml14_5_b) (Ye x15 6 y_1 ml14_6_b) (Ye x15 7 y_1 ml14_7_b)) z1))∧(z0=false→A25 [1,1,1,1,1,1,0,1,0,0,1,1] (Zey p q x11 x15 x12_a ml13_0_c ml13_1_c ml13_2_c ml13_3_c ml13_4_c ml13_5_c ml13_6_c ml13_7_c ml14_0_b ml14_1_b ml14_2_b ml14_3_b ml14_4_b ml14_5_b ml14_6_b ml14_7_b) z1))):
  A25 [1,1,1,1,1,1,0,1,0,0,1,0,0,1,1,1,1,1,1] (Zez p q x11 x15 x12_a ml14_0_b ml14_1_b ml14_2_b ml14_3_b ml14_4_b ml14_5_b ml14_6_b ml14_7_b ml13_0_c ml13_1_c ml13_2_c ml13_3_c ml13_4_c ml13_5_c ml13_6_c ml13_7_c) (xB 1 (S25 [1,1,1,1,1,1,0,1,0,0,1,1] (xT N0 (xB 0 (S25 [1,1,1,1,1,1,1] Q))))):=
 Eq.mpr (by kernel_rfl) (h _ rfl)
theorem ZcB(p q:WEdit)(x11 x15 x12_a ml13_0_c ml13_1_c ml13_2_c ml13_3_c ml13_4_c ml13_5_c ml13_6_c ml13_7_c ml14_0_d ml14_1_d ml14_2_d ml14_3_d ml14_4_d ml14_5_d ml14_6_d ml14_7_d:Int)(N0:NT)(Q:QT)(h:(InR (x15+1))∧(N0 (Z1U p q ((2:Int)*x11) x12_a (x15+1) ml13_0_c ml13_1_c ml13_2_c ml13_3_c ml13_4_c ml13_5_c ml13_6_c ml13_7_c ml14_0_d ml14_1_d ml14_2_d ml14_3_d ml14_4_d ml14_5_d ml14_6_d ml14_7_d))):
  A25 [1,1,1,1,1,1,0,1,0,0,1,1] (Zey p q x11 x15 x12_a ml13_0_c ml13_1_c ml13_2_c ml13_3_c ml13_4_c ml13_5_c ml13_6_c ml13_7_c ml14_0_d ml14_1_d ml14_2_d ml14_3_d ml14_4_d ml14_5_d ml14_6_d ml14_7_d) (xT N0 (xB 0 (S25 [1,1,1,1,1,1,1] Q))):=
 Eq.mpr (by kernel_rfl) h
def ZAh(p q:WEdit):Prop:=AW (Z1 ZkY) Try.f25 Zvy [] (Zk (Ztq.can (p,q,())) []) (EQ Try.f25 (Zmb (p,q,())) [])
theorem Zyo(c67:CT 67 Z5K)(c68:CT 68 Z5J)(c69:CT 69 Z5I)(hb:∀ (p:WEdit) (q:WEdit) (_:Unit),Zrx (p,q,())→ZAh p q):CT 25 Z8a:=
 Z7 (l:=[(67,Z5K),(68,Z5J),(69,Z5I)]) Zm rfl (⟨c67,c68,c69,trivial⟩) Zvy Try.func25 rfl rfl 2 (fun _=> rfl) (by decide) (fun ⟨p,q,_⟩=> hb p q ())
def Zhj:List (FuncId × Fs U):=[]
def ZmF:Zj U:=lvl [([0,1,4],[4]),([0,1,4,6],[4]),([0,1,4,6,10],[4]),([0,1,4,6],[4]),([0,1,4,6,19],[4]),([4,5],[4]),([4,5],[4])]
def Z7p(l:List WEdit)(at_ x6:Int):LSt U:=(L2 [(0,.c (sU .wedit l .unk)),(1,.c (ci at_)),(4,.ptr (.loc 4) 0),(6,.c (ci x6))] [(.loc 4,[ci 0,.int .u8 0,.int .u64 0,.int .u64 0])])
abbrev ZAu(p:List Nat):=AW (Z1 Zhj) Try.f142 ZmF p
abbrev ZBW(p:List Nat):=SW (Z1 Zhj) Try.f142 ZmF p
theorem ZAW(l:List WEdit)(at_:Int)(Q:QT)(h:(Ze (ZAu [1,0,1,0,0]) (Z7p l at_ 0) (xB 0 (ZBW [1,1] Q)))):
  ZAu [] (L2 [(0,.c (sU .wedit l .unk)),(1,.c (ci at_))] []) Q:=
 Eq.mpr (by kernel_rfl) h
theorem Zq0(l:List WEdit)(at_ x6:Int)(N0:NT)(Q:QT)(h:let z1:=decide (x6 < (l.length:Int));let z0:=l.getD x6.toNat (WEdit.mk 0 0 0 0);let z2:=((WEdit.at_ z0):Int)==at_;((z1=true→((0:Int)≤x6∧x6 < (l.length:Int))∧((z2=true→((0:Int)≤x6∧x6 < (l.length:Int))∧(Q .ret (L2 [(4,.ptr (.loc 4) 0),(5,.c (.bool true))] [(.loc 4,(enc .wedit z0))])))∧(z2=false→(InR (x6+1))∧(N0 (Z7p l at_ (x6+1))))))∧(z1=false→(Q .ret (L2 [(4,.ptr (.loc 4) 0),(5,.c (.bool false))] [(.loc 4,[ci 0,.int .u8 0,.int .u64 0,.int .u64 0])]))))):
  ZAu [1,0,1,0,0] (Z7p l at_ x6) (xT N0 (xB 0 (ZBW [1,1] Q))):=
 Eq.mpr (by kernel_rfl) h
def Zwh(l:List WEdit)(at_:Int):Prop:=AW (Z1 Zhj) Try.f142 ZmF [] (Zk (ZnK.can (l,at_,())) []) (EQ Try.f142 (ZgO (l,at_,())) [])
theorem Zv0(hb:∀ (l:List WEdit) (at_:Int) (_:Unit),ZgZ (l,at_,())→Zwh l at_):CT 142 Z4Y:=
 Z7 (l:=[]) Zm rfl trivial ZmF Try.func142 rfl rfl 2 (fun _=> rfl) (by decide) (fun ⟨l,at_,_⟩=> hb l at_ ())
def Zhi:List (FuncId × Fs U):=[]
def ZmE:Zj U:=lvl [([0,1,4],[4]),([0,1,4,5],[4]),([0,1,4,5,9],[4]),([0,1,4,5],[4]),([0,1,4,5,18],[4]),([4],[4]),([4],[4])]
def Z7o(l:List Kid)(at_ x5:Int):LSt U:=(L2 [(0,.c (sU .kid l .unk)),(1,.c (ci at_)),(4,.ptr (.loc 4) 0),(5,.c (ci x5))] [(.loc 4,zc1)])
abbrev ZAt(p:List Nat):=AW (Z1 Zhi) Try.f143 ZmE p
abbrev ZBV(p:List Nat):=SW (Z1 Zhi) Try.f143 ZmE p
theorem ZAV(l:List Kid)(at_:Int)(Q:QT)(h:(Ze (ZAt [1,0,1,0,0]) (Z7o l at_ 0) (xB 0 (ZBV [1,1] Q)))):
  ZAt [] (L2 [(0,.c (sU .kid l .unk)),(1,.c (ci at_))] []) Q:=
 Eq.mpr (by kernel_rfl) h
theorem ZpZ(l:List Kid)(at_ x5:Int)(N0:NT)(Q:QT)(h:let z1:=decide (x5 < (l.length:Int));let z0:=l.getD x5.toNat (KidOf.mk 0 Edit.nil);let z2:=((KidOf.at_ z0):Int)==at_;((z1=true→((0:Int)≤x5∧x5 < (l.length:Int))∧((z2=true→((0:Int)≤x5∧x5 < (l.length:Int))∧(Q .ret (L2 [(4,.ptr (.loc 4) 0)] [(.loc 4,(enc .edit (KidOf.e z0)))])))∧(z2=false→(InR (x5+1))∧(N0 (Z7o l at_ (x5+1))))))∧(z1=false→(Q .ret (L2 [(4,.ptr (.loc 4) 0)] [(.loc 4,zc1)]))))):
  ZAt [1,0,1,0,0] (Z7o l at_ x5) (xT N0 (xB 0 (ZBV [1,1] Q))):=
 Eq.mpr (by kernel_rfl) h
def Zwg(l:List Kid)(at_:Int):Prop:=AW (Z1 Zhi) Try.f143 ZmE [] (Zk (ZnJ.can (l,at_,())) []) (EQ Try.f143 (ZgN (l,at_,())) [])
theorem ZuZ(hb:∀ (l:List Kid) (at_:Int) (_:Unit),ZaT (l,at_,())→Zwg l at_):CT 143 Z4X:=
 Z7 (l:=[]) Zm rfl trivial ZmE Try.func143 rfl rfl 2 (fun _=> rfl) (by decide) (fun ⟨l,at_,_⟩=> hb l at_ ())
def Zhe:List (FuncId × Fs U):=[]
def ZmA:Zj U:=fun i=> match i with
 | 0=> ([(0,[]),(1,[])],[])
 | 1=> ([(0,[]),(1,[]),(5,[])],[])
 | 2=> ([(0,[]),(1,[]),(5,[.own .int]),(6,[]),(7,[])],[])
 | 3=> ([(0,[]),(1,[]),(5,[]),(6,[]),(7,[]),(18,[])],[])
 | 4=> ([(0,[]),(1,[]),(5,[]),(6,[]),(7,[])],[])
 | 5=> ([(0,[]),(1,[]),(5,[]),(6,[]),(7,[]),(8,[])],[])
 | 6=> ([(0,[]),(1,[]),(5,[]),(6,[]),(7,[]),(23,[])],[])
 | 7=> ([(0,[]),(1,[]),(5,[]),(6,[]),(7,[]),(8,[])],[])
 | 8=> ([(0,[]),(1,[]),(5,[]),(6,[]),(7,[]),(8,[]),(60,[])],[])
 | 9=> ([(0,[]),(1,[]),(5,[]),(6,[]),(7,[]),(8,[]),(60,[])],[])
 | 10=> ([(0,[]),(1,[]),(5,[]),(6,[]),(7,[]),(8,[]),(74,[])],[])
 | 11=> ([(0,[]),(1,[]),(5,[]),(6,[]),(7,[]),(8,[]),(74,[])],[])
 | 12=> ([(0,[]),(1,[]),(5,[.own .int]),(6,[]),(7,[])],[])
 | 13=> ([(4,[])],[])
 | _=> ([],[])
def Z1u(a b:List Int)(x6 x7:Int)(x5:List Int):LSt U:=(L2 [(0,.c (sU .int a .unk)),(1,.c (sU .int b .unk)),(5,.c (sU .int x5 (.own (.e 5 0)))),(6,.c (ci x6)),(7,.c (ci x7))] [])
def Z7k(a b:List Int)(x6 x7:Int)(x5:List Int)(x8_a:Int):LSt U:=(L2 [(0,.c (sU .int a .unk)),(1,.c (sU .int b .unk)),(5,.c (sU .int x5 (.own (.e 5 0)))),(6,.c (ci x6)),(7,.c (ci x7)),(8,.c (ci x8_a))] [])
def Z7j(a b:List Int)(x6 x7:Int)(x5:List Int)(x8_a x6_b:Int):LSt U:=(L2 [(0,.c (sU .int a .unk)),(1,.c (sU .int b .unk)),(5,.c (sU .int x5 (.own (.e 5 0)))),(6,.c (ci x6_b)),(7,.c (ci x7)),(8,.c (ci x8_a)),(60,.c (.bool (bif (decide ((x6:Int) < (a.length:Int))) then (((a.getD x6.toNat (0:Int)):Int)==x8_a) else false)))] [])
def Z7i(a b:List Int)(x7:Int)(x5:List Int)(x8_a x6_b x7_c:Int):LSt U:=(L2 [(0,.c (sU .int a .unk)),(1,.c (sU .int b .unk)),(5,.c (sU .int x5 (.own (.e 5 0)))),(6,.c (ci x6_b)),(7,.c (ci x7_c)),(8,.c (ci x8_a)),(74,.c (.bool (bif (decide ((x7:Int) < (b.length:Int))) then (((b.getD x7.toNat (0:Int)):Int)==x8_a) else false)))] [])
abbrev Z8K(p:List Nat):=AW (Z1 Zhe) Try.f172 ZmA p
abbrev ZeW(p:List Nat):=SW (Z1 Zhe) Try.f172 ZmA p
theorem ZAH(a b:List Int)(Q:QT)(h:(Ze (Z8K [1,1,1,0,0,0]) (Z1u a b 0 0 []) (xB 0 (ZeW [1,1,1,1] Q)))):
  Z8K [] (L2 [(0,.c (sU .int a .unk)),(1,.c (sU .int b .unk))] []) Q:=
 Eq.mpr (by kernel_rfl) h
theorem ZpN(a b:List Int)(x6 x7:Int)(x5:List Int)(N0:NT)(Q:QT)(h:∀ y_1,y_1=(a.getD x6.toNat (0:Int))→∀ y_2,y_2=(b.getD x7.toNat (0:Int))→let z4:=xB 1 (xT N0 (xB 0 (ZeW [1,1,1,1] Q)));let z1:=decide (x6 < (a.length:Int));let z3:=bif z1 then true else (decide (x7 < (b.length:Int)));let z0:=decide (((b.length:Int):Int)≤x7);let z2:=bif z0 then true else (bif z1 then (decide (y_1 < y_2)) else false);(Tr ((!z1)=true))∧(Tr ((!z1)=true))∧(Tr ((!z1)=true))∧(z1=false→(!z1)=true)∧((z3=true→((Tr ((!z0)=true))∧(Tr ((!z0)=true))∧(Tr ((!z0)=true))∧(Tr ((!z0)=true))∧(Tr (((!z0) && z1)=true))∧(Tr (((!z0) && z1)=true))∧(((!z0) && z1)=true→(0:Int)≤x6∧x6 < (a.length:Int))∧(Tr (((!z0) && z1)=true))∧(Tr (((!z0) && z1)=true))∧(Tr (((!z0) && z1)=true))∧(((!z0) && z1)=true→(0:Int)≤x7∧x7 < (b.length:Int))∧(Tr (((!z0) && z1)=true))∧(Tr (((!z0) && z1)=true))∧(Tr (((!z0) && z1)=true))∧((!z0)=true→(True→(!z0)=true))∧((!z0)=true→(z1=true→((!z0) && z1)=true))∧(z0=false→(!z0)=true)∧((z2=true→((0:Int)≤x6∧x6 < (a.length:Int))∧(Z8K [1,1,1,0,0,0,1,0,1,1] (Z7k a b x6 x7 x5 y_1) z4))∧(z2=false→((0:Int)≤x7∧x7 < (b.length:Int))∧(Z8K [1,1,1,0,0,0,1,0,1,1] (Z7k a b x6 x7 x5 y_2) z4)))))∧(z3=false→(Q .ret (L2 [(4,.c (sU .int x5 (.own (.e 4 0))))] []))))):
  Z8K [1,1,1,0,0,0] (Z1u a b x6 x7 x5) (xT N0 (xB 0 (ZeW [1,1,1,1] Q))):=
 Eq.mpr (by kernel_rfl) (h _ rfl _ rfl)
theorem ZpQ(a b:List Int)(x6 x7:Int)(x5:List Int)(x8_a:Int)(N0:NT)(Q:QT)(h:let z2:=xB 1 (xT N0 (xB 0 (ZeW [1,1,1,1] Q)));let z0:=decide (x6 < (a.length:Int));let z1:=bif z0 then (((a.getD x6.toNat (0:Int)):Int)==x8_a) else false;(Tr (z0=true))∧(Tr (z0=true))∧(z0=true→(0:Int)≤x6∧x6 < (a.length:Int))∧(Tr (z0=true))∧(Tr (z0=true))∧(Tr (z0=true))∧(Tr (z0=true))∧((z1=true→(InR (x6+1))∧(Z8K [1,1,1,0,0,0,1,0,1,1,1] (Z7j a b x6 x7 x5 x8_a (x6+1)) z2))∧(z1=false→Z8K [1,1,1,0,0,0,1,0,1,1,1] (Z7j a b x6 x7 x5 x8_a x6) z2))):
  Z8K [1,1,1,0,0,0,1,0,1,1] (Z7k a b x6 x7 x5 x8_a) (xB 1 (xT N0 (xB 0 (ZeW [1,1,1,1] Q)))):=
 Eq.mpr (by kernel_rfl) h
theorem ZpP(a b:List Int)(x6 x7:Int)(x5:List Int)(x8_a x6_b:Int)(N0:NT)(Q:QT)(h:let z2:=xB 1 (xT N0 (xB 0 (ZeW [1,1,1,1] Q)));let z0:=decide (x7 < (b.length:Int));let z1:=bif z0 then (((b.getD x7.toNat (0:Int)):Int)==x8_a) else false;(Tr (z0=true))∧(Tr (z0=true))∧(z0=true→(0:Int)≤x7∧x7 < (b.length:Int))∧(Tr (z0=true))∧(Tr (z0=true))∧(Tr (z0=true))∧(Tr (z0=true))∧((z1=true→(InR (x7+1))∧(Z8K [1,1,1,0,0,0,1,0,1,1,1,1] (Z7i a b x7 x5 x8_a x6_b (x7+1)) z2))∧(z1=false→Z8K [1,1,1,0,0,0,1,0,1,1,1,1] (Z7i a b x7 x5 x8_a x6_b x7) z2))):
  Z8K [1,1,1,0,0,0,1,0,1,1,1] (Z7j a b x6 x7 x5 x8_a x6_b) (xB 1 (xT N0 (xB 0 (ZeW [1,1,1,1] Q)))):=
 Eq.mpr (by kernel_rfl) h
theorem ZpO(a b:List Int)(x7:Int)(x5:List Int)(x8_a x6_b x7_c:Int)(N0:NT)(Q:QT)(h:((x5.length+([x8_a]).length)*8≤140737488355328)∧(N0 (Z1u a b x6_b x7_c (x5++([x8_a]))))):
  Z8K [1,1,1,0,0,0,1,0,1,1,1,1] (Z7i a b x7 x5 x8_a x6_b x7_c) (xB 1 (xT N0 (xB 0 (ZeW [1,1,1,1] Q)))):=
 Eq.mpr (by kernel_rfl) h
def Zw2(a b:List Int):Prop:=AW (Z1 Zhe) Try.f172 ZmA [] (Zk (Zny.can (a,b,())) []) (EQ Try.f172 (Zk9 (a,b,())) [])
theorem ZuN(hb:∀ (a:List Int) (b:List Int) (_:Unit),ZgW (a,b,())→Zw2 a b):CT 172 Z8W:=
 Z7 (l:=[]) Zm rfl trivial ZmA Try.func172 rfl rfl 2 (fun _=> rfl) (by decide) (fun ⟨a,b,_⟩=> hb a b ())
def Zhk:List (FuncId × Fs U):=[(172,Z8W)]
def ZmG:Zj U:=fun i=> match i with
 | 0=> ([(2,[]),(3,[])],[(.loc 2,[]),(.loc 3,[])])
 | 1=> ([(2,[]),(3,[]),(6,[]),(7,[]),(8,[]),(9,[])],[(.loc 2,[]),(.loc 3,[])])
 | 2=> ([(2,[]),(3,[]),(6,[.own .int]),(7,[]),(8,[]),(9,[]),(10,[])],[(.loc 2,[]),(.loc 3,[])])
 | 3=> ([(2,[]),(3,[]),(6,[]),(7,[]),(8,[]),(9,[]),(10,[]),(18,[])],[(.loc 2,[]),(.loc 3,[])])
 | 4=> ([(2,[]),(3,[]),(6,[.own .int]),(7,[]),(8,[]),(9,[]),(10,[])],[(.loc 2,[]),(.loc 3,[])])
 | 5=> ([(2,[]),(3,[]),(6,[]),(7,[]),(8,[]),(9,[]),(10,[])],[(.loc 2,[]),(.loc 3,[])])
 | 6=> ([(2,[]),(3,[]),(6,[]),(7,[.own .int]),(8,[]),(9,[]),(11,[])],[(.loc 2,[]),(.loc 3,[])])
 | 7=> ([(2,[]),(3,[]),(6,[]),(7,[]),(8,[]),(9,[]),(11,[]),(34,[])],[(.loc 2,[]),(.loc 3,[])])
 | 8=> ([(2,[]),(3,[]),(6,[]),(7,[.own .int]),(8,[]),(9,[]),(11,[])],[(.loc 2,[]),(.loc 3,[])])
 | 9=> ([(2,[]),(3,[]),(6,[]),(7,[]),(8,[]),(9,[]),(11,[])],[(.loc 2,[]),(.loc 3,[])])
 | 10=> ([(2,[]),(3,[]),(6,[]),(7,[]),(8,[.own .int]),(9,[]),(12,[])],[(.loc 2,[]),(.loc 3,[])])
 | 11=> ([(2,[]),(3,[]),(6,[]),(7,[]),(8,[]),(9,[]),(12,[]),(50,[])],[(.loc 2,[]),(.loc 3,[])])
 | 12=> ([(2,[]),(3,[]),(6,[]),(7,[]),(8,[.own .int]),(9,[]),(12,[])],[(.loc 2,[]),(.loc 3,[])])
 | 13=> ([(2,[]),(3,[]),(6,[]),(7,[]),(8,[]),(9,[]),(12,[])],[(.loc 2,[]),(.loc 3,[])])
 | 14=> ([(3,[]),(6,[]),(7,[]),(8,[]),(9,[.own .int]),(13,[])],[(.loc 3,[])])
 | 15=> ([(3,[]),(6,[]),(7,[]),(8,[]),(9,[]),(13,[]),(66,[])],[(.loc 3,[])])
 | 16=> ([(3,[]),(6,[]),(7,[]),(8,[]),(9,[.own .int]),(13,[])],[(.loc 3,[])])
 | 17=> ([(3,[]),(6,[]),(7,[]),(8,[]),(9,[]),(13,[])],[(.loc 3,[])])
 | 18=> ([(4,[]),(5,[])],[])
 | _=> ([],[])
def Z7t(p q:Edit)(x10:Int)(x6:List Int):LSt U:=(L2 [(2,.ptr (.loc 2) 0),(3,.ptr (.loc 3) 0),(6,.c (sU .int x6 (.own (.e 6 0)))),(7,.c (.nils)),(8,.c (.nils)),(9,.c (.nils)),(10,.c (ci x10))] [(.loc 2,(enc .edit p)),(.loc 3,(enc .edit q))])
def Z7s(p q:Edit)(x6:List Int)(x11_a:Int)(x7_a:List Int):LSt U:=(L2 [(2,.ptr (.loc 2) 0),(3,.ptr (.loc 3) 0),(6,.c (sU .int x6 (.own (.e 6 0)))),(7,.c (sU .int x7_a (.own (.e 7 0)))),(8,.c (.nils)),(9,.c (.nils)),(11,.c (ci x11_a))] [(.loc 2,(enc .edit p)),(.loc 3,(enc .edit q))])
def Z7r(p q:Edit)(x6 x7_a:List Int)(x12_b:Int)(x8_b:List Int):LSt U:=(L2 [(2,.ptr (.loc 2) 0),(3,.ptr (.loc 3) 0),(6,.c (sU .int x6 (.own (.e 6 0)))),(7,.c (sU .int x7_a (.own (.e 7 0)))),(8,.c (sU .int x8_b (.own (.e 8 0)))),(9,.c (.nils)),(12,.c (ci x12_b))] [(.loc 2,(enc .edit p)),(.loc 3,(enc .edit q))])
def Z7q(p q:Edit)(x6 x7_a x8_b:List Int)(x13_c:Int)(x9_c:List Int):LSt U:=(L2 [(3,.ptr (.loc 3) 0),(6,.c (sU .int x6 (.own (.e 6 0)))),(7,.c (sU .int x7_a (.own (.e 7 0)))),(8,.c (sU .int x8_b (.own (.e 8 0)))),(9,.c (sU .int x9_c (.own (.e 9 0)))),(13,.c (ci x13_c))] [(.loc 3,(enc .edit q))])
abbrev Zi0(p:List Nat):=AW (Z1 Zhk) Try.f141 ZmG p
abbrev ZjN(p:List Nat):=SW (Z1 Zhk) Try.f141 ZmG p
theorem ZAX(p q:Edit)(Q:QT)(h:(Ze (Zi0 [1,1,0,1,0,0]) (Z7t p q 0 []) (xB 0 (ZjN [1,1,1] Q)))):
  Zi0 [] (L2 [(0,.agg (enc .edit p)),(1,.agg (enc .edit q))] []) Q:=
 Eq.mpr (by kernel_rfl) h
theorem Zq4(p q:Edit)(x10:Int)(x6:List Int)(N0:NT)(Q:QT)(h:let z1:=decide (x10 < (p.words.length:Int));let z0:=p.words.getD x10.toNat (WEdit.mk 0 0 0 0);((z1=true→((0:Int)≤x10∧x10 < (p.words.length:Int))∧((x6.length+([WEdit.at_ z0]).length)*8≤140737488355328)∧((InR (x10+1))∧(N0 (Z7t p q (x10+1) (x6++([WEdit.at_ z0]))))))∧(z1=false→(Ze (Zi0 [1,1,1,0,1,0,0]) (Z7s p q x6 0 []) (xB 2 (ZjN [1,1,1,1] Q)))))):
  Zi0 [1,1,0,1,0,0] (Z7t p q x10 x6) (xT N0 (xB 0 (ZjN [1,1,1] Q))):=
 Eq.mpr (by kernel_rfl) h
theorem Zq3(p q:Edit)(x6:List Int)(x11_a:Int)(x7_a:List Int)(N1:NT)(Q:QT)(h:let z1:=decide (x11_a < (q.words.length:Int));let z0:=q.words.getD x11_a.toNat (WEdit.mk 0 0 0 0);((z1=true→((0:Int)≤x11_a∧x11_a < (q.words.length:Int))∧((x7_a.length+([WEdit.at_ z0]).length)*8≤140737488355328)∧((InR (x11_a+1))∧(N1 (Z7s p q x6 (x11_a+1) (x7_a++([WEdit.at_ z0]))))))∧(z1=false→(Ze (Zi0 [1,1,1,1,0,1,0,0]) (Z7r p q x6 x7_a 0 []) (xB 4 (ZjN [1,1,1,1,1] Q)))))):
  Zi0 [1,1,1,0,1,0,0] (Z7s p q x6 x11_a x7_a) (xT N1 (xB 2 (ZjN [1,1,1,1] Q))):=
 Eq.mpr (by kernel_rfl) h
theorem Zq2(p q:Edit)(x6 x7_a:List Int)(x12_b:Int)(x8_b:List Int)(N2:NT)(Q:QT)(h:let z1:=decide (x12_b < (p.kids.length:Int));let z0:=p.kids.getD x12_b.toNat (KidOf.mk 0 Edit.nil);((z1=true→((0:Int)≤x12_b∧x12_b < (p.kids.length:Int))∧((x8_b.length+([KidOf.at_ z0]).length)*8≤140737488355328)∧((InR (x12_b+1))∧(N2 (Z7r p q x6 x7_a (x12_b+1) (x8_b++([KidOf.at_ z0]))))))∧(z1=false→(Ze (Zi0 [1,1,1,1,1,0,1,0,0]) (Z7q p q x6 x7_a x8_b 0 []) (xB 6 (ZjN [1,1,1,1,1,1] Q)))))):
  Zi0 [1,1,1,1,0,1,0,0] (Z7r p q x6 x7_a x12_b x8_b) (xT N2 (xB 4 (ZjN [1,1,1,1,1] Q))):=
 Eq.mpr (by kernel_rfl) h
theorem Zq1(p q:Edit)(x6 x7_a x8_b:List Int)(x13_c:Int)(x9_c:List Int)(N3:NT)(Q:QT)(h:let z1:=decide (x13_c < (q.kids.length:Int));let z0:=q.kids.getD x13_c.toNat (KidOf.mk 0 Edit.nil);((z1=true→((0:Int)≤x13_c∧x13_c < (q.kids.length:Int))∧((x9_c.length+([KidOf.at_ z0]).length)*8≤140737488355328)∧((InR (x13_c+1))∧(N3 (Z7q p q x6 x7_a x8_b (x13_c+1) (x9_c++([KidOf.at_ z0]))))))∧(z1=false→(ZgW (x6,x7_a,()))∧(ZgW (x8_b,x9_c,()))∧(Q .ret (L2 [(4,.c (sU .int (Yd x6 x7_a) .unk)),(5,.c (sU .int (Yd x8_b x9_c) .unk))] []))))):
  Zi0 [1,1,1,1,1,0,1,0,0] (Z7q p q x6 x7_a x8_b x13_c x9_c) (xT N3 (xB 6 (ZjN [1,1,1,1,1,1] Q))):=
 Eq.mpr (by kernel_rfl) h
def Zwi(p q:Edit):Prop:=AW (Z1 Zhk) Try.f141 ZmG [] (Zk (ZnL.can (p,q,())) []) (EQ Try.f141 (Zr8 (p,q,())) [])
theorem Zv1(ZyZ:CT 172 Z8W)(hb:∀ (p:Edit) (q:Edit) (_:Unit),Zkn (p,q,())→Zwi p q):CT 141 Z4Z:=
 Z7 (l:=[(172,Z8W)]) Zm rfl (⟨ZyZ,trivial⟩) ZmG Try.func141 rfl rfl 2 (fun _=> rfl) (by decide) (fun ⟨p,q,_⟩=> hb p q ())
def Z8C(N:Nat):List (FuncId × Fs U):=(61,fs Z8I (fun a=> [Z7X a,Zj3 a < N]) Z9j) ::(101,fs Z5v (fun a=> [Z68 a,Zee a < N]) Z58) ::(102,fs Z5u (fun a=> [Z67 a,Zed a < N]) Z57) ::(147,fs Z5t (fun a=> [Z64 a,Zec a < N]) Z53) ::[(99,Z5H),(100,Z50),(141,Z4Z),(142,Z4Y),(143,Z4X),(25,Z8a),(145,Z4V),(144,Z4W),(146,Z4U),(137,Z0Y)]
def ZyE:Zj U:=lvl [([2,3,4],[2,3,4]),([2,3,4,10],[2,3,4]),([4,5],[4]),([2,3,4,15],[2,3,4]),([4,5],[4]),([2,3,4,20],[2,3,4]),([2,4,6,7],[2,4,6]),([4,5],[4]),([2,3,4,36],[2,3,4]),([3,4,8,9],[3,4,8]),([4,5],[4]),([2,3,4,53],[2,3,4]),([4,5],[4]),([2,3,4,60],[2,3,4]),([4,5],[4]),([4,5],[4])]
abbrev A61(N:Nat)(p:List Nat):=AW (Z1 (Z8C N)) Try.f61 ZyE p
theorem ZCB(N:Nat)(p q:Edit)(Q:QT)(h:∀ y_1,y_1=p→∀ y_2,y_2=q→∀ y_3,y_3=(p.new)→∀ y_4,y_4=(q.old)→∀ y_5,y_5=(Zy (Zv y_1))→(((p.kind==0)=true→(Q .ret (L2 [(4,.ptr (.loc 4) 0),(5,.c (.bool true))] [(.loc 4,(enc .edit q))])))∧((p.kind==0)=false→(((q.kind==0)=true→(Q .ret (L2 [(4,.ptr (.loc 4) 0),(5,.c (.bool true))] [(.loc 4,(enc .edit p))])))∧((q.kind==0)=false→(((p.kind==1)=true→(Z25 (y_2,y_3,()))∧(Q .ret (L2 [(4,.ptr (.loc 4) 0),(5,.c (.bool ((doE true y_2 y_3).isSome)))] [(.loc 4,([ci 1]++enc .tree p.old++enc .tree (YG (doE true y_2 y_3))++[.nils,.nils,ci 0,.nils]))])))∧((p.kind==1)=false→(((q.kind==1)=true→(ZaX (y_1,()))∧(Z25 (y_5,y_4,()))∧(Q .ret (L2 [(4,.ptr (.loc 4) 0),(5,.c (.bool ((doE true y_5 y_4).isSome)))] [(.loc 4,([ci 1]++enc .tree (YG (doE true y_5 y_4))++enc .tree q.new++[.nils,.nils,ci 0,.nils]))])))∧((q.kind==1)=false→(((p.kind !=q.kind)=true→(Q .ret (L2 [(4,.ptr (.loc 4) 0),(5,.c (.bool false))] [(.loc 4,zc1)])))∧((p.kind !=q.kind)=false→(((p.kind==2)=true→(Z68 (y_1,y_2,()))∧(Zee (y_1,y_2,()) < N)∧(Q .ret (L2 [(4,.ptr (.loc 4) 0),(5,.c (.bool ((Zf3 y_1 y_2).2)))] [(.loc 4,(enc .edit ((Zf3 y_1 y_2).1)))])))∧((p.kind==2)=false→(Z67 (y_1,y_2,()))∧(Zed (y_1,y_2,()) < N)∧(Q .ret (L2 [(4,.ptr (.loc 4) 0),(5,.c (.bool ((Zf4 y_1 y_2).2)))] [(.loc 4,(enc .edit ((Zf4 y_1 y_2).1)))]))))))))))))))):
  A61 N [] (L2 [(0,.agg (enc .edit p)),(1,.agg (enc .edit q))] []) Q:=
 Eq.mpr (by kernel_rfl) (h _ (Z9 _) _ (Z9 _) _ (Zb _) _ (Zb _) _ (Z9 _))
def ZA6(N:Nat)(p q:Edit):Prop:=AW (Z1 (Z8C N)) Try.f61 ZyE [] (Zk (Z8I.can (p,q,())) []) (EQ Try.f61 (Z9j (p,q,())) [])
abbrev ZC7:Prop:=∀ (N:Nat) (p:Edit) (q:Edit) (_:Unit),Z7X (p,q,())→Zj3 (p,q,()) < N+1→ZA6 N p q
def Zhw(N:Nat):List (FuncId × Fs U):=(61,fs Z8I (fun a=> [Z7X a,Zj3 a < N]) Z9j) ::(101,fs Z5v (fun a=> [Z68 a,Zee a < N]) Z58) ::(102,fs Z5u (fun a=> [Z67 a,Zed a < N]) Z57) ::(147,fs Z5t (fun a=> [Z64 a,Zec a < N]) Z53) ::[(99,Z5H),(100,Z50),(141,Z4Z),(142,Z4Y),(143,Z4X),(25,Z8a),(145,Z4V),(144,Z4W),(146,Z4U),(137,Z0Y)]
def ZmS:Zj U:=fun i=> match i with
 | 0=> ([(2,[]),(3,[]),(4,[])],[(.loc 2,[]),(.loc 3,[]),(.loc 4,[])])
 | 1=> ([(2,[]),(3,[]),(4,[]),(6,[])],[(.loc 2,[]),(.loc 3,[]),(.loc 4,[]),(.loc 6,[])])
 | 2=> ([(2,[]),(3,[]),(4,[]),(6,[]),(7,[]),(8,[])],[(.loc 2,[]),(.loc 3,[]),(.loc 4,[]),(.loc 6,[])])
 | 3=> ([(2,[]),(3,[]),(4,[]),(6,[]),(7,[]),(8,[]),(9,[])],[(.loc 2,[]),(.loc 3,[]),(.loc 4,[]),(.loc 6,[.any,.any,.any,.any,.any,.any,.any,.own .wedit])])
 | 4=> ([(2,[]),(3,[]),(4,[]),(6,[]),(7,[]),(8,[]),(9,[]),(29,[])],[(.loc 2,[]),(.loc 3,[]),(.loc 4,[]),(.loc 6,[])])
 | 5=> ([(2,[]),(3,[]),(4,[]),(6,[]),(7,[]),(8,[]),(9,[])],[(.loc 2,[]),(.loc 3,[]),(.loc 4,[]),(.loc 6,[.any,.any,.any,.any,.any,.any,.any,.own .wedit])])
 | 6=> ([(2,[]),(3,[]),(4,[]),(6,[]),(7,[]),(8,[]),(9,[]),(10,[]),(11,[])],[(.loc 2,[]),(.loc 3,[]),(.loc 4,[]),(.loc 6,[]),(.loc 10,[])])
 | 7=> ([(2,[]),(3,[]),(4,[]),(6,[]),(7,[]),(8,[]),(9,[]),(10,[]),(11,[]),(12,[]),(13,[])],[(.loc 2,[]),(.loc 3,[]),(.loc 4,[]),(.loc 6,[]),(.loc 10,[]),(.loc 12,[])])
 | 8=> ([(2,[]),(3,[]),(4,[]),(6,[]),(7,[]),(8,[]),(9,[]),(14,[]),(15,[])],[(.loc 2,[]),(.loc 3,[]),(.loc 4,[]),(.loc 6,[]),(.loc 14,[])])
 | 9=> ([(2,[]),(3,[]),(4,[]),(6,[]),(7,[]),(8,[]),(9,[]),(14,[]),(59,[])],[(.loc 2,[]),(.loc 3,[]),(.loc 4,[]),(.loc 6,[]),(.loc 14,[])])
 | 10=> ([(4,[]),(5,[])],[(.loc 4,[])])
 | 11=> ([(2,[]),(3,[]),(4,[]),(6,[]),(7,[]),(8,[]),(9,[])],[(.loc 2,[]),(.loc 3,[]),(.loc 4,[]),(.loc 6,[])])
 | 12=> ([(2,[]),(3,[]),(4,[]),(6,[]),(7,[]),(8,[]),(9,[]),(10,[]),(11,[]),(12,[]),(67,[])],[(.loc 2,[]),(.loc 3,[]),(.loc 4,[]),(.loc 6,[]),(.loc 10,[]),(.loc 12,[])])
 | 13=> ([(2,[]),(3,[]),(4,[]),(6,[]),(7,[]),(8,[]),(9,[])],[(.loc 2,[]),(.loc 3,[]),(.loc 4,[]),(.loc 6,[])])
 | 14=> ([(2,[]),(3,[]),(4,[]),(6,[]),(7,[]),(8,[]),(9,[]),(10,[]),(12,[]),(76,[])],[(.loc 2,[]),(.loc 3,[]),(.loc 4,[]),(.loc 6,[]),(.loc 10,[]),(.loc 12,[])])
 | 15=> ([(2,[]),(3,[]),(4,[]),(6,[]),(7,[]),(8,[]),(9,[])],[(.loc 2,[]),(.loc 3,[]),(.loc 4,[]),(.loc 6,[])])
 | 16=> ([(2,[]),(3,[]),(4,[]),(6,[]),(8,[]),(16,[])],[(.loc 2,[]),(.loc 3,[]),(.loc 4,[]),(.loc 6,[.any,.any,.any,.any,.any,.any,.any,.any,.own .kid])])
 | 17=> ([(2,[]),(3,[]),(4,[]),(6,[]),(8,[]),(16,[]),(88,[])],[(.loc 2,[]),(.loc 3,[]),(.loc 4,[]),(.loc 6,[])])
 | 18=> ([(2,[]),(3,[]),(4,[]),(6,[]),(8,[]),(16,[])],[(.loc 2,[]),(.loc 3,[]),(.loc 4,[]),(.loc 6,[.any,.any,.any,.any,.any,.any,.any,.any,.own .kid])])
 | 19=> ([(2,[]),(3,[]),(4,[]),(6,[]),(8,[]),(16,[]),(17,[]),(18,[])],[(.loc 2,[]),(.loc 3,[]),(.loc 4,[]),(.loc 6,[]),(.loc 17,[])])
 | 20=> ([(2,[]),(3,[]),(4,[]),(6,[]),(8,[]),(16,[]),(17,[]),(110,[])],[(.loc 2,[]),(.loc 3,[]),(.loc 4,[]),(.loc 6,[]),(.loc 17,[])])
 | 21=> ([(4,[]),(5,[])],[(.loc 4,[])])
 | 22=> ([(2,[]),(3,[]),(4,[]),(6,[]),(8,[]),(16,[])],[(.loc 2,[]),(.loc 3,[]),(.loc 4,[]),(.loc 6,[])])
 | 23=> ([(4,[]),(5,[])],[(.loc 4,[])])
 | _=> ([],[])
def Z1z(p q:Edit)(x9:Int)(ml6_7:List WEdit):LSt U:=(L2 [(2,.ptr (.loc 2) 0),(3,.ptr (.loc 3) 0),(4,.ptr (.loc 4) 0),(6,.ptr (.loc 6) 0),(7,.c (sU .int (Yd ((Edit.mk p.kind (Tree.mk p.old.kind p.old.words p.old.kids) (Tree.mk p.new.kind p.new.words p.new.kids) p.words p.kids p.list p.ops).words.map WEdit.at_) ((Edit.mk q.kind (Tree.mk q.old.kind q.old.words q.old.kids) (Tree.mk q.new.kind q.new.words q.new.kids) q.words q.kids q.list q.ops).words.map WEdit.at_)) .unk)),(8,.c (sU .int (Yd ((Edit.mk p.kind (Tree.mk p.old.kind p.old.words p.old.kids) (Tree.mk p.new.kind p.new.words p.new.kids) p.words p.kids p.list p.ops).kids.map KidOf.at_) ((Edit.mk q.kind (Tree.mk q.old.kind q.old.words q.old.kids) (Tree.mk q.new.kind q.new.words q.new.kids) q.words q.kids q.list q.ops).kids.map KidOf.at_)) .unk)),(9,.c (ci x9))] [(.loc 2,(enc .edit p)),(.loc 3,(enc .edit q)),(.loc 4,zc1),(.loc 6,[ci 2,ci 0,.nils,.nils,ci 0,.nils,.nils,sU .wedit ml6_7 (.own (.l 6 7)),.nils,ci 0,.nils])])
def Z4w(p q:Edit)(x9:Int)(ml6_7_a:List WEdit):LSt U:=(L2 [(2,.ptr (.loc 2) 0),(3,.ptr (.loc 3) 0),(4,.ptr (.loc 4) 0),(6,.ptr (.loc 6) 0),(7,.c (sU .int (Yd ((Edit.mk p.kind (Tree.mk p.old.kind p.old.words p.old.kids) (Tree.mk p.new.kind p.new.words p.new.kids) p.words p.kids p.list p.ops).words.map WEdit.at_) ((Edit.mk q.kind (Tree.mk q.old.kind q.old.words q.old.kids) (Tree.mk q.new.kind q.new.words q.new.kids) q.words q.kids q.list q.ops).words.map WEdit.at_)) .unk)),(8,.c (sU .int (Yd ((Edit.mk p.kind (Tree.mk p.old.kind p.old.words p.old.kids) (Tree.mk p.new.kind p.new.words p.new.kids) p.words p.kids p.list p.ops).kids.map KidOf.at_) ((Edit.mk q.kind (Tree.mk q.old.kind q.old.words q.old.kids) (Tree.mk q.new.kind q.new.words q.new.kids) q.words q.kids q.list q.ops).kids.map KidOf.at_)) .unk)),(9,.c (ci x9))] [(.loc 2,(enc .edit p)),(.loc 3,(enc .edit q)),(.loc 4,zc1),(.loc 6,[ci 2,ci 0,.nils,.nils,ci 0,.nils,.nils,sU .wedit ml6_7_a (.own (.l 6 7)),.nils,ci 0,.nils])])
def Z7D(p q:Edit)(ml6_7:List WEdit)(x16_b:Int)(ml6_8_b:List Kid):LSt U:=(L2 [(2,.ptr (.loc 2) 0),(3,.ptr (.loc 3) 0),(4,.ptr (.loc 4) 0),(6,.ptr (.loc 6) 0),(8,.c (sU .int (Yd ((Edit.mk p.kind (Tree.mk p.old.kind p.old.words p.old.kids) (Tree.mk p.new.kind p.new.words p.new.kids) p.words p.kids p.list p.ops).kids.map KidOf.at_) ((Edit.mk q.kind (Tree.mk q.old.kind q.old.words q.old.kids) (Tree.mk q.new.kind q.new.words q.new.kids) q.words q.kids q.list q.ops).kids.map KidOf.at_)) .unk)),(16,.c (ci x16_b))] [(.loc 2,(enc .edit p)),(.loc 3,(enc .edit q)),(.loc 4,zc1),(.loc 6,[ci 2,ci 0,.nils,.nils,ci 0,.nils,.nils,sU .wedit ml6_7 (.own (.l 6 7)),sU .kid ml6_8_b (.own (.l 6 8)),ci 0,.nils])])
abbrev Zff(N:Nat)(p:List Nat):=AW (Z1 (Zhw N)) Try.f101 ZmS p
abbrev Zls(N:Nat)(p:List Nat):=SW (Z1 (Zhw N)) Try.f101 ZmS p
theorem ZBn(N:Nat)(p q:Edit)(Q:QT)(h:((Zkn ((Edit.mk p.kind (Tree.mk p.old.kind p.old.words p.old.kids) (Tree.mk p.new.kind p.new.words p.new.kids) p.words p.kids p.list p.ops),(Edit.mk q.kind (Tree.mk q.old.kind q.old.words q.old.kids) (Tree.mk q.new.kind q.new.words q.new.kids) q.words q.kids q.list q.ops),()))∧(Ze (Zff N [1,1,1,0,1,0,0]) (Z1z p q 0 []) (xB 0 (Zls N [1,1,1,1] Q))))):
  Zff N [] (L2 [(0,.agg (enc .edit p)),(1,.agg (enc .edit q))] []) Q:=
 Eq.mpr (by kernel_rfl) h
theorem Zqx(N:Nat)(p q:Edit)(x9:Int)(ml6_7:List WEdit)(N0:NT)(Q:QT)(h:∀ y_1,y_1=p→∀ y_2,y_2=q→∀ y_3,y_3=(Yd (y_1.words.map WEdit.at_) (y_2.words.map WEdit.at_))→∀ y_4,y_4=(y_3.getD x9.toNat (0:Int))→∀ y_5,y_5=((Z0V p.words y_4).getD (WEdit.mk 0 0 0 0))→∀ y_6,y_6=((Z0V q.words y_4).getD (WEdit.mk 0 0 0 0))→∀ y_7,y_7=((J5 y_5 y_6).1)→let z3:= !((Z0V p.words y_4).isSome);let z2:= !((Z0V q.words y_4).isSome);let z1:=decide (x9 < (y_3.length:Int));let z0:=xT N0 (xB 0 (Zls N [1,1,1,1] Q));((z1=true→((0:Int)≤x9∧x9 < (y_3.length:Int))∧(ZgZ (p.words,y_4,()))∧(((0:Int)≤x9∧x9 < (y_3.length:Int))∧(ZgZ (q.words,y_4,()))∧((z2=true→((ml6_7.length+([y_5]).length)*32≤140737488355328)∧(Zff N [1,1,1,0,1,0,0,1,1] (Z4w p q x9 (ml6_7++([y_5]))) z0))∧(z2=false→((z3=true→((ml6_7.length+([y_6]).length)*32≤140737488355328)∧(Zff N [1,1,1,0,1,0,0,1,1] (Z4w p q x9 (ml6_7++([y_6]))) z0))∧(z3=false→(Zrx (y_5,y_6,()))∧(((!((J5 y_5 y_6).2))=true→(Q .ret (L2 [(4,.ptr (.loc 4) 0),(5,.c (.bool false))] [(.loc 4,zc1)])))∧((!((J5 y_5 y_6).2))=false→((ml6_7.length+([y_7]).length)*32≤140737488355328)∧(Zff N [1,1,1,0,1,0,0,1,1] (Z4w p q x9 (ml6_7++([y_7]))) z0)))))))))∧(z1=false→(Ze (Zff N [1,1,1,1,0,1,0,0]) (Z7D p q ml6_7 0 []) (xB 3 (Zls N [1,1,1,1,1] Q)))))):
  Zff N [1,1,1,0,1,0,0] (Z1z p q x9 ml6_7) (xT N0 (xB 0 (Zls N [1,1,1,1] Q))):=
 Eq.mpr (by kernel_rfl) (h _ (Z9 _) _ (Z9 _) _ rfl _ rfl _ (Z1l _) _ (Z1l _) _ (Z1l _))
theorem Zqy(N:Nat)(p q:Edit)(x9:Int)(ml6_7_a:List WEdit)(N0:NT)(Q:QT)(h:(InR (x9+1))∧(N0 (Z1z p q (x9+1) ml6_7_a))):
  Zff N [1,1,1,0,1,0,0,1,1] (Z4w p q x9 ml6_7_a) (xT N0 (xB 0 (Zls N [1,1,1,1] Q))):=
 Eq.mpr (by kernel_rfl) h
theorem Zqw(N:Nat)(p q:Edit)(ml6_7:List WEdit)(x16_b:Int)(ml6_8_b:List Kid)(N2:NT)(Q:QT)(h:∀ y_1,y_1=p→∀ y_2,y_2=q→∀ y_3,y_3=(Yd (y_1.kids.map KidOf.at_) (y_2.kids.map KidOf.at_))→∀ y_4,y_4=(y_3.getD x16_b.toNat (0:Int))→∀ y_5,y_5=(Ju p.kids y_4)→∀ y_6,y_6=(Ju q.kids y_4)→∀ y_7,y_7=((J2 y_5 y_6).1)→let z0:=decide (x16_b < (y_3.length:Int));((z0=true→((0:Int)≤x16_b∧x16_b < (y_3.length:Int))∧(ZaT (p.kids,y_4,()))∧((0:Int)≤x16_b∧x16_b < (y_3.length:Int))∧(ZaT (q.kids,y_4,()))∧(Z7X (y_5,y_6,()))∧(Zj3 (y_5,y_6,()) < N)∧(((!((J2 y_5 y_6).2))=true→(Q .ret (L2 [(4,.ptr (.loc 4) 0),(5,.c (.bool false))] [(.loc 4,zc1)])))∧((!((J2 y_5 y_6).2))=false→((0:Int)≤x16_b∧x16_b < (y_3.length:Int))∧((ml6_8_b.length+([(KidOf.mk y_4 y_7)]).length)*208≤140737488355328)∧((InR (x16_b+1))∧(N2 (Z7D p q ml6_7 (x16_b+1) (ml6_8_b++([(KidOf.mk y_4 y_7)]))))))))∧(z0=false→(Q .ret (L2 [(4,.ptr (.loc 4) 0),(5,.c (.bool true))] [(.loc 4,[ci 2,ci 0,.nils,.nils,ci 0,.nils,.nils,sU .wedit ml6_7 (.own (.l 4 7)),sU .kid ml6_8_b (.own (.l 4 8)),ci 0,.nils])]))))):
  Zff N [1,1,1,1,0,1,0,0] (Z7D p q ml6_7 x16_b ml6_8_b) (xT N2 (xB 3 (Zls N [1,1,1,1,1] Q))):=
 Eq.mpr (by kernel_rfl) (h _ (Z9 _) _ (Z9 _) _ rfl _ rfl _ (Z9 _) _ (Z9 _) _ (Z9 _))
def ZwI(N:Nat)(p q:Edit):Prop:=AW (Z1 (Zhw N)) Try.f101 ZmS [] (Zk (Z5v.can (p,q,())) []) (EQ Try.f101 (Z58 (p,q,())) [])
abbrev ZxA:Prop:=∀ (N:Nat) (p:Edit) (q:Edit) (_:Unit),Z68 (p,q,())→Zee (p,q,()) < N+1→ZwI N p q
def Zhv(N:Nat):List (FuncId × Fs U):=(61,fs Z8I (fun a=> [Z7X a,Zj3 a < N]) Z9j) ::(101,fs Z5v (fun a=> [Z68 a,Zee a < N]) Z58) ::(102,fs Z5u (fun a=> [Z67 a,Zed a < N]) Z57) ::(147,fs Z5t (fun a=> [Z64 a,Zec a < N]) Z53) ::[(99,Z5H),(100,Z50),(141,Z4Z),(142,Z4Y),(143,Z4X),(25,Z8a),(145,Z4V),(144,Z4W),(146,Z4U),(137,Z0Y)]
def ZmR:Zj U:=fun i=> match i with
 | 0=> ([(2,[]),(3,[]),(4,[])],[(.loc 2,[]),(.loc 3,[]),(.loc 4,[])])
 | 1=> ([(2,[]),(3,[]),(4,[]),(6,[]),(7,[])],[(.loc 2,[]),(.loc 3,[]),(.loc 4,[])])
 | 2=> ([(2,[]),(4,[]),(6,[]),(30,[])],[(.loc 2,[]),(.loc 4,[])])
 | 3=> ([(4,[]),(5,[])],[(.loc 4,[])])
 | 4=> ([(4,[]),(6,[]),(8,[])],[(.loc 4,[]),(.loc 8,[])])
 | 5=> ([(4,[]),(6,[]),(8,[]),(9,[])],[(.loc 4,[]),(.loc 8,[.any,.any,.any,.any,.any,.any,.any,.any,.any,.any,.own .op])])
 | 6=> ([(4,[]),(6,[]),(8,[]),(9,[]),(38,[])],[(.loc 4,[]),(.loc 8,[])])
 | 7=> ([(4,[]),(6,[]),(8,[]),(9,[])],[(.loc 4,[]),(.loc 8,[.any,.any,.any,.any,.any,.any,.any,.any,.any,.any,.own .op])])
 | 8=> ([(4,[]),(6,[]),(8,[]),(9,[]),(45,[])],[(.loc 4,[]),(.loc 8,[])])
 | 9=> ([(4,[]),(6,[]),(8,[]),(9,[]),(10,[]),(11,[])],[(.loc 4,[]),(.loc 8,[])])
 | 10=> ([(4,[]),(6,[]),(8,[]),(9,[]),(10,[]),(61,[])],[(.loc 4,[]),(.loc 8,[])])
 | 11=> ([(4,[]),(5,[])],[(.loc 4,[])])
 | 12=> ([(4,[]),(6,[]),(8,[]),(9,[])],[(.loc 4,[]),(.loc 8,[])])
 | 13=> ([(4,[]),(6,[]),(8,[]),(9,[]),(45,[]),(68,[])],[(.loc 4,[]),(.loc 8,[])])
 | 14=> ([(4,[]),(6,[]),(8,[]),(9,[])],[(.loc 4,[]),(.loc 8,[])])
 | 15=> ([(4,[]),(6,[]),(8,[]),(9,[]),(81,[])],[(.loc 4,[]),(.loc 8,[])])
 | 16=> ([(4,[]),(6,[]),(8,[]),(9,[])],[(.loc 4,[]),(.loc 8,[])])
 | 17=> ([(4,[]),(5,[])],[(.loc 4,[])])
 | _=> ([],[])
def Z1y(p q:Edit)(x9:Int)(ml8_10:List Op):LSt U:=(L2 [(4,.ptr (.loc 4) 0),(6,.c (sU .pair ((ZX (ZE 0 1 p.ops) (ZE 0 2 q.ops) []).1) .unk)),(8,.ptr (.loc 8) 0),(9,.c (ci x9))] [(.loc 4,zc1),(.loc 8,[ci 3,ci 0,.nils,.nils,ci 0,.nils,.nils,.nils,.nils,ci p.list,sU .op ml8_10 (.own (.l 8 10))])])
def Z4v(p q:Edit)(x9:Int)(ml8_10_a:List Op):LSt U:=(L2 [(4,.ptr (.loc 4) 0),(6,.c (sU .pair ((ZX (ZE 0 1 p.ops) (ZE 0 2 q.ops) []).1) .unk)),(8,.ptr (.loc 8) 0),(9,.c (ci x9))] [(.loc 4,zc1),(.loc 8,[ci 3,ci 0,.nils,.nils,ci 0,.nils,.nils,.nils,.nils,ci p.list,sU .op ml8_10_a (.own (.l 8 10))])])
abbrev ZjP(N:Nat)(p:List Nat):=AW (Z1 (Zhv N)) Try.f102 ZmR p
abbrev ZtD(N:Nat)(p:List Nat):=SW (Z1 (Zhv N)) Try.f102 ZmR p
theorem ZBm(N:Nat)(p q:Edit)(Q:QT)(h:let z0:= !((ZX (ZE 0 1 p.ops) (ZE 0 2 q.ops) []).2);let z1:=bif z0 then true else (p.list !=q.list);((ZdW (p.ops,1,()))∧(ZdW (q.ops,2,()))∧(ZgY ((ZE 0 1 p.ops),(ZE 0 2 q.ops),()))∧((Tr ((!z0)=true))∧(Tr ((!z0)=true))∧(Tr ((!z0)=true))∧(Tr ((!z0)=true))∧(z0=false→(!z0)=true)∧((z1=true→(Q .ret (L2 [(4,.ptr (.loc 4) 0),(5,.c (.bool false))] [(.loc 4,zc1)])))∧(z1=false→(Ze (ZjP N [1,1,1,1,0,1,0,0]) (Z1y p q 0 []) (xB 0 (ZtD N [1,1,1,1,1] Q)))))))):
  ZjP N [] (L2 [(0,.agg (enc .edit p)),(1,.agg (enc .edit q))] []) Q:=
 Eq.mpr (by kernel_rfl) h
theorem Zqu(N:Nat)(p q:Edit)(x9:Int)(ml8_10:List Op)(N0:NT)(Q:QT)(h:∀ y_1,y_1=(ZX (ZE 0 1 p.ops) (ZE 0 2 q.ops) [])→∀ y_2,y_2=(List.getD (y_1.1) x9.toNat (APair.mk 0 AUnit.nil AUnit.nil))→∀ y_3,y_3=(y_2.p)→∀ y_4,y_4=(y_2.q)→∀ y_5,y_5=(opU y_3)→∀ y_6,y_6=(opU y_4)→let z2:=decide (x9 < ((y_1.1).length:Int));let z1:=JJ J2 y_3 y_4;let z0:=xT N0 (xB 0 (ZtD N [1,1,1,1,1] Q));((z2=true→((0:Int)≤x9∧x9 < ((y_1.1).length:Int))∧(((y_2.of==1)=true→((0:Int)≤x9∧x9 < ((y_1.1).length:Int))∧(ZaS (y_3,()))∧((ml8_10.length+([y_5]).length)*240≤140737488355328)∧(ZjP N [1,1,1,1,0,1,0,0,1,1] (Z4v p q x9 (ml8_10++([y_5]))) z0))∧((y_2.of==1)=false→(((y_2.of==2)=true→((0:Int)≤x9∧x9 < ((y_1.1).length:Int))∧(ZaS (y_4,()))∧((ml8_10.length+([y_6]).length)*240≤140737488355328)∧(ZjP N [1,1,1,1,0,1,0,0,1,1] (Z4v p q x9 (ml8_10++([y_6]))) z0))∧((y_2.of==2)=false→((0:Int)≤x9∧x9 < ((y_1.1).length:Int))∧((0:Int)≤x9∧x9 < ((y_1.1).length:Int))∧(Z64 (y_3,y_4,()))∧(Zec (y_3,y_4,()) < N)∧(((!(z1.2))=true→(Q .ret (L2 [(4,.ptr (.loc 4) 0),(5,.c (.bool false))] [(.loc 4,zc1)])))∧((!(z1.2))=false→((ml8_10.length+(z1.1).length)*240≤140737488355328)∧(ZjP N [1,1,1,1,0,1,0,0,1,1] (Z4v p q x9 (ml8_10++(z1.1))) z0))))))))∧(z2=false→(Q .ret (L2 [(4,.ptr (.loc 4) 0),(5,.c (.bool true))] [(.loc 4,[ci 3,ci 0,.nils,.nils,ci 0,.nils,.nils,.nils,.nils,ci p.list,sU .op ml8_10 (.own (.l 4 10))])]))))):
  ZjP N [1,1,1,1,0,1,0,0] (Z1y p q x9 ml8_10) (xT N0 (xB 0 (ZtD N [1,1,1,1,1] Q))):=
 Eq.mpr (by kernel_rfl) (h _ rfl _ rfl _ (Z0L _) _ (Z0L _) _ (J6 _) _ (J6 _))
theorem Zqv(N:Nat)(p q:Edit)(x9:Int)(ml8_10_a:List Op)(N0:NT)(Q:QT)(h:(InR (x9+1))∧(N0 (Z1y p q (x9+1) ml8_10_a))):
  ZjP N [1,1,1,1,0,1,0,0,1,1] (Z4v p q x9 ml8_10_a) (xT N0 (xB 0 (ZtD N [1,1,1,1,1] Q))):=
 Eq.mpr (by kernel_rfl) h
def ZwH(N:Nat)(p q:Edit):Prop:=AW (Z1 (Zhv N)) Try.f102 ZmR [] (Zk (Z5u.can (p,q,())) []) (EQ Try.f102 (Z57 (p,q,())) [])
abbrev Zxz:Prop:=∀ (N:Nat) (p:Edit) (q:Edit) (_:Unit),Z67 (p,q,())→Zed (p,q,()) < N+1→ZwH N p q
def Zn7(N:Nat):List (FuncId × Fs U):=(61,fs Z8I (fun a=> [Z7X a,Zj3 a < N]) Z9j) ::(101,fs Z5v (fun a=> [Z68 a,Zee a < N]) Z58) ::(102,fs Z5u (fun a=> [Z67 a,Zed a < N]) Z57) ::(147,fs Z5t (fun a=> [Z64 a,Zec a < N]) Z53) ::[(99,Z5H),(100,Z50),(141,Z4Z),(142,Z4Y),(143,Z4X),(25,Z8a),(145,Z4V),(144,Z4W),(146,Z4U),(137,Z0Y)]
def Zs9:Zj U:=lvl [([2,3],[2,3]),([2,3,14],[2,3]),([4,5],[]),([2,3,20],[2,3]),([4,5],[]),([2,3,31],[2,3]),([4,5],[]),([2,3,39],[2,3]),([6,7],[6]),([4,5],[]),([2,3,55],[2,3]),([8,9],[8]),([4,5],[]),([10,11],[10]),([4,5],[])]
abbrev ZDf(N:Nat)(p:List Nat):=AW (Z1 (Zn7 N)) Try.f147 Zs9 p
theorem ZAR(N:Nat)(p q:AUnit)(Q:QT)(h:∀ y_1,y_1=p→∀ y_2,y_2=q→∀ y_3,y_3=(p.e)→∀ y_4,y_4=(q.e)→∀ y_5,y_5=(p.t)→∀ y_6,y_6=(q.t)→∀ y_7,y_7=(opU y_1)→∀ y_8,y_8=(opU y_2)→∀ y_9,y_9=((J2 y_3 y_4).1)→∀ y_10,y_10=(Zy (Zv y_3))→∀ y_11,y_11=(YG (doE true y_4 y_5))→∀ y_12,y_12=(YG (doE true y_10 y_6))→let z1:=bif (p.kind==2) then (q.kind==1) else false;let z0:=Edit.mk 0 (Tree.mk 0 [] []) (Tree.mk 0 [] []) [] [] 0 [];(((q.kind==0)=true→(ZaS (y_1,()))∧(Q .ret (L2 [(4,.c (sU .op ([y_7]) .full)),(5,.c (.bool true))] [])))∧((q.kind==0)=false→(((p.kind==0)=true→(ZaS (y_2,()))∧(Q .ret (L2 [(4,.c (sU .op ([y_8]) .full)),(5,.c (.bool true))] [])))∧((p.kind==0)=false→(Tr ((p.kind==2)=true))∧(Tr ((p.kind==2)=true))∧(Tr ((p.kind==2)=true))∧((z1=true→(Z65 (y_5,y_6,()))∧(Q .ret (L2 [(4,.c (.nils)),(5,.c (.bool (YF (Z4 y_5) (Z4 y_6))))] [])))∧(z1=false→(((p.kind==2)=true→(Z25 (y_4,y_5,()))∧(Q .ret (L2 [(4,.c (sU .op ([(OpOf.mk 2 0 ([y_11]) z0)]) .full)),(5,.c (.bool ((doE true y_4 y_5).isSome)))] [])))∧((p.kind==2)=false→(((q.kind==1)=true→(ZaX (y_3,()))∧(Z25 (y_10,y_6,()))∧(Q .ret (L2 [(4,.c (sU .op ([(OpOf.mk 1 0 ([y_12]) z0)]) .full)),(5,.c (.bool ((doE true y_10 y_6).isSome)))] [])))∧((q.kind==1)=false→(Z7X (y_3,y_4,()))∧(Zj3 (y_3,y_4,()) < N)∧(Q .ret (L2 [(4,.c (sU .op ([(OpOf.mk 3 0 [] y_9)]) .full)),(5,.c (.bool ((J2 y_3 y_4).2)))] []))))))))))))):
  ZDf N [] (L2 [(0,.agg (enc .unit p)),(1,.agg (enc .unit q))] []) Q:=
 Eq.mpr (by kernel_rfl) (h _ (Z0L _) _ (Z0L _) _ (Z9 _) _ (Z9 _) _ (Zb _) _ (Zb _) _ (J6 _) _ (J6 _) _ (Z9 _) _ (Z9 _) _ (Zb _) _ (Zb _))
def Zwc(N:Nat)(p q:AUnit):Prop:=AW (Z1 (Zn7 N)) Try.f147 Zs9 [] (Zk (Z5t.can (p,q,())) []) (EQ Try.f147 (Z53 (p,q,())) [])
abbrev Zxq:Prop:=∀ (N:Nat) (p:AUnit) (q:AUnit) (_:Unit),Z64 (p,q,())→Zec (p,q,()) < N+1→Zwc N p q
theorem ZuH(c99:CT 99 Z5H)(Zzn:CT 100 Z50)(Zzb:CT 141 Z4Z)(Zza:CT 142 Z4Y)(Zz9:CT 143 Z4X)(c25:CT 25 Z8a)(Zz7:CT 145 Z4V)(Zz8:CT 144 Z4W)(Zz6:CT 146 Z4U)(Zpn:CT 137 Z0Y)(b61:ZC7)(Zzz:ZxA)(Zzy:Zxz)(Zzq:Zxq):
  CT 61 ZaB∧CT 101 ZlV∧CT 102 ZlU∧CT 147 ZlM:=by
 have h61 : ∃ fn, Try.prog.funcs[(61 : FuncId)]? = some fn ∧ fn.body.isSome = true ∧ (fn.name == "runtime.NumGoroutine") = false := ⟨Try.f61, Try.func61, rfl, rfl⟩
 have h101 : ∃ fn, Try.prog.funcs[(101 : FuncId)]? = some fn ∧ fn.body.isSome = true ∧ (fn.name == "runtime.NumGoroutine") = false := ⟨Try.f101, Try.func101, rfl, rfl⟩
 have h102 : ∃ fn, Try.prog.funcs[(102 : FuncId)]? = some fn ∧ fn.body.isSome = true ∧ (fn.name == "runtime.NumGoroutine") = false := ⟨Try.f102, Try.func102, rfl, rfl⟩
 have h147 : ∃ fn, Try.prog.funcs[(147 : FuncId)]? = some fn ∧ fn.body.isSome = true ∧ (fn.name == "runtime.NumGoroutine") = false := ⟨Try.f147, Try.func147, rfl, rfl⟩
 have key:∀ N,CT 61 (fs Z8I (fun a=> [Z7X a,Zj3 a < N]) Z9j)∧CT 101 (fs Z5v (fun a=> [Z68 a,Zee a < N]) Z58)∧CT 102 (fs Z5u (fun a=> [Z67 a,Zed a < N]) Z57)∧CT 147 (fs Z5t (fun a=> [Z64 a,Zec a < N]) Z53):=by
  intro N
  induction N with
  | zero=> exact ⟨J8 h61,J8 h101,J8 h102,J8 h147⟩
  | succ N ih=>
   have kn:=Z0s (l:=Z8C N) ⟨ih.1,ih.2.1,ih.2.2.1,ih.2.2.2,c99,Zzn,Zzb,Zza,Zz9,c25,Zz7,Zz8,Zz6,Zpn,trivial⟩
   exact ⟨ZC (Γ:=Z1 (Z8C N)) Zm rfl kn ZyE Try.func61 rfl rfl (fun a=> by show 2≤_;decide) (fun ⟨p,q,_⟩ h=> b61 N p q () h.1 h.2.1),
    ZC (Γ:=Z1 (Z8C N)) Zm rfl kn ZmS Try.func101 rfl rfl (fun a=> by show 2≤_;decide) (fun ⟨p,q,_⟩ h=> Zzz N p q () h.1 h.2.1),
    ZC (Γ:=Z1 (Z8C N)) Zm rfl kn ZmR Try.func102 rfl rfl (fun a=> by show 2≤_;decide) (fun ⟨p,q,_⟩ h=> Zzy N p q () h.1 h.2.1),
    ZC (Γ:=Z1 (Z8C N)) Zm rfl kn Zs9 Try.func147 rfl rfl (fun a=> by show 2≤_;decide) (fun ⟨p,q,_⟩ h=> Zzq N p q () h.1 h.2.1)⟩
 exact ⟨J9 h61 fun N=> (key N).1,J9 h101 fun N=> (key N).2.1,J9 h102 fun N=> (key N).2.2.1,J9 h147 fun N=> (key N).2.2.2⟩
end
end Go.AM.Ytpjenobkibfpcaa
