import Derived.Test.YtnfbomhidainjaaGreatOL5
import Derived.Test.YtnfbomhidainjaaGreatTKL21
import Derived.Test.YtnfbomhidainjaaGreatTKL21a
import Derived.Test.YtnfbomhidainjaaGreatTCL25k
set_option linter.unusedSimpArgs false
set_option linter.unusedVariables false
namespace Go.AM.YtnfbomhidainjaaGreat
open Go.AM Go.Proofs
theorem ZDR{list:Int}(hl:2<=list/\list<=9){mk:Tree->Tree->Op}{old now:List Tree}(ho:∀t∈old,KidQ list t)(hn:∀t∈now,KidQ list t)(h:∀x∈old,∀y∈now,0<JE x y->ToL list [mk x y] [x] [y]):ToL list (Z3k mk old now) old now:=by
 have hp:=Zal old now;have:=Zix hl (mk:=mk) ho hn _ 0 0 V0 V0 hp.2 λp hq=>by have d:=hp.1 p hq;exact h _ (Ze (by have:=d.1;omega) _) _ (Ze (by have:=d.2.1;omega) _) d.2.2
 exact this
theorem ZhY:∀{os:List Op},(∀o∈os,Yt o)->Z0W os|[],_=>trivial|o::r,h=>⟨h o Q5,ZhY λk d=>h k (Q3 _ d)⟩
theorem Zeu{t:Tree}(h:Zb t (-1)=true)(g:rng t)(hk:2<=t.kind/\t.kind<=9):∀x∈t.kids,KidQ t.kind x:=λx d=>have h1:=(J4 h Yp Yp).2.2 x d
 ⟨h1.1,h1.2,Z2V (ZhV g) x d⟩
theorem Zyk{mk:Tree->Tree->Op}{most:Int}{a b:Tree}(hk:a.kind=b.kind)(hl:2<=a.kind/\a.kind<=9)(ra:Zb a (-1)=true)(rb:Zb b (-1)=true)(ga:rng a)(gb:rng b)(H:∀x∈a.kids,∀y∈b.kids,0<JE x y->ToL a.kind [mk x y] [x] [y]):To (Z2v mk most a b) a b:=by
 have pa:=(J4 ra Yp Yp).2.1 Yp;have pb:=(J4 rb Yp Yp).2.1 Yp;have qa:=Zeu ra ga hl;have qb:=Zeu rb gb Yp;rw[<-hk]at qb;have hs:=Z9V a b most Yp Yp;have hc:=ZIB a.kids b.kids;have d:ToL a.kind (YM (Z3k mk) (Z1B a b most) a.kids b.kids) a.kids b.kids:=ZCt hl _ _ _ _ _ _ rfl (by rw[hc.1];omega) hs hc qa qb λu v hu hv=>ZDR hl (λt d=>qa t (hu t d)) (λt d=>qb t (hv t d)) λx hx y hy=>H x (hu x hx) y (hv y hy);refine⟨Zi5 hl (Z8O d.r) ?_ ?_,?_,?_,λh=>absurd (show(3:Int)=0 from h) V0,λ_=>?_⟩;.rw[d.la 0 V0 V0];omega
 .rw[d.lb 0 V0 V0];omega
 .exact⟨Yc V0 V0,Zcb,Zcb,by simp,Yc Yp Yp,trivial,ZhY d.g⟩
 .obtain⟨w,h1,h2⟩:=d.do_ [] [];rw[Qi,Qh]at h1;refine⟨.mk a.kind [] w,?_,?_⟩;.rw[Jj,Y1];simp only[Z2v];change(if(3:Int)=0 then _ else if(3:Int)=1 then _ else if(3:Int)=2 then _ else if(3:Int)=3 then(if a.kind=a.kind then(Z5J (Y6 false (YM (Z3k mk) (Z1B a b most) a.kids b.kids) a.kids [])).map λy=>Tree.mk a.kind [] y else none)else _)=_;rw[if_neg V0,if_neg V0,if_neg V0,if_pos rfl,if_pos rfl,h1];try rfl
  .exact(ZgQ (by show a.kind≠0;omega) (by show a.kind≠1;omega)).2 ⟨hk,pb.2.1.symm,h2⟩
 .have h1:=d.m;rw[Zr4 Yp,Zr4 Yp];simp only[Z2v,Zi];have h5:mass a=1+a.words.length+Z5 a.kids:=by cases a;rfl
  have h6:mass b=1+b.words.length+Z5 b.kids:=by cases b;rfl
  have h7:mass Tree.nil=1:=rfl;simp only[Zr,Qm];omega
theorem ZoP{a b:Tree}(h:¬(a.kind=0/\b.kind=0))(ra:Zb a (-1)=true)(rb:Zb b (-1)=true)(ga:rng a)(gb:rng b)(ka:a.kind≠10)(kb:b.kind≠10):To (.mk 1 a b [] [] 0 []) a b:=by
 refine⟨Zcd ra rb ka kb,⟨Yc V0 V0,ga,gb,by simp,Yc V0 V0,trivial,trivial⟩,⟨b,?_,rfl⟩,λh=>absurd (show(1:Int)=0 from h) V0,λ_=>?_⟩
 .rw[Jj,Y1];change(if(1:Int)=0 then _ else if(1:Int)=1 then(if ZN (Z0 a) (Z0 a)=true then some b else none)else _)=_;rw[if_neg V0,if_pos rfl,if_pos (by simp[ZN])]
 .have z:∀t:Tree,Zb t (-1)=true->t.kind=0->mass t=1:=by
   intro t rt d;obtain⟨k,w,ks⟩:=t;have d:k=0:=d;rw[Zb,if_pos d,decide_eq_true_eq]at rt;rw[Q0 rt.1,Q0 rt.2];try rfl
  have h1:=Zv a;have h2:=Zv b;have za:=z a ra;have zb:=z b rb;simp only[Zi,Zr,Zh,Qm];unfold wt;split<;>split<;>omega
theorem ZGy{a b:Tree}(h:ZN (Z0 a) (Z0 b)=true):To Edit.nil a b:=⟨rfl,Z9Z,⟨a,by rw[Jj,Y1,if_pos (show Edit.nil.kind=0 from rfl)],YS.1 h⟩,λ_=>rfl,λh=>absurd rfl h⟩
theorem ZdP{t:Tree}(h:Zb t (-1)=true)(g:rng t)(hk:t.kind=1)(j:Int):Zb (Zo t j) (-1)=true/\rng (Zo t j)/\(Zo t j).kind≠10:=by
 have hp:=(J4 h Yp Yp).2.2;have z:Zb Tree.nil (-1)=true/\rng Tree.nil/\Tree.nil.kind≠10:=⟨rfl,Zcb,V0⟩;unfold Zo;split;.exact z
 .by_cases hj:j.toNat<t.kids.length
  .have hm:=Ze (l:=t.kids) hj Tree.nil;have h1:=hp _ hm;refine⟨h1.2,Z2V (ZhV g) _ hm,λe=>?_⟩;have d:=h1.1;rw[hk]at d;unfold Z0P at d;rw[if_neg V0,if_neg V0,decide_eq_true_eq]at d;exact d e
  .rw[Q6,Qq Yp];exact z
theorem Zfx{x y:Tree}(h:0<JE x y):x.kind=y.kind/\x.kind≠0/\x.kind≠10:=by
 unfold JE at h;split at h;.omega
 .rename_i d;omega
theorem ZCx(most:Int):∀(n:Nat)(a b:Tree),mass a+mass b<=n->Zb a (-1)=true->Zb b (-1)=true->rng a->rng b->a.kind≠10->b.kind≠10->To (Z4e Jd most a b) a b/\(a.kind=1->b.kind=1->(Z4e Jd most a b).kind=0\/(Z4e Jd most a b).kind=2):=by intro n;induction n with
 |zero=>intro a b h;have:=Zv a;omega|succ n ih=>
  intro a b hm ra rb ga gb ka kb;rw[Zkm];split;.rename_i h;exact⟨ZGy h,λ_ _=>.inl rfl⟩
  .rename_i hs;split
   .rename_i h;refine⟨Zos h.1 h.2 ra rb ga gb λj h0 hj=>?_,λ_ _=>.inr rfl⟩;have h1:=Z4J h0 hj;have h2:=ZdP ra ga h.1 j;have h3:=ZdP rb gb h.2 j;exact(ih _ _ Yp h2.1 h3.1 h2.2.1 h3.2.1 h2.2.2 h3.2.2).1
   .rename_i h1;split
    .rename_i h;refine⟨Zyk h.1 h.2 ra rb ga gb λx hx y hy h4=>?_,λe _=>by omega⟩;have h2:=Z6V hx;have h3:=Z6V hy;have qx:=Zeu ra ga h.2 x hx;have qy:=Zeu rb gb Yp y hy;obtain⟨e1,e2,e3⟩:=Zfx h4;have e4:7<a.kind:=by
      have d:=qx.b;unfold Z0P at d;split at d
      .rename_i h6;simp only[Q2,decide_eq_true_eq]at d;omega
      .omega
     have hh:=ih x y Yp qx.r qy.r qx.g qy.g e3 Yp;refine ZDQ e4 hh.1 λhk=>?_;by_cases h8:a.kind=8;.exact .inl h8
     .have d:=qx.b;have h9:a.kind=9:=Yp;rw[h9]at d;simp only[Z0P]at d;have ak:x.kind=1:=by simpa using d
      rcases hh.2 ak Yp with h|h;.exact absurd h hk
      .exact .inr (.inl h)
    .refine⟨ZoP (λh=>hs ?_) ra rb ga gb ka kb,λe1 e2=>absurd ⟨e1,e2⟩ h1⟩;have z:∀t:Tree,t.kind=0->Z0 t=Tree.nil:=by intro t ht;obtain⟨k,w,ks⟩:=t;have ht:k=0:=ht;rw[Z0,if_pos ht]
     rw[z a h.1,z b h.2];simp[ZN]
mutual def Z1J:Edit->Edit|.mk k o n w ks l os=>.mk k o n w (Z3W ks) l (Z3V os)def Z3W:List (KidOf Edit)->List (KidOf Edit)|[]=>[]|k::r=>Z4i k::Z3W r def Z4i:KidOf Edit->KidOf Edit|⟨a,e⟩=>⟨a,Z1J e⟩def Z3V:List (OpOf Edit)->List (OpOf Edit)|[]=>[]|o::r=>Z0l o::Z3V r def Z0l:OpOf Edit->OpOf Edit|⟨k,n,l,e⟩=>if k=3/\e.kind=0 then⟨0,1,l,Z1J e⟩else⟨k,n,l,Z1J e⟩end
theorem Z3X(e:Edit):Z1J e=.mk e.kind e.old e.new e.words (Z3W e.kids) e.list (Z3V e.ops):=by cases e;rw[Z1J];try rfl
theorem Z80(e:Edit):(Z1J e).kind=e.kind:=by rw[Z3X];try rfl
theorem ZiT(k:Kid):Z4i k=⟨k.at_,Z1J k.e⟩:=by cases k;rw[Z4i]
theorem Z78(o:Op):Z0l o=if o.kind=3/\o.e.kind=0 then⟨0,1,o.l,Z1J o.e⟩else⟨o.kind,o.n,o.l,Z1J o.e⟩:=by cases o;rw[Z0l]
theorem Z2d:∀l:List Kid,Z3W l=l.map Z4i|[]=>by rw[Z3W];try rfl|k::r=>by rw[Z3W,Z2d r];try rfl
theorem Z32:∀l:List Op,Z3V l=l.map Z0l|[]=>by rw[Z3V];try rfl|k::r=>by rw[Z3V,Z32 r];try rfl
theorem ZbA:Z1J Edit.nil=Edit.nil:=by rw[Z3X,Z2d,Z32];try rfl
theorem Zt4(f:Tree->Tree->Edit)(a b:Tree):∀(n:Nat)(i:Int),Z3W (Z0k f a b n i)=Z0k (λx y=>Z1J (f x y)) a b n i
 |0,_=>by rw[Z2d];try rfl|n+1,i=>by
  have h:=Zt4 f a b n (i+1);rw[Z2d]at h⊢;rw[Z0k,Z0k,Xb,h,Z80];split;.try rfl
  .rw[Ki,ZiT]
theorem ZnC(f:Tree->Tree->Edit)(a b:Tree):Z1J (Jz f a b)=Jz (λx y=>Z1J (f x y)) a b:=by rw[Z3X];simp only[Jz];rw[<-Zt4,Z32];try rfl
theorem Z31(k:Int)(hk:k≠3)(l:List Tree):(ZW k l).map Z0l=ZW k l:=by
 unfold ZW;split;.try rfl
 .rw[Ki,Z78,if_neg V1,ZbA]
theorem ZiQ(mk:Tree->Tree->Op)(old now:List Tree):∀(l:List Two)(i j:Int),(YY mk old now l i j).map Z0l=YY (λx y=>Z0l (mk x y)) old now l i j|[],i,j=>by rw[YY,YY,Xb,Z31 1 V0,Z31 2 V0]|p::r,i,j=>by rw[YY,YY,Xb,Xb,Xa,Z31 1 V0,Z31 2 V0,ZiQ mk old now r]
theorem ZDT{f g:List Tree->List Tree->List Op}(h:∀u v,(f u v).map Z0l=g u v):∀(n:Nat)(l:List SStep)(old now:List Tree),l.length=n->(YM f l old now).map Z0l=YM g l old now:=by intro n;induction n using Nat.strongRecOn with|ind n ih=>
  intro l old now d;have kp:∀n:Int,Z0l ⟨0,n,[],Edit.nil⟩=⟨0,n,[],Edit.nil⟩:=λn=>by rw[Z78,if_neg V1,ZbA]
  have s1:=λl=>Z31 1 V0 l;have s2:=λl=>Z31 2 V0 l;match l,d with
  |[],_=>rw[YM,YM];try rfl|[s],_=>
   rw[Z0x,Z0x];split;.rw[Ki,kp]
   .split;.rw[Xb,s2];try rfl
    .exact s1 _|s::t::r,d=>
   simp only[Qa]at d;rw[JI,JI];split;.rw[Xa,kp,ih (t::r).length (by simp;omega) (t::r) _ _ rfl]
   .split;.rw[Xb,s2,ih (t::r).length (by simp;omega) (t::r) _ _ rfl]
    .split;.rw[Xb,h,ih _ Yp r _ _ rfl]
     .rw[Xb,s1,ih (t::r).length (by simp;omega) (t::r) _ _ rfl]
theorem ZuS(mk:Tree->Tree->Op)(most:Int)(a b:Tree):Z1J (Z2v mk most a b)=Z2v (λx y=>Z0l (mk x y)) most a b:=by rw[Z3X];simp only[Z2v];rw[Z2d,Z32];change Edit.mk 3 Tree.nil Tree.nil [] [] a.kind (List.map Z0l (YM (Z3k mk) (Z1B a b most) a.kids b.kids))=_;rw[ZDT (f:=Z3k mk) (g:=Z3k λx y=>Z0l (mk x y)) (λu v=>ZiQ mk u v _ 0 0) _ _ _ _ rfl]
theorem Zzl(e:Edit):Z0l (Z1r e)=Jd (Z1J e):=by
 unfold Jd;rw[Z78,Z80];simp only[Z1r];by_cases h:e.kind=0;.rw[if_pos ⟨by trivial,h⟩,if_pos h]
 .rw[if_neg (λx=>h x.2),if_neg h]
theorem ZgM(most:Int):∀(n:Nat)(a b:Tree),Z1J (Z52 Z1r most n a b)=Z52 Jd most n a b
 |0,_,_=>ZbA|n+1,a,b=>by
  rw[Z52,Z52];split;.exact ZbA
  .split;.rw[ZnC];congr 1;funext x y;exact ZgM most n x y
   .split;.rw[ZuS];congr 1;funext x y;rw[Zzl,ZgM most n]
    .rw[Z3X,Z2d,Z32];try rfl
theorem ZkQ(most:Int)(a b:Tree):Z1J (Z1s most a b)=Z4e Jd most a b:=ZgM most _ a b
mutual theorem ZgL:∀e:Edit,Zi (Z1J e)=Zi e|.mk k o n w ks l os=>by have h1:=ZgO ks;have d:=ZgN os;rw[Z1J,Zi,Zi,h1,d.1,d.2]theorem ZgO:∀ks:List (KidOf Edit),Zr (Z3W ks)=Zr ks|[]=>by rw[Z3W]|k::r=>by rw[Z3W,Zr,Zr,ZnD k,ZgO r]theorem ZnD:∀k:KidOf Edit,Yg (Z4i k)=Yg k|⟨a,e⟩=>by rw[Z4i,Yg,Yg,ZgL e]theorem ZgN:∀os:List (OpOf Edit),Zh (Z3V os)=Zh os/\(Z3V os).length=os.length|[]=>by rw[Z3V];exact⟨rfl,rfl⟩|o::r=>by have h:=ZgN r;rw[Z3V,Zh,Zh,Zqy o,h.1,Qa,Qa,h.2];exact⟨rfl,rfl⟩theorem Zqy:∀o:OpOf Edit,Zu (Z0l o)=Zu o|⟨k,n,l,e⟩=>by have h:=ZgL e;rw[Z0l];split<;>rw[Zu,Zu,h]end
mutual theorem ZkR:∀e:Edit,ZM (Z1J e)=ZM e
 |.mk k o n w ks l os=>by
  have d:=ZiS ks;have h2:=ZiR l os;rw[Z1J,ZM,ZM,d,h2]theorem ZiS:∀ks:List (KidOf Edit),Jx (Z3W ks)=Jx ks
 |[]=>by rw[Z3W]|k::r=>by rw[Z3W,Jx,Jx,ZqB k,ZiS r]theorem ZqB:∀k:KidOf Edit,Z0O (Z4i k)=Z0O k|⟨a,e⟩=>by rw[Z4i,Z0O,Z0O,ZkR e]theorem ZiR(list:Int):∀(os:List (OpOf Edit))(s:Wst),ZP list (Z3V os) s=ZP list os s
 |[],s=>by rw[Z3V]|o::r,s=>by rw[Z3V,ZP,ZP,ZuT list o,ZiR list r]theorem ZuT(list:Int):∀(o:OpOf Edit)(s:Wst),JO list (Z0l o) s=JO list o s
 |⟨k,n,l,e⟩,s=>by
  have h:=ZkR e;rw[Z0l];split
  .rename_i d;have hi:Z4M list (ZM e)=true:=by
    have:(ZM e).kind=0:=by
     rw[Z5r,JH,JH,JH];exact d.2
    unfold Z4M;rw[decide_eq_true_eq];exact .inl this
   rw[JO,JO,if_pos rfl,JH,JH,JH,if_pos d.1,if_pos hi]
  .rw[JO,JO,h]end
mutual theorem Z85:∀e:Edit,ctE e+65600<=65616*Zi e|.mk k o n w ks l os=>by have d:=Zj8 ks;have h2:=Zj7 os;rw[ctE,Zi];omega theorem Zj8:∀ks:List (KidOf Edit),Z0S ks<=65616*Zr ks|[]=>QI _|k::r=>by have d:=ZqF k;have h2:=Zj8 r;rw[Z0S,Zr];omega theorem ZqF:∀k:KidOf Edit,Z2z k<=65616*Yg k|⟨a,e⟩=>by have h:=Z85 e;rw[Z2z,Yg];omega theorem Zj7:∀os:List (OpOf Edit),YI os<=65616*Zh os|[]=>QI _|o::r=>by have d:=Zv1 o;have h2:=Zj7 r;rw[YI,Zh];omega theorem Zv1:∀o:OpOf Edit,Z2y o<=65616*Zu o|⟨k,n,l,e⟩=>by have h:=Z85 e;rw[Z2y,Zu];omega end
structure TreeOk(t:Tree):Prop where
 r:∃d:Int,Zb t d=true
 g:rng t
 k:t.kind≠10
theorem TreeOk.rt{t:Tree}(h:TreeOk t):RT_ t:=⟨h.r,h.g⟩
theorem TreeOk.norm{t:Tree}(h:TreeOk t):TreeOk (Z0 t):=by obtain⟨⟨d,r⟩,g,k⟩:=h;exact⟨⟨d,Z0t t d r⟩,Z03 t g,by rw[Z29];exact k⟩
theorem Zkl(most:Int){a b:Tree}(ha:TreeOk a)(hb:TreeOk b):To (Z4e Jd most a b) a b:=(ZCx most _ a b (Qc _) ha.rt.neg hb.rt.neg ha.g hb.g ha.k hb.k).1
theorem To.mass{e:Edit}{a b:Tree}(h:To e a b):Zi e<=5*(mass a+mass b)+3:=by
 by_cases hk:e.kind=0
 .rw[h.s hk];have:Zi Edit.nil=3:=rfl;omega
 .have:=h.m hk;have:=ZlB a;have:=ZlB b;omega
theorem ZCw(most:Int){a b:Tree}(ha:TreeOk a)(hb:TreeOk b):Zi (Z1s most a b)<=5*(mass a+mass b)+3/\Z8 (Z1J (Z1s most a b)) (-1)=true:=by have h:=Zkl most ha hb;rw[ZkQ];refine⟨?_,h.r⟩;rw[<-ZgL,ZkQ];exact h.mass
structure Diff(e:Edit)(a b:Tree):Prop where
 r:Z8 e (-1)=true
 g:YF e
 m:Zi e<=5*(mass a+mass b)+3
 do_:∃u,doE false e a=some u/\Eqv u b
theorem Diff.ct{e:Edit}{a b:Tree}(h:Diff e a b):ctE e<=65616*(5*(mass a+mass b)+3):=by have:=Z85 e;have:=h.m;omega
theorem ZgP(t:Tree):Eqv (Z0 t) t:=Z19 t
theorem Z4u{α β:Type}{R:α->β->Prop}{a:Option α}{b:Option β}(h:OptR R a b){y:β}(hb:b=some y):∃x,a=some x/\R x y:=by subst hb;cases a with|none=>cases h|some x=>exact⟨x,rfl,h⟩
theorem ZnQ(most:Int)(a b:Tree):Jb most a b=ZM (Z4e Jd most (Z0 a) (Z0 b)):=by unfold Jb;rw[<-ZkQ,ZkR]
theorem Z3p(most:Int){a b:Tree}(ha:TreeOk a)(hb:TreeOk b):Diff (Jb most a b) a b:=by have h:=Zkl most ha.norm hb.norm;rw[ZnQ];have r:=Z17 _ _ h.r;have m1:=ZcA (Z4e Jd most (Z0 a) (Z0 b));have m2:=h.mass;have m3:=ZI a;have m4:=ZI b;refine⟨r,Z4q _ _ h.r h.g,Yp,?_⟩;obtain⟨u,hu,hq⟩:=h.do_;obtain⟨v,hv,aa⟩:=Z4u (Zpl _ _ _ h.r ha.norm.rt) hu;obtain⟨w,hw,d⟩:=Z4u (Z84 _ _ _ _ r (Eq.symm (ZgP a))) hv;exact⟨w,hw,Xm d (Xm aa (Xm hq (ZgP b)))⟩
theorem Zbu{t:Tree}(g:rng t)(h:Z12 t=true):TreeOk t/\mass t<=400:=by simp only[Z12,Q2,decide_eq_true_eq]at h;have:=Z5i t 70 400 h.1.1;exact⟨⟨⟨64,h.1.2⟩,g,h.2⟩,Yp⟩
structure POk2(p q:List Op)(x:Piece):Prop where
 of:x.of=0\/x.of=1\/x.of=2
 pp:x.of≠2->Part p x.p/\YD x.p
 qq:x.of≠1->Part q x.q/\YD x.q
 one:x.of=1->x.p.kind=2
 two:x.of=2->x.q.kind=2
 both:x.of=0->x.p.kind≠2/\x.q.kind≠2/\Z4 x.p=Z4 x.q
 pn:x.of=2->x.p=Op.nil
 qn:x.of=1->x.q=Op.nil
theorem POk2.mono{p q p' q':List Op}{x:Piece}(h:POk2 p q x)(hp:∀x∈p,Part p' x)(hq:∀x∈q,Part q' x):POk2 p' q' x:=⟨h.of,λe=>⟨(h.pp e).1.mono hp,(h.pp e).2⟩,λe=>⟨(h.qq e).1.mono hq,(h.qq e).2⟩,h.one,h.two,h.both,h.pn,h.qn⟩
theorem Z1l:∀(k:Nat)(p q:List Op)(out:List Piece),p.length+q.length<=k->(∀o∈p,YD o)->(∀o∈q,YD o)->((Zl 2 2 p q out).2.1=true->∃ps,(Zl 2 2 p q out).1=out++ps/\(∀x∈ps,POk2 p q x)/\(∀s m,Run p s m↔Run (ZG ps) s m)/\∀s m,Run q s m↔Run (ZF ps) s m)/\((Zl 2 2 p q out).2.1=false->∀s u v,Run p s u->Run q s v->False):=by
 intro k;induction k with
 |zero=>
  intro p q out hk hp hq;have e1:p=[]:=Q0 Yp;have e2:q=[]:=Q0 Yp;subst e1 e2;have e:Zl 2 2 [] [] out=(out,true,[],[]):=by
   rw[Zl,dif_neg (by simp[sgl]),dif_neg (by simp[sgl]),dif_pos (by simp)];try rfl
  rw[e];exact⟨λ_=>⟨[],by simp,λx hx=>(by cases hx),λs m=>QM,λs m=>QM⟩,λh=>by cases h⟩|succ k ih=>
  intro p q out hk hp hq;rw[Zl];by_cases h1:sgl 2 p=true;.rw[dif_pos h1];obtain⟨g1,g2⟩:=Yn.1 h1;cases p with
   |nil=>grind|cons a p'=>
    simp only[Qj]at g2;simp only[Qj,Qw,QC];have ha:=hp a Q5;obtain⟨i1,i2⟩:=ih p' q (out++[⟨1,a,Op.nil⟩]) (by grind) (λo ho=>hp o (Q3 _ ho)) hq;refine⟨λh=>?_,λh s u v r1 r2=>?_⟩
    .obtain⟨ps,e,af,hP,hQ⟩:=i1 h;refine⟨⟨1,a,Op.nil⟩::ps,by grind,λx hx=>?_,λs m=>?_,λs m=>hQ s m⟩
     .rcases Q9.1 hx with rfl|hx;.exact⟨.inr (.inl rfl),λ_=>⟨Part.self Q5,ha⟩,λe=>absurd rfl e,λ_=>g2,λe=>(by cases e),λe=>(by cases e),λe=>(by cases e),λ_=>rfl⟩
      .exact(af x hx).mono (λx hx=>Part.self (Q3 _ hx)) (λx hx=>Part.self hx)
     .show _↔Run (a::ZG ps) s m;exact Z1h hP (Jf ha) s m
    .obtain⟨d',_,hr⟩:=(YV g2).1 r1;grind
  .rw[dif_neg h1];by_cases h2:sgl 2 q=true
   .rw[dif_pos h2];obtain⟨g1,g2⟩:=Yn.1 h2;cases q with
    |nil=>grind|cons a q'=>
     simp only[Qj]at g2;simp only[Qj,Qw,QC];have ha:=hq a Q5;obtain⟨i1,i2⟩:=ih p q' (out++[⟨2,Op.nil,a⟩]) (by grind) hp (λo ho=>hq o (Q3 _ ho));refine⟨λh=>?_,λh s u v r1 r2=>?_⟩
     .obtain⟨ps,e,af,hP,hQ⟩:=i1 h;refine⟨⟨2,Op.nil,a⟩::ps,by grind,λx hx=>?_,λs m=>hP s m,λs m=>?_⟩
      .rcases Q9.1 hx with rfl|hx;.exact⟨.inr (.inr rfl),λe=>absurd rfl e,λ_=>⟨Part.self Q5,ha⟩,λe=>(by cases e),λ_=>g2,λe=>(by cases e),λ_=>rfl,λe=>(by cases e)⟩
       .exact(af x hx).mono (λx hx=>Part.self hx) (λx hx=>Part.self (Q3 _ hx))
      .show _↔Run (a::ZF ps) s m;exact Z1h hQ (Jf ha) s m
     .obtain⟨d',_,hr⟩:=(YV g2).1 r2;grind
   .rw[dif_neg h2];by_cases h3:p.length=0\/q.length=0
    .rw[dif_pos h3];by_cases h4:p.length=0
     .have e1:p=[]:=Q0 h4;subst e1;by_cases h5:q.length=0;.have e2:q=[]:=Q0 h5;subst e2;rw[if_pos rfl];exact⟨λ_=>⟨[],by simp,λx hx=>(by cases hx),λs m=>QM,λm d=>QM⟩,λh=>by cases h⟩
      .rw[if_neg (by grind)];refine⟨λh=>(by cases h),λ_ s u v r1 r2=>?_⟩;cases q with|nil=>exact h5 rfl|cons a q'=>have ha:=hq a Q5;obtain⟨rfl,_⟩:=Z0E r1;obtain⟨m1,m',d',e,hl,_⟩:=Z8H ha (λe=>h2 (Yn.2 ⟨by simp,by simpa using e⟩)) r2;have:=Ya ha;have e:=congrArg List.length e;grind
     .have h5:q.length=0:=Yp;have e2:q=[]:=Q0 h5;subst e2;rw[if_neg (by grind)];refine⟨λh=>(by cases h),λ_ s u v r1 r2=>?_⟩;cases p with|nil=>exact h4 rfl|cons a p'=>have ha:=hp a Q5;obtain⟨rfl,_⟩:=Z0E r2;obtain⟨m1,m',d',e,hl,_⟩:=Z8H ha (λe=>h1 (Yn.2 ⟨by simp,by simpa using e⟩)) r1;have:=Ya ha;have e:=congrArg List.length e;grind
    .rw[dif_neg h3];cases p with|nil=>simp at h3|cons a p'=>cases q with|nil=>simp at h3|cons b q'=>
       have ha:=hp a Q5;have hb:=hq b Q5;have ka:a.kind≠2:=λe=>h1 (Yn.2 ⟨by simp,by simpa using e⟩);have kb:b.kind≠2:=λe=>h2 (Yn.2 ⟨by simp,by simpa using e⟩);have la:=Ya ha;have lb:=Ya hb;simp only[Qj];generalize hn:min (Z4 a) (Z4 b)=n;have aq:1<=n:=Yp;have ax:n<=Z4 a:=Yp;have ay:n<=Z4 b:=Yp;obtain⟨a1,a2,a3,a4,a5,a6⟩:=Z4j hp aq ax;obtain⟨b1,b2,b3,b4,b5,b6⟩:=Z4j hq aq ay;have ba:(ZB (a::p') n).length+(ZB (b::q') n).length<=k:=by
        have x1:=Y5 (a::p') n (by simp);have x2:=Y5 (b::q') n (by simp);simp only[Qa]at hk x1 x2;rcases Kd (Z4 a) (Z4 b)with h|h;.have:=Y4 (a::p') n (by simp) (by grind);grind
        .have:=Y4 (b::q') n (by simp) (by grind);grind
       obtain⟨i1,i2⟩:=ih (ZB (a::p') n) (ZB (b::q') n) (out++[⟨0,Zx a n,Zx b n⟩]) ba (λo ho=>(a5 o ho).1) (λo ho=>(b5 o ho).1);refine⟨λh=>?_,λh s u v r1 r2=>?_⟩
       .obtain⟨ps,e,af,hP,hQ⟩:=i1 h;refine⟨⟨0,Zx a n,Zx b n⟩::ps,by grind,λx hx=>?_,λs m=>?_,λs m=>?_⟩
        .rcases Q9.1 hx with rfl|hx;.exact⟨.inl rfl,λ_=>⟨a4,a1⟩,λ_=>⟨b4,b1⟩,λe=>(by cases e),λe=>(by cases e),λ_=>⟨by grind,by grind,by grind⟩,λe=>(by cases e),λe=>(by cases e)⟩
         .exact(af x hx).mono (λx hx=>(a5 x hx).2) (λx hx=>(b5 x hx).2)
        .rw[a6 s m];exact Z1h hP (Jf a1) s m
        .rw[b6 s m];exact Z1h hQ (Jf b1) s m
       .rw[a6]at r1;rw[b6]at r2;obtain⟨m1,s1,d1,e,hl,r3⟩:=Z8H a1 Yp r1;obtain⟨m2,s2,d2,e',bh,r4⟩:=Z8H b1 Yp r2;obtain⟨_,e2⟩:=Kb (e.symm.trans e') Yp;grind
def cE(e:Edit):Nat:=if e.kind=0 then 0 else 2*ctE e
def Y8(o:Tree)(p q:Edit):Nat:=mass o+cE p+cE q
def Zr3(e:Edit)(t:Tree):Prop:=(Zi e<=20000000000/\YF e/\∃d,Z8 e d=true)/\mass t+ctE e<=200000000000/\rng t
structure OkB(o:Tree)(p q:Edit):Prop where
 t:RT_ o
 rp:Z8 p (-1)=true
 gp:YF p
 dp:(doE false p o).isSome=true
 rq:Z8 q (-1)=true
 gq:YF q
 dq:(doE false q o).isSome=true
structure OkK(t:Tree)(p q:Op):Prop where
 rt:RT_ t
 b:p.kind≠1->q.kind≠1->OkB t p.e q.e
 m:Y8 t p.e q.e<=10000000000
 pk:p.kind=3->Z8 p.e (-1)=true/\YF p.e/\p.e.kind≠0
 qk:q.kind=3->Z8 q.e (-1)=true/\YF q.e/\q.e.kind≠0
theorem ZCC{e:Edit}{d:Int}(h:Z8 e d=true)(hk:e.kind=0):e=Edit.nil:=by have R:=Zt h;have h1:=R.none Yp;have h2:=R.words0 Yp;have h3:=R.ops0 Yp;obtain⟨k,o,n,w,ks,l,os⟩:=e;have hk:k=0:=hk;have h1:o=Tree.nil/\n=Tree.nil:=h1;have h2:w=[]/\ks=[]:=h2;have h3:l=0/\os=[]:=h3;rw[hk,h1.1,h1.2,h2.1,h2.2,h3.1,h3.2];try rfl
theorem ZIC:cE Edit.nil=0:=rfl
theorem Zsd:muM Edit.nil=0:=rfl
theorem ZxG{e:Edit}{d:Int}(h:Z8 e d=true):muM e<=cE e/\Zi e<=cE e+3/\ctE e<=cE e+18:=by
 by_cases hk:e.kind=0;.rw[ZCC h hk];decide
 .have:=Z5t e;unfold muM cE;rw[if_neg hk,if_neg hk];omega
theorem Zl4{e:Edit}(hk:e.kind≠0):36<=cE e/\3<=muM e:=by have:=Z9g e;have h:=massE_pos3 e;unfold muM cE;rw[if_neg hk,if_neg hk];omega where massE_pos3(e:Edit):3<=Zi e:=by obtain⟨k,o,n,w,ks,l,os⟩:=e;have d:=Zv o;have h2:=Zv n;rw[Zi];omega
theorem Zey{e:Edit}{t:Tree}{n:Nat}(hr:Z8 e (-1)=true)(hg:YF e)(ht:rng t)(h:mass t+cE e<=n)(hn:n<=10000000000):Zr3 e t:=by have:=ZxG hr;exact⟨⟨Yp,hg,_,hr⟩,Yp,ht⟩
theorem OkB.p{o:Tree}{p q:Edit}(h:OkB o p q)(hm:Y8 o p q<=10000000000):Zr3 p o:=Zey (n:=Y8 o p q) h.rp h.gp h.t.2 (by unfold Y8;omega) hm
theorem OkB.q{o:Tree}{p q:Edit}(h:OkB o p q)(hm:Y8 o p q<=10000000000):Zr3 q o:=Zey (n:=Y8 o p q) h.rq h.gq h.t.2 (by unfold Y8;omega) hm
theorem ZdY{e:Edit}{t:Tree}(hr:Z8 e (-1)=true)(hg:YF e)(ht:rng t):mass (YX e t)<=mass t+cE e/\rng (YX e t):=by
 unfold YX;cases hd:doE false e t with
 |none=>have:=Zv t;exact⟨by show 1<=_;omega,Zcb⟩|some u=>
  have h1:=ZI u;have d:=Z03 u (Z8J false e t u hg ht hd);refine⟨?_,d⟩;show mass (Z0 u)<=_;by_cases hk:e.kind=0;.rw[Jj,Y1,if_pos hk]at hd;rw[Option.some.inj hd];omega
  .have h3:=Z7G false e _ t u hr hd;unfold cE;rw[if_neg hk];omega
theorem ZsT:∀(l:List Kid)(i:Int),YW l i=Edit.nil\/∃k∈l,k.at_=i/\YW l i=k.e
 |[],_=>.inl rfl|k::r,i=>by
  rw[YW];split;.rename_i h;exact .inr ⟨k,Q5,h,rfl⟩
  .rcases ZsT r i with h|⟨x,h1,h2⟩;.exact .inl h
   .exact .inr ⟨x,Q3 _ h1,h2⟩
theorem ZiZ{r:Bool}{tk:List Tree}:∀{ks:List Kid}{out b:List Tree},Z0c r tk ks out=some b->∀k∈ks,(doE r k.e (tk.getD k.at_.toNat Tree.nil)).isSome=true
 |[],_,_,_,k,hk=>by cases hk|a::s,out,b,h,k,hk=>by
  rw[Z0c]at h;obtain⟨u,d,h2⟩:=Qx.1 h;rcases Q9.1 hk with rfl|hk;.rw[Z7e]at d;rw[d];try rfl
  .exact ZiZ h2 k hk
theorem ZfD:∀{l:List Kid},Z2p l->∀k∈l,YF k.e
 |⟨_,_⟩::_,h,k,hk=>by
  rcases Q9.1 hk with rfl|hk;.exact h.1.2
  .exact ZfD h.2 k hk
theorem Z39:Z8 Edit.nil (-1)=true:=rfl
theorem ZbC(t:Tree):(doE false Edit.nil t).isSome=true:=rfl
theorem ZdF:∀{ks:List Kid}{k:Kid},k∈ks->Zi k.e<=Zr ks
 |⟨_,_⟩::_,k,h=>by
  rcases Q9.1 h with rfl|h;.simp only[Zr,Yg];omega
  .have:=ZdF h;simp only[Zr];omega
theorem ZdB:∀{ks:List Op}{k:Op},k∈ks->Zi k.e<=Zh ks
 |⟨_,_,_,_⟩::_,k,h=>by
  rcases Q9.1 h with rfl|h;.simp only[Zh,Zu];omega
  .have:=ZdB h;simp only[Zh];omega
theorem Z2u(e:Edit):Zr e.kids+Zh e.ops+e.words.length+e.ops.length+3<=Zi e:=by obtain⟨k,o,n,w,ks,l,os⟩:=e;have d:=Zv o;have h2:=Zv n;rw[Zi];show Zr ks+Zh os+w.length+os.length+3<=_;omega
theorem ZsU{o:Tree}{p:Edit}(ht:RT_ o)(hr:Z8 p (-1)=true)(hg:YF p)(hd:(doE false p o).isSome=true)(kp:p.kind=2){i:Int}(h0:0<=i):Z8 (YW p.kids i) (-1)=true/\YF (YW p.kids i)/\(doE false (YW p.kids i) (Zo o i)).isSome=true/\muM (YW p.kids i)<muM p/\cE (YW p.kids i)+4<=cE p:=by
 have hm:muM p=Zi p:=JH;have hc:cE p=2*ctE p:=JH;have h1:=Z2u p;have h2:=Z9g p;rcases ZsT p.kids i with h|⟨k,hk,ha,h⟩;.rw[h,Zsd,ZIC];exact⟨Z39,Z9Z,ZbC _,Yp,Yp⟩
 .have R:=Zt hr;have rk:=(ZD R.kids k hk).2;have d:=ZfD (l:=p.kids) (by cases p;exact hg.2.2.2.2.2.1) k hk;have m1:=ZdF hk;have c1:=ZgZ hk;have c2:=Z0d p;rw[h];refine⟨YT _ _ _ V0 rk,d,?_,?_,?_⟩
  .rw[Jj,Y1,JH,JH,if_pos kp]at hd;split at hd;.cases hw:wsD o.words p.words o.words with
    |none=>rw[hw]at hd;cases hd|some w=>rw[hw,Qr]at hd;cases hks:Z0c false o.kids p.kids o.kids with|none=>rw[hks]at hd;cases hd|some b=>have:=ZiZ hks k hk;rwa[Jl o h0,<-ha]
   .cases hd
  .unfold muM;rw[if_neg (by omega:¬p.kind=0)];split<;>omega
  .unfold cE;rw[if_neg (by omega:¬p.kind=0)];split<;>omega
theorem Zzd{o:Tree}(h:RT_ o)(i:Int):RT_ (Zo o i):=by
 have z:RT_ Tree.nil:=⟨⟨-1,rfl⟩,Zcb⟩;unfold Zo;split;.exact z
 .by_cases hi:i.toNat<o.kids.length;.exact h.kids.1 _ (Ze hi _)
  .rw[Q6,Qq Yp];exact z
theorem OkB.kid{o:Tree}{p q:Edit}(h:OkB o p q)(kp:p.kind=2)(kq:q.kind=2){i:Int}(h0:0<=i):OkB (Zo o i) (YW p.kids i) (YW q.kids i)/\muM (YW p.kids i)+muM (YW q.kids i)<muM p+muM q/\Y8 (Zo o i) (YW p.kids i) (YW q.kids i)+8<=Y8 o p q:=by obtain⟨a1,a2,a3,a4,a5⟩:=ZsU h.t h.rp h.gp h.dp kp h0;obtain⟨d,b2,b3,b4,b5⟩:=ZsU h.t h.rq h.gq h.dq kq h0;have:=(ZkO o i).1;unfold Y8;exact⟨⟨Zzd h.t i,a1,a2,a3,d,b2,b3⟩,Yp,Yp⟩
def cO(o:Op):Nat:=if o.kind=3 then cE o.e else 0
def wP(o:Op):Nat:=(if o.kind=2 then 2*Z5 o.l else 0)+cO o
def WP:List Op->Nat|[]=>0|o::r=>wP o+WP r
theorem Zre{a:Op}{r:List Op}{n:Int}(k:a.kind≠2)(h1:1<=n)(hn:n<=Z4 a):wP (Zx a n)+WP (ZB (a::r) n)<=wP a+WP r:=by
 unfold ZB;simp only[Qj,Qw,QC];by_cases hl:Z4 a<=n
 .rw[if_pos hl];have e:Zx a n=a:=by unfold Zx;rw[if_pos hl]
  rw[e];omega
 .rw[if_neg hl];have d:a.kind≠3:=λe=>by unfold Z4 at hl;rw[if_pos e]at hl;omega
  have e1:(Zx a n).kind=a.kind:=Z33 a n;have e2:(JR a n).kind=a.kind:=by unfold JR;split<;>rfl
  have w1:wP (Zx a n)=0:=by unfold wP cO;rw[e1,if_neg k,if_neg d]
  have w2:wP (JR a n)=0:=by unfold wP cO;rw[e2,if_neg k,if_neg d]
  rw[WP,w1,w2];omega
theorem ZCr:∀(k:Nat)(p q:List Op)(out ps:List Piece),p.length+q.length<=k->(∀o∈p,YD o)->(∀o∈q,YD o)->(Zl 2 2 p q out).2.1=true->(Zl 2 2 p q out).1=out++ps->WP (ZG ps)<=WP p/\WP (ZF ps)<=WP q:=by intro k;induction k with
 |zero=>
  intro p q out ps hk hp hq _ h;have e1:p=[]:=Q0 Yp;have e2:q=[]:=Q0 Yp;subst e1 e2;have e:Zl 2 2 [] [] out=(out,true,[],[]):=by rw[Zl,dif_neg (by simp[sgl]),dif_neg (by simp[sgl]),dif_pos (by simp)];try rfl
  rw[e]at h;have:ps=[]:=by simpa using h
  subst this;exact⟨Qc _,Qc _⟩|succ k ih=>
  intro p q out ps hk hp hq d h;rw[Zl]at h d;by_cases h1:sgl 2 p=true
  .rw[dif_pos h1]at h d;obtain⟨g1,g2⟩:=Yn.1 h1;cases p with
   |nil=>grind|cons a p'=>
    simp only[Qj,Qw,QC]at h d;obtain⟨i1,_⟩:=Z1l k p' q (out++[⟨1,a,Op.nil⟩]) (by grind) (λo ho=>hp o (Q3 _ ho)) hq;obtain⟨qs,e,_⟩:=i1 d;rw[e,Q7]at h;have hs:=Xd h;subst hs;have:=ih p' q (out++[⟨1,a,Op.nil⟩]) qs (by grind) (λo ho=>hp o (Q3 _ ho)) hq d e;show wP a+WP (ZG qs)<=wP a+WP p'/\WP (ZF qs)<=WP q;omega
  .rw[dif_neg h1]at h d;by_cases h2:sgl 2 q=true
   .rw[dif_pos h2]at h d;obtain⟨g1,g2⟩:=Yn.1 h2;cases q with|nil=>grind|cons a q'=>
     simp only[Qj,Qw,QC]at h d;obtain⟨i1,_⟩:=Z1l k p q' (out++[⟨2,Op.nil,a⟩]) (by grind) hp (λo ho=>hq o (Q3 _ ho));obtain⟨qs,e,_⟩:=i1 d;rw[e,Q7]at h;have hs:=Xd h;subst hs;have:=ih p q' (out++[⟨2,Op.nil,a⟩]) qs (by grind) hp (λo ho=>hq o (Q3 _ ho)) d e;show WP (ZG qs)<=WP p/\wP a+WP (ZF qs)<=wP a+WP q';omega
   .rw[dif_neg h2]at h d;by_cases h3:p.length=0\/q.length=0
    .rw[dif_pos h3]at h d;split at h
     .have:ps=[]:=by simpa using h
      subst this;exact⟨QI _,QI _⟩
     .rename_i ao;rw[if_neg ao]at d;cases d
    .rw[dif_neg h3]at h d;cases p with|nil=>simp at h3|cons a p'=>cases q with|nil=>simp at h3|cons b q'=>
       have ha:=hp a Q5;have aq:=hq b Q5;have ka:a.kind≠2:=λe=>h1 (Yn.2 ⟨by simp,by simpa using e⟩);have kb:b.kind≠2:=λe=>h2 (Yn.2 ⟨by simp,by simpa using e⟩);have la:=Ya ha;have lb:=Ya aq;simp only[Qj]at h d;generalize hn:min (Z4 a) (Z4 b)=n at h d;have ae:1<=n:=Yp;have aj:n<=Z4 a:=Yp;have ak:n<=Z4 b:=Yp;obtain⟨a1,a2,a3,a4,a5,a6⟩:=Z4j hp ae aj;obtain⟨b1,b2,b3,b4,b5,b6⟩:=Z4j hq ae ak;have am:(ZB (a::p') n).length+(ZB (b::q') n).length<=k:=by
        have x1:=Y5 (a::p') n (by simp);have x2:=Y5 (b::q') n (by simp);simp only[Qa]at hk x1 x2;rcases Kd (Z4 a) (Z4 b)with h|h;.have:=Y4 (a::p') n (by simp) (by grind);grind
        .have:=Y4 (b::q') n (by simp) (by grind);grind
       obtain⟨i1,_⟩:=Z1l k (ZB (a::p') n) (ZB (b::q') n) (out++[⟨0,Zx a n,Zx b n⟩]) am (λo ho=>(a5 o ho).1) (λo ho=>(b5 o ho).1);obtain⟨qs,e,_⟩:=i1 d;rw[e,Q7]at h;have hs:=Xd h;subst hs;have:=ih (ZB (a::p') n) (ZB (b::q') n) (out++[⟨0,Zx a n,Zx b n⟩]) qs am (λo ho=>(a5 o ho).1) (λo ho=>(b5 o ho).1) d e;have x1:=Zre (r:=p') ka ae aj;have x2:=Zre (r:=q') kb ae ak;show wP (Zx a n)+WP (ZG qs)<=wP a+WP p'/\wP (Zx b n)+WP (ZF qs)<=wP b+WP q';omega
def cnt(x:Piece):Int:=max (x.p.n+x.p.l.length) 1
def Zd3(o:Tree)(N:Nat):List Piece->Int->Prop|[],j=>j=o.kids.length|x::r,j=>(x.of=1/\x.p.kind=2/\Zd3 o N r j)\/(x.of=2/\x.q.kind=2/\Zd3 o N r j)\/(x.of=0/\(x.p.kind≠2/\x.q.kind≠2/\0<=x.p.n)/\j+cnt x<=o.kids.length/\(∀i,j<=i->i<j+cnt x->OkK (o.kids.getD i.toNat Tree.nil) x.p x.q)/\muM x.p.e+muM x.q.e<N/\(x.p.kind=3\/x.q.kind=3->cnt x=1)/\(x.p.kind≠3->x.p.e=Edit.nil)/\(x.q.kind≠3->x.q.e=Edit.nil)/\Zd3 o N r (j+cnt x))
theorem Zs7{list:Int}{p:List Op}{o:Op}(hr:∀x∈p,Z9 list x (-2)=true)(hg:∀x∈p,Yt x)(h:Part p o)(k:o.kind=3):Z8 o.e (-1)=true/\YF o.e/\o.e.kind≠0:=by obtain⟨o',d,h2,h3,_⟩:=h;have R:=Yf (hr o' d);have G:=hg o' d;rw[h2]at k;rw[h3];cases R with|keep n _ _=>exact absurd (show(0:Int)=3 from k) V0|gone l _ _=>exact absurd (show(1:Int)=3 from k) V0|come l _ _=>exact absurd (show(2:Int)=3 from k) V0|into e he h0 _ _=>exact⟨YT _ _ _ V0 he,G.2.2.2,h0⟩
theorem Zg6{o:Op}(h:YD o):(o.kind≠3->o.e=Edit.nil)/\(o.kind=3->o.n=0/\o.l=[]):=by
 rcases h with h|h|h;.exact⟨λ_=>h.2.2.2,λe=>by omega⟩
 .exact⟨λ_=>h.2.2.2,λe=>by omega⟩
 .exact⟨λe=>absurd h.1 e,λ_=>h.2⟩
theorem Zwf{o:Op}{s d:List Tree}(k:o.kind=3)(h:Run [o] s d):∃t u,s=[t]/\doE false o.e t=some u:=by cases h with|keep h0 _ _=>omega|gone h0 _ _=>omega|come h0 _=>omega|into _ hd hr=>obtain⟨rfl,_⟩:=Z0E hr;exact⟨_,_,rfl,hd⟩
theorem ZFG{p:List Op}{o:Op}(h:Part p o):o.kind=3->cE o.e<=2*YI p/\Zi o.e<=Zh p:=by intro _;obtain⟨o',d,h2,h3,_⟩:=h;have c:=ZbI d;have m:=ZdB d;rw[h3];unfold cE;refine⟨?_,m⟩;split<;>omega
theorem Zzg{a b:List Tree}{i:Nat}(h:i<a.length):(a++b).getD i Tree.nil=a.getD i Tree.nil:=by rw[Q6,Q6,QB h]
theorem Zrl{o:Op}{s d:List Tree}(ho:YD o)(hk:o.kind≠2)(h:Run [o] s d):(s.length:Int)=Z4 o:=by obtain⟨m1,m',d',e,hl,hr⟩:=Z8H ho hk h;obtain⟨rfl,_⟩:=Z0E hr;rw[e,Qi];exact hl
theorem ZkU{list:Int}{o:Tree}{p q:List Op}{M N:Nat}(ho:RT_ o)(hp:∀x∈p,Z9 list x (-2)=true)(gp:∀x∈p,Yt x)(hq:∀x∈q,Z9 list x (-2)=true)(gq:∀x∈q,Yt x)(hM:mass o+2*YI p+2*YI q<=M)(hM':M<=10000000000)(hN:Zh p+Zh q<N):∀(ps:List Piece)(j:Nat)(m m':List Tree),j<=o.kids.length->(∀x∈ps,POk2 p q x)->Run (ZG ps) (o.kids.drop j) m->Run (ZF ps) (o.kids.drop j) m'->Zd3 o N ps j
 |[],j,m,m',hj,_,h1,_=>by
  obtain⟨e,_⟩:=Z0E h1;have:=congrArg List.length e;rw[Qt,Qm]at this;show(j:Int)=_;omega|x::r,j,m,m',hj,hx,h1,h2=>by
  have X:=hx x Q5;have hr:=λy hy=>hx y (Q3 _ hy);rcases X.of with e|e|e
  .have P:=X.pp Yp;have Q:=X.qq Yp;have B:=X.both e;have p3:=Zs7 hp gp P.1;have q3:=Zs7 hq gq Q.1;have p0:=Zg6 P.2;have q0:=Zg6 Q.2;have cp:=ZFG P.1;have cq:=ZFG Q.1;have h1:Run (x.p::ZG r) (o.kids.drop j) m:=by
    have:ZG (x::r)=x.p::ZG r:=by rw[ZG,JH];try rfl
    rwa[this]at h1
   have h2:Run (x.q::ZF r) (o.kids.drop j) m':=by
    have:ZF (x::r)=x.q::ZF r:=by rw[ZF,JH];try rfl
    rwa[this]at h2
   have lc:(Z4 x.p=cnt x)/\(x.p.kind=3\/x.q.kind=3->cnt x=1):=by
    have po:=Ya P.2;have B3:=B.2.2;by_cases k3:x.p.kind=3
    .have e1:Z4 x.p=1:=by unfold Z4;rw[if_pos k3]
     have e2:=p0.2 k3;unfold cnt;rw[e2.1,e2.2,e1];exact⟨rfl,λ_=>rfl⟩
    .have e1:Z4 x.p=x.p.n+x.p.l.length:=by unfold Z4;rw[if_neg k3]
     unfold cnt;refine⟨Yp,λh=>?_⟩;rcases h with h|h;.exact absurd h k3
     .have:Z4 x.q=1:=by unfold Z4;rw[if_pos h]
      omega
   have bl:=h1;have bq:=h2;obtain⟨s1,s2,d1,d2,e1,_,r1,r2⟩:=(ZlW (Jf P.2)).1 h1;obtain⟨ba,bi,bj,a6,a7,_,ak,az⟩:=(ZlW (Jf Q.2)).1 h2;have l1:=Zrl P.2 B.1 r1;have br:=Zrl Q.2 B.2.1 ak;have hl:s1.length=ba.length:=Yp;obtain⟨z1,z2⟩:=Kb (e1.symm.trans a7) hl;subst z1 z2;have aq:=congrArg List.length e1;rw[Qt,Q8]at aq;have aw:s2=o.kids.drop (j+s1.length):=by rw[<-XR,e1,List.drop_left]
   have bd:((j+s1.length:Nat):Int)=(j:Int)+cnt x:=Yp;have ai:=ZkU ho hp gp hq gq hM hM' hN r (j+s1.length) d2 a6 Yp hr (by rw[<-aw];exact r2) (by rw[<-aw];exact az);rw[bd]at ai;refine .inr (.inr ⟨e,⟨B.1,B.2.1,(Z92 P.2).1⟩,Yp,λi i1 i2=>?_,?_,lc.2,p0.1,q0.1,ai⟩)
   .have hi:o.kids.getD i.toNat Tree.nil=s1.getD (i.toNat-j) Tree.nil:=by
     have:(o.kids.drop j).getD (i.toNat-j) Tree.nil=s1.getD (i.toNat-j) Tree.nil:=by rw[e1];exact Zzg Yp
     rw[<-this,Q6,Q6,Qy];congr 2;omega
    have ao:i.toNat<o.kids.length:=Yp;have ae:RT_ (o.kids.getD i.toNat Tree.nil):=ho.kids.1 _ (Ze ao _);have a8:mass (o.kids.getD i.toNat Tree.nil)<=mass o:=by
     have:=ZS (Ze (l:=o.kids) ao Tree.nil);have:=YU o;omega
    have ah:∀y:Op,(∃d,Run [y] s1 d)->y.kind=3->(doE false y.e (o.kids.getD i.toNat Tree.nil)).isSome=true:=by
     rintro y⟨d,hy⟩k3;obtain⟨t,u,et,hd⟩:=Zwf k3 hy;rw[et]at hi l1;have:i.toNat-j=0:=by simp only[Qp]at l1;omega
     rw[this]at hi;rw[hi];show(doE false y.e t).isSome=true;rw[hd];try rfl
    have cP:cE x.p.e<=2*YI p:=by
     by_cases k3:x.p.kind=3;.exact(cp k3).1
     .rw[p0.1 k3];exact QI _
    have cQ:cE x.q.e<=2*YI q:=by
     by_cases k3:x.q.kind=3;.exact(cq k3).1
     .rw[q0.1 k3];exact QI _
    refine⟨ae,λ_ _=>?_,by unfold Y8;omega,λk3=>p3 k3,λk3=>q3 k3⟩;by_cases kp:x.p.kind=3
    .by_cases kq:x.q.kind=3;.exact⟨ae,(p3 kp).1,(p3 kp).2.1,ah _ ⟨_,r1⟩ kp,(q3 kq).1,(q3 kq).2.1,ah _ ⟨_,ak⟩ kq⟩
     .rw[q0.1 kq];exact⟨ae,(p3 kp).1,(p3 kp).2.1,ah _ ⟨_,r1⟩ kp,Z39,Z9Z,ZbC _⟩
    .rw[p0.1 kp];by_cases kq:x.q.kind=3;.exact⟨ae,Z39,Z9Z,ZbC _,(q3 kq).1,(q3 kq).2.1,ah _ ⟨_,ak⟩ kq⟩
     .rw[q0.1 kq];exact⟨ae,Z39,Z9Z,ZbC _,Z39,Z9Z,ZbC _⟩
   .have mP:muM x.p.e<=Zh p:=by
     by_cases k3:x.p.kind=3
     .have:=(cp k3).2;unfold muM;split<;>omega
     .rw[p0.1 k3];exact QI _
    have mQ:muM x.q.e<=Zh q:=by
     by_cases k3:x.q.kind=3;.have:=(cq k3).2;unfold muM;split<;>omega
     .rw[q0.1 k3];exact QI _
    omega
  .have h1:Run (x.p::ZG r) (o.kids.drop j) m:=by
    have:ZG (x::r)=x.p::ZG r:=by rw[ZG,JH];try rfl
    rwa[this]at h1
   have h2:Run (ZF r) (o.kids.drop j) m':=by
    have:ZF (x::r)=ZF r:=by rw[ZF,if_pos e];try rfl
    rwa[this]at h2
   obtain⟨d',_,hd⟩:=(YV (X.one e)).1 h1;exact .inl ⟨e,X.one e,ZkU ho hp gp hq gq hM hM' hN r j d' m' hj hr hd h2⟩
  .have h1:Run (ZG r) (o.kids.drop j) m:=by
    have:ZG (x::r)=ZG r:=by rw[ZG,if_pos e];try rfl
    rwa[this]at h1
   have h2:Run (x.q::ZF r) (o.kids.drop j) m':=by
    have:ZF (x::r)=x.q::ZF r:=by rw[ZF,JH];try rfl
    rwa[this]at h2
   obtain⟨d',_,hd⟩:=(YV (X.two e)).1 h2;exact .inr (.inl ⟨e,X.two e,ZkU ho hp gp hq gq hM hM' hN r j m d' hj hr h1 hd⟩)
theorem ZAy:∀l:List Op,WP l<=2*YI l
 |[]=>Qc _|o::r=>by
  have h:=ZAy r;have d:wP o<=2*Z2y o:=by
   rw[Z3Y];unfold wP cO cE;split<;>split<;>(try split)<;>omega
  rw[WP,YI];omega
theorem Z8L:∀{l:List Op},Z0W l->∀o∈l,Yt o
 |a::r,h,o,ho=>by
  rcases Q9.1 ho with rfl|ho;.exact h.1
  .exact Z8L h.2 o ho
theorem ZCi{o:Op}(h:Yt o):ZV o.l:=by cases o;exact h.2.2.1
theorem ZkW{o:Tree}{p:Edit}(hr:Z8 p (-1)=true)(hd:(doE false p o).isSome=true)(kp:p.kind=3):o.kind=p.list/\∃d,Run p.ops o.kids d:=by
 rw[Jj,Y1,JH,JH,JH,if_pos kp]at hd;split at hd
 .rename_i hk;refine⟨hk,?_⟩;have R:=Zt hr;have ok:∀o∈p.ops,kOk o:=λo ho=>Jf (Z18 R.ops o ho);cases he:Z5J (Y6 false p.ops o.kids [])with|none=>rw[he]at hd;cases hd|some d=>exact⟨d,(ZkB ok).1 he⟩
 .cases hd
structure ListOk(o:Tree)(p q:Edit):Prop where
 k:o.kind=p.list/\o.kind=q.list/\2<=o.kind/\o.kind<=9
 op:Z6H p.ops
 oq:Z6H q.ops
 b:(Zl 2 2 p.ops q.ops []).2.1=true
 fit:Zd3 o (muM p+muM q) (Zl 2 2 p.ops q.ops []).1 0
 w:WP (ZG (Zl 2 2 p.ops q.ops []).1)+WP (ZF (Zl 2 2 p.ops q.ops []).1)+Z5 o.kids+60<=Y8 o p q
 gp:∀x∈(Zl 2 2 p.ops q.ops []).1,ZV x.p.l
 gq:∀x∈(Zl 2 2 p.ops q.ops []).1,ZV x.q.l
theorem OkB.list{o:Tree}{p q:Edit}(h:OkB o p q)(kp:p.kind=3)(kq:q.kind=3)(hm:Y8 o p q<=10000000000):ListOk o p q:=by
 obtain⟨k1,d1,r1⟩:=ZkW h.rp h.dp kp;obtain⟨k2,d2,r2⟩:=ZkW h.rq h.dq kq;have Rp:=Zt h.rp;have Rq:=Zt h.rq;have op:=Z18 Rp.ops;have oq:=Z18 Rq.ops;have hp:∀x∈p.ops,Z9 o.kind x (-2)=true:=λx d=>by rw[k1];exact rightOs_mem Rp.ops d
 have hq:∀x∈q.ops,Z9 o.kind x (-2)=true:=λx d=>by rw[k2];exact rightOs_mem Rq.ops d
 have gp:∀x∈p.ops,Yt x:=Z8L (by have:=h.gp;cases p;exact this.2.2.2.2.2.2);have gq:∀x∈q.ops,Yt x:=Z8L (by have:=h.gq;cases q;exact this.2.2.2.2.2.2);have cp:cE p=2*ctE p:=JH;have cq:cE q=2*ctE q:=JH;have mp:muM p=Zi p:=JH;have mq:muM q=Zi q:=JH;have c1:=Z0d p;have c2:=Z0d q;have m1:=Z2u p;have m2:=Z2u q;have e1:=Z5t p;have e2:=Z5t q;have w1:=ZAy p.ops;have w2:=ZAy q.ops;have mo:=YU o;have p1:=Zv p.old;have p2:=Zv p.new;have p3:=Zv q.old;have p4:=Zv q.new;have eP:Y8 o p q=mass o+cE p+cE q:=rfl;obtain⟨F1,F2⟩:=Z1l _ p.ops q.ops [] (Qc _) op oq;cases hb:(Zl 2 2 p.ops q.ops []).2.1 with|false=>exact absurd r2 (F2 hb _ _ _ r1)|true=>
  obtain⟨ps,e,d,hP,hQ⟩:=F1 hb;rw[Qh]at e;have hs:=ZCr _ p.ops q.ops [] ps (Qc _) op oq hb (by rw[e];rfl);have hf:=ZkU (o:=o) (N:=muM p+muM q) (M:=10000000000) h.t hp gp hq gq Yp (Qc _) Yp ps 0 d1 d2 (QI _) d ((hP _ _).1 r1) ((hQ _ _).1 r2);have hl:=Rp.list kp;have gl:∀{l:List Op}{x:Op},(∀y∈l,Yt y)->Part l x->ZV x.l:=by
   rintro l x hg⟨o',h1,_,_,_,h4⟩;exact Z6m λt ht=>Z2V (ZCi (hg o' h1)) t (h4 t ht)
  refine⟨⟨k1,k2,Yp,Yp⟩,⟨op,Yp⟩,⟨oq,Yp⟩,hb,by rw[e];exact hf,by rw[e];omega,?_,?_⟩
  .rw[e];intro x aa;have X:=d x aa;by_cases h2:x.of=2;.rw[X.pn h2];exact trivial
   .exact gl gp (X.pp h2).1
  .rw[e];intro x aa;have X:=d x aa;by_cases h2:x.of=1;.rw[X.qn h2];exact trivial
   .exact gl gq (X.qq h2).1
theorem Z7X(at_:List PStep)(o:Tree)(s:Sd):(JW at_ o s).next=s.next:=by
 unfold JW;split;.try rfl
 .split<;>rfl
theorem Z7N(f:Bo)(at_:List PStep)(o:Tree)(p q:Op)(s:Sd):(J2 f at_ o p q s).next=s.next+1:=by
 unfold J2;split;.try rfl
 .split;.try rfl
  .split<;>rfl
theorem Zii(f:Bo)(at_:List PStep)(o:Tree)(p q:Op):∀(n:Nat)(s:Sd),(Z0F (J2 f at_ o p q) n s).next=s.next+n|0,s=>by rw[Z0F];omega|n+1,s=>by rw[Z0F,Zii f at_ o p q n,Z7N];omega
theorem ZbJ(x:Piece):1<=cnt x:=by unfold cnt;omega
theorem Z6D(f:Bo)(at_:List PStep)(o:Tree)(s:Sd)(x:Piece):(Zm f at_ o s x).next=if x.of=1\/x.of=2 then s.next else s.next+cnt x:=by
 have:=ZbJ x;unfold Zm;split;.rename_i h;rw[if_pos (.inl h)]
 .split;.rename_i h;rw[if_pos (.inr h)]
  .rw[JH,Zii,Z7X];show s.next+((cnt x).toNat:Int)=_;omega
def ZAA(N:Nat)(f g:Bo):Prop:=∀t a b,OkB t a b->Y8 t a b<=10000000000->muM a+muM b<N->∀at_ cs,f at_ t a b cs=g at_ t a b cs
theorem ZuH{f g:Bo}{N:Nat}(F:ZAA N f g){at_:List PStep}{o:Tree}{p q:Op}{s:Sd}(h:OkK (o.kids.getD s.next.toNat Tree.nil) p q)(hN:muM p.e+muM q.e<N):J2 f at_ o p q s=J2 g at_ o p q s:=by
 unfold J2;split;.try rfl
 .split;.try rfl
  .split;.try rfl
   .rename_i d;rw[F _ _ _ (h.b Yp Yp) h.m hN]
theorem Zih{f g:Bo}{N:Nat}(F:ZAA N f g){at_:List PStep}{o:Tree}{p q:Op}(hN:muM p.e+muM q.e<N):∀(n:Nat)(s:Sd),(∀i,s.next<=i->i<s.next+n->OkK (o.kids.getD i.toNat Tree.nil) p q)->Z0F (J2 f at_ o p q) n s=Z0F (J2 g at_ o p q) n s|0,s,_=>rfl|n+1,s,h=>by rw[Z0F,Z0F,ZuH F (h s.next Yp Yp) hN];exact Zih F hN n _ λi d h2=>by rw[Z7N]at d h2;exact h i Yp Yp
theorem ZiN{f g:Bo}{N:Nat}(F:ZAA N f g){at_:List PStep}{o:Tree}:∀(ps:List Piece)(s:Sd),Zd3 o N ps s.next->ps.foldl (Zm f at_ o) s=ps.foldl (Zm g at_ o) s
 |[],_,_=>rfl|x::r,s,h=>by
  rw[QV,QV];have d:=Z6D g at_ o s x;have e:Zm f at_ o s x=Zm g at_ o s x/\Zd3 o N r (Zm g at_ o s x).next:=by
   rcases h with⟨h1,_,h2⟩|⟨h1,_,h2⟩|⟨h0,_,_,h1,h2,_,_,_,h3⟩;.rw[if_pos (.inl h1)]at d;rw[d];exact⟨by unfold Zm;simp only[if_pos h1],h2⟩
   .rw[if_pos (.inr h1)]at d;rw[d];exact⟨by unfold Zm;simp only[if_pos h1],h2⟩
   .rw[JH]at d;rw[d];refine⟨?_,h3⟩;unfold Zm;rw[JH,JH,JH,JH];refine Zih F h2 _ _ λi i1 i2=>?_;rw[Z7X]at i1 i2;have:=ZbJ x;have e:((max (x.p.n+x.p.l.length) 1).toNat:Int)=cnt x:=by show((cnt x).toNat:Int)=_;omega
    rw[e]at i2;exact h1 i i1 i2
  rw[e.1];exact ZiN F r _ e.2
theorem Zgu{f g:Bo}{N:Nat}(F:ZAA N f g){at_:List PStep}{o:Tree}{p q:Edit}(h:OkB o p q)(hm:Y8 o p q<=10000000000)(kp:p.kind=2)(kq:q.kind=2)(hN:muM p+muM q<=N):∀(n:Nat)(i:Int)(out:List Tree)(cs:List Conflict),0<=i->Z0z f at_ o p.kids q.kids n i out cs=Z0z g at_ o p.kids q.kids n i out cs|0,_,_,_,_=>rfl|n+1,i,out,cs,h0=>by obtain⟨d,k2,k3⟩:=h.kid kp kq h0;rw[Z0z,Z0z,F _ _ _ d Yp Yp];exact Zgu F h hm kp kq hN n (i+1) _ _ Yp
theorem ZeZ{f g:Bo}{N:Nat}(F:ZAA N f g){at_:List PStep}{o:Tree}{p q:Edit}(h:OkB o p q)(hm:Y8 o p q<=10000000000)(hN:muM p+muM q<=N)(cs:List Conflict):Z0e f at_ o p q cs=Z0e g at_ o p q cs:=by
 unfold Z0e;split;.try rfl
 .split;.try rfl
  .split;.rename_i k;unfold Z9s;rw[Zgu F h hm k.1 k.2 hN _ 0 _ _ V0]
   .split;.rename_i k;have L:=h.list k.1 k.2 hm;unfold ZaE Zhp;rw[ZiN (λt a b d h2 h3=>F t a b d h2 Yp) _ ⟨0,[],[],[],cs⟩ L.fit]
    .try rfl
theorem Zh5:∀(n m:Nat)(o:Tree)(p q:Edit),OkB o p q->Y8 o p q<=10000000000->muM p+muM q<n->muM p+muM q<m->∀at_ cs,ZbL n at_ o p q cs=ZbL m at_ o p q cs|0,_,_,_,_,_,_,h,_,_,_=>by omega|n+1,0,_,_,_,_,_,_,h,_,_=>by omega|n+1,m+1,o,p,q,h,hm,h1,h2,at_,cs=>by show Z0e (ZbL n) at_ o p q cs=Z0e (ZbL m) at_ o p q cs;exact ZeZ (N:=muM p+muM q) (λt a b k1 d k3 at_ cs=>Zh5 n m t a b k1 d Yp Yp at_ cs) h hm (Qc _) cs
theorem ZnY{o:Tree}{p q:Edit}(h:OkB o p q)(hm:Y8 o p q<=10000000000)(at_:List PStep)(cs:List Conflict):ZY at_ o p q cs=Z0e ZY at_ o p q cs:=by show Z0e (ZbL (muM p+muM q)) at_ o p q cs=_;refine ZeZ (N:=muM p+muM q) (λt a b k1 d k3 at_ cs=>?_) h hm (Qc _) cs;exact Zh5 _ _ t a b k1 d Yp Yp at_ cs
theorem Ja(a b:List Tree):Z5 (a++b)=Z5 a+Z5 b:=Z5w a b
theorem Z4z(t:Tree):Z5 [t]=mass t:=Xx _
theorem Z2i{a b:List Tree}(ha:ZV a)(hb:ZV b):ZV (a++b):=Z6m λt d=>(Qf.1 d).elim (Z2V ha t) (Z2V hb t)
theorem Z9Y{t:Tree}(h:rng t):ZV [t]:=⟨h,trivial⟩
theorem Zc1(o:Tree)(at_:List PStep)(a b:WEdit)(i:Int)(s:List Int×List Conflict)(h:i<=65534):(JD o at_ a b i s).1.length+(JD o at_ a b i s).2.length<=s.1.length+s.2.length+65600:=by
 unfold JD;split;.dsimp only;rw[Z2g];omega
 .simp;omega
theorem ZoA{P:Int->Prop}(z:P 0){l:List Int}{i:Nat}{x:Int}(hl:∀w∈l,P w)(hx:P x):∀w∈ZK 0 l i x,P w:=by
 intro w d;unfold ZK at d;rcases Xw d with h|h
 .rcases Qf.1 h with h|h;.exact hl w h
  .rw[List.eq_of_mem_replicate h];exact z
 .rw[h];exact hx
theorem Zc0(o:Tree)(at_:List PStep)(a b:WEdit)(i:Int)(s:List Int×List Conflict)(h:∀w∈s.1,isW w):∀w∈(JD o at_ a b i s).1,isW w:=by
 unfold JD;split;.exact ZoA Zzf h (Z25 _ _ _)
 .exact h
theorem Z1t(o:Tree)(at_:List PStep):∀(n:Nat)(p q:List WEdit)(s:List Int×List Conflict),(∀w∈p,w.at_<=65534)->(∀w∈q,w.at_<=65534)->(∀w∈s.1,isW w)->(ZC o at_ n p q s).1.length+(ZC o at_ n p q s).2.length<=s.1.length+s.2.length+65600*(p.length+q.length)/\∀w∈(ZC o at_ n p q s).1,isW w
 |0,_,_,_,_,_,h=>⟨by rw[ZC];omega,h⟩|n+1,p,q,s,hp,hq,h=>by
  have dp:∀w∈p.drop 1,w.at_<=65534:=λw d=>hp w (Ql d);have dq:∀w∈q.drop 1,w.at_<=65534:=λw d=>hq w (Ql d);have g:∀l:List WEdit,(∀w∈l,w.at_<=65534)->(l.getD 0 Ym).at_<=65534:=λl hl=>by cases l with|nil=>decide|cons a r=>exact hl a Q5
  have e1:(p.drop 1).length=p.length-1:=Qt;have e2:(q.drop 1).length=q.length-1:=Qt;rw[ZC];split;.exact⟨Yp,h⟩
  .rename_i ab;split;.rename_i hc;have:=Z1t o at_ n _ _ (JD o at_ (p.getD 0 Ym) Ym (p.getD 0 Ym).at_ s) dp hq (Zc0 o at_ _ _ _ s h);have st:=Zc1 o at_ (p.getD 0 Ym) Ym (p.getD 0 Ym).at_ s (g p hp);exact⟨Yp,this.2⟩
   .split;.have:=Z1t o at_ n _ _ (JD o at_ Ym (q.getD 0 Ym) (q.getD 0 Ym).at_ s) hp dq (Zc0 o at_ _ _ _ s h);have st:=Zc1 o at_ Ym (q.getD 0 Ym) (q.getD 0 Ym).at_ s (g q hq);exact⟨Yp,this.2⟩
    .have:=Z1t o at_ n _ _ (JD o at_ (p.getD 0 Ym) (q.getD 0 Ym) (p.getD 0 Ym).at_ s) dp dq (Zc0 o at_ _ _ _ s h);have st:=Zc1 o at_ (p.getD 0 Ym) (q.getD 0 Ym) (p.getD 0 Ym).at_ s (g p hp);exact⟨Yp,this.2⟩
def kMs(o:Tree):Nat->Int->Nat|0,_=>0|n+1,i=>mass (Zo o i)+kMs o n (i+1)
def kCs(l:List Kid):Nat->Int->Nat|0,_=>0|n+1,i=>cE (YW l i)+kCs l n (i+1)
def cKs:List Kid->Nat|[]=>0|k::r=>cE k.e+cKs r
theorem Zqq(o:Tree):∀(n:Nat)(i:Int),0<=i->kMs o n i<=Z5 (o.kids.drop i.toNat)+(n-(o.kids.length-i.toNat))
 |0,_,_=>QI _|n+1,i,h0=>by
  have h:=Zqq o n (i+1) Yp;rw[show(i+1).toNat=i.toNat+1 by omega]at h;rw[kMs,Jl o h0];by_cases hi:i.toNat<o.kids.length;.rw[QD hi,Z5,Q6,Q1 hi];show mass o.kids[i.toNat]+_<=_;omega
  .rw[Qb Yp]at h⊢;rw[Q6,Qq Yp];show 1+_<=_;simp only[Z5]at h⊢;omega
theorem ZsY:∀(n:Nat)(i:Int),kCs [] n i=0|0,_=>rfl|n+1,i=>by rw[kCs,ZsY n];try rfl
theorem Znr(k:Kid)(r:List Kid):∀(n:Nat)(i:Int),kCs (k::r) n i<=kCs r n i+(if i<=k.at_/\k.at_<i+n then cE k.e else 0)
 |0,_=>QI _|n+1,i=>by
  have h:=Znr k r n (i+1);rw[kCs,kCs,YW];split
  .rename_i e;rw[JH]at h;rw[Y3];omega
  .by_cases hk:i+1<=k.at_/\k.at_<i+1+n;.rw[if_pos hk]at h;rw[Y3];omega
   .rw[if_neg hk]at h;rw[JH];omega
theorem Zgz:∀(l:List Kid)(n:Nat)(i:Int),kCs l n i<=cKs l|[],n,i=>by rw[ZsY];exact QI _|k::r,n,i=>by have h:=Znr k r n i;have d:=Zgz r n i;rw[cKs];split at h<;>omega
theorem Z9j:∀l:List Kid,cKs l+131200*l.length<=2*Z0S l|[]=>Qc _|k::r=>by have h:=Z9j r;rw[cKs,Z0S,Z3q,Qa];unfold cE;split<;>omega
theorem Z2x{l:List Kid}{n:Int}(h0:0<=n)(h:∀k∈l,k.at_<=65534):n<=Jn l n/\Jn l n<=n+65535*l.length:=by
 unfold Jn;split
 .rename_i hl;have:=h _ (Ze (l:=l) (i:=l.length-1) Yp (KidOf.mk 0 Edit.nil));omega
 .omega
def ZbP(N:Nat)(f:Bo):Prop:=∀t a b,OkB t a b->Y8 t a b<=10000000000->muM a+muM b<N->∀at_ cs,mass (f at_ t a b cs).1+(f at_ t a b cs).2.length<=Y8 t a b+cs.length/\rng (f at_ t a b cs).1
theorem ZdM{f:Bo}{N:Nat}(F:ZbP N f){at_:List PStep}{o:Tree}{p q:Edit}(h:OkB o p q)(hm:Y8 o p q<=10000000000)(kp:p.kind=2)(kq:q.kind=2)(hN:muM p+muM q<=N):∀(n:Nat)(i:Int)(out:List Tree)(cs:List Conflict),0<=i->ZV out->Z5 (Z0z f at_ o p.kids q.kids n i out cs).1+(Z0z f at_ o p.kids q.kids n i out cs).2.length<=Z5 out+cs.length+kMs o n i+kCs p.kids n i+kCs q.kids n i/\ZV (Z0z f at_ o p.kids q.kids n i out cs).1|0,_,out,cs,_,hr=>⟨by rw[Z0z,kMs,kCs,kCs];dsimp only;omega,hr⟩|n+1,i,out,cs,h0,hr=>by obtain⟨k1,k2,k3⟩:=h.kid kp kq h0;have d:=F _ _ _ k1 Yp Yp (at_++[PStep.mk 0 i]) cs;have h2:=ZdM F (at_:=at_) h hm kp kq hN n (i+1) (out++[(f (at_++[PStep.mk 0 i]) (Zo o i) (YW p.kids i) (YW q.kids i) cs).1]) (f (at_++[PStep.mk 0 i]) (Zo o i) (YW p.kids i) (YW q.kids i) cs).2 Yp (Z2i hr (Z9Y d.2));rw[Ja,Z4z]at h2;rw[Z0z,kMs,kCs,kCs];unfold Y8 at d;exact⟨Yp,h2.2⟩
theorem Zot{f:Bo}{N:Nat}(F:ZbP N f){at_:List PStep}{o:Tree}{p q:Edit}(h:OkB o p q)(hm:Y8 o p q<=10000000000)(kp:p.kind=2)(kq:q.kind=2)(hN:muM p+muM q<=N)(cs:List Conflict):mass (Z9s f at_ o p q cs).1+(Z9s f at_ o p q cs).2.length<=Y8 o p q+cs.length/\rng (Z9s f at_ o p q cs).1:=by
 have Rp:=Zt h.rp;have Rq:=Zt h.rq;have wp:=λw d=>(Yw Rp.words w d).2.1;have wq:=λw d=>(Yw Rq.words w d).2.1;have aa:=λk hk=>(ZD Rp.kids k hk).1.2.1;have ae:=λk hk=>(ZD Rq.kids k hk).1.2.1;have W:=Z1t o at_ (p.words.length+q.words.length) p.words q.words (o.words,cs) wp wq (Z8I h.t.2);have K:=ZdM F (at_:=at_) h hm kp kq hN (Yd o p.kids q.kids).toNat 0 [] (ZC o at_ (p.words.length+q.words.length) p.words q.words (o.words,cs)).2 V0 trivial;have M:=Zqq o (Yd o p.kids q.kids).toNat 0 V0;have C1:=Zgz p.kids (Yd o p.kids q.kids).toNat 0;have C2:=Zgz q.kids (Yd o p.kids q.kids).toNat 0;have D1:=Z9j p.kids;have D2:=Z9j q.kids;have L1:=Z2x (l:=p.kids) (n:=o.kids.length) Yp aa;have L2:=Z2x (l:=q.kids) (n:=Jn p.kids o.kids.length) Yp ae;have eC:Yd o p.kids q.kids=Jn q.kids (Jn p.kids o.kids.length):=rfl;have cp:cE p=2*ctE p:=JH;have cq:cE q=2*ctE q:=JH;have c1:=Z0d p;have c2:=Z0d q;have eo:mass o=1+o.words.length+Z5 o.kids:=by cases o;rfl
 unfold Z9s Y8;simp only[Z5,QC,XE,mass]at K M⊢;dsimp only at W;refine⟨Yp,?_,W.2,K.2⟩;omega
def pot(s:Sd):Nat:=Z5 s.out+2*Z5 s.mine+Z5 s.hers+s.cs.length
structure SdR(s:Sd):Prop where
 o:ZV s.out
 m:ZV s.mine
 h:ZV s.hers
theorem Zuv:∀{l:List Tree},l.length≠0->1<=Z5 l|t::r,_=>by have:=Zv t;rw[Z5];omega
theorem ZgJ(at_:List PStep)(o:Tree)(s:Sd):pot (JW at_ o s)<=pot s:=by
 unfold JW pot;split;.dsimp only;rw[Ja];simp only[Z5];omega
 .split;.dsimp only;rw[Ja];simp only[Z5];omega
  .rename_i h _;have:=Zuv (l:=s.mine) (λe=>h (.inl e));dsimp only;rw[Q8,Qp];simp only[Z5];omega
theorem ZgI(at_:List PStep)(o:Tree){s:Sd}(h:SdR s):SdR (JW at_ o s):=by
 unfold JW;split;.exact⟨Z2i h.o h.h,trivial,trivial⟩
 .split;.exact⟨Z2i h.o h.m,trivial,trivial⟩
  .exact⟨h.o,trivial,trivial⟩
theorem Znq{f:Bo}{N:Nat}(F:ZbP N f){at_:List PStep}{o:Tree}{p q:Op}{s:Sd}(h:OkK (o.kids.getD s.next.toNat Tree.nil) p q)(hN:muM p.e+muM q.e<N)(hp:p.kind≠3->p.e=Edit.nil)(hq:q.kind≠3->q.e=Edit.nil)(hs:SdR s):pot (J2 f at_ o p q s)<=pot s+mass (o.kids.getD s.next.toNat Tree.nil)+cO p+cO q/\SdR (J2 f at_ o p q s):=by
 unfold J2;split
 .rename_i k;have h3:=h.qk k.2;have c:1<=cO q:=by have:=(Zl4 (h.qk k.2).2.2).1;unfold cO;rw[if_pos k.2];omega
  unfold pot;dsimp only;rw[Ja,Z4z,Q8,Qp];exact⟨Yp,Z2i hs.o (Z9Y h.rt.2),hs.m,hs.h⟩
 .split
  .rename_i k;have c:1<=cO p:=by have:=(Zl4 (h.pk k.1).2.2).1;unfold cO;rw[if_pos k.1];omega
   unfold pot;dsimp only;rw[Ja,Z4z,Q8,Qp];exact⟨Yp,Z2i hs.o (Z9Y h.rt.2),hs.m,hs.h⟩
  .split;.unfold pot;dsimp only;exact⟨Yp,hs.o,hs.m,hs.h⟩
   .rename_i h1;have d:=F _ _ _ (h.b Yp Yp) h.m hN (at_++[PStep.mk 0 s.next]) s.cs;have c1:cE p.e=cO p:=by
     unfold cO;split;.try rfl
     .rename_i k;rw[hp k];try rfl
    have c2:cE q.e=cO q:=by
     unfold cO;split;.try rfl
     .rename_i k;rw[hq k];try rfl
    unfold pot;dsimp only;rw[Ja,Z4z];unfold Y8 at d;exact⟨Yp,Z2i hs.o (Z9Y d.2),hs.m,hs.h⟩
theorem Zmp{f:Bo}{N:Nat}(F:ZbP N f){at_:List PStep}{o:Tree}{p q:Op}(hN:muM p.e+muM q.e<N)(hp:p.kind≠3->p.e=Edit.nil)(hq:q.kind≠3->q.e=Edit.nil):∀(n:Nat)(s:Sd),0<=s.next->s.next+n<=o.kids.length->(∀i,s.next<=i->i<s.next+n->OkK (o.kids.getD i.toNat Tree.nil) p q)->SdR s->pot (Z0F (J2 f at_ o p q) n s)+Z5 (o.kids.drop (s.next+n).toNat)<=pot s+Z5 (o.kids.drop s.next.toNat)+n*(cO p+cO q)/\SdR (Z0F (J2 f at_ o p q) n s)
 |0,s,_,_,_,hs=>by rw[Z0F];exact⟨by simp,hs⟩|n+1,s,h0,hl,h,hs=>by
  have h1:=Znq F (at_:=at_) (h s.next Yp Yp) hN hp hq hs;have hn:=Z7N f at_ o p q s;have d:=Zmp F (at_:=at_) (o:=o) hN hp hq n (J2 f at_ o p q s) Yp Yp (λi i1 i2=>h i Yp Yp) h1.2;rw[Z0F];rw[hn]at d;rw[show s.next+1+(n:Int)=s.next+((n+1:Nat):Int)by omega,show(s.next+1).toNat=s.next.toNat+1 by omega]at d;have hk:s.next.toNat<o.kids.length:=Yp;have e:Z5 (o.kids.drop s.next.toNat)=mass (o.kids.getD s.next.toNat Tree.nil)+Z5 (o.kids.drop (s.next.toNat+1)):=by rw[QD hk,Z5,Q6,Q1 hk];try rfl
  rw[QL,Nat.one_mul,e];exact⟨Yp,d.2⟩
theorem Zby{f:Bo}{N:Nat}(F:ZbP N f){at_:List PStep}{o:Tree}:∀(ps:List Piece)(s:Sd),0<=s.next->Zd3 o N ps s.next->(∀x∈ps,ZV x.p.l)->(∀x∈ps,ZV x.q.l)->SdR s->pot (ps.foldl (Zm f at_ o) s)<=pot s+Z5 (o.kids.drop s.next.toNat)+WP (ZG ps)+WP (ZF ps)/\SdR (ps.foldl (Zm f at_ o) s)
 |[],s,_,_,_,_,hs=>⟨by show pot s<=_;omega,hs⟩|x::r,s,h0,h,g1,g2,hs=>by
  rw[QV];have d:=Z6D f at_ o s x;have ab:=λy hy=>g1 y (Q3 _ hy);have aa:=λy hy=>g2 y (Q3 _ hy);rcases h with⟨h1,hk,h2⟩|⟨h1,hk,h2⟩|⟨k0,_,hl,hO,hN,hc,hp,hq,h3⟩
  .rw[if_pos (.inl h1)]at d;have e:Zm f at_ o s x=⟨s.next,s.out,s.mine++x.p.l,s.hers,s.cs⟩:=by unfold Zm;rw[if_pos h1]
   have R:=Zby F (at_:=at_) r (Zm f at_ o s x) Yp (by rw[d];exact h2) ab aa (by rw[e];exact⟨hs.o,Z2i hs.m (g1 x Q5),hs.h⟩);have e1:ZG (x::r)=x.p::ZG r:=by rw[ZG,JH];try rfl
   have e2:ZF (x::r)=ZF r:=by rw[ZF,if_pos h1];try rfl
   rw[d]at R;have ep:pot (Zm f at_ o s x)=pot s+2*Z5 x.p.l:=by rw[e];unfold pot;dsimp only;rw[Ja];omega
   have ew:2*Z5 x.p.l<=wP x.p:=by unfold wP;rw[if_pos hk];omega
   rw[e1,e2,WP];exact⟨Yp,R.2⟩
  .rw[if_pos (.inr h1)]at d;have e:Zm f at_ o s x=⟨s.next,s.out,s.mine,s.hers++x.q.l,s.cs⟩:=by unfold Zm;rw[JH,if_pos h1]
   have R:=Zby F (at_:=at_) r (Zm f at_ o s x) Yp (by rw[d];exact h2) ab aa (by rw[e];exact⟨hs.o,hs.m,Z2i hs.h (g2 x Q5)⟩);have e1:ZG (x::r)=ZG r:=by rw[ZG,if_pos h1];try rfl
   have e2:ZF (x::r)=x.q::ZF r:=by rw[ZF,JH];try rfl
   rw[d]at R;have ep:pot (Zm f at_ o s x)=pot s+Z5 x.q.l:=by rw[e];unfold pot;dsimp only;rw[Ja];omega
   have ew:2*Z5 x.q.l<=wP x.q:=by unfold wP;rw[if_pos hk];omega
   rw[e1,e2,WP];exact⟨Yp,R.2⟩
  .rw[JH]at d;have cp:=ZbJ x;have e:Zm f at_ o s x=Z0F (J2 f at_ o x.p x.q) (cnt x).toNat (JW at_ o s):=by unfold Zm;rw[JH,JH];try rfl
   have gn:=Z7X at_ o s;have gp:=ZgJ at_ o s;have P:=Zmp F (at_:=at_) (o:=o) hN hp hq (cnt x).toNat (JW at_ o s) Yp Yp (λi i1 i2=>hO i Yp Yp) (ZgI at_ o hs);rw[<-e,gn,show s.next+((cnt x).toNat:Int)=s.next+cnt x by omega]at P;have R:=Zby F (at_:=at_) r (Zm f at_ o s x) Yp (by rw[d];exact h3) ab aa P.2;rw[d]at R;have e1:ZG (x::r)=x.p::ZG r:=by rw[ZG,JH];try rfl
   have e2:ZF (x::r)=x.q::ZF r:=by rw[ZF,JH];try rfl
   have ew:(cnt x).toNat*(cO x.p+cO x.q)<=wP x.p+wP x.q:=by
    unfold wP;by_cases k:x.p.kind=3\/x.q.kind=3;.rw[hc k];show 1*_<=_;omega
    .have z1:cO x.p=0:=if_neg (λe=>k (.inl e));have z2:cO x.q=0:=if_neg (λe=>k (.inr e));rw[z1,z2];exact QI _
   rw[e1,e2,WP,WP];exact⟨Yp,R.2⟩
theorem ZpN{f:Bo}{N:Nat}(F:ZbP N f){at_:List PStep}{o:Tree}{p q:Edit}(h:OkB o p q)(hm:Y8 o p q<=10000000000)(kp:p.kind=3)(kq:q.kind=3)(hN:muM p+muM q<=N)(cs:List Conflict):mass (ZaE f at_ o p q cs).1+(ZaE f at_ o p q cs).2.length<=Y8 o p q+cs.length/\rng (ZaE f at_ o p q cs).1:=by
 have L:=h.list kp kq hm;have P:=Zby (λt a b d h2 h3=>F t a b d h2 Yp) (at_:=at_) (Zl 2 2 p.ops q.ops []).1 ⟨0,[],[],[],cs⟩ (QY 0) L.fit L.gp L.gq ⟨trivial,trivial,trivial⟩;have G:=ZgJ at_ o ((Zl 2 2 p.ops q.ops []).1.foldl (Zm f at_ o) ⟨0,[],[],[],cs⟩);have R:=ZgI at_ o P.2;have w:=L.w;have ok:=L.k;unfold ZaE;have e0:pot ⟨0,[],[],[],cs⟩=cs.length:=by unfold pot;simp[Z5]
 rw[e0]at P;simp only[XE,QC]at P;have e1:Z5 (Zhp f at_ o p q cs).out+(Zhp f at_ o p q cs).cs.length<=pot (Zhp f at_ o p q cs):=by unfold pot;omega
 have e2:pot (Zhp f at_ o p q cs)<=pot ((Zl 2 2 p.ops q.ops []).1.foldl (Zm f at_ o) ⟨0,[],[],[],cs⟩):=G;dsimp only;refine⟨?_,?_,by simp,R.o⟩;.simp only[mass,Qm];omega
 .omega
theorem ZlN{f:Bo}{N:Nat}(F:ZbP N f){at_:List PStep}{o:Tree}{p q:Edit}(h:OkB o p q)(hm:Y8 o p q<=10000000000)(hN:muM p+muM q<=N)(cs:List Conflict):mass (Z0e f at_ o p q cs).1+(Z0e f at_ o p q cs).2.length<=Y8 o p q+cs.length/\rng (Z0e f at_ o p q cs).1:=by
 have dp:=ZdY h.rp h.gp h.t.2;have dq:=ZdY h.rq h.gq h.t.2;unfold Z0e;split;.unfold Y8;exact⟨V1,dq.2⟩
 .rename_i k;split;.unfold Y8;exact⟨V1,dp.2⟩
  .split;.rename_i k;exact Zot F h hm k.1 k.2 hN cs
   .split;.rename_i k;exact ZpN F h hm k.1 k.2 hN cs
    .split;.unfold Y8;exact⟨V1,dp.2⟩
     .have:=(Zl4 k).1;unfold Y8;refine⟨?_,h.t.2⟩;dsimp only;rw[Q8,Qp];omega
theorem Ze1:∀n:Nat,ZbP n (ZbL n)|0,_,_,_,_,_,h,_,_=>by omega|n+1,t,a,b,h,hm,hN,at_,cs=>ZlN (Ze1 n) h hm Yp cs
theorem Z3Z(N:Nat):ZbP N ZY:=λt a b h d _ at_ cs=>Ze1 (muM a+muM b+1) t a b h d Yp at_ cs
noncomputable section
def Zlk:ArgL (Tree×Tree×Int×Unit):=(.cons (aEl .tree) (.cons (aEl .tree) (.cons (ZR .i64) .nil)))
def Zdo(a:Tree×Tree×Int×Unit):Prop:=(mass a.1+mass a.2.1<=1000000/\rng a.1/\rng a.2.1)
def ZxJ(a:Tree×Tree×Int×Unit):Nat:=8*(mass a.1+mass a.2.1)+3
def Zdj(a:Tree×Tree×Int×Unit):V U:=.agg (enc .edit (Z1s a.2.2.1 a.1 a.2.1))
def Zc7:Fs U:=fs Zlk (λa=>[Zdo a]) Zdj
def ZCF(a:Tree×Tree×Int×Unit):Nat:=8*(mass a.1+mass a.2.1)+2
def Zmi(a:Tree×Tree×Int×Unit):V U:=.agg (enc .edit (Jz (Z1s a.2.2.1) a.1 a.2.1))
def Zw0:Fs U:=fs Zlk (λa=>[Zdo a]) Zmi
def Zid(a:Tree×Tree×Int×Unit):V U:=.agg (enc .edit (Z2v (λx y=>Z1r (Z1s a.2.2.1 x y)) a.2.2.1 a.1 a.2.1))
def ZvZ:Fs U:=fs Zlk (λa=>[Zdo a]) Zid
def Zla:ArgL (List SStep×Tree×Tree×Int×Unit):=(.cons (aSl .sstep) (.cons (aEl .tree) (.cons (aEl .tree) (.cons (ZR .i64) .nil))))
def Ziq(a:List SStep×Tree×Tree×Int×Unit):Prop:=(mass a.2.1+mass a.2.2.1<=1000000/\rng a.2.1/\rng a.2.2.1)/\Zef a.1 (a.2.1.kids.length:Int) (a.2.2.1.kids.length:Int)
def ZxI(a:List SStep×Tree×Tree×Int×Unit):Nat:=8*(mass a.2.1+mass a.2.2.1)+1
def Zmg(a:List SStep×Tree×Tree×Int×Unit):V U:=.c (sU .op (YM (Z3k (λx y=>Z1r (Z1s a.2.2.2.1 x y))) a.1 a.2.1.kids a.2.2.1.kids) .unk)
def ZvS:Fs U:=fs Zla (λa=>[Ziq a]) Zmg
def Zl8:ArgL (Int×List Tree×List Tree×Int×Unit):=(.cons (ZR .i64) (.cons (aSl .tree) (.cons (aSl .tree) (.cons (ZR .i64) .nil))))
def ZmA(a:Int×List Tree×List Tree×Int×Unit):Prop:=(Z5 a.2.1+Z5 a.2.2.1<=1000000/\ZV a.2.1/\ZV a.2.2.1)
def ZCD(a:Int×List Tree×List Tree×Int×Unit):Nat:=8*(Z5 a.2.1+Z5 a.2.2.1)+4
def Zme(a:Int×List Tree×List Tree×Int×Unit):V U:=.c (sU .op (Z3k (λx y=>Z1r (Z1s a.2.2.2.1 x y)) a.2.1 a.2.2.1) .unk)
def ZvR:Fs U:=fs Zl8 (λa=>[ZmA a]) Zme
def Z2H(N:Nat):List (FuncId×Fs U):=(21,fs Zlk (λa=>[Zdo a,ZxJ a<N]) Zdj)::(39,fs Zlk (λa=>[Zdo a,ZCF a<N]) Zmi)::(41,fs Zlk (λa=>[Zdo a,ZCF a<N]) Zid)::(69,fs Zla (λa=>[Ziq a,ZxI a<N]) Zmg)::(87,fs Zl8 (λa=>[ZmA a,ZCD a<N]) Zme)::[(38,Ys),(40,ZjM),(63,Z1v),(64,Z1X),(65,ZjL),(66,ZjK),(67,ZjJ),(68,Z8B),(86,ZjH),(88,ZjG),(107,Zek),(108,Zej)]
def ZIf:Za U:=lvl [([2,3,4,6],[3,4,6]),([2,3,4,6,7],[3,4,6]),([6],[6]),([2,3,4,6,12],[3,4,6]),([6],[6]),([2,3,4,6,25],[3,4,6]),([6],[6]),([6],[6])]
abbrev A21(N:Nat)(p:List Nat):=AW (Z2 (Z2H N)) Tryz.f21 ZIf p
theorem ZNU(N:Nat)(a b:Tree)(most:Int)(Q:QT)(h:∀aa,aa=a->∀d,d=b->let z0:=a.kind==b.kind;((Z2J (aa,d,()))/\(iB (ZN (Z0 aa) (Z0 d)) ((Q .ret (L2 [pL 6] [(.loc 6,zc1)]))) ((Tt (a.kind==1))/\(Tt (a.kind==1))/\(Tt (a.kind==1))/\(iB (bif(a.kind==1)then(b.kind==1)else false) ((Zdo (aa,d,most,()))/\(ZCF (aa,d,most,())<N)/\(Q .ret (L2 [pL 6] [(.loc 6,(enc .edit (Jz (Z1s most) aa d)))]))) ((Tt z0)/\(Tt z0)/\(z0=true->Zxh (a.kind,()))/\(Tt z0)/\(iB (bif z0 then(decide (2<=a.kind/\a.kind<=9))else false) ((Zdo (aa,d,most,()))/\(ZCF (aa,d,most,())<N)/\(Q .ret (L2 [pL 6] [(.loc 6,(enc .edit (Z2v (λx y=>Z1r (Z1s most x y)) most aa d)))]))) ((Q .ret (L2 [pL 6] [(.loc 6,([ci 1]++enc .tree a++enc .tree b++[.nils,.nils,ci 0,.nils]))])))))))))):A21 N [] (L2 [(0,.agg (enc .tree a)),(1,.agg (enc .tree b)),pI 2 most] []) Q:=(Eq.mpr V3 (h _ (Z3 _) _ (Z3 _)):)
abbrev ZKA(N:Nat)(a b:Tree)(most:Int):Prop:=AW (Z2 (Z2H N)) Tryz.f21 ZIf [] (Zg (Zlk.can (a,b,most,())) []) (EQ Tryz.f21 (Zdj (a,b,most,())) [])
abbrev ZMt:Prop:=∀(N:Nat)(a:Tree)(b:Tree)(most:Int)(_:Unit),Zdo (a,b,most,())->ZxJ (a,b,most,())<N+1->ZKA N a b most
def Zqb(N:Nat):List (FuncId×Fs U):=Z2H N
def ZDw:Za U:=lvk [([2,3,4,6],[3,4,6]),([2,3,4,6,7],[3,4,6,7]),([2,3,4,6,7,20,21],[3,4,6,((.loc 7),(an 7 [.own .wedit]))]),([2,3,4,6,7,20,21,22],[3,4,6,7]),([2,3,4,6,7,8,20,21],[3,4,6,7]),([2,3,4,6,7,9,10,20,21],[3,4,6,7,9]),([2,3,4,6,7,9,20,21,35],[3,4,6,7,9]),([2,3,4,6,7,20,21],[3,4,6,7]),([2,3,4,6,7,20,21],[3,4,6,((.loc 7),(an 7 [.own .wedit]))]),([2,3,4,6,7,49,50],[3,4,6,((.loc 7),(an 8 [.own .kid]))]),([2,3,4,6,7,49,50,51],[3,4,6,7]),([2,3,4,6,7,11,49,50],[3,4,6,7]),([2,3,4,6,7,11,12,49,50],[3,4,6,7,12]),([2,3,4,6,7,11,12,49,50,63],[3,4,6,7,12]),([2,3,4,6,7,49,50],[3,4,6,7]),([2,3,4,6,7,49,50],[3,4,6,((.loc 7),(an 8 [.own .kid]))]),([6],[6])]
def Z72(a b:Tree)(most aa:Int)(d:List WEdit):LSt U:=(L2 [pI 2 most,pL 3,pL 4,pL 6,pL 7,pI 20 (if((a.words.length:Int):Int)<(b.words.length:Int)then(b.words.length:Int)else(a.words.length:Int)),pI 21 aa] [(.loc 3,(enc .tree a)),(.loc 4,(enc .tree b)),(.loc 6,zc1),(.loc 7,[ci 2,ci 0,.nils,.nils,ci 0,.nils,.nils,sU .wedit d (.own (.l 7 7)),.nils,ci 0,.nils])])
def Z71(a b:Tree)(most:Int)(ab:List WEdit)(aa:Int)(d:List Kid):LSt U:=(L2 [pI 2 most,pL 3,pL 4,pL 6,pL 7,pI 49 (if((a.kids.length:Int):Int)<(b.kids.length:Int)then(b.kids.length:Int)else(a.kids.length:Int)),pI 50 aa] [(.loc 3,(enc .tree a)),(.loc 4,(enc .tree b)),(.loc 6,zc1),(.loc 7,[ci 2,ci 0,.nils,.nils,ci 0,.nils,.nils,sU .wedit ab (.own (.l 7 7)),sU .kid d (.own (.l 7 8)),ci 0,.nils])])
abbrev A39(N:Nat)(p:List Nat):=AW (Z2 (Zqb N)) Tryz.f39 ZDw p
abbrev S39(N:Nat)(p:List Nat):=SW (Z2 (Zqb N)) Tryz.f39 ZDw p
theorem ZND(N:Nat)(a b:Tree)(most:Int)(Q:QT)(h:(Zk (A39 N [1,1,0,1,0,0]) (Z72 a b most 0 []) (xB 0 (S39 N [1,1,1] Q)))):A39 N [] (L2 [(0,.agg (enc .tree a)),(1,.agg (enc .tree b)),pI 2 most] []) Q:=(Eq.mpr V3 h:)
theorem ZBC(N:Nat)(a b:Tree)(most d:Int)(aa:List WEdit)(N0:NT)(Q:QT)(h:∀ab,ab=a->∀ae,ae=b->∀af,af=(if Y7 (Zs ab d) (Zs ae d)=0 then WEdit.mk 0 0 0 0 else Z3w d (Zs ab d) (Zs ae d))->(iB (decide (d<(if((a.words.length:Int):Int)<(b.words.length:Int)then(b.words.length:Int)else(a.words.length:Int)))) (((Z6A (ab,d,()))/\(Z6A (ae,d,()))/\(Zxc (d,(Zs ab d),(Zs ae d),()))/\(iB (decide (Y7 (Zs ab d) (Zs ae d)≠0)) (((aa.length+([af]).length)*32<=140737488355328)/\((InR (d+1))/\(N0 (Z72 a b most (d+1) (aa++([af])))))) ((InR (d+1))/\(N0 (Z72 a b most (d+1) aa)))))) ((Zk (A39 N [1,1,1,0,1,0,0]) (Z71 a b most aa 0 []) (xB 2 (S39 N [1,1,1,1] Q)))))):A39 N [1,1,0,1,0,0] (Z72 a b most d aa) (xT N0 (xB 0 (S39 N [1,1,1] Q))):=(Eq.mpr V3 (h _ (Z3 _) _ (Z3 _) _ (Z5l _)):)
theorem ZBB(N:Nat)(a b:Tree)(most:Int)(ab:List WEdit)(d:Int)(aa:List Kid)(N1:NT)(Q:QT)(h:∀ah,ah=a->∀aj,aj=b->∀af,af=(Zo ah d)->∀ae,ae=(Zo aj d)->∀ai,ai=(Z1s most af ae)->(iB (decide (d<(if((a.kids.length:Int):Int)<(b.kids.length:Int)then(b.kids.length:Int)else(a.kids.length:Int)))) (((Z6A (ah,d,()))/\(Z6A (aj,d,()))/\(Zdo (af,ae,most,()))/\(ZxJ (af,ae,most,())<N)/\(iB (((Edit.kind (Z1s most af ae)):Int)!=0) (((aa.length+([(KidOf.mk d ai)]).length)*208<=140737488355328)/\((InR (d+1))/\(N1 (Z71 a b most ab (d+1) (aa++([(KidOf.mk d ai)])))))) ((InR (d+1))/\(N1 (Z71 a b most ab (d+1) aa)))))) ((Q .ret (L2 [pL 6] [(.loc 6,[ci 2,ci 0,.nils,.nils,ci 0,.nils,.nils,sU .wedit ab (.own (.l 6 7)),sU .kid aa (.own (.l 6 8)),ci 0,.nils])]))))):A39 N [1,1,1,0,1,0,0] (Z71 a b most ab d aa) (xT N1 (xB 2 (S39 N [1,1,1,1] Q))):=(Eq.mpr V3 (h _ (Z3 _) _ (Z3 _) _ (Z3 _) _ (Z3 _) _ (Zj _)):)
abbrev ZKj(N:Nat)(a b:Tree)(most:Int):Prop:=AW (Z2 (Zqb N)) Tryz.f39 ZDw [] (Zg (Zlk.can (a,b,most,())) []) (EQ Tryz.f39 (Zmi (a,b,most,())) [])
abbrev ZMm:Prop:=∀(N:Nat)(a:Tree)(b:Tree)(most:Int)(_:Unit),Zdo (a,b,most,())->ZCF (a,b,most,())<N+1->ZKj N a b most
def ZI8:Za U:=lvl [([2,3,4,6],[3,4,6]),([2,3,4,6,7],[3,4,6,12]),([2,3,4,6,7,8],[3,4,6,12]),([2,3,4,6,9,10],[3,4,6]),([2,3,4,6,9,28],[3,4,6]),([2,3,4,6,9],[3,4,6]),([6],[6])]
abbrev A41(N:Nat)(p:List Nat):=AW (Z2 (Zqb N)) Tryz.f41 ZI8 p
theorem ZNB(N:Nat)(a b:Tree)(most:Int)(Q:QT)(h:∀d,d=a->∀aa,aa=b->∀af,af=(ofF ((ofF ([]:List Tree) a.kids).1) b.kids)->∀ae,ae=(Z61 ([(SStep.mk 1 (a.kids.length:Int)),(SStep.mk 2 (b.kids.length:Int))]))->∀ab,ab=(Z65 ((ofF ([]:List Tree) a.kids).2) (af.2) most)->((Zs0 ((([]:List Tree),()),a.kids,()))/\((Zs0 ((((ofF ([]:List Tree) a.kids).1),()),b.kids,()))/\(Zx8 (((ofF ([]:List Tree) a.kids).2),(af.2),most,()))/\(iB (!(ab.2)) ((ZrZ (([(SStep.mk 1 (a.kids.length:Int)),(SStep.mk 2 (b.kids.length:Int))]),()))/\((Ziq (ae,d,aa,most,()))/\(ZxI (ae,d,aa,most,())<N)/\(Q .ret (L2 [pL 6] [(.loc 6,[ci 3,ci 0,.nils,.nils,ci 0,.nils,.nils,.nils,.nils,ci a.kind,sU .op (YM (Z3k (λx y=>Z1r (Z1s most x y))) ae d.kids aa.kids) .unk])])))) ((Ziq ((ab.1),d,aa,most,()))/\(ZxI ((ab.1),d,aa,most,())<N)/\(Q .ret (L2 [pL 6] [(.loc 6,[ci 3,ci 0,.nils,.nils,ci 0,.nils,.nils,.nils,.nils,ci a.kind,sU .op (YM (Z3k (λx y=>Z1r (Z1s most x y))) (ab.1) d.kids aa.kids) .unk])]))))))):A41 N [] (L2 [(0,.agg (enc .tree a)),(1,.agg (enc .tree b)),pI 2 most] []) Q:=(Eq.mpr V3 (h _ (Z3 _) _ (Z3 _) _ rfl _ rfl _ rfl):)
abbrev ZKh(N:Nat)(a b:Tree)(most:Int):Prop:=AW (Z2 (Zqb N)) Tryz.f41 ZI8 [] (Zg (Zlk.can (a,b,most,())) []) (EQ Tryz.f41 (Zid (a,b,most,())) [])
abbrev ZMl:Prop:=∀(N:Nat)(a:Tree)(b:Tree)(most:Int)(_:Unit),Zdo (a,b,most,())->ZCF (a,b,most,())<N+1->ZKh N a b most
def ZDm:Za U:=lvk [([0,3,5,6],[5,6]),([0,3,5,6,9],[5,6]),([0,3,5,9,10,11],[5]),([0,3,5,(9,[.own .op]),10,11,12],[5]),([0,3,5,9,10,11,12,22],[5]),([0,3,5,(9,[.own .op]),10,11,12],[5]),([0,3,5,9,10,11,12,13],[5]),([0,3,5,9,10,11,12],[5]),([0,3,5,9,10,11,12,13,39],[5]),([0,3,5,9,10,11,12],[5]),([0,3,5,9,10,11,12,13,57],[5]),([0,3,5,9,10,11,12],[5]),([0,3,5,9,10,11,12,13,73],[5]),([0,3,5,9,10,11,12,13,14],[5]),([0,3,5,9,10,11,12,13,14],[5]),([0,3,5,9,10,11,12],[5]),([0,3,5,9,10,11,12],[5]),([8],[])]
def Z3g(l:List SStep)(a b:Tree)(most:Int)(d ab:List Tree)(aa:Int)(x9:List Op):LSt U:=(L2 [(0,.c (sU .sstep l .unk)),pI 3 most,pL 5,(9,.c (sU .op x9 (.own (.e 9 0)))),(10,.c (sU .tree d .unk)),(11,.c (sU .tree ab .unk)),pI 12 aa] [(.loc 5,(enc .tree a))])
abbrev A69(N:Nat)(p:List Nat):=AW (Z2 (Zqb N)) Tryz.f69 ZDm p
abbrev S69(N:Nat)(p:List Nat):=SW (Z2 (Zqb N)) Tryz.f69 ZDm p
theorem ZNb(N:Nat)(l:List SStep)(a b:Tree)(most:Int)(Q:QT)(h:(Zk (A69 N [1,1,1,0,1,0,0]) (Z3g l a b most a.kids b.kids 0 []) (xB 0 (S69 N [1,1,1,1] Q)))):A69 N [] (L2 [(0,.c (sU .sstep l .unk)),(1,.agg (enc .tree a)),(2,.agg (enc .tree b)),pI 3 most] []) Q:=(Eq.mpr V3 h:)
theorem ZBl(N:Nat)(l:List SStep)(a b:Tree)(most:Int)(ae ab:List Tree)(d:Int)(x9:List Op)(N0:NT)(Q:QT)(h:∀aa,aa=(l.getD d.toNat (SStep.mk 0 0))->∀af,af=(List.getD l (Int.toNat (d+1)) (SStep.mk 0 0))->let z6:=List.drop (Int.toNat (SStep.n aa)) ab;let z5:=Edit.mk 0 (Tree.mk 0 [] []) (Tree.mk 0 [] []) [] [] 0 [];let z4:=List.take (Int.toNat (SStep.n aa)) ab;let z3:=List.drop (Int.toNat (SStep.n aa)) ae;let z2:=List.take (Int.toNat (SStep.n af)) ab;let z1:=List.take (Int.toNat (SStep.n aa)) ae;let z0:=decide (((d+1):Int)<(l.length:Int));(iB (decide (d<(l.length:Int))) (((0:Int)<=d/\d<(l.length:Int))/\(((0:Int)<=d/\d<(l.length:Int))/\(iB (((SStep.kind aa):Int)==0) (((x9.length+([(OpOf.mk 0 (SStep.n aa) [] z5)]).length)*240<=140737488355328)/\((0:Int)<=(SStep.n aa)/\(SStep.n aa)<=(ae.length:Int))/\((0:Int)<=(SStep.n aa)/\(SStep.n aa)<=(ab.length:Int))/\((InR (d+1))/\(N0 (Z3g l a b most z3 z6 (d+1) (x9++([(OpOf.mk 0 (SStep.n aa) [] z5)])))))) (((0:Int)<=d/\d<(l.length:Int))/\(iB (((SStep.kind aa):Int)==2) (((0:Int)<=(SStep.n aa)/\(SStep.n aa)<=(ab.length:Int))/\(ZmB (z4,()))/\((x9.length+(ZW 2 z4).length)*240<=140737488355328)/\((0:Int)<=(SStep.n aa)/\(SStep.n aa)<=(ab.length:Int))/\((InR (d+1))/\(N0 (Z3g l a b most ae z6 (d+1) (x9++(ZW 2 z4)))))) ((InR (d+1))/\(Tt z0)/\(z0=true->InR (d+1))/\(Tt z0)/\(Tt z0)/\(z0=true->(0:Int)<=(d+1)/\(d+1)<(l.length:Int))/\(Tt z0)/\(Tt z0)/\(Tt z0)/\(Tt z0)/\(iB (bif z0 then(((SStep.kind af):Int)==2)else false) ((InR (d+1))/\((0:Int)<=(d+1)/\(d+1)<(l.length:Int))/\(((0:Int)<=(SStep.n aa)/\(SStep.n aa)<=(ae.length:Int))/\((0:Int)<=(SStep.n af)/\(SStep.n af)<=(ab.length:Int))/\(ZmA (a.kind,z1,z2,most,()))/\(ZCD (a.kind,z1,z2,most,())<N)/\((x9.length+(Z3k (λx y=>Z1r (Z1s most x y)) z1 z2).length)*240<=140737488355328)/\(((0:Int)<=(SStep.n aa)/\(SStep.n aa)<=(ae.length:Int))/\((0:Int)<=(SStep.n af)/\(SStep.n af)<=(ab.length:Int))/\((InR (d+1))/\((InR (((d+1):Int)+1))/\(N0 (Z3g l a b most z3 (List.drop (Int.toNat (SStep.n af)) ab) (((d+1):Int)+1) (x9++(Z3k (λx y=>Z1r (Z1s most x y)) z1 z2))))))))) (((0:Int)<=(SStep.n aa)/\(SStep.n aa)<=(ae.length:Int))/\(ZmB (z1,()))/\((x9.length+(ZW 1 z1).length)*240<=140737488355328)/\((0:Int)<=(SStep.n aa)/\(SStep.n aa)<=(ae.length:Int))/\((InR (d+1))/\(N0 (Z3g l a b most z3 ab (d+1) (x9++(ZW 1 z1))))))))))))) ((Q .ret (L2 [(8,.c (sU .op x9 (.own (.e 8 0))))] []))))):A69 N [1,1,1,0,1,0,0] (Z3g l a b most ae ab d x9) (xT N0 (xB 0 (S69 N [1,1,1,1] Q))):=(Eq.mpr V3 (h _ rfl _ rfl):)
abbrev ZJR(N:Nat)(l:List SStep)(a b:Tree)(most:Int):Prop:=AW (Z2 (Zqb N)) Tryz.f69 ZDm [] (Zg (Zla.can (l,a,b,most,())) []) (EQ Tryz.f69 (Zmg (l,a,b,most,())) [])
abbrev ZMe:Prop:=∀(N:Nat)(l:List SStep)(a:Tree)(b:Tree)(most:Int)(_:Unit),Ziq (l,a,b,most,())->ZxI (l,a,b,most,())<N+1->ZJR N l a b most
def ZDg:Za U:=lvk [([1,2,3],[]),([1,2,3,9],[]),([1,2,3,(9,[.own .irow]),20,21,22],[]),([1,2,3,9,20,21,22,23],[]),([1,2,3,9,11,20,21,22],[11]),([1,2,3,9,11,12,20,21,22],[11]),([1,2,3,9,11,(12,[.own .int]),20,21,22,26,27,28],[11]),([1,2,3,9,11,12,20,21,22,26,27,28,29],[11]),([1,2,3,9,11,12,14,20,21,22,26,27,28],[11,14]),([1,2,3,9,11,12,20,21,22,26,27,28],[11]),([1,2,3,9,11,(12,[.own .int]),20,21,22,26,27,28],[11]),([1,2,3,9,20,21,22],[]),([1,2,3,(9,[.own .irow]),20,21,22],[]),([1,2,3,9,15],[]),([1,2,3,9,15,16,17],[]),([1,2,3,(15,[.own .op]),16,17,45,46,47],[]),([1,2,3,15,16,17,45,46,47,48],[]),([1,2,3,15,16,17,19,45,46,47],[19]),([1,2,3,15,19,45,46,47],[19]),([1,2,3,15,19,45,46,47],[19]),([1,2,3,15,16,17,45,46,47],[]),([1,2,3,(15,[.own .op]),16,17,45,46,47],[]),([8],[])]
def ZaO(list:Int)(old now:List Tree)(most d:Int)(x9:List (List Int)):LSt U:=(L2 [(1,.c (sU .tree old .unk)),(2,.c (sU .tree now .unk)),pI 3 most,(9,.c (sU .irow x9 (.own (.e 9 0)))),(20,.c (sU .tree old .unk)),pI 21 (old.length:Int),pI 22 d] [])
def ZaN(list:Int)(old now:List Tree)(most ab:Int)(x9:List (List Int))(aa:Int)(d:List Int):LSt U:=(L2 [(1,.c (sU .tree old .unk)),(2,.c (sU .tree now .unk)),pI 3 most,(9,.c (sU .irow x9 (.own (.e 9 0)))),pL 11,(12,.c (sU .int d (.own (.e 12 0)))),(20,.c (sU .tree old .unk)),pI 21 (old.length:Int),pI 22 ab,(26,.c (sU .tree now .unk)),pI 27 (now.length:Int),pI 28 aa] [(.loc 11,(enc .tree (old.getD ab.toNat Tree.nil)))])
def ZaM(list:Int)(old now:List Tree)(most:Int)(x9:List (List Int))(ab d aa:Int)(ae:List Op):LSt U:=(L2 [(1,.c (sU .tree old .unk)),(2,.c (sU .tree now .unk)),pI 3 most,(15,.c (sU .op ae (.own (.e 15 0)))),pI 16 ab,pI 17 d,(45,.c (sU .two (Z0f x9) .unk)),pI 46 ((Z0f x9).length:Int),pI 47 aa] [])
abbrev A87(N:Nat)(p:List Nat):=AW (Z2 (Zqb N)) Tryz.f87 ZDg p
abbrev S87(N:Nat)(p:List Nat):=SW (Z2 (Zqb N)) Tryz.f87 ZDg p
theorem ZMV(N:Nat)(list:Int)(old now:List Tree)(most:Int)(Q:QT)(h:(Zk (A87 N [1,1,0,1,0,0]) (ZaO list old now most 0 []) (xB 0 (S87 N [1,1,1] Q)))):A87 N [] (L2 [pI 0 list,(1,.c (sU .tree old .unk)),(2,.c (sU .tree now .unk)),pI 3 most] []) Q:=(Eq.mpr V3 h:)
theorem ZBa(N:Nat)(list:Int)(old now:List Tree)(most d:Int)(x9:List (List Int))(N0:NT)(Q:QT)(h:(iB (decide (d<(old.length:Int))) (((0:Int)<=d/\d<(old.length:Int))/\(Zk (A87 N [1,1,0,1,0,0,1,1,0,0,1,1,0,1,0,0]) (ZaN list old now most d x9 0 []) (xB 2 (S87 N [1,1,0,1,0,0,1,1,0,0,1,1,1] (xB 1 (S87 N [1,1,0,1,0,0,1,1,1] (xT N0 (xB 0 (S87 N [1,1,1] Q))))))))) (((Zpa (x9,()))/\(Zk (A87 N [1,1,1,1,1,0,1,0,0]) (ZaM list old now most x9 0 0 0 []) (xB 4 (S87 N [1,1,1,1,1,1] Q))))))):A87 N [1,1,0,1,0,0] (ZaO list old now most d x9) (xT N0 (xB 0 (S87 N [1,1,1] Q))):=(Eq.mpr V3 h:)
theorem ZB9(N:Nat)(list:Int)(old now:List Tree)(most ab:Int)(x9:List (List Int))(d:Int)(aa:List Int)(N1 N0:NT)(Q:QT)(h:let z3:=old.getD ab.toNat Tree.nil;let z2:=now.getD d.toNat Tree.nil;let z1:=Tree.mk (Tree.kind z3) (Tree.words z3) (Tree.kids z3);let z0:=Tree.mk (Tree.kind z2) (Tree.words z2) (Tree.kids z2);(iB (decide (d<(now.length:Int))) (((0:Int)<=d/\d<(now.length:Int))/\((Zpb (z1,z0,()))/\((aa.length+([JE z1 z0]).length)*8<=140737488355328)/\((InR (d+1))/\(N1 (ZaN list old now most ab x9 (d+1) (aa++([JE z1 z0]))))))) (((x9.length+([aa]).length)*24<=140737488355328)/\((InR (ab+1))/\(N0 (ZaO list old now most (ab+1) (x9++([aa])))))))):A87 N [1,1,0,1,0,0,1,1,0,0,1,1,0,1,0,0] (ZaN list old now most ab x9 d aa) (xT N1 (xB 2 (S87 N [1,1,0,1,0,0,1,1,0,0,1,1,1] (xB 1 (S87 N [1,1,0,1,0,0,1,1,1] (xT N0 (xB 0 (S87 N [1,1,1] Q)))))))):=(Eq.mpr V3 h:)
theorem ZB8(N:Nat)(list:Int)(old now:List Tree)(most:Int)(x9:List (List Int))(af ab ae:Int)(aa:List Op)(N2:NT)(Q:QT)(h:∀d,d=(List.getD (Z0f x9) ae.toNat (Two.mk 0 0))->∀aq,aq=(List.getD now (Int.toNat (Two.j d)) Tree.nil)->∀am,am=(List.getD old (Int.toNat (Two.i d)) Tree.nil)->∀ah,ah=(List.drop af.toNat (List.take (Int.toNat (Two.i d)) old))->∀ai,ai=(List.drop ab.toNat (List.take (Int.toNat (Two.j d)) now))->∀aj,aj=aq->∀ak,ak=am->∀al,al=(Z1s most ak aj)->let z1:=List.drop ab.toNat now;let z0:=List.drop af.toNat old;(iB (decide (ae<((Z0f x9).length:Int))) (((0:Int)<=ae/\ae<((Z0f x9).length:Int))/\(((0:Int)<=af/\af<=(Two.i d)/\(Two.i d)<=(old.length:Int))/\(ZmB (ah,()))/\((aa.length+(ZW 1 ah).length)*240<=140737488355328)/\((0:Int)<=ab/\ab<=(Two.j d)/\(Two.j d)<=(now.length:Int))/\(ZmB (ai,()))/\(((aa++(ZW 1 ah)).length+(ZW 2 ai).length)*240<=140737488355328)/\(((0:Int)<=(Two.i d)/\(Two.i d)<(old.length:Int))/\((0:Int)<=(Two.j d)/\(Two.j d)<(now.length:Int))/\(Zdo (ak,aj,most,()))/\(ZxJ (ak,aj,most,())<N)/\((((aa++(ZW 1 ah))++(ZW 2 ai)).length+([(OpOf.mk 3 0 [] al)]).length)*240<=140737488355328)/\((InR (((Two.i d):Int)+1))/\(InR (((Two.j d):Int)+1))/\((InR (ae+1))/\(N2 (ZaM list old now most x9 (((Two.i d):Int)+1) (((Two.j d):Int)+1) (ae+1) (((aa++(ZW 1 ah))++(ZW 2 ai))++([(OpOf.mk 3 0 [] al)]))))))))) (((0:Int)<=af/\af<=(old.length:Int))/\(ZmB (z0,()))/\((aa.length+(ZW 1 z0).length)*240<=140737488355328)/\((0:Int)<=ab/\ab<=(now.length:Int))/\(ZmB (z1,()))/\(((aa++(ZW 1 z0)).length+(ZW 2 z1).length)*240<=140737488355328)/\(Q .ret (L2 [(8,.c (sU .op ((aa++(ZW 1 z0))++(ZW 2 z1)) (.own (.e 8 0))))] []))))):A87 N [1,1,1,1,1,0,1,0,0] (ZaM list old now most x9 af ab ae aa) (xT N2 (xB 4 (S87 N [1,1,1,1,1,1] Q))):=(Eq.mpr V3 (h _ rfl _ rfl _ rfl _ rfl _ rfl _ (Z3 _) _ (Z3 _) _ (Zj _)):)
abbrev ZJB(N:Nat)(list:Int)(old now:List Tree)(most:Int):Prop:=AW (Z2 (Zqb N)) Tryz.f87 ZDg [] (Zg (Zl8.can (list,old,now,most,())) []) (EQ Tryz.f87 (Zme (list,old,now,most,())) [])
abbrev ZMd:Prop:=∀(N:Nat)(list:Int)(old:List Tree)(now:List Tree)(most:Int)(_:Unit),ZmA (list,old,now,most,())->ZCD (list,old,now,most,())<N+1->ZJB N list old now most
theorem ZCH(c38:CT 38 Ys)(c40:CT 40 ZjM)(c63:CT 63 Z1v)(c64:CT 64 Z1X)(c65:CT 65 ZjL)(c66:CT 66 ZjK)(c67:CT 67 ZjJ)(c68:CT 68 Z8B)(c86:CT 86 ZjH)(c88:CT 88 ZjG)(ZJ1:CT 107 Zek)(ZJ0:CT 108 Zej)(b21:ZMt)(b39:ZMm)(b41:ZMl)(b69:ZMe)(b87:ZMd):CT 21 Zc7/\CT 39 Zw0/\CT 41 ZvZ/\CT 69 ZvS/\CT 87 ZvR:=by
 have ai:FK 21:=⟨Tryz.f21,Tryz.func21,rfl,rfl⟩;have aj:FK 39:=⟨Tryz.f39,Tryz.func39,rfl,rfl⟩;have ah:FK 41:=⟨Tryz.f41,Tryz.func41,rfl,rfl⟩;have ab:FK 69:=⟨Tryz.f69,Tryz.func69,rfl,rfl⟩;have ae:FK 87:=⟨Tryz.f87,Tryz.func87,rfl,rfl⟩;have aa:∀N,CT 21 (fs Zlk (λa=>[Zdo a,ZxJ a<N]) Zdj)/\CT 39 (fs Zlk (λa=>[Zdo a,ZCF a<N]) Zmi)/\CT 41 (fs Zlk (λa=>[Zdo a,ZCF a<N]) Zid)/\CT 69 (fs Zla (λa=>[Ziq a,ZxI a<N]) Zmg)/\CT 87 (fs Zl8 (λa=>[ZmA a,ZCD a<N]) Zme):=by intro N;induction N with|zero=>exact⟨JB ai,JB aj,JB ah,JB ab,JB ae⟩|succ N ih=>have kn:=Z0j (l:=Z2H N) ⟨ih.1,ih.2.1,ih.2.2.1,ih.2.2.2.1,ih.2.2.2.2,c38,c40,c63,c64,c65,c66,c67,c68,c86,c88,ZJ1,ZJ0,trivial⟩;exact⟨ZE (Γ:=Z2 (Z2H N)) Zf rfl kn ZIf Tryz.func21 rfl rfl (λa=>by show 3<=_;decide) (λ⟨a,b,d,_⟩h=>b21 N a b d () h.1 h.2.1),ZE (Γ:=Z2 (Z2H N)) Zf rfl kn ZDw Tryz.func39 rfl rfl (λa=>by show 3<=_;decide) (λ⟨a,b,d,_⟩h=>b39 N a b d () h.1 h.2.1),ZE (Γ:=Z2 (Z2H N)) Zf rfl kn ZI8 Tryz.func41 rfl rfl (λa=>by show 3<=_;decide) (λ⟨a,b,d,_⟩h=>b41 N a b d () h.1 h.2.1),ZE (Γ:=Z2 (Z2H N)) Zf rfl kn ZDm Tryz.func69 rfl rfl (λa=>by show 4<=_;decide) (λ⟨l,a,b,d,_⟩h=>b69 N l a b d () h.1 h.2.1),ZE (Γ:=Z2 (Z2H N)) Zf rfl kn ZDg Tryz.func87 rfl rfl (λa=>by show 4<=_;decide) (λ⟨list,old,ak,d,_⟩h=>b87 N list old ak d () h.1 h.2.1)⟩
 exact⟨JC ai λN=>(aa N).1,JC aj λN=>(aa N).2.1,JC ah λN=>(aa N).2.2.1,JC ab λN=>(aa N).2.2.2.1,JC ae λN=>(aa N).2.2.2.2⟩
end
theorem b21:ZMt:=by
 intro N a b aa _ hp hN;obtain⟨h1,h2,h3⟩:=hp;dsimp only at h1 h2 h3;have hN:8*(mass a+mass b)+3<N+1:=hN;refine ZNU _ _ _ _ _ ?_;rintro y1 rfl y2 rfl;have e:=Zaq aa y1 y2;(simp only[iB,vcT,vcS]);refine⟨⟨V1,V1⟩,λd=>?_,λd=>⟨λhk=>?_,λhk=>⟨λ_=>trivial,λhl=>?_,λhl=>?_⟩⟩⟩
 .rw[if_pos d]at e;simp only[Zdj,e];exact YH
 .rw[if_neg (by rw[d];decide),if_pos hk]at e;refine⟨⟨h1,h2,h3⟩,by show 8*(mass y1+mass y2)+2<N;omega,?_⟩;simp only[Zdj,e];exact YH
 .rw[if_neg (by rw[d];decide),JH,Y3]at e;refine⟨⟨h1,h2,h3⟩,by show 8*(mass y1+mass y2)+2<N;omega,?_⟩;simp only[Zdj,e];exact YH
 .rw[if_neg (by rw[d];decide),JH,JH]at e;simp only[Zdj,e];exact YH
theorem ZhW{t:Tree}(h:rng t)(i:Int):rng (Zo t i):=by
 unfold Zo;split;.exact⟨⟨V0,V0⟩,by simp,trivial⟩
 .obtain⟨k,w,ks⟩:=t;exact ZjS h.2.2 _
theorem Zfz{t:Tree}(h:rng t)(i:Int):0<=Zs t i/\Zs t i<18446744073709551616:=by
 unfold Zs;split;.omega
 .obtain⟨k,w,ks⟩:=t;show 0<=w.getD i.toNat 0/\w.getD i.toNat 0<_;by_cases hi:i.toNat<w.length;.exact h.2.1 _ (Ze hi 0)
  .rw[Q6,Qq Yp];exact⟨V0,V0⟩
theorem b39:ZMm:=by
 intro N a b d _ hp hN;obtain⟨h1,h2,h3⟩:=hp;dsimp only at h1 h2 h3;have hN:8*(mass a+mass b)+2<N+1:=hN;have l1:=Z2w a;have l2:=Z2w b;refine ZND _ _ _ _ _ ?_;obtain⟨M,hM⟩:∃M,M=max a.words.length b.words.length:=⟨_,rfl⟩;obtain⟨K,hK⟩:∃K,K=max a.kids.length b.kids.length:=⟨_,rfl⟩;have eM:(if(a.words.length:Int)<b.words.length then(b.words.length:Int)else a.words.length)=M:=Yp;have eK:(if(a.kids.length:Int)<b.kids.length then(b.kids.length:Int)else a.kids.length)=K:=Yp;refine Z6 (ι:=Int×List WEdit) (λs=>Z72 a b d s.1 s.2) (λs=>(0<=s.1/\s.1<=M)/\(s.2.length:Int)<=s.1/\Z0o a b M 0=s.2++Z0o a b ((M:Int)-s.1).toNat s.1) (λs=>((M:Int)-s.1).toNat) (0,[]) rfl ⟨⟨Yp,Yp⟩,by simp,by simp⟩ ?_;rintro⟨i,ws⟩⟨⟨f1,f2⟩,f3,f4⟩;dsimp only at f1 f2 f3 f4;refine ZBC _ _ _ _ _ _ _ _ ?_;rintro y1 rfl y2 rfl y3 aj;rw[eM];(simp only[iB,vcT,vcS]);refine⟨λhi=>?_,λhi=>?_⟩
 .rw[show((M:Int)-i).toNat=((M:Int)-(i+1)).toNat+1 by omega,Z0o]at f4;refine⟨trivial,trivial,⟨Zfz h2 _,Zfz h3 _⟩,λhu=>?_,λhu=>?_⟩;.rw[if_neg hu]at aj;rw[if_neg hu,<-aj,<-Q7]at f4;exact⟨by simp;omega,V2,(i+1,ws++[y3]),rfl,⟨⟨V1,V1⟩,by simp;omega,f4⟩,V1⟩
  .rw[if_pos (Decidable.not_not.1 hu),Qh]at f4;exact⟨V2,(i+1,ws),rfl,⟨⟨V1,V1⟩,V1,f4⟩,V1⟩
 rw[show((M:Int)-i).toNat=0 by omega,Z0o,Qi]at f4;refine Z6 (ι:=Int×List Kid) (λs=>Z71 y1 y2 d ws s.1 s.2) (λs=>(0<=s.1/\s.1<=K)/\(s.2.length:Int)<=s.1/\Z0k (Z1s d) y1 y2 K 0=s.2++Z0k (Z1s d) y1 y2 ((K:Int)-s.1).toNat s.1) (λs=>((K:Int)-s.1).toNat) (0,[]) rfl ⟨⟨Yp,Yp⟩,by simp,by simp⟩ ?_;rintro⟨j,ks⟩⟨⟨g1,g2⟩,g3,g4⟩;dsimp only at g1 g2 g3 g4;refine ZBB _ _ _ _ _ _ _ _ _ ?_;rintro z1 rfl z2 rfl z3 af z4 ah z5 ai;rw[eK];(simp only[iB,vcT,vcS]);refine⟨λhj=>?_,λhj=>?_⟩
 .rw[show((K:Int)-j).toNat=((K:Int)-(j+1)).toNat+1 by omega,Z0k,<-af,<-ah,<-ai]at g4;have hm:=Z4J (a:=z1) (b:=z2) g1 Yp;rw[<-af,<-ah]at hm;refine⟨trivial,trivial,⟨V1,by rw[af];exact ZhW h2 _,by rw[ah];exact ZhW h3 _⟩,by show 8*(mass z3+mass z4)+3<N;omega,λhu=>?_,λhu=>?_⟩;.rw[<-ai]at hu;rw[if_neg hu,<-Q7]at g4;exact⟨by simp;omega,V2,(j+1,ks++[⟨j,z5⟩]),rfl,⟨⟨V1,V1⟩,by simp;omega,g4⟩,V1⟩
  .rw[<-ai]at hu;rw[if_pos hu,Qh]at g4;exact⟨V2,(j+1,ks),rfl,⟨⟨V1,V1⟩,V1,g4⟩,V1⟩
 .rw[show((K:Int)-j).toNat=0 by omega,Z0k,Qi]at g4;have e:Jz (Z1s d) z1 z2=.mk 2 Tree.nil Tree.nil ws ks 0 []:=by rw[Jz,<-hM,<-hK,f4,g4]
  simp only[Zmi,e];exact YH
theorem Zxy(known l:List Tree):Z5 (ofF known l).1<=Z5 known+Z5 l:=by
 have:∀(l:List Tree)(s:List Tree×List Int),Z5 (l.foldl ofS s).1<=Z5 s.1+Z5 l:=by intro l;induction l with|nil=>intro s;simp|cons t r ih=>
   intro s;rw[QV];have d:=ih (ofS s t);have h2:Z5 (ofS s t).1<=Z5 s.1+mass t:=by
    unfold ofS;split;.rw[Z4A,Z5,Z5];omega
    .dsimp only;omega
   rw[Z5];omega
 exact this l (known,[])
theorem b41:ZMl:=by
 intro N a b d _ hp hN;obtain⟨h1,h2,h3⟩:=hp;dsimp only at h1 h2 h3;have hN:8*(mass a+mass b)+2<N+1:=hN;have l1:=Z2w a;have l2:=Z2w b;have m1:=YU a;have m2:=YU b;have m3:=Zxy [] a.kids;have m4:=Z7C [] a.kids;have m5:=Z7C (ofF [] a.kids).1 b.kids;rw[show Z5 []=0 from rfl]at m3;have hf:=ZoB a b d Yp Yp;refine ZNB _ _ _ _ _ ?_;rintro y1 rfl y2 rfl y3 rfl y4 aj y5 ae;(simp only[iB,vcT,vcS]);refine⟨by show Z5 []+Z5 y1.kids<=_;rw[show Z5 []=0 from rfl];omega,by show Z5 (ofF [] y1.kids).1+Z5 y2.kids<=_;omega,⟨V1,V1⟩,λhd=>?_,λhd=>?_⟩
 .have e:Z1B y1 y2 d=y4:=by unfold Z1B;rw[<-ae,if_neg (by rw[hd];decide),aj]
  rw[e]at hf;refine⟨by show List.length _<=_;simp,⟨⟨h1,h2,h3⟩,hf⟩,by show 8*(mass y1+mass y2)+1<N;omega,?_⟩;simp only[Zid,Z2v,e];exact YH
 .have e:Z1B y1 y2 d=y5.1:=by unfold Z1B;rw[<-ae,if_pos hd]
  rw[e]at hf;refine⟨⟨⟨h1,h2,h3⟩,hf⟩,by show 8*(mass y1+mass y2)+1<N;omega,?_⟩;simp only[Zid,Z2v,e];exact YH
theorem Z08(k:Int)(l:List Tree):(ZW k l).length<=1:=by unfold ZW;split<;>simp
theorem Zg2(f:Tree->Tree->Op)(old now:List Tree):∀(l:List Two)(i j:Int),(YY f old now l i j).length<=3*l.length+2|[],i,j=>by have:=Z08 1 (old.drop i.toNat);have:=Z08 2 (now.drop j.toNat);simp only[YY,Q8,Qm];omega|p::r,i,j=>by have:=Zg2 f old now r (p.i+1) (p.j+1);have:=Z08 1 (Zht old i p.i);have:=Z08 2 (Zht now j p.j);simp only[YY,Q8,Qa];omega
theorem Z6E{n m:Int}:∀{l:List Two}{i j:Int},Z8a l i j n m->(l.length:Int)<=n-i|[],i,j,h=>by have:=h.1;simp;omega|p::r,i,j,h=>by have:=Z6E h.2.2;have:=h.1;simp only[Qa];omega
theorem Zzh(f:Tree->Tree->Op)(old now:List Tree):(Z3k f old now).length<=3*old.length+2:=by have d:=Zg2 f old now (Z0f (ZU old now)) 0 0;have h2:=Z6E (Zal old now).2;unfold Z3k;omega
theorem ZGs{gap:List Tree->List Tree->List Op}{s:SStep}(h:s.kind=0)(r:List SStep)(old now:List Tree):YM gap (s::r) old now=⟨0,s.n,[],Edit.nil⟩::YM gap r (old.drop s.n.toNat) (now.drop s.n.toNat):=by cases r with|nil=>rw[Z0x,if_pos h,YM]|cons t r=>rw[JI,if_pos h]
theorem ZGq{gap:List Tree->List Tree->List Op}{s:SStep}(h:s.kind=2)(r:List SStep)(old now:List Tree):YM gap (s::r) old now=ZW 2 (now.take s.n.toNat)++YM gap r old (now.drop s.n.toNat):=by cases r with|nil=>rw[Z0x,JH,if_pos h,YM]|cons t r=>rw[JI,JH,if_pos h]
theorem ZCu{gap:List Tree->List Tree->List Op}{s t:SStep}(h:s.kind=1)(ht:t.kind=2)(r:List SStep)(old now:List Tree):YM gap (s::t::r) old now=gap (old.take s.n.toNat) (now.take t.n.toNat)++YM gap r (old.drop s.n.toNat) (now.drop t.n.toNat):=by rw[JI,JH,JH,if_pos ht]
theorem ZGr{gap:List Tree->List Tree->List Op}{s:SStep}(h:s.kind=1)(r:List SStep)(hr:∀t r',r=t::r'->t.kind≠2)(old now:List Tree):YM gap (s::r) old now=ZW 1 (old.take s.n.toNat)++YM gap r (old.drop s.n.toNat) now:=by cases r with|nil=>rw[Z0x,JH,JH,YM,Qi]|cons t r=>rw[JI,JH,JH,if_neg (hr t r rfl)]
theorem Zi1{ks:List Tree}(h:ZV ks)(n:Nat):ZV (ks.take n):=Z7s λ_ d=>J7 h (QR d)
theorem b69:ZMe:=by
 intro N l a b ab _ hp hN;obtain⟨⟨h1,h2,h3⟩,h4⟩:=hp;dsimp only at h1 h2 h3 h4;have hN:8*(mass a+mass b)+1<N+1:=hN;have l1:=Z2w a;have l2:=Z2w b;have m1:=YU a;have m2:=YU b;have a6:=Zev Yp Yp h4;refine ZNb _ _ _ _ _ _ ?_;refine Z6 (ι:=Int×List Tree×List Tree×List Op) (λs=>Z3g l a b ab s.2.1 s.2.2.1 s.1 s.2.2.2) (λs=>(0<=s.1/\s.1<=l.length)/\(Z5 s.2.1<=Z5 a.kids/\Z5 s.2.2.1<=Z5 b.kids/\ZV s.2.1/\ZV s.2.2.1)/\Zef (l.drop s.1.toNat) s.2.1.length s.2.2.1.length/\(s.2.2.2.length+5*(s.2.1.length+s.2.2.1.length)<=5*(a.kids.length+b.kids.length))/\YM (Z3k λx y=>Z1r (Z1s ab x y)) l a.kids b.kids=s.2.2.2++YM (Z3k λx y=>Z1r (Z1s ab x y)) (l.drop s.1.toNat) s.2.1 s.2.2.1) (λs=>((l.length:Int)-s.1).toNat) (0,a.kids,b.kids,[]) rfl ⟨⟨Yp,V1⟩,⟨Nat.le_refl _,Nat.le_refl _,(ZjT h2).2.2,(ZjT h3).2.2⟩,by simpa using h4,by simp,by simp⟩ ?_;rintro⟨i,u,v,out⟩⟨⟨f1,f2⟩,⟨f3,f4,f5,f6⟩,f7,f8,f9⟩;dsimp only at f1 f2 f3 f4 f5 f6 f7 f8 f9;refine ZBl _ _ _ _ _ _ _ _ _ _ _ ?_;rintro d ax y2 am;(simp only[iB,vcT,vcS]);refine⟨λhi=>?_,λhi=>?_⟩
 .rw[Yu f1 hi (SStep.mk 0 0),<-ax]at f7 f9;have fd:=λ(n:Int)(h0:0<=n)(w:List Tree)(h:n<=w.length)=>(show((w.drop n.toNat).length:Int)=w.length-n by rw[Qt];omega);obtain⟨n1,f7⟩:=f7;refine⟨⟨f1,hi⟩,⟨f1,hi⟩,λhk=>?_,λhk=>⟨⟨f1,hi⟩,λar=>?_,λar=>?_⟩⟩
  .have f7:d.n<=u.length/\d.n<=v.length/\Zef (l.drop (i+1).toNat) (u.length-d.n) (v.length-d.n):=by
    rcases f7 with⟨_,h⟩|⟨h,_⟩|⟨h,_⟩;.exact h
    .omega
    .omega
   obtain⟨q1,q2,q3⟩:=f7;rw[ZGs hk]at f9;have d1:=fd d.n Yp u q1;have d2:=fd d.n Yp v q2;rw[<-d1,<-d2]at q3;refine⟨by simp;omega,⟨Yp,q1⟩,⟨Yp,q2⟩,V2,(i+1,_,_,_),rfl,⟨⟨V1,V1⟩,⟨Nat.le_trans (J9 _ _) f3,Nat.le_trans (J9 _ _) f4,Jk f5 _,Jk f6 _⟩,q3,by simp only[List.length_append,List.length_singleton];omega,?_⟩,V1⟩;rw[f9,Q7];try rfl
  .have f7:d.n<=v.length/\Zef (l.drop (i+1).toNat) u.length (v.length-d.n):=by
    rcases f7 with⟨h,_⟩|⟨h,_⟩|⟨_,h⟩;.omega
    .omega
    .exact h
   obtain⟨q1,q3⟩:=f7;rw[ZGq ar]at f9;have d1:=fd d.n Yp v q1;rw[<-d1]at q3;have hs:=Z08 2 (v.take d.n.toNat);refine⟨⟨Yp,q1⟩,trivial,Yp,⟨Yp,q1⟩,V2,(i+1,u,_,_),rfl,⟨⟨V1,V1⟩,⟨f3,Nat.le_trans (J9 _ _) f4,f5,Jk f6 _⟩,q3,by simp only[List.length_append];omega,?_⟩,V1⟩;rw[f9,Q7]
  .have f7:d.kind=1/\d.n<=u.length/\Zef (l.drop (i+1).toNat) (u.length-d.n) v.length:=by
    rcases f7 with⟨h,_⟩|h|⟨h,_⟩;.omega
    .exact h
    .omega
   obtain⟨k1,q1,q3⟩:=f7;have d1:=fd d.n Yp u q1;refine⟨V2,λ_=>by unfold InR;omega,λh=>⟨Yp,h⟩,λh=>?_,λh=>?_⟩
   .obtain⟨ah,k2⟩:=h;rw[Yu Yp ah (SStep.mk 0 0),<-am]at f9 q3;obtain⟨n2,q3⟩:=q3;have q3:y2.n<=v.length/\Zef (l.drop (i+1+1).toNat) (u.length-d.n) (v.length-y2.n):=by
     rcases q3 with⟨h,_⟩|⟨h,_⟩|⟨_,h⟩;.omega
     .omega
     .exact h
    obtain⟨q2,q3⟩:=q3;have d2:=fd y2.n Yp v q2;rw[<-d1,<-d2]at q3;rw[ZCu k1 k2]at f9;have hg:=Zzh (λx y=>Z1r (Z1s ab x y)) (u.take d.n.toNat) (v.take y2.n.toNat);rw[Qu]at hg;have e1:=Z5v d.n.toNat u;have e2:=Z5v y2.n.toNat v;refine⟨V2,⟨Yp,ah⟩,⟨Yp,q1⟩,⟨Yp,q2⟩,⟨V1,Zi1 f5 _,Zi1 f6 _⟩,by show 8*(Z5 (u.take d.n.toNat)+Z5 (v.take y2.n.toNat))+4<N;omega,Yp,⟨Yp,q1⟩,⟨Yp,q2⟩,V2,V2,(i+1+1,_,_,_),rfl,⟨⟨V1,V1⟩,⟨Nat.le_trans (J9 _ _) f3,Nat.le_trans (J9 _ _) f4,Jk f5 _,Jk f6 _⟩,q3,by simp only[List.length_append];omega,?_⟩,V1⟩;rw[f9,Q7]
   .rw[ZGr k1 _ (λt r' ht=>?_)]at f9;.rw[<-d1]at q3;have hs:=Z08 1 (u.take d.n.toNat);refine⟨⟨Yp,q1⟩,trivial,Yp,⟨Yp,q1⟩,V2,(i+1,_,v,_),rfl,⟨⟨V1,V1⟩,⟨Nat.le_trans (J9 _ _) f3,f4,Jk f5 _,f6⟩,q3,by simp only[List.length_append];omega,?_⟩,V1⟩;rw[f9,Q7]
    .by_cases ah:i+1<l.length;.rw[Yu Yp ah (SStep.mk 0 0),<-am]at ht;cases ht;omega
     .rw[Qb Yp]at ht;cases ht
 .rw[Qb Yp,YM,Qi]at f9;simp only[Zmg,f9];exact YH
theorem ZlU(old now:List Tree)(i:Nat)(hi:i<old.length):ZU (old.take (i+1)) now=ZU (old.take i) now++[now.map (JE (old.getD i Tree.nil))]:=by unfold ZU;rw[List.take_add_one,Xb,Q6,Q1 hi];try rfl
theorem b87:ZMd:=by
 intro N list old now d _ hp hN;obtain⟨h1,h2,h3⟩:=hp;dsimp only at h1 h2 h3;have hN:8*(Z5 old+Z5 now)+4<N+1:=hN;have l1:=Z2Y old;have l2:=Z2Y now;refine ZMV _ _ _ _ _ _ ?_;refine Z6 (ι:=Int×List (List Int)) (λs=>ZaO list old now d s.1 s.2) (λs=>(0<=s.1/\s.1<=old.length)/\s.2=ZU (old.take s.1.toNat) now) (λs=>((old.length:Int)-s.1).toNat) (0,[]) rfl ⟨⟨Yp,Yp⟩,by simp[ZU]⟩ ?_;rintro⟨i,sc⟩⟨⟨f1,f2⟩,f3⟩;dsimp only at f1 f2 f3;refine ZBa _ _ _ _ _ _ _ _ _ ?_;(simp only[iB,vcT,vcS]);refine⟨λhi=>⟨⟨f1,hi⟩,?_⟩,λhi=>?_⟩
 .have q1:=ZS (Ze (l:=old) (i:=i.toNat) Yp Tree.nil);refine Z6 (ι:=Int×List Int) (λs=>ZaN list old now d i sc s.1 s.2) (λs=>(0<=s.1/\s.1<=now.length)/\s.2=(now.take s.1.toNat).map (JE (old.getD i.toNat Tree.nil))) (λs=>((now.length:Int)-s.1).toNat) (0,[]) rfl ⟨⟨Yp,Yp⟩,by simp⟩ ?_;rintro⟨j,aj⟩⟨⟨g1,g2⟩,g3⟩;dsimp only at g1 g2 g3;refine ZB9 _ _ _ _ _ _ _ _ _ _ _ _ ?_;simp only[Tree.eta];(simp only[iB,vcT,vcS]);have hr:aj.length<=now.length:=by rw[g3];simp;omega
  refine⟨λhj=>?_,λhj=>?_⟩;.have q2:=ZS (Ze (l:=now) (i:=j.toNat) Yp Tree.nil);refine⟨⟨g1,hj⟩,⟨V1,V1⟩,by simp;omega,V2,(j+1,_),rfl,⟨⟨V1,V1⟩,?_⟩,V1⟩;dsimp only;rw[ZEO g1 hj Tree.nil,Xb,<-g3];try rfl
  .have e:aj=now.map (JE (old.getD i.toNat Tree.nil)):=by rw[g3,QA Yp]
   have hs:sc.length<=old.length:=by rw[f3];simp[ZU];omega
   refine⟨by simp;omega,V2,(i+1,_),rfl,⟨⟨V1,V1⟩,?_⟩,V1⟩;dsimp only;rw[show(i+1).toNat=i.toNat+1 by omega,ZlU old now i.toNat Yp,f3,e]
 have e:sc=ZU old now:=by rw[f3,QA Yp]
 subst e;obtain⟨w1,w2⟩:=Zal old now;have w3:=Z6E w2;refine⟨⟨by simp[ZU];omega,λl hl=>by simp only[ZU,Xy]at hl;obtain⟨x,_,rfl⟩:=hl;simp;omega⟩,?_⟩;refine Z6 (ι:=Int×Int×Int×List Op) (λs=>ZaM list old now d (ZU old now) s.2.1 s.2.2.1 s.1 s.2.2.2) (λs=>(0<=s.1/\s.1<=(Z0f (ZU old now)).length)/\(0<=s.2.1/\0<=s.2.2.1/\Z8a ((Z0f (ZU old now)).drop s.1.toNat) s.2.1 s.2.2.1 old.length now.length)/\(s.2.2.2.length:Int)<=3*s.1/\Z3k (λx y=>Z1r (Z1s d x y)) old now=s.2.2.2++YY (λx y=>Z1r (Z1s d x y)) old now ((Z0f (ZU old now)).drop s.1.toNat) s.2.1 s.2.2.1) (λs=>(((Z0f (ZU old now)).length:Int)-s.1).toNat) (0,0,0,[]) rfl ⟨⟨Yp,Yp⟩,⟨QY 0,QY 0,by simpa using w2⟩,by simp,by simp[Z3k]⟩ ?_;rintro⟨k,i,j,out⟩⟨⟨g1,g2⟩,⟨g3,g4,g5⟩,g6,g7⟩;dsimp only at g1 g2 g3 g4 g5 g6 g7;refine ZB8 _ _ _ _ _ _ _ _ _ _ _ _ ?_;rintro y1 au y2 af y3 ai y4 ar y5 aw y6 rfl y7 rfl y8 am;(simp only[iB,vcT,vcS]);refine⟨λhk=>?_,λhk=>?_⟩
 .rw[Yu g1 hk (Two.mk 0 0),<-au]at g5 g7;obtain⟨⟨p1,p2⟩,⟨p3,p4⟩,g5⟩:=g5;rw[YY]at g7;have q1:mass y7<=Z5 old:=by rw[ai];exact ZS (Ze Yp Tree.nil)
  have q2:mass y6<=Z5 now:=by rw[af];exact ZS (Ze Yp Tree.nil)
  have q3:rng y7:=by rw[ai];exact J7 h2 (Ze Yp Tree.nil)
  have q4:rng y6:=by rw[af];exact J7 h3 (Ze Yp Tree.nil)
  have s1:=Z08 1 y4;have s2:=Z08 2 y5;refine⟨⟨g1,hk⟩,⟨g3,p1,Yp⟩,trivial,Yp,⟨g4,p3,Yp⟩,trivial,by simp only[Q8];omega,⟨Yp,p2⟩,⟨Yp,p4⟩,⟨V1,q3,q4⟩,by show 8*(mass y7+mass y6)+3<N;omega,by simp only[List.length_append,List.length_singleton];omega,V2,V2,V2,(k+1,y1.i+1,y1.j+1,_),rfl,⟨⟨V1,V1⟩,⟨V1,V1,g5⟩,by simp only[List.length_append,List.length_singleton];omega,?_⟩,V1⟩;rw[g7];dsimp only;rw[<-af,<-ai,<-am,show Zht old i y1.i=y4 from ar.symm,show Zht now j y1.j=y5 from aw.symm];simp only[Q7,Qo,Qh];try rfl
 .rw[Qb Yp]at g5 g7;rw[YY]at g7;have s1:=Z08 1 (old.drop i.toNat);have s2:=Z08 2 (now.drop j.toNat);refine⟨⟨g3,g5.1⟩,trivial,Yp,⟨g4,g5.2⟩,trivial,by simp only[Q8];omega,?_⟩;rw[<-Q7]at g7;simp only[Zme,g7];exact YH
theorem ZLU:Contract Tryz.prog cfg 21 Zc7/\Contract Tryz.prog cfg 39 Zw0/\Contract Tryz.prog cfg 41 ZvZ/\Contract Tryz.prog cfg 69 ZvS/\Contract Tryz.prog cfg 87 ZvR:=ZCH c38 c40 c63 c64 c65 c66 c67 c68 c86 c88 ZJ1 ZJ0 b21 b39 b41 b69 b87
theorem c21:Contract Tryz.prog cfg 21 Zc7:=ZLU.1
theorem Zph{r:Bool}{e:Edit}{t:Tree}(hr:∃d,Z8 e d=true)(ht:mass t+ctE e<=200000000000):mass (Z1m (doE r e t))<=1000000000000:=by cases h:doE r e t with|none=>trivial|some u=>exact ZnO hr ht h
theorem Zpg(o:Option Tree):Z1m (o.map Z0)=Z0 (Z1m o):=by cases o;exact Ziz.symm;rfl
theorem Zpv{e:Edit}{t:Tree}(hr:∃d,Z8 e d=true)(ht:mass t+ctE e<=200000000000):mass (Z1m ((doE false e t).map Z0))<=1000000000000:=by rw[Zpg];exact X2 (ZI _) (Zph hr ht)
noncomputable section
def ZzQ:ArgL (List PStep×Int×Int×Unit):=(.cons (aSl .step) (.cons (ZR .i64) (.cons (ZR .i64) .nil)))
def Z5Y(a:List PStep×Int×Int×Unit):Prop:=(a.1).length<=40000000000
def ZEW(a:List PStep×Int×Int×Unit):V U:=.c (sU .step ((a.1)++[PStep.mk a.2.1 a.2.2.1]) (.own (.r 0 0)))
def Z46:Fs U:=fs ZzQ (λa=>[Z5Y a]) ZEW
def ZwP(a:Int×Unit):V U:=.agg (enc .tree (Tree.mk 1 [a.1] []))
def Z9N:Fs U:=fs ZzZ (λa=>[Zxh a]) ZwP
def ZzN:ArgL (List PStep×Unit):=(.cons (aSl .step) .nil)
def Zmw(a:List PStep×Unit):Prop:=(a.1).length<=40000000000
def ZEU(a:List PStep×Unit):V U:=.c (sU .step a.1 (.own (.r 0 0)))
def Zf3:Fs U:=fs ZzN (λa=>[Zmw a]) ZEU
def ZqR:ArgM ((List Conflict×Unit)×List PStep×Tree×Tree×Tree×Unit):=(.obj 0 (.cons (Z2B .conflict 0 0) .nil) (.cons (aSl .step) (.cons (aEl .tree) (.cons (aEl .tree) (.cons (aEl .tree) .nil)))))
def Z3K(a:(List Conflict×Unit)×List PStep×Tree×Tree×Tree×Unit):Prop:=((a.1.1).length<=40000000000/\(a.2.1).length<=40000000000)/\mass a.2.2.1<=1000000000000/\mass a.2.2.2.1<=1000000000000/\mass a.2.2.2.2.1<=1000000000000
def ZF5(a:(List Conflict×Unit)×List PStep×Tree×Tree×Tree×Unit):V U:=.agg (enc .tree a.2.2.1)
def Zwj(a:(List Conflict×Unit)×List PStep×Tree×Tree×Tree×Unit):List (List (C U)):=[[sU .conflict ((a.1.1)++[Conflict.mk a.2.1 (Z0 a.2.2.1) (Z0 a.2.2.2.1) (Z0 a.2.2.2.2.1)]) (.own (.x 0 0))]]
def Z48:Fs U:=fsX ZqR (λa=>[Z3K a]) ZF5 Zwj
def ZeH:ArgM (Int×Int×(List Int×Unit)×Unit):=(.cons (ZR .i64) (.cons (ZR .u64) (.obj 0 (.cons (cWr .u64 0 0) .nil) .nil)))
def Zcm(a:Int×Int×(List Int×Unit)×Unit):Prop:=(0<=a.1/\a.1<=1000000)/\(a.2.2.1.1).length<=1000000
def ZwQ(a:Int×Int×(List Int×Unit)×Unit):V U:=.tup []
def Zrx(a:Int×Int×(List Int×Unit)×Unit):List (List (C U)):=[[.mref (.x 0 0)]]
def ZrD(a:Int×Int×(List Int×Unit)×Unit):List (Tok×LC U):=[(.x 0 0,LC.mk (U:=U) .u64 (ZK 0 a.2.2.1.1 (a.1).toNat a.2.1) 0)]
def Z9O:Fs U:=Z9c ZeH (λa=>[Zcm a]) ZwQ Zrx ZrD
def ZqO:ArgM ((List Conflict×Unit)×List PStep×Tree×List WEdit×List WEdit×Unit):=(.obj 0 (.cons (Z2B .conflict 0 0) .nil) (.cons (aSl .step) (.cons (aEl .tree) (.cons (aSl .wedit) (.cons (aSl .wedit) .nil)))))
def Zmx(a:(List Conflict×Unit)×List PStep×Tree×List WEdit×List WEdit×Unit):Prop:=(((a.1.1).length<=30000000000/\(a.2.1).length<=30000000000)/\rng a.2.2.1/\a.2.2.1.words.length<=65535)/\((∀w∈a.2.2.2.1,JT w/\0<=WEdit.at_ w/\WEdit.at_ w<=65534)/\(a.2.2.2.1).length<=65535)/\(∀w∈a.2.2.2.2.1,JT w/\0<=WEdit.at_ w/\WEdit.at_ w<=65534)/\(a.2.2.2.2.1).length<=65535
def Zwm(a:(List Conflict×Unit)×List PStep×Tree×List WEdit×List WEdit×Unit):V U:=.c (sU .u64 ((ZC a.2.2.1 a.2.1 ((a.2.2.2.1).length+(a.2.2.2.2.1).length) a.2.2.2.1 a.2.2.2.2.1 (Tree.words a.2.2.1,a.1.1)).1) .unk)
def ZoJ(a:(List Conflict×Unit)×List PStep×Tree×List WEdit×List WEdit×Unit):List (List (C U)):=[[sU .conflict ((ZC a.2.2.1 a.2.1 ((a.2.2.2.1).length+(a.2.2.2.2.1).length) a.2.2.2.1 a.2.2.2.2.1 (Tree.words a.2.2.1,a.1.1)).2) (.own (.x 0 0))]]
def ZjF:Fs U:=fsX ZqO (λa=>[Zmx a]) Zwm ZoJ
abbrev A91(p:List Nat):=AW (Z2 Zqj) Tryz.f91 ZHR p
theorem ZMR(at_:List PStep)(kind n:Int)(Q:QT)(h:let z0:=List.take (Int.toNat (at_.length:Int)) at_;(((0:Int)<=(at_.length:Int)/\(at_.length:Int)<=(at_.length:Int))/\((at_.length:Int)=(at_.length:Int))/\((z0.length+([(PStep.mk kind n)]).length)*16<=140737488355328)/\(Q .ret (L2 [(6,.c (sU .step (z0++([(PStep.mk kind n)])) (.own (.e 6 0))))] [])))):A91 [] (L2 [(0,.c (sU .step at_ .unk)),pI 1 kind,pI 2 n] []) Q:=(Eq.mpr V3 h:)
abbrev ZJx(at_:List PStep)(kind n:Int):Prop:=AW (Z2 Zqj) Tryz.f91 ZHR [] (Zg (ZzQ.can (at_,kind,n,())) []) (EQ Tryz.f91 (ZEW (at_,kind,n,())) [])
theorem ZGI(hb:∀(at_:List PStep)(kind:Int)(n:Int)(_:Unit),Z5Y (at_,kind,n,())->ZJx at_ kind n):CT 91 Z46:=Z1 (l:=[]) Zf rfl trivial ZHR Tryz.func91 rfl rfl 3 (λ_=>rfl) V0 (λ⟨at_,kind,n,_⟩=>hb at_ kind n ())
def Zyd:Za U:=lvl [([0,2],[2]),([2],[2])]
abbrev ZOo(p:List Nat):=AW (Z2 Zqj) Tryz.f110 Zyd p
theorem ZLg(w:Int)(Q:QT)(h:(Q .ret (L2 [pL 2] [(.loc 2,[ci 1,sU .u64 ([w]) .full,.nils])]))):ZOo [] (L2 [(0,.c (.int .u64 w))] []) Q:=(Eq.mpr V3 h:)
abbrev ZEA(w:Int):Prop:=AW (Z2 Zqj) Tryz.f110 Zyd [] (Zg (ZzZ.can (w,())) []) (EQ Tryz.f110 (ZwP (w,())) [])
theorem ZD3(hb:∀(w:Int)(_:Unit),Zxh (w,())->ZEA w):CT 110 Z9N:=Z1 (l:=[]) Zf rfl trivial Zyd Tryz.func110 rfl rfl 1 (λ_=>rfl) V0 (λ⟨w,_⟩=>hb w ())
abbrev A96(p:List Nat):=AW (Z2 Zqj) Tryz.f96 ZI7 p
theorem ZMN(l:List PStep)(Q:QT)(h:(((l=[])->(Q .ret (L2 [(2,.c (.nils))] [])))/\(True->((([]:List PStep).length+l.length)*16<=140737488355328)/\(Q .ret (L2 [(2,.c (sU .step (([]:List PStep)++l) (.own (.e 2 0))))] []))))):A96 [] (L2 [(0,.c (sU .step l .unk))] []) Q:=(Eq.mpr V3 h:)
abbrev ZJt(l:List PStep):Prop:=AW (Z2 Zqj) Tryz.f96 ZI7 [] (Zg (ZzN.can (l,())) []) (EQ Tryz.f96 (ZEU (l,())) [])
theorem ZGE(hb:∀(l:List PStep)(_:Unit),Zmw (l,())->ZJt l):CT 96 Zf3:=Z1 (l:=[]) Zf rfl trivial ZI7 Tryz.func96 rfl rfl 1 (λ_=>rfl) V0 (λ⟨l,_⟩=>hb l ())
def ZyJ:List (FuncId×Fs U):=[(96,Zf3),(22,Zfs)]
def ZHP:Za U:=lvk [([0,1,7,8,9,10],[7,8,9,10,((.x 0),[])]),([7,10],[7,10,((.x 0),[])]),([10],[10,((.x 0),[])])]
abbrev A76(p:List Nat):=AW (Z2 ZyJ) Tryz.f76 ZHP p
theorem ZN6(cs:List Conflict)(at_:List PStep)(base ours theirs:Tree)(Q:QT)(h:∀d,d=base->∀ah,ah=ours->∀af,af=theirs->∀ab,ab=(Z0 d)->∀aa,aa=(Z0 ah)->∀ae,ae=(Z0 af)->((Zmw (at_,()))/\(ZfY (d,()))/\(ZfY (ah,()))/\(ZfY (af,()))/\((cs.length+([(Conflict.mk at_ ab aa ae)]).length)*192<=140737488355328)/\(Q .ret (L2 [pL 10] [(.loc 10,(enc .tree base)),(.x 0,[sU .conflict (cs++([(Conflict.mk at_ ab aa ae)])) (.own (.x 0 0))])])))):A76 [] (L2 [(0,.ptr (.x 0) 0),(1,.c (sU .step at_ .unk)),(2,.agg (enc .tree base)),(3,.agg (enc .tree ours)),(4,.agg (enc .tree theirs))] [(.x 0,[sU .conflict cs (.own (.x 0 0))])]) Q:=(Eq.mpr V3 (h _ (Z3 _) _ (Z3 _) _ (Z3 _) _ (Z3 _) _ (Z3 _) _ (Z3 _)):)
abbrev ZJM(cs:List Conflict)(at_:List PStep)(base ours theirs:Tree):Prop:=AW (Z2 ZyJ) Tryz.f76 ZHP [] (Zg (ZqR.can ((cs,()),at_,base,ours,theirs,())) (ZqR.canX ((cs,()),at_,base,ours,theirs,()))) (EQ Tryz.f76 (ZF5 ((cs,()),at_,base,ours,theirs,())) (Zwj ((cs,()),at_,base,ours,theirs,())))
theorem ZGW(c96:CT 96 Zf3)(c22:CT 22 Zfs)(hb:∀(cs:List Conflict)(at_:List PStep)(base:Tree)(ours:Tree)(theirs:Tree)(_:Unit),Z3K ((cs,()),at_,base,ours,theirs,())->ZJM cs at_ base ours theirs):CT 76 Z48:=Y9 (l:=[(96,Zf3),(22,Zfs)]) Zf rfl (⟨c96,c22,trivial⟩) ZHP Tryz.func76 rfl rfl 5 (λ_=>rfl) V0 (λ⟨⟨cs,_⟩,at_,base,ours,theirs,_⟩=>hb cs at_ base ours theirs ())
def Zsm:Za U:=lvk [([0,1,2,8],[((.x 0),[.wr .u64])]),([0,1,2],[((.x 0),[.wr .u64])]),([],[((.x 0),[.wr .u64])])]
def Z7T(i w:Int)(out rx_0_0:List Int):LSt U:=(⟨[pI 0 i,(1,.c (.int .u64 w)),(2,.ptr (.x 0) 0)],[(.x 0,[.mref (.x 0 0)])],[(.x 0 0,LC.mk (U:=U) .u64 rx_0_0 0)]⟩:LSt U)
abbrev ZKQ(p:List Nat):=AW (Z2 Zqj) Tryz.f109 Zsm p
abbrev ZM9(p:List Nat):=SW (Z2 Zqj) Tryz.f109 Zsm p
theorem ZLh(i w:Int)(out:List Int)(Q:QT)(h:Zk (ZKQ [0,0,0]) (Z7T i w out out) (xB 0 (ZM9 [1] Q))):ZKQ [] (⟨[pI 0 i,(1,.c (.int .u64 w)),(2,.ptr (.x 0) 0)],[(.x 0,[.mref (.x 0 0)])],[(.x 0 0,LC.mk (U:=U) .u64 out 0)]⟩:LSt U) Q:=(Eq.mpr V3 h:)
theorem ZvE(i w:Int)(out rx_0_0:List Int)(N0:NT)(Q:QT)(h:(iB (decide (((rx_0_0.length:Int):Int)<=i)) (((rx_0_0.length+([0]).length)*8<=140737488355328)/\(N0 (Z7T i w out (rx_0_0++([0]))))) (((0:Int)<=i/\i<(rx_0_0.length:Int))/\((0:Nat)<=i.toNat)/\(Q .normal (⟨[],[(.x 0,[.mref (.x 0 0)])],[(.x 0 0,LC.mk (U:=U) .u64 (List.set rx_0_0 i.toNat w) 0)]⟩:LSt U))))):ZKQ [0,0,0] (Z7T i w out rx_0_0) (xT N0 (xB 0 (ZM9 [1] Q))):=(Eq.mpr V3 h:)
abbrev ZEB(i w:Int)(out:List Int):Prop:=AW (Z2 Zqj) Tryz.f109 Zsm [] (Ji (ZeH.can (i,w,(out,()),())) (ZeH.canX (i,w,(out,()),())) (ZeH.canL (i,w,(out,()),()))) (Z00 cfg Tryz.f109.ntmps Tryz.f109.results.toList (ZwQ (i,w,(out,()),())) (Zrx (i,w,(out,()),())) (ZrD (i,w,(out,()),())))
theorem ZD4(hb:∀(i:Int)(w:Int)(out:List Int)(_:Unit),Zcm (i,w,(out,()),())->ZEB i w out):CT 109 Z9O:=ZL (l:=[]) Zf rfl trivial Zsm Tryz.func109 rfl rfl 3 (λ_=>rfl) V0 (λ⟨i,w,⟨out,_⟩,_⟩=>hb i w out ())
def ZpU:List (FuncId×Fs U):=[(42,Z1z),(109,Z9O),(63,Z1v),(71,Zfi),(91,Z46),(110,Z9N),(76,Z48)]
def ZDf:Za U:=lvk [([0,1,3,4,7],[7,((.x 0),[])]),([0,1,3,4,7,11],[7,((.loc 11),[.wr .u64]),((.x 0),[])]),([0,1,3,4,7,11,12],[7,((.loc 11),[.wr .u64]),((.x 0),[])]),([0,1,3,4,7,11,12,31],[7,((.loc 11),[.wr .u64]),((.x 0),[])]),([0,1,3,4,7,11,12,13,14],[7,((.loc 11),[.wr .u64]),13,14,((.x 0),[])]),([0,1,3,4,7,11,12,13,14],[7,((.loc 11),[.wr .u64]),13,14,((.x 0),[])]),([0,1,3,4,7,11,12,13,14,15],[7,((.loc 11),[.wr .u64]),13,14,((.x 0),[])]),([0,1,3,4,7,11,12,13,14,46],[7,((.loc 11),[.wr .u64]),13,14,((.x 0),[])]),([0,1,3,4,7,11,12,13,14,15],[7,((.loc 11),[.wr .u64]),13,14,((.x 0),[])]),([0,1,3,4,7,11,12,13,14,75],[7,((.loc 11),[.wr .u64]),13,14,((.x 0),[])]),([0,1,3,4,7,11,12,13,14,15],[7,((.loc 11),[.wr .u64]),13,14,((.x 0),[])]),([0,1,3,4,7,11,12,13,14,15,16],[7,((.loc 11),[.wr .u64]),13,14,((.x 0),[])]),([0,1,3,4,7,11,12,13,14,15,16,17,18],[7,((.loc 11),[.wr .u64]),13,14,((.x 0),[])]),([0,1,3,4,7,11,12,13,14,15,16,17,18,19],[7,((.loc 11),[.wr .u64]),13,14,((.x 0),[])]),([0,1,3,4,7,11,12,14,15,16,17,18,127],[7,((.loc 11),[.wr .u64]),14,((.x 0),[])]),([0,1,3,4,7,11,12],[7,((.loc 11),[.wr .u64]),((.x 0),[])]),([0,1,3,4,7,11,12],[7,((.loc 11),[.wr .u64]),((.x 0),[])]),([10],[((.x 0),[])])]
def Z0A(cs:List Conflict)(at_:List PStep)(o:Tree)(p q x3:List WEdit)(mx0_0:List Conflict)(d:List Int)(x4:List WEdit):LSt U:=(⟨[(0,.ptr (.x 0) 0),(1,.c (sU .step at_ .unk)),(3,.c (sU .wedit x3 .unk)),(4,.c (sU .wedit x4 .unk)),pL 7,pL 11,(12,.clo 109 [(.loc 11)])],[(.loc 7,(enc .tree o)),(.loc 11,[.mref (.l 11 0)]),(.x 0,[sU .conflict mx0_0 (.own (.x 0 0))])],[(.l 11 0,LC.mk (U:=U) .u64 d 0)]⟩:LSt U)
abbrev A90(p:List Nat):=AW (Z2 ZpU) Tryz.f90 ZDf p
abbrev S90(p:List Nat):=SW (Z2 ZpU) Tryz.f90 ZDf p
theorem ZMS(cs:List Conflict)(at_:List PStep)(o:Tree)(p q:List WEdit)(Q:QT)(h:((ZmK (o.words,()))/\(Zk (A90 [1,1,1,0,0,0]) (Z0A cs at_ o p q p cs o.words q) (xB 0 (S90 [1,1,1,1] Q))))):A90 [] (L2 [(0,.ptr (.x 0) 0),(1,.c (sU .step at_ .unk)),(2,.agg (enc .tree o)),(3,.c (sU .wedit p .unk)),(4,.c (sU .wedit q .unk))] [(.x 0,[sU .conflict cs (.own (.x 0 0))])]) Q:=(Eq.mpr V3 h:)
theorem ZB6(cs:List Conflict)(at_:List PStep)(o:Tree)(p q x3:List WEdit)(mx0_0:List Conflict)(aa:List Int)(x4:List WEdit)(N0:NT)(Q:QT)(h:∀ae,ae=o->∀ab,ab=(List.getD x3 (Int.toNat 0) (WEdit.mk 0 0 0 0))->∀d,d=(List.getD x4 (Int.toNat 0) (WEdit.mk 0 0 0 0))->∀ao,ao=(Tree.mk 1 [(Zs ae ab.at_)] [])->∀ax,ax=(Tree.mk 1 [(Zs ae d.at_)] [])->∀ay,ay=(Tree.mk 1 [(mix (Zs ae ab.at_) 0 0)] [])->∀av,av=(Tree.mk 1 [(mix (Zs ae d.at_) 0 0)] [])->∀af,af=(mix (Zs ae ab.at_) ab.new ab.mask)->∀aw,aw=(mix (Zs ae ab.at_) d.new d.mask)->∀ak,ak=(mix (Zs ae d.at_) d.new d.mask)->∀au,au=(BitVec.ofInt (IntKind.bits .u8) ab.mask&&&BitVec.ofInt (IntKind.bits .u8) 0)->∀ar,ar=(BitVec.ofInt (IntKind.bits .u8) 0&&&BitVec.ofInt (IntKind.bits .u8) d.mask)->∀aq,aq=(BitVec.ofInt (IntKind.bits .u8) ab.mask&&&BitVec.ofInt (IntKind.bits .u8) d.mask)->∀ah,ah=(Tree.mk 1 [af] [])->∀am,am=(Tree.mk 1 [aw] [])->∀al,al=(Tree.mk 1 [ak] [])->let z10:=List.drop (Int.toNat 1) x4;let z9:=List.drop (Int.toNat 1) x3;let z8:=IntKind.wrap .u8 aq.toNat;let z7:=IntKind.wrap .u8 ar.toNat;let z6:=IntKind.wrap .u8 au.toNat;let z5:=Zs ae d.at_;let z12:=mix (mix z5 0 0) d.new d.mask;let z4:=Zs ae ab.at_;let z11:=Zs1 (z4,ab.new,ab.mask,());let z3:=decide ((0:Int)<(x3.length:Int));let z2:=((x4.length:Int):Int)==0;let z1:=((x3.length:Int):Int)==0;let z0:=(!z2)&&z3;(Tt (!z3))/\(Tt (!z3))/\(z3=false->(!z3)=true)/\(iB (bif z3 then true else(decide ((0:Int)<(x4.length:Int)))) (((Tt (!z2))/\(Tt (!z2))/\(Tt (!z2))/\(Tt z0)/\(z0=true->(0:Int)<=0/\0<(x3.length:Int))/\(Tt z0)/\(Tt z0)/\(Tt z0)/\(z0=true->(0:Int)<=0/\0<(x4.length:Int))/\(Tt z0)/\(Tt z0)/\(Tt z0)/\(Tt z0)/\((!z2)=true->(True->(!z2)=true))/\((!z2)=true->(z3=true->z0=true))/\(z2=false->(!z2)=true)/\(iB (bif z2 then true else(bif z3 then(decide (ab.at_<d.at_))else false)) (((0:Int)<=0/\0<(x3.length:Int))/\((0:Int)<=0/\0<(x3.length:Int))/\((0:Int)<=1/\1<=(x3.length:Int))/\((Z6A (ae,ab.at_,()))/\(z11/\(Zs1 (z4,0,0,()))/\((Zs1 (0,ab.new,z6,()))/\(Zs1 (0,0,z6,()))/\(iB (((mix 0 ab.new z6):Int)!=(mix 0 0 z6)) ((Z5Y (at_,1,ab.at_,()))/\(Zxh (z4,()))/\(Zxh (af,()))/\(Zxh ((mix z4 0 0),()))/\(Z3K ((mx0_0,()),(at_++[PStep.mk 1 ab.at_]),ao,ah,ay,()))/\(N0 (Z0A cs at_ o p q z9 (mx0_0++[Conflict.mk (at_++[PStep.mk 1 ab.at_]) (Z0 ao) (Z0 ah) (Z0 ay)]) aa x4))) ((Zs1 (af,0,0,()))/\(Zcm (ab.at_,(mix af 0 0),(aa,()),()))/\(N0 (Z0A cs at_ o p q z9 mx0_0 (ZK 0 aa (ab.at_).toNat (mix af 0 0)) x4)))))))) ((Tt (!z1))/\((!z1)=true->(0:Int)<=0/\0<(x4.length:Int))/\(Tt (!z1))/\(Tt (!z1))/\(Tt (!z1))/\((!z1)=true->(0:Int)<=0/\0<(x3.length:Int))/\(Tt (!z1))/\(Tt (!z1))/\(Tt (!z1))/\(Tt (!z1))/\(z1=false->(!z1)=true)/\(iB (bif z1 then true else(decide (d.at_<ab.at_))) (((0:Int)<=0/\0<(x4.length:Int))/\((0:Int)<=0/\0<(x4.length:Int))/\((0:Int)<=1/\1<=(x4.length:Int))/\((Z6A (ae,d.at_,()))/\((Zs1 (z5,0,0,()))/\(Zs1 (z5,d.new,d.mask,()))/\((Zs1 (0,0,z7,()))/\(Zs1 (0,d.new,z7,()))/\(iB (((mix 0 0 z7):Int)!=(mix 0 d.new z7)) ((Z5Y (at_,1,d.at_,()))/\(Zxh (z5,()))/\(Zxh ((mix z5 0 0),()))/\(Zxh (ak,()))/\(Z3K ((mx0_0,()),(at_++[PStep.mk 1 d.at_]),ax,av,al,()))/\(N0 (Z0A cs at_ o p q x3 (mx0_0++[Conflict.mk (at_++[PStep.mk 1 d.at_]) (Z0 ax) (Z0 av) (Z0 al)]) aa z10))) ((Zs1 ((mix z5 0 0),d.new,d.mask,()))/\(Zcm (d.at_,z12,(aa,()),()))/\(N0 (Z0A cs at_ o p q x3 mx0_0 (ZK 0 aa (d.at_).toNat z12) z10)))))))) (((0:Int)<=0/\0<(x3.length:Int))/\((0:Int)<=0/\0<(x4.length:Int))/\((0:Int)<=0/\0<(x3.length:Int))/\((0:Int)<=1/\1<=(x3.length:Int))/\((0:Int)<=1/\1<=(x4.length:Int))/\((Z6A (ae,ab.at_,()))/\(z11/\(Zs1 (z4,d.new,d.mask,()))/\((Zs1 (0,ab.new,z8,()))/\(Zs1 (0,d.new,z8,()))/\(iB (((mix 0 ab.new z8):Int)!=(mix 0 d.new z8)) ((Z5Y (at_,1,ab.at_,()))/\(Zxh (z4,()))/\(Zxh (af,()))/\(Zxh (aw,()))/\(Z3K ((mx0_0,()),(at_++[PStep.mk 1 ab.at_]),ao,ah,am,()))/\(N0 (Z0A cs at_ o p q z9 (mx0_0++[Conflict.mk (at_++[PStep.mk 1 ab.at_]) (Z0 ao) (Z0 ah) (Z0 am)]) aa z10))) ((Zs1 (af,d.new,d.mask,()))/\(Zcm (ab.at_,(mix af d.new d.mask),(aa,()),()))/\(N0 (Z0A cs at_ o p q z9 mx0_0 (ZK 0 aa (ab.at_).toNat (mix af d.new d.mask)) z10))))))))))))) ((Q .ret (L2 [(10,.c (sU .u64 aa (.own (.e 10 0))))] [(.x 0,[sU .conflict mx0_0 (.own (.x 0 0))])]))))):A90 [1,1,1,0,0,0] (Z0A cs at_ o p q x3 mx0_0 aa x4) (xT N0 (xB 0 (S90 [1,1,1,1] Q))):=(Eq.mpr V3 (h _ (Z3 _) _ rfl _ rfl _ (Z3 _) _ (Z3 _) _ (Z3 _) _ (Z3 _) _ rfl _ rfl _ rfl _ rfl _ rfl _ rfl _ (Z3 _) _ (Z3 _) _ (Z3 _)):)
abbrev ZJy(cs:List Conflict)(at_:List PStep)(o:Tree)(p q:List WEdit):Prop:=AW (Z2 ZpU) Tryz.f90 ZDf [] (Zg (ZqO.can ((cs,()),at_,o,p,q,())) (ZqO.canX ((cs,()),at_,o,p,q,()))) (EQ Tryz.f90 (Zwm ((cs,()),at_,o,p,q,())) (ZoJ ((cs,()),at_,o,p,q,())))
theorem ZGJ(Zjf:CT 42 Z1z)(ZIZ:CT 109 Z9O)(c63:CT 63 Z1v)(c71:CT 71 Zfi)(c91:CT 91 Z46)(ZIY:CT 110 Z9N)(c76:CT 76 Z48)(hb:∀(cs:List Conflict)(at_:List PStep)(o:Tree)(p:List WEdit)(q:List WEdit)(_:Unit),Zmx ((cs,()),at_,o,p,q,())->ZJy cs at_ o p q):CT 90 ZjF:=Y9 (l:=[(42,Z1z),(109,Z9O),(63,Z1v),(71,Zfi),(91,Z46),(110,Z9N),(76,Z48)]) Zf rfl (⟨Zjf,ZIZ,c63,c71,c91,ZIY,c76,trivial⟩) ZDf Tryz.func90 rfl rfl 5 (λ_=>rfl) V0 (λ⟨⟨cs,_⟩,at_,o,p,q,_⟩=>hb cs at_ o p q ())
end
theorem c91:Contract Tryz.prog cfg 91 Z46:=by refine ZGI ?_;intro at_ kind n _ d;simp only[Z5Y]at d;refine ZMR _ _ _ _ ?_;simp only[iB,vcF];rw[show(Int.toNat (at_.length:Int))=at_.length by omega,List.take_length];refine⟨Yp,by simp only[Qp];omega,?_⟩;exact YH
theorem ZIY:Contract Tryz.prog cfg 110 Z9N:=by refine ZD3 ?_;intro w _ d;refine ZLg _ _ ?_;exact YH
theorem c96:Contract Tryz.prog cfg 96 Zf3:=by
 refine ZGE ?_;intro l _ d;simp only[Zmw]at d;refine ZMN _ _ ?_;simp only[iB,vcF];refine⟨λh=>?_,?_,?_⟩;.subst h;exact YH
 .simp only[Qm];omega
 ·exact YH
theorem c76:Contract Tryz.prog cfg 76 Z48:=by refine ZGW c96 c22 ?_;intro cs at_ base ours theirs _ d;simp only[Z3K]at d;refine ZN6 _ _ _ _ _ _ ?_;rintro y1 rfl y2 rfl y3 rfl y4 rfl y5 rfl y6 rfl;refine⟨by simp only[Zmw];omega,by simp only[ZfY];omega,by simp only[ZfY];omega,by simp only[ZfY];omega,by simp only[Qp];omega,?_⟩;exact YH
theorem Zxt(out:List Int)(i:Nat)(w:Int)(h:out.length<=i):ZK 0 (out++[0]) i w=ZK 0 out i w:=by unfold ZK;congr 1;rw[Q8,Qp,Q7,show i+1-out.length=(i+1-(out.length+1))+1 by omega,Kg];try rfl
theorem ZIZ:Contract Tryz.prog cfg 109 Z9O:=by
 refine ZD4 ?_;intro i w out _ hp;simp only[Zcm]at hp;refine ZLh _ _ _ _ ?_;refine Z6 (ι:=List Int) (λl=>Z7T i w out l) (λl=>l.length<=1000001/\ZK 0 l i.toNat w=ZK 0 out i.toNat w) (λl=>(i+1-l.length).toNat) out rfl ⟨Yp,rfl⟩ ?_;rintro l⟨h1,d⟩;refine ZvE _ _ _ _ _ _ ?_;(simp only[iB,vcT,vcS]);simp only[Qp];refine⟨λh=>⟨Yp,l++[0],rfl,⟨by simp;omega,by rw[Zxt _ _ _ Yp,d]⟩,by simp;omega⟩,λh=>⟨Yp,Yp,?_⟩⟩;have e:List.set l i.toNat w=ZK 0 out i.toNat w:=by rw[<-d];unfold ZK;rw[show i.toNat+1-l.length=0 by omega,List.replicate_zero,Qi]
 rw[e];exact YH
theorem Zoz(l:List Int)(i:Nat)(x:Int):(ZK 0 l i x).length=max l.length (i+1):=Z2g _ _ _ _
theorem ZtX(o:Tree)(at_:List PStep)(a b:WEdit)(i:Int)(s:List Int×List Conflict)(h:i<=65534)(n:Nat)(hs:s.1.length<=65535/\s.2.length<=n):(JD o at_ a b i s).1.length<=65535/\(JD o at_ a b i s).2.length<=n+1:=by
 unfold JD;split;.dsimp only;rw[Zoz];omega
 .simp;omega
theorem ZlF:JT Ym:=⟨by show InR 0;unfold InR;omega,by show(0:Int)<=0/\(0:Int)<256;omega,Zzf,Zzf⟩
theorem ZeN(o:Tree)(at_:List PStep)(n:Nat){p q:List WEdit}(h:p.length=0/\q.length=0)(s:List Int×List Conflict):ZC o at_ n p q s=s:=by cases n with|zero=>rfl|succ n=>rw[ZC,if_pos h]
theorem Z1f(o:Tree)(at_:List PStep):∀(n m:Nat)(p q:List WEdit)(s:List Int×List Conflict),p.length+q.length<=n->p.length+q.length<=m->ZC o at_ n p q s=ZC o at_ m p q s
 |0,m,p,q,s,h1,h2=>by rw[ZeN o at_ m Yp];try rfl|n+1,0,p,q,s,h1,h2=>by rw[ZeN o at_ (n+1) Yp];try rfl|n+1,m+1,p,q,s,h1,h2=>by
  have e1:(p.drop 1).length=p.length-1:=Qt;have d:(q.drop 1).length=q.length-1:=Qt;rw[ZC,ZC];split;.try rfl
  .split;.exact Z1f o at_ n m _ _ _ Yp Yp
   .split;.exact Z1f o at_ n m _ _ _ Yp Yp
    .exact Z1f o at_ n m _ _ _ Yp Yp
theorem c90:Contract Tryz.prog cfg 90 ZjF:=by
 refine ZGJ Zjf ZIZ c63 c71 c91 ZIY c76 ?_;intro cs at_ o p q _ hp;simp only[Zmx]at hp;obtain⟨⟨⟨hc,ha⟩,ro,hw⟩,⟨p1,p2⟩,q1,q2⟩:=hp;refine ZMS _ _ _ _ _ _ ⟨by simp only[ZmK];omega,?_⟩;refine Z6 (ι:=List WEdit×List WEdit×List Int×List Conflict) (λs=>Z0A cs at_ o p q s.1 s.2.2.2 s.2.2.1 s.2.1) (λs=>((∀w∈s.1,JT w/\0<=w.at_/\w.at_<=65534)/\s.1.length<=65535)/\((∀w∈s.2.1,JT w/\0<=w.at_/\w.at_<=65534)/\s.2.1.length<=65535)/\s.2.2.1.length<=65535/\s.2.2.2.length+s.1.length+s.2.1.length<=30000200000/\ZC o at_ (s.1.length+s.2.1.length) s.1 s.2.1 s.2.2=ZC o at_ (p.length+q.length) p q (o.words,cs)) (λs=>s.1.length+s.2.1.length) (p,q,o.words,cs) rfl ⟨⟨p1,p2⟩,⟨q1,q2⟩,hw,V1,rfl⟩ ?_;rintro⟨x,y,out,ds⟩⟨⟨h1,h2⟩,⟨h3,h4⟩,h5,h6,h7⟩;dsimp only at h1 h2 h3 h4 h5 h6 h7;refine ZB6 _ _ _ _ _ _ _ _ _ _ _ ?_;rintro y1 hy1 y2 az y3 a8 y4 bh y5 bl y6 bo y7 bq y8 bg y9 bn b3 ba cf a7 b8 bb cb ay b6 bd b9 a2 b5 bc;(simp only[iB,vcT,vcS]);replace hy1:=hy1.symm;subst hy1;subst bh bl bo bq bg bn ba a7 bb ay bd a2 bc;have ar:∀(x' y':List WEdit)(a b:WEdit)(i:Int),((∀w∈x',JT w/\0<=w.at_/\w.at_<=65534)/\x'.length<=65535)->((∀w∈y',JT w/\0<=w.at_/\w.at_<=65534)/\y'.length<=65535)->x'.length+y'.length<x.length+y.length->i<=65534->ZC o at_ (x'.length+y'.length) x' y' (JD o at_ a b i (out,ds))=ZC o at_ (p.length+q.length) p q (o.words,cs)->∀aa ai,JD o at_ a b i (out,ds)=(aa,ai)->∃j:List WEdit×List WEdit×List Int×List Conflict,Z0A cs at_ o p q x' ai aa y'=Z0A cs at_ o p q j.1 j.2.2.2 j.2.2.1 j.2.1/\(((∀w∈j.1,JT w/\0<=w.at_/\w.at_<=65534)/\j.1.length<=65535)/\((∀w∈j.2.1,JT w/\0<=w.at_/\w.at_<=65534)/\j.2.1.length<=65535)/\j.2.2.1.length<=65535/\j.2.2.2.length+j.1.length+j.2.1.length<=30000200000/\ZC o at_ (j.1.length+j.2.1.length) j.1 j.2.1 j.2.2=ZC o at_ (p.length+q.length) p q (o.words,cs))/\j.1.length+j.2.1.length<x.length+y.length:=by intro x' y' a b i h1 h2 h3 h4 a6 aa ai bk;have hl:=ZtX o at_ a b i (out,ds) h4 ds.length ⟨h5,Qc _⟩;rw[bk]at hl a6;dsimp only at hl;exact⟨(x',y',aa,ai),rfl,⟨h1,h2,hl.1,V1,a6⟩,h3⟩
 have dx:(∀w∈x.drop 1,JT w/\0<=w.at_/\w.at_<=65534)/\(x.drop 1).length<=65535:=⟨λw hw=>h1 w (Ql hw),by rw[Qt];omega⟩;have dy:(∀w∈y.drop 1,JT w/\0<=w.at_/\w.at_<=65534)/\(y.drop 1).length<=65535:=⟨λw hw=>h3 w (Ql hw),by rw[Qt];omega⟩;have lx:(x.drop 1).length=x.length-1:=Qt;have ly:(y.drop 1).length=y.length-1:=Qt;have mx:0<x.length->JT y2/\0<=y2.at_/\y2.at_<=65534:=λh=>by rw[az];exact h1 _ (Ze Yp _)
 have my:0<y.length->JT y3/\0<=y3.at_/\y3.at_<=65534:=λh=>by rw[a8];exact h3 _ (Ze Yp _)
 have ex:x.getD 0 Ym=y2:=az.symm;have ey:y.getD 0 Ym=y3:=a8.symm;have W:=λi=>ZeP ro i;have z0:(0:Int)<=0/\(0:Int)<18446744073709551616:=Yp;have z1:(0:Int)<=0/\(0:Int)<256:=Yp;have am:∀a b:WEdit,JT a->JT b->0<=ZhB a.mask b.mask/\ZhB a.mask b.mask<256:=λa b ha hb=>(Ztx ha.2.1 hb.2.1).1;have m2:∀w:Int,mass (.mk 1 [w] [])<=1000000000000:=λw=>by simp[mass,Z5]
 have pt:∀i:Int,(at_++[PStep.mk 1 i]).length<=40000000000:=λi=>by simp;omega
 refine⟨λbm=>⟨λh=>by omega,λh=>by omega,λh h'=>⟨h,h'⟩,λhA=>?_,λhA=>⟨λh=>by omega,λh=>by omega,λhB=>?_,λhB=>?_⟩⟩,λbm=>?_⟩
 .obtain⟨d,i0,i1⟩:=mx Yp;have a1:=am y2 Ym d ZlF;have hw:ZC o at_ ((x.drop 1).length+y.length) (x.drop 1) y (JD o at_ y2 Ym y2.at_ (out,ds))=ZC o at_ (p.length+q.length) p q (o.words,cs):=by
   rw[<-h7];have e:x.length+y.length=(x.length+y.length-1)+1:=Yp;rw[e,ZC,JH,if_pos (by rw[ex,ey];omega),ex];exact Z1f _ _ _ _ _ _ _ Yp Yp
  have K:=ar (x.drop 1) y y2 Ym y2.at_ dx ⟨h3,h4⟩ Yp i1 hw;refine⟨Yp,Yp,Yp,trivial,⟨W _,d.2.2.2,d.2.1⟩,⟨W _,z0,z1⟩,⟨z0,d.2.2.2,a1⟩,⟨z0,z0,a1⟩,λhm=>?_,λhm=>?_⟩;.refine⟨by show at_.length<=_;omega,trivial,trivial,trivial,⟨⟨by show ds.length<=_;omega,pt _⟩,m2 _,m2 _,m2 _⟩,K _ _ ?_⟩;unfold JD;exact if_neg hm
  .refine⟨⟨Z25 _ _ _,z0,z1⟩,⟨⟨i0,by show y2.at_<=_;omega⟩,by show out.length<=_;omega⟩,K _ _ ?_⟩;unfold JD;exact if_pos hm
 .obtain⟨d,i0,i1⟩:=my Yp;have a1:=am Ym y3 ZlF d;have hw:ZC o at_ (x.length+(y.drop 1).length) x (y.drop 1) (JD o at_ Ym y3 y3.at_ (out,ds))=ZC o at_ (p.length+q.length) p q (o.words,cs):=by rw[<-h7];have e:x.length+y.length=(x.length+y.length-1)+1:=Yp;rw[e,ZC,JH,if_neg (by rw[ex,ey];omega),if_pos (by rw[ex,ey];omega),ey];exact Z1f _ _ _ _ _ _ _ Yp Yp
  have K:=ar x (y.drop 1) Ym y3 y3.at_ ⟨h1,h2⟩ dy Yp i1 hw;refine⟨Yp,Yp,Yp,trivial,⟨W _,z0,z1⟩,⟨W _,d.2.2.2,d.2.1⟩,⟨z0,z0,a1⟩,⟨z0,d.2.2.2,a1⟩,λhm=>?_,λhm=>?_⟩;.refine⟨by show at_.length<=_;omega,trivial,trivial,trivial,⟨⟨by show ds.length<=_;omega,pt _⟩,m2 _,m2 _,m2 _⟩,K _ _ ?_⟩;unfold JD;exact if_neg hm
  .refine⟨⟨Z25 _ _ _,d.2.2.2,d.2.1⟩,⟨⟨i0,by show y3.at_<=_;omega⟩,by show out.length<=_;omega⟩,K _ _ ?_⟩;unfold JD;exact if_pos hm
 .obtain⟨d,i0,i1⟩:=mx Yp;obtain⟨r2,j0,j1⟩:=my Yp;have a1:=am y2 y3 d r2;have hw:ZC o at_ ((x.drop 1).length+(y.drop 1).length) (x.drop 1) (y.drop 1) (JD o at_ y2 y3 y2.at_ (out,ds))=ZC o at_ (p.length+q.length) p q (o.words,cs):=by rw[<-h7];have e:x.length+y.length=(x.length+y.length-1)+1:=Yp;rw[e,ZC,JH,if_neg (by rw[ex,ey];omega),if_neg (by rw[ex,ey];omega),ex,ey];exact Z1f _ _ _ _ _ _ _ Yp Yp
  have K:=ar (x.drop 1) (y.drop 1) y2 y3 y2.at_ dx dy Yp i1 hw;refine⟨Yp,Yp,Yp,Yp,Yp,trivial,⟨W _,d.2.2.2,d.2.1⟩,⟨W _,r2.2.2.2,r2.2.1⟩,⟨z0,d.2.2.2,a1⟩,⟨z0,r2.2.2.2,a1⟩,λhm=>?_,λhm=>?_⟩;.refine⟨by show at_.length<=_;omega,trivial,trivial,trivial,⟨⟨by show ds.length<=_;omega,pt _⟩,m2 _,m2 _,m2 _⟩,K _ _ ?_⟩;unfold JD;exact if_neg hm
  .refine⟨⟨Z25 _ _ _,r2.2.2.2,r2.2.1⟩,⟨⟨i0,by show y2.at_<=_;omega⟩,by show out.length<=_;omega⟩,K _ _ ?_⟩;unfold JD;exact if_pos hm
 .have e:x.length=0/\y.length=0:=Yp;rw[ZeN _ _ _ e]at h7;simp only[Zwm,ZoJ,<-h7];exact YH
end Go.AM.YtnfbomhidainjaaGreat
