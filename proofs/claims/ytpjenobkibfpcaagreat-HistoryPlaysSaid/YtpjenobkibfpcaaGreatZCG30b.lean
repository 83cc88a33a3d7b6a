import Derived.Test.YtpjenobkibfpcaaGreatZCD40
import Derived.Test.YtpjenobkibfpcaaGreatZKG21b
import Derived.Test.YtpjenobkibfpcaaGreatZCL25j
import Derived.Test.YtpjenobkibfpcaaGreatZKL24
import Derived.Test.YtpjenobkibfpcaaGreatZCB25a
import Derived.Test.YtpjenobkibfpcaaGreatZKL21t
set_option linter.all false
open Option renaming some->A,none->aT
open Bool renaming true->Y,false->I
open List renaming length->J,getD->aR
open Int renaming toNat->G
namespace Go.AM.YtpjenobkibfpcaaGreat
open Go.AM Go.Proofs
noncomputable section
structure dv where
 x:W
 y:W
 c:Bool
 a:Bool
def j7(m:Int):Int:=IntKind.wrap .u8 (BitVec.ofInt (IntKind.bits .u8) 255^^^BitVec.ofInt (IntKind.bits .u8) m).toNat
def jU{α:Type}(S:α->Int)(l:List α)(n:Int):Option α:=l.foldl (λo b=>if S b=n then A b else o) aT
def YP{α:Type}(S:α->Int)(f:α->α->α)(q:List α)(a:α):α:=match jU S q (S a)with|some b=>f a b|none=>a
def YS{α:Type}(S:α->Int)(g:α->α->Bool)(p q:List α):Bool:=p.any λa=>q.any λb=>decide (S a=S b)&&g a b
def jy(a b:aV):aV:=(oA a (j7 b.a_)).1
def oR(e:W):W:=if J (e.aS.filter λw=>!decide (w.a_=0))+J (e.X.filter λk=>!decide (k.e.D=0))=0 then W.nil else .mk e.D e.bH e.new (e.aS.filter λw=>!decide (w.a_=0)) (e.X.filter λk=>!decide (k.e.D=0)) e.V e.ops
def m9(e:W)(o n:H):dv:=⟨W.nil,W.nil,(dX e o).2&&!ZW (Z2 (dX e o).1) (Z2 n),!(dX e o).2⟩
def jx(f:W->W->dv)(p q:W):dv:=⟨oR (.mk 2 H.nil H.nil (p.aS.map (YP aV.S jy q.aS)) (p.X.map (YP aW.S (λa b=>⟨a.S,(f a.e b.e).x⟩) q.X)) 0 []),oR (.mk 2 H.nil H.nil (q.aS.map (YP aV.S jy p.aS)) (q.X.map (YP aW.S (λb a=>⟨b.S,(f a.e b.e).y⟩) p.X)) 0 []),YS aV.S (λa b=>!YB a b&&jH a b) p.aS q.aS||YS aW.S (λa b=>(f a.e b.e).c) p.X q.X,YS aV.S YB p.aS q.aS||YS aW.S (λa b=>(f a.e b.e).a) p.X q.X⟩
structure PL where
 x:List Op
 y:List Op
 c:Bool
 a:Bool
def PL.dw(s t:PL):PL:=⟨s.x++t.x,s.y++t.y,s.c||t.c,s.a||t.a⟩
def Jd(m h:List H):PL:=if m≠[]/\h≠[]then⟨Jb (J h),Jb (J m),!gw m h,I⟩else⟨gS m++Jb (J h),Jb (J m)++gS h,I,I⟩
def ZS(f:W->W->dv)(p q:Op):PL:=if p.D=0/\q.D=1 then⟨[],[q],I,I⟩else if p.D=1/\q.D=0 then⟨[p],[],I,I⟩else if p.D=0 then⟨[⟨0,if q.n<1 then 1 else q.n,[],W.nil⟩],[q],I,I⟩else if q.D=0 then⟨[p],[⟨0,1,[],W.nil⟩],I,I⟩else if p.D=1/\q.D=1 then⟨[],[],I,!gw p.l q.l⟩else if p.D=1 then⟨[],[],Y,!(bX I q.e (aR p.l 0 H.nil)).isSome⟩else if q.D=1 then⟨[],[],Y,!(bX I p.e (aR q.l 0 H.nil)).isSome⟩else⟨[jP (f p.e q.e).x],[jP (f p.e q.e).y],(f p.e q.e).c,(f p.e q.e).a⟩
def j6(f:W->W->dv):List cm->List H->List H->PL|[],m,h=>Jd m h|x::r,m,h=>if x.of=1 then j6 f r (m++x.p.l) h else if x.of=2 then j6 f r m (h++x.q.l)else((Jd m h).dw (ZS f x.p x.q)).dw (j6 f r [] [])
def J9(V:Int)(l:List Op):W:=if(l.any λo=>!decide (o.D=0))=Y then .mk 3 H.nil H.nil [] [] V l else W.nil
def k8(f:W->W->dv)(p q:W):dv:=if(ZC 2 2 p.ops q.ops []).2.1=Y then⟨J9 p.V (j6 f (ZC 2 2 p.ops q.ops []).1 [] []).x,J9 p.V (j6 f (ZC 2 2 p.ops q.ops []).1 [] []).y,(j6 f (ZC 2 2 p.ops q.ops []).1 [] []).c,(j6 f (ZC 2 2 p.ops q.ops []).1 [] []).a⟩else⟨W.nil,W.nil,I,Y⟩
def Jp(f:W->W->dv)(p q:W):dv:=if p.D=0\/q.D=0 then⟨p,q,I,I⟩else if p.D=1 then m9 q p.bH p.new else if q.D=1 then m9 p q.bH q.new else if p.D≠q.D\/p.V≠q.V then⟨W.nil,W.nil,I,Y⟩else if p.D=2 then jx f p q else k8 f p q
def kP:Nat->W->W->dv|0,_,_=>⟨W.nil,W.nil,I,I⟩|n+1,p,q=>Jp (kP n) p q
def dK(p q:W):dv:=kP (Z1 p+Z1 q) p q
def gz(p q:W):W×W×Int:=if(dK (Zd p) (Zd q)).a=Y then(W.nil,W.nil,14)else if(dK (Zd p) (Zd q)).c=Y then(W.nil,W.nil,13)else(Zd (dK (Zd p) (Zd q)).x,Zd (dK (Zd p) (Zd q)).y,0)
def Jw{α:Type}(f:α->Bool):List α->Int->Int|[],_=>-1|a::r,i=>if f a=Y then i else Jw f r (i+1)
end
structure my(p q:List Op)(x:cm):Prop where
 of:x.of=0\/x.of=1\/x.of=2
 pp:x.of≠2->dB p x.p/\ZH x.p
 qq:x.of≠1->dB q x.q/\ZH x.q
 cE:x.of=1->x.p.D=2
 qP:x.of=2->x.q.D=2
 dF:x.of=0->x.p.D≠2/\x.q.D≠2/\Z4 x.p=Z4 x.q
 pn:x.of=2->x.p=Op.nil
 qn:x.of=1->x.q=Op.nil
theorem my.mono{p q p' q' x}(h:my p q x)(s:∀x∈p,dB p' x)(hq:∀x∈q,dB q' x):my p' q' x:=⟨h.of,λe=>⟨(h.pp e).1.mono s,(h.pp e).2⟩,λe=>⟨(h.qq e).1.mono hq,(h.qq e).2⟩,h.cE,h.qP,h.dF,h.pn,h.qn⟩
theorem Pr:∀k(p q:List Op)bB,J p+J q<=k->(∀o∈p,ZH o)->(∀o∈q,ZH o)->((ZC 2 2 p q bB).2.1=Y->∃ps,(ZC 2 2 p q bB).1=bB++ps/\(∀x∈ps,my p q x)/\(∀s m,dh p s m↔dh (jF ps) s m)/\∀s m,dh q s m↔dh (jZ ps) s m)/\((ZC 2 2 p q bB).2.1=I->∀s u v,dh p s u->dh q s v->False):=by intro k;induction k with
 |zero=>
  intro p q bB hk hp hq;have e1:p=[]:=Q7 O;have e2:q=[]:=Q7 O;subst e1 e2;have e:ZC 2 2 [] [] bB=(bB,Y,[],[]):=by rw[ZC,QC (by simp[gL]),QC (by simp[gL]),QW (by simp)];try rfl
  rw[e];exact⟨λ_=>⟨[],by simp,λx hx=>(by cases hx),λs m=>QH,λs m=>QH⟩,λh=>by cases h⟩|succ k ih=>
  intro p q bB hk hp hq;rw[ZC];by_cases h1:gL 2 p=Y;.rw[QW h1];obtain⟨g1,g2⟩:=YL.1 h1;cases p with
   |nil=>grind|cons a p'=>
    simp only[Qm]at g2;simp only[Qm,QE,X9];have ha:=hp a Q6;obtain⟨i1,i2⟩:=ih p' q (bB++[⟨1,a,Op.nil⟩]) (by grind) (λo ho=>hp o (Q4 _ ho)) hq;refine⟨λh=>?_,λh s u v r1 r2=>?_⟩
    .obtain⟨ps,e,af,hP,hQ⟩:=i1 h;refine⟨⟨1,a,Op.nil⟩::ps,by grind,λx hx=>?_,λs m=>?_,λs m=>hQ s m⟩
     .rcases Qe.1 hx with rfl|hx;.exact⟨.inr (.inl rfl),λ_=>⟨dB.g7 Q6,ha⟩,λe=>absurd rfl e,λ_=>g2,λe=>(by cases e),λe=>(by cases e),λe=>(by cases e),λ_=>rfl⟩
      .exact(af x hx).mono (λx hx=>dB.g7 (Q4 _ hx)) λx hx=>dB.g7 hx
     .show _↔dh (a::jF ps) s m;exact uY hP (Zx ha) s m
    .obtain⟨d',_,hr⟩:=(YG g2).1 r1;grind
  .rw[QC h1];by_cases h2:gL 2 q=Y
   .rw[QW h2];obtain⟨g1,g2⟩:=YL.1 h2;cases q with|nil=>grind|cons a q'=>
     simp only[Qm]at g2;simp only[Qm,QE,X9];have ha:=hq a Q6;obtain⟨i1,i2⟩:=ih p q' (bB++[⟨2,Op.nil,a⟩]) (by grind) hp λo ho=>hq o (Q4 _ ho);refine⟨λh=>?_,λh s u v r1 r2=>?_⟩
     .obtain⟨ps,e,af,hP,hQ⟩:=i1 h;refine⟨⟨2,Op.nil,a⟩::ps,by grind,λx hx=>?_,λs m=>hP s m,λs m=>?_⟩
      .rcases Qe.1 hx with rfl|hx;.exact⟨.inr (.inr rfl),λe=>absurd rfl e,λ_=>⟨dB.g7 Q6,ha⟩,λe=>(by cases e),λ_=>g2,λe=>(by cases e),λ_=>rfl,λe=>by cases e⟩
       .exact(af x hx).mono (λx hx=>dB.g7 hx) λx hx=>dB.g7 (Q4 _ hx)
      .show _↔dh (a::jZ ps) s m;exact uY hQ (Zx ha) s m
     .obtain⟨d',_,hr⟩:=(YG g2).1 r2;grind
   .rw[QC h2];by_cases h3:J p=0\/J q=0
    .rw[QW h3];by_cases h4:J p=0
     .have e1:p=[]:=Q7 h4;subst e1;by_cases h5:J q=0;.have e2:q=[]:=Q7 h5;subst e2;rw[Q5 rfl];exact⟨λ_=>⟨[],by simp,λx hx=>(by cases hx),λs m=>QH,λm d=>QH⟩,λh=>by cases h⟩
      .rw[Q0 (by grind)];refine⟨λh=>(by cases h),λ_ s u v r1 r2=>?_⟩;cases q with|nil=>exact h5 rfl|cons a q'=>have ha:=hq a Q6;obtain⟨rfl,_⟩:=ZF r1;obtain⟨m1,m',d',e,hl,_⟩:=tY ha (λe=>h2 (YL.2 ⟨by simp,by simpa using e⟩)) r2;have:=ZE ha;have e:=congrArg List.length e;grind
     .have h5:J q=0:=O;have e2:q=[]:=Q7 h5;subst e2;rw[Q0 (by grind)];refine⟨λh=>(by cases h),λ_ s u v r1 r2=>?_⟩;cases p with|nil=>exact h4 rfl|cons a p'=>have ha:=hp a Q6;obtain⟨rfl,_⟩:=ZF r2;obtain⟨m1,m',d',e,hl,_⟩:=tY ha (λe=>h1 (YL.2 ⟨by simp,by simpa using e⟩)) r1;have:=ZE ha;have e:=congrArg List.length e;grind
    .rw[QC h3];cases p with|nil=>simp at h3|cons a p'=>cases q with|nil=>simp at h3|cons b q'=>
       have ha:=hp a Q6;have hb:=hq b Q6;have ka:a.D≠2:=λe=>h1 (YL.2 ⟨by simp,by simpa using e⟩);have kb:b.D≠2:=λe=>h2 (YL.2 ⟨by simp,by simpa using e⟩);have la:=ZE ha;have lb:=ZE hb;simp only[Qm];generalize hn:min (Z4 a) (Z4 b)=n;have aq:1<=n:=O;have az:n<=Z4 a:=O;have ay:n<=Z4 b:=O;obtain⟨a1,a2,a3,a4,a5,a6⟩:=uV hp aq az;obtain⟨b1,b2,b3,b4,b5,b6⟩:=uV hq aq ay;have a7:J (ZP (a::p') n)+J (ZP (b::q') n)<=k:=by
        have x1:=Yw (a::p') n (by simp);have x2:=Yw (b::q') n (by simp);simp only[Qd]at hk x1 x2;rcases KS (Z4 a) (Z4 b)with h|h;.have:=Yv (a::p') n (by simp) (by grind);grind
        .have:=Yv (b::q') n (by simp) (by grind);grind
       obtain⟨i1,i2⟩:=ih (ZP (a::p') n) (ZP (b::q') n) (bB++[⟨0,ZD a n,ZD b n⟩]) a7 (λo ho=>(a5 o ho).1) λo ho=>(b5 o ho).1;refine⟨λh=>?_,λh s u v r1 r2=>?_⟩
       .obtain⟨ps,e,af,hP,hQ⟩:=i1 h;refine⟨⟨0,ZD a n,ZD b n⟩::ps,by grind,λx hx=>?_,λs m=>?_,λs m=>?_⟩
        .rcases Qe.1 hx with rfl|hx;.exact⟨.inl rfl,λ_=>⟨a4,a1⟩,λ_=>⟨b4,b1⟩,λe=>(by cases e),λe=>(by cases e),λ_=>⟨by grind,by grind,by grind⟩,λe=>(by cases e),λe=>by cases e⟩
         .exact(af x hx).mono (λx hx=>(a5 x hx).2) λx hx=>(b5 x hx).2
        .rw[a6 s m];exact uY hP (Zx a1) s m
        .rw[b6 s m];exact uY hQ (Zx b1) s m
       .rw[a6]at r1;rw[b6]at r2;obtain⟨m1,s1,d1,e,hl,r3⟩:=tY a1 O r1;obtain⟨m2,s2,d2,e',bk,r4⟩:=tY b1 O r2;obtain⟨_,e2⟩:=Ke (e.symm.trans e') O;grind
theorem NR{α}(S:α->Int)(n):∀(l:List α)(o:Option α),l.foldl (λo b=>if S b=n then A b else o) o=match jU S l n with
  |some b=>A b|none=>o
 |[],o=>rfl|a::r,o=>by unfold jU;simp only[K0];rw[NR S n r,NR S n r (if S a=n then A a else aT)];grind
theorem Fh{α}(S)(n):∀l(b:α),jU S l n=A b->b∈l/\S b=n|[],b,h=>by cases h|a::r,b,h=>by unfold jU at h;rw[K0,NR]at h;cases hr:jU S r n with|some c=>rw[hr]at h;cases h;obtain⟨h1,s⟩:=Fh S n r b hr;grind|none=>grind
theorem LY{α S f g q}{a:α}(h:∀b∈q,f a b=g a b):YP S f q a=YP S g q a:=by unfold YP;cases hb:jU S q (S a)with|none=>rfl|some b=>exact h b (Fh S _ q b hb).1
theorem ZlC{α S f g}{p q:List α}(h:∀a∈p,∀b∈q,f a b=g a b):YS S f p q=YS S g p q:=by unfold YS;grind
theorem ZAU{p q x}(h:my p q x)(h0:x.of=0)(s:x.p.D=3)(kq:x.q.D=3):∃a∈p,∃b∈q,a.D=3/\b.D=3/\x.p.e=a.e/\x.q.e=b.e:=by obtain⟨⟨a,ma,ka,ea,_⟩,_⟩:=h.pp O;obtain⟨⟨b,mb,kb,eb,_⟩,_⟩:=h.qq O;grind
theorem ZpO{f g p q}(h:p.D=3->q.D=3->f p.e q.e=g p.e q.e)(hp:j8 p)(hq:j8 q)(p2:p.D≠2)(q2:q.D≠2):ZS f p q=ZS g p q:=by
 unfold ZS;by_cases h1:p.D=0/\q.D=1;.grind
 by_cases h2:p.D=1/\q.D=0;.grind
 by_cases h3:p.D=0;.grind
 by_cases h4:q.D=0;.grind
 rw[Q0 h1,Q0 h1,Q0 h2,Q0 h2,Q0 h3,Q0 h3,Q0 h4,Q0 h4];by_cases h5:p.D=1/\q.D=1;.grind
 by_cases h6:p.D=1;.grind
 by_cases h7:q.D=1;.grind
 have s:p.D=3:=by unfold j8 at hp;omega
 have kq:q.D=3:=by unfold j8 at hq;omega
 rw[h s kq]
theorem Zkl{f g p q}(h:∀a∈p,∀b∈q,a.D=3->b.D=3->f a.e b.e=g a.e b.e):∀{ps},(∀x∈ps,my p q x)->∀m n,j6 f ps m n=j6 g ps m n
 |[],_,_,_=>rfl|x::r,hps,m,n=>by
  have ih:=λm n=>Zkl h (λy hy=>hps y (Q4 _ hy)) (ps:=r) m n;have s:=hps x Q6;simp only[j6,ih];by_cases h1:x.of=1;.grind
  by_cases h2:x.of=2;.grind
  have h0:x.of=0:=by rcases s.of with h|h|h<;>omega
  obtain⟨b1,b2,_⟩:=s.dF h0;rw[Q0 h1,Q0 h1,Q0 h2,Q0 h2,ZpO (f:=f) (g:=g) (λkp kq=>?_) (Zx (s.pp h2).2) (Zx (s.qq h1).2) b1 b2];obtain⟨a,ma,b,mb,ka,kb,ea,eb⟩:=ZAU s h0 kp kq;grind
theorem Zex{f g p q d d'}(hp:Z3 p d=Y)(hq:Z3 q d'=Y)(h:∀a b,Z1 a+Z1 b<Z1 p+Z1 q->(∃d,Z3 a d=Y)->(∃d,Z3 b d=Y)->f a b=g a b):Jp f p q=Jp g p q:=by
 have rp:=Zc hp;have rq:=Zc hq;have hk:∀a∈p.X,∀b∈q.X,f a.e b.e=g a.e b.e:=by
  intro a ha b s;have:=ZA ha;have:=ZA s;exact h _ _ O ⟨_,(Zl rp.X a ha).2⟩ ⟨_,(Zl rq.X b s).2⟩
 have hs:jx f p q=jx g p q:=by unfold jx;rw[ZlC (S:=aW.S) (f:=λa b:bP=>(f a.e b.e).c) (g:=λa b=>(g a.e b.e).c) λa ha b s=>by rw[hk a ha b s],ZlC (S:=aW.S) (f:=λa b:bP=>(f a.e b.e).a) (g:=λa b=>(g a.e b.e).a) λa ha b s=>by rw[hk a ha b s],Xz (f:=YP aW.S (λa b:bP=>⟨a.S,(f a.e b.e).x⟩) q.X) (g:=YP aW.S (λa b:bP=>⟨a.S,(g a.e b.e).x⟩) q.X) λa ha=>LY λb s=>by rw[hk a ha b s],Xz (f:=YP aW.S (λb a:bP=>⟨b.S,(f a.e b.e).y⟩) p.X) (g:=YP aW.S (λb a:bP=>⟨b.S,(g a.e b.e).y⟩) p.X) λb s=>LY λa ha=>by rw[hk a ha b s]]
 have ho:k8 f p q=k8 g p q:=by
  unfold k8;obtain⟨i1,_⟩:=Pr _ p.ops q.ops [] (Qa _) (Zr hp) (Zr hq);by_cases s:(ZC 2 2 p.ops q.ops []).2.1=Y
  .rw[Q5 s,Q5 s];obtain⟨ps,e,ae,_,_⟩:=i1 s;rw[e,Qn,Zkl (f:=f) (g:=g) (λa ha b s ka kb=>?_) ae];have:=Yf ha;have:=Yf s;exact h _ _ O ⟨_,Yi (bM rp.ops ha) ka⟩ ⟨_,Yi (bM rq.ops s) kb⟩
  .grind
 unfold Jp;rw[hs,ho]
theorem ZsU:∀n m(p q:W)d s,Z3 p d=Y->Z3 q s=Y->Z1 p+Z1 q<=n->n<=m->kP m p q=kP n p q:=by intro n;induction n with|zero=>intro m p q d s _ _ h;obtain⟨k,o,nw,w,ks,l,os⟩:=p;simp only[Z1]at h;omega|succ n ih=>intro m p q d s hp hq h hm;obtain⟨m,rfl⟩:∃k,m=k+1:=⟨m-1,O⟩;show Jp (kP m) p q=Jp (kP n) p q;exact Zex hp hq λa b aa⟨d1,h1⟩⟨d2,h2⟩=>ih m a b d1 d2 h1 h2 O O
theorem ZGy{p q d h}(hp:Z3 p d=Y)(s:Z3 q h=Y):dK p q=Jp dK p q:=by have e:dK p q=kP (Z1 p+Z1 q+1) p q:=(ZsU _ _ p q d h hp s (Qa _) O).symm;rw[e];show Jp (kP (Z1 p+Z1 q)) p q=Jp dK p q;exact Zex hp s λa b ab⟨d1,h1⟩⟨d2,h2⟩=>ZsU _ _ a b d1 d2 h1 h2 (Qa _) O
section
variable{α:Type}{S:α->Int}
theorem ZkU{β:Type}{F aG}{l:List α}{i}{v:β}(s:∀k a,k≠i->l[k]?=A a->F k a=aG k a)(h:∀a,l[i]?=A a->aG i a=v):(l.mapIdx F).set i v=l.mapIdx aG:=by apply Ko;grind
theorem wi{β:Type}{F aG:Nat->α->β}{l:List α}(h:∀k a,l[k]?=A a->F k a=aG k a):l.mapIdx F=l.mapIdx aG:=by apply Ko;grind
theorem MX{β:Type}(F:α->β)(l:List α):l.mapIdx (λ_ a=>F a)=l.map F:=by apply Ko;grind
def Nm(S:α->Int)(f:α->α->α)(p q:List α)(i j:Nat):List α:=p.mapIdx λk a=>if k<i then YP S f q a else if k=i then YP S f (q.take j) a else a
def LL(S:α->Int)(f:α->α->α)(p q:List α)(i j:Nat):List α:=q.mapIdx λk b=>YP S f (p.take (if k<j then i+1 else i)) b
def pG(S:α->Int)(g:α->α->Bool)(p q:List α)(i j:Nat):Bool:=YS S g (p.take i) q||YS S g ((p.drop i).take 1) (q.take j)
theorem Mj(f)(q)(b a):YP S f (q++[b]) a=if S b=S a then f a b else YP S f q a:=by unfold YP jU;grind
theorem rh{f}(hf:∀a b,S (f a b)=S a)(q)(a):S (YP S f q a)=S a:=by unfold YP;grind
theorem getD_some{l i a}(h:l[i]?=A a)(z:α):aR l i z=a:=by grind
structure fH(S:α->Int)(f fy:α->α->α)(gc ga:α->α->Bool)(mc ma:Bool)(p q:List α)(i j:Nat)(c a:Bool)(aC aH:List α):Prop where
 ec:c=(mc||pG S gc p q i j)ea:a=(ma||pG S ga p q i j)eX:aC=Nm S f p q i j
 eY:aH=LL S fy p q i j
variable{f fy:α->α->α}{gc ga:α->α->Bool}{mc ma:Bool}{p q:List α}{i j:Nat}{c a:Bool}{aC aH:List α}
theorem fH.lx(h:fH S f fy gc ga mc ma p q i j c a aC aH):J aC=J p:=by rw[h.eX];exact List.length_mapIdx
theorem fH.ly(h:fH S f fy gc ga mc ma p q i j c a aC aH):J aH=J q:=by rw[h.eY];exact List.length_mapIdx
theorem fH.qH:fH S f fy gc ga mc ma p q 0 0 mc ma p q:=by
 refine⟨?_,?_,?_,?_⟩;.cases p<;>simp[pG,YS]
 .cases p<;>simp[pG,YS]
 .unfold Nm;rw[wi (aG:=λ_ a=>id a) λk a h=>?_,MX,KZ];.rw[Q0 O];split<;>rfl
 .unfold LL;rw[wi (aG:=λ_ a=>id a) λk a h=>?_,MX,KZ];try rfl
theorem ZHG(g)(p)(q)(b):YS S g p (q++[b])=(YS S g p q||YS S g p [b]):=by rw[QA];simp only[YS,Ky,K1,Qo,Qs,Q9,Qh];grind
theorem ZMm(g)(p p' q):YS S g (p++p') q=(YS S g p q||YS S g p' q):=by unfold YS;grind
theorem Zjc{l:List α}{i}(h):(l.drop i).take 1=[l[i]]:=by rw[QO h];try rfl
theorem M6(g){p q i j}(s)(h:j<J q):pG S g p q i (j+1)=(pG S g p q i j||decide (S p[i]=S q[j])&&g p[i] q[j]):=by unfold pG;rw[Xn h,ZHG,Zjc s,<-XQ];congr 1;simp[YS]
theorem fH.step(h:fH S f fy gc ga mc ma p q i j c a aC aH)(hi:i<J p)(hj:j<J q)(z):(S (aR p i z)=S (aR q j z)->fH S f fy gc ga mc ma p q i (j+1) (c||gc (aR p i z) (aR q j z)) (a||ga (aR p i z) (aR q j z)) (aC.set i (f (aR p i z) (aR q j z))) (aH.set j (fy (aR q j z) (aR p i z))))/\(¬S (aR p i z)=S (aR q j z)->fH S f fy gc ga mc ma p q i (j+1) c a aC aH):=by
 have ep:aR p i z=p[i]:=getD_some (Q8 hi) z;have eq:aR q j z=q[j]:=getD_some (Q8 hj) z;rw[ep,eq];obtain⟨ec,ea,eX,eY⟩:=h;have tp:p.take (i+1)=p.take i++[p[i]]:=Xn hi;have tq:q.take (j+1)=q.take j++[q[j]]:=Xn hj;refine⟨λe=>⟨?_,?_,?_,?_⟩,λe=>⟨?_,?_,?_,?_⟩⟩;.rw[M6 gc hi hj,ec,QD e,X6,XQ]
 .rw[M6 ga hi hj,ea,QD e,X6,XQ]
 .rw[eX];refine ZkU (λk b hk _=>?_) λb s=>?_;.grind
  .rw[Q8 hi]at s;cases s;rw[Q0 O,Q5 rfl,tq,Mj,Q5 e.symm]
 .rw[eY];refine ZkU (λk b hk _=>?_) λb s=>?_;.grind
  .rw[Q8 hj]at s;cases s;rw[Q5 O,tp,Mj,Q5 e]
 .rw[M6 gc hi hj,ec,Xe e,Kl,QV]
 .rw[M6 ga hi hj,ea,Xe e,Kl,QV]
 .rw[eX];refine wi λk b s=>?_;by_cases h:k=i;.subst h;rw[Q8 hi]at s;cases s;rw[Q0 O,Q5 rfl,Q0 O,Q5 rfl,tq,Mj,Q0 λx=>e x.symm]
  grind
 .rw[eY];refine wi λk b s=>?_;by_cases h:k=j;.subst h;rw[Q8 hj]at s;cases s;rw[Q0 O,Q5 O,tp,Mj,Q0 e]
  grind
theorem fH.next(h:fH S f fy gc ga mc ma p q i (J q) c a aC aH)(hi:i<J p):fH S f fy gc ga mc ma p q (i+1) 0 c a aC aH:=by
 obtain⟨ec,ea,eX,eY⟩:=h;have s:∀g:α->α->Bool,pG S g p q i (J q)=pG S g p q (i+1) 0:=by
  intro g;unfold pG;rw[Kx,List.take_zero,Xn hi,ZMm,Zjc hi];have:YS S g ((p.drop (i+1)).take 1) []=I:=by simp[YS]
  grind
 refine⟨by rw[ec,s],by rw[ea,s],?_,?_⟩
 .rw[eX];refine wi λk b hb=>?_;by_cases h:k<i;.grind
  .by_cases h2:k=i;.grind
   .rw[Q0 h,Q0 h2,Q0 O];split<;>rfl
 .rw[eY];refine wi λk b hb=>?_;grind
theorem fH.cC(h:fH S f fy gc ga mc ma p q (J p) 0 c a aC aH):c=(mc||YS S gc p q)/\a=(ma||YS S ga p q)/\aC=p.map (YP S f q)/\aH=q.map (YP S fy p):=by
 obtain⟨ec,ea,eX,eY⟩:=h;have s:∀g:α->α->Bool,pG S g p q (J p) 0=YS S g p q:=by
  intro g;unfold pG;rw[Kx,List.drop_length];simp[YS]
 refine⟨by rw[ec,s],by rw[ea,s],?_,?_⟩
 .rw[eX];unfold Nm;rw[wi (aG:=λ_ a=>YP S f q a) λk b hb=>by rw[Q5 (Qc.1 hb).1],MX]
 .rw[eY];unfold LL;rw[wi (aG:=λ_ a=>YP S fy p a) λk b hb=>by rw[Q0 O,Kx],MX]
theorem fH.TH(h:fH S f fy gc ga mc ma p q i j c a aC aH)(hf:∀a b,S (f a b)=S a)(s:i<J p)(z):S (aC.getD i z)=S (aR p i z):=by rw[h.eX,getD_some (a:=YP S f (q.take j) p[i]) (by rw[Nm,List.getElem?_mapIdx,Q8 s,Qv,Q0 O,Q5 rfl]),getD_some (Q8 s),rh hf]
theorem fH.OV(h:fH S f fy gc ga mc ma p q i j c a aC aH)(hf:∀a b,S (fy a b)=S a)(s:j<J q)(z):S (aH.getD j z)=S (aR q j z):=by rw[h.eY,getD_some (a:=YP S fy (p.take i) q[j]) (by rw[LL,List.getElem?_mapIdx,Q8 s,Qv,Q0 O]),getD_some (Q8 s),rh hf]
end
end Go.AM.YtpjenobkibfpcaaGreat
namespace Go.AM.YtpjenobkibfpcaaGreat
open Go.AM Go.Proofs
def dv.fh(aB:dv):dv:=⟨aB.y,aB.x,aB.c,aB.a⟩
def PL.fh(aB:PL):PL:=⟨aB.y,aB.x,aB.c,aB.a⟩
inductive m6(f:W->W->dv):List Op->List Op->List H->List H->PL->Prop|nil(m h):m6 f [] [] m h (Jd m h)|left{a p q m h aE}:a.D=2->m6 f p q (m++a.l) h aE->m6 f (a::p) q m h aE|right{p b q m h aE}:(∀a∈p.head?,a.D≠2)->b.D=2->m6 f p q m (h++b.l) aE->m6 f p (b::q) m h aE|dF{a p b q m h aE n}:a.D≠2->b.D≠2->n=min (Z4 a) (Z4 b)->m6 f (ZP (a::p) n) (ZP (b::q) n) [] [] aE->m6 f (a::p) (b::q) m h (((Jd m h).dw (ZS f (ZD a n) (ZD b n))).dw aE)
section
variable{f:W->W->dv}
theorem LP{p n}(h:∀x∈p,ZH x)(hl:J p≠0)(s:1<=n):∀o∈ZP p n,ZH o:=by grind[ZP,Dq]
theorem pY{a p n o}(h:o∈ZP (a::p) n):o∈p\/o=iN a n:=by unfold ZP at h;grind
theorem sW(a)(n):(iN a n).e=a.e:=by unfold iN;split<;>rfl
theorem vL(a)(n):(ZD a n).e=a.e:=by unfold ZD;grind
theorem ZwX{a b p q n}(s:n=min (Z4 a) (Z4 b)):J (ZP (a::p) n)+J (ZP (b::q) n)<J (a::p)+J (b::q):=by
 have x1:=Yw (a::p) n (by simp);have x2:=Yw (b::q) n (by simp);rcases KS (Z4 a) (Z4 b)with h|h;.have:=Yv (a::p) n (by simp) (by grind);omega
 .have:=Yv (b::q) n (by simp) (by grind);omega
theorem P8:∀k(p q:List Op)bB,J p+J q<=k->(ZC 2 2 p q bB).2.1=Y->∃ps,(ZC 2 2 p q bB).1=bB++ps/\∀m h,m6 f p q m h (j6 f ps m h):=by intro k;induction k with
 |zero=>
  intro p q bB hk s;have e1:p=[]:=Q7 O;have e2:q=[]:=Q7 O;subst e1 e2;rw[ZC,QC (by simp[gL]),QC (by simp[gL]),QW (by simp)];exact⟨[],by simp,λm h=>.nil m h⟩|succ k ih=>
  intro p q bB hk s;rw[ZC]at s⊢;by_cases h1:gL 2 p=Y
  .rw[QW h1]at s⊢;obtain⟨g1,g2⟩:=YL.1 h1;cases p with|nil=>grind|cons a p'=>simp only[Qm,QE,X9]at g2 s⊢;obtain⟨ps,e,hL⟩:=ih p' q _ (by grind) s;exact⟨⟨1,a,Op.nil⟩::ps,by grind,λm h=>.left g2 (hL _ _)⟩
  .rw[QC h1]at s⊢;have np:∀a∈p.head?,a.D≠2:=by intro a ha e;cases p with
    |nil=>cases ha|cons a' p'=>grind[YL]
   by_cases h2:gL 2 q=Y
   .rw[QW h2]at s⊢;obtain⟨g1,g2⟩:=YL.1 h2;cases q with|nil=>grind|cons b q'=>simp only[Qm,QE,X9]at g2 s⊢;obtain⟨ps,e,hL⟩:=ih p q' _ (by grind) s;exact⟨⟨2,Op.nil,b⟩::ps,by grind,λm h=>.right np g2 (hL _ _)⟩
   .rw[QC h2]at s⊢;by_cases h3:J p=0\/J q=0
    .rw[QW h3]at s⊢;by_cases h4:decide ( J p=0)=decide ( J q=0)
     .rw[Q5 h4];have h5:J p=0/\J q=0:=by have:=decide_eq_decide.1 h4;omega
      rw[Q7 h5.1,Q7 h5.2];exact⟨[],by simp,λm h=>.nil m h⟩
     grind
    .rw[QC h3]at s⊢;cases p with|nil=>simp at h3|cons a p'=>cases q with|nil=>simp at h3|cons b q'=>simp only[Qm]at s⊢;have ak:=ZwX (a:=a) (b:=b) (p:=p') (q:=q') rfl;obtain⟨ps,e,hL⟩:=ih _ _ _ O s;exact⟨⟨0,_,_⟩::ps,by rw[e,Qg];rfl,λm h=>.dF (np a rfl) (λe=>h2 (YL.2 ⟨by simp,by simpa using e⟩)) rfl (hL [] [])⟩
theorem PI{p q m h aE}(aF:m6 f p q m h aE):∀bB,(ZC 2 2 p q bB).2.1=Y/\∃s,(ZC 2 2 p q bB).1=bB++s/\aE=j6 f s m h:=by induction aF with
 |nil m h=>
  intro bB;rw[ZC,QC (by simp[gL]),QC (by simp[gL]),QW (by simp)];exact⟨rfl,[],by simp,rfl⟩|left k2 _ ih=>
  intro bB;rw[ZC,QW (YL.2 ⟨by simp,by simpa using k2⟩)];simp only[Qm,QE,X9];obtain⟨h1,s,h2,h3⟩:=ih (bB++[⟨1,_,Op.nil⟩]);exact⟨h1,⟨1,_,Op.nil⟩::s,by grind,h3⟩|right np k2 _ ih=>
  rename_i p b q m h aE _;intro bB;have n1:¬gL 2 p=Y:=by
   intro e;obtain⟨g1,g2⟩:=YL.1 e;cases p with
   |nil=>exact g1 rfl|cons a p'=>grind
  rw[ZC,QC n1,QW (YL.2 ⟨by simp,by simpa using k2⟩)];simp only[Qm,QE,X9];obtain⟨h1,s,h2,h3⟩:=ih (bB++[⟨2,Op.nil,_⟩]);exact⟨h1,⟨2,Op.nil,_⟩::s,by grind,h3⟩|dF ka kb hn _ ih=>intro bB;subst hn;rw[ZC,QC λe=>ka (by simpa using(YL.1 e).2),dif_neg λe=>kb (by simpa using(YL.1 e).2),dif_neg (by simp)];simp only[Qm];obtain⟨h1,s,h2,h3⟩:=ih (bB++[⟨0,_,_⟩]);exact⟨h1,⟨0,_,_⟩::s,by rw[h2,Qg];rfl,by rw[h3];rfl⟩
theorem m6.jX{b q}(s:b.D=2):∀{p m h aE},m6 f p q m (h++b.l) aE->m6 f p (b::q) m h aE
 |[],m,h,aE,aF=>.right (λa ha=>by cases ha) s aF|a::p,m,h,aE,aF=>by
  by_cases ka:a.D=2;.cases aF with|left _ H'=>exact .left ka (H'.jX s)|right np _ _=>grind|dF k _ _ _=>omega
  .exact .right λx hx=>by grind s aF
theorem Znf(m h):Jd h m=(Jd m h).fh:=by grind[Jd,PL.fh,gw,Yz,gS,Jb]
theorem AZ{o}(h:ZH o)(k:o.D=0):o=⟨0,o.n,[],W.nil⟩/\1<=o.n/\Z4 o=o.n:=by
 have:=rL h k;rcases h with h|h|h;.obtain⟨s,nn,l,e⟩:=o;grind
 .omega
 .omega
theorem Na{p q}(a:p.D=0)(b:q.D=1):ZS f p q=⟨[],[q],I,I⟩:=by unfold ZS;grind
theorem GY{p q}(a:p.D=1)(b:q.D=0):ZS f p q=⟨[p],[],I,I⟩:=by unfold ZS;grind
theorem BX{p q}(a:p.D=0)(b:q.D≠1):ZS f p q=⟨[⟨0,if q.n<1 then 1 else q.n,[],W.nil⟩],[q],I,I⟩:=by unfold ZS;grind
theorem ME{p q}(a:p.D≠0)(h:p.D≠1)(b:q.D=0):ZS f p q=⟨[p],[⟨0,1,[],W.nil⟩],I,I⟩:=by unfold ZS;grind
theorem HX{p q}(a:p.D=1)(b:q.D=1):ZS f p q=⟨[],[],I,!gw p.l q.l⟩:=by unfold ZS;grind
theorem H4{p q}(a:p.D=1)(b:q.D≠0)(h:q.D≠1):ZS f p q=⟨[],[],Y,!(bX I q.e (aR p.l 0 H.nil)).isSome⟩:=by unfold ZS;grind
theorem M_{p q}(a:p.D≠0)(h:p.D≠1)(b:q.D=1):ZS f p q=⟨[],[],Y,!(bX I p.e (aR q.l 0 H.nil)).isSome⟩:=by unfold ZS;grind
theorem Gd{p q}(a:p.D≠0)(s:p.D≠1)(b:q.D≠0)(h:q.D≠1):ZS f p q=⟨[jP (f p.e q.e).x],[jP (f p.e q.e).y],(f p.e q.e).c,(f p.e q.e).a⟩:=by unfold ZS;grind
theorem Hr{o}(h:ZH o)(k:o.D≠0):o.n=0:=by rcases h with h|h|h<;>grind
theorem ZB4(a b):gw a b=gw b a:=by grind[gw,Yz]
theorem ZFy{p q}(op:ZH p)(h:ZH q)(hl:Z4 p=Z4 q)(a:p.D=0)(b:q.D=0):p=q/\1<=p.n:=by obtain⟨ep,np,lp⟩:=AZ op a;obtain⟨eq,nq,s⟩:=AZ h b;grind
theorem Zsf{g p q}(hf:p.D=3->q.D=3->g q.e p.e=(f p.e q.e).fh)(op:ZH p)(h:ZH q)(hl:Z4 p=Z4 q)(p2:p.D≠2)(q2:q.D≠2):ZS g q p=(ZS f p q).fh:=by
 have s:=Zx op;have kq:=Zx h;unfold j8 at s kq;by_cases a0:p.D=0
 .by_cases b0:q.D=0
  .obtain⟨e,n1⟩:=ZFy op h hl a0 b0;subst e;rw[BX a0 O,BX a0 O,Q0 (show¬p.n<1 by omega),<-(AZ op a0).1];try rfl
  .by_cases b1:q.D=1;.rw[GY b1 a0,Na a0 b1];try rfl
   .rw[ME b0 b1 a0,BX a0 b1,Hr h b0];try rfl
 .by_cases b0:q.D=0
  .by_cases a1:p.D=1;.rw[Na b0 a1,GY a1 b0];try rfl
   .rw[BX b0 a1,ME a0 a1 b0,Hr op a0];try rfl
  .by_cases a1:p.D=1
   .by_cases b1:q.D=1;.rw[HX b1 a1,HX a1 b1,ZB4];try rfl
    .rw[M_ b0 b1 a1,H4 a1 b0 b1];try rfl
   .by_cases b1:q.D=1;.rw[H4 b1 a0 a1,M_ a0 a1 b1];try rfl
    .rw[Gd b0 b1 a0 a1,Gd a0 a1 b0 b1,hf O O];try rfl
theorem PL.lO(a b:PL):(a.dw b).fh=a.fh.dw b.fh:=rfl
theorem ZwW{a p n}(h:∀x∈a::p,ZH x)(h1:1<=n)(s:n<=Z4 a):ZH (ZD a n)/\Z4 (ZD a n)=n:=by grind[uV]
theorem m6.fh{g p q m h aE}(aF:m6 f p q m h aE):(∀o∈p,ZH o)->(∀o∈q,ZH o)->(∀a∈p,∀b∈q,a.D=3->b.D=3->g b.e a.e=(f a.e b.e).fh)->m6 g q p h m aE.fh:=by induction aF with
 |nil m h=>intro _ _ _;rw[<-Znf];exact .nil h m|left k2 _ s=>intro op oq hf;exact(s (λo ho=>op o (Q4 _ ho)) oq λa ha b hb=>hf a (Q4 _ ha) b hb).jX k2|right np k2 _ s=>intro op oq hf;exact .left k2 (s op (λo ho=>oq o (Q4 _ ho)) λa ha b hb=>hf a ha b (Q4 _ hb))|dF ka kb hn _ s=>
  rename_i a p b q m h aE n _;intro op oq hf;have la:=ZE (op a Q6);have lb:=ZE (oq b Q6);have h1:1<=n:=O;obtain⟨t1,t2⟩:=ZwW op h1 O;obtain⟨t3,t4⟩:=ZwW oq h1 O;have s:=s (LP op (by simp) h1) (LP oq (by simp) h1) λx hx y hy kx ky=>by
   rcases pY hx with hx|rfl;.rcases pY hy with hy|rfl<;>grind[pY,sW,JD]
   .rw[sW];rw[JD]at kx;rcases pY hy with hy|rfl<;>grind[pY,sW,JD]
  rw[PL.lO,PL.lO,<-Znf,<-Zsf (f:=f) (g:=g) (λkx ky=>?_) t1 t3 O (by rw[Jy];exact ka) (by rw[Jy];exact kb)];.exact .dF kb ka (by rw[hn];omega) s
  grind[Jy,vL]
end
theorem Znx(a b):fX a b=fX b a:=by unfold fX;grind
theorem ZgH(p q):YB p q=YB q p:=by grind[YB,Znx]
theorem Zra(p q):jH p q=jH q p:=by grind[jH,Znx]
theorem G1{α S f g}{p q:List α}(h:∀a∈p,∀b∈q,g b a=f a b):YS S g q p=YS S f p q:=by unfold YS;grind
section
variable{f:W->W->dv}{p q:W}
theorem wK(h:p.D=0\/q.D=0):Jp f p q=⟨p,q,I,I⟩:=by unfold Jp;rw[if_pos h]
theorem AD(s:p.D=1)(h:q.D≠0):Jp f p q=m9 q p.bH p.new:=by unfold Jp;grind
theorem M5(s:p.D≠0)(p1:p.D≠1)(h:q.D=1):Jp f p q=m9 p q.bH q.new:=by unfold Jp;grind
theorem WW(p0:p.D≠0)(p1:p.D≠1)(q0:q.D≠0)(s:q.D≠1)(h:p.D≠q.D\/p.V≠q.V):Jp f p q=⟨W.nil,W.nil,I,Y⟩:=by unfold Jp;grind
theorem NQ(s:p.D=2)(q2:q.D=2)(h:p.V=q.V):Jp f p q=jx f p q:=by unfold Jp;grind
theorem FB(s:p.D=q.D)(p0:p.D≠0)(p1:p.D≠1)(q2:p.D≠2)(h:p.V=q.V):Jp f p q=k8 f p q:=by unfold Jp;grind
end
theorem ZsT{f g p q d d'}(hp:Z3 p d=Y)(hq:Z3 q d'=Y)(h:∀a b,Z1 a+Z1 b<Z1 p+Z1 q->(∃d,Z3 a d=Y)->(∃d,Z3 b d=Y)->g b a=(f a b).fh):Jp g q p=(Jp f p q).fh:=by
 have rp:=Zc hp;have rq:=Zc hq;by_cases p0:p.D=0;.rw[wK (.inl p0),wK (.inr p0)];try rfl
 by_cases q0:q.D=0;.rw[wK (.inr q0),wK (.inl q0)];try rfl
 by_cases p1:p.D=1
 .by_cases q1:q.D=1
  .rw[AD p1 q0,AD q1 p0];unfold m9 dX;rw[vg p1,vg q1,Zjo (Z2 p.bH)];by_cases e:ZW (Z2 q.bH) (Z2 p.bH)=Y
   .rw[Q5 e,Q5 e];show(⟨_,_,Y&&!ZW (Z2 (Z2 p.new)) (Z2 q.new),_⟩:dv)=⟨_,_,Y&&!ZW (Z2 (Z2 q.new)) (Z2 p.new),_⟩;grind[ZY,Zjo]
   .rw[Q0 e,Q0 e];try rfl
  .rw[AD p1 q0,M5 q0 q1 p1];try rfl
 by_cases q1:q.D=1;.rw[M5 p0 p1 q1,AD q1 p0];try rfl
 by_cases c2:p.D≠q.D\/p.V≠q.V;.rw[WW p0 p1 q0 q1 c2,WW q0 q1 p0 p1 (c2.imp Ne.symm Ne.symm)];try rfl
 have hk:q.D=p.D:=O;have ab:q.V=p.V:=O;by_cases p2:p.D=2
 .rw[NQ p2 O ab.symm,NQ O p2 ab];have ae:∀a∈p.X,∀b∈q.X,g b.e a.e=(f a.e b.e).fh:=by intro a ha b s;have:=ZA ha;have:=ZA s;exact h _ _ O ⟨_,(Zl rp.X a ha).2⟩ ⟨_,(Zl rq.X b s).2⟩
  unfold jx dv.fh;rw[G1 (S:=aV.S) (f:=λa b=>!YB a b&&jH a b) (g:=λa b=>!YB a b&&jH a b) λa _ b _=>by rw[ZgH,Zra],G1 (S:=aV.S) (f:=YB) (g:=YB) λa _ b _=>ZgH b a,G1 (S:=aW.S) (f:=λa b:bP=>(f a.e b.e).c) (g:=λa b=>(g a.e b.e).c) λa ha b s=>by rw[ae a ha b s];rfl,G1 (S:=aW.S) (f:=λa b:bP=>(f a.e b.e).a) (g:=λa b=>(g a.e b.e).a) λa ha b s=>by rw[ae a ha b s];rfl,Xz (f:=YP aW.S (λa b:bP=>⟨a.S,(g a.e b.e).x⟩) p.X) (g:=YP aW.S (λb a:bP=>⟨b.S,(f a.e b.e).y⟩) p.X) λb s=>LY λa ha=>by rw[ae a ha b s];rfl,Xz (f:=YP aW.S (λb a:bP=>⟨b.S,(g a.e b.e).y⟩) q.X) (g:=YP aW.S (λa b:bP=>⟨a.S,(f a.e b.e).x⟩) q.X) λa ha=>LY λb s=>by rw[ae a ha b s];rfl]
 .rw[FB hk.symm p0 p1 p2 ab.symm,FB hk q0 q1 O ab];have hf:∀a∈p.ops,∀b∈q.ops,a.D=3->b.D=3->g b.e a.e=(f a.e b.e).fh:=by intro a ha b s ka kb;have:=Yf ha;have:=Yf s;exact h _ _ O ⟨_,Yi (bM rp.ops ha) ka⟩ ⟨_,Yi (bM rq.ops s) kb⟩
  have ai:∀b∈q.ops,∀a∈p.ops,b.D=3->a.D=3->f a.e b.e=(g b.e a.e).fh:=λb s a ha kb ka=>by rw[hf a ha b s ka kb];try rfl
  unfold k8;by_cases s:(ZC 2 2 p.ops q.ops []).2.1=Y;.obtain⟨ps,e,hL⟩:=P8 (f:=f) _ p.ops q.ops [] (Qa _) s;obtain⟨b1,ax,e',hS⟩:=PI ((hL [] []).fh (g:=g) (Zr hp) (Zr hq) hf) [];rw[Q5 s,Q5 b1,e,e',Qn,Qn,<-hS,ab];try rfl
  .rw[Q0 s,Q0];.try rfl
   .intro b1;obtain⟨ps,e,hL⟩:=P8 (f:=g) _ q.ops p.ops [] (Qa _) b1;exact s (PI ((hL [] []).fh (g:=f) (Zr hq) (Zr hp) ai) []).1
theorem ZJp:∀n(p q:W)d s,Z1 p+Z1 q<=n->Z3 p d=Y->Z3 q s=Y->kP n q p=(kP n p q).fh:=by intro n;induction n with|zero=>intro p q d s h;obtain⟨k,o,nw,w,ks,l,os⟩:=p;simp only[Z1]at h;omega|succ n ih=>intro p q d s h hp hq;exact ZsT hp hq λa b aa⟨d1,h1⟩⟨d2,h2⟩=>ih a b d1 d2 O h1 h2
theorem ZGx{p q d h}(s:Z3 p d=Y)(hq:Z3 q h=Y):dK q p=(dK p q).fh:=by grind[dK,ZJp]
end Go.AM.YtpjenobkibfpcaaGreat
namespace Go.AM.YtpjenobkibfpcaaGreat
open Go.AM Go.Proofs
mutual def YF(k:Int):W->Prop|.mk _ _ _ _ ks _ os=>(fO os<=k/\JO os<=k)/\CH k ks/\Ca k os def CH(k:Int):List (aW W)->Prop|[]=>True|x::r=>ZwV k x/\CH k r def ZwV(k:Int):aW W->Prop|⟨_,e⟩=>YF k e def Ca(k:Int):List (bI W)->Prop|[]=>True|x::r=>ZDs k x/\Ca k r def ZDs(k:Int):bI W->Prop|⟨_,_,_,e⟩=>YF k e end
theorem Zja{k}:∀{l:List bP},CH k l↔∀x∈l,YF k x.e|[]=>by simp[CH]|⟨a,e⟩::r=>by simp only[CH,ZwV,Zja (l:=r),Qe,Kv]
theorem Zj8{k}:∀{l:List Op},Ca k l↔∀x∈l,YF k x.e|[]=>by simp[Ca]|⟨a,n,l,e⟩::r=>by simp only[Ca,ZDs,Zj8 (l:=r),Qe,Kv]
theorem nC{k e}:YF k e↔(fO e.ops<=k/\JO e.ops<=k)/\(∀x∈e.X,YF k x.e)/\∀o∈e.ops,YF k o.e:=by obtain⟨h,o,n,w,ks,l,os⟩:=e;simp only[YF,Zja,Zj8];try rfl
theorem zo:∀n{k m}e,Z1 e<=n->k<=m->YF k e->YF m e:=by intro n;induction n with|zero=>intro k m e h;obtain⟨k,o,nw,w,ks,l,os⟩:=e;simp only[Z1]at h;omega|succ n ih=>intro k m e hn s h;rw[nC]at h⊢;exact⟨⟨O,O⟩,λx hx=>ih x.e (by have:=ZA hx;omega) s (h.2.1 x hx),λo ho=>ih o.e (by have:=Yf ho;omega) s (h.2.2 o ho)⟩
theorem AL{k}(h:0<=k):YF k W.nil:=by trivial
structure Wt where
 k:Nat
 c:Nat
 d:Nat
def gG(K:Wt)(l:List H):Nat:=K.d*J l+Ze l
mutual def iG(K:Wt):W->Nat|.mk _ o n w ks _ os=>K.k+Zo o+Zo n+K.c*J w+h_ K ks+JP K os def h_(K:Wt):List (aW W)->Nat|[]=>0|k::r=>rZ K k+h_ K r def rZ(K:Wt):aW W->Nat|⟨_,e⟩=>K.c+iG K e def JP(K:Wt):List (bI W)->Nat|[]=>0|o::r=>jj K o+JP K r def jj(K:Wt):bI W->Nat|⟨k,_,l,e⟩=>gG K l+if k=3 then K.d+iG K e else 0 end
section
variable{K:Wt}
theorem DP(e):iG K e=K.k+Zo e.bH+Zo e.new+K.c*J e.aS+h_ K e.X+JP K e.ops:=by cases e;rfl
theorem Zsl(k:bP):rZ K k=K.c+iG K k.e:=by cases k;rfl
theorem mZ(o:Op):jj K o=gG K o.l+if o.D=3 then K.d+iG K o.e else 0:=by cases o;rfl
theorem ZJ2:iG K W.nil=K.k+2:=by rfl
theorem ZJ1(e):K.k+2<=iG K e:=by rw[DP];have:=rT e.bH;have:=rT e.new;omega
theorem F7(a b):gG K (a++b)=gG K a+gG K b:=by unfold gG;rw[List.length_append,Jl,Nat.mul_add];omega
theorem ya:∀a b:List Op,JP K (a++b)=JP K a+JP K b|[],b=>by simp[JP]|o::r,b=>by simp only[Qw,JP,ya r b];omega
def kj(V:Int)(o:Op):Prop:=ZH o/\Zg V o (-2)=Y/\Jt o
theorem Zsi{V l o}(hl:∀s∈l,kj V s)(hp:dB l o)(ho:ZH o):kj V o:=by
 obtain⟨s,m,k,e1,_,lt⟩:=hp;obtain⟨_,hr,hg⟩:=hl s m;refine⟨ho,?_⟩;have R:=ZQ hr;have aG:=Jr hg;obtain⟨kk,nn,ll,ee⟩:=o;have k:kk=s.D:=k;have e1:ee=s.e:=e1;have lt:∀t∈ll,t∈s.l:=lt;have gl:Jf ll:=xL λt ht=>YW aG.2.2.1 (lt t ht);cases R with
 |bN n1 a1 a2=>
  have k:kk=0:=k;have e1:ee=W.nil:=e1;subst k e1;rcases ho with h|h|h
  .have hl:ll=[]:=h.2.1;subst hl;have h3:1<=nn/\nn<=1048576:=h.2.2.1;exact⟨Mp h3.1 h3.2 _,YI V1 V1,V3,trivial,aG.2.2.2⟩
  .have:=h.1;omega
  .have:=h.1;omega|gone l1 a1 a2=>
  have k:kk=1:=k;have e1:ee=W.nil:=e1;subst k e1;rcases ho with h|h|h;.have:=h.1;omega
  .have hn:nn=0:=h.2.1;subst hn;exact⟨u0 (.inl rfl) (sd λt ht=>rN a1 t (lt t ht)) h.2.2.1,YI V1 V1,YI V1 V1,gl,aG.2.2.2⟩
  .have:=h.1;omega|eD l1 a1 a2=>
  have k:kk=2:=k;have e1:ee=W.nil:=e1;subst k e1;rcases ho with h|h|h;.have:=h.1;omega
  .have hn:nn=0:=h.2.1;subst hn;exact⟨u0 (.inr rfl) (sd λt ht=>rN a1 t (lt t ht)) h.2.2.1,YI V1 V1,YI V1 V1,gl,aG.2.2.2⟩
  .have:=h.1;omega|dL e2 a1 a2 a3 a4=>
  have k:kk=3:=k;have e1:ee=e2:=e1;subst k e1;rcases ho with h|h|h;.have:=h.1;omega
  .have:=h.1;omega
  .have hn:nn=0:=h.2.1;have hl:ll=[]:=h.2.2;subst hn hl;exact⟨NS a1 a2 a3 a4,YI V1 V1,YI V1 V1,trivial,aG.2.2.2⟩
theorem Zrt{V a p n}(h:∀x∈a::p,kj V x)(h1:1<=n)(hn:n<=Z4 a):kj V (ZD a n)/\(ZD a n).D=a.D/\Z4 (ZD a n)=n/\∀o∈ZP (a::p) n,kj V o:=by obtain⟨g1,g2,g3,g4,s,_⟩:=uV (λx hx=>(h x hx).1) h1 hn;exact⟨Zsi h g4 g1,g3,g2,λo ho=>Zsi h (s o ho).2 (s o ho).1⟩
theorem ZVH:vM λo=>((jj K o:Nat)):=by
 intro o n s h1 h;have hl:=YN o;rcases s with⟨k0,k1,k2,k3⟩|⟨k0,k1,k2,k3⟩|⟨k0,k1,k2⟩
 .have e1:ZD o n=⟨o.D,n,o.l,o.e⟩:=by rw[ZD,Q0 h,Q5 k0]
  have e2:iN o n=⟨o.D,o.n-n,o.l,o.e⟩:=by rw[iN,Q5 k0]
  simp only[mZ,e1,e2];rw[Q0 O,k1];try rfl
 .have e1:ZD o n=⟨o.D,o.n,o.l.take (G n),o.e⟩:=by rw[ZD,Q0 h,Q0 O]
  have e2:iN o n=⟨o.D,o.n,o.l.drop (G n),o.e⟩:=by rw[iN,Q0 O]
  have h3:¬o.D=3:=O;have:=F7 (K:=K) (o.l.take (G n)) (o.l.drop (G n));rw[QM]at this;simp only[mZ,e1,e2];grind
 omega
end
end Go.AM.YtpjenobkibfpcaaGreat
namespace Go.AM.YtpjenobkibfpcaaGreat
open Go.AM Go.Proofs
variable{K:Wt}
structure gH(K:Wt)(T:Int)(aC p:W):Prop where
 wk:Wk aC
 th:YF T aC
 ow:iG K aC<=iG K p
 kx:aC.D=0\/aC=p\/aC.D=p.D/\(p.D=2\/p.D=3)
theorem WX:Wk W.nil:=by obtain⟨_,s,d,h⟩:=Dd;exact .of h s
theorem gH.nil{T}(h:0<=T)(p):gH K T W.nil p:=⟨WX,AL h,by rw[ZJ2];exact ZJ1 p,.inl rfl⟩
theorem gH.g7{T p}(h:Wk p)(s:YF T p):gH K T p p:=⟨h,s,Qa _,.inr (.inl rfl)⟩
theorem zx(n):Z4 ⟨0,n,[],W.nil⟩=n:=by rw[YN];simp
theorem ZAp(l):Z4 ⟨2,0,l,W.nil⟩=J l:=by rw[YN];simp
theorem mw{o}(h:ZH o):0<=φB o:=by unfold φB;have:=ZE h;omega
theorem OA:∀{l},(∀o∈l,ZH o)->0<=JO l|[],_=>Qz _|o::r,h=>by have h1:=mw (h o Q6);have h2:=OA (l:=r) λx s=>h x (Q4 _ s);rw[<-mv]at h2⊢;simp only[ZG];omega
def AS(V:Int)(l:List H):Prop:=∀t∈l,Zf (.mk V [] [t]) (-1)=Y/\ei t
theorem Sb{V n}(s:1<=n)(h:n<=1048576):kj V ⟨0,n,[],W.nil⟩:=by refine⟨.inl ⟨rfl,rfl,⟨s,h⟩,rfl⟩,Mp s h _,YI V1 V1,V3,trivial,?_⟩;exact WX.g
theorem ZJ6{V l}(h:AS V l)(hl:l≠[]):kj V ⟨2,0,l,W.nil⟩:=by refine⟨.inr (.inl ⟨.inr rfl,rfl,hl,rfl⟩),u0 (.inr rfl) ?_ hl,YI V1 V1,YI V1 V1,xL λt s=>(h t s).2,WX.g⟩;rw[vc V1];exact sd λt s=>(h t s).1
theorem ZmF{V o}(h:kj V o)(k:o.D=1\/o.D=2):AS V o.l:=by have R:=ZQ h.2.1;have aG:=(Jr h.2.2).2.2.1;intro t s;refine⟨?_,YW aG s⟩;cases R with|bN=>grind|dL=>grind|gone l a1=>rw[vc V1]at a1;exact rN a1 t s|eD l a1=>rw[vc V1]at a1;exact rN a1 t s
theorem tN{V o}(h:kj V o)(k:o.D=3):(7<V/\o.e.D≠0/\Wl V o.e/\Wk o.e)/\o.l=[]:=by have R:=ZQ h.2.1;cases R with|bN|gone|eD=>grind|dL e a1 a2 a3 a4=>exact⟨⟨a3,a2,a4,⟨Yu _ _ _ V1 a1,(Jr h.2.2).2.2.2⟩⟩,rfl⟩
structure e_(K:Wt)(V T:Int)(l:List Op)(aD B:Int)(aJ:Nat):Prop where
 ok:∀o∈l,kj V o/\YF T o.e
 la:fO l<=aD
 lb:JO l<=B
 ow:JP K l<=aJ
theorem e_.dw{V T l l' aD B A' B' aJ W'}(h:e_ K V T l aD B aJ)(s:e_ K V T l' A' B' W'):e_ K V T (l++l') (aD+A') (B+B') (aJ+W'):=by
 refine⟨λo ho=>(Qo.1 ho).elim (h.ok o) (s.ok o),?_,?_,?_⟩;.rw[<-tS,zd,tS,tS];have:=h.la;have:=s.la;omega
 .rw[<-mv,zd,mv,mv];have:=h.lb;have:=s.lb;omega
 .rw[ya];have:=h.ow;have:=s.ow;omega
theorem e_.none{V T aD B aJ}(h:0<=aD)(hb:0<=B):e_ K V T [] aD B aJ:=⟨λo s=>(by cases s),h,hb,X3 _⟩
theorem e_.mono{V T l aD B A' B' aJ W'}(h:e_ K V T l aD B aJ)(s:aD<=A')(hb:B<=B')(hw:aJ<=W'):e_ K V T l A' B' W':=⟨h.ok,Int.le_trans h.la s,Int.le_trans h.lb hb,QS h.ow hw⟩
theorem e_.cE{V T o}(h:kj V o)(ht:YF T o.e):e_ K V T [o] (φA o) (φB o) (jj K o):=by
 refine⟨λx s=>by grind,?_,?_,?_⟩;.rw[<-tS];simp[ZG]
 .rw[<-mv];simp[ZG]
 .simp[JP]
theorem ZGQ{V T}(h:0<=T){n:Nat}(s:n<=1048576):e_ K V T (Jb n) n n 0:=by
 unfold Jb;split;.exact .none O O
 .refine(e_.cE (Sb O O) (AL h)).mono ?_ ?_ ?_;.unfold φA;rw[if_neg (by simp),zx];omega
  .unfold φB;rw[if_neg (by simp),zx];omega
  .simp[mZ,gG,Ze]
theorem ZVh{V T}(s:0<=T){l}(h:AS V l):e_ K V T (gS l) 0 (J l) (gG K l):=by
 unfold gS;split;.exact .none O O
 .rename_i hl;refine(e_.cE (ZJ6 h hl) (AL s)).mono ?_ ?_ ?_;.unfold φA;grind
  .unfold φB;rw[if_neg (by simp),ZAp];omega
  .simp[mZ]
theorem HI{V T}(s:0<=T){m h}(hm:AS V m)(hh:J h<=1048576):e_ K V T (Jd m h).x (J h) ( J m+J h) (gG K m):=by
 unfold Jd;split;.exact(ZGQ s hh).mono O O (X3 _)
 .exact((ZVh s hm).dw (ZGQ s hh)).mono O O O
theorem Zyj{f V a b}(aq:2<=V/\V<=9)(ha:0<=a)(hb:0<=b){p q}(op:kj V p)(oq:kj V q)(tp:YF a p.e)(hl:Z4 p=Z4 q)(p2:p.D≠2)(q2:q.D≠2)(hf:p.D=3->q.D=3->gH K (a+b) (f p.e q.e).x p.e):e_ K V (a+b) (ZS f p q).x (φB q) (φB p) (jj K p):=by
 have kp:=Zx op.1;have kq:=Zx oq.1;unfold j8 at kp kq;have np:=mw op.1;have nq:=mw oq.1;have lp:=ZE op.1;have s:=zo _ p.e (Qa _) (show a<=a+b by omega) tp;by_cases a0:p.D=0
 .by_cases b1:q.D=1;.rw[Na a0 b1];exact .none nq np
  .rw[BX a0 b1];have e:(if q.n<1 then 1 else q.n)=Z4 q:=by
    by_cases b0:q.D=0
    .obtain⟨_,h1,h2⟩:=AZ oq.1 b0;rw[Q0 O,h2]
    .rw[Hr oq.1 b0,Q5 V1,Yk O]
   have h1:=AZ op.1 a0;rw[e,<-hl];refine(e_.cE (Sb lp ?_) (AL O)).mono ?_ ?_ (by simp[mZ,gG,Ze])
   .rw[h1.2.2];rcases op.1 with h|h|h;.exact h.2.2.1.2
    .omega
    .omega
   .unfold φA φB;rw[if_neg (by simp),if_neg b1,zx];omega
   .unfold φB;rw[if_neg (by simp),V5,zx];omega
 .by_cases b0:q.D=0
  .by_cases a1:p.D=1
   .rw[GY a1 b0];refine(e_.cE op s).mono ?_ (Qz _) (Qa _);unfold φA φB;rw[if_neg p2,V5];omega
   .rw[ME a0 a1 b0];refine(e_.cE op s).mono ?_ (Qz _) (Qa _);unfold φA φB;rw[if_neg p2,V5];omega
  .by_cases a1:p.D=1
   .by_cases b1:q.D=1;.rw[HX a1 b1];exact .none nq np
    .rw[H4 a1 b0 b1];exact .none nq np
   .by_cases b1:q.D=1;.rw[M_ a0 a1 b1];exact .none nq np
    .rw[Gd a0 a1 b0 b1];have p3:p.D=3:=O;obtain⟨hw,ht,aw,hk⟩:=hf p3 O;obtain⟨⟨e1,e2,e3,e4⟩,e5⟩:=tN op p3;have l1:=Yk p3;have hB:φB q=1:=by unfold φB;rw[if_neg b1];omega
     have aj:φB p=1:=by unfold φB;rw[if_neg a1];omega
     rw[hB,aj];dsimp only;unfold jP;split
     .refine(e_.cE (Sb V1 V1) (AL O)).mono ?_ ?_ (by simp[mZ,gG,Ze]);.unfold φA;rw[if_neg (by simp),zx];omega
      .unfold φB;rw[if_neg (by simp),zx];omega
     .rename_i aa;have ai:Wl V (f p.e q.e).x:=by
       rcases hk with h|h|⟨h,h'⟩;.exact absurd h aa
       .rw[h];exact e3
       .rcases h' with h'|h';.exact .inr (.inl O)
        .rcases e3 with g|g|g;.exact .inl g
         .omega
         .omega
      refine(e_.cE ⟨.inr (.inr ⟨rfl,rfl,rfl⟩),NS (Yu _ _ _ V1 hw.r) aa e1 ai,YI V1 V1,YI V1 V1,trivial,hw.g⟩ ht).mono ?_ ?_ ?_;.unfold φA;rw[if_neg (show¬(3:Int)=2 by decide),Yk rfl];omega
      .unfold φB;rw[if_neg (show¬(3:Int)=1 by decide),Yk rfl];omega
      .simp only[mZ,Xa];rw[Q5 p3,e5];simp only[gG,Ze,Ql,KB];omega
theorem ZVd{f V a b}(au:2<=V/\V<=9)(ha:0<=a)(hb:0<=b){p q m h aE}(aF:m6 f p q m h aE):(∀o∈p,kj V o/\YF a o.e)->(∀o∈q,kj V o)->(∀x∈p,∀y∈q,x.D=3->y.D=3->gH K (a+b) (f x.e y.e).x x.e)->AS V m->(J h)+JO q<=1048576->e_ K V (a+b) aE.x ( J h+JO q) ( J m+J h+JO p+JO q) (gG K m+JP K p):=by induction aF with
 |nil m h=>
  intro _ _ _ hm hh;simp only[JO]at hh;exact(HI O hm O).mono (by simp only[JO];omega) (by simp only[JO];omega) O|left k2 _ ih=>
  rename_i x p q m h aE _;intro op oq hf hm hh;have o1:=op _ Q6;have e:=ih (λo s=>op o (Q4 _ s)) oq (λx hx=>hf x (Q4 _ hx)) (λt ht=>(Qo.1 ht).elim (hm t) (ZmF o1.1 (.inr k2) t)) hh;have l2:=Yn o1.1.1 (.inr k2);refine e.mono (Qz _) ?_ ?_;.rw[<-mv (_::_)];simp only[ZG,mv,φB];grind
  .rw[F7];simp only[JP,mZ];omega|right np k2 _ ih=>
  intro op oq hf hm hh;have o1:=oq _ Q6;have l2:=Yn o1.1 (.inr k2);have e1:∀(b:Op)(q:List Op),b.D=2->JO (b::q)=Z4 b+JO q:=by
   intro b q hb;rw[<-mv (_::_)];simp only[ZG,mv,φB];omega
  rw[e1 _ _ k2]at hh;have e:=ih op (λo s=>oq o (Q4 _ s)) (λx hx y hy=>hf x hx y (Q4 _ hy)) hm (by grind);grind|dF ka kb hn _ ih=>
  rename_i x p y q m h aE n _;intro op oq hf hm hh;have af:∀o∈x::p,kj V o:=λo s=>(op o s).1;have lx:=ZE (af x Q6).1;have ly:=ZE (oq y Q6).1;have h1:1<=n:=O;obtain⟨t1,t2,t3,t4⟩:=Zrt af h1 O;obtain⟨u1,u2,u3,u4⟩:=Zrt oq h1 O;obtain⟨s1,_⟩:=DY Lr (p:=x::p) (λo s=>(af o s).1) (by simp) h1;obtain⟨s2,_⟩:=DY Lr (p:=y::q) (λo s=>(oq o s).1) (by simp) h1;obtain⟨s3,_⟩:=DY ZVH (p:=x::p) (λo s=>(af o s).1) (by simp) h1;have so:∀l:List Op,ZG (λo=>((jj K o:Nat):Int)) l=JP K l:=by intro l;induction l with|nil=>rfl|cons o r ih=>simp only[ZG,JP,ih];omega
  rw[so,so,Qm]at s3;rw[mv,mv,Qm]at s1 s2;have nq:=OA (l:=ZP (y::q) n) λo s=>(u4 o s).1;have np:=OA (l:=ZP (x::p) n) λo s=>(t4 o s).1;have fq:=mw u1.1;have ee:∀o∈ZP (x::p) n,o.e=x.e/\o.D=x.D\/o∈p:=λo s=>(pY s).symm.imp (λh=>by rw[h];exact⟨sW _ _,JD _ _⟩) id;have ak:∀o∈ZP (y::q) n,o.e=y.e/\o.D=y.D\/o∈q:=λo s=>(pY s).symm.imp (λh=>by rw[h];exact⟨sW _ _,JD _ _⟩) id;have ae:∀o∈x::p,∀o'∈y::q,∀r r':Op,r.e=o.e->r'.e=o'.e->r.D=o.D->r'.D=o'.D->r.D=3->r'.D=3->gH K (a+b) (f r.e r'.e).x r.e:=by intro o s o' aw r r' e1 e2 k1 k2 k3 k4;rw[e1,e2];exact hf o s o' aw O O
  have e:=ih (λo s=>⟨t4 o s,by rcases ee o s with⟨h,_⟩|h;rw[h];exact(op x Q6).2;exact(op o (Q4 _ h)).2⟩) u4 λr hr r' ao k3 k4=>by
    rcases ee r hr with⟨e1,k1⟩|e1
    .rcases ak r' ao with⟨e2,k2⟩|e2;.exact ae x Q6 y Q6 r r' e1 e2 k1 k2 k3 k4
     .exact ae x Q6 r' (Q4 _ e2) r r' e1 rfl k1 rfl k3 k4
    .rcases ak r' ao with⟨e2,k2⟩|e2;.exact ae r (Q4 _ e1) y Q6 r r' rfl e2 rfl k2 k3 k4
     .exact hf r (Q4 _ e1) r' (Q4 _ e2) k3 k4
   (λt ht=>by cases ht) (by grind);have g:=HI (K:=K) (T:=a+b) O hm (h:=h) O;have pc:=Zyj (f:=f) au ha hb t1 u1 (by rw[vL];grind) O O O (ae x Q6 y Q6 _ _ (vL _ _) (vL _ _) (Jy _ _) (Jy _ _));refine((g.dw pc).dw e).mono ?_ ?_ ?_;.grind
  .grind
  .simp only[gG,Ze,Ql,KB]at s3⊢;omega
end Go.AM.YtpjenobkibfpcaaGreat
namespace Go.AM.YtpjenobkibfpcaaGreat
open Go.AM Go.Proofs
variable{K:Wt}
theorem Ln:ei H.nil:=by trivial
theorem zq{α S f}(hf:∀a,S (f a)=S a):∀{l:List α}{s},dM S s l->dM S s (l.map f)|[],_,_=>trivial|a::r,s,h=>by refine⟨by rw[hf];exact h.1,?_⟩;rw[hf];exact zq hf h.2
theorem yj{α S g}:∀{l:List α}{s},dM S s l->dM S s (l.filter g)
 |[],_,_=>trivial|a::r,s,h=>by
  rw[KP];split;.exact⟨h.1,yj h.2⟩
  .exact ZBn (Kj h.1) (yj h.2)
theorem GR(a b):(jy a b).S=a.S:=rfl
theorem ZGu{a b}(s:gN a):gN (jy a b)/\Y2 (jy a b).bH (jy a b).a_=Y/\Y2 (jy a b).new (jy a b).a_=Y:=by
 obtain⟨m1,_⟩:=sV (a:=j7 b.a_) (b:=a.a_) (by
  have h:=(BitVec.ofInt (IntKind.bits .u8) 255^^^BitVec.ofInt (IntKind.bits .u8) b.a_).isLt;have e:(2:Nat)^IntKind.bits .u8=256:=rfl;grind[j7,qR]) s.2.1;have w:∀x m:Int,Y2 (cS 0 x m) m=Y:=λx m=>Ry λi hi hn=>by grind[J7,vG]
 exact⟨⟨s.1,m1,JT _ _ _,JT _ _ _⟩,w _ _,w _ _⟩
theorem ZPu{T aJ}{Ks:List bP}{p}(hT:0<=T)(p2:p.D=2)(aw:dM aV.S (-1) aJ)(ak:dM aW.S (-1) Ks)(hw:∀w∈aJ,gN w/\w.S<=65534/\Y2 w.bH w.a_=Y/\Y2 w.new w.a_=Y)(hk:∀k∈Ks,k.S<=65534/\bQ k.S/\Wk k.e/\YF T k.e)(ow:K.c*J aJ+h_ K Ks<=K.c*J p.aS+h_ K p.X):gH K T (oR (.mk 2 H.nil H.nil aJ Ks 0 [])) p:=by
 unfold oR;split;.exact .nil hT p
 .show gH K T (.mk 2 H.nil H.nil (aJ.filter λw=>!decide (w.a_=0)) (Ks.filter λk:bP=>!decide (k.e.D=0)) 0 []) p;refine⟨⟨Zms (VE (yj aw) λw h=>?_) (U4 (yj ak) λk h=>?_),?_⟩,?_,?_,.inr (.inr ⟨by rw[p2];rfl,.inl p2⟩)⟩;.grind
  .obtain⟨h1,h2⟩:=XA.1 h;obtain⟨g1,_,g3,_⟩:=hk k h1;exact⟨g1,by simpa using h2,Yu _ _ _ V1 g3.r⟩
  .refine⟨YI V1 V1,Ln,Ln,λw h=>(hw w (XA.1 h).1).1,YI V1 V1,Oy λk h=>?_,trivial⟩;obtain⟨_,g2,g3,_⟩:=hk k (XA.1 h).1;exact⟨g2,g3.g⟩
  .rw[nC];refine⟨⟨hT,hT⟩,λk h=>(hk k (XA.1 h).1).2.2.2,λo h=>by cases h⟩
  .have l1:=KA (λw:aV=>!decide (w.a_=0)) aJ;have l2:∀l:List bP,h_ K (l.filter λk=>!decide (k.e.D=0))<=h_ K l:=by intro l;induction l with|nil=>grind|cons k r ih=>grind[h_]
   have l2:=l2 Ks;have e:=DP (K:=K) p;have m1:=rT p.bH;have m2:=rT p.new;have s:∀w k:Nat,w<=J aJ->k<=h_ K Ks->K.k+1+1+K.c*w+k+0<=iG K p:=by intro w k h1 h2;have:=Nat.mul_le_mul_left K.c h1;omega
   exact s _ _ l1 l2
theorem Znm{α S f q}{a:α}:YP S f q a=a\/∃b∈q,S b=S a/\YP S f q a=f a b:=by grind[YP,jU,Fh]
theorem ZDv{f a b}(ha:0<=a)(hb:0<=b){p q}(wp:Wk p)(wq:Wk q)(tp:YF a p)(p2:p.D=2)(hf:∀x∈p.X,∀y∈q.X,gH K (a+b) (f x.e y.e).x x.e):gH K (a+b) (jx f p q).x p:=by
 have rp:=Zc wp.r;have gp:=Zp wp.g;rw[nC]at tp;have h:∀k∈p.X,gH K (a+b) (YP aW.S (λa b:bP=>⟨a.S,(f a.e b.e).x⟩) q.X k).e k.e:=by
  intro k hk;rcases Znm (S:=aW.S) (f:=λa b:bP=>⟨a.S,(f a.e b.e).x⟩) (q:=q.X) (a:=k)with e|⟨y,hy,_,e⟩;.rw[e];exact .g7 ⟨Yu _ _ _ V1 (Zl rp.X k hk).2,(Y6 gp.2.2.2.1 hk).2⟩ (zo _ _ (Qa _) O (tp.2.1 k hk))
  .grind
 have aa:∀k:bP,(YP aW.S (λa b:bP=>⟨a.S,(f a.e b.e).x⟩) q.X k).S=k.S:=λk=>rh (S:=aW.S) (f:=λa b:bP=>⟨a.S,(f a.e b.e).x⟩) (λ_ _=>rfl) q.X k;refine ZPu O p2 (zq (rh GR _) (YJ rp.aS)) (zq aa (Jh rp.X)) (λw hw=>?_) (λk hk=>?_) ?_
 .obtain⟨v,s,rfl⟩:=QU.1 hw;have aD:=Yd rp.aS v s;have R:=gp.2.2.1 v s;rcases Znm (S:=aV.S) (f:=jy) (q:=q.aS) (a:=v)with e|⟨y,hy,_,e⟩;.grind
  .rw[e];obtain⟨r1,r2,r3⟩:=ZGu (b:=y) R;exact⟨r1,by rw[GR];exact aD.2.1,r2,r3⟩
 .obtain⟨v,s,rfl⟩:=QU.1 hk;have aD:=(Zl rp.X v s).1;have aF:=h v s;rw[aa];exact⟨aD.2.1,(Y6 gp.2.2.2.1 s).1,aF.wk,aF.th⟩
 .rw[QF];have am:∀l:List bP,(∀k∈l,k∈p.X)->h_ K (l.map (YP aW.S (λa b:bP=>⟨a.S,(f a.e b.e).x⟩) q.X))<=h_ K l:=by intro l;induction l with|nil=>grind|cons k r ih=>intro hl;have:=(h k (hl k Q6)).ow;have:=ih λx hx=>hl x (Q4 _ hx);simp only[Qu,h_,Zsl];omega
  grind
theorem ZvA{l}(h:∀o∈l,ZH o)(hs:fO l<1048576/\JO l<1048576):iT l 0<1048576/\iR l 0<1048576:=by
 have nn:∀o∈l,0<=Z4 o:=λo s=>by have:=ZE (h o s);omega
 grind[se,sJ]
theorem nL{e}(w:Wk e):∀o∈e.ops,kj e.V o:=by intro o h;have r:=bM (Zc w.r).ops h;exact⟨Zr w.r o h,r,qe (Zp w.g).2.2.2.2 h⟩
theorem ZE5{V T l aD B aJ p}(hT:0<=T)(aa:2<=V/\V<=9)(h:e_ K V T l aD B aJ)(hA:aD<=T)(hB:B<=T)(h1:T<1048576)(p3:p.D=3)(hp:p.V=V)(hW:aJ<=JP K p.ops):gH K T (J9 V l) p:=by
 unfold J9;split
 .have la:=h.la;have lb:=h.lb;obtain⟨k1,k2⟩:=ZvA (λo s=>(h.ok o s).1.1) (l:=l) ⟨O,O⟩;refine⟨⟨Wq aa (Ly λo s=>(h.ok o s).1.2.1) k1 k2,?_⟩,?_,?_,.inr (.inr ⟨by rw[p3];rfl,.inr p3⟩)⟩;.exact⟨YI V1 V1,Ln,Ln,λw hw=>(by cases hw),YI O O,trivial,Fx λo s=>(h.ok o s).1.2.2⟩
  .rw[nC];exact⟨⟨by show fO l<=T;omega,by show JO l<=T;omega⟩,λk hk=>(by cases hk),λo s=>(h.ok o s).2⟩
  .have e:=DP (K:=K) p;have m1:=rT p.bH;have m2:=rT p.new;have:=h.ow;grind[iG,h_,H.nil,Zo,Ze]
 .exact .nil hT p
theorem ZV7{f a b}(ha:0<=a)(hb:0<=b)(ah:a+b<1048576){p q}(wp:Wk p)(wq:Wk q)(tp:YF a p)(tq:YF b q)(p3:p.D=3)(hl:p.V=q.V)(hf:∀x∈p.ops,∀y∈q.ops,x.D=3->y.D=3->gH K (a+b) (f x.e y.e).x x.e):gH K (a+b) (k8 f p q).x p:=by
 have rp:=Zc wp.r;have s:=rp.V p3;rw[nC]at tp tq;unfold k8;by_cases L:(ZC 2 2 p.ops q.ops []).2.1=Y;.rw[Q5 L];obtain⟨ps,e,hL⟩:=P8 (f:=f) _ p.ops q.ops [] (Qa _) L;rw[e,Qn];have aE:=ZVd (K:=K) s ha hb (hL [] []) (λo h=>⟨nL wp o h,tp.2.2 o h⟩) (λo h=>by rw[hl];exact nL wq o h) hf (λt ht=>by cases ht) (by grind);grind[gG,Ze,ZE5]
 .rw[Q0 L];exact .nil O p
theorem ZPs{f a b}(ha:0<=a)(hb:0<=b)(ah:a+b<1048576){p q}(wp:Wk p)(wq:Wk q)(tp:YF a p)(tq:YF b q)(hf:∀x y,Z1 x+Z1 y<Z1 p+Z1 q->Wk x->Wk y->YF a x->YF b y->gH K (a+b) (f x y).x x):gH K (a+b) (Jp f p q).x p:=by
 by_cases p0:p.D=0;.rw[wK (.inl p0)];exact .g7 wp (zo _ _ (Qa _) O tp)
 by_cases q0:q.D=0;.rw[wK (.inr q0)];exact .g7 wp (zo _ _ (Qa _) O tp)
 by_cases p1:p.D=1;.rw[AD p1 q0];exact .nil O p
 by_cases q1:q.D=1;.rw[M5 p0 p1 q1];exact .nil O p
 by_cases hd:p.D≠q.D\/p.V≠q.V;.rw[WW p0 p1 q0 q1 hd];exact .nil O p
 have hk:p.D=q.D:=O;have hl:p.V=q.V:=O;have rp:=Zc wp.r;have rq:=Zc wq.r;have aa:=nC.1 tp;have af:=nC.1 tq;by_cases p2:p.D=2;.rw[NQ p2 O hl];refine ZDv ha hb wp wq tp p2 λx s y h=>?_;have:=ZA s;have:=ZA h;exact hf _ _ O ⟨Yu _ _ _ V1 (Zl rp.X x s).2,(Y6 (Zp wp.g).2.2.2.1 s).2⟩ ⟨Yu _ _ _ V1 (Zl rq.X y h).2,(Y6 (Zp wq.g).2.2.2.1 h).2⟩ (aa.2.1 x s) (af.2.1 y h)
 .have kp:=rp.D;rw[FB hk p0 p1 p2 hl];refine ZV7 ha hb ah wp wq tp tq O hl λx s y h kx ky=>?_;have:=Yf s;have:=Yf h;exact hf _ _ O (tN (nL wp x s) kx).1.2.2.2 (tN (nL wq y h) ky).1.2.2.2 (aa.2.2 x s) (af.2.2 y h)
theorem ZVb{a b}(ha:0<=a)(hb:0<=b)(s:a+b<1048576):∀n(p q:W),Z1 p+Z1 q<=n->Wk p->Wk q->YF a p->YF b q->gH K (a+b) (kP n p q).x p:=by intro n;induction n with|zero=>intro p q h;obtain⟨k,o,nw,w,ks,l,os⟩:=p;simp only[Z1]at h;omega|succ n ih=>intro p q hn wp wq tp tq;exact ZPs ha hb s wp wq tp tq λx y am wx wy tx ty=>ih x y O wx wy tx ty
theorem ZOr{a b}(ha:0<=a)(hb:0<=b)(aa:a+b<1048576){p q}(wp:Wk p)(s:Wk q)(tp:YF a p)(tq:YF b q):gH K (a+b) (dK p q).x p/\gH K (a+b) (dK p q).y q:=by refine⟨ZVb ha hb aa _ p q (Qa _) wp s tp tq,?_⟩;have h:=ZVb (K:=K) hb ha O _ q p (Qa _) s wp tq tp;rw[show kP (Z1 q+Z1 p) q p=dK q p from rfl,ZGx wp.r s.r]at h;rw[KU];exact h
end Go.AM.YtpjenobkibfpcaaGreat
namespace Go.AM
noncomputable def nz:List W->H->Option H|[],t=>A t|e::r,t=>(bX I e t).bind (nz r)
noncomputable def o8:List W->W->W×Bool|[],x=>(x,Y)|e::r,x=>if(iV x e).2=Y then o8 r (iV x e).1 else(W.nil,I)
noncomputable def nY(l:List W):W×Bool:=if(o8 l W.nil).2=Y then(Zd (o8 l W.nil).1,Y)else(W.nil,I)
def oW:List W->Nat|[]=>0|e::r=>dZ e+oW r
end Go.AM
namespace Go.AM.YtpjenobkibfpcaaGreat
open Go.AM Go.Proofs
theorem Ny(n):J (Jb n)<=1:=by unfold Jb;split<;>simp
theorem ZJ4{aD B C}(h:bZ dG aD B)(e:B=C):bZ dG aD C:=e▸h
theorem ZAo(x):bZ dG x x:=by cases x with|none=>exact trivial|some t=>rfl
instance Im:DecidableEq o5:=λa b=>decidable_of_iff (a.D=b.D/\a.S=b.S) (by cases a;cases b;simp)
theorem wY{e}(h:ZR e):ZR (Zd e):=by obtain⟨c,g,d,r⟩:=h;exact⟨QS (qJ e) c,rE e d r g,d,Jz e d r⟩
def yP(p q:W):Prop:=ZR p/\ZR q/\((dK (Zd p) (Zd q)).a=I->(dK (Zd p) (Zd q)).c=I->ZR (dK (Zd p) (Zd q)).x/\ZR (dK (Zd p) (Zd q)).y)
theorem Oe{p q}(h:yP p q):(ZR (Zd p)/\ZR (Zd q))/\((dK (Zd p) (Zd q)).a=I->(dK (Zd p) (Zd q)).c=I->ZR (dK (Zd p) (Zd q)).x/\ZR (dK (Zd p) (Zd q)).y):=⟨⟨wY h.1,wY h.2.1⟩,h.2.2⟩
mutual def jW:H->Nat|.mk k _ ks=>(if k=1 then 0 else J ks)+Jv ks def Jv:List H->Nat|[]=>0|t::r=>jW t+Jv r end
theorem ZyS(t):jW t=(if t.D=1 then 0 else J t.X)+Jv t.X:=by cases t;rfl
theorem wJ:∀a b,Jv (a++b)=Jv a+Jv b|[],b=>by simp[Jv]|t::r,b=>by simp only[Qw,Jv,wJ r b];omega
mutual theorem Uf:∀t:H,jW t+1<=Zo t|.mk k w ks=>by have:=Z_ ks;simp only[jW,Zo];split<;>omega theorem Z_:∀l:List H,Jv l+J l<=Ze l|[]=>by simp[Jv,Ze]|t::r=>by have s:=Uf t;have h:=Z_ r;simp only[Jv,Ze,Qd];omega end
theorem Zn1(l){i j}(h:i<=j):jW (aR l j H.nil)+Jv (l.drop (j+1))<=Jv (l.drop i):=by
 have s:Jv (l.drop j)<=Jv (l.drop i):=by
  have e:l.drop j=(l.drop i).drop (j-i):=by rw[Xt];congr 1;omega
  have:=wJ ((l.drop i).take (j-i)) ((l.drop i).drop (j-i));rw[QM]at this;rw[e];omega
 by_cases hj:j<J l
 .have e:l.drop j=aR l j H.nil::l.drop (j+1):=by rw[QO hj,Qr,Q8 hj];try rfl
  rw[e,Jv]at s;exact s
 .rw[Qr,QX O,Qb O];exact X3 _
theorem ZGm(l)(i):jW (aR l i H.nil)<=Jv l:=by have:=Zn1 l (X3 i);rw[X9]at this;omega
theorem ZsK:∀l(i:Nat)x,i<J l->Jv (l.set i x)+jW (aR l i H.nil)=Jv l+jW x|[],i,x,h=>by simp at h|t::r,0,x,h=>by simp only[KH,Jv,Qm];omega|t::r,i+1,x,h=>by have:=ZsK r i x (by simpa using h);simp only[List.set_cons_succ,Jv,KF];omega
theorem ZAJ(n):Jv (List.replicate n H.nil)=0:=by induction n with|zero=>rfl|succ n ih=>rw[XJ,Jv,ih];try rfl
theorem ZGl(l)(i)(x):Jv (YQ H.nil l i x)+jW (aR l i H.nil)=Jv l+jW x:=by
 have h:=ZsK (l++List.replicate (i+1-J l) H.nil) i x (by simp;omega);have e:(l++List.replicate (i+1-J l) H.nil).getD i H.nil=aR l i H.nil:=by
  by_cases hi:i<J l;.simp only[Qr];rw[X5 hi]
  .simp only[Qr];rw[QK O,QX (l:=l) O,List.getElem?_replicate];split<;>rfl
 rw[e,wJ,ZAJ]at h;exact h
theorem Zn0:∀l,Jv (J2 l)<=Jv l
 |[]=>Qa _|t::r=>by
  have h:=Zn0 r;rw[J2];split
  .split;.exact X3 _
   .simp only[Jv];omega
  .rename_i y s e;rw[e]at h;simp only[Jv]at h⊢;omega
mutual theorem UF:∀t:H,jW (Z2 t)<=jW t
 |.mk k w ks=>by
  have h:=ZmZ ks;have s:=Zn0 (J5 ks);simp only[Z2];split;.exact X3 _
  .split;.rename_i k1;subst k1;simp only[jW,Xa];omega
   .simp only[jW];split<;>omega theorem ZmZ:∀l:List H,Jv (J5 l)<=Jv l/\J (J5 l)=J l|[]=>⟨Qa _,rfl⟩|t::r=>by have s:=UF t;have h:=ZmZ r;simp only[J5,Jv,Qd];omega end
def iZ:Wt:=⟨0,0,1⟩
def jo:Wt:=⟨16,65600,34⟩
structure Sem(e:W)(s u:H):Prop where
 g:jW u<=jW s+iG iZ e
 t:∀T:Int,((jW s+iG iZ e:Nat):Int)<=T->YF T e
 c:fv e<=iG jo e+34*jW s
theorem wG:∀n(e:W)d(s u:H),Z1 e<=n->Z3 e d=Y->bX I e s=A u->Sem e s u:=by intro n;induction n with|zero=>intro e d s u h;obtain⟨k,o,nw,w,ks,l,os⟩:=e;simp only[Z1]at h;omega|succ n ih=>
  intro e d s u hn hr h;have re:=Zc hr;have f0:=DP (K:=iZ) e;have f1:=DP (K:=jo) e;have f2:=ES e;have hk:∀(ks:List bP)(tk bB b:List H)(d ab:Int),(∀k∈ks,k∈e.X)->-1<=ab->ZJ ab ks d=Y->(∀j:Nat,ab<(j:Int)->aR bB j H.nil=aR tk j H.nil)->fD I tk ks bB=A b->Jv b<=Jv bB+h_ iZ ks/\kS ks<=h_ jo ks+34*Jv (tk.drop (G (ab+1)))/\∀T:Int,((Jv tk+h_ iZ ks:Nat):Int)<=T->∀k∈ks,YF T k.e:=by
   intro ks;induction ks with
   |nil=>
    intro tk bB b d ab _ _ _ _ h;rw[fD]at h;cases h;exact⟨by simp[h_],by simp[kS],λT _ k hk=>by cases hk⟩|cons k r ihk=>
    intro tk bB b d ab hm hl hr hj h;obtain⟨h1,h2,h3⟩:=Wu hr;rw[fD]at h;obtain⟨v,hv,hb⟩:=Qq.1 h;rw[xe]at hv;have:=ZA (hm k Q6);have aE:=ih k.e _ _ _ O h2 hv;have p:=ZGl bB (G k.S) v;rw[hj (G k.S) O]at p;obtain⟨g1,g2,g3⟩:=ihk tk _ b d k.S (λx hx=>hm x (Q4 _ hx)) O h3 (λj bo=>by rw[wN,Q0 O];exact hj j O) hb;have q:=Zn1 tk (i:=G (ab+1)) (j:=G k.S) O;rw[show G k.S+1=G (k.S+1)by omega]at q;have sg:=aE.g;have sc:=aE.c;have qg:=ZGm tk (G k.S);simp only[h_,Zsl,kS,C7];have c0:iZ.c=0:=rfl;have c1:jo.c=65600:=rfl;refine⟨O,O,λT hT x hx=>?_⟩;rcases Qe.1 hx with rfl|hx;.exact aE.t T O
    .exact g3 T O x hx
  have ho:∀(os:List Op)(d:Int)(aa bB:List H)(x:List H×List H),(∀o∈os,o∈e.ops/\Zg e.V o d=Y)->ZV I os aa bB=A x->(Jv x.1+J x.1+Jv x.2+J x.2<=Jv bB+J bB+Jv aa+J aa+JP iZ os/\gA os+34*(Jv x.2+J x.2)<=JP jo os+34*(Jv aa+J aa))/\(fO os+J x.2=J aa/\JO os+J bB=J x.1)/\∀T:Int,((Jv aa+JP iZ os:Nat):Int)<=T->∀o∈os,YF T o.e:=by
   intro os;induction os with
   |nil=>intro d aa bB x _ h;rw[ZV]at h;cases h;exact⟨⟨by simp[JP],by simp[gA,JP]⟩,⟨by simp[fO],by simp[JO]⟩,λT _ o ho=>by cases ho⟩|cons o r iho=>
    intro d aa bB x hm h;rw[ZV]at h;obtain⟨y,hy,hx⟩:=Qq.1 h;obtain⟨⟨g1,g2⟩,⟨g3,g4⟩,g5⟩:=iho d _ _ x (λq hq=>hm q (Q4 _ hq)) hx;obtain⟨mo,ro⟩:=hm o Q6;have a7:(Jv y.1+J y.1+Jv y.2+J y.2<=Jv bB+J bB+Jv aa+J aa+jj iZ o/\mU o+34*(Jv y.2+J y.2)<=jj jo o+34*(Jv aa+J aa))/\((if o.D=2 then 0 else Z4 o)+J y.2=J aa/\(if o.D=1 then 0 else Z4 o)+J bB=J y.1)/\Jv y.2<=Jv aa/\∀T:Int,((Jv aa+jj iZ o:Nat):Int)<=T->YF T o.e:=by
     have ah:∀T:Int,∀m:Nat,(m:Int)<=T->YF T W.nil:=λT m h=>AL O;have d0:iZ.d=1:=rfl;have d1:jo.d=34:=rfl;have cn:fv W.nil=18:=rfl;rw[mZ,mZ,sf,YN,d0,d1];rw[Js]at hy;cases ZQ ro with
     |bN m a1 a2=>
      rw[Q5 rfl]at hy;split at hy
      .rename_i hl;cases hy;have e:=wJ (aa.take (G m)) (aa.drop (G m));rw[QM]at e;dsimp only at hl⊢;simp only[wJ,Qi,QB,QI,gG,Ze,Ql,cn,d0,d1];rw[XY hl];refine⟨⟨by simp;omega,by simp;omega⟩,⟨by simp;omega,by simp;omega⟩,O,λT h=>ah T _ h⟩
      .cases hy|gone l a1 a2=>
      rw[Q0 (show¬(1:Int)=0 by decide),Q5 rfl]at hy;split at hy
      .rename_i hg;cases hy;have hl:J l<=J aa:=by
        unfold iI at hg;rw[Q9,Qh]at hg;exact hg.1
       have e:=wJ (aa.take (J l)) (aa.drop (J l));rw[QM]at e;dsimp only;simp only[QI,gG,cn,d0,d1];refine⟨⟨by simp;omega,by simp;omega⟩,⟨by simp;omega,by simp⟩,O,λT h=>ah T _ h⟩
      .cases hy|eD l a1 a2=>rw[Q0 (show¬(2:Int)=0 by decide),Q0 (show¬(2:Int)=1 by decide),Q5 rfl]at hy;cases hy;have:=Z_ l;dsimp only;simp only[wJ,Qi,gG,cn,d0,d1];refine⟨⟨by simp;omega,by simp⟩,⟨by simp,by simp;omega⟩,Qa _,λT h=>ah T _ h⟩|dL e2 a1 a2 a3 a4=>
      rw[Q0 (show¬(3:Int)=0 by decide),Q0 (show¬(3:Int)=1 by decide),Q0 (show¬(3:Int)=2 by decide)]at hy;split at hy;.cases hy
      .rename_i h0;obtain⟨v,hv,hy⟩:=Qf.1 hy;cases hy;have mm:=Yf mo;have aE:=ih e2 _ _ _ (by dsimp only at mm;omega) a1 hv;have sg:=aE.g;have sc:=aE.c;cases aa with|nil=>exact absurd rfl h0|cons t q=>dsimp only;simp only[Qm]at sg sc;simp only[wJ,Qi,Jv,Qd,Ql,QE,X9,gG,Ze,d0,d1];refine⟨⟨by simp;omega,by simp;omega⟩,⟨by simp;omega,by simp;omega⟩,O,λT h=>aE.t T ?_⟩;simp only[Qm];simp at h;omega
    obtain⟨⟨k1,k2⟩,⟨k3,k4⟩,k5,k6⟩:=a7;simp only[JP,gA,fO,JO];refine⟨⟨O,O⟩,⟨O,O⟩,λT hT q hq=>?_⟩;rcases Qe.1 hq with rfl|hq;.exact k6 T O
    .exact g5 T O q hq
  rw[lH,Ja]at h;have z0:iZ.k=0/\iZ.c=0:=⟨rfl,rfl⟩;have z1:jo.k=16/\jo.c=65600:=⟨rfl,rfl⟩;rw[z0.1,z0.2]at f0;rw[z1.1,z1.2]at f1;have e0:∀T:Int,0<=T->e.X=[]->e.ops=[]->YF T e:=λT hT a b=>by rw[nC,a,b];exact⟨⟨hT,hT⟩,λx hx=>(by cases hx),λx hx=>by cases hx⟩
  have aj:e.D≠2->h_ iZ e.X=0/\h_ jo e.X=0/\kS e.X=0:=λh=>by rw[(re.lj h).2];exact⟨rfl,rfl,rfl⟩
  have ai:e.D≠3->JP iZ e.ops=0/\JP jo e.ops=0/\gA e.ops=0:=λh=>by rw[(re.iy h).2];exact⟨rfl,rfl,rfl⟩
  by_cases k0:e.D=0
  .rw[Q5 k0]at h;cases h;have:=aj O;have:=ai O;exact⟨KO _ _,λT h=>e0 T O (re.lj O).2 (re.iy O).2,O⟩
  by_cases k1:e.D=1
  .rw[Q0 k0,Q5 k1]at h;split at h;.cases h;have:=aj O;have:=ai O;have:=Uf e.new;exact⟨O,λT h=>e0 T O (re.lj O).2 (re.iy O).2,O⟩
   .cases h
  by_cases k2:e.D=2
  .rw[Q0 k0,Q0 k1,Q5 k2]at h;split at h
   .rename_i ks;obtain⟨a,ha,hb⟩:=Qq.1 h;obtain⟨b,hb,e9⟩:=Qf.1 hb;obtain⟨g1,g2,g3⟩:=hk e.X s.X s.X b _ (-1) (λk hk=>hk) O re.X (λj _=>rfl) hb;have:=ai O;have es:=ZyS s;rw[Q5 ks]at es;have eu:jW u=0+Jv b:=by rw[<-e9];try rfl
    rw[show G ((-1:Int)+1)=0 from rfl,X9]at g2;refine⟨O,λT hT=>?_,O⟩;rw[nC,(re.iy O).2];exact⟨⟨show(0:Int)<=T by omega,show(0:Int)<=T by omega⟩,g3 T O,λx hx=>by cases hx⟩
   .cases h
  by_cases k3:e.D=3
  .rw[Q0 k0,Q0 k1,Q0 k2,Q5 k3]at h;split at h
   .rename_i ks;obtain⟨b,hb,e9⟩:=Qf.1 h;unfold gX at hb;obtain⟨x,hx,hy⟩:=Qq.1 hb;obtain⟨⟨g1,g2⟩,⟨g3,g4⟩,g5⟩:=ho e.ops _ s.X [] x (λo ho=>⟨ho,Go.AM.bM re.ops _ ho⟩) hx;split at hy
    .rename_i h0;cases hy;have:=aj O;have hl:=re.V k3;have es:=ZyS s;rw[Q0 O]at es;have eu:jW u=J x.1+Jv x.1:=by rw[<-e9];simp only[jW];rw[Q0 O]
     have z:Jv ([]:List H)=0:=rfl;simp only[Ql]at g1 g4;refine⟨O,λT hT=>?_,O⟩;rw[nC,(re.lj O).2];exact⟨⟨O,O⟩,λx hx=>(by cases hx),g5 T O⟩
    .cases hy
   .cases h
  .rw[Q0 k0,Q0 k1,Q0 k2,Q0 k3]at h;cases h
variable{K:Wt}
def n_(K:Wt)(w:dA):Nat:=JP K w.bB+gG K w.gone+gG K w.bO
theorem OM(w):JP K (Zj w).bB=n_ K w:=by
 have z:gG K []=0:=rfl;have h:¬(2:Int)=3/\¬(1:Int)=3:=⟨V1,V1⟩;simp only[Zj,kU,n_,ya];by_cases h1:J w.gone=0
 .rw[Q5 h1,Q7 h1];by_cases h2:J w.bO=0;.rw[Q5 h2,Q7 h2];simp only[JP];omega
  .rw[Q0 h2];simp only[JP,jj,Q0 h.1];omega
 .rw[Q0 h1];by_cases h2:J w.bO=0;.rw[Q5 h2,Q7 h2];simp only[JP,jj,Q0 h.2];omega
  .rw[Q0 h2];simp only[JP,jj,Q0 h.1,Q0 h.2];omega
theorem Zsk(w)(n):n_ K (Yt w n)<=n_ K w:=by
 have z:gG K []=0:=rfl;have h:=OM (K:=K) w;have e:n_ K (Yt w n)=JP K (iE (Zj w).bB n):=by simp[Yt,n_,z]
 rw[e,<-h];rcases tm (Zj w).bB n with e|⟨a,q,e1,e2,e3⟩;.rw[e,ya];simp only[JP,jj,Q0 (show¬(0:Int)=3 by decide)];omega
 .rw[e3,e1,ya,ya];simp only[JP,jj,mZ,e2,Q0 (show¬(0:Int)=3 by decide)];exact Qa _
mutual theorem pK:∀(e:W),iG K (Zd e)<=iG K e
 |.mk k o n w ks l os=>by
  have h:=ZmE ks;have s:=ZmD l os ⟨[],[],[]⟩;have h3:=ZX o;have h4:=ZX n;have:=wF o;have:=wF n;have hf:=OM (K:=K) (Zz l os ⟨[],[],[]⟩);have hz:n_ K ⟨[],[],[]⟩=0:=rfl;rw[Zd];split;.simp only[iG,h_,JP,Ql,KB];omega
  .split;.simp only[iG,JP,oM];omega
   .split;.simp only[iG,h_,oM,Ql,KB];omega
    .simp only[iG,h_,JP,oM,Ql,KB];omega theorem ZmE:∀(ks:List (aW W)),h_ K (Jo ks)<=h_ K ks|[]=>Qa _|k::r=>by have s:=Zvc k;have h:=ZmE r;simp only[Jo,h_];omega theorem Zvc:∀(k:aW W),rZ K (lF k)<=rZ K k|⟨a,e⟩=>by have:=pK e;simp only[lF,rZ];omega theorem ZmD(V:Int):∀(os:List (bI W))(w:dA),n_ K (Zz V os w)<=n_ K w+JP K os|[],w=>Qa _|o::r,w=>by have s:=ZAl V o w;have h:=ZmD V r (j9 V o w);simp only[Zz,JP];omega theorem ZAl(V:Int):∀(o:bI W)(w:dA),n_ K (j9 V o w)<=n_ K w+jj K o
 |⟨k,n,l,e⟩,w=>by
  have he:=pK e;have hl:=G8 l;have h:J (Z6 l)=J l:=by simp[Z6]
  have s:gG K (Z6 l)<=gG K l:=by unfold gG;rw[h];omega
  have z:gG K []=0:=rfl;rw[j9];simp only[jj];split;.have:=Zsk (K:=K) w n;omega
  .split
   .have:=F7 (K:=K) w.gone (Z6 l);simp only[n_];omega
   .split
    .have:=F7 (K:=K) w.bO (Z6 l);simp only[n_];omega
    .split
     .split;.have:=Zsk (K:=K) w 1;omega
      .have:=OM (K:=K) w;simp only[n_,ya,JP,jj,Xa]at this⊢;omega
     .omega end
mutual theorem WO:∀(e:W),iG K (Zm e)=iG K e
 |.mk k o n w ks l os=>by
  have s:=Zkq ks;have h:=Zkp os;simp only[Zm,iG,QF,s,h];omega theorem Zkq:∀(ks:List (aW W)),h_ K (YE ks)=h_ K ks
 |[]=>rfl|k::r=>by
  have s:=Zsj k;have h:=Zkq r;simp only[YE,h_,s,h]theorem Zsj:∀(k:aW W),rZ K (Jq k)=rZ K k
 |⟨a,e⟩=>by
  have h:=WO e;simp only[Jq,rZ,h]theorem Zkp:∀(os:List (bI W)),JP K (YK os)=JP K os|[]=>rfl|o::r=>by have s:=Zvb o;have h:=Zkp r;simp only[YK,JP,s,h]theorem Zvb:∀(o:bI W),jj K (YD o)=jj K o
 |⟨k,n,l,e⟩=>by
  have h:=WO e;simp only[YD];split;.rename_i k1;subst k1;rfl
  .split;.rename_i s;subst s;rfl
   .split;.rename_i k3;simp only[jj,h]
    .try rfl end
mutual theorem Wh:∀e:W,iG iZ e+2<=2*Z1 e|.mk k o n w ks l os=>by have s:=Zyp ks;have h:=Zyo os;simp only[iG,Z1];have c0:iZ.c=0:=rfl;have k0:iZ.k=0:=rfl;rw[c0,k0];omega theorem Zyp:∀ks:List (aW W),h_ iZ ks<=2*ZM ks|[]=>X3 _|⟨a,e⟩::r=>by have s:=Wh e;have h:=Zyp r;have c0:iZ.c=0:=rfl;simp only[h_,rZ,ZM,JS,c0];omega theorem Zyo:∀os:List (bI W),JP iZ os<=2*Zq os|[]=>X3 _|⟨k,n,l,e⟩::r=>by have h:=Wh e;have s:=Zyo r;have h3:=Zs l;have h4:1<=Z1 e:=AU e;have d0:iZ.d=1:=rfl;simp only[JP,jj,gG,Zq,Zy,d0];split<;>omega end
mutual theorem WE:∀e:W,iG jo e+65600<=65600*Z1 e|.mk k o n w ks l os=>by have s:=Zyn ks;have h:=Zym os;have:=wF o;have:=wF n;have c0:jo.c=65600:=rfl;have k0:jo.k=16:=rfl;simp only[iG,Z1,c0,k0];omega theorem Zyn:∀ks:List (aW W),h_ jo ks<=65600*ZM ks|[]=>X3 _|⟨a,e⟩::r=>by have s:=WE e;have h:=Zyn r;have c0:jo.c=65600:=rfl;simp only[h_,rZ,ZM,JS,c0];omega theorem Zym:∀os:List (bI W),JP jo os<=65600*Zq os|[]=>X3 _|⟨k,n,l,e⟩::r=>by have h1:=WE e;have s:=Zym r;have h:=Zs l;have d0:jo.d=34:=rfl;simp only[JP,jj,gG,Zq,Zy,d0];split<;>omega end
end Go.AM.YtpjenobkibfpcaaGreat
namespace Go.AM.YtpjenobkibfpcaaGreat
open Go.AM Go.Proofs
theorem CG{α S}:∀{l:List α}{s},dM S s l->∀a∈l,jU S l (S a)=A a
 |x::r,s,h,a,ha=>by
  unfold jU;rw[K0,NR];have aa:∀(r:List α)(n m:Int),dM S m r->n<=m->jU S r n=aT:=by intro r n m hr hn;cases e:jU S r n with|none=>rfl|some b=>obtain⟨h1,h2⟩:=Fh S n r b e;have:=lf hr b h1;omega
  rcases Qe.1 ha with rfl|ha;.rw[aa r _ _ h.2 (Qz _)];grind
  .rw[CG h.2 a ha]
theorem ZKO{α S l s}(h:dM S s l){a b:α}(ha:a∈l)(hb:b∈l)(e:S a=S b):a=b:=by have h1:=CG h a ha;rw[e,CG h b hb]at h1;grind
def Sq(aB:dv)(p q:W):Prop:=∀t u v,eL t->bX I p t=A u->bX I q t=A v->aB.a=I/\(aB.c=I->∃w1 w2,bX I aB.y u=A w1/\bX I aB.x v=A w2/\dG w1 w2)
section
variable{α β:Type}{z:α}{F:β->α->Option α}{S:β->Int}{aA:α->Prop}
theorem ZGB{l n s}(h:dM S s l)(e:jU S l n=aT):∀b∈l,S b≠n:=by intro b hb hn;have:=CG h b hb;grind
theorem ZrK{c g p q l u v}(L:∀a b,S (c a b)=S a)(hp:dM S (-1) p)(hq:dM S (-1) q)(hu:mg z (gj z F S l) S p l=A u)(hv:mg z (gj z F S l) S q l=A v)(hV:∀i,aA (aR v i z))(hg:∀w y x,g w=I->aA y->F w y=A x->x=y)(hb:∀a∈p,∀b∈q,S a=S b->∃w,F (c a b) (aR v (G (S a)) z)=A w):∃r,mg z (gj z F S v) S ((p.map (YP S c q)).filter g) v=A r/\(∀a∈p,∀b∈q,S a=S b->F (c a b) (aR v (G (S a)) z)=A (aR r (G (S a)) z))/\∀i,(∀b∈q,G (S b)≠i)->aR r i z=aR u i z:=by
 have ac:=yj (g:=g) (zq (f:=YP S c q) (rh L q) hp);have np:=v_ V1 hp;have nq:=v_ V1 hq;obtain⟨a1,a2⟩:=kJ V1 hp hu;obtain⟨b1,b2⟩:=kJ V1 hq hv;have ai:∀a∈p,(∃b∈q,S b=S a/\YP S c q a=c a b)\/YP S c q a=a/\∀b∈q,G (S b)≠G (S a):=by intro a h;unfold YP;cases e:jU S q (S a)with|some b=>grind[Fh]|none=>grind[ZGB]
 have ex:∀a∈p,∃w,F (YP S c q a) (aR v (G (S a)) z)=A w:=by
  intro a h;rcases ai a h with⟨b,ab,e1,e2⟩|⟨e,hn⟩;.grind
  .rw[e,b2 _ hn];obtain⟨x,hx,_⟩:=a1 a h;exact⟨x,hx⟩
 obtain⟨r,hr⟩:=yW (z:=z) (f:=gj z F S v) (p:=S) (ws:=(p.map (YP S c q)).filter g) (bB:=v) (by intro w s;obtain⟨a,h,rfl⟩:=QU.1 (XA.1 s).1;show∃x,F (YP S c q a) (aR v (G (S (YP S c q a))) z)=A x;grind);obtain⟨r1,r2⟩:=kJ V1 ac hr;have at1:∀a∈p,F (YP S c q a) (aR v (G (S a)) z)=A (aR r (G (S a)) z):=by
  intro a h;by_cases hga:g (YP S c q a)=Y
  .obtain⟨x,hx,hr⟩:=r1 _ (XA.2 ⟨QU.2 ⟨a,h,rfl⟩,hga⟩);grind[gj,rh]
  .rw[Xx]at hga;obtain⟨x,hx⟩:=ex a h;rw[hx,hg _ _ _ hga (hV _) hx,r2 _ λw s e=>?_];obtain⟨h1,h2⟩:=XA.1 s;obtain⟨a',av,rfl⟩:=QU.1 h1;rw[rh L]at e;grind[ZKO]
 refine⟨r,hr,λa h b ab e=>?_,λi hn=>?_⟩
 .have:YP S c q a=c a b:=by unfold YP;rw[e,CG hq b ab]
  grind
 .by_cases hi:∃a∈p,G (S a)=i;.grind[gj]
  .have hi:∀a∈p,G (S a)≠i:=λa h e=>hi ⟨a,h,e⟩;rw[r2 i,b2 i hn,a2 i hi];intro w s;obtain⟨a,h,rfl⟩:=QU.1 (XA.1 s).1;grind
theorem Zjp{R:α->α->Prop}(Rr:∀x,R x x){cx cy g p q l u v}(hx:∀a b,S (cx a b)=S a)(hy:∀a b,S (cy a b)=S a)(hp:dM S (-1) p)(hq:dM S (-1) q)(hu:mg z (gj z F S l) S p l=A u)(hv:mg z (gj z F S l) S q l=A v)(ar:∀i,aA (aR u i z))(av:∀i,aA (aR v i z))(hg:∀w y x,g w=I->aA y->F w y=A x->x=y)(hb:∀a∈p,∀b∈q,S a=S b->∀x y,F a (aR l (G (S a)) z)=A x->F b (aR l (G (S a)) z)=A y->∃w1 w2,F (cy b a) x=A w1/\F (cx a b) y=A w2/\R w1 w2):∃w1 w2,mg z (gj z F S u) S ((q.map (YP S cy p)).filter g) u=A w1/\mg z (gj z F S v) S ((p.map (YP S cx q)).filter g) v=A w2/\∀i,R (aR w1 i z) (aR w2 i z):=by
 have np:=v_ V1 hp;have nq:=v_ V1 hq;obtain⟨a1,a2⟩:=kJ V1 hp hu;obtain⟨b1,b2⟩:=kJ V1 hq hv;have bb:∀a∈p,∀b∈q,S a=S b->∃w1 w2,F (cy b a) (aR u (G (S a)) z)=A w1/\F (cx a b) (aR v (G (S a)) z)=A w2/\R w1 w2:=by
  intro a ha b s e;obtain⟨x,ai,au⟩:=a1 a ha;obtain⟨y,ab,ah⟩:=b1 b s;unfold gj at ai ab;rw[<-e]at ab ah;rw[au,ah];exact hb a ha b s e x y ai ab
 obtain⟨w2,e2,t2,s2⟩:=ZrK (c:=cx) (g:=g) (aA:=aA) hx hp hq hu hv av hg λa ha b s e=>by grind
 obtain⟨w1,e1,t1,s1⟩:=ZrK (c:=cy) (g:=g) (aA:=aA) hy hq hp hv hu ar hg λb s a ha e=>by
  obtain⟨w,_,h,_⟩:=bb a ha b s e.symm;grind
 refine⟨w1,w2,e1,e2,λi=>?_⟩;by_cases ha:∃a∈p,G (S a)=i
 .by_cases s:∃b∈q,G (S b)=i
  .obtain⟨a,ha,ea⟩:=ha;obtain⟨b,s,eb⟩:=s;have:=np a ha;have:=nq b s;have e:S a=S b:=O;obtain⟨x,y,h1,h2,hR⟩:=bb a ha b s e;grind
  .have s:∀b∈q,G (S b)≠i:=λb h e=>s ⟨b,h,e⟩;rw[s2 i s];have hw:aR w1 i z=aR u i z:=by have ac:=yj (g:=g) (zq (f:=YP S cy p) (rh hy p) hq);refine(kJ V1 ac e1).2 i λw hw=>?_;obtain⟨b,am,rfl⟩:=QU.1 (XA.1 hw).1;rw[rh hy];exact s b am
   grind
 .have ha:∀a∈p,G (S a)≠i:=λa h e=>ha ⟨a,h,e⟩;rw[s1 i ha];have hw:aR w2 i z=aR v i z:=by have ac:=yj (g:=g) (zq (f:=YP S cx q) (rh hx q) hp);refine(kJ V1 ac e2).2 i λw hw=>?_;obtain⟨a,aq,rfl⟩:=QU.1 (XA.1 hw).1;rw[rh hx];exact ha a aq
  grind
end
theorem ZmI{m}(s:0<=m/\m<256):(0<=j7 m/\j7 m<256)/\∀i:Nat,i<8->Zu (j7 m) i=!Zu m i:=by
 have h:(BitVec.ofInt 8 255^^^BitVec.ofInt 8 m).toNat<256:=(BitVec.ofInt 8 255^^^BitVec.ofInt 8 m).isLt;have e:j7 m=((BitVec.ofInt 8 255^^^BitVec.ofInt 8 m).toNat:Int):=by show IntKind.wrap .u8 ((BitVec.ofInt 8 255^^^BitVec.ofInt 8 m).toNat:Int)=_;exact qR O O
 refine⟨by rw[e];omega,λi hi=>?_⟩;rw[vP _ (by rw[e];omega) (by rw[e];omega),e,vP m s.1 s.2];have:(BitVec.ofInt 8 (((BitVec.ofInt 8 255^^^BitVec.ofInt 8 m).toNat:Nat):Int)).toNat=(BitVec.ofInt 8 255^^^BitVec.ofInt 8 m).toNat:=by generalize(BitVec.ofInt 8 255^^^BitVec.ofInt 8 m).toNat=k at h⊢;simp;omega
 rw[this,BitVec.toNat_xor,Nat.testBit_xor];have:(BitVec.ofInt 8 255).toNat.testBit i=Y:=by revert i;decide
 grind
theorem Zwu{a b}(ra:gN a)(rb:gN b){x u v}(hu:ji a x=A u)(hv:ji b x=A v):YB a b=I/\(jH a b=I->∃w1 w2,ji (jy b a) u=A w1/\ji (jy a b) v=A w2/\w1=w2):=by
 unfold ji at hu hv;split at hu
 .rename_i ea;split at hv
  .rename_i eb;cases hu;cases hv;have aD:=sV ra.2.1 rb.2.1;have na:=ZmI ra.2.1;have nb:=ZmI rb.2.1;have A1:=sV na.1 rb.2.1;have A2:=sV nb.1 ra.2.1;have oa:∀i:Nat,i<8->Zu a.a_ (i:Int)=Y->Z8 a.bH i=Z8 x i:=λi s h=>by rw[<-ea,J7 s,Q5 h]
   have ob:∀i:Nat,i<8->Zu b.a_ (i:Int)=Y->Z8 b.bH i=Z8 x i:=λi s h=>by rw[<-eb,J7 s,Q5 h]
   refine⟨Xe (KL.2 (qy (JT _ _ _) (JT _ _ _) λi s=>?_)),λL=>?_⟩;.grind[J7]
   .have L:cS 0 a.new (fX a.a_ b.a_)=cS 0 b.new (fX a.a_ b.a_):=KL.1 (KG L);have c1:cS 0 (cS x a.new a.a_) (jy b a).a_=(jy b a).bH:=by
     show cS 0 (cS x a.new a.a_) (fX (j7 a.a_) b.a_)=cS 0 b.bH (fX (j7 a.a_) b.a_);refine qy (JT _ _ _) (JT _ _ _) λi s=>?_;rw[J7 s,J7 s,J7 s,A1.2,na.2 i s];cases ha:Zu a.a_ (i:Int)with|true=>simp|false=>grind
    have c2:cS 0 (cS x b.new b.a_) (jy a b).a_=(jy a b).bH:=by show cS 0 (cS x b.new b.a_) (fX (j7 b.a_) a.a_)=cS 0 a.bH (fX (j7 b.a_) a.a_);refine qy (JT _ _ _) (JT _ _ _) λi s=>?_;rw[J7 s,J7 s,J7 s,A2.2,nb.2 i s];cases hb:Zu b.a_ (i:Int)with|true=>simp|false=>grind
    unfold ji;rw[Q5 c1,Q5 c2];refine⟨_,_,rfl,rfl,?_⟩;show cS (cS x a.new a.a_) (cS 0 b.new (fX (j7 a.a_) b.a_)) (fX (j7 a.a_) b.a_)=cS (cS x b.new b.a_) (cS 0 a.new (fX (j7 b.a_) a.a_)) (fX (j7 b.a_) a.a_);refine qy (JT _ _ _) (JT _ _ _) λi s=>?_;have e:=congrArg (λx=>Z8 x i) L;grind[J7]
  .cases hv
 .cases hu
theorem ZH5{w y x}(h:(!decide (w.a_=0))=I)(hy:iU y)(e:ji w y=A x):x=y:=by
 have h:w.a_=0:=by simpa using h
 unfold ji at e;rw[h]at e;split at e
 .rw[<-Option.some.inj e];refine qy (JT _ _ _) hy λi s=>?_;have z0:Zu 0 (i:Int)=I:=by unfold Zu;simp
  rw[J7 s,z0,Q0 V1]
 .cases e
theorem VZ{a s d}(h:dh a s d):∀{b s' d'},dh b s' d'->dh (a++b) (s++s') (d++d'):=by induction h with|nil=>grind|bN k n _ ih=>intro b s' d' h;rw[Qg,Qg];exact .bN k n (ih h)|gone k n _ ih=>intro b s' d' h;rw[Qg];exact .gone k n (ih h)|eD k _ ih=>intro b s' d' h;rw[Qg];exact .eD k (ih h)|dL k e _ ih=>intro b s' d' h;exact .dL k e (ih h)
theorem T_(l):dh (Jb (J l)) l l:=by
 unfold Jb;split
 .rename_i h;have:l=[]:=Q7 O;rw[this];exact .nil
 .exact uB rfl rfl
theorem ZE1(l):dh (gS l) [] l:=by
 unfold gS;split
 .rename_i h;rw[h];exact .nil
 .have:=dh.eD (o:=⟨2,0,l,W.nil⟩) (r:=[]) (s:=[]) (d:=[]) rfl .nil;grind
def wc(aE:PL)(u v:List H):Prop:=aE.a=I/\(aE.c=I->∃w1 w2,dh aE.y u w1/\dh aE.x v w2/\da w1 w2)
theorem wc.dw{aE T u v u' s}(h:wc aE u v)(k:wc T u' s):wc (aE.dw T) (u++u') (v++s):=by refine⟨by show(aE.a||T.a)=I;rw[h.1,k.1];rfl,λc=>?_⟩;have c:(aE.c||T.c)=I:=c;rw[QJ]at c;obtain⟨w1,w2,h1,h2,h3⟩:=h.2 c.1;obtain⟨x1,x2,k1,k2,k3⟩:=k.2 c.2;exact⟨_,_,VZ h1 k1,VZ h2 k2,GF h3 k3⟩
theorem Ra(m h):wc (Jd m h) m h:=by
 unfold Jd;by_cases e:m≠[]/\h≠[]
 .rw[Q5 e];refine⟨rfl,λc=>⟨m,h,T_ m,T_ h,?_⟩⟩;have c:(!gw m h)=I:=c;rw[K2]at c;exact Yz.1 c
 .rw[Q0 e];have s:m=[]\/h=[]:=by
   by_cases s:m=[];.exact .inl s
   .by_cases hh:h=[];.exact .inr hh
    .exact absurd ⟨s,hh⟩ e
  refine⟨rfl,λ_=>⟨m++h,m++h,?_,?_,rfl⟩⟩<;>grind[VZ,T_,ZE1]
theorem ZrI{e x y}(h:bX I e x=A y):dh [jP e] [x] [y]:=by
 unfold jP;split;.grind[ng,uB]
 .exact .dL rfl h .nil
theorem ZFp{f p q s u v}(op:ZH p)(oq:ZH q)(hl:Z4 p=Z4 q)(p2:p.D≠2)(q2:q.D≠2)(hs:∀t∈s,eL t)(rp:p.D=3->∃d,Z3 p.e d=Y)(rq:q.D=3->∃d,Z3 q.e d=Y)(hf:p.D=3->q.D=3->Sq (f p.e q.e) p.e q.e)(hp:dh [p] s u)(hq:dh [q] s v):wc (ZS f p q) u v:=by
 have kp:=Zx op;have kq:=Zx oq;unfold j8 at kp kq;by_cases a0:p.D=0
 .have eu:=Gs a0 hp;subst eu;by_cases b1:q.D=1
  .rw[Na a0 b1];obtain⟨a,s',rfl,hn,hr⟩:=(Yy b1).1 hq;obtain⟨rfl,rfl⟩:=ZF hr;exact⟨rfl,λ_=>⟨[],[],hq,.nil,rfl⟩⟩
  .rw[BX a0 b1];refine⟨rfl,λ_=>⟨v,v,hq,uB rfl ?_,rfl⟩⟩<;>grind[uB,Ip,AZ,Hr,Yk]
 by_cases b0:q.D=0
 .have ev:=Gs b0 hq;subst ev;by_cases a1:p.D=1
  .rw[GY a1 b0];obtain⟨a,s',rfl,hn,hr⟩:=(Yy a1).1 hp;obtain⟨rfl,rfl⟩:=ZF hr;exact⟨rfl,λ_=>⟨[],[],.nil,hp,rfl⟩⟩
  .rw[ME a0 a1 b0];refine⟨rfl,λ_=>⟨u,u,uB rfl ?_,hp,rfl⟩⟩<;>grind[uB,Ip,Yk]
 by_cases a1:p.D=1
 .obtain⟨a,s',rfl,hn,hr⟩:=(Yy a1).1 hp;obtain⟨rfl,rfl⟩:=ZF hr;by_cases b1:q.D=1
  .obtain⟨a',s',es,aw,h⟩:=(Yy b1).1 hq;obtain⟨e0,rfl⟩:=ZF h;subst e0;rw[HX a1 b1];rw[Qj,Qj]at es;subst es;refine⟨?_,λ_=>⟨[],[],.nil,.nil,rfl⟩⟩<;>grind[gw,Yz]
  .have b3:q.D=3:=O;rw[H4 a1 b0 b1];obtain⟨x,s',y,d',e1,_,he,h⟩:=(ot b3).1 hq;obtain⟨rfl,_⟩:=ZF h;rw[Qj]at e1;subst e1;obtain⟨d,rq⟩:=rq b3;have hx:dG x (aR p.l 0 H.nil):=by have:=da.get (show da p.l [x]from hn) 0;exact this.symm
   have:=(tM q.e d x _ rq hx).isSome;rw[he]at this;refine⟨?_,λc=>by cases c⟩;grind
 have a3:p.D=3:=O;obtain⟨x,s',y,d',rfl,rfl,he,hr⟩:=(ot a3).1 hp;obtain⟨rfl,rfl⟩:=ZF hr;by_cases b1:q.D=1
 .obtain⟨a,s',e1,hn,h⟩:=(Yy b1).1 hq;obtain⟨rfl,rfl⟩:=ZF h;rw[Qj]at e1;subst e1;rw[M_ a0 a1 b1];obtain⟨d,rp⟩:=rp a3;have hx:dG x (aR q.l 0 H.nil):=by have:=da.get (show da q.l [x]from hn) 0;exact this.symm
  have:=(tM p.e d x _ rp hx).isSome;rw[he]at this;refine⟨?_,λc=>by cases c⟩;grind
 .have b3:q.D=3:=O;obtain⟨x',s',y',d',e1,rfl,ak,h⟩:=(ot b3).1 hq;cases e1;obtain⟨_,rfl⟩:=ZF h;rw[Gd a0 a1 b0 b1];obtain⟨h1,h2⟩:=hf a3 b3 x y y' (hs x Q6) he ak;refine⟨h1,λc=>?_⟩;obtain⟨w1,w2,g1,g2,g3⟩:=h2 c;exact⟨[w1],[w2],ZrI g1,ZrI g2,pg.2 g3⟩
theorem ZQQ{f}:∀k(p q:List Op)m h s u v,J p+J q<=k->(∀o∈p,ZH o/\(o.D=3->∃d,Z3 o.e d=Y))->(∀o∈q,ZH o/\(o.D=3->∃d,Z3 o.e d=Y))->(∀a∈p,∀b∈q,a.D=3->b.D=3->Sq (f a.e b.e) a.e b.e)->(∀t∈s,eL t)->dh p s u->dh q s v->∃aE,m6 f p q m h aE/\wc aE (m++u) (h++v):=by intro k;induction k with
 |zero=>
  intro p q m h s u v hk _ _ _ _ hp hq;have e1:p=[]:=Q7 O;have e2:q=[]:=Q7 O;subst e1 e2;obtain⟨_,rfl⟩:=ZF hp;obtain⟨_,rfl⟩:=ZF hq;rw[Qj,Qj];exact⟨_,.nil m h,Ra m h⟩|succ k ih=>
  intro p q m h s u v hk op oq hf hs hp hq;by_cases h1:∃a p',p=a::p'/\a.D=2
  .obtain⟨a,p',rfl,k2⟩:=h1;obtain⟨u',rfl,ay⟩:=(YG k2).1 hp;obtain⟨aE,aB,aF⟩:=ih p' q (m++a.l) h s u' v (by grind) (λo ho=>op o (Q4 _ ho)) oq (λx hx=>hf x (Q4 _ hx)) hs ay hq;rw[Qg]at aF;exact⟨aE,.left k2 aB,aF⟩
  have np:∀a∈p.head?,a.D≠2:=by intro a ha e;cases p with|nil=>cases ha|cons a' p'=>grind
  by_cases h2:∃b q',q=b::q'/\b.D=2;.obtain⟨b,q',rfl,k2⟩:=h2;obtain⟨v',rfl,ax⟩:=(YG k2).1 hq;obtain⟨aE,aB,aF⟩:=ih p q' m (h++b.l) s u v' (by grind) op (λo ho=>oq o (Q4 _ ho)) (λx hx y hy=>hf x hx y (Q4 _ hy)) hs hp ax;rw[Qg]at aF;exact⟨aE,.right np k2 aB,aF⟩
  have a6:( J s:Int)=fO p:=(RJ hp λo ho=>(op o ho).1).1;have a5:( J s:Int)=fO q:=(RJ hq λo ho=>(oq o ho).1).1;cases p with
  |nil=>
   obtain⟨rfl,rfl⟩:=ZF hp;cases q with
   |nil=>obtain⟨_,rfl⟩:=ZF hq;rw[Qj,Qj];exact⟨_,.nil m h,Ra m h⟩|cons b q'=>
    exfalso;have kb:b.D≠2:=λe=>h2 ⟨_,_,rfl,e⟩;have ob:=(oq b Q6).1;obtain⟨m1,m',d',e,hl,_⟩:=tY ob kb hq;have:=ZE ob;grind
  |cons a p'=>
   have ka:a.D≠2:=λe=>h1 ⟨_,_,rfl,e⟩;have oa:=(op a Q6).1;have la:=ZE oa;cases q with
   |nil=>grind[ZF,tY]|cons b q'=>
    have kb:b.D≠2:=λe=>h2 ⟨_,_,rfl,e⟩;have ob:=(oq b Q6).1;have lb:=ZE ob;generalize hn:min (Z4 a) (Z4 b)=n;have n1:1<=n:=O;have a4:n<=Z4 a:=O;have az:n<=Z4 b:=O;obtain⟨P1,P2,P3,_,_,PR⟩:=uV (λo ho=>(op o ho).1) n1 a4;obtain⟨Q1,Q2,Q3,_,_,QR⟩:=uV (λo ho=>(oq o ho).1) n1 az;obtain⟨s1,s2,u1,u2,rfl,rfl,am,aw⟩:=(Dg (Zx P1)).1 ((PR s u).1 hp);obtain⟨bl,a7,v1,v2,es,rfl,ao,av⟩:=(Dg (Zx Q1)).1 ((QR _ v).1 hq);have l1:=Nv P1 O am;have l2:=Nv Q1 O ao;obtain⟨rfl,rfl⟩:=Ke es O;have bh:=ZwX (a:=a) (b:=b) (p:=p') (q:=q') hn.symm;have tp:∀o∈ZP (a::p') n,ZH o/\(o.D=3->∃d,Z3 o.e d=Y):=λo ho=>⟨LP (λo ho=>(op o ho).1) (by simp) n1 o ho,λk3=>by
     rcases pY ho with h|rfl;.grind
     grind[sW,JD]⟩;have tq:∀o∈ZP (b::q') n,ZH o/\(o.D=3->∃d,Z3 o.e d=Y):=λo ho=>⟨LP (λo ho=>(oq o ho).1) (by simp) n1 o ho,λk3=>by
     rcases pY ho with h|rfl;.grind
     grind[sW,JD]⟩;obtain⟨aE,aB,aF⟩:=ih _ _ [] [] s2 u2 v2 O tp tq λx hx y hy kx ky=>by
     rcases pY hx with hx|rfl
     .rcases pY hy with hy|rfl;.grind
      grind[sW,JD]
     .rw[sW];rw[JD]at kx;rcases pY hy with hy|rfl;.grind
      grind[sW,JD] (λt ht=>hs t (Xo _ ht)) aw av;refine⟨_,.dF ka kb hn.symm aB,?_⟩;have a3:wc (ZS f (ZD a n) (ZD b n)) u1 v1:=by
     refine ZFp P1 Q1 O O O (λt ht=>hs t (Xc _ ht)) ?_ ?_ ?_ am ao;.rw[P3,vL];grind
     .rw[Q3,vL];grind
     .rw[P3,Q3,vL,vL];grind
    have:=((Ra m h).dw a3).dw aF;grind
theorem ZzZ{os s d}(h:dh os s d):(∀o∈os,o.D=0)->d=s:=by induction h<;>grind
theorem ZxV{V os s d}(h:dh os s d):bX I (J9 V os) (.mk V [] s)=A (.mk V [] d):=by
 unfold J9;split
 .rw[Ol,Q5 (show(H.mk V [] s).D=V from rfl)];show(gX (ZV I os s [])).map _=_;rw[Zu3 h];try rfl
 .rename_i e;rw[ng rfl,ZzZ h];grind
end Go.AM.YtpjenobkibfpcaaGreat
namespace Go.AM.YtpjenobkibfpcaaGreat
open Go.AM Go.Proofs
theorem Sq.fh{aB p q}(h:Sq aB.fh q p):Sq aB p q:=by intro t u v ht s hv;obtain⟨h1,h2⟩:=h t v u ht hv s;refine⟨h1,λc=>?_⟩;obtain⟨w1,w2,g1,g2,g3⟩:=h2 c;exact⟨w2,w1,g2,g1,Eq.symm g3⟩
theorem Zmj{a b}:ZW a b=Y↔a=b:=by unfold ZW;grind
theorem HP{α S g}{p q:List α}:YS S g p q=I↔∀a∈p,∀b∈q,S a=S b->g a b=I:=by unfold YS;grind
theorem ZxL{ws}{ks:List bP}{s a tk b}(h1:gK s (ws.filter λw=>!decide (w.a_=0)) s=A a)(h2:fD I tk (ks.filter λk=>!decide (k.e.D=0)) tk=A b):bX I (oR (.mk 2 H.nil H.nil ws ks 0 [])) (.mk 1 s tk)=A (.mk 1 a b):=by
 unfold oR;split
 .rename_i h;have h:J (ws.filter λw=>!decide (w.a_=0))+J (ks.filter λk=>!decide (k.e.D=0))=0:=h;rw[Q7 (show J (ws.filter λw=>!decide (w.a_=0))=0 by omega)]at h1;rw[Q7 (show J (ks.filter λk=>!decide (k.e.D=0))=0 by omega)]at h2;rw[ng rfl];cases h1;rw[fD]at h2;grind
 .show bX I (.mk 2 H.nil H.nil (ws.filter λw=>!decide (w.a_=0)) (ks.filter λk=>!decide (k.e.D=0)) 0 []) (.mk 1 s tk)=_;rw[FQ,Q5 (show(H.mk 1 s tk).D=1 from rfl)];simp_all
theorem ZPp{f p q}(wp:Wk p)(wq:Wk q)(p2:p.D=2)(q2:q.D=2)(hf:∀a∈p.X,∀b∈q.X,Sq (f a.e b.e) a.e b.e):Sq (jx f p q) p q:=by
 intro t u v ht hu hv;have rp:=Zc wp.r;have rq:=Zc wq.r;rw[yh p2]at hu;rw[yh q2]at hv;split at hu
 .rename_i t1;rw[Q5 t1]at hv;obtain⟨uw,u1,hu⟩:=Qq.1 hu;obtain⟨uk,u2,rfl⟩:=Qf.1 hu;obtain⟨vw,v1,hv⟩:=Qq.1 hv;obtain⟨vk,v2,rfl⟩:=Qf.1 hv;have iw:=(M0 ht.2).2.1;have iu:=HQ iw u1;have iv:=HQ iw v1;have hk:=ht.X.1;rw[wT]at u1 v1;rw[xZ]at u2 v2;have pw:=YJ rp.aS;have qw:=YJ rq.aS;have pk:=Jh rp.X;have qk:=Jh rq.X;obtain⟨a1,_⟩:=kJ V1 pw u1;obtain⟨b1,_⟩:=kJ V1 qw v1;obtain⟨c1,_⟩:=kJ V1 pk u2;obtain⟨d1,_⟩:=kJ V1 qk v2;have gp:=Zp wp.g;have gq:=Zp wq.g;have aJ:∀a∈p.aS,∀b∈q.aS,a.S=b.S->YB a b=I:=by
   intro a h b s e;obtain⟨x,hx,_⟩:=a1 a h;obtain⟨y,hy,_⟩:=b1 b s;unfold gj at hx hy;rw[<-e]at hy;exact(Zwu (gp.2.2.1 a h) (gq.2.2.1 b s) hx hy).1
  have K:∀a∈p.X,∀b∈q.X,a.S=b.S->(f a.e b.e).a=I:=by
   intro a h b s e;obtain⟨x,hx,_⟩:=c1 a h;obtain⟨y,hy,_⟩:=d1 b s;unfold gj at hx hy;rw[<-e]at hy;exact(hf a h b s _ _ _ (uI hk _) hx hy).1
  refine⟨?_,λc=>?_⟩
  .show(YS aV.S YB p.aS q.aS||YS aW.S (λa b=>(f a.e b.e).a) p.X q.X)=I;rw[HP.2 aJ,HP.2 K];try rfl
  .have c:(YS aV.S (λa b=>!YB a b&&jH a b) p.aS q.aS||YS aW.S (λa b=>(f a.e b.e).c) p.X q.X)=I:=c;rw[QJ,HP,HP]at c;obtain⟨w1,w2,e1,e2,e3⟩:=Zjp (R:=Eq) (aA:=iU) (cx:=jy) (cy:=jy) (g:=λw:aV=>!decide (w.a_=0)) (λ_=>rfl) GR GR pw qw u1 v1 (λi=>F5 iu i) (λi=>F5 iv i) (λw y x h1 h2 h3=>ZH5 h1 h2 h3) λa h b s e x y hx hy=>by have cc:=c.1 a h b s e;rw[aJ a h b s e]at cc;exact(Zwu (gp.2.2.1 a h) (gq.2.2.1 b s) hx hy).2 cc
   obtain⟨k1,k2,f1,f2,f3⟩:=Zjp (R:=dG) (aA:=λ_=>True) (F:=λk:bP=>bX I k.e) (cx:=λa b:bP=>⟨a.S,(f a.e b.e).x⟩) (cy:=λb a:bP=>⟨b.S,(f a.e b.e).y⟩) (g:=λk:bP=>!decide (k.e.D=0)) (λ_=>rfl) (λ_ _=>rfl) (λ_ _=>rfl) pk qk u2 v2 (λ_=>trivial) (λ_=>trivial) λw y x h1 _ h3=>by
     have h1:w.e.D=0:=by simpa using h1
     have h3:bX I w.e y=A x:=h3;rw[ng h1]at h3;grind λa h b s e x y hx hy=>(hf a h b s _ x y (uI hk _) hx hy).2 (c.2 a h b s e);rw[<-wT]at e1 e2;rw[<-xZ]at f1 f2;exact⟨_,_,ZxL e1 f1,ZxL e2 f2,(BV rfl rfl).2 ⟨e3,f3⟩⟩
 .cases hu
theorem ZQM{f p q}(wp:Wk p)(wq:Wk q)(p3:p.D=3)(q3:q.D=3)(hl:p.V=q.V)(hf:∀a∈p.ops,∀b∈q.ops,a.D=3->b.D=3->Sq (f a.e b.e) a.e b.e):Sq (k8 f p q) p q:=by
 intro t u v ht s hv;have rp:=Zc wp.r;have rq:=Zc wq.r;rw[xf p3]at s;rw[xf q3]at hv;split at s
 .rename_i t1;rw[Q5 (by rw[t1,hl])]at hv;obtain⟨ul,u1,rfl⟩:=Qf.1 s;obtain⟨vl,v1,rfl⟩:=Qf.1 hv;have op:=nL wp;have oq:=nL wq;rw[vD λo h=>Zx (op o h).1]at u1;rw[vD λo h=>Zx (oq o h).1]at v1;obtain⟨aE,aB,aF⟩:=ZQQ (f:=f) _ p.ops q.ops [] [] t.X ul vl (Qa _) (λo h=>⟨(op o h).1,λk=>⟨_,(tN (op o h) k).1.2.2.2.r⟩⟩) (λo h=>⟨(oq o h).1,λk=>⟨_,(tN (oq o h) k).1.2.2.2.r⟩⟩) hf ht.X.1 u1 v1;obtain⟨b,ps,e1,e2⟩:=PI aB [];have e:k8 f p q=⟨J9 p.V aE.x,J9 p.V aE.y,aE.c,aE.a⟩:=by unfold k8;grind
  rw[e];refine⟨aF.1,λc=>?_⟩;obtain⟨w1,w2,h1,h2,h3⟩:=aF.2 c;have ak:=rp.V p3;refine⟨_,.mk p.V [] w2,ZxV h1,?_,?_⟩;.rw[<-hl];exact ZxV h2
  .exact(Rc (show(H.mk p.V [] w1).D≠0 from λe=>by simp_all) λe=>by simp_all).2 ⟨rfl,rfl,h3⟩
 .cases s
theorem Zr9{p q d}(rq:Z3 q d=Y)(p1:p.D=1):Sq (m9 q p.bH p.new) p q:=by
 intro t u v ht s hv;rw[vg p1]at s;split at s
 .rename_i h;cases s;have h:dG p.bH t:=Zmj.1 h;have R:=tM q d p.bH t rq h;rw[hv]at R;cases e:bX I q p.bH with|none=>rw[e]at R;exact R.elim|some w=>
   rw[e]at R;have R:dG w v:=R;have hd:=Ep e;refine⟨?_,λc=>?_⟩
   .show(!(dX q p.bH).2)=I;rw[hd];try rfl
   .have c:((dX q p.bH).2&&!ZW (Z2 (dX q p.bH).1) (Z2 p.new))=I:=c;rw[hd,X6,K2,Zmj,ZY]at c;exact⟨p.new,v,ng rfl _,ng rfl _,c.symm.trans R⟩
 .cases s
theorem ZVc:∀n(p q:W),Z1 p+Z1 q<=n->Wk p->Wk q->Sq (kP n p q) p q:=by
 intro n;induction n with
 |zero=>intro p q h;obtain⟨k,o,nw,w,ks,l,os⟩:=p;simp only[Z1]at h;omega|succ n ih=>
  intro p q hn wp wq;have rp:=Zc wp.r;have rq:=Zc wq.r;show Sq (Jp (kP n) p q) p q;by_cases p0:p.D=0
  .rw[wK (.inl p0)];intro t u v ht hu hv;rw[ng p0]at hu;cases hu;exact⟨rfl,λ_=>⟨v,v,hv,ng p0 v,rfl⟩⟩
  by_cases q0:q.D=0
  .rw[wK (.inr q0)];intro t u v ht hu hv;rw[ng q0]at hv;cases hv;exact⟨rfl,λ_=>⟨u,u,ng q0 u,hu,rfl⟩⟩
  by_cases p1:p.D=1
  .rw[AD p1 q0];exact Zr9 wq.r p1
  by_cases q1:q.D=1
  .rw[M5 p0 p1 q1];exact Sq.fh (Zr9 wp.r q1)
  by_cases c2:p.D≠q.D\/p.V≠q.V
  .intro t u v ht hu hv;exfalso;obtain⟨x1,x2,x3,x4⟩:=s_ wp.r hu;obtain⟨y1,y2,y3,y4⟩:=s_ wq.r hv;have hp:=rp.D;have hq:=rq.D;by_cases p2:p.D=2
   .have e1:=(x2 p2).2;by_cases q2:q.D=2;.have:=(rp.iy O).1;have:=(rq.iy O).1;omega
    .have q3:q.D=3:=O;have:=(y3 q3).2;have:=rq.V q3;omega
   .have p3:p.D=3:=O;have e1:=(x3 p3).2;have:=rp.V p3;grind
  have hk:q.D=p.D:=O;have s:p.V=q.V:=O;by_cases p2:p.D=2
  .rw[NQ p2 O s];refine ZPp wp wq p2 O λa ha b hb=>ih _ _ ?_ ?_ ?_;.have:=ZA ha;have:=ZA hb;omega
   .exact⟨Yu _ _ _ V1 (Zl rp.X a ha).2,(Y6 (Zp wp.g).2.2.2.1 ha).2⟩
   .exact⟨Yu _ _ _ V1 (Zl rq.X b hb).2,(Y6 (Zp wq.g).2.2.2.1 hb).2⟩
  .have hp:=rp.D;rw[FB hk.symm p0 p1 p2 s];refine ZQM wp wq O O s λa ha b hb ka kb=>ih _ _ ?_ ?_ ?_;.have:=Yf ha;have:=Yf hb;omega
   .exact(tN (nL wp a ha) ka).1.2.2.2
   .exact(tN (nL wq b hb) kb).1.2.2.2
theorem ZGz{p q}(wp:Wk p)(h:Wk q):Sq (dK p q) p q:=ZVc _ p q (Qa _) wp h
theorem ZFB{e d u s w}(r:Z3 e d=Y)(hu:eL u)(h:bX I e u=A w)(he:dG u s):∃z,bX I (Zd e) s=A z/\dG z w:=by have h1:=oH e d u r hu;rw[h]at h1;have h2:=tM (Zd e) d u s (Jz e d r) he;cases e1:bX I (Zd e) u with|none=>rw[e1]at h1;exact h1.elim|some x=>rw[e1]at h1 h2;cases e2:bX I (Zd e) s with|none=>rw[e2]at h2;exact h2.elim|some z=>rw[e2]at h2;have h1:dG x w:=h1;have h2:dG x z:=h2;exact⟨z,rfl,h2.symm.trans h1⟩
theorem ZQP{p q t u v}(h:yP p q)(s:eL t)(hu:bX I p t=A u)(hv:bX I q t=A v):(gz p q).2.2=13\/(gz p q).2.2=0/\∃w1 w2,bX I (gz p q).2.1 (Z2 u)=A w1/\bX I (gz p q).1 (Z2 v)=A w2/\dG w1 w2:=by
 obtain⟨⟨h1,h2⟩,h3⟩:=Oe h;obtain⟨⟨_,gp,dp,rp⟩,⟨_,gq,dq,rq⟩,_⟩:=h;have wp:Wk (Zd p):=wu h1;have wq:Wk (Zd q):=wu h2;have e1:=oH p dp t rp s;have e2:=oH q dq t rq s;rw[hu]at e1;rw[hv]at e2;cases hu':bX I (Zd p) t with
 |none=>rw[hu']at e1;exact e1.elim|some u'=>cases hv':bX I (Zd q) t with
  |none=>rw[hv']at e2;exact e2.elim|some v'=>
   rw[hu']at e1;rw[hv']at e2;have e1:dG u' u:=e1;have e2:dG v' v:=e2;obtain⟨ha,L⟩:=ZGz wp wq t u' v' s hu' hv';unfold gz;rw[Q0 (by grind)];by_cases c:(dK (Zd p) (Zd q)).c=Y;.grind
   .rw[Q0 c];refine .inr ⟨rfl,?_⟩;obtain⟨w1,w2,g1,g2,g3⟩:=L (by simpa using c);obtain⟨⟨_,_,dx,rx⟩,_,_,dy,ry⟩:=h3 ha (by simpa using c);obtain⟨z1,k1,k2⟩:=ZFB ry (Cm wp.r s wp.g hu') g1 (show dG u' (Z2 u)from e1.trans (ZY u).symm);obtain⟨z2,k3,k4⟩:=ZFB rx (Cm wq.r s wq.g hv') g2 (show dG v' (Z2 v)from e2.trans (ZY v).symm);exact⟨z1,z2,k1,k3,k2.trans (g3.trans k4.symm)⟩
noncomputable section
def ZLZ:cF CE:=.cons (fe .bD) (.cons (J1 .u8) .nil)
def L_(a:CE):Prop:=xQ a.1/\0<=a.2.1/\a.2.1<256
def ZEI(a:CE):aA U:=.tup [(Y,enc .bD (oA a.1 a.2.1).1),(I,[.bool (oA a.1 a.2.1).2])]
def R7:Fs U:=fs ZLZ (λa=>[L_ a]) ZEI
def ZM0:cO IE:=.dU 0 (.cons qm (.cons qm .nil)) (.cons (fe .bD) (.cons (fe .bD) .nil))
def Sn(a:IE):Prop:=xQ a.2.1/\xQ a.2.2.1
def ZQ0(a:IE):aA U:=.tup []
def NY(a:IE):List (List (C U)):=[[.bool (a.1.1||! YB a.2.1 a.2.2.1&&jH a.2.1 a.2.2.1),.bool (a.1.2.1||YB a.2.1 a.2.2.1)]]
def Sm:Fs U:=fo ZM0 (λa=>[Sn a]) ZQ0 NY
def ZuR(a:xO):Prop:=True
def V7(a:xO):aA U:=.c (sU .op (gS a.1) (.bF (.r 0 0)))
def Zxh:Fs U:=fs Pe (λa=>[ZuR a]) V7
def Df(a:Ys):Prop:=True
def DV(a:Ys):aA U:=.agg (enc .op (jP a.1))
def zO:Fs U:=fs kV (λa=>[Df a]) DV
def ZMf:cF Unit:=.nil
def pz(a:Unit):Prop:=True
def ZEN(a:Unit):aA U:=.tup [(Y,enc .aY W.nil),(Y,enc .aY W.nil)]
def Ug:Fs U:=fs ZMf (λa=>[pz a]) ZEN
def ZLj:cO Ld:=.dU 0 (.cons (S8 1) (.cons (iJ .op 0 1) (.cons (iJ .op 0 2) (.cons (iJ .aX 0 3) (.cons (iJ .aX 0 4) .nil))))) (.cons (fe .aY) (.cons (fe .aX) (.Tm (.cons qm (.cons qm .nil)) .nil)))
def Gi(a:Ld):Prop:=(Z1 a.2.1<=20000000000/\Ye a.2.1/\∃d,Z3 a.2.1 d=Y)/\Zo a.2.2.1+dZ a.2.1<=200000000000/\ei a.2.2.1
def ZPH(a:Ld):aA U:=.tup []
def VT(a:Ld):List (List (C U)):=[[.xp 1,sU .op a.1.2.1 (.bF (.x 0 1)),sU .op a.1.2.2.1 (.bF (.x 0 2)),sU .aX a.1.2.2.2.1 (.bF (.x 0 3)),sU .aX a.1.2.2.2.2.1 (.bF (.x 0 4))],[.bool Y,.bool (a.2.2.2.1.2.1||!(bX I a.2.1 a.2.2.1).isSome)]]
def RU:Fs U:=fo ZLj (λa=>[Gi a]) ZPH VT
def ZUT:Zb U:=cI [[1,2,4,502,504],[],[1,2,5,502]]
def ZUU:Zb U:=cI [[0,4,5,504,505,900],[6],[12],[0,4,5,6,12,504,505],[0,25],[0,25]]
def ZUB:Zb U:=cI [[0],[5],[0,2,5],[]]
def ZUz:Zb U:=cI [[1,2,501,502],[5],[1,5,501],[]]
def ZV4:Zb U:=cI [[0,1,500,501],[]]
def ZJO:List (FuncId×Fs U):=[(25,Be)]
def ZUA:Zb U:=cI [[0,4,5,504,505,900,901],[4,5,7,504,505],[7,15],[15],[0]]
end
theorem Rg:aU Tryz.prog M 140 R7:=by
 refine kF (l:=vn) ⟨yq,trivial⟩ ZUT Tryz.func140 2 λ⟨w,m,_⟩hp=>?_;simp only[L_]at hp;obtain⟨hw,ab,aa⟩:=hp;refine wV (λQ=>let s:=IntKind.wrap .u8 (BitVec.ofInt (IntKind.bits .u8) m&&&BitVec.ofInt (IntKind.bits .u8) w.a_).toNat;iK (0,w.bH,s,())/\iK (0,w.new,s,())/\Q .ret (L2 [pL 4,(5,.c (.bool ((s:Int)!=0)))] [(.bE 4,[ci w.S,.int .u8 s,.int .u64 (cS 0 w.bH s),.int .u64 (cS 0 w.new s)])])) ?_ λ_ h=>Eq.mpr V4 h;try(simp only[iB,bR,bW])
 have rm:=(sV ⟨ab,aa⟩ hw.1.2.1).1;refine⟨⟨⟨O,O⟩,hw.1.2.2.1,rm⟩,⟨⟨O,O⟩,hw.1.2.2.2,rm⟩,?_⟩;have e:(IntKind.u8.wrap (BitVec.ofInt (IntKind.bits .u8) m&&&BitVec.ofInt (IntKind.bits .u8) w.a_).toNat !=0)=decide (fX m w.a_≠0):=by show(fX m w.a_ !=0)=_;grind
 rw[e];simp only[ZEI,oA];exact V0
theorem Ph:aU Tryz.prog M 139 Sm:=by
 refine kX (l:=vn) ⟨yq,trivial⟩ ZUU Tryz.func139 3 λ⟨⟨mc,ma,_⟩,p,q,_⟩s=>?_;simp only[Sn]at s;obtain⟨s,hq⟩:=s;refine wV (λQ=>∀aa,aa=BitVec.ofInt (IntKind.bits .u8) p.a_&&&BitVec.ofInt (IntKind.bits .u8) q.a_->let z0:=IntKind.wrap .u8 aa.toNat;let z1:=( cS 0 p.new z0:Int)!=cS 0 q.new z0;iK (0,p.bH,z0,())/\iK (0,q.bH,z0,())/\iB (( cS 0 p.bH z0:Int)!=cS 0 q.bH z0) (Q .normal (L2 [] [(.x 0,[.bool mc,.bool Y])])) ( iK (0,p.new,z0,())/\iK (0,q.new,z0,())/\iB z1 (Q .normal (L2 [] [(.x 0,[.bool Y,.bool ma])])) (Q .normal (L2 [(0,.ptr (.x 0) 0),(25,.c (.bool z1))] [(.x 0,[.bool mc,.bool ma])])))) ?_ λ_ h=>Eq.mpr V4 (h _ rfl);intro y1 ah;have e:IntKind.wrap .u8 y1.toNat=fX p.a_ q.a_:=by rw[ah];try rfl
 (simp only[iB,bR,bW]);rw[e];have rm:=(sV s.1.2.1 hq.1.2.1).1;have r0:(0:Int)<=0/\(0:Int)<18446744073709551616:=⟨O,O⟩;refine⟨⟨r0,s.1.2.2.1,rm⟩,⟨r0,hq.1.2.2.1,rm⟩,λh=>?_,λh=>⟨⟨r0,s.1.2.2.2,rm⟩,⟨r0,hq.1.2.2.2,rm⟩,λh2=>?_,λh2=>?_⟩⟩
 .have a1:YB p q=Y:=by simp[YB,h]
  simp only[NY,a1,XR,Kl,QV,XC];exact V0
 .have a1:YB p q=I:=by simp[YB,h]
  have a2:jH p q=Y:=by simp[jH,h2]
  simp only[NY,a1,a2,XV,X6,QV,XC];exact V0
 .have a1:YB p q=I:=by simp[YB,h]
  have a2:jH p q=I:=by simp[jH,h2]
  simp only[NY,a1,a2,XV,X6,QV];exact V0
theorem ZXv:aU Tryz.prog M 195 Zxh:=by
 refine kF (l:=cQ) trivial ZUB Tryz.func195 1 λ⟨l,_⟩s=>?_;refine wV (λQ=>iB ((( J l:Int):Int)==0) (Q .ret (L2 [(2,.c .nils)] [])) (Q .ret (L2 [(2,.c (sU .op [bI.mk 2 0 l (W.mk 0 (H.mk 0 [] []) (H.mk 0 [] []) [] [] 0 [])] .cU))] []))) ?_ λ_ h=>Eq.mpr V4 h;(simp only[iB,bR,bW]);refine⟨λh=>?_,λh=>?_⟩;.have:l=[]:=X4.1 O;simp only[V7,gS,Q5 this];exact V0
 .have:l≠[]:=λe=>h (by rw[e];rfl);simp only[V7,gS,Q0 this];exact V0
theorem ZRv:aU Tryz.prog M 197 zO:=by
 refine kF (l:=cQ) trivial ZUz Tryz.func197 1 λ⟨e,_⟩s=>?_;refine wV (λQ=>iB (e.D==0) (Q .ret (L2 [pL 2] [(.bE 2,[ci 0,ci 1,.nils,ci 0,ci 0,.nils,.nils,ci 0,.nils,.nils,.nils,.nils,ci 0,.nils])])) (Q .ret (L2 [pL 2] [(.bE 2,[ci 3,ci 0,.nils]++enc .aY e)]))) ?_ λ_ h=>Eq.mpr V4 h;(simp only[iB,bR,bW]);refine⟨λh=>?_,λh=>?_⟩;.simp only[DV,jP,Q5 h];exact V0
 .simp only[DV,jP,Q0 h];exact V0
theorem VK:aU Tryz.prog M 104 Ug:=by refine kF (l:=cQ) trivial ZV4 Tryz.func104 0 λ_ s=>?_;refine wV (λQ=>Q .ret (L2 [pL 0,pL 1] [(.bE 0,eI),(.bE 1,eI)])) ?_ λ_ h=>Eq.mpr V4 h;simp only[ZEN];exact V0
theorem Wp:aU Tryz.prog M 196 RU:=by
 refine kX (l:=ZJO) ⟨Ay,trivial⟩ ZUA Tryz.func196 3 λ⟨⟨ah,sx,s,si,sh,_⟩,e,t,⟨mc,ma,_⟩,_⟩hp=>?_;simp only[Gi]at hp;refine wV (λQ=>let z1:=H.mk t.D t.aS t.X;let z0:=W.mk e.D (H.mk e.bH.D e.bH.aS e.bH.X) (H.mk e.new.D e.new.aS e.new.X) e.aS e.X e.V e.ops;gg (z0,z1,())/\iB (!(bX I z0 z1).isSome) (Q .normal (L2 [] [(.x 0,[.xp 1,sU .op sx (.bF (.x 0 1)),sU .op s (.bF (.x 0 2)),sU .aX si (.bF (.x 0 3)),sU .aX sh (.bF (.x 0 4))]),(.x 1,[.bool Y,.bool Y])])) (Q .normal (L2 [] [(.x 0,[.xp 1,sU .op sx (.bF (.x 0 1)),sU .op s (.bF (.x 0 2)),sU .aX si (.bF (.x 0 3)),sU .aX sh (.bF (.x 0 4))]),(.x 1,[.bool Y,.bool ma])]))) ?_ λ_ h=>Eq.mpr V4 h;(simp only[iB,bR,bW]);simp only[H.sj,W.sj];refine⟨hp,λh=>?_,λh=>?_⟩;.simp only[VT,h,XV,XC];exact V0
 .simp only[VT,h,XR,QV];exact V0
noncomputable section
def ZEC(a:FH):aA U:=.c (.bool (decide (aV.a_ a.1=0)))
def PZ:Fs U:=fs ZLc (λa=>[vT a]) ZEC
def ZEB(a:L4):aA U:=.c (.bool (decide (W.D a.1.e=0)))
def WG:Fs U:=fs ZLa (λa=>[uR a]) ZEB
def ZFi(a:wj):Prop:=True
def ZEz(a:wj):aA U:=.c (.bool !decide (bI.D a.1=0))
def Zxf:Fs U:=fs CD (λa=>[ZFi a]) ZEz
def ZKW:cF ym:=.cons (fY .bD) (.cons (sw 190) .nil)
def Bz(a:ym):Prop:=J a.1<=1000000000000
def Sd(a:ym):aA U:=.c (ci (Jw (λw:aV=>decide (aV.a_ w=0)) a.1 0))
def Zx5:Fs U:=fs ZKW (λa=>[Bz a]) Sd
def ZHz:cF yX:=.cons (fY .cJ) (.cons (sw 192) .nil)
def B_(a:yX):Prop:=J a.1<=1000000000000
def Us(a:yX):aA U:=.c (ci (Jw (λk:bP=>decide (W.D k.e=0)) a.1 0))
def Zrz:Fs U:=fs ZHz (λa=>[B_ a]) Us
def ZKR:cF Gm:=.cons (fY .op) (.cons (sw 199) .nil)
def B4(a:Gm):Prop:=J a.1<=1000000000000
def WT(a:Gm):aA U:=.c (ci (Jw (λo:Op=>!decide (bI.D o=0)) a.1 0))
def Zx2:Fs U:=fs ZKR (λa=>[B4 a]) WT
def ZEA(a:Gm):aA U:=.c (.bool (a.1.any λo=>!decide (bI.D o=0)))
def Zxg:Fs U:=fs ZKR (λa=>[B4 a]) ZEA
def Ps(a:oZ):aA U:=.c (sU .op (Jb a.1) (.bF (.r 0 0)))
def Zxi:Fs U:=fs DS (λa=>[p8 a]) Ps
def J_(a:EF):Prop:=J a.1<=100000000000
def SG(a:EF):List aV:=a.1
def TV:Fs U:=C4 ZMa (λa=>[J_ a]) .bD SG
def ZLY:cF Pv:=.cons (fY .cJ) .nil
def IM(a:Pv):Prop:=J a.1<=100000000000
def SD(a:Pv):List bP:=a.1
def Zou:Fs U:=C4 ZLY (λa=>[IM a]) .cJ SD
def ZLq:cO ym:=.Ft (wS .bD (.e 0 0)) (.cons (sw 190) .nil)
def W2(a:ym):aA U:=.c (sU .bD (a.1.filter λw=>!decide (aV.a_ w=0)) .bA)
def WS(a:ym):List (List (C U)):=[]
def Zp1(a:ym):List (bL×LC U):=[]
def Zxk:Fs U:=(pb ZLq (λa=>[Bz a]) W2 WS Zp1).ef [0]
def ZLo:cO yX:=.Ft (wS .cJ (.e 0 0)) (.cons (sw 192) .nil)
def OD(a:yX):aA U:=.c (sU .cJ (a.1.filter λk=>!decide (W.D k.e=0)) .bA)
def Pj(a:yX):List (List (C U)):=[]
def Zp0(a:yX):List (bL×LC U):=[]
def Zxj:Fs U:=(pb ZLo (λa=>[B_ a]) OD Pj Zp0).ef [0]
def ZLX:cO DH:=.agg (.cons (jv .i64) (.cons (jv .i64) (.cons (ff .u64) (.cons (ff .aX) (.cons (jv .i64) (.cons (ff .u64) (.cons (ff .aX) (.cons (wS .bD (.e 0 7)) (.cons (wS .cJ (.e 0 8)) (.cons (jv .i64) (.cons (ff .op) .nil))))))))))) .nil
def Hd(a:DH):Prop:=J a.1.2.2.2.2.2.2.2.1<=10000000000/\J a.1.2.2.2.2.2.2.2.2.1<=10000000000
def W9(a:DH):aA U:=.agg (enc .aY (oR (W.mk a.1.1 (H.mk a.1.2.1 a.1.2.2.1 a.1.2.2.2.1) (H.mk a.1.2.2.2.2.1 a.1.2.2.2.2.2.1 a.1.2.2.2.2.2.2.1) a.1.2.2.2.2.2.2.2.1 a.1.2.2.2.2.2.2.2.2.1 a.1.2.2.2.2.2.2.2.2.2.1 a.1.2.2.2.2.2.2.2.2.2.2.1)))
def ZoZ(a:DH):List (List (C U)):=[]
def Ss(a:DH):List (bL×LC U):=[]
def Pg:Fs U:=(pb ZLX (λa=>[Hd a]) W9 ZoZ Ss).ef [0]
def vA(a:BC):Prop:=J a.2.1<=1000000000000
def Cr(a:BC):aA U:=.agg (enc .aY (J9 a.1 a.2.1))
def AI:Fs U:=fs BH (λa=>[vA a]) Cr
def ZMg:cO HD:=.dU 0 (.cons qm (.cons qm .nil)) (.cons (fe .aY) (.cons (fe .aX) (.cons (fe .aX) .nil)))
def E2(a:HD):Prop:=(Z1 a.2.1<=20000000000/\Ye a.2.1/\∃d,Z3 a.2.1 d=Y)/\(Zo a.2.2.1+dZ a.2.1<=200000000000/\ei a.2.2.1)/\Zo a.2.2.2.1<=100000000000
def Gn(a:HD):aA U:=.tup []
def Mx(a:HD):List (List (C U)):=[[.bool (a.1.1||(m9 a.2.1 a.2.2.1 a.2.2.2.1).c),.bool (a.1.2.1||(m9 a.2.1 a.2.2.1 a.2.2.2.1).a)]]
def S4:Fs U:=fo ZMg (λa=>[E2 a]) Gn Mx
def ZLV:cO NU:=.dU 0 (.cons (S8 1) (.cons (iJ .op 0 1) (.cons (iJ .op 0 2) (.cons (iJ .aX 0 3) (.cons (iJ .aX 0 4) .nil))))) (.Tm (.cons qm (.cons qm .nil)) .nil)
def VC(a:NU):Prop:=( J a.1.2.1<=10000000000/\J a.1.2.2.1<=10000000000)/\Ze a.1.2.2.2.1<=100000000000/\Ze a.1.2.2.2.2.1<=100000000000
def ZPY(a:NU):aA U:=.tup []
def G_(a:NU):List (List (C U)):=[[.xp 1,sU .op (a.1.2.1++(Jd a.1.2.2.2.1 a.1.2.2.2.2.1).x) (.bF (.x 0 1)),sU .op (a.1.2.2.1++(Jd a.1.2.2.2.1 a.1.2.2.2.2.1).y) (.bF (.x 0 2)),sU .aX ([]:List H) (.bF (.x 0 3)),sU .aX ([]:List H) (.bF (.x 0 4))],[.bool (a.2.1.1||(Jd a.1.2.2.2.1 a.1.2.2.2.2.1).c),.bool a.2.1.2.1]]
def Zor:Fs U:=fo ZLV (λa=>[VC a]) ZPY G_
def Zq1:List (FuncId×Fs U):=[(190,PZ)]
def tK:Zb U:=cI [[0,1],[7,8],[9],[5,9],[16],[0,1,4,5,7,8,16],[0,1,4,7,8],[0,1,4,7,8]]
def GL(l:List aV)(f:Unit)(h:Int):bT U:=L2 [(0,.c (sU .bD l .bA)),(1,.fn 190),pI 7 (J l),pI 8 h] []
abbrev ZWd(p):=AW (Za Zq1) Tryz.f224 tK p
abbrev ZVJ(p):=SW (Za Zq1) Tryz.f224 tK p
theorem ZBM(l)(f)(s)(N0:NT)(Q:QT)(h:let z0:=aR l (G s) (aV.mk 0 0 0 0);let z1:=aV.mk (aV.S z0) (aV.a_ z0) (aV.bH z0) (aV.new z0);iB (decide (s<(J l))) ((0<=s/\s<(J l))/\vT (z1,())/\iB (decide (aV.a_ z1=0)) (Q .ret (L2 [pI 4 s] [])) ( bQ (s+1)/\N0 (GL l f (s+1)))) (Q .ret (L2 [pI 4 (-1)] []))):ZWd [1,0,1,0,0] (GL l f s) (xT N0 (xB 0 (ZVJ [1,1] Q))):=Eq.mpr V4 h
def Ue:List (FuncId×Fs U):=[(192,WG)]
def I3(l:List bP)(f:Unit)(h:Int):bT U:=L2 [(0,.c (sU .cJ l .bA)),(1,.fn 192),pI 7 (J l),pI 8 h] []
abbrev ZPe(p):=AW (Za Ue) Tryz.f225 tK p
abbrev ZOJ(p):=SW (Za Ue) Tryz.f225 tK p
theorem ZzJ(l:List bP)(f)(s)(N0:NT)(Q:QT)(h:∀ab,ab=aR l (G s) (aW.mk 0 W.nil)->∀aa,aa=ab->iB (decide (s<(J l))) ((0<=s/\s<(J l))/\uR (aa,())/\iB (decide (W.D aa.e=0)) (Q .ret (L2 [pI 4 s] [])) ( bQ (s+1)/\N0 (I3 l f (s+1)))) (Q .ret (L2 [pI 4 (-1)] []))):ZPe [1,0,1,0,0] (I3 l f s) (xT N0 (xB 0 (ZOJ [1,1] Q))):=Eq.mpr V4 (h _ rfl _ (EU _))
def PD:List (FuncId×Fs U):=[(199,Zxf)]
def NI(l:List Op)(f:Unit)(h:Int):bT U:=L2 [(0,.c (sU .op l .bA)),(1,.fn 199),pI 7 (J l),pI 8 h] []
abbrev ZWc(p):=AW (Za PD) Tryz.f230 tK p
abbrev ZVI(p):=SW (Za PD) Tryz.f230 tK p
theorem ZBL(l)(f)(s)(N0:NT)(Q:QT)(h:∀ab,ab=aR l (G s) Op.nil->∀aa,aa=ab->iB (decide (s<(J l))) ((0<=s/\s<(J l))/\ZFi (aa,())/\iB (!decide (bI.D aa=0)) (Q .ret (L2 [pI 4 s] [])) ( bQ (s+1)/\N0 (NI l f (s+1)))) (Q .ret (L2 [pI 4 (-1)] []))):ZWc [1,0,1,0,0] (NI l f s) (xT N0 (xB 0 (ZVI [1,1] Q))):=Eq.mpr V4 (h _ rfl _ (Yp _))
def Zz0:List (FuncId×Fs U):=[(230,Zx2)]
abbrev ZXQ(p):=AW (Za Zz0) Tryz.f198 VP p
theorem ZTA(l)(f:Unit)(Q:QT)(h:B4 (l,(),())/\Q .ret (L2 [(4,.c (.bool (decide (0<=Jw (λo:Op=>!decide (bI.D o=0)) l 0))))] [])):ZXQ [] (L2 [(0,.c (sU .op l .bA)),(1,.fn 199)] []) Q:=Eq.mpr V4 h
def ZOl:Zb U:=cI [[0],[4],[0,(2,[.wr .bD]),4],[]]
abbrev ZXV(p):=AW (qW cQ) Tryz.f138 ZOl p
theorem ZTH(l:List aV)(Q:QT)(h:( l=[]->Q .ret (⟨[(2,.c (.mref (.e 2 0)))],[],[(.e 2 0,LC.mk (U:=U) .bD [] 0)]⟩))/\(True->( J ([]:List aV)+J l)*32<=140737488355328/\Q .ret (⟨[(2,.c (.mref (.e 2 0)))],[],[(.e 2 0,LC.mk (U:=U) .bD (([]:List aV)++l) (J ([]:List aV)))]⟩))):ZXV [] (L2 [(0,.c (sU .bD l .bA))] []) Q:=Eq.mpr V4 h
def ZOk:Zb U:=cI [[0],[4],[0,(2,[.wr .cJ]),4],[]]
abbrev ZXU(p):=AW (qW cQ) Tryz.f141 ZOk p
theorem ZTG(l:List bP)(Q:QT)(h:( l=[]->Q .ret (⟨[(2,.c (.mref (.e 2 0)))],[],[(.e 2 0,LC.mk (U:=U) .cJ [] 0)]⟩))/\(True->( J ([]:List bP)+J l)*208<=140737488355328/\Q .ret (⟨[(2,.c (.mref (.e 2 0)))],[],[(.e 2 0,LC.mk (U:=U) .cJ (([]:List bP)++l) (J ([]:List bP)))]⟩))):ZXU [] (L2 [(0,.c (sU .cJ l .bA))] []) Q:=Eq.mpr V4 h
def RZ:List (FuncId×Fs U):=[(190,PZ),(224,Zx5.eO)]
def Oa:Zb U:=cI [[(0,[.wr .bD]),1],[5],[12],[0,1,4,5,12],[(0,[.wr .bD]),1,4,5,6],[19],[19],[7,507],[29],[7,29,507],[],[1,6],[0,4,5]]
def Cj(l:List aV)(f:Unit)(s x6:Int)(h:List aV):bT U:=(⟨[(0,.c (.mref (.e 0 0))),(1,.fn 190),pI 5 s,pI 6 x6],[],[(.e 0 0,LC.mk (U:=U) .bD h 0)]⟩)
abbrev ZWk(p):=AW (Za RZ) Tryz.f189 Oa p
abbrev ZVP(p):=SW (Za RZ) Tryz.f189 Oa p
theorem ZC1(l)(f)(x5 x6)(s)(N0:NT)(Q:QT)(h:∀af,af=aR s (G x6) (aV.mk 0 0 0 0)->∀ab,ab=af->iB (decide (x6<(J s))) ((0<=x6/\x6<(J s))/\vT (ab,())/\iB (! decide (aV.a_ ab=0)) ((0<=x5/\x5<( J s:Int))/\0<=G x5/\bQ (x5+1)/\bQ (x6+1)/\N0 (Cj l f (x5+1) (x6+1) (List.set s (G x5) ab))) ( bQ (x6+1)/\N0 (Cj l f x5 (x6+1) s))) ((0<=x5/\x5<=(J s))/\0<=G x5/\(0<=x5/\x5<=(J (List.take (G x5) s++List.replicate ( J s-Int.toNat x5) (aV.mk 0 0 0 0))))/\Q .ret (L2 [(4,.c (sU .bD (List.take (G x5) (List.take (G x5) s++List.replicate ( J s-Int.toNat x5) (aV.mk 0 0 0 0))) .bA))] []))):ZWk [1,1,1,0,1,0,0] (Cj l f x5 x6 s) (xT N0 (xB 0 (ZVP [1,1,1,1] Q))):=Eq.mpr V4 (h _ rfl _ (JB _))
def Vv:List (FuncId×Fs U):=[(192,WG),(225,Zrz.eO)]
def UM:Zb U:=cI [[(0,[.wr .cJ]),1],[5],[12],[0,1,4,5,12],[(0,[.wr .cJ]),1,4,5,6],[19],[19],[7,507],[29],[7,29,507],[],[1,6],[0,4,5]]
def E9(l:List bP)(f:Unit)(s x6:Int)(h:List bP):bT U:=(⟨[(0,.c (.mref (.e 0 0))),(1,.fn 192),pI 5 s,pI 6 x6],[],[(.e 0 0,LC.mk (U:=U) .cJ h 0)]⟩)
abbrev ZWj(p):=AW (Za Vv) Tryz.f191 UM p
abbrev ZVO(p):=SW (Za Vv) Tryz.f191 UM p
theorem ZC0(l)(f)(x5 x6)(s:List bP)(N0:NT)(Q:QT)(h:∀af,af=aR s (G x6) (aW.mk 0 W.nil)->∀ab,ab=af->iB (decide (x6<(J s))) ((0<=x6/\x6<(J s))/\uR (ab,())/\iB (! decide (W.D ab.e=0)) ((0<=x5/\x5<( J s:Int))/\0<=G x5/\bQ (x5+1)/\bQ (x6+1)/\N0 (E9 l f (x5+1) (x6+1) (List.set s (G x5) ab))) ( bQ (x6+1)/\N0 (E9 l f x5 (x6+1) s))) ((0<=x5/\x5<=(J s))/\0<=G x5/\(0<=x5/\x5<=(J (List.take (G x5) s++List.replicate ( J s-Int.toNat x5) (aW.mk 0 W.nil))))/\Q .ret (L2 [(4,.c (sU .cJ (List.take (G x5) (List.take (G x5) s++List.replicate ( J s-Int.toNat x5) (aW.mk 0 W.nil))) .bA))] []))):ZWj [1,1,1,0,1,0,0] (E9 l f x5 x6 s) (xT N0 (xB 0 (ZVO [1,1,1,1] Q))):=Eq.mpr V4 (h _ rfl _ (EU _))
def ZKa:List (FuncId×Fs U):=[(189,Zxk),(191,Zxj)]
def ZUS:Zb U:=cI [[1,2,(501,an 7 [.wr .bD,.wr .cJ]),502],[(501,an 8 [.wr .cJ])],[501,501],[18],[1,18,501],[]]
set_option maxHeartbeats 2000000 in set_option maxHeartbeats 2000000 in def Zz5:List (FuncId×Fs U):=[(198,Zxg)]
def ZOi:Zb U:=cI [[0,1,4,504],[7],[0,1,7],[]]
abbrev ZXT(p):=AW (Za Zz5) Tryz.f146 ZOi p
theorem ZTF(V)(l)(Q:QT)(h:B4 (l,(),())/\iB (! l.any λo=>!decide (bI.D o=0)) (Q .ret (L2 [pL 4] [(.bE 4,eI)])) (Q .ret (L2 [pL 4] [(.bE 4,[ci 3,ci 0,.nils,.nils,ci 0,.nils,.nils,.nils,.nils,ci V,sU .op l .bA])]))):ZXT [] (L2 [pI 0 V,(1,.c (sU .op l .bA))] []) Q:=Eq.mpr V4 h
def ZKn:List (FuncId×Fs U):=[(25,Be),(114,l4)]
def ZV5:Zb U:=cI [[0,5,6,7,505,506,507,900],[5,6,8,9,505,506,508],[9,16],[0,7,8,16,507,508],[0,22],[0,22]]
def ZK8:List (FuncId×Fs U):=[(177,Ar),(194,Zxi),(195,Zxh)]
def ZUQ:Zb U:=cI [[0,900,901],[],[42],[42,66],[66],[],[0]]
