import Derived.Test.YtpjenobkibfpcaaGreatZKL24
import Derived.Test.YtpjenobkibfpcaaGreatZKRB07
import Derived.Test.YtpjenobkibfpcaaGreatZmXE
set_option linter.all false
open Option renaming some->A,none->aT
open Bool renaming true->Y,false->I
open List renaming length->J,getD->aR
open Int renaming toNat->G
namespace Go.AM.YtpjenobkibfpcaaGreat
open Go.AM Go.Proofs
theorem Zsw{t}(h:JF t=Y):t=H.nil:=by obtain⟨k,w,ks⟩:=t;have:=X7 h;simp at this;obtain⟨rfl,rfl,rfl⟩:=this;try rfl
theorem Zmk{e}(h:lE e=Y):e=W.nil:=by obtain⟨s,h2,h3,h4,h5,h6,h7⟩:=ZrG h;obtain⟨k,o,n,w,ks,l,os⟩:=e;simp at s h2 h3 h4 h5 h6 h7;subst s h4 h5 h6 h7;rw[Zsw h2,Zsw h3];try rfl
theorem uu{V}{o:Op}{d}(h:Zg V o d=Y):ZH o:=by
 rw[rI]at h;unfold ZH;split at h
 .rename_i s;simp only[Q9,Qh]at h;exact Or.inl ⟨s,X4.1 h.1.2.2,⟨h.1.1,h.1.2.1⟩,Zmk h.2⟩
 .split at h;.cases h
  .rename_i s h1;split at h;.simp only[Q9,Qh]at h;refine Or.inr (Or.inl ⟨O,O,?_,Zmk h.2⟩);grind
   grind
end Go.AM.YtpjenobkibfpcaaGreat
namespace Go.AM
def tH(V:Int)(e:W):Bool:=decide (e.D=0\/V=9/\e.D=2/\J e.aS=0/\J e.X=0)
def Z6(l:List H):List H:=l.map Z2
def iY(D:Int):List Op->List H|[]=>[]|o::r=>if o.D=1\/o.D=2 then(if o.D=D then Z6 o.l else[])++iY D r else[]
def fj:List Op->Int|[]=>0|o::r=>if o.D=1\/o.D=2 then 1+fj r else 0
def JE(w:aV):aV:=⟨w.S,w.a_,w.new,w.bH⟩
mutual def Zm:W->W|.mk k o n w ks l os=>.mk k n o (w.map JE) (YE ks) l (YK os)def YE:List (aW W)->List (aW W)|[]=>[]|k::r=>Jq k::YE r def Jq:aW W->aW W|⟨a,e⟩=>⟨a,Zm e⟩def YK:List (bI W)->List (bI W)|[]=>[]|o::r=>YD o::YK r def YD:bI W->bI W|⟨k,n,l,e⟩=>if k=1 then⟨2,n,l,e⟩else if k=2 then⟨1,n,l,e⟩else if k=3 then⟨k,n,l,Zm e⟩else⟨k,n,l,e⟩end
mutual def nE:W->W|.mk k o n w ks l os=>.mk k (Z2 o) (Z2 n) w (nKs ks) l (nOs os)def nKs:List (aW W)->List (aW W)|[]=>[]|k::r=>ZWR k::nKs r def ZWR:aW W->aW W|⟨a,e⟩=>⟨a,nE e⟩def nOs:List (bI W)->List (bI W)|[]=>[]|o::r=>nOp o::nOs r def nOp:bI W->bI W|⟨k,n,l,e⟩=>⟨k,n,Z6 l,nE e⟩end
def yT(k:Int):Int:=if k=1\/k=2 then 3-k else k
mutual def oS:W->W|.mk k o n w ks l os=>.mk k n o (w.map JE) (td ks) l (p7 os)def td:List (aW W)->List (aW W)|[]=>[]|k::r=>GW k::td r def GW:aW W->aW W|⟨a,e⟩=>⟨a,oS e⟩def p7:List (bI W)->List (bI W)|[]=>[]|o::r=>II o::p7 r def II:bI W->bI W|⟨k,n,l,e⟩=>⟨yT k,n,l,oS e⟩end
def YQ{α:Type}(z:α)(l:List α)(i:Nat)(x:α):List α:=(l++List.replicate (i+1-J l) z).set i x
def gK(h:List Int):List aV->List Int->Option (List Int)|[],bB=>A bB|w::r,bB=>if cS 0 (aR h (G w.S) 0) w.a_=w.bH then gK h r (YQ 0 bB (G w.S) (cS (aR h (G w.S) 0) w.new w.a_))else aT
noncomputable def iI(l h:List H):Bool:=decide ( J l<=J h)&&kf (Z6 l) (Z6 (h.take (J l)))
def gX(r:Option (List H×List H)):Option (List H):=r.bind λx=>if J x.2=0 then A x.1 else aT
def qC(r:Bool)(t:H):H:=if r then Z2 t else t
mutual noncomputable def bX(r:Bool):W->H->Option H|.mk k o n w ks l os,t=>(if k=0 then A t else if k=1 then if ZW (Z2 o) (Z2 t)=Y then A n else aT else if k=2 then if t.D=1 then(gK t.aS w t.aS).bind λa=>(fD r t.X ks t.X).map λb=>.mk 1 a b else aT else if k=3 then if t.D=l then(gX (ZV r os t.X [])).map λb=>.mk l [] b else aT else aT).map (qC r)noncomputable def fD(r:Bool)(tk:List H):List (aW W)->List H->Option (List H)|[],bB=>A bB|k::s,bB=>(jE r tk k).bind λu=>fD r tk s (YQ H.nil bB (G k.S) u)noncomputable def jE(r:Bool)(tk:List H):aW W->Option H|⟨a,e⟩=>bX r e (aR tk (G a) H.nil)noncomputable def ZV(r:Bool):List (bI W)->List H->List H->Option (List H×List H)|[],rest,bB=>A (bB,rest)|o::s,rest,bB=>(iQ r o rest bB).bind λx=>ZV r s x.2 x.1 noncomputable def iQ(r:Bool):bI W->List H->List H->Option (List H×List H)|⟨k,n,l,e⟩,rest,bB=>if k=0 then if G n<=J rest then A (bB++rest.take (G n),rest.drop (G n))else aT else if k=1 then if iI l rest=Y then A (bB,rest.drop (J l))else aT else if k=2 then A (bB++l,rest)else if J rest=0 then aT else(bX r e (aR rest 0 H.nil)).map λu=>(bB++[u],rest.drop 1)end
theorem lH(r)(e)(t):bX r e t=(if e.D=0 then A t else if e.D=1 then if ZW (Z2 e.bH) (Z2 t)=Y then A e.new else aT else if e.D=2 then if t.D=1 then(gK t.aS e.aS t.aS).bind λa=>(fD r t.X e.X t.X).map λb=>.mk 1 a b else aT else if e.D=3 then if t.D=e.V then(gX (ZV r e.ops t.X [])).map λb=>.mk e.V [] b else aT else aT).map (qC r):=by cases e;rfl
noncomputable def oL(r:Bool)(e:W)(t:H):Option H:=if e.D=0 then A t else if e.D=1 then if ZW (Z2 e.bH) (Z2 t)=Y then A e.new else aT else if e.D=2 then if t.D=1 then(gK t.aS e.aS t.aS).bind λa=>(fD r t.X e.X t.X).map λb=>.mk 1 a b else aT else if e.D=3 then if t.D=e.V then(gX (ZV r e.ops t.X [])).map λb=>.mk e.V [] b else aT else aT
theorem uH(r)(e)(t):bX r e t=(oL r e t).map (qC r):=lH r e t
theorem xe(r)(tk)(k:bP):jE r tk k=bX r k.e (aR tk (G k.S) H.nil):=by cases k;rfl
theorem Js(r)(o:Op)(h bB):iQ r o h bB=if o.D=0 then if G o.n<=J h then A (bB++h.take (G o.n),h.drop (G o.n))else aT else if o.D=1 then if iI o.l h=Y then A (bB,h.drop (J o.l))else aT else if o.D=2 then A (bB++o.l,h)else if J h=0 then aT else(bX r o.e (aR h 0 H.nil)).map λu=>(bB++[u],h.drop 1):=by cases o;rfl
noncomputable def jY(r:Bool)(e:W)(t:H):Option H:=if t.D=1 then(gK t.aS e.aS t.aS).bind λa=>(fD r t.X e.X t.X).map λb=>.mk 1 a b else aT
noncomputable def ix(r:Bool)(e:W)(t:H):Option (List H×List H):=if t.D=e.V then ZV r e.ops t.X []else aT
def YH(o:Option H):H:=o.getD H.nil
def ud(e:W)(o:Option (List H×List H)):H:=match o with|some x=>.mk e.V [] x.1|none=>H.nil
noncomputable def pE(e:W)(t:H):H:=if e.D=0 then t else if e.D=1 then e.new else if e.D=2 then YH (jY I e t)else if e.D=3 then ud e (ix I e t)else H.nil
theorem Ja(o:Option H):o.map (qC I)=o:=by cases o<;>rfl
theorem T3{e t u}(h:bX I e t=A u):pE e t=u:=by
 rw[lH,Ja]at h;unfold pE;split;.grind
 .rename_i h0;rw[Q0 h0]at h;split;.grind
  .rename_i h1;rw[Q0 h1]at h;split;.rename_i s;rw[Q5 s]at h;unfold YH jY;rw[h];try rfl
   .rename_i s;rw[Q0 s]at h;split
    .rename_i h3;rw[Q5 h3]at h;unfold ud ix;split at h;.rename_i h4;rw[Q5 h4];revert h;cases ZV I e.ops t.X []with|none=>intro h;cases h|some x=>intro h;simp only[gX,Qp]at h;grind
     .cases h
    grind
structure dA where
 bB:List Op
 gone:List H
 bO:List H
def kU(bB:List Op)(g b:List H):List Op:=bB++((if J g=0 then[]else[⟨1,0,g,W.nil⟩])++if J b=0 then[]else[⟨2,0,b,W.nil⟩])
def iE:List Op->Int->List Op|[],n=>[⟨0,n,[],W.nil⟩]|[o],n=>if o.D=0 then[⟨o.D,o.n+n,o.l,o.e⟩]else[o,⟨0,n,[],W.nil⟩]|o::p::r,n=>o::iE (p::r) n
def Zj(w:dA):dA:=⟨kU w.bB w.gone w.bO,[],[]⟩
def Yt(w:dA)(n:Int):dA:=⟨iE (Zj w).bB n,[],[]⟩
mutual def Zd:W->W|.mk k o n w ks l os=>if k=1 then .mk k (Z2 o) (Z2 n) [] [] l []else if k=2 then .mk k H.nil H.nil w (Jo ks) l []else if k=3 then .mk k H.nil H.nil [] [] l (Zj (Zz l os ⟨[],[],[]⟩)).bB else .mk k H.nil H.nil [] [] l []def Jo:List (aW W)->List (aW W)|[]=>[]|k::r=>lF k::Jo r def lF:aW W->aW W|⟨a,e⟩=>⟨a,Zd e⟩def Zz(V:Int):List (bI W)->dA->dA|[],s=>s|o::r,s=>Zz V r (j9 V o s)def j9(V:Int):bI W->dA->dA|⟨k,n,l,e⟩,s=>if k=0 then Yt s n else if k=1 then⟨s.bB,s.gone++Z6 l,s.bO⟩else if k=2 then⟨s.bB,s.gone,s.bO++Z6 l⟩else if k=3 then if tH V (Zd e)=Y then Yt s 1 else⟨(Zj s).bB++[⟨3,0,[],Zd e⟩],[],[]⟩else s end
theorem zH(e):Zd e=if e.D=1 then .mk e.D (Z2 e.bH) (Z2 e.new) [] [] e.V []else if e.D=2 then .mk e.D H.nil H.nil e.aS (Jo e.X) e.V []else if e.D=3 then .mk e.D H.nil H.nil [] [] e.V (Zj (Zz e.V e.ops ⟨[],[],[]⟩)).bB else .mk e.D H.nil H.nil [] [] e.V []:=by cases e;rfl
theorem WB(k:bP):lF k=⟨k.S,Zd k.e⟩:=by cases k;rfl
theorem JV(V)(o:Op)(s):j9 V o s=if o.D=0 then Yt s o.n else if o.D=1 then⟨s.bB,s.gone++Z6 o.l,s.bO⟩else if o.D=2 then⟨s.bB,s.gone,s.bO++Z6 o.l⟩else if o.D=3 then if tH V (Zd o.e)=Y then Yt s 1 else⟨(Zj s).bB++[⟨3,0,[],Zd o.e⟩],[],[]⟩else s:=by cases o;rfl
theorem ZmH(V):∀(l:List Op)s,Zz V l s=Zz V (l.drop (G (fj l))) ⟨s.bB,s.gone++iY 1 l,s.bO++iY 2 l⟩
 |[],s=>by simp[Zz,iY,fj]|o::r,s=>by
  by_cases h:o.D=1\/o.D=2
  .have hg:0<=fj r:=gapN_nonneg r;rw[fj,Q5 h,iY,iY,Q5 h,Q5 h,show G (1+fj r)=G (fj r)+1 by omega,QE,Zz,JV,ZmH V r];grind
  .rw[fj,Q0 h,iY,iY,Q0 h,Q0 h];simp where gapN_nonneg:∀(l:List Op),0<=fj l|[]=>by simp[fj]|o::r=>by have:=gapN_nonneg r;rw[fj];omega
end Go.AM
namespace Go.AM.YtpjenobkibfpcaaGreat
open Go.AM Go.Proofs
theorem Zjo(a b):ZW a b=ZW b a:=by simp[ZW,eq_comm]
theorem Zjn(a):ZW a a=Y:=by simp[ZW]
theorem ZzQ(l):dc (dc l)=dc l:=by induction l with|nil=>rfl|cons x r ih=>
  rw[AF];split;.try rfl
  .rename_i h;rw[AF,ih,Q0 h]
theorem ZtK(l):J2 (J2 l)=J2 l:=by induction l with|nil=>rfl|cons x r ih=>
  rw[uO];split;.try rfl
  .rename_i h;rw[uO,ih,Q0 h]
def gi:List H->Prop|[]=>True|t::r=>Z2 t=t/\gi r
theorem gi.eq:∀{l},gi l->J5 l=l|[],_=>rfl|t::r,h=>by simp only[J5,h.1,gi.eq h.2]
theorem gi.dc:∀{l},gi l->gi (J2 l)
 |[],_=>trivial|t::r,h=>by
  rw[uO];split;.trivial
  .exact⟨h.1,gi.dc h.2⟩
mutual theorem ZY:∀(t:H),Z2 (Z2 t)=Z2 t
 |.mk k w ks=>by
  have h:=Zea ks;by_cases h0:k=0;.simp[Z2,h0,H.nil]
  .by_cases h1:k=1;.subst h1;simp only[Z2,Q0 h0,Xa,ZzQ,h.dc.eq,ZtK]
   .simp only[Z2,Q0 h0,Q0 h1,h.eq]theorem Zea:∀(ks:List H),gi (J5 ks)|[]=>trivial|t::r=>⟨ZY t,Zea r⟩end
noncomputable section
def Pe:cF xO:=.cons (fY .aX) .nil
def HY(a:xO):Prop:=Ze a.1<=20000000000
def ZPL(a:xO):aA U:=.c (sU .aX (Z6 a.1) .bA)
def Zxp:Fs U:=fs Pe (λa=>[HY a]) ZPL
def ZM8:cF U5:=.cons (fY .op) (.cons (J1 .i64) (.cons (J1 .i64) .nil))
def Bs(a:U5):Prop:=Zq a.1<=20000000000/\0<=a.2.1/\a.2.1<=J a.1
def ZEM(a:U5):aA U:=.tup [(I,[sU .aX (iY a.2.2.1 (a.1.drop (G a.2.1))) .bA]),(I,[ci (a.2.1+fj (a.1.drop (G a.2.1)))])]
def Fw:Fs U:=fs ZM8 (λa=>[Bs a]) ZEM
def jA(a:Ys):Nat:=2*Z1 a.1
def MU(a:Ys):aA U:=.agg (enc .aY (Zm a.1))
def PM:Fs U:=fs kV (λa=>[hH a]) MU
def AB(a:wj):Prop:=Zy a.1<=20000000000
def B5(a:wj):Nat:=2*Zy a.1+1
def yi(a:wj):aA U:=.agg (enc .op (YD a.1))
def Zxo:Fs U:=fs CD (λa=>[AB a]) yi
def EB:List (FuncId×Fs U):=[(41,mJ)]
def ER:Zb U:=cI [[0],[3],[(3,[.bF .aX]),4],[3,3,8],[(3,[.bF .aX]),8],[3,3],[0,2,3,4]]
def La(l:List H)(s:Int)(h:List H):bT U:=L2 [(0,.c (sU .aX l .bA)),(3,.c (sU .aX h (.bF (.e 3 0)))),pI 4 s] []
abbrev ZMu(l)(s)(h)(N0:NT)(Q:QT):=AW (Za EB) Tryz.f180 ER [1,1,0,1,0,0] (La l s h) (xT N0 (xB 0 (SW (Za EB) Tryz.f180 ER [1,1,1] Q)))
theorem ZCc(l)(s)(x3:List H)(N0)(Q)(h:let z2:=aR l (G s) H.nil;let z0:=H.mk (H.D z2) (H.aS z2) (H.X z2);let z1:=H.mk (H.D (Z2 z0)) (H.aS (Z2 z0)) (H.X (Z2 z0));iB (decide (s<(J l))) ((0<=s/\s<(J l))/\gQ (z0,())/\( J x3+J [z1])*56<=140737488355328/\bQ (s+1)/\N0 (La l (s+1) (x3++[z1]))) (Q .ret (L2 [(2,.c (sU .aX x3 (.bF (.e 2 0))))] []))):ZMu l s x3 N0 Q:=Eq.mpr V4 h
def Ev:List (FuncId×Fs U):=[(180,Zxp)]
def EM:Zb U:=cI [[0,1,2],[8],[1,(8,[.bF .aX]),9],[8,8,30],[30,37],[37],[(8,[.bF .aX])],[0,2,6,7,8,9]]
def Dk(l:List Op)(h D x9:Int)(s:List H):bT U:=L2 [(0,.c (sU .op l .bA)),pI 2 D,(8,.c (sU .aX s (.bF (.e 8 0)))),pI 9 x9] []
abbrev ZMB(l)(h D x9)(s)(N0:NT)(Q:QT):=AW (Za Ev) Tryz.f127 EM [1,1,1,0,0,0] (Dk l h D x9 s) (xT N0 (xB 0 (SW (Za Ev) Tryz.f127 EM [1,1,1,1] Q)))
theorem ZCI(l)(ab D x9)(x8)(N0)(Q)(h:∀s,s=aR l (G x9) Op.nil->let z0:=decide (x9<(J l));let z1:=z0&&! s.D==1;Tk 2 z0 ((z0=Y->0<=x9/\x9<(J l))/\Tk 4 z0 (Tk 2 z1 ((z1=Y->0<=x9/\x9<(J l))/\Tk 3 z1 ((z0=Y->True->z0=Y)/\(z0=Y->(s.D==1)=I->z1=Y)/\Tt z0/\iB (bif z0 then bif s.D==1 then Y else s.D==2 else I) ((0<=x9/\x9<(J l))/\iB (s.D==D) ((0<=x9/\x9<(J l))/\HY (s.l,())/\( J x8+J (Z6 s.l))*56<=140737488355328/\bQ (x9+1)/\N0 (Dk l ab D (x9+1) (x8++Z6 s.l))) ( bQ (x9+1)/\N0 (Dk l ab D (x9+1) x8))) (Q .ret (L2 [(6,.c (sU .aX x8 (.bF (.e 6 0)))),pI 7 x9] []))))))):ZMB l ab D x9 x8 N0 Q:=Eq.mpr V4 (h _ rfl)
def nJ(N:Nat):List (FuncId×Fs U):=(131,fs kV (λa=>[hH a,jA a<N]) MU)::(182,fs CD (λa=>[AB a,B5 a<N]) yi)::[]
def oi:Zb U:=cI [[1,2,501,502],[3,503],[20,21,22,(503,an 7 [.bF .bD])],[23,503,503],[5,23,505],[5,505],[(503,an 7 [.bF .bD])],[20,21,22,42,43,44,(503,an 8 [.bF .cJ])],[45,503,503],[7,45,507],[7,507],[(503,an 8 [.bF .cJ])],[1,42,43,44,61,62,63,501,(503,an 10 [.bF .op])],[64,503,503],[9,64,509],[9,509],[(503,an 10 [.bF .op])],[3,61,62,63,503]]
def Nq(e:W)(s:Int)(h:List aV):bT U:=L2 [pL 1,pL 2,pL 3,(20,.c (sU .bD e.aS .bA)),pI 21 (J e.aS),pI 22 s] [(.bE 1,enc .aY e),(.bE 2,eI),(.bE 3,[ci e.D]++enc .aX e.new++enc .aX e.bH++[sU .bD h (.bF (.l 3 7)),.nils,ci e.V,.nils])]
def G7(e:W)(aa:List aV)(s:Int)(h:List bP):bT U:=L2 [pL 1,pL 2,pL 3,(42,.c (sU .cJ e.X .bA)),pI 43 (J e.X),pI 44 s] [(.bE 1,enc .aY e),(.bE 2,eI),(.bE 3,[ci e.D]++enc .aX e.new++enc .aX e.bH++[sU .bD aa (.bF (.l 3 7)),sU .cJ h (.bF (.l 3 8)),ci e.V,.nils])]
def FM(e:W)(aa:List aV)(s:List bP)(ab:Int)(h:List Op):bT U:=L2 [pL 2,pL 3,(61,.c (sU .op e.ops .bA)),pI 62 (J e.ops),pI 63 ab] [(.bE 2,eI),(.bE 3,[ci e.D]++enc .aX e.new++enc .aX e.bH++[sU .bD aa (.bF (.l 3 7)),sU .cJ s (.bF (.l 3 8)),ci e.V,sU .op h (.bF (.l 3 10))])]
abbrev ZMA(N)(e)(s)(h)(N0:NT)(Q:QT):=AW (Za (nJ N)) Tryz.f131 oi [1,1,0,1,0,0] (Nq e s h) (xT N0 (xB 0 (SW (Za (nJ N)) Tryz.f131 oi [1,1,1] Q)))
theorem ZCG(N)(e)(aa)(s)(N0)(Q:QT)(h:let z0:=aR e.aS (G aa) (aV.mk 0 0 0 0);let z1:=aV.mk (aV.S z0) (aV.a_ z0) (aV.new z0) (aV.bH z0);iB (decide (aa<(J e.aS))) ((0<=aa/\aa<(J e.aS))/\( J s+J [z1])*32<=140737488355328/\bQ (aa+1)/\N0 (Nq e (aa+1) (s++[z1]))) (Zi (AW (Za (nJ N)) Tryz.f131 oi [1,1,1,0,1,0,0]) (G7 e s 0 []) (xB 2 (SW (Za (nJ N)) Tryz.f131 oi [1,1,1,1] Q)))):ZMA N e aa s N0 Q:=Eq.mpr V4 h
abbrev ZMz(N)(e)(aa)(s)(h)(N1:NT)(Q:QT):=AW (Za (nJ N)) Tryz.f131 oi [1,1,1,0,1,0,0] (G7 e aa s h) (xT N1 (xB 2 (SW (Za (nJ N)) Tryz.f131 oi [1,1,1,1] Q)))
theorem ZCF(N)(e:W)(ab)(s)(aa)(N1)(Q:QT)(h:∀af,af=aR e.X (G s) (aW.mk 0 W.nil)->∀ae,ae=af.e->∀ah,ah=Zm ae->iB (decide (s<(J e.X))) ((0<=s/\s<(J e.X))/\hH (ae,())/\jA (ae,())<N/\( J aa+J [(aW.mk af.S ah)])*208<=140737488355328/\bQ (s+1)/\N1 (G7 e ab (s+1) (aa++[(aW.mk af.S ah)]))) (Zi (AW (Za (nJ N)) Tryz.f131 oi [1,1,1,1,0,1,0,0]) (FM e ab aa 0 []) (xB 4 (SW (Za (nJ N)) Tryz.f131 oi [1,1,1,1,1] Q)))):ZMz N e ab s aa N1 Q:=Eq.mpr V4 (h _ rfl _ (Z0 _) _ (Z0 _))
abbrev ZMy(N)(e)(aa)(s)(ab)(h)(N2:NT)(Q:QT):=AW (Za (nJ N)) Tryz.f131 oi [1,1,1,1,0,1,0,0] (FM e aa s ab h) (xT N2 (xB 4 (SW (Za (nJ N)) Tryz.f131 oi [1,1,1,1,1] Q)))
theorem ZCE(N)(e)(ae)(ab)(aa)(s:List Op)(N2:NT)(Q)(h:∀ai,ai=aR e.ops (G aa) Op.nil->∀af,af=ai->∀ah,ah=YD af->iB (decide (aa<(J e.ops))) ((0<=aa/\aa<(J e.ops))/\AB (af,())/\B5 (af,())<N/\( J s+J [ah])*240<=140737488355328/\bQ (aa+1)/\N2 (FM e ae ab (aa+1) (s++[ah]))) (Q .ret (L2 [pL 2] [(.bE 2,[ci e.D]++enc .aX e.new++enc .aX e.bH++[sU .bD ae (.bF (.l 2 7)),sU .cJ ab (.bF (.l 2 8)),ci e.V,sU .op s (.bF (.l 2 10))])]))):ZMy N e ae ab aa s N2 Q:=Eq.mpr V4 (h _ rfl _ (Yp _) _ (Yp _))
def ZN6(N:Nat)(e:W):Prop:=AW (Za (nJ N)) Tryz.f131 oi [] (Y5 (kV.cK (e,())) []) (EQ Tryz.f131 (MU (e,())) [])
abbrev ZP1:Prop:=∀N(e:W)(_:Unit),hH (e,())->jA (e,())<N+1->ZN6 N e
def ZOb:Zb U:=cI [[1,2,501,502],[4],[5],[4,5],[4,8],[4,8],[11],[11],[1,501]]
def ZMX(N:Nat)(o:Op):Prop:=AW (Za (nJ N)) Tryz.f182 ZOb [] (Y5 (CD.cK (o,())) []) (EQ Tryz.f182 (yi (o,())) [])
abbrev ZOS:Prop:=∀N(o:Op)(_:Unit),AB (o,())->B5 (o,())<N+1->ZMX N o
theorem ZsD(h:ZP1)(s:ZOS):CT 131 PM/\CT 182 Zxo:=M9 (μA:=jA) (μB:=B5) (l:=[]) ZN rfl trivial oi ZOb Tryz.func131 Tryz.func182 rfl rfl rfl rfl 1 1 (λ_=>rfl) (λ_=>rfl) V1 V1 (λN⟨e,_⟩=>h N e ()) λN⟨o,_⟩=>s N o ()
end
theorem ZXA:aU Tryz.prog M 180 Zxp:=by
 refine kF (l:=EB) ⟨tC,trivial⟩ ER Tryz.func180 1 λ⟨l,_⟩hp=>?_;simp only[HY]at hp;have hl:=Zs l;refine wV (λQ=>Zi (AW (Za EB) Tryz.f180 ER [1,1,0,1,0,0]) (La l 0 []) (xB 0 (SW (Za EB) Tryz.f180 ER [1,1,1] Q))) ?_ λ_ h=>Eq.mpr V4 h;refine Z5 (ι:=Int×List H) (λs=>La l s.1 s.2) (λs=>0<=s.1/\s.1<=J l/\J s.2=s.1/\s.2++Z6 (l.drop (G s.1))=Z6 l) (λs=>G (( J l:Int)-s.1)) (0,[]) rfl ⟨by simp,by simp,by simp,by simp⟩ ?_;rintro⟨i,bB⟩⟨h1,h2,h3,h4⟩;dsimp only at h1 h2 h3 h4;refine ZCc _ _ _ _ _ ?_;(simp only[iB,bW]);(simp only[vE]);refine⟨λhi=>?_,λhi=>?_⟩;.have hm:=YM (Zh (l:=l) (i:=G i) O H.nil);rw[ZO h1 hi H.nil]at h4;simp only[Z6,Qu]at h4;refine⟨⟨h1,hi⟩,by simp only[gQ];omega,by simp;omega,V3,(i+1,bB++[Z2 (aR l (G i) H.nil)]),rfl,⟨O,O,by simp;omega,?_⟩,O⟩;simp only[Qg,Qw,Qn];exact h4
 .rw[Qb O]at h4;simp only[Z6,QG,Qj]at h4;rw[h4];exact V0
theorem Znc{D l}{i:Int}(s:0<=i)(h:i<J l):iY D (l.drop (G i))=if(aR l (G i) Op.nil).D=1\/(aR l (G i) Op.nil).D=2 then(if(aR l (G i) Op.nil).D=D then Z6 (aR l (G i) Op.nil).l else[])++iY D (l.drop (G (i+1)))else[]:=by rw[ZO s h Op.nil,iY]
theorem Zne{l}{i:Int}(s:0<=i)(h:i<J l):fj (l.drop (G i))=if(aR l (G i) Op.nil).D=1\/(aR l (G i) Op.nil).D=2 then 1+fj (l.drop (G (i+1)))else 0:=by rw[ZO s h Op.nil,fj]
theorem Zsz(n):∀(l:List Op),Zq (l.drop n)<=Zq l:=by induction n with|zero=>intro l;simp|succ n ih=>intro l;cases l with|nil=>simp|cons t r=>simp only[QE,Zq];grind
theorem Si:aU Tryz.prog M 127 Fw:=by
 refine kF (l:=Ev) ⟨ZXA,trivial⟩ EM Tryz.func127 3 λ⟨l,aa,D,_⟩hp=>?_;simp only[Bs]at hp;obtain⟨hm,au,al⟩:=hp;have hl:=Y4 l;refine wV (λQ=>Zi (AW (Za Ev) Tryz.f127 EM [1,1,1,0,0,0]) (Dk l aa D aa []) (xB 0 (SW (Za Ev) Tryz.f127 EM [1,1,1,1] Q))) ?_ λ_ h=>Eq.mpr V4 h;refine Z5 (ι:=Int×List H) (λs=>Dk l aa D s.1 s.2) (λs=>aa<=s.1/\s.1<=J l/\J s.2+Zq (l.drop (G s.1))<=Zq l/\s.2++iY D (l.drop (G s.1))=iY D (l.drop (G aa))/\s.1+fj (l.drop (G s.1))=aa+fj (l.drop (G aa))) (λs=>G (( J l:Int)-s.1)) (aa,[]) rfl ⟨by simp,by simpa using al,by have:=Zsz (G aa) l;simpa using this,by simp,rfl⟩ ?_;rintro⟨i,bB⟩⟨h1,h2,h3,h4,h5⟩;dsimp only at h1 h2 h3 h4 h5;refine ZCI _ _ _ _ _ _ _ ?_;rintro y hy;simp only[iB,bR,bW,nf,Xw];refine⟨λhi=>⟨O,hi⟩,λhi=>⟨O,hi.1⟩,λhi=>?_,λhi=>?_⟩
 .obtain⟨hi,hk⟩:=hi;have af:=Y9 (Zh (l:=l) (i:=G i) O Op.nil);have hd:=congrArg Zq (ZO (show 0<=i by omega) hi Op.nil);rw[LN]at hd;rw[Znc O hi]at h4;rw[Zne O hi]at h5;rw[<-hy]at h4 h5 af hd;rw[Q5 hk]at h4 h5;rw[ZZ]at af hd;have aw:=Zs y.l;have ai:J (Z6 y.l)=J y.l:=by simp[Z6]
  refine⟨⟨O,hi⟩,λhq=>⟨⟨O,hi⟩,by simp only[HY];omega,by rw[ai];omega,V3,(i+1,bB++Z6 y.l),rfl,⟨V2,V2,by simp;omega,?_,V2⟩,V2⟩,λhq=>⟨V3,(i+1,bB),rfl,⟨V2,V2,V2,?_,V2⟩,V2⟩⟩;.rw[Q5 hq,<-Qg]at h4;exact h4
  .rw[Q0 hq,Qn]at h4;exact h4
 .have e1:iY D (l.drop (G i))=[]/\fj (l.drop (G i))=0:=by
   by_cases L:i<J l
   .rw[Znc O L,Zne O L,<-hy,Q0 O,Q0 O];exact⟨rfl,rfl⟩
   .rw[Qb O];exact⟨rfl,rfl⟩
  rw[e1.1,Qj]at h4;rw[e1.2]at h5;have e2:i=aa+fj (l.drop (G aa)):=O;simp only[ZEM,<-h4,<-e2];exact V0
theorem rG(o:Op):YD o=if o.D=1 then⟨2,o.n,o.l,o.e⟩else if o.D=2 then⟨1,o.n,o.l,o.e⟩else if o.D=3 then⟨o.D,o.n,o.l,Zm o.e⟩else⟨o.D,o.n,o.l,o.e⟩:=by cases o;rfl
theorem ZDq(e):Zm e=.mk e.D e.new e.bH (e.aS.map JE) (YE e.X) e.V (YK e.ops):=by cases e;rfl
theorem Zj2(k:bP):Jq k=⟨k.S,Zm k.e⟩:=by cases k;rfl
theorem ZXH:ZOS:=by
 intro N o _ hp hN;simp only[AB,B5]at hp hN;rw[ZZ]at hp hN;have ah:=AU o.e;refine wV (λQ=>∀s,s=o.e->iB (o.D==1) (Q .ret (L2 [pL 2] [(.bE 2,[ci 2,ci o.n,sU .aX o.l .bA]++enc .aY o.e)])) (iB (o.D==2) (Q .ret (L2 [pL 2] [(.bE 2,[ci 1,ci o.n,sU .aX o.l .bA]++enc .aY o.e)])) (iB (o.D==3) ( hH (s,())/\jA (s,())<N/\Q .ret (L2 [pL 2] [(.bE 2,[ci o.D,ci o.n,sU .aX o.l .bA]++enc .aY (Zm s))])) (Q .ret (L2 [pL 2] [(.bE 2,enc .op o)]))))) ?_ λ_ h=>Eq.mpr V4 (h _ (Z0 _));rintro y hy;(simp only[iB,bW]);refine⟨λh=>?_,λh=>⟨λh2=>?_,λh2=>⟨λh3=>⟨by simp only[hH,hy];omega,by simp only[jA,hy];omega,?_⟩,λh3=>?_⟩⟩⟩
 .have e:YD o=⟨2,o.n,o.l,o.e⟩:=by rw[rG,Q5 h]
  simp only[yi,e];exact V0
 .have e:YD o=⟨1,o.n,o.l,o.e⟩:=by rw[rG,Q0 h,Q5 h2]
  simp only[yi,e];exact V0
 .have e:YD o=⟨o.D,o.n,o.l,Zm o.e⟩:=by rw[rG,Q0 h,Q0 h2,Q5 h3]
  simp only[yi,e];rw[hy];exact V0
 .have e:YD o=⟨o.D,o.n,o.l,o.e⟩:=by rw[rG,Q0 h,Q0 h2,Q0 h3]
  simp only[yi,e];exact V0
theorem ZXI:ZP1:=by
 intro N e _ hp hN;simp only[hH,jA]at hp hN;have h1:=Yr e;have h2:=Yl e.X;have h3:=Y4 e.ops;have ha:=ZDq e;refine wV (λQ=>Zi (AW (Za (nJ N)) Tryz.f131 oi [1,1,0,1,0,0]) (Nq e 0 []) (xB 0 (SW (Za (nJ N)) Tryz.f131 oi [1,1,1] Q))) ?_ λ_ h=>Eq.mpr V4 h;refine Z5 (ι:=Int×List aV) (λs=>Nq e s.1 s.2) (λs=>0<=s.1/\s.1<=J e.aS/\J s.2=s.1/\s.2++(e.aS.drop (G s.1)).map JE=e.aS.map JE) (λs=>G (( J e.aS:Int)-s.1)) (0,[]) rfl ⟨by simp,by simp,by simp,by simp⟩ ?_;rintro⟨i,ws⟩⟨g1,g2,g3,g4⟩;dsimp only at g1 g2 g3 g4;refine ZCG _ _ _ _ _ _ ?_;(simp only[iB,bW]);refine⟨λhi=>?_,λhi=>?_⟩;.rw[ZO g1 hi (aV.mk 0 0 0 0)]at g4;simp only[Qu]at g4;refine⟨⟨g1,hi⟩,by simp;omega,V3,(i+1,ws++[JE (aR e.aS (G i) (aV.mk 0 0 0 0))]),rfl,⟨O,O,by simp;omega,?_⟩,O⟩;grind
 .rw[Qb O]at g4;simp only[QG,Qj]at g4;refine Z5 (ι:=Int×List bP) (λs=>G7 e ws s.1 s.2) (λs=>0<=s.1/\s.1<=J e.X/\J s.2=s.1/\s.2++YE (e.X.drop (G s.1))=YE e.X) (λs=>G (( J e.X:Int)-s.1)) (0,[]) rfl ⟨by simp,by simp,by simp,by simp⟩ ?_;rintro⟨j,ks⟩⟨f1,f2,f3,f4⟩;dsimp only at f1 f2 f3 f4;refine ZCF _ _ _ _ _ _ _ ?_;rintro y1 ao y2 aq y3 au;(simp only[iB,bW]);refine⟨λhj=>?_,λhj=>?_⟩;.have hm:=JC (Zh (l:=e.X) (i:=G j) O (aW.mk 0 W.nil));rw[ZO f1 hj (aW.mk 0 W.nil)]at f4;rw[<-ao]at f4 hm;simp only[YE,Zj2]at f4;rw[<-aq]at f4 hm;rw[<-au]at f4;refine⟨⟨f1,hj⟩,by simp only[hH];omega,by simp only[jA];omega,by simp;omega,V3,(j+1,ks++[⟨y1.S,y3⟩]),rfl,⟨O,O,by simp;omega,?_⟩,O⟩;grind
  .rw[Qb O]at f4;simp only[YE,Qj]at f4;refine Z5 (ι:=Int×List Op) (λs=>FM e ws ks s.1 s.2) (λs=>0<=s.1/\s.1<=J e.ops/\J s.2=s.1/\s.2++YK (e.ops.drop (G s.1))=YK e.ops) (λs=>G (( J e.ops:Int)-s.1)) (0,[]) rfl ⟨by simp,by simp,by simp,by simp⟩ ?_;rintro⟨k,os⟩⟨d1,d2,d3,d4⟩;dsimp only at d1 d2 d3 d4;refine ZCE _ _ _ _ _ _ _ _ ?_;rintro z1 ak z2 am z3 ai;(simp only[iB,bW]);refine⟨λhj=>?_,λhj=>?_⟩;.have hm:=Y9 (Zh (l:=e.ops) (i:=G k) O Op.nil);rw[ZO d1 hj Op.nil]at d4;rw[<-ak,<-am]at d4 hm;simp only[YK]at d4;rw[<-ai]at d4;refine⟨⟨d1,hj⟩,by simp only[AB];omega,by simp only[B5];omega,by simp;omega,V3,(k+1,os++[z3]),rfl,⟨O,O,by simp;omega,?_⟩,O⟩;grind
   .rw[Qb O]at d4;simp only[YK,Qj]at d4;rw[g4,f4,d4];simp only[MU,ha];exact V0
theorem ZHl:aU Tryz.prog M 131 PM/\aU Tryz.prog M 182 Zxo:=ZsD ZXI ZXH
theorem ZhI:∀l(m n:Int),iE (iE l m) n=iE l (m+n)
 |[],m,n=>by simp[iE]|[o],m,n=>by
  by_cases h:o.D=0;.simp[iE,h,Int.add_assoc]
  .simp[iE,h]|o::p::r,m,n=>by have s:=ZhI (p::r) m n;cases hk:iE (p::r) m with|nil=>cases r<;>simp[iE]at hk;grind|cons x y=>rw[hk]at s;simp only[iE];rw[hk];simp only[iE];rw[s]
theorem tm:∀l(n:Int),iE l n=l++[⟨0,n,[],W.nil⟩]\/∃a o,l=a++[o]/\o.D=0/\iE l n=a++[⟨o.D,o.n+n,o.l,o.e⟩]
 |[],n=>Or.inl rfl|[o],n=>by
  by_cases h:o.D=0;.exact Or.inr ⟨[],o,rfl,h,by simp[iE,h]⟩
  .exact Or.inl (by simp[iE,h])|o::p::r,n=>by
  rcases tm (p::r) n with h|⟨a,q,h1,h2,h3⟩;.exact Or.inl (by simp only[iE,h,Qw])
  .exact Or.inr ⟨o::a,q,by rw[h1];rfl,h2,by simp only[iE,h3,Qw]⟩
def W0:dA:=⟨[],[],[]⟩
theorem Zhj(l):Z6 (Z6 l)=Z6 l:=by simp only[Z6,QP];congr 1;funext t;exact ZY t
theorem JI(a b):Z6 (a++b)=Z6 a++Z6 b:=by simp[Z6]
end Go.AM.YtpjenobkibfpcaaGreat
namespace Go.AM
theorem I8{t}(h:JF t=Y):t=H.nil:=by obtain⟨k,w,ks⟩:=t;simp only[JF,Qh]at h;obtain⟨s,h2,h3⟩:=h;have s:k=0:=s;rw[s,Q7 (l:=w) h2,Q7 (l:=ks) h3];try rfl
theorem ZrF{e}(h:lE e=Y):e=W.nil:=by obtain⟨k,o,n,w,ks,l,os⟩:=e;simp only[lE,Q9,Qh]at h;obtain⟨⟨⟨s,h2⟩,h3⟩,h4,h5,h6,h7⟩:=h;have s:k=0:=s;have h7:l=0:=h7;rw[s,h7,I8 (t:=o) h2,I8 (t:=n) h3,Q7 (l:=w) h4,Q7 (l:=ks) h5,Q7 (l:=os) h6];try rfl
structure yD(e:W)(d:Int):Prop where
 d0:d≠0
 D:0<=e.D/\e.D<=3
 none:e.D≠1->e.bH=H.nil/\e.new=H.nil
 lj:e.D≠2->e.aS=[]/\e.X=[]iy:e.D≠3->e.V=0/\e.ops=[]Mn:e.D=1->Zf e.bH (dT d)=true/\Zf e.new (dT d)=true/\e.bH.D≠10/\e.new.D≠10
 aS:Ya (-1) e.aS=true
 X:ZJ (-1) e.X (d-1)=true
 V:e.D=3->2<=e.V/\e.V<=9
 ops:ZK e.V e.ops (d-1)=true
 len:iT e.ops 0<1048576/\iR e.ops 0<1048576
theorem Zc{e d}(h:Z3 e d=Y):yD e d:=by
 obtain⟨k,o,n,w,ks,l,os⟩:=e;rw[Z3]at h;split at h;.cases h
 .rename_i a;split at h;.cases h
  .rename_i b;have b1:k≠1->o=H.nil/\n=H.nil:=by
    intro s;by_cases x:JF o=Y/\JF n=Y;.exact⟨I8 x.1,I8 x.2⟩
    .grind
   have b2:k≠2->w=[]/\ks=[]:=by
    intro s;by_cases x:J w=0/\J ks=0;.exact⟨Q7 x.1,Q7 x.2⟩
    .exact absurd (.inr (.inl ⟨s,x⟩)) b
   have b3:k≠3->l=0/\os=[]:=by
    intro s;by_cases x:l≠0\/J os≠0;.exact absurd (.inr (.inr ⟨s,x⟩)) b
    .exact⟨O,Q7 O⟩
   split at h
   .rename_i c;simp only[Q9,Qh]at h;obtain⟨⟨h1,h2⟩,h3,h4⟩:=h;have c2:=b2 O;have c3:=b3 O;obtain⟨rfl,rfl⟩:=c2;obtain⟨rfl,rfl⟩:=c3;exact⟨O,⟨by simp_all,by simp_all⟩,b1,b2,b3,λ_=>⟨h1,h2,h3,h4⟩,rfl,rfl,λe=>by simp_all,rfl,by show iT [] 0<_/\iR [] 0<_;trivial⟩
   .rename_i c;simp only[Q9,Qh]at h;obtain⟨⟨⟨⟨h1,h2⟩,h3⟩,h4⟩,h5⟩:=h;exact⟨O,⟨by simp_all,by simp_all⟩,b1,b2,b3,λe=>absurd e c,h1,h2,λe=>by simp_all,h4,h5⟩
theorem Zl:∀{ks:List bP}{s d},ZJ s ks d=Y->∀k∈ks,(s<k.S/\k.S<=65534/\k.e.D≠0)/\Z3 k.e d=Y
 |[],_,_,_,_,hk=>by cases hk|⟨a,e⟩::r,s,d,h,k,hk=>by
  simp only[ZJ,n7,Q9,Qh]at h;obtain⟨⟨h1,h2⟩,h3⟩:=h;rcases Qe.1 hk with rfl|hk;.grind
  .have:=Zl h3 k hk;grind
theorem bM{V}:∀{os:List Op}{d},ZK V os d=Y->∀o∈os,Zg V o d=Y
 |[],_,_,_,ho=>by cases ho|a::r,d,h,o,ho=>by
  simp only[ZK,Q9]at h;rcases Qe.1 ho with rfl|ho;.exact h.1
  .exact bM h.2 o ho
theorem Yd:∀{ws s},Ya s ws=Y->∀w∈ws,s<w.S/\w.S<=65534/\w.a_≠0/\Y2 w.bH w.a_=Y/\Y2 w.new w.a_=Y
 |[],_,_,_,hw=>by cases hw|a::r,s,h,w,hw=>by
  simp only[Ya,Q9,Qh]at h;obtain⟨⟨⟨h1,h2⟩,h3⟩,h4⟩:=h;rcases Qe.1 hw with rfl|hw;.grind
  .have:=Yd h4 w hw;grind
inductive iW(V:Int)(d:Int):Op->Prop|bN(n:Int):1<=n->n<=1048576->iW V d ⟨0,n,[],W.nil⟩|gone(l:List H):Jx (dT d) V l=true->0<l.length->iW V d ⟨1,0,l,W.nil⟩|eD(l:List H):Jx (dT d) V l=true->0<l.length->iW V d ⟨2,0,l,W.nil⟩|dL(e:W):Z3 e d=true->e.D≠0->7<V->V=8\/e.D=2\/e.D=1/\e.bH.D=1/\e.new.D=1->iW V d ⟨3,0,[],e⟩
theorem ZQ{V}{o:Op}{d}(h:Zg V o d=Y):iW V d o:=by
 obtain⟨k,n,l,e⟩:=o;rw[Zg]at h;split at h
 .rename_i hk;simp only[Q9,Qh]at h;obtain⟨⟨h1,h2,s⟩,h4⟩:=h;rw[hk,ZrF h4,Q7 s];exact .bN n h1 h2
 .rename_i h0;split at h;.cases h
  .rename_i h1;have hn:n=0:=O;subst hn;split at h
   .rename_i h2;simp only[Q9,Qh]at h;obtain⟨⟨s,h4⟩,h5⟩:=h;rw[ZrF h5];by_cases hk:k=1;.rw[hk];exact .gone l s h4
    .rw[show k=2 by omega];exact .eD l s h4
   .rename_i h2;simp only[Q9,Qh]at h;obtain⟨⟨⟨s,h4,h5⟩,h6⟩,h7⟩:=h;rw[show k=3 by omega,Q7 s];exact .dL e h6 h4 h5 h7
theorem Zu7{e d}(h:Z3 e d=Y):(∀k∈e.X,∃d,Z3 k.e d=Y)/\(∀o∈e.ops,∃l d,Zg l o d=Y)/\(e.D=3->2<=e.V/\e.V<=9):=by have r:=Zc h;exact⟨λk hk=>⟨_,(Zl r.X k hk).2⟩,λo s=>⟨_,_,bM r.ops o s⟩,r.V⟩
theorem Yi{l d}{o:Op}(h:Zg l o d=Y)(s:o.D=3):Z3 o.e d=Y:=by have r:=ZQ h;cases r with|dL e h1=>exact h1|bN|gone|eD=>grind
end Go.AM
namespace Go.AM.YtpjenobkibfpcaaGreat
open Go.AM Go.Proofs
theorem Zc4{α}(z)(l)(i)(x:α):J (YQ z l i x)=max (J l) (i+1):=by simp only[YQ,List.length_set,Qi,K6];omega
theorem wN{α}(z)(l)(i)(x:α)(j):(YQ z l i x).getD j z=if j=i then x else aR l j z:=by simp only[YQ,Qr,KK,Qi,K6];grind
theorem Zu2{α β}(f:α->β)(z)(l)(i)(x):(YQ z l i x).map f=YQ (f z) (l.map f) i (f x):=by simp[YQ,List.map_set]
theorem CR:∀l,J5 l=Z6 l|[]=>rfl|t::r=>by simp[J5,Z6,CR r]
theorem ZkC(l)(i)(x):Z6 (YQ H.nil l i x)=YQ H.nil (Z6 l) i (Z2 x):=by rw[Z6,Zu2,ZmK];try rfl
theorem ZmJ{a b i x y}(h:Z6 a=Z6 b)(s:Z2 x=Z2 y):Z6 (YQ H.nil a i x)=Z6 (YQ H.nil b i y):=by rw[ZkC,ZkC,h,s]
theorem rX{a b c d}(h:Z6 a=Z6 b)(s:Z6 c=Z6 d):Z6 (a++c)=Z6 (b++d):=by rw[JI,JI,h,s]
theorem yZ(k)(w){a b}(h:Z6 a=Z6 b):Z2 (.mk k w a)=Z2 (.mk k w b):=by simp only[Z2,CR,h]
theorem At{a b}(h:Z6 a=Z6 b):J a=J b:=by have:=congrArg List.length h;simpa[Z6]using this
theorem pg{a b}:Z6 [a]=Z6 [b]↔Z2 a=Z2 b:=by simp[Z6]
def bZ{α β:Type}(R:α->β->Prop):Option α->Option β->Prop|none,aT=>True|some a,A b=>R a b|_,_=>False
theorem bZ.oO{α}(a:Option α):bZ Eq a a:=by cases a;exact trivial;exact rfl
theorem bZ.bind{α β γ δ R aE a b}{f:α->Option γ}{g:β->Option δ}(h:bZ R a b)(hf:∀x y,R x y->bZ aE (f x) (g y)):bZ aE (a.bind f) (b.bind g):=by cases a<;>cases b<;>first|exact trivial|exact h.elim|exact hf _ _ h
theorem bZ.map{α β γ δ R aE a b}{f:α->γ}{g:β->δ}(h:bZ R a b)(hf:∀x y,R x y->aE (f x) (g y)):bZ aE (a.map f) (b.map g):=by cases a<;>cases b<;>first|exact trivial|exact h.elim|exact hf _ _ h
theorem bZ.ite{α β}{R:α->β->Prop}{p q}[Decidable p][Decidable q]{a c b d}(h:p↔q)(h1:p->bZ R a b)(s:¬p->bZ R c d):bZ R (if p then a else c) (if q then b else d):=by grind
theorem bZ.mono{α β R aE}{a:Option α}{b:Option β}(h:bZ R a b)(hf:∀x y,R x y->aE x y):bZ aE a b:=by cases a<;>cases b<;>first|exact trivial|exact h.elim|exact hf _ _ h
theorem bZ.isSome{α β R}{a:Option α}{b:Option β}(h:bZ R a b):a.isSome=b.isSome:=by cases a<;>cases b<;>first|rfl|exact h.elim
theorem bZ.xn{a b}(h:bZ (λx y=>Z2 x=Z2 y) a b):a.map Z2=b.map Z2:=by cases a<;>cases b<;>first|rfl|exact h.elim|exact congrArg A h
def dG(x y:H):Prop:=Z2 x=Z2 y
def da(x y:List H):Prop:=Z6 x=Z6 y
theorem da.take{x y}(h:da x y)(n):da (x.take n) (y.take n):=by unfold da Z6 at*;simp_all
theorem da.drop{x y}(h:da x y)(n):da (x.drop n) (y.drop n):=by unfold da Z6 at*;simp_all
theorem da.len{x y}(h:da x y):J x=J y:=At h
theorem ZkB(l)(i):(Z6 l).getD i H.nil=Z2 (aR l i H.nil):=by rw[<-CR];exact yy l i
theorem da.get{x y}(h:da x y)(i):dG (aR x i H.nil) (aR y i H.nil):=by unfold dG;rw[<-ZkB,<-ZkB,h]
theorem Rw{a b}(h:bZ (λx y=>da x.1 y.1/\da x.2 y.2) a b):bZ da (gX a) (gX b):=by unfold gX;refine h.bind λx y s=>?_;exact bZ.ite (by rw[s.2.len]) (λ_=>s.1) λ_=>trivial
mutual theorem TD:∀(e:W)(t:H),bZ dG (bX Y e t) (bX I e t)
 |.mk k o n w ks l os,t=>by
  have s:=Zzn ks t.X t.X t.X rfl;have h2:=Zzm os t.X [] [] rfl;rw[lH,lH,Ja];show bZ dG (Option.map (qC Y) _) _;suffices h:∀a b,bZ dG a b->bZ dG (Option.map (qC Y) a) b by
   refine h _ _ ?_;refine bZ.ite QH (λ_=>rfl) λ_=>bZ.ite QH (λ_=>bZ.ite QH (λ_=>rfl) λ_=>trivial) λ_=>bZ.ite QH (λ_=>?_) λ_=>bZ.ite QH (λ_=>?_) λ_=>trivial
   .refine bZ.ite QH (λ_=>?_) λ_=>trivial;refine bZ.bind (R:=Eq) (bZ.oO _) ?_;rintro a _ rfl;exact s.map λx y h=>yZ _ _ h
   .refine bZ.ite QH (λ_=>?_) λ_=>trivial;exact(Rw (h2.mono λx y h=>⟨h.1,by rw[h.2];rfl⟩)).map λx y h=>yZ _ _ h
  intro a b h;cases a<;>cases b<;>first|exact trivial|exact h.elim|skip
  unfold dG qC at*;simp only[Qv,Xa];show Z2 (Z2 _)=_;rw[ZY];exact h theorem Zzn:∀(ks:List (aW W))(tk a b:List H),da a b->bZ da (fD Y tk ks a) (fD I tk ks b)
 |[],_,_,_,h=>h|k::r,tk,a,b,h=>by rw[fD,fD];refine(ZH7 k tk).bind λx y s=>Zzn r tk _ _ (ZmJ h s)theorem ZH7:∀(k:aW W)(tk:List H),bZ dG (jE Y tk k) (jE I tk k)|⟨_,e⟩,tk=>by rw[jE,jE];exact TD e _ theorem Zzm:∀(os:List (bI W))(s a b:List H),da a b->bZ (λx y=>da x.1 y.1/\x.2=y.2) (ZV Y os s a) (ZV I os s b)|[],s,a,b,h=>⟨h,rfl⟩|o::r,s,a,b,h=>by rw[ZV,ZV];refine(ZKA o s a b h).bind λx y aa=>?_;rw[aa.2];exact Zzm r _ _ _ aa.1 theorem ZKA:∀(o:bI W)(s a b:List H),da a b->bZ (λx y=>da x.1 y.1/\x.2=y.2) (iQ Y o s a) (iQ I o s b)|⟨k,n,l,e⟩,s,a,b,h=>by have he:=TD e (aR s 0 H.nil);rw[iQ,iQ];refine bZ.ite QH (λ_=>bZ.ite QH (λ_=>⟨rX h rfl,rfl⟩) λ_=>trivial) λ_=>bZ.ite QH (λ_=>bZ.ite QH (λ_=>⟨h,rfl⟩) λ_=>trivial) λ_=>bZ.ite QH (λ_=>⟨rX h rfl,rfl⟩) λ_=>bZ.ite QH (λ_=>trivial) λ_=>?_;exact he.map λx y h'=>⟨rX h (pg.2 h'),rfl⟩end
theorem pr(e)(t):bX Y e t=(bX I e t).map Z2:=by
 have h:=TD e t;have s:(bX Y e t).map Z2=bX Y e t:=by rw[lH];generalize ite (e.D=0) _ _=x;cases x with|none=>rfl|some u=>simp[qC,ZY]
 rw[<-s];exact h.xn
def z_(a b:List Int):Prop:=∀i,aR a i 0=aR b i 0
def xz(a b:List H):Prop:=∀i,dG (aR a i H.nil) (aR b i H.nil)
theorem BV{a b}(h:a.D=1)(s:b.D=1):dG a b↔z_ a.aS b.aS/\xz a.X b.X:=by unfold dG z_ xz;rw[JW,h,s];simp[dG]
theorem Rc{a b}(s:a.D≠0)(h:a.D≠1):dG a b↔a.D=b.D/\a.aS=b.aS/\da a.X b.X:=by unfold dG da;rw[JW,Q0 h,<-CR,<-CR,Zeb];grind
theorem dG.D{a b}(h:dG a b):a.D=b.D:=((JW a b).1 h).1
theorem Zwt{tw s}(h:z_ tw s):∀ws(a b:List Int),z_ a b->bZ z_ (gK tw ws a) (gK s ws b)
 |[],_,_,hab=>hab|w::r,a,b,hab=>by
  rw[gK,gK,h (G w.S)];refine bZ.ite QH (λ_=>Zwt h r _ _ λi=>?_) λ_=>trivial;rw[wN,wN];split;.try rfl
  .exact hab i
theorem ZAY(l){a b}(h:da a b):iI l a=iI l b:=by unfold iI;rw[h.len,show Z6 (a.take (J l))=Z6 (b.take (J l))from h.take _]
mutual theorem tM:∀(e:W)(d:Int)(t s:H),Z3 e d=Y->dG t s->bZ dG (bX I e t) (bX I e s)
 |.mk k o n w ks l os,d,t,s,hr,h=>by
  have h1:=Ztg ks t.X s.X;have h2:=Rh os t.X s.X [] [];have hk:=h.D;have ae:=Zu7 hr;rw[lH,lH,Ja,Ja];show bZ dG (if k=0 then _ else _) (if k=0 then _ else _);refine bZ.ite QH (λ_=>h) λ_=>bZ.ite QH (λ_=>?_) λ_=>bZ.ite QH (λk2=>?_) λ_=>bZ.ite QH (λk3=>?_) λ_=>trivial;.rw[show Z2 t=Z2 s from h];exact bZ.ite QH (λ_=>rfl) λ_=>trivial
  .refine bZ.ite (by rw[hk]) (λht=>?_) λ_=>trivial;have hs:s.D=1:=by rw[<-hk];exact ht
   obtain⟨hw,aa⟩:=(BV ht hs).1 h;refine(Zwt hw w t.aS s.aS hw).bind λa b aj=>?_;refine(h1 aa ae.1 t.X s.X aa).map λx y ab=>?_;exact(BV rfl rfl).2 ⟨aj,ab⟩
  .refine bZ.ite (by rw[hk]) (λht=>?_) λ_=>trivial;have hl:=ae.2.2;have ah:=ae.2.1;replace ht:t.D=l:=ht;replace hl:2<=l/\l<=9:=hl k3;obtain⟨_,_,aa⟩:=(Rc O O).1 h;exact(Rw (h2 aa rfl ah)).map λx y ab=>yZ _ _ ab theorem Ztg:∀(ks:List (aW W))(tk s:List H),xz tk s->(∀k∈ks,∃d,Z3 k.e d=Y)->∀a b,xz a b->bZ xz (fD I tk ks a) (fD I s ks b)
 |[],_,_,_,_,_,_,hab=>hab|k::r,tk,s,h,hr,a,b,hab=>by
  rw[fD,fD];obtain⟨d,hd⟩:=hr k Q6;refine(ZB6 k d tk s h hd).bind λx y aa=>Ztg r tk s h (λq hq=>hr q (Q4 _ hq)) _ _ λi=>?_;rw[wN,wN];split;.exact aa
  .exact hab i theorem ZB6:∀(k:aW W)(d:Int)(tk s:List H),xz tk s->Z3 k.e d=Y->bZ dG (jE I tk k) (jE I s k)|⟨a,e⟩,d,tk,s,h,hr=>by rw[jE,jE];exact tM e d _ _ hr (h _)theorem Rh:∀(os:List (bI W))(rt rs a b:List H),da rt rs->da a b->(∀o∈os,∃l d,Zg l o d=Y)->bZ (λx y=>da x.1 y.1/\da x.2 y.2) (ZV I os rt a) (ZV I os rs b)
 |[],_,_,_,_,h,hab,_=>⟨hab,h⟩|o::r,rt,rs,a,b,h,hab,hr=>by rw[ZV,ZV];refine(ZH6 o rt rs a b h hab (hr o Q6)).bind λx y s=>Rh r _ _ _ _ s.2 s.1 λq hq=>hr q (Q4 _ hq)theorem ZH6:∀(o:bI W)(rt rs a b:List H),da rt rs->da a b->(∃l d,Zg l o d=Y)->bZ (λx y=>da x.1 y.1/\da x.2 y.2) (iQ I o rt a) (iQ I o rs b)
 |⟨k,n,l,e⟩,rt,rs,a,b,h,hab,hr=>by
  obtain⟨li,d,hr⟩:=hr;have he:=λh3=>tM e d (aR rt 0 H.nil) (aR rs 0 H.nil) (Yi hr h3) (h.get 0);have s:=h.len;rw[iQ,iQ];refine bZ.ite QH (λ_=>bZ.ite (by rw[s]) (λ_=>⟨rX hab (h.take _),h.drop _⟩) λ_=>trivial) λk0=>bZ.ite QH (λ_=>?_) λk1=>bZ.ite QH (λ_=>⟨rX hab rfl,h⟩) λk2=>bZ.ite (by rw[s]) (λ_=>trivial) λ_=>?_;.rw[ZAY l h];exact bZ.ite QH (λ_=>⟨hab,h.drop _⟩) λ_=>trivial
  .have af:k=0\/k=1\/k=2\/k=3:=by have r:=ZQ hr;generalize ho:bI.mk k n l e=o at r;cases r<;>(injection ho with h1;subst h1;decide)
   exact(he (by grind)).map λx y h'=>⟨rX hab (pg.2 h'),h.drop _⟩end
theorem ZAE(l:List aV):(l.map JE).map JE=l:=by rw[QP];have:JE∘JE=id:=rfl;simp_all
theorem Zj1:∀(ks:List bP),J (YE ks)=J ks|[]=>rfl|k::r=>by simp only[YE,Qd,Zj1 r]
noncomputable section
def Zun(a:Ys):aA U:=.agg (enc .aY (oS a.1))
def Zxn:Fs U:=fs kV (λa=>[hH a]) Zun
def mG(N:Nat):List (FuncId×Fs U):=(183,fs kV (λa=>[hH a,oh a<N]) Zun)::[]
def kT:Zb U:=cI [[1,2,501,502],[3,503],[],[],[4,(503,an 7 [.bF .bD])],[25,503,503],[25,(503,an 7 [.bF .bD])],[5,503,503,505],[6],[],[6],[5,505],[4,7,(503,an 8 [.bF .cJ])],[50,503,503],[50,(503,an 8 [.bF .cJ])],[503,503],[7,8,(503,an 10 [.bF .op])],[76,503,503],[76,(503,an 10 [.bF .op])],[9,503,503,509],[91],[],[91],[9,509],[1,3,8,501,503]]
def MW(e:W)(s:Int)(h:List aV):bT U:=L2 [pL 1,pL 2,pL 3,pI 4 s] [(.bE 1,enc .aY e),(.bE 2,eI),(.bE 3,[ci e.D]++enc .aX e.new++enc .aX e.bH++[sU .bD h (.bF (.l 3 7)),.nils,ci e.V,.nils])]
def HO(e:W)(s:List aV)(aa:Int)(h:List bP):bT U:=L2 [pL 1,pL 2,pL 3,pI 7 aa] [(.bE 1,enc .aY e),(.bE 2,eI),(.bE 3,[ci e.D]++enc .aX e.new++enc .aX e.bH++[sU .bD s (.bF (.l 3 7)),sU .cJ h (.bF (.l 3 8)),ci e.V,.nils])]
def BS(e:W)(aa:List aV)(s:List bP)(ab:Int)(h:List Op):bT U:=L2 [pL 1,pL 2,pL 3,pI 8 ab] [(.bE 1,enc .aY e),(.bE 2,eI),(.bE 3,[ci e.D]++enc .aX e.new++enc .aX e.bH++[sU .bD aa (.bF (.l 3 7)),sU .cJ s (.bF (.l 3 8)),ci e.V,sU .op h (.bF (.l 3 10))])]
def PU(e:W)(ae:List aV)(ab:List bP)(h:Int)(s:List Op)(aa:Int):bT U:=L2 [pL 1,pL 2,pL 3,pI 8 h,pL 9,(91,.c (.bool (bif(bI.D (aR e.ops (G h) Op.nil))==1 then Y else(bI.D (aR e.ops (G h) Op.nil))==2)))] [(.bE 1,enc .aY e),(.bE 2,eI),(.bE 3,[ci e.D]++enc .aX e.new++enc .aX e.bH++[sU .bD ae (.bF (.l 3 7)),sU .cJ ab (.bF (.l 3 8)),ci e.V,sU .op s (.bF (.l 3 10))]),(.bE 9,[ci aa,ci (bI.n (aR e.ops (G h) Op.nil)),sU .aX (bI.l (aR e.ops (G h) Op.nil)) .bA]++enc .aY (bI.e (aR e.ops (G h) Op.nil)))]
abbrev ZMt(N)(e)(s)(h)(N0:NT)(Q:QT):=AW (Za (mG N)) Tryz.f183 kT [1,1,1,1,0,1,0,0] (MW e s h) (xT N0 (xB 0 (SW (Za (mG N)) Tryz.f183 kT [1,1,1,1,1] Q)))
theorem ZCa(N)(e)(x4)(s)(N0)(Q:QT)(h:let z0:=aR e.aS (G x4) (aV.mk 0 0 0 0);let z1:=aV.mk (aV.S z0) (aV.a_ z0) (aV.new z0) (aV.bH z0);iB (decide (x4<(J e.aS))) ((0<=x4/\x4<(J e.aS))/\( J s+J [z1])*32<=140737488355328/\bQ (x4+1)/\N0 (MW e (x4+1) (s++[z1]))) (Zi (AW (Za (mG N)) Tryz.f183 kT [1,1,1,1,1,0,1,0,0]) (HO e s 0 []) (xB 2 (SW (Za (mG N)) Tryz.f183 kT [1,1,1,1,1,1] Q)))):ZMt N e x4 s N0 Q:=Eq.mpr V4 h
abbrev ZMs(N)(e)(s)(aa)(h)(N1:NT)(Q:QT):=AW (Za (mG N)) Tryz.f183 kT [1,1,1,1,1,0,1,0,0] (HO e s aa h) (xT N1 (xB 2 (SW (Za (mG N)) Tryz.f183 kT [1,1,1,1,1,1] Q)))
theorem ZC9(N)(e:W)(ab)(s)(aa)(N1)(Q:QT)(h:∀af,af=aR e.X (G s) (aW.mk 0 W.nil)->∀ae,ae=af.e->∀ah,ah=oS ae->iB (decide (s<(J e.X))) ((0<=s/\s<(J e.X))/\(0<=s/\s<(J e.X))/\hH (ae,())/\oh (ae,())<N/\( J aa+J [(aW.mk af.S ah)])*208<=140737488355328/\bQ (s+1)/\N1 (HO e ab (s+1) (aa++[(aW.mk af.S ah)]))) (Zi (AW (Za (mG N)) Tryz.f183 kT [1,1,1,1,1,1,0,1,0,0]) (BS e ab aa 0 []) (xB 4 (SW (Za (mG N)) Tryz.f183 kT [1,1,1,1,1,1,1] Q)))):ZMs N e ab s aa N1 Q:=Eq.mpr V4 (h _ rfl _ (Z0 _) _ (Z0 _))
abbrev ZMr(N)(e)(aa)(s)(ab)(h)(N2:NT)(Q:QT):=AW (Za (mG N)) Tryz.f183 kT [1,1,1,1,1,1,0,1,0,0] (BS e aa s ab h) (xT N2 (xB 4 (SW (Za (mG N)) Tryz.f183 kT [1,1,1,1,1,1,1] Q)))
theorem ZC8(N)(e)(ae)(aa)(ab)(s)(N2:NT)(Q:QT)(h:let z2:=Za (mG N);let z1:=xB 5 (SW z2 Tryz.f183 kT [1,1,1,1,1,1,0,1,0,0,1,1] (xT N2 (xB 4 (SW z2 Tryz.f183 kT [1,1,1,1,1,1,1] Q))));let z0:=bI.D (aR e.ops (G ab) Op.nil);iB (decide (ab<(J e.ops))) ((0<=ab/\ab<(J e.ops))/\Tk 2 (! z0==1) (((z0==1)=I->! z0==1=Y)/\iB (bif z0==1 then Y else z0==2) ( bQ (3-z0)/\AW z2 Tryz.f183 kT [1,1,1,1,1,1,0,1,0,0,1,0,0,1,1] (PU e ae aa ab s (3-z0)) z1) (AW z2 Tryz.f183 kT [1,1,1,1,1,1,0,1,0,0,1,0,0,1,1] (PU e ae aa ab s z0) z1))) (Q .ret (L2 [pL 2] [(.bE 2,[ci e.D]++enc .aX e.new++enc .aX e.bH++[sU .bD ae (.bF (.l 2 7)),sU .cJ aa (.bF (.l 2 8)),ci e.V,sU .op s (.bF (.l 2 10))])]))):ZMr N e ae aa ab s N2 Q:=Eq.mpr V4 h
abbrev ZzD(N)(e)(ab)(aa)(ae)(h)(s)(N2:NT)(Q:QT):=AW (Za (mG N)) Tryz.f183 kT [1,1,1,1,1,1,0,1,0,0,1,0,0,1,1] (PU e ab aa ae h s) (xB 5 (SW (Za (mG N)) Tryz.f183 kT [1,1,1,1,1,1,0,1,0,0,1,1] (xT N2 (xB 4 (SW (Za (mG N)) Tryz.f183 kT [1,1,1,1,1,1,1] Q)))))
theorem ZCb(N)(e)(ah)(ab)(ae)(s)(aa)(N2)(Q)(h:∀af,af=aR e.ops (G ae) Op.nil->∀ai,ai=af.e->∀aj,aj=oS ai->hH (ai,())/\oh (ai,())<N/\( J s+J [(bI.mk aa af.n af.l aj)])*240<=140737488355328/\bQ (ae+1)/\N2 (BS e ah ab (ae+1) (s++[(bI.mk aa af.n af.l aj)]))):ZzD N e ah ab ae s aa N2 Q:=Eq.mpr V4 (h _ rfl _ (Z0 _) _ (Z0 _))
end
theorem Zhx{α β:Type}{f:α->β}(d){a b}(hl:J a=J b)(h:∀i,i<J a->f (aR a i d)=f (aR b i d)):a.map f=b.map f:=by apply KQ (by simpa using hl);grind
theorem Wc{α β:Type}{f:α->β}{d a b}(h:a.map f=b.map f)(i):f (aR a i d)=f (aR b i d):=by have e:=congrArg (λl=>l[i]?.getD (f d)) h;grind
theorem ZA1(e):oS e=.mk e.D e.new e.bH (e.aS.map JE) (td e.X) e.V (p7 e.ops):=by cases e;rfl
theorem ZrN(k:bP):GW k=⟨k.S,oS k.e⟩:=by cases k;rfl
theorem Zjq(o:Op):II o=⟨yT o.D,o.n,o.l,oS o.e⟩:=by cases o;rfl
theorem ZXz:aU Tryz.prog M 183 Zxn:=by
 refine Jj (μ:=oh) (l:=[]) ZN rfl trivial kT Tryz.func183 rfl rfl 1 (λ_=>rfl) V1 λN⟨e,_⟩hp hN=>?_;simp only[hH,oh]at hp hN;have h1:=Yr e;have h2:=Yl e.X;have h3:=Y4 e.ops;have ha:=ZA1 e;refine wV (λQ=>Zi (AW (Za (mG N)) Tryz.f183 kT [1,1,1,1,0,1,0,0]) (MW e 0 []) (xB 0 (SW (Za (mG N)) Tryz.f183 kT [1,1,1,1,1] Q))) ?_ λ_ h=>Eq.mpr V4 h;refine Z5 (ι:=Int×List aV) (λs=>MW e s.1 s.2) (λs=>0<=s.1/\s.1<=J e.aS/\J s.2=s.1/\s.2++(e.aS.drop (G s.1)).map JE=e.aS.map JE) (λs=>G (( J e.aS:Int)-s.1)) (0,[]) rfl ⟨by simp,by simp,by simp,by simp⟩ ?_;rintro⟨i,ws⟩⟨g1,g2,g3,g4⟩;dsimp only at g1 g2 g3 g4;refine ZCa _ _ _ _ _ _ ?_;(simp only[iB,bW]);refine⟨λhi=>?_,λhi=>?_⟩;.rw[ZO g1 hi (aV.mk 0 0 0 0)]at g4;simp only[Qu]at g4;refine⟨⟨g1,hi⟩,by simp;omega,V3,(i+1,ws++[JE (aR e.aS (G i) (aV.mk 0 0 0 0))]),rfl,⟨V2,V2,by simp;omega,?_⟩,V2⟩;simp only[Qg,Qw,Qn];exact g4
 .rw[Qb O]at g4;simp only[QG,Qj]at g4;refine Z5 (ι:=Int×List bP) (λs=>HO e ws s.1 s.2) (λs=>0<=s.1/\s.1<=J e.X/\J s.2=s.1/\s.2++td (e.X.drop (G s.1))=td e.X) (λs=>G (( J e.X:Int)-s.1)) (0,[]) rfl ⟨by simp,by simp,by simp,by simp⟩ ?_;rintro⟨j,ks⟩⟨f1,f2,f3,f4⟩;dsimp only at f1 f2 f3 f4;refine ZC9 _ _ _ _ _ _ _ ?_;rintro y1 au y2 av y3 ax;(simp only[iB,bW]);refine⟨λhj=>?_,λhj=>?_⟩;.have hm:=JC (Zh (l:=e.X) (i:=G j) O (aW.mk 0 W.nil));rw[ZO f1 hj (aW.mk 0 W.nil)]at f4;rw[<-au]at f4 hm;simp only[td,ZrN]at f4;rw[<-av]at f4 hm;rw[<-ax]at f4;refine⟨⟨f1,hj⟩,⟨f1,hj⟩,by simp only[hH];omega,by simp only[oh];omega,by simp;omega,V3,(j+1,ks++[⟨y1.S,y3⟩]),rfl,⟨V2,V2,by simp;omega,?_⟩,V2⟩;simp only[Qg,Qw,Qn];exact f4
  .rw[Qb O]at f4;simp only[td,Qj]at f4;refine Z5 (ι:=Int×List Op) (λs=>BS e ws ks s.1 s.2) (λs=>0<=s.1/\s.1<=J e.ops/\J s.2=s.1/\s.2++p7 (e.ops.drop (G s.1))=p7 e.ops) (λs=>G (( J e.ops:Int)-s.1)) (0,[]) rfl ⟨by simp,by simp,by simp,by simp⟩ ?_;rintro⟨k,os⟩⟨d1,d2,d3,d4⟩;dsimp only at d1 d2 d3 d4;refine ZC8 _ _ _ _ _ _ _ _ ?_;simp only[iB,bR,bW,nf,Xw];refine⟨λhj=>⟨⟨d1,hj⟩,?_⟩,λhj=>?_⟩
   .have hm:=Y9 (Zh (l:=e.ops) (i:=G k) O Op.nil);rw[ZO d1 hj Op.nil]at d4;simp only[p7,Zjq]at d4;rw[ZZ]at hm;have next:∀kd:Int,kd=yT (aR e.ops (G k) Op.nil).D->∀(R:c9->bT U->Prop),(∀s,(∃j:Int×List Op,s=BS e ws ks j.1 j.2/\(0<=j.1/\j.1<=J e.ops/\J j.2=j.1/\j.2++p7 (e.ops.drop (G j.1))=p7 e.ops)/\G (( J e.ops:Int)-j.1)<G (( J e.ops:Int)-k))->True)->True:=λ_ _ _ _=>trivial;have al:∀kd:Int,kd=yT (aR e.ops (G k) Op.nil).D->∀(Q':c9->bT U->Prop),ZzD N e ws ks k os kd (λs2=>∃j:Int×List Op,s2=BS e ws ks j.1 j.2/\(0<=j.1/\j.1<=J e.ops/\J j.2=j.1/\j.2++p7 (e.ops.drop (G j.1))=p7 e.ops)/\G (( J e.ops:Int)-j.1)<G (( J e.ops:Int)-k)) Q':=by intro kd am Q';refine ZCb _ _ _ _ _ _ _ _ _ ?_;rintro z1 af z2 ak z3 ao;rw[<-af,<-ak]at hm;rw[<-af,<-ak,<-ao]at d4;rw[<-af]at am;refine⟨by simp only[hH];omega,by simp only[oh];omega,by simp;omega,V3,(k+1,os++[⟨kd,z1.n,z1.l,z3⟩]),rfl,⟨V2,V2,by simp;omega,?_⟩,V2⟩;rw[am];simp only[Qg,Qw,Qn];exact d4
    refine⟨λhq=>⟨V3,al _ (by unfold yT;rw[if_pos hq]) _⟩,λhq=>al _ (by unfold yT;rw[V5]) _⟩
   .rw[Qb O]at d4;simp only[p7,Qj]at d4;rw[g4,f4,d4];simp only[Zun,ha];exact V0
theorem Vh:oS W.nil=W.nil:=by rfl
theorem ZE2{V d}{o:Op}(h:Zg V o d=Y)(hi:o.D=3->oS o.e=Zm o.e):II o=YD o:=by
 have s:=uu h;rw[Zjq,rG];unfold ZH at s;unfold yT;rcases s with⟨k,a,b,c⟩|⟨k,a,b,c⟩|⟨k,a,b⟩;.rw[Q0 O,Q0 O,Q0 O,Q0 O,c,Vh]
 .rcases k with k|k;.rw[Q5 (Or.inl k),Q5 k,c,Vh,k];try rfl
  .rw[Q5 (Or.inr k),Q0 O,Q5 k,c,Vh,k];try rfl
 grind
mutual theorem Wz:∀(e:W)(d:Int),Z3 e d=Y->oS e=Zm e|.mk k o n w ks l os,d,h=>by have s:=Nu h;simp only[W.dt,W.jK,W.nK]at s;have h1:=ZrM ks (d-1) λk hk=>(s.1 k hk).1;have h2:=ZrL l os (d-1) s.2;rw[oS,Zm,h1,h2]theorem ZrM:∀(ks:List (aW W))(d:Int),(∀k∈ks,Z3 k.e d=Y)->td ks=YE ks|[],_,_=>rfl|k::r,d,h=>by have h1:=ZA0 k d (h k (Q6 ..));have h2:=ZrM r d λx s=>h x (Q4 _ s);rw[td,YE,h1,h2]theorem ZA0:∀(k:aW W)(d:Int),Z3 k.e d=Y->GW k=Jq k|⟨a,e⟩,d,h=>by have s:=Wz e d h;rw[GW,Jq,s]theorem ZrL(V:Int):∀(os:List (bI W))(d:Int),(∀o∈os,Zg V o d=Y)->p7 os=YK os
 |[],_,_=>rfl|o::r,d,h=>by
  have h1:=ZE3 V o d (h o (Q6 ..));have h2:=ZrL V r d λx s=>h x (Q4 _ s);rw[p7,YK,h1,h2]theorem ZE3(V:Int):∀(o:bI W)(d:Int),Zg V o d=Y->II o=YD o
 |⟨k,n,l,e⟩,d,h=>by
  refine ZE2 h λs=>?_;simp only at s;subst s;rw[rI]at h;simp only[show¬(3:Int)=0 by decide,show¬(3:Int)<3 by decide,Ku]at h;split at h;.cases h
  .simp only[Q9]at h;exact Wz e d h.1.2 end
theorem CY(t):(Z2 t).D=t.D:=by
 obtain⟨k,w,ks⟩:=t;simp only[Z2];by_cases h0:k=0;.rw[Q5 h0,h0];try rfl
 .rw[Q0 h0];by_cases h1:k=1;.rw[Q5 h1,h1];try rfl
  .rw[Q0 h1];try rfl
theorem Oz:∀l,∃r,l=dc l++r
 |[]=>⟨[],rfl⟩|x::r=>by
  obtain⟨s,h⟩:=Oz r;simp only[dc];split
  .rename_i e;split;.exact⟨x::r,rfl⟩
   .exact⟨r,rfl⟩
  .rename_i y t e;rw[e]at h;exact⟨s,by rw[h];rfl⟩
theorem ON:∀l,∃r,l=J2 l++r
 |[]=>⟨[],rfl⟩|x::r=>by
  obtain⟨s,h⟩:=ON r;simp only[J2];split
  .rename_i e;split;.exact⟨x::r,rfl⟩
   .exact⟨r,rfl⟩
  .rename_i y t e;rw[e]at h;exact⟨s,by rw[h];rfl⟩
theorem Zjw{V d}:∀a b,YR V (a++b) d=Y->YR V a d=Y|[],_,_=>rfl|t::r,b,h=>by simp only[Qw,YR,Q9]at h⊢;exact⟨h.1,Zjw r b h.2⟩
theorem Lm:∀l,J (J5 l)=J l|[]=>rfl|t::r=>by simp only[J5,Qd,Lm r]
theorem ZAQ{V t}(h:ic V t=Y):ic V (Z2 t)=Y:=by
 unfold ic at h⊢;rw[CY];split at h
 .rename_i hl;rw[Q5 hl];simp only[Q9,Qh]at h⊢;obtain⟨⟨s,h2,h3⟩,h4⟩:=h;obtain⟨k,w,ks⟩:=t;simp only[H.gT,H.dt,H.dz]at s h2 h3 h4;have:ks=[]:=X4.1 h2;subst this;subst s;trivial
 grind
mutual theorem DT:∀(t:H)(d:Int),Zf t d=Y->Zf (Z2 t) d=Y
 |.mk k w ks,d,h=>by
  have ih:=λ(V:Int)(h:YR V ks (d-1)=Y)=>U2 ks V (d-1) h;simp only[Zf]at h;simp only[Z2];by_cases h0:k=0;.rw[Q5 h0];try rfl
  .rw[Q0 h0]at h⊢;by_cases h10:k=10
   .subst h10;rw[Q5 rfl]at h;rw[Q0 V1];simp only[Qh]at h;simp only[Zf];rw[Q0 V1,Q5 trivial,Lm];simpa using h
   .rw[Q0 h10]at h;by_cases hd:d=0;.grind
    .rw[Q0 hd]at h;by_cases h1:k=1
     .subst h1;rw[Q5 rfl]at h;rw[Q5 rfl];simp only[Q9,Qh]at h;simp only[Zf];rw[Q0 V1,Q0 V1,Q0 hd,Q5 trivial];simp only[Q9,Qh];obtain⟨r1,e1⟩:=Oz w;obtain⟨r2,e2⟩:=ON (J5 ks);have l1:=congrArg List.length e1;have s:=congrArg List.length e2;rw[Lm]at s;simp only[Qi]at l1 s;refine⟨⟨O,O⟩,?_⟩;have:=ih 1 h.2;rw[e2]at this;exact Zjw _ _ this
     .rw[Q0 h1]at h⊢;simp only[Q9,Qh]at h;simp only[Zf];rw[Q0 h0,Q0 h10,Q0 hd,Q0 h1,Lm];grind theorem U2:∀(l:List H)(V d:Int),YR V l d=Y->YR V (J5 l) d=Y|[],_,_,_=>rfl|t::r,V,d,h=>by simp only[YR,Q9]at h;have h1:=DT t d h.1.2;have s:=U2 r V d h.2;simp only[J5,YR,Q9];exact⟨⟨ZAQ h.1.1,h1⟩,s⟩end
theorem A8(e):(Zm e).D=e.D:=by cases e;rfl
theorem Zmd(e):(Zm e).bH=e.new:=by cases e;rfl
theorem Zme(e):(Zm e).new=e.bH:=by cases e;rfl
theorem Wm:∀l(h:Int),Ya h (l.map JE)=Ya h l|[],_=>rfl|w::r,h=>by simp only[Qu,Ya,Wm r];have h1:(JE w).S=w.S:=rfl;have s:(JE w).a_=w.a_:=rfl;have h3:(JE w).bH=w.new:=rfl;have h4:(JE w).new=w.bH:=rfl;grind
theorem ZtI(o:Op):Z4 (YD o)=Z4 o/\((YD o).D=2↔o.D=1)/\((YD o).D=1↔o.D=2):=by
 rw[rG];by_cases h1:o.D=1;.rw[Q5 h1];simp[Z4,h1]
 .rw[Q0 h1];by_cases h2:o.D=2;.rw[Q5 h2];simp[Z4,h2]
  .rw[Q0 h2];by_cases h3:o.D=3;.rw[Q5 h3];simp[Z4,h3]
   simp_all
theorem O0:∀(l:List Op)n,iT (YK l) n=iR l n/\iR (YK l) n=iT l n
 |[],_=>⟨rfl,rfl⟩|o::r,n=>by
  obtain⟨h,h2,s⟩:=ZtI o;simp only[YK,iT,iR];rw[h];constructor;.rw[(O0 r _).1];grind
  .rw[(O0 r _).2];grind
theorem Ww:∀(l:List Op),J (YK l)=J l|[]=>rfl|o::r=>by simp only[YK,Qd,Ww r]
theorem ZJ5{V d}{o:Op}(h:Zg V o d=Y)(hi:Z3 o.e d=Y->Z3 (Zm o.e) d=Y):Zg V (YD o) d=Y:=by
 have h':=h;rw[rI]at h;by_cases k0:o.D=0
 .have e:YD o=o:=by rw[rG,Q0 O,Q0 O,Q0 O]
  grind
 .rw[Q0 k0]at h;split at h;.cases h
  .rename_i hk;by_cases k3:o.D=3
   .rw[Q0 O]at h;have e:YD o=⟨o.D,o.n,o.l,Zm o.e⟩:=by rw[rG,Q0 O,Q0 O,Q5 k3]
    rw[e,rI];simp only;rw[Q0 k0,Q0 hk,Q0 O,A8,Zmd,Zme];grind
   .rw[Q5 O]at h;have s:o.D=1\/o.D=2:=O;rcases s with k|k
    .have e:YD o=⟨2,o.n,o.l,o.e⟩:=by rw[rG,Q5 k]
     rw[e,rI];grind
    .have e:YD o=⟨1,o.n,o.l,o.e⟩:=by rw[rG,Q0 O,Q5 k]
     rw[e,rI];grind
mutual theorem Jn:∀(e:W)(d:Int),Z3 e d=Y->Z3 (Zm e) d=Y
 |.mk k o n w ks l os,d,h=>by
  have h1:=Tu ks;have h2:=ZdK l os;simp only[Z3]at h;simp only[Zm,Z3];split at h;.cases h
  .rename_i a;rw[Q0 a];split at h;.cases h
   .rename_i b;rw[Q0 (by rw[QF,Zj1,Ww];grind)];split at h;.grind
    .rename_i c;rw[Q0 c];simp only[Q9,Qh]at h⊢;obtain⟨⟨⟨⟨x1,x2⟩,s⟩,x4⟩,x5⟩:=h;refine⟨⟨⟨⟨by rw[Wm];exact x1,h1 _ _ x2⟩,s⟩,h2 _ x4⟩,?_⟩;rw[(O0 os 0).1,(O0 os 0).2];omega theorem Tu:∀(ks:List (aW W))(s d:Int),ZJ s ks d=Y->ZJ s (YE ks) d=Y
 |[],_,_,_=>rfl|k::r,s,d,h=>by
  simp only[ZJ,Q9]at h;have h1:=ZlL k s d h.1;have h2:=Tu r k.S d h.2;simp only[YE,ZJ,Q9];exact⟨h1,by rw[Zj2];exact h2⟩theorem ZlL:∀(k:aW W)(s d:Int),n7 s k d=Y->n7 s (Jq k) d=Y|⟨a,e⟩,s,d,h=>by simp only[n7,Q9]at h;have h1:=Jn e d h.2;simp only[Jq,n7,Q9];rw[A8];grind theorem ZdK(V:Int):∀(os:List (bI W))(d:Int),ZK V os d=Y->ZK V (YK os) d=Y|[],_,_=>rfl|o::r,d,h=>by simp only[ZK,Q9]at h;have h1:=ZoO V o d h.1;have s:=ZdK V r d h.2;simp only[YK,ZK,Q9];grind theorem ZoO(V:Int):∀(o:bI W)(d:Int),Zg V o d=Y->Zg V (YD o) d=Y|⟨k,n,l,e⟩,d,h=>ZJ5 (o:=⟨k,n,l,e⟩) h λs=>Jn e d s end
theorem G8:∀l,Ze (Z6 l)<=Ze l|[]=>by trivial|t::r=>by have h:=G8 r;have s:=ZX t;simp only[Z6]at h;simp only[Z6,Qu,Ze];omega
theorem oM:Zo H.nil=1:=by rfl
theorem Ez(e):(Zd e).D=e.D:=by
 rw[zH];split;.try rfl
 .split;.try rfl
  .split<;>rfl
theorem Om(e)(h:e.D=1):(Zd e).bH=Z2 e.bH/\(Zd e).new=Z2 e.new:=by rw[zH,Q5 h];simp_all
theorem Zu8{aK V t}(hD:aK≠0)(h:Zf (.mk V [] [t]) aK=Y):Zf (.mk V [] [Z2 t]) aK=Y:=by have s:=λ(k d:Int)(h:YR k [t] d=Y)=>U2 [t] k d h;grind[J5,Zf]
theorem Oc{aK V}(s:aK≠0):∀{l},Jx aK V l=Y->Jx aK V (Z6 l)=Y|[],_=>rfl|t::r,h=>by simp only[Jx,Q9]at h;have h2:=Oc s h.2;grind[Z6,Jx,Zu8]
theorem TF{aK V}:∀{a b},Jx aK V a=Y->Jx aK V b=Y->Jx aK V (a++b)=Y|[],_,_,h=>h|t::r,b,h,h2=>by simp only[Jx,Q9]at h;simp only[Qw,Jx,Q9];exact⟨h.1,TF h.2 h2⟩
def tD(V:Int)(d:Int)(o:Op):Prop:=(o.D=0->1<=o.n/\J o.l=0/\lE o.e=Y)/\(o.D≠0->Zg V o d=Y)
theorem ZF0{V d}{o:Op}(h:Zg V o d=Y):tD V d o:=by refine⟨λs=>?_,λ_=>h⟩;obtain⟨k,n,l,e⟩:=o;grind[Zg]
theorem ZQe{V d o}(h:tD V d o)(s:o.D=0->o.n<=1048576):Zg V o d=Y:=by
 by_cases hk:o.D=0
 .have h1:=h.1 hk;have h2:=s hk;obtain⟨k,n,l,e⟩:=o;grind[Zg]
 .exact h.2 hk
theorem Vm{V}:∀{os:List Op}{d},ZK V os d=Y↔∀o∈os,Zg V o d=Y|[],d=>by simp[ZK]|o::r,d=>by simp only[ZK,Q9,Qe,Kv];rw[Vm (os:=r)]
theorem Ff:lE W.nil=Y:=rfl
structure rK(V d:Int)(w:dA):Prop where
 bB:∀o∈w.bB,tD V d o
 gone:Jx (dT d) V w.gone=true
 bO:Jx (dT d) V w.bO=true
theorem SC{V d w}(h:rK V d w):rK V d (Zj w):=by
 refine⟨?_,rfl,rfl⟩;simp only[Zj,kU];intro o s;rcases Qo.1 s with s|s;.exact h.bB o s
 rcases Qo.1 s with s|s
 .split at s;.cases s
  .rename_i hl;simp only[Qs]at s;subst s;refine⟨λhk=>(by cases hk),λ_=>?_⟩;simp only[Zg];rw[Q0 V1,Q0 V1,Q5 V1,h.gone,Ff];grind
 .split at s;.cases s
  .rename_i hl;simp only[Qs]at s;subst s;refine⟨λhk=>(by cases hk),λ_=>?_⟩;simp only[Zg];rw[Q0 V1,Q0 V1,Q5 V1,h.bO,Ff];grind
theorem Zsq{V d w n}(h:rK V d w)(hn:1<=n):rK V d (Yt w n):=by
 have hf:=SC h;refine⟨?_,rfl,rfl⟩;simp only[Yt];intro o s;rcases tm (Zj w).bB n with e|⟨a,q,e1,e2,e3⟩
 .rw[e]at s;rcases Qo.1 s with s|s;.exact hf.bB o s
  .simp only[Qs]at s;subst s;exact⟨λ_=>⟨hn,rfl,Ff⟩,λhk=>absurd rfl hk⟩
 .rw[e3]at s;rcases Qo.1 s with s|s;.exact hf.bB o (by grind)
  .simp only[Qs]at s;subst s;have hq:=(hf.bB q (by rw[e1];simp)).1 e2;exact⟨λ_=>⟨by grind,hq.2⟩,λhk=>absurd e2 hk⟩
theorem ZQm{V d w}{o:Op}(h:rK V d w)(s:Zg V o d=Y)(hi:Z3 o.e d=Y->Z3 (Zd o.e) d=Y):rK V d (j9 V o w):=by
 obtain⟨k,n,l,e⟩:=o;have af:=s;rw[Zg]at s;rw[JV];simp only at hi⊢;split at s;.grind[Zsq]
 .rename_i hk;rw[Q0 hk];split at s;.cases s
  .rename_i hn;split at s
   .rename_i h3;simp only[Q9,Qh]at s;by_cases k1:k=1;.rw[Q5 k1];exact⟨h.bB,TF h.gone (Oc (ZOE d) s.1.1),h.bO⟩
    .rw[Q0 k1,Q5 O];exact⟨h.bB,h.gone,TF h.bO (Oc (ZOE d) s.1.1)⟩
   .rename_i h3;rw[Q0 O,Q0 O,Q5 O];split;.exact Zsq h V1
    .have hf:=SC h;refine⟨?_,rfl,rfl⟩;intro o ho;rcases Qo.1 ho with ho|ho;.exact hf.bB o ho
     .simp only[Qs]at ho;subst ho;refine⟨λhk=>(by cases hk),λ_=>?_⟩<;>grind[Zg,Ez,Om,CY]
def fO:List Op->Int|[]=>0|o::r=>(if o.D=2 then 0 else Z4 o)+fO r
def JO:List Op->Int|[]=>0|o::r=>(if o.D=1 then 0 else Z4 o)+JO r
theorem Bl:∀a b,fO (a++b)=fO a+fO b|[],b=>by simp[fO]|o::r,b=>by simp only[Qw,fO,Bl r b];omega
theorem zF:∀a b,JO (a++b)=JO a+JO b|[],b=>by simp[JO]|o::r,b=>by simp only[Qw,JO,zF r b];omega
theorem se:∀l(n:Int),(∀o∈l,0<=Z4 o)->0<=n->n<=1048576->iT l n=min (n+fO l) 1048576/\0<=fO l
 |[],n,_,h1,h2=>by simp only[iT,fO];omega|o::r,n,h,h1,h2=>by
  have ho:=h o (Q6 ..);simp only[iT,fO];have s:0<=(if o.D=2 then n else n+Z4 o)/\(if o.D=2 then n else n+Z4 o)=n+if o.D=2 then 0 else Z4 o:=by split<;>omega
  have hy:0<=if o.D=2 then 0 else Z4 o:=by split<;>omega
  rw[s.2];rw[s.2]at s;generalize(if o.D=2 then 0 else Z4 o)=y at*;obtain⟨e1,e2⟩:=se r (min (n+y) 1048576) (λx s=>h x (Q4 _ s)) O O;omega
theorem sJ:∀l(n:Int),(∀o∈l,0<=Z4 o)->0<=n->n<=1048576->iR l n=min (n+JO l) 1048576/\0<=JO l
 |[],n,_,h1,h2=>by simp only[iR,JO];omega|o::r,n,h,h1,h2=>by
  have ho:=h o (Q6 ..);simp only[iR,JO];have s:0<=(if o.D=1 then n else n+Z4 o)/\(if o.D=1 then n else n+Z4 o)=n+if o.D=1 then 0 else Z4 o:=by split<;>omega
  have hy:0<=if o.D=1 then 0 else Z4 o:=by split<;>omega
  rw[s.2];rw[s.2]at s;generalize(if o.D=1 then 0 else Z4 o)=y at*;obtain⟨e1,e2⟩:=sJ r (min (n+y) 1048576) (λx s=>h x (Q4 _ s)) O O;omega
theorem DZ{V d o}(h:tD V d o):0<=Z4 o:=by
 unfold Z4;split;.decide
 .by_cases hk:o.D=0;.have:=(h.1 hk).1;omega
  .have s:=h.2 hk;obtain⟨k,n,l,e⟩:=o;grind[Zg]
theorem Zrv:∀{l o},(∀o∈l,0<=Z4 o)->o∈l->o.D≠2->Z4 o<=fO l
 |a::r,o,h,ho,hk=>by
  have hr:=(se r 0 (λx s=>h x (Q4 _ s)) V1 V1).2;have ha:=h a (Q6 ..);simp only[fO];rcases Qe.1 ho with rfl|ho;.omega
  .have:=Zrv (λx s=>h x (Q4 _ s)) ho hk;omega
def sA(w:dA):Int:=fO w.bB+J w.gone
def sB(w:dA):Int:=JO w.bB+J w.bO
theorem UE(w):fO (Zj w).bB=sA w/\JO (Zj w).bB=sB w:=by simp only[Zj,kU,sA,sB,Bl,zF];grind[fO,Z4,JO]
theorem Zru(w)(n):sA (Yt w n)=sA w+n/\sB (Yt w n)=sB w+n:=by
 have hf:=UE w;simp only[Yt];have e1:∀x,sA ⟨x,[],[]⟩=fO x:=λx=>by simp[sA]
 have e2:∀x,sB ⟨x,[],[]⟩=JO x:=λx=>by simp[sB]
 rw[e1,e2,<-hf.1,<-hf.2];rcases tm (Zj w).bB n with e|⟨a,q,e1,e2,e3⟩;.simp_all[Bl,zF,fO,JO,Z4]
 .rw[e3,e1,Bl,zF,Bl,zF];grind[fO,JO,Z4]
theorem ZPn{V d w}{o:Op}(h:Zg V o d=Y):sA (j9 V o w)=sA w+(if o.D=2 then 0 else Z4 o)/\sB (j9 V o w)=sB w+if o.D=1 then 0 else Z4 o:=by
 have hl:∀l,( J (Z6 l):Int)=J l:=λl=>by simp[Z6]
 obtain⟨k,n,l,e⟩:=o;rw[Zg]at h;rw[JV];simp only[Z4];split at h;.grind[Zru]
 .rename_i s;rw[Q0 s];split at h;.cases h
  .rename_i hn;split at h;.grind[sA,sB]
   .rename_i h3;have k3:k=3:=O;subst k3;rw[Q0 O,Q0 O,Q5 rfl];split;.have:=Zru w 1;omega
    simp_all[UE,sA,sB,Bl,zF,fO,JO,Z4]
mutual theorem Jz:∀(e:W)(d:Int),Z3 e d=Y->Z3 (Zd e) d=Y
 |.mk k o n w ks l os,d,h=>by
  have h1:=Zh2 ks;have h2:=Zyr l os;have h4:=ZwY l os;rw[Z3]at h;split at h;.cases h
  .rename_i a;split at h;.cases h
   .rename_i b;have nn:JF H.nil=Y:=rfl;by_cases k1:k=1
    .subst k1;rw[Q5 rfl]at h;have hl:l=0:=by apply XB;intro hl;exact b (.inr (.inr ⟨V1,.inl hl⟩))
     simp only[Q9,Qh]at h;rw[Zd,Q5 rfl,Z3,Q0 a,Q0 (by simp[hl]),Q5 rfl];simp only[Q9,Qh];rw[CY,CY];exact⟨⟨DT _ _ h.1.1,DT _ _ h.1.2⟩,h.2⟩
    .rw[Q0 k1]at h;simp only[Q9,Qh]at h;obtain⟨⟨⟨⟨x1,x2⟩,x3⟩,x4⟩,x5⟩:=h;rw[Zd,Q0 k1];by_cases k2:k=2
     .have hl:l=0:=by
       apply XB;intro hl;exact b (.inr (.inr ⟨O,.inl hl⟩))
      rw[Q5 k2,Z3,Q0 a,Q0 (by grind),Q0 k1];grind
     .rw[Q0 k2];by_cases k3:k=3
      .rw[Q5 k3,Z3,Q0 a,Q0 (by simp[nn,k3]),Q0 k1];simp only[Q9,Qh];have ab:=Vm.1 x4;obtain⟨y1,y2⟩:=se os 0 (λo s=>DZ (ZF0 (ab o s))) V1 V1;obtain⟨z1,z2⟩:=sJ os 0 (λo s=>DZ (ZF0 (ab o s))) V1 V1;have hw:=h2 (d-1) W0 x4 ⟨λo s=>(by cases s),rfl,rfl⟩;have hs:=h4 (d-1) W0 x4;have aa:=SC hw;have ak:=UE (Zz l os W0);have e0:sA W0=0/\sB W0=0:=⟨rfl,rfl⟩;have hA:=se (Zj (Zz l os W0)).bB 0 (λo s=>DZ (aa.bB o s)) V1 V1;have hB:=sJ (Zj (Zz l os W0)).bB 0 (λo s=>DZ (aa.bB o s)) V1 V1;refine⟨⟨⟨⟨rfl,rfl⟩,x3⟩,Vm.2 λo s=>ZQe (aa.bB o s) λhk=>?_⟩,?_,?_⟩;.have hm:=Zrv (λo s=>DZ (aa.bB o s)) s O;unfold Z4 at hm;omega
       .show iT (Zj (Zz l os W0)).bB 0<1048576;omega
       .show iR (Zj (Zz l os W0)).bB 0<1048576;omega
      .have hl:l=0:=by apply XB;intro hl;exact b (.inr (.inr ⟨k3,.inl hl⟩))
       rw[Q0 k3,Z3,Q0 a,Q0 (by simp[nn,hl]),Q0 k1];grind theorem Zh2:∀(ks:List (aW W))(s d:Int),ZJ s ks d=Y->ZJ s (Jo ks) d=Y|[],_,_,_=>rfl|k::r,s,d,h=>by simp only[ZJ,Q9]at h;have h1:=ZoQ k s d h.1;have h2:=Zh2 r k.S d h.2;simp only[Jo,ZJ,Q9];exact⟨h1,by rw[WB];exact h2⟩theorem ZoQ:∀(k:aW W)(s d:Int),n7 s k d=Y->n7 s (lF k) d=Y|⟨a,e⟩,s,d,h=>by simp only[n7,Q9]at h;have h1:=Jz e d h.2;grind[lF,n7,Ez]theorem Zyr(V:Int):∀(os:List (bI W))(d:Int)(w:dA),ZK V os d=Y->rK V d w->rK V d (Zz V os w)|[],_,_,_,hw=>hw|o::r,d,w,h,hw=>by simp only[ZK,Q9]at h;have s:=ZAr V o d w h.1 hw;exact Zyr V r d _ h.2 s theorem ZAr(V:Int):∀(o:bI W)(d:Int)(w:dA),Zg V o d=Y->rK V d w->rK V d (j9 V o w)|⟨k,n,l,e⟩,d,w,h,hw=>ZQm (o:=⟨k,n,l,e⟩) hw h λs=>Jz e d s theorem ZwY(V:Int):∀(os:List (bI W))(d:Int)(w:dA),ZK V os d=Y->sA (Zz V os w)=sA w+fO os/\sB (Zz V os w)=sB w+JO os|[],_,_,_=>by simp[Zz,fO,JO]|o::r,d,w,h=>by simp only[ZK,Q9]at h;have h1:=ZPn (w:=w) h.1;have s:=ZwY V r d (j9 V o w) h.2;simp only[Zz,fO,JO];omega end
theorem Di:∀{a b},Jf (a++b)↔Jf a/\Jf b|[],b=>by simp[Jf]|t::r,b=>by simp only[Qw,Jf];rw[Di (a:=r),and_assoc]
mutual theorem pM:∀(t:H),ei t->ei (Z2 t)
 |.mk k w ks,h=>by
  simp only[ei]at h;obtain⟨h1,h2,h3⟩:=h;have s:=Zmo ks h3;simp only[Z2];split;.trivial
  .split
   .obtain⟨r1,e1⟩:=Oz w;obtain⟨r2,e2⟩:=ON (J5 ks);simp only[ei];refine⟨V1,λx hx=>h2 x (by grind),?_⟩;rw[e2]at s;exact(Di.1 s).1
   trivial theorem Zmo:∀(l:List H),Jf l->Jf (J5 l)|[],_=>trivial|t::r,h=>by simp only[Jf]at h;have h1:=pM t h.1;have s:=Zmo r h.2;trivial end
theorem ZcD:∀{l},Jf l->Jf (Z6 l)|[],_=>trivial|t::r,h=>by simp only[Jf]at h;have s:=ZcD h.2;simp only[Z6]at s;simp only[Z6,Qu,Jf];exact⟨pM t h.1,s⟩
theorem Ba:ei H.nil:=by trivial
mutual theorem CF:∀(e:W),Ye e->Ye (Zm e)
 |.mk k o n w ks l os,h=>by
  simp only[Ye]at h;obtain⟨h1,h2,h3,h4,h5,h6,h7⟩:=h;have i6:=Zjs ks h6;have s:=Zjr os h7;simp only[Zm,Ye];refine⟨h1,h3,h2,λx hx=>?_,h5,i6,s⟩;obtain⟨y,hy,rfl⟩:=QU.1 hx;have:=h4 y hy;simp only[gN,JE]at this⊢;grind theorem Zjs:∀(ks:List (aW W)),kG ks->kG (YE ks)
 |[],_=>trivial|k::r,h=>by
  simp only[kG]at h;have h1:=ZrS k h.1;have s:=Zjs r h.2;trivial theorem ZrS:∀(k:aW W),nM k->nM (Jq k)
 |⟨a,e⟩,h=>by simp only[nM]at h;have s:=CF e h.2;simp only[Jq,nM];grind theorem Zjr:∀(os:List (bI W)),jQ os->jQ (YK os)
 |[],_=>trivial|o::r,h=>by
  simp only[jQ]at h;have h1:=Zu4 o h.1;have s:=Zjr r h.2;trivial theorem Zu4:∀(o:bI W),Jt o->Jt (YD o)
 |⟨k,n,l,e⟩,h=>by
  simp only[Jt]at h;have s:=CF e h.2.2.2;simp only[YD];split;.simp only[Jt];exact⟨by trivial,h.2⟩
  .split;.simp only[Jt];exact⟨by trivial,h.2⟩
   .split;.simp only[Jt];grind
    trivial end
structure kA(w:dA):Prop where
 bB:∀o∈w.bB,Jf o.l/\Ye o.e
 gone:Jf w.gone
 bO:Jf w.bO
theorem Gc:Ye W.nil:=by simp only[W.nil,Ye,kG,jQ];exact⟨by trivial,Ba,Ba,by simp,by trivial,trivial,trivial⟩
theorem VD{w}(h:kA w):kA (Zj w):=by
 refine⟨?_,trivial,trivial⟩;simp only[Zj,kU];intro o s;rcases Qo.1 s with s|s;.exact h.bB o s
 rcases Qo.1 s with s|s
 .split at s;.cases s
  .simp only[Qs]at s;subst s;exact⟨h.gone,Gc⟩
 .split at s;.cases s
  .simp only[Qs]at s;subst s;exact⟨h.bO,Gc⟩
theorem Zml{w n}(h:kA w):kA (Yt w n):=by
 have hf:=VD h;refine⟨?_,trivial,trivial⟩;simp only[Yt];intro o s;rcases tm (Zj w).bB n with e|⟨a,q,e1,e2,e3⟩
 .rw[e]at s;rcases Qo.1 s with s|s;.exact hf.bB o s
  .simp only[Qs]at s;subst s;exact⟨trivial,Gc⟩
 .rw[e3]at s;rcases Qo.1 s with s|s;.exact hf.bB o (by grind)
  .simp only[Qs]at s;subst s;exact hf.bB q (by rw[e1];simp)
theorem ZxS{V w}{o:Op}(h:kA w)(hl:Jf o.l)(he:Ye (Zd o.e)):kA (j9 V o w):=by
 rw[JV];split;.exact Zml h
 .split;.exact⟨h.bB,Di.2 ⟨h.gone,ZcD hl⟩,h.bO⟩
  .split;.exact⟨h.bB,h.gone,Di.2 ⟨h.bO,ZcD hl⟩⟩
   .split
    .split;.exact Zml h
     .refine⟨?_,trivial,trivial⟩;intro o s;rcases Qo.1 s with s|s;.exact(VD h).bB o s
      .simp only[Qs]at s;subst s;trivial
    .exact h
theorem Zh0:∀{os:List Op},(∀o∈os,Jt o)->jQ os|[],_=>trivial|o::r,h=>by simp only[jQ];exact⟨h o (Q6 ..),Zh0 λx s=>h x (Q4 _ s)⟩
theorem ZrV{V d}{o:Op}(h:Zg V o d=Y)(hl:Jf o.l)(s:Ye o.e):Jt o:=by have hn:=Hq h;obtain⟨k,n,l,e⟩:=o;simp only at hn hl s;simp only[Jt];refine⟨?_,V3,hl,s⟩;rw[Zg]at h;unfold bQ;grind
mutual theorem rE:∀(e:W)(d:Int),Z3 e d=Y->Ye e->Ye (Zd e)
 |.mk k o n w ks l os,d,hr,h=>by
  have aa:=Nu hr;have s:=Nu (Jz _ _ hr);simp only[W.dt,W.jK,W.nK]at aa;simp only[Ye]at h;obtain⟨h1,h2,h3,h4,h5,h6,h7⟩:=h;have i6:=Zmn ks (d-1) (λk hk=>(aa.1 k hk).1) h6;have i7:=Zmm l os (d-1) aa.2 h7 W0 ⟨λo ho=>(by cases ho),trivial,trivial⟩;rw[Zd]at s⊢;by_cases k1:k=1;.rw[Q5 k1];simp only[Ye];exact⟨h1,pM o h2,pM n h3,by simp,h5,trivial,trivial⟩
  .rw[Q0 k1]at s⊢;by_cases k2:k=2;.rw[Q5 k2];trivial
   .rw[Q0 k2]at s⊢;by_cases k3:k=3;.rw[Q5 k3]at s⊢;simp only[Ye];refine⟨h1,Ba,Ba,by simp,h5,trivial,Zh0 λq hq=>?_⟩;have hx:=s.2 q hq;have hy:=(VD i7).bB q hq;exact ZrV hx hy.1 hy.2
    .rw[Q0 k3];simp only[Ye];exact⟨h1,Ba,Ba,by simp,h5,trivial,trivial⟩theorem Zmn:∀(ks:List (aW W))(d:Int),(∀k∈ks,Z3 k.e d=Y)->kG ks->kG (Jo ks)|[],_,_,_=>trivial|k::r,d,hr,h=>by simp only[kG]at h;have h1:=Zu5 k d (hr k (Q6 ..)) h.1;have h2:=Zmn r d (λx s=>hr x (Q4 _ s)) h.2;trivial theorem Zu5:∀(k:aW W)(d:Int),Z3 k.e d=Y->nM k->nM (lF k)
 |⟨a,e⟩,d,hr,h=>by
  simp only[nM]at h;have s:=rE e d hr h.2;simp only[lF,nM];grind theorem Zmm(V:Int):∀(os:List (bI W))(d:Int),(∀o∈os,Zg V o d=Y)->jQ os->∀(w:dA),kA w->kA (Zz V os w)
 |[],_,_,_,w,hw=>hw|o::r,d,hr,h,w,hw=>by simp only[jQ]at h;have h1:=ZA3 V o d (hr o (Q6 ..)) h.1 w hw;exact Zmm V r d (λx s=>hr x (Q4 _ s)) h.2 _ h1 theorem ZA3(V:Int):∀(o:bI W)(d:Int),Zg V o d=Y->Jt o->∀(w:dA),kA w->kA (j9 V o w)
 |⟨k,n,l,e⟩,d,hr,h,w,hw=>by
  simp only[Jt]at h;by_cases k3:k=3
  .have he:Z3 e d=Y:=by
    rw[Zg,Q0 O,]at hr;split at hr;.cases hr
    .grind
   exact ZxS (o:=⟨k,n,l,e⟩) hw h.2.2.1 (rE e d he h.2.2.2)
  .have s:Ye (Zd W.nil):=by show Ye (.mk 0 H.nil H.nil [] [] 0 []);exact Gc
   have e2:j9 V ⟨k,n,l,e⟩ w=j9 V ⟨k,n,l,W.nil⟩ w:=by simp only[j9];grind
   rw[e2];exact ZxS (o:=⟨k,n,l,W.nil⟩) hw h.2.2.1 s end
theorem Zvs(t):J t.aS+Ze t.X+1=Zo t:=by obtain⟨k,w,ks⟩:=t;simp only[Zo,H.dz,H.dt];omega
theorem ZmS:∀l(i:Nat)x,i<J l->Ze (l.set i x)+Zo (aR l i H.nil)=Ze l+Zo x|[],i,x,h=>by simp at h|a::r,0,x,_=>by simp only[KH,Ze,Qm];omega|a::r,i+1,x,h=>by have:=ZmS r i x (by simpa using h);simp only[List.set_cons_succ,Ze,KF];omega
theorem Zvt(n):Ze (List.replicate n H.nil)=n:=by induction n with|zero=>rfl|succ n ih=>rw[XJ,Ze,ih];simp[H.nil,Zo,Ze];omega
theorem Jl:∀a b,Ze (a++b)=Ze a+Ze b|[],b=>by simp[Ze]|t::r,b=>by simp only[Qw,Ze,Jl r b];omega
theorem ZAD(l)(i)(x):Ze (YQ H.nil l i x)+Zo (aR l i H.nil)<=Ze l+Zo x+(i+1):=by
 have h:=ZmS (l++List.replicate (i+1-J l) H.nil) i x (by simp;omega);have e:(l++List.replicate (i+1-J l) H.nil).getD i H.nil=aR l i H.nil:=by
  by_cases hi:i<J l;.simp only[Qr];rw[X5 hi]
  .simp only[Qr];rw[QK O,QX (l:=l) O,List.getElem?_replicate];split<;>rfl
 rw[e,Jl,Zvt]at h;simp only[YQ];omega
theorem PS{tw}:∀{ws s bB a},Ya s ws=Y->gK tw ws bB=A a->J a<=max (J bB) 65535
 |[],_,bB,a,_,h=>by rw[gK]at h;cases h;omega|w::r,s,bB,a,hw,h=>by
  have h1:=Yd hw w Q6;simp only[Ya,Q9]at hw;rw[gK]at h;split at h;.have:=PS hw.2 h;rw[Zc4]at this;omega
  .cases h
theorem Wu{s d}{k:bP}{r:List bP}(h:ZJ s (k::r) d=Y):(s<k.S/\k.S<=65534)/\Z3 k.e d=Y/\ZJ k.S r d=Y:=by have:=Zl h k Q6;simp only[ZJ,Q9]at h;grind
theorem ZBF{tw ws s bB a}(hw:Ya s ws=Y)(h:gK tw ws bB=A a):J a<=J bB+65600*J ws:=by cases ws with|nil=>rw[gK]at h;cases h;omega|cons w r=>have:=PS hw h;grind
theorem RF(r)(v):Zo (qC r v)<=Zo v:=by
 unfold qC;split;.exact ZX v
 omega
mutual theorem Hx(r:Bool):∀(e:W)(d:Int)(t v:H),Z3 e d=Y->oL r e t=A v->Zo v+18<=Zo t+dZ e
 |.mk k o n w ks l os,d,t,v,hr,hv=>by
  have ri:=Zc hr;have h1:=ZmR r ks t.X;have h2:=ZmQ r l os;have ht:=Zvs t;have po:=Jg o;have pn:=Jg n;have pt:=Jg t;unfold oL at hv;simp only[dZ];split at hv;.grind
  .split at hv
   .split at hv
    .cases hv;show Zo n+18<=_;omega
    .cases hv
   .split at hv
    .split at hv
     .obtain⟨a,ha,h⟩:=Qq.1 hv;obtain⟨b,h,e⟩:=Qf.1 h;have l1:=ZBF ri.aS ha;simp only[W.dz]at l1;have l2:=h1 t.X b _ (-1) O ri.X (λj _=>rfl) h;rw[<-e];simp only[Zo];omega
     .cases hv
    .split at hv
     .split at hv
      .obtain⟨b,h,e⟩:=Qf.1 hv;unfold gX at h;obtain⟨x,hx,s⟩:=Qq.1 h;have l2:=h2 _ t.X [] x (λo ho=>Go.AM.bM ri.ops o ho) hx;split at s
       .cases s;rw[<-e];simp only[Zo,Ql];grind
       .cases s
      .cases hv
     .cases hv theorem ZmR(r:Bool):∀(ks:List (aW W))(tk bB b:List H)(d aa:Int),-1<=aa->ZJ aa ks d=Y->(∀j:Nat,aa<(j:Int)->aR bB j H.nil=aR tk j H.nil)->fD r tk ks bB=A b->Ze b<=Ze bB+gY ks
 |[],tk,bB,b,d,aa,_,_,_,h=>by rw[fD]at h;cases h;simp|k::s,tk,bB,b,d,aa,hl,hr,hj,h=>by
  obtain⟨h1,h2,h3⟩:=Wu hr;rw[fD]at h;obtain⟨u,hu,hb⟩:=Qq.1 h;have m1:=Zvq r k tk u d h2 hu;have m2:=ZAD bB (G k.S) u;rw[hj (G k.S) O]at m2;have m3:=ZmR r s tk _ b d k.S O h3 λj af=>by rw[wN,Q0 O];grind hb;have m4:G k.S+1<=65600:=O;have e1:gY (k::s)=65600+dZ k.e+gY s:=by obtain⟨a,e⟩:=k;rfl
  omega theorem Zvq(r:Bool):∀(k:aW W)(tk:List H)(u:H)(d:Int),Z3 k.e d=Y->jE r tk k=A u->Zo u+18<=Zo (aR tk (G k.S) H.nil)+dZ k.e
 |⟨a,e⟩,tk,u,d,hr,h=>by rw[jE,uH]at h;obtain⟨v,hv,hu⟩:=Qf.1 h;have:=Hx r e d (aR tk (G a) H.nil) v hr hv;have s:=RF r v;grind theorem ZmQ(r:Bool)(l:Int):∀(os:List (bI W))(d:Int)(aa bB:List H)(x:List H×List H),(∀o∈os,Zg l o d=Y)->ZV r os aa bB=A x->Ze x.1+Ze x.2<=Ze bB+Ze aa+fK os
 |[],d,aa,bB,x,_,h=>by rw[ZV]at h;cases h;simp|o::s,d,aa,bB,x,hr,h=>by rw[ZV]at h;obtain⟨y,hy,hx⟩:=Qq.1 h;have m1:=ZAA r l o d aa bB y (hr o Q6) hy;have m2:=ZmQ r l s d _ _ x (λq hq=>hr q (Q4 _ hq)) hx;rw[fK];omega theorem ZAA(r:Bool)(l:Int):∀(o:bI W)(d:Int)(s bB:List H)(x:List H×List H),Zg l o d=Y->iQ r o s bB=A x->Ze x.1+Ze x.2<=Ze bB+Ze s+jT o
 |⟨k,n,aB,e⟩,d,s,bB,x,hr,h=>by
  have he:=Hx r e d (aR s 0 H.nil);rw[iQ]at h;simp only[jT];split at h
  .split at h
   .cases h;have:=Jl (s.take (G n)) (s.drop (G n));rw[QM]at this;dsimp only;rw[Jl];omega
   .cases h
  .split at h
   .split at h
    .cases h;have:=D_ (J aB) s;grind
    .cases h
   .split at h
    .cases h;dsimp only;rw[Jl];omega
    .split at h;.cases h
     .obtain⟨u,hu,e2⟩:=Qf.1 h;cases e2;have hk:k=3:=by
       have ra:=ZQ hr;generalize ho:bI.mk k n aB e=o at ra;cases ra<;>(injection ho with h1;try omega)
      rw[uH]at hu;obtain⟨v,hv,hu⟩:=Qf.1 hu;have:=he v (Yi hr hk) hv;have ab:=RF r v;rw[hu]at ab;cases s with|nil=>contradiction|cons a q=>rw[Jl];simp only[Ze,QE,X9,Qm]at this⊢;omega end
theorem pv(r)(e)(d)(t u)(hr:Z3 e d=Y)(h:bX r e t=A u):Zo u+18<=Zo t+dZ e:=by rw[uH]at h;obtain⟨v,hv,hu⟩:=Qf.1 h;have:=Hx r e d t v hr hv;have s:=RF r v;grind
theorem ZQn{f}(h:∀i,0<=f i/\f i<256):iU (ki f):=by have h0:=h 0;have s:=h 1;have h2:=h 2;have h3:=h 3;have h4:=h 4;have h5:=h 5;have h6:=h 6;have h7:=h 7;unfold iU ki;omega
theorem JT(a b m):iU (cS a b m):=ZQn (Oo a b m)
theorem xL{l}(h:∀t∈l,ei t):Jf l:=by induction l with|nil=>exact trivial|cons a r ih=>exact⟨h a Q6,ih λt s=>h t (Q4 _ s)⟩
theorem oC:ei H.nil:=⟨V1,by simp,trivial⟩
theorem UT{α z x y}{l:List α}{i}(h:y∈YQ z l i x):y∈l\/y=z\/y=x:=by
 rcases List.mem_or_eq_of_mem_set h with h|h
 .rcases Qo.1 h with h|h;.exact .inl h
  .exact .inr (.inl (Ki h))
 .exact .inr (.inr h)
theorem ZxR{ks}(h:Jf ks)(i):ei (aR ks i H.nil):=by
 by_cases hi:i<J ks;.exact YW h (Zh hi _)
 .rw[Qr,QX O];exact oC
theorem HQ{tw}:∀{ws bB a},(∀x∈bB,iU x)->gK tw ws bB=A a->∀x∈a,iU x
 |[],bB,a,h,hw=>by rw[gK]at hw;grind|w::r,bB,a,h,hw=>by
  rw[gK]at hw;split at hw
  .refine HQ (λx s=>?_) hw;rcases UT s with s|rfl|rfl;.exact h x s
   .trivial
   .exact JT _ _ _
  .cases hw
mutual theorem uf(r:Bool):∀(e:W)(t u:H),Ye e->ei t->bX r e t=A u->ei u
 |.mk k o n w ks l os,t,u,hr,ht,h=>by
  have h1:=ZrR r ks;have h2:=ZrQ r os;simp only[Ye]at hr;obtain⟨r1,r2,r3,r4,r5,r6,r7⟩:=hr;have aa:bQ t.D/\(∀x∈t.aS,iU x)/\Jf t.X:=by obtain⟨k,w,ks⟩:=t;exact ht
  rw[lH]at h;obtain⟨v,s,hu⟩:=Qf.1 h;suffices ei v by
   rw[<-hu];unfold qC;split;.exact pM v this
   .exact this
  clear h hu;split at s;.grind
  .split at s;.simp_all
   .split at s
    .split at s
     .obtain⟨a,ha,hb⟩:=Qq.1 s;obtain⟨b,hb,e⟩:=Qf.1 hb;rw[<-e];exact⟨V1,HQ aa.2.1 ha,h1 _ _ _ r6 aa.2.2 aa.2.2 hb⟩
     .cases s
    .split at s
     .split at s
      .obtain⟨b,hb,e⟩:=Qf.1 s;unfold gX at hb;obtain⟨x,hx,hy⟩:=Qq.1 hb;split at hy
       .cases hy;rw[<-e];exact⟨r5,by simp,(h2 _ [] _ r7 aa.2.2 trivial hx).1⟩
       .cases hy
      .cases s
     .cases s theorem ZrR(r:Bool):∀(ks:List (aW W))(tk bB b:List H),kG ks->Jf tk->Jf bB->fD r tk ks bB=A b->Jf b
 |[],tk,bB,b,_,_,ho,h=>by rw[fD]at h;cases h;exact ho|k::s,tk,bB,b,hk,ht,ho,h=>by
  rw[fD]at h;obtain⟨u,hu,hb⟩:=Qq.1 h;have m1:=ZA2 r k tk u hk.1 ht hu;refine ZrR r s tk _ b hk.2 ht (xL λx hx=>?_) hb;rcases UT hx with hx|rfl|rfl;.exact YW ho hx
  .exact oC
  .exact m1 theorem ZA2(r:Bool):∀(k:aW W)(tk:List H)(u:H),nM k->Jf tk->jE r tk k=A u->ei u|⟨a,e⟩,tk,u,hr,ht,h=>by rw[jE]at h;exact uf r e _ u hr.2 (ZxR ht _) h theorem ZrQ(r:Bool):∀(os:List (bI W))(aa bB:List H)(x:List H×List H),jQ os->Jf aa->Jf bB->ZV r os aa bB=A x->Jf x.1/\Jf x.2|[],aa,bB,x,_,hr,ho,h=>by rw[ZV]at h;grind|o::s,aa,bB,x,hs,hr,ho,h=>by rw[ZV]at h;obtain⟨y,hy,hx⟩:=Qq.1 h;have m1:=ZE4 r o aa bB y hs.1 hr ho hy;exact ZrQ r s _ _ x hs.2 m1.2 m1.1 hx theorem ZE4(r:Bool):∀(o:bI W)(s bB:List H)(x:List H×List H),Jt o->Jf s->Jf bB->iQ r o s bB=A x->Jf x.1/\Jf x.2
 |⟨k,n,aB,e⟩,s,bB,x,hs,hr,ho,h=>by
  have he:=uf r e (aR s 0 H.nil);simp only[Jt]at hs;have hd:∀n,Jf (s.drop n):=λn=>xL λt ht=>YW hr (Xb ht);have aa:∀l,Jf l->Jf (bB++l):=λl hl=>Di.2 ⟨ho,hl⟩;rw[iQ]at h;split at h
  .split at h;.cases h;exact⟨aa _ (xL λt ht=>YW hr (List.mem_of_mem_take ht)),hd _⟩
   .cases h
  .split at h;.grind
   .split at h;.grind
    .split at h;.cases h
     .obtain⟨u,hu,e2⟩:=Qf.1 h;cases e2;exact⟨aa _ ⟨he u hs.2.2.2 (ZxR hr 0) hu,trivial⟩,hd _⟩end
section
variable{α β:Type}(z:α)(f:β->Option α)(p:β->Int)
def mg:List β->List α->Option (List α)|[],bB=>A bB|w::r,bB=>(f w).bind λv=>mg r (YQ z bB (G (p w)) v)
def dM(h:Int):List β->Prop|[]=>True|w::r=>h<p w/\dM (p w) r
structure Mg(l0:List α)(ws:List β)(n a i:Int)(bB:List α):Prop where
 a0:0<=a/\a<=ws.length
 i0:0<=i/\i<=n
 len:(bB.length:Int)=i
 ac:dM p (i-1) (ws.drop a.toNat)lt:∀w∈ws.drop a.toNat,p w<n
 ex:n=l0.length\/i=n\/∃w∈ws.drop a.toNat,p w+1=n
 n0:l0.length<=n
 eq:mg z f p (ws.drop a.toNat) (bB++l0.drop i.toNat)=mg z f p ws l0
variable{z f p}{l0:List α}{ws:List β}{n a i:Int}{bB:List α}
theorem Zu1(v)(i)(h:J bB=i):YQ z (bB++l0.drop i) i v=bB++[v]++l0.drop (i+1):=by
 by_cases hi:i<J l0
 .simp only[YQ];rw[show i+1-J (bB++l0.drop i)=0 by simp;omega];simp only[List.replicate_zero,Qj];rw[List.set_append_right _ _ O,show i-J bB=0 by omega,QO hi,KH,Qg];try rfl
 .rw[Qb O,Qb O];simp only[YQ,Qj];simp_all
theorem lf{s}:∀{l},dM p s l->∀w∈l,s<p w
 |[],_,_,hw=>by cases hw|b::r,h,w,hw=>by
  rcases Qe.1 hw with rfl|hw;.exact h.1
  .have:=lf h.2 w hw;have:=h.1;omega
theorem ZBn{m s}(h:m<=s):∀{l},dM p s l->dM p m l|[],_=>trivial|_::_,g=>⟨by have:=g.1;omega,g.2⟩
theorem Mg.cons(m:Mg z f p l0 ws n a i bB)(d)(h:a<J ws):ws.drop (G a)=aR ws (G a) d::ws.drop (G (a+1)):=ZO m.a0.1 h d
theorem Mg.none(m:Mg z f p l0 ws n a i bB)(d)(h:a<J ws)(hf:f (aR ws (G a) d)=aT):mg z f p ws l0=aT:=by rw[<-m.eq,m.cons d h,mg,hf];try rfl
theorem Mg.aY(m:Mg z f p l0 ws n a i bB)(d)(hi:i<n)(ha:a<J ws)(hp:p (aR ws (G a) d)=i){v}(hf:f (aR ws (G a) d)=A v):Mg z f p l0 ws n (a+1) (i+1) (bB++[v]):=by
 have L:=m.cons d ha;have s:=m.ac;have h2:=m.lt;have h3:=m.ex;have h:=m.eq;have h5:=m.a0;have h6:=m.i0;have h7:=m.len;rw[L]at s h2 h3 h;refine⟨O,O,by simp;omega,?_,λw hw=>h2 w (Q4 _ hw),?_,m.n0,?_⟩;.have:=s.2;grind
 .grind
 .rw[mg,hf,Qp,hp,Zu1 v (G i) O,show G i+1=G (i+1)by omega]at h;exact h
theorem ZQq{l}(h:∃w,w∈l)(s:dM p (J bB) l):mg z f p l (bB++[z])=mg z f p l bB:=by cases l with|nil=>grind|cons w r=>
  have h1:=s.1;rw[mg,mg];congr 1;funext v;have:YQ z (bB++[z]) (G (p w)) v=YQ z bB (G (p w)) v:=by
   simp only[YQ,Qi,QN,Qg];rw[show G (p w)+1-J bB=G (p w)+1-( J bB+1)+1 by omega,XJ];try rfl
  rw[this]
theorem Mg.plain(m:Mg z f p l0 ws n a i bB)(d)(hi:i<n)(hn:¬(a<J ws/\p (aR ws (G a) d)=i)):Mg z f p l0 ws n a (i+1) (bB++[aR l0 (G i) z]):=by
 have s:=m.ac;have h2:=m.lt;have h:=m.ex;have h4:=m.eq;have h5:=m.a0;have h6:=m.i0;have h7:=m.len;have h8:=m.n0;have aa:dM p i (ws.drop (G a)):=by
  by_cases ha:a<J ws;.rw[m.cons d ha]at s⊢;exact⟨by have:=s.1;omega,s.2⟩
  .rw[Qb O];exact trivial
 refine⟨h5,O,by simp;omega,by grind,h2,?_,h8,?_⟩;.grind
 .rw[<-h4];by_cases hl:G i<J l0;.rw[QO hl,show G i+1=G (i+1)by omega,Qr,Q8 hl,XL];simp
  .have e1:l0.drop (G i)=[]:=Qb O;have e2:l0.drop (G (i+1))=[]:=Qb O;rw[e1,e2,Qj,Qj,Qr,QX O,Option.getD_none];rcases h with h|h|⟨w,hw,h⟩;.omega
   .omega
   .exact ZQq ⟨w,hw⟩ (by grind)
theorem Mg.cC(m:Mg z f p l0 ws n a i bB)(hi:¬i<n):mg z f p ws l0=A bB:=by
 have s:=m.ac;have h2:=m.lt;have h6:=m.i0;have h8:=m.n0;rw[<-m.eq];have:ws.drop (G a)=[]:=by cases h:ws.drop (G a)with
  |nil=>rfl|cons w r=>rw[h]at s h2;have:=s.1;grind
 rw[this,mg,Qb O,Qj]
end
theorem Mg.qH{α β z f p}{l0:List α}{ws n}(d:β)(has:dM p (-1) ws)(hn:n=if 0<J ws/\(J l0)<=p (aR ws ( J ws-1) d)then p (aR ws ( J ws-1) d)+1 else(J l0)):Mg z f p l0 ws n 0 0 []:=by
 have ab:∀(l:List β)(m:Int),dM p m l->∀w∈l,p w<=p (aR l ( J l-1) d):=by
  intro l;induction l with
  |nil=>intro m h w hw;cases hw|cons b r ih=>
   intro m h w hw;cases r with
   |nil=>
    rcases Qe.1 hw with rfl|hw;.simp
    .cases hw|cons c s=>
    have e:(b::c::s).getD ( J (b::c::s)-1) d=(c::s).getD ( J (c::s)-1) d:=by simp
    rw[e];rcases Qe.1 hw with rfl|hw;.have h1:=ih _ h.2 c Q6;have h2:=h.2.1;omega
    .exact ih _ h.2 w hw
 have hl:=ab ws _ has;have hm:0<J ws->aR ws ( J ws-1) d∈ws:=λh=>Zh O _;refine⟨O,⟨O,?_⟩,rfl,has,λw hw=>?_,?_,?_,by simp⟩;.rw[hn];split<;>omega
 .have:=hl w hw;have hp:0<J ws:=List.length_pos_of_mem hw;rw[hn];split<;>omega
 .rw[hn];split;.rename_i h;exact .inr (.inr ⟨_,hm h.1,rfl⟩)
  .exact .inl rfl
 .rw[hn];split<;>omega
theorem Am(h):∀ws(bB:List Int),gK h ws bB=mg 0 (λw=>if cS 0 (aR h (G w.S) 0) w.a_=w.bH then A (cS (aR h (G w.S) 0) w.new w.a_)else aT) aV.S ws bB
 |[],_=>rfl|w::r,bB=>by
  rw[gK,mg];split;.rw[Qp];exact Am h r _
  .try rfl
theorem BG(r)(tk):∀(ks:List bP)bB,fD r tk ks bB=mg H.nil (jE r tk) aW.S ks bB|[],_=>by rfl|k::s,bB=>by rw[fD,mg];congr 1;funext u;exact BG r tk s _
theorem YJ:∀{ws s},Ya s ws=Y->dM aV.S s ws|[],_,_=>trivial|w::r,s,h=>by have h1:=Yd h w Q6;simp only[Ya,Q9]at h;exact⟨h1.1,YJ h.2⟩
theorem Jh:∀{ks:List bP}{s d},ZJ s ks d=Y->dM aW.S s ks|[],_,_,_=>trivial|k::r,s,d,h=>by obtain⟨h1,_,h3⟩:=Wu h;exact⟨h1.1,Jh h3⟩
end Go.AM.YtpjenobkibfpcaaGreat
namespace Go.AM.YtpjenobkibfpcaaGreat
open Go.AM Go.Proofs
theorem ZJ7{f g}(hf:∀i,0<=f i/\f i<256)(s:∀i,0<=g i/\g i<256)(h:ki f=ki g):∀i,i<8->f i=g i:=by unfold ki at h;grind
theorem Tl{a}(h:iU a):ki (Z8 a)=a:=by obtain⟨s,h1⟩:=h;simp only[ki,Z8];omega
theorem qy{a b}(s:iU a)(hb:iU b)(h:∀i,i<8->Z8 a i=Z8 b i):a=b:=by rw[<-Tl s,<-Tl hb];unfold ki;grind
theorem vV{a b m i}(h:i<8):Z8 (cS a b m) i=JR a b m i:=ZJ7 (λi=>B3 _ i) (Oo a b m) (by rw[Tl (JT a b m)];rfl) i h
section
variable{α β:Type}{z:α}{f:β->Option α}{p:β->Int}
theorem kJ:∀{ws aa bB r},-1<=aa->dM p aa ws->mg z f p ws bB=A r->(∀w∈ws,∃v,f w=A v/\aR r (G (p w)) z=v)/\∀i,(∀w∈ws,G (p w)≠i)->aR r i z=aR bB i z
 |[],_,bB,r,_,_,h=>by rw[mg]at h;grind|w::s,aa,bB,r,hl,ha,h=>by
  rw[mg]at h;obtain⟨v,hv,hr⟩:=Qq.1 h;have h1:=ha.1;obtain⟨i1,i2⟩:=kJ O ha.2 hr;have hn:∀x∈s,G (p x)≠G (p w):=λx hx=>by have:=lf ha.2 x hx;omega
  refine⟨λx hx=>?_,λi hi=>?_⟩
  .rcases Qe.1 hx with rfl|hx;.refine⟨v,hv,?_⟩;rw[i2 _ hn,wN,Q5 rfl]
   grind
  .rw[i2 i λx hx=>hi x (Q4 _ hx),wN,Q0 λe=>hi w Q6 e.symm]
end
theorem Rl{V d}:∀{l},YR V l d=Y->∀t∈l,Zf t d=Y
 |[],_,_,ht=>by cases ht|a::r,h,t,ht=>by
  simp only[YR,Q9]at h;rcases Qe.1 ht with rfl|ht;.exact h.1.2
  .exact Rl h.2 t ht
def eL(t:H):Prop:=(∃d,Zf t d=Y)/\ei t
theorem eL.X{t}(h:eL t):(∀k∈t.X,eL k)/\(t.D≠0->t.D≠1->t.D≠10->t.aS=[]):=by
 obtain⟨⟨d,h⟩,hr⟩:=h;obtain⟨k,w,ks⟩:=t;have hk:∀x∈ks,ei x:=λx s=>YW hr.2.2 s;show(∀x∈ks,eL x)/\(k≠0->k≠1->k≠10->w=[]);rw[Zf]at h;split at h;.grind
 .split at h;.grind
  .split at h;.cases h
   .split at h;.simp only[Q9]at h;exact⟨λx s=>⟨⟨_,Rl h.2 x s⟩,hk x s⟩,λ_ h1=>absurd ‹_› h1⟩
    .simp only[Q9,Qh]at h;exact⟨λx s=>⟨⟨_,Rl h.2 x s⟩,hk x s⟩,λ_ _ _=>Q7 h.1.2.2.1⟩
theorem ZT7:eL H.nil:=⟨⟨1,rfl⟩,oC⟩
theorem uI{l}(h:∀t∈l,eL t)(i):eL (aR l i H.nil):=by
 by_cases hi:i<J l;.grind
 .rw[Qr,QX O];exact ZT7
theorem M0{t}(h:ei t):bQ t.D/\(∀x∈t.aS,iU x)/\Jf t.X:=by obtain⟨k,w,ks⟩:=t;exact h
theorem Z9e{V}{o:Op}{d}(h:Zg V o d=Y):o.D=0\/o.D=1\/o.D=2\/o.D=3:=by have r:=ZQ h;cases r with|bN=>simp|gone=>grind|eD=>grind|dL=>grind
end Go.AM.YtpjenobkibfpcaaGreat
namespace Go.AM.YtpjenobkibfpcaaGreat
open Go.AM Go.Proofs
def Rx(x y:List H×List H):Prop:=da x.1 y.1/\da x.2 y.2
theorem Rx.oO(a):bZ Rx a a:=by cases a;exact trivial;exact⟨rfl,rfl⟩
theorem Rx.of{a b}(h:a=b):bZ Rx a b:=by rw[h];exact Rx.oO b
theorem bZ.xK{α R}(ht:∀x y z,R x y->R y z->R x z){a b c:Option α}(s:bZ R a b)(h:bZ R b c):bZ R a c:=by cases a<;>cases b<;>cases c<;>first|exact trivial|exact s.elim|exact h.elim|exact ht _ _ _ s h
theorem Rx.trans{a b c}(s:bZ Rx a b)(h:bZ Rx b c):bZ Rx a c:=bZ.xK (λ_ _ _ p q=>⟨Eq.trans p.1 q.1,Eq.trans p.2 q.2⟩) s h
theorem Bv(r):∀(a b:List Op)aa bB,ZV r (a++b) aa bB=(ZV r a aa bB).bind λx=>ZV r b x.2 x.1|[],b,aa,bB=>by rfl|o::s,b,aa,bB=>by rw[Qw,ZV,ZV];cases h:iQ r o aa bB with|none=>rfl|some x=>rw[Qp,Qp];exact Bv r s b _ _
theorem IW(r)(o:Op)(h bB):ZV r [o] h bB=iQ r o h bB:=by rw[ZV];cases iQ r o h bB with|none=>rfl|some x=>rfl
theorem Fl(r)(a:List Op)(o:Op)(h bB):ZV r (a++[o]) h bB=(ZV r a h bB).bind λx=>iQ r o x.2 x.1:=by grind[Bv,IW]
theorem M8{r}:∀{os:List Op}{aa bB x},ZV r os aa bB=A x->∃n,x.2=aa.drop n
 |[],aa,bB,x,h=>by rw[ZV]at h;cases h;exact⟨0,by simp⟩|o::s,aa,bB,x,h=>by
  rw[ZV]at h;obtain⟨y,hy,hx⟩:=Qq.1 h;obtain⟨n,hn⟩:=M8 hx;have:∃m,y.2=aa.drop m:=by
   rw[Js]at hy;split at hy;.grind
   .split at hy;.grind
    .split at hy;.cases hy;exact⟨0,by simp⟩
     grind[Option.map_eq_some_iff]
  obtain⟨m,hm⟩:=this;exact⟨m+n,by simp_all⟩
theorem ZAX(h):iI [] h=Y:=by unfold iI;simp_all
theorem Zt6(l rest):iI (Z6 l) rest=iI l rest:=by grind[iI,Zhj,Z6]
theorem yM(l h):iI l h=Y↔J l<=J h/\Z6 l=Z6 (h.take (J l)):=by grind[iI,Yz]
theorem ZAZ(a b h):iI (a++b) h=(iI a h&&iI b (h.drop (J a))):=by
 rw[QA,Q9,yM,yM,yM];simp only[Qi,QI];constructor
 .rintro⟨h1,s⟩;rw[JI,List.take_add,JI]at s;obtain⟨h3,h4⟩:=Ke s (by simp[Z6];omega);grind
 grind[JI]
theorem HW(s)(aa bB):ZV I (Zj s).bB aa bB=(ZV I s.bB aa bB).bind λx=>if iI s.gone x.2=Y then A (x.1++s.bO,x.2.drop (J s.gone))else aT:=by
 simp only[Zj,kU];rw[Bv];congr 1;funext x;rw[Bv];have h1:ZV I (if J s.gone=0 then[]else[⟨1,0,s.gone,W.nil⟩]) x.2 x.1=if iI s.gone x.2=Y then A (x.1,x.2.drop (J s.gone))else aT:=by
  split
  .rename_i h;rw[Q7 h,ZAX,Q5 rfl,ZV];try rfl
  .rw[IW,Js];rw[Q0 (by show¬(1:Int)=0;omega),Q5 rfl]
 have h2:∀y:List H×List H,ZV I (if J s.bO=0 then[]else[⟨2,0,s.bO,W.nil⟩]) y.2 y.1=A (y.1++s.bO,y.2):=by
  intro y;split;.rename_i h;rw[Q7 h,Qj,ZV]
  .rw[IW,Js];rw[Q0 (by show¬(2:Int)=0;omega),Q0 (by show¬(2:Int)=1;omega),Q5 rfl]
 rw[h1];split<;>simp_all[Qp]
theorem ZKq{F n}(hF:∀o∈F,0<=o.n)(hn:0<=n)(s bB):ZV I (iE F n) s bB=ZV I (F++[⟨0,n,[],W.nil⟩]) s bB:=by
 rcases tm F n with h|⟨a,o,h1,h2,h3⟩;.rw[h]
 .rw[h3,h1,Fl,Fl,Fl];cases hx:ZV I a s bB with
  |none=>rfl|some x=>
   have ho:=hF o (by rw[h1];simp);simp only[Qp];rw[Js,Js,Q5 h2,Q5 h2];simp only;have e:G (o.n+n)=G o.n+G n:=O;rw[e];by_cases c:G o.n<=J x.2
   .rw[Q5 c,Qp,Js,Q5 rfl];simp only[QI];by_cases c2:G n<=J x.2-G o.n;.rw[Q5 c2,Q5 O,Xt,Qg,<-List.take_add]
    grind
   .rw[Q0 c,Q0 O];try rfl
def sa(s:dA):Prop:=∀o∈s.bB,0<=o.n
theorem sa.lZ{s}(h:sa s):∀o∈(Zj s).bB,0<=o.n:=by
 intro o ho;simp only[Zj,kU,Qo]at ho;rcases ho with ho|ho|ho;.exact h o ho
 .split at ho;.cases ho
  .simp only[Qs]at ho;subst ho;exact Qz 0
 .split at ho;.cases ho
  .simp only[Qs]at ho;subst ho;exact Qz 0
theorem sa.bN{s}(h:sa s){n}(hn:0<=n):sa (Yt s n):=by
 intro o ho;simp only[Yt]at ho;rcases tm (Zj s).bB n with e|⟨a,p,h1,h2,h3⟩
 .rw[e]at ho;rcases Qo.1 ho with ho|ho;.exact h.lZ o ho
  grind
 .rw[h3]at ho;rcases Qo.1 ho with ho|ho;.exact h.lZ o (by grind)
  .simp only[Qs]at ho;subst ho;have:=h.lZ p (by rw[h1];simp);grind
theorem ZxT{V d}{o:Op}(h:Zg V o d=Y):0<=o.n:=by have r:=ZQ h;cases r<;>grind
theorem sa.op{V d s}{o:Op}(h:sa s)(hr:Zg V o d=Y):sa (j9 V o s):=by
 rw[JV];split;.exact h.bN (ZxT hr)
 .split;.exact h
  .split;.exact h
   .split
    .split;.exact h.bN O
     .intro p hp;rcases Qo.1 hp with hp|hp;.exact h.lZ p hp
      grind
    .exact h
def K9(V:Int)(l:List H):Prop:=(∀t∈l,eL t)/\(V=9->∀t∈l,t.D=1)
theorem K9.drop{V l}(h:K9 V l)(n):K9 V (l.drop n):=⟨λt s=>h.1 t (Xb s),λe t s=>h.2 e t (Xb s)⟩
theorem ZxU{d}:∀{l},YR 9 l d=Y->∀t∈l,t.D=1
 |[],_,t,ht=>by cases ht|a::r,h,t,ht=>by
  simp only[YR,Q9]at h;rcases Qe.1 ht with rfl|ht;.grind[ic]
  .exact ZxU h.2 t ht
theorem eL.k9{t}(h:eL t):K9 t.D t.X:=by
 refine⟨h.X.1,λe=>?_⟩;obtain⟨⟨d,h⟩,_⟩:=h;obtain⟨k,w,ks⟩:=t;have e:k=9:=e;subst e;rw[Zf,Q0 O,Q0 O]at h;split at h;.cases h
 .rw[Q0 O]at h;simp only[Q9]at h;exact ZxU h.2
theorem ZIA{V d s}{o:Op}(hs:sa s)(hr:Zg V o d=Y){aa}(hk:K9 V aa)(bB)(ih:∀y,eL y->Z3 o.e d=Y->bZ dG (bX I (Zd o.e) y) (bX I o.e y)):bZ Rx (ZV I (Zj (j9 V o s)).bB aa bB) ((ZV I (Zj s).bB aa bB).bind λx=>iQ I o x.2 x.1):=by
 have bN:∀n:Int,0<=n->ZV I (Zj (Yt s n)).bB aa bB=(ZV I (Zj s).bB aa bB).bind λx=>iQ I ⟨0,n,[],W.nil⟩ x.2 x.1:=by
  intro n hn;have e:(Zj (Yt s n)).bB=iE (Zj s).bB n:=by simp[Zj,kU,Yt]
  rw[e,ZKq hs.lZ hn,Fl]
 rw[JV];have r1:=Z9e hr;by_cases h0:o.D=0
 .rw[Q5 h0,bN _ (ZxT hr)];refine Rx.of ?_;congr 1;funext x;rw[Js,Js,Q5 rfl,Q5 h0]
 .rw[Q0 h0];by_cases h1:o.D=1
  .rw[Q5 h1,HW,HW];refine Rx.of ?_;rw[KJ];congr 1;funext x;simp only;rw[ZAZ,Zt6];by_cases c:iI s.gone x.2=Y;.rw[Q5 c,c,X6,Qp,Js,Q0 h0,Q5 h1];simp only;rw[Xt,show J (s.gone++Z6 o.l)=J s.gone+J o.l by simp[Z6]]
   grind
  .rw[Q0 h1];by_cases h2:o.D=2
   .rw[Q5 h2,HW,HW,KJ];refine bZ.bind (R:=Eq) (bZ.oO _) ?_;rintro x _ rfl;simp only;split;.rw[Qp,Js,Q0 h0,Q0 h1,Q5 h2];refine⟨?_,rfl⟩;show Z6 (x.1++(s.bO++Z6 o.l))=Z6 (x.1++s.bO++o.l);simp only[JI,Zhj,Qg]
    .exact trivial
   .have h3:o.D=3:=by rcases r1 with h|h|h|h<;>first|exact absurd h h0|exact absurd h h1|exact absurd h h2|exact h
    rw[Q0 h2,Q5 h3];have ai:=Yi hr h3;have ra:=ZQ hr;by_cases hi:tH V (Zd o.e)=Y
    .rw[Q5 hi,bN 1 O];cases hx:ZV I (Zj s).bB aa bB with
     |none=>exact trivial|some x=>
      obtain⟨m,hm⟩:=M8 hx;have ab:=hk.drop m;rw[<-hm]at ab;simp only[Qp];rw[Js,Js,Q5 rfl,Q0 h0,Q0 h1,Q0 h2];cases hx2:x.2 with|nil=>exact trivial|cons y q=>
       rw[hx2]at ab;have aj:o.e.D≠0:=by cases ra with|dL e _ h=>exact h|bN|gone|eD=>grind
       simp only[tH,Qh,Ez]at hi;rcases hi with hi|⟨hl9,he2,hw,hks⟩;.omega
       .have hy:=ab.2 hl9 y Q6;have hn:=zH o.e;rw[Q0 O,Q5 he2]at hn;have e1:o.e.aS=[]:=by rw[hn]at hw;exact Q7 hw
        have e2:o.e.X=[]:=by
         rw[hn]at hks;have:J (Jo o.e.X)=0:=hks;cases hh:o.e.X with
         |nil=>rfl|cons a b=>rw[hh]at this;trivial
        have hd:bX I o.e y=A (.mk 1 y.aS y.X):=by rw[lH,Q0 aj,Q0 O,Q5 he2,Q5 hy,e1,e2,gK,Qp,fD];try rfl
        rw[Q0 (show¬J (y::q)=0 by simp),Qm,hd,Q5 (show Int.toNat 1<=J (y::q)by simp)];refine⟨?_,rfl⟩;show Z6 (x.1++[y])=Z6 (x.1++[H.mk 1 y.aS y.X]);rw[show H.mk 1 y.aS y.X=y by rw[<-hy];exact H.sj y]
    .rw[Q0 hi];have e:(Zj ⟨(Zj s).bB++[⟨3,0,[],Zd o.e⟩],[],[]⟩).bB=(Zj s).bB++[⟨3,0,[],Zd o.e⟩]:=by simp[Zj,kU]
     rw[e,Fl];cases hx:ZV I (Zj s).bB aa bB with|none=>exact trivial|some x=>obtain⟨m,hm⟩:=M8 hx;have ab:=hk.drop m;rw[<-hm]at ab;simp only[Qp];rw[Js,Js,Q0 h0,Q0 h1,Q0 h2,Q0 (by grind),Q0 (by grind),Q0 (by grind)];refine bZ.ite QH (λ_=>trivial) λ_=>?_;exact(ih _ (uI ab.1 0) ai).map λu v h=>⟨rX rfl (pg.2 h),rfl⟩
mutual theorem oH:∀(e:W)(d:Int)(t:H),Z3 e d=Y->eL t->bZ dG (bX I (Zd e) t) (bX I e t)
 |.mk k o n w ks l os,d,t,hr,ht=>by
  have ri:=Zc hr;have h1:=Zsv ks;have h2:=Zsu l os;have ab:=ht.X.1;have s:Zd (.mk k o n w ks l os)=if k=1 then .mk k (Z2 o) (Z2 n) [] [] l []else if k=2 then .mk k H.nil H.nil w (Jo ks) l []else if k=3 then .mk k H.nil H.nil [] [] l (Zj (Zz l os ⟨[],[],[]⟩)).bB else .mk k H.nil H.nil [] [] l []:=by rw[Zd]
  rw[uH,uH,Ja,Ja];by_cases c1:k=1
  .subst c1;rw[Q5 rfl]at s;unfold oL;rw[s];refine bZ.ite QH (λ_=>rfl) λ_=>bZ.ite QH (λ_=>?_) λh=>absurd rfl h;show bZ dG (if ZW (Z2 (Z2 o)) (Z2 t)=Y then A (Z2 n)else aT) (if ZW (Z2 o) (Z2 t)=Y then A n else aT);rw[ZY];exact bZ.ite QH (λ_=>ZY n) λ_=>trivial
  .by_cases c2:k=2
   .subst c2;rw[Q0 c1,Q5 rfl]at s;unfold oL;rw[s];refine bZ.ite QH (λ_=>rfl) λ_=>bZ.ite QH (λh=>absurd h c1) λ_=>bZ.ite QH (λ_=>?_) λh=>absurd rfl h;refine bZ.ite QH (λae=>?_) λ_=>trivial;refine bZ.bind (R:=Eq) (bZ.oO _) ?_;rintro a _ rfl;exact(h1 (d-1) t.X t.X t.X (λk hk=>(Zl ri.X k hk).2) ab rfl).map λx y h=>yZ _ _ h
   .by_cases c3:k=3
    .subst c3;rw[Q0 c1,Q0 c2,Q5 rfl]at s;unfold oL;rw[s];refine bZ.ite QH (λ_=>rfl) λ_=>bZ.ite QH (λh=>absurd h c1) λ_=>bZ.ite QH (λh=>absurd h c2) λ_=>bZ.ite QH (λ_=>?_) λh=>absurd rfl h;refine bZ.ite QH (λae=>?_) λ_=>trivial;have aa:=ht.k9;rw[ae]at aa;have:=h2 (d-1) ⟨[],[],[]⟩ t.X [] (λo ho=>Go.AM.bM ri.ops o ho) (λo ho=>by cases ho) aa;exact(Rw this).map λx y h=>yZ _ _ h
    .have e0:k=0:=by have:=ri.D;have:0<=k/\k<=3:=this;omega
     subst e0;try rfl theorem Zsv:∀(ks:List (aW W))(d:Int)(tk a b:List H),(∀k∈ks,Z3 k.e d=Y)->(∀t∈tk,eL t)->da a b->bZ da (fD I tk (Jo ks) a) (fD I tk ks b)
 |[],d,tk,a,b,_,_,h=>by trivial|k::r,d,tk,a,b,hr,ht,h=>by
  rw[Jo,fD,fD];have e:(lF k).S=k.S:=by cases k;rfl
  rw[e];refine(ZAs k d tk (hr k Q6) ht).bind λx y s=>Zsv r d tk _ _ (λq hq=>hr q (Q4 _ hq)) ht (ZmJ h s)theorem ZAs:∀(k:aW W)(d:Int)(tk:List H),Z3 k.e d=Y->(∀t∈tk,eL t)->bZ dG (jE I tk (lF k)) (jE I tk k)|⟨a,e⟩,d,tk,hr,ht=>by rw[lF,jE,jE];exact oH e d _ hr (uI ht _)theorem Zsu(V:Int):∀(os:List (bI W))(d:Int)(s:dA)(h bB:List H),(∀o∈os,Zg V o d=Y)->sa s->K9 V h->bZ Rx (ZV I (Zj (Zz V os s)).bB h bB) (ZV I ((Zj s).bB++os) h bB)
 |[],d,s,h,bB,_,_,_=>by grind[Zz,Rx.oO]|o::r,d,s,h,bB,hr,hs,hk=>by
  have ho:=hr o Q6;have E:=ZIA hs ho hk bB (ZFA o d);rw[Zz];refine Rx.trans (Zsu V r d _ h bB (λq hq=>hr q (Q4 _ hq)) (hs.op ho) hk) ?_;rw[Bv,Bv];have e:∀x:List H×List H,ZV I (o::r) x.2 x.1=(iQ I o x.2 x.1).bind λy=>ZV I r y.2 y.1:=λx=>by rw[ZV]
  rw[show(λx:List H×List H=>ZV I (o::r) x.2 x.1)=λx=>(iQ I o x.2 x.1).bind λy=>ZV I r y.2 y.1 from funext e,<-KJ];exact E.bind λx y aa=>Rh r _ _ _ _ aa.2 aa.1 λq hq=>⟨_,_,hr q (Q4 _ hq)⟩theorem ZFA:∀(o:bI W)(d:Int),∀y,eL y->Z3 o.e d=Y->bZ dG (bX I (Zd o.e) y) (bX I o.e y)|⟨_,_,_,e⟩,d,y,hy,hr=>oH e d y hr hy end
mutual theorem Sc:∀e:W,Zm (Zm e)=e|.mk k o n w ks l os=>by simp only[Zm];rw[ZAE,ZgS ks,ZgR os]theorem ZgS:∀ks:List (aW W),YE (YE ks)=ks|[]=>rfl|k::r=>by simp only[YE];rw[ZnP k,ZgS r]theorem ZnP:∀k:aW W,Jq (Jq k)=k|⟨a,e⟩=>by simp only[Jq];rw[Sc e]theorem ZgR:∀os:List (bI W),YK (YK os)=os|[]=>rfl|o::r=>by simp only[YK];rw[Zrq o,ZgR r]theorem Zrq:∀o:bI W,YD (YD o)=o
 |⟨k,n,l,e⟩=>by
  have h:=Sc e;simp only[YD];split;.rename_i c;subst c;rfl
  .split;.rename_i c;subst c;rfl
   .split;.rename_i c;subst c;simp only[YD];rw[h];try rfl
    .rename_i c1 s c3;simp only[YD];grind end
theorem ZAz{a n m}(hn:iU n)(s:Y2 n m=Y):cS 0 (cS a n m) m=n:=by
 unfold Y2 at s;have s:cS n 0 m=0:=X7 s;refine qy (JT _ _ _) hn λi hi=>?_;have e:=congrArg (λx=>Z8 x i) s;simp only[vV hi,JR]at e;rw[vV hi,JR];by_cases h:Zu m i=Y;.rw[Q5 h,vV hi,JR,Q5 h]
 grind
theorem ZAy{a n o m}(ha:iU a)(ho:cS 0 a m=o):cS (cS a n m) o m=a:=by
 refine qy (JT _ _ _) ha λi s=>?_;rw[vV s,JR];by_cases h:Zu m i=Y;.rw[Q5 h,<-ho,vV s,JR,Q5 h]
 .rw[Q0 h,vV s,JR,Q0 h]
theorem yW{α β z f p}:∀{ws:List β}{bB:List α},(∀w∈ws,∃v,f w=A v)->∃r,mg z f p ws bB=A r|[],bB,_=>⟨bB,rfl⟩|w::s,bB,h=>by obtain⟨v,hv⟩:=h w Q6;rw[mg,hv,Qp];exact yW λx hx=>h x (Q4 _ hx)
theorem F5{l}(h:∀x∈l,iU x)(i):iU (aR l i 0):=by
 by_cases hi:i<J l;.grind
 .rw[Qr,QX O];trivial
theorem ZtF{tw ws r}(hw:Ya (-1) ws=Y)(it:∀x∈tw,iU x)(iw:∀w∈ws,gN w)(h:gK tw ws tw=A r):∃v,gK r (ws.map JE) r=A v/\z_ v tw:=by
 rw[Am]at h;obtain⟨a1,a2⟩:=kJ O (YJ hw) h;have ah:∀w∈ws,(if cS 0 (aR r (JE w).S.toNat 0) (JE w).a_=(JE w).bH then A (cS (aR r (JE w).S.toNat 0) (JE w).new (JE w).a_)else aT)=A (aR tw (G w.S) 0):=by
  intro w s;obtain⟨v,hv,hr⟩:=a1 w s;split at hv
  .rename_i c;cases hv;have ok:=Yd hw w s;show(if cS 0 (aR r (G w.S) 0) w.a_=w.new then A (cS (aR r (G w.S) 0) w.bH w.a_)else aT)=_;rw[hr,ZAz (iw w s).2.2.2 ok.2.2.2.2,Q5 rfl,ZAy (F5 it _) c]
  .cases hv
 have af:Ya (-1) (ws.map JE)=Y:=by rw[Wm];exact hw
 obtain⟨v,hv⟩:=yW (z:=0) (p:=aV.S) (bB:=r) (f:=λw=>if cS 0 (aR r (G w.S) 0) w.a_=w.bH then A (cS (aR r (G w.S) 0) w.new w.a_)else aT) (ws:=ws.map JE) λw s=>by grind
 obtain⟨b1,b2⟩:=kJ O (YJ af) hv;refine⟨v,by rw[Am];exact hv,λi=>?_⟩;by_cases hi:∃w∈ws,G w.S=i;.obtain⟨w,s,rfl⟩:=hi;obtain⟨y,hy,hr⟩:=b1 (JE w) (Xd s);have:=ah w s;rw[this]at hy;cases hy;exact hr
 .have h1:∀w∈ws,G w.S≠i:=λw s e=>hi ⟨w,s,e⟩;rw[b2 i λw s=>by obtain⟨x,hx,rfl⟩:=QU.1 s;exact h1 x hx,a2 i h1]
theorem Zcr:∀{ks:List bP}{k:bP},k∈YE ks->∃q∈ks,k=Jq q
 |[],k,h=>by cases h|a::r,k,h=>by
  rw[YE]at h;rcases Qe.1 h with rfl|h;.grind
  .obtain⟨q,s,e⟩:=Zcr h;grind
theorem ZkN:∀{ks:List bP}{k},k∈ks->Jq k∈YE ks
 |[],k,h=>by cases h|a::r,k,h=>by
  rw[YE];rcases Qe.1 h with rfl|h;.grind
  .exact Q4 _ (ZkN h)
theorem M1(k:bP):(Jq k).S=k.S/\(Jq k).e=Zm k.e:=by cases k;trivial
theorem ZAP{tk}{ks:List bP}{r d}(hk:ZJ (-1) ks d=Y)(h:fD I tk ks tk=A r)(ih:∀k∈ks,∀u,bX I k.e (aR tk (G k.S) H.nil)=A u->∃v,bX I (Zm k.e) u=A v/\dG v (aR tk (G k.S) H.nil)):∃v,fD I r (YE ks) r=A v/\xz v tk:=by
 rw[BG]at h;obtain⟨a1,a2⟩:=kJ O (Jh hk) h;have af:∀k∈ks,∃v,jE I r (Jq k)=A v/\dG v (aR tk (G k.S) H.nil):=by
  intro k s;obtain⟨u,hu,hr⟩:=a1 k s;rw[xe]at hu;obtain⟨v,hv,he⟩:=ih k s u hu;refine⟨v,?_,he⟩;rw[xe,(M1 k).1,(M1 k).2,hr];exact hv
 have ab:=Tu ks _ _ hk;obtain⟨v,hv⟩:=yW (z:=H.nil) (p:=aW.S) (bB:=r) (f:=jE I r) (ws:=YE ks) λk s=>by
  obtain⟨q,hq,rfl⟩:=Zcr s;grind
 obtain⟨b1,b2⟩:=kJ O (Jh ab) hv;refine⟨v,by rw[BG];exact hv,λi=>?_⟩;by_cases hi:∃k∈ks,G k.S=i;.obtain⟨k,s,rfl⟩:=hi;obtain⟨y,hy,hr⟩:=b1 (Jq k) (ZkN s);obtain⟨x,hx,he⟩:=af k s;rw[hx]at hy;cases hy;rw[(M1 k).1]at hr;grind
 .have h1:∀k∈ks,G k.S≠i:=λk s e=>hi ⟨k,s,e⟩;rw[b2 i λk s=>by obtain⟨q,hq,rfl⟩:=Zcr s;rw[(M1 q).1];exact h1 q hq,a2 i h1];exact rfl
theorem ZDp(n)(l)(e):YD ⟨0,n,l,e⟩=⟨0,n,l,e⟩:=rfl
theorem ZDo(n)(l)(e):YD ⟨2,n,l,e⟩=⟨1,n,l,e⟩:=rfl
theorem ZDn(n)(l)(e):YD ⟨3,n,l,e⟩=⟨3,n,l,Zm e⟩:=rfl
mutual theorem LH:∀(e:W)(d:Int)(t u:H),Z3 e d=Y->Ye e->eL t->bX I e t=A u->∃v,bX I (Zm e) u=A v/\dG v t
 |.mk k o n w ks l os,d,t,u,hr,he,ht,h=>by
  have ri:=Zc hr;have h1:=Zmc ks;have h2:=Zmb os;have s:=ht.X;have au:=M0 ht.2;have ae:(∀x∈w,gN x)/\kG ks/\jQ os:=by simp only[Ye]at he;exact⟨he.2.2.2.1,he.2.2.2.2.2.1,he.2.2.2.2.2.2⟩
  rw[uH,Ja]at h;unfold oL at h;simp only[Zm];have aa:∀u:H,oL I (.mk k n o (w.map JE) (YE ks) l (YK os)) u=if k=0 then A u else if k=1 then if ZW (Z2 n) (Z2 u)=Y then A o else aT else if k=2 then if u.D=1 then(gK u.aS (w.map JE) u.aS).bind λa=>(fD I u.X (YE ks) u.X).map λb=>.mk 1 a b else aT else if k=3 then if u.D=l then(gX (ZV I (YK os) u.X [])).map λb=>.mk l [] b else aT else aT:=λ_=>rfl;have cC:∀x v,x=A v->dG v t->oL I (.mk k n o (w.map JE) (YE ks) l (YK os)) u=x->∃v,bX I (.mk k n o (w.map JE) (YE ks) l (YK os)) u=A v/\dG v t:=by rintro x v rfl hv hx;exact⟨v,by rw[uH,Ja];exact hx,hv⟩
  split at h;.rename_i c;cases h;refine cC _ t rfl rfl ?_;replace c:k=0:=c;grind
  .rename_i c0;replace c0:¬k=0:=c0;split at h
   .rename_i c1;replace c1:k=1:=c1;split at h
    .rename_i c;cases h;refine cC _ o rfl (Yh.1 c) ?_;rw[aa,Q0 c0,Q5 c1];show(if ZW (Z2 n) (Z2 n)=Y then A o else aT)=A o;rw[Zjn];try rfl
    .cases h
   .rename_i c1;replace c1:¬k=1:=c1;split at h
    .rename_i c2;replace c2:k=2:=c2;split at h
     .rename_i c;obtain⟨a,ha,hb⟩:=Qq.1 h;obtain⟨b,ao,e⟩:=Qf.1 hb;obtain⟨va,am,ea⟩:=ZtF ri.aS au.2.1 ae.1 ha;obtain⟨vb,al,eb⟩:=ZAP ri.X ao λq hq x hx=>h1 (d-1) q hq _ x (Zl ri.X q hq).2 ae.2.1 (uI s.1 _) hx;subst e;refine cC _ (.mk 1 va vb) rfl ((BV rfl c).2 ⟨ea,eb⟩) ?_;rw[aa,Q0 c0,Q0 c1,Q5 c2,Q5 (show(H.mk 1 a b).D=1 from rfl)];have q1:gK a (w.map JE) a=A va:=am;have q2:fD I b (YE ks) b=A vb:=al;show((gK a (w.map JE) a).bind λav=>(fD I b (YE ks) b).map λar=>H.mk 1 av ar)=_;grind
     .cases h
    .rename_i c2;replace c2:¬k=2:=c2;split at h
     .rename_i c3;replace c3:k=3:=c3;split at h
      .rename_i c;obtain⟨b,hb,e⟩:=Qf.1 h;unfold gX at hb;obtain⟨x,hx,hy⟩:=Qq.1 hb;split at hy
       .rename_i z0;cases hy;subst e;obtain⟨aC,e1,hX⟩:=h2 (d-1) t.X [] x (λq hq=>⟨_,Go.AM.bM ri.ops q hq⟩) ae.2.2 s.1 hx;obtain⟨aH,hY,e2⟩:=hX [] [];have hl:2<=l/\l<=9:=ri.V c3;have c:t.D=l:=c;rw[Qn]at e1;rw[Qj,<-e1,Qn]at hY;rw[Q7 z0]at e2;refine cC _ (.mk l [] aH) rfl ((Rc (a:=.mk l [] aH) (by show l≠0;omega) (by show l≠1;omega)).2 ⟨c.symm,(s.2 O O O).symm,by show Z6 aH=Z6 t.X;rw[<-e2];simp[Z6]⟩) ?_;rw[aa,Q0 c0,Q0 c1,Q0 c2,Q5 c3,Q5 (show(H.mk (W.mk k o n w ks l os).V [] x.1).D=l from rfl)];show(gX (ZV I (YK os) x.1 [])).map (λb=>H.mk l [] b)=_;rw[hY];try rfl
       .cases hy
      .cases h
     .cases h theorem Zmc:∀(ks:List (aW W))(d:Int),∀k∈ks,∀(t u:H),Z3 k.e d=Y->kG ks->eL t->bX I k.e t=A u->∃v,bX I (Zm k.e) u=A v/\dG v t|[],d,k,hk=>by cases hk|⟨a,e⟩::r,d,k,hk=>by have h1:=LH e d;have h2:=Zmc r d;intro t u hr s ht h;simp only[kG,nM]at s;grind theorem Zmb:∀(os:List (bI W))(d:Int)(aa bB:List H)(x:List H×List H),(∀o∈os,∃l,Zg l o d=Y)->jQ os->(∀t∈aa,eL t)->ZV I os aa bB=A x->∃aC,x.1=bB++aC/\∀z ab,∃aH,ZV I (YK os) (aC++z) ab=A (ab++aH,z)/\Z6 aH++Z6 x.2=Z6 aa
 |[],d,aa,bB,x,_,_,_,h=>by
  rw[ZV]at h;cases h;exact⟨[],by simp,λz ab=>⟨[],by rw[YK,ZV];simp,by rfl⟩⟩|o::s,d,aa,bB,x,hr,hg,ht,h=>by
  rw[ZV]at h;obtain⟨y,hy,hx⟩:=Qq.1 h;simp only[jQ]at hg;obtain⟨X0,e0,h0⟩:=ZzO o d aa bB y (hr o Q6) hg.1 ht hy;have ae:∀t∈y.2,eL t:=by
   obtain⟨m,hm⟩:=M8 (os:=[o]) (by rw[IW];exact hy);rw[hm];exact λt h=>ht t (Xb h)
  obtain⟨X1,e1,h1⟩:=Zmb s d y.2 y.1 x (λq hq=>hr q (Q4 _ hq)) hg.2 ae hx;refine⟨X0++X1,by grind,λz ab=>?_⟩;obtain⟨Y0,p0,q0⟩:=h0 (X1++z) ab;obtain⟨Y1,p1,q1⟩:=h1 z (ab++Y0);refine⟨Y0++Y1,?_,?_⟩;.rw[YK,ZV,Qg,p0,Qp,p1,Qg]
  .rw[JI,Qg,q1,q0]theorem ZzO:∀(o:bI W)(d:Int)(s bB:List H)(y:List H×List H),(∃l,Zg l o d=Y)->Jt o->(∀t∈s,eL t)->iQ I o s bB=A y->∃aC,y.1=bB++aC/\∀z aa,∃aH,iQ I (YD o) (aC++z) aa=A (aa++aH,z)/\Z6 aH++Z6 y.2=Z6 s
 |⟨k,n,l,e⟩,d,s,bB,y,⟨li,hr⟩,hg,ht,h=>by
  have ie:=LH e d (aR s 0 H.nil);have r1:=Z9e hr;simp only[Jt]at hg;rw[iQ]at h;split at h
  .rename_i c;subst c;split at h
   .rename_i c;cases h;refine⟨s.take (G n),rfl,λz aa=>⟨s.take (G n),?_,?_⟩⟩
    .have hl:J (s.take (G n))=G n:=by rw[QB];omega
     rw[ZDp,iQ,Q5 rfl,Q5 (by rw[Qi];omega),List.take_left' hl,List.drop_left' hl]
    .rw[<-JI,QM]
   .cases h
  .rename_i c0;split at h
   .rename_i c;subst c;split at h
    .rename_i c;cases h;refine⟨[],by simp,λz aa=>⟨l,?_,?_⟩⟩;.try rfl
     .rw[((yM l s).1 c).2,<-JI,QM]
    .cases h
   .rename_i c1;split at h
    .rename_i c;subst c;cases h;refine⟨l,rfl,λz aa=>⟨[],?_,by rfl⟩⟩;have ab:iI l (l++z)=Y:=by rw[yM];exact⟨by simp,by grind⟩
     rw[ZDo,iQ,Q0 O,Q5 rfl,Q5 ab,List.drop_left' rfl,Qj]
    .rename_i c2;split at h;.cases h
     .rename_i z0;have hk:k=3:=by rcases r1 with h|h|h|h<;>first|exact absurd h c0|exact absurd h c1|exact absurd h c2|exact h
      subst hk;obtain⟨u,hu,ey⟩:=Qf.1 h;cases ey;obtain⟨v,hv,ae⟩:=ie u (Yi hr rfl) hg.2.2.2 (uI ht 0) hu;refine⟨[u],rfl,λz aa=>⟨[v],?_,?_⟩⟩;.rw[ZDn,iQ,Q0 O,Q0 O,Q0 O,Q0 (by simp)];grind
      .cases s with|nil=>grind|cons a q=>show Z6 ([v]++q)=Z6 (a::q);simp only[Z6,Qw,Qn,Qu];rw[show Z2 v=Z2 a from ae]end
