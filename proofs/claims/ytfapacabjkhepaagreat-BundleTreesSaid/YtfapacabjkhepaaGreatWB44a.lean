import Derived.Test.YtfapacabjkhepaaGreatWCG25a
import Derived.Test.YtfapacabjkhepaaGreatWKG21a
import Derived.Test.YtfapacabjkhepaaGreatWKD20w
import Derived.Test.YtfapacabjkhepaaGreatWCL25b
set_option linter.unusedSimpArgs false
set_option linter.unusedVariables false
namespace Go.AM.YtfapacabjkhepaaGreat
open Go.AM Go.Proofs
noncomputable section
def Z1M(a:Edit × Edit × Unit):Prop:=Jm a.1/\Jm a.2.1
def Z7f(a:Edit × Edit × Unit):Nat:=8*(Zd a.1+Zd a.2.1)
def Z2z(a:Edit × Edit × Unit):V U:= .tup [(true,(enc .edit ((Yv a.1 a.2.1).1))),(false,[.bool ((Yv a.1 a.2.1).2)])]
def Z62:Fs U:=fs ZmU (fun a=> [Z1M a]) Z2z
def Z2d:ArgL (List Kid × List Kid × Unit):=(.cons (aSl .kid) (.cons (aSl .kid) .nil))
def Z3y(a:List Kid × List Kid × Unit):Prop:=Zck a.1/\Zck a.2.1
def Z95(a:List Kid × List Kid × Unit):Nat:=8*(Zp a.1+Zp a.2.1)+4
def Z4t(a:List Kid × List Kid × Unit):V U:= .tup [(false,[sU .kid (ofO (Zr KidOf.at_ (Z27 Yv) a.1 a.2.1)) .unk]),(false,[.bool ((Zr KidOf.at_ (Z27 Yv) a.1 a.2.1).isSome)])]
def Zna:Fs U:=fs Z2d (fun a=> [Z3y a]) Z4t
def Z2b:ArgL (List Kid × List Kid × Unit × Unit × Unit):=(.cons (aSl .kid) (.cons (aSl .kid) (.cons (aFn 166) (.cons (aFn 167) .nil))))
def Z3w(a:List Kid × List Kid × Unit × Unit × Unit):Prop:=Zck a.1/\Zck a.2.1
def Z93(a:List Kid × List Kid × Unit × Unit × Unit):Nat:=8*(Zp a.1+Zp a.2.1)+3
def Z2y(a:List Kid × List Kid × Unit × Unit × Unit):V U:= .tup [(false,[sU .kid (ofO (Zr KidOf.at_ (Z27 Yv) a.1 a.2.1)) .unk]),(false,[.bool ((Zr KidOf.at_ (Z27 Yv) a.1 a.2.1).isSome)])]
def Zn8:Fs U:=fs Z2b (fun a=> [Z3w a]) Z2y
def Z2a:ArgL (Kid × Kid × Unit):=(.cons (aEl .kid) (.cons (aEl .kid) .nil))
def Z3v(a:Kid × Kid × Unit):Prop:=ZuB a.1/\ZuB a.2.1
def Z92(a:Kid × Kid × Unit):Nat:=8*(Ym a.1+Ym a.2.1)+1
def Z3s(a:Kid × Kid × Unit):V U:= .tup [(true,(enc .kid ((Z27 Yv a.1 a.2.1).1))),(false,[.bool ((Z27 Yv a.1 a.2.1).2)])]
def Zn7:Fs U:=fs Z2a (fun a=> [Z3v a]) Z3s
def Z3x(a:List Op × List Op × Unit):Prop:=ZpU a.1/\ZpU a.2.1
def Z94(a:List Op × List Op × Unit):Nat:=8*(Zj a.1+Zj a.2.1)+40
def Z1L(a:List Op × List Op × Unit):V U:= .tup [(false,[sU .op (ofO (Z3k Yv a.1 a.2.1)) .unk]),(false,[.bool ((Z3k Yv a.1 a.2.1).isSome)])]
def Zn9:Fs U:=fs Zp8 (fun a=> [Z3x a]) Z1L
def Z29:ArgL (Piece × Unit):=(.cons (aEl .piece) .nil)
def Z3u(a:Piece × Unit):Prop:=PcOk a.1
def Z91(a:Piece × Unit):Nat:=8*(Zx a.1.p+Zx a.1.q)+1
def Z2x(a:Piece × Unit):V U:= .tup [(true,(enc .op ((JH Yv a.1).op))),(false,[.bool ((JH Yv a.1).is)]),(false,[.bool ((JH Yv a.1).ok)])]
def Zn6:Fs U:=fs Z29 (fun a=> [Z3u a]) Z2x
def Z24(N:Nat):List (FuncId × Fs U):=(104,fs ZmU (fun a=> [Z1M a,Z7f a < N]) Z2z) ::(142,fs Z2d (fun a=> [Z3y a,Z95 a < N]) Z4t) ::(165,fs Z2b (fun a=> [Z3w a,Z93 a < N]) Z2y) ::(167,fs Z2a (fun a=> [Z3v a,Z92 a < N]) Z3s) ::(143,fs Zp8 (fun a=> [Z3x a,Z94 a < N]) Z1L) ::(169,fs Z29 (fun a=> [Z3u a,Z91 a < N]) Z2x) ::[(32,Z1H),(37,Z1G),(47,YX),(141,Z1V),(166,Z1U),(168,Z1T)]
def ZtT:Zg U:=lvl [([2,3,4],[2,3,4]),([2,3,4,15],[2,3,4]),([4,5],[4]),([2,3,4,20],[2,3,4]),([4,5],[4]),([2,3,4,25],[2,3,4]),([2,4,6,7],[2,4,6]),([4,5],[4]),([2,3,4,41],[2,3,4]),([3,4,8,9],[3,4,8]),([4,5],[4]),([2,3,4,58],[2,3,4]),([4,5],[4]),([2,3,4,72],[2,3,4]),([2,3,4,10,11],[2,3,4]),([2,3,4,10,85],[2,3,4]),([4,5],[4]),([4,10,11,12],[4]),([4,5],[4]),([2,4,13,14],[2,4]),([4,5],[4])]
abbrev ZJn(N:Nat)(p:List Nat):=AW (Z2 (Z24 N)) Tryz.f104 ZtT p
theorem ZGe(N:Nat)(p q:Edit)(Q:QT)(h:∀ ab,ab=p->∀ u,u=q->∀ s,s=(p.new)->∀ aa,aa=(q.old)->∀ d,d=(Zq (ZO ab))->let z3:=Zr WEdit.at_ JW p.words q.words;let z2:=Zr KidOf.at_ (Z27 Yv) p.kids q.kids;let z1:=(Q .ret (L2 [pL 4,pB 5 false] [(.loc 4,zc1)]));let z0:=p.kind !=q.kind;(iB (p.kind==0) ((Q .ret (L2 [pL 4,pB 5 true] [(.loc 4,(enc .edit q))]))) ((iB (q.kind==0) ((Q .ret (L2 [pL 4,pB 5 true] [(.loc 4,(enc .edit p))]))) ((iB (p.kind==1) ((Z3O (u,s,()))/\(Q .ret (L2 [pL 4,pB 5 ((doE false u s).isSome)] [(.loc 4,([ci 1]++enc .tree p.old++enc .tree (Jn ((doE false u s).map Z3))++[.nils,.nils,ci 0,.nils]))]))) ((iB (q.kind==1) ((Z1O (ab,()))/\(Z3O (d,aa,()))/\(Q .ret (L2 [pL 4,pB 5 ((doE false d aa).isSome)] [(.loc 4,([ci 1]++enc .tree (Jn ((doE false d aa).map Z3))++enc .tree q.new++[.nils,.nils,ci 0,.nils]))]))) ((Tt (!z0))/\(Tt (!z0))/\(Tt (!z0))/\(Tt (!z0))/\(z0=false->(!z0)=true)/\(iB (bif z0 then true else (p.list !=q.list)) z1 ((iB (p.kind==2) ((Zlr (p.words,q.words,()))/\(iB (!(z3.isSome)) z1 ((Z3y (p.kids,q.kids,()))/\(Z95 (p.kids,q.kids,()) < N)/\(Q .ret (L2 [pL 4,pB 5 (z2.isSome)] [(.loc 4,[ci 2,ci 0,.nils,.nils,ci 0,.nils,.nils,sU .wedit (ofO z3) .unk,sU .kid (ofO z2) .unk,ci 0,.nils])]))))) ((Z3x (p.ops,q.ops,()))/\(Z94 (p.ops,q.ops,()) < N)/\(Q .ret (L2 [pL 4,pB 5 ((Z3k Yv p.ops q.ops).isSome)] [(.loc 4,[ci 3,ci 0,.nils,.nils,ci 0,.nils,.nils,.nils,.nils,ci p.list,sU .op (ofO (Z3k Yv p.ops q.ops)) .unk])]))))))))))))))):
  ZJn N [] (L2 [(0,.agg (enc .edit p)),(1,.agg (enc .edit q))] []) Q:=
 Eq.mpr V5 (h _ (Z8 _) _ (Z8 _) _ (Z0 _) _ (Z0 _) _ (Z8 _))
def ZzT(N:Nat)(p q:Edit):Prop:=AW (Z2 (Z24 N)) Tryz.f104 ZtT [] (Zi (ZmU.can (p,q,())) []) (EQ Tryz.f104 (Z2z (p,q,())) [])
abbrev ZB2:Prop:=∀ (N:Nat) (p:Edit) (q:Edit) (_:Unit),Z1M (p,q,())->Z7f (p,q,()) < N+1->ZzT N p q
abbrev ZJe(N:Nat)(p:List Nat):=AW (Z2 (Z24 N)) Tryz.f142 Ztu p
theorem ZFS(N:Nat)(p q:List Kid)(Q:QT)(h:let z0:=Zr KidOf.at_ (Z27 Yv) p q;((Z3w (p,q,(),(),()))/\(Z93 (p,q,(),(),()) < N)/\(Q .ret (L2 [(4,.c (sU .kid (ofO z0) .unk)),pB 5 (z0.isSome)] [])))):
  ZJe N [] (L2 [(0,.c (sU .kid p .unk)),(1,.c (sU .kid q .unk))] []) Q:=
 Eq.mpr V5 h
def Zzx(N:Nat)(p q:List Kid):Prop:=AW (Z2 (Z24 N)) Tryz.f142 Ztu [] (Zi (Z2d.can (p,q,())) []) (EQ Tryz.f142 (Z4t (p,q,())) [])
abbrev ZAY:Prop:=∀ (N:Nat) (p:List Kid) (q:List Kid) (_:Unit),Z3y (p,q,())->Z95 (p,q,()) < N+1->Zzx N p q
def Zoa:Zg U:=lvk [([0,1,2,3],[]),([0,1,2,3,(10,[.own .kid])],[]),([0,1,2,3,10,20],[]),([0,1,2,3,10,11,12],[11]),([0,1,2,3,10,11,33],[11]),([8,9],[]),([0,1,2,3,(10,[.own .kid])],[]),([0,1,2,3,10,42],[]),([0,1,2,3,(10,[.own .kid])],[]),([0,1,2,3,10,72],[]),([0,1,2,3,(10,[.own .kid])],[]),([8,9],[])]
def Z2l(p q:List Kid)(at_ one:Unit)(x0 h d:List Kid):LSt U:=(L2 [(0,.c (sU .kid x0 .unk)),(1,.c (sU .kid h .unk)),(2,.fn 166),(3,.fn 167),(10,.c (sU .kid d (.own (.e 10 0))))] [])
abbrev ZFp(N:Nat)(p:List Nat):=AW (Z2 (Z24 N)) Tryz.f165 Zoa p
abbrev ZH1(N:Nat)(p:List Nat):=SW (Z2 (Z24 N)) Tryz.f165 Zoa p
theorem ZFG(N:Nat)(p q:List Kid)(at_ one:Unit)(Q:QT)(h:(Zl (ZFp N [1,1,0,0,0]) (Z2l p q at_ one p q []) (xB 0 (ZH1 N [1,1,1] Q)))):
  ZFp N [] (L2 [(0,.c (sU .kid p .unk)),(1,.c (sU .kid q .unk)),(2,.fn 166),(3,.fn 167)] []) Q:=
 Eq.mpr V5 h
theorem Zrq(N:Nat)(p q:List Kid)(at_ one:Unit)(x0 x1 u:List Kid)(N0:NT)(Q:QT)(h:∀ af,af=(List.getD x0 (Int.toNat 0) (KidOf.mk 0 Edit.nil))->∀ ae,ae=(List.getD x1 (Int.toNat 0) (KidOf.mk 0 Edit.nil))->∀ d,d=af->∀ s,s=ae->∀ ab,ab=((Z27 Yv d s).1)->let z3:=decide ((0:Int) < (x0.length:Int));let z2:=((x1.length:Int):Int)==0;let z1:=((x0.length:Int):Int)==0;let z0:=(!z2) && z3;(Tt (!z3))/\(Tt (!z3))/\(z3=false->(!z3)=true)/\(iB (bif z3 then true else (decide ((0:Int) < (x1.length:Int)))) ((Tt (!z2))/\(Tt (!z2))/\(Tt (!z2))/\(Tt z0)/\(z0=true->(0:Int)<=0/\0 < (x0.length:Int))/\(Tt z0)/\(Tt z0)/\(Tt z0)/\(z0=true->ZaI (d,()))/\(Tt z0)/\(z0=true->(0:Int)<=0/\0 < (x1.length:Int))/\(Tt z0)/\(Tt z0)/\(Tt z0)/\(z0=true->ZaI (s,()))/\(Tt z0)/\(Tt z0)/\((!z2)=true->(True->(!z2)=true))/\((!z2)=true->(z3=true->z0=true))/\(z2=false->(!z2)=true)/\(iB (bif z2 then true else (bif z3 then (decide (d.at_ < s.at_)) else false)) (((0:Int)<=0/\0 < (x0.length:Int))/\((u.length+([d]).length)*208<=140737488355328)/\((0:Int)<=1/\1<=(x0.length:Int))/\(N0 (Z2l p q at_ one (List.drop (Int.toNat 1) x0) x1 (u++([d]))))) ((Tt (!z1))/\((!z1)=true->(0:Int)<=0/\0 < (x1.length:Int))/\(Tt (!z1))/\(Tt (!z1))/\(Tt (!z1))/\((!z1)=true->ZaI (s,()))/\(Tt (!z1))/\((!z1)=true->(0:Int)<=0/\0 < (x0.length:Int))/\(Tt (!z1))/\(Tt (!z1))/\(Tt (!z1))/\((!z1)=true->ZaI (d,()))/\(Tt (!z1))/\(Tt (!z1))/\(z1=false->(!z1)=true)/\(iB (bif z1 then true else (decide (s.at_ < d.at_))) (((0:Int)<=0/\0 < (x1.length:Int))/\((u.length+([s]).length)*208<=140737488355328)/\((0:Int)<=1/\1<=(x1.length:Int))/\(N0 (Z2l p q at_ one x0 (List.drop (Int.toNat 1) x1) (u++([s]))))) (((0:Int)<=0/\0 < (x0.length:Int))/\((0:Int)<=0/\0 < (x1.length:Int))/\(Z3v (d,s,()))/\(Z92 (d,s,()) < N)/\(iB (!((Z27 Yv d s).2)) ((Q .ret (L2 [(8,.c (.nils)),pB 9 false] []))) (((u.length+([ab]).length)*208<=140737488355328)/\((0:Int)<=1/\1<=(x0.length:Int))/\((0:Int)<=1/\1<=(x1.length:Int))/\(N0 (Z2l p q at_ one (List.drop (Int.toNat 1) x0) (List.drop (Int.toNat 1) x1) (u++([ab]))))))))))) ((Q .ret (L2 [(8,.c (sU .kid u (.own (.e 8 0)))),pB 9 true] []))))):
  ZFp N [1,1,0,0,0] (Z2l p q at_ one x0 x1 u) (xT N0 (xB 0 (ZH1 N [1,1,1] Q))):=
 Eq.mpr V5 (h _ rfl _ rfl _ (ZdT _) _ (ZdT _) _ (ZdT _))
def Zzl(N:Nat)(p q:List Kid)(at_ one:Unit):Prop:=AW (Z2 (Z24 N)) Tryz.f165 Zoa [] (Zi (Z2b.can (p,q,at_,one,())) []) (EQ Tryz.f165 (Z2y (p,q,at_,one,())) [])
abbrev ZAW:Prop:=∀ (N:Nat) (p:List Kid) (q:List Kid) (at_:Unit) (one:Unit) (_:Unit),Z3w (p,q,at_,one,())->Z93 (p,q,at_,one,()) < N+1->Zzl N p q at_ one
def Ztv:Zg U:=lvl [([2,3,4],[2,3,4]),([2,4,6,7],[2,4,6]),([4,5],[4])]
abbrev ZJ9(N:Nat)(p:List Nat):=AW (Z2 (Z24 N)) Tryz.f167 Ztv p
theorem ZFE(N:Nat)(a b:Kid)(Q:QT)(h:∀ s,s=(a.e)->∀ d,d=(b.e)->((Z1M (s,d,()))/\(Z7f (s,d,()) < N)/\(Q .ret (L2 [pL 4,pB 5 ((Yv s d).2)] [(.loc 4,([ci a.at_]++enc .edit ((Yv s d).1)))])))):
  ZJ9 N [] (L2 [(0,.agg (enc .kid a)),(1,.agg (enc .kid b))] []) Q:=
 Eq.mpr V5 (h _ (Z8 _) _ (Z8 _))
def Zzj(N:Nat)(a b:Kid):Prop:=AW (Z2 (Z24 N)) Tryz.f167 Ztv [] (Zi (Z2a.can (a,b,())) []) (EQ Tryz.f167 (Z3s (a,b,())) [])
abbrev ZAV:Prop:=∀ (N:Nat) (a:Kid) (b:Kid) (_:Unit),Z3v (a,b,())->Z92 (a,b,()) < N+1->Zzj N a b
def Zoc:Zg U:=lvk [([0,1],[]),([6,7],[]),([6,21],[]),([4,5],[]),([6,8],[]),([(8,[.own .op]),22,23,24],[]),([8,22,23,24,25],[]),([8,10,22,23,24],[10]),([8,11,12,13,22,23,24],[11]),([8,11,12,22,23,24,35],[11]),([4,5],[]),([8,11,22,23,24,36],[11]),([8,22,23,24],[]),([(8,[.own .op]),22,23,24],[]),([4,5],[])]
def Z46(p q:List Op)(d:Int)(h:List Op):LSt U:=(L2 [(8,.c (sU .op h (.own (.e 8 0)))),(22,.c (sU .piece ((Yo 1 2 p q []).1) .unk)),pI 23 (((Yo 1 2 p q []).1).length:Int),pI 24 d] [])
abbrev ZFr(N:Nat)(p:List Nat):=AW (Z2 (Z24 N)) Tryz.f143 Zoc p
abbrev ZH3(N:Nat)(p:List Nat):=SW (Z2 (Z24 N)) Tryz.f143 Zoc p
theorem ZFR(N:Nat)(p q:List Op)(Q:QT)(h:((Zlm (p,q,()))/\(iB (!((Yo 1 2 p q []).2.1)) ((Q .ret (L2 [(4,.c (.nils)),pB 5 false] []))) ((Zl (ZFr N [1,1,1,1,0,1,0,0]) (Z46 p q 0 []) (xB 0 (ZH3 N [1,1,1,1,1] Q))))))):
  ZFr N [] (L2 [(0,.c (sU .op p .unk)),(1,.c (sU .op q .unk))] []) Q:=
 Eq.mpr V5 h
theorem Zru(N:Nat)(p q:List Op)(d:Int)(x8:List Op)(N0:NT)(Q:QT)(h:∀ ab,ab=(List.getD ((Yo 1 2 p q []).1) d.toNat (Piece.mk 0 Op.nil Op.nil))->∀ s,s=ab->∀ u,u=((JH Yv s).op)->(iB (decide (d < (((Yo 1 2 p q []).1).length:Int))) (((0:Int)<=d/\d < (((Yo 1 2 p q []).1).length:Int))/\((Z3u (s,()))/\(Z91 (s,()) < N)/\(iB (!((JH Yv s).ok)) ((Q .ret (L2 [(4,.c (.nils)),pB 5 false] []))) ((iB ((JH Yv s).is) (((x8.length+([u]).length)*240<=140737488355328)/\((InR (d+1))/\(N0 (Z46 p q (d+1) (x8++([u])))))) ((InR (d+1))/\(N0 (Z46 p q (d+1) x8)))))))) ((Q .ret (L2 [(4,.c (sU .op x8 (.own (.e 4 0)))),pB 5 true] []))))):
  ZFr N [1,1,1,1,0,1,0,0] (Z46 p q d x8) (xT N0 (xB 0 (ZH3 N [1,1,1,1,1] Q))):=
 Eq.mpr V5 (h _ rfl _ (Zli _) _ (J5 _))
def Zzw(N:Nat)(p q:List Op):Prop:=AW (Z2 (Z24 N)) Tryz.f143 Zoc [] (Zi (Zp8.can (p,q,())) []) (EQ Tryz.f143 (Z1L (p,q,())) [])
abbrev ZAX:Prop:=∀ (N:Nat) (p:List Op) (q:List Op) (_:Unit),Z3x (p,q,())->Z94 (p,q,()) < N+1->Zzw N p q
def Zo9:Zg U:=lvl [([1,2],[1,2]),([1,2,13],[1,2]),([2,3,4],[2]),([1,2,30],[1,2]),([2,3,4],[2]),([1,2,42],[1,2]),([1,2,55,56,57],[1,2]),([1,2,55,56,57,58],[1,2]),([1,2,5,6,55,56,57],[1,2,6]),([1,2,55,56,57,70],[1,2]),([2,3,4],[2]),([1,2,55,56,57],[1,2]),([2,3,4],[2]),([1,2,74],[1,2]),([2,7,8],[2,7]),([2,3,4],[2]),([1,2,95],[1,2]),([2,9,10],[2,9]),([2,3,4],[2]),([2,11,12],[2,11]),([2,3,4],[2])]
def Z6C(x:Piece)(d:Int):LSt U:=(L2 [pL 1,pL 2,(55,.c (sU .tree x.p.l .unk)),pI 56 (x.p.l.length:Int),pI 57 d] [(.loc 1,(enc .piece x)),(.loc 2,zc2)])
abbrev ZFo(N:Nat)(p:List Nat):=AW (Z2 (Z24 N)) Tryz.f169 Zo9 p
abbrev Zz9(N:Nat)(p:List Nat):=SW (Z2 (Z24 N)) Tryz.f169 Zo9 p
theorem ZFC(N:Nat)(x:Piece)(Q:QT)(h:∀ s,s=(x.p.e)->∀ d,d=(x.q.e)->∀ ah,ah=(List.getD x.p.l (Int.toNat 0) Tree.nil)->∀ ai,ai=(List.getD x.q.l (Int.toNat 0) Tree.nil)->∀ aa,aa=ah->∀ ab,ab=ai->∀ u,u=(Zq (ZO s))->∀ ae,ae=(Jn ((doE false d aa).map Z3))->∀ af,af=(Jn ((doE false u ab).map Z3))->let z0:=(!(x.of==1)) && (x.of==0);((Tt (!(x.of==1)))/\(Tt (!(x.of==1)))/\(Tt (!(x.of==1)))/\(Tt z0)/\(Tt z0)/\(Tt z0)/\((!(x.of==1))=true->(True->(!(x.of==1))=true))/\((!(x.of==1))=true->((x.of==0)=true->z0=true))/\((x.of==1)=false->(!(x.of==1))=true)/\(iB (bif (x.of==1) then true else (bif (x.of==0) then (x.q.kind==0) else false)) ((Q .ret (L2 [pL 2,pB 3 true,pB 4 true] [(.loc 2,(enc .op x.p))]))) ((Tt (!(x.of==2)))/\(Tt (!(x.of==2)))/\(Tt (!(x.of==2)))/\((x.of==2)=false->(!(x.of==2))=true)/\(iB (bif (x.of==2) then true else (x.p.kind==0)) ((Q .ret (L2 [pL 2,pB 3 true,pB 4 true] [(.loc 2,(enc .op x.q))]))) ((Tt (x.p.kind==2))/\(Tt (x.p.kind==2))/\(Tt (x.p.kind==2))/\(Tt (x.p.kind==2))/\(iB (bif (x.p.kind==2) then (x.q.kind==1) else false) ((Zl (ZFo N [1,0,0,1,1,1,1,1,0,0,1,0,0]) (Z6C x 0) (xB 1 (Zz9 N [1,0,0,1,1,1,1,1,0,1] (xB 0 (Zz9 N [1,1] Q)))))) ((iB (x.p.kind==2) (((0:Int)<=0/\0 < (x.p.l.length:Int))/\(Z3O (d,aa,()))/\(Q .ret (L2 [pL 2,pB 3 true,pB 4 ((doE false d aa).isSome)] [(.loc 2,[ci 2,ci 0,sU .tree ([ae]) .full,ci 0,ci 0,.nils,.nils,ci 0,.nils,.nils,.nils,.nils,ci 0,.nils])]))) ((iB (x.q.kind==1) ((Z1O (s,()))/\((0:Int)<=0/\0 < (x.q.l.length:Int))/\(Z3O (u,ab,()))/\(Q .ret (L2 [pL 2,pB 3 true,pB 4 ((doE false u ab).isSome)] [(.loc 2,[ci 1,ci 0,sU .tree ([af]) .full,ci 0,ci 0,.nils,.nils,ci 0,.nils,.nils,.nils,.nils,ci 0,.nils])]))) ((Z1M (s,d,()))/\(Z7f (s,d,()) < N)/\(Q .ret (L2 [pL 2,pB 3 true,pB 4 ((Yv s d).2)] [(.loc 2,([ci 3,ci 0,.nils]++enc .edit ((Yv s d).1)))])))))))))))))):
  ZFo N [] (L2 [(0,.agg (enc .piece x))] []) Q:=
 Eq.mpr V5 (h _ (Z8 _) _ (Z8 _) _ rfl _ rfl _ (Z0 _) _ (Z0 _) _ (Z8 _) _ (Z0 _) _ (Z0 _))
theorem Zrp(N:Nat)(x:Piece)(d:Int)(N0:NT)(Q:QT)(h:∀ ab,ab=(x.p.l.getD d.toNat Tree.nil)->∀ aa,aa=(x.q.l.getD d.toNat Tree.nil)->∀ s,s=ab->∀ u,u=aa->(iB (decide (d < (x.p.l.length:Int))) (((0:Int)<=d/\d < (x.p.l.length:Int))/\(((0:Int)<=d/\d < (x.q.l.length:Int))/\(Z39 (s,u,()))/\(iB (!(Yd (Z3 s) (Z3 u))) ((Q .ret (L2 [pL 2,pB 3 false,pB 4 false] [(.loc 2,zc2)]))) ((InR (d+1))/\(N0 (Z6C x (d+1))))))) ((Q .ret (L2 [pL 2,pB 3 false,pB 4 true] [(.loc 2,zc2)]))))):
  ZFo N [1,0,0,1,1,1,1,1,0,0,1,0,0] (Z6C x d) (xT N0 (xB 1 (Zz9 N [1,0,0,1,1,1,1,1,0,1] (xB 0 (Zz9 N [1,1] Q))))):=
 Eq.mpr V5 (h _ rfl _ rfl _ (Z0 _) _ (Z0 _))
def Zzh(N:Nat)(x:Piece):Prop:=AW (Z2 (Z24 N)) Tryz.f169 Zo9 [] (Zi (Z29.can (x,())) []) (EQ Tryz.f169 (Z2x (x,())) [])
abbrev ZAU:Prop:=∀ (N:Nat) (x:Piece) (_:Unit),Z3u (x,())->Z91 (x,()) < N+1->Zzh N x
theorem Zto(c32:CT 32 Z1H)(c37:CT 37 Z1G)(c47:CT 47 YX)(ZDq:CT 141 Z1V)(ZDf:CT 166 Z1U)(ZDe:CT 168 Z1T)(ZDQ:ZB2)(ZDO:ZAY)(ZDM:ZAW)(ZDL:ZAV)(ZDN:ZAX)(ZDK:ZAU):
  CT 104 Z62/\CT 142 Zna/\CT 165 Zn8/\CT 167 Zn7/\CT 143 Zn9/\CT 169 Zn6:=by
 have af:FK 104:=⟨Tryz.f104,Tryz.func104,rfl,rfl⟩
 have ae:FK 142:=⟨Tryz.f142,Tryz.func142,rfl,rfl⟩
 have aa:FK 165:=⟨Tryz.f165,Tryz.func165,rfl,rfl⟩
 have u:FK 167:=⟨Tryz.f167,Tryz.func167,rfl,rfl⟩
 have ah:FK 143:=⟨Tryz.f143,Tryz.func143,rfl,rfl⟩
 have s:FK 169:=⟨Tryz.f169,Tryz.func169,rfl,rfl⟩
 have d:∀ N,CT 104 (fs ZmU (fun a=> [Z1M a,Z7f a < N]) Z2z)/\CT 142 (fs Z2d (fun a=> [Z3y a,Z95 a < N]) Z4t)/\CT 165 (fs Z2b (fun a=> [Z3w a,Z93 a < N]) Z2y)/\CT 167 (fs Z2a (fun a=> [Z3v a,Z92 a < N]) Z3s)/\CT 143 (fs Zp8 (fun a=> [Z3x a,Z94 a < N]) Z1L)/\CT 169 (fs Z29 (fun a=> [Z3u a,Z91 a < N]) Z2x):=by
  intro N
  induction N with
  | zero=> exact ⟨YQ af,YQ ae,YQ aa,YQ u,YQ ah,YQ s⟩
  | succ N ih=>
   have kn:=Z03 (l:=Z24 N) ⟨ih.1,ih.2.1,ih.2.2.1,ih.2.2.2.1,ih.2.2.2.2.1,ih.2.2.2.2.2,c32,c37,c47,ZDq,ZDf,ZDe,trivial⟩
   exact ⟨ZC (Γ:=Z2 (Z24 N)) Zk rfl kn ZtT Tryz.func104 rfl rfl (fun a=> by show 2<=_;decide) (fun ⟨p,q,_⟩ h=> ZDQ N p q () h.1 h.2.1),
    ZC (Γ:=Z2 (Z24 N)) Zk rfl kn Ztu Tryz.func142 rfl rfl (fun a=> by show 2<=_;decide) (fun ⟨p,q,_⟩ h=> ZDO N p q () h.1 h.2.1),
    ZC (Γ:=Z2 (Z24 N)) Zk rfl kn Zoa Tryz.func165 rfl rfl (fun a=> by show 4<=_;decide) (fun ⟨p,q,at_,one,_⟩ h=> ZDM N p q at_ one () h.1 h.2.1),
    ZC (Γ:=Z2 (Z24 N)) Zk rfl kn Ztv Tryz.func167 rfl rfl (fun a=> by show 2<=_;decide) (fun ⟨a,b,_⟩ h=> ZDL N a b () h.1 h.2.1),
    ZC (Γ:=Z2 (Z24 N)) Zk rfl kn Zoc Tryz.func143 rfl rfl (fun a=> by show 2<=_;decide) (fun ⟨p,q,_⟩ h=> ZDN N p q () h.1 h.2.1),
    ZC (Γ:=Z2 (Z24 N)) Zk rfl kn Zo9 Tryz.func169 rfl rfl (fun a=> by show 1<=_;decide) (fun ⟨x,_⟩ h=> ZDK N x () h.1 h.2.1)⟩
 exact ⟨YR af fun N=> (d N).1,YR ae fun N=> (d N).2.1,YR aa fun N=> (d N).2.2.1,YR u fun N=> (d N).2.2.2.1,YR ah fun N=> (d N).2.2.2.2.1,YR s fun N=> (d N).2.2.2.2.2⟩
end
theorem YS{n:Nat}{rs:List ResultVar}{r r':V U}{X:List (List (C U))}{e:AExit}{s:LSt U}(hr:r=r')(h:ZF cfg n rs r' X e s):ZF cfg n rs r X e s:=by grind
theorem ZDg:Contract Tryz.prog cfg 164 Z8f:=by
 refine ZxD Zif ?_
 intro p q _ hp
 obtain ⟨rp,d⟩:=hp
 dsimp only at rp d
 have A:=(ZyZ rp.2.1 d.2.1).1
 refine ZFH _ _ _ ?_
 (simp only [iB,vcT,vcS])
 have u:(0:Int)<=0/\(0:Int) < 18446744073709551616:=V2
 refine ⟨⟨u,rp.2.2.2,A⟩,⟨u,d.2.2.1,A⟩,fun h=> ?_,fun h=> ⟨⟨d.2.2.1,rp.2.2.1,rp.2.1⟩,⟨rp.2.2.2,d.2.2.2,d.2.1⟩,?_⟩⟩
 .have s:Zid p q=false:=decide_eq_false h
  refine YS (r':= .tup [(true,enc .wedit (⟨0,0,0,0⟩:WEdit)),(false,[.bool false])]) ?_ V1
  simp only [Zhq,JW]
  rw [s]
  try rfl
 .have s:Zid p q=true:=decide_eq_true h
  refine YS (r':= .tup [(true,enc .wedit (⟨p.at_,orM p.mask q.mask,mix q.old p.old p.mask,mix p.new q.new q.mask⟩:WEdit)),(false,[.bool true])]) ?_ V1
  simp only [Zhq,JW]
  rw [s]
  try rfl
theorem ZDh:Contract Tryz.prog cfg 163 Z8g:=by
 refine ZxE ?_
 intro w _ _
 exact ZFI _ _ (Y3 rfl rfl)
theorem ZDf:Contract Tryz.prog cfg 166 Z1U:=by
 refine ZxC ?_
 intro w _ _
 exact ZFF _ _ (Y3 rfl rfl)
theorem ZeD{α:Type}{at_:α->Int}{one:α->α->α × Bool}{p q:List α}(h:Zr at_ one p q=none):(Zr at_ one p q).isSome=false/\ofO (Zr at_ one p q)=[]:=by rw [h];trivial
structure MInv {α:Type} (at_:α->Int) (one:α->α->α × Bool) (p q x0 x1 out:List α):Prop where
 eq:Zr at_ one p q=(Zr at_ one x0 x1).map (out++·)
 len:out.length+x0.length+x1.length<=p.length+q.length
theorem MInv.left{α:Type}{at_:α->Int}{one:α->α->α × Bool}{p q d out:List α}{a:α}{x0:List α}(h:MInv at_ one p q (a ::x0) d out)(hb:∀ b∈d.head?,at_ a < at_ b):MInv at_ one p q x0 d (out++[a]):=by
 refine ⟨?_,by have:=h.len;grind⟩
 rw [h.eq]
 cases d with
 | nil=>
  rw [Zr]
  have:Zr at_ one x0 []=some x0:=by cases x0 <;> rw [Zr]
  grind
 | cons b r=>
  rw [Zr,if_pos (hb b (by simp))]
  cases Zr at_ one x0 (b ::r) <;> simp
theorem MInv.right{α:Type}{at_:α->Int}{one:α->α->α × Bool}{p q x0 out:List α}{b:α}{d:List α}(h:MInv at_ one p q x0 (b ::d) out)(hb:∀ a∈x0.head?,at_ b < at_ a):MInv at_ one p q x0 d (out++[b]):=by
 refine ⟨?_,by have:=h.len;grind⟩
 rw [h.eq]
 cases x0 with
 | nil=> rw [Zr,Zr];simp
 | cons a r=>
  have:=hb a (by simp)
  rw [Zr,JC,if_pos this]
  cases Zr at_ one (a ::r) d <;> simp
theorem MInv.both{α:Type}{at_:α->Int}{one:α->α->α × Bool}{p q x0 d out:List α}{a b:α}(h:MInv at_ one p q (a ::x0) (b ::d) out)(e:at_ a=at_ b):
  ((one a b).2=true->MInv at_ one p q x0 d (out++[(one a b).1]))/\((one a b).2=false->Zr at_ one p q=none):=by
 refine ⟨fun hc=> ⟨?_,by have:=h.len;grind⟩,fun hc=> ?_⟩
 .rw [h.eq,Zr,JC,JC,if_pos hc]
  cases Zr at_ one x0 d <;> simp
 .rw [h.eq,Zr,JC,JC,if_neg (by grind)]
  try rfl
theorem MInv.done{α:Type}{at_:α->Int}{one:α->α->α × Bool}{p q out:List α}(h:MInv at_ one p q [] [] out):Zr at_ one p q=some out:=by
 rw [h.eq,Zr];simp
theorem MInv.left'{α:Type}{at_:α->Int}{one:α->α->α × Bool}{p q x0 d out:List α}(z:α)(h:MInv at_ one p q x0 d out)(hx:0 < x0.length)(hb:d.length=0\/at_ (x0.getD 0 z) < at_ (d.getD 0 z)):
  MInv at_ one p q (x0.drop 1) d (out++[x0.getD 0 z]):=by
 cases x0 with
 | nil=> simp at hx
 | cons a r=>
  refine h.left fun b u=> ?_
  cases d with
  | nil=> simp at u
  | cons c s=>
   grind
theorem MInv.right'{α:Type}{at_:α->Int}{one:α->α->α × Bool}{p q x0 d out:List α}(z:α)(h:MInv at_ one p q x0 d out)(hx:0 < d.length)(hb:x0.length=0\/at_ (d.getD 0 z) < at_ (x0.getD 0 z)):
  MInv at_ one p q x0 (d.drop 1) (out++[d.getD 0 z]):=by
 cases d with
 | nil=> simp at hx
 | cons a r=>
  refine h.right fun b u=> ?_
  cases x0 with
  | nil=> simp at u
  | cons c s=>
   grind
theorem MInv.both'{α:Type}{at_:α->Int}{one:α->α->α × Bool}{p q x0 d out:List α}(z:α)(h:MInv at_ one p q x0 d out)(h0:0 < x0.length)(h1:0 < d.length)(e:at_ (x0.getD 0 z)=at_ (d.getD 0 z)):
  ((one (x0.getD 0 z) (d.getD 0 z)).2=true->MInv at_ one p q (x0.drop 1) (d.drop 1) (out++[(one (x0.getD 0 z) (d.getD 0 z)).1]))/\((one (x0.getD 0 z) (d.getD 0 z)).2=false->Zr at_ one p q=none):=by
 cases x0 with
 | nil=> simp at h0
 | cons a r=>
  cases d with
  | nil=> simp at h1
  | cons b s=> exact h.both e
theorem ZDi:Contract Tryz.prog cfg 162 Z8h:=by
 refine ZxF ZDh ZDg ?_
 rintro p q ⟨⟩ ⟨⟩ _ hp
 obtain ⟨⟨rp,lp⟩,rq,lq⟩:=hp
 dsimp only at rp lp rq lq
 refine ZFJ p q () () _ ?_
 refine Z4 (ι:=List WEdit × List WEdit × List WEdit) (fun x=> Z2m p q () () x.1 x.2.1 x.2.2) (fun x=> MInv WEdit.at_ JW p q x.1 x.2.1 x.2.2/\(∀ w∈x.1,Z2T w)/\∀ w∈x.2.1,Z2T w) (fun x=> x.1.length+x.2.1.length) (p,q,[]) rfl
  ⟨⟨by simp_all,by simp⟩,rp,rq⟩ ?_
 rintro ⟨x0,s,d⟩ ⟨inv,r0,r1⟩
 dsimp only at inv r0 r1
 have aj:=inv.len
 refine Zrr p q () () _ _ _ _ _ ?_
 intro y1 h1 y2 h2 y3 h3 y4 u y5 h5
 subst h3 u
 (simp only [iB,vcT,vcS])
 have h3:y3=x0.getD 0 ⟨0,0,0,0⟩:=h1
 have u:y4=s.getD 0 ⟨0,0,0,0⟩:=h2
 have d0:∀ w∈x0.drop 1,Z2T w:=fun w hw=> r0 w (X7 hw)
 have d1:∀ w∈s.drop 1,Z2T w:=fun w hw=> r1 w (X7 hw)
 refine ⟨fun aq=> ⟨fun h=> ⟨V0,V0⟩,fun _=> trivial,fun h=> ⟨V0,V0⟩,fun _=> trivial,fun g1 g2=> ⟨g1,g2⟩,fun hA=> ?_,fun hB=> ?_⟩,fun hE=> ?_⟩
 .refine ⟨⟨V0,V0⟩,by grind,⟨V0,V0⟩,(x0.drop 1,s,d++[y3]),rfl,⟨?_,d0,r1⟩,by grind⟩
  rw [h3]
  exact inv.left' _ V0 (by grind)
 .refine ⟨fun h=> ⟨V0,V0⟩,fun _=> trivial,fun h=> ⟨V0,V0⟩,fun _=> trivial,fun hC=> ?_,fun hD=> ?_⟩
  .refine ⟨⟨V0,V0⟩,by grind,⟨V0,V0⟩,(x0,s.drop 1,d++[y4]),rfl,⟨?_,r0,d1⟩,by grind⟩
   rw [u]
   exact inv.right' _ V0 (by grind)
  .have hb:=inv.both' ⟨0,0,0,0⟩ V0 V0 (by grind)
   rw [<-h3,<-u] at hb
   have m3:Z2T y3:=by rw [h3];exact r0 _ (Zb V0 _)
   have m4:Z2T y4:=by rw [u];exact r1 _ (Zb V0 _)
   refine ⟨⟨V0,V0⟩,⟨V0,V0⟩,⟨m3,m4⟩,fun hc=> ?_,fun hc=> ?_⟩
   .have e:=ZeD (hb.2 hc)
    refine YS (r':= .tup [(false,[.slice (U:=U) .wedit [] .unk]),(false,[.bool false])]) ?_ V1
    simp only [Zhr]
    rw [e.1,e.2]
   .refine ⟨by grind,⟨V0,V0⟩,⟨V0,V0⟩,(x0.drop 1,s.drop 1,d++[y5]),rfl,⟨?_,d0,d1⟩,by grind⟩
    grind
 .have e0:x0=[]:=Q3 V0
  have e1:s=[]:=Q3 V0
  subst e0 e1
  have e:=inv.done
  refine YS (r':= .tup [(false,[.slice (U:=U) .wedit d .unk]),(false,[.bool true])]) ?_ V1
  simp only [Zhr]
  rw [e]
  try rfl
theorem ZDq:Contract Tryz.prog cfg 141 Z1V:=by
 refine ZxN ZDi ?_
 intro p q _ d
 exact ZFT _ _ _ ⟨d,V1⟩
theorem ZAt(e:Edit):e.words.length+e.ops.length+Zp e.kids+Zj e.ops+Zh e.old+Zh e.new+1=Zd e:=by obtain ⟨k,o,n,w,ks,l,os⟩:=e;simp only [Zd,Edit.words_mk,Edit.ops_mk,Edit.kids_mk,Edit.old_mk,Edit.new_mk];omega
theorem Zo8(t:Tree):1<=Zh t:=by obtain ⟨k,w,ks⟩:=t;simp only [Zh];omega
theorem Z6d{e:Edit}(h:Jm e):Zd e<=9000000000:=X2 (Z9c e) h.1
theorem Zcv{e:Edit}(h:Jm e):Z1O (e,())/\Jm (Zq (ZO e)):=by
 have u:=Z6d h
 obtain ⟨m,r,d,s⟩:=h
 refine ⟨⟨by grind,d,s⟩,?_,?_,d,Yi _ _ (JN _ _ s)⟩
 .have:=Z4G (ZO e)
  rw [Zal] at this
  omega
 .exact J1 _ d (JN _ _ s) (Z68 e r)
theorem Zap{e:Edit}{t:Tree}(h:Jm e)(hm:Zh t<=100000000000)(ht:rng t):Z3O (e,t,()):=by
 have:=Z6d h
 have:=h.1
 exact ⟨⟨by grind,h.2⟩,by grind,ht⟩
theorem ZnO{e:Edit}(h:Jm e):Zck e.kids:=by
 obtain ⟨m,r,d,s⟩:=h
 have:=Z2R e
 exact ⟨V0,(YD r).2.2.2.1,fun k u=> ⟨_,(ZP (ZH s).kids k u).2⟩⟩
theorem ZnN{e:Edit}(h:Jm e):ZpU e.ops:=by
 obtain ⟨m,r,d,s⟩:=h
 have:=Z2R e
 exact ⟨V0,(YD r).2.2.2.2,fun o u=> ⟨_,_,rightOs_mem (ZH s).ops u⟩⟩
theorem ZDQ:ZB2:=by
 intro N p q _ hp hN
 obtain ⟨op,u⟩:=hp
 dsimp only at op u
 have av:8*(Zd p+Zd q) < N+1:=hN
 obtain ⟨dp,rp⟩:=op.2.2
 obtain ⟨dq,rq⟩:=u.2.2
 have d:=ZqU rp rq
 unfold JG at d
 have lp:=ZAt p
 have lq:=ZAt q
 have mo:=Zo8 p.old;have mn:=Zo8 p.new;have ax:=Zo8 q.old;have ar:=Zo8 q.new
 have gp:=YD op.2.1
 have gq:=YD u.2.1
 have cp:=Z2R p;have cq:=Z2R q;have aw:=op.1;have ay:=u.1
 have fin:∀ {X:Edit} {b:Bool} {s:LSt U},Yv p q=(X,b)->ZF cfg Tryz.f104.ntmps Tryz.f104.results.toList (.tup [(true,enc .edit X),(false,[.bool b])]) [] .ret s->ZF cfg Tryz.f104.ntmps Tryz.f104.results.toList (Z2z (p,q,())) [] .ret s:=by
  intro X b s h hs
  refine YS ?_ hs
  simp only [Z2z]
  rw [h]
  try rfl
 refine ZGe N p q _ ?_
 intro y1 h1 y2 h2 y3 h3 y4 h4 y5 h5
 replace h1:=h1.symm;replace h2:=h2.symm;replace h3:=h3.symm;replace h4:=h4.symm
 subst h1 h2 h3 h4
 (simp only [iB,vcT,vcS])
 try dsimp only at h5 ⊢
 refine ⟨fun p0=> fin (by rw [d,if_pos p0]) V1,fun p0=> ?_⟩
 rw [if_neg p0] at d
 refine ⟨fun q0=> fin (by rw [d,if_pos q0]) V1,fun q0=> ?_⟩
 rw [if_neg q0] at d
 refine ⟨fun p1=> ⟨Zap u V0 gp.2.1,fin (by rw [d,if_pos p1]) (by unfold doB;(repeat' (first | exact trivial | exact rfl | apply And.intro)))⟩,fun p1=> ?_⟩
 rw [if_neg p1] at d
 refine ⟨fun q1=> ⟨(Zcv op).1,by rw [h5];exact Zap (Zcv op).2 V0 gq.1,fin (by rw [d,if_pos q1,<-h5]) (by unfold doB;(repeat' (first | exact trivial | exact rfl | apply And.intro)))⟩,fun q1=> ?_⟩
 rw [if_neg q1] at d
 refine ⟨fun hd=> fin (by rw [d,if_pos hd]) V1,fun hd=> ?_⟩
 rw [if_neg (by rintro (h | h);exact h hd.1;exact h hd.2)] at d
 refine ⟨fun p2=> ?_,fun p2=> ?_⟩
 .rw [if_pos p2] at d
  refine ⟨⟨⟨gp.2.2.1,V3⟩,gq.2.2.1,V3⟩,fun hw=> ?_,fun hw=> ⟨⟨ZnO op,ZnO u⟩,by show 8*(Zp p.kids+Zp q.kids)+4 < N;omega,?_⟩⟩
  .exact fin (by rw [d,if_neg (by rw [hw];decide)]) V1
  .exact fin (by rw [d,if_pos hw]) V1
 .rw [if_neg p2] at d
  exact ⟨⟨ZnN op,ZnN u⟩,by show 8*(Zj p.ops+Zj q.ops)+40 < N;omega,fin d V1⟩
theorem ZDO:ZAY:=by
 intro N a b _ h s
 have d:8*(Zp a+Zp b)+4 < N+1:=s
 refine ZFS N a b _ ?_
 exact ⟨h,by show 8*(Zp a+Zp b)+3 < N;omega,V1⟩
theorem Zj0{k:Kid}(h:Z1b k):InR k.at_/\Y0 k.e:=by cases k;exact h
theorem ZDL:ZAV:=by
 intro N a b _ u hN
 obtain ⟨h,d⟩:=u
 dsimp only at h d
 have s:8*(Ym a+Ym b)+1 < N+1:=hN
 have ka:=Z6t a
 have kb:=Z6t b
 refine ZFE N a b _ ?_
 intro y1 h1 y2 h2
 replace h1:=h1.symm;replace h2:=h2.symm
 subst h1 h2
 try dsimp only
 have ra:Jm a.e:=⟨by have:=h.1;rw [Z4d] at this;omega,(Zj0 h.2.1).2,h.2.2⟩
 have rb:Jm b.e:=⟨by have:=d.1;rw [Z4d] at this;omega,(Zj0 d.2.1).2,d.2.2⟩
 exact ⟨⟨ra,rb⟩,by show 8*(Zd a.e+Zd b.e) < N;omega,by unfold Z3s Z27;(repeat' (first | exact trivial | exact rfl | apply And.intro))⟩
theorem Zg4{l:List Kid}(h:Zck l):Zck (l.drop 1):=by
 cases l with
 | nil=> exact h
 | cons k r=>
  obtain ⟨h1,d,u⟩:=h
  simp only [Z0Y] at h1
  exact ⟨by grind,d.2,fun x s=> u x (Q1 _ s)⟩
theorem Zg3{l:List Kid}(h:Zck l)(hl:0 < l.length)(z:Kid):ZuB (l.getD 0 z)/\Ym (l.getD 0 z)+Zp (l.drop 1)=Zp l:=by
 cases l with
 | nil=> simp at hl
 | cons k r=>
  obtain ⟨d,u,s⟩:=h
  simp only [Z0Y] at d
  exact ⟨⟨by grind,u.1,s k Q5⟩,rfl⟩
theorem ZbW:∀ l:List Kid,Zp (l.drop 1)<=Zp l
 | []=> Qc _
 | k ::r=> by simp only [QJ,Xg,Zp];omega
theorem ZDM:ZAW:=by
 rintro N p q ⟨⟩ ⟨⟩ _ hp hN
 obtain ⟨op,oq⟩:=hp
 dsimp only at op oq
 have aw:8*(Zp p+Zp q)+3 < N+1:=hN
 have lp:=ZW p
 have lq:=ZW q
 have bp:=X2 (Z6s p) op.1;have bq:=X2 (Z6s q) oq.1
 refine ZFG N p q () () _ ?_
 refine Z4 (ι:=List Kid × List Kid × List Kid) (fun x=> Z2l p q () () x.1 x.2.1 x.2.2) (fun x=> MInv KidOf.at_ (Z27 Yv) p q x.1 x.2.1 x.2.2/\(Zck x.1/\Zp x.1<=Zp p)/\Zck x.2.1/\Zp x.2.1<=Zp q) (fun x=> x.1.length+x.2.1.length) (p,q,[]) rfl
  ⟨⟨by simp_all,by simp⟩,⟨op,Qc _⟩,oq,Qc _⟩ ?_
 rintro ⟨x0,s,d⟩ ⟨inv,⟨r0,m0⟩,r1,m1⟩
 dsimp only at inv r0 r1 m0 m1
 have aq:=inv.len
 refine Zrq N p q () () _ _ _ _ _ ?_
 intro y1 h1 y2 h2 y3 h3 y4 u y5 h5
 subst h3 u
 (simp only [iB,vcT,vcS])
 have h3:y3=x0.getD 0 ⟨0,Edit.nil⟩:=h1
 have u:y4=s.getD 0 ⟨0,Edit.nil⟩:=h2
 have d0:Zck (x0.drop 1)/\Zp (x0.drop 1)<=Zp p:=⟨Zg4 r0,by have:=ZbW x0;omega⟩
 have d1:Zck (s.drop 1)/\Zp (s.drop 1)<=Zp q:=⟨Zg4 r1,by have:=ZbW s;omega⟩
 refine ⟨fun ax=> ⟨fun h=> ⟨V0,V0⟩,fun _=> trivial,fun h=> ⟨V0,V0⟩,fun _=> trivial,fun g1 g2=> ⟨g1,g2⟩,fun hA=> ?_,fun hB=> ?_⟩,fun hE=> ?_⟩
 .refine ⟨⟨V0,V0⟩,by grind,⟨V0,V0⟩,(x0.drop 1,s,d++[y3]),rfl,⟨?_,d0,r1,m1⟩,by grind⟩
  rw [h3]
  exact inv.left' _ V0 (by grind)
 .refine ⟨fun h=> ⟨V0,V0⟩,fun _=> trivial,fun h=> ⟨V0,V0⟩,fun _=> trivial,fun hC=> ?_,fun hD=> ?_⟩
  .refine ⟨⟨V0,V0⟩,by grind,⟨V0,V0⟩,(x0,s.drop 1,d++[y4]),rfl,⟨?_,⟨r0,m0⟩,d1⟩,by grind⟩
   rw [u]
   exact inv.right' _ V0 (by grind)
  .have hb:=inv.both' ⟨0,Edit.nil⟩ V0 V0 (by grind)
   rw [<-h3,<-u] at hb
   obtain ⟨k3,n3⟩:=Zg3 r0 V0 ⟨0,Edit.nil⟩
   obtain ⟨k4,n4⟩:=Zg3 r1 V0 ⟨0,Edit.nil⟩
   rw [<-h3] at k3 n3
   rw [<-u] at k4 n4
   refine ⟨⟨V0,V0⟩,⟨V0,V0⟩,⟨k3,k4⟩,by show 8*(Ym y3+Ym y4)+1 < N;omega,fun hc=> ?_,fun hc=> ?_⟩
   .have e:=ZeD (hb.2 hc)
    refine YS (r':= .tup [(false,[.slice (U:=U) .kid [] .unk]),(false,[.bool false])]) ?_ V1
    simp only [Z2y]
    rw [e.1,e.2]
   .refine ⟨by grind,⟨V0,V0⟩,⟨V0,V0⟩,(x0.drop 1,s.drop 1,d++[y5]),rfl,⟨?_,d0,d1⟩,by grind⟩
    grind
 .have e0:x0=[]:=Q3 V0
  have e1:s=[]:=Q3 V0
  subst e0 e1
  have e:=inv.done
  refine YS (r':= .tup [(false,[.slice (U:=U) .kid d .unk]),(false,[.bool true])]) ?_ V1
  simp only [Z2y]
  rw [e]
  try rfl
theorem ZjD{l:List Op}{o:Op}(h:Part l o)(ho:YT o)(hl:Z05 l):YF o:=by
 obtain ⟨s,m,k,e1,_,lt⟩:=h
 have G:=J4 (J0 hl m)
 obtain ⟨kk,u,ll,ee⟩:=o
 have k:kk=s.kind:=k
 have e1:ee=s.e:=e1
 have lt:∀ t∈ll,t∈s.l:=lt
 refine ⟨by grind,?_,Z8z fun t ht=> Jh G.2.2.1 (lt t ht),by grind⟩
 rcases ho with h | h | h
 .have:=h.2.2.1
  unfold InR
  grind
 .have d:u=0:=h.2.1
  rw [d];trivial
 .have d:u=0:=h.2.1
  rw [d];trivial
theorem Z6f{l:List Op}{o:Op}(h:Part l o):Z2V o<=YZ l/\Zx o<=Zj l:=by
 obtain ⟨o',m,k,e1,s,_⟩:=h
 have u:=Zam m
 have d:=ZL m
 have a:=Z4H o
 rw [ZG,ZG,e1] at s
 rw [e1] at a
 rw [ZG] at d
 rw [ZG,e1]
 omega
theorem Zek{l:List Op}{o:Op}(h:Part l o)(hl:∀ o∈l,∃ list d,Zf list o d=true)(k3:o.kind=3):∃ d,Z6 o.e d=true:=by
 obtain ⟨u,m,k,e1,hm,_⟩:=h
 obtain ⟨list,d,s⟩:=hl u m
 exact ⟨d,by rw [e1];exact Z0w s V0⟩
theorem ZsZ{p q:List Op}(hp:ZpU p)(hq:ZpU q){x:Piece}(h:POk p q x):PcOk x:=by
 refine ⟨h.of,fun e=> ?_,fun e=> ?_,h.both⟩
 .obtain ⟨a,b⟩:=h.pp e
  exact ⟨b,X2 (Z6f a).1 hp.1,ZjD a b hp.2.1,Zek a hp.2.2⟩
 .obtain ⟨a,b⟩:=h.qq e
  exact ⟨b,X2 (Z6f a).1 hq.1,ZjD a b hq.2.1,Zek a hq.2.2⟩
theorem ZA1{p:List Op}(hp:ZpU p):ZaP p:=by
 refine ⟨fun o d=> ?_,?_⟩
 .obtain ⟨_,_,h⟩:=hp.2.2 o d
  exact Z7x h
 .have:=Z3U p
  have:=hp.1
  omega
theorem ZDN:ZAX:=by
 intro N p q _ hp hN
 obtain ⟨op,oq⟩:=hp
 dsimp only at op oq
 have az:8*(Zj p+Zj q)+40 < N+1:=hN
 have kp:=ZA1 op
 have kq:=ZA1 oq
 obtain ⟨i1,_⟩:=Zeo _ p q [] (Qc _) kp.1 kq.1
 refine ZFR N p q _ ?_
 (simp only [iB,vcT,vcS])
 refine ⟨⟨kp,kq⟩,fun hb=> ?_,fun hb=> ?_⟩
 .have e:Z3k Yv p q=none:=by unfold Z3k;grind
  refine YS (r':= .tup [(false,[.slice (U:=U) .op [] .unk]),(false,[.bool false])]) ?_ V1
  simp only [Z1L]
  rw [e];try rfl
 .obtain ⟨ps,e,aq,_,_⟩:=i1 hb
  obtain ⟨aw,e1,_,_,av⟩:=Zen ZAR ZAQ 1 _ p q [] (Qc _) kp.1 kq.1 hb
  rw [e,QI,QI] at e1
  subst e1
  rw [QI] at e
  have ab:Z3k Yv p q=Z3j Yv ps:=by unfold Z3k;grind
  refine Z4 (ι:=Int × List Op) (fun s=> Z46 p q s.1 s.2) (fun s=> 0<=s.1/\s.1<=ps.length/\Z3j Yv ps=(Z3j Yv (ps.drop s.1.toNat)).map (s.2++·)/\s.2.length+(ps.drop s.1.toNat).length<=ps.length) (fun s=> ((ps.length:Int) - s.1).toNat) (0,[]) rfl ⟨by simp,by simp,by simp,by simp⟩ ?_
  rintro ⟨i,out⟩ ⟨f1,f2,d,f4⟩
  dsimp only at f1 f2 d f4
  refine Zru N p q _ _ _ _ ?_
  intro y1 h1 y2 h2 y3 h3
  rw [e] at h1 ⊢
  subst h2
  (simp only [iB,vcT,vcS])
  refine ⟨fun hi=> ?_,fun hi=> ?_⟩
  .have h1:y2=ps.getD i.toNat (Piece.mk 0 Op.nil Op.nil):=h1
   have ae:y2∈ps:=by rw [h1];exact Zb V0 _
   have u:=aq y2 ae
   have hd:ps.drop i.toNat=y2 ::ps.drop (i+1).toNat:=by rw [h1];exact Y1 f1 hi _
   rw [hd,Z3j] at d
   rw [hd,Qe] at f4
   have aj:8*(Zx y2.p+Zx y2.q)+1 < N:=by
    rcases u.of with h | h | h
    .have:=(Z6f (u.pp V0).1).2;have:=(Z6f (u.qq V0).1).2;omega
    .have:=(Z6f (u.pp V0).1).2;rw [u.qn h,show Zx Op.nil=3 from rfl];omega
    .have:=(Z6f (u.qq V0).1).2;rw [u.pn h,show Zx Op.nil=3 from rfl];omega
   have c1:=Z3U p;have c2:=Z3U q;have c3:=op.1;have c4:=oq.1
   refine ⟨⟨f1,hi⟩,ZsZ op oq u,aj,fun hc=> ?_,fun hc=> ⟨fun ah=> ?_,fun ah=> ?_⟩⟩
   .rw [if_neg (by grind)] at d
    refine YS (r':= .tup [(false,[.slice (U:=U) .op [] .unk]),(false,[.bool false])]) ?_ V1
    simp only [Z1L]
    rw [ab,d];try rfl
   .rw [if_pos hc,if_pos ah] at d
    refine ⟨by grind,V4,(i+1,out++[y3]),rfl,⟨V0,V0,?_,?_⟩,V0⟩
    .rw [d,h3]
     cases Z3j Yv (ps.drop (i+1).toNat) <;> simp
    grind
   .rw [if_pos hc,if_neg (by grind)] at d
    refine ⟨V4,(i+1,out),rfl,⟨V0,V0,?_,by grind⟩,V0⟩
    simp_all
  .rw [Q6 V0,Z3j] at d
   refine YS (r':= .tup [(false,[.slice (U:=U) .op out .unk]),(false,[.bool true])]) ?_ V1
   simp only [Z1L]
   rw [ab,d]
   simp [ofO]
theorem ZfS{α:Type}{l:List α}{i:Nat}(h:i < l.length)(d:α):l.take (i+1)=l.take i++[l.getD i d]:=by
 simp_all
theorem ZuM{a b:List Tree}(h:Z9 a=Z9 b):ZD8 a b=true:=Z0r.2 h
theorem ZyL{a b:List Tree}(h:¬Z9 a=Z9 b):ZD8 a b=false:=by rw [<-K3];exact fun e=> h (Z0r.1 e)
theorem Zk4(o:Op):Ze o.l<=Z2V o:=by rw [Z4H];omega
theorem ZDK:ZAU:=by
 intro N x _ hp hN
 have hp:PcOk x:=hp
 have ao:8*(Zx x.p+Zx x.q)+1 < N+1:=hN
 have fin:∀ {o:Op} {i k:Bool} {s:LSt U},JH Yv x=⟨o,i,k⟩->ZF cfg Tryz.f169.ntmps Tryz.f169.results.toList (.tup [(true,enc .op o),(false,[.bool i]),(false,[.bool k])]) [] .ret s->ZF cfg Tryz.f169.ntmps Tryz.f169.results.toList (Z2x (x,())) [] .ret s:=by
  intro o i k s h hs
  refine YS ?_ hs
  simp only [Z2x]
  rw [h];try rfl
 refine ZFC N x _ ?_
 intro y1 h1 y2 h2 y3 h3 y4 h4 y5 h5 y6 h6 y7 h7 y8 h8 y9 h9
 subst h1 h2 h5 h6
 (simp only [iB,vcT,vcS])
 have hc:=JH.eq_1 Yv x
 refine ⟨fun _ h=> ⟨V0,h⟩,fun c1=> fin (by rw [hc,if_pos c1]) V1,fun c1=> ?_⟩
 rw [JC] at hc
 refine ⟨fun c2=> fin (by rw [hc,if_pos c2]) V1,fun c2=> ?_⟩
 rw [JC] at hc
 have c0:x.of=0:=by rcases hp.of with h | h | h <;> omega
 obtain ⟨b1,b2,b3⟩:=hp.both c0
 obtain ⟨op,mp,gp,rp⟩:=hp.pp V0
 obtain ⟨oq,mq,gq,rq⟩:=hp.qq V0
 have ep:=Z4H x.p
 have eq:=Z4H x.q
 have u:=J4 gp
 have d:=J4 gq
 have ap:=Zk4 x.p
 have aq:=Zk4 x.q
 refine ⟨fun c3=> ?_,fun c3=> ?_⟩
 .rw [if_pos c3] at hc
  have l1:=Z1z op (.inr c3.1)
  have l2:=Z1z oq (.inl c3.2)
  have k1:=Zs x.p.l
  rw [Qw V0] at hc
  refine Z4 (ι:=Int) (fun i=> Z6C x i) (fun i=> 0<=i/\i<=x.p.l.length/\Z9 (x.p.l.take i.toNat)=Z9 (x.q.l.take i.toNat)) (fun i=> ((x.p.l.length:Int) - i).toNat) 0 rfl ⟨V0,V0,by simp⟩ ?_
  rintro i ⟨f1,f2,f3⟩
  refine Zrp N x _ _ _ ?_
  intro z1 g1 z2 g2 z3 g3 z4 g4
  subst g1 g2
  (simp only [iB,vcT,vcS])
  have l3:x.p.l.length=x.q.l.length:=V0
  refine ⟨fun hi=> ?_,fun hi=> ?_⟩
  .have m1:z3∈x.p.l:=by rw [g3];exact Zb V0 _
   have m2:z4∈x.q.l:=by rw [g4];exact Zb V0 _
   have bv:=Y2 m1
   have bq:=Y2 m2
   have t1:x.p.l.take (i+1).toNat=x.p.l.take i.toNat++[z3]:=by rw [g3,show (i+1).toNat=i.toNat+1 by omega];exact ZfS V0 _
   have t2:x.q.l.take (i+1).toNat=x.q.l.take i.toNat++[z4]:=by rw [g4,show (i+1).toNat=i.toNat+1 by omega];exact ZfS V0 _
   refine ⟨⟨f1,hi⟩,⟨f1,V0⟩,⟨V3,V3⟩,fun ab=> fin (by rw [hc,ZyL];intro he;rw [Yy] at ab;apply ab;rw [g3,g4];exact Z5K he i.toNat) V1,fun aj=> ⟨V4,i+1,rfl,⟨V0,V0,?_⟩,V0⟩⟩
   rw [t1,t2]
   exact JZ f3 (Z6l.2 (Yh.1 aj))
  .rw [Qw V0,Qw V0] at f3
   exact fin (by rw [hc,ZuM f3]) V1
 rw [JC] at hc
 have kp:x.p.kind=2\/x.p.kind=3:=by rcases Z1h op with k | k | k | k <;> omega
 have kq:x.q.kind=1\/x.q.kind=3:=by rcases Z1h oq with k | k | k | k <;> omega
 refine ⟨fun c4=> ?_,fun c4=> ?_⟩
 .rw [if_pos c4] at hc
  have l1:=Z1z op (.inr c4)
  have l2:=Z3a (o:=x.q) V0
  have hl:0 < x.p.l.length:=V0
  have m3:y5∈x.p.l:=by rw [h3];exact Zb hl _
  have ba:=Y2 m3
  refine ⟨⟨V0,V0⟩,Zap ⟨V0,d.2.2.2,rq V0⟩ V0 (Jh u.2.2.1 m3),fin hc ?_⟩
  rw [show x.p.l.getD 0 Tree.nil=y5 from h3.symm]
  unfold doB
  rw [<-h8]
  exact V1
 rw [if_neg c4] at hc
 have p3:x.p.kind=3:=V0
 refine ⟨fun c5=> ?_,fun c5=> ?_⟩
 .rw [if_pos c5] at hc
  have l1:=Z1z oq (.inl c5)
  have l2:=Z3a (o:=x.p) p3
  have hl:0 < x.q.l.length:=V0
  have m4:y6∈x.q.l:=by rw [h4];exact Zb hl _
  have bt:=Y2 m4
  have rk:Jm x.p.e:=⟨V0,u.2.2.2,rp p3⟩
  refine ⟨(Zcv rk).1,⟨V0,V0⟩,by rw [h7];exact Zap (Zcv rk).2 V0 (Jh d.2.2.1 m4),fin hc ?_⟩
  rw [show x.q.l.getD 0 Tree.nil=y6 from h4.symm,<-h7]
  unfold doB
  rw [<-h9]
  exact V1
 .rw [if_neg c5] at hc
  have k1:Jm x.p.e:=⟨V0,u.2.2.2,rp p3⟩
  have k2:Jm x.q.e:=⟨V0,d.2.2.2,rq V0⟩
  refine ⟨⟨k1,k2⟩,?_,fin hc V1⟩
  show 8*(Zd x.p.e+Zd x.q.e) < N
  rw [ZG,ZG] at ao
  omega
theorem ZGV:Contract Tryz.prog cfg 104 Z62/\Contract Tryz.prog cfg 142 Zna/\Contract Tryz.prog cfg 165 Zn8/\Contract Tryz.prog cfg 167 Zn7/\Contract Tryz.prog cfg 143 Zn9/\Contract Tryz.prog cfg 169 Zn6:=
 Zto c32 c37 c47 ZDq ZDf (ZDe Zv0) ZDQ ZDO ZDM ZDL ZDN ZDK
theorem ZDE:Contract Tryz.prog cfg 104 Z62:=ZGV.1
end Go.AM.YtfapacabjkhepaaGreat
namespace Go.AM
def Z4R(list:Int):List Tree->Int->Int
 | [],_=> -1
 | t ::r,i=> if Za (Tree.mk list [] [t]) 64=true then Z4R list r (i+1) else i
theorem ZgO(list:Int):∀ (l:List Tree) (i:Int),0<=i->(0<=Z4R list l i↔JE list l=false)
 | [],i,_=> by simp [Z4R,JE]
 | t ::r,i,hi=> by
  have d:=ZgO list r (i+1) V0
  rw [Z4R,JE]
  grind
end Go.AM
namespace Go.AM.YtfapacabjkhepaaGreat
open Go.AM Go.Proofs
noncomputable section
def Zis:ArgM (Tree × (Int × Unit) × Unit):=(.cons (aEl .tree) (.obj 0 (.cons (ZkG .i64) .nil) .nil))
def Ze9(a:Tree × (Int × Unit) × Unit):Prop:=Zh a.1<=18000000000/\rng a.1/\InR a.2.1.1
def Zl7(a:Tree × (Int × Unit) × Unit):V U:= .c (.bool (!(Za (Tree.mk a.2.1.1 [] [a.1]) 64)))
def Zhk(a:Tree × (Int × Unit) × Unit):List (List (C U)):=[[ci a.2.1.1]]
def Z8j:Fs U:=fsX Zis (fun a=> [Ze9 a]) Zl7 Zhk
def Zir:ArgM (List Tree × (Int × Unit) × Unit):=(.cons (aSl .tree) (.clo 159 0 (.cons (ZkG .i64) .nil) .nil))
def Ze7(a:List Tree × (Int × Unit) × Unit):Prop:=Ze a.1<=18000000000/\Ya a.1/\InR a.2.1.1
def Zhp(a:List Tree × (Int × Unit) × Unit):V U:= .c (ci (Z4R a.2.1.1 a.1 0))
def Zcz(a:List Tree × (Int × Unit) × Unit):List (List (C U)):=[[ci a.2.1.1]]
def Z8e:Fs U:=fsX Zir (fun a=> [Ze7 a]) Zhp Zcz
def Zl8(a:List Tree × (Int × Unit) × Unit):V U:= .c (.bool (!(JE a.2.1.1 a.1)))
def Z4q:Fs U:=fsX Zir (fun a=> [Ze7 a]) Zl8 Zcz
def Zox:List (FuncId × Fs U):=[(160,Z8i)]
def ZtB:Zg U:=lvk [([1,2],[2,((.x 0),[])]),([3],[((.x 0),[])])]
abbrev ZIP(t:Tree)(list:Int)(Q:QT):=AW (Z2 Zox) Tryz.f159 ZtB [] (L2 [(0,.agg (enc .tree t)),(1,.ptr (.x 0) 0)] [(.x 0,[ci list])]) Q
theorem ZFM(t:Tree)(list:Int)(Q:QT)(h:let z0:=Tree.mk t.kind t.words t.kids;(Ze8 (list,z0,()))/\(Q .ret (L2 [(3,.c (.bool (!(Za (Tree.mk list [] [z0]) 64))))] [(.x 0,[ci list])]))):
  ZIP t list Q:=
 Eq.mpr V5 h
def Zzr(t:Tree)(list:Int):Prop:=AW (Z2 Zox) Tryz.f159 ZtB [] (Zi (Zis.can (t,(list,()),())) (Zis.canX (t,(list,()),()))) (EQ Tryz.f159 (Zl7 (t,(list,()),())) (Zhk (t,(list,()),())))
theorem ZxI(ZDk:CT 160 Z8i)(hb:∀ (t:Tree) (list:Int) (_:Unit),Ze9 (t,(list,()),())->Zzr t list):CT 159 Z8j:=
 YP (l:=[(160,Z8i)]) Zk rfl (⟨ZDk,trivial⟩) ZtB Tryz.func159 rfl rfl 2 (fun _=> rfl) V2 (fun ⟨t,⟨list,_⟩,_⟩=> hb t list ())
def Z6w:List (FuncId × Fs U):=[(159,Z8j)]
def ZeK:Zg U:=lvk [([0,1],[((.x 0),[])]),([0,1,7,8],[((.x 0),[])]),([0,1,7,8,9],[((.x 0),[])]),([0,1,5,7,8],[((.x 0),[])]),([0,1,5,7,8,16],[((.x 0),[])]),([4],[((.x 0),[])]),([0,1,7,8],[((.x 0),[])]),([4],[((.x 0),[])])]
def Z6B(l:List Tree)(list d:Int):LSt U:=(L2 [(0,.c (sU .tree l .unk)),(1,.clo 159 [(.x 0)]),pI 7 (l.length:Int),pI 8 d] [(.x 0,[ci list])])
abbrev ZIM(l:List Tree)(list:Int)(Q:QT):=AW (Z2 Z6w) Tryz.f186 ZeK [] (L2 [(0,.c (sU .tree l .unk)),(1,.clo 159 [(.x 0)])] [(.x 0,[ci list])]) Q
theorem ZFB(l:List Tree)(list:Int)(Q:QT)(h:Zl (AW (Z2 Z6w) Tryz.f186 ZeK [1,0,1,0,0]) (Z6B l list 0) (xB 0 (SW (Z2 Z6w) Tryz.f186 ZeK [1,1] Q))):
  ZIM l list Q:=
 Eq.mpr V5 h
abbrev Zz2(l:List Tree)(list d:Int)(N0:NT)(Q:QT):=AW (Z2 Z6w) Tryz.f186 ZeK [1,0,1,0,0] (Z6B l list d) (xT N0 (xB 0 (SW (Z2 Z6w) Tryz.f186 ZeK [1,1] Q)))
theorem Zro(l:List Tree)(list d:Int)(N0:NT)(Q:QT)(h:let z1:=l.getD d.toNat Tree.nil;let z0:=Tree.mk (Tree.kind z1) (Tree.words z1) (Tree.kids z1);iB (decide (d < (l.length:Int))) (((0:Int)<=d/\d < (l.length:Int))/\(Ze9 (z0,(list,()),()))/\(iB (!(Za (Tree.mk list [] [z0]) 64)) (Q .ret (L2 [pI 4 d] [(.x 0,[ci list])])) ((InR (d+1))/\(N0 (Z6B l list (d+1)))))) (Q .ret (L2 [pI 4 (-1)] [(.x 0,[ci list])]))):
  Zz2 l list d N0 Q:=
 Eq.mpr V5 h
def Zzg(l:List Tree)(list:Int):Prop:=AW (Z2 Z6w) Tryz.f186 ZeK [] (Zi (Zir.can (l,(list,()),())) (Zir.canX (l,(list,()),()))) (EQ Tryz.f186 (Zhp (l,(list,()),())) (Zcz (l,(list,()),())))
theorem ZxA(ZDl:CT 159 Z8j)(hb:∀ (l:List Tree) (list:Int) (_:Unit),Ze7 (l,(list,()),())->Zzg l list):CT 186 Z8e:=
 YP (l:=[(159,Z8j)]) Zk rfl (⟨ZDl,trivial⟩) ZeK Tryz.func186 rfl rfl 2 (fun _=> rfl) V2 (fun ⟨l,⟨list,_⟩,_⟩=> hb l list ())
def Zoy:List (FuncId × Fs U):=[(186,Z8e)]
def ZtC:Zg U:=lvk [([0,1],[((.x 0),[])]),([4],[((.x 0),[])])]
abbrev ZIQ(l:List Tree)(list:Int)(Q:QT):=AW (Z2 Zoy) Tryz.f158 ZtC [] (L2 [(0,.c (sU .tree l .unk)),(1,.clo 159 [(.x 0)])] [(.x 0,[ci list])]) Q
theorem ZFN(l:List Tree)(list:Int)(Q:QT)(h:(Ze7 (l,(list,()),()))/\(Q .ret (L2 [pB 4 (decide ((0:Int)<=(Z4R list l 0)))] [(.x 0,[ci list])]))):
  ZIQ l list Q:=
 Eq.mpr V5 h
def Zzs(l:List Tree)(list:Int):Prop:=AW (Z2 Zoy) Tryz.f158 ZtC [] (Zi (Zir.can (l,(list,()),())) (Zir.canX (l,(list,()),()))) (EQ Tryz.f158 (Zl8 (l,(list,()),())) (Zcz (l,(list,()),())))
theorem ZxJ(ZDd:CT 186 Z8e)(hb:∀ (l:List Tree) (list:Int) (_:Unit),Ze7 (l,(list,()),())->Zzs l list):CT 158 Z4q:=
 YP (l:=[(186,Z8e)]) Zk rfl (⟨ZDd,trivial⟩) ZtC Tryz.func158 rfl rfl 2 (fun _=> rfl) V2 (fun ⟨l,⟨list,_⟩,_⟩=> hb l list ())
end
theorem ZDl:Contract Tryz.prog cfg 159 Z8j:=by
 refine ZxI ZDk ?_
 intro t list _ d
 simp only [Ze9] at d
 refine ZFM _ _ _ ?_
 (simp only [vE])
 refine ⟨by simp only [Ze8];exact d,?_⟩
 simp only [Zl7,Zhk]
 exact V1
theorem Zfh{list:Int}{l:List Tree}:∀ (i:Nat),(∀ t∈l.take i,Za (Tree.mk list [] [t]) 64=true)->i<=l.length->Z4R list l 0=Z4R list (l.drop i) i
 | 0,_,_=> by simp
 | i+1,h,hi=> by
  have d:=Zfh i (fun t s=> h t (by rw [XH];exact Qk.2 (Or.inl s))) V0
  rw [d]
  have e:l.drop i=l.getD i Tree.nil ::l.drop (i+1):=by
   have:=Y1 (l:=l) (i:=(i:Int)) V0 V0 Tree.nil
   simpa using this
  have u:l.getD i Tree.nil∈l.take (i+1):=by
   rw [List.mem_take_iff_getElem]
   exact ⟨i,V0,by simp [List.getD,Q2 (show i < l.length by omega)]⟩
  rw [e,Z4R,if_pos (h _ u)]
  simp
theorem ZDd:Contract Tryz.prog cfg 186 Z8e:=by
 refine ZxA ZDl ?_
 intro l list _ u
 simp only [Ze7] at u
 refine ZFB _ _ _ ?_
 refine Z4 (ι:=Int) (fun s=> Z6B l list s) (fun s=> 0<=s/\s<=l.length/\∀ t∈l.take s.toNat,Za (Tree.mk list [] [t]) 64=true) (fun s=> ((l.length:Int) - s).toNat) 0 rfl ⟨by simp,by simp,by simp⟩ ?_
 rintro i ⟨g1,g2,g3⟩
 have d:=Zfh (list:=list) (l:=l) i.toNat g3 V0
 have hl:=Zs l
 refine Zro _ _ _ _ _ ?_
 (simp only [iB,vcS])
 (simp only [vE])
 refine ⟨fun h=> ⟨⟨g1,h⟩,?_,fun hc=> ?_,fun hc=> ?_⟩,fun h=> ?_⟩
 .have hm:=Zb (l:=l) (i:=i.toNat) V0 Tree.nil
  simp only [Ze9]
  have h1:=Y2 hm
  exact ⟨V0,Jh u.2.1 hm,u.2.2⟩
 .rw [Y1 g1 h Tree.nil,Z4R,if_neg (by grind)] at d
  simp only [Zhp,Zcz]
  rw [d,show ((i.toNat:Nat):Int)=i by omega]
  exact V1
 .refine ⟨V4,i+1,rfl,⟨V0,V0,fun t ht=> ?_⟩,V0⟩
  rw [show (i+1).toNat=i.toNat+1 by omega,XH] at ht
  grind
 .rw [Q6 V0] at d
  simp only [Zhp,Zcz]
  rw [d,Z4R]
  exact V1
theorem ZDm:Contract Tryz.prog cfg 158 Z4q:=by
 refine ZxJ ZDd ?_
 intro l list _ d
 simp only [Ze7] at d
 refine ZFN _ _ _ ?_
 have h:=ZgO list l 0 V2
 refine ⟨by simp only [Ze7];exact d,?_⟩
 have e:decide (0<=Z4R list l 0)= !(JE list l):=by
  rw [Qn,decide_eq_true_eq,h]
  cases JE list l <;> simp
 simp only [Zl8,Zcz]
 rw [e]
 exact V1
noncomputable section
def ZA4(a:Edit × Unit):V U:= .c (.bool (Z4f a.1))
def Z7t:Fs U:=fs Zvc (fun a=> [Ze0 a]) ZA4
abbrev ZIX(t:Tree)(Q:QT):=AW (Z2 Zmg) Tryz.f135 ZCY [] (L2 [(0,.agg (enc .tree t))] []) Q
theorem ZFZ(t:Tree)(Q:QT)(h:((Tt (t.kind==0))/\(Tt (t.kind==0))/\(Tt (t.kind==0))/\(Tt (t.kind==0))/\(Tt (t.kind==0))/\(Tt (t.kind==0))/\((t.kind==0)=true->InR (((t.words.length:Int):Int)+(t.kids.length:Int)))/\(Tt (t.kind==0))/\(Tt (t.kind==0))/\(Q .ret (L2 [(2,.c (.bool (bif (t.kind==0) then (((((t.words.length:Int):Int)+(t.kids.length:Int)):Int)==0) else false)))] [])))):
  ZIX t Q:=
 Eq.mpr V5 h
def ZzE(t:Tree):Prop:=AW (Z2 Zmg) Tryz.f135 ZCY [] (Zi (ZvE.can (t,())) []) (EQ Tryz.f135 (ZAe (t,())) [])
theorem ZxS(hb:∀ (t:Tree) (_:Unit),Z5g (t,())->ZzE t):CT 135 Z4o:=
 Z1 (l:=[]) Zk rfl trivial ZCY Tryz.func135 rfl rfl 1 (fun _=> rfl) V2 (fun ⟨t,_⟩=> hb t ())
def Zu8:List (FuncId × Fs U):=[(135,Z4o)]
def ZCx:Zg U:=lvl [([1],[1]),([1,3],[1]),([1,4],[1]),([2],[]),([1,21],[1]),([2],[]),([2],[])]
abbrev W95(e:Edit)(Q:QT):=AW (Z2 Zu8) Tryz.f95 ZCx [] (L2 [(0,.agg (enc .edit e))] []) Q
theorem ZHy(e:Edit)(Q:QT)(h:∀ s,s=(e.new)->∀ d,d=(e.old)->let z2:=(Q .ret (L2 [pB 2 false] []));let z1:=(!(e.kind==3)) && (e.list==0);let z0:=(e.kind !=1) && (Ys d);((Tt (e.kind !=1))/\(Tt (e.kind !=1))/\(Tt (e.kind !=1))/\((e.kind !=1)=true->Z5g (d,()))/\(Tt (e.kind !=1))/\(Tt z0)/\(Tt z0)/\(Tt z0)/\(z0=true->Z5g (s,()))/\((e.kind !=1)=true->(True->(e.kind !=1)=true))/\((e.kind !=1)=true->((Ys d)=true->z0=true))/\(Tt (e.kind !=1))/\(Tt (e.kind !=1))/\(iB (bif (e.kind !=1) then (!(bif (Ys d) then (Ys s) else false)) else false) z2 ((Tt (e.kind !=2))/\(Tt (e.kind !=2))/\(Tt (e.kind !=2))/\(Tt (e.kind !=2))/\(Tt (e.kind !=2))/\(Tt (e.kind !=2))/\((e.kind !=2)=true->InR (((e.words.length:Int):Int)+(e.kids.length:Int)))/\(Tt (e.kind !=2))/\(Tt (e.kind !=2))/\(iB (bif (e.kind !=2) then (decide ((0:Int) < (((e.words.length:Int):Int)+(e.kids.length:Int)))) else false) z2 ((Tt (!(e.kind==3)))/\(Tt (!(e.kind==3)))/\(Tt (!(e.kind==3)))/\(Tt z1)/\(Tt z1)/\(Tt z1)/\((!(e.kind==3))=true->(True->(!(e.kind==3))=true))/\((!(e.kind==3))=true->((e.list==0)=true->z1=true))/\((e.kind==3)=false->(!(e.kind==3))=true)/\(Q .ret (L2 [(2,.c (.bool (bif (e.kind==3) then true else (bif (e.list==0) then (((e.ops.length:Int):Int)==0) else false))))] [])))))))):
  W95 e Q:=
 Eq.mpr V5 (h _ (Z0 _) _ (Z0 _))
def ZEi(e:Edit):Prop:=AW (Z2 Zu8) Tryz.f95 ZCx [] (Zi (Zvc.can (e,())) []) (EQ Tryz.f95 (ZA4 (e,())) [])
theorem ZBG(ZDu:CT 135 Z4o)(hb:∀ (e:Edit) (_:Unit),Ze0 (e,())->ZEi e):CT 95 Z7t:=
 Z1 (l:=[(135,Z4o)]) Zk rfl (⟨ZDu,trivial⟩) ZCx Tryz.func95 rfl rfl 1 (fun _=> rfl) V2 (fun ⟨e,_⟩=> hb e ())
end
theorem ZDu:Contract Tryz.prog cfg 135 Z4o:=by
 refine ZxS ?_
 intro t _ d
 simp only [Z5g] at d
 have:=Zkb t
 refine ZFZ t _ ?_
 simp only [iB,vcT,vcS,aiT,true_and]
 refine ⟨fun _=> by unfold InR;omega,Z5 rfl ?_⟩
 rw [Qn]
 simp only [Ys]
 grind
theorem c95:Contract Tryz.prog cfg 95 Z7t:=by
 refine ZBG ZDu ?_
 intro e _ s
 simp only [Ze0] at s
 have h1:=ZY e
 have h2:=ZW e.kids
 refine ZHy e _ ?_
 rintro u rfl y2 rfl
 simp only [iB,vcT,vcS,aiT,true_and]
 refine ⟨fun _=> by simp only [Z5g];omega,fun _=> by simp only [Z5g];omega,fun h=> ?_,fun h=> ⟨fun _=> by unfold InR;omega,fun d=> ?_,fun d=> ?_⟩⟩
 .refine Z5 rfl ?_
  show false=Z4f e
  unfold Z4f
  grind
 .refine Z5 rfl ?_
  show false=Z4f e
  unfold Z4f
  grind
 .refine Z5 rfl ?_
  show _=Z4f e
  unfold Z4f
  grind
noncomputable section
def Z0P(a:Edit × Int × Unit):Prop:=(Zd a.1<=18000000000/\Y0 a.1)/\0<=a.2.1/\a.2.1<=1000
def Z6X(a:Edit × Int × Unit):Nat:=4*Zd a.1
def Zdi:Fs U:=fs Zim (fun a=> [Z0P a]) ZnG
def Z84:ArgL (List Kid × Int × Unit):=(.cons (aSl .kid) (.cons (Yc .i64) .nil))
def Z78(a:List Kid × Int × Unit):Prop:=(Zp a.1<=18000000000/\Z0N a.1)/\0<=a.2.1/\a.2.1<=1000
def ZhI(a:List Kid × Int × Unit):Nat:=4*Zp a.1+2
def ZbD(a:List Kid × Int × Unit):V U:= .c (.bool (Zz (-1) a.1 a.2.1))
def ZrO:Fs U:=fs Z84 (fun a=> [Z78 a]) ZbD
def Z77(a:Edit × Int × Unit):Prop:=(Zd a.1<=18000000000/\Y0 a.1/\2<=Edit.list a.1/\Edit.list a.1<=9)/\0<=a.2.1/\a.2.1<=1000
def ZhH(a:Edit × Int × Unit):Nat:=4*Zj a.1.ops+2
def ZdN(a:Edit × Int × Unit):V U:= .c (.bool (Zy a.1.list a.1.ops a.2.1 && decide (Z13 a.1.ops 0 < 1048576/\Z12 a.1.ops 0 < 1048576)))
def ZrN:Fs U:=fs Zim (fun a=> [Z77 a]) ZdN
def Z3z(a:Int × Op × Int × Unit):Prop:=(Zx a.2.1<=18000000000/\YF a.2.1/\2<=a.1/\a.1<=9)/\0<=a.2.2.1/\a.2.2.1<=1000
def Z96(a:Int × Op × Int × Unit):Nat:=4*Zx a.2.1+1
def Znb:Fs U:=fs Zij (fun a=> [Z3z a]) ZnA
def Zjy(a:Edit × Unit):Prop:=Zd a.1<=18000000000/\Y0 a.1
def ZAh(a:Edit × Unit):V U:= .c (.bool (Z6 a.1 64))
def Z51:Fs U:=fs Zvc (fun a=> [Zjy a]) ZAh
def Z7Z(N:Nat):List (FuncId × Fs U):=(62,fs Zim (fun a=> [Z0P a,Z6X a < N]) ZnG) ::(98,fs Z84 (fun a=> [Z78 a,ZhI a < N]) ZbD) ::(99,fs Zim (fun a=> [Z77 a,ZhH a < N]) ZdN) ::(137,fs Zij (fun a=> [Z3z a,Z96 a < N]) ZnA) ::[(95,Z7t),(96,Z7s),(97,Z7r),(93,Z3n),(158,Z4q),(161,Z4p),(138,Z4r)]
def ZCL:Zg U:=lvl [([1,2],[2]),([1,2,11],[2]),([4],[]),([1,2,13],[2]),([1,2,13,14],[2]),([4],[]),([1,2,13,16],[2]),([4],[]),([1,2,13,26],[2]),([4],[]),([1,2,38],[2]),([4],[]),([4],[])]
abbrev W62(N:Nat)(e:Edit)(d:Int)(Q:QT):=AW (Z2 (Z7Z N)) Tryz.f62 ZCL [] (L2 [(0,.agg (enc .edit e)),pI 1 d] []) Q
theorem ZHW(N:Nat)(e:Edit)(d:Int)(Q:QT)(h:∀ s,s=e->∀ u,u=(e.new)->∀ aa,aa=(e.old)->let z3:=(Q .ret (L2 [pB 4 false] []));let z2:=ZN (-1) e.words;let z1:=decide (Tree.kind aa≠10) && Za aa 64;let z0:=decide (2<=e.list/\e.list<=9);((Ze0 (s,()))/\(Tt (!(!(Z4f s))))/\((!(Z4f s))=false->(!(!(Z4f s)))=true)/\(iB (bif (!(Z4f s)) then true else (d==0)) z3 ((iB (e.kind==0) ((Q .ret (L2 [pB 4 true] []))) ((iB (e.kind==1) ((Zgh (aa,()))/\(Tt z1)/\(Tt z1)/\(z1=true->Zgh (u,()))/\(Tt z1)/\(Q .ret (L2 [pB 4 (bif z1 then (decide (Tree.kind u≠10) && Za u 64) else false)] []))) ((iB (e.kind==2) ((Zjn (e.words,()))/\(Tt z2)/\(Tt z2)/\(z2=true->InR (d - 1))/\(Tt z2)/\(Tt z2)/\(z2=true->Z78 (e.kids,(d - 1),()))/\(z2=true->ZhI (e.kids,(d - 1),()) < N)/\(Tt z2)/\(Q .ret (L2 [pB 4 (bif z2 then (Zz (-1) e.kids (d - 1)) else false)] []))) ((iB (e.kind==3) ((ZsR (e.list,()))/\(Tt z0)/\(z0=true->InR (d - 1))/\(Tt z0)/\(Tt z0)/\(z0=true->Z77 (s,(d - 1),()))/\(z0=true->ZhH (s,(d - 1),()) < N)/\(Tt z0)/\(Q .ret (L2 [pB 4 (bif z0 then (Zy s.list s.ops (d - 1) && decide (Z13 s.ops 0 < 1048576/\Z12 s.ops 0 < 1048576)) else false)] []))) z3))))))))))):
  W62 N e d Q:=
 Eq.mpr V5 (h _ (Z8 _) _ (Z0 _) _ (Z0 _))
def ZEG(N:Nat)(e:Edit)(d:Int):Prop:=AW (Z2 (Z7Z N)) Tryz.f62 ZCL [] (Zi (Zim.can (e,d,())) []) (EQ Tryz.f62 (ZnG (e,d,())) [])
abbrev ZHh:Prop:=∀ (N:Nat) (e:Edit) (d:Int) (_:Unit),Z0P (e,d,())->Z6X (e,d,()) < N+1->ZEG N e d
def ZlI:Zg U:=lvl [([0,1],[]),([0,1,7,8,9],[]),([0,1,7,8,9,10],[]),([0,1,5,6,7,8,9],[6]),([0,1,7,8,9,49],[]),([4],[]),([0,1,7,8,9],[]),([4],[])]
def Z9n(l:List Kid)(d h:Int):LSt U:=(L2 [(0,.c (sU .kid l .unk)),pI 1 d,(7,.c (sU .kid l .unk)),pI 8 (l.length:Int),pI 9 h] [])
abbrev W98(N:Nat)(l:List Kid)(d:Int)(Q:QT):=AW (Z2 (Z7Z N)) Tryz.f98 ZlI [] (L2 [(0,.c (sU .kid l .unk)),pI 1 d] []) Q
theorem ZHv(N:Nat)(l:List Kid)(d:Int)(Q:QT)(h:Zl (AW (Z2 (Z7Z N)) Tryz.f98 ZlI [1,0,1,0,0]) (Z9n l d 0) (xB 0 (SW (Z2 (Z7Z N)) Tryz.f98 ZlI [1,1] Q))):
  W98 N l d Q:=
 Eq.mpr V5 h
abbrev ZDW(N:Nat)(l:List Kid)(d h:Int)(N0:NT)(Q:QT):=AW (Z2 (Z7Z N)) Tryz.f98 ZlI [1,0,1,0,0] (Z9n l d h) (xT N0 (xB 0 (SW (Z2 (Z7Z N)) Tryz.f98 ZlI [1,1] Q)))
theorem Zw2(N:Nat)(l:List Kid)(d u:Int)(N0:NT)(Q:QT)(h:∀ s,s=(l.getD u.toNat (KidOf.mk 0 Edit.nil))->∀ ab,ab=(List.getD l (Int.toNat (u - 1)) (KidOf.mk 0 Edit.nil))->∀ aa,aa=(s.e)->let z5:=decide ((0:Int) < u);let z4:=decide (s.at_ < 0);let z0:=bif z4 then true else (decide ((65535:Int)<=s.at_));let z2:=(!z0) && z5;let z1:=bif z0 then true else (bif z5 then (decide (s.at_<=ab.at_)) else false);let z3:=bif z1 then true else (s.e.kind==0);(iB (decide (u < (l.length:Int))) (((0:Int)<=u/\u < (l.length:Int))/\((Tt (!z4))/\(Tt (!z4))/\(z4=false->(!z4)=true)/\(Tt (!z0))/\(Tt (!z0))/\(Tt z2)/\(z2=true->InR (u - 1))/\(Tt z2)/\(Tt z2)/\(z2=true->(0:Int)<=(u - 1)/\(u - 1) < (l.length:Int))/\(Tt z2)/\(Tt z2)/\(Tt z2)/\(Tt z2)/\(Tt z2)/\((!z0)=true->(True->(!z0)=true))/\((!z0)=true->(z5=true->z2=true))/\(z0=false->(!z0)=true)/\(Tt (!z1))/\(Tt (!z1))/\(Tt (!z1))/\(z1=false->(!z1)=true)/\(Tt (!z3))/\(Tt (!z3))/\(Tt (!z3))/\((!z3)=true->Z0P (aa,d,()))/\((!z3)=true->Z6X (aa,d,()) < N)/\(Tt (!z3))/\(z3=false->(!z3)=true)/\(iB (bif z3 then true else (!(Z6 aa d))) ((Q .ret (L2 [pB 4 false] []))) ((InR (u+1))/\(N0 (Z9n l d (u+1))))))) ((Q .ret (L2 [pB 4 true] []))))):
  ZDW N l d u N0 Q:=
 Eq.mpr V5 (h _ rfl _ rfl _ (Z8 _))
def ZEf(N:Nat)(l:List Kid)(d:Int):Prop:=AW (Z2 (Z7Z N)) Tryz.f98 ZlI [] (Zi (Z84.can (l,d,())) []) (EQ Tryz.f98 (ZbD (l,d,())) [])
abbrev ZH8:Prop:=∀ (N:Nat) (l:List Kid) (d:Int) (_:Unit),Z78 (l,d,())->ZhI (l,d,()) < N+1->ZEf N l d
def ZlH:Zg U:=lvl [([1,2],[2]),([1,2,10,11,12],[2]),([1,2,10,11,12,13],[2]),([1,2,6,10,11,12],[2,6]),([1,2,10,11,12,21],[2]),([4],[]),([1,2,10,11,12],[2]),([7,8],[]),([4],[])]
def Z9m(e:Edit)(d h:Int):LSt U:=(L2 [pI 1 d,pL 2,(10,.c (sU .op e.ops .unk)),pI 11 (e.ops.length:Int),pI 12 h] [(.loc 2,(enc .edit e))])
abbrev W99(N:Nat)(e:Edit)(d:Int)(Q:QT):=AW (Z2 (Z7Z N)) Tryz.f99 ZlH [] (L2 [(0,.agg (enc .edit e)),pI 1 d] []) Q
theorem ZHu(N:Nat)(e:Edit)(d:Int)(Q:QT)(h:Zl (AW (Z2 (Z7Z N)) Tryz.f99 ZlH [1,0,1,0,0]) (Z9m e d 0) (xB 0 (SW (Z2 (Z7Z N)) Tryz.f99 ZlH [1,1] Q))):
  W99 N e d Q:=
 Eq.mpr V5 h
abbrev ZDV(N:Nat)(e:Edit)(d h:Int)(N0:NT)(Q:QT):=AW (Z2 (Z7Z N)) Tryz.f99 ZlH [1,0,1,0,0] (Z9m e d h) (xT N0 (xB 0 (SW (Z2 (Z7Z N)) Tryz.f99 ZlH [1,1] Q)))
theorem Zw1(N:Nat)(e:Edit)(d s:Int)(N0:NT)(Q:QT)(h:∀ u,u=e->∀ ab,ab=(e.ops.getD s.toNat Op.nil)->∀ aa,aa=ab->let z0:=decide (((Z2L u.ops 0):Int) < 1048576);(iB (decide (s < (e.ops.length:Int))) (((0:Int)<=s/\s < (e.ops.length:Int))/\((Z3z (e.list,aa,d,()))/\(Z96 (e.list,aa,d,()) < N)/\(iB (!(Zf e.list aa d)) ((Q .ret (L2 [pB 4 false] []))) ((InR (s+1))/\(N0 (Z9m e d (s+1))))))) ((Ze0 (u,()))/\((Tt z0)/\(Tt z0)/\(Q .ret (L2 [(4,.c (.bool (bif z0 then (decide (((Z2K u.ops 0):Int) < 1048576)) else false)))] [])))))):
  ZDV N e d s N0 Q:=
 Eq.mpr V5 (h _ (Z8 _) _ rfl _ (J5 _))
def ZEe(N:Nat)(e:Edit)(d:Int):Prop:=AW (Z2 (Z7Z N)) Tryz.f99 ZlH [] (Zi (Zim.can (e,d,())) []) (EQ Tryz.f99 (ZdN (e,d,())) [])
abbrev ZH7:Prop:=∀ (N:Nat) (e:Edit) (d:Int) (_:Unit),Z77 (e,d,())->ZhH (e,d,()) < N+1->ZEe N e d
def ZtH:Zg U:=lvl [([2,3,4],[3,4]),([2,3,4,8],[3,4]),([2,3,4,8,9],[3,4]),([2,3,4,8,11],[3,4]),([2,3,4,8,13],[3,4]),([2,3,4,15],[3,4]),([6],[]),([6],[]),([6],[]),([6],[])]
abbrev ZIV(N:Nat)(list:Int)(o:Op)(d:Int)(Q:QT):=AW (Z2 (Z7Z N)) Tryz.f137 ZtH [] (L2 [pI 0 list,(1,.agg (enc .op o)),pI 2 d] []) Q
theorem ZFX(N:Nat)(list:Int)(o:Op)(d:Int)(Q:QT)(h:∀ s,s=(o.e)->∀ u,u=(.bool (bif (bif (bif (bif (o.n==0) then (decide ((0:Int) < (o.l.length:Int))) else false) then (Z6 s 1) else false) then (o.e.kind==0) else false) then (!(!(JE list o.l))) else false))->let z10:=Q .ret (L2 [(6,.c u)] []);let z9:=((o.l.length:Int):Int)==0;let z8:=decide ((1:Int)<=o.n);let z4:=bif z8 then (decide (o.n<=1048576)) else false;let z3:=bif (o.n==0) then z9 else false;let z6:=bif z3 then (Z1q list s) else false;let z1:=bif z4 then z9 else false;let z7:=bif z1 then (Z6 s 1) else false;let z0:=bif (o.n==0) then (decide ((0:Int) < (o.l.length:Int))) else false;let z5:=bif z0 then (Z6 s 1) else false;let z2:=bif z5 then (o.e.kind==0) else false;(iB (o.kind==0) ((Tt z8)/\(Tt z8)/\(Tt z8)/\(Tt z4)/\(Tt z4)/\(Tt z4)/\(Tt z4)/\(Tt z1)/\(Tt z1)/\(z1=true->Z0P (s,1,()))/\(z1=true->Z6X (s,1,()) < N)/\(Tt z1)/\(Tt z7)/\(Tt z7)/\(Tt z7)/\(Tt z7)/\(Q .ret (L2 [(6,.c (.bool (bif z7 then (o.e.kind==0) else false)))] []))) ((iB (o.kind==1) ((Tt (o.n==0))/\(Tt (o.n==0))/\(Tt (o.n==0))/\(Tt (o.n==0))/\(Tt z0)/\(Tt z0)/\(z0=true->Z0P (s,1,()))/\(z0=true->Z6X (s,1,()) < N)/\(Tt z0)/\(Tt z5)/\(Tt z5)/\(Tt z5)/\(Tt z5)/\(Tt z2)/\(Tt z2)/\(Tt z2)/\(z2=true->Ze7 (o.l,(list,()),()))/\(Tt z2)/\(Tt z2)/\z10) ((iB (o.kind==2) ((Tt (o.n==0))/\(Tt (o.n==0))/\(Tt (o.n==0))/\(Tt (o.n==0))/\(Tt z0)/\(Tt z0)/\(z0=true->Z0P (s,1,()))/\(z0=true->Z6X (s,1,()) < N)/\(Tt z0)/\(Tt z5)/\(Tt z5)/\(Tt z5)/\(Tt z5)/\(Tt z2)/\(Tt z2)/\(Tt z2)/\(z2=true->Ze7 (o.l,(list,()),()))/\(Tt z2)/\(Tt z2)/\z10) ((iB (o.kind==3) ((Tt (o.n==0))/\(Tt (o.n==0))/\(Tt (o.n==0))/\(Tt (o.n==0))/\(Tt z3)/\(Tt z3)/\(Tt z3)/\(z3=true->Zlp (list,s,()))/\(Tt z3)/\(Tt z6)/\(Tt z6)/\(Tt z6)/\(z6=true->Z0P (s,d,()))/\(z6=true->Z6X (s,d,()) < N)/\(Tt z6)/\(Q .ret (L2 [(6,.c (.bool (bif z6 then (Z6 s d) else false)))] []))) ((Q .ret (L2 [pB 6 false] []))))))))))):
  ZIV N list o d Q:=
 Eq.mpr V5 (h _ (Z8 _) _ rfl)
def ZzC(N:Nat)(list:Int)(o:Op)(d:Int):Prop:=AW (Z2 (Z7Z N)) Tryz.f137 ZtH [] (Zi (Zij.can (list,o,d,())) []) (EQ Tryz.f137 (ZnA (list,o,d,())) [])
abbrev ZAZ:Prop:=∀ (N:Nat) (list:Int) (o:Op) (d:Int) (_:Unit),Z3z (list,o,d,())->Z96 (list,o,d,()) < N+1->ZzC N list o d
def Zuu:List (FuncId × Fs U):=[(62,Zdi)]
abbrev W31(e:Edit)(Q:QT):=AW (Z2 Zuu) Tryz.f31 ZCY [] (L2 [(0,.agg (enc .edit e))] []) Q
theorem ZIk(e:Edit)(Q:QT)(h:let z0:=Edit.mk e.kind (Tree.mk e.old.kind e.old.words e.old.kids) (Tree.mk e.new.kind e.new.words e.new.kids) e.words e.kids e.list e.ops;(Z0P (z0,64,()))/\(Q .ret (L2 [pB 2 (Z6 z0 64)] []))):
  W31 e Q:=
 Eq.mpr V5 h
def ZF4(e:Edit):Prop:=AW (Z2 Zuu) Tryz.f31 ZCY [] (Zi (Zvc.can (e,())) []) (EQ Tryz.f31 (ZAh (e,())) [])
theorem ZCe(c62:CT 62 Zdi)(hb:∀ (e:Edit) (_:Unit),Zjy (e,())->ZF4 e):CT 31 Z51:=
 Z1 (l:=[(62,Zdi)]) Zk rfl (⟨c62,trivial⟩) ZCY Tryz.func31 rfl rfl 1 (fun _=> rfl) V2 (fun ⟨e,_⟩=> hb e ())
theorem Zxt(c95:CT 95 Z7t)(c96:CT 96 Z7s)(c97:CT 97 Z7r)(c93:CT 93 Z3n)(ZDm:CT 158 Z4q)(ZDj:CT 161 Z4p)(ZDt:CT 138 Z4r)(b62:ZHh)(b98:ZH8)(b99:ZH7)(ZDP:ZAZ):
  CT 62 Zdi/\CT 98 ZrO/\CT 99 ZrN/\CT 137 Znb:=by
 have ae:FK 62:=⟨Tryz.f62,Tryz.func62,rfl,rfl⟩
 have aa:FK 98:=⟨Tryz.f98,Tryz.func98,rfl,rfl⟩
 have u:FK 99:=⟨Tryz.f99,Tryz.func99,rfl,rfl⟩
 have ab:FK 137:=⟨Tryz.f137,Tryz.func137,rfl,rfl⟩
 have s:∀ N,CT 62 (fs Zim (fun a=> [Z0P a,Z6X a < N]) ZnG)/\CT 98 (fs Z84 (fun a=> [Z78 a,ZhI a < N]) ZbD)/\CT 99 (fs Zim (fun a=> [Z77 a,ZhH a < N]) ZdN)/\CT 137 (fs Zij (fun a=> [Z3z a,Z96 a < N]) ZnA):=by
  intro N
  induction N with
  | zero=> exact ⟨YQ ae,YQ aa,YQ u,YQ ab⟩
  | succ N ih=>
   have kn:=Z03 (l:=Z7Z N) ⟨ih.1,ih.2.1,ih.2.2.1,ih.2.2.2,c95,c96,c97,c93,ZDm,ZDj,ZDt,trivial⟩
   exact ⟨ZC (Γ:=Z2 (Z7Z N)) Zk rfl kn ZCL Tryz.func62 rfl rfl (fun a=> by show 2<=_;decide) (fun ⟨e,d,_⟩ h=> b62 N e d () h.1 h.2.1),
    ZC (Γ:=Z2 (Z7Z N)) Zk rfl kn ZlI Tryz.func98 rfl rfl (fun a=> by show 2<=_;decide) (fun ⟨l,d,_⟩ h=> b98 N l d () h.1 h.2.1),
    ZC (Γ:=Z2 (Z7Z N)) Zk rfl kn ZlH Tryz.func99 rfl rfl (fun a=> by show 2<=_;decide) (fun ⟨e,d,_⟩ h=> b99 N e d () h.1 h.2.1),
    ZC (Γ:=Z2 (Z7Z N)) Zk rfl kn ZtH Tryz.func137 rfl rfl (fun a=> by show 3<=_;decide) (fun ⟨list,o,d,_⟩ h=> ZDP N list o d () h.1 h.2.1)⟩
 exact ⟨YR ae fun N=> (s N).1,YR aa fun N=> (s N).2.1,YR u fun N=> (s N).2.2.1,YR ab fun N=> (s N).2.2.2⟩
end
theorem ZpS{e:Edit}:(Z6 e 1=true/\e.kind=0)↔Z14 e=true:=by
 rw [Z3M]
 simp only [Z14,Q0,decide_eq_true_eq]
 by_cases hk:e.kind=0
 .rw [JC]
  by_cases hb:Ys e.old=true/\Ys e.new=true
  .by_cases hw:e.words.length=0/\e.kids.length=0
   .by_cases hl:e.list=0/\e.ops.length=0
    .have d:e.words=[]:=Qs.1 hw.1
     have u:e.kids=[]:=Qs.1 hw.2
     have s:e.ops=[]:=Qs.1 hl.2
     rw [if_neg (fun h=> by grind),JC,d,u,s]
     simp only [ZN,Zz,Zy,Z13,Z12,QK,XK,Q0,decide_eq_true_eq]
     grind
    grind
   grind
  grind
 omega
theorem b62:ZHh:=by
 intro N e d _ hp hN
 simp only [Z0P,Z6X] at hp hN
 obtain ⟨⟨hm,hr⟩,ak,a3⟩:=hp
 obtain ⟨ik,ro,rn,a2,il,rk,ax⟩:=Z1Y hr
 have az:=ZY e
 have aw:=ZW e.kids
 have ay:=ZM e.ops
 have u:=Z3M e d
 rw [ZoY ak] at u
 refine ZHW N e d _ ?_
 rintro s aj y2 al y3 am
 subst aj al am
 simp only [iB,vcT,vcS,aiT,true_and]
 have ab:Z4f s=true↔¬((s.kind≠1/\¬(Ys s.old=true/\Ys s.new=true))\/(s.kind≠2/\¬(s.words.length=0/\s.kids.length=0))\/(s.kind≠3/\(s.list≠0\/s.ops.length≠0))):=by
  unfold Z4f
  split
  .grind
  .grind
 refine ⟨by simp only [Ze0];omega,fun hc=> Z5 rfl ?_,fun hc=> ?_⟩
 .grind
 have hb:=ab.1 hc.1
 have aq:¬(s.kind=0\/s.kind=1\/s.kind=2\/s.kind=3)->Z6 s d=false:=fun h=> by grind
 by_cases hk:s.kind=0\/s.kind=1\/s.kind=2\/s.kind=3
 .rw [JC,if_neg hb] at u
  have hw:s.kind≠2->s.words=[]/\s.kids=[]:=by
   intro h
   have:s.words.length=0/\s.kids.length=0:=X9 fun h2=> hb (Or.inr (Or.inl ⟨h,h2⟩))
   exact ⟨Qs.1 this.1,Qs.1 this.2⟩
  have ho:s.kind≠3->s.list=0/\s.ops=[]:=by
   intro h
   have:s.list=0/\s.ops.length=0:=by
    constructor
    .exact X9 fun h2=> hb (Or.inr (Or.inr ⟨h,Or.inl h2⟩))
    .exact X9 fun h2=> hb (Or.inr (Or.inr ⟨h,Or.inr h2⟩))
   exact ⟨this.1,Qs.1 this.2⟩
  refine ⟨fun h0=> Z5 rfl ?_,fun h0=> ⟨fun h1=> ⟨by simp only [Zgh];grind,fun _=> by simp only [Zgh];grind,Z5 rfl ?_⟩,fun h1=> ⟨fun h2=> ⟨by simp only [Zjn];grind,fun _=> by unfold InR;omega,fun _=> by simp only [Z78];grind,fun _=> by simp only [ZhI];omega,Z5 rfl ?_⟩,fun h2=> ⟨fun h3=> ⟨trivial,fun _=> by unfold InR;omega,fun hl=> by simp only [Z77];grind,fun _=> by simp only [ZhH];omega,Z5 rfl ?_⟩,fun h3=> ?_⟩⟩⟩⟩
  .rw [u,JC,(hw V0).1,(hw V0).2,(ho V0).1,(ho V0).2]
   simp [ZN,Zz,Zy,Z13,Z12]
   omega
  .rw [u,if_pos h1,Qn]
   grind
  .rw [u,if_neg h1,(ho V0).1,(ho V0).2,Qn]
   simp only [Zy,Z13,Z12]
   grind
  .rw [u,if_neg h1,(hw V0).1,(hw V0).2,Qn]
   simp only [ZN,Zz]
   grind
  .omega
 .have he:=aq hk
  refine ⟨fun h0=> by omega,fun h0=> ⟨fun h1=> by omega,fun h1=> ⟨fun h2=> by omega,fun h2=> ⟨fun h3=> by omega,fun h3=> Z5 rfl ?_⟩⟩⟩⟩
  rw [he]
theorem b98:ZH8:=by
 intro N l d _ hp hN
 simp only [Z78,ZhI] at hp hN
 obtain ⟨⟨hm,hr⟩,aw,ay⟩:=hp
 have hl:=ZW l
 refine ZHv N l d _ ?_
 refine Z4 (ι:=Int) (fun i=> Z9n l d i) (fun i=> 0<=i/\i<=l.length/\∃ s,-1<=s/\(i=0->s= -1)/\(0 < i->s=(l.getD (i - 1).toNat (KidOf.mk 0 Edit.nil)).at_)/\Zz s (l.drop i.toNat) d=Zz (-1) l d) (fun i=> ((l.length:Int) - i).toNat) 0 rfl ⟨V0,V0,-1,V0,fun _=> rfl,fun h=> by omega,by simp⟩ ?_
 rintro i ⟨g1,g2,s,g3,g4,g5,g6⟩
 refine Zw2 N l d i _ _ ?_
 rintro u ai y2 aj y3 ab
 simp only [iB,vcT,vcS,aiT,true_and]
 refine ⟨fun hi=> ?_,fun hi=> ?_⟩
 .have aa:=Zb (l:=l) (i:=i.toNat) V0 (KidOf.mk 0 Edit.nil)
  have af:=YE aa
  have ah:=Yq hr aa
  rw [Y1 g1 hi (KidOf.mk 0 Edit.nil)] at g6
  rw [<-ai] at g6 af ah
  rw [<-aj] at g5
  rw [<-ab] at af ah
  simp only [Zz,Z37] at g6
  rw [<-ab] at g6
  have hk:u.e.kind=y3.kind:=by rw [ab]
  rw [hk]
  have gl:(¬0 < i\/¬u.at_<=y2.at_)/\¬u.at_ < 0↔s < u.at_/\¬u.at_ < 0:=by
   by_cases h0:0 < i
   .have:=g5 h0;omega
   .have:=g4 V0;omega
  refine ⟨⟨g1,hi⟩,fun _=> by unfold InR;omega,fun _=> by omega,fun _=> ?_,fun _=> by simp only [Z6X];omega,fun hc=> Z5 rfl ?_,fun hc=> ⟨V4,i+1,rfl,⟨V0,V0,u.at_,V0,fun h=> by omega,fun _=> by grind,?_⟩,V0⟩⟩
  .simp only [Z0P]
   grind
  .grind
  .rw [<-g6,hc.2,decide_eq_true (show s < u.at_/\u.at_<=65534/\y3.kind≠0 by
    omega)]
   try rfl
 .rw [Q6 V0] at g6
  simp only [ZbD]
  rw [<-g6]
  exact Z5 rfl rfl
theorem Z73{list d:Int}:∀ {os:List Op},(∀ o∈os,Zf list o d=true)->Zy list os d=true
 | [],_=> rfl
 | o ::r,h=> by
  simp only [Zy,Q0]
  exact ⟨h o (Q5 ..),Z73 (fun x s=> h x (Q1 _ s))⟩
theorem b99:ZH7:=by
 intro N e d _ hp hN
 simp only [Z77,ZhH] at hp hN
 obtain ⟨⟨hm,hr,hl⟩,au,a1⟩:=hp
 obtain ⟨ik,ro,rn,az,il,rk,ah⟩:=Z1Y hr
 have ay:=ZY e
 have aw:=ZM e.ops
 refine ZHu N e d _ ?_
 refine Z4 (ι:=Int) (fun i=> Z9m e d i) (fun i=> 0<=i/\i<=e.ops.length/\∀ o∈e.ops.take i.toNat,Zf e.list o d=true) (fun i=> ((e.ops.length:Int) - i).toNat) 0 rfl ⟨V0,V0,by simp⟩ ?_
 rintro i ⟨g1,g2,g3⟩
 refine Zw1 N e d i _ _ ?_
 rintro u af y2 aj y3 ak
 subst af ak
 simp only [iB,vcT,vcS,aiT,true_and]
 refine ⟨fun hi=> ?_,fun hi=> ?_⟩
 .have s:=Zb (l:=u.ops) (i:=i.toNat) V0 Op.nil
  have ai:=ZL s
  have ae:=J0 ah s
  rw [<-aj] at s ai ae
  refine ⟨⟨g1,hi⟩,?_,by simp only [Z96];omega,fun hc=> Z5 rfl ?_,fun hc=> ⟨V4,i+1,rfl,⟨V0,V0,fun o ho=> ?_⟩,V0⟩⟩
  .simp only [Z3z]
   grind
  .have:Zy u.list u.ops d=false:=by
    rw [<-K3]
    intro h
    have:=rightOs_mem h s
    rw [hc] at this;cases this
   grind
  .rw [show (i+1).toNat=i.toNat+1 by omega,XH] at ho
   grind
 .rw [Qw V0] at g3
  have aa:Zy u.list u.ops d=true:=Z73 g3
  have hb:∀ o∈u.ops,(0<=o.n/\o.n<=1048576)/\o.l.length<=20000000000:=by
   intro o ho
   refine ⟨Z6a (g3 o ho),?_⟩
   have h1:=ZL ho
   rw [ZG] at h1
   have h2:=Zs o.l
   omega
  refine ⟨by simp only [Ze0];omega,Z5 rfl ?_⟩
  rw [Zkd _ _ hb V2 V2,Zkc _ _ hb V2 V2,aa,QK]
  grind
theorem ZDP:ZAZ:=by
 intro N list o d _ hp hN
 simp only [Z3z,Z96] at hp hN
 obtain ⟨⟨hm,hr,a3⟩,al,a5⟩:=hp
 obtain ⟨ik,a6,rl,re⟩:=J4 hr
 rw [ZG] at hm hN
 have az:=Zs o.l
 have a8:=Z3V o.e
 have ab:=Js list o d
 rw [ZoY al,Zat] at ab
 have hs:=ZpS (e:=o.e)
 refine ZFX N list o d _ ?_
 rintro y1 ai y2 am
 subst ai
 simp only [iB,vcT,vcS,aiT,true_and]
 have u:Z0P (o.e,1,()):=by simp only [Z0P];exact ⟨⟨V0,re⟩,V0,V0⟩
 have aa:Z6X (o.e,1,()) < N:=by simp only [Z6X];omega
 have s:Ze7 (o.l,(list,()),()):=by simp only [Ze7];exact ⟨V0,rl,V4⟩
 have ah:o.kind=1\/o.kind=2->y2= .bool (Zf list o d):=by
  intro hk
  rw [am,ab,JC]
  congr 1
  rw [Qn]
  (simp only [iB,vcS])
  by_cases hn:o.n=0
  .rw [JC,YC]
   (simp only [iB,vcS])
   constructor
   .rintro ⟨⟨⟨⟨h1,h2⟩,h3⟩,h4⟩,h5⟩
    exact ⟨⟨h5,V0⟩,hs.1 ⟨h3,h4⟩⟩
   .rintro ⟨⟨h5,h2⟩,h3⟩
    have:=hs.2 h3
    exact ⟨⟨⟨⟨hn,V0⟩,this.1⟩,this.2⟩,h5⟩
  .rw [YC]
   exact ⟨fun h=> absurd h.1.1.1.1 hn,fun h=> (nomatch h)⟩
 refine ⟨fun hk=> ⟨fun _=> u,fun _=> aa,Z5 rfl ?_⟩,fun hk=> ⟨fun ae=> ⟨fun _=> u,fun _=> aa,fun _=> s,?_⟩,fun ae=> ⟨fun af=> ⟨fun _=> u,fun _=> aa,fun _=> s,?_⟩,fun af=> ⟨fun ak=> ⟨fun _=> trivial,fun _=> ?_,fun _=> by simp only [Z6X];omega,Z5 rfl ?_⟩,fun ak=> Z5 rfl ?_⟩⟩⟩⟩
 .grind
 .rw [ah (Or.inl ae)]
  trivial
 .rw [ah (Or.inr af)]
  trivial
 .simp only [Z0P];grind
 .rw [ab,if_neg hk,Qn]
  by_cases hn:o.n=0
  .rw [JC,JC]
   have hw:Z1q list o.e=true↔(o.e.kind≠0/\7 < list)/\(list=8\/o.e.kind=2\/o.e.kind=1/\o.e.old.kind=1/\o.e.new.kind=1):=by
    unfold Z1q
    split
    .grind
    .grind
   grind
  grind
 grind
theorem ZIH:Contract Tryz.prog cfg 62 Zdi/\Contract Tryz.prog cfg 98 ZrO/\Contract Tryz.prog cfg 99 ZrN/\Contract Tryz.prog cfg 137 Znb:=
 Zxt c95 c96 c97 c93 ZDm ZDj ZDt b62 b98 b99 ZDP
theorem c31:Contract Tryz.prog cfg 31 Z51:=by
 refine ZCe ZIH.1 ?_
 intro e _ d
 simp only [Zjy] at d
 refine ZIk _ _ ?_
 (simp only [vE])
 refine ⟨by simp only [Z0P];grind,?_⟩
 trivial
noncomputable section
def Zny(a:Edit × Edit × Unit):V U:= .tup [(true,(enc .edit ((Z1n a.1 a.2.1).1))),(false,[.bool ((Z1n a.1 a.2.1).2)])]
def Zdf:Fs U:=fs ZmU (fun a=> [Z1M a]) Zny
def Zuk:List (FuncId × Fs U):=[(104,Z62),(42,JK)]
abbrev A68(p:List Nat):=AW (Z2 Zuk) Tryz.f68 ZCT p
theorem ZHQ(p q:Edit)(Q:QT)(h:∀ s,s=p->∀ d,d=q->∀ u,u=((Yv s d).1)->((Z1M (s,d,()))/\(iB (!((Yv s d).2)) ((Q .ret (L2 [pL 4,pB 5 false] [(.loc 4,zc1)]))) ((Z1O (u,()))/\(Q .ret (L2 [pL 4,pB 5 true] [(.loc 4,(enc .edit (Zq u)))])))))):
  A68 [] (L2 [(0,.agg (enc .edit p)),(1,.agg (enc .edit q))] []) Q:=
 Eq.mpr V5 (h _ (Z8 _) _ (Z8 _) _ (Z8 _))
def ZEA(p q:Edit):Prop:=AW (Z2 Zuk) Tryz.f68 ZCT [] (Zi (ZmU.can (p,q,())) []) (EQ Tryz.f68 (Zny (p,q,())) [])
theorem ZBT(ZDE:CT 104 Z62)(c42:CT 42 JK)(hb:∀ (p:Edit) (q:Edit) (_:Unit),Z1M (p,q,())->ZEA p q):CT 68 Zdf:=
 Z1 (l:=[(104,Z62),(42,JK)]) Zk rfl (⟨ZDE,c42,trivial⟩) ZCT Tryz.func68 rfl rfl 2 (fun _=> rfl) V2 (fun ⟨p,q,_⟩=> hb p q ())
end
theorem ZnM{e:Edit}(h:Jm e):Wk e:=by obtain ⟨d,s⟩:=h.2.2;exact .of s h.2.1
theorem Zbe{p q:Edit}(hp:Jm p)(hq:Jm q):ComWk True (Yv p q) p q:=ZDa _ p q (Qc _) (ZnM hp) (ZnM hq)
theorem ZyQ{p q:Edit}(hp:Jm p)(hq:Jm q)(h:(Yv p q).2=true):Z1O ((Yv p q).1,()):=by
 have H:=Zbe hp hq
 have:=H.ct trivial h
 have:=Z9c (Yv p q).1
 have:=hp.1
 have:=hq.1
 exact ⟨by grind,-1,(H.wk h).r⟩
theorem c68:Contract Tryz.prog cfg 68 Zdf:=by
 refine ZBT ZDE Zff.1 ?_
 intro p q _ d
 refine ZHQ _ _ _ ?_
 intro y1 u y2 s y3 h
 subst u s
 (simp only [iB,vcT,vcS])
 refine ⟨d,fun hc=> ?_,fun hc=> ?_⟩
 .refine YS (r':= .tup [(true,enc .edit Edit.nil),(false,[.bool false])]) ?_ V1
  simp only [Zny,Z1n]
  rw [if_neg (by grind)]
  try rfl
 .refine ⟨by rw [h];exact ZyQ d.1 d.2 hc,YS (r':= .tup [(true,enc .edit (Zq y3)),(false,[.bool true])]) ?_ V1⟩
  simp only [Zny,Z1n]
  rw [if_pos hc,h]
  try rfl
theorem Z8I:Jm Edit.nil:=by
 refine ⟨V2,?_,1,Zqh⟩
 exact ⟨Jp V2 V2,YB,YB,by grind,Jp V2 V2,trivial,trivial⟩
theorem Zj1:Y0 Edit.nil:=by simp [Edit.nil,Y0,Tree.nil,rng,Ya,Z0N,Z05,InR]
theorem ZfZ:∀ {l:List Op},(∀ o∈l,YF o)->Z05 l
 | [],_=> trivial
 | o ::r,h=> ⟨h o Q5,ZfZ fun x d=> h x (Q1 _ d)⟩
instance decStep:DecidableEq PStep:=fun a b=> decidable_of_iff (a.kind=b.kind/\a.at_=b.at_) (by cases a;cases b;simp)
theorem ZuW{p q:Edit}(hp:Jm p)(hq:Jm q)(h:(Z1n p q).2=true):(Yv p q).2=true/\(Z1n p q).1=Zq (Yv p q).1:=by
 unfold Z1n at h ⊢
 grind
theorem ZuV{p q:Edit}(hp:Jm p)(hq:Jm q)(h:(Z1n p q).2=true)(hs:ctE p+ctE q<=9000000000):Jm (Z1n p q).1/\ctE (Z1n p q).1+18<=ctE p+ctE q:=by
 have F:=Zbe hp hq
 obtain ⟨d,s⟩:=ZuW hp hq h
 have w:=F.wk d
 have c:=F.ct trivial d
 have n:=Z4G (Yv p q).1
 rw [s]
 exact ⟨⟨V0,J1 _ _ w.r w.g,_,Yi _ _ w.r⟩,V0⟩
theorem Zib:∀ (a b:List Edit),ctL (a++b)=ctL a+ctL b
 | [],b=> by simp [ctL]
 | e ::r,b=> by rw [Qt,ctL,ctL,Zib r b];omega
noncomputable section
def atF:List Edit->Tree->Option Tree
 | [],t=> some (Z3 t)
 | e ::r,t=> if Z6 e 64=true then (match doE false e t with
  | none=> none
  | some u=> if Za (Z3 u) 64=true then atF r (Z3 u) else none) else none
def atG:List Edit->Tree->Option Tree
 | [],t=> some t
 | e ::r,t=> if Z6 e 64=true then (match doE true e t with
  | none=> none
  | some u=> if Za u 64=true then atG r u else none) else none
def oT(o:Option Tree):Tree × Bool:=match o with
 | some t=> (t,true)
 | none=> (Tree.nil,false)
def atO(f:Tree)(l:List Edit)(n:Int):Prop:=Za f 64=true/\f.kind≠10/\0<=n/\n<=l.length
instance (f:Tree) (l:List Edit) (n:Int):Decidable (atO f l n):=by unfold atO;infer_instance
def atN(f:Tree)(l:List Edit)(n:Int):Tree × Bool:=if atO f l n then oT (atF (l.take n.toNat) f) else (Tree.nil,false)
def atM(f:Tree)(l:List Edit)(n:Int):Tree × Bool:=if atO f l n then oT (atG (l.take n.toNat) (Z3 f)) else (Tree.nil,false)
def ZmC(l:List Edit)(a b:Int):Edit × Bool:=
 if a < 0\/b < 0\/l.length < a\/l.length < b then (Edit.nil,false)
 else if a<=b then Z0o ((l.take b.toNat).drop a.toNat)
 else (Zq (ZO (Z0o ((l.take a.toNat).drop b.toNat)).1),(Z0o ((l.take a.toNat).drop b.toNat)).2)
end
noncomputable section
def JM(l:List Tree):Tree:=if l=[] then Tree.nil else .mk 9 [] l
def Z1s(w:WEdit):Tree:= .mk 1 [w.at_+w.mask*2 ^ 32,w.old,w.new] []
mutual
def ZT:Edit->Tree
 | .mk k o n w ks l os=> if k=1 then .mk 1 [1] [o,n] else if k=2 then .mk 1 [2] [JM (w.map Z1s),JM (Z0u ks)] else if k=3 then .mk 1 [3+l*2 ^ 8] [JM (Z0J l os)] else Tree.nil
def Z0u:List (KidOf Edit)->List Tree
 | []=> []
 | k ::r=> Zh4 k ::Z0u r
def Zh4:KidOf Edit->Tree
 | ⟨a,e⟩=> .mk 1 [a] [ZT e]
def Z0J(list:Int):List (OpOf Edit)->List Tree
 | []=> []
 | o ::r=> YW list o ::Z0J list r
def YW(list:Int):OpOf Edit->Tree
 | ⟨k,n,l,e⟩=> .mk 1 [k+n*2 ^ 8] (if k=1\/k=2 then [.mk list [] l] else if k=3 then [ZT e] else [])
end
def Zn(w:Int)(f b:Nat):Int:=w / 2 ^ f % 2 ^ b
def Zo(t:Tree)(i:Nat):Int:=t.words.getD i 0
def Zm(t:Tree)(i:Nat):Tree:=t.kids.getD i Tree.nil
def rdW(x:Tree):WEdit:=⟨Zn (Zo x 0) 0 32,Zn (Zo x 0) 32 8,Zo x 1,Zo x 2⟩
def rdK(f:Tree->Edit)(x:Tree):Kid:=⟨Zn (Zo x 0) 0 32,f (Zm x 0)⟩
def rdO(f:Tree->Edit)(x:Tree):Op:=
 ⟨Zn (Zo x 0) 0 8,Zn (Zo x 0) 8 40,if Zn (Zo x 0) 0 8=1\/Zn (Zo x 0) 0 8=2 then (Zm x 0).kids else [],if Zn (Zo x 0) 0 8=3 then f (Zm x 0) else Edit.nil⟩
def Jc(f:Tree->Edit)(t:Tree):Edit:=
 if t.kind=1 then
  .mk (Zn (Zo t 0) 0 8) (if Zn (Zo t 0) 0 8=1 then Zm t 0 else Tree.nil) (if Zn (Zo t 0) 0 8=1 then Zm t 1 else Tree.nil)
   (if Zn (Zo t 0) 0 8=2 then (Zm t 0).kids.map rdW else []) (if Zn (Zo t 0) 0 8=2 then (Zm t 1).kids.map (rdK f) else []) (Zn (Zo t 0) 8 8)
   (if Zn (Zo t 0) 0 8=3 then (Zm t 0).kids.map (rdO f) else [])
 else Edit.nil
def rdF:Nat->Tree->Edit
 | 0,_=> Edit.nil
 | n+1,t=> Jc (rdF n) t
def ZA(t:Tree):Edit:=rdF (Zh t) t
def rdP(t:Tree):Edit × Bool:=if Z6 (ZA t) 64=true/\Yd (Z3 (ZT (ZA t))) (Z3 t)=true then (ZA t,true) else (Edit.nil,false)
def Z1o(f:Tree)(l:List Edit):Tree:= .mk 1 [(l.length:Int)] [f,.mk 8 [] (l.map fun e=> ZT (Zq e))]
def rdL:List Tree->Option (List Edit)
 | []=> some []
 | k ::r=> if (rdP k).2=true then (rdL r).map (Zq (rdP k).1 ::·) else none
def rdB(t:Tree):Tree × List Edit × Bool:=
 if t.kind=1/\(Zm t 1).kind=8 then
  match rdL (Zm t 1).kids with
  | none=> (Tree.nil,[],false)
  | some l=> if (atN (Zm t 0) l l.length).2=true/\Yd (Z3 (Z1o (Zm t 0) l)) (Z3 t)=true then (Zm t 0,l,true) else (Tree.nil,[],false)
 else (Tree.nil,[],false)
end
theorem ZAI:∀ (l:List Edit) (t:Tree),atF l t=atG l (Z3 t)
 | [],_=> rfl
 | e ::r,t=> by
  rw [atF,atG]
  by_cases hr:Z6 e 64=true
  .rw [if_pos hr,if_pos hr,Z5Q,(Zi7 e 64 (Z3 t) t hr (ZuK t)).normed]
   cases doE false e t with
   | none=> rfl
   | some u=>
    dsimp only [Option.map]
    rw [ZAI r (Z3 u),Yr]
  .rw [if_neg hr,if_neg hr]
theorem ZAJ(f:Tree)(l:List Edit)(n:Int):atN f l n=atM f l n:=by unfold atN atM;rw [ZAI]
structure RowT (t:Tree):Prop where
 n:Z3 t=t
 r:Za t 64=true
 g:rng t
theorem RowT.rt{t:Tree}(h:RowT t):RT_ t:=⟨⟨64,h.r⟩,h.g⟩
theorem Zp5:∀ {l:List Edit} {t u:Tree},RowT t->(∀ e∈l,Y0 e)->atG l t=some u->RowT u/\(∀ e∈l,Z6 e 64=true)/\ZBi l t=some u
 | [],t,u,ht,_,h=> by
  injection h with h
  subst h
  exact ⟨ht,fun e s=> (by cases s),rfl⟩
 | e ::r,t,u,ht,hg,h=> by
  rw [atG] at h
  by_cases hr:Z6 e 64=true
  .rw [if_pos hr,Z5Q] at h
   cases hd:doE false e t with
   | none=> rw [hd] at h;cases h
   | some v=>
    rw [hd] at h
    dsimp only [Option.map] at h
    by_cases hv:Za (Z3 v) 64=true
    .rw [if_pos hv] at h
     have rv:RowT (Z3 v):=⟨Yr v,hv,YL _ (Z3r false _ _ _ (hg e Q5) ht.g hd)⟩
     obtain ⟨h1,h2,h3⟩:=Zp5 rv (fun x d=> hg x (Q1 _ d)) h
     refine ⟨h1,fun x d=> ?_,?_⟩
     .rcases Q7.1 d with rfl | d
      .exact hr
      .exact h2 x d
     .rw [ZBi,hd];exact h3
    .rw [if_neg hv] at h;cases h
  .rw [if_neg hr] at h;cases h
theorem Zia:∀ {l:List Edit},(∀ e∈l,Zd e<=10000)->ctL l<=l.length*660000000
 | [],_=> Qc _
 | e ::r,h=> by
  have h1:=Z6Q e
  have s:=h e Q5
  have u:=Zia (l:=r) fun x d=> h x (Q1 _ d)
  simp only [ctL,Qe,QC]
  omega
theorem JD(t:Tree):Zh t=1+t.words.length+Ze t.kids:=by cases t;rfl
theorem Yk(t:Tree)(i:Nat):Zh (Zm t i)<=Zh t:=by
 unfold Zm
 rw [JD t]
 rcases Xr i t.kids.length with h | h
 .have:=Y2 (Zb (l:=t.kids) h Tree.nil);omega
 .rw [Q9,Qp h]
  show 1<=_;omega
theorem Z3g{t x:Tree}{i j:Nat}(hx:x∈(Zm t i).kids):Zh (Zm x j)+1<=Zh t:=by
 have h1:=Yk t i
 have h:=Y2 hx
 have u:=JD (Zm t i)
 have s:=Yk x j
 have d:=JD x
 omega
theorem Z8K{f g:Tree->Edit}{t:Tree}(h:∀ y,Zh y+1<=Zh t->f y=g y):Jc f t=Jc g t:=by
 have a:(Zm t 1).kids.map (rdK f)=(Zm t 1).kids.map (rdK g):=XV fun x d=> by unfold rdK;rw [h _ (Z3g d)]
 have b:(Zm t 0).kids.map (rdO f)=(Zm t 0).kids.map (rdO g):=XV fun x d=> by unfold rdO;rw [h _ (Z3g d)]
 unfold Jc
 rw [a,b]
theorem ZsI:∀ (n m:Nat) (t:Tree),Zh t<=n->n<=m->rdF m t=rdF n t:=by
 intro n
 induction n with
 | zero=> intro m t h;have:=ZQ t;omega
 | succ n ih=>
  intro m t h s
  obtain ⟨m,rfl⟩:∃ k,m=k+1:=⟨m - 1,V0⟩
  exact Z8K fun y d=> ih m y V0 V0
theorem Z1e(t:Tree):ZA t=Jc ZA t:=by
 have h:=ZQ t
 obtain ⟨n,d⟩:∃ n,Zh t=n+1:=⟨Zh t - 1,V0⟩
 unfold ZA
 rw [d]
 show Jc (rdF n) t=Jc ZA t
 exact Z8K fun y s=> ZsI _ _ y (Qc _) V0
theorem ZdE(l:List Tree):(JM l).kids=l:=by
 unfold JM
 split
 .rename_i h;rw [h];try rfl
 .try rfl
theorem Z2p:∀ ks:List Kid,Z0u ks=ks.map fun k=> .mk 1 [k.at_] [ZT k.e]
 | []=> by rw [Z0u];try rfl
 | ⟨a,e⟩ ::r=> by rw [Z0u,Zh4,Z2p r];try rfl
theorem Z3D(list:Int)(o:Op):YW list o= .mk 1 [o.kind+o.n*2 ^ 8] (if o.kind=1\/o.kind=2 then [.mk list [] o.l] else if o.kind=3 then [ZT o.e] else []):=by cases o;rw [YW]
theorem Z2o(list:Int):∀ os:List Op,Z0J list os=os.map (YW list)
 | []=> by rw [Z0J];try rfl
 | o ::r=> by rw [Z0J,Z2o list r];try rfl
theorem Z4V(e:Edit):ZT e=if e.kind=1 then .mk 1 [1] [e.old,e.new] else if e.kind=2 then .mk 1 [2] [JM (e.words.map Z1s),JM (Z0u e.kids)] else if e.kind=3 then .mk 1 [3+e.list*2 ^ 8] [JM (Z0J e.list e.ops)] else Tree.nil:=by cases e;rw [ZT];try rfl
theorem ZsG{w:WEdit}(h0:0<=w.at_)(h1:w.at_<=65534)(m0:0<=w.mask)(m1:w.mask < 256):rdW (Z1s w)=w:=by
 have e1:Zn (w.at_+w.mask*2 ^ 32) 0 32=w.at_:=by unfold Zn;omega
 have e2:Zn (w.at_+w.mask*2 ^ 32) 32 8=w.mask:=by unfold Zn;omega
 show (⟨Zn (w.at_+w.mask*2 ^ 32) 0 32,Zn (w.at_+w.mask*2 ^ 32) 32 8,w.old,w.new⟩:WEdit)=w
 rw [e1,e2]
theorem Z6u{α:Type}{f:α->α}:∀ {l:List α},(∀ x∈l,f x=x)->l.map f=l
 | [],_=> rfl
 | x ::r,h=> by rw [QD,h x Q5,Z6u fun y d=> h y (Q1 _ d)]
theorem Zq1:∀ (n:Nat) (e:Edit) (d:Int),Zd e<=n->Y0 e->Z6 e d=true->ZA (ZT e)=e:=by
 intro n
 induction n with
 | zero=> intro e d h;have:=Z9d e;omega
 | succ n ih=>
  intro e d hn hg hr
  have R:=ZH hr
  have G:=YD hg
  rw [Z1e,Z4V]
  have hk:=R.kind
  have P:∀ x:Int,x < 256->0<=x->∀ y:Int,0<=y->Zn (x+y*2 ^ 8) 0 8=x:=fun x h1 h0 y hy=> by unfold Zn;omega
  by_cases k1:e.kind=1
  .obtain ⟨w0,s⟩:=R.words0 V0
   obtain ⟨l0,o0⟩:=R.ops0 V0
   rw [if_pos k1]
   have p1:Zn 1 0 8=1:=V2
   have p2:Zn 1 8 8=0:=V2
   show Jc ZA (.mk 1 [1] [e.old,e.new])=e
   unfold Jc
   rw [if_pos (show (Tree.mk 1 [1] [e.old,e.new]).kind=1 from rfl),show Zo (Tree.mk 1 [1] [e.old,e.new]) 0=1 from rfl,p1,p2,if_pos rfl,if_pos rfl,if_neg V2,if_neg V2,if_neg V2]
   obtain ⟨k,o,nw,w,ks,l,os⟩:=e
   have k1:k=1:=k1
   have w0:w=[]:=w0
   have s:ks=[]:=s
   have l0:l=0:=l0
   have o0:os=[]:=o0
   subst k1 w0 s l0 o0
   try rfl
  rw [if_neg k1]
  obtain ⟨u,aa⟩:=R.none k1
  by_cases k2:e.kind=2
  .obtain ⟨l0,o0⟩:=R.ops0 V0
   rw [if_pos k2]
   have p1:Zn 2 0 8=2:=V2
   have p2:Zn 2 8 8=0:=V2
   have ew:(e.words.map Z1s).map rdW=e.words:=by
    rw [XP]
    refine Z6u fun w hw=> ?_
    have A:=Yw R.words w hw
    have B:=G.2.2.1 w hw
    exact ZsG V0 A.2.1 B.2.1.1 B.2.1.2
   have ek:(Z0u e.kids).map (rdK ZA)=e.kids:=by
    rw [Z2p,XP]
    refine Z6u fun k ah=> ?_
    have A:=ZP R.kids k ah
    have m:=Jz ah
    show (⟨Zn k.at_ 0 32,ZA (ZT k.e)⟩:Kid)=k
    rw [ih k.e _ V0 (Yq G.2.2.2.1 ah).2 A.2,show Zn k.at_ 0 32=k.at_ by unfold Zn;omega]
   unfold Jc
   rw [if_pos (by rfl)]
   rw [show Zo (Tree.mk 1 [2] [JM (e.words.map Z1s),JM (Z0u e.kids)]) 0=2 from rfl,p1,p2,if_neg V2,if_neg V2,if_pos rfl,if_pos rfl,if_neg V2]
   rw [show Zm (Tree.mk 1 [2] [JM (e.words.map Z1s),JM (Z0u e.kids)]) 0=JM (e.words.map Z1s) from rfl,show Zm (Tree.mk 1 [2] [JM (e.words.map Z1s),JM (Z0u e.kids)]) 1=JM (Z0u e.kids) from rfl,ZdE,ZdE,ew,ek]
   obtain ⟨k,o,nw,w,ks,l,os⟩:=e
   have k2:k=2:=k2
   have u:o=Tree.nil:=u
   have aa:nw=Tree.nil:=aa
   have l0:l=0:=l0
   have o0:os=[]:=o0
   subst k2 u aa l0 o0
   try rfl
  rw [if_neg k2]
  obtain ⟨w0,s⟩:=R.words0 k2
  by_cases k3:e.kind=3
  .rw [if_pos k3]
   obtain ⟨ay,ax⟩:=R.list k3
   have p1:Zn (3+e.list*2 ^ 8) 0 8=3:=by unfold Zn;omega
   have p2:Zn (3+e.list*2 ^ 8) 8 8=e.list:=by unfold Zn;omega
   have eo:(Z0J e.list e.ops).map (rdO ZA)=e.ops:=by
    rw [Z2o,XP]
    refine Z6u fun o ho=> ?_
    have A:=ZJ (rightOs_mem R.ops ho)
    have g:=J4 (J0 G.2.2.2.2 ho)
    have m:=Z0S ho
    show rdO ZA (YW e.list o)=o
    rw [Z3D]
    unfold rdO
    rw [show Zo (Tree.mk 1 [o.kind+o.n*2 ^ 8] (if o.kind=1\/o.kind=2 then [.mk e.list [] o.l] else if o.kind=3 then [ZT o.e] else [])) 0=o.kind+o.n*2 ^ 8 from rfl]
    cases A with
    | keep nn a1 a2=>
     dsimp only
     rw [show Zn (0+nn*2 ^ 8) 0 8=0 by unfold Zn;omega,show Zn (0+nn*2 ^ 8) 8 40=nn by unfold Zn;omega]
     try rfl
    | gone ll a1 a2=> rfl
    | come ll a1 a2=> rfl
    | into e2 a1 a2 a3 a4=>
     show (⟨3,0,[],ZA (ZT e2)⟩:Op)=_
     rw [ih e2 _ (by dsimp only at m;omega) g.2.2.2 a1]
   unfold Jc
   rw [if_pos (by rfl)]
   rw [show Zo (Tree.mk 1 [3+e.list*2 ^ 8] [JM (Z0J e.list e.ops)]) 0=3+e.list*2 ^ 8 from rfl,p1,p2,if_neg V2,if_neg V2,if_neg V2,if_neg V2,if_pos rfl]
   rw [show Zm (Tree.mk 1 [3+e.list*2 ^ 8] [JM (Z0J e.list e.ops)]) 0=JM (Z0J e.list e.ops) from rfl,ZdE,eo]
   obtain ⟨k,o,nw,w,ks,l,os⟩:=e
   have k3:k=3:=k3
   have u:o=Tree.nil:=u
   have aa:nw=Tree.nil:=aa
   have w0:w=[]:=w0
   have s:ks=[]:=s
   subst k3 u aa w0 s
   try rfl
  .rw [if_neg k3]
   obtain ⟨l0,o0⟩:=R.ops0 k3
   unfold Jc
   rw [if_neg V2]
   obtain ⟨k,o,nw,w,ks,l,os⟩:=e
   have k0:k=0:=by have k1:¬k=1:=k1;have k2:¬k=2:=k2;have k3:¬k=3:=k3;have hk:0<=k/\k<=3:=hk;omega
   have u:o=Tree.nil:=u
   have aa:nw=Tree.nil:=aa
   have w0:w=[]:=w0
   have s:ks=[]:=s
   have l0:l=0:=l0
   have o0:os=[]:=o0
   subst k0 u aa w0 s l0 o0
   try rfl
theorem Zg2:∀ {l:List Tree},Ya l->∀ x∈l,rng x
 | [],_,_,hx=> by cases hx
 | y ::r,h,x,hx=> by
  rcases Q7.1 hx with rfl | hx
  .exact h.1
  .exact Zg2 h.2 x hx
theorem Z0M{t x:Tree}(h:rng t)(hx:x∈t.kids):rng x:=by
 obtain ⟨k,w,ks⟩:=t
 exact Zg2 h.2.2 x hx
theorem Y5{t:Tree}(h:rng t)(i:Nat):rng (Zm t i):=by
 unfold Zm
 rcases Xr i t.kids.length with hi | hi
 .exact Z0M h (Zb hi _)
 .rw [Q9,Qp hi];exact YB
theorem Z0E{t:Tree}(h:rng t)(i:Nat):0<=Zo t i/\Zo t i < 18446744073709551616:=by
 unfold Zo
 rcases Xr i t.words.length with hi | hi
 .obtain ⟨k,w,ks⟩:=t
  exact h.2.1 _ (Zb hi _)
 .rw [Q9,Qp hi];exact ⟨V2,V2⟩
theorem wA(t:Tree){i:Int}(h:0<=i):Zw t i=Zo t i.toNat:=by unfold Zw;rw [JC];try rfl
theorem kA(t:Tree){i:Int}(h:0<=i):ZI t i=Zm t i.toNat:=by unfold ZI;rw [JC];try rfl
theorem wA0(t:Tree):Zw t 0=Zo t 0:=wA t V2
theorem wA1(t:Tree):Zw t 1=Zo t 1:=wA t V2
theorem wA2(t:Tree):Zw t 2=Zo t 2:=wA t V2
theorem kA0(t:Tree):ZI t 0=Zm t 0:=kA t V2
theorem kA1(t:Tree):ZI t 1=Zm t 1:=kA t V2
theorem Zel(w:Int)(f b:Nat):0<=Zn w f b/\Zn w f b < 2 ^ b:=by
 unfold Zn
 have h:(0:Int) < 2 ^ b:=by exact XB V2
 exact ⟨Int.emod_nonneg _ V0,Int.emod_lt_of_pos _ h⟩
theorem Z3N:∀ (n:Nat) (t:Tree),Zh t<=n->Zd (ZA t)+1<=4*Zh t:=by
 intro n
 induction n with
 | zero=> intro t h;have:=ZQ t;omega
 | succ n ih=>
  intro t hn
  have kb:∀ {x:Tree} {i:Nat},x∈(Zm t i).kids->Zd (ZA (Zm x 0))+1<=4*Zh x:=fun {x i} hx=> by
   have:=Z3g (j:=0) hx
   have u:=ih (Zm x 0) V0
   have:=Yk x 0
   omega
  have ks:∀ l:List Tree,(∀ x∈l,Zd (ZA (Zm x 0))+1<=4*Zh x)->Zp (l.map (rdK ZA))+l.length<=4*Ze l:=by
   intro l
   induction l with
   | nil=> intro _;exact Xd _
   | cons x r ihl=>
    intro h
    have u:=h x Q5
    have h2:=ihl fun y hy=> h y (Q1 _ hy)
    simp only [QD,Zp,Ym,Ze,rdK,Qe] at h2 ⊢
    omega
  have os:∀ l:List Tree,(∀ x∈l,Zd (ZA (Zm x 0))+1<=4*Zh (Zm x 0))->Zj (l.map (rdO ZA))+l.length<=4*Ze l:=by
   intro l
   induction l with
   | nil=> intro _;exact Xd _
   | cons x r ihl=>
    intro h
    have u:=h x Q5
    have h2:=ihl fun y hy=> h y (Q1 _ hy)
    have hm:=JD x
    have hk:=JD (Zm x 0)
    have hl:((Zm x 0).kids=[]/\Zh (Zm x 0)=1)\/Zh (Zm x 0)<=Ze x.kids:=by
     unfold Zm
     cases x.kids with
     | nil=> exact .inl ⟨rfl,rfl⟩
     | cons y s=> exact .inr (by show Zh y<=_;simp only [Ze];omega)
    have e3:Zd Edit.nil=3:=by simp [Edit.nil,Zd,Zp,Zj,Tree.nil,Zh,Ze]
    have ho:Zx (rdO ZA x)+1<=4*Zh x:=by
     have e:=ZG (rdO ZA x)
     rw [e]
     unfold rdO
     dsimp only
     by_cases c:Zn (Zo x 0) 0 8=1\/Zn (Zo x 0) 0 8=2
     .rw [if_pos c,JC,e3]
      rcases hl with h | h
      .rw [h.1];simp only [Ze];omega
      .omega
     .rw [if_neg c]
      split
      .simp only [Ze];omega
      .rw [e3];simp only [Ze];omega
    simp only [QD,Zj,Ze,Qe] at h2 ⊢
    omega
  have mt:=JD t
  have d:Zh Tree.nil=1:=by simp [Tree.nil,Zh,Ze]
  rw [Z1e]
  unfold Jc
  split
  .have two:(Zh (Zm t 0)=1/\(Zm t 0).kids=[]\/Zh (Zm t 0)<=Ze t.kids)/\(Zh (Zm t 1)=1/\(Zm t 1).kids=[]\/Zh (Zm t 0)+Zh (Zm t 1)<=Ze t.kids):=by
    unfold Zm
    cases t.kids with
    | nil=> exact ⟨.inl ⟨rfl,rfl⟩,.inl ⟨rfl,rfl⟩⟩
    | cons y s=> cases s with
     | nil=> exact ⟨.inr (by show Zh y<=_;simp only [Ze];omega),.inl ⟨rfl,rfl⟩⟩
     | cons z q=> exact ⟨.inr (by show Zh y<=_;simp only [Ze];omega),.inr (by show Zh y+Zh z<=_;simp only [Ze];omega)⟩
   have f1:=ks (Zm t 1).kids fun x hx=> kb hx
   have f2:=os (Zm t 0).kids fun x hx=> ih _ (by have:=Z3g (j:=0) hx;omega)
   have ha:=JD (Zm t 0)
   have hb:=JD (Zm t 1)
   have lw:=Zs (Zm t 0).kids
   have lx:=Zs (Zm t 1).kids
   simp only [Zd]
   by_cases c1:Zn (Zo t 0) 0 8=1
   .rw [if_pos c1,if_pos c1,JC,JC,JC]
    simp only [Zp,Zj,Qj]
    omega
   .rw [if_neg c1,if_neg c1]
    by_cases c2:Zn (Zo t 0) 0 8=2
    .rw [if_pos c2,if_pos c2,JC,X5]
     simp only [Zj,Qj,d]
     rcases two with ⟨h0 | h0,u | u⟩
     .rw [h0.2,u.2];simp only [Xe,Zp,Qj];omega
     .omega
     .rw [u.2];simp only [Xe,Zp];omega
     .omega
    .rw [if_neg c2,if_neg c2]
     by_cases c3:Zn (Zo t 0) 0 8=3
     .rw [if_pos c3,X5]
      simp only [Zp,Qj,d]
      rcases two.1 with h0 | h0
      .rw [h0.2];simp only [Xe,Zj,Qj];omega
      .omega
     .rw [if_neg c3]
      simp only [Zp,Zj,Qj,d]
      omega
  .have:=ZQ t
   simp only [Edit.nil,Zd,Zp,Zj,d,Qj];omega
noncomputable def ZuD:List Edit->Edit->Edit × Bool
 | [],x=> (x,true)
 | e ::r,x=> if (ZGu x e).2=true then ZuD r (ZGu x e).1 else (Edit.nil,false)
noncomputable def Z3h(l:List Edit):Edit × Bool:=if (ZuD l Edit.nil).2=true then (Zq (ZuD l Edit.nil).1,true) else (Edit.nil,false)
noncomputable section
def Zvx:ArgL (List Edit × Unit):=(.cons (aSl .edit) .nil)
def Zjx(a:List Edit × Unit):Prop:=(∀ x∈a.1,Jm x)/\ctL a.1<=8000000000
def ZnE(a:List Edit × Unit):V U:= .tup [(true,(enc .edit ((Z0o a.1).1))),(false,[.bool ((Z0o a.1).2)])]
def Zdp:Fs U:=fs Zvx (fun a=> [Zjx a]) ZnE
def Zmb:List (FuncId × Fs U):=[(68,Zdf),(42,JK)]
def Zyn:Zg U:=lvk [([0,2],[2]),([0,2,4],[2,4]),([2,4,10,11,12],[2,((.loc 4),[.any,.any,.unk .u64,.unk .tree,.any,.unk .u64,.unk .tree,.unk .wedit,.unk .kid,.any,.unk .op])]),([2,4,10,11,12,13],[2,4]),([2,4,6,10,11,12],[2,4,6]),([2,4,7,8,10,11,12],[2,4,7]),([2,4,7,10,11,12,23],[2,4,7]),([2,3],[2]),([2,4,10,11,12],[2,4]),([2,4,10,11,12],[2,((.loc 4),[.any,.any,.unk .u64,.unk .tree,.any,.unk .u64,.unk .tree,.unk .wedit,.unk .kid,.any,.unk .op])]),([2,3],[2])]
def Z9U(l:List Edit)(ak s aa aj u:Int)(ah:List Int)(ab:List Tree)(ae:List Int)(af:List Tree)(h:List WEdit)(ai:List Kid)(d:List Op):LSt U:=(L2 [pL 2,pL 4,(10,.c (sU .edit l .unk)),pI 11 (l.length:Int),pI 12 ak] [(.loc 2,zc1),(.loc 4,[ci s,ci aa,sU .u64 ah .unk,sU .tree ab .unk,ci aj,sU .u64 ae .unk,sU .tree af .unk,sU .wedit h .unk,sU .kid ai .unk,ci u,sU .op d .unk])])
abbrev A36(p:List Nat):=AW (Z2 Zmb) Tryz.f36 Zyn p
abbrev S36(p:List Nat):=SW (Z2 Zmb) Tryz.f36 Zyn p
theorem ZIf(l:List Edit)(Q:QT)(h:(Zl (A36 [1,1,0,1,0,0]) (Z9U l 0 0 0 0 0 [] [] [] [] [] [] []) (xB 0 (S36 [1,1,1] Q)))):
  A36 [] (L2 [(0,.c (sU .edit l .unk))] []) Q:=
 Eq.mpr V5 h
theorem ZwN(l:List Edit)(u ae ah ao af:Int)(al:List Int)(ai:List Tree)(aj:List Int)(ak:List Tree)(ab:List WEdit)(am:List Kid)(aa:List Op)(N0:NT)(Q:QT)(h:∀ aq,aq=(l.getD u.toNat Edit.nil)->∀ d,d=(Edit.mk ae (Tree.mk ah al ai) (Tree.mk ao aj ak) ab am af aa)->∀ s,s=aq->let z1:=Edit.new ((Z1n d s).1);let z0:=Edit.old ((Z1n d s).1);(iB (decide (u < (l.length:Int))) (((0:Int)<=u/\u < (l.length:Int))/\((Z1M (d,s,()))/\(iB (!((Z1n d s).2)) ((Q .ret (L2 [pL 2,pB 3 false] [(.loc 2,zc1)]))) (((InR (u+1))/\(N0 (Z9U l (u+1) (Edit.kind ((Z1n d s).1)) (Tree.kind z0) (Tree.kind z1) (Edit.list ((Z1n d s).1)) (Tree.words z0) (Tree.kids z0) (Tree.words z1) (Tree.kids z1) (Edit.words ((Z1n d s).1)) (Edit.kids ((Z1n d s).1)) (Edit.ops ((Z1n d s).1))))))))) ((Z1O (d,()))/\(Q .ret (L2 [pL 2,pB 3 true] [(.loc 2,(enc .edit (Zq d)))]))))):
  A36 [1,1,0,1,0,0] (Z9U l u ae ah ao af al ai aj ak ab am aa) (xT N0 (xB 0 (S36 [1,1,1] Q))):=
 Eq.mpr V5 (h _ rfl _ rfl _ (Z8 _))
def ZEZ(l:List Edit):Prop:=AW (Z2 Zmb) Tryz.f36 Zyn [] (Zi (Zvx.can (l,())) []) (EQ Tryz.f36 (ZnE (l,())) [])
theorem ZCa(c68:CT 68 Zdf)(c42:CT 42 JK)(hb:∀ (l:List Edit) (_:Unit),Zjx (l,())->ZEZ l):CT 36 Zdp:=
 Z1 (l:=[(68,Zdf),(42,JK)]) Zk rfl (⟨c68,c42,trivial⟩) Zyn Tryz.func36 rfl rfl 1 (fun _=> rfl) V2 (fun ⟨l,_⟩=> hb l ())
end
theorem ZcJ:∀ l:List Edit,l.length<=ctL l
 | []=> Qc _
 | e ::r=> by have:=ZcJ r;have:=Zbd e;simp only [ctL,Qe];omega
theorem ZyS{p q:Edit}(hp:Jm p)(hq:Jm q)(h:(Z1n p q).2=true)(hs:ctE p+ctE q<=9000000000):Jm (Z1n p q).1/\ctE (Z1n p q).1+18<=ctE p+ctE q:=by
 have F:=Zbe hp hq
 unfold Z1n at h ⊢
 split at h
 .rename_i hc
  rw [if_pos hc]
  have w:=F.wk hc
  have c:=F.ct trivial hc
  have n:=Z4G (Yv p q).1
  dsimp only
  exact ⟨⟨V0,J1 _ _ w.r w.g,_,Yi _ _ w.r⟩,V0⟩
 .cases h
theorem c36:Contract Tryz.prog cfg 36 Zdp:=by
 refine ZCa c68 Zff.1 ?_
 intro l _ hp
 simp only [Zjx] at hp
 obtain ⟨hx,hc⟩:=hp
 have am:=ZcJ l
 refine ZIf _ _ ?_
 (simp only [iB,vcT,vcS])
 refine Z4 (ι:=Int × Edit) (fun j=> Z9U l j.1 j.2.kind j.2.old.kind j.2.new.kind j.2.list j.2.old.words j.2.old.kids j.2.new.words j.2.new.kids j.2.words j.2.kids j.2.ops) (fun j=> (0<=j.1/\j.1<=l.length)/\(Jm j.2/\ctE j.2+ctL (l.drop j.1.toNat)<=8000000018)/\Z5C (l.drop j.1.toNat) j.2=Z5C l Edit.nil) (fun j=> ((l.length:Int) - j.1).toNat) (0,Edit.nil) rfl ⟨⟨V0,V0⟩,⟨Z8I,by
   have:ctE Edit.nil=18:=rfl
   grind⟩,by simp⟩ ?_
 rintro ⟨i,x⟩ ⟨⟨i1,i2⟩,⟨s,x2⟩,d⟩
 dsimp only at i1 i2 s x2 d
 refine ZwN _ _ _ _ _ _ _ _ _ _ _ _ _ _ _ ?_
 rintro y1 h y2 u y3 rfl
 dsimp only at u
 have e2:y2=x:=by rw [u];obtain ⟨k,⟨_,_,_⟩,⟨_,_,_⟩,w,ks,l,os⟩:=x;rfl
 subst e2
 (simp only [iB,vcT,vcS])
 refine ⟨fun hi=> ?_,fun hi=> ?_⟩
 .have hd:=Y1 i1 hi Edit.nil
  rw [<-h] at hd
  have hm:y3∈l:=by rw [h];exact Zb V0 _
  rw [hd,ctL] at x2
  rw [hd,Z5C] at d
  refine ⟨⟨i1,hi⟩,⟨s,hx _ hm⟩,fun hc=> ?_,fun hc=> ⟨V4,(i+1,(Z1n y2 y3).1),rfl,⟨⟨V0,V0⟩,?_,?_⟩,V0⟩⟩
  .rw [if_neg (by grind)] at d
   have:Z0o l=(Edit.nil,false):=by rw [Z0o,if_neg];rw [<-d];decide
   simp only [ZnE,this]
   exact V1
  .have:=ZyS s (hx _ hm) hc V0
   grind
  grind
 .rw [Q6 V0,Z5C] at d
  have hm:=Z6d s
  refine ⟨⟨by grind,s.2.2⟩,?_⟩
  have:Z0o l=(Zq y2,true):=by rw [Z0o,<-d];try rfl
  simp only [ZnE,this]
  exact V1
noncomputable def ZeZ(e:Edit):Bool:=decide (0<=Z0H e 80 3000) && (!Z6 e 64 || Z2J e)
noncomputable def Zmw(f:Tree)(l:List Edit):Bool:=(decide (0<=ZD f 80 3000) && decide (l.length<=8)) && l.all ZeZ
noncomputable section
def ZAL:ArgL (Bnd × Unit):=(.cons (aEl .rbundle) .nil)
def ZBt(a:Bnd × Unit):Prop:=True
def ZGp(a:Bnd × Unit):V U:= .agg (enc .bundle a.1)
def ZiM:Fs U:=fs ZAL (fun a=> [ZBt a]) ZGp
def pre6(a:Bnd × Unit):Prop:=Z2t (Bnd.first a.1)/\rng (Bnd.first a.1)/\(∀ e∈Bnd.log a.1,Z3p e/\Y0 e)/\(Bnd.log a.1).length<=17592186044416
def ZGr(a:Bnd × Unit):V U:= .c (.bool (Zmw (Bnd.first a.1) (Bnd.log a.1)))
def ZiO:Fs U:=fs ZAL (fun a=> [pre6 a]) ZGr
def ZvM:ArgL (Bnd × Int × Unit):=(.cons (aEl .rbundle) (.cons (Yc .i64) .nil))
def ZnZ(a:Bnd × Int × Unit):Prop:=((Zh (Bnd.first a.1)<=1000000000/\rng (Bnd.first a.1))/\ctL (Bnd.log a.1)<=9000000000)/\∀ e∈Bnd.log a.1,Zd e<=1000000000/\Y0 e
def ZsC(a:Bnd × Int × Unit):V U:= .tup [(true,(enc .tree ((atM (Bnd.first a.1) (Bnd.log a.1) a.2.1).1))),(false,[.bool ((atM (Bnd.first a.1) (Bnd.log a.1) a.2.1).2)])]
def Z56:Fs U:=fs ZvM (fun a=> [ZnZ a]) ZsC
def ZAK:ArgL (Bnd × Int × Unit):=(.cons (aEl .bundle) (.cons (Yc .i64) .nil))
def ZBk(a:Bnd × Int × Unit):V U:= .tup [(true,(enc .tree ((atN (Bnd.first a.1) (Bnd.log a.1) a.2.1).1))),(false,[.bool ((atN (Bnd.first a.1) (Bnd.log a.1) a.2.1).2)])]
def Zbr:Fs U:=fs ZAK (fun a=> [ZnZ a]) ZBk
def ZvL:ArgL (Bnd × Unit):=(.cons (aEl .bundle) .nil)
def ZsX(a:Bnd × Unit):Prop:=((Zh (Bnd.first a.1)<=1000000000/\rng (Bnd.first a.1))/\ctL (Bnd.log a.1)<=9000000000)/\∀ e∈Bnd.log a.1,Zd e<=1000000000/\Y0 e
def ZAn(a:Bnd × Unit):V U:= .c (.bool ((atN (Bnd.first a.1) (Bnd.log a.1) (Bnd.log a.1).length).2))
def Zdy:Fs U:=fs ZvL (fun a=> [ZsX a]) ZAn
def ZvK:ArgL (Bnd × Int × Int × Unit):=(.cons (aEl .bundle) (.cons (Yc .i64) (.cons (Yc .i64) .nil)))
def ZsW(a:Bnd × Int × Int × Unit):Prop:=(∀ e∈Bnd.log a.1,Jm e)/\ctL (Bnd.log a.1)<=8000000000
def Zsw(a:Bnd × Int × Int × Unit):V U:= .tup [(true,(enc .edit ((ZmC (Bnd.log a.1) a.2.1 a.2.2.1).1))),(false,[.bool ((ZmC (Bnd.log a.1) a.2.1 a.2.2.1).2)])]
def Zdx:Fs U:=fs ZvK (fun a=> [ZsW a]) Zsw
abbrev A8(p:List Nat):=AW (Z2 Zmg) Tryz.f8 ZCR p
theorem vc8(b:Bnd)(Q:QT)(h:(Q .ret (L2 [pL 2] [(.loc 2,(enc .bundle b))]))):
  A8 [] (L2 [(0,.agg (enc .bundle b))] []) Q:=
 (Eq.mpr V5 h:)
abbrev ZHp(b:Bnd):Prop:=AW (Z2 Zmg) Tryz.f8 ZCR [] (Zi (ZAL.can (b,())) []) (EQ Tryz.f8 (ZGp (b,())) [])
theorem ZGD(hb:∀ (b:Bnd) (_:Unit),ZBt (b,())->ZHp b):CT 8 ZiM:=
 Z1 (l:=[]) Zk rfl trivial ZCR Tryz.func8 rfl rfl 1 (fun _=> rfl) V2 (fun ⟨b,_⟩=> hb b ())
def Zum:List (FuncId × Fs U):=[(22,Z52),(27,Zdr),(28,Z2s),(29,Zdq)]
def lv6:Zg U:=lvl [([1],[1]),([1,13],[1]),([2],[]),([1,3],[1]),([1,3,18],[1]),([1,3],[1]),([1,3,44],[1]),([2],[]),([2],[])]
def ZcG(b:Bnd)(d:Int):LSt U:=(L2 [pL 1,pI 3 d] [(.loc 1,(enc .bundle b))])
abbrev A6(p:List Nat):=AW (Z2 Zum) Tryz.f6 lv6 p
abbrev S6(p:List Nat):=SW (Z2 Zum) Tryz.f6 lv6 p
theorem vc6(b:Bnd)(Q:QT)(h:let z1:=Tree.mk (Tree.kind (Bnd.first b)) (Tree.words (Bnd.first b)) (Tree.kids (Bnd.first b));let z0:= !(decide (0<=ZD z1 80 3000));((Zjz (z1,()))/\(Tt (!z0))/\(Tt (!z0))/\(Tt (!z0))/\(z0=false->(!z0)=true)/\(iB (bif z0 then true else (decide ((8:Int) < ((Bnd.log b).length:Int)))) ((Q .ret (L2 [pB 2 false] []))) ((Zl (A6 [1,1,0,1,0,0]) (ZcG b 0) (xB 0 (S6 [1,1,1] Q))))))):
  A6 [] (L2 [(0,.agg (enc .bundle b))] []) Q:=
 (Eq.mpr V5 h:)
theorem ZB7(b:Bnd)(s:Int)(N0:NT)(Q:QT)(h:∀ u,u=(List.getD (Bnd.log b) s.toNat Edit.nil)->∀ d,d=u->let z0:= !(decide (0<=Z0H d 80 3000));let z1:=(!z0) && (Z6 d 64);(iB (decide (s < ((Bnd.log b).length:Int))) (((0:Int)<=s/\s < ((Bnd.log b).length:Int))/\(ZsV (d,()))/\(Tt (!z0))/\(Tt (!z0))/\(Tt (!z0))/\((!z0)=true->(0:Int)<=s/\s < ((Bnd.log b).length:Int))/\(Tt (!z0))/\(Tt (!z0))/\((!z0)=true->Z7c (d,64,()))/\(Tt (!z0))/\(Tt z1)/\(Tt z1)/\(Tt z1)/\(z1=true->(0:Int)<=s/\s < ((Bnd.log b).length:Int))/\(Tt z1)/\(Tt z1)/\(z1=true->Ze5 (d,()))/\(Tt z1)/\((!z0)=true->(True->(!z0)=true))/\((!z0)=true->((Z6 d 64)=true->z1=true))/\(z0=false->(!z0)=true)/\(iB (bif z0 then true else (bif (Z6 d 64) then (!(Z2J d)) else false)) ((Q .ret (L2 [pB 2 false] []))) ((InR (s+1))/\(N0 (ZcG b (s+1)))))) ((Q .ret (L2 [pB 2 true] []))))):
  A6 [1,1,0,1,0,0] (ZcG b s) (xT N0 (xB 0 (S6 [1,1,1] Q))):=
 (Eq.mpr V5 (h _ rfl _ (Z8 _)):)
abbrev ZHr(b:Bnd):Prop:=AW (Z2 Zum) Tryz.f6 lv6 [] (Zi (ZAL.can (b,())) []) (EQ Tryz.f6 (ZGr (b,())) [])
theorem ZGF(c22:CT 22 Z52)(c27:CT 27 Zdr)(c28:CT 28 Z2s)(c29:CT 29 Zdq)(hb:∀ (b:Bnd) (_:Unit),pre6 (b,())->ZHr b):CT 6 ZiO:=
 Z1 (l:=[(22,Z52),(27,Zdr),(28,Z2s),(29,Zdq)]) Zk rfl (⟨c22,c27,c28,c29,trivial⟩) lv6 Tryz.func6 rfl rfl 1 (fun _=> rfl) V2 (fun ⟨b,_⟩=> hb b ())
def Zmp:List (FuncId × Fs U):=[(28,Z2s),(20,Zdj),(34,Jr),(35,ZaA)]
def ZyB:Zg U:=lvl [([1,2,4],[2,4]),([1,2,4,30],[2,4]),([4,5],[4]),([1,2,4,6],[2,4,6]),([1,2,4,6,7],[2,4,6]),([1,2,4,6,7,37],[2,4,6]),([1,2,4,6,7],[2,4,6]),([1,2,4,6,7,46],[2,4,6]),([4,5],[4]),([1,2,4,6,7,8,9],[2,4,6,8]),([1,2,4,6,7,8,64],[2,4,6,8]),([4,5],[4]),([1,2,4,6,7],[2,4,6]),([4,5],[4])]
def Zae(b:Bnd)(n u h:Int)(s:List Int)(d:List Tree):LSt U:=(L2 [pI 1 n,pL 2,pL 4,pL 6,pI 7 u] [(.loc 2,(enc .bundle b)),(.loc 4,[ci 0,.nils,.nils]),(.loc 6,[ci h,sU .u64 s .unk,sU .tree d .unk])])
abbrev A10(p:List Nat):=AW (Z2 Zmp) Tryz.f10 ZyB p
abbrev S10(p:List Nat):=SW (Z2 Zmp) Tryz.f10 ZyB p
theorem ZIC(b:Bnd)(n:Int)(Q:QT)(h:∀ d,d=(Bnd.first b)->let z2:= !(Za d 64);let z0:=bif z2 then true else (((Tree.kind (Bnd.first b)):Int)==10);let z1:=bif z0 then true else (decide (n < 0));((ZbI (d,64,()))/\(Tt (!z2))/\(Tt (!z2))/\(Tt (!z2))/\(z2=false->(!z2)=true)/\(Tt (!z0))/\(z0=false->(!z0)=true)/\(Tt (!z1))/\(Tt (!z1))/\(Tt (!z1))/\(Tt (!z1))/\(z1=false->(!z1)=true)/\(iB (bif z1 then true else (decide ((((Bnd.log b).length:Int):Int) < n))) ((Q .ret (L2 [pL 4,pB 5 false] [(.loc 4,[ci 0,.nils,.nils])]))) ((Jv (d,()))/\(Zl (A10 [1,1,1,0,1,0,0]) (Zae b n 0 (Tree.kind (Z3 d)) (Tree.words (Z3 d)) (Tree.kids (Z3 d))) (xB 0 (S10 [1,1,1,1] Q))))))):
  A10 [] (L2 [(0,.agg (enc .bundle b)),pI 1 n] []) Q:=
 (Eq.mpr V5 (h _ (Z0 _)):)
theorem Zx8(b:Bnd)(n x7 d:Int)(u:List Int)(s:List Tree)(N0:NT)(Q:QT)(h:∀ af,af=(List.getD (Bnd.log b) x7.toNat Edit.nil)->∀ aa,aa=af->∀ ae,ae=(Jn (doE true aa (Tree.mk d u s)))->let z1:=(Q .ret (L2 [pL 4,pB 5 false] [(.loc 4,[ci 0,.nils,.nils])]));let z0:=doE true aa (Tree.mk d u s);(iB (decide (x7 < n)) (((0:Int)<=x7/\x7 < ((Bnd.log b).length:Int))/\(Z7c (aa,64,()))/\(iB (!(Z6 aa 64)) z1 (((0:Int)<=x7/\x7 < ((Bnd.log b).length:Int))/\(Z3O (aa,(Tree.mk d u s),()))/\((Tt (!(!(z0.isSome))))/\((!(!(z0.isSome)))=true->ZbI (ae,64,()))/\(Tt (!(!(z0.isSome))))/\((!(z0.isSome))=false->(!(!(z0.isSome)))=true)/\(iB (bif (!(z0.isSome)) then true else (!(Za ae 64))) z1 (((InR (x7+1))/\(N0 (Zae b n (x7+1) (Tree.kind (Jn z0)) (Tree.words (Jn z0)) (Tree.kids (Jn z0))))))))))) ((Q .ret (L2 [pL 4,pB 5 true] [(.loc 4,[ci d,sU .u64 u .unk,sU .tree s .unk])]))))):
  A10 [1,1,1,0,1,0,0] (Zae b n x7 d u s) (xT N0 (xB 0 (S10 [1,1,1,1] Q))):=
 (Eq.mpr V5 (h _ rfl _ (Z8 _) _ (Z0 _)):)
abbrev ZFm(b:Bnd)(n:Int):Prop:=AW (Z2 Zmp) Tryz.f10 ZyB [] (Zi (ZvM.can (b,n,())) []) (EQ Tryz.f10 (ZsC (b,n,())) [])
theorem ZCv(c28:CT 28 Z2s)(c20:CT 20 Zdj)(c34:CT 34 Jr)(c35:CT 35 ZaA)(hb:∀ (b:Bnd) (n:Int) (_:Unit),ZnZ (b,n,())->ZFm b n):CT 10 Z56:=
 Z1 (l:=[(28,Z2s),(20,Zdj),(34,Jr),(35,ZaA)]) Zk rfl (⟨c28,c20,c34,c35,trivial⟩) ZyB Tryz.func10 rfl rfl 2 (fun _=> rfl) V2 (fun ⟨b,n,_⟩=> hb b n ())
def Zuc:List (FuncId × Fs U):=[(32,Z1H),(30,Z2r),(31,Z51),(33,Jr)]
def lv9:Zg U:=lvl [([1,2,4],[2,4]),([1,2,4,6],[2,4,6]),([1,2,4,6,31],[2,4,6]),([4,5],[4]),([4,6,36,37,38],[4,6]),([4,6,36,37,38,39],[4,6]),([4,6,8,36,37,38],[4,6,8]),([4,6,8,36,37,38,44],[4,6,8]),([4,5],[4]),([4,6,9,10,36,37,38],[4,6,9]),([4,6,9,36,37,38,58],[4,6,9]),([4,5],[4]),([4,6,36,37,38],[4,6]),([4,6,36,37,38],[4,6]),([4,5],[4])]
def ZcF(b:Bnd)(n u h:Int)(s:List Int)(d:List Tree):LSt U:=(L2 [pL 4,pL 6,(36,.c (sU .edit (List.take n.toNat (Bnd.log b)) .unk)),pI 37 ((List.take n.toNat (Bnd.log b)).length:Int),pI 38 u] [(.loc 4,[ci 0,.nils,.nils]),(.loc 6,[ci h,sU .u64 s .unk,sU .tree d .unk])])
abbrev A9(p:List Nat):=AW (Z2 Zuc) Tryz.f9 lv9 p
abbrev S9(p:List Nat):=SW (Z2 Zuc) Tryz.f9 lv9 p
theorem vc9(b:Bnd)(n:Int)(Q:QT)(h:∀ d,d=(Bnd.first b)->let z2:= !(Za d 64);let z0:=bif z2 then true else (((Tree.kind (Bnd.first b)):Int)==10);let z1:=bif z0 then true else (decide (n < 0));((Zgh (d,()))/\(Tt (!z2))/\(Tt (!z2))/\(z2=false->(!z2)=true)/\(Tt (!z0))/\(z0=false->(!z0)=true)/\(Tt (!z1))/\(Tt (!z1))/\(Tt (!z1))/\(Tt (!z1))/\(z1=false->(!z1)=true)/\(iB (bif z1 then true else (decide ((((Bnd.log b).length:Int):Int) < n))) ((Q .ret (L2 [pL 4,pB 5 false] [(.loc 4,[ci 0,.nils,.nils])]))) (((0:Int)<=n/\n<=((Bnd.log b).length:Int))/\(Zl (A9 [1,1,1,0,1,0,0]) (ZcF b n 0 (Tree.kind (Bnd.first b)) (Tree.words (Bnd.first b)) (Tree.kids (Bnd.first b))) (xB 0 (S9 [1,1,1,1] Q))))))):
  A9 [] (L2 [(0,.agg (enc .bundle b)),pI 1 n] []) Q:=
 (Eq.mpr V5 (h _ (Z0 _)):)
theorem ZB6(b:Bnd)(n u d:Int)(aa:List Int)(s:List Tree)(N0:NT)(Q:QT)(h:∀ ah,ah=(List.getD (List.take n.toNat (Bnd.log b)) u.toNat Edit.nil)->∀ ab,ab=ah->∀ ae,ae=(Jn ((doE false ab (Tree.mk d aa s)).map Z3))->∀ af,af=ae->let z3:=List.take n.toNat (Bnd.log b);let z2:=(Q .ret (L2 [pL 4,pB 5 false] [(.loc 4,[ci 0,.nils,.nils])]));let z1:=Tree.mk d aa s;let z0:= !((doE false ab z1).isSome);(iB (decide (u < (z3.length:Int))) (((0:Int)<=u/\u < (z3.length:Int))/\((Zjy (ab,()))/\(iB (!(Z6 ab 64)) z2 ((Z3O (ab,z1,()))/\((Tt (!z0))/\((!z0)=true->Zgh (af,()))/\(Tt (!z0))/\(z0=false->(!z0)=true)/\(iB (bif z0 then true else (!(Za af 64))) z2 (((InR (u+1))/\(N0 (ZcF b n (u+1) ae.kind ae.words ae.kids)))))))))) ((Jv (z1,()))/\(Q .ret (L2 [pL 4,pB 5 true] [(.loc 4,(enc .tree (Z3 z1)))]))))):
  A9 [1,1,1,0,1,0,0] (ZcF b n u d aa s) (xT N0 (xB 0 (S9 [1,1,1,1] Q))):=
 (Eq.mpr V5 (h _ rfl _ (Z8 _) _ rfl _ (Z0 _)):)
abbrev ZHo(b:Bnd)(n:Int):Prop:=AW (Z2 Zuc) Tryz.f9 lv9 [] (Zi (ZAK.can (b,n,())) []) (EQ Tryz.f9 (ZBk (b,n,())) [])
theorem ZGC(c32:CT 32 Z1H)(c30:CT 30 Z2r)(c31:CT 31 Z51)(c33:CT 33 Jr)(hb:∀ (b:Bnd) (n:Int) (_:Unit),ZnZ (b,n,())->ZHo b n):CT 9 Zbr:=
 Z1 (l:=[(32,Z1H),(30,Z2r),(31,Z51),(33,Jr)]) Zk rfl (⟨c32,c30,c31,c33,trivial⟩) lv9 Tryz.func9 rfl rfl 2 (fun _=> rfl) V2 (fun ⟨b,n,_⟩=> hb b n ())
def ZuA:List (FuncId × Fs U):=[(9,Zbr)]
def ZD0:Zg U:=lvl [([1],[1]),([4],[]),([2],[])]
abbrev A12(p:List Nat):=AW (Z2 ZuA) Tryz.f12 ZD0 p
theorem ZIA(b:Bnd)(Q:QT)(h:let z0:=Bnd.mk (Tree.mk (Tree.kind (Bnd.first b)) (Tree.words (Bnd.first b)) (Tree.kids (Bnd.first b))) (Bnd.log b);((ZnZ (z0,((Bnd.log b).length:Int),()))/\(Q .ret (L2 [(2,.c (.bool ((atN (Bnd.first z0) (Bnd.log z0) ((Bnd.log b).length:Int)).2)))] [])))):
  A12 [] (L2 [(0,.agg (enc .bundle b))] []) Q:=
 (Eq.mpr V5 h:)
abbrev ZFk(b:Bnd):Prop:=AW (Z2 ZuA) Tryz.f12 ZD0 [] (Zi (ZvL.can (b,())) []) (EQ Tryz.f12 (ZAn (b,())) [])
theorem ZCt(c9:CT 9 Zbr)(hb:∀ (b:Bnd) (_:Unit),ZsX (b,())->ZFk b):CT 12 Zdy:=
 Z1 (l:=[(9,Zbr)]) Zk rfl (⟨c9,trivial⟩) ZD0 Tryz.func12 rfl rfl 1 (fun _=> rfl) V2 (fun ⟨b,_⟩=> hb b ())
def Zuz:List (FuncId × Fs U):=[(36,Zdp),(37,Z1G)]
def ZCZ:Zg U:=lvl [([1,2,3,6],[3,6]),([1,2,3,6,10],[3,6]),([6,7],[6]),([1,2,3,6,32],[3,6]),([6,7],[6]),([6,8,9],[6,8]),([6,7],[6])]
abbrev A13(p:List Nat):=AW (Z2 Zuz) Tryz.f13 ZCZ p
theorem ZIz(b:Bnd)(from_ to:Int)(Q:QT)(h:∀ s,s=(List.drop from_.toNat (List.take to.toNat (Bnd.log b)))->∀ d,d=(List.drop to.toNat (List.take from_.toNat (Bnd.log b)))->∀ u,u=((Z0o d).1)->let z2:=decide (from_ < 0);let z1:=bif z2 then true else (decide (to < 0));let z0:=bif z1 then true else (decide ((((Bnd.log b).length:Int):Int) < from_));((Tt (!z2))/\(z2=false->(!z2)=true)/\(Tt (!z1))/\(Tt (!z1))/\(Tt (!z1))/\(Tt (!z1))/\(z1=false->(!z1)=true)/\(Tt (!z0))/\(Tt (!z0))/\(Tt (!z0))/\(Tt (!z0))/\(z0=false->(!z0)=true)/\(iB (bif z0 then true else (decide ((((Bnd.log b).length:Int):Int) < to))) ((Q .ret (L2 [pL 6,pB 7 false] [(.loc 6,zc1)]))) ((iB (decide (from_<=to)) (((0:Int)<=from_/\from_<=to/\to<=((Bnd.log b).length:Int))/\(Zjx (s,()))/\(Q .ret (L2 [pL 6,pB 7 ((Z0o s).2)] [(.loc 6,(enc .edit ((Z0o s).1)))]))) (((0:Int)<=to/\to<=from_/\from_<=((Bnd.log b).length:Int))/\(Zjx (d,()))/\((Z1O (u,()))/\(Q .ret (L2 [pL 6,pB 7 ((Z0o d).2)] [(.loc 6,(enc .edit (Zq (ZO u))))]))))))))):
  A13 [] (L2 [(0,.agg (enc .bundle b)),pI 1 from_,pI 2 to] []) Q:=
 (Eq.mpr V5 (h _ rfl _ rfl _ (Z8 _)):)
abbrev ZFj(b:Bnd)(from_ to:Int):Prop:=AW (Z2 Zuz) Tryz.f13 ZCZ [] (Zi (ZvK.can (b,from_,to,())) []) (EQ Tryz.f13 (Zsw (b,from_,to,())) [])
theorem ZCs(c36:CT 36 Zdp)(c37:CT 37 Z1G)(hb:∀ (b:Bnd) (d:Int) (h:Int) (_:Unit),ZsW (b,d,h,())->ZFj b d h):CT 13 Zdx:=
 Z1 (l:=[(36,Zdp),(37,Z1G)]) Zk rfl (⟨c36,c37,trivial⟩) ZCZ Tryz.func13 rfl rfl 3 (fun _=> rfl) V2 (fun ⟨b,d,h,_⟩=> hb b d h ())
end
theorem c8:Contract Tryz.prog cfg 8 ZiM:=by
 refine ZGD ?_
 intro b _ _
 refine vc8 _ _ ?_
 exact V1
theorem ZuI(e:Edit)(r:List Edit):(e ::r).all ZeZ=(ZeZ e && r.all ZeZ):=rfl
theorem c6:Contract Tryz.prog cfg 6 ZiO:=by
 refine ZGF c22 c27 ZmB.1 c29 ?_
 intro b _ hp
 obtain ⟨h1,h2,h3,h4⟩:=hp
 dsimp only at h1 h2 h3 h4
 refine vc6 _ _ ?_
 (simp only [vE])
 (simp only [iB,vcT,vcS])
 refine ⟨h1,fun hb=> ?_,fun hb=> ?_⟩
 .refine Z5 rfl ?_
  unfold Zmw
  rcases hb with h | h
  .rw [decide_eq_false h];try rfl
  .rw [decide_eq_false (show ¬b.log.length<=8 by omega),Bool.and_false];try rfl
 .have ab:decide (0<=ZD b.first 80 3000)=true:=by simpa using hb.1
  have af:b.log.length<=8:=V0
  refine Z4 (ι:=Int) (fun i=> ZcG b i) (fun i=> (0<=i/\i<=b.log.length)/\b.log.all ZeZ=(b.log.drop i.toNat).all ZeZ) (fun i=> ((b.log.length:Int) - i).toNat) 0 rfl ⟨⟨V0,V0⟩,rfl⟩ ?_
  rintro i ⟨⟨i0,i1⟩,s⟩
  refine ZB7 _ _ _ _ ?_
  intro y1 e1 u e2
  subst e2
  (simp only [iB,vcT,vcS])
  refine ⟨fun d=> ?_,fun d=> ?_⟩
  .rw [Y1 i0 d Edit.nil,<-e1,ZuI] at s
   have hm:u∈b.log:=by rw [e1];exact Zb V0 _
   have hs:=h3 u hm
   refine ⟨⟨i0,d⟩,hs.1,fun _=> ⟨i0,d⟩,fun h=> ⟨⟨by dsimp only;have:=Zbc h;omega,hs.2⟩,V3,V3⟩,fun _=> ⟨i0,d⟩,fun h=> ⟨⟨by dsimp only;have:=Zbc h.1;omega,hs.2⟩,64,h.2⟩,fun h hr=> ⟨h,hr⟩,fun hx=> ?_,
    fun hx=> ⟨V4,i+1,rfl,⟨⟨V0,V0⟩,?_⟩,V0⟩⟩
   .have e:ZeZ u=false:=by
     unfold ZeZ
     rcases hx with h | h
     .rw [decide_eq_false h];try rfl
     .rw [h.1,h.2];simp
    refine Z5 rfl ?_
    unfold Zmw
    rw [s,e]
    simp
   .have e:ZeZ u=true:=by
     unfold ZeZ
     rw [decide_eq_true hx.1]
     rcases hx.2 with h | h
     .rw [h];try rfl
     .rw [h];simp
    rw [s,e,QK]
  .rw [Q6 V0] at s
   refine Z5 rfl ?_
   unfold Zmw
   rw [ab,decide_eq_true af,s]
   try rfl
theorem Zp4{f:Tree}{l:List Edit}{n:Int}(h:((Za f 64=false\/f.kind=10)\/n < 0)\/(l.length:Int) < n):¬atO f l n:=by
 rintro ⟨d,s,u,h4⟩
 rcases h with ((h | h) | h) | h
 .rw [d] at h;cases h
 .exact s h
 .omega
 .omega
theorem Zp3{f:Tree}{l:List Edit}{n:Int}(h:((Za f 64=true/\¬f.kind=10)/\¬n < 0)/\¬(l.length:Int) < n):atO f l n:=⟨h.1.1.1,h.1.1.2,V0,V0⟩
theorem Zgt{e:Edit}{t u:Tree}(h:Z6 e 64=true)(hd:doE false e t=some u):Zh (Z3 u)<=Zh t+ctE e:=by
 have:=Z6r false _ 64 _ _ h hd
 have:=Yj u
 omega
theorem Zfb(l:List Edit)(a b:Nat):ctL ((l.take b).drop a)<=ctL l:=by
 have d:=Zib (l.take b) (l.drop b)
 have h:=Zib ((l.take b).take a) ((l.take b).drop a)
 rw [QQ] at d h
 omega
set_option maxHeartbeats 1000000 in
theorem c10:Contract Tryz.prog cfg 10 Z56:=by
 refine ZCv ZmB.1 c20 c34 c35 ?_
 intro b n _ hp
 obtain ⟨⟨⟨hm,hg⟩,hc⟩,he⟩:=hp
 dsimp only at hm hg hc he
 have hl:=ZcJ b.log
 have ao:=Zfb b.log 0 n.toNat
 have fin:∀ {X:Tree × Bool} {s:LSt U},atM b.first b.log n=X->ZF cfg Tryz.f10.ntmps Tryz.f10.results.toList (.tup [(true,enc .tree X.1),(false,[.bool X.2])]) [] .ret s->ZF cfg Tryz.f10.ntmps Tryz.f10.results.toList (ZsC (b,n,())) [] .ret s:=by
  intro X s h hs
  subst h
  exact hs
 refine ZIC _ _ _ ?_
 intro y1 e1
 subst e1
 (simp only [iB,vcT,vcS])
 refine ⟨⟨V3,hg,V3,V3⟩,fun hb=> fin (X:=(Tree.nil,false)) (by unfold atM;rw [if_neg (Zp4 hb)]) V1,fun hb=> ⟨by dsimp only [Jv];omega,?_⟩⟩
 have hA:=Zp3 hb
 have eA:atM b.first b.log n=oT (atG (b.log.take n.toNat) (Z3 b.first)):=by unfold atM;rw [if_pos hA]
 have hn:=hA.2.2
 have nm:=Yj b.first
 refine Z4 (ι:=Int × Tree) (fun s=> Zae b n s.1 s.2.kind s.2.words s.2.kids) (fun s=> (0<=s.1/\s.1<=n)/\atG (b.log.take n.toNat) (Z3 b.first)=atG ((b.log.take n.toNat).drop s.1.toNat) s.2/\Zh s.2+ctL ((b.log.take n.toNat).drop s.1.toNat)<=10000000000/\rng s.2) (fun s=> (n - s.1).toNat) (0,Z3 b.first) rfl ⟨⟨V3,V3⟩,rfl,by dsimp only at ao ⊢;show Zh (Z3 b.first)+ctL ((b.log.take n.toNat).drop 0)<=_;omega,YL _ hg⟩ ?_
 rintro ⟨i,t⟩ ⟨⟨i0,i1⟩,d,mt,gt⟩
 dsimp only at i0 i1 d mt gt
 have ll:((b.log.take n.toNat).length:Int)=n:=by rw [Qm];omega
 refine Zx8 _ _ _ _ _ _ _ _ ?_
 intro y1 e1 y2 e2 y3 e3
 subst e2
 (simp only [vE])
 rw [Tree.eta] at e3
 (simp only [iB,vcT,vcS])
 refine ⟨fun hi=> ?_,fun hi=> ?_⟩
 .have ah:y2=(b.log.take n.toNat).getD i.toNat Edit.nil:=by
   rw [e1,Q9,Q9,X4 V0]
  rw [Y1 i0 V0 Edit.nil,<-ah,ctL] at mt
  rw [Y1 i0 V0 Edit.nil,<-ah,atG] at d
  have af:y2∈b.log:=by rw [e1];exact Zb V0 _
  obtain ⟨me,ge⟩:=he y2 af
  have ce:=Z6Q y2
  refine ⟨⟨i0,V0⟩,⟨⟨V3,ge⟩,V3,V3⟩,fun hr=> fin (X:=(Tree.nil,false)) (by rw [eA,d,if_neg (by rw [hr];decide)];rfl) V1,fun hr=> ?_⟩
  rw [if_pos hr] at d
  have ai:Z3O (y2,t,()):=⟨⟨V3,ge,64,hr⟩,V3,gt⟩
  cases hd:doE true y2 t with
  | none=>
   rw [hd] at d
   exact ⟨⟨i0,V0⟩,ai,fun h=> (by cases h),fun _=> fin (X:=(Tree.nil,false)) (by rw [eA,d];rfl) V1,fun h=> (by cases h.1)⟩
  | some u=>
   rw [hd] at d
   dsimp only at d
   have ab:y3=u:=by
    rw [e3]
    show Jn (doE true y2 t)=u
    rw [hd];try rfl
   obtain ⟨v,hv,rfl⟩:∃ v,doE false y2 t=some v/\u=Z3 v:=by
    rw [Z5Q] at hd
    cases h:doE false y2 t with
    | none=> rw [h] at hd;cases hd
    | some v=> rw [h] at hd;injection hd with hd;exact ⟨v,rfl,hd.symm⟩
   have mu:=Zgt hr hv
   have gu:=YL _ (Z3r false _ _ _ ge gt hv)
   refine ⟨⟨i0,V0⟩,ai,fun _=> ⟨by rw [ab];dsimp only;omega,by rw [ab];exact gu,V3,V3⟩,fun h=> fin (X:=(Tree.nil,false)) (by rw [eA,d,if_neg (by rcases h with h | h;cases h;rw [<-ab,h];decide)];rfl) V1,
    fun h=> ⟨V4,(i+1,Z3 v),rfl,⟨⟨V3,V3⟩,by rw [d,if_pos (by rw [<-ab];exact h.2)],V3,gu⟩,V3⟩⟩
 .rw [Q6 V0,atG] at d
  exact fin (X:=(t,true)) (by rw [eA,d];rfl) V1
set_option maxHeartbeats 1000000 in
theorem c9:Contract Tryz.prog cfg 9 Zbr:=by
 refine ZGC c32 c30 c31 c33 ?_
 intro b n _ hp
 obtain ⟨⟨⟨hm,hg⟩,hc⟩,he⟩:=hp
 dsimp only at hm hg hc he
 have hl:=ZcJ b.log
 have a2:=Zfb b.log 0 n.toNat
 have fin:∀ {X:Tree × Bool} {s:LSt U},atN b.first b.log n=X->ZF cfg Tryz.f9.ntmps Tryz.f9.results.toList (.tup [(true,enc .tree X.1),(false,[.bool X.2])]) [] .ret s->ZF cfg Tryz.f9.ntmps Tryz.f9.results.toList (ZBk (b,n,())) [] .ret s:=by
  intro X s h hs
  subst h
  exact hs
 refine vc9 _ _ _ ?_
 intro y1 e1
 subst e1
 (simp only [iB,vcT,vcS])
 refine ⟨⟨V3,hg⟩,fun hb=> fin (X:=(Tree.nil,false)) (by unfold atN;rw [if_neg (Zp4 hb)]) V1,fun hb=> ⟨⟨V0,V0⟩,?_⟩⟩
 have hA:=Zp3 hb
 have eA:atN b.first b.log n=oT (atF (b.log.take n.toNat) b.first):=by unfold atN;rw [if_pos hA]
 have hn:=hA.2.2
 have ll:((b.log.take n.toNat).length:Int)=n:=by rw [Qm];omega
 refine Z4 (ι:=Int × Tree) (fun s=> ZcF b n s.1 s.2.kind s.2.words s.2.kids) (fun s=> (0<=s.1/\s.1<=n)/\atF (b.log.take n.toNat) b.first=atF ((b.log.take n.toNat).drop s.1.toNat) s.2/\Zh s.2+ctL ((b.log.take n.toNat).drop s.1.toNat)<=10000000000/\rng s.2) (fun s=> (n - s.1).toNat) (0,b.first) rfl ⟨⟨V3,V3⟩,rfl,by show Zh b.first+ctL ((b.log.take n.toNat).drop 0)<=_;omega,hg⟩ ?_
 rintro ⟨i,t⟩ ⟨⟨i0,i1⟩,d,mt,gt⟩
 dsimp only at i0 i1 d mt gt
 refine ZB6 _ _ _ _ _ _ _ _ ?_
 intro y1 e1 u e2 y3 e3 y4 e4
 subst e2 e4
 (simp only [vE])
 (simp only [iB,vcT,vcS])
 refine ⟨fun hi=> ?_,fun hi=> ?_⟩
 .have aa:u=(b.log.take n.toNat).getD i.toNat Edit.nil:=e1
  rw [Y1 i0 V0 Edit.nil,<-aa,ctL] at mt
  rw [Y1 i0 V0 Edit.nil,<-aa,atF] at d
  have ae:u∈b.log:=Xp (by rw [aa];exact Zb V0 _)
  obtain ⟨me,ge⟩:=he u ae
  have ce:=Z6Q u
  refine ⟨⟨i0,V0⟩,⟨V3,ge⟩,fun hr=> fin (X:=(Tree.nil,false)) (by rw [eA,d,if_neg (by rw [hr];decide)];rfl) V1,fun hr=> ?_⟩
  rw [if_pos hr] at d
  have af:Z3O (u,t,()):=⟨⟨V3,ge,64,hr⟩,V3,gt⟩
  have e3:y4=Jn ((doE false u t).map Z3):=e3.trans (by rw [Tree.eta])
  cases hd:doE false u t with
  | none=>
   rw [hd] at d
   exact ⟨af,fun h=> (by cases h),fun _=> fin (X:=(Tree.nil,false)) (by rw [eA,d];rfl) V1,fun h=> (by cases h.1)⟩
  | some v=>
   rw [hd] at d e3
   dsimp only at d
   have al:y4=Z3 v:=e3
   subst al
   have mu:=Zgt hr hd
   have gu:=YL _ (Z3r false _ _ _ ge gt hd)
   refine ⟨af,fun _=> ⟨V3,gu⟩,fun h=> fin (X:=(Tree.nil,false)) (by rw [eA,d,if_neg (by rcases h with h | h;cases h;rw [h];decide)];rfl) V1,
    fun h=> ⟨V4,(i+1,Z3 v),rfl,⟨⟨V3,V3⟩,by rw [d,if_pos h.2],V3,gu⟩,V3⟩⟩
 .rw [Q6 V0,atF] at d
  exact ⟨by dsimp only [Jv];omega,fin (X:=(Z3 t,true)) (by rw [eA,d];rfl) V1⟩
theorem Zkk:∀ (l:List Edit) (x:Edit),Jm x->(∀ e∈l,Jm e)->ctE x+ctL l<=8000000018->Jm (Z5C l x).1
 | [],x,hx,_,_=> hx
 | e ::r,x,hx,he,hc=> by
  rw [Z5C]
  split
  .rename_i h
   rw [ctL] at hc
   have o:=ZuV hx (he e Q5) h V0
   exact Zkk r _ o.1 (fun y d=> he y (Q1 _ d)) V0
  .exact Z8I
theorem ZuC{l:List Edit}(he:∀ e∈l,Jm e)(hc:ctL l<=8000000000):Jm (Z0o l).1:=by
 have h:ctE Edit.nil=18:=by simp [ctE,Z0Y,YZ,Edit.nil,Tree.nil,Zh,Ze]
 unfold Z0o
 split
 .obtain ⟨c,g,d,r⟩:=Zkk l Edit.nil Z8I he V0
  exact ⟨X2 (Z4G _) c,J1 _ d r g,d,Yi _ d r⟩
 .exact Z8I
theorem c13:Contract Tryz.prog cfg 13 Zdx:=by
 refine ZCs c36 c37 ?_
 intro b i j _ hp
 obtain ⟨he,hc⟩:=hp
 dsimp only at he hc
 have fin:∀ {X:Edit × Bool} {s:LSt U},ZmC b.log i j=X->ZF cfg Tryz.f13.ntmps Tryz.f13.results.toList (.tup [(true,enc .edit X.1),(false,[.bool X.2])]) [] .ret s->ZF cfg Tryz.f13.ntmps Tryz.f13.results.toList (Zsw (b,i,j,())) [] .ret s:=by
  intro X s h hs
  subst h
  exact hs
 have d:∀ a c:Nat,(∀ x∈(b.log.take c).drop a,Jm x)/\ctL ((b.log.take c).drop a)<=8000000000:=fun a c=> ⟨fun x hx=> he x (Xp (X7 hx)),X2 (Zfb _ _ _) hc⟩
 have eB:=ZmC.eq_1 b.log i j
 refine ZIz _ _ _ _ ?_
 intro y1 e1 y2 e2 y3 e3
 have e1:y1=(b.log.take j.toNat).drop i.toNat:=e1
 have e2:y2=(b.log.take i.toNat).drop j.toNat:=e2
 rw [<-e1,<-e2] at eB
 (simp only [iB,vcT,vcS])
 refine ⟨fun h=> fin (X:=(Edit.nil,false)) (by rw [eB,YC]) V1,fun h=> ?_⟩
 rw [JC] at eB
 refine ⟨fun u=> ⟨⟨V0,u,V0⟩,by rw [e1];exact d _ _,fin (X:=Z0o y1) (by rw [eB,if_pos u]) V1⟩,fun u=> ⟨⟨V0,V0,V0⟩,by rw [e2];exact d _ _,?_,fin (X:=(Zq (ZO y3),(Z0o y2).2)) (by rw [eB,if_neg u,<-e3]) V1⟩⟩
 have hr:Jm y3:=by rw [e3,e2];exact ZuC (d _ _).1 (d _ _).2
 have:=Z6d hr
 have:=hr.1
 exact ⟨V3,hr.2.2⟩
theorem c12:Contract Tryz.prog cfg 12 Zdy:=by
 refine ZCt c9 ?_
 intro b _ d
 refine ZIA _ _ ?_
 (simp only [vE])
 refine ⟨d,?_⟩
 exact V1
end Go.AM.YtfapacabjkhepaaGreat
