import Derived.Test.YtcljdbpmjdgooaaEQBa
import Derived.Test.YtcljdbpmjdgooaaEBD07
import Derived.Test.YtcljdbpmjdgooaaEmY
set_option linter.unusedSimpArgs false
set_option linter.unusedVariables false
namespace Go.AM.Ytcljdbpmjdgooaa
open Go.AM Go.Proofs
noncomputable section
def Zka:ArgL (Limits × Unit):=(.cons (aEl .limits) .nil)
def Zi8(a:Limits × Unit):Prop:=True
def ZmW(a:Limits × Unit):V U:= .agg (enc .limits (JM a.1))
def Z7Q:Fs U:=fs Zka (fun a=> [Zi8 a]) ZmW
def ZmK(a:Int × Unit):V U:= .c (.bool (decide (2<=a.1/\a.1<=7)))
def Z2F:Fs U:=fs ZjV (fun a=> [Z6A a]) ZmK
def Zi4(a:Ref × Unit):Prop:=okR a.1
def ZmH(a:Ref × Unit):V U:= .c (ci (ZV (unX a.1)))
def Z7G:Fs U:=fs Zk8 (fun a=> [Zi4 a]) ZmH
def Ze7:ArgM ((Int × Int × Unit) × Int × Unit):=(.obj 0 (.cons (ZgU .i64) (.cons (ZgU .i64) .nil)) (.cons (ZQ .i64) .nil))
def Zi5(a:(Int × Int × Unit) × Int × Unit):Prop:=0<=a.1.1/\a.1.1<=a.1.2.1/\a.1.2.1<=65536/\0<=a.2.1
def Zez(a:(Int × Int × Unit) × Int × Unit):V U:= .c (.bool (decide (a.2.1<=a.1.2.1 - a.1.1)))
def ZaO(a:(Int × Int × Unit) × Int × Unit):List (List (C U)):=[[ci (if a.2.1<=a.1.2.1 - a.1.1 then a.1.1+a.2.1 else a.1.1),ci a.1.2.1]]
def Z7H:Fs U:=fsX Ze7 (fun a=> [Zi5 a]) Zez ZaO
def Z6h:ArgM ((Int × Int × Unit) × Ref × Int × Unit):=(.obj 0 (.cons (ZgU .i64) (.cons (ZgU .i64) .nil)) (.cons (aEl .ref) (.cons (ZQ .i64) .nil)))
def Z8s(a:(Int × Int × Unit) × Ref × Int × Unit):Prop:=okR a.2.1/\0<=a.1.1/\a.1.1<=a.1.2.1/\a.1.2.1<=65536/\0<=a.2.2.1/\a.2.2.1<=64
def Zir(a:(Int × Int × Unit) × Ref × Int × Unit):Nat:=3*Int.toNat a.2.2.1
def Z6w(a:(Int × Int × Unit) × Ref × Int × Unit):V U:= .c (ci ((Zs (Z1 (Ref.a a.2.1)) (Int.toNat a.2.2.1) (unX a.2.1) (a.1.2.1 - a.1.1)).2.2))
def Z2V(a:(Int × Int × Unit) × Ref × Int × Unit):List (List (C U)):=[[ci (a.1.2.1 - (Zs (Z1 (Ref.a a.2.1)) (Int.toNat a.2.2.1) (unX a.2.1) (a.1.2.1 - a.1.1)).2.1),ci a.1.2.1]]
def Z5I:Fs U:=fsX Z6h (fun a=> [Z8s a]) Z6w Z2V
def Z6g:ArgM ((Int × Int × Unit) × Ref × Int × Int × Unit):=(.obj 0 (.cons (ZgU .i64) (.cons (ZgU .i64) .nil)) (.cons (aEl .ref) (.cons (ZQ .i64) (.cons (ZQ .i64) .nil))))
def Z8r(a:(Int × Int × Unit) × Ref × Int × Int × Unit):Prop:=okR a.2.1/\0<=a.1.1/\a.1.1<=a.1.2.1/\a.1.2.1<=65536/\0<=a.2.2.2.1/\a.2.2.2.1<=64/\(Ref.kind a.2.1=1\/Ref.kind a.2.1=8\/Ref.kind a.2.1=9)
def Zgv(a:(Int × Int × Unit) × Ref × Int × Int × Unit):Nat:=3*Int.toNat a.2.2.2.1+(if Ref.kind a.2.1=9 then 2 else 1)
def Z8h(a:(Int × Int × Unit) × Ref × Int × Int × Unit):V U:= .c (ci ((Z2e (Z1 (Ref.a a.2.1)) (Int.toNat a.2.2.2.1) (unX a.2.1) a.2.2.1 (a.1.2.1 - a.1.1)).2))
def Z4j(a:(Int × Int × Unit) × Ref × Int × Int × Unit):List (List (C U)):=[[ci (a.1.2.1 - (Z2e (Z1 (Ref.a a.2.1)) (Int.toNat a.2.2.2.1) (unX a.2.1) a.2.2.1 (a.1.2.1 - a.1.1)).1),ci a.1.2.1]]
def Zhj:Fs U:=fsX Z6g (fun a=> [Z8r a]) Z8h Z4j
def Zkg:ArgL (Option Arena × Limits × Unit):=(.cons (aPo .arena) (.cons (aEl .limits) .nil))
def Zf0(a:Option Arena × Limits × Unit):Prop:=okB a.1
def Zc0(a:Option Arena × Limits × Unit):V U:= .tup [(false,[ci ((Z0l (Z1 a.1) a.2.1).2.1)]),(false,[ci ((Z0l (Z1 a.1) a.2.1).2.2)])]
def Z7W:Fs U:=fs Zkg (fun a=> [Zf0 a]) Zc0
def Zpa:Z8 U:=lvl [([1,2],[1,2]),([2],[2])]
abbrev A61(p:List Nat):=AW (Z0 Zj1) Try.f61 Zpa p
theorem Zsb(x:Limits)(Q:QT)(h:(Q .ret (L2 [pL 2] [(.loc 2,[ci (if (64:Int) < (if ((Limits.depth x):Int) < 0 then 0 else (Limits.depth x)) then 64 else (if ((Limits.depth x):Int) < 0 then 0 else (Limits.depth x))),ci (if (65536:Int) < (if ((Limits.weight x):Int) < 0 then 0 else (Limits.weight x)) then 65536 else (if ((Limits.weight x):Int) < 0 then 0 else (Limits.weight x))),ci (if (4096:Int) < (if ((Limits.maxD x):Int) < 0 then 0 else (Limits.maxD x)) then 4096 else (if ((Limits.maxD x):Int) < 0 then 0 else (Limits.maxD x))),ci (if (131072:Int) < (if ((Limits.maxOut x):Int) < 0 then 0 else (Limits.maxOut x)) then 131072 else (if ((Limits.maxOut x):Int) < 0 then 0 else (Limits.maxOut x)))])]))):
  A61 [] (L2 [(0,.agg (enc .limits x))] []) Q:=
 Eq.mpr (by kernel_rfl) h
def Zqg(x:Limits):Prop:=AW (Z0 Zj1) Try.f61 Zpa [] (Zi (Zka.can (x,())) []) (EQ Try.f61 (ZmW (x,())) [])
theorem Zoh(hb:∀ (x:Limits) (_:Unit),Zi8 (x,())->Zqg x):CT 61 Z7Q:=
 Z2 (l:=[]) Zf rfl trivial Zpa Try.func61 rfl rfl 1 (fun _=> rfl) (by decide) (fun ⟨x,_⟩=> hb x ())
def ZoV:Z8 U:=lvl [([0],[]),([2],[])]
abbrev A86(p:List Nat):=AW (Z0 Zj1) Try.f86 ZoV p
theorem ZrS(k:Int)(Q:QT)(h:let z0:=decide ((2:Int)<=k);((Tr (z0=true))/\(Tr (z0=true))/\(Q .ret (L2 [(2,.c (.bool (bif z0 then (decide (k<=7)) else false)))] [])))):
  A86 [] (L2 [pI 0 k] []) Q:=
 Eq.mpr (by kernel_rfl) h
def ZpX(k:Int):Prop:=AW (Z0 Zj1) Try.f86 ZoV [] (Zi (ZjV.can (k,())) []) (EQ Try.f86 (ZmK (k,())) [])
theorem ZnZ(hb:∀ (k:Int) (_:Unit),Z6A (k,())->ZpX k):CT 86 Z2F:=
 Z2 (l:=[]) Zf rfl trivial ZoV Try.func86 rfl rfl 1 (fun _=> rfl) (by decide) (fun ⟨k,_⟩=> hb k ())
def ZiZ:List (FuncId × Fs U):=[(64,Z0L),(65,Z0K),(67,JP),(104,Z4V)]
def ZoR:Z8 U:=lvl [([1],[1]),([1,5],[1]),([2],[]),([1,15],[1]),([1,3,4],[1]),([2],[]),([2],[])]
abbrev A91(p:List Nat):=AW (Z0 ZiZ) Try.f91 ZoR p
theorem ZrN(r:Ref)(Q:QT)(h:∀ y_1,y_1=r->((Z52 (y_1,()))/\(((((Ref.kind y_1):Int)==1)=true->(Z52 (y_1,()))/\(InR ((1:Int)+(JN y_1)))/\(Z52 (y_1,()))/\(InR ((((1:Int)+(JN y_1)):Int)+(ZB y_1)))/\(Q .ret (L2 [(2,.c (ci ((((1:Int)+(JN y_1)):Int)+(ZB y_1))))] [])))/\((((Ref.kind y_1):Int)==1)=false->(Z52 (y_1,()))/\(((((Ref.kind y_1):Int)==9)=true->(Z52 (y_1,()))/\((Z52 (y_1,()))/\(InR ((1:Int)+(if Ref.kind y_1=9 then Ref.data y_1 else 0)))/\(InR ((((1:Int)+(if Ref.kind y_1=9 then Ref.data y_1 else 0)):Int)+(if Ref.kind y_1=9 then Ref.kids y_1 else 0)))/\(InR (((ZB y_1):Int)*((((1:Int)+(if Ref.kind y_1=9 then Ref.data y_1 else 0)):Int)+(if Ref.kind y_1=9 then Ref.kids y_1 else 0))))/\(InR ((1:Int)+(((ZB y_1):Int)*((((1:Int)+(if Ref.kind y_1=9 then Ref.data y_1 else 0)):Int)+(if Ref.kind y_1=9 then Ref.kids y_1 else 0)))))/\(Q .ret (L2 [(2,.c (ci ((1:Int)+(((ZB y_1):Int)*((((1:Int)+(if Ref.kind y_1=9 then Ref.data y_1 else 0)):Int)+(if Ref.kind y_1=9 then Ref.kids y_1 else 0))))))] []))))/\((((Ref.kind y_1):Int)==9)=false->(Z52 (y_1,()))/\(InR ((1:Int)+(ZB y_1)))/\(Q .ret (L2 [pI 2 ((1:Int)+(ZB y_1))] [])))))))):
  A91 [] (L2 [(0,.agg (enc .ref r))] []) Q:=
 Eq.mpr (by kernel_rfl) (h _ (YJ _))
def ZpS(r:Ref):Prop:=AW (Z0 ZiZ) Try.f91 ZoR [] (Zi (Zk8.can (r,())) []) (EQ Try.f91 (ZmH (r,())) [])
theorem ZnU(c64:CT 64 Z0L)(c65:CT 65 Z0K)(c67:CT 67 JP)(ZpA:CT 104 Z4V)(hb:∀ (r:Ref) (_:Unit),Zi4 (r,())->ZpS r):CT 91 Z7G:=
 Z2 (l:=[(64,Z0L),(65,Z0K),(67,JP),(104,Z4V)]) Zf rfl (⟨c64,c65,c67,ZpA,trivial⟩) ZoR Try.func91 rfl rfl 1 (fun _=> rfl) (by decide) (fun ⟨r,_⟩=> hb r ())
def ZoS:Z8 U:=fun i=> match i with
 | 0=> ([(0,[]),(1,[])],[(.x 0,[])])
 | 1=> ([(0,[]),(1,[]),(15,[])],[(.x 0,[])])
 | 2=> ([(4,[])],[(.x 0,[])])
 | 3=> ([],[(.x 0,[])])
 | 4=> ([(4,[])],[(.x 0,[])])
 | _=> ([],[])
abbrev A90(p:List Nat):=AW (Z0 Zj1) Try.f90 ZoS p
theorem ZrO(u t n:Int)(Q:QT)(h:let z0:=decide (((t - u):Int) < n);((InR (t - u))/\((z0=true->(Q .ret (L2 [pB 4 false] [(.x 0,[ci u,ci t])])))/\(z0=false->(InR (u+n))/\(Q .ret (L2 [pB 4 true] [(.x 0,[ci (u+n),ci t])])))))):
  A90 [] (L2 [(0,.ptr (.x 0) 0),pI 1 n] [(.x 0,[ci u,ci t])]) Q:=
 Eq.mpr (by kernel_rfl) h
def ZpT(u t n:Int):Prop:=AW (Z0 Zj1) Try.f90 ZoS [] (Zi (Ze7.can ((u,t,()),n,())) (Ze7.canX ((u,t,()),n,()))) (EQ Try.f90 (Zez ((u,t,()),n,())) (ZaO ((u,t,()),n,())))
theorem ZnV(hb:∀ (u:Int) (t:Int) (n:Int) (_:Unit),Zi5 ((u,t,()),n,())->ZpT u t n):CT 90 Z7H:=
 Z96 (l:=[]) Zf rfl trivial ZoS Try.func90 rfl rfl 2 (fun _=> rfl) (by decide) (fun ⟨⟨u,t,_⟩,n,_⟩=> hb u t n ())
def Z63(N:Nat):List (FuncId × Fs U):=(62,fsX Z6h (fun a=> [Z8s a,Zir a < N]) Z6w Z2V) ::(92,fsX Z6g (fun a=> [Z8r a,Zgv a < N]) Z8h Z4j) ::[(91,Z7G),(90,Z7H),(86,Z2F),(64,Z0L),(67,JP),(68,Z2J)]
def ZlJ:Z8 U:=fun i=> match i with
 | 0=> ([(0,[]),(2,[]),(4,[])],[(.loc 4,[]),(.x 0,[])])
 | 1=> ([(0,[]),(2,[]),(4,[]),(12,[])],[(.loc 4,[]),(.x 0,[])])
 | 2=> ([(6,[])],[(.x 0,[])])
 | 3=> ([(0,[]),(2,[]),(4,[]),(7,[])],[(.loc 4,[]),(.x 0,[])])
 | 4=> ([(0,[]),(2,[]),(4,[]),(7,[]),(22,[])],[(.loc 4,[]),(.x 0,[])])
 | 5=> ([(0,[]),(2,[]),(4,[]),(7,[]),(22,[])],[(.loc 4,[]),(.x 0,[])])
 | 6=> ([(0,[]),(4,[]),(7,[]),(37,[])],[(.loc 4,[]),(.x 0,[])])
 | 7=> ([(6,[])],[(.x 0,[])])
 | 8=> ([(0,[]),(4,[]),(7,[]),(40,[])],[(.loc 4,[]),(.x 0,[])])
 | 9=> ([(6,[])],[(.x 0,[])])
 | 10=> ([(0,[]),(4,[]),(7,[]),(42,[]),(43,[])],[(.loc 4,[]),(.x 0,[])])
 | 11=> ([(0,[]),(4,[]),(7,[]),(42,[]),(43,[]),(44,[])],[(.loc 4,[]),(.x 0,[])])
 | 12=> ([(0,[]),(4,[]),(7,[]),(8,[]),(42,[]),(43,[])],[(.loc 4,[]),(.x 0,[])])
 | 13=> ([(0,[]),(4,[]),(7,[]),(9,[]),(42,[]),(43,[])],[(.loc 4,[]),(.x 0,[])])
 | 14=> ([(0,[]),(4,[]),(7,[]),(9,[]),(42,[]),(43,[]),(52,[])],[(.loc 4,[]),(.x 0,[])])
 | 15=> ([(6,[])],[(.x 0,[])])
 | 16=> ([(0,[]),(4,[]),(7,[]),(42,[]),(43,[])],[(.loc 4,[]),(.x 0,[])])
 | 17=> ([(6,[])],[(.x 0,[])])
 | _=> ([],[])
def Z5l(u t:Int)(r:Ref)(d x7:Int):LSt U:=(L2 [(0,.ptr (.x 0) 0),pI 2 d,pL 4,pI 7 x7,(22,.c (.bool (bif (((Ref.kind (Ref.mk (Ref.a r) (Ref.kind r) (Ref.segment r) (Ref.at_ r) (Ref.data r) (Ref.kids r) (Ref.count r) (Ref.number r))):Int)==9) then (decide ((0:Int) < (ZB (Ref.mk (Ref.a r) (Ref.kind r) (Ref.segment r) (Ref.at_ r) (Ref.data r) (Ref.kids r) (Ref.count r) (Ref.number r))))) else false)))] [(.loc 4,(enc .ref r)),(.x 0,[ci u,ci t])])
def Z3f(u t:Int)(r:Ref)(d x7 x43_a mx0_0_a mx0_1_a:Int):LSt U:=(L2 [(0,.ptr (.x 0) 0),pL 4,pI 7 x7,pI 42 (ZB (Ref.mk (Ref.a r) (Ref.kind r) (Ref.segment r) (Ref.at_ r) (Ref.data r) (Ref.kids r) (Ref.count r) (Ref.number r))),pI 43 x43_a] [(.loc 4,(enc .ref r)),(.x 0,[ci mx0_0_a,ci mx0_1_a])])
abbrev A62(N:Nat)(p:List Nat):=AW (Z0 (Z63 N)) Try.f62 ZlJ p
abbrev S62(N:Nat)(p:List Nat):=SW (Z0 (Z63 N)) Try.f62 ZlJ p
theorem Zsa(N:Nat)(u t:Int)(r:Ref)(d:Int)(Q:QT)(h:∀ y_1,y_1=r->let z0:=((Ref.kind y_1):Int)==9;let z1:=bif z0 then (decide ((0:Int) < (ZB y_1))) else false;((Z52 (y_1,()))/\(((((Ref.kind y_1):Int)==0)=true->(Q .ret (L2 [pI 6 0] [(.x 0,[ci u,ci t])])))/\((((Ref.kind y_1):Int)==0)=false->(InR (d - 1))/\((Z52 (y_1,()))/\(Tr (z0=true))/\(z0=true->Z52 (y_1,()))/\(Tr (z0=true))/\(Tr (z0=true))/\((z1=true->(InR (((d - 1):Int) - 1))/\(A62 N [1,1,1,1] (Z5l u t r d (((d - 1):Int) - 1)) Q))/\(z1=false->A62 N [1,1,1,1] (Z5l u t r d (d - 1)) Q))))))):
  A62 N [] (L2 [(0,.ptr (.x 0) 0),(1,.agg (enc .ref r)),pI 2 d] [(.x 0,[ci u,ci t])]) Q:=
 Eq.mpr (by kernel_rfl) (h _ (YJ _))
theorem ZkK(N:Nat)(u t:Int)(r:Ref)(d x7:Int)(Q:QT)(h:∀ y_1,y_1=r->let z3:=decide (2<=(Ref.kind y_1)/\(Ref.kind y_1)<=7);let z0:=bif (decide (d < 1)) then true else (decide (x7 < 0));let z4:=bif (!z0) then t else t;let z2:=bif z0 then true else (!(decide ((ZV (unX y_1))<=t - u)));let z1:=bif (!z0) then (if (ZV (unX y_1))<=t - u then u+(ZV (unX y_1)) else u) else u;(Tr ((!(decide (d < 1)))=true))/\((decide (d < 1))=false->(!(decide (d < 1)))=true)/\(Tr ((!z0)=true))/\((!z0)=true->Zi4 (y_1,()))/\(Tr ((!z0)=true))/\(Tr ((!z0)=true))/\((!z0)=true->Zi5 ((u,t,()),(ZV (unX y_1)),()))/\(Tr ((!z0)=true))/\(z0=false->(!z0)=true)/\((z2=true->(Q .ret (L2 [pI 6 3] [(.x 0,[ci z1,ci z4])])))/\(z2=false->(Z52 (y_1,()))/\(Z6A ((Ref.kind y_1),()))/\((z3=true->(Q .ret (L2 [pI 6 0] [(.x 0,[ci z1,ci z4])])))/\(z3=false->(Z52 (y_1,()))/\(ZJ (A62 N [1,1,1,1,1,1,0,1,0,0]) (Z3f u t r d x7 0 z1 z4) (xB 0 (S62 N [1,1,1,1,1,1,1] Q)))))))):
  A62 N [1,1,1,1] (Z5l u t r d x7) Q:=
 Eq.mpr (by kernel_rfl) (h _ (YJ _))
theorem Zeo(N:Nat)(u t:Int)(r:Ref)(d x7 x43_a mx0_0_a mx0_1_a:Int)(N1:NT)(Q:QT)(h:∀ y_1,y_1=r->∀ y_2,y_2=(Z2e (Z1 (Ref.a y_1)) x7.toNat (unX y_1) x43_a (mx0_1_a - mx0_0_a))->let z0:=decide (x43_a < (ZB y_1));((z0=true->((Z8r ((mx0_0_a,mx0_1_a,()),y_1,x43_a,x7,()))/\(Zgv ((mx0_0_a,mx0_1_a,()),y_1,x43_a,x7,()) < N)/\(((((y_2.2):Int) !=0)=true->(Q .ret (L2 [pI 6 (y_2.2)] [(.x 0,[ci (mx0_1_a - y_2.1),ci mx0_1_a])])))/\((((y_2.2):Int) !=0)=false->(InR (x43_a+1))/\(N1 (Z3f u t r d x7 (x43_a+1) (mx0_1_a - y_2.1) mx0_1_a))))))/\(z0=false->(Q .ret (L2 [pI 6 0] [(.x 0,[ci mx0_0_a,ci mx0_1_a])]))))):
  A62 N [1,1,1,1,1,1,0,1,0,0] (Z3f u t r d x7 x43_a mx0_0_a mx0_1_a) (xT N1 (xB 0 (S62 N [1,1,1,1,1,1,1] Q))):=
 Eq.mpr (by kernel_rfl) (h _ (YJ _) _ rfl)
def Zqf(N:Nat)(u t:Int)(r:Ref)(d:Int):Prop:=AW (Z0 (Z63 N)) Try.f62 ZlJ [] (Zi (Z6h.can ((u,t,()),r,d,())) (Z6h.canX ((u,t,()),r,d,()))) (EQ Try.f62 (Z6w ((u,t,()),r,d,())) (Z2V ((u,t,()),r,d,())))
abbrev Zrx:Prop:=∀ (N:Nat) (u:Int) (t:Int) (r:Ref) (d:Int) (_:Unit),Z8s ((u,t,()),r,d,())->Zir ((u,t,()),r,d,()) < N+1->Zqf N u t r d
def ZlE:Z8 U:=fun i=> match i with
 | 0=> ([(0,[]),(2,[]),(3,[]),(5,[])],[(.loc 5,[]),(.x 0,[])])
 | 1=> ([(0,[]),(3,[]),(5,[]),(9,[]),(10,[])],[(.loc 5,[]),(.loc 9,[]),(.x 0,[])])
 | 2=> ([(0,[]),(3,[]),(5,[]),(9,[]),(10,[]),(20,[])],[(.loc 5,[]),(.loc 9,[]),(.x 0,[])])
 | 3=> ([(8,[])],[(.x 0,[])])
 | 4=> ([(0,[]),(3,[]),(9,[]),(24,[])],[(.loc 9,[]),(.x 0,[])])
 | 5=> ([(8,[])],[(.x 0,[])])
 | 6=> ([(0,[]),(3,[]),(9,[]),(30,[]),(31,[])],[(.loc 9,[]),(.x 0,[])])
 | 7=> ([(0,[]),(3,[]),(9,[]),(30,[]),(31,[]),(32,[])],[(.loc 9,[]),(.x 0,[])])
 | 8=> ([(0,[]),(3,[]),(9,[]),(11,[]),(30,[]),(31,[])],[(.loc 9,[]),(.x 0,[])])
 | 9=> ([(0,[]),(3,[]),(9,[]),(12,[]),(30,[]),(31,[])],[(.loc 9,[]),(.x 0,[])])
 | 10=> ([(0,[]),(3,[]),(9,[]),(12,[]),(30,[]),(31,[]),(40,[])],[(.loc 9,[]),(.x 0,[])])
 | 11=> ([(8,[])],[(.x 0,[])])
 | 12=> ([(0,[]),(3,[]),(9,[]),(30,[]),(31,[])],[(.loc 9,[]),(.x 0,[])])
 | 13=> ([(8,[])],[(.x 0,[])])
 | _=> ([],[])
def Z3d(u t:Int)(r:Ref)(i d x31 mx0_0:Int):LSt U:=(L2 [(0,.ptr (.x 0) 0),pI 3 d,pL 9,(30,.c (ci (ZB (Ref.mk (Ref.a (Yc (Ref.a (Ref.mk (Ref.a r) (Ref.kind r) (Ref.segment r) (Ref.at_ r) (Ref.data r) (Ref.kids r) (Ref.count r) (Ref.number r))) (Zk (Z1 (Ref.a (Ref.mk (Ref.a r) (Ref.kind r) (Ref.segment r) (Ref.at_ r) (Ref.data r) (Ref.kids r) (Ref.count r) (Ref.number r)))) (unX (Ref.mk (Ref.a r) (Ref.kind r) (Ref.segment r) (Ref.at_ r) (Ref.data r) (Ref.kids r) (Ref.count r) (Ref.number r))) i).1)) (Ref.kind (Yc (Ref.a (Ref.mk (Ref.a r) (Ref.kind r) (Ref.segment r) (Ref.at_ r) (Ref.data r) (Ref.kids r) (Ref.count r) (Ref.number r))) (Zk (Z1 (Ref.a (Ref.mk (Ref.a r) (Ref.kind r) (Ref.segment r) (Ref.at_ r) (Ref.data r) (Ref.kids r) (Ref.count r) (Ref.number r)))) (unX (Ref.mk (Ref.a r) (Ref.kind r) (Ref.segment r) (Ref.at_ r) (Ref.data r) (Ref.kids r) (Ref.count r) (Ref.number r))) i).1)) (Ref.segment (Yc (Ref.a (Ref.mk (Ref.a r) (Ref.kind r) (Ref.segment r) (Ref.at_ r) (Ref.data r) (Ref.kids r) (Ref.count r) (Ref.number r))) (Zk (Z1 (Ref.a (Ref.mk (Ref.a r) (Ref.kind r) (Ref.segment r) (Ref.at_ r) (Ref.data r) (Ref.kids r) (Ref.count r) (Ref.number r)))) (unX (Ref.mk (Ref.a r) (Ref.kind r) (Ref.segment r) (Ref.at_ r) (Ref.data r) (Ref.kids r) (Ref.count r) (Ref.number r))) i).1)) (Ref.at_ (Yc (Ref.a (Ref.mk (Ref.a r) (Ref.kind r) (Ref.segment r) (Ref.at_ r) (Ref.data r) (Ref.kids r) (Ref.count r) (Ref.number r))) (Zk (Z1 (Ref.a (Ref.mk (Ref.a r) (Ref.kind r) (Ref.segment r) (Ref.at_ r) (Ref.data r) (Ref.kids r) (Ref.count r) (Ref.number r)))) (unX (Ref.mk (Ref.a r) (Ref.kind r) (Ref.segment r) (Ref.at_ r) (Ref.data r) (Ref.kids r) (Ref.count r) (Ref.number r))) i).1)) (Ref.data (Yc (Ref.a (Ref.mk (Ref.a r) (Ref.kind r) (Ref.segment r) (Ref.at_ r) (Ref.data r) (Ref.kids r) (Ref.count r) (Ref.number r))) (Zk (Z1 (Ref.a (Ref.mk (Ref.a r) (Ref.kind r) (Ref.segment r) (Ref.at_ r) (Ref.data r) (Ref.kids r) (Ref.count r) (Ref.number r)))) (unX (Ref.mk (Ref.a r) (Ref.kind r) (Ref.segment r) (Ref.at_ r) (Ref.data r) (Ref.kids r) (Ref.count r) (Ref.number r))) i).1)) (Ref.kids (Yc (Ref.a (Ref.mk (Ref.a r) (Ref.kind r) (Ref.segment r) (Ref.at_ r) (Ref.data r) (Ref.kids r) (Ref.count r) (Ref.number r))) (Zk (Z1 (Ref.a (Ref.mk (Ref.a r) (Ref.kind r) (Ref.segment r) (Ref.at_ r) (Ref.data r) (Ref.kids r) (Ref.count r) (Ref.number r)))) (unX (Ref.mk (Ref.a r) (Ref.kind r) (Ref.segment r) (Ref.at_ r) (Ref.data r) (Ref.kids r) (Ref.count r) (Ref.number r))) i).1)) (Ref.count (Yc (Ref.a (Ref.mk (Ref.a r) (Ref.kind r) (Ref.segment r) (Ref.at_ r) (Ref.data r) (Ref.kids r) (Ref.count r) (Ref.number r))) (Zk (Z1 (Ref.a (Ref.mk (Ref.a r) (Ref.kind r) (Ref.segment r) (Ref.at_ r) (Ref.data r) (Ref.kids r) (Ref.count r) (Ref.number r)))) (unX (Ref.mk (Ref.a r) (Ref.kind r) (Ref.segment r) (Ref.at_ r) (Ref.data r) (Ref.kids r) (Ref.count r) (Ref.number r))) i).1)) (Ref.number (Yc (Ref.a (Ref.mk (Ref.a r) (Ref.kind r) (Ref.segment r) (Ref.at_ r) (Ref.data r) (Ref.kids r) (Ref.count r) (Ref.number r))) (Zk (Z1 (Ref.a (Ref.mk (Ref.a r) (Ref.kind r) (Ref.segment r) (Ref.at_ r) (Ref.data r) (Ref.kids r) (Ref.count r) (Ref.number r)))) (unX (Ref.mk (Ref.a r) (Ref.kind r) (Ref.segment r) (Ref.at_ r) (Ref.data r) (Ref.kids r) (Ref.count r) (Ref.number r))) i).1)))))),pI 31 x31] [(.loc 9,(enc .ref (Yc (Ref.a (Ref.mk (Ref.a r) (Ref.kind r) (Ref.segment r) (Ref.at_ r) (Ref.data r) (Ref.kids r) (Ref.count r) (Ref.number r))) (Zk (Z1 (Ref.a (Ref.mk (Ref.a r) (Ref.kind r) (Ref.segment r) (Ref.at_ r) (Ref.data r) (Ref.kids r) (Ref.count r) (Ref.number r)))) (unX (Ref.mk (Ref.a r) (Ref.kind r) (Ref.segment r) (Ref.at_ r) (Ref.data r) (Ref.kids r) (Ref.count r) (Ref.number r))) i).1))),(.x 0,[ci mx0_0,ci t])])
abbrev A92(N:Nat)(p:List Nat):=AW (Z0 (Z63 N)) Try.f92 ZlE p
abbrev S92(N:Nat)(p:List Nat):=SW (Z0 (Z63 N)) Try.f92 ZlE p
theorem ZrM(N:Nat)(u t:Int)(r:Ref)(i d:Int)(Q:QT)(h:∀ y_1,y_1=r->∀ y_2,y_2=(Yc (Ref.a y_1) (Zk (Z1 (Ref.a y_1)) (unX y_1) i).1)->let z1:=Zs (Z1 (Ref.a y_2)) d.toNat (unX y_2) (t - u);let z0:=Zk (Z1 (Ref.a y_1)) (unX y_1) i;((Zi7 (y_1,i,()))/\(((((z0.2):Int) !=0)=true->(Q .ret (L2 [(8,.c (ci (z0.2)))] [(.x 0,[ci u,ci t])])))/\((((z0.2):Int) !=0)=false->(Z52 (y_1,()))/\(((((Ref.kind y_1):Int) !=9)=true->(Z8s ((u,t,()),y_2,d,()))/\(Zir ((u,t,()),y_2,d,()) < N)/\(Q .ret (L2 [(8,.c (ci (z1.2.2)))] [(.x 0,[ci (t - z1.2.1),ci t])])))/\((((Ref.kind y_1):Int) !=9)=false->(Z52 (y_2,()))/\(ZJ (A92 N [1,1,1,1,0,1,0,0]) (Z3d u t r i d 0 u) (xB 0 (S92 N [1,1,1,1,1] Q))))))))):
  A92 N [] (L2 [(0,.ptr (.x 0) 0),(1,.agg (enc .ref r)),pI 2 i,pI 3 d] [(.x 0,[ci u,ci t])]) Q:=
 Eq.mpr (by kernel_rfl) (h _ (YJ _) _ (YJ _))
theorem Zen(N:Nat)(u t:Int)(r:Ref)(i d x31 mx0_0:Int)(N0:NT)(Q:QT)(h:∀ y_1,y_1=r->∀ y_2,y_2=(Yc (Ref.a y_1) (Zk (Z1 (Ref.a y_1)) (unX y_1) i).1)->∀ y_3,y_3=(Z2e (Z1 (Ref.a y_2)) d.toNat (unX y_2) x31 (t - mx0_0))->(((decide (x31 < (ZB y_2)))=true->((Z8r ((mx0_0,t,()),y_2,x31,d,()))/\(Zgv ((mx0_0,t,()),y_2,x31,d,()) < N)/\(((((y_3.2):Int) !=0)=true->(Q .ret (L2 [pI 8 (y_3.2)] [(.x 0,[ci (t - y_3.1),ci t])])))/\((((y_3.2):Int) !=0)=false->(InR (x31+1))/\(N0 (Z3d u t r i d (x31+1) (t - y_3.1)))))))/\((decide (x31 < (ZB y_2)))=false->(Q .ret (L2 [pI 8 0] [(.x 0,[ci mx0_0,ci t])]))))):
  A92 N [1,1,1,1,0,1,0,0] (Z3d u t r i d x31 mx0_0) (xT N0 (xB 0 (S92 N [1,1,1,1,1] Q))):=
 Eq.mpr (by kernel_rfl) (h _ (YJ _) _ (YJ _) _ rfl)
def ZpR(N:Nat)(u t:Int)(r:Ref)(i d:Int):Prop:=AW (Z0 (Z63 N)) Try.f92 ZlE [] (Zi (Z6g.can ((u,t,()),r,i,d,())) (Z6g.canX ((u,t,()),r,i,d,()))) (EQ Try.f92 (Z8h ((u,t,()),r,i,d,())) (Z4j ((u,t,()),r,i,d,())))
abbrev Zrw:Prop:=∀ (N:Nat) (u:Int) (t:Int) (r:Ref) (i:Int) (d:Int) (_:Unit),Z8r ((u,t,()),r,i,d,())->Zgv ((u,t,()),r,i,d,()) < N+1->ZpR N u t r i d
def Zjp:List (FuncId × Fs U):=[(61,Z7Q),(35,Z2L),(62,Z5I)]
def Zpg:Z8 U:=lvl [([0,3],[3]),([0,3],[3]),([3,6,7],[3,6]),([3,6,7,18],[3,6]),([4,5],[]),([3,6,8],[3,6,23]),([8,9],[23]),([8,9,30],[23]),([4,5],[]),([4,5],[])]
abbrev A34(p:List Nat):=AW (Z0 Zjp) Try.f34 Zpg p
theorem Zsq(a:Option Arena)(x:Limits)(Q:QT)(h:∀ y_1,y_1=x->∀ y_2,y_2=(Yc a (Zo (Z1 a) 0 0).1)->∀ y_3,y_3=(Zs (Z1 (Ref.a y_2)) (Int.toNat (Limits.depth (JM y_1))) (unX y_2) ((Limits.weight (JM y_1)) - 0))->let z0:=(((Zo (Z1 a) 0 0).2):Int) !=0;((Zi8 (y_1,()))/\((Z5Q (a,()))/\((z0=true->(Q .ret (L2 [pI 4 0,pI 5 ((Zo (Z1 a) 0 0).2)] [])))/\(z0=false->((Z8s ((0,(Limits.weight (JM y_1)),()),y_2,(Limits.depth (JM y_1)),()))/\(((((y_3.2.2):Int) !=0)=true->(Q .ret (L2 [pI 4 0,pI 5 (y_3.2.2)] [])))/\((((y_3.2.2):Int) !=0)=false->(Q .ret (L2 [pI 4 ((Limits.weight (JM y_1)) - y_3.2.1),pI 5 0] [])))))))))):
  A34 [] (L2 [(0,.c (.po (U:=U) .arena a)),(1,.agg (enc .limits x))] []) Q:=
 Eq.mpr (by kernel_rfl) (h _ (Z6y _) _ (YJ _) _ rfl)
def Zqv(a:Option Arena)(x:Limits):Prop:=AW (Z0 Zjp) Try.f34 Zpg [] (Zi (Zkg.can (a,x,())) []) (EQ Try.f34 (Zc0 (a,x,())) [])
theorem Zou(c61:CT 61 Z7Q)(c35:CT 35 Z2L)(c62:CT 62 Z5I)(hb:∀ (a:Option Arena) (x:Limits) (_:Unit),Zf0 (a,x,())->Zqv a x):CT 34 Z7W:=
 Z2 (l:=[(61,Z7Q),(35,Z2L),(62,Z5I)]) Zf rfl (⟨c61,c35,c62,trivial⟩) Zpg Try.func34 rfl rfl 2 (fun _=> rfl) (by decide) (fun ⟨a,x,_⟩=> hb a x ())
theorem Zlq(c91:CT 91 Z7G)(c90:CT 90 Z7H)(c86:CT 86 Z2F)(c64:CT 64 Z0L)(c67:CT 67 JP)(c68:CT 68 Z2J)(b62:Zrx)(b92:Zrw):
  CT 62 Z5I/\CT 92 Zhj:=by
 have h77 : ∃ fn, Try.prog.funcs[(62 : FuncId)]? = some fn ∧ fn.body.isSome = true ∧ (fn.name == "runtime.NumGoroutine") = false := ⟨Try.f62, Try.func62, rfl, rfl⟩
 have h108 : ∃ fn, Try.prog.funcs[(92 : FuncId)]? = some fn ∧ fn.body.isSome = true ∧ (fn.name == "runtime.NumGoroutine") = false := ⟨Try.f92, Try.func92, rfl, rfl⟩
 have key:∀ N,CT 62 (fsX Z6h (fun a=> [Z8s a,Zir a < N]) Z6w Z2V)/\CT 92 (fsX Z6g (fun a=> [Z8r a,Zgv a < N]) Z8h Z4j):=by
  intro N
  induction N with
  | zero=> exact ⟨Zcy h77,Zcy h108⟩
  | succ N ih=>
   have kn:=Z0a (l:=Z63 N) ⟨ih.1,ih.2,c91,c90,c86,c64,c67,c68,trivial⟩
   exact ⟨Z2i (Γ:=Z0 (Z63 N)) Zf rfl kn ZlJ Try.func62 rfl rfl (fun a=> by show 3<=_;decide) (fun ⟨⟨u,t,_⟩,r,d,_⟩ h=> b62 N u t r d () h.1 h.2.1),
    Z2i (Γ:=Z0 (Z63 N)) Zf rfl kn ZlE Try.func92 rfl rfl (fun a=> by show 4<=_;decide) (fun ⟨⟨u,t,_⟩,r,i,d,_⟩ h=> b92 N u t r i d () h.1 h.2.1)⟩
 exact ⟨Zcz h77 fun N=> (key N).1,Zcz h108 fun N=> (key N).2⟩
end
theorem Z5t{n:Nat}{rs:List ResultVar}{r r':V U}{X X':List (List (C U))}{e:AExit}{s:LSt U}(hr:r=r')(hX:X=X')(h:Yg cfg n rs r' X' e s):Yg cfg n rs r X e s:=by rw [hr,hX];exact h
theorem Z3R(n t:Int)(ht:0<=t):(if t < (if n < 0 then 0 else n) then t else (if n < 0 then 0 else n))=Jo n t:=by
 unfold Jo
 (repeat' split) <;> omega
theorem c61:Contract Try.prog cfg 61 Z7Q:=by
 refine Zoh ?_
 intro x _ _
 refine Zsb _ _ ?_
 refine Y4 (r':= .agg [.int .i64 (if (64:Int) < (if x.depth < 0 then 0 else x.depth) then 64 else (if x.depth < 0 then 0 else x.depth)),.int .i64 (if (65536:Int) < (if x.weight < 0 then 0 else x.weight) then 65536 else (if x.weight < 0 then 0 else x.weight)),.int .i64 (if (4096:Int) < (if x.maxD < 0 then 0 else x.maxD) then 4096 else (if x.maxD < 0 then 0 else x.maxD)),.int .i64 (if (131072:Int) < (if x.maxOut < 0 then 0 else x.maxOut) then 131072 else (if x.maxOut < 0 then 0 else x.maxOut))]) ?_ (by (repeat' (first | exact trivial | exact rfl | apply And.intro)))
 rw [Z3R _ _ (by decide),Z3R _ _ (by decide),Z3R _ _ (by decide),Z3R _ _ (by decide)]
 try rfl
theorem c86:Contract Try.prog cfg 86 Z2F:=by
 refine ZnZ ?_
 intro k _ _
 refine ZrS _ _ ?_
 (simp only [vcT,vcS])
 refine Zw rfl ?_
 rw [QO]
 (simp only [vcT,vcS])
theorem c91:Contract Try.prog cfg 91 Z7G:=by
 refine ZnU c64 c65 c67 ZpA ?_
 intro r _ hp
 obtain ⟨ha,hx⟩:=hp
 dsimp only at ha hx
 have hd:=hx.data
 have hq:=hx.ptrs
 have hc:=hx.count
 simp only [unX] at hd hq hc
 refine ZrN _ _ ?_
 rintro y hy
 dsimp only at hy
 replace hy:=hy.symm
 subst hy
 (simp only [vcT,vcS])
 refine ⟨trivial,fun h1=> ?_,fun h1=> ⟨trivial,fun h9=> ?_,fun h9=> ?_⟩⟩
 .have e1:JN r=r.data:=by unfold JN;rw [if_pos h1]
  have e2:ZB r=r.kids:=by unfold ZB;rw [if_pos h1]
  rw [e1,e2]
  refine ⟨trivial,by ((unfold InR;omega)),trivial,by ((unfold InR;omega)),ZC rfl ?_⟩
  show _=ZV (unX r)
  unfold ZV
  rw [if_pos (show (unX r).kind=1 from h1)]
  try rfl
 .have e2:ZB r=r.count:=by unfold ZB;rw [if_neg h1]
  rw [e2,if_pos h9,if_pos h9]
  have e3:=Qw hc.1 (show 0<=1+r.data+r.kids by omega)
  have e4:=K3 (Xc hc.2) (show 1+r.data+r.kids<=131072 by omega) (by omega) (by decide:(0:Int)<=536870912)
  refine ⟨trivial,trivial,by ((unfold InR;omega)),by ((unfold InR;omega)),by ((unfold InR;omega)),by ((unfold InR;omega)),ZC rfl ?_⟩
  show _=ZV (unX r)
  unfold ZV
  rw [if_neg (show ¬(unX r).kind=1 from h1),if_pos (show (unX r).kind=9 from h9)]
  try rfl
 .have e2:ZB r=r.count:=by unfold ZB;rw [if_neg h1]
  rw [e2]
  refine ⟨trivial,by ((unfold InR;omega)),ZC rfl ?_⟩
  show _=ZV (unX r)
  unfold ZV
  rw [if_neg (show ¬(unX r).kind=1 from h1),if_neg (show ¬(unX r).kind=9 from h9)]
  try rfl
theorem c90:Contract Try.prog cfg 90 Z7H:=by
 refine ZnV ?_
 intro u t n _ hp
 obtain ⟨h0,h1,h2,h3⟩:=hp
 dsimp only at h0 h1 h2 h3
 refine ZrO _ _ _ _ ?_
 (simp only [vcT,vcS])
 refine ⟨by ((unfold InR;omega)),fun h=> ?_,fun h=> ⟨by ((unfold InR;omega)),?_⟩⟩
 .refine Z5t (r':= .c (.bool false)) (X':=[[.int .i64 u,.int .i64 t]]) ?_ ?_ (by (repeat' (first | exact trivial | exact rfl | apply And.intro)))
  .simp only [Zez];rw [decide_eq_false (by omega)]
  .simp only [ZaO];rw [if_neg (by omega)]
 .refine Z5t (r':= .c (.bool true)) (X':=[[.int .i64 (u+n),.int .i64 t]]) ?_ ?_ (by (repeat' (first | exact trivial | exact rfl | apply And.intro)))
  .simp only [Zez];rw [decide_eq_true (by omega)]
  .simp only [ZaO];rw [if_pos (by omega)]
theorem Zak(f:Int->Int->Tree × Int × Int):∀ (n:Nat) (i left:Int) (acc acc':List Tree),(ZZ f n i left acc).2=(ZZ f n i left acc').2
 | 0,_,_,_,_=> rfl
 | n+1,i,left,acc,acc'=> by
  simp only [ZZ]
  split
  .exact Zak f n _ _ _ _
  .try rfl
theorem Z29(f:Int->Int->Tree × Int × Int){n:Int}{i left:Int}(hi:i < n):(ZZ f (n - i).toNat i left []).2=if (f i left).2.2=0 then (ZZ f (n - (i+1)).toNat (i+1) (f i left).2.1 []).2 else (f i left).2:=by
 rw [show (n - i).toNat=(n - (i+1)).toNat+1 by omega]
 simp only [ZZ]
 split
 .exact Zak f _ _ _ _ _
 .try rfl
theorem Z5W(l:List (List Int))(d:Nat)(left:Int):Zs l d xz left=(⟨0,[],[]⟩,left,0):=by
 match d with
 | 0=> rfl
 | 1=> rfl
 | d+2=> rfl
theorem Zah{a:Option Arena}{x:XRef}(h:OkX (Z1 a) x)(d:Nat)(left:Int):Zs (Z1 (Yc a x).a) d (unX (Yc a x)) left=Zs (Z1 a) d x left:=by
 rw [Z4L h]
 by_cases h0:x.kind=0
 .rw [h.null h0,Z5W,Z5W]
 .rw [Z9h h0]
theorem Zfq{l:List (List Int)}{d:Nat}{m':XRef->Int->Tree × Int × Int}{x:XRef}{i left:Int}(h:x.kind=1\/x.kind=8):(Ym l (Zs l d) m' x i left).2=Z2e l d x i left:=by
 unfold Ym Z2e
 split
 .have h9:¬x.kind=9:=by omega
  simp [h9,h]
 .try rfl
theorem Zpm{l:List (List Int)}{d:Nat}{m:XRef->Int->Tree × Int × Int}{x:XRef}{i left:Int}(h:x.kind=9):(Ym l m (Zs l d) x i left).2=Z2e l d x i left:=by
 unfold Ym Z2e
 split
 .simp [h]
 .try rfl
theorem ZgJ{l:List (List Int)}{m m':XRef->Int->Tree × Int × Int}{x:XRef}{i left:Int}(h:2<=x.kind/\x.kind<=7\/x.kind=10):(Ym l m m' x i left).2=(left,0):=by
 have hk:(Zk l x i).2=0:=by
  unfold Zk
  split
  .try rfl
  .rw [if_neg (by omega),if_neg (by omega),if_neg (by omega)]
 unfold Ym
 rw [if_pos hk,if_neg (by omega),if_neg (by omega)]
theorem Z8N{f:Int->Int->Tree × Int × Int}(hf:∀ i left,(f i left).2=(left,0)):∀ (n:Nat) (i left:Int) (acc:List Tree),(ZZ f n i left acc).2=(left,0)
 | 0,_,_,_=> rfl
 | n+1,i,left,acc=> by
  simp only [ZZ,hf]
  rw [if_pos trivial]
  exact Z8N hf n _ _ _
theorem Zaq{l:List (List Int)}(hl:YK l){d:Nat}{x:XRef}(hx:OkX l x){i left:Int}(h:0<=left):0<=(Z2e l d x i left).1/\(Z2e l d x i left).1<=left:=by
 unfold Z2e
 split
 .split
  .exact Z8Q hl (Z3I hl d) (Ja hl hx i) left h
  .exact Z3I hl d _ _ (Ja hl hx i) h
 .exact ⟨h,QE _⟩
theorem b62:Zrx:=by
 intro N u t r d _ hp hN
 obtain ⟨⟨ha,hx⟩,h0,h1,h2,hd0,hd⟩:=hp
 dsimp only at ha hx h0 h1 h2 hd0 hd
 have hN':3*d.toNat < N+1:=hN
 have hok:okR r:=⟨ha,hx⟩
 have hkl:=Z8P hx
 have hop:=Z56 hx
 refine Zsa _ _ _ _ _ _ ?_
 rintro y hy
 dsimp only at hy
 replace hy:=hy.symm
 subst hy
 have hr:∀ {e w:Int},(Zs (Z1 r.a) d.toNat (unX r) (t - u)).2=(w,e)->∀ {s:LSt U},Yg cfg Try.f62.ntmps Try.f62.results.toList (.c (.int .i64 e)) [[.int .i64 (t - w),.int .i64 t]] .ret s->
   Yg cfg Try.f62.ntmps Try.f62.results.toList (Z6w ((u,t,()),r,d,())) (Z2V ((u,t,()),r,d,())) .ret s:=by
  intro e w he s hs
  refine Z5t ?_ ?_ hs
  .simp only [Z6w];rw [he]
  .simp only [Z2V];rw [he]
 have cut:∀ x7:Int,(x7=d - 1/\(r.kind≠9\/ZB r<=0)\/x7=d - 2/\r.kind=9/\0 < ZB r)->r.kind≠0->
   A62 N [1,1,1,1] (Z5l u t r d x7) (Yg cfg Try.f62.ntmps Try.f62.results.toList (Z6w ((u,t,()),r,d,())) (Z2V ((u,t,()),r,d,()))):=by
  intro x7 hx7 hk0
  refine ZkK _ _ _ _ _ _ _ ?_
  rintro y hy
  replace hy:=hy.symm
  subst hy
  (simp only [vcT,vcS])
  have herr:∀ e:Int,(d < 1\/x7 < 0)\/¬ZV (unX r)<=t - u->(Zs (Z1 r.a) d.toNat (unX r) (t - u)).2=(t - u,3):=by
   intro e h
   by_cases h1:1<=d.toNat
   .rw [JT h1]
    unfold YR
    rw [if_neg (show ¬(unX r).kind=0 from hk0),if_pos]
    rcases h with (h | h) | h
    .omega
    .refine .inr (.inl ⟨?_,?_,by omega⟩)
     .show r.kind=9;omega
     .show 0 < r.count
      have:r.kind=9/\0 < ZB r:=by omega
      have hk:=this.2
      unfold ZB at hk
      rw [if_neg (by omega)] at hk
      exact hk
    .exact .inr (.inr (by omega))
   .rw [show d.toNat=0 by omega,Zag,if_neg (show ¬(unX r).kind=0 from hk0)]
  refine ⟨fun _=> hok,fun _=> ⟨h0,h1,h2,by show 0<=ZV (unX r);omega⟩,fun h=> ?_,fun h=> ?_⟩
  .refine hr (herr 0 h) ?_
   have e1:(bif !bif decide (d < 1) then true else decide (x7 < 0) then if ZV (unX r)<=t - u then u+ZV (unX r) else u else u)=t - (t - u):=by
    by_cases a1:d < 1
    .simp [a1];omega
    .by_cases a2:x7 < 0
     .simp [a1,a2];omega
     .rw [if_neg (by omega)];simp [a1,a2];omega
   have e2:(bif !bif decide (d < 1) then true else decide (x7 < 0) then t else t)=t:=by cases (!bif decide (d < 1) then true else decide (x7 < 0)) <;> rfl
   rw [e1,e2]
   (repeat' (first | exact trivial | exact rfl | apply And.intro))
  .have e1:(bif !bif decide (d < 1) then true else decide (x7 < 0) then if ZV (unX r)<=t - u then u+ZV (unX r) else u else u)=u+ZV (unX r):=by
    rw [if_pos h.2];simp [h.1.1,h.1.2]
   have e2:(bif !bif decide (d < 1) then true else decide (x7 < 0) then t else t)=t:=by cases (!bif decide (d < 1) then true else decide (x7 < 0)) <;> rfl
   rw [e1,e2]
   have hD:1<=d.toNat:=by omega
   have hM:(Zs (Z1 r.a) d.toNat (unX r) (t - u)).2=(ZZ (Ym (Z1 r.a) (Zs (Z1 r.a) (d.toNat - 1)) (Zs (Z1 r.a) (d.toNat - 2)) (unX r)) (ZH (unX r)).toNat 0 (t - u - ZV (unX r)) []).2:=by
    rw [JT hD]
    unfold YR
    rw [if_neg (show ¬(unX r).kind=0 from hk0),if_neg]
    rintro (q | q | q)
    .omega
    .have q1:r.kind=9:=q.1
     have q2:0 < r.count:=q.2.1
     have:ZB r=r.count:=by unfold ZB;rw [if_neg (by omega)]
     have:=q.2.2
     omega
    .omega
   refine ⟨trivial,trivial,fun hk=> ?_,fun hk=> ⟨trivial,?_⟩⟩
   .refine hr (w:=t - u - ZV (unX r)) (e:=0) ?_ ?_
    .rw [hM]
     exact Z8N (fun i left=> ZgJ (.inl hk)) _ _ _ _
    .rw [show t - (t - u - ZV (unX r))=u+ZV (unX r) by omega]
     (repeat' (first | exact trivial | exact rfl | apply And.intro))
   .by_cases h10:r.kind=10
    .have hc0:ZB r=0:=by
      unfold ZB
      rw [if_neg (by omega)]
      exact hx.zero (.inr h10)
     refine Zr (ι:=Int) (fun i=> Z3f u t r d x7 i (u+ZV (unX r)) t) (fun i=> i=0) (fun _=> 0) 0 rfl rfl ?_
     rintro i rfl
     refine Zeo _ _ _ _ _ _ _ _ _ _ _ ?_
     rintro y1 hy1 y2 hy2
     replace hy1:=hy1.symm
     subst hy1
     (simp only [vcT,vcS])
     refine ⟨fun hi=> by omega,fun _=> ?_⟩
     refine hr (w:=t - u - ZV (unX r)) (e:=0) ?_ ?_
     .rw [hM,<-Z3a,hc0];try rfl
     .rw [show t - (t - u - ZV (unX r))=u+ZV (unX r) by omega]
      (repeat' (first | exact trivial | exact rfl | apply And.intro))
    .have hk9:r.kind=1\/r.kind=8\/r.kind=9:=by
      have:=hx.kind
      simp only [unX] at this
      omega
     have hf:∀ i left:Int,i < ZB r->(Ym (Z1 r.a) (Zs (Z1 r.a) (d.toNat - 1)) (Zs (Z1 r.a) (d.toNat - 2)) (unX r) i left).2=Z2e (Z1 r.a) x7.toNat (unX r) i left\/i < 0:=by
      intro i left hi
      by_cases hi0:i < 0
      .exact .inr hi0
      left
      by_cases h9:r.kind=9
      .rw [show x7.toNat=d.toNat - 2 by omega];exact Zpm h9
      .rw [show x7.toNat=d.toNat - 1 by omega];exact Zfq (by show r.kind=1\/r.kind=8;omega)
     refine Zr (ι:=Int × Int) (fun p=> Z3f u t r d x7 p.1 p.2 t) (fun p=> 0<=p.1/\p.1<=ZB r/\0<=p.2/\p.2<=t/\(ZZ (Ym (Z1 r.a) (Zs (Z1 r.a) (d.toNat - 1)) (Zs (Z1 r.a) (d.toNat - 2)) (unX r)) (ZB r - p.1).toNat p.1 (t - p.2) []).2=(Zs (Z1 r.a) d.toNat (unX r) (t - u)).2) (fun p=> (ZB r - p.1).toNat) (0,u+ZV (unX r)) rfl ⟨by simp,by rw [Z3a];exact hkl.1,by dsimp only;omega,by dsimp only;omega,?_⟩ ?_
     .dsimp only
      rw [hM,Z3a,Int.sub_zero,show t - (u+ZV (unX r))=t - u - ZV (unX r) by omega]
     rintro ⟨i,w⟩ ⟨i0,i1,w0,w1,hL⟩
     dsimp only at i0 i1 w0 w1 hL
     refine Zeo _ _ _ _ _ _ _ _ _ _ _ ?_
     rintro y1 hy1 y2 hy2
     replace hy1:=hy1.symm
     subst hy1
     (simp only [vcT,vcS])
     refine ⟨fun hi=> ⟨⟨hok,w0,w1,h2,by dsimp only;omega,by dsimp only;omega,hk9⟩,?_,fun he=> ?_,fun he=> ⟨?_,(i+1,t - y2.1),rfl,?_,by dsimp only;omega⟩⟩,fun hi=> ?_⟩
     .show 3*x7.toNat+(if r.kind=9 then 2 else 1) < N
      split <;> omega
     .rw [Z29 _ hi,(hf i (t - w) hi).resolve_right (by omega),<-hy2,if_neg he] at hL
      exact hr (w:=y2.1) (e:=y2.2) hL.symm (by (repeat' (first | exact trivial | exact rfl | apply And.intro)))
     .have:=hx.ptrs
      have:=hx.count
      have:ZB r < 536870912:=by unfold ZB;split;exact Int.lt_trans hx.ptrs.2 (by decide);exact hx.count.2
      ((unfold InR;omega))
     .have hfi:=Zaq ha hx (d:=x7.toNat) (i:=i) (left:=t - w) (by omega)
      rw [<-hy2] at hfi
      rw [Z29 _ hi,(hf i (t - w) hi).resolve_right (by omega),<-hy2,if_pos he] at hL
      refine ⟨by dsimp only;omega,by dsimp only;omega,by dsimp only;omega,by dsimp only;omega,?_⟩
      dsimp only
      rw [show t - (t - y2.1)=y2.1 by omega,<-hL]
     .rw [show (ZB r - i).toNat=0 by omega] at hL
      refine hr (w:=t - w) (e:=0) hL.symm ?_
      rw [show t - (t - w)=w by omega]
      (repeat' (first | exact trivial | exact rfl | apply And.intro))
 (simp only [vcT,vcS])
 refine ⟨trivial,fun hk=> ?_,fun hk=> ⟨?_,trivial,fun _=> trivial,fun h9=> ⟨?_,?_⟩,fun h9=> ?_⟩⟩
 .refine hr (w:=t - u) (e:=0) ?_ ?_
  .rw [show unX r=xz from hx.null hk,Z5W]
  .rw [show t - (t - u)=u by omega]
   (repeat' (first | exact trivial | exact rfl | apply And.intro))
 ·((unfold InR;omega))
 ·((unfold InR;omega))
 .exact cut _ (.inr ⟨by omega,h9.1,h9.2⟩) hk
 .exact cut _ (.inl ⟨rfl,by omega⟩) hk
theorem ZlW{l:List (List Int)}{d:Nat}{x:XRef}(hk:x.kind=1)(left:Int):(Js l (Zs l d) x left).2=(ZZ (Ym l (Zs l d) (fun _ left=> (Tree.nil,left,3)) x) x.ptrs.toNat 0 left []).2:=by
 unfold Js
 have:(fun j left=> if (Zk l x j).2=0 then Zs l d (Zk l x j).1 left else (Tree.nil,left,(Zk l x j).2))=Ym l (Zs l d) (fun _ left=> (Tree.nil,left,3)) x:=by
  funext j left
  unfold Ym
  split
  .rw [if_neg (by omega),if_pos (.inl hk)]
  .try rfl
 rw [this]
theorem b92:Zrw:=by
 intro N u t r i d _ hp hN
 obtain ⟨⟨ha,hx⟩,h0,h1,h2,hd0,hd,hk⟩:=hp
 dsimp only at ha hx h0 h1 h2 hd0 hd hk
 have hN':3*d.toNat+(if r.kind=9 then 2 else 1) < N+1:=hN
 have hok:okR r:=⟨ha,hx⟩
 have hkx:=Ja ha hx i
 refine ZrM _ _ _ _ _ _ _ ?_
 rintro y hy z hz
 dsimp only at hy hz
 replace hy:=hy.symm
 subst hy
 have ea:(Zk (Z1 r.a) (unX r) i).1=(Zk (Z1 r.a) (unX r) i).1:=rfl
 have hokz:okR z:=by rw [hz];exact Z58 ha hkx
 have hr:∀ {e w:Int},Z2e (Z1 r.a) d.toNat (unX r) i (t - u)=(w,e)->∀ {s:LSt U},Yg cfg Try.f92.ntmps Try.f92.results.toList (.c (.int .i64 e)) [[.int .i64 (t - w),.int .i64 t]] .ret s->
   Yg cfg Try.f92.ntmps Try.f92.results.toList (Z8h ((u,t,()),r,i,d,())) (Z4j ((u,t,()),r,i,d,())) .ret s:=by
  intro e w he s hs
  refine Z5t ?_ ?_ hs
  .simp only [Z8h];rw [he]
  .simp only [Z4j];rw [he]
 (simp only [vcT,vcS])
 refine ⟨hok,fun he=> ?_,fun he=> ⟨trivial,fun k9=> ⟨⟨hokz,h0,h1,h2,hd0,hd⟩,?_,?_⟩,fun k9=> ⟨trivial,?_⟩⟩⟩
 .refine hr (w:=t - u) (e:=(Zk (Z1 r.a) (unX r) i).2) (by unfold Z2e;rw [if_neg he]) ?_
  rw [show t - (t - u)=u by omega]
  (repeat' (first | exact trivial | exact rfl | apply And.intro))
 .show 3*d.toNat < N
  rw [if_neg k9] at hN'
  omega
 .have hm:Zs (Z1 z.a) d.toNat (unX z) (t - u)=Zs (Z1 r.a) d.toNat (Zk (Z1 r.a) (unX r) i).1 (t - u):=by rw [hz];exact Zah hkx _ _
  rw [hm]
  refine hr (w:=(Zs (Z1 r.a) d.toNat (Zk (Z1 r.a) (unX r) i).1 (t - u)).2.1) (e:=(Zs (Z1 r.a) d.toNat (Zk (Z1 r.a) (unX r) i).1 (t - u)).2.2) (by unfold Z2e;rw [if_pos he,if_neg (show ¬(unX r).kind=9 from k9)]) ?_
  (repeat' (first | exact trivial | exact rfl | apply And.intro))
 .rw [if_pos k9] at hN'
  by_cases hki:i < 0\/ZH (unX r)<=i
  .have hz0:(Zk (Z1 r.a) (unX r) i)=(xz,0):=by unfold Zk;rw [if_pos hki]
   have hzz:z=Zgd:=by rw [hz,hz0];try rfl
   refine Zr (ι:=Int) (fun j=> Z3d u t r i d j u) (fun j=> j=0) (fun _=> 0) 0 rfl rfl ?_
   rintro j rfl
   refine Zen _ _ _ _ _ _ _ _ _ _ ?_
   rintro y1 hy1 y2 hy2 y3 hy3
   replace hy1:=hy1.symm
   subst hy1
   have e2:y2=Zgd:=by rw [hy2,<-hz,hzz]
   rw [e2]
   (simp only [vcT,vcS])
   refine ⟨fun hi=> by have:ZB Zgd=0:=rfl;omega,fun _=> ?_⟩
   refine hr (w:=t - u) (e:=0) ?_ ?_
   .unfold Z2e
    rw [if_pos he,if_pos (show (unX r).kind=9 from k9),hz0]
    try rfl
   .rw [show t - (t - u)=u by omega]
    (repeat' (first | exact trivial | exact rfl | apply And.intro))
  .have hzx:(Zk (Z1 r.a) (unX r) i).1.kind=1:=by
    unfold Zk
    rw [if_neg hki,if_neg (show ¬(unX r).kind=1 by show ¬r.kind=1;omega),if_neg (show ¬(unX r).kind=8 by show ¬r.kind=8;omega),if_pos (show (unX r).kind=9 from k9)]
   have hza:z.a=r.a:=by rw [hz];exact Z9h (x:=(Zk (Z1 r.a) (unX r) i).1) (by rw [hzx];decide)
   have hzu:unX z=(Zk (Z1 r.a) (unX r) i).1:=by rw [hz];exact Z4L hkx
   have hzk:z.kind=1:=(congrArg XRef.kind hzu).trans hzx
   have hkz:ZB z=(Zk (Z1 r.a) (unX r) i).1.ptrs:=by rw [Z3a,hzu];unfold ZH;rw [if_pos hzx]
   have hpz:=hkx.ptrs
   have hV:Z2e (Z1 r.a) d.toNat (unX r) i (t - u)=(ZZ (Ym (Z1 r.a) (Zs (Z1 r.a) d.toNat) (fun _ left=> (Tree.nil,left,3)) (unX z)) (ZB z).toNat 0 (t - u) []).2:=by
    unfold Z2e
    rw [if_pos he,if_pos (show (unX r).kind=9 from k9),ZlW hzx,hzu,hkz]
   refine Zr (ι:=Int × Int) (fun p=> Z3d u t r i d p.1 p.2) (fun p=> 0<=p.1/\p.1<=ZB z/\0<=p.2/\p.2<=t/\(ZZ (Ym (Z1 r.a) (Zs (Z1 r.a) d.toNat) (fun _ left=> (Tree.nil,left,3)) (unX z)) (ZB z - p.1).toNat p.1 (t - p.2) []).2=Z2e (Z1 r.a) d.toNat (unX r) i (t - u)) (fun p=> (ZB z - p.1).toNat) (0,u) rfl ⟨by simp,by dsimp only;omega,by dsimp only;omega,by dsimp only;omega,?_⟩ ?_
   .dsimp only
    rw [hV,Int.sub_zero]
   rintro ⟨j,w⟩ ⟨i0,i1,w0,w1,hL⟩
   dsimp only at i0 i1 w0 w1 hL
   refine Zen _ _ _ _ _ _ _ _ _ _ ?_
   rintro y1 hy1 y2 hy2 y3 hy3
   replace hy1:=hy1.symm
   subst hy1
   rw [<-hz] at hy2
   subst hy2
   (simp only [vcT,vcS])
   rw [hza] at hy3
   have hf:=Zfq (l:=Z1 r.a) (d:=d.toNat) (m':=fun _ left=> (Tree.nil,left,3)) (x:=unX y2) (i:=j) (left:=t - w) (.inl hzk)
   refine ⟨fun hi=> ⟨⟨hokz,w0,w1,h2,hd0,hd,.inl hzk⟩,?_,fun hn=> ?_,fun hn=> ⟨by ((unfold InR;omega)),(j+1,t - y3.1),rfl,?_,by dsimp only;omega⟩⟩,fun hi=> ?_⟩
   .show 3*d.toNat+(if y2.kind=9 then 2 else 1) < N
    rw [if_neg (by omega)]
    omega
   .rw [Z29 _ hi,hf,<-hy3,if_neg hn] at hL
    exact hr (w:=y3.1) (e:=y3.2) hL.symm (by (repeat' (first | exact trivial | exact rfl | apply And.intro)))
   .have hfi:=Zaq ha (x:=unX y2) (by rw [hzu];exact hkx) (d:=d.toNat) (i:=j) (left:=t - w) (by omega)
    rw [<-hy3] at hfi
    rw [Z29 _ hi,hf,<-hy3,if_pos hn] at hL
    refine ⟨by dsimp only;omega,by dsimp only;omega,by dsimp only;omega,by dsimp only;omega,?_⟩
    dsimp only
    rw [show t - (t - y3.1)=y3.1 by omega,<-hL]
   .rw [show (ZB y2 - j).toNat=0 by omega] at hL
    refine hr (w:=t - w) (e:=0) hL.symm ?_
    rw [show t - (t - w)=w by omega]
    (repeat' (first | exact trivial | exact rfl | apply And.intro))
theorem ZsL:Contract Try.prog cfg 62 Z5I/\Contract Try.prog cfg 92 Zhj:=Zlq c91 c90 c86 c64 c67 c68 b62 b92
theorem c62:Contract Try.prog cfg 62 Z5I:=ZsL.1
theorem ZlU(x:Limits):0<=(JM x).depth/\(JM x).depth<=64/\0<=(JM x).weight/\(JM x).weight<=65536:=by
 show 0<=Jo x.depth 64/\Jo x.depth 64<=64/\0<=Jo x.weight 65536/\Jo x.weight 65536<=65536
 unfold Jo
 refine ⟨?_,?_,?_,?_⟩ <;> (repeat' split) <;> omega
theorem c34:Contract Try.prog cfg 34 Z7W:=by
 refine Zou c61 c35 c62 ?_
 intro a x _ ha
 simp only [Zf0] at ha
 refine Zsq _ _ _ ?_
 rintro y hy z hz m hm
 dsimp only at hy hz hm
 replace hy:=hy.symm
 subst hy
 have hx:=Zb8 ha 0 0
 have hl:=ZlU x
 have hm':m=Zs (Z1 a) (JM x).depth.toNat (Zo (Z1 a) 0 0).1 (JM x).weight:=by rw [hm,hz,Int.sub_zero];exact Zah hx _ _
 clear hm
 (simp only [vcT,vcS])
 refine ⟨trivial,ha,fun h=> ?_,fun h=> ⟨⟨by rw [hz];exact Z58 ha hx,?_⟩,fun h2=> ?_,fun h2=> ?_⟩⟩
 .refine Y4 (r':= .tup [(false,[.int .i64 0]),(false,[.int .i64 (Zo (Z1 a) 0 0).2])]) ?_ (by (repeat' (first | exact trivial | exact rfl | apply And.intro)))
  simp only [Zc0]
  rw [show Z0l (Z1 a) x=(Tree.nil,0,(Zo (Z1 a) 0 0).2) by unfold Z0l;rw [if_neg h]]
 .dsimp only
  omega
 .refine Y4 (r':= .tup [(false,[.int .i64 0]),(false,[.int .i64 m.2.2])]) ?_ (by (repeat' (first | exact trivial | exact rfl | apply And.intro)))
  simp only [Zc0]
  rw [show Z0l (Z1 a) x=(Tree.nil,0,m.2.2) by unfold Z0l;rw [if_pos h,<-hm',if_neg h2]]
 .refine Y4 (r':= .tup [(false,[.int .i64 ((JM x).weight - m.2.1)]),(false,[.int .i64 0])]) ?_ (by (repeat' (first | exact trivial | exact rfl | apply And.intro)))
  simp only [Zc0]
  rw [show Z0l (Z1 a) x=(m.1,(JM x).weight - m.2.1,0) by unfold Z0l;rw [if_pos h,<-hm',if_pos h2]]
noncomputable section
def Zec:ArgL (Tree × Int × Int × Unit):=(.cons (aEl .tree) (.cons (ZQ .i64) (.cons (ZQ .i64) .nil)))
def Zca(a:Tree × Int × Int × Unit):Prop:=small a.1/\0<=a.2.1/\a.2.1<=4611686018427387904/\-1<=a.2.2.1/\a.2.2.1<=4611686018427387904
def Zgx(a:Tree × Int × Int × Unit):Nat:=Zm a.1
def Zc1(a:Tree × Int × Int × Unit):V U:= .c (ci (ZR a.1 a.2.1 a.2.2.1))
def Z80:Fs U:=fs Zec (fun a=> [Zca a]) Zc1
def Zno:ArgL (Tree × Unit):=(.cons (aEl .tree) .nil)
def pre6(a:Tree × Unit):Prop:=small a.1
def Zr1(a:Tree × Unit):V U:= .c (.bool (decide (0<=ZR a.1 80 3000)))
def ZbP:Fs U:=fs Zno (fun a=> [pre6 a]) Zr1
def Zc9(a:List Int × Unit):Prop:=a.1.length<=1000000000000
def ZhJ(a:List Int × Unit):V U:= .c (sU .u64 (trim a.1) .unk)
def Z7X:Fs U:=fs Zke (fun a=> [Zc9 a]) ZhJ
def Zkb:ArgL (Tree × Int × Unit):=(.cons (aEl .tree) (.cons (ZQ .i64) .nil))
def ZeV(a:Tree × Int × Unit):Prop:=True
def ZeF(a:Tree × Int × Unit):V U:= .c (.int .u64 (Z1U a.1 a.2.1))
def Z7R:Fs U:=fs Zkb (fun a=> [ZeV a]) ZeF
def Z6G(a:Tree × Unit):Prop:=Zm a.1<=1000000000000
def ZgA(a:Tree × Unit):Nat:=Zm a.1
def Z9Y(a:Tree × Unit):V U:= .agg (enc .tree (Z9 a.1))
def Z85:Fs U:=fs Zno (fun a=> [Z6G a]) Z9Y
def Zed:ArgL (Tree × Tree × Unit):=(.cons (aEl .tree) (.cons (aEl .tree) .nil))
def Z6E(a:Tree × Tree × Unit):Prop:=Zm a.1<=1000000000000
def Zgy(a:Tree × Tree × Unit):Nat:=Zm a.1
def Z9X(a:Tree × Tree × Unit):V U:= .c (.bool (Z00 a.1 a.2.1))
def Z81:Fs U:=fs Zed (fun a=> [Z6E a]) Z9X
def Z2b(N:Nat):List (FuncId × Fs U):=(19,fs Zec (fun a=> [Zca a,Zgx a < N]) Zc1) ::[]
def Z9r:Z8 U:=lvl [([1,2,3],[3]),([1,2,3],[3]),([1,2,3,19],[3]),([6],[]),([1,2,3,7],[3]),([1,2,3,7,28],[3]),([1,2,3,7],[3]),([1,2,3,7],[3]),([6],[])]
def Z3m(t:Tree)(d l x2 x7:Int):LSt U:=(L2 [pI 1 d,pI 2 x2,pL 3,pI 7 x7] [(.loc 3,(enc .tree t))])
theorem Zsy(N:Nat)(t:Tree)(d l:Int)(Q:QT)(h:((InR (l - 1))/\(InR (((l - 1):Int) - (t.words.length:Int)))/\(((!(d==0))=true->(!(d==0))=true)/\((d==0)=false->(!(d==0))=true)/\(((bif (d==0) then true else (decide (((((l - 1):Int) - (t.words.length:Int)):Int) < 0)))=true->(Q .ret (L2 [pI 6 (-1)] [])))/\((bif (d==0) then true else (decide (((((l - 1):Int) - (t.words.length:Int)):Int) < 0)))=false->(ZJ (AW (Z0 (Z2b N)) Try.f19 Z9r [1,1,1,0,1,0,0]) (Z3m t d l (((l - 1):Int) - (t.words.length:Int)) 0) (xB 0 (SW (Z0 (Z2b N)) Try.f19 Z9r [1,1,1,1] Q)))))))):
  AW (Z0 (Z2b N)) Try.f19 Z9r [] (L2 [(0,.agg (enc .tree t)),pI 1 d,pI 2 l] []) Q:=by
 have e:(AW (Z0 (Z2b N)) Try.f19 Z9r [] (L2 [(0,.agg (enc .tree t)),pI 1 d,pI 2 l] []) Q)=(type_of% h):=by kernel_rfl
 exact e.mpr h
theorem Zl0(N:Nat)(t:Tree)(d l x2 x7:Int)(N0:NT)(Q:QT)(h:((decide (x7 < (t.kids.length:Int)))=true->(decide (x7 < (t.kids.length:Int)))=true)/\((decide (x7 < (t.kids.length:Int)))=true->(decide (x7 < (t.kids.length:Int)))=true)/\(((bif (decide (x7 < (t.kids.length:Int))) then (decide ((0:Int)<=x2)) else false)=true->(0<=x7/\x7 < (t.kids.length:Int))/\(InR (d - 1))/\(Zca ((Tree.mk (Tree.kind (t.kids.getD x7.toNat Tree.nil)) (Tree.words (t.kids.getD x7.toNat Tree.nil)) (Tree.kids (t.kids.getD x7.toNat Tree.nil))),(d - 1),x2,()))/\(Zgx ((Tree.mk (Tree.kind (t.kids.getD x7.toNat Tree.nil)) (Tree.words (t.kids.getD x7.toNat Tree.nil)) (Tree.kids (t.kids.getD x7.toNat Tree.nil))),(d - 1),x2,()) < N)/\((InR (x7+1))/\(N0 (Z3m t d l (ZR (Tree.mk (Tree.kind (t.kids.getD x7.toNat Tree.nil)) (Tree.words (t.kids.getD x7.toNat Tree.nil)) (Tree.kids (t.kids.getD x7.toNat Tree.nil))) (d - 1) x2) (x7+1)))))/\((bif (decide (x7 < (t.kids.length:Int))) then (decide ((0:Int)<=x2)) else false)=false->(Q .ret (L2 [pI 6 x2] []))))):
  AW (Z0 (Z2b N)) Try.f19 Z9r [1,1,1,0,1,0,0] (Z3m t d l x2 x7) (xT N0 (xB 0 (SW (Z0 (Z2b N)) Try.f19 Z9r [1,1,1,1] Q))):=by
 have e:(AW (Z0 (Z2b N)) Try.f19 Z9r [1,1,1,0,1,0,0] (Z3m t d l x2 x7) (xT N0 (xB 0 (SW (Z0 (Z2b N)) Try.f19 Z9r [1,1,1,1] Q))))=(type_of% h):=by kernel_rfl
 exact e.mpr h
def ZqD(N:Nat)(t:Tree)(d l:Int):Prop:=AW (Z0 (Z2b N)) Try.f19 Z9r [] (Zi (Zec.can (t,d,l,())) []) (EQ Try.f19 (Zc1 (t,d,l,())) [])
theorem ZoB(hb:∀ (N:Nat) (t:Tree) (d:Int) (l:Int) (_:Unit),Zca (t,d,l,())->Zgx (t,d,l,()) < N+1->ZqD N t d l):CT 19 Z80:=
 YB (μ:=Zgx) (l:=[]) Zf rfl trivial Z9r Try.func19 rfl rfl 3 (fun _=> rfl) (by decide) (fun N ⟨t,d,l,_⟩=> hb N t d l ())
def Zjj:List (FuncId × Fs U):=[(19,Z80)]
theorem vc6(t:Tree)(Q:QT)(h:((Zca ((Tree.mk t.kind t.words t.kids),80,3000,()))/\(Q .ret (L2 [(2,.c (.bool (decide ((0:Int)<=(ZR (Tree.mk t.kind t.words t.kids) 80 3000)))))] [])))):
  AW (Z0 Zjj) Try.f6 Zp8 [] (L2 [(0,.agg (enc .tree t))] []) Q:=by
 have e:(AW (Z0 Zjj) Try.f6 Zp8 [] (L2 [(0,.agg (enc .tree t))] []) Q)=(type_of% h):=by kernel_rfl
 exact e.mpr h
def ZrD(t:Tree):Prop:=AW (Z0 Zjj) Try.f6 Zp8 [] (Zi (Zno.can (t,())) []) (EQ Try.f6 (Zr1 (t,())) [])
theorem Zrf(c19:CT 19 Z80)(hb:∀ (t:Tree) (_:Unit),pre6 (t,())->ZrD t):CT 6 ZbP:=
 Z2 (l:=[(19,Z80)]) Zf rfl (⟨c19,trivial⟩) Zp8 Try.func6 rfl rfl 1 (fun _=> rfl) (by decide) (fun ⟨t,_⟩=> hb t ())
def Z9q:Z8 U:=lvl [([0],[]),([0,3],[]),([0,3,16],[]),([0,3],[]),([0,3,4],[]),([2],[])]
def Z3h(l:List Int)(x3:Int):LSt U:=(L2 [(0,.c (sU .u64 l .unk)),pI 3 x3] [])
theorem Zsr(l:List Int)(Q:QT)(h:(ZJ (AW (Z0 Zj1) Try.f33 Z9q [1,1,0,0,0]) (Z3h l (l.length:Int)) (xB 0 (SW (Z0 Zj1) Try.f33 Z9q [1,1,1] Q)))):
  AW (Z0 Zj1) Try.f33 Z9q [] (L2 [(0,.c (sU .u64 l .unk))] []) Q:=by
 have e:(AW (Z0 Zj1) Try.f33 Z9q [] (L2 [(0,.c (sU .u64 l .unk))] []) Q)=(type_of% h):=by kernel_rfl
 exact e.mpr h
theorem ZkU(l:List Int)(x3:Int)(N0:NT)(Q:QT)(h:((decide ((0:Int) < x3))=true->(decide ((0:Int) < x3))=true)/\((decide ((0:Int) < x3))=true->InR (x3 - 1))/\((decide ((0:Int) < x3))=true->(decide ((0:Int) < x3))=true)/\((decide ((0:Int) < x3))=true->(decide ((0:Int) < x3))=true)/\((decide ((0:Int) < x3))=true->0<=(x3 - 1)/\(x3 - 1) < (l.length:Int))/\((decide ((0:Int) < x3))=true->(decide ((0:Int) < x3))=true)/\((decide ((0:Int) < x3))=true->(decide ((0:Int) < x3))=true)/\((decide ((0:Int) < x3))=true->(decide ((0:Int) < x3))=true)/\(((bif (decide ((0:Int) < x3)) then (((List.getD l (Int.toNat (x3 - 1)) (0:Int)):Int)==0) else false)=true->(InR (x3 - 1))/\(N0 (Z3h l (x3 - 1))))/\((bif (decide ((0:Int) < x3)) then (((List.getD l (Int.toNat (x3 - 1)) (0:Int)):Int)==0) else false)=false->((0<=x3/\x3<=(l.length:Int))/\((([]:List Int).length+(List.take x3.toNat l).length)*8<=140737488355328)/\(Q .ret (L2 [(2,.c (sU .u64 (([]:List Int)++(List.take x3.toNat l)) (.own (.e 2 0))))] [])))))):
  AW (Z0 Zj1) Try.f33 Z9q [1,1,0,0,0] (Z3h l x3) (xT N0 (xB 0 (SW (Z0 Zj1) Try.f33 Z9q [1,1,1] Q))):=by
 have e:(AW (Z0 Zj1) Try.f33 Z9q [1,1,0,0,0] (Z3h l x3) (xT N0 (xB 0 (SW (Z0 Zj1) Try.f33 Z9q [1,1,1] Q))))=(type_of% h):=by kernel_rfl
 exact e.mpr h
def Zqw(l:List Int):Prop:=AW (Z0 Zj1) Try.f33 Z9q [] (Zi (Zke.can (l,())) []) (EQ Try.f33 (ZhJ (l,())) [])
theorem Zov(hb:∀ (l:List Int) (_:Unit),Zc9 (l,())->Zqw l):CT 33 Z7X:=
 Z2 (l:=[]) Zf rfl trivial Z9q Try.func33 rfl rfl 1 (fun _=> rfl) (by decide) (fun ⟨l,_⟩=> hb l ())
def ZlL:Z8 U:=lvl [([1,2],[2]),([1,2,13],[2]),([4],[]),([4],[])]
theorem Zsd(t:Tree)(i:Int)(Q:QT)(h:(((!(decide (i < 0)))=true->(!(decide (i < 0)))=true)/\((!(decide (i < 0)))=true->(!(decide (i < 0)))=true)/\((!(decide (i < 0)))=true->(!(decide (i < 0)))=true)/\((!(decide (i < 0)))=true->(!(decide (i < 0)))=true)/\((decide (i < 0))=false->(!(decide (i < 0)))=true)/\(((bif (decide (i < 0)) then true else (decide (((t.words.length:Int):Int)<=i)))=true->(Q .ret (L2 [(4,.c (.int .u64 0))] [])))/\((bif (decide (i < 0)) then true else (decide (((t.words.length:Int):Int)<=i)))=false->(0<=i/\i < (t.words.length:Int))/\(Q .ret (L2 [(4,.c (.int .u64 (t.words.getD i.toNat (0:Int))))] [])))))):
  AW (Z0 Zj1) Try.f59 ZlL [] (L2 [(0,.agg (enc .tree t)),pI 1 i] []) Q:=by
 have e:(AW (Z0 Zj1) Try.f59 ZlL [] (L2 [(0,.agg (enc .tree t)),pI 1 i] []) Q)=(type_of% h):=by kernel_rfl
 exact e.mpr h
def Zqi(t:Tree)(i:Int):Prop:=AW (Z0 Zj1) Try.f59 ZlL [] (Zi (Zkb.can (t,i,())) []) (EQ Try.f59 (ZeF (t,i,())) [])
theorem Zoj(hb:∀ (t:Tree) (i:Int) (_:Unit),ZeV (t,i,())->Zqi t i):CT 59 Z7R:=
 Z2 (l:=[]) Zf rfl trivial ZlL Try.func59 rfl rfl 2 (fun _=> rfl) (by decide) (fun ⟨t,i,_⟩=> hb t i ())
def Z2d(N:Nat):List (FuncId × Fs U):=(13,fs Zno (fun a=> [Z6G a,ZgA a < N]) Z9Y) ::[(33,Z7X)]
def Z9t:Z8 U:=fun i=> match i with
 | 0=> ([(1,[]),(2,[])],[(.loc 1,[]),(.loc 2,[])])
 | 1=> ([(1,[]),(2,[]),(10,[])],[(.loc 1,[]),(.loc 2,[])])
 | 2=> ([(2,[])],[(.loc 2,[])])
 | 3=> ([(1,[]),(2,[]),(3,[])],[(.loc 1,[]),(.loc 2,[])])
 | 4=> ([(1,[]),(2,[]),(3,[]),(4,[])],[(.loc 1,[]),(.loc 2,[])])
 | 5=> ([(1,[]),(2,[]),(3,[.own .tree]),(4,[]),(5,[])],[(.loc 1,[]),(.loc 2,[])])
 | 6=> ([(1,[]),(2,[]),(3,[]),(4,[]),(5,[]),(16,[])],[(.loc 1,[]),(.loc 2,[])])
 | 7=> ([(1,[]),(2,[]),(3,[.own .tree]),(4,[]),(5,[])],[(.loc 1,[]),(.loc 2,[])])
 | 8=> ([(1,[]),(2,[]),(3,[]),(4,[]),(5,[]),(6,[])],[(.loc 1,[]),(.loc 2,[]),(.loc 6,[])])
 | 9=> ([(1,[]),(2,[]),(3,[]),(4,[]),(5,[]),(6,[])],[(.loc 1,[]),(.loc 2,[]),(.loc 6,[])])
 | 10=> ([(1,[]),(2,[]),(3,[]),(4,[]),(5,[]),(31,[])],[(.loc 1,[]),(.loc 2,[])])
 | 11=> ([(1,[]),(2,[]),(3,[]),(4,[]),(5,[])],[(.loc 1,[]),(.loc 2,[])])
 | 12=> ([(1,[]),(2,[]),(3,[]),(4,[]),(36,[])],[(.loc 1,[]),(.loc 2,[])])
 | 13=> ([(2,[])],[(.loc 2,[])])
 | 14=> ([(1,[]),(2,[]),(3,[]),(7,[])],[(.loc 1,[]),(.loc 2,[])])
 | 15=> ([(1,[]),(2,[]),(3,[]),(7,[])],[(.loc 1,[]),(.loc 2,[])])
 | 16=> ([(2,[])],[(.loc 2,[])])
 | _=> ([],[])
def Z1F(t:Tree)(x4 x5:Int)(x3:List Tree):LSt U:=(L2 [pL 1,pL 2,(3,.c (sU .tree x3 (.own (.e 3 0)))),pI 4 x4,pI 5 x5] [(.loc 1,(enc .tree t)),(.loc 2,[ci 0,.nils,.nils])])
theorem ZsE(N:Nat)(t:Tree)(Q:QT)(h:(((t.kind==0)=true->(Q .ret (L2 [pL 2] [(.loc 2,[ci 0,.nils,.nils])])))/\((t.kind==0)=false->(ZJ (AW (Z0 (Z2d N)) Try.f13 Z9t [1,1,1,1,0,1,0,0]) (Z1F t 0 0 []) (xB 0 (SW (Z0 (Z2d N)) Try.f13 Z9t [1,1,1,1,1] Q)))))):
  AW (Z0 (Z2d N)) Try.f13 Z9t [] (L2 [(0,.agg (enc .tree t))] []) Q:=by
 have e:(AW (Z0 (Z2d N)) Try.f13 Z9t [] (L2 [(0,.agg (enc .tree t))] []) Q)=(type_of% h):=by kernel_rfl
 exact e.mpr h
theorem Zl5(N:Nat)(t:Tree)(x4 x5:Int)(x3:List Tree)(N0:NT)(Q:QT)(h:(((decide (x5 < (t.kids.length:Int)))=true->(0<=x5/\x5 < (t.kids.length:Int))/\(Z6G ((Tree.mk (Tree.kind (t.kids.getD x5.toNat Tree.nil)) (Tree.words (t.kids.getD x5.toNat Tree.nil)) (Tree.kids (t.kids.getD x5.toNat Tree.nil))),()))/\(ZgA ((Tree.mk (Tree.kind (t.kids.getD x5.toNat Tree.nil)) (Tree.words (t.kids.getD x5.toNat Tree.nil)) (Tree.kids (t.kids.getD x5.toNat Tree.nil))),()) < N)/\(((x3.length+([(Tree.mk (Tree.kind (Z9 (Tree.mk (Tree.kind (t.kids.getD x5.toNat Tree.nil)) (Tree.words (t.kids.getD x5.toNat Tree.nil)) (Tree.kids (t.kids.getD x5.toNat Tree.nil))))) (Tree.words (Z9 (Tree.mk (Tree.kind (t.kids.getD x5.toNat Tree.nil)) (Tree.words (t.kids.getD x5.toNat Tree.nil)) (Tree.kids (t.kids.getD x5.toNat Tree.nil))))) (Tree.kids (Z9 (Tree.mk (Tree.kind (t.kids.getD x5.toNat Tree.nil)) (Tree.words (t.kids.getD x5.toNat Tree.nil)) (Tree.kids (t.kids.getD x5.toNat Tree.nil))))))]).length)*56<=140737488355328)/\(((((Tree.kind (Z9 (Tree.mk (Tree.kind (t.kids.getD x5.toNat Tree.nil)) (Tree.words (t.kids.getD x5.toNat Tree.nil)) (Tree.kids (t.kids.getD x5.toNat Tree.nil))))):Int) !=0)=true->(InR (x5+1))/\((InR (x5+1))/\(N0 (Z1F t (x5+1) (x5+1) (x3++([(Tree.mk (Tree.kind (Z9 (Tree.mk (Tree.kind (t.kids.getD x5.toNat Tree.nil)) (Tree.words (t.kids.getD x5.toNat Tree.nil)) (Tree.kids (t.kids.getD x5.toNat Tree.nil))))) (Tree.words (Z9 (Tree.mk (Tree.kind (t.kids.getD x5.toNat Tree.nil)) (Tree.words (t.kids.getD x5.toNat Tree.nil)) (Tree.kids (t.kids.getD x5.toNat Tree.nil))))) (Tree.kids (Z9 (Tree.mk (Tree.kind (t.kids.getD x5.toNat Tree.nil)) (Tree.words (t.kids.getD x5.toNat Tree.nil)) (Tree.kids (t.kids.getD x5.toNat Tree.nil))))))]))))))/\((((Tree.kind (Z9 (Tree.mk (Tree.kind (t.kids.getD x5.toNat Tree.nil)) (Tree.words (t.kids.getD x5.toNat Tree.nil)) (Tree.kids (t.kids.getD x5.toNat Tree.nil))))):Int) !=0)=false->(InR (x5+1))/\(N0 (Z1F t x4 (x5+1) (x3++([(Tree.mk (Tree.kind (Z9 (Tree.mk (Tree.kind (t.kids.getD x5.toNat Tree.nil)) (Tree.words (t.kids.getD x5.toNat Tree.nil)) (Tree.kids (t.kids.getD x5.toNat Tree.nil))))) (Tree.words (Z9 (Tree.mk (Tree.kind (t.kids.getD x5.toNat Tree.nil)) (Tree.words (t.kids.getD x5.toNat Tree.nil)) (Tree.kids (t.kids.getD x5.toNat Tree.nil))))) (Tree.kids (Z9 (Tree.mk (Tree.kind (t.kids.getD x5.toNat Tree.nil)) (Tree.words (t.kids.getD x5.toNat Tree.nil)) (Tree.kids (t.kids.getD x5.toNat Tree.nil))))))]))))))))/\((decide (x5 < (t.kids.length:Int)))=false->(((t.kind==1)=true->(Zc9 (t.words,()))/\(0<=x4/\x4<=(x3.length:Int))/\(Q .ret (L2 [pL 2] [(.loc 2,[ci 1,sU .u64 (trim t.words) .unk,sU .tree (List.take x4.toNat x3) .unk])])))/\((t.kind==1)=false->(((([]:List Int).length+t.words.length)*8<=140737488355328)/\(Q .ret (L2 [pL 2] [(.loc 2,[ci t.kind,sU .u64 (([]:List Int)++t.words) (.own (.l 2 1)),sU .tree x3 (.own (.l 2 2))])])))))))):
  AW (Z0 (Z2d N)) Try.f13 Z9t [1,1,1,1,0,1,0,0] (Z1F t x4 x5 x3) (xT N0 (xB 0 (SW (Z0 (Z2d N)) Try.f13 Z9t [1,1,1,1,1] Q))):=by
 have e:(AW (Z0 (Z2d N)) Try.f13 Z9t [1,1,1,1,0,1,0,0] (Z1F t x4 x5 x3) (xT N0 (xB 0 (SW (Z0 (Z2d N)) Try.f13 Z9t [1,1,1,1,1] Q))))=(type_of% h):=by kernel_rfl
 exact e.mpr h
def ZqJ(N:Nat)(t:Tree):Prop:=AW (Z0 (Z2d N)) Try.f13 Z9t [] (Zi (Zno.can (t,())) []) (EQ Try.f13 (Z9Y (t,())) [])
theorem ZoH(c33:CT 33 Z7X)(hb:∀ (N:Nat) (t:Tree) (_:Unit),Z6G (t,())->ZgA (t,()) < N+1->ZqJ N t):CT 13 Z85:=
 YB (μ:=ZgA) (l:=[(33,Z7X)]) Zf rfl (⟨c33,trivial⟩) Z9t Try.func13 rfl rfl 1 (fun _=> rfl) (by decide) (fun N ⟨t,_⟩=> hb N t ())
def Yl(N:Nat):List (FuncId × Fs U):=(24,fs Zno (fun a=> [Z6G a,ZgA a < N]) Z9Y) ::[(37,Z0M)]
def Z0m:Z8 U:=fun i=> match i with
 | 0=> ([(1,[]),(2,[])],[(.loc 1,[]),(.loc 2,[])])
 | 1=> ([(1,[]),(2,[]),(8,[])],[(.loc 1,[]),(.loc 2,[])])
 | 2=> ([(2,[])],[(.loc 2,[])])
 | 3=> ([(1,[]),(2,[]),(3,[])],[(.loc 1,[]),(.loc 2,[]),(.loc 3,[])])
 | 4=> ([(1,[]),(2,[]),(3,[]),(17,[]),(18,[]),(19,[])],[(.loc 1,[]),(.loc 2,[]),(.loc 3,[.any,.any,.own .tree])])
 | 5=> ([(1,[]),(2,[]),(3,[]),(17,[]),(18,[]),(19,[]),(20,[])],[(.loc 1,[]),(.loc 2,[]),(.loc 3,[])])
 | 6=> ([(1,[]),(2,[]),(3,[]),(5,[]),(17,[]),(18,[]),(19,[])],[(.loc 1,[]),(.loc 2,[]),(.loc 3,[]),(.loc 5,[])])
 | 7=> ([(1,[]),(2,[]),(3,[]),(17,[]),(18,[]),(19,[])],[(.loc 1,[]),(.loc 2,[]),(.loc 3,[])])
 | 8=> ([(1,[]),(2,[]),(3,[]),(17,[]),(18,[]),(19,[])],[(.loc 1,[]),(.loc 2,[]),(.loc 3,[.any,.any,.own .tree])])
 | 9=> ([(2,[]),(3,[]),(33,[])],[(.loc 2,[]),(.loc 3,[.any,.any,.unk .tree])])
 | 10=> ([(2,[]),(3,[]),(33,[]),(48,[])],[(.loc 2,[]),(.loc 3,[.any,.any,.unk .tree])])
 | 11=> ([(2,[]),(3,[]),(33,[])],[(.loc 2,[]),(.loc 3,[.any,.any,.unk .tree])])
 | 12=> ([(2,[]),(3,[]),(33,[]),(48,[]),(72,[])],[(.loc 2,[]),(.loc 3,[])])
 | 13=> ([(2,[]),(3,[]),(33,[]),(48,[])],[(.loc 2,[]),(.loc 3,[.any,.any,.unk .tree])])
 | 14=> ([(2,[])],[(.loc 2,[])])
 | _=> ([],[])
def Z3k(t:Tree)(x19:Int)(ml3_2:List Tree):LSt U:=(L2 [pL 1,pL 2,pL 3,(17,.c (sU .tree t.kids .unk)),pI 18 (t.kids.length:Int),pI 19 x19] [(.loc 1,(enc .tree t)),(.loc 2,[ci 0,.nils,.nils]),(.loc 3,[ci t.kind,sU .u64 t.words .unk,sU .tree ml3_2 (.own (.l 3 2))])])
def Z3j(t:Tree)(ml3_2:List Tree)(ml3_1_a:List Int):LSt U:=(L2 [pL 2,pL 3,pB 33 ((t.kind:Int)==1)] [(.loc 2,[ci 0,.nils,.nils]),(.loc 3,[ci t.kind,sU .u64 ml3_1_a .unk,sU .tree ml3_2 .unk])])
def Z3i(t:Tree)(ml3_1_a:List Int)(ml3_2_b:List Tree):LSt U:=(L2 [pL 2,pL 3,pB 33 ((t.kind:Int)==1),(48,.c (.bool (bif (decide ((0:Int) < (ml3_1_a.length:Int))) then (((List.getD ml3_1_a (Int.toNat (((ml3_1_a.length:Int):Int) - 1)) (0:Int)):Int)==0) else false)))] [(.loc 2,[ci 0,.nils,.nils]),(.loc 3,[ci t.kind,sU .u64 ml3_1_a .unk,sU .tree ml3_2_b .unk])])
theorem Zst(N:Nat)(t:Tree)(Q:QT)(h:(((t.kind==0)=true->(Q .ret (L2 [pL 2] [(.loc 2,[ci 0,.nils,.nils])])))/\((t.kind==0)=false->(Z8t (t.words,()))/\(ZJ (AW (Z0 (Yl N)) Try.f24 Z0m [1,1,1,0,1,0,0]) (Z3k t 0 []) (xB 0 (SW (Z0 (Yl N)) Try.f24 Z0m [1,1,1,1] Q)))))):
  AW (Z0 (Yl N)) Try.f24 Z0m [] (L2 [(0,.agg (enc .tree t))] []) Q:=by
 have e:(AW (Z0 (Yl N)) Try.f24 Z0m [] (L2 [(0,.agg (enc .tree t))] []) Q)=(type_of% h):=by kernel_rfl
 exact e.mpr h
theorem ZkY(N:Nat)(t:Tree)(x19:Int)(ml3_2:List Tree)(N0:NT)(Q:QT)(h:(((decide (x19 < (t.kids.length:Int)))=true->(0<=x19/\x19 < (t.kids.length:Int))/\((Z6G ((Tree.mk (Tree.kind (t.kids.getD x19.toNat Tree.nil)) (Tree.words (t.kids.getD x19.toNat Tree.nil)) (Tree.kids (t.kids.getD x19.toNat Tree.nil))),()))/\(ZgA ((Tree.mk (Tree.kind (t.kids.getD x19.toNat Tree.nil)) (Tree.words (t.kids.getD x19.toNat Tree.nil)) (Tree.kids (t.kids.getD x19.toNat Tree.nil))),()) < N)/\((ml3_2.length+([(Tree.mk (Tree.kind (Z9 (Tree.mk (Tree.kind (t.kids.getD x19.toNat Tree.nil)) (Tree.words (t.kids.getD x19.toNat Tree.nil)) (Tree.kids (t.kids.getD x19.toNat Tree.nil))))) (Tree.words (Z9 (Tree.mk (Tree.kind (t.kids.getD x19.toNat Tree.nil)) (Tree.words (t.kids.getD x19.toNat Tree.nil)) (Tree.kids (t.kids.getD x19.toNat Tree.nil))))) (Tree.kids (Z9 (Tree.mk (Tree.kind (t.kids.getD x19.toNat Tree.nil)) (Tree.words (t.kids.getD x19.toNat Tree.nil)) (Tree.kids (t.kids.getD x19.toNat Tree.nil))))))]).length)*56<=140737488355328)/\((InR (x19+1))/\(N0 (Z3k t (x19+1) (ml3_2++([(Tree.mk (Tree.kind (Z9 (Tree.mk (Tree.kind (t.kids.getD x19.toNat Tree.nil)) (Tree.words (t.kids.getD x19.toNat Tree.nil)) (Tree.kids (t.kids.getD x19.toNat Tree.nil))))) (Tree.words (Z9 (Tree.mk (Tree.kind (t.kids.getD x19.toNat Tree.nil)) (Tree.words (t.kids.getD x19.toNat Tree.nil)) (Tree.kids (t.kids.getD x19.toNat Tree.nil))))) (Tree.kids (Z9 (Tree.mk (Tree.kind (t.kids.getD x19.toNat Tree.nil)) (Tree.words (t.kids.getD x19.toNat Tree.nil)) (Tree.kids (t.kids.getD x19.toNat Tree.nil))))))])))))))/\((decide (x19 < (t.kids.length:Int)))=false->(((t.kind==1)=true->ZJ (AW (Z0 (Yl N)) Try.f24 Z0m [1,1,1,1,0,1,0,0,0,0]) (Z3j t ml3_2 t.words) (xB 2 (SW (Z0 (Yl N)) Try.f24 Z0m [1,1,1,1,0,1,0,1] (SW (Z0 (Yl N)) Try.f24 Z0m [1,1,1,1,1] Q))))/\((t.kind==1)=false->(Q .ret (L2 [pL 2] [(.loc 2,[ci t.kind,sU .u64 t.words .unk,sU .tree ml3_2 .unk])]))))))):
  AW (Z0 (Yl N)) Try.f24 Z0m [1,1,1,0,1,0,0] (Z3k t x19 ml3_2) (xT N0 (xB 0 (SW (Z0 (Yl N)) Try.f24 Z0m [1,1,1,1] Q))):=by
 have e:(AW (Z0 (Yl N)) Try.f24 Z0m [1,1,1,0,1,0,0] (Z3k t x19 ml3_2) (xT N0 (xB 0 (SW (Z0 (Yl N)) Try.f24 Z0m [1,1,1,1] Q))))=(type_of% h):=by kernel_rfl
 exact e.mpr h
theorem ZkX(N:Nat)(t:Tree)(ml3_2:List Tree)(ml3_1_a:List Int)(N1:NT)(Q:QT)(h:((decide ((0:Int) < (ml3_1_a.length:Int)))=true->(decide ((0:Int) < (ml3_1_a.length:Int)))=true)/\((decide ((0:Int) < (ml3_1_a.length:Int)))=true->(decide ((0:Int) < (ml3_1_a.length:Int)))=true)/\((decide ((0:Int) < (ml3_1_a.length:Int)))=true->(decide ((0:Int) < (ml3_1_a.length:Int)))=true)/\((decide ((0:Int) < (ml3_1_a.length:Int)))=true->(decide ((0:Int) < (ml3_1_a.length:Int)))=true)/\((decide ((0:Int) < (ml3_1_a.length:Int)))=true->InR (((ml3_1_a.length:Int):Int) - 1))/\((decide ((0:Int) < (ml3_1_a.length:Int)))=true->(decide ((0:Int) < (ml3_1_a.length:Int)))=true)/\((decide ((0:Int) < (ml3_1_a.length:Int)))=true->(decide ((0:Int) < (ml3_1_a.length:Int)))=true)/\((decide ((0:Int) < (ml3_1_a.length:Int)))=true->0<=(((ml3_1_a.length:Int):Int) - 1)/\(((ml3_1_a.length:Int):Int) - 1) < (ml3_1_a.length:Int))/\((decide ((0:Int) < (ml3_1_a.length:Int)))=true->(decide ((0:Int) < (ml3_1_a.length:Int)))=true)/\((decide ((0:Int) < (ml3_1_a.length:Int)))=true->(decide ((0:Int) < (ml3_1_a.length:Int)))=true)/\((decide ((0:Int) < (ml3_1_a.length:Int)))=true->(decide ((0:Int) < (ml3_1_a.length:Int)))=true)/\(((bif (decide ((0:Int) < (ml3_1_a.length:Int))) then (((List.getD ml3_1_a (Int.toNat (((ml3_1_a.length:Int):Int) - 1)) (0:Int)):Int)==0) else false)=true->(InR (((ml3_1_a.length:Int):Int) - 1))/\(0<=(((ml3_1_a.length:Int):Int) - 1)/\(((ml3_1_a.length:Int):Int) - 1)<=(ml3_1_a.length:Int))/\(N1 (Z3j t ml3_2 (List.take (Int.toNat (((ml3_1_a.length:Int):Int) - 1)) ml3_1_a))))/\((bif (decide ((0:Int) < (ml3_1_a.length:Int))) then (((List.getD ml3_1_a (Int.toNat (((ml3_1_a.length:Int):Int) - 1)) (0:Int)):Int)==0) else false)=false->ZJ (AW (Z0 (Yl N)) Try.f24 Z0m [1,1,1,1,0,1,0,1,0,0]) (Z3i t ml3_1_a ml3_2) (xB 4 (SW (Z0 (Yl N)) Try.f24 Z0m [1,1,1,1,1] Q))))):
  AW (Z0 (Yl N)) Try.f24 Z0m [1,1,1,1,0,1,0,0,0,0] (Z3j t ml3_2 ml3_1_a) (xT N1 (xB 2 (SW (Z0 (Yl N)) Try.f24 Z0m [1,1,1,1,0,1,0,1] (SW (Z0 (Yl N)) Try.f24 Z0m [1,1,1,1,1] Q)))):=by
 have e:(AW (Z0 (Yl N)) Try.f24 Z0m [1,1,1,1,0,1,0,0,0,0] (Z3j t ml3_2 ml3_1_a) (xT N1 (xB 2 (SW (Z0 (Yl N)) Try.f24 Z0m [1,1,1,1,0,1,0,1] (SW (Z0 (Yl N)) Try.f24 Z0m [1,1,1,1,1] Q)))))=(type_of% h):=by kernel_rfl
 exact e.mpr h
theorem ZkW(N:Nat)(t:Tree)(ml3_1_a:List Int)(ml3_2_b:List Tree)(N2:NT)(Q:QT)(h:((decide ((0:Int) < (ml3_2_b.length:Int)))=true->(decide ((0:Int) < (ml3_2_b.length:Int)))=true)/\((decide ((0:Int) < (ml3_2_b.length:Int)))=true->(decide ((0:Int) < (ml3_2_b.length:Int)))=true)/\((decide ((0:Int) < (ml3_2_b.length:Int)))=true->(decide ((0:Int) < (ml3_2_b.length:Int)))=true)/\((decide ((0:Int) < (ml3_2_b.length:Int)))=true->(decide ((0:Int) < (ml3_2_b.length:Int)))=true)/\((decide ((0:Int) < (ml3_2_b.length:Int)))=true->InR (((ml3_2_b.length:Int):Int) - 1))/\((decide ((0:Int) < (ml3_2_b.length:Int)))=true->(decide ((0:Int) < (ml3_2_b.length:Int)))=true)/\((decide ((0:Int) < (ml3_2_b.length:Int)))=true->(decide ((0:Int) < (ml3_2_b.length:Int)))=true)/\((decide ((0:Int) < (ml3_2_b.length:Int)))=true->0<=(((ml3_2_b.length:Int):Int) - 1)/\(((ml3_2_b.length:Int):Int) - 1) < (ml3_2_b.length:Int))/\((decide ((0:Int) < (ml3_2_b.length:Int)))=true->(decide ((0:Int) < (ml3_2_b.length:Int)))=true)/\((decide ((0:Int) < (ml3_2_b.length:Int)))=true->(decide ((0:Int) < (ml3_2_b.length:Int)))=true)/\((decide ((0:Int) < (ml3_2_b.length:Int)))=true->(decide ((0:Int) < (ml3_2_b.length:Int)))=true)/\((decide ((0:Int) < (ml3_2_b.length:Int)))=true->(decide ((0:Int) < (ml3_2_b.length:Int)))=true)/\(((bif (decide ((0:Int) < (ml3_2_b.length:Int))) then (((Tree.kind (List.getD ml3_2_b (Int.toNat (((ml3_2_b.length:Int):Int) - 1)) Tree.nil)):Int)==0) else false)=true->(InR (((ml3_2_b.length:Int):Int) - 1))/\(0<=(((ml3_2_b.length:Int):Int) - 1)/\(((ml3_2_b.length:Int):Int) - 1)<=(ml3_2_b.length:Int))/\(N2 (Z3i t ml3_1_a (List.take (Int.toNat (((ml3_2_b.length:Int):Int) - 1)) ml3_2_b))))/\((bif (decide ((0:Int) < (ml3_2_b.length:Int))) then (((Tree.kind (List.getD ml3_2_b (Int.toNat (((ml3_2_b.length:Int):Int) - 1)) Tree.nil)):Int)==0) else false)=false->(Q .ret (L2 [pL 2] [(.loc 2,[ci t.kind,sU .u64 ml3_1_a .unk,sU .tree ml3_2_b .unk])]))))):
  AW (Z0 (Yl N)) Try.f24 Z0m [1,1,1,1,0,1,0,1,0,0] (Z3i t ml3_1_a ml3_2_b) (xT N2 (xB 4 (SW (Z0 (Yl N)) Try.f24 Z0m [1,1,1,1,1] Q))):=by
 have e:(AW (Z0 (Yl N)) Try.f24 Z0m [1,1,1,1,0,1,0,1,0,0] (Z3i t ml3_1_a ml3_2_b) (xT N2 (xB 4 (SW (Z0 (Yl N)) Try.f24 Z0m [1,1,1,1,1] Q))))=(type_of% h):=by kernel_rfl
 exact e.mpr h
def Zqy(N:Nat)(t:Tree):Prop:=AW (Z0 (Yl N)) Try.f24 Z0m [] (Zi (Zno.can (t,())) []) (EQ Try.f24 (Z9Y (t,())) [])
theorem Zox(c37:CT 37 Z0M)(hb:∀ (N:Nat) (t:Tree) (_:Unit),Z6G (t,())->ZgA (t,()) < N+1->Zqy N t):CT 24 Z85:=
 YB (μ:=ZgA) (l:=[(37,Z0M)]) Zf rfl (⟨c37,trivial⟩) Z0m Try.func24 rfl rfl 1 (fun _=> rfl) (by decide) (fun N ⟨t,_⟩=> hb N t ())
def Z2c(N:Nat):List (FuncId × Fs U):=(18,fs Zed (fun a=> [Z6E a,Zgy a < N]) Z9X) ::[(29,Z2N)]
def Z9s:Z8 U:=lvl [([2,3],[2,3]),([2,3,27],[2,3]),([4],[]),([2,3,5],[2,3]),([2,3,5,32],[2,3]),([2,3,5],[2,3]),([2,3,5,46],[2,3]),([4],[]),([4],[])]
def Z3n(a b:Tree)(x5:Int):LSt U:=(L2 [pL 2,pL 3,pI 5 x5] [(.loc 2,(enc .tree a)),(.loc 3,(enc .tree b))])
theorem Zsz(N:Nat)(a b:Tree)(Q:QT)(h:(((!(a.kind !=b.kind))=true->(!(a.kind !=b.kind))=true)/\((!(a.kind !=b.kind))=true->(!(a.kind !=b.kind))=true)/\((!(a.kind !=b.kind))=true->(!(a.kind !=b.kind))=true)/\((!(a.kind !=b.kind))=true->(!(a.kind !=b.kind))=true)/\((!(a.kind !=b.kind))=true->Z8u (a.words,b.words,()))/\((!(a.kind !=b.kind))=true->(!(a.kind !=b.kind))=true)/\((a.kind !=b.kind)=false->(!(a.kind !=b.kind))=true)/\((!(bif (a.kind !=b.kind) then true else (!(decide (a.words=b.words)))))=true->(!(bif (a.kind !=b.kind) then true else (!(decide (a.words=b.words)))))=true)/\((!(bif (a.kind !=b.kind) then true else (!(decide (a.words=b.words)))))=true->(!(bif (a.kind !=b.kind) then true else (!(decide (a.words=b.words)))))=true)/\((!(bif (a.kind !=b.kind) then true else (!(decide (a.words=b.words)))))=true->(!(bif (a.kind !=b.kind) then true else (!(decide (a.words=b.words)))))=true)/\((!(bif (a.kind !=b.kind) then true else (!(decide (a.words=b.words)))))=true->(!(bif (a.kind !=b.kind) then true else (!(decide (a.words=b.words)))))=true)/\((!(bif (a.kind !=b.kind) then true else (!(decide (a.words=b.words)))))=true->(!(bif (a.kind !=b.kind) then true else (!(decide (a.words=b.words)))))=true)/\((!(bif (a.kind !=b.kind) then true else (!(decide (a.words=b.words)))))=true->(!(bif (a.kind !=b.kind) then true else (!(decide (a.words=b.words)))))=true)/\((bif (a.kind !=b.kind) then true else (!(decide (a.words=b.words))))=false->(!(bif (a.kind !=b.kind) then true else (!(decide (a.words=b.words)))))=true)/\(((bif (bif (a.kind !=b.kind) then true else (!(decide (a.words=b.words)))) then true else (((a.kids.length:Int):Int) !=(b.kids.length:Int)))=true->(Q .ret (L2 [pB 4 false] [])))/\((bif (bif (a.kind !=b.kind) then true else (!(decide (a.words=b.words)))) then true else (((a.kids.length:Int):Int) !=(b.kids.length:Int)))=false->(ZJ (AW (Z0 (Z2c N)) Try.f18 Z9s [1,1,0,1,0,0]) (Z3n a b 0) (xB 0 (SW (Z0 (Z2c N)) Try.f18 Z9s [1,1,1] Q))))))):
  AW (Z0 (Z2c N)) Try.f18 Z9s [] (L2 [(0,.agg (enc .tree a)),(1,.agg (enc .tree b))] []) Q:=by
 have e:(AW (Z0 (Z2c N)) Try.f18 Z9s [] (L2 [(0,.agg (enc .tree a)),(1,.agg (enc .tree b))] []) Q)=(type_of% h):=by kernel_rfl
 exact e.mpr h
theorem Zl1(N:Nat)(a b:Tree)(x5:Int)(N0:NT)(Q:QT)(h:(((decide (x5 < (a.kids.length:Int)))=true->(0<=x5/\x5 < (a.kids.length:Int))/\(0<=x5/\x5 < (b.kids.length:Int))/\(Z6E ((Tree.mk (Tree.kind (a.kids.getD x5.toNat Tree.nil)) (Tree.words (a.kids.getD x5.toNat Tree.nil)) (Tree.kids (a.kids.getD x5.toNat Tree.nil))),(Tree.mk (Tree.kind (b.kids.getD x5.toNat Tree.nil)) (Tree.words (b.kids.getD x5.toNat Tree.nil)) (Tree.kids (b.kids.getD x5.toNat Tree.nil))),()))/\(Zgy ((Tree.mk (Tree.kind (a.kids.getD x5.toNat Tree.nil)) (Tree.words (a.kids.getD x5.toNat Tree.nil)) (Tree.kids (a.kids.getD x5.toNat Tree.nil))),(Tree.mk (Tree.kind (b.kids.getD x5.toNat Tree.nil)) (Tree.words (b.kids.getD x5.toNat Tree.nil)) (Tree.kids (b.kids.getD x5.toNat Tree.nil))),()) < N)/\(((!(Z00 (Tree.mk (Tree.kind (a.kids.getD x5.toNat Tree.nil)) (Tree.words (a.kids.getD x5.toNat Tree.nil)) (Tree.kids (a.kids.getD x5.toNat Tree.nil))) (Tree.mk (Tree.kind (b.kids.getD x5.toNat Tree.nil)) (Tree.words (b.kids.getD x5.toNat Tree.nil)) (Tree.kids (b.kids.getD x5.toNat Tree.nil)))))=true->(Q .ret (L2 [pB 4 false] [])))/\((!(Z00 (Tree.mk (Tree.kind (a.kids.getD x5.toNat Tree.nil)) (Tree.words (a.kids.getD x5.toNat Tree.nil)) (Tree.kids (a.kids.getD x5.toNat Tree.nil))) (Tree.mk (Tree.kind (b.kids.getD x5.toNat Tree.nil)) (Tree.words (b.kids.getD x5.toNat Tree.nil)) (Tree.kids (b.kids.getD x5.toNat Tree.nil)))))=false->(InR (x5+1))/\(N0 (Z3n a b (x5+1))))))/\((decide (x5 < (a.kids.length:Int)))=false->(Q .ret (L2 [pB 4 true] []))))):
  AW (Z0 (Z2c N)) Try.f18 Z9s [1,1,0,1,0,0] (Z3n a b x5) (xT N0 (xB 0 (SW (Z0 (Z2c N)) Try.f18 Z9s [1,1,1] Q))):=by
 have e:(AW (Z0 (Z2c N)) Try.f18 Z9s [1,1,0,1,0,0] (Z3n a b x5) (xT N0 (xB 0 (SW (Z0 (Z2c N)) Try.f18 Z9s [1,1,1] Q))))=(type_of% h):=by kernel_rfl
 exact e.mpr h
def ZqE(N:Nat)(a b:Tree):Prop:=AW (Z0 (Z2c N)) Try.f18 Z9s [] (Zi (Zed.can (a,b,())) []) (EQ Try.f18 (Z9X (a,b,())) [])
theorem ZoC(c29:CT 29 Z2N)(hb:∀ (N:Nat) (a:Tree) (b:Tree) (_:Unit),Z6E (a,b,())->Zgy (a,b,()) < N+1->ZqE N a b):CT 18 Z81:=
 YB (μ:=Zgy) (l:=[(29,Z2N)]) Zf rfl (⟨c29,trivial⟩) Z9s Try.func18 rfl rfl 2 (fun _=> rfl) (by decide) (fun N ⟨a,b,_⟩=> hb N a b ())
end
theorem Z87:∀ {ks:List Tree} {i:Nat},Z5K ks->i < ks.length->small (ks.getD i Tree.nil)
 | t ::_,0,h,_=> by simp only [Z5K] at h;exact h.1
 | _ ::r,i+1,h,hi=> by simp only [Z5K] at h;exact Z87 (ks:=r) (i:=i) h.2 (by simpa using hi)
theorem Jc:∀ {ks:List Tree} {i:Nat},i < ks.length->Zm (ks.getD i Tree.nil)<=Zp ks
 | t ::_,0,_=> by simp only [Zp,List.getD_cons_zero];omega
 | t ::r,i+1,h=> by
  have:=Jc (ks:=r) (i:=i) (by simpa using h)
  simp only [Zp,List.getD_cons_succ]
  omega
mutual
theorem Z1j:∀ (t:Tree) (d l:Int),-1<=ZR t d l/\ZR t d l<=max l (-1)
 | .mk _ w ks,d,l=> by
  simp only [ZR]
  split
  .omega
  .have:=Z0N ks (d - 1) (l - 1 - w.length) (by omega)
   omega
theorem Z0N:∀ (ks:List Tree) (d l:Int),-1<=l->-1<=Y1 ks d l/\Y1 ks d l<=l
 | [],d,l,h=> by simp only [Y1];omega
 | t ::r,d,l,h=> by
  simp only [Y1]
  split
  .omega
  .have h1:=Z1j t d l
   have h2:=Z0N r d (ZR t d l) h1.1
   omega
end
theorem Z9n{ks:List Tree}{i:Nat}{d l:Int}(h:i < ks.length)(hl:0<=l):Y1 (ks.drop i) d l=Y1 (ks.drop (i+1)) d (ZR (ks.getD i Tree.nil) d l):=by
 rw [QP h]
 simp only [Y1]
 rw [if_neg (by omega)]
 simp [List.getD,h]
theorem c19:Contract Try.prog cfg 19 Z80:=by
 refine ZoB ?_
 rintro N ⟨k,ws,ks⟩ d l _ ⟨hs,h1,h2,h3,h4⟩ hN
 simp only [small,Zgx,Zm] at*
 refine Zsy N _ _ _ _ ?_
 (simp only [vcS])
 (simp only [Tree.eta,Tree.kind_mk,Tree.words_mk,Tree.kids_mk])
 refine ⟨by unfold InR;omega,by unfold InR;omega,by omega,by omega,fun hc=> ?_,fun hc=> ?_⟩
 .have e:ZR (.mk k ws ks) d l= -1:=by
   simp only [ZR]
   rw [if_pos (by omega)]
  simp only [Zc1,e]
  exact ⟨⟨rfl,⟨⟨rfl,rfl⟩,trivial⟩,trivial⟩,trivial⟩
 .have e:ZR (.mk k ws ks) d l=Y1 ks (d - 1) (l - 1 - ws.length):=by
   simp only [ZR]
   rw [if_neg (by omega)]
  simp only [Zc1,e]
  refine Zr (ι:=Int × Int) (fun p=> Z3m (.mk k ws ks) d l p.1 p.2) (fun p=> 0<=p.2/\p.2<=ks.length/\-1<=p.1/\p.1<=l/\Y1 (ks.drop p.2.toNat) (d - 1) p.1=Y1 ks (d - 1) (l - 1 - ws.length)) (fun p=> ((ks.length:Int) - p.2).toNat) (l - 1 - ws.length,0) rfl ⟨by omega,by omega,by omega,by omega,by simp⟩ ?_
  rintro ⟨l',i⟩ ⟨h5,h6,h7,h8,h9⟩
  dsimp only at*
  refine Zl0 N _ _ _ _ _ _ _ ?_
  (simp only [vcS])
  (simp only [Tree.eta,Tree.kind_mk,Tree.words_mk,Tree.kids_mk])
  refine ⟨by omega,by omega,fun hc=> ?_,fun hc=> ?_⟩
  .have hi:i.toNat < ks.length:=by omega
   have hr:=Z1j (ks.getD i.toNat Tree.nil) (d - 1) l'
   have hn:=Jc hi
   have hd:=Z9n (d:=d - 1) hi hc.2
   refine ⟨by omega,by unfold InR;omega,⟨Z87 hs.2.2 hi,by dsimp only;omega,by dsimp only;omega,by dsimp only;omega,by dsimp only;omega⟩,by simp only [Zgx];omega,by unfold InR;omega,⟨(ZR (ks.getD i.toNat Tree.nil) (d - 1) l',i+1),rfl,⟨by dsimp only;omega,by dsimp only;omega,by dsimp only;omega,by dsimp only;omega,?_⟩,by dsimp only;omega⟩⟩
   dsimp only
   rw [<-h9,hd]
   congr 2
   omega
  .have e:Y1 ks (d - 1) (l - 1 - ws.length)=l':=by
    rw [<-h9]
    by_cases hi:i < ks.length
    .rw [QP (by omega)]
     simp only [Y1]
     rw [if_pos (by omega)]
    .rw [QK (by omega)]
     simp only [Y1]
   rw [e]
   exact ⟨⟨rfl,⟨⟨rfl,rfl⟩,trivial⟩,trivial⟩,trivial⟩
theorem c6:Contract Try.prog cfg 6 ZbP:=by
 refine Zrf c19 ?_
 intro t _ hp
 refine vc6 _ _ ?_
 (simp only [Tree.eta,Tree.kind_mk,Tree.words_mk,Tree.kids_mk])
 refine ⟨⟨hp,by dsimp only;omega,by dsimp only;omega,by dsimp only;omega,by dsimp only;omega⟩,?_⟩
 exact ⟨⟨rfl,⟨rfl,trivial⟩,trivial⟩,trivial⟩
theorem c59:Contract Try.prog cfg 59 Z7R:=by
 refine Zoj ?_
 intro t i _ hp
 refine Zsd _ _ _ ?_
 (simp only [vcS])
 (repeat (refine And.intro (by first | omega | (unfold InR;omega) | (dsimp only;omega)) ?_))
 refine ⟨fun hc=> ?_,fun hc=> ⟨by omega,?_⟩⟩
 .have e:Z1U t i=0:=by
   unfold Z1U
   split
   .try rfl
   .rw [List.getD,Qz (by omega)]
    try rfl
  simp only [ZeF,e]
  exact ⟨⟨rfl,⟨⟨rfl,rfl⟩,trivial⟩,trivial⟩,trivial⟩
 .have e:Z1U t i=t.words.getD i.toNat 0:=by
   unfold Z1U
   rw [if_neg (by omega)]
  simp only [ZeF,e]
  exact ⟨⟨rfl,⟨⟨rfl,rfl⟩,trivial⟩,trivial⟩,trivial⟩
theorem ZcH{a b:List Tree}{i:Int}(hi:0<=i)(ha:i < a.length)(hb:i < b.length):(a.drop i.toNat=b.drop i.toNat)↔(a.getD i.toNat Tree.nil=b.getD i.toNat Tree.nil/\a.drop (i+1).toNat=b.drop (i+1).toNat):=by
 have e:(i+1).toNat=i.toNat+1:=by omega
 rw [QP (by omega),QP (l:=b) (by omega),e]
 simp only [List.cons.injEq,List.getD,Q0 (show i.toNat < a.length by omega),Q0 (show i.toNat < b.length by omega),Qu]
theorem Z8b{a b:Tree}:Z00 a b=true↔a=b:=by simp [Z00]
theorem Z2T{a b:Tree}:Z00 a b=false↔¬a=b:=by simp [Z00]
theorem JG:∀ (ks:List Tree),ks.length<=Zp ks
 | []=> by simp [Zp]
 | t ::r=> by
  have:=JG r
  have:1<=Zm t:=by cases t;simp only [Zm];omega
  simp only [Zp,Qc]
  omega
theorem c18:Contract Try.prog cfg 18 Z81:=by
 refine ZoC c29 ?_
 rintro N ⟨k,ws,ks⟩ ⟨k',ws',ks'⟩ _ hp hN
 have hlen:=JG ks
 simp only [Z6E,Zgy,Zm] at hp hN
 refine Zsz N _ _ _ ?_
 (simp only [vcS])
 (simp only [Tree.eta,Tree.kind_mk,Tree.words_mk,Tree.kids_mk])
 have p69:Z8u (ws,ws',()):=by simp only [Z8u];omega
 refine ⟨id,id,id,id,fun _=> p69,id,id,id,id,id,id,id,id,by simp,fun hc=> ?_,fun hc=> ?_⟩
 .have e:Z00 (.mk k ws ks) (.mk k' ws' ks')=false:=by
   rw [Z2T]
   intro h
   cases h
   simp at hc
  simp only [Z9X,e]
  exact ⟨⟨rfl,⟨rfl,trivial⟩,trivial⟩,trivial⟩
 .have hc':(k=k'/\ws=ws')/\ks.length=ks'.length:=⟨hc.1,by have:=hc.2;omega⟩
  obtain ⟨⟨rfl,rfl⟩,hl⟩:=hc'
  refine Zr (ι:=Int) (fun p=> Z3n (.mk k ws ks) (.mk k ws ks') p) (fun p=> 0<=p/\p<=ks.length/\(Tree.mk k ws ks= .mk k ws ks'↔ks.drop p.toNat=ks'.drop p.toNat)) (fun p=> ((ks.length:Int) - p).toNat) 0 rfl ⟨by omega,by omega,by simp⟩ ?_
  rintro i ⟨h1,h2,h3⟩
  refine Zl1 N _ _ _ _ _ ?_
  (simp only [vcS])
  (simp only [Tree.eta,Tree.kind_mk,Tree.words_mk,Tree.kids_mk])
  refine ⟨fun hc=> ⟨by omega,by omega,?_,?_,fun hn=> ?_,fun he=> ⟨by unfold InR;omega,i+1,rfl,⟨by omega,by omega,?_⟩,by omega⟩⟩,fun hc=> ?_⟩
  .have:=Jc (ks:=ks) (i:=i.toNat) (by omega)
   simp only [Z6E]
   omega
  .have:=Jc (ks:=ks) (i:=i.toNat) (by omega)
   simp only [Zgy]
   omega
  .have e:Z00 (.mk k ws ks) (.mk k ws ks')=false:=by
    rw [Z2T,h3,ZcH h1 hc (by omega)]
    rw [Z2T] at hn
    exact fun h=> hn h.1
   simp only [Z9X,e]
   exact ⟨⟨rfl,⟨rfl,trivial⟩,trivial⟩,trivial⟩
  .rw [h3,ZcH h1 hc (by omega)]
   exact ⟨fun h=> h.2,fun h=> ⟨Z8b.1 he,h⟩⟩
  .have e:Z00 (.mk k ws ks) (.mk k ws ks')=true:=by
    rw [Z8b,h3]
    rw [QK (by omega),QK (by omega)]
   simp only [Z9X,e]
   exact ⟨⟨rfl,⟨rfl,trivial⟩,trivial⟩,trivial⟩
theorem Z5C:∀ (l:List Int),trim (l++[0])=trim l
 | []=> rfl
 | x ::r=> by
  show (match trim (r++[0]) with | []=> if x=0 then [] else [x] | y ::s=> x ::y ::s)=_
  rw [Z5C r]
  try rfl
theorem ZaF{x:Int}(hx:x≠0):∀ (l:List Int),trim (l++[x])=l++[x]
 | []=> by simp [trim,hx]
 | y ::r=> by
  show (match trim (r++[x]) with | []=> if y=0 then [] else [y] | z ::s=> y ::z ::s)=_
  rw [ZaF hx r]
  cases r <;> rfl
theorem Z5E{l:List Int}{i:Int}(h0:0 < i)(hi:i<=l.length):l.take i.toNat=l.take (i - 1).toNat++[l.getD (i - 1).toNat 0]:=by
 have e:i.toNat=(i - 1).toNat+1:=by omega
 rw [e,List.take_add_one]
 simp only [List.getD,Q0 (show (i - 1).toNat < l.length by omega),Option.toList,Qu]
theorem c33:Contract Try.prog cfg 33 Z7X:=by
 refine Zov ?_
 intro l _ hp
 simp only [Zc9] at hp
 refine Zsr _ _ ?_
 refine Zr (ι:=Int) (fun p=> Z3h l p) (fun p=> 0<=p/\p<=l.length/\trim (l.take p.toNat)=trim l) (fun p=> p.toNat) (l.length:Int) rfl ⟨by omega,by omega,by simp⟩ ?_
 rintro i ⟨h1,h2,h3⟩
 refine ZkU _ _ _ _ ?_
 (simp only [vcS])
 refine ⟨id,fun h=> by unfold InR;omega,id,id,fun h=> by omega,id,id,id,fun hc=> ⟨by unfold InR;omega,i - 1,rfl,⟨by omega,by omega,?_⟩,by omega⟩,fun hc=> ⟨by omega,?_,?_⟩⟩
 .rw [Z5E hc.1 h2,hc.2,Z5C] at h3
  exact h3
 .simp only [QS,Qd]
  omega
 .have e:trim l=[]++l.take i.toNat:=by
   rw [<-h3]
   by_cases h0:0 < i
   .rw [Z5E h0 h2,ZaF (by rcases hc with h | h;exact absurd h0 h;exact h)]
    try rfl
   .have:i.toNat=0:=by omega
    rw [this]
    try rfl
  simp only [ZhJ,e]
  exact ⟨⟨rfl,⟨⟨rfl,trivial⟩,trivial⟩,trivial⟩,trivial⟩
theorem ZbM:∀ (l:List Int),(trim l).length<=l.length
 | []=> by simp [trim]
 | x ::r=> by
  have:=ZbM r
  simp only [trim]
  split
  .split <;> simp
  .rename_i h
   rw [h] at this
   simp at*
   omega
theorem Z7z:∀ (l:List Tree),Zp (Yp l)<=Zp l
 | []=> by simp [Yp]
 | x ::r=> by
  have:=Z7z r
  simp only [Yp]
  split
  .split
   .simp [Zp]
   .simp [Zp]
  .rename_i h
   rw [h] at this
   simp only [Zp] at*
   omega
mutual
theorem Z4w:∀ (t:Tree),Zm (Z9 t)<=Zm t
 | .mk k w ks=> by
  have h1:=Z8H ks
  have h2:=ZbM w
  have h3:=Z7z (ZS ks)
  simp only [Z9]
  split
  .simp only [Tree.nil,Zm,Zp,QS];omega
  .split
   .simp only [Zm];omega
   .simp only [Zm];omega
theorem Z8H:∀ (ks:List Tree),Zp (ZS ks)<=Zp ks
 | []=> by simp [ZS]
 | t ::r=> by
  have h1:=Z4w t
  have h2:=Z8H r
  simp only [ZS,Zp]
  omega
end
theorem Z5S:∀ (l:List Tree) (x:Tree),ZS (l++[x])=ZS l++[Z9 x]
 | [],x=> rfl
 | y ::r,x=> by simp only [QX,ZS,Z5S r x]
theorem Z0D:∀ (l:List Tree),(ZS l).length=l.length
 | []=> rfl
 | y ::r=> by simp only [ZS,Qc,Z0D r]
theorem Z1V{x:Tree}(hx:x.kind=0):∀ (l:List Tree),Yp (l++[x])=Yp l
 | []=> by simp [Yp,hx]
 | y ::r=> by
  show (match Yp (r++[x]) with | []=> if y.kind=0 then [] else [y] | z ::s=> y ::z ::s)=_
  rw [Z1V hx r]
  try rfl
theorem Z7y{x:Tree}(hx:x.kind≠0):∀ (l:List Tree),Yp (l++[x])=l++[x]
 | []=> by simp [Yp,hx]
 | y ::r=> by
  show (match Yp (r++[x]) with | []=> if y.kind=0 then [] else [y] | z ::s=> y ::z ::s)=_
  rw [Z7y hx r]
  cases r <;> rfl
theorem Z4e{l:List Tree}{i:Int}(h0:0<=i)(hi:i < l.length):l.take (i+1).toNat=l.take i.toNat++[l.getD i.toNat Tree.nil]:=by
 have e:(i+1).toNat=i.toNat+1:=by omega
 rw [e,List.take_add_one]
 simp only [List.getD,Q0 (show i.toNat < l.length by omega),Option.toList,Qu]
theorem c13:Contract Try.prog cfg 13 Z85:=by
 refine ZoH c33 ?_
 rintro N ⟨k,ws,ks⟩ _ hp hN
 have hlen:=JG ks
 simp only [Z6G,ZgA,Zm] at hp hN
 refine ZsE N _ _ ?_
 (simp only [vcS])
 (simp only [Tree.eta,Tree.kind_mk,Tree.words_mk,Tree.kids_mk])
 refine ⟨fun hc=> ?_,fun hc0=> ?_⟩
 .have e:Z9 (.mk k ws ks)=Tree.nil:=by simp [Z9,hc]
  simp only [Z9Y,e]
  exact ⟨⟨rfl,⟨⟨rfl,rfl⟩,⟨rfl,⟨rfl,trivial⟩⟩⟩,trivial⟩,trivial⟩
 .refine Zr (ι:=Int × Int × List Tree) (fun p=> Z1F (.mk k ws ks) p.1 p.2.1 p.2.2) (fun p=> 0<=p.2.1/\p.2.1<=ks.length/\0<=p.1/\p.1<=p.2.1/\p.2.2=ZS (ks.take p.2.1.toNat)/\Yp (ZS (ks.take p.2.1.toNat))=p.2.2.take p.1.toNat) (fun p=> ((ks.length:Int) - p.2.1).toNat) (0,0,[]) rfl ⟨by dsimp only;omega,by dsimp only;omega,by dsimp only;omega,by dsimp only;omega,rfl,rfl⟩ ?_
  rintro ⟨last,i,l⟩ ⟨h1,h2,h3,h4,h5,h6⟩
  dsimp only at*
  have hl:l.length=i.toNat:=by rw [h5,Z0D,Qd];omega
  refine Zl5 N _ _ _ _ _ _ ?_
  (simp only [vcS])
  (simp only [Tree.eta,Tree.kind_mk,Tree.words_mk,Tree.kids_mk])
  refine ⟨fun hc=> ?_,fun hc=> ⟨fun h1=> ⟨?_,by omega,?_⟩,fun hk=> ⟨?_,?_⟩⟩⟩
  .have hm:=Jc (ks:=ks) (i:=i.toNat) (by omega)
   have hnx:ZS (ks.take (i+1).toNat)=l++[Z9 (ks.getD i.toNat Tree.nil)]:=by rw [Z4e h1 hc,Z5S,h5]
   refine ⟨by omega,by simp only [Z6G];omega,by simp only [ZgA];omega,by simp only [Qc,QS];omega,fun hk=> ⟨by unfold InR;omega,by unfold InR;omega,(i+1,i+1,_),rfl,⟨by dsimp only;omega,by dsimp only;omega,by dsimp only;omega,by dsimp only;omega,hnx.symm,?_⟩,by dsimp only;omega⟩,fun hk=> ⟨by unfold InR;omega,(last,i+1,_),rfl,⟨by dsimp only;omega,by dsimp only;omega,by dsimp only;omega,by dsimp only;omega,hnx.symm,?_⟩,by dsimp only;omega⟩⟩
   .dsimp only
    rw [hnx,Z7y hk,Qt (by simp;omega)]
   .dsimp only
    rw [hnx,Z1V hk,List.take_append_of_le_length (by omega),<-h6,h5]
  .simp only [Zc9];omega
  .have hi:ks.take i.toNat=ks:=Qt (by omega)
   rw [hi] at h5 h6
   have e:Z9 (.mk k ws ks)= .mk 1 (trim ws) (l.take last.toNat):=by
    subst h1
    simp only [Z9,<-h6]
    try rfl
   simp only [Z9Y,e]
   exact ⟨⟨rfl,⟨⟨rfl,rfl⟩,⟨rfl,trivial⟩,⟨rfl,trivial⟩,trivial⟩,trivial⟩,trivial⟩
  .simp only [QS];omega
  .have hi:ks.take i.toNat=ks:=Qt (by omega)
   rw [hi] at h5
   have e:Z9 (.mk k ws ks)= .mk k ([]++ws) l:=by
    simp only [Z9,if_neg hc0,if_neg hk,h5]
    try rfl
   simp only [Z9Y,e]
   exact ⟨⟨rfl,⟨⟨rfl,rfl⟩,⟨rfl,trivial⟩,⟨rfl,trivial⟩,trivial⟩,trivial⟩,trivial⟩
mutual
theorem J8:∀ (t:Tree),0<=weight t/\weight t+1<=2*(Zm t:Int)
 | .mk k w ks=> by
  have h1:=Z1h ks
  have h2:=JG ks
  simp only [weight,Zm]
  split
  .omega
  .split
   .omega
   .split <;> omega
theorem Z1h:∀ (ks:List Tree),0<=Zl ks/\Zl ks+ks.length<=2*(Zp ks:Int)
 | []=> by simp [Zl,Zp]
 | t ::r=> by
  have h1:=J8 t
  have h2:=Z1h r
  simp only [Zl,Zp,Qc]
  omega
end
theorem ZaC{ks:List Tree}{i:Int}(h0:0<=i)(h:i < ks.length):Zl (ks.drop i.toNat)=weight (ks.getD i.toNat Tree.nil)+Zl (ks.drop (i+1).toNat):=by
 have e:(i+1).toNat=i.toNat+1:=by omega
 rw [QP (by omega),e]
 simp only [Zl,List.getD,Q0 (show i.toNat < ks.length by omega),Qu]
theorem Zfb{l:List Int}(h0:0 < (l.length:Int)):l=l.take ((l.length:Int) - 1).toNat++[l.getD ((l.length:Int) - 1).toNat 0]:=by
 have:=Z5E h0 (QE _)
 rw [Qt (by omega)] at this
 exact this
theorem Zcp{l:List Tree}(h0:0 < (l.length:Int)):l=l.take ((l.length:Int) - 1).toNat++[l.getD ((l.length:Int) - 1).toNat Tree.nil]:=by
 have:=Z4e (l:=l) (i:=(l.length:Int) - 1) (by omega) (by omega)
 rw [Qt (by omega)] at this
 exact this
theorem Zg0{l:List Int}(h0:0 < (l.length:Int))(hz:l.getD ((l.length:Int) - 1).toNat 0=0):trim (l.take ((l.length:Int) - 1).toNat)=trim l:=by
 have e:=Z5C (l.take ((l.length:Int) - 1).toNat)
 have h:=Zfb h0
 rw [hz] at h
 rw [<-h] at e
 exact e.symm
theorem Zg2{l:List Int}(h:¬0 < (l.length:Int)\/¬l.getD ((l.length:Int) - 1).toNat 0=0):trim l=l:=by
 by_cases h0:0 < (l.length:Int)
 .have e:=ZaF (x:=l.getD ((l.length:Int) - 1).toNat 0) (by rcases h with h | h;exact absurd h0 h;exact h) (l.take ((l.length:Int) - 1).toNat)
  rw [<-Zfb h0] at e
  exact e
 .have:l=[]:=Q6 (by omega)
  subst this
  try rfl
theorem Zd3{l:List Tree}(h0:0 < (l.length:Int))(hz:(l.getD ((l.length:Int) - 1).toNat Tree.nil).kind=0):Yp (l.take ((l.length:Int) - 1).toNat)=Yp l:=by
 have e:=Z1V hz (l.take ((l.length:Int) - 1).toNat)
 rw [<-Zcp h0] at e
 exact e.symm
theorem Zd6{l:List Tree}(h:¬0 < (l.length:Int)\/¬(l.getD ((l.length:Int) - 1).toNat Tree.nil).kind=0):Yp l=l:=by
 by_cases h0:0 < (l.length:Int)
 .have e:=Z7y (x:=l.getD ((l.length:Int) - 1).toNat Tree.nil) (by rcases h with h | h;exact absurd h0 h;exact h) (l.take ((l.length:Int) - 1).toNat)
  rw [<-Zcp h0] at e
  exact e
 .have:l=[]:=Q6 (by omega)
  subst this
  try rfl
theorem c24:Contract Try.prog cfg 24 Z85:=by
 refine Zox c37 ?_
 rintro N ⟨k,ws,ks⟩ _ hp hN
 have hlen:=JG ks
 simp only [Z6G,ZgA,Zm] at hp hN
 refine Zst N _ _ ?_
 (simp only [vcS])
 (simp only [Tree.eta,Tree.kind_mk,Tree.words_mk,Tree.kids_mk])
 refine ⟨fun hc=> ?_,fun hc0=> ⟨by simp only [Z8t];omega,?_⟩⟩
 .have e:Z9 (.mk k ws ks)=Tree.nil:=by simp [Z9,hc]
  simp only [Z9Y,e]
  exact ⟨⟨rfl,⟨⟨rfl,rfl⟩,⟨rfl,⟨rfl,trivial⟩⟩⟩,trivial⟩,trivial⟩
 .refine Zr (ι:=Int × List Tree) (fun p=> Z3k (.mk k ws ks) p.1 p.2) (fun p=> 0<=p.1/\p.1<=ks.length/\p.2=ZS (ks.take p.1.toNat)) (fun p=> ((ks.length:Int) - p.1).toNat) (0,[]) rfl ⟨by dsimp only;omega,by dsimp only;omega,rfl⟩ ?_
  rintro ⟨i,l⟩ ⟨h1,h2,h5⟩
  dsimp only at*
  have hl:l.length=i.toNat:=by rw [h5,Z0D,Qd];omega
  refine ZkY N _ _ _ _ _ ?_
  (simp only [vcS])
  (simp only [Tree.eta,Tree.kind_mk,Tree.words_mk,Tree.kids_mk])
  refine ⟨fun hc=> ?_,fun hc=> ⟨fun hk=> ?_,fun hk=> ?_⟩⟩
  .have hm:=Jc (ks:=ks) (i:=i.toNat) (by omega)
   have hnx:ZS (ks.take (i+1).toNat)=l++[Z9 (ks.getD i.toNat Tree.nil)]:=by rw [Z4e h1 hc,Z5S,h5]
   exact ⟨by omega,by simp only [Z6G];omega,by simp only [ZgA];omega,by simp only [Qc,QS];omega,by unfold InR;omega,(i+1,_),rfl,⟨by dsimp only;omega,by dsimp only;omega,hnx.symm⟩,by dsimp only;omega⟩
  .have hi:ks.take i.toNat=ks:=Qt (by omega)
   rw [hi] at h5
   refine Zr (ι:=List Int) (fun p=> Z3j (.mk k ws ks) l p) (fun p=> p.length<=ws.length/\trim p=trim ws) (fun p=> p.length) ws rfl ⟨by omega,rfl⟩ ?_
   rintro w ⟨h6,h7⟩
   refine ZkX N _ _ _ _ _ ?_
   (simp only [vcS])
   refine ⟨id,id,id,id,fun h=> by unfold InR;omega,id,id,fun h=> by omega,id,id,id,fun hc=> ⟨by unfold InR;omega,by omega,_,rfl,⟨by rw [List.length_take];omega,?_⟩,by rw [List.length_take];omega⟩,fun hc=> ?_⟩
   .rw [Zg0 hc.1 hc.2,h7]
   .have hw:w=trim ws:=by rw [<-h7,Zg2 hc]
    refine Zr (ι:=List Tree) (fun p=> Z3i (.mk k ws ks) w p) (fun p=> p.length<=l.length/\Yp p=Yp l) (fun p=> p.length) l rfl ⟨by omega,rfl⟩ ?_
    rintro q ⟨h8,h9⟩
    refine ZkW N _ _ _ _ _ ?_
    (simp only [vcS])
    refine ⟨id,id,id,id,fun h=> by unfold InR;omega,id,id,fun h=> by omega,id,id,id,id,fun hc=> ⟨by unfold InR;omega,by omega,_,rfl,⟨by rw [List.length_take];omega,?_⟩,by rw [List.length_take];omega⟩,fun hc=> ?_⟩
    .rw [Zd3 hc.1 hc.2,h9]
    .have hq:q=Yp (ZS ks):=by rw [<-h5,<-h9,Zd6 hc]
     have e:Z9 (.mk k ws ks)= .mk k w q:=by
      subst hk
      simp only [Z9,hw,hq]
      try rfl
     simp only [Z9Y,e]
     exact ⟨⟨rfl,⟨⟨rfl,rfl⟩,⟨rfl,trivial⟩,⟨rfl,trivial⟩,trivial⟩,trivial⟩,trivial⟩
  .have hi:ks.take i.toNat=ks:=Qt (by omega)
   rw [hi] at h5
   have e:Z9 (.mk k ws ks)= .mk k ws l:=by simp only [Z9,if_neg hc0,if_neg hk,h5]
   simp only [Z9Y,e]
   exact ⟨⟨rfl,⟨⟨rfl,rfl⟩,⟨rfl,trivial⟩,⟨rfl,trivial⟩,trivial⟩,trivial⟩,trivial⟩
end Go.AM.Ytcljdbpmjdgooaa
namespace Go.AM.Ytcljdbpmjdgooaa
open Go.AM
mutual
theorem Z6S:∀ (t:Tree) (d:Int),Z5 t d=true->(Zm t:Int)<=2*weight t+(if t.kind=0 then 1 else 0)
 | .mk k w ks,d,h=> by
  rw [Z5] at h
  show (Zm (.mk k w ks):Int)<=_+(if k=0 then 1 else 0)
  rw [Zm,weight]
  split at h
  .rename_i hk
   have:=of_decide_eq_true h
   rw [if_pos hk,if_pos hk,this.1,Qk.1 this.2,Zp]
   omega
  .rename_i hk
   rw [if_neg hk,if_neg hk]
   split at h
   .rename_i hk
    have:=of_decide_eq_true h
    rw [if_neg (by omega),if_neg (by omega),this.1,Qk.1 this.2,Zp,Zl]
    omega
   .split at h
    .cases h
    .split at h
     .rename_i h1
      have h':=(Q3 _ _▸h)
      have:=Z28 1 ks (d - 1) h'.2
      rw [if_pos h1]
      rw [if_neg (by omega)] at this
      omega
     .rename_i h1
      have h':=(Q3 _ _▸h)
      have:=Z28 k ks (d - 1) h'.2
      have hw:=of_decide_eq_true h'.1
      rw [if_neg h1]
      split
      .rename_i h8
       rw [if_neg (by omega)] at this
       omega
      .rename_i h8
       rw [if_pos (by omega)] at this
       omega
theorem Z28(i:Int):∀ (ks:List Tree) (d:Int),Yh i ks d=true->(Zp ks:Int)<=2*Zl ks+(if 2<=i/\i<=7\/i=9 then 0 else (ks.length:Int))
 | [],_,_=> by rw [Zp,Zl];split <;> simp
 | t ::r,d,h=> by
  rw [Yh] at h
  have h':=(Q3 _ _▸h)
  have h3:=(Q3 _ _▸h'.1)
  have h4:=Z6S t d h3.2
  have h5:=Z28 i r d h'.2
  rw [Zp,Zl,Qc]
  split
  .rename_i hi
   rw [if_pos hi] at h5
   have hk:t.kind≠0:=by
    intro e
    have:=h3.1
    unfold Jm at this
    split at this
    .have:=(of_decide_eq_true (Q3 _ _▸this).1);omega
    .rw [if_pos (by omega)] at this
     have:=of_decide_eq_true this;omega
   rw [if_neg hk] at h4
   omega
  .rename_i hi
   rw [if_neg hi] at h5
   split at h4 <;> omega
end
theorem Z1T{l:List (List Int)}(hl:YK l){x:XRef}(hx:OkX l x):(∀ y∈ZF l x,0<=y/\y < 18446744073709551616)/\((ZF l x).length:Int)=(if x.kind=10 then 1 else if x.kind=1 then x.data else 0):=by
 unfold ZF
 split
 .refine ⟨fun y hy=> ?_,rfl⟩
  rw [Qy.1 hy];exact hx.n
 .split
  .rename_i h1
   refine ⟨fun y hy=> (Yr hl x.s).2 y (XD (XX hy)),?_⟩
   have:=Z3.1 (hx.one h1)
   have:=hx.data
   have:=hx.ptrs
   have:=hx.at_
   rw [Qd,Xq]
   omega
  .exact ⟨fun y hy=> (by cases hy),rfl⟩
theorem ZgN{l:List Int}(h:∀ x∈l,0<=x/\x < 18446744073709551616)(c i:Int)(hc:0<=c/\c<=5):Z1L c (Jn l c i)=true:=by
 have hw:0<=wd c:=by
  unfold wd;repeat' split
  all_goals omega
 refine decide_eq_true ⟨hw,?_⟩
 unfold Jn
 split
 .exact Kf (by decide)
 .exact Xk _ (Kf (by decide))
theorem Z60 {f:Int->Int->Tree × Int × Int} {P:Tree->Prop} {N c:Int}
  (hf:∀ i left,0<=i->i < N->0<=left->left<=65536->(f i left).2.2=0->P (f i left).1/\0<=(f i left).2.1/\(f i left).2.1<=left/\weight (f i left).1=left - (f i left).2.1+c):
  ∀ (n:Nat) (i left:Int) (acc:List Tree),0<=i->i+n<=N->0<=left->left<=65536->(ZZ f n i left acc).2.2=0->
   ∃ ks,(ZZ f n i left acc).1=acc++ks/\ks.length=n/\(∀ k∈ks,P k)/\0<=(ZZ f n i left acc).2.1/\(ZZ f n i left acc).2.1<=left/\Zl ks=left - (ZZ f n i left acc).2.1+n*c
 | 0,i,left,acc,_,_,h0,_,_=> ⟨[],by simp [ZZ,Zl];exact h0⟩
 | n+1,i,left,acc,hi,hn,h0,h9,he=> by
  simp only [ZZ] at he ⊢
  by_cases h1:(f i left).2.2=0
  .rw [if_pos h1] at he ⊢
   obtain ⟨p1,p2,p4,p3⟩:=hf i left hi (by omega) h0 h9 h1
   obtain ⟨ks,q1,q2,q3,q4,q6,q5⟩:=Z60 hf n (i+1) (f i left).2.1 (acc++[(f i left).1]) (by omega) (by omega) p2 (by omega) he
   refine ⟨(f i left).1 ::ks,by rw [q1];simp,by simp [q2],?_,q4,by omega,?_⟩
   .intro k hk
    rcases QH.1 hk with rfl | hk
    .exact p1
    .exact q3 k hk
   .rw [Zl,q5,p3]
    rw [Xw,Xn]
    omega
  .rw [if_neg h1] at he
   exact absurd he h1
theorem Z5L{i:Int}{d:Int}:∀ {ks:List Tree},(∀ k∈ks,Jm i k=true/\Z5 k d=true)->Yh i ks d=true
 | [],_=> by rw [Yh]
 | t ::r,h=> by
  rw [Yh,(h t (Q9 ..)).1,(h t (Q9 ..)).2,Z5L (ks:=r) fun k hk=> h k (Q7 _ hk)]
  try rfl
theorem ZaN:∀ {ks:List Tree},(∀ k∈ks,rng k)->Z1Y ks
 | [],_=> trivial
 | t ::r,h=> ⟨h t (Q9 ..),ZaN (ks:=r) fun k hk=> h k (Q7 _ hk)⟩
def ZcX(l:List (List Int))(m:XRef->Int->Tree × Int × Int)(d:Int):Prop:=
 ∀ x left,OkX l x->0<=left->left<=65536->(m x left).2.2=0->
  (m x left).1.kind=x.kind/\Z5 (m x left).1 d=true/\rng (m x left).1/\0<=(m x left).2.1/\weight (m x left).1=left - (m x left).2.1
theorem Zap{l:List (List Int)}(hl:YK l)(s a:Int):(Zo l s a).1.kind≠10:=by
 have hp:=(Z23 hl s a).p
 have hk:=(Z23 hl s a).kind
 have hc:=hp.code
 unfold Zo
 split
 .simp [xz]
 .split
  .simp
  .split
   .show 2+_≠_;omega
   .unfold Z0r
    split <;> simp [xz]
theorem Zfr{l:List (List Int)}(hl:YK l){x:XRef}{i k:Int}(hk:x.kind=1\/x.kind=8)(h1:¬(2<=k/\k<=7))(h9:k≠9){t:Tree}(ht:t.kind=(Zk l x i).1.kind):Jm k t=true:=by
 unfold Jm
 rw [if_neg h1,if_neg h9]
 refine decide_eq_true ?_
 rw [ht]
 unfold Zk
 split
 .simp [xz]
 .rcases hk with e | e
  .rw [if_pos e];exact Zap hl _ _
  .rw [if_neg (by omega),if_pos e];exact Zap hl _ _
theorem ZdX{l:List (List Int)}(hl:YK l){m:XRef->Int->Tree × Int × Int}{d:Int}(hd:0<=d)(hm:ZcX l m d){x:XRef}(hx:OkX l x)(h1:x.kind=1)(left:Int)(h0:0<=left)(h9:left<=65536)(he:(Js l m x left).2.2=0):
  (Js l m x left).1.kind=1/\Z5 (Js l m x left).1 (d+1)=true/\rng (Js l m x left).1/\0<=(Js l m x left).2.1/\(Js l m x left).2.1<=left/\weight (Js l m x left).1=left - (Js l m x left).2.1+(1+x.data+x.ptrs):=by
 have hw:=Z1T hl hx
 rw [if_neg (by omega),if_pos h1] at hw
 have hdt:=hx.data
 have hpt:=hx.ptrs
 unfold Js at he ⊢
 obtain ⟨ks,q1,q2,q3,q4,q6,q5⟩:=Z60 (P:=fun k=> (Jm 1 k=true/\Z5 k d=true)/\rng k) (N:=x.ptrs) (c:=0) (f:=fun j left=> if (Zk l x j).2=0 then m (Zk l x j).1 left else (Tree.nil,left,(Zk l x j).2)) (by
  intro i left hi hn h0 h9 he
  by_cases h2:(Zk l x i).2=0
  .simp only [h2,if_true] at he ⊢
   obtain ⟨g1,g2,g3,g4,g5⟩:=hm _ _ (Ja hl hx i) h0 h9 he
   have:=(J8 (m (Zk l x i).1 left).1).1
   exact ⟨⟨⟨Zfr hl (.inl h1) (by omega) (by omega) g1,g2⟩,g3⟩,g4,by omega,by rw [g5,K1]⟩
  .simp only [h2,if_false] at he) x.ptrs.toNat 0 left [] (by omega) (by omega) h0 h9 he
 dsimp only at q1 q4 q5 q6 ⊢
 rw [q1,X5]
 refine ⟨rfl,?_,?_,q4,q6,?_⟩
 .rw [Z5,if_neg (by omega),if_neg (by omega),if_neg (by omega),if_pos rfl,show d+1 - 1=d by omega,Z5L fun k hk=> (q3 k hk).1]
  refine (Q3 _ _).symm▸⟨decide_eq_true ⟨by omega,by omega⟩,rfl⟩
 .exact ⟨⟨by omega,by omega⟩,hw.1,ZaN fun k hk=> (q3 k hk).2⟩
 .rw [weight,if_neg (by omega),if_pos rfl,q5]
  omega
theorem Z4f{l:List (List Int)}(hl:YK l){d:Nat}{m m':XRef->Int->Tree × Int × Int}(hm:1<=d->ZcX l m ((d:Int) - 1))(hm':2<=d->ZcX l m' ((d:Int) - 2)):ZcX l (YR l d m m') d:=by
 intro x left hx h0 h9 he
 have hw:=Z1T hl hx
 have hdt:=hx.data
 have hpt:=hx.ptrs
 have hk:=hx.kind
 have hc:=hx.count
 unfold YR at he ⊢
 by_cases hk0:x.kind=0
 .rw [if_neg (by omega),if_neg (by omega)] at hw
  have e:ZF l x=[]:=Qk.1 (by omega)
  rw [if_pos hk0,e]
  refine ⟨hk0.symm,?_,?_,h0,?_⟩
  .rw [Z5,if_pos rfl];try rfl
  .exact ⟨⟨by omega,by omega⟩,fun y hy=> (by cases hy),trivial⟩
  .show weight ⟨0,[],[]⟩=left - left
   rw [weight,if_pos rfl];omega
 .rw [if_neg hk0] at he ⊢
  by_cases hq:d=0\/(x.kind=9/\0 < x.count/\d < 2)\/left < ZV x
  .rw [if_pos hq] at he;cases he
  .rw [if_neg hq] at he ⊢
   have hown:=Z56 hx
   have hkx:=Z8P hx
   have key:∃ c:Int,ZV x=1+(if x.kind=1 then x.data+ZH x else if x.kind=8 then ZH x else 0)+ZH x*c/\
     ∀ i left,0<=i->i < ZH x->0<=left->left<=65536->(Ym l m m' x i left).2.2=0->
      ((Jm x.kind (Ym l m m' x i left).1=true/\Z5 (Ym l m m' x i left).1 ((d:Int) - 1)=true)/\rng (Ym l m m' x i left).1)/\0<=(Ym l m m' x i left).2.1/\(Ym l m m' x i left).2.1<=left/\
      weight (Ym l m m' x i left).1=left - (Ym l m m' x i left).2.1+c:=by
    by_cases h18:x.kind=1\/x.kind=8
    .refine ⟨0,?_,?_⟩
     .unfold ZV ZH
      rcases h18 with e | e
      .rw [if_pos e,if_pos e,if_pos e];omega
      .rw [if_neg (by omega),if_neg (by omega),if_neg (by omega),if_pos e,if_neg (by omega)];omega
     .intro i left hi hn h0 h9 he
      unfold Ym at he ⊢
      by_cases h2:(Zk l x i).2=0
      .rw [if_pos h2,if_neg (by omega),if_pos h18] at he ⊢
       obtain ⟨g1,g2,g3,g4,g5⟩:=hm (by omega) _ _ (Ja hl hx i) h0 h9 he
       have:=(J8 (m (Zk l x i).1 left).1).1
       exact ⟨⟨⟨Zfr hl h18 (by omega) (by omega) g1,g2⟩,g3⟩,g4,by omega,by rw [g5,K1]⟩
      .rw [if_neg h2] at he;exact absurd he h2
    .by_cases h99:x.kind=9
     .refine ⟨1+x.data+x.ptrs,?_,?_⟩
      .unfold ZV ZH
       rw [if_neg (by omega),if_pos h99,if_neg (by omega),if_neg (by omega),if_neg (by omega)];omega
      .intro i left hi hn h0 h9 he
       have e:ZH x=x.count:=by unfold ZH;rw [if_neg (by omega)]
       have ek:Zk l x i=(⟨1,x.s,x.at_+i*(x.data+x.ptrs),x.data,x.ptrs,0,0⟩,0):=by
        unfold Zk;rw [if_neg (by omega),if_neg (by omega),if_neg (by omega),if_pos h99]
       have hkk:=Ja hl hx i
       unfold Ym at he ⊢
       rw [ek] at he hkk ⊢
       rw [if_pos rfl,if_pos h99] at he ⊢
       obtain ⟨g1,g2,g3,g4,g6,g5⟩:=ZdX hl (d:=(d:Int) - 2) (by omega) (hm' (by omega)) hkk rfl left h0 h9 he
       refine ⟨⟨⟨?_,by rw [show (d:Int) - 1=d - 2+1 by omega];exact g2⟩,g3⟩,g4,g6,g5⟩
       unfold Jm
       rw [if_neg (by omega),if_pos h99]
       exact decide_eq_true g1
     .refine ⟨1,?_,?_⟩
      .unfold ZV ZH
       rw [if_neg (by omega),if_neg h99,if_neg (by omega),if_neg (by omega),if_neg (by omega)];omega
      .intro i left hi hn h0 h9 he
       have e:ZH x=x.count:=by unfold ZH;rw [if_neg (by omega)]
       have hz:=hx.zero
       have ek:Zk l x i=(⟨10,0,0,0,0,0,Jn ((Zh l x.s).drop x.at_.toNat) (x.kind - 2) i⟩,0):=by
        unfold Zk;rw [if_neg (by omega),if_neg (by omega),if_neg (by omega),if_neg (by omega)]
       have hkk:=Ja hl hx i
       rw [ek] at hkk
       have em:Ym l m m' x i left=(⟨10,[Jn ((Zh l x.s).drop x.at_.toNat) (x.kind - 2) i],[]⟩,left,0):=by
        unfold Ym
        rw [ek,if_pos rfl,if_neg h99,if_neg h18]
        try rfl
       rw [em]
       refine ⟨⟨⟨?_,?_⟩,⟨by omega,by omega⟩,?_,trivial⟩,h0,QE _,?_⟩
       .unfold Jm
        rw [if_pos (by omega)]
        refine (Q3 _ _).symm▸⟨decide_eq_true ⟨rfl,rfl,rfl⟩,?_⟩
        exact ZgN (fun y hy=> (Yr hl x.s).2 y (XD hy)) _ _ (by omega)
       .rw [Z5,if_neg (by omega),if_pos rfl];try rfl
       .exact (Z1T hl hkk).1
       .show weight ⟨10,_,[]⟩=left - left+1
        rw [weight,if_neg (by omega),if_neg (by omega),if_neg (by omega),Zl];omega
   obtain ⟨c,hc1,hc2⟩:=key
   obtain ⟨ks,q1,q2,q3,q4,q6,q5⟩:=Z60 (P:=fun k=> (Jm x.kind k=true/\Z5 k ((d:Int) - 1)=true)/\rng k) (N:=ZH x) hc2 (ZH x).toNat 0 (left - ZV x) [] (by omega) (by omega) (by omega) (by omega) he
   dsimp only
   rw [q1,X5]
   rw [XJ hkx.1] at q5
   have q2':(ks.length:Int)=ZH x:=by rw [q2,XJ hkx.1]
   refine ⟨rfl,?_,⟨⟨by omega,by omega⟩,hw.1,ZaN fun k hk=> (q3 k hk).2⟩,q4,?_⟩
   .rw [Z5,if_neg hk0]
    split
    .rename_i h10
     rw [if_pos h10] at hw
     have:=hx.zero (.inr h10)
     have e:ZH x=0:=by unfold ZH;rw [if_neg (by omega)];exact this
     exact decide_eq_true ⟨by omega,by omega⟩
    .rename_i h10
     rw [if_neg h10] at hw
     rw [if_neg (by omega)]
     have hr:=Z5L fun k hk=> (q3 k hk).1
     split
     .rename_i h1
      rw [if_pos h1] at hw
      rw [h1] at hr
      rw [hr]
      have e:ZH x=x.ptrs:=by unfold ZH;rw [if_pos h1]
      exact (Q3 _ _).symm▸⟨decide_eq_true ⟨by omega,by omega⟩,rfl⟩
     .rename_i h1
      rw [if_neg h1] at hw
      rw [hr]
      exact (Q3 _ _).symm▸⟨decide_eq_true ⟨by omega,by omega,by omega,by omega⟩,rfl⟩
   .rw [weight,if_neg hk0,q5,q2',hc1]
    split
    .rename_i h1
     rw [if_neg (by omega),if_pos h1] at hw
     omega
    .omega
theorem ZgD{l:List (List Int)}(hl:YK l):∀ d:Nat,ZcX l (Zs l d) d:=by
 intro d
 induction d using Nat.strongRecOn with
 | ind d ih=>
  match d with
  | 0=> exact Z4f hl (fun h=> absurd h (by decide)) (fun h=> absurd h (by decide))
  | 1=> exact Z4f hl (fun _=> ih 0 (by omega)) (fun h=> absurd h (by decide))
  | d+2=>
   refine Z4f hl (fun _=> ?_) (fun _=> ?_)
   .have:=ih (d+1) (by omega)
    rw [show ((d+2:Nat):Int) - 1=((d+1:Nat):Int) by omega]
    exact this
   .have:=ih d (by omega)
    rw [show ((d+2:Nat):Int) - 2=((d:Nat):Int) by omega]
    exact this
end Go.AM.Ytcljdbpmjdgooaa
namespace Go.AM.Ytcljdbpmjdgooaa
open Go.AM Go.Proofs
def frW:List Tree->Nat
 | []=> 0
 | t ::r=> max t.words.length (frW r)
def frK:List Tree->Nat
 | []=> 0
 | t ::r=> max t.kids.length (frK r)
mutual
def JZ:Tree->Nat
 | .mk k w ks=>
  if k=1 then w.length+ks.length+YZ ks
  else if k=8 then ks.length+YZ ks
  else if k=9 then 1+ks.length*(frW ks+frK ks)+Z2m ks
  else if 2<=k/\k<=7 then (YI (k - 2) ks.length).toNat
  else YZ ks
def YZ:List Tree->Nat
 | []=> 0
 | t ::r=> JZ t+YZ r
def Z2m:List Tree->Nat
 | []=> 0
 | .mk _ _ ks ::r=> YZ ks+Z2m r
end
def Z7d(a to kind up:Int):Int:=4*((to - a - 1) % 1073741824)+kind+4294967296*up
def Zcu(a to:Int):Tree->Int
 | .mk k w ks=>
  if k=0 then 0
  else if k=1 then Z7d a (if w.length+ks.length=0 then a else to) 0 (w.length+65536*ks.length)
  else if k=8 then Z7d a to 1 (6+8*ks.length)
  else if k=9 then Z7d a to 1 (7+8*(ks.length*(frW ks+frK ks):Nat))
  else Z7d a to 1 (k - 2+8*ks.length)
def Z5G(n fw fk:Nat):Int:=4*n+4294967296*(fw+65536*fk)
def ZO(ks:List Tree):List Int:=ks.map fun t=> t.words.getD 0 0
mutual
def Zbn:Tree->Int->List Int
 | .mk k w ks,to=>
  if k=0 then []
  else if k=1 then w++((Z0o ks (to+w.length) (to+w.length+ks.length)).1++(Z0o ks (to+w.length) (to+w.length+ks.length)).2)
  else if k=8 then (Z0o ks to (to+ks.length)).1++(Z0o ks to (to+ks.length)).2
  else if k=9 then Z5G ks.length (frW ks) (frK ks) ::((Z43 (frW ks) (frK ks) ks (to+1) (to+1+(ks.length*(frW ks+frK ks):Nat))).1++(Z43 (frW ks) (frK ks) ks (to+1) (to+1+(ks.length*(frW ks+frK ks):Nat))).2)
  else JX (k - 2) (ZO ks)
def Z0o:List Tree->Int->Int->List Int × List Int
 | [],_,_=> ([],[])
 | t ::r,a,to=> (Zcu a to t ::(Z0o r (a+1) (to+(Zbn t to).length)).1,Zbn t to++(Z0o r (a+1) (to+(Zbn t to).length)).2)
def Z43(fw fk:Nat):List Tree->Int->Int->List Int × List Int
 | [],_,_=> ([],[])
 | .mk _ w ks ::r,a,to=>
  (w++(List.replicate (fw - w.length) 0++((Z0o ks (a+fw) to).1++(List.replicate (fk - ks.length) 0++(Z43 fw fk r (a+(fw+fk)) (to+(Z0o ks (a+fw) to).2.length)).1))),
   (Z0o ks (a+fw) to).2++(Z43 fw fk r (a+(fw+fk)) (to+(Z0o ks (a+fw) to).2.length)).2)
end
def ZgG(l:List Int)(a:Int)(t:Tree):List Int:=if t.kind=0 then l else l.set a.toNat (Zcu a l.length t)++Zbn t l.length
def ZcG(t:Tree)(most:Int):List Int × Bool:=
 if Z5 t 64=true/\t.kind≠10 then
  if (JZ (Z9 t):Int) < most/\JZ (Z9 t) < 131072 then (ZgG [0] 0 (Z9 t),true) else ([],false)
 else ([],false)
def Y6(size most:Int):Arena:=⟨[],max size 1,min (max most 0) 131072,0⟩
def Z01(a:Arena)(s n:Int):Arena:=⟨a.segs.set s.toNat (Zh a.segs s++List.replicate n.toNat 0),a.size,a.most,a.used+n⟩
def Z2n(a:Arena)(s n:Int):Bool:=decide (n<=a.size - ((Zh a.segs s).length:Int))
def Z0W(a:Arena)(s n:Int):Bool:=decide (0<=s/\s < (a.segs.length:Int)/\0<=n/\n<=a.most - a.used) && Z2n a s n
def inA(a:Arena)(s n:Int):Arena:=if Z0W a s n then Z01 a s n else a
def Z4(a:Arena)(n:Int):Bool:=decide (0<=n/\n<=a.most - a.used)
def Yz(a:Arena)(n:Int):Arena:=if a.segs.length=0\/(Z2n a ((a.segs.length:Int) - 1) n=false/\a.segs.length < 16) then ⟨a.segs++[[]],a.size,a.most,a.used⟩ else a
def giveS(a:Arena)(n:Int):Int:=((Yz a n).segs.length:Int) - 1
def giveT(a:Arena)(n:Int):Int:=((Zh (Yz a n).segs (giveS a n)).length:Int)
def Zd(a:Arena)(n:Int):Arena:=if Z4 a n then Z01 (Yz a n) (giveS a n) n else a
def ZW(a:Arena)(s at_ w:Int):Arena:=if Zc a.segs s at_ 1 then ⟨a.segs.set s.toNat ((Zh a.segs s).set at_.toNat w),a.size,a.most,a.used⟩ else a
structure OkAr (a:Arena):Prop where
 used:0<=a.used/\a.used<=a.most/\a.most<=131072
 size:1<=a.size/\a.size < 9223372036854775808
 few:a.segs.length<=16
 segs:∀ l∈a.segs,(l.length:Int)<=a.used/\∀ x∈l,0<=x/\x < 18446744073709551616
def arO:Option Arena->Arena
 | none=> Y6 1 0
 | some y=> y
theorem Z3M:∀ (ks:List Tree) (a to:Int),(Z0o ks a to).1.length=ks.length
 | [],_,_=> by rw [Z0o];try rfl
 | t ::r,a,to=> by rw [Z0o,Qc,Qc,Z3M r]
theorem Zg4{ks:List Tree}{i:Nat}(h:i < ks.length):ks.take (i+1)=ks.take i++[ks.getD i Tree.nil]:=by
 rw [Q2,Q0 h,Qu]
 exact (Xp h).symm
theorem Z9P{fw fk:Nat}:∀ (ks:List Tree) (a to:Int),(∀ t∈ks,t.words.length<=fw/\t.kids.length<=fk)->(Z43 fw fk ks a to).1.length=ks.length*(fw+fk)
 | [],_,_,_=> by rw [Z43];simp
 | .mk k w l ::r,a,to,h=> by
  have h1:w.length<=fw/\l.length<=fk:=h _ Q9
  rw [Z43]
  simp only [Qb,Qv,Z3M,Qc]
  rw [Z9P r _ _ fun t ht=> h t (Q7 _ ht),Qr]
  omega
theorem Z4C:∀ {ks:List Tree} {t:Tree},t∈ks->t.words.length<=frW ks/\t.kids.length<=frK ks
 | k ::r,t,h=> by
  rw [frW,frK]
  rcases QH.1 h with rfl | h
  .omega
  .have:=Z4C h;omega
theorem Z1Z{i:Int}:∀ {ks:List Tree} {d:Int} {t:Tree},Yh i ks d=true->t∈ks->Jm i t=true/\Z5 t d=true
 | k ::r,d,t,h,ht=> by
  rw [Yh,Q3,Q3] at h
  rcases QH.1 ht with rfl | ht
  .exact h.1
  .exact Z1Z h.2 ht
structure RiT (k:Int) (w:List Int) (ks:List Tree) (d:Int):Prop where
 kind:0<=k/\k<=10
 nil:k=0->w=[]/\ks=[]
 atom:k=10->w.length=1/\ks=[]
 stru:k=1->w.length < 65536/\ks.length < 65536
 list:k≠1->k≠10->w=[]
 len:ks.length < 1048576
 kids:∀ t∈ks,Z5 t (d - 1)=true/\(k≠1->Jm k t=true)/\(k=1\/k=8->t.kind≠10)/\(k=9->t.kind=1)
 data:2<=k->k<=7->Ju (k - 2) (ZO ks)=true/\∀ t∈ks,t.kind=10/\t.kids.length=0/\t.words.length=1
theorem riT{k:Int}{w:List Int}{ks:List Tree}{d:Int}(h:Z5 (.mk k w ks) d=true):RiT k w ks d:=by
 rw [Z5] at h
 split at h
 .rename_i h0
  have:=of_decide_eq_true h
  have h1:=Qk.1 this.1
  have h2:=Qk.1 this.2
  subst h1 h2
  exact ⟨by omega,fun _=> ⟨rfl,rfl⟩,by omega,by omega,fun _ _=> rfl,by simp,fun t ht=> (by cases ht),by omega⟩
 .split at h
  .have:=of_decide_eq_true h
   have h2:=Qk.1 this.2
   subst h2
   exact ⟨by omega,by omega,fun _=> ⟨this.1,rfl⟩,by omega,by omega,by simp,fun t ht=> (by cases ht),by omega⟩
  .split at h
   .cases h
   .split at h
    .rename_i h1
     rw [Q3] at h
     have hw:=of_decide_eq_true h.1
     refine ⟨by omega,by omega,by omega,fun _=> hw,by omega,by omega,fun t ht=> ?_,by omega⟩
     have:=Z1Z h.2 ht
     refine ⟨this.2,by omega,fun _=> ?_,by omega⟩
     have hb:=this.1
     unfold Jm at hb
     rw [if_neg (by omega),if_neg (by omega)] at hb
     exact of_decide_eq_true hb
    .rename_i h1
     rw [Q3] at h
     have hw:=of_decide_eq_true h.1
     refine ⟨by omega,by omega,by omega,by omega,fun _ _=> Qk.1 hw.2.2.1,by omega,fun t ht=> ?_,fun h2 h7=> ?_⟩
     .have:=Z1Z h.2 ht
      refine ⟨this.2,fun _=> this.1,fun h8=> ?_,fun h9=> ?_⟩
      .have hb:=this.1
       unfold Jm at hb
       rw [if_neg (by omega),if_neg (by omega)] at hb
       exact of_decide_eq_true hb
      .have hb:=this.1
       unfold Jm at hb
       rw [if_neg (by omega),if_pos h9] at hb
       exact of_decide_eq_true hb
     .have hk:∀ t∈ks,(t.kind=10/\t.kids.length=0/\t.words.length=1)/\Z1L (k - 2) (t.words.getD 0 0)=true:=fun t ht=> by
       have hb:=(Z1Z h.2 ht).1
       unfold Jm at hb
       rw [if_pos ⟨h2,h7⟩,Q3] at hb
       exact ⟨of_decide_eq_true hb.1,hb.2⟩
      refine ⟨?_,fun t ht=> (hk t ht).1⟩
      unfold Ju
      rw [Q3]
      refine ⟨decide_eq_true ?_,Qg.2 fun x hx=> ?_⟩
      .unfold wd;repeat' split
       all_goals omega
      .obtain ⟨t,ht,rfl⟩:=Xi.1 hx
       exact (hk t ht).2
mutual
theorem ZcO:∀ (t:Tree) (d to:Int),Z5 t d=true->t.kind≠10->(Zbn t to).length=JZ t
 | .mk k w ks,d,to,h,h10=> by
  have hr:=riT h
  have h10:k≠10:=h10
  rw [Zbn,JZ]
  split
  .rename_i h0
   subst h0
   rw [if_neg (by decide),if_neg (by decide),if_neg (by decide),if_neg (by decide),(hr.nil rfl).2]
   try rfl
  .rename_i h0
   split
   .rename_i h1
    rw [Qb,Qb,Z3M,Z3N ks (d - 1) _ _ fun t ht=> ⟨(hr.kids t ht).1,(hr.kids t ht).2.2.1 (.inl h1)⟩]
    omega
   .split
    .rename_i h8
     rw [Qb,Z3M,Z3N ks (d - 1) _ _ fun t ht=> ⟨(hr.kids t ht).1,(hr.kids t ht).2.2.1 (.inr h8)⟩]
    .split
     .rename_i h9
      rw [Qc,Qb,Z9P ks _ _ fun t ht=> Z4C ht,Z9Q (frW ks) (frK ks) ks (d - 1) _ _ fun t ht=> ⟨(hr.kids t ht).1,(hr.kids t ht).2.2.2 h9⟩]
      omega
     .have hk:=hr.kind
      rw [if_pos (by omega)]
      unfold JX
      rw [if_pos (hr.data (by omega) (by omega)).1,Z8m,ZO,QG]
theorem Z3N:∀ (ks:List Tree) (d a to:Int),(∀ t∈ks,Z5 t d=true/\t.kind≠10)->(Z0o ks a to).2.length=YZ ks
 | [],_,_,_,_=> by rw [Z0o,YZ];try rfl
 | t ::r,d,a,to,h=> by
  have h1:=h t Q9
  rw [Z0o,YZ,Qb,ZcO t d to h1.1 h1.2,Z3N r d _ _ fun t ht=> h t (Q7 _ ht)]
theorem Z9Q(fw fk:Nat):∀ (ks:List Tree) (d a to:Int),(∀ t∈ks,Z5 t d=true/\t.kind=1)->(Z43 fw fk ks a to).2.length=Z2m ks
 | [],_,_,_,_=> by rw [Z43,Z2m];try rfl
 | .mk k w l ::r,d,a,to,h=> by
  have h1:=h _ Q9
  have h1k:k=1:=h1.2
  have hr:=riT h1.1
  rw [Z43,Z2m,Qb,Z3N l (d - 1) _ _ fun t ht=> ⟨(hr.kids t ht).1,(hr.kids t ht).2.2.1 (.inl h1k)⟩,Z9Q fw fk r d _ _ fun t ht=> h t (Q7 _ ht)]
end
def zs(n:Nat):List Int:=List.replicate n 0
@[simp] theorem Z0G (n:Nat):(zs n).length=n:=by simp [zs]
theorem Znx(n m:Nat):zs (n+m)=zs n++zs m:=by rw [zs,zs,zs,List.replicate_append_replicate]
def Fit(fw fk:Nat)(ks:List Tree):Prop:=∀ t∈ks,t.words.length<=fw/\t.kids.length<=fk
def ZA(p:Ptr):Int:=
 if p.kind=1 then (if (-536870912<=p.off/\p.off < 536870912)/\(0<=p.data/\p.data<=65535)/\0<=p.ptrs/\p.ptrs<=65535 then 4*(p.off % 1073741824)+4294967296*(p.data+65536*p.ptrs) else 0)
 else if p.kind=2 then (if (-536870912<=p.off/\p.off < 536870912)/\(0<=p.code/\p.code<=7)/\0<=p.count/\p.count<=536870911 then 4*(p.off % 1073741824)+1+4294967296*(p.code+8*p.count) else 0)
 else if p.kind=3 then (if (0<=p.off/\p.off<=536870911)/\0<=p.segment/\p.segment<=4294967295 then 8*p.off+2+(if p.double=true then 4 else 0)+4294967296*p.segment else 0)
 else 0
def eqP(p q:Ptr):Bool:=p.kind==q.kind && (p.off==q.off && (p.data==q.data && (p.ptrs==q.ptrs && (p.code==q.code && (p.count==q.count && (p.segment==q.segment && (p.double==q.double && true)))))))
theorem ZcF(p:Ptr):eqP p p=true:=by simp [eqP]
theorem Zf6{o:Int}(h: -536870912<=o/\o < 536870912):(if 536870912<=o % 1073741824 then o % 1073741824 - 1073741824 else o % 1073741824)=o:=by
 split <;> omega
theorem Z4E{o d p:Int}(ho: -536870912<=o/\o < 536870912)(hd:0<=d/\d < 65536)(hp:0<=p/\p < 65536)(hz:¬(o=0/\d=0/\p=0)):
  Z6 (4*(o % 1073741824)+0+4294967296*(d+65536*p))=⟨1,o,d,p,0,0,0,false⟩:=by
 have e0:(4*(o % 1073741824)+0+4294967296*(d+65536*p)) / 4 % 1073741824=o % 1073741824:=by omega
 unfold Z6 Z8E
 rw [if_neg (by omega),if_pos (by omega),e0,Zf6 ho]
 congr 1 <;> omega
theorem ZcI{o c n:Int}(ho: -536870912<=o/\o < 536870912)(hc:0<=c/\c < 8)(hn:0<=n/\n < 536870912):
  Z6 (4*(o % 1073741824)+1+4294967296*(c+8*n))=⟨2,o,0,0,c,n,0,false⟩:=by
 have e0:(4*(o % 1073741824)+1+4294967296*(c+8*n)) / 4 % 1073741824=o % 1073741824:=by omega
 unfold Z6 Z8E
 rw [if_neg (by omega),if_neg (by omega),if_pos (by omega),e0,Zf6 ho]
 congr 1 <;> omega
def Z6H(p:Ptr):Prop:=
 (p.kind=1/\(0<=p.data/\p.data < 65536)/\(0<=p.ptrs/\p.ptrs < 65536)/\p.code=0/\p.count=0\/p.kind=2/\p.data=0/\p.ptrs=0/\(0<=p.code/\p.code < 8)/\0<=p.count/\p.count < 536870912)/\p.segment=0/\p.double=false
def ZG:List Int->Arena->Int->Int->Arena
 | [],a,_,_=> a
 | w ::r,a,s,i=> ZG r (ZW a s i w) s (i+1)
def kdP(p:Ptr):Int:=if p.kind=1 then 0 else 1
def upP(p:Ptr):Int:=if p.kind=1 then p.data+65536*p.ptrs else p.code+8*p.count
def pwA(fr to k up:Int):Int:=if k=0/\up=0 then 4294967292 else Z7d fr to k up
def Yo(d:Bool)(s i:Int):Int:=2+(if d=true then 4 else 0)+8*i+4294967296*s
def endA(a:Arena)(s:Int):Int:=((Zh a.segs s).length:Int)
def ZN(a:Arena)(s i s' i' k up:Int):Arena × Bool:=
 if s=s'\/(k=0/\up=0) then (ZW a s i (pwA i i' k up),true)
 else if Z0W a s' 1 then (ZW (ZW (inA a s' 1) s i (Yo false s' (endA a s'))) s' (endA a s') (pwA (endA a s') i' k up),true)
 else if Z4 a 2 then (ZW (ZW (ZW (Zd a 2) s i (Yo true (giveS a 2) (giveT a 2))) (giveS a 2) (giveT a 2) (Yo false s' i')) (giveS a 2) (giveT a 2+1) (k+4294967296*up),true)
 else (a,false)
def Y5(a:Arena)(s i n k up:Int):Arena × Bool:=
 if Z4 a n then ZN (Zd a n) s i (giveS a n) (giveT a n) k up else (a,false)
def JW(b:Arena × Bool)(f:Arena->Arena × Bool):Arena × Bool:=bif b.2 then f b.1 else b
mutual
def ZP:Tree->Arena->Int->Int->Arena × Bool
 | .mk k w ks,a,s,i=>
  if k=0 then (a,true)
  else if k=1 then JW (Y5 a s i (w.length+ks.length) 0 (w.length+65536*ks.length)) fun b=>
   ZX ks (ZG w b (giveS a (w.length+ks.length)) (giveT a (w.length+ks.length))) (giveS a (w.length+ks.length)) (giveT a (w.length+ks.length)+w.length)
  else if k=8 then JW (Y5 a s i ks.length 1 (6+8*ks.length)) fun b=> ZX ks b (giveS a ks.length) (giveT a ks.length)
  else if k=9 then JW (Y5 a s i (1+ks.length*((frW ks:Int)+frK ks)) 1 (7+8*(ks.length*((frW ks:Int)+frK ks)))) fun b=>
   YT (frW ks) (frK ks) ks (ZW b (giveS a (1+ks.length*((frW ks:Int)+frK ks))) (giveT a (1+ks.length*((frW ks:Int)+frK ks))) (Z5G ks.length (frW ks) (frK ks)))
    (giveS a (1+ks.length*((frW ks:Int)+frK ks))) (giveT a (1+ks.length*((frW ks:Int)+frK ks))+1)
  else JW (Y5 a s i (JX (k - 2) (ZO ks)).length 1 (k - 2+8*ks.length)) fun b=>
   (ZG (JX (k - 2) (ZO ks)) b (giveS a (JX (k - 2) (ZO ks)).length) (giveT a (JX (k - 2) (ZO ks)).length),true)
def ZX:List Tree->Arena->Int->Int->Arena × Bool
 | [],a,_,_=> (a,true)
 | t ::r,a,s,i=> JW (ZP t a s i) fun b=> ZX r b s (i+1)
def YT(fw fk:Nat):List Tree->Arena->Int->Int->Arena × Bool
 | [],a,_,_=> (a,true)
 | .mk _ w ks ::r,a,s,i=> JW (ZX ks (ZG w a s i) s (i+fw)) fun b=> YT fw fk r b s (i+((fw:Int)+fk))
end
def Zj(t:Tree)(size most:Int):Arena × Bool:=
 if Z5 t 64=true/\t.kind≠10 then
  if Z4 (Y6 size most) 1 then ZP (Z9 t) (Zd (Y6 size most) 1) (giveS (Y6 size most) 1) (giveT (Y6 size most) 1) else (Y6 size most,false)
 else (Y6 size most,false)
noncomputable section
def Za8(a:Option Arena × Unit):Prop:=(∃ y,a.1=some y/\OkAr y)
def ZmP(a:Option Arena × Unit):V U:= .c (ci ((arO a.1).most - (arO a.1).used))
def Z2I:Fs U:=fs ZfL (fun a=> [Za8 a]) ZmP
def Za7(a:Option Arena × Int × Int × Unit):Prop:=(∃ y,a.1=some y/\OkAr y)
def ZmO(a:Option Arena × Int × Int × Unit):V U:= .c (.bool (Z2n (arO a.1) a.2.1 a.2.2.1))
def Z2H:Fs U:=fs ZjQ (fun a=> [Za7 a]) ZmO
def Zbs:ArgM (Arena × Int × Int × Unit):=(.lst cAr (.cons (ZQ .i64) (.cons (ZQ .i64) .nil)))
def Z6C(a:Arena × Int × Int × Unit):Prop:=OkAr a.1/\(0<=a.2.1/\a.2.1 < a.1.segs.length)/\0<=a.2.2.1/\a.2.2.1<=a.1.most - a.1.used
def ZmN(a:Arena × Int × Int × Unit):V U:= .c (ci ((Zh a.1.segs a.2.1).length:Int))
def Zhu(a:Arena × Int × Int × Unit):List (List (C U)):=[]
def ZhA(a:Arena × Int × Int × Unit):List (Tok × LC U):=[(.A,LC.mk (U:=U) .arena [Z01 a.1 a.2.1 a.2.2.1] 0)]
def Z2G:Fs U:=(Z07 Zbs (fun a=> [Z6C a]) ZmN Zhu ZhA).passing [0]
def ZeS(a:Arena × Int × Int × Unit):Prop:=OkAr a.1
def ZeC(a:Arena × Int × Int × Unit):V U:= .tup [(false,[ci (if Z0W a.1 a.2.1 a.2.2.1 then ((Zh a.1.segs a.2.1).length:Int) else 0)]),(false,[.bool (Z0W a.1 a.2.1 a.2.2.1)])]
def ZaS(a:Arena × Int × Int × Unit):List (Tok × LC U):=[(.A,LC.mk (U:=U) .arena [inA a.1 a.2.1 a.2.2.1] 0)]
def Z7L:Fs U:=(Z07 Zbs (fun a=> [ZeS a]) ZeC Zhu ZaS).passing [0]
def Zbw:ArgM (Arena × Int × Unit):=(.lst cAr (.cons (ZQ .i64) .nil))
def ZeX(a:Arena × Int × Unit):Prop:=OkAr a.1
def ZbY(a:Arena × Int × Unit):V U:= .tup [(false,[ci (if Z4 a.1 a.2.1 then giveS a.1 a.2.1 else 0)]),(false,[ci (if Z4 a.1 a.2.1 then giveT a.1 a.2.1 else 0)]),(false,[.bool (Z4 a.1 a.2.1)])]
def Zhx(a:Arena × Int × Unit):List (List (C U)):=[]
def Z8g(a:Arena × Int × Unit):List (Tok × LC U):=[(.A,LC.mk (U:=U) .arena [Zd a.1 a.2.1] 0)]
def Z7S:Fs U:=(Z07 Zbw (fun a=> [ZeX a]) ZbY Zhx Z8g).passing [0]
def Zbo:ArgM (Arena × Int × Int × Int × Unit):=(.lst cAr (.cons (ZQ .i64) (.cons (ZQ .i64) (.cons (ZQ .u64) .nil))))
def ZeR(a:Arena × Int × Int × Int × Unit):Prop:=OkAr a.1/\0<=a.2.2.2.1/\a.2.2.2.1 < 18446744073709551616
def ZeB(a:Arena × Int × Int × Int × Unit):V U:= .c (.bool (Zc a.1.segs a.2.1 a.2.2.1 1))
def Zhr(a:Arena × Int × Int × Int × Unit):List (List (C U)):=[]
def ZaR(a:Arena × Int × Int × Int × Unit):List (Tok × LC U):=[(.A,LC.mk (U:=U) .arena [ZW a.1 a.2.1 a.2.2.1 a.2.2.2.1] 0)]
def Z7J:Fs U:=(Z07 Zbo (fun a=> [ZeR a]) ZeB Zhr ZaR).passing [0]
abbrev W71(a:Option Arena)(Q:QT):=AW (Z0 Zj1) Try.f71 ZiG [] (L2 [(0,.c (.po (U:=U) .arena a))] []) Q
theorem Zs1(a:Option Arena)(Q:QT)(h:((Option.isNone a)=true->Q .ret (L2 [pI 2 0] []))/\((Option.isNone a)=false->(Option.isSome a=true)/\(Option.isSome a=true)/\(Option.isSome a=true)/\(Option.isSome a=true)/\(InR (((Arena.most (Option.getD a (Arena.mk [] 0 0 0))):Int) - (Arena.used (Option.getD a (Arena.mk [] 0 0 0)))))/\(Q .ret (L2 [(2,.c (ci (((Arena.most (Option.getD a (Arena.mk [] 0 0 0))):Int) - (Arena.used (Option.getD a (Arena.mk [] 0 0 0))))))] [])))):
  W71 a Q:=by
 have e_:(W71 a Q)=(((Option.isNone a)=true->(Q .ret (L2 [pI 2 0] [])))/\((Option.isNone a)=false->(Option.isSome a=true)/\(Option.isSome a=true)/\(Option.isSome a=true)/\(Option.isSome a=true)/\(InR (((Arena.most (Option.getD a (Arena.mk [] 0 0 0))):Int) - (Arena.used (Option.getD a (Arena.mk [] 0 0 0)))))/\(Q .ret (L2 [(2,.c (ci (((Arena.most (Option.getD a (Arena.mk [] 0 0 0))):Int) - (Arena.used (Option.getD a (Arena.mk [] 0 0 0))))))] [])))):=by kernel_rfl
 exact e_.mpr ⟨fun c_1=> (h.1 c_1),fun c_1=> ⟨(h.2 c_1).1,(h.2 c_1).2.1,(h.2 c_1).2.2.1,(h.2 c_1).2.2.2.1,(h.2 c_1).2.2.2.2.1,(h.2 c_1).2.2.2.2.2⟩⟩
abbrev Zq6(a:Option Arena):Prop:=AW (Z0 Zj1) Try.f71 ZiG [] (Zi (ZfL.can (a,())) []) (EQ Try.f71 (ZmP (a,())) [])
theorem Zo8(hb:∀ (a:Option Arena) (_:Unit),Za8 (a,())->Zq6 a):CT 71 Z2I:=
 Z2 (l:=[]) Zf rfl trivial ZiG Try.func71 rfl rfl 1 (fun _=> rfl) (by decide) (fun ⟨a,_⟩=> hb a ())
def Zja:List (FuncId × Fs U):=[(97,Z2D)]
def Zp2:Z8 U:=lvl [([0,1,2],[]),([6],[])]
abbrev W72(a:Option Arena)(s n:Int)(Q:QT):=AW (Z0 Zja) Try.f72 Zp2 [] (L2 [(0,.c (.po (U:=U) .arena a)),pI 1 s,pI 2 n] []) Q
theorem Zs0(a:Option Arena)(s n:Int)(Q:QT)(h:(Option.isSome a=true)/\(Option.isSome a=true)/\(ZeP (a,s,()))/\(InR (((Arena.size (Option.getD a (Arena.mk [] 0 0 0))):Int) - ((Zh (Z1 a) s).length:Int)))/\(Q .ret (L2 [(6,.c (.bool (decide (n<=(((Arena.size (Option.getD a (Arena.mk [] 0 0 0))):Int) - ((Zh (Z1 a) s).length:Int))))))] []))):
  W72 a s n Q:=by
 have e_:(W72 a s n Q)=(type_of% h):=by kernel_rfl
 exact e_.mpr ⟨h.1,h.2.1,h.2.2.1,h.2.2.2.1,h.2.2.2.2⟩
abbrev Zq5(a:Option Arena)(s n:Int):Prop:=AW (Z0 Zja) Try.f72 Zp2 [] (Zi (ZjQ.can (a,s,n,())) []) (EQ Try.f72 (ZmO (a,s,n,())) [])
theorem Zo7(c97:CT 97 Z2D)(hb:∀ (a:Option Arena) (s:Int) (n:Int) (_:Unit),Za7 (a,s,n,())->Zq5 a s n):CT 72 Z2H:=
 Z2 (l:=[(97,Z2D)]) Zf rfl (⟨c97,trivial⟩) Zp2 Try.func72 rfl rfl 3 (fun _=> rfl) (by decide) (fun ⟨a,s,n,_⟩=> hb a s n ())
def Zp1:Z8 U:=fun i=> match i with
 | 0=> ([(0,[.ar]),(1,[]),(2,[])],[])
 | 1=> ([(0,[.ar]),(1,[]),(2,[]),(7,[])],[])
 | 2=> ([(0,[.ar]),(2,[]),(7,[])],[])
 | 3=> ([(0,[.ar]),(7,[])],[])
 | 4=> ([(0,[.ar]),(6,[])],[])
 | _=> ([],[])
abbrev W73(a:Arena)(s n:Int)(Q:QT):=AW (Z0 Zj1) Try.f73 Zp1 [] (⟨[(0,.c (.mref (.A))),pI 1 s,pI 2 n],[],[(.A,LC.mk (U:=U) .arena ([a]) 0)]⟩:LSt U) Q
theorem ZrZ(a:Arena)(s n:Int)(Q:QT)(h:((0:Int)<=s/\s < ((Arena.segs a).length:Int))/\(((0:Int)<=s/\s < ((Arena.segs a).length:Int))/\((0:Int)<=n/\(((List.getD (Arena.segs a) s.toNat []).length:Int)+n)*8<=140737488355328)/\((0:Int)<=s/\s < ((Arena.segs a).length:Int))/\(s.toNat=s.toNat)/\((InR (((Arena.used a):Int)+n))/\(Q .ret (⟨[(0,.c (.mref (.A))),pI 6 ((List.getD (Arena.segs a) s.toNat []).length:Int)],[],[(.A,LC.mk (U:=U) .arena ([Arena.mk (List.set (Arena.segs a) s.toNat ((List.getD (Arena.segs a) s.toNat [])++(List.replicate n.toNat 0))) (Arena.size a) (Arena.most a) (((Arena.used a):Int)+n)]) 0)]⟩:LSt U))))):
  W73 a s n Q:=by
 have e_:(W73 a s n Q)=(((0:Int)<=s/\s < ((Arena.segs a).length:Int))/\(((0:Int)<=s/\s < ((Arena.segs a).length:Int))/\((0:Int)<=n/\(((List.getD (Arena.segs a) s.toNat []).length:Int)+n)*8<=140737488355328)/\((0:Int)<=s/\s < ((Arena.segs a).length:Int))/\(s.toNat=s.toNat)/\((InR (((Arena.used a):Int)+n))/\(Q .ret (⟨[(0,.c (.mref (.A))),pI 6 ((List.getD (Arena.segs a) s.toNat []).length:Int)],[],[(.A,LC.mk (U:=U) .arena ([Arena.mk (List.set (Arena.segs a) s.toNat ((List.getD (Arena.segs a) s.toNat [])++(List.replicate n.toNat 0))) (Arena.size a) (Arena.most a) (((Arena.used a):Int)+n)]) 0)]⟩:LSt U))))):=by kernel_rfl
 exact e_.mpr ⟨h.1,⟨h.2.1,h.2.2.1,h.2.2.2.1,h.2.2.2.2.1,⟨h.2.2.2.2.2.1,h.2.2.2.2.2.2⟩⟩⟩
abbrev Zq4(a:Arena)(s n:Int):Prop:=AW (Z0 Zj1) Try.f73 Zp1 [] (Yu (Zbs.can (a,s,n,())) (Zbs.canX (a,s,n,())) (Zbs.canL (a,s,n,()))) (YQ cfg Try.f73.ntmps Try.f73.results.toList (ZmN (a,s,n,())) (Zhu (a,s,n,())) (ZhA (a,s,n,())))
theorem Zo6(hb:∀ (a:Arena) (s:Int) (n:Int) (_:Unit),Z6C (a,s,n,())->Zq4 a s n):CT 73 Z2G:=
 Contract.passing <| ZM (l:=[]) Zf rfl trivial Zp1 Try.func73 rfl rfl 3 (fun _=> rfl) (by decide) (fun ⟨a,s,n,_⟩=> hb a s n ())
def Zj6:List (FuncId × Fs U):=[(102,JQ.lend),(71,Z2I.lend),(72,Z2H.lend),(73,Z2G)]
def ZoY:Z8 U:=fun i=> match i with
 | 0=> ([(0,[.ar]),(1,[]),(2,[])],[])
 | 1=> ([(0,[.ar]),(1,[]),(2,[]),(32,[])],[])
 | 2=> ([(0,[.ar]),(6,[]),(7,[])],[])
 | 3=> ([(0,[.ar]),(6,[]),(7,[])],[])
 | _=> ([],[])
abbrev W77(a:Arena)(s n:Int)(Q:QT):=AW (Z0 Zj6) Try.f77 ZoY [] (⟨[(0,.c (.mref (.A))),pI 1 s,pI 2 n],[],[(.A,LC.mk (U:=U) .arena ([a]) 0)]⟩:LSt U) Q
theorem ZrV(a:Arena)(s n:Int)(Q:QT)(h:((!(decide (s < 0)))=true->Z5Q ((some a),()))/\((!(bif (bif (decide (s < 0)) then true else (decide ((((Z1 (some a)).length:Int):Int)<=s))) then true else (decide (n < 0))))=true->Za8 ((some a),()))/\((!(bif (bif (bif (decide (s < 0)) then true else (decide ((((Z1 (some a)).length:Int):Int)<=s))) then true else (decide (n < 0))) then true else (decide ((((arO (some a)).most - (arO (some a)).used):Int) < n))))=true->Za7 ((some a),s,n,()))/\(((bif (bif (bif (bif (decide (s < 0)) then true else (decide ((((Z1 (some a)).length:Int):Int)<=s))) then true else (decide (n < 0))) then true else (decide ((((arO (some a)).most - (arO (some a)).used):Int) < n))) then true else (!(Z2n (arO (some a)) s n)))=true->Q .ret (⟨[(0,.c (.mref (.A))),pI 6 0,pB 7 false],[],[(.A,LC.mk (U:=U) .arena ([a]) 0)]⟩:LSt U))/\((bif (bif (bif (bif (decide (s < 0)) then true else (decide ((((Z1 (some a)).length:Int):Int)<=s))) then true else (decide (n < 0))) then true else (decide ((((arO (some a)).most - (arO (some a)).used):Int) < n))) then true else (!(Z2n (arO (some a)) s n)))=false->(Z6C (a,s,n,()))/\(Q .ret (⟨[(0,.c (.mref (.A))),pI 6 ((Zh a.segs s).length:Int),pB 7 true],[],[(.A,LC.mk (U:=U) .arena ([Z01 a s n]) 0)]⟩:LSt U))))):
  W77 a s n Q:=by
 have e_:(W77 a s n Q)=(let zz3:=(decide ((s:Int) < 0));let zz2:=(bif zz3 then true else (decide ((((Z1 (some a)).length:Int):Int)<=s)));let zz1:=(decide ((((arO (some a)).most - (arO (some a)).used):Int) < n));let zz0:=(bif zz2 then true else (decide ((n:Int) < 0)));((Tr ((!zz3)=true))/\((!zz3)=true->Z5Q ((some a),()))/\(Tr ((!zz3)=true))/\(Tr ((!zz3)=true))/\(zz3=false->(!zz3)=true)/\(Tr ((!zz2)=true))/\(zz2=false->(!zz2)=true)/\(Tr ((!zz0)=true))/\((!zz0)=true->Za8 ((some a),()))/\(Tr ((!zz0)=true))/\(Tr ((!zz0)=true))/\(zz0=false->(!zz0)=true)/\(Tr ((!(bif zz0 then true else zz1))=true))/\(Tr ((!(bif zz0 then true else zz1))=true))/\(Tr ((!(bif zz0 then true else zz1))=true))/\((!(bif zz0 then true else zz1))=true->Za7 ((some a),s,n,()))/\(Tr ((!(bif zz0 then true else zz1))=true))/\((bif zz0 then true else zz1)=false->(!(bif zz0 then true else zz1))=true)/\(((bif (bif zz0 then true else zz1) then true else (!(Z2n (arO (some a)) s n)))=true->(Q .ret (⟨[(0,.c (.mref (.A))),pI 6 0,pB 7 false],[],[(.A,LC.mk (U:=U) .arena ([a]) 0)]⟩:LSt U)))/\((bif (bif zz0 then true else zz1) then true else (!(Z2n (arO (some a)) s n)))=false->(Z6C (a,s,n,()))/\(Q .ret (⟨[(0,.c (.mref (.A))),pI 6 ((Zh a.segs s).length:Int),pB 7 true],[],[(.A,LC.mk (U:=U) .arena ([Z01 a s n]) 0)]⟩:LSt U)))))):=by kernel_rfl
 exact e_.mpr ⟨id,h.1,id,id,(by generalize (decide ((s:Int) < 0))=b0;revert b0;decide),id,(by generalize (decide ((((Z1 (some a)).length:Int):Int)<=s))=b0;generalize (decide ((s:Int) < 0))=b1;revert b0 b1;decide),id,h.2.1,id,id,(by generalize (decide ((((Z1 (some a)).length:Int):Int)<=s))=b0;generalize (decide ((s:Int) < 0))=b1;generalize (decide ((n:Int) < 0))=b2;revert b0 b1 b2;decide),id,id,id,h.2.2.1,id,(by generalize (decide ((((arO (some a)).most - (arO (some a)).used):Int) < n))=b0;generalize (decide ((((Z1 (some a)).length:Int):Int)<=s))=b1;generalize (decide ((s:Int) < 0))=b2;generalize (decide ((n:Int) < 0))=b3;revert b0 b1 b2 b3;decide),⟨fun c_2=> (h.2.2.2.1 c_2),fun c_2=> ⟨(h.2.2.2.2 c_2).1,(h.2.2.2.2 c_2).2⟩⟩⟩
abbrev Zq0(a:Arena)(s n:Int):Prop:=AW (Z0 Zj6) Try.f77 ZoY [] (Yu (Zbs.can (a,s,n,())) (Zbs.canX (a,s,n,())) (Zbs.canL (a,s,n,()))) (YQ cfg Try.f77.ntmps Try.f77.results.toList (ZeC (a,s,n,())) (Zhu (a,s,n,())) (ZaS (a,s,n,())))
theorem Zo2(Zbm:CT 102 JQ)(c71:CT 71 Z2I)(c72:CT 72 Z2H)(c73:CT 73 Z2G)(hb:∀ (a:Arena) (s:Int) (n:Int) (_:Unit),ZeS (a,s,n,())->Zq0 a s n):CT 77 Z7L:=
 Contract.passing <| ZM (l:=[(102,JQ.lend),(71,Z2I.lend),(72,Z2H.lend),(73,Z2G)]) Zf rfl (⟨Zbm.lend,c71.lend,c72.lend,c73,trivial⟩) ZoY Try.func77 rfl rfl 3 (fun _=> rfl) (by decide) (fun ⟨a,s,n,_⟩=> hb a s n ())
def Zjm:List (FuncId × Fs U):=[(71,Z2I.lend),(72,Z2H.lend),(73,Z2G)]
def Zpd:Z8 U:=fun i=> match i with
 | 0=> ([(0,[.ar]),(1,[])],[])
 | 1=> ([(0,[.ar]),(1,[]),(19,[])],[])
 | 2=> ([(0,[.ar]),(4,[]),(5,[]),(6,[])],[])
 | 3=> ([(0,[.ar]),(1,[]),(7,[])],[])
 | 4=> ([(0,[.ar]),(1,[]),(7,[]),(42,[])],[])
 | 5=> ([(0,[.ar]),(1,[]),(7,[])],[])
 | 6=> ([(0,[.ar]),(1,[]),(7,[])],[])
 | 7=> ([(0,[.ar]),(4,[]),(5,[]),(6,[])],[])
 | _=> ([],[])
abbrev W40(a:Arena)(n:Int)(Q:QT):=AW (Z0 Zjm) Try.f40 Zpd [] (⟨[(0,.c (.mref (.A))),pI 1 n],[],[(.A,LC.mk (U:=U) .arena ([a]) 0)]⟩:LSt U) Q
theorem Zsk(a:Arena)(n:Int)(Q:QT)(h:∀ y_1,y_1=(Z2n (arO (some a)) ((((Arena.segs a).length:Int):Int) - 1) n)->∀ y_2,y_2=(Arena.mk ((Arena.segs a)++List.replicate 1 []) (Arena.size a) (Arena.most a) (Arena.used a))->((!(decide (n < 0)))=true->Za8 ((some a),()))/\(((bif (decide (n < 0)) then true else (decide ((((arO (some a)).most - (arO (some a)).used):Int) < n)))=true->Q .ret (⟨[(0,.c (.mref (.A))),pI 4 0,pI 5 0,pB 6 false],[],[(.A,LC.mk (U:=U) .arena ([a]) 0)]⟩:LSt U))/\((bif (decide (n < 0)) then true else (decide ((((arO (some a)).most - (arO (some a)).used):Int) < n)))=false->(InR ((((Arena.segs a).length:Int):Int) - 1))/\(((!(decide ((((((Arena.segs a).length:Int):Int) - 1):Int) < 0)))=true->Za7 ((some a),((((Arena.segs a).length:Int):Int) - 1),n,()))/\(((bif (decide ((((((Arena.segs a).length:Int):Int) - 1):Int) < 0)) then true else (bif (!y_1) then (decide ((((Arena.segs a).length:Int):Int) < 16)) else false))=true->(((Arena.segs a).length+1)*24<=140737488355328)/\((InR ((((((Arena.segs a).length:Int):Int) - 1):Int)+1))/\((Z6C (y_2,((((((Arena.segs a).length:Int):Int) - 1):Int)+1),n,()))/\(Q .ret (⟨[(0,.c (.mref (.A))),(4,.c (ci ((((((Arena.segs a).length:Int):Int) - 1):Int)+1))),(5,.c (ci ((Zh y_2.segs ((((((Arena.segs a).length:Int):Int) - 1):Int)+1)).length:Int))),pB 6 true],[],[(.A,LC.mk (U:=U) .arena ([Z01 y_2 ((((((Arena.segs a).length:Int):Int) - 1):Int)+1) n]) 0)]⟩:LSt U)))))/\((bif (decide ((((((Arena.segs a).length:Int):Int) - 1):Int) < 0)) then true else (bif (!y_1) then (decide ((((Arena.segs a).length:Int):Int) < 16)) else false))=false->(Z6C (a,((((Arena.segs a).length:Int):Int) - 1),n,()))/\(Q .ret (⟨[(0,.c (.mref (.A))),(4,.c (ci ((((Arena.segs a).length:Int):Int) - 1))),(5,.c (ci ((Zh a.segs ((((Arena.segs a).length:Int):Int) - 1)).length:Int))),pB 6 true],[],[(.A,LC.mk (U:=U) .arena ([Z01 a ((((Arena.segs a).length:Int):Int) - 1) n]) 0)]⟩:LSt U)))))))):
  W40 a n Q:=by
 have e_:(W40 a n Q)=(let y_1:=(Z2n (arO (some a)) (((Arena.segs a).length:Int) - 1) n);let y_2:=(Arena.mk ((Arena.segs a)++List.replicate 1 []) (Arena.size a) (Arena.most a) (Arena.used a));let zz3:=(decide ((((arO (some a)).most - (arO (some a)).used):Int) < n));let zz2:=(bif (!y_1) then (decide (((Arena.segs a).length:Int) < 16)) else false);let zz1:=(decide ((n:Int) < 0));let zz0:=(decide (((((Arena.segs a).length:Int) - 1):Int) < 0));(((!false)=true->(!false)=true)/\(false=false->(!false)=true)/\(Tr ((!zz1)=true))/\((!zz1)=true->Za8 ((some a),()))/\(Tr ((!zz1)=true))/\(Tr ((!zz1)=true))/\(zz1=false->(!zz1)=true)/\(((bif zz1 then true else zz3)=true->(Q .ret (⟨[(0,.c (.mref (.A))),pI 4 0,pI 5 0,pB 6 false],[],[(.A,LC.mk (U:=U) .arena ([a]) 0)]⟩:LSt U)))/\((bif zz1 then true else zz3)=false->(InR (((Arena.segs a).length:Int) - 1))/\((Tr ((!zz0)=true))/\(Tr ((!zz0)=true))/\(Tr ((!zz0)=true))/\((!zz0)=true->Za7 ((some a),(((Arena.segs a).length:Int) - 1),n,()))/\(Tr ((!zz0)=true))/\(Tr ((!zz0)=true))/\(Tr (((!zz0) && (!y_1))=true))/\(Tr (((!zz0) && (!y_1))=true))/\(Tr (((!zz0) && (!y_1))=true))/\(Tr (((!zz0) && (!y_1))=true))/\(Tr (((!zz0) && (!y_1))=true))/\((!zz0)=true->(True->(!zz0)=true))/\((!zz0)=true->((!y_1)=true->((!zz0) && (!y_1))=true))/\(zz0=false->(!zz0)=true)/\(((bif zz0 then true else zz2)=true->(((Arena.segs a).length+1)*24<=140737488355328)/\((InR (((((Arena.segs a).length:Int) - 1):Int)+1))/\((Z6C (y_2,(((((Arena.segs a).length:Int) - 1):Int)+1),n,()))/\(Q .ret (⟨[(0,.c (.mref (.A))),(4,.c (ci (((((Arena.segs a).length:Int) - 1):Int)+1))),(5,.c (ci ((Zh y_2.segs (((((Arena.segs a).length:Int) - 1):Int)+1)).length:Int))),pB 6 true],[],[(.A,LC.mk (U:=U) .arena ([Z01 y_2 (((((Arena.segs a).length:Int) - 1):Int)+1) n]) 0)]⟩:LSt U)))))/\((bif zz0 then true else zz2)=false->(Z6C (a,(((Arena.segs a).length:Int) - 1),n,()))/\(Q .ret (⟨[(0,.c (.mref (.A))),pI 4 (((Arena.segs a).length:Int) - 1),(5,.c (ci ((Zh a.segs (((Arena.segs a).length:Int) - 1)).length:Int))),pB 6 true],[],[(.A,LC.mk (U:=U) .arena ([Z01 a (((Arena.segs a).length:Int) - 1) n]) 0)]⟩:LSt U))))))))):=by kernel_rfl
 exact e_.mpr (by intro y_1 y_2;have hh:=h y_1 rfl y_2 rfl;exact ⟨id,(by decide),id,hh.1,id,id,(by generalize (decide ((n:Int) < 0))=b0;revert b0;decide),⟨fun c_3=> (hh.2.1 c_3),fun c_3=> ⟨(hh.2.2 c_3).1,⟨id,id,id,(hh.2.2 c_3).2.1,id,id,id,id,id,id,id,(by generalize (decide ((((((Arena.segs a).length:Int):Int) - 1):Int) < 0))=b0;revert b0;decide),(by generalize y_1=b0;generalize (decide ((((((Arena.segs a).length:Int):Int) - 1):Int) < 0))=b1;revert b0 b1;decide),(by generalize (decide ((((((Arena.segs a).length:Int):Int) - 1):Int) < 0))=b0;revert b0;decide),⟨fun c_4=> ⟨((hh.2.2 c_3).2.2.1 c_4).1,⟨((hh.2.2 c_3).2.2.1 c_4).2.1,⟨((hh.2.2 c_3).2.2.1 c_4).2.2.1,((hh.2.2 c_3).2.2.1 c_4).2.2.2⟩⟩⟩,fun c_4=> ⟨((hh.2.2 c_3).2.2.2 c_4).1,((hh.2.2 c_3).2.2.2 c_4).2⟩⟩⟩⟩⟩⟩)
abbrev Zqp(a:Arena)(n:Int):Prop:=AW (Z0 Zjm) Try.f40 Zpd [] (Yu (Zbw.can (a,n,())) (Zbw.canX (a,n,())) (Zbw.canL (a,n,()))) (YQ cfg Try.f40.ntmps Try.f40.results.toList (ZbY (a,n,())) (Zhx (a,n,())) (Z8g (a,n,())))
theorem Zoo(c71:CT 71 Z2I)(c72:CT 72 Z2H)(c73:CT 73 Z2G)(hb:∀ (a:Arena) (n:Int) (_:Unit),ZeX (a,n,())->Zqp a n):CT 40 Z7S:=
 Contract.passing <| ZM (l:=[(71,Z2I.lend),(72,Z2H.lend),(73,Z2G)]) Zf rfl (⟨c71.lend,c72.lend,c73,trivial⟩) Zpd Try.func40 rfl rfl 2 (fun _=> rfl) (by decide) (fun ⟨a,n,_⟩=> hb a n ())
def Zj4:List (FuncId × Fs U):=[(103,YY.lend)]
def ZoW:Z8 U:=fun i=> match i with
 | 0=> ([(0,[.ar]),(1,[]),(2,[]),(3,[])],[])
 | 1=> ([(0,[.ar]),(1,[]),(2,[]),(3,[]),(13,[])],[])
 | 2=> ([(0,[.ar]),(8,[])],[])
 | 3=> ([(0,[.ar])],[])
 | 4=> ([(0,[.ar]),(8,[])],[])
 | _=> ([],[])
abbrev W79(a:Arena)(s at_ w:Int)(Q:QT):=AW (Z0 Zj4) Try.f79 ZoW [] (⟨[(0,.c (.mref (.A))),pI 1 s,pI 2 at_,(3,.c (.int .u64 w))],[],[(.A,LC.mk (U:=U) .arena ([a]) 0)]⟩:LSt U) Q
theorem ZrT(a:Arena)(s at_ w:Int)(Q:QT)(h:(Z4n ((some a),s,at_,1,()))/\(((!(Zc (Z1 (some a)) s at_ 1))=true->Q .ret (⟨[(0,.c (.mref (.A))),pB 8 false],[],[(.A,LC.mk (U:=U) .arena ([a]) 0)]⟩:LSt U))/\((!(Zc (Z1 (some a)) s at_ 1))=false->((0:Int)<=s/\s < ((Arena.segs a).length:Int))/\((0:Int)<=at_/\at_ < ((List.getD (Arena.segs a) s.toNat []).length:Int))/\(Q .ret (⟨[(0,.c (.mref (.A))),pB 8 true],[],[(.A,LC.mk (U:=U) .arena ([Arena.mk (List.set (Arena.segs a) s.toNat (List.set (List.getD (Arena.segs a) s.toNat []) at_.toNat w)) (Arena.size a) (Arena.most a) (Arena.used a)]) 0)]⟩:LSt U))))):
  W79 a s at_ w Q:=by
 have e_:(W79 a s at_ w Q)=((Z4n ((some a),s,at_,1,()))/\(((!(Zc (Z1 (some a)) s at_ 1))=true->(Q .ret (⟨[(0,.c (.mref (.A))),pB 8 false],[],[(.A,LC.mk (U:=U) .arena ([a]) 0)]⟩:LSt U)))/\((!(Zc (Z1 (some a)) s at_ 1))=false->((0:Int)<=s/\s < ((Arena.segs a).length:Int))/\((0:Int)<=at_/\at_ < ((List.getD (Arena.segs a) s.toNat []).length:Int))/\(Q .ret (⟨[(0,.c (.mref (.A))),pB 8 true],[],[(.A,LC.mk (U:=U) .arena ([Arena.mk (List.set (Arena.segs a) s.toNat (List.set (List.getD (Arena.segs a) s.toNat []) at_.toNat w)) (Arena.size a) (Arena.most a) (Arena.used a)]) 0)]⟩:LSt U))))):=by kernel_rfl
 exact e_.mpr ⟨h.1,⟨fun c_5=> (h.2.1 c_5),fun c_5=> ⟨(h.2.2 c_5).1,(h.2.2 c_5).2.1,(h.2.2 c_5).2.2⟩⟩⟩
abbrev ZpY(a:Arena)(s at_ w:Int):Prop:=AW (Z0 Zj4) Try.f79 ZoW [] (Yu (Zbo.can (a,s,at_,w,())) (Zbo.canX (a,s,at_,w,())) (Zbo.canL (a,s,at_,w,()))) (YQ cfg Try.f79.ntmps Try.f79.results.toList (ZeB (a,s,at_,w,())) (Zhr (a,s,at_,w,())) (ZaR (a,s,at_,w,())))
theorem Zo0(Z7h:CT 103 YY)(hb:∀ (a:Arena) (s:Int) (at_:Int) (w:Int) (_:Unit),ZeR (a,s,at_,w,())->ZpY a s at_ w):CT 79 Z7J:=
 Contract.passing <| ZM (l:=[(103,YY.lend)]) Zf rfl (⟨Z7h.lend,trivial⟩) ZoW Try.func79 rfl rfl 4 (fun _=> rfl) (by decide) (fun ⟨a,s,at_,w,_⟩=> hb a s at_ w ())
end
end Go.AM.Ytcljdbpmjdgooaa
