import Derived.Test.YtpjenobkibfpcaaGreatZKB20g
import Derived.Test.YtpjenobkibfpcaaGreatZKB20e
import Derived.Test.YtpjenobkibfpcaaGreatZKD24
import Derived.Test.YtpjenobkibfpcaaGreatZKG22a
import Derived.Test.YtpjenobkibfpcaaGreatZKL21n
import Derived.Test.YtpjenobkibfpcaaGreatZCG25a
import Derived.Test.YtpjenobkibfpcaaGreatZKB22c
import Derived.Test.YtpjenobkibfpcaaGreatZCL25j
set_option linter.unusedSimpArgs false
set_option linter.unusedVariables false
namespace Go.AM.YtpjenobkibfpcaaGreat
open Go.AM Go.Proofs
noncomputable section
abbrev Z8(p:Prop):Prop:=p→p
noncomputable section
def Z8y:ArgL (Edit × Int × Unit):=(.cons (aEl .edit) (.cons (YG .i64) .nil))
def JT(a:Edit × Int × Unit):Prop:=(Z9 a.1≤18000000000∧YI a.1)∧0≤a.2.1∧a.2.1≤1000
def Z4c(a:Edit × Int × Unit):Nat:=4*Z9 a.1
def ZdT(a:Edit × Int × Unit):V U:= .c (.bool (Z2 a.1 a.2.1))
def Zdm:Fs U:=fs Z8y (fun a=> [JT a]) ZdT
def Z5A:ArgL (List Kid × Int × Unit):=(.cons (aSl .kid) (.cons (YG .i64) .nil))
def Z3j(a:List Kid × Int × Unit):Prop:=(Zq a.1≤18000000000∧Z0q a.1)∧0≤a.2.1∧a.2.1≤1000
def Z7Q(a:List Kid × Int × Unit):Nat:=4*Zq a.1+2
def Z61(a:List Kid × Int × Unit):V U:= .c (.bool (Zx (-1) a.1 a.2.1))
def ZmR:Fs U:=fs Z5A (fun a=> [Z3j a]) Z61
def Z5z:ArgL (Edit × Int × Unit):=(.cons (aEl .edit) (.cons (YG .i64) .nil))
def Z3i(a:Edit × Int × Unit):Prop:=(Z9 a.1≤18000000000∧YI a.1∧2≤Edit.list a.1∧Edit.list a.1≤9)∧0≤a.2.1∧a.2.1≤1000
def Z7P(a:Edit × Int × Unit):Nat:=4*Zg a.1.ops+2
def Z87(a:Edit × Int × Unit):V U:= .c (.bool (Zp a.1.list a.1.ops a.2.1 && decide (Ym a.1.ops 0 < 1048576∧Jb a.1.ops 0 < 1048576)))
def ZmQ:Fs U:=fs Z5z (fun a=> [Z3i a]) Z87
def Z5y:ArgL (Int × Op × Int × Unit):=(.cons (YG .i64) (.cons (aEl .op) (.cons (YG .i64) .nil)))
def Z3h(a:Int × Op × Int × Unit):Prop:=(Zw a.2.1≤18000000000∧Yz a.2.1∧2≤a.1∧a.1≤9)∧0≤a.2.2.1∧a.2.2.1≤1000
def Z7N(a:Int × Op × Int × Unit):Nat:=4*Zw a.2.1+1
def Z86(a:Int × Op × Int × Unit):V U:= .c (.bool (Zc a.1 a.2.1 a.2.2.1))
def ZmN:Fs U:=fs Z5y (fun a=> [Z3h a]) Z86
def Zv5:ArgL (Edit × Unit):=(.cons (aEl .edit) .nil)
def Zns(a:Edit × Unit):Prop:=Z9 a.1≤18000000000∧YI a.1
def Zzq(a:Edit × Unit):V U:= .c (.bool (Z2 a.1 64))
def Zdw:Fs U:=fs Zv5 (fun a=> [Zns a]) Zzq
def Z8u(N:Nat):List (FuncId × Fs U):=(78,fs Z8y (fun a=> [JT a,Z4c a < N]) ZdT) ::(124,fs Z5A (fun a=> [Z3j a,Z7Q a < N]) Z61) ::(126,fs Z5z (fun a=> [Z3i a,Z7P a < N]) Z87) ::(179,fs Z5y (fun a=> [Z3h a,Z7N a < N]) Z86) ::[(121,Z58),(122,Z57),(123,Z56),(125,Z1E),(216,Z55),(219,Z54),(169,Z0V)]
def ZB6:Zj U:=lvl [([1,2],[2]),([1,2,11],[2]),([4],[]),([1,2,13],[2]),([1,2,13,14],[2]),([4],[]),([1,2,13,16],[2]),([4],[]),([1,2,13,26],[2]),([4],[]),([1,2,38],[2]),([4],[]),([4],[])]
abbrev W78(N:Nat)(e:Edit)(d:Int)(Q:QT):=AW (Z0 (Z8u N)) Tryz.f78 ZB6 [] (L2 [(0,.agg (enc .edit e)),(1,.c (ci d))] []) Q
theorem ZFD(N:Nat)(e:Edit)(d:Int)(Q:QT)(h:∀ y_1,y_1=e→∀ y_2,y_2=(e.new)→∀ y_3,y_3=(e.old)→(Zb0 (y_1,()))∧(((bif (!(Z25 y_1)) then true else (d==0))=true→Q .ret (L2 [(4,.c (.bool false))] []))∧((bif (!(Z25 y_1)) then true else (d==0))=false→((e.kind==0)=true→Q .ret (L2 [(4,.c (.bool true))] []))∧((e.kind==0)=false→((e.kind==1)=true→(Z68 (y_3,()))∧((decide (Tree.kind y_3≠10) && Ze y_3 64)=true→Z68 (y_2,()))∧(Q .ret (L2 [(4,.c (.bool (bif (decide (Tree.kind y_3≠10) && Ze y_3 64) then (decide (Tree.kind y_2≠10) && Ze y_2 64) else false)))] [])))∧((e.kind==1)=false→((e.kind==2)=true→(ZaZ (e.words,()))∧((Zs (-1) e.words)=true→InR (d - 1))∧((Zs (-1) e.words)=true→Z3j (e.kids,(d - 1),()))∧((Zs (-1) e.words)=true→Z7Q (e.kids,(d - 1),()) < N)∧(Q .ret (L2 [(4,.c (.bool (bif (Zs (-1) e.words) then (Zx (-1) e.kids (d - 1)) else false)))] [])))∧((e.kind==2)=false→((e.kind==3)=true→(ZaY (e.list,()))∧((decide (2≤e.list∧e.list≤9))=true→InR (d - 1))∧((decide (2≤e.list∧e.list≤9))=true→Z3i (y_1,(d - 1),()))∧((decide (2≤e.list∧e.list≤9))=true→Z7P (y_1,(d - 1),()) < N)∧(Q .ret (L2 [(4,.c (.bool (bif (decide (2≤e.list∧e.list≤9)) then (Zp y_1.list y_1.ops (d - 1) && decide (Ym y_1.ops 0 < 1048576∧Jb y_1.ops 0 < 1048576)) else false)))] [])))∧((e.kind==3)=false→Q .ret (L2 [(4,.c (.bool false))] [])))))))):
  W78 N e d Q:=by
 have e_:(W78 N e d Q)=(let y_1:=(Yv e);let y_2:=(Z62 e.new);let y_3:=(Z62 e.old);let zz1:=(decide (Tree.kind y_3≠10) && Ze y_3 64);let zz0:=(decide (2≤e.list∧e.list≤9));((Zb0 (y_1,()))∧(Z8 ((!(!(Z25 y_1)))=true))∧((!(Z25 y_1))=false→(!(!(Z25 y_1)))=true)∧(((bif (!(Z25 y_1)) then true else ((d:Int)==0))=true→(Q .ret (L2 [(4,.c (.bool false))] [])))∧((bif (!(Z25 y_1)) then true else ((d:Int)==0))=false→(((e.kind==0)=true→(Q .ret (L2 [(4,.c (.bool true))] [])))∧((e.kind==0)=false→(((e.kind==1)=true→(Z68 (y_3,()))∧(Z8 (zz1=true))∧(Z8 (zz1=true))∧(zz1=true→Z68 (y_2,()))∧(Z8 (zz1=true))∧(Q .ret (L2 [(4,.c (.bool (bif zz1 then (decide (Tree.kind y_2≠10) && Ze y_2 64) else false)))] [])))∧((e.kind==1)=false→(((e.kind==2)=true→(ZaZ (e.words,()))∧(Z8 ((Zs (-1) e.words)=true))∧(Z8 ((Zs (-1) e.words)=true))∧((Zs (-1) e.words)=true→InR ((d:Int) - 1))∧(Z8 ((Zs (-1) e.words)=true))∧(Z8 ((Zs (-1) e.words)=true))∧((Zs (-1) e.words)=true→Z3j (e.kids,((d:Int) - 1),()))∧((Zs (-1) e.words)=true→Z7Q (e.kids,((d:Int) - 1),()) < N)∧(Z8 ((Zs (-1) e.words)=true))∧(Q .ret (L2 [(4,.c (.bool (bif (Zs (-1) e.words) then (Zx (-1) e.kids ((d:Int) - 1)) else false)))] [])))∧((e.kind==2)=false→(((e.kind==3)=true→(ZaY (e.list,()))∧(Z8 (zz0=true))∧(zz0=true→InR ((d:Int) - 1))∧(Z8 (zz0=true))∧(Z8 (zz0=true))∧(zz0=true→Z3i (y_1,((d:Int) - 1),()))∧(zz0=true→Z7P (y_1,((d:Int) - 1),()) < N)∧(Z8 (zz0=true))∧(Q .ret (L2 [(4,.c (.bool (bif zz0 then (Zp y_1.list y_1.ops ((d:Int) - 1) && decide (Ym y_1.ops 0 < 1048576∧Jb y_1.ops 0 < 1048576)) else false)))] [])))∧((e.kind==3)=false→(Q .ret (L2 [(4,.c (.bool false))] [])))))))))))))):=by kernel_rfl
 exact e_.mpr (by intro y_1 y_2 y_3;have hh:=h y_1 (Z6 _) y_2 (Zm _) y_3 (Zm _);exact ⟨hh.1,id,(by generalize (Z25 y_1)=b0;revert b0;decide),⟨fun c_1=> (hh.2.1 c_1),fun c_1=> ⟨fun c_2=> ((hh.2.2 c_1).1 c_2),fun c_2=> ⟨fun c_3=> ⟨(((hh.2.2 c_1).2 c_2).1 c_3).1,id,id,(((hh.2.2 c_1).2 c_2).1 c_3).2.1,(by generalize (decide (Tree.kind y_3≠10))=b0;generalize (Ze y_3 64)=b1;revert b0 b1;decide),(((hh.2.2 c_1).2 c_2).1 c_3).2.2⟩,fun c_3=> ⟨fun c_4=> ⟨((((hh.2.2 c_1).2 c_2).2 c_3).1 c_4).1,id,id,((((hh.2.2 c_1).2 c_2).2 c_3).1 c_4).2.1,id,id,((((hh.2.2 c_1).2 c_2).2 c_3).1 c_4).2.2.1,((((hh.2.2 c_1).2 c_2).2 c_3).1 c_4).2.2.2.1,(by generalize (Zs (-1) e.words)=b0;revert b0;decide),((((hh.2.2 c_1).2 c_2).2 c_3).1 c_4).2.2.2.2⟩,fun c_4=> ⟨fun c_5=> ⟨(((((hh.2.2 c_1).2 c_2).2 c_3).2 c_4).1 c_5).1,id,(((((hh.2.2 c_1).2 c_2).2 c_3).2 c_4).1 c_5).2.1,id,id,(((((hh.2.2 c_1).2 c_2).2 c_3).2 c_4).1 c_5).2.2.1,(((((hh.2.2 c_1).2 c_2).2 c_3).2 c_4).1 c_5).2.2.2.1,(by generalize (decide (2≤e.list∧e.list≤9))=b0;revert b0;decide),(((((hh.2.2 c_1).2 c_2).2 c_3).2 c_4).1 c_5).2.2.2.2⟩,fun c_5=> (((((hh.2.2 c_1).2 c_2).2 c_3).2 c_4).2 c_5)⟩⟩⟩⟩⟩⟩)
def ZCx(N:Nat)(e:Edit)(d:Int):Prop:=AW (Z0 (Z8u N)) Tryz.f78 ZB6 [] (Zl (Z8y.can (e,d,())) []) (EQ Tryz.f78 (ZdT (e,d,())) [])
abbrev ZFn:Prop:=∀ (N:Nat) (e:Edit) (d:Int) (_:Unit),JT (e,d,())→Z4c (e,d,()) < N+1→ZCx N e d
def Z1L(N:Nat):List (FuncId × Fs U):=(78,fs Z8y (fun a=> [JT a,Z4c a < N]) ZdT) ::(124,fs Z5A (fun a=> [Z3j a,Z7Q a < N]) Z61) ::(126,fs Z5z (fun a=> [Z3i a,Z7P a < N]) Z87) ::(179,fs Z5y (fun a=> [Z3h a,Z7N a < N]) Z86) ::[(121,Z58),(122,Z57),(123,Z56),(125,Z1E),(216,Z55),(219,Z54),(169,Z0V)]
def Z9P:Zj U:=lvl [([0,1],[]),([0,1,7,8,9],[]),([0,1,7,8,9,10],[]),([0,1,5,6,7,8,9],[6]),([0,1,7,8,9,49],[]),([4],[]),([0,1,7,8,9],[]),([4],[])]
def Z33(l:List Kid)(d x9:Int):LSt U:=(L2 [(0,.c (sU .kid l .unk)),(1,.c (ci d)),(7,.c (sU .kid l .unk)),(8,.c (ci (l.length:Int))),(9,.c (ci x9))] [])
abbrev ZF7(N:Nat)(l:List Kid)(d:Int)(Q:QT):=AW (Z0 (Z1L N)) Tryz.f124 Z9P [] (L2 [(0,.c (sU .kid l .unk)),(1,.c (ci d))] []) Q
abbrev ZkR(N:Nat):=awp cfg (Z0 (Z1L N)) (ZB cfg (Z0 (Z1L N))) Tryz.f124.ntmps Z9P
abbrev Zjf(N:Nat):=Z5a cfg (Z0 (Z1L N)) (ZB cfg (Z0 (Z1L N))) Tryz.f124.ntmps Z9P
theorem ZE5(N:Nat)(l:List Kid)(d:Int)(Q:QT)(h:Zf (AW (Z0 (Z1L N)) Tryz.f124 Z9P [1,0,1,0,0]) (Z33 l d 0) (xB 0 (SW (Z0 (Z1L N)) Tryz.f124 Z9P [1,1] Q))):
  ZF7 N l d Q:=by
 have e_:(ZF7 N l d Q)=(Zf (ZkR N (cd Tryz.f124 [1,0,1,0,0])) (Z33 l d 0) (xB 0 (Zjf N (cd Tryz.f124 [1,1]) Q))):=by kernel_rfl
 exact e_.mpr h
abbrev ZpK(N:Nat)(l:List Kid)(d x9:Int)(N0:NT)(Q:QT):=AW (Z0 (Z1L N)) Tryz.f124 Z9P [1,0,1,0,0] (Z33 l d x9) (xT N0 (xB 0 (SW (Z0 (Z1L N)) Tryz.f124 Z9P [1,1] Q)))
theorem ZrH(N:Nat)(l:List Kid)(d x9:Int)(N0:NT)(Q:QT)(h:∀ y_1,y_1=(l.getD x9.toNat (KidOf.mk 0 Edit.nil))→∀ y_2,y_2=(List.getD l (Int.toNat (x9 - 1)) (KidOf.mk 0 Edit.nil))→∀ y_3,y_3=(y_1.e)→((decide (x9 < (l.length:Int)))=true→((0:Int)≤x9∧x9 < (l.length:Int))∧((((!(bif (decide (y_1.at_ < 0)) then true else (decide ((65535:Int)≤y_1.at_)))) && (decide ((0:Int) < x9)))=true→InR (x9 - 1))∧(((!(bif (decide (y_1.at_ < 0)) then true else (decide ((65535:Int)≤y_1.at_)))) && (decide ((0:Int) < x9)))=true→(0:Int)≤(x9 - 1)∧(x9 - 1) < (l.length:Int))∧((!(bif (bif (bif (decide (y_1.at_ < 0)) then true else (decide ((65535:Int)≤y_1.at_))) then true else (bif (decide ((0:Int) < x9)) then (decide (y_1.at_≤y_2.at_)) else false)) then true else (y_1.e.kind==0)))=true→JT (y_3,d,()))∧((!(bif (bif (bif (decide (y_1.at_ < 0)) then true else (decide ((65535:Int)≤y_1.at_))) then true else (bif (decide ((0:Int) < x9)) then (decide (y_1.at_≤y_2.at_)) else false)) then true else (y_1.e.kind==0)))=true→Z4c (y_3,d,()) < N)∧(((bif (bif (bif (bif (decide (y_1.at_ < 0)) then true else (decide ((65535:Int)≤y_1.at_))) then true else (bif (decide ((0:Int) < x9)) then (decide (y_1.at_≤y_2.at_)) else false)) then true else (y_1.e.kind==0)) then true else (!(Z2 y_3 d)))=true→Q .ret (L2 [(4,.c (.bool false))] []))∧((bif (bif (bif (bif (decide (y_1.at_ < 0)) then true else (decide ((65535:Int)≤y_1.at_))) then true else (bif (decide ((0:Int) < x9)) then (decide (y_1.at_≤y_2.at_)) else false)) then true else (y_1.e.kind==0)) then true else (!(Z2 y_3 d)))=false→(InR (x9+1))∧(N0 (Z33 l d (x9+1)))))))∧((decide (x9 < (l.length:Int)))=false→Q .ret (L2 [(4,.c (.bool true))] []))):
  ZpK N l d x9 N0 Q:=by
 have e_:(ZpK N l d x9 N0 Q)=(let y_1:=(l.getD x9.toNat (KidOf.mk 0 Edit.nil));let y_2:=(List.getD l (Int.toNat ((x9:Int) - 1)) (KidOf.mk 0 Edit.nil));let y_3:=(Yv y_1.e);let zz4:=(decide (y_1.at_ < 0));let zz3:=(decide ((0:Int) < x9));let zz2:=((y_1.e.kind:Int)==0);let zz1:=(bif zz3 then (decide (y_1.at_≤y_2.at_)) else false);let zz0:=(bif zz4 then true else (decide ((65535:Int)≤y_1.at_)));(((decide ((x9:Int) < (l.length:Int)))=true→((0:Int)≤x9∧x9 < (l.length:Int))∧((Z8 ((!zz4)=true))∧(Z8 ((!zz4)=true))∧(zz4=false→(!zz4)=true)∧(Z8 ((!zz0)=true))∧(Z8 ((!zz0)=true))∧(Z8 (((!zz0) && zz3)=true))∧(((!zz0) && zz3)=true→InR ((x9:Int) - 1))∧(Z8 (((!zz0) && zz3)=true))∧(Z8 (((!zz0) && zz3)=true))∧(((!zz0) && zz3)=true→(0:Int)≤((x9:Int) - 1)∧((x9:Int) - 1) < (l.length:Int))∧(Z8 (((!zz0) && zz3)=true))∧(Z8 (((!zz0) && zz3)=true))∧(Z8 (((!zz0) && zz3)=true))∧(Z8 (((!zz0) && zz3)=true))∧(Z8 (((!zz0) && zz3)=true))∧((!zz0)=true→(True→(!zz0)=true))∧((!zz0)=true→(zz3=true→((!zz0) && zz3)=true))∧(zz0=false→(!zz0)=true)∧(Z8 ((!(bif zz0 then true else zz1))=true))∧(Z8 ((!(bif zz0 then true else zz1))=true))∧(Z8 ((!(bif zz0 then true else zz1))=true))∧((bif zz0 then true else zz1)=false→(!(bif zz0 then true else zz1))=true)∧(Z8 ((!(bif (bif zz0 then true else zz1) then true else zz2))=true))∧(Z8 ((!(bif (bif zz0 then true else zz1) then true else zz2))=true))∧(Z8 ((!(bif (bif zz0 then true else zz1) then true else zz2))=true))∧((!(bif (bif zz0 then true else zz1) then true else zz2))=true→JT (y_3,d,()))∧((!(bif (bif zz0 then true else zz1) then true else zz2))=true→Z4c (y_3,d,()) < N)∧(Z8 ((!(bif (bif zz0 then true else zz1) then true else zz2))=true))∧((bif (bif zz0 then true else zz1) then true else zz2)=false→(!(bif (bif zz0 then true else zz1) then true else zz2))=true)∧(((bif (bif (bif zz0 then true else zz1) then true else zz2) then true else (!(Z2 y_3 d)))=true→(Q .ret (L2 [(4,.c (.bool false))] [])))∧((bif (bif (bif zz0 then true else zz1) then true else zz2) then true else (!(Z2 y_3 d)))=false→(InR ((x9:Int)+1))∧(N0 (Z33 l d ((x9:Int)+1)))))))∧((decide ((x9:Int) < (l.length:Int)))=false→(Q .ret (L2 [(4,.c (.bool true))] []))))):=by kernel_rfl
 exact e_.mpr (by intro y_1 y_2 y_3;have hh:=h y_1 rfl y_2 rfl y_3 (Z6 _);exact ⟨fun c_6=> ⟨(hh.1 c_6).1,⟨id,id,(by generalize (decide ((y_1.at_:Int) < 0))=b0;revert b0;decide),id,id,id,(hh.1 c_6).2.1,id,id,(hh.1 c_6).2.2.1,id,id,id,id,id,(by generalize (decide ((65535:Int)≤y_1.at_))=b0;generalize (decide ((y_1.at_:Int) < 0))=b1;revert b0 b1;decide),(by generalize (decide ((65535:Int)≤y_1.at_))=b0;generalize (decide ((y_1.at_:Int) < 0))=b1;generalize (decide ((0:Int) < x9))=b2;revert b0 b1 b2;decide),(by generalize (decide ((65535:Int)≤y_1.at_))=b0;generalize (decide ((y_1.at_:Int) < 0))=b1;revert b0 b1;decide),id,id,id,(by generalize (decide ((y_1.at_:Int)≤y_2.at_))=b0;generalize (decide ((65535:Int)≤y_1.at_))=b1;generalize (decide ((y_1.at_:Int) < 0))=b2;generalize (decide ((0:Int) < x9))=b3;revert b0 b1 b2 b3;decide),id,id,id,(hh.1 c_6).2.2.2.1,(hh.1 c_6).2.2.2.2.1,id,(by generalize (decide ((y_1.at_:Int)≤y_2.at_))=b0;generalize (decide ((65535:Int)≤y_1.at_))=b1;generalize ((y_1.e.kind:Int)==0)=b2;generalize (decide ((y_1.at_:Int) < 0))=b3;generalize (decide ((0:Int) < x9))=b4;revert b0 b1 b2 b3 b4;decide),⟨fun c_7=> ((hh.1 c_6).2.2.2.2.2.1 c_7),fun c_7=> ⟨((hh.1 c_6).2.2.2.2.2.2 c_7).1,((hh.1 c_6).2.2.2.2.2.2 c_7).2⟩⟩⟩⟩,fun c_6=> (hh.2 c_6)⟩)
def Zz0(N:Nat)(l:List Kid)(d:Int):Prop:=AW (Z0 (Z1L N)) Tryz.f124 Z9P [] (Zl (Z5A.can (l,d,())) []) (EQ Tryz.f124 (Z61 (l,d,())) [])
abbrev ZA4:Prop:=∀ (N:Nat) (l:List Kid) (d:Int) (_:Unit),Z3j (l,d,())→Z7Q (l,d,()) < N+1→Zz0 N l d
def Z1K(N:Nat):List (FuncId × Fs U):=(78,fs Z8y (fun a=> [JT a,Z4c a < N]) ZdT) ::(124,fs Z5A (fun a=> [Z3j a,Z7Q a < N]) Z61) ::(126,fs Z5z (fun a=> [Z3i a,Z7P a < N]) Z87) ::(179,fs Z5y (fun a=> [Z3h a,Z7N a < N]) Z86) ::[(121,Z58),(122,Z57),(123,Z56),(125,Z1E),(216,Z55),(219,Z54),(169,Z0V)]
def Z9O:Zj U:=lvl [([1,2],[2]),([1,2,10,11,12],[2]),([1,2,10,11,12,13],[2]),([1,2,6,10,11,12],[2,6]),([1,2,10,11,12,21],[2]),([4],[]),([1,2,10,11,12],[2]),([7,8],[]),([4],[])]
def Z32(e:Edit)(d x12:Int):LSt U:=(L2 [(1,.c (ci d)),(2,.ptr (.loc 2) 0),(10,.c (sU .op e.ops .unk)),(11,.c (ci (e.ops.length:Int))),(12,.c (ci x12))] [(.loc 2,(enc .edit e))])
abbrev ZF6(N:Nat)(e:Edit)(d:Int)(Q:QT):=AW (Z0 (Z1K N)) Tryz.f126 Z9O [] (L2 [(0,.agg (enc .edit e)),(1,.c (ci d))] []) Q
abbrev ZkQ(N:Nat):=awp cfg (Z0 (Z1K N)) (ZB cfg (Z0 (Z1K N))) Tryz.f126.ntmps Z9O
abbrev Zje(N:Nat):=Z5a cfg (Z0 (Z1K N)) (ZB cfg (Z0 (Z1K N))) Tryz.f126.ntmps Z9O
theorem ZE3(N:Nat)(e:Edit)(d:Int)(Q:QT)(h:Zf (AW (Z0 (Z1K N)) Tryz.f126 Z9O [1,0,1,0,0]) (Z32 e d 0) (xB 0 (SW (Z0 (Z1K N)) Tryz.f126 Z9O [1,1] Q))):
  ZF6 N e d Q:=by
 have e_:(ZF6 N e d Q)=(Zf (ZkQ N (cd Tryz.f126 [1,0,1,0,0])) (Z32 e d 0) (xB 0 (Zje N (cd Tryz.f126 [1,1]) Q))):=by kernel_rfl
 exact e_.mpr h
abbrev ZpJ(N:Nat)(e:Edit)(d x12:Int)(N0:NT)(Q:QT):=AW (Z0 (Z1K N)) Tryz.f126 Z9O [1,0,1,0,0] (Z32 e d x12) (xT N0 (xB 0 (SW (Z0 (Z1K N)) Tryz.f126 Z9O [1,1] Q)))
theorem ZrG(N:Nat)(e:Edit)(d x12:Int)(N0:NT)(Q:QT)(h:∀ y_1,y_1=e→∀ y_2,y_2=(e.ops.getD x12.toNat Op.nil)→∀ y_3,y_3=y_2→((decide (x12 < (e.ops.length:Int)))=true→((0:Int)≤x12∧x12 < (e.ops.length:Int))∧((Z3h (e.list,y_3,d,()))∧(Z7N (e.list,y_3,d,()) < N)∧(((!(Zc e.list y_3 d))=true→Q .ret (L2 [(4,.c (.bool false))] []))∧((!(Zc e.list y_3 d))=false→(InR (x12+1))∧(N0 (Z32 e d (x12+1)))))))∧((decide (x12 < (e.ops.length:Int)))=false→(Z8e (y_1,()))∧(Q .ret (L2 [(4,.c (.bool (bif (decide (((Z16 y_1.ops 0):Int) < 1048576)) then (decide (((Z2e y_1.ops 0):Int) < 1048576)) else false)))] [])))):
  ZpJ N e d x12 N0 Q:=by
 have e_:(ZpJ N e d x12 N0 Q)=(let y_1:=(Yv e);let y_2:=(e.ops.getD x12.toNat Op.nil);let y_3:=(Zlz y_2);let zz0:=(decide (((Z16 y_1.ops 0):Int) < 1048576));(((decide ((x12:Int) < (e.ops.length:Int)))=true→((0:Int)≤x12∧x12 < (e.ops.length:Int))∧((Z3h (e.list,y_3,d,()))∧(Z7N (e.list,y_3,d,()) < N)∧(((!(Zc e.list y_3 d))=true→(Q .ret (L2 [(4,.c (.bool false))] [])))∧((!(Zc e.list y_3 d))=false→(InR ((x12:Int)+1))∧(N0 (Z32 e d ((x12:Int)+1)))))))∧((decide ((x12:Int) < (e.ops.length:Int)))=false→(Z8e (y_1,()))∧((Z8 (zz0=true))∧(Z8 (zz0=true))∧(Q .ret (L2 [(4,.c (.bool (bif zz0 then (decide (((Z2e y_1.ops 0):Int) < 1048576)) else false)))] [])))))):=by kernel_rfl
 exact e_.mpr (by intro y_1 y_2 y_3;have hh:=h y_1 (Z6 _) y_2 rfl y_3 (YX _);exact ⟨fun c_8=> ⟨(hh.1 c_8).1,⟨(hh.1 c_8).2.1,(hh.1 c_8).2.2.1,⟨fun c_9=> ((hh.1 c_8).2.2.2.1 c_9),fun c_9=> ⟨((hh.1 c_8).2.2.2.2 c_9).1,((hh.1 c_8).2.2.2.2 c_9).2⟩⟩⟩⟩,fun c_8=> ⟨(hh.2 c_8).1,⟨id,(by generalize (decide (((Z16 y_1.ops 0):Int) < 1048576))=b0;revert b0;decide),(hh.2 c_8).2⟩⟩⟩)
def ZyY(N:Nat)(e:Edit)(d:Int):Prop:=AW (Z0 (Z1K N)) Tryz.f126 Z9O [] (Zl (Z5z.can (e,d,())) []) (EQ Tryz.f126 (Z87 (e,d,())) [])
abbrev ZA3:Prop:=∀ (N:Nat) (e:Edit) (d:Int) (_:Unit),Z3i (e,d,())→Z7P (e,d,()) < N+1→ZyY N e d
def Zoo(N:Nat):List (FuncId × Fs U):=(78,fs Z8y (fun a=> [JT a,Z4c a < N]) ZdT) ::(124,fs Z5A (fun a=> [Z3j a,Z7Q a < N]) Z61) ::(126,fs Z5z (fun a=> [Z3i a,Z7P a < N]) Z87) ::(179,fs Z5y (fun a=> [Z3h a,Z7N a < N]) Z86) ::[(121,Z58),(122,Z57),(123,Z56),(125,Z1E),(216,Z55),(219,Z54),(169,Z0V)]
def ZtU:Zj U:=lvl [([2,3,4],[3,4]),([2,3,4,8],[3,4]),([2,3,4,8,9],[3,4]),([2,3,4,8,11],[3,4]),([2,3,4,8,13],[3,4]),([2,3,4,15],[3,4]),([6],[]),([6],[]),([6],[]),([6],[])]
abbrev ZEW(N:Nat)(list:Int)(o:Op)(d:Int)(Q:QT):=AW (Z0 (Zoo N)) Tryz.f179 ZtU [] (L2 [(0,.c (ci list)),(1,.agg (enc .op o)),(2,.c (ci d))] []) Q
theorem ZDG(N:Nat)(list:Int)(o:Op)(d:Int)(Q:QT)(h:∀ y_1,y_1=(o.e)→∀ y_2,y_2=(.bool (bif (bif (bif (bif (o.n==0) then (decide ((0:Int) < (o.l.length:Int))) else false) then (Z2 y_1 1) else false) then (o.e.kind==0) else false) then (!(!(JA list o.l))) else false))→((o.kind==0)=true→((bif (bif (decide ((1:Int)≤o.n)) then (decide (o.n≤1048576)) else false) then (((o.l.length:Int):Int)==0) else false)=true→JT (y_1,1,()))∧((bif (bif (decide ((1:Int)≤o.n)) then (decide (o.n≤1048576)) else false) then (((o.l.length:Int):Int)==0) else false)=true→Z4c (y_1,1,()) < N)∧(Q .ret (L2 [(6,.c (.bool (bif (bif (bif (bif (decide ((1:Int)≤o.n)) then (decide (o.n≤1048576)) else false) then (((o.l.length:Int):Int)==0) else false) then (Z2 y_1 1) else false) then (o.e.kind==0) else false)))] [])))∧((o.kind==0)=false→((o.kind==1)=true→((bif (o.n==0) then (decide ((0:Int) < (o.l.length:Int))) else false)=true→JT (y_1,1,()))∧((bif (o.n==0) then (decide ((0:Int) < (o.l.length:Int))) else false)=true→Z4c (y_1,1,()) < N)∧((bif (bif (bif (o.n==0) then (decide ((0:Int) < (o.l.length:Int))) else false) then (Z2 y_1 1) else false) then (o.e.kind==0) else false)=true→Z5h (o.l,(list,()),()))∧(Q .ret (L2 [(6,.c y_2)] [])))∧((o.kind==1)=false→((o.kind==2)=true→((bif (o.n==0) then (decide ((0:Int) < (o.l.length:Int))) else false)=true→JT (y_1,1,()))∧((bif (o.n==0) then (decide ((0:Int) < (o.l.length:Int))) else false)=true→Z4c (y_1,1,()) < N)∧((bif (bif (bif (o.n==0) then (decide ((0:Int) < (o.l.length:Int))) else false) then (Z2 y_1 1) else false) then (o.e.kind==0) else false)=true→Z5h (o.l,(list,()),()))∧(Q .ret (L2 [(6,.c y_2)] [])))∧((o.kind==2)=false→((o.kind==3)=true→((bif (o.n==0) then (((o.l.length:Int):Int)==0) else false)=true→Zhy (list,y_1,()))∧((bif (bif (o.n==0) then (((o.l.length:Int):Int)==0) else false) then (YN list y_1) else false)=true→JT (y_1,d,()))∧((bif (bif (o.n==0) then (((o.l.length:Int):Int)==0) else false) then (YN list y_1) else false)=true→Z4c (y_1,d,()) < N)∧(Q .ret (L2 [(6,.c (.bool (bif (bif (bif (o.n==0) then (((o.l.length:Int):Int)==0) else false) then (YN list y_1) else false) then (Z2 y_1 d) else false)))] [])))∧((o.kind==3)=false→Q .ret (L2 [(6,.c (.bool false))] [])))))):
  ZEW N list o d Q:=by
 have e_:(ZEW N list o d Q)=(let y_1:=(Yv o.e);let y_2:=(.bool (bif (bif (bif (bif (o.n==0) then (decide ((0:Int) < (o.l.length:Int))) else false) then (Z2 y_1 1) else false) then ((o.e.kind:Int)==0) else false) then (!(!(JA list o.l))) else false));let zz5:=(decide ((1:Int)≤o.n));let zz4:=(bif zz5 then (decide (o.n≤1048576)) else false);let zz3:=((o.e.kind:Int)==0);let zz2:=(bif (o.n==0) then ((o.l.length:Int)==0) else false);let zz1:=(bif zz4 then ((o.l.length:Int)==0) else false);let zz0:=(bif (o.n==0) then (decide ((0:Int) < (o.l.length:Int))) else false);(((o.kind==0)=true→(Z8 (zz5=true))∧(Z8 (zz5=true))∧(Z8 (zz5=true))∧(Z8 (zz4=true))∧(Z8 (zz4=true))∧(Z8 (zz4=true))∧(Z8 (zz4=true))∧(Z8 (zz1=true))∧(Z8 (zz1=true))∧(zz1=true→JT (y_1,1,()))∧(zz1=true→Z4c (y_1,1,()) < N)∧(Z8 (zz1=true))∧(Z8 ((bif zz1 then (Z2 y_1 1) else false)=true))∧(Z8 ((bif zz1 then (Z2 y_1 1) else false)=true))∧(Z8 ((bif zz1 then (Z2 y_1 1) else false)=true))∧(Z8 ((bif zz1 then (Z2 y_1 1) else false)=true))∧(Q .ret (L2 [(6,.c (.bool (bif (bif zz1 then (Z2 y_1 1) else false) then zz3 else false)))] [])))∧((o.kind==0)=false→(((o.kind==1)=true→(Z8 ((o.n==0)=true))∧(Z8 ((o.n==0)=true))∧(Z8 ((o.n==0)=true))∧(Z8 ((o.n==0)=true))∧(Z8 (zz0=true))∧(Z8 (zz0=true))∧(zz0=true→JT (y_1,1,()))∧(zz0=true→Z4c (y_1,1,()) < N)∧(Z8 (zz0=true))∧(Z8 ((bif zz0 then (Z2 y_1 1) else false)=true))∧(Z8 ((bif zz0 then (Z2 y_1 1) else false)=true))∧(Z8 ((bif zz0 then (Z2 y_1 1) else false)=true))∧(Z8 ((bif zz0 then (Z2 y_1 1) else false)=true))∧(Z8 ((bif (bif zz0 then (Z2 y_1 1) else false) then zz3 else false)=true))∧(Z8 ((bif (bif zz0 then (Z2 y_1 1) else false) then zz3 else false)=true))∧(Z8 ((bif (bif zz0 then (Z2 y_1 1) else false) then zz3 else false)=true))∧((bif (bif zz0 then (Z2 y_1 1) else false) then zz3 else false)=true→Z5h (o.l,(list,()),()))∧(Z8 ((bif (bif zz0 then (Z2 y_1 1) else false) then zz3 else false)=true))∧(Z8 ((bif (bif zz0 then (Z2 y_1 1) else false) then zz3 else false)=true))∧(Q .ret (L2 [(6,.c y_2)] [])))∧((o.kind==1)=false→(((o.kind==2)=true→(Z8 ((o.n==0)=true))∧(Z8 ((o.n==0)=true))∧(Z8 ((o.n==0)=true))∧(Z8 ((o.n==0)=true))∧(Z8 (zz0=true))∧(Z8 (zz0=true))∧(zz0=true→JT (y_1,1,()))∧(zz0=true→Z4c (y_1,1,()) < N)∧(Z8 (zz0=true))∧(Z8 ((bif zz0 then (Z2 y_1 1) else false)=true))∧(Z8 ((bif zz0 then (Z2 y_1 1) else false)=true))∧(Z8 ((bif zz0 then (Z2 y_1 1) else false)=true))∧(Z8 ((bif zz0 then (Z2 y_1 1) else false)=true))∧(Z8 ((bif (bif zz0 then (Z2 y_1 1) else false) then zz3 else false)=true))∧(Z8 ((bif (bif zz0 then (Z2 y_1 1) else false) then zz3 else false)=true))∧(Z8 ((bif (bif zz0 then (Z2 y_1 1) else false) then zz3 else false)=true))∧((bif (bif zz0 then (Z2 y_1 1) else false) then zz3 else false)=true→Z5h (o.l,(list,()),()))∧(Z8 ((bif (bif zz0 then (Z2 y_1 1) else false) then zz3 else false)=true))∧(Z8 ((bif (bif zz0 then (Z2 y_1 1) else false) then zz3 else false)=true))∧(Q .ret (L2 [(6,.c y_2)] [])))∧((o.kind==2)=false→(((o.kind==3)=true→(Z8 ((o.n==0)=true))∧(Z8 ((o.n==0)=true))∧(Z8 ((o.n==0)=true))∧(Z8 ((o.n==0)=true))∧(Z8 (zz2=true))∧(Z8 (zz2=true))∧(Z8 (zz2=true))∧(zz2=true→Zhy (list,y_1,()))∧(Z8 (zz2=true))∧(Z8 ((bif zz2 then (YN list y_1) else false)=true))∧(Z8 ((bif zz2 then (YN list y_1) else false)=true))∧(Z8 ((bif zz2 then (YN list y_1) else false)=true))∧((bif zz2 then (YN list y_1) else false)=true→JT (y_1,d,()))∧((bif zz2 then (YN list y_1) else false)=true→Z4c (y_1,d,()) < N)∧(Z8 ((bif zz2 then (YN list y_1) else false)=true))∧(Q .ret (L2 [(6,.c (.bool (bif (bif zz2 then (YN list y_1) else false) then (Z2 y_1 d) else false)))] [])))∧((o.kind==3)=false→(Q .ret (L2 [(6,.c (.bool false))] []))))))))))):=by kernel_rfl
 exact e_.mpr (by intro y_1 y_2;have hh:=h y_1 (Z6 _) y_2 rfl;exact ⟨fun c_10=> ⟨id,id,(by generalize (decide ((1:Int)≤o.n))=b0;revert b0;decide),id,id,id,(by generalize (decide ((o.n:Int)≤1048576))=b0;generalize (decide ((1:Int)≤o.n))=b1;revert b0 b1;decide),id,id,(hh.1 c_10).1,(hh.1 c_10).2.1,(by generalize (((o.l.length:Int):Int)==0)=b0;generalize (decide ((o.n:Int)≤1048576))=b1;generalize (decide ((1:Int)≤o.n))=b2;revert b0 b1 b2;decide),id,id,id,(by generalize (Z2 y_1 1)=b0;generalize (((o.l.length:Int):Int)==0)=b1;generalize (decide ((o.n:Int)≤1048576))=b2;generalize (decide ((1:Int)≤o.n))=b3;revert b0 b1 b2 b3;decide),(hh.1 c_10).2.2⟩,fun c_10=> ⟨fun c_11=> ⟨id,id,id,(by generalize ((o.n:Int)==0)=b0;revert b0;decide),id,id,((hh.2 c_10).1 c_11).1,((hh.2 c_10).1 c_11).2.1,(by generalize (decide ((0:Int) < (o.l.length:Int)))=b0;generalize ((o.n:Int)==0)=b1;revert b0 b1;decide),id,id,id,(by generalize (Z2 y_1 1)=b0;generalize (decide ((0:Int) < (o.l.length:Int)))=b1;generalize ((o.n:Int)==0)=b2;revert b0 b1 b2;decide),id,id,id,((hh.2 c_10).1 c_11).2.2.1,id,(by generalize (Z2 y_1 1)=b0;generalize (decide ((0:Int) < (o.l.length:Int)))=b1;generalize ((o.e.kind:Int)==0)=b2;generalize ((o.n:Int)==0)=b3;revert b0 b1 b2 b3;decide),((hh.2 c_10).1 c_11).2.2.2⟩,fun c_11=> ⟨fun c_12=> ⟨id,id,id,(by generalize ((o.n:Int)==0)=b0;revert b0;decide),id,id,(((hh.2 c_10).2 c_11).1 c_12).1,(((hh.2 c_10).2 c_11).1 c_12).2.1,(by generalize (decide ((0:Int) < (o.l.length:Int)))=b0;generalize ((o.n:Int)==0)=b1;revert b0 b1;decide),id,id,id,(by generalize (Z2 y_1 1)=b0;generalize (decide ((0:Int) < (o.l.length:Int)))=b1;generalize ((o.n:Int)==0)=b2;revert b0 b1 b2;decide),id,id,id,(((hh.2 c_10).2 c_11).1 c_12).2.2.1,id,(by generalize (Z2 y_1 1)=b0;generalize (decide ((0:Int) < (o.l.length:Int)))=b1;generalize ((o.e.kind:Int)==0)=b2;generalize ((o.n:Int)==0)=b3;revert b0 b1 b2 b3;decide),(((hh.2 c_10).2 c_11).1 c_12).2.2.2⟩,fun c_12=> ⟨fun c_13=> ⟨id,id,id,(by generalize ((o.n:Int)==0)=b0;revert b0;decide),id,id,id,((((hh.2 c_10).2 c_11).2 c_12).1 c_13).1,(by generalize (((o.l.length:Int):Int)==0)=b0;generalize ((o.n:Int)==0)=b1;revert b0 b1;decide),id,id,id,((((hh.2 c_10).2 c_11).2 c_12).1 c_13).2.1,((((hh.2 c_10).2 c_11).2 c_12).1 c_13).2.2.1,(by generalize (YN list y_1)=b0;generalize (((o.l.length:Int):Int)==0)=b1;generalize ((o.n:Int)==0)=b2;revert b0 b1 b2;decide),((((hh.2 c_10).2 c_11).2 c_12).1 c_13).2.2.2⟩,fun c_13=> ((((hh.2 c_10).2 c_11).2 c_12).2 c_13)⟩⟩⟩⟩)
def ZyB(N:Nat)(list:Int)(o:Op)(d:Int):Prop:=AW (Z0 (Zoo N)) Tryz.f179 ZtU [] (Zl (Z5y.can (list,o,d,())) []) (EQ Tryz.f179 (Z86 (list,o,d,())) [])
abbrev ZzZ:Prop:=∀ (N:Nat) (list:Int) (o:Op) (d:Int) (_:Unit),Z3h (list,o,d,())→Z7N (list,o,d,()) < N+1→ZyB N list o d
def Zuq:List (FuncId × Fs U):=[(78,Zdm)]
def ZBb:Zj U:=lvl [([1],[1]),([2],[])]
abbrev W28(e:Edit)(Q:QT):=AW (Z0 Zuq) Tryz.f28 ZBb [] (L2 [(0,.agg (enc .edit e))] []) Q
theorem ZFT(e:Edit)(Q:QT)(h:(JT ((Edit.mk e.kind (Tree.mk e.old.kind e.old.words e.old.kids) (Tree.mk e.new.kind e.new.words e.new.kids) e.words e.kids e.list e.ops),64,()))∧(Q .ret (L2 [(2,.c (.bool (Z2 (Edit.mk e.kind (Tree.mk e.old.kind e.old.words e.old.kids) (Tree.mk e.new.kind e.new.words e.new.kids) e.words e.kids e.list e.ops) 64)))] []))):
  W28 e Q:=by
 have e_:(W28 e Q)=(type_of% h):=by kernel_rfl
 exact e_.mpr ⟨h.1,h.2⟩
def ZCN(e:Edit):Prop:=AW (Z0 Zuq) Tryz.f28 ZBb [] (Zl (Zv5.can (e,())) []) (EQ Tryz.f28 (Zzq (e,())) [])
theorem ZAU(c78:CT 78 Zdm)(hb:∀ (e:Edit) (_:Unit),Zns (e,())→ZCN e):CT 28 Zdw:=
 Z4 (l:=[(78,Zdm)]) Zo rfl (⟨c78,trivial⟩) ZBb Tryz.func28 rfl rfl 1 (fun _=> rfl) (by decide) (fun ⟨e,_⟩=> hb e ())
theorem Zwr(ZC2:CT 121 Z58)(ZC1:CT 122 Z57)(ZC0:CT 123 Z56)(ZqZ:CT 125 Z1E)(ZBB:CT 216 Z55)(ZBy:CT 219 Z54)(ZqX:CT 169 Z0V)(b78:ZFn)(ZCh:ZA4)(ZCg:ZA3)(ZCd:ZzZ):
  CT 78 Zdm∧CT 124 ZmR∧CT 126 ZmQ∧CT 179 ZmN:=by
 have h87 : ∃ fn, Tryz.prog.funcs[(78 : FuncId)]? = some fn ∧ fn.body.isSome = true ∧ (fn.name == "runtime.NumGoroutine") = false := ⟨Tryz.f78, Tryz.func78, rfl, rfl⟩
 have h121 : ∃ fn, Tryz.prog.funcs[(124 : FuncId)]? = some fn ∧ fn.body.isSome = true ∧ (fn.name == "runtime.NumGoroutine") = false := ⟨Tryz.f124, Tryz.func124, rfl, rfl⟩
 have h122 : ∃ fn, Tryz.prog.funcs[(126 : FuncId)]? = some fn ∧ fn.body.isSome = true ∧ (fn.name == "runtime.NumGoroutine") = false := ⟨Tryz.f126, Tryz.func126, rfl, rfl⟩
 have h132 : ∃ fn, Tryz.prog.funcs[(179 : FuncId)]? = some fn ∧ fn.body.isSome = true ∧ (fn.name == "runtime.NumGoroutine") = false := ⟨Tryz.f179, Tryz.func179, rfl, rfl⟩
 have key:∀ N,CT 78 (fs Z8y (fun a=> [JT a,Z4c a < N]) ZdT)∧CT 124 (fs Z5A (fun a=> [Z3j a,Z7Q a < N]) Z61)∧CT 126 (fs Z5z (fun a=> [Z3i a,Z7P a < N]) Z87)∧CT 179 (fs Z5y (fun a=> [Z3h a,Z7N a < N]) Z86):=by
  intro N
  induction N with
  | zero=> exact ⟨JG h87,JG h121,JG h122,JG h132⟩
  | succ N ih=>
   have kn:=Z0x (l:=Z8u N) ⟨ih.1,ih.2.1,ih.2.2.1,ih.2.2.2,ZC2,ZC1,ZC0,ZqZ,ZBB,ZBy,ZqX,trivial⟩
   exact ⟨ZO (Γ:=Z0 (Z8u N)) Zo rfl kn ZB6 Tryz.func78 rfl rfl (fun a=> by show 2≤_;decide) (fun ⟨e,d,_⟩ h=> b78 N e d () h.1 h.2.1),
    ZO (Γ:=Z0 (Z8u N)) Zo rfl kn Z9P Tryz.func124 rfl rfl (fun a=> by show 2≤_;decide) (fun ⟨l,d,_⟩ h=> ZCh N l d () h.1 h.2.1),
    ZO (Γ:=Z0 (Z8u N)) Zo rfl kn Z9O Tryz.func126 rfl rfl (fun a=> by show 2≤_;decide) (fun ⟨e,d,_⟩ h=> ZCg N e d () h.1 h.2.1),
    ZO (Γ:=Z0 (Z8u N)) Zo rfl kn ZtU Tryz.func179 rfl rfl (fun a=> by show 3≤_;decide) (fun ⟨list,o,d,_⟩ h=> ZCd N list o d () h.1 h.2.1)⟩
 exact ⟨JH h87 fun N=> (key N).1,JH h121 fun N=> (key N).2.1,JH h122 fun N=> (key N).2.2.1,JH h132 fun N=> (key N).2.2.2⟩
end
end
end Go.AM.YtpjenobkibfpcaaGreat
namespace Go.AM.YtpjenobkibfpcaaGreat
open Go.AM Go.Proofs
theorem Zq3{e:Edit}:(Z2 e 1=true∧e.kind=0)↔Z1g e=true:=by
 rw [Z4o]
 simp only [Z1g,Bool.and_eq_true,decide_eq_true_eq]
 by_cases hk:e.kind=0
 ·rw [if_neg (by omega)]
  by_cases hb:ZZ e.old=true∧ZZ e.new=true
  ·by_cases hw:e.words.length=0∧e.kids.length=0
   ·by_cases hl:e.list=0∧e.ops.length=0
    ·have h1:e.words=[]:=List.length_eq_zero_iff.1 hw.1
     have h2:e.kids=[]:=List.length_eq_zero_iff.1 hw.2
     have h3:e.ops=[]:=List.length_eq_zero_iff.1 hl.2
     rw [if_neg (fun h=> by rcases h with h | h | h;exact h.2 hb;exact h.2 hw;omega),if_neg (by omega),h1,h2,h3]
     simp only [Zs,Zx,Zp,Ym,Jb,Bool.true_and,Bool.and_true,Bool.and_eq_true,decide_eq_true_eq]
     refine ⟨fun _=> ⟨⟨⟨hk,hb.1⟩,hb.2⟩,rfl,rfl,rfl,hl.1⟩,fun _=> by simp [hk]⟩
    ·rw [if_pos (Or.inr (Or.inr ⟨by omega,by omega⟩))]
     refine ⟨fun h=> (nomatch h.1),fun h=> absurd ⟨h.2.2.2.2,h.2.2.2.1⟩ hl⟩
   ·rw [if_pos (Or.inr (Or.inl ⟨by omega,hw⟩))]
    refine ⟨fun h=> (nomatch h.1),fun h=> absurd ⟨h.2.1,h.2.2.1⟩ hw⟩
  ·rw [if_pos (Or.inl ⟨by omega,hb⟩)]
   refine ⟨fun h=> (nomatch h.1),fun h=> absurd ⟨h.1.1.2,h.1.2⟩ hb⟩
 ·exact ⟨fun h=> absurd h.2 hk,fun h=> absurd h.1.1.1 hk⟩
theorem b78:ZFn:=by
 intro N e d _ hp hN
 simp only [JT,Z4c] at hp hN
 obtain ⟨⟨hm,hr⟩,hd0,hd1⟩:=hp
 obtain ⟨ik,ro,rn,rw',il,rk,ros⟩:=Z3I hr
 have hme:=Yg e
 have hkl:=Y2 e.kids
 have hol:=ZQ e.ops
 have hat:=Z4o e d
 rw [ZoL hd0] at hat
 refine ZFD N e d _ ?_
 rintro y1 hy1 y2 hy2 y3 hy3
 subst hy1 hy2 hy3
 (simp only [vcS])
 have hbare:Z25 y1=true↔¬((y1.kind≠1∧¬(ZZ y1.old=true∧ZZ y1.new=true))∨(y1.kind≠2∧¬(y1.words.length=0∧y1.kids.length=0))∨(y1.kind≠3∧(y1.list≠0∨y1.ops.length≠0))):=by
  unfold Z25
  split
  ·rename_i h;exact ⟨fun h=> (nomatch h),fun h2=> absurd h h2⟩
  ·rename_i h;exact ⟨fun _=> h,fun _=> rfl⟩
 refine ⟨by simp only [Zb0];omega,fun hc=> Z5 rfl ?_,fun hc=> ?_⟩
 ·rcases hc with hc | hc
  ·rw [hat]
   split
   ·try rfl
   ·rw [if_pos (Classical.byContradiction fun h=> by rw [hbare.2 h] at hc;cases hc)]
  ·rw [hat,if_pos (Or.inl hc)]
 have hb:=hbare.1 hc.1
 have hr2:¬(y1.kind=0∨y1.kind=1∨y1.kind=2∨y1.kind=3)→Z2 y1 d=false:=fun h=> by rw [hat,if_pos (by omega)]
 by_cases hk:y1.kind=0∨y1.kind=1∨y1.kind=2∨y1.kind=3
 ·rw [if_neg (by omega),if_neg hb] at hat
  have hw:y1.kind≠2→y1.words=[]∧y1.kids=[]:=by
   intro h
   have:y1.words.length=0∧y1.kids.length=0:=Classical.byContradiction fun h2=> hb (Or.inr (Or.inl ⟨h,h2⟩))
   exact ⟨List.length_eq_zero_iff.1 this.1,List.length_eq_zero_iff.1 this.2⟩
  have ho:y1.kind≠3→y1.list=0∧y1.ops=[]:=by
   intro h
   have:y1.list=0∧y1.ops.length=0:=by
    constructor
    ·exact Classical.byContradiction fun h2=> hb (Or.inr (Or.inr ⟨h,Or.inl h2⟩))
    ·exact Classical.byContradiction fun h2=> hb (Or.inr (Or.inr ⟨h,Or.inr h2⟩))
   exact ⟨this.1,List.length_eq_zero_iff.1 this.2⟩
  refine ⟨fun h0=> Z5 rfl ?_,fun h0=> ⟨fun h1=> ⟨by simp only [Z68];exact ⟨by omega,ro⟩,fun _=> by simp only [Z68];exact ⟨by omega,rn⟩,Z5 rfl ?_⟩,fun h1=> ⟨fun h2=> ⟨by simp only [ZaZ];exact ⟨by omega,rw'⟩,fun _=> by unfold InR;omega,fun _=> by simp only [Z3j];exact ⟨⟨by omega,rk⟩,by omega,by omega⟩,fun _=> by simp only [Z7Q];omega,Z5 rfl ?_⟩,fun h2=> ⟨fun h3=> ⟨trivial,fun _=> by unfold InR;omega,fun hl=> by simp only [Z3i];exact ⟨⟨by omega,hr,hl⟩,by omega,by omega⟩,fun _=> by simp only [Z7P];omega,Z5 rfl ?_⟩,fun h3=> ?_⟩⟩⟩⟩
  ·rw [hat,if_neg (by omega),(hw (by omega)).1,(hw (by omega)).2,(ho (by omega)).1,(ho (by omega)).2]
   simp [Zs,Zx,Zp,Ym,Jb]
   omega
  ·rw [hat,if_pos h1,Bool.eq_iff_iff]
   (simp only [vcS])
   exact ⟨fun h=> ⟨⟨h.1.2,h.2.2⟩,h.1.1,h.2.1⟩,fun h=> ⟨⟨h.2.1,h.1.1⟩,h.2.2,h.1.2⟩⟩
  ·rw [hat,if_neg h1,(ho (by omega)).1,(ho (by omega)).2,Bool.eq_iff_iff]
   simp only [Zp,Ym,Jb]
   (simp only [vcS])
   constructor
   ·rintro ⟨a,b⟩
    exact ⟨⟨⟨⟨a,b⟩,by omega⟩,trivial⟩,by decide⟩
   ·rintro ⟨⟨⟨⟨a,b⟩,_⟩,_⟩,_⟩
    exact ⟨a,b⟩
  ·rw [hat,if_neg h1,(hw (by omega)).1,(hw (by omega)).2,Bool.eq_iff_iff]
   simp only [Zs,Zx]
   (simp only [vcS])
   constructor
   ·rintro ⟨a,b,c⟩
    exact ⟨⟨⟨⟨trivial,trivial⟩,by omega⟩,b⟩,c⟩
   ·rintro ⟨⟨⟨_,a⟩,b⟩,c⟩
    exact ⟨by omega,b,c⟩
  ·omega
 ·have he:=hr2 hk
  refine ⟨fun h0=> by omega,fun h0=> ⟨fun h1=> by omega,fun h1=> ⟨fun h2=> by omega,fun h2=> ⟨fun h3=> by omega,fun h3=> Z5 rfl ?_⟩⟩⟩⟩
  rw [he]
theorem ZCh:ZA4:=by
 intro N l d _ hp hN
 simp only [Z3j,Z7Q] at hp hN
 obtain ⟨⟨hm,hr⟩,hd0,hd1⟩:=hp
 have hl:=Y2 l
 refine ZE5 N l d _ ?_
 refine Za (ι:=Int) (fun i=> Z33 l d i) (fun i=> 0≤i∧i≤l.length∧∃ last,-1≤last∧(i=0→last= -1)∧(0 < i→last=(l.getD (i - 1).toNat (KidOf.mk 0 Edit.nil)).at_)∧Zx last (l.drop i.toNat) d=Zx (-1) l d) (fun i=> ((l.length:Int) - i).toNat) 0 rfl ⟨by omega,by omega,-1,by omega,fun _=> rfl,fun h=> by omega,by simp⟩ ?_
 rintro i ⟨g1,g2,last,g3,g4,g5,g6⟩
 refine ZrH N l d i _ _ ?_
 rintro y1 hy1 y2 hy2 y3 hy3
 (simp only [vcS])
 refine ⟨fun hi=> ?_,fun hi=> ?_⟩
 ·have hmem:=Zi (l:=l) (i:=i.toNat) (by omega) (KidOf.mk 0 Edit.nil)
  have hmk:=YQ hmem
  have hrk:=Ju hr hmem
  rw [Y3 g1 hi (KidOf.mk 0 Edit.nil)] at g6
  rw [←hy1] at g6 hmk hrk
  rw [←hy2] at g5
  rw [←hy3] at hmk hrk
  simp only [Zx,Z1W] at g6
  rw [←hy3] at g6
  have hk:y1.e.kind=y3.kind:=by rw [hy3]
  rw [hk]
  have gl:(¬0 < i∨¬y1.at_≤y2.at_)∧¬y1.at_ < 0↔last < y1.at_∧¬y1.at_ < 0:=by
   by_cases h0:0 < i
   ·have:=g5 h0;omega
   ·have:=g4 (by omega);omega
  refine ⟨⟨g1,hi⟩,fun _=> by unfold InR;omega,fun _=> by omega,fun _=> ?_,fun _=> by simp only [Z4c];omega,fun hc=> Z5 rfl ?_,fun hc=> ⟨by unfold InR;omega,i+1,rfl,⟨by omega,by omega,y1.at_,by omega,fun h=> by omega,fun _=> by rw [show (i+1 - 1).toNat=i.toNat by omega,←hy1],?_⟩,by omega⟩⟩
  ·simp only [JT]
   exact ⟨⟨by omega,hrk.2⟩,hd0,hd1⟩
  ·rw [←g6]
   by_cases hr:Z2 y3 d=true
   ·rw [decide_eq_false (fun h=> ?_)]
    ·try rfl
    ·rcases hc with hc | hc
     ·rcases hc with (hc | hc) | hc
      ·omega
      ·by_cases h0:0 < i
       ·have:=g5 h0;omega
       ·omega
      ·exact h.2.2 hc
     ·rw [hr] at hc;cases hc
   ·simp only [Bool.not_eq_true] at hr
    rw [hr];simp
  ·rw [←g6,hc.2,decide_eq_true (show last < y1.at_∧y1.at_≤65534∧y3.kind≠0 by
    refine ⟨?_,by omega,hc.1.2⟩
    by_cases h0:0 < i
    ·have:=g5 h0;omega
    ·have:=g4 (by omega);omega)]
   try rfl
 ·rw [List.drop_of_length_le (by omega)] at g6
  simp only [Z61]
  rw [←g6]
  exact Z5 rfl rfl
theorem Z7I{list d:Int}:∀ {os:List Op},(∀ o∈os,Zc list o d=true)→Zp list os d=true
 | [],_=> rfl
 | o ::r,h=> by
  simp only [Zp,Bool.and_eq_true]
  exact ⟨h o (List.mem_cons_self ..),Z7I (fun x hx=> h x (List.mem_cons_of_mem _ hx))⟩
theorem ZCg:ZA3:=by
 intro N e d _ hp hN
 simp only [Z3i,Z7P] at hp hN
 obtain ⟨⟨hm,hr,hl⟩,hd0,hd1⟩:=hp
 obtain ⟨ik,ro,rn,rw',il,rk,ros⟩:=Z3I hr
 have hme:=Yg e
 have hol:=ZQ e.ops
 refine ZE3 N e d _ ?_
 refine Za (ι:=Int) (fun i=> Z32 e d i) (fun i=> 0≤i∧i≤e.ops.length∧∀ o∈e.ops.take i.toNat,Zc e.list o d=true) (fun i=> ((e.ops.length:Int) - i).toNat) 0 rfl ⟨by omega,by omega,by simp⟩ ?_
 rintro i ⟨g1,g2,g3⟩
 refine ZrG N e d i _ _ ?_
 rintro y1 hy1 y2 hy2 y3 hy3
 subst hy1 hy3
 (simp only [vcS])
 refine ⟨fun hi=> ?_,fun hi=> ?_⟩
 ·have hmem:=Zi (l:=y1.ops) (i:=i.toNat) (by omega) Op.nil
  have hmo:=ZW hmem
  have hro:=Z0N ros hmem
  rw [←hy2] at hmem hmo hro
  refine ⟨⟨g1,hi⟩,?_,by simp only [Z7N];omega,fun hc=> Z5 rfl ?_,fun hc=> ⟨by unfold InR;omega,i+1,rfl,⟨by omega,by omega,fun o ho=> ?_⟩,by omega⟩⟩
  ·simp only [Z3h]
   exact ⟨⟨by omega,hro,hl⟩,hd0,hd1⟩
  ·have:Zp y1.list y1.ops d=false:=by
    rw [←Bool.not_eq_true]
    intro h
    have:=rightOs_mem h hmem
    rw [hc] at this;cases this
   rw [this,Bool.false_and]
  ·rw [show (i+1).toNat=i.toNat+1 by omega,List.take_add_one] at ho
   rcases List.mem_append.1 ho with ho | ho
   ·exact g3 o ho
   ·have e:y1.ops[i.toNat]?=some y3:=by
     rw [hy2]
     simp [List.getD,List.getElem?_eq_getElem (show i.toNat < y1.ops.length by omega)]
    rw [e] at ho
    simp only [Option.toList_some,List.mem_singleton] at ho
    subst ho
    exact hc
 ·rw [List.take_of_length_le (by omega)] at g3
  have hall:Zp y1.list y1.ops d=true:=Z7I g3
  have hb:∀ o∈y1.ops,(0≤o.n∧o.n≤1048576)∧o.l.length≤20000000000:=by
   intro o ho
   refine ⟨Z4n (g3 o ho),?_⟩
   have h1:=ZW ho
   rw [ZN] at h1
   have h2:=ZA o.l
   omega
  refine ⟨by simp only [Z8e];omega,Z5 rfl ?_⟩
  rw [ZeS _ _ hb (by decide) (by decide),Zkk _ _ hb (by decide) (by decide),hall,Bool.true_and]
  by_cases h1:Ym y1.ops 0 < 1048576 <;> by_cases h2:Jb y1.ops 0 < 1048576 <;> simp [h1,h2]
theorem ZCd:ZzZ:=by
 intro N list o d _ hp hN
 simp only [Z3h,Z7N] at hp hN
 obtain ⟨⟨hm,hr,hil⟩,hd0,hd1⟩:=hp
 obtain ⟨ik,inn,rl,re⟩:=Z0w hr
 rw [ZN] at hm hN
 have hll:=ZA o.l
 have hep:=Z4v o.e
 have hat:=Jn list o d
 rw [ZoL hd0,ZaD] at hat
 have hs:=Zq3 (e:=o.e)
 refine ZDG N list o d _ ?_
 rintro y1 hy1 y2 hy2
 subst hy1
 (simp only [vcS])
 have hp87:JT (o.e,1,()):=by simp only [JT];exact ⟨⟨by omega,re⟩,by omega,by omega⟩
 have hm87:Z4c (o.e,1,()) < N:=by simp only [Z4c];omega
 have hp135:Z5h (o.l,(list,()),()):=by simp only [Z5h];exact ⟨by omega,rl,by unfold isI;omega⟩
 have h12:o.kind=1∨o.kind=2→y2= .bool (Zc list o d):=by
  intro hk
  rw [hy2,hat,if_neg (by omega)]
  congr 1
  rw [Bool.eq_iff_iff]
  (simp only [vcS])
  by_cases hn:o.n=0
  ·rw [if_neg (by omega),if_pos (by omega)]
   (simp only [vcS])
   constructor
   ·rintro ⟨⟨⟨⟨h1,h2⟩,h3⟩,h4⟩,h5⟩
    exact ⟨⟨h5,by omega⟩,hs.1 ⟨h3,h4⟩⟩
   ·rintro ⟨⟨h5,h2⟩,h3⟩
    have:=hs.2 h3
    exact ⟨⟨⟨⟨hn,by omega⟩,this.1⟩,this.2⟩,h5⟩
  ·rw [if_pos (by omega)]
   exact ⟨fun h=> absurd h.1.1.1.1 hn,fun h=> (nomatch h)⟩
 refine ⟨fun hk=> ⟨fun _=> hp87,fun _=> hm87,Z5 rfl ?_⟩,fun hk=> ⟨fun hk1=> ⟨fun _=> hp87,fun _=> hm87,fun _=> hp135,?_⟩,fun hk1=> ⟨fun hk2=> ⟨fun _=> hp87,fun _=> hm87,fun _=> hp135,?_⟩,fun hk2=> ⟨fun hk3=> ⟨fun _=> trivial,fun _=> ?_,fun _=> by simp only [Z4c];omega,Z5 rfl ?_⟩,fun hk3=> Z5 rfl ?_⟩⟩⟩⟩
 ·rw [hat,if_pos hk,Bool.eq_iff_iff]
  (simp only [vcS])
  constructor
  ·rintro ⟨⟨⟨h1,h2⟩,h3⟩,h4⟩
   exact ⟨⟨h1.1,h1.2,by omega⟩,hs.1 ⟨h3,h4⟩⟩
  ·rintro ⟨⟨h1,h2,h3⟩,h4⟩
   have:=hs.2 h4
   exact ⟨⟨⟨⟨h1,h2⟩,by omega⟩,this.1⟩,this.2⟩
 ·rw [h12 (Or.inl hk1)]
  exact Z5 rfl rfl
 ·rw [h12 (Or.inr hk2)]
  exact Z5 rfl rfl
 ·simp only [JT];exact ⟨⟨by omega,re⟩,hd0,hd1⟩
 ·rw [hat,if_neg hk,Bool.eq_iff_iff]
  by_cases hn:o.n=0
  ·rw [if_neg (by omega),if_neg (by omega)]
   have hw:YN list o.e=true↔(o.e.kind≠0∧7 < list)∧(list=8∨o.e.kind=2∨o.e.kind=1∧o.e.old.kind=1∧o.e.new.kind=1):=by
    unfold YN
    split
    ·exact ⟨fun h=> (nomatch h),fun h=> by omega⟩
    ·split
     ·exact ⟨fun _=> ⟨by omega,by omega⟩,fun _=> rfl⟩
     ·rw [decide_eq_true_eq]
      exact ⟨fun h=> ⟨by omega,Or.inr (Or.inr h)⟩,fun h=> by omega⟩
   (simp only [vcS])
   rw [hw]
   constructor
   ·rintro ⟨⟨h1,h2⟩,h3⟩
    exact ⟨⟨⟨by omega,h2.1⟩,h3⟩,h2.2⟩
   ·rintro ⟨⟨⟨h1,h2⟩,h3⟩,h4⟩
    exact ⟨⟨⟨hn,by omega⟩,h2,h4⟩,h3⟩
  ·rw [if_pos (by omega)]
   (simp only [vcS])
   exact ⟨fun h=> absurd h.1.1.1 hn,fun h=> (nomatch h)⟩
 ·rw [hat,if_neg hk]
  by_cases hn:o.n≠0∨o.kind < 0∨3 < o.kind
  ·rw [if_pos hn]
  ·exfalso;omega
theorem ZG5:Contract Tryz.prog cfg 78 Zdm∧Contract Tryz.prog cfg 124 ZmR∧Contract Tryz.prog cfg 126 ZmQ∧Contract Tryz.prog cfg 179 ZmN:=
 Zwr ZC2 ZC1 ZC0 ZqZ ZBB ZBy ZqX b78 ZCh ZCg ZCd
theorem c28:Contract Tryz.prog cfg 28 Zdw:=by
 refine ZAU ZG5.1 ?_
 intro e _ hp
 simp only [Zns] at hp
 refine ZFT _ _ ?_
 (simp only [Tree.eta,Edit.eta,Tree.kind_mk,Tree.words_mk,Tree.kids_mk])
 refine ⟨by simp only [JT];exact ⟨hp,by omega,by omega⟩,?_⟩
 exact Z5 rfl rfl
end Go.AM.YtpjenobkibfpcaaGreat
namespace Go.AM.YtpjenobkibfpcaaGreat
open Go.AM Go.Proofs
noncomputable section
def Zv1:ArgL (Edit × Edit × Unit):=(.cons (aEl .edit) (.cons (aEl .edit) .nil))
def Zt9(a:Edit × Edit × Unit):Prop:=Z1f a.1∧Z1f a.2.1
def Znd(a:Edit × Edit × Unit):V U:= .tup [(true,(enc .edit ((Z2z a.1 a.2.1).1))),(false,[.bool ((Z2z a.1 a.2.1).2)])]
def Zdq:Fs U:=fs Zv1 (fun a=> [Zt9 a]) Znd
def Zum:List (FuncId × Fs U):=[(111,Z6P),(67,Z0U)]
def ZB8:Zj U:=lvl [([2,3,4],[2,3,4]),([4,6,7],[4,6]),([4,6,15],[4,6]),([4,5],[4]),([4,5],[4])]
abbrev A71(p:List Nat):=AW (Z0 Zum) Tryz.f71 ZB8 p
theorem ZFJ(p q:Edit)(Q:QT)(h:∀ y_1,y_1=p→∀ y_2,y_2=q→∀ y_3,y_3=((Yt y_1 y_2).1)→((Z2a (y_1,y_2,()))∧(((!((Yt y_1 y_2).2))=true→(Q .ret (L2 [(4,.ptr (.loc 4) 0),(5,.c (.bool false))] [(.loc 4,zc1)])))∧((!((Yt y_1 y_2).2))=false→(Z1i (y_3,()))∧(Q .ret (L2 [(4,.ptr (.loc 4) 0),(5,.c (.bool true))] [(.loc 4,(enc .edit (Zv y_3)))])))))):
  A71 [] (L2 [(0,.agg (enc .edit p)),(1,.agg (enc .edit q))] []) Q:=
 Eq.mpr (by kernel_rfl) (h _ (Z6 _) _ (Z6 _) _ (Z6 _))
def ZCD(p q:Edit):Prop:=AW (Z0 Zum) Tryz.f71 ZB8 [] (Zl (Zv1.can (p,q,())) []) (EQ Tryz.f71 (Znd (p,q,())) [])
theorem ZAN(ZC7:CT 111 Z6P)(c67:CT 67 Z0U)(hb:∀ (p:Edit) (q:Edit) (_:Unit),Zt9 (p,q,())→ZCD p q):CT 71 Zdq:=
 Z4 (l:=[(111,Z6P),(67,Z0U)]) Zo rfl (⟨ZC7,c67,trivial⟩) ZB8 Tryz.func71 rfl rfl 2 (fun _=> rfl) (by decide) (fun ⟨p,q,_⟩=> hb p q ())
end
end Go.AM.YtpjenobkibfpcaaGreat
namespace Go.AM.YtpjenobkibfpcaaGreat
open Go.AM Go.Proofs
theorem Znm{e:Edit}(h:Z1f e):Wk e:=by obtain ⟨d,hr⟩:=h.2.2;exact .of hr h.2.1
theorem ZgK{p q:Edit}(hp:Z1f p)(hq:Z1f q):ComWk True (Yt p q) p q:=ZBr _ p q (Nat.le_refl _) (Znm hp) (Znm hq)
theorem ZxP{p q:Edit}(hp:Z1f p)(hq:Z1f q)(h:(Yt p q).2=true):Z1i ((Yt p q).1,()):=by
 have H:=ZgK hp hq
 have:=H.ct trivial h
 have:=ZcQ (Yt p q).1
 have:=hp.1
 have:=hq.1
 exact ⟨by dsimp only;omega,-1,(H.wk h).r⟩
theorem c71:Contract Tryz.prog cfg 71 Zdq:=by
 refine ZAN ZC7 Zir.1 ?_
 intro p q _ hp
 refine ZFJ _ _ _ ?_
 intro y1 h1 y2 h2 y3 h3
 subst h1 h2
 (simp only [vcT,vcS])
 refine ⟨hp,fun hc=> ?_,fun hc=> ?_⟩
 ·refine Z0i (r':= .tup [(true,enc .edit Edit.nil),(false,[.bool false])]) ?_ (by (repeat' (first | exact trivial | exact rfl | apply And.intro)))
  simp only [Znd,Z2z]
  rw [if_neg (by rw [hc];decide)]
  try rfl
 ·refine ⟨by rw [h3];exact ZxP hp.1 hp.2 hc,Z0i (r':= .tup [(true,enc .edit (Zv y3)),(false,[.bool true])]) ?_ (by (repeat' (first | exact trivial | exact rfl | apply And.intro)))⟩
  simp only [Znd,Z2z]
  rw [if_pos hc,h3]
  try rfl
end Go.AM.YtpjenobkibfpcaaGreat
namespace Go.AM.YtpjenobkibfpcaaGreat
open Go.AM Go.Proofs
theorem kids_sum:∀ {l:List Op},(∀ o∈l,J4 o)→Z4e l≤ZH l+Yf l
 | [],_=> by simp [Z4e,ZH,Yf]
 | o ::r,h=> by
  have h1:=J5 (h o List.mem_cons_self)
  have h2:=kids_sum fun x hx=> h x (List.mem_cons_of_mem _ hx)
  simp only [Z4e,ZH,Yf]
  split <;> split <;> omega
theorem ZsY:Z1f Edit.nil:=by
 refine ⟨by decide,?_,1,Zqp⟩
 exact ⟨JU (by decide) (by decide),Z0M,Z0M,by simp [Edit.nil],JU (by decide) (by decide),trivial,trivial⟩
end Go.AM.YtpjenobkibfpcaaGreat
namespace Go.AM.YtpjenobkibfpcaaGreat
open Go.AM Go.Proofs
theorem Zuz{e:Edit}(h:Z0J e=true):Z9 e≤3000∧Z2 e 64=true:=by
 simp only [Z0J,Bool.and_eq_true,decide_eq_true_eq] at h
 exact ⟨Zbq h.1.1,h.1.2⟩
end Go.AM.YtpjenobkibfpcaaGreat
namespace Go.AM.YtpjenobkibfpcaaGreat
open Go.AM Go.Proofs
theorem Zkv{e:Edit}(h:Z0J e=true)(g:YI e):ZEp e∧Z9 e≤3000∧Z2 e 64=true:=by
 obtain ⟨m,r⟩:=Zuz h
 have hl:YL e=true:=by
  simp only [Z0J,Bool.and_eq_true] at h
  exact h.2
 have:=Zs3 _ e (Nat.le_refl _) ⟨64,r⟩ hl
 exact ⟨⟨by omega,g,64,r⟩,m,r⟩
end Go.AM.YtpjenobkibfpcaaGreat
namespace Go.AM.YtpjenobkibfpcaaGreat
open Go.AM Go.Proofs
theorem Jy(out:List Op):Z1 ⟨out,[],[]⟩=⟨out,[],[]⟩:=by simp [Z1,YD]
theorem ZbK(list d:Int):∀ a b:List Op,Zp list (a++b) d=(Zp list a d && Zp list b d)
 | [],b=> by simp [Zp]
 | o ::r,b=> by rw [List.cons_append,Zp,Zp,ZbK list d r b,Bool.and_assoc]
theorem Zkl:∀ (a b:List Op) (n:Int),Ym (a++b) n=Ym b (Ym a n)
 | [],_,_=> rfl
 | o ::r,b,n=> by rw [List.cons_append,Ym,Ym,Zkl r b]
theorem Zkj:∀ (a b:List Op) (n:Int),Jb (a++b) n=Jb b (Jb a n)
 | [],_,_=> rfl
 | o ::r,b,n=> by rw [List.cons_append,Jb,Jb,Zkj r b]
theorem Z9h(list d:Int){n:Int}(h0:0≤n)(h1:n≤1048576):Zp list (ZT n) d=true:=by
 unfold ZT
 split
 ·try rfl
 ·rw [Zp,Zp,Zc,if_pos rfl,Bool.and_true,decide_eq_true (by simp;omega)];decide
theorem Zgz{n c:Int}(h0:0≤n)(h:c≤1048576):Ym (ZT n) c=min (c+n) 1048576:=by
 unfold ZT
 split
 ·simp only [Ym];omega
 ·simp only [Ym,Z3,if_neg (show ¬(0:Int)=2 by decide),if_neg (show ¬(0:Int)=3 by decide),List.length_nil]
  omega
theorem Zgy{n c:Int}(h0:0≤n)(h:c≤1048576):Jb (ZT n) c=min (c+n) 1048576:=by
 unfold ZT
 split
 ·simp only [Jb];omega
 ·simp only [Jb,Z3,if_neg (show ¬(0:Int)=1 by decide),if_neg (show ¬(0:Int)=3 by decide),List.length_nil]
  omega
end Go.AM.YtpjenobkibfpcaaGreat
namespace Go.AM.YtpjenobkibfpcaaGreat
open Go.AM Go.Proofs
theorem Z7e(n:Int):(ZT n).length≤1:=by unfold ZT;split <;> simp
end Go.AM.YtpjenobkibfpcaaGreat
namespace Go.AM.YtpjenobkibfpcaaGreat
open Go.AM Go.Proofs
theorem ZeI(n:Int):Zg (ZT n)≤3:=by
 unfold ZT
 split
 ·simp [Zg]
 ·simp only [Zg,Zw,Zh,Zgv];omega
theorem Z9f:YI Edit.nil:=by simp [Edit.nil,YI,Tree.nil,rng,Yq,Z0q,Z02,isI]
theorem ZaK:∀ {l:List Op},(∀ o∈l,Yz o)→Z02 l
 | [],_=> trivial
 | o ::r,h=> ⟨h o List.mem_cons_self,ZaK fun x hx=> h x (List.mem_cons_of_mem _ hx)⟩
theorem ZfX{n:Int}(h:isI n):∀ o∈ZT n,Yz o:=by
 unfold ZT
 split
 ·simp
 ·intro o ho
  simp only [List.mem_singleton] at ho
  subst ho
  exact ⟨by unfold isI;omega,h,trivial,Z9f⟩
end Go.AM.YtpjenobkibfpcaaGreat
namespace Go.AM.YtpjenobkibfpcaaGreat
open Go.AM Go.Proofs
theorem Z5c:Z2 Edit.nil 64=true:=Z5U (by rfl) 64 (by decide)
end Go.AM.YtpjenobkibfpcaaGreat
namespace Go.AM.YtpjenobkibfpcaaGreat
open Go.AM Go.Proofs
theorem Z9b:∀ (a b:List Edit) (t:Tree),Jh (a++b) t=(Jh a t).bind (Jh b)
 | [],b,t=> rfl
 | e ::r,b,t=> by
  rw [List.cons_append,Jh,Jh]
  cases doE false e t with
  | none=> rfl
  | some v=> exact Z9b r b v
theorem Zb6{e:Edit}(h:e.kind≠0):Zk e≠[]:=by
 rw [YC,if_neg h]
 split
 ·exact List.cons_ne_nil _ _
 ·intro h;rename_i h2;rw [h] at h2;exact h2 rfl
theorem ZxM(w:WEdit)(t:Tree):doE false (Js w) t=if t.kind=1 then (wsD t.words [w] t.words).map fun a=> .mk 1 a t.kids else none:=by
 unfold Js
 rw [ZzJ]
 simp only [Z2c,Option.map_some]
 split
 ·cases wsD t.words [w] t.words <;> rfl
 ·try rfl
theorem ZuI(a:Int)(x:Edit)(t:Tree):doE false (Z3w a x) t=if t.kind=1 then (doE false x (t.kids.getD a.toNat Tree.nil)).map fun u=> .mk 1 t.words (Yj Tree.nil t.kids a.toNat u) else none:=by
 unfold Z3w
 rw [ZzJ]
 simp only [wsD,Z2c,Zat,Option.bind_some]
 split
 ·cases doE false x (t.kids.getD a.toNat Tree.nil) <;> rfl
 ·try rfl
theorem ZfV{tw:List Int}{ks:List Tree}:∀ {ws:List WEdit} {last:Int} {out:List Int},-1≤last→Zs last ws=true→(∀ j:Nat,last < j→out.getD j 0=tw.getD j 0)→
  Jh (ws.map Js) (.mk 1 out ks)=(wsD tw ws out).map fun a=> .mk 1 a ks
 | [],last,out,_,_,_=> by simp only [List.map_nil,Jh,wsD,Option.map_some]
 | w ::r,last,out,hl,h,ho=> by
  have h1:last < w.at_∧Zs w.at_ r=true:=by
   simp only [Zs,Bool.and_eq_true,decide_eq_true_eq] at h
   exact ⟨h.1.1.1.1,h.2⟩
  have e:out.getD w.at_.toNat 0=tw.getD w.at_.toNat 0:=ho _ (by omega)
  rw [List.map_cons,Jh,ZxM,if_pos (by rfl)]
  simp only [Tree.words_mk,Tree.kids_mk,wsD,e]
  split
  ·simp only [Option.map_some,Option.bind_some]
   refine ZfV (by omega) h1.2 fun j hj=> ?_
   rw [Z3F,if_neg (by omega)]
   exact ho j (by omega)
  ·try rfl
theorem Zh7(l:List Tree)(i:Nat)(x y:Tree):Yj Tree.nil (Yj Tree.nil l i x) i y=Yj Tree.nil l i y:=by
 have h:(Yj Tree.nil l i x).length=max l.length (i+1):=Z42 _ _ _ _
 unfold Yj at*
 rw [h,show i+1 - max l.length (i+1)=0 by omega,List.replicate_zero,List.append_nil,List.set_set]
theorem Zn1{ws:List Int}{a:Int}:∀ {l:List Edit} {ks:List Tree},l≠[]→Jh (l.map (Z3w a)) (.mk 1 ws ks)=(Jh l (ks.getD a.toNat Tree.nil)).map fun u=> .mk 1 ws (Yj Tree.nil ks a.toNat u)
 | [],ks,h=> absurd rfl h
 | [x],ks,_=> by
  simp only [List.map_cons,List.map_nil,Jh]
  rw [ZuI,if_pos (by rfl)]
  simp only [Tree.words_mk,Tree.kids_mk]
  cases doE false x (ks.getD a.toNat Tree.nil) <;> rfl
 | x ::y ::r,ks,_=> by
  rw [List.map_cons,Jh,ZuI,if_pos (by rfl),Jh]
  simp only [Tree.words_mk,Tree.kids_mk]
  cases doE false x (ks.getD a.toNat Tree.nil) with
  | none=> rfl
  | some u=>
   simp only [Option.map_some,Option.bind_some]
   rw [Zn1 (List.cons_ne_nil _ _),Z3F,if_pos rfl]
   simp only [Zh7]
theorem Zj6{tk:List Tree}{ws:List Int}{d:Int}:∀ {ks:List Kid} {last:Int} {a b:List Tree},(∀ k∈ks,ZfE Eqv (Jh (Zk k.e) (tk.getD k.at_.toNat Tree.nil)) (doE false k.e (tk.getD k.at_.toNat Tree.nil)))→-1≤last→Zx last ks d=true→EqvL a b→(∀ j:Nat,last < j→a.getD j Tree.nil=tk.getD j Tree.nil)→
  ZfE Eqv (Jh (ZP ks) (.mk 1 ws a)) ((Z2c false tk ks b).map fun b=> .mk 1 ws b)
 | [],last,a,b,_,_,_,he,_=> by
  rw [ZP,Jh,Z2c]
  exact ZjV 1 ws he
 | k ::r,last,a,b,ih,hl,h,he,ho=> by
  obtain ⟨h1,h2,h3⟩:=Z5b h
  have hk0:k.e.kind≠0:=by
   rw [Zx,Z1W] at h
   simp only [Bool.and_eq_true,decide_eq_true_eq] at h
   exact h.1.1.2.2
  rw [ZP,Z1Y,Z9b,Zn1 (Zb6 hk0),ho _ (by omega),Z2c,Zat]
  have i1:=ih k List.mem_cons_self
  generalize Jh (Zk k.e) (tk.getD k.at_.toNat Tree.nil)=A at i1 ⊢
  generalize doE false k.e (tk.getD k.at_.toNat Tree.nil)=B at i1 ⊢
  cases A with
  | none=> cases B with
   | none=> exact trivial
   | some y=> exact absurd i1 id
  | some x=> cases B with
   | none=> exact absurd i1 id
   | some y=>
    simp only [Option.map_some,Option.bind_some]
    refine Zj6 (fun x hx=> ih x (List.mem_cons_of_mem _ hx)) (by omega) h3 (Zqo he i1) fun j hj=> ?_
    rw [Z3F,if_neg (by omega)]
    exact ho j (by omega)
noncomputable def Z1m(os:List Op)(s:List Tree):Option (List Tree):=Z4f (J0 false os s [])
theorem Z0s:∀ (os:List Op) (s out:List Tree),J0 false os s out=(J0 false os s []).map fun x=> (out++x.1,x.2)
 | [],s,out=> by simp [J0]
 | o ::r,s,out=> by
  rw [J0,J0,Z0z,Z0z]
  by_cases h0:o.kind=0
  ·rw [if_pos h0,if_pos h0]
   split
   ·simp only [Option.bind_some]
    rw [Z0s r,Z0s r _ ([]++_)]
    cases J0 false r (s.drop o.n.toNat) [] <;> simp
   ·try rfl
  ·rw [if_neg h0,if_neg h0]
   by_cases h1:o.kind=1
   ·rw [if_pos h1,if_pos h1]
    split
    ·simp only [Option.bind_some]
     rw [Z0s r]
    ·try rfl
   ·rw [if_neg h1,if_neg h1]
    by_cases h2:o.kind=2
    ·rw [if_pos h2,if_pos h2]
     simp only [Option.bind_some]
     rw [Z0s r,Z0s r _ ([]++_)]
     cases J0 false r s [] <;> simp
    ·rw [if_neg h2,if_neg h2]
     split
     ·try rfl
     ·cases doE false o.e (s.getD 0 Tree.nil) with
      | none=> rfl
      | some u=>
       simp only [Option.map_some,Option.bind_some]
       rw [Z0s r,Z0s r _ ([]++_)]
       cases J0 false r (s.drop 1) [] <;> simp
theorem Zih(x:Option (List Tree × List Tree))(out:List Tree):Z4f (x.map fun x=> (out++x.1,x.2))=(Z4f x).map (out++·):=by
 cases x with
 | none=> rfl
 | some x=>
  simp only [Z4f,Option.map_some,Option.bind_some]
  split <;> rfl
theorem Zjj(s:List Tree):Z1m [] s=if s.length=0 then some [] else none:=by unfold Z1m;rw [J0];try rfl
theorem Zsh{o:Op}(h:o.kind=0)(r:List Op)(s:List Tree):Z1m (o ::r) s=if o.n.toNat≤s.length then (Z1m r (s.drop o.n.toNat)).map (s.take o.n.toNat++·) else none:=by
 unfold Z1m
 rw [J0,Z0z,if_pos h]
 split
 ·simp only [Option.bind_some]
  rw [Z0s,Zih];try rfl
 ·try rfl
theorem Zle{o:Op}(h:o.kind=1)(r:List Op)(s:List Tree):Z1m (o ::r) s=if Z5F o.l s=true then Z1m r (s.drop o.l.length) else none:=by
 unfold Z1m
 rw [J0,Z0z,if_neg (by omega),if_pos h]
 split
 ·try rfl
 ·try rfl
theorem Zld{o:Op}(h:o.kind=2)(r:List Op)(s:List Tree):Z1m (o ::r) s=(Z1m r s).map (o.l++·):=by
 unfold Z1m
 rw [J0,Z0z,if_neg (by omega),if_neg (by omega),if_pos h]
 simp only [Option.bind_some]
 rw [Z0s,Zih];try rfl
theorem Zlc{o:Op}(h:o.kind=3)(r:List Op)(s:List Tree):Z1m (o ::r) s=if s.length=0 then none else (doE false o.e (s.getD 0 Tree.nil)).bind fun u=> (Z1m r (s.drop 1)).map (u ::·):=by
 unfold Z1m
 rw [J0,Z0z,if_neg (by omega),if_neg (by omega),if_neg (by omega)]
 split
 ·try rfl
 ·cases doE false o.e (s.getD 0 Tree.nil) with
  | none=> rfl
  | some u=>
   simp only [Option.map_some,Option.bind_some]
   rw [Z0s,Zih];try rfl
theorem ZdK{n:Int}(h:0≤n)(r:List Op)(s:List Tree):Z1m (ZT n++r) s=if n≤s.length then (Z1m r (s.drop n.toNat)).map (s.take n.toNat++·) else none:=by
 unfold ZT
 by_cases h0:n=0
 ·subst h0
  rw [if_pos rfl,if_pos (by omega)]
  simp
 ·rw [if_neg h0,List.singleton_append,Zsh rfl]
  dsimp only
  by_cases h1:n≤s.length
  ·rw [if_pos h1,if_pos (by omega)]
  ·rw [if_neg h1,if_neg (by omega)]
theorem Z2J{n:Int}(h:0≤n)(s:List Tree):Z1m (ZT n) s=if n=s.length then some s else none:=by
 have:=ZdK h [] s
 rw [List.append_nil] at this
 rw [this,Zjj]
 by_cases h1:n≤s.length
 ·rw [if_pos h1]
  by_cases h2:n=s.length
  ·rw [if_pos h2,if_pos (by rw [List.length_drop];omega),List.take_of_length_le (by omega)];simp
  ·rw [if_neg h2,if_neg (by rw [List.length_drop];omega)];try rfl
 ·rw [if_neg h1,if_neg (by omega)]
theorem Zij{l a b:Int}{o:Op}(ha:0≤a)(t:Tree):doE false (Jq l a o b) t=if t.kind=l∧a≤t.kids.length then (Z1m (o ::ZT b) (t.kids.drop a.toNat)).map fun x=> .mk l [] (t.kids.take a.toNat++x) else none:=by
 unfold Jq
 rw [ZEJ]
 change (if t.kind=l then (Z1m ((ZT a++[o])++ZT b) t.kids).map _ else none)=_
 by_cases h1:t.kind=l
 ·rw [if_pos h1,List.append_assoc,ZdK ha]
  by_cases h2:a≤t.kids.length
  ·rw [if_pos h2,if_pos ⟨h1,h2⟩,List.singleton_append,Option.map_map];try rfl
  ·rw [if_neg h2,if_neg (fun h=> h2 h.2)];try rfl
 ·rw [if_neg h1,if_neg (fun h=> h1 h.1)]
theorem Zn0{l a b:Int}(ha:0≤a)(hb:0≤b):∀ {xs:List Edit} {done s:List Tree} {y:Tree},xs≠[]→(done.length:Int)=a→(s.length:Int)=b→
  Jh (xs.map fun x=> Jq l a ⟨3,0,[],x⟩ b) (.mk l [] (done++y ::s))=(Jh xs y).map fun u=> .mk l [] (done++u ::s)
 | [],_,_,_,h,_,_=> absurd rfl h
 | x ::r,done,s,y,_,h1,h2=> by
  have hd:doE false (Jq l a ⟨3,0,[],x⟩ b) (.mk l [] (done++y ::s))=(doE false x y).map fun u=> .mk l [] (done++u ::s):=by
   rw [Zij ha,if_pos ⟨rfl,by rw [Tree.kids_mk,List.length_append];omega⟩,Tree.kids_mk,show a.toNat=done.length by omega,List.drop_left,List.take_left,Zlc rfl,if_neg (by simp)]
   simp only [List.getD_cons_zero,List.drop_succ_cons,List.drop_zero]
   rw [Z2J hb,if_pos h2.symm]
   cases doE false x y <;> rfl
  rw [List.map_cons,Jh,hd,Jh]
  cases hx:doE false x y with
  | none=> rfl
  | some u=>
   simp only [Option.map_some,Option.bind_some]
   cases r with
   | nil=> rfl
   | cons x2 r=> exact Zn0 ha hb (List.cons_ne_nil _ _) h1 h2
theorem ZeT{l a b:Int}{o:Op}{t:Tree}{D:Int}(ho:Zc l o D=true∨(o.kind=3))(hk:o.kind≠0)(ha:0≤a)(hb:0≤b)(h:t.kind≠l∨(t.kids.length:Int)≠a+b+(if o.kind=2 then 0 else Z3 o)):doE false (Jq l a o b) t=none:=by
 rw [Zij ha]
 by_cases h1:t.kind=l∧a≤t.kids.length
 ·rw [if_pos h1]
  have hl:=h.resolve_left (fun x=> x h1.1)
  have hd:((t.kids.drop a.toNat).length:Int)=t.kids.length - a:=by rw [List.length_drop];omega
  have:Z1m (o ::ZT b) (t.kids.drop a.toNat)=none:=by
   by_cases k1:o.kind=1
   ·rw [Zle k1]
    split
    ·rename_i hg
     have hg:=((Zbn _ _).1 hg).1
     have ho:Z3 o=o.l.length:=by
      rcases ho with ho | ho
      ·exact Yr (Y9 ho) (.inl k1)
      ·omega
     rw [if_neg (by omega),ho] at hl
     rw [Z2J hb,if_neg]
     rw [List.length_drop];omega
    ·try rfl
   ·by_cases k2:o.kind=2
    ·rw [if_pos k2] at hl
     rw [Zld k2,Z2J hb,if_neg (by omega)];try rfl
    ·have k3:o.kind=3:=by
      rcases ho with ho | ho
      ·have:=ZC ho
       cases this <;> first | rfl | (exfalso;first | exact hk rfl | exact k1 rfl | exact k2 rfl)
      ·exact ho
     rw [if_neg k2,show Z3 o=1 by unfold Z3;rw [if_pos k3]] at hl
     rw [Zlc k3]
     split
     ·try rfl
     ·rw [Z2J hb,if_neg (by rw [List.length_drop];omega)]
      cases doE false o.e ((t.kids.drop a.toNat).getD 0 Tree.nil) <;> rfl
  rw [this];try rfl
 ·rw [if_neg h1]
theorem Z9q{l d:Int}:∀ {os:List Op} {a b:Int} {t:Tree},(∀ o∈os,Zc l o d=true)→0≤a→ZH os=b→(t.kind≠l∨(t.kids.length:Int)≠a+b)→ZL l os a b≠[]→Jh (ZL l os a b) t=none
 | [],a,b,t,_,_,_,_,h=> absurd rfl h
 | o ::r,a,b,t,ho,ha,hb,ht,h=> by
  have h1:=ho o List.mem_cons_self
  have hr:∀ o∈r,Zc l o d=true:=fun x hx=> ho x (List.mem_cons_of_mem _ hx)
  have hs:=(Yl r 0 (fun x hx=> ZM (Ya (hr x hx))) (by omega) (by omega)).2
  have hl:=ZM (Ya h1)
  rw [ZH] at hb
  rw [ZL] at h ⊢
  rw [Z1o] at h ⊢
  by_cases k0:o.kind=0
  ·rw [if_pos k0,if_neg (by omega),if_neg (by omega),List.nil_append] at h ⊢
   rw [if_neg (by omega)] at hb
   exact Z9q hr (by omega) (by omega) (ht.imp_right fun x=> by omega) h
  ·rw [if_neg k0] at h ⊢
   by_cases k1:o.kind=1
   ·rw [if_pos k1,List.singleton_append,Jh,ZeT (.inl h1) k0 ha]
    ·try rfl
    ·rw [if_neg (by omega),Yr (Y9 h1) (.inl k1)] at hb;omega
    ·rw [if_neg (by omega),Yr (Y9 h1) (.inl k1)]
     exact ht.imp_right fun x=> by omega
   ·rw [if_neg k1] at h ⊢
    by_cases k2:o.kind=2
    ·rw [if_pos k2,List.singleton_append,Jh,ZeT (.inl h1) k0 ha]
     ·try rfl
     ·rw [if_pos k2] at hb;omega
     ·rw [if_pos k2]
      exact ht.imp_right fun x=> by omega
    ·rw [if_neg k2]
     have k3:o.kind=3∧o.e.kind≠0:=by
      have:=ZC h1
      cases this with
      | keep=> exact absurd rfl k0
      | gone=> exact absurd rfl k1
      | come=> exact absurd rfl k2
      | into e _ he=> exact ⟨rfl,he⟩
     have ol:Z3 o=1:=by unfold Z3;rw [if_pos k3.1]
     have hne:=Zb6 k3.2
     obtain ⟨x,xs,hx⟩:=List.exists_cons_of_ne_nil hne
     rw [hx,List.map_cons,List.cons_append,Jh,ZeT (D:=d) (.inr rfl) (show ¬(3:Int)=0 by decide) ha]
     ·try rfl
     ·rw [if_neg k2,ol] at hb;omega
     ·rw [if_neg (show ¬(3:Int)=2 by decide),show Z3 ⟨3,0,[],x⟩=1 from rfl]
      exact ht.imp_right fun x=> by omega
theorem ZhH{A B C:Option Tree}(h:ZfE Eqv A B)(e:B=C):ZfE Eqv A C:=e▸h
theorem Z9a{l d:Int}:∀ {os:List Op} {a b:Int} {done done' s:List Tree},(∀ o∈os,Zc l o d=true)→(∀ o∈os,∀ y∈s,ZfE Eqv (Jh (Zk o.e) y) (doE false o.e y))→(done.length:Int)=a→(s.length:Int)=b→ZH os=b→EqvL done done'→
  ZfE Eqv (Jh (ZL l os a b) (.mk l [] (done++s))) ((Z1m os s).map fun x=> .mk l [] (done'++x))
 | [],a,b,done,done',s,_,_,ha,hb,hs,he=> by
  rw [ZH] at hs
  have:s=[]:=List.eq_nil_of_length_eq_zero (by omega)
  subst this
  rw [ZL,Jh,Zjj,if_pos (by rfl)]
  simp only [Option.map_some,List.append_nil]
  exact ZjV l [] he
 | o ::r,a,b,done,done',s,ho,ih,ha,hb,hs,he=> by
  have h1:=ho o List.mem_cons_self
  have hr:∀ o∈r,Zc l o d=true:=fun x hx=> ho x (List.mem_cons_of_mem _ hx)
  have hsr:=(Yl r 0 (fun x hx=> ZM (Ya (hr x hx))) (by omega) (by omega)).2
  have hl:=ZM (Ya h1)
  rw [ZH] at hs
  rw [ZL,Z1o]
  have hin:∀ m:Nat,∀ o∈r,∀ y∈s.drop m,ZfE Eqv (Jh (Zk o.e) y) (doE false o.e y):=fun m o ho y hy=> ih o (List.mem_cons_of_mem _ ho) y (List.mem_of_mem_drop hy)
  by_cases k0:o.kind=0
  ·have ol:=Z3M (Y9 h1) k0
   rw [if_neg (by omega),ol] at hs
   rw [if_pos k0,if_neg (by omega),if_neg (by omega),List.nil_append,Zsh k0,if_pos (by omega),ol]
   have hn:0≤o.n:=by omega
   have:=Z9a (l:=l) (d:=d) (os:=r) (a:=a+o.n) (b:=b - o.n) (done:=done++s.take o.n.toNat) (done':=done'++s.take o.n.toNat) (s:=s.drop o.n.toNat) hr (hin _) (by rw [List.length_append,List.length_take];omega) (by rw [List.length_drop];omega) (by omega) (Z4s he rfl)
   rw [List.append_assoc,List.take_append_drop] at this
   rw [Option.map_map]
   refine ZhH this ?_
   cases Z1m r (s.drop o.n.toNat) <;> simp
  ·rw [if_neg k0]
   by_cases k1:o.kind=1
   ·have ol:=Yr (Y9 h1) (.inl k1)
    rw [if_neg (by omega),ol] at hs
    rw [if_pos k1,if_pos k1,if_neg (by omega),List.singleton_append,Jh,Zij (by omega),if_pos ⟨rfl,by rw [Tree.kids_mk,List.length_append];omega⟩,Tree.kids_mk,show a.toNat=done.length by omega,List.drop_left,List.take_left,Zle k1,Zle k1,ol]
    by_cases hg:Z5F o.l s=true
    ·rw [if_pos hg,if_pos hg,Z2J (by omega),if_pos (by rw [List.length_drop];omega)]
     simp only [Option.map_some,Option.bind_some]
     exact Z9a hr (hin _) ha (by rw [List.length_drop];omega) (by omega) he
    ·rw [if_neg hg,if_neg hg];exact trivial
   ·rw [if_neg k1,if_neg k1]
    by_cases k2:o.kind=2
    ·have ol:=Yr (Y9 h1) (.inr k2)
     rw [if_pos k2] at hs
     rw [if_pos k2,if_pos k2,List.singleton_append,Jh,Zij (by omega),if_pos ⟨rfl,by rw [Tree.kids_mk,List.length_append];omega⟩,Tree.kids_mk,show a.toNat=done.length by omega,List.drop_left,List.take_left,Zld k2,Zld k2,ol,Z2J (by omega),if_pos (by omega)]
     simp only [Option.map_some,Option.bind_some]
     have:=Z9a (l:=l) (d:=d) (os:=r) (a:=a+o.l.length) (b:=b) (done:=done++o.l) (done':=done'++o.l) (s:=s) hr (hin 0) (by rw [List.length_append];omega) hb (by omega) (Z4s he rfl)
     rw [List.append_assoc] at this
     rw [Option.map_map]
     refine ZhH this ?_
     cases Z1m r s <;> simp
    ·have k3:o.kind=3∧o.e.kind≠0:=by
      have:=ZC h1
      cases this with
      | keep=> exact absurd rfl k0
      | gone=> exact absurd rfl k1
      | come=> exact absurd rfl k2
      | into e _ he=> exact ⟨rfl,he⟩
     have ol:Z3 o=1:=by unfold Z3;rw [if_pos k3.1]
     rw [if_neg k2,ol] at hs
     rw [if_neg k2,if_neg k2,ol,Z9b]
     cases s with
     | nil=> exfalso;simp at hb;omega
     | cons y s=>
      rw [List.length_cons] at hb
      rw [Zn0 (by omega) (by omega) (Zb6 k3.2) ha (by omega),Zlc k3.1,if_neg (by simp)]
      simp only [List.getD_cons_zero,List.drop_succ_cons,List.drop_zero]
      have i1:=ih o List.mem_cons_self y List.mem_cons_self
      generalize Jh (Zk o.e) y=A at i1 ⊢
      generalize doE false o.e y=B at i1 ⊢
      cases A with
      | none=> cases B with
       | none=> exact trivial
       | some y=> exact absurd i1 id
      | some u=> cases B with
       | none=> exact absurd i1 id
       | some v=>
        simp only [Option.map_some,Option.bind_some]
        have:=Z9a (l:=l) (d:=d) (os:=r) (a:=a+1) (b:=b - 1) (done:=done++[u]) (done':=done'++[v]) (s:=s) hr (fun o ho y hy=> ih o (List.mem_cons_of_mem _ ho) y (List.mem_cons_of_mem _ hy)) (by simp;omega) (by omega) (by omega) (Z4s he (Zgk.2 i1))
        rw [List.append_assoc,List.singleton_append] at this
        rw [Option.map_map]
        refine ZhH this ?_
        cases Z1m r s <;> simp
theorem Zqj(x:Option Tree):ZfE Eqv x x:=by
 cases x with
 | none=> exact trivial
 | some t=> exact (rfl:Zd t=Zd t)
theorem Zsf{t:Tree}(ht:t.kind≠1):∀ {l:List Edit},l≠[]→(∀ x∈l,x.kind=2)→Jh l t=none
 | [],h,_=> absurd rfl h
 | x ::r,_,h=> by rw [Jh,ZBq (h x List.mem_cons_self),if_neg ht];try rfl
theorem Z5p:∀ {ks:List Kid},∀ x∈ZP ks,x.kind=2
 | [],x,h=> by rw [ZP] at h;cases h
 | k ::r,x,h=> by
  rw [ZP,Z1Y,List.mem_append,List.mem_map] at h
  rcases h with ⟨y,_,rfl⟩ | h
  ·try rfl
  ·exact Z5p x h
theorem Zej:∀ (n:Nat) (e:Edit) (d:Int) (t:Tree),Z9 e≤n→Z2 e d=true→ZfE Eqv (Jh (Zk e) t) (doE false e t)
 | 0,e,d,t,hn,_=> by
  have:3≤Z9 e:=Z0a e
  omega
 | n+1,e,d,t,hn,hr=> by
  have ra:=Zz hr
  rw [YC]
  by_cases k0:e.kind=0
  ·rw [if_pos k0,ZEK k0,Jh]
   exact (rfl:Zd t=Zd t)
  ·rw [if_neg k0]
   by_cases hz:(Y7 e).length=0
   ·rw [if_pos hz,Jh]
    have:(doE false e t).bind (Jh [])=doE false e t:=by cases doE false e t <;> rfl
    rw [this]
    exact Zqj _
   ·rw [if_neg hz]
    have hne:Y7 e≠[]:=fun h=> hz (by rw [h];rfl)
    by_cases k2:e.kind=2
    ·have hp:Y7 e=e.words.map Js++ZP e.kids:=by unfold Y7;rw [if_pos k2]
     rw [ZBq k2]
     by_cases ht:t.kind=1
     ·rw [if_pos ht,hp,Z9b]
      obtain ⟨k,w,ks⟩:=t
      have ht:k=1:=ht
      subst ht
      rw [ZfV (tw:=w) (last:= -1) (by omega) ra.words (fun _ _=> rfl)]
      simp only [Tree.words_mk,Tree.kids_mk]
      cases wsD w e.words w with
      | none=> exact trivial
      | some a=>
       simp only [Option.map_some,Option.bind_some]
       refine Zj6 (last:= -1) (fun k hk=> ?_) (by omega) ra.kids rfl fun _ _=> rfl
       have h1:=J6 hk
       exact Zej n k.e (d - 1) _ (by omega) ((Z6X hr).1 k hk).1
     ·rw [if_neg ht,Zsf ht hne]
      ·exact trivial
      ·rw [hp]
       intro x hx
       rcases List.mem_append.1 hx with hx | hx
       ·obtain ⟨w,_,rfl⟩:=List.mem_map.1 hx
        try rfl
       ·exact Z5p x hx
    ·by_cases k3:e.kind=3
     ·have hp:Y7 e=ZL e.list e.ops 0 (Ym e.ops 0):=by unfold Y7;rw [if_neg k2,if_pos k3]
      have hops:∀ o∈e.ops,Zc e.list o (d - 1)=true:=Yb.1 ra.ops
      have hs:=Yl e.ops 0 (fun o ho=> ZM (Ya (hops o ho))) (by omega) (by omega)
      have hlen:=ra.len
      have hA:Ym e.ops 0=ZH e.ops:=by omega
      rw [hA] at hp
      rw [hp] at hne ⊢
      rw [ZxN k3]
      change ZfE Eqv _ (if t.kind=e.list then (Z1m e.ops t.kids).map _ else none)
      by_cases ht:t.kind≠e.list∨(t.kids.length:Int)≠0+ZH e.ops
      ·rw [Z9q hops (by omega) rfl ht hne]
       split
       ·have:Z1m e.ops t.kids=none:=by
         cases hx:Z1m e.ops t.kids with
         | none=> rfl
         | some x=>
          have:=(Zn3 ((Zo7 (fun o ho=> ZgC (hops o ho))).1 hx) (Z04 hr)).1
          rcases ht with ht | ht
          ·exact absurd ‹t.kind=e.list› ht
          ·omega
        rw [this];exact trivial
       ·exact trivial
      ·have ht1:t.kind=e.list:=Classical.byContradiction fun x=> ht (.inl x)
       have ht2:(t.kids.length:Int)=0+ZH e.ops:=Classical.byContradiction fun x=> ht (.inr x)
       rw [if_pos ht1]
       have hw:Jh (ZL e.list e.ops 0 (ZH e.ops)) t=Jh (ZL e.list e.ops 0 (ZH e.ops)) (.mk e.list [] ([]++t.kids)):=by
        obtain ⟨x,xs,hx⟩:=List.exists_cons_of_ne_nil hne
        have hk:x.kind=3:=partsOs_kind x (by rw [hx];exact List.mem_cons_self)
        rw [hx,Jh,Jh,ZxN hk,ZxN hk,List.nil_append,ht1]
        try rfl
       rw [hw]
       refine Z9a (done:=[]) (done':=[]) hops (fun o ho y _=> ?_) rfl (by omega) rfl rfl
       by_cases h0:o.e.kind=0
       ·rw [YC,if_pos h0,Jh,ZEK h0]
        exact (rfl:Zd y=Zd y)
       ·have h1:=Jw ho
        obtain ⟨d',h2⟩:=right_in hr ho
        exact Zej n o.e d' y (by omega) h2
     ·exact absurd (by unfold Y7;rw [if_neg k2,if_neg k3];rfl) hz
where
 partsOs_kind {l:Int}:∀ {os:List Op} {a b:Int},∀ x∈ZL l os a b,x.kind=3
  | [],a,b,x,h=> by rw [ZL] at h;cases h
  | o ::r,a,b,x,h=> by
   rw [ZL,List.mem_append,Z1o] at h
   rcases h with h | h
   ·split at h
    ·cases h
    ·split at h
     ·rw [List.mem_singleton] at h;subst h;rfl
     ·split at h
      ·rw [List.mem_singleton] at h;subst h;rfl
      ·obtain ⟨y,_,rfl⟩:=List.mem_map.1 h
       try rfl
   ·exact partsOs_kind x h
 right_in {e:Edit} {d:Int} (h:Z2 e d=true) {o:Op} (hm:o∈e.ops):∃ d',Z2 o.e d'=true:=by
  have:=ZC (Yb.1 (Zz h).ops o hm)
  cases this with
  | keep=> exact ⟨64,Z5c⟩
  | gone=> exact ⟨64,Z5c⟩
  | come=> exact ⟨64,Z5c⟩
  | into e he=> exact ⟨_,he⟩
end Go.AM.YtpjenobkibfpcaaGreat
namespace Go.AM.YtpjenobkibfpcaaGreat
open Go.AM Go.Proofs
theorem ZlO(a:Int)(x:Edit):Z9 (Z3w a x)=Z9 x+3:=by simp only [Z3w,Z9,Tree.nil,Zu,Zh,Zq,Yd,Zg,List.length_nil];omega
theorem Zkc(w:WEdit):Z9 (Js w)=4:=by simp only [Js,Z9,Tree.nil,Zu,Zh,Zq,Zg,List.length_nil,List.length_cons]
theorem ZeL(l a:Int)(o:Op)(b:Int):Z9 (Jq l a o b)≤Zw o+12:=by
 have h1:=Z7e a
 have h2:=Z7e b
 have h3:=ZeI a
 have h4:=ZeI b
 simp only [Jq,Z9,Tree.nil,Zu,Zh,Zq,Z09,Zg,List.length_nil,List.length_append,List.length_cons]
 omega
theorem Zkb(e:Edit):Z9 e=1+Zu e.old+Zu e.new+e.words.length+e.ops.length+Zq e.kids+Zg e.ops:=by cases e;rfl
theorem Zqx(o:Op):Zw o=Zh o.l+Z9 o.e:=by cases o;rfl
mutual
theorem Z1Z:∀ (e:Edit),(∀ x∈Zk e,Z9 x≤5*Z9 e)∧(Zk e).length≤Z9 e
 | .mk k o n w ks l os=> by
  have h1:=Z9s ks
  have h2:=Z5n l os
  have m:=Zkb (.mk k o n w ks l os)
  have mo:=Zk5 o
  have mn:=Zk5 n
  simp only [Edit.old_mk,Edit.new_mk,Edit.words_mk,Edit.kids_mk,Edit.ops_mk] at m
  rw [YC]
  split
  ·exact ⟨fun x hx=> (by cases hx),by simp⟩
  ·split
   ·exact ⟨fun x hx=> by rw [List.mem_singleton] at hx;subst hx;omega,by rw [List.length_singleton];omega⟩
   ·by_cases k2:k=2
    ·rw [show Y7 (Edit.mk k o n w ks l os)=w.map Js++ZP ks from if_pos k2]
     refine ⟨fun x hx=> ?_,by rw [List.length_append,List.length_map];omega⟩
     rcases List.mem_append.1 hx with hx | hx
     ·obtain ⟨w,_,rfl⟩:=List.mem_map.1 hx
      rw [Zkc];omega
     ·have:=h1.1 x hx;omega
    ·by_cases k3:k=3
     ·rw [show Y7 (Edit.mk k o n w ks l os)=ZL l os 0 (Ym os 0) from (if_neg k2).trans (if_pos k3)]
      have h3:=h2 0 (Ym os 0)
      exact ⟨fun x hx=> by have:=h3.1 x hx;omega,by omega⟩
     ·rw [show Y7 (Edit.mk k o n w ks l os)=[] from (if_neg k2).trans (if_neg k3)]
      exact ⟨fun x hx=> (by cases hx),by simp⟩
theorem Z9s:∀ (ks:List (KidOf Edit)),(∀ x∈ZP ks,Z9 x≤5*Zq ks+3)∧(ZP ks).length≤Zq ks
 | []=> ⟨fun x hx=> (by rw [ZP] at hx;cases hx),by simp [ZP]⟩
 | k ::r=> by
  have h1:=Zfr k
  have h2:=Z9s r
  simp only [ZP,Zq,List.mem_append,List.length_append]
  refine ⟨fun x hx=> ?_,by omega⟩
  rcases hx with hx | hx
  ·have:=h1.1 x hx;omega
  ·have:=h2.1 x hx;omega
theorem Zfr:∀ (k:KidOf Edit),(∀ x∈Z6d k,Z9 x≤5*Yd k+3)∧(Z6d k).length≤Yd k
 | ⟨a,e⟩=> by
  have h1:=Z1Z e
  simp only [Z6d,Yd,List.length_map]
  refine ⟨fun x hx=> ?_,h1.2⟩
  obtain ⟨y,hy,rfl⟩:=List.mem_map.1 hx
  have:=h1.1 y hy
  rw [ZlO];omega
theorem Z5n(l:Int):∀ (os:List (OpOf Edit)) (a b:Int),(∀ x∈ZL l os a b,Z9 x≤5*Zg os+12)∧(ZL l os a b).length≤Zg os
 | [],a,b=> ⟨fun x hx=> (by rw [ZL] at hx;cases hx),by simp [ZL]⟩
 | o ::r,a,b=> by
  have h1:=ZhF l o a b
  have h2:=Z5n l r (if o.kind=1 then a else a+Z3 o) (if o.kind=2 then b else b - Z3 o)
  simp only [ZL,Zg,List.mem_append,List.length_append]
  refine ⟨fun x hx=> ?_,by omega⟩
  rcases hx with hx | hx
  ·have:=h1.1 x hx;omega
  ·have:=h2.1 x hx;omega
theorem ZhF(l:Int):∀ (o:OpOf Edit) (a b:Int),(∀ x∈Z9r l o a b,Z9 x≤5*Zw o+12)∧(Z9r l o a b).length≤Zw o
 | ⟨k,n,t,e⟩,a,b=> by
  have h1:=Z1Z e
  have m:=Z0a e
  have hl:∀ b:Int,Z9 (Jq l a ⟨k,n,t,e⟩ b)≤Zw ⟨k,n,t,e⟩+12:=fun b=> ZeL _ _ _ _
  simp only [Z9r]
  split
  ·exact ⟨fun x hx=> (by cases hx),by simp⟩
  ·split
   ·exact ⟨fun x hx=> by rw [List.mem_singleton] at hx;subst hx;have:=hl (b - t.length);omega,by simp only [List.length_singleton,Zw];omega⟩
   ·split
    ·exact ⟨fun x hx=> by rw [List.mem_singleton] at hx;subst hx;have:=hl (b - 0);omega,by simp only [List.length_singleton,Zw];omega⟩
    ·refine ⟨fun x hx=> ?_,by simp only [List.length_map,Zw];omega⟩
     obtain ⟨y,hy,rfl⟩:=List.mem_map.1 hx
     have h3:=h1.1 y hy
     have h4:=ZeL l a ⟨3,0,[],y⟩ (b - 1)
     simp only [Zw,Zh] at h4 ⊢
     omega
end
theorem Z1V:rng Tree.nil:=by simp [Tree.nil,rng,Yq,isI]
theorem Zg2{l a b:Int}{o:Op}(hl:isI l)(ha:isI a)(hb:isI b)(ho:Yz o):YI (Jq l a o b):=by
 refine ⟨by unfold isI;omega,Z1V,Z1V,by simp,hl,trivial,ZaK ?_⟩
 intro x hx
 simp only [List.mem_append,List.mem_singleton] at hx
 rcases hx with (hx | rfl) | hx
 ·exact ZfX ha x hx
 ·exact ho
 ·exact ZfX hb x hx
theorem Zq8{a:Int}{x:Edit}(ha:isI a)(hx:YI x):YI (Z3w a x):=⟨by unfold isI;omega,Z1V,Z1V,by simp,by unfold isI;omega,⟨⟨ha,hx⟩,trivial⟩,trivial⟩
theorem Zlh{w:WEdit}(h:Z39 w):YI (Js w):=⟨by unfold isI;omega,Z1V,Z1V,by simpa using h,by unfold isI;omega,trivial,trivial⟩
theorem Zhe{w:WEdit}{d last:Int}(hd:d≠0){ws:List WEdit}(hl: -1≤last)(h:Zs last ws=true)(hw:w∈ws):Z2 (Js w) d=true:=by
 have h1:=JX h w hw
 rw [Js,Z2,if_neg (by omega),if_neg (by simp [ZZ,Tree.nil]),if_neg (by decide)]
 simp [Zs,h1.2.2.2.1,h1.2.2.2.2,Zx,Zp,Ym,Jb,h1.2.2.1]
 omega
theorem Zju{a:Int}{x:Edit}{d:Int}(hd:d≠0)(h0: -1 < a)(h1:a≤65534)(hk:x.kind≠0)(hx:Z2 x (d - 1)=true):Z2 (Z3w a x) d=true:=by
 rw [Z3w,Z2,if_neg (by omega),if_neg (by simp [ZZ,Tree.nil]),if_neg (by decide)]
 simp [Zs,Zx,YT,Zp,Ym,Jb,hx,hk]
 omega
theorem ZbP{l a b:Int}{o:Op}{d:Int}(hd:d≠0)(hl:2≤l∧l≤9)(ha:0≤a)(hb:0≤b)(ho:Zc l o (d - 1)=true)(hs:a+Z3 o+b < 1048576):Z2 (Jq l a o b) d=true:=by
 have h0:=ZM (Ya ho)
 rw [Jq,Z2,if_neg (by omega),if_neg (by simp [ZZ,Tree.nil]),if_neg (by decide)]
 simp only [Zs,Zx,Bool.true_and,ZbK,Z9h l (d - 1) ha (by omega),Z9h l (d - 1) hb (by omega),Zp,ho,Bool.and_true,Zkl,Zkj,Zgz ha (show (0:Int)≤1048576 by omega),Zgy ha (show (0:Int)≤1048576 by omega),Ym,Jb,Bool.and_eq_true,decide_eq_true_eq]
 refine ⟨by omega,?_,?_⟩
 ·rw [Zgz hb (by omega)]
  split <;> omega
 ·rw [Zgy hb (by omega)]
  split <;> omega
theorem Z3T:∀ {ks:List Kid},JF ks=true→∀ k∈ks,YL k.e=true
 | [],_,k,hk=> by cases hk
 | a ::r,h,k,hk=> by
  rw [JF,Bool.and_eq_true] at h
  rcases List.mem_cons.1 hk with rfl | hk
  ·obtain ⟨_,e⟩:=k;exact h.1
  ·exact Z3T h.2 k hk
theorem Z3S:∀ {os:List Op},Y5 os=true→∀ o∈os,YL o.e=true
 | [],_,k,hk=> by cases hk
 | a ::r,h,k,hk=> by
  rw [Y5,Bool.and_eq_true] at h
  rcases List.mem_cons.1 hk with rfl | hk
  ·obtain ⟨_,_,_,e⟩:=k;exact h.1
  ·exact Z3S h.2 k hk
structure PartOk (e x:Edit) (d:Int):Prop where
 kind:x.kind=e.kind
 one:e.kind=1→x=e
 right:Z2 x d=true
theorem Z3l:∀ {ks:List Kid} {x:Edit},x∈ZP ks→∃ k∈ks,∃ y∈Zk k.e,x=Z3w k.at_ y
 | [],x,h=> by rw [ZP] at h;cases h
 | k ::r,x,h=> by
  rw [ZP,Z1Y,List.mem_append,List.mem_map] at h
  rcases h with ⟨y,hy,rfl⟩ | h
  ·exact ⟨k,List.mem_cons_self,y,hy,rfl⟩
  ·obtain ⟨k',h1,h2⟩:=Z3l h
   exact ⟨k',List.mem_cons_of_mem _ h1,h2⟩
theorem Z5o{l D:Int}:∀ {os:List Op} {a b:Int} {x:Edit},(∀ o∈os,Zc l o D=true)→0≤a→ZH os=b→x∈ZL l os a b→
  ∃ o∈os,∃ a' b':Int,0≤a'∧0≤b'∧a'+Z3 o+b'≤a+ZH os+Yf os∧((o.kind=1∨o.kind=2)∧x=Jq l a' o b'∨o.kind=3∧∃ y∈Zk o.e,x=Jq l a' ⟨3,0,[],y⟩ b')
 | [],a,b,x,_,_,_,h=> by rw [ZL] at h;cases h
 | o ::r,a,b,x,ho,ha,hb,h=> by
  have h1:=ho o List.mem_cons_self
  have hr:∀ o∈r,Zc l o D=true:=fun x hx=> ho x (List.mem_cons_of_mem _ hx)
  have hsA:=(Yl r 0 (fun x hx=> ZM (Ya (hr x hx))) (by omega) (by omega)).2
  have hsB:=(YW r 0 (fun x hx=> ZM (Ya (hr x hx))) (by omega) (by omega)).2
  have hl:=ZM (Ya h1)
  rw [ZL,List.mem_append,Z1o] at h
  rw [ZH] at hb ⊢
  rw [Yf]
  rcases h with h | h
  ·by_cases k0:o.kind=0
   ·rw [if_pos k0] at h;cases h
   ·rw [if_neg k0] at h
    by_cases k1:o.kind=1
    ·have ol:=Yr (Y9 h1) (.inl k1)
     rw [if_pos k1,List.mem_singleton] at h
     rw [if_neg (by omega)] at hb ⊢
     rw [if_pos k1]
     exact ⟨o,List.mem_cons_self,a,b - o.l.length,ha,by omega,by omega,.inl ⟨.inl k1,h⟩⟩
    ·rw [if_neg k1] at h ⊢
     by_cases k2:o.kind=2
     ·rw [if_pos k2,List.mem_singleton] at h
      rw [if_pos k2] at hb ⊢
      exact ⟨o,List.mem_cons_self,a,b - 0,ha,by omega,by omega,.inl ⟨.inr k2,h⟩⟩
     ·rw [if_neg k2] at h hb ⊢
      have k3:o.kind=3:=by
       have:=ZC h1
       cases this <;> first | rfl | (exfalso;first | exact k0 rfl | exact k1 rfl | exact k2 rfl)
      have ol:Z3 o=1:=by unfold Z3;rw [if_pos k3]
      obtain ⟨y,hy,rfl⟩:=List.mem_map.1 h
      exact ⟨o,List.mem_cons_self,a,b - 1,ha,by omega,by omega,.inr ⟨k3,y,hy,rfl⟩⟩
  ·obtain ⟨o',m,a',b',i1,i2,i3,i4⟩:=Z5o hr (by split <;> omega) (by split <;> rename_i hx <;> simp only [hx,if_true,if_false] at hb <;> omega) h
   refine ⟨o',List.mem_cons_of_mem _ m,a',b',i1,i2,?_,i4⟩
   split at i3 <;> rename_i hx
   ·rw [if_neg (by omega),if_pos hx];omega
   ·rw [if_neg hx]
    have:0≤(if o.kind=2 then (0:Int) else Z3 o):=by split <;> omega
    omega
theorem Z1X:∀ (n:Nat) (e:Edit) (d:Int),Z9 e≤n→Z2 e d=true→YL e=true→∀ x∈Zk e,PartOk e x d
 | 0,e,d,hn,_,_=> by
  have:3≤Z9 e:=Z0a e
  omega
 | n+1,e,d,hn,hr,hl=> by
  have ra:=Zz hr
  rw [Z2P] at hl
  simp only [Bool.and_eq_true,decide_eq_true_eq] at hl
  intro x hx
  rw [YC] at hx
  split at hx
  ·cases hx
  ·rename_i k0
   split at hx
   ·rw [List.mem_singleton] at hx
    subst hx
    exact ⟨rfl,fun _=> rfl,hr⟩
   ·unfold Y7 at hx
    split at hx
    ·rename_i k2
     refine ⟨?_,fun h=> by omega,?_⟩
     ·rcases List.mem_append.1 hx with hx | hx
      ·obtain ⟨w,_,rfl⟩:=List.mem_map.1 hx
       exact k2.symm
      ·rw [Z5p x hx,k2]
     ·rcases List.mem_append.1 hx with hx | hx
      ·obtain ⟨w,hw,rfl⟩:=List.mem_map.1 hx
       exact Zhe ra.d0 (Int.le_refl _) ra.words hw
      ·obtain ⟨k,hk,y,hy,rfl⟩:=Z3l hx
       have hm:=J6 hk
       obtain ⟨q1,q2⟩:=Y1 ra.kids k hk
       have ih:=Z1X n k.e (d - 1) (by omega) q2 (Z3T hl.1.2 k hk) y hy
       exact Zju ra.d0 q1.1 q1.2.1 (by rw [ih.kind];exact q1.2.2) ih.right
    ·rename_i k2
     split at hx
     ·rename_i k3
      have hops:=Yb.1 ra.ops
      have hsA:=Yl e.ops 0 (fun x hx=> ZM (Ya (hops x hx))) (by omega) (by omega)
      have hsB:=YW e.ops 0 (fun x hx=> ZM (Ya (hops x hx))) (by omega) (by omega)
      have hlen:=ra.len
      rw [show Ym e.ops 0=ZH e.ops by omega] at hx
      obtain ⟨o,m,a',b',i1,i2,i3,i4⟩:=Z5o hops (by omega) rfl hx
      have hsum:a'+Z3 o+b' < 1048576:=by omega
      rcases i4 with ⟨_,rfl⟩ | ⟨j3,y,hy,rfl⟩
      ·exact ⟨k3.symm,fun h=> by omega,ZbP ra.d0 (ra.list k3) i1 i2 (hops o m) hsum⟩
      ·have hm:=Jw m
       have ho:=hops o m
       have hro:=ZC ho
       refine ⟨k3.symm,fun h=> by omega,ZbP ra.d0 (ra.list k3) i1 i2 ?_ ?_⟩
       ·generalize hl9:e.list=ll at hro
        cases hro with
        | keep | gone | come=> exact absurd j3 (by simp)
        | into x q1 q2 q3 q4=>
         have ih:=Z1X n x (d - 1) (by have hm:Z9 x < Z9 e:=hm;omega) q1 (Z3S hl.2 _ m) y hy
         rw [Jn]
         simp only [ih.right,ih.kind,if_neg (show ¬(3:Int)=0 by decide),if_neg (show ¬(3:Int) < 3 by decide)]
         rw [if_neg (by omega),Bool.and_true,Bool.and_eq_true,decide_eq_true_eq,decide_eq_true_eq]
         refine ⟨⟨rfl,q2,q3⟩,?_⟩
         rcases q4 with q4 | q4 | q4
         ·exact .inl q4
         ·exact .inr (.inl q4)
         ·rw [ih.one q4.1];exact .inr (.inr q4)
       ·rw [show Z3 ⟨3,0,[],y⟩=1 from rfl]
        rw [show Z3 o=1 by unfold Z3;rw [if_pos j3]] at hsum
        omega
     ·cases hx
theorem Zb4:∀ (n:Nat) (e:Edit) (d:Int),Z9 e≤n→Z2 e d=true→YI e→∀ x∈Zk e,YI x
 | 0,e,d,hn,_,_=> by
  have:3≤Z9 e:=Z0a e
  omega
 | n+1,e,d,hn,hr,hg=> by
  have ra:=Zz hr
  have ga:=Z3I hg
  intro x hx
  rw [YC] at hx
  split at hx
  ·cases hx
  ·split at hx
   ·rw [List.mem_singleton] at hx
    subst hx
    exact hg
   ·unfold Y7 at hx
    split at hx
    ·rcases List.mem_append.1 hx with hx | hx
     ·obtain ⟨w,hw,rfl⟩:=List.mem_map.1 hx
      exact Zlh ((J9 hg).2.2.1 w hw)
     ·obtain ⟨k,hk,y,hy,rfl⟩:=Z3l hx
      have hm:=J6 hk
      obtain ⟨q1,q2⟩:=Y1 ra.kids k hk
      have gk:=Ju (J9 hg).2.2.2.1 hk
      exact Zq8 (by unfold isI;omega) (Zb4 n k.e (d - 1) (by omega) q2 gk.2 y hy)
    ·split at hx
     ·rename_i k3
      have hops:=Yb.1 ra.ops
      have hsA:=Yl e.ops 0 (fun x hx=> ZM (Ya (hops x hx))) (by omega) (by omega)
      have hsB:=YW e.ops 0 (fun x hx=> ZM (Ya (hops x hx))) (by omega) (by omega)
      have hlen:=ra.len
      rw [show Ym e.ops 0=ZH e.ops by omega] at hx
      obtain ⟨o,m,a',b',i1,i2,i3,i4⟩:=Z5o hops (by omega) rfl hx
      have go:=Z0N (J9 hg).2.2.2.2 m
      have hol:=ZM (Ya (hops o m))
      have gl:isI e.list:=by have:=ra.list k3;unfold isI;omega
      rcases i4 with ⟨_,rfl⟩ | ⟨j3,y,hy,rfl⟩
      ·exact Zg2 gl (by unfold isI;omega) (by unfold isI;omega) go
      ·have hm:=Jw m
       have h5:=Zb4 n o.e (d - 1) (by omega) (Jm (hops o m) j3) (by obtain ⟨_,_,_,_⟩:=o;exact go.2.2.2) y hy
       exact Zg2 gl (by unfold isI;omega) (by unfold isI;omega) ⟨by unfold isI;omega,by unfold isI;omega,trivial,h5⟩
     ·cases hx
theorem Z8s:∀ (n:Nat) (e:Edit) (d:Int),Z9 e≤n→Z2 e d=true→YL e=true→YL (Zv e)=true
 | 0,e,d,hn,_,_=> by
  have:3≤Z9 e:=Z0a e
  omega
 | n+1,e,d,hn,hr,hl=> by
  have ra:=Zz hr
  have hops:=Yb.1 ra.ops
  rw [Z2P] at hl
  simp only [Bool.and_eq_true,decide_eq_true_eq] at hl
  have hz:∀ (k:Int) (o m:Tree) (w:List WEdit) (l:Int),YL (.mk k o m w [] l [])=true:=by
   intro k o m w l
   rw [YL]
   simp [Ym,Jb,JF,Y5]
  rw [Z2r]
  split
  ·exact hz _ _ _ _ _
  ·split
   ·rw [YL]
    simp only [Ym,Jb,Y5,Bool.and_true,Bool.and_eq_true,decide_eq_true_eq]
    refine ⟨by simp,?_⟩
    have:∀ ks:List Kid,(∀ k∈ks,k∈e.kids)→JF (J3 ks)=true:=by
     intro ks
     induction ks with
     | nil=> intro _;rfl
     | cons k r ih=>
      intro h
      rw [J3,JF,ih fun x hx=> h x (List.mem_cons_of_mem _ hx),Bool.and_true]
      have hk:=h k List.mem_cons_self
      have hm:=J6 hk
      obtain ⟨a,x⟩:=k
      exact Z8s n x (d - 1) (by have hm:Z9 x < Z9 e:=hm;omega) (Y1 ra.kids _ hk).2 (Z3T hl.1.2 _ hk)
    exact this e.kids fun _ h=> h
   ·split
    ·rename_i k3
     have hsA:=Yl e.ops 0 (fun x hx=> ZM (Ya (hops x hx))) (by omega) (by omega)
     have hsB:=YW e.ops 0 (fun x hx=> ZM (Ya (hops x hx))) (by omega) (by omega)
     have hlen:=ra.len
     have hsn:=Zh1 e.list e.ops (d - 1) ⟨[],[],[]⟩ ra.ops
     have hfl:=Z6H (Zr e.list e.ops ⟨[],[],[]⟩)
     have hrn:=Jo e d hr
     rw [Z2r,if_neg (by omega),if_neg (by omega),if_pos k3] at hrn
     have rn:=Zz hrn
     have nops:=Yb.1 rn.ops
     simp only [Edit.ops_mk,Edit.list_mk] at nops
     have nsA:=Yl (Z1 (Zr e.list e.ops ⟨[],[],[]⟩)).out 0 (fun x hx=> ZM (Ya (nops x hx))) (by omega) (by omega)
     have nsB:=YW (Z1 (Zr e.list e.ops ⟨[],[],[]⟩)).out 0 (fun x hx=> ZM (Ya (nops x hx))) (by omega) (by omega)
     have hs0:sA ⟨[],[],[]⟩=0∧sB ⟨[],[],[]⟩=0:=⟨rfl,rfl⟩
     rw [YL]
     simp only [JF,Bool.and_true,Bool.and_eq_true,decide_eq_true_eq]
     refine ⟨by omega,?_⟩
     have hw:∀ (os:List Op),(∀ o∈os,o∈e.ops)→∀ w:Wst,Y5 w.out=true→Y5 (Zr e.list os w).out=true:=by
      intro os
      induction os with
      | nil=> intro _ w hw;exact hw
      | cons o r ih=>
       intro h w hw
       rw [Zr]
       refine ih (fun x hx=> h x (List.mem_cons_of_mem _ hx)) _ ?_
       have hm:=h o List.mem_cons_self
       rw [YE]
       split
       ·exact light_keep _ _ hw
       ·split
        ·exact hw
        ·split
         ·exact hw
         ·split
          ·rename_i k3'
           split
           ·exact light_keep _ _ hw
           ·dsimp only
            rw [light_app,light_flush _ hw,Bool.true_and,Y5,Y5,Bool.and_true]
            have:=Jw hm
            exact Z8s n o.e (d - 1) (by omega) (Jm (hops o hm) k3') (Z3S hl.2 _ hm)
          ·exact hw
     exact light_flush _ (hw e.ops (fun _ h=> h) _ rfl)
    ·exact hz _ _ _ _ _
where
 light_app:∀ (a b:List Op),Y5 (a++b)=(Y5 a && Y5 b)
  | [],b=> rfl
  | o ::r,b=> by rw [List.cons_append,Y5,Y5,light_app r b,Bool.and_assoc]
 light_nil:YL Edit.nil=true:=by decide
 light_flush (w:Wst) (h:Y5 w.out=true):Y5 (Z1 w).out=true:=by
  unfold Z1 YD
  dsimp only
  rw [light_app,light_app,h,Bool.true_and]
  split <;> split <;> simp [Y5,Z9U,light_nil]
 light_keep (w:Wst) (n:Int) (h:Y5 w.out=true):Y5 (ZG w n).out=true:=by
  unfold ZG
  dsimp only
  have h:=light_flush w h
  rcases Jk (Z1 w).out n with e | ⟨a,o,e1,e2,e3⟩
  ·rw [e,light_app,h];simp [Y5,Z9U,light_nil]
  ·rw [e3,light_app]
   rw [e1,light_app,Bool.and_eq_true] at h
   rw [h.1]
   obtain ⟨_,_,_,x⟩:=o
   simpa [Y5,Z9U] using h.2
end Go.AM.YtpjenobkibfpcaaGreat
namespace Go.AM.YtpjenobkibfpcaaGreat
open Go.AM Go.Proofs
instance decStep:DecidableEq PStep:=fun a b=> decidable_of_iff (a.kind=b.kind∧a.at_=b.at_) (by cases a;cases b;simp)
theorem Zfs(a:Int)(x:Edit):Zv (.mk 2 Tree.nil Tree.nil [] [⟨a,x⟩] 0 [])= .mk 2 Tree.nil Tree.nil [] [⟨a,Zv x⟩] 0 []:=by
 rw [Zv,if_neg (by decide),if_pos rfl,J3,Z0F,J3]
theorem Z2R(list:Int)(n:Int)(w:Wst):Zr list (ZT n) w=if n=0 then w else ZG w n:=by
 unfold ZT
 split
 ·try rfl
 ·simp only [Zr,Z0r,if_true]
theorem Z4A(n:Int):ZG ⟨[],[],[]⟩ n=⟨[⟨0,n,[],Edit.nil⟩],[],[]⟩:=rfl
theorem ZxE(out:List Op)(x:Edit)(n:Int):ZG ⟨out++[⟨3,0,[],x⟩],[],[]⟩ n=⟨out++[⟨3,0,[],x⟩]++[⟨0,n,[],Edit.nil⟩],[],[]⟩:=by
 rw [ZG,Jy]
 dsimp only
 rw [ZeY,if_neg (show ¬(3:Int)=0 by decide)]
 simp
theorem Zwl(list:Int){len i:Int}(h0:0≤i)(h1:i < len)(x:Edit):(Z1 (Zr list (Zti len i x) ⟨[],[],[]⟩)).out=
  if Z0k list (Zv x)=true then [⟨0,len,[],Edit.nil⟩] else ZT i++⟨3,0,[],Zv x⟩ ::ZT (len - i - 1):=by
 unfold Zti
 rw [Z1r,Z1r,Z2R,Z2R]
 simp only [Zr,YE,if_neg (show ¬(3:Int)=0 by decide),if_neg (show ¬(3:Int)=1 by decide),if_neg (show ¬(3:Int)=2 by decide),if_true]
 by_cases hi:Z0k list (Zv x)=true
 ·rw [if_pos hi,if_pos hi]
  by_cases hz:i=0
  ·subst hz
   rw [if_pos rfl,Z4A]
   split
   ·rw [Jy];dsimp only;rw [show len=1 by omega]
   ·rw [show (⟨[⟨0,1,[],Edit.nil⟩],[],[]⟩:Wst)=ZG ⟨[],[],[]⟩ 1 by rfl,Z6q,Z4A,Jy]
    dsimp only;rw [show 1+(len - 0 - 1)=len by omega]
  ·rw [if_neg hz,Z6q]
   split
   ·rw [Z4A,Jy];dsimp only;rw [show i+1=len by omega]
   ·rw [Z6q,Z4A,Jy];dsimp only;rw [show i+1+(len - i - 1)=len by omega]
 ·rw [if_neg hi,if_neg hi]
  have hk:(Z1 (if i=0 then (⟨[],[],[]⟩:Wst) else ZG ⟨[],[],[]⟩ i)).out=ZT i:=by
   unfold ZT
   split
   ·try rfl
   ·rw [Z4A,Jy]
  rw [hk]
  by_cases hz:len - i - 1=0
  ·rw [if_pos hz,Jy,hz];simp [ZT]
  ·rw [if_neg hz,ZxE,Jy];dsimp only;simp [ZT,hz]
end Go.AM.YtpjenobkibfpcaaGreat
