import Derived.Test.YtfapacabjkhepaaVKB20g
import Derived.Test.YtfapacabjkhepaaVKB21b
import Derived.Test.YtfapacabjkhepaaVKP20
import Derived.Test.YtfapacabjkhepaaVKL21n
import Derived.Test.YtfapacabjkhepaaVCG25a
import Derived.Test.YtfapacabjkhepaaVKG20x
import Derived.Test.YtfapacabjkhepaaVCL25f
set_option linter.unusedSimpArgs false
set_option linter.unusedVariables false
namespace Go.AM.Ytfapacabjkhepaa
open Go.AM Go.Proofs
noncomputable section
noncomputable section
def JR(a:Edit × Int × Unit):Prop:=(Zd a.1<=18000000000/\ZK a.1)/\0<=a.2.1/\a.2.1<=1000
def Z2X(a:Edit × Int × Unit):Nat:=4*Zd a.1
def ZbU:Fs U:=fs Zgd (fun a=> [JR a]) ZkY
def Z7d:ArgL (List Kid × Int × Unit):=(.cons (aSl .kid) (.cons (Yu .i64) .nil))
def Z5b(a:List Kid × Int × Unit):Prop:=(Zx a.1<=18000000000/\JX a.1)/\0<=a.2.1/\a.2.1<=1000
def ZdC(a:List Kid × Int × Unit):Nat:=4*Zx a.1+2
def Zaj(a:List Kid × Int × Unit):V U:= .c (.bool (Zu (-1) a.1 a.2.1))
def ZnJ:Fs U:=fs Z7d (fun a=> [Z5b a]) Zaj
def Z5a(a:Edit × Int × Unit):Prop:=(Zd a.1<=18000000000/\ZK a.1/\2<=Edit.list a.1/\Edit.list a.1<=9)/\0<=a.2.1/\a.2.1<=1000
def ZdB(a:Edit × Int × Unit):Nat:=4*Zr a.1.ops+2
def Zcm(a:Edit × Int × Unit):V U:= .c (.bool (Zt a.1.list a.1.ops a.2.1 && decide (Z0m a.1.ops 0 < 1048576/\Z0l a.1.ops 0 < 1048576)))
def ZnI:Fs U:=fs Zgd (fun a=> [Z5a a]) Zcm
def Z59(a:Int × Op × Int × Unit):Prop:=(ZA a.2.1<=18000000000/\YD a.2.1/\2<=a.1/\a.1<=9)/\0<=a.2.2.1/\a.2.2.1<=1000
def Zdz(a:Int × Op × Int × Unit):Nat:=4*ZA a.2.1+1
def ZnF:Fs U:=fs Zgc (fun a=> [Z59 a]) ZkV
def Zlf(a:Edit × Unit):Prop:=Zd a.1<=18000000000/\ZK a.1
def Zum(a:Edit × Unit):V U:= .c (.bool (Z0 a.1 64))
def Zc1:Fs U:=fs ZqO (fun a=> [Zlf a]) Zum
def Z77(N:Nat):List (FuncId × Fs U):=(39,fs Zgd (fun a=> [JR a,Z2X a < N]) ZkY) ::(57,fs Z7d (fun a=> [Z5b a,ZdC a < N]) Zaj) ::(58,fs Zgd (fun a=> [Z5a a,ZdB a < N]) Zcm) ::(74,fs Zgc (fun a=> [Z59 a,Zdz a < N]) ZkV) ::[(54,Z6H),(55,Z6G),(56,Z6F),(52,Z2T),(85,Z6D),(88,Z6C),(75,Z6E)]
def Zx7:Ze U:=lvl [([1,2],[2]),([1,2,11],[2]),([4],[]),([1,2,13],[2]),([1,2,13,14],[2]),([4],[]),([1,2,13,16],[2]),([4],[]),([1,2,13,26],[2]),([4],[]),([1,2,38],[2]),([4],[]),([4],[])]
abbrev W39(N:Nat)(e:Edit)(d:Int)(Q:QT):=AW (Z2 (Z77 N)) Try.f39 Zx7 [] (L2 [(0,.agg (enc .edit e)),pI 1 d] []) Q
theorem ZBb(N:Nat)(e:Edit)(d:Int)(Q:QT)(h:∀ y_1,y_1=e->∀ y_2,y_2=(e.new)->∀ y_3,y_3=(e.old)->(Zcu (y_1,()))/\(((bif (!(Z1u y_1)) then true else (d==0))=true->Q .ret (L2 [pB 4 false] []))/\((bif (!(Z1u y_1)) then true else (d==0))=false->((e.kind==0)=true->Q .ret (L2 [pB 4 true] []))/\((e.kind==0)=false->((e.kind==1)=true->(Zcy (y_3,()))/\((decide (Tree.kind y_3≠10) && Z9 y_3 64)=true->Zcy (y_2,()))/\(Q .ret (L2 [pB 4 (bif (decide (Tree.kind y_3≠10) && Z9 y_3 64) then (decide (Tree.kind y_2≠10) && Z9 y_2 64) else false)] [])))/\((e.kind==1)=false->((e.kind==2)=true->(Zeq (e.words,()))/\((Zp (-1) e.words)=true->InR (d - 1))/\((Zp (-1) e.words)=true->Z5b (e.kids,(d - 1),()))/\((Zp (-1) e.words)=true->ZdC (e.kids,(d - 1),()) < N)/\(Q .ret (L2 [pB 4 (bif (Zp (-1) e.words) then (Zu (-1) e.kids (d - 1)) else false)] [])))/\((e.kind==2)=false->((e.kind==3)=true->(Zoq (e.list,()))/\((decide (2<=e.list/\e.list<=9))=true->InR (d - 1))/\((decide (2<=e.list/\e.list<=9))=true->Z5a (y_1,(d - 1),()))/\((decide (2<=e.list/\e.list<=9))=true->ZdB (y_1,(d - 1),()) < N)/\(Q .ret (L2 [pB 4 (bif (decide (2<=e.list/\e.list<=9)) then (Zt y_1.list y_1.ops (d - 1) && decide (Z0m y_1.ops 0 < 1048576/\Z0l y_1.ops 0 < 1048576)) else false)] [])))/\((e.kind==3)=false->Q .ret (L2 [pB 4 false] [])))))))):
  W39 N e d Q:=by
 have e_:(W39 N e d Q)=(let y_1:=(JJ e);let y_2:=(Z4i e.new);let y_3:=(Z4i e.old);let zz1:=(decide (Tree.kind y_3≠10) && Z9 y_3 64);let zz0:=(decide (2<=e.list/\e.list<=9));((Zcu (y_1,()))/\(Tr ((!(!(Z1u y_1)))=true))/\((!(Z1u y_1))=false->(!(!(Z1u y_1)))=true)/\(((bif (!(Z1u y_1)) then true else ((d:Int)==0))=true->(Q .ret (L2 [pB 4 false] [])))/\((bif (!(Z1u y_1)) then true else ((d:Int)==0))=false->(((e.kind==0)=true->(Q .ret (L2 [pB 4 true] [])))/\((e.kind==0)=false->(((e.kind==1)=true->(Zcy (y_3,()))/\(Tr (zz1=true))/\(Tr (zz1=true))/\(zz1=true->Zcy (y_2,()))/\(Tr (zz1=true))/\(Q .ret (L2 [pB 4 (bif zz1 then (decide (Tree.kind y_2≠10) && Z9 y_2 64) else false)] [])))/\((e.kind==1)=false->(((e.kind==2)=true->(Zeq (e.words,()))/\(Tr ((Zp (-1) e.words)=true))/\(Tr ((Zp (-1) e.words)=true))/\((Zp (-1) e.words)=true->InR ((d:Int) - 1))/\(Tr ((Zp (-1) e.words)=true))/\(Tr ((Zp (-1) e.words)=true))/\((Zp (-1) e.words)=true->Z5b (e.kids,((d:Int) - 1),()))/\((Zp (-1) e.words)=true->ZdC (e.kids,((d:Int) - 1),()) < N)/\(Tr ((Zp (-1) e.words)=true))/\(Q .ret (L2 [(4,.c (.bool (bif (Zp (-1) e.words) then (Zu (-1) e.kids ((d:Int) - 1)) else false)))] [])))/\((e.kind==2)=false->(((e.kind==3)=true->(Zoq (e.list,()))/\(Tr (zz0=true))/\(zz0=true->InR ((d:Int) - 1))/\(Tr (zz0=true))/\(Tr (zz0=true))/\(zz0=true->Z5a (y_1,((d:Int) - 1),()))/\(zz0=true->ZdB (y_1,((d:Int) - 1),()) < N)/\(Tr (zz0=true))/\(Q .ret (L2 [(4,.c (.bool (bif zz0 then (Zt y_1.list y_1.ops ((d:Int) - 1) && decide (Z0m y_1.ops 0 < 1048576/\Z0l y_1.ops 0 < 1048576)) else false)))] [])))/\((e.kind==3)=false->(Q .ret (L2 [pB 4 false] [])))))))))))))):=V5
 exact e_.mpr (by intro y_1 y_2 y_3;have hh:=h y_1 (Zf _) y_2 (Za _) y_3 (Za _);exact ⟨hh.1,id,(by generalize (Z1u y_1)=b0;revert b0;decide),⟨fun c_1=> (hh.2.1 c_1),fun c_1=> ⟨fun c_2=> ((hh.2.2 c_1).1 c_2),fun c_2=> ⟨fun c_3=> ⟨(((hh.2.2 c_1).2 c_2).1 c_3).1,id,id,(((hh.2.2 c_1).2 c_2).1 c_3).2.1,(by generalize (decide (Tree.kind y_3≠10))=b0;generalize (Z9 y_3 64)=b1;revert b0 b1;decide),(((hh.2.2 c_1).2 c_2).1 c_3).2.2⟩,fun c_3=> ⟨fun c_4=> ⟨((((hh.2.2 c_1).2 c_2).2 c_3).1 c_4).1,id,id,((((hh.2.2 c_1).2 c_2).2 c_3).1 c_4).2.1,id,id,((((hh.2.2 c_1).2 c_2).2 c_3).1 c_4).2.2.1,((((hh.2.2 c_1).2 c_2).2 c_3).1 c_4).2.2.2.1,(by generalize (Zp (-1) e.words)=b0;revert b0;decide),((((hh.2.2 c_1).2 c_2).2 c_3).1 c_4).2.2.2.2⟩,fun c_4=> ⟨fun c_5=> ⟨(((((hh.2.2 c_1).2 c_2).2 c_3).2 c_4).1 c_5).1,id,(((((hh.2.2 c_1).2 c_2).2 c_3).2 c_4).1 c_5).2.1,id,id,(((((hh.2.2 c_1).2 c_2).2 c_3).2 c_4).1 c_5).2.2.1,(((((hh.2.2 c_1).2 c_2).2 c_3).2 c_4).1 c_5).2.2.2.1,(by generalize (decide (2<=e.list/\e.list<=9))=b0;revert b0;decide),(((((hh.2.2 c_1).2 c_2).2 c_3).2 c_4).1 c_5).2.2.2.2⟩,fun c_5=> (((((hh.2.2 c_1).2 c_2).2 c_3).2 c_4).2 c_5)⟩⟩⟩⟩⟩⟩)
def ZyD(N:Nat)(e:Edit)(d:Int):Prop:=AW (Z2 (Z77 N)) Try.f39 Zx7 [] (Zj (Zgd.can (e,d,())) []) (EQ Try.f39 (ZkY (e,d,())) [])
abbrev ZzZ:Prop:=∀ (N:Nat) (e:Edit) (d:Int) (_:Unit),JR (e,d,())->Z2X (e,d,()) < N+1->ZyD N e d
def ZfN:Ze U:=lvl [([0,1],[]),([0,1,7,8,9],[]),([0,1,7,8,9,10],[]),([0,1,5,6,7,8,9],[6]),([0,1,7,8,9,49],[]),([4],[]),([0,1,7,8,9],[]),([4],[])]
def Z3E(l:List Kid)(d x9:Int):LSt U:=(L2 [(0,.c (sU .kid l .unk)),pI 1 d,(7,.c (sU .kid l .unk)),pI 8 (l.length:Int),pI 9 x9] [])
abbrev W57(N:Nat)(l:List Kid)(d:Int)(Q:QT):=AW (Z2 (Z77 N)) Try.f57 ZfN [] (L2 [(0,.c (sU .kid l .unk)),pI 1 d] []) Q
abbrev Zkp(N:Nat):=awp cfg (Z2 (Z77 N)) (ZV cfg (Z2 (Z77 N))) Try.f57.ntmps ZfN
abbrev ZiL(N:Nat):=Zcb cfg (Z2 (Z77 N)) (ZV cfg (Z2 (Z77 N))) Try.f57.ntmps ZfN
theorem ZAT(N:Nat)(l:List Kid)(d:Int)(Q:QT)(h:Zi (AW (Z2 (Z77 N)) Try.f57 ZfN [1,0,1,0,0]) (Z3E l d 0) (xB 0 (SW (Z2 (Z77 N)) Try.f57 ZfN [1,1] Q))):
  W57 N l d Q:=by
 have e_:(W57 N l d Q)=(Zi (Zkp N (cd Try.f57 [1,0,1,0,0])) (Z3E l d 0) (xB 0 (ZiL N (cd Try.f57 [1,1]) Q))):=V5
 exact e_.mpr h
abbrev Zrg(N:Nat)(l:List Kid)(d x9:Int)(N0:NT)(Q:QT):=AW (Z2 (Z77 N)) Try.f57 ZfN [1,0,1,0,0] (Z3E l d x9) (xT N0 (xB 0 (SW (Z2 (Z77 N)) Try.f57 ZfN [1,1] Q)))
theorem ZrN(N:Nat)(l:List Kid)(d x9:Int)(N0:NT)(Q:QT)(h:∀ y_1,y_1=(l.getD x9.toNat (KidOf.mk 0 Edit.nil))->∀ y_2,y_2=(List.getD l (Int.toNat (x9 - 1)) (KidOf.mk 0 Edit.nil))->∀ y_3,y_3=(y_1.e)->((decide (x9 < (l.length:Int)))=true->((0:Int)<=x9/\x9 < (l.length:Int))/\((((!(bif (decide (y_1.at_ < 0)) then true else (decide ((65535:Int)<=y_1.at_)))) && (decide ((0:Int) < x9)))=true->InR (x9 - 1))/\(((!(bif (decide (y_1.at_ < 0)) then true else (decide ((65535:Int)<=y_1.at_)))) && (decide ((0:Int) < x9)))=true->(0:Int)<=(x9 - 1)/\(x9 - 1) < (l.length:Int))/\((!(bif (bif (bif (decide (y_1.at_ < 0)) then true else (decide ((65535:Int)<=y_1.at_))) then true else (bif (decide ((0:Int) < x9)) then (decide (y_1.at_<=y_2.at_)) else false)) then true else (y_1.e.kind==0)))=true->JR (y_3,d,()))/\((!(bif (bif (bif (decide (y_1.at_ < 0)) then true else (decide ((65535:Int)<=y_1.at_))) then true else (bif (decide ((0:Int) < x9)) then (decide (y_1.at_<=y_2.at_)) else false)) then true else (y_1.e.kind==0)))=true->Z2X (y_3,d,()) < N)/\(((bif (bif (bif (bif (decide (y_1.at_ < 0)) then true else (decide ((65535:Int)<=y_1.at_))) then true else (bif (decide ((0:Int) < x9)) then (decide (y_1.at_<=y_2.at_)) else false)) then true else (y_1.e.kind==0)) then true else (!(Z0 y_3 d)))=true->Q .ret (L2 [pB 4 false] []))/\((bif (bif (bif (bif (decide (y_1.at_ < 0)) then true else (decide ((65535:Int)<=y_1.at_))) then true else (bif (decide ((0:Int) < x9)) then (decide (y_1.at_<=y_2.at_)) else false)) then true else (y_1.e.kind==0)) then true else (!(Z0 y_3 d)))=false->(InR (x9+1))/\(N0 (Z3E l d (x9+1)))))))/\((decide (x9 < (l.length:Int)))=false->Q .ret (L2 [pB 4 true] []))):
  Zrg N l d x9 N0 Q:=by
 have e_:(Zrg N l d x9 N0 Q)=(let y_1:=(l.getD x9.toNat (KidOf.mk 0 Edit.nil));let y_2:=(List.getD l (Int.toNat ((x9:Int) - 1)) (KidOf.mk 0 Edit.nil));let y_3:=(JJ y_1.e);let zz4:=(decide (y_1.at_ < 0));let zz3:=(decide ((0:Int) < x9));let zz2:=((y_1.e.kind:Int)==0);let zz1:=(bif zz3 then (decide (y_1.at_<=y_2.at_)) else false);let zz0:=(bif zz4 then true else (decide ((65535:Int)<=y_1.at_)));(((decide ((x9:Int) < (l.length:Int)))=true->((0:Int)<=x9/\x9 < (l.length:Int))/\((Tr ((!zz4)=true))/\(Tr ((!zz4)=true))/\(zz4=false->(!zz4)=true)/\(Tr ((!zz0)=true))/\(Tr ((!zz0)=true))/\(Tr (((!zz0) && zz3)=true))/\(((!zz0) && zz3)=true->InR ((x9:Int) - 1))/\(Tr (((!zz0) && zz3)=true))/\(Tr (((!zz0) && zz3)=true))/\(((!zz0) && zz3)=true->(0:Int)<=((x9:Int) - 1)/\((x9:Int) - 1) < (l.length:Int))/\(Tr (((!zz0) && zz3)=true))/\(Tr (((!zz0) && zz3)=true))/\(Tr (((!zz0) && zz3)=true))/\(Tr (((!zz0) && zz3)=true))/\(Tr (((!zz0) && zz3)=true))/\((!zz0)=true->(True->(!zz0)=true))/\((!zz0)=true->(zz3=true->((!zz0) && zz3)=true))/\(zz0=false->(!zz0)=true)/\(Tr ((!(bif zz0 then true else zz1))=true))/\(Tr ((!(bif zz0 then true else zz1))=true))/\(Tr ((!(bif zz0 then true else zz1))=true))/\((bif zz0 then true else zz1)=false->(!(bif zz0 then true else zz1))=true)/\(Tr ((!(bif (bif zz0 then true else zz1) then true else zz2))=true))/\(Tr ((!(bif (bif zz0 then true else zz1) then true else zz2))=true))/\(Tr ((!(bif (bif zz0 then true else zz1) then true else zz2))=true))/\((!(bif (bif zz0 then true else zz1) then true else zz2))=true->JR (y_3,d,()))/\((!(bif (bif zz0 then true else zz1) then true else zz2))=true->Z2X (y_3,d,()) < N)/\(Tr ((!(bif (bif zz0 then true else zz1) then true else zz2))=true))/\((bif (bif zz0 then true else zz1) then true else zz2)=false->(!(bif (bif zz0 then true else zz1) then true else zz2))=true)/\(((bif (bif (bif zz0 then true else zz1) then true else zz2) then true else (!(Z0 y_3 d)))=true->(Q .ret (L2 [pB 4 false] [])))/\((bif (bif (bif zz0 then true else zz1) then true else zz2) then true else (!(Z0 y_3 d)))=false->(InR ((x9:Int)+1))/\(N0 (Z3E l d ((x9:Int)+1)))))))/\((decide ((x9:Int) < (l.length:Int)))=false->(Q .ret (L2 [pB 4 true] []))))):=V5
 exact e_.mpr (by intro y_1 y_2 y_3;have hh:=h y_1 rfl y_2 rfl y_3 (Zf _);exact ⟨fun c_6=> ⟨(hh.1 c_6).1,⟨id,id,(by generalize (decide ((y_1.at_:Int) < 0))=b0;revert b0;decide),id,id,id,(hh.1 c_6).2.1,id,id,(hh.1 c_6).2.2.1,id,id,id,id,id,(by generalize (decide ((65535:Int)<=y_1.at_))=b0;generalize (decide ((y_1.at_:Int) < 0))=b1;revert b0 b1;decide),(by generalize (decide ((65535:Int)<=y_1.at_))=b0;generalize (decide ((y_1.at_:Int) < 0))=b1;generalize (decide ((0:Int) < x9))=b2;revert b0 b1 b2;decide),(by generalize (decide ((65535:Int)<=y_1.at_))=b0;generalize (decide ((y_1.at_:Int) < 0))=b1;revert b0 b1;decide),id,id,id,(by generalize (decide ((y_1.at_:Int)<=y_2.at_))=b0;generalize (decide ((65535:Int)<=y_1.at_))=b1;generalize (decide ((y_1.at_:Int) < 0))=b2;generalize (decide ((0:Int) < x9))=b3;revert b0 b1 b2 b3;decide),id,id,id,(hh.1 c_6).2.2.2.1,(hh.1 c_6).2.2.2.2.1,id,(by generalize (decide ((y_1.at_:Int)<=y_2.at_))=b0;generalize (decide ((65535:Int)<=y_1.at_))=b1;generalize ((y_1.e.kind:Int)==0)=b2;generalize (decide ((y_1.at_:Int) < 0))=b3;generalize (decide ((0:Int) < x9))=b4;revert b0 b1 b2 b3 b4;decide),⟨fun c_7=> ((hh.1 c_6).2.2.2.2.2.1 c_7),fun c_7=> ⟨((hh.1 c_6).2.2.2.2.2.2 c_7).1,((hh.1 c_6).2.2.2.2.2.2 c_7).2⟩⟩⟩⟩,fun c_6=> (hh.2 c_6)⟩)
def Zyl(N:Nat)(l:List Kid)(d:Int):Prop:=AW (Z2 (Z77 N)) Try.f57 ZfN [] (Zj (Z7d.can (l,d,())) []) (EQ Try.f57 (Zaj (l,d,())) [])
abbrev ZzU:Prop:=∀ (N:Nat) (l:List Kid) (d:Int) (_:Unit),Z5b (l,d,())->ZdC (l,d,()) < N+1->Zyl N l d
def ZfM:Ze U:=lvl [([1,2],[2]),([1,2,10,11,12],[2]),([1,2,10,11,12,13],[2]),([1,2,6,10,11,12],[2,6]),([1,2,10,11,12,21],[2]),([4],[]),([1,2,10,11,12],[2]),([7,8],[]),([4],[])]
def Z3D(e:Edit)(d x12:Int):LSt U:=(L2 [pI 1 d,pL 2,(10,.c (sU .op e.ops .unk)),pI 11 (e.ops.length:Int),pI 12 x12] [(.loc 2,(enc .edit e))])
abbrev W58(N:Nat)(e:Edit)(d:Int)(Q:QT):=AW (Z2 (Z77 N)) Try.f58 ZfM [] (L2 [(0,.agg (enc .edit e)),pI 1 d] []) Q
abbrev Zko(N:Nat):=awp cfg (Z2 (Z77 N)) (ZV cfg (Z2 (Z77 N))) Try.f58.ntmps ZfM
abbrev ZiK(N:Nat):=Zcb cfg (Z2 (Z77 N)) (ZV cfg (Z2 (Z77 N))) Try.f58.ntmps ZfM
theorem ZAS(N:Nat)(e:Edit)(d:Int)(Q:QT)(h:Zi (AW (Z2 (Z77 N)) Try.f58 ZfM [1,0,1,0,0]) (Z3D e d 0) (xB 0 (SW (Z2 (Z77 N)) Try.f58 ZfM [1,1] Q))):
  W58 N e d Q:=by
 have e_:(W58 N e d Q)=(Zi (Zko N (cd Try.f58 [1,0,1,0,0])) (Z3D e d 0) (xB 0 (ZiK N (cd Try.f58 [1,1]) Q))):=V5
 exact e_.mpr h
abbrev Zrf(N:Nat)(e:Edit)(d x12:Int)(N0:NT)(Q:QT):=AW (Z2 (Z77 N)) Try.f58 ZfM [1,0,1,0,0] (Z3D e d x12) (xT N0 (xB 0 (SW (Z2 (Z77 N)) Try.f58 ZfM [1,1] Q)))
theorem ZrM(N:Nat)(e:Edit)(d x12:Int)(N0:NT)(Q:QT)(h:∀ y_1,y_1=e->∀ y_2,y_2=(e.ops.getD x12.toNat Op.nil)->∀ y_3,y_3=y_2->((decide (x12 < (e.ops.length:Int)))=true->((0:Int)<=x12/\x12 < (e.ops.length:Int))/\((Z59 (e.list,y_3,d,()))/\(Zdz (e.list,y_3,d,()) < N)/\(((!(Zc e.list y_3 d))=true->Q .ret (L2 [pB 4 false] []))/\((!(Zc e.list y_3 d))=false->(InR (x12+1))/\(N0 (Z3D e d (x12+1)))))))/\((decide (x12 < (e.ops.length:Int)))=false->(Zcu (y_1,()))/\(Q .ret (L2 [(4,.c (.bool (bif (decide (((Z1p y_1.ops 0):Int) < 1048576)) then (decide (((Z1E y_1.ops 0):Int) < 1048576)) else false)))] [])))):
  Zrf N e d x12 N0 Q:=by
 have e_:(Zrf N e d x12 N0 Q)=(let y_1:=(JJ e);let y_2:=(e.ops.getD x12.toNat Op.nil);let y_3:=(ZiZ y_2);let zz0:=(decide (((Z1p y_1.ops 0):Int) < 1048576));(((decide ((x12:Int) < (e.ops.length:Int)))=true->((0:Int)<=x12/\x12 < (e.ops.length:Int))/\((Z59 (e.list,y_3,d,()))/\(Zdz (e.list,y_3,d,()) < N)/\(((!(Zc e.list y_3 d))=true->(Q .ret (L2 [pB 4 false] [])))/\((!(Zc e.list y_3 d))=false->(InR ((x12:Int)+1))/\(N0 (Z3D e d ((x12:Int)+1)))))))/\((decide ((x12:Int) < (e.ops.length:Int)))=false->(Zcu (y_1,()))/\((Tr (zz0=true))/\(Tr (zz0=true))/\(Q .ret (L2 [(4,.c (.bool (bif zz0 then (decide (((Z1E y_1.ops 0):Int) < 1048576)) else false)))] [])))))):=V5
 exact e_.mpr (by intro y_1 y_2 y_3;have hh:=h y_1 (Zf _) y_2 rfl y_3 (Jy _);exact ⟨fun c_8=> ⟨(hh.1 c_8).1,⟨(hh.1 c_8).2.1,(hh.1 c_8).2.2.1,⟨fun c_9=> ((hh.1 c_8).2.2.2.1 c_9),fun c_9=> ⟨((hh.1 c_8).2.2.2.2 c_9).1,((hh.1 c_8).2.2.2.2 c_9).2⟩⟩⟩⟩,fun c_8=> ⟨(hh.2 c_8).1,⟨id,(by generalize (decide (((Z1p y_1.ops 0):Int) < 1048576))=b0;revert b0;decide),(hh.2 c_8).2⟩⟩⟩)
def Zyk(N:Nat)(e:Edit)(d:Int):Prop:=AW (Z2 (Z77 N)) Try.f58 ZfM [] (Zj (Zgd.can (e,d,())) []) (EQ Try.f58 (Zcm (e,d,())) [])
abbrev ZzT:Prop:=∀ (N:Nat) (e:Edit) (d:Int) (_:Unit),Z5a (e,d,())->ZdB (e,d,()) < N+1->Zyk N e d
def ZwN:Ze U:=lvl [([2,3,4],[3,4]),([2,3,4,8],[3,4]),([2,3,4,8,9],[3,4]),([2,3,4,8,11],[3,4]),([2,3,4,8,13],[3,4]),([2,3,4,15],[3,4]),([6],[]),([6],[]),([6],[]),([6],[])]
abbrev W74(N:Nat)(list:Int)(o:Op)(d:Int)(Q:QT):=AW (Z2 (Z77 N)) Try.f74 ZwN [] (L2 [pI 0 list,(1,.agg (enc .op o)),pI 2 d] []) Q
theorem ZAC(N:Nat)(list:Int)(o:Op)(d:Int)(Q:QT)(h:∀ y_1,y_1=(o.e)->∀ y_2,y_2=(.bool (bif (bif (bif (bif (o.n==0) then (decide ((0:Int) < (o.l.length:Int))) else false) then (Z0 y_1 1) else false) then (o.e.kind==0) else false) then (!(!(Ju list o.l))) else false))->((o.kind==0)=true->((bif (bif (decide ((1:Int)<=o.n)) then (decide (o.n<=1048576)) else false) then (((o.l.length:Int):Int)==0) else false)=true->JR (y_1,1,()))/\((bif (bif (decide ((1:Int)<=o.n)) then (decide (o.n<=1048576)) else false) then (((o.l.length:Int):Int)==0) else false)=true->Z2X (y_1,1,()) < N)/\(Q .ret (L2 [(6,.c (.bool (bif (bif (bif (bif (decide ((1:Int)<=o.n)) then (decide (o.n<=1048576)) else false) then (((o.l.length:Int):Int)==0) else false) then (Z0 y_1 1) else false) then (o.e.kind==0) else false)))] [])))/\((o.kind==0)=false->((o.kind==1)=true->((bif (o.n==0) then (decide ((0:Int) < (o.l.length:Int))) else false)=true->JR (y_1,1,()))/\((bif (o.n==0) then (decide ((0:Int) < (o.l.length:Int))) else false)=true->Z2X (y_1,1,()) < N)/\((bif (bif (bif (o.n==0) then (decide ((0:Int) < (o.l.length:Int))) else false) then (Z0 y_1 1) else false) then (o.e.kind==0) else false)=true->Zh3 (o.l,(list,()),()))/\(Q .ret (L2 [(6,.c y_2)] [])))/\((o.kind==1)=false->((o.kind==2)=true->((bif (o.n==0) then (decide ((0:Int) < (o.l.length:Int))) else false)=true->JR (y_1,1,()))/\((bif (o.n==0) then (decide ((0:Int) < (o.l.length:Int))) else false)=true->Z2X (y_1,1,()) < N)/\((bif (bif (bif (o.n==0) then (decide ((0:Int) < (o.l.length:Int))) else false) then (Z0 y_1 1) else false) then (o.e.kind==0) else false)=true->Zh3 (o.l,(list,()),()))/\(Q .ret (L2 [(6,.c y_2)] [])))/\((o.kind==2)=false->((o.kind==3)=true->((bif (o.n==0) then (((o.l.length:Int):Int)==0) else false)=true->Zl9 (list,y_1,()))/\((bif (bif (o.n==0) then (((o.l.length:Int):Int)==0) else false) then (YC list y_1) else false)=true->JR (y_1,d,()))/\((bif (bif (o.n==0) then (((o.l.length:Int):Int)==0) else false) then (YC list y_1) else false)=true->Z2X (y_1,d,()) < N)/\(Q .ret (L2 [(6,.c (.bool (bif (bif (bif (o.n==0) then (((o.l.length:Int):Int)==0) else false) then (YC list y_1) else false) then (Z0 y_1 d) else false)))] [])))/\((o.kind==3)=false->Q .ret (L2 [pB 6 false] [])))))):
  W74 N list o d Q:=by
 have e_:(W74 N list o d Q)=(let y_1:=(JJ o.e);let y_2:=(.bool (bif (bif (bif (bif (o.n==0) then (decide ((0:Int) < (o.l.length:Int))) else false) then (Z0 y_1 1) else false) then ((o.e.kind:Int)==0) else false) then (!(!(Ju list o.l))) else false));let zz5:=(decide ((1:Int)<=o.n));let zz4:=(bif zz5 then (decide (o.n<=1048576)) else false);let zz3:=((o.e.kind:Int)==0);let zz2:=(bif (o.n==0) then ((o.l.length:Int)==0) else false);let zz1:=(bif zz4 then ((o.l.length:Int)==0) else false);let zz0:=(bif (o.n==0) then (decide ((0:Int) < (o.l.length:Int))) else false);(((o.kind==0)=true->(Tr (zz5=true))/\(Tr (zz5=true))/\(Tr (zz5=true))/\(Tr (zz4=true))/\(Tr (zz4=true))/\(Tr (zz4=true))/\(Tr (zz4=true))/\(Tr (zz1=true))/\(Tr (zz1=true))/\(zz1=true->JR (y_1,1,()))/\(zz1=true->Z2X (y_1,1,()) < N)/\(Tr (zz1=true))/\(Tr ((bif zz1 then (Z0 y_1 1) else false)=true))/\(Tr ((bif zz1 then (Z0 y_1 1) else false)=true))/\(Tr ((bif zz1 then (Z0 y_1 1) else false)=true))/\(Tr ((bif zz1 then (Z0 y_1 1) else false)=true))/\(Q .ret (L2 [pB 6 (bif (bif zz1 then (Z0 y_1 1) else false) then zz3 else false)] [])))/\((o.kind==0)=false->(((o.kind==1)=true->(Tr ((o.n==0)=true))/\(Tr ((o.n==0)=true))/\(Tr ((o.n==0)=true))/\(Tr ((o.n==0)=true))/\(Tr (zz0=true))/\(Tr (zz0=true))/\(zz0=true->JR (y_1,1,()))/\(zz0=true->Z2X (y_1,1,()) < N)/\(Tr (zz0=true))/\(Tr ((bif zz0 then (Z0 y_1 1) else false)=true))/\(Tr ((bif zz0 then (Z0 y_1 1) else false)=true))/\(Tr ((bif zz0 then (Z0 y_1 1) else false)=true))/\(Tr ((bif zz0 then (Z0 y_1 1) else false)=true))/\(Tr ((bif (bif zz0 then (Z0 y_1 1) else false) then zz3 else false)=true))/\(Tr ((bif (bif zz0 then (Z0 y_1 1) else false) then zz3 else false)=true))/\(Tr ((bif (bif zz0 then (Z0 y_1 1) else false) then zz3 else false)=true))/\((bif (bif zz0 then (Z0 y_1 1) else false) then zz3 else false)=true->Zh3 (o.l,(list,()),()))/\(Tr ((bif (bif zz0 then (Z0 y_1 1) else false) then zz3 else false)=true))/\(Tr ((bif (bif zz0 then (Z0 y_1 1) else false) then zz3 else false)=true))/\(Q .ret (L2 [(6,.c y_2)] [])))/\((o.kind==1)=false->(((o.kind==2)=true->(Tr ((o.n==0)=true))/\(Tr ((o.n==0)=true))/\(Tr ((o.n==0)=true))/\(Tr ((o.n==0)=true))/\(Tr (zz0=true))/\(Tr (zz0=true))/\(zz0=true->JR (y_1,1,()))/\(zz0=true->Z2X (y_1,1,()) < N)/\(Tr (zz0=true))/\(Tr ((bif zz0 then (Z0 y_1 1) else false)=true))/\(Tr ((bif zz0 then (Z0 y_1 1) else false)=true))/\(Tr ((bif zz0 then (Z0 y_1 1) else false)=true))/\(Tr ((bif zz0 then (Z0 y_1 1) else false)=true))/\(Tr ((bif (bif zz0 then (Z0 y_1 1) else false) then zz3 else false)=true))/\(Tr ((bif (bif zz0 then (Z0 y_1 1) else false) then zz3 else false)=true))/\(Tr ((bif (bif zz0 then (Z0 y_1 1) else false) then zz3 else false)=true))/\((bif (bif zz0 then (Z0 y_1 1) else false) then zz3 else false)=true->Zh3 (o.l,(list,()),()))/\(Tr ((bif (bif zz0 then (Z0 y_1 1) else false) then zz3 else false)=true))/\(Tr ((bif (bif zz0 then (Z0 y_1 1) else false) then zz3 else false)=true))/\(Q .ret (L2 [(6,.c y_2)] [])))/\((o.kind==2)=false->(((o.kind==3)=true->(Tr ((o.n==0)=true))/\(Tr ((o.n==0)=true))/\(Tr ((o.n==0)=true))/\(Tr ((o.n==0)=true))/\(Tr (zz2=true))/\(Tr (zz2=true))/\(Tr (zz2=true))/\(zz2=true->Zl9 (list,y_1,()))/\(Tr (zz2=true))/\(Tr ((bif zz2 then (YC list y_1) else false)=true))/\(Tr ((bif zz2 then (YC list y_1) else false)=true))/\(Tr ((bif zz2 then (YC list y_1) else false)=true))/\((bif zz2 then (YC list y_1) else false)=true->JR (y_1,d,()))/\((bif zz2 then (YC list y_1) else false)=true->Z2X (y_1,d,()) < N)/\(Tr ((bif zz2 then (YC list y_1) else false)=true))/\(Q .ret (L2 [pB 6 (bif (bif zz2 then (YC list y_1) else false) then (Z0 y_1 d) else false)] [])))/\((o.kind==3)=false->(Q .ret (L2 [pB 6 false] []))))))))))):=V5
 exact e_.mpr (by intro y_1 y_2;have hh:=h y_1 (Zf _) y_2 rfl;exact ⟨fun c_10=> ⟨id,id,(by generalize (decide ((1:Int)<=o.n))=b0;revert b0;decide),id,id,id,(by generalize (decide ((o.n:Int)<=1048576))=b0;generalize (decide ((1:Int)<=o.n))=b1;revert b0 b1;decide),id,id,(hh.1 c_10).1,(hh.1 c_10).2.1,(by generalize (((o.l.length:Int):Int)==0)=b0;generalize (decide ((o.n:Int)<=1048576))=b1;generalize (decide ((1:Int)<=o.n))=b2;revert b0 b1 b2;decide),id,id,id,(by generalize (Z0 y_1 1)=b0;generalize (((o.l.length:Int):Int)==0)=b1;generalize (decide ((o.n:Int)<=1048576))=b2;generalize (decide ((1:Int)<=o.n))=b3;revert b0 b1 b2 b3;decide),(hh.1 c_10).2.2⟩,fun c_10=> ⟨fun c_11=> ⟨id,id,id,(by generalize ((o.n:Int)==0)=b0;revert b0;decide),id,id,((hh.2 c_10).1 c_11).1,((hh.2 c_10).1 c_11).2.1,(by generalize (decide ((0:Int) < (o.l.length:Int)))=b0;generalize ((o.n:Int)==0)=b1;revert b0 b1;decide),id,id,id,(by generalize (Z0 y_1 1)=b0;generalize (decide ((0:Int) < (o.l.length:Int)))=b1;generalize ((o.n:Int)==0)=b2;revert b0 b1 b2;decide),id,id,id,((hh.2 c_10).1 c_11).2.2.1,id,(by generalize (Z0 y_1 1)=b0;generalize (decide ((0:Int) < (o.l.length:Int)))=b1;generalize ((o.e.kind:Int)==0)=b2;generalize ((o.n:Int)==0)=b3;revert b0 b1 b2 b3;decide),((hh.2 c_10).1 c_11).2.2.2⟩,fun c_11=> ⟨fun c_12=> ⟨id,id,id,(by generalize ((o.n:Int)==0)=b0;revert b0;decide),id,id,(((hh.2 c_10).2 c_11).1 c_12).1,(((hh.2 c_10).2 c_11).1 c_12).2.1,(by generalize (decide ((0:Int) < (o.l.length:Int)))=b0;generalize ((o.n:Int)==0)=b1;revert b0 b1;decide),id,id,id,(by generalize (Z0 y_1 1)=b0;generalize (decide ((0:Int) < (o.l.length:Int)))=b1;generalize ((o.n:Int)==0)=b2;revert b0 b1 b2;decide),id,id,id,(((hh.2 c_10).2 c_11).1 c_12).2.2.1,id,(by generalize (Z0 y_1 1)=b0;generalize (decide ((0:Int) < (o.l.length:Int)))=b1;generalize ((o.e.kind:Int)==0)=b2;generalize ((o.n:Int)==0)=b3;revert b0 b1 b2 b3;decide),(((hh.2 c_10).2 c_11).1 c_12).2.2.2⟩,fun c_12=> ⟨fun c_13=> ⟨id,id,id,(by generalize ((o.n:Int)==0)=b0;revert b0;decide),id,id,id,((((hh.2 c_10).2 c_11).2 c_12).1 c_13).1,(by generalize (((o.l.length:Int):Int)==0)=b0;generalize ((o.n:Int)==0)=b1;revert b0 b1;decide),id,id,id,((((hh.2 c_10).2 c_11).2 c_12).1 c_13).2.1,((((hh.2 c_10).2 c_11).2 c_12).1 c_13).2.2.1,(by generalize (YC list y_1)=b0;generalize (((o.l.length:Int):Int)==0)=b1;generalize ((o.n:Int)==0)=b2;revert b0 b1 b2;decide),((((hh.2 c_10).2 c_11).2 c_12).1 c_13).2.2.2⟩,fun c_13=> ((((hh.2 c_10).2 c_11).2 c_12).2 c_13)⟩⟩⟩⟩)
def Zy4(N:Nat)(list:Int)(o:Op)(d:Int):Prop:=AW (Z2 (Z77 N)) Try.f74 ZwN [] (Zj (Zgc.can (list,o,d,())) []) (EQ Try.f74 (ZkV (list,o,d,())) [])
abbrev ZzP:Prop:=∀ (N:Nat) (list:Int) (o:Op) (d:Int) (_:Unit),Z59 (list,o,d,())->Zdz (list,o,d,()) < N+1->Zy4 N list o d
def ZpL:List (FuncId × Fs U):=[(39,ZbU)]
abbrev W21(e:Edit)(Q:QT):=AW (Z2 ZpL) Try.f21 Zxi [] (L2 [(0,.agg (enc .edit e))] []) Q
theorem ZBt(e:Edit)(Q:QT)(h:(JR ((Edit.mk e.kind (Tree.mk e.old.kind e.old.words e.old.kids) (Tree.mk e.new.kind e.new.words e.new.kids) e.words e.kids e.list e.ops),64,()))/\(Q .ret (L2 [pB 2 (Z0 (Edit.mk e.kind (Tree.mk e.old.kind e.old.words e.old.kids) (Tree.mk e.new.kind e.new.words e.new.kids) e.words e.kids e.list e.ops) 64)] []))):
  W21 e Q:=by
 have e_:(W21 e Q)=(type_of% h):=V5
 exact e_.mpr ⟨h.1,h.2⟩
def ZyV(e:Edit):Prop:=AW (Z2 ZpL) Try.f21 Zxi [] (Zj (ZqO.can (e,())) []) (EQ Try.f21 (Zum (e,())) [])
theorem Zwn(c39:CT 39 ZbU)(hb:∀ (e:Edit) (_:Unit),Zlf (e,())->ZyV e):CT 21 Zc1:=
 Z3 (l:=[(39,ZbU)]) Zk rfl (⟨c39,trivial⟩) Zxi Try.func21 rfl rfl 1 (fun _=> rfl) V2 (fun ⟨e,_⟩=> hb e ())
theorem ZsO(c54:CT 54 Z6H)(c55:CT 55 Z6G)(c56:CT 56 Z6F)(c52:CT 52 Z2T)(c85:CT 85 Z6D)(c88:CT 88 Z6C)(c75:CT 75 Z6E)(b39:ZzZ)(b57:ZzU)(b58:ZzT)(b74:ZzP):
  CT 39 ZbU/\CT 57 ZnJ/\CT 58 ZnI/\CT 74 ZnF:=by
 have h87 : ∃ fn, Try.prog.funcs[(39 : FuncId)]? = some fn ∧ fn.body.isSome = true ∧ (fn.name == "runtime.NumGoroutine") = false := ⟨Try.f39, Try.func39, rfl, rfl⟩
 have h121 : ∃ fn, Try.prog.funcs[(57 : FuncId)]? = some fn ∧ fn.body.isSome = true ∧ (fn.name == "runtime.NumGoroutine") = false := ⟨Try.f57, Try.func57, rfl, rfl⟩
 have h122 : ∃ fn, Try.prog.funcs[(58 : FuncId)]? = some fn ∧ fn.body.isSome = true ∧ (fn.name == "runtime.NumGoroutine") = false := ⟨Try.f58, Try.func58, rfl, rfl⟩
 have h132 : ∃ fn, Try.prog.funcs[(74 : FuncId)]? = some fn ∧ fn.body.isSome = true ∧ (fn.name == "runtime.NumGoroutine") = false := ⟨Try.f74, Try.func74, rfl, rfl⟩
 have key:∀ N,CT 39 (fs Zgd (fun a=> [JR a,Z2X a < N]) ZkY)/\CT 57 (fs Z7d (fun a=> [Z5b a,ZdC a < N]) Zaj)/\CT 58 (fs Zgd (fun a=> [Z5a a,ZdB a < N]) Zcm)/\CT 74 (fs Zgc (fun a=> [Z59 a,Zdz a < N]) ZkV):=by
  intro N
  induction N with
  | zero=> exact ⟨J1 h87,J1 h121,J1 h122,J1 h132⟩
  | succ N ih=>
   have kn:=Z0b (l:=Z77 N) ⟨ih.1,ih.2.1,ih.2.2.1,ih.2.2.2,c54,c55,c56,c52,c85,c88,c75,trivial⟩
   exact ⟨ZB (Γ:=Z2 (Z77 N)) Zk rfl kn Zx7 Try.func39 rfl rfl (fun a=> by show 2<=_;decide) (fun ⟨e,d,_⟩ h=> b39 N e d () h.1 h.2.1),
    ZB (Γ:=Z2 (Z77 N)) Zk rfl kn ZfN Try.func57 rfl rfl (fun a=> by show 2<=_;decide) (fun ⟨l,d,_⟩ h=> b57 N l d () h.1 h.2.1),
    ZB (Γ:=Z2 (Z77 N)) Zk rfl kn ZfM Try.func58 rfl rfl (fun a=> by show 2<=_;decide) (fun ⟨e,d,_⟩ h=> b58 N e d () h.1 h.2.1),
    ZB (Γ:=Z2 (Z77 N)) Zk rfl kn ZwN Try.func74 rfl rfl (fun a=> by show 3<=_;decide) (fun ⟨list,o,d,_⟩ h=> b74 N list o d () h.1 h.2.1)⟩
 exact ⟨J2 h87 fun N=> (key N).1,J2 h121 fun N=> (key N).2.1,J2 h122 fun N=> (key N).2.2.1,J2 h132 fun N=> (key N).2.2.2⟩
end
end
theorem Zm6{e:Edit}:(Z0 e 1=true/\e.kind=0)↔Z11 e=true:=by
 rw [Z3h]
 simp only [Z11,Q1,decide_eq_true_eq]
 by_cases hk:e.kind=0
 .rw [JI]
  by_cases hb:ZR e.old=true/\ZR e.new=true
  .by_cases hw:e.words.length=0/\e.kids.length=0
   .by_cases hl:e.list=0/\e.ops.length=0
    .have h1:e.words=[]:=QX.1 hw.1
     have h2:e.kids=[]:=QX.1 hw.2
     have h3:e.ops=[]:=QX.1 hl.2
     rw [if_neg (fun h=> by rcases h with h | h | h;exact h.2 hb;exact h.2 hw;omega),JI,h1,h2,h3]
     simp only [Zp,Zu,Zt,Z0m,Z0l,QH,Xh,Q1,decide_eq_true_eq]
     refine ⟨fun _=> ⟨⟨⟨hk,hb.1⟩,hb.2⟩,rfl,rfl,rfl,hl.1⟩,fun _=> by simp [hk]⟩
    .rw [if_pos (Or.inr (Or.inr ⟨V0,V0⟩))]
     refine ⟨fun h=> (nomatch h.1),fun h=> absurd ⟨h.2.2.2.2,h.2.2.2.1⟩ hl⟩
   .rw [if_pos (Or.inr (Or.inl ⟨V0,hw⟩))]
    refine ⟨fun h=> (nomatch h.1),fun h=> absurd ⟨h.2.1,h.2.2.1⟩ hw⟩
  .rw [if_pos (Or.inl ⟨V0,hb⟩)]
   refine ⟨fun h=> (nomatch h.1),fun h=> absurd ⟨h.1.1.2,h.1.2⟩ hb⟩
 .exact ⟨fun h=> absurd h.2 hk,fun h=> absurd h.1.1.1 hk⟩
theorem b39:ZzZ:=by
 intro N e d _ hp hN
 simp only [JR,Z2X] at hp hN
 obtain ⟨⟨hm,hr⟩,hd0,hd1⟩:=hp
 obtain ⟨ik,ro,rn,rw',il,rk,ros⟩:=Z1K hr
 have hme:=Y3 e
 have hkl:=Yb e.kids
 have hol:=ZU e.ops
 have hat:=Z3h e d
 rw [ZlE hd0] at hat
 refine ZBb N e d _ ?_
 rintro y1 hy1 y2 hy2 y3 hy3
 subst hy1 hy2 hy3
 (simp only [iB,vcS])
 have hbare:Z1u y1=true↔¬((y1.kind≠1/\¬(ZR y1.old=true/\ZR y1.new=true))\/(y1.kind≠2/\¬(y1.words.length=0/\y1.kids.length=0))\/(y1.kind≠3/\(y1.list≠0\/y1.ops.length≠0))):=by
  unfold Z1u
  split
  .rename_i h;exact ⟨fun h=> (nomatch h),fun h2=> absurd h h2⟩
  .rename_i h;exact ⟨fun _=> h,fun _=> rfl⟩
 refine ⟨by simp only [Zcu];omega,fun hc=> Z4 rfl ?_,fun hc=> ?_⟩
 .rcases hc with hc | hc
  .rw [hat]
   split
   .try rfl
   .rw [if_pos (Xa fun h=> by rw [hbare.2 h] at hc;cases hc)]
  .rw [hat,if_pos (Or.inl hc)]
 have hb:=hbare.1 hc.1
 have hr2:¬(y1.kind=0\/y1.kind=1\/y1.kind=2\/y1.kind=3)->Z0 y1 d=false:=fun h=> by rw [hat,V1]
 by_cases hk:y1.kind=0\/y1.kind=1\/y1.kind=2\/y1.kind=3
 .rw [JI,if_neg hb] at hat
  have hw:y1.kind≠2->y1.words=[]/\y1.kids=[]:=by
   intro h
   have:y1.words.length=0/\y1.kids.length=0:=Xa fun h2=> hb (Or.inr (Or.inl ⟨h,h2⟩))
   exact ⟨QX.1 this.1,QX.1 this.2⟩
  have ho:y1.kind≠3->y1.list=0/\y1.ops=[]:=by
   intro h
   have:y1.list=0/\y1.ops.length=0:=by
    constructor
    .exact Xa fun h2=> hb (Or.inr (Or.inr ⟨h,Or.inl h2⟩))
    .exact Xa fun h2=> hb (Or.inr (Or.inr ⟨h,Or.inr h2⟩))
   exact ⟨this.1,QX.1 this.2⟩
  refine ⟨fun h0=> Z4 rfl ?_,fun h0=> ⟨fun h1=> ⟨by simp only [Zcy];exact ⟨V0,ro⟩,fun _=> by simp only [Zcy];exact ⟨V0,rn⟩,Z4 rfl ?_⟩,fun h1=> ⟨fun h2=> ⟨by simp only [Zeq];exact ⟨V0,rw'⟩,fun _=> by unfold InR;omega,fun _=> by simp only [Z5b];exact ⟨⟨V0,rk⟩,V0,V0⟩,fun _=> by simp only [ZdC];omega,Z4 rfl ?_⟩,fun h2=> ⟨fun h3=> ⟨trivial,fun _=> by unfold InR;omega,fun hl=> by simp only [Z5a];exact ⟨⟨V0,hr,hl⟩,V0,V0⟩,fun _=> by simp only [ZdB];omega,Z4 rfl ?_⟩,fun h3=> ?_⟩⟩⟩⟩
  .rw [hat,JI,(hw V0).1,(hw V0).2,(ho V0).1,(ho V0).2]
   simp [Zp,Zu,Zt,Z0m,Z0l]
   omega
  .rw [hat,if_pos h1,Qk]
   (simp only [iB,vcS])
   exact ⟨fun h=> ⟨⟨h.1.2,h.2.2⟩,h.1.1,h.2.1⟩,fun h=> ⟨⟨h.2.1,h.1.1⟩,h.2.2,h.1.2⟩⟩
  .rw [hat,if_neg h1,(ho V0).1,(ho V0).2,Qk]
   simp only [Zt,Z0m,Z0l]
   (simp only [iB,vcS])
   constructor
   .rintro ⟨a,b⟩
    exact ⟨⟨⟨⟨a,b⟩,V0⟩,trivial⟩,V2⟩
   .rintro ⟨⟨⟨⟨a,b⟩,_⟩,_⟩,_⟩
    exact ⟨a,b⟩
  .rw [hat,if_neg h1,(hw V0).1,(hw V0).2,Qk]
   simp only [Zp,Zu]
   (simp only [iB,vcS])
   constructor
   .rintro ⟨a,b,c⟩
    exact ⟨⟨⟨⟨trivial,trivial⟩,V0⟩,b⟩,c⟩
   .rintro ⟨⟨⟨_,a⟩,b⟩,c⟩
    exact ⟨V0,b,c⟩
  .omega
 .have he:=hr2 hk
  refine ⟨fun h0=> by omega,fun h0=> ⟨fun h1=> by omega,fun h1=> ⟨fun h2=> by omega,fun h2=> ⟨fun h3=> by omega,fun h3=> Z4 rfl ?_⟩⟩⟩⟩
  rw [he]
theorem b57:ZzU:=by
 intro N l d _ hp hN
 simp only [Z5b,ZdC] at hp hN
 obtain ⟨⟨hm,hr⟩,hd0,hd1⟩:=hp
 have hl:=Yb l
 refine ZAT N l d _ ?_
 refine Zb (ι:=Int) (fun i=> Z3E l d i) (fun i=> 0<=i/\i<=l.length/\∃ last,-1<=last/\(i=0->last= -1)/\(0 < i->last=(l.getD (i - 1).toNat (KidOf.mk 0 Edit.nil)).at_)/\Zu last (l.drop i.toNat) d=Zu (-1) l d) (fun i=> ((l.length:Int) - i).toNat) 0 rfl ⟨V0,V0,-1,V0,fun _=> rfl,fun h=> by omega,by simp⟩ ?_
 rintro i ⟨g1,g2,last,g3,g4,g5,g6⟩
 refine ZrN N l d i _ _ ?_
 rintro y1 hy1 y2 hy2 y3 hy3
 (simp only [iB,vcS])
 refine ⟨fun hi=> ?_,fun hi=> ?_⟩
 .have hmem:=Zh (l:=l) (i:=i.toNat) V0 (KidOf.mk 0 Edit.nil)
  have hmk:=JA hmem
  have hrk:=YU hr hmem
  rw [YB g1 hi (KidOf.mk 0 Edit.nil)] at g6
  rw [<-hy1] at g6 hmk hrk
  rw [<-hy2] at g5
  rw [<-hy3] at hmk hrk
  simp only [Zu,Z2G] at g6
  rw [<-hy3] at g6
  have hk:y1.e.kind=y3.kind:=by rw [hy3]
  rw [hk]
  have gl:(¬0 < i\/¬y1.at_<=y2.at_)/\¬y1.at_ < 0↔last < y1.at_/\¬y1.at_ < 0:=by
   by_cases h0:0 < i
   .have:=g5 h0;omega
   .have:=g4 V0;omega
  refine ⟨⟨g1,hi⟩,fun _=> by unfold InR;omega,fun _=> by omega,fun _=> ?_,fun _=> by simp only [Z2X];omega,fun hc=> Z4 rfl ?_,fun hc=> ⟨V4,i+1,rfl,⟨V0,V0,y1.at_,V0,fun h=> by omega,fun _=> by rw [show (i+1 - 1).toNat=i.toNat by omega,<-hy1],?_⟩,V0⟩⟩
  .simp only [JR]
   exact ⟨⟨V0,hrk.2⟩,hd0,hd1⟩
  .rw [<-g6]
   by_cases hr:Z0 y3 d=true
   .rw [decide_eq_false (fun h=> ?_)]
    .try rfl
    .rcases hc with hc | hc
     .rcases hc with (hc | hc) | hc
      .omega
      .by_cases h0:0 < i
       .have:=g5 h0;omega
       .omega
      .exact h.2.2 hc
     .rw [hr] at hc;cases hc
   .simp only [Xy] at hr
    rw [hr];simp
  .rw [<-g6,hc.2,decide_eq_true (show last < y1.at_/\y1.at_<=65534/\y3.kind≠0 by
    refine ⟨?_,V0,hc.1.2⟩
    by_cases h0:0 < i
    .have:=g5 h0;omega
    .have:=g4 V0;omega)]
   try rfl
 .rw [Q8 V0] at g6
  simp only [Zaj]
  rw [<-g6]
  exact Z4 rfl rfl
theorem Z6e{list d:Int}:∀ {os:List Op},(∀ o∈os,Zc list o d=true)->Zt list os d=true
 | [],_=> rfl
 | o ::r,h=> by
  simp only [Zt,Q1]
  exact ⟨h o (Q4 ..),Z6e (fun x hx=> h x (Q0 _ hx))⟩
theorem b58:ZzT:=by
 intro N e d _ hp hN
 simp only [Z5a,ZdB] at hp hN
 obtain ⟨⟨hm,hr,hl⟩,hd0,hd1⟩:=hp
 obtain ⟨ik,ro,rn,rw',il,rk,ros⟩:=Z1K hr
 have hme:=Y3 e
 have hol:=ZU e.ops
 refine ZAS N e d _ ?_
 refine Zb (ι:=Int) (fun i=> Z3D e d i) (fun i=> 0<=i/\i<=e.ops.length/\∀ o∈e.ops.take i.toNat,Zc e.list o d=true) (fun i=> ((e.ops.length:Int) - i).toNat) 0 rfl ⟨V0,V0,by simp⟩ ?_
 rintro i ⟨g1,g2,g3⟩
 refine ZrM N e d i _ _ ?_
 rintro y1 hy1 y2 hy2 y3 hy3
 subst hy1 hy3
 (simp only [iB,vcS])
 refine ⟨fun hi=> ?_,fun hi=> ?_⟩
 .have hmem:=Zh (l:=y1.ops) (i:=i.toNat) V0 Op.nil
  have hmo:=Yl hmem
  have hro:=Z08 ros hmem
  rw [<-hy2] at hmem hmo hro
  refine ⟨⟨g1,hi⟩,?_,by simp only [Zdz];omega,fun hc=> Z4 rfl ?_,fun hc=> ⟨V4,i+1,rfl,⟨V0,V0,fun o ho=> ?_⟩,V0⟩⟩
  .simp only [Z59]
   exact ⟨⟨V0,hro,hl⟩,hd0,hd1⟩
  .have:Zt y1.list y1.ops d=false:=by
    rw [<-Xy]
    intro h
    have:=rightOs_mem h hmem
    rw [hc] at this;cases this
   rw [this,Bool.false_and]
  .rw [show (i+1).toNat=i.toNat+1 by omega,Xn] at ho
   rcases Qi.1 ho with ho | ho
   .exact g3 o ho
   .have e:y1.ops[i.toNat]?=some y3:=by
     rw [hy2]
     simp [List.getD,Q2 (show i.toNat < y1.ops.length by omega)]
    rw [e] at ho
    simp only [Option.toList_some,Q9] at ho
    subst ho
    exact hc
 .rw [Qr V0] at g3
  have hall:Zt y1.list y1.ops d=true:=Z6e g3
  have hb:∀ o∈y1.ops,(0<=o.n/\o.n<=1048576)/\o.l.length<=20000000000:=by
   intro o ho
   refine ⟨Z5O (g3 o ho),?_⟩
   have h1:=Yl ho
   rw [ZW] at h1
   have h2:=Zw o.l
   omega
  refine ⟨by simp only [Zcu];omega,Z4 rfl ?_⟩
  rw [ZhN _ _ hb V2 V2,ZhM _ _ hb V2 V2,hall,QH]
  by_cases h1:Z0m y1.ops 0 < 1048576 <;> by_cases h2:Z0l y1.ops 0 < 1048576 <;> simp [h1,h2]
theorem b74:ZzP:=by
 intro N list o d _ hp hN
 simp only [Z59,Zdz] at hp hN
 obtain ⟨⟨hm,hr,hil⟩,hd0,hd1⟩:=hp
 obtain ⟨ik,inn,rl,re⟩:=JQ hr
 rw [ZW] at hm hN
 have hll:=Zw o.l
 have hep:=Z3r o.e
 have hat:=Jw list o d
 rw [ZlE hd0,Z93] at hat
 have hs:=Zm6 (e:=o.e)
 refine ZAC N list o d _ ?_
 rintro y1 hy1 y2 hy2
 subst hy1
 (simp only [iB,vcS])
 have hp87:JR (o.e,1,()):=by simp only [JR];exact ⟨⟨V0,re⟩,V0,V0⟩
 have hm87:Z2X (o.e,1,()) < N:=by simp only [Z2X];omega
 have hp135:Zh3 (o.l,(list,()),()):=by simp only [Zh3];exact ⟨V0,rl,V4⟩
 have h12:o.kind=1\/o.kind=2->y2= .bool (Zc list o d):=by
  intro hk
  rw [hy2,hat,JI]
  congr 1
  rw [Qk]
  (simp only [iB,vcS])
  by_cases hn:o.n=0
  .rw [JI,V1]
   (simp only [iB,vcS])
   constructor
   .rintro ⟨⟨⟨⟨h1,h2⟩,h3⟩,h4⟩,h5⟩
    exact ⟨⟨h5,V0⟩,hs.1 ⟨h3,h4⟩⟩
   .rintro ⟨⟨h5,h2⟩,h3⟩
    have:=hs.2 h3
    exact ⟨⟨⟨⟨hn,V0⟩,this.1⟩,this.2⟩,h5⟩
  .rw [V1]
   exact ⟨fun h=> absurd h.1.1.1.1 hn,fun h=> (nomatch h)⟩
 refine ⟨fun hk=> ⟨fun _=> hp87,fun _=> hm87,Z4 rfl ?_⟩,fun hk=> ⟨fun hk1=> ⟨fun _=> hp87,fun _=> hm87,fun _=> hp135,?_⟩,fun hk1=> ⟨fun hk2=> ⟨fun _=> hp87,fun _=> hm87,fun _=> hp135,?_⟩,fun hk2=> ⟨fun hk3=> ⟨fun _=> trivial,fun _=> ?_,fun _=> by simp only [Z2X];omega,Z4 rfl ?_⟩,fun hk3=> Z4 rfl ?_⟩⟩⟩⟩
 .rw [hat,if_pos hk,Qk]
  (simp only [iB,vcS])
  constructor
  .rintro ⟨⟨⟨h1,h2⟩,h3⟩,h4⟩
   exact ⟨⟨h1.1,h1.2,V0⟩,hs.1 ⟨h3,h4⟩⟩
  .rintro ⟨⟨h1,h2,h3⟩,h4⟩
   have:=hs.2 h4
   exact ⟨⟨⟨⟨h1,h2⟩,V0⟩,this.1⟩,this.2⟩
 .rw [h12 (Or.inl hk1)]
  exact Z4 rfl rfl
 .rw [h12 (Or.inr hk2)]
  exact Z4 rfl rfl
 .simp only [JR];exact ⟨⟨V0,re⟩,hd0,hd1⟩
 .rw [hat,if_neg hk,Qk]
  by_cases hn:o.n=0
  .rw [JI,JI]
   have hw:YC list o.e=true↔(o.e.kind≠0/\7 < list)/\(list=8\/o.e.kind=2\/o.e.kind=1/\o.e.old.kind=1/\o.e.new.kind=1):=by
    unfold YC
    split
    .exact ⟨fun h=> (nomatch h),fun h=> by omega⟩
    .split
     .exact ⟨fun _=> ⟨V0,V0⟩,fun _=> rfl⟩
     .rw [decide_eq_true_eq]
      exact ⟨fun h=> ⟨V0,Or.inr (Or.inr h)⟩,fun h=> by omega⟩
   (simp only [iB,vcS])
   rw [hw]
   constructor
   .rintro ⟨⟨h1,h2⟩,h3⟩
    exact ⟨⟨⟨V0,h2.1⟩,h3⟩,h2.2⟩
   .rintro ⟨⟨⟨h1,h2⟩,h3⟩,h4⟩
    exact ⟨⟨⟨hn,V0⟩,h2,h4⟩,h3⟩
  .rw [V1]
   (simp only [iB,vcS])
   exact ⟨fun h=> absurd h.1.1.1 hn,fun h=> (nomatch h)⟩
 .rw [hat,if_neg hk]
  by_cases hn:o.n≠0\/o.kind < 0\/3 < o.kind
  .rw [if_pos hn]
  .exfalso;omega
theorem ZBI:Contract Try.prog cfg 39 ZbU/\Contract Try.prog cfg 57 ZnJ/\Contract Try.prog cfg 58 ZnI/\Contract Try.prog cfg 74 ZnF:=
 ZsO c54 c55 c56 c52 c85 c88 c75 b39 b57 b58 b74
theorem c21:Contract Try.prog cfg 21 Zc1:=by
 refine Zwn ZBI.1 ?_
 intro e _ hp
 simp only [Zlf] at hp
 refine ZBt _ _ ?_
 (simp only [Tree.eta,Edit.eta,Tree.kind_mk,Tree.words_mk,Tree.kids_mk])
 refine ⟨by simp only [JR];exact ⟨hp,V0,V0⟩,?_⟩
 exact Z4 rfl rfl
noncomputable section
def ZkT(a:Edit × Edit × Unit):V U:= .tup [(true,(enc .edit ((Z0W a.1 a.2.1).1))),(false,[.bool ((Z0W a.1 a.2.1).2)])]
def ZbS:Fs U:=fs Z4B (fun a=> [Z4F a]) ZkT
def ZpE:List (FuncId × Fs U):=[(59,Z9b),(42,Z1Y)]
abbrev A41(p:List Nat):=AW (Z2 ZpE) Try.f41 Zxh p
theorem ZB9(p q:Edit)(Q:QT)(h:∀ y_1,y_1=p->∀ y_2,y_2=q->∀ y_3,y_3=((Y7 y_1 y_2).1)->((Z4F (y_1,y_2,()))/\(iB (!((Y7 y_1 y_2).2)) ((Q .ret (L2 [pL 4,pB 5 false] [(.loc 4,zc1)]))) ((Z1l (y_3,()))/\(Q .ret (L2 [pL 4,pB 5 true] [(.loc 4,(enc .edit (ZE y_3)))])))))):
  A41 [] (L2 [(0,.agg (enc .edit p)),(1,.agg (enc .edit q))] []) Q:=
 Eq.mpr V5 (h _ (Zf _) _ (Zf _) _ (Zf _))
def ZyB(p q:Edit):Prop:=AW (Z2 ZpE) Try.f41 Zxh [] (Zj (Z4B.can (p,q,())) []) (EQ Try.f41 (ZkT (p,q,())) [])
theorem Zw8(c59:CT 59 Z9b)(c42:CT 42 Z1Y)(hb:∀ (p:Edit) (q:Edit) (_:Unit),Z4F (p,q,())->ZyB p q):CT 41 ZbS:=
 Z3 (l:=[(59,Z9b),(42,Z1Y)]) Zk rfl (⟨c59,c42,trivial⟩) Zxh Try.func41 rfl rfl 2 (fun _=> rfl) V2 (fun ⟨p,q,_⟩=> hb p q ())
end
theorem Zl3{e:Edit}(h:YI e):Wk e:=by obtain ⟨d,hr⟩:=h.2.2;exact .of hr h.2.1
theorem Z64{p q:Edit}(hp:YI p)(hq:YI q):ComWk True (Y7 p q) p q:=Zxs _ p q (Qm _) (Zl3 hp) (Zl3 hq)
theorem ZtC{p q:Edit}(hp:YI p)(hq:YI q)(h:(Y7 p q).2=true):Z1l ((Y7 p q).1,()):=by
 have H:=Z64 hp hq
 have:=H.ct trivial h
 have:=Zbi (Y7 p q).1
 have:=hp.1
 have:=hq.1
 exact ⟨V3,-1,(H.wk h).r⟩
theorem c41:Contract Try.prog cfg 41 ZbS:=by
 refine Zw8 c59 ZjZ.1 ?_
 intro p q _ hp
 refine ZB9 _ _ _ ?_
 intro y1 h1 y2 h2 y3 h3
 subst h1 h2
 (simp only [iB,vcT,vcS])
 refine ⟨hp,fun hc=> ?_,fun hc=> ?_⟩
 .refine Z0c (r':= .tup [(true,enc .edit Edit.nil),(false,[.bool false])]) ?_ Y6
  simp only [ZkT,Z0W]
  rw [if_neg (by rw [hc];decide)]
  try rfl
 .refine ⟨by rw [h3];exact ZtC hp.1 hp.2 hc,Z0c (r':= .tup [(true,enc .edit (ZE y3)),(false,[.bool true])]) ?_ Y6⟩
  simp only [ZkT,Z0W]
  rw [if_pos hc,h3]
  try rfl
theorem Z58:YI Edit.nil:=by
 refine ⟨V2,?_,1,Zmr⟩
 exact ⟨Jk V2 V2,JD,JD,by simp [Edit.nil],Jk V2 V2,trivial,trivial⟩
mutual
theorem Z1e:∀ t:Tree,Zn t<=17592186044416->Z23 t
 | .mk k w ks,h=> by
  simp only [Zn] at h
  have:=Zw ks
  exact ⟨V0,V0,Z21 ks V0⟩
theorem Z21:∀ l:List Tree,Zl l<=17592186044416->Z22 l
 | [],_=> trivial
 | t ::r,h=> by
  simp only [Zl] at h
  exact ⟨Z1e t V0,Z21 r V0⟩
end
theorem Zty(x:Tree):doE false Edit.nil x=some x:=by rw [JO,Ye,if_pos (by rfl)]
theorem ZsI{A B C:Option Tree}(h:OptR Eqv A B)(e:B=C):OptR Eqv A C:=e▸h
theorem Zmn(x:Option Tree):OptR Eqv x x:=by
 cases x with
 | none=> exact trivial
 | some t=> exact (rfl:Z1 t=Z1 t)
theorem ZkG:∀ (l:List Edit) (t:Tree),(∀ x∈l,∃ d,Z0 x d=true)->Zm5 l (Z1 t)=(Z4M l t).map Z1
 | [],t,_=> rfl
 | e ::r,t,h=> by
  obtain ⟨d,hd⟩:=h e Q4
  rw [Zm5,Z4M,(Z2O e d (Z1 t) t hd (Z8M t)).normed]
  cases doE false e t with
  | none=> rfl
  | some u=>
   simp only [Qf,Qe]
   exact ZkG r u fun x hx=> h x (Q0 _ hx)
instance decStep:DecidableEq PStep:=fun a b=> decidable_of_iff (a.kind=b.kind/\a.at_=b.at_) (by cases a;cases b;simp)
theorem Zqc{p q:Edit}(hp:YI p)(hq:YI q)(h:(Z0W p q).2=true):(Y7 p q).2=true/\(Z0W p q).1=ZE (Y7 p q).1:=by
 unfold Z0W at h ⊢
 split at h
 .rename_i hc
  rw [if_pos hc]
  exact ⟨hc,rfl⟩
 .cases h
theorem Z4j{a b c:Option Tree}(h1:OptR Eqv a b)(h2:OptR Eqv b c):OptR Eqv a c:=by
 cases a <;> cases b <;> cases c <;> first | exact trivial | exact absurd h1 id | exact absurd h2 id | exact Eq.trans h1 h2
theorem ZgD:∀ {l:List Edit} {a b:Tree},(∀ e∈l,∃ d,Z0 e d=true)->Eqv a b->OptR Eqv (Z4M l a) (Z4M l b)
 | [],a,b,_,h=> h
 | e ::r,a,b,hr,h=> by
  obtain ⟨d,hd⟩:=hr e Q4
  rw [Z4M,Z4M]
  exact (Z2O e d a b hd h).bind fun x y hxy=> ZgD (fun x hx=> hr x (Q0 _ hx)) hxy
theorem ZtA{p q:Edit}{d d':Int}(hp:Z0 p d=true)(hq:Z0 q d'=true)(gp:ZK p)(gq:ZK q)(hc:(Y7 p q).2=true){t:Tree}(ht:RT_ t):OptR Eqv (doE false (Y7 p q).1 t) ((doE false p t).bind (doE false q)):=by
 have C:=Zqa hp hq gp gq
 cases h1:doE false (Y7 p q).1 t with
 | none=>
  cases h2:doE false p t with
  | none=> exact trivial
  | some u=>
   rw [Qe]
   cases h3:doE false q u with
   | none=> exact trivial
   | some v=>
    obtain ⟨_,w,hw,_⟩:=C.bwd ht h2 h3
    rw [h1] at hw;cases hw
 | some w=>
  obtain ⟨u,v,h2,h3,h4⟩:=C.fwd ht hc h1
  rw [h2,Qe,h3]
  exact h4
theorem Zid{p q:Edit}(hp:YI p)(hq:YI q)(h:(Z0W p q).2=true)(hs:ctE p+ctE q<=9000000000):YI (Z0W p q).1/\ctE (Z0W p q).1+18<=ctE p+ctE q:=by
 have F:=Z64 hp hq
 obtain ⟨c1,c2⟩:=Zqc hp hq h
 have w:=F.wk c1
 have c:=F.ct trivial c1
 have n:=Z4r (Y7 p q).1
 rw [c2]
 exact ⟨⟨V0,Z0G _ _ w.r w.g,_,Jx _ _ w.r⟩,V0⟩
theorem ZhT:∀ (l:List Edit) (x:Edit) (t0:Tree),YI x->(∀ e∈l,YI e)->ctE x+ctL l<=8000000018->RT_ t0->((doE false x t0).bind (Z4M l)).isSome=true->
  (Z0T l x).2=true/\YI (Z0T l x).1/\ctE (Z0T l x).1<=ctE x+ctL l/\∀ t,RT_ t->OptR Eqv (doE false (Z0T l x).1 t) ((doE false x t).bind (Z4M l))
 | [],x,t0,hx,_,hc,ht,h=> by
  refine ⟨rfl,hx,Nat.le_add_right _ _,fun t _=> ?_⟩
  have:(doE false x t).bind (Z4M [])=doE false x t:=by cases doE false x t <;> rfl
  rw [this]
  exact Zmn _
 | e ::r,x,t0,hx,he,hc,ht,h=> by
  have h1:=he e Q4
  have hr:∀ y∈r,YI y:=fun y hy=> he y (Q0 _ hy)
  have hrd:∀ y∈r,∃ d,Z0 y d=true:=fun y hy=> (hr y hy).2.2
  obtain ⟨dx,rx⟩:=hx.2.2
  obtain ⟨de,re⟩:=h1.2.2
  rw [ctL] at hc
  have hc2:(Y7 x e).2=true:=by
   cases a:doE false x t0 with
   | none=> rw [a] at h;cases h
   | some u=>
    rw [a,Qe,Z4M] at h
    cases b:doE false e u with
    | none=> rw [b] at h;cases h
    | some v=> exact ((Zqa rx re hx.2.1 h1.2.1).bwd ht a b).1
  have hcN:Z0W x e=(ZE (Y7 x e).1,true):=by rw [Z0W,if_pos hc2]
  have W:=Z64 hx h1
  have w:=W.wk hc2
  have hy:=Zid hx h1 (by rw [hcN]) V0
  rw [hcN] at hy
  have key:∀ t,RT_ t->OptR Eqv ((doE false (ZE (Y7 x e).1) t).bind (Z4M r)) ((doE false x t).bind (Z4M (e ::r))):=by
   intro t ht
   have k1:=Z4j (Z70 (Y7 x e).1 _ t w.r ht) (ZtA rx re hx.2.1 h1.2.1 hc2 ht)
   have k2:=k1.bind (f:=Z4M r) (g:=Z4M r) fun a b hab=> ZgD hrd hab
   refine ZsI k2 ?_
   cases doE false x t <;> rfl
  obtain ⟨i1,i2,i3,i4⟩:=ZhT r _ t0 hy.1 hr (by dsimp only;have:=hy.2;dsimp only at this;omega) ht (by rw [(key t0 ht).isSome];exact h)
  rw [Z0T,hcN,if_pos rfl]
  refine ⟨i1,i2,?_,fun t ht=> Z4j (i4 t ht) (key t ht)⟩
  have:=hy.2
  dsimp only at this i3 ⊢
  rw [ctL];omega
theorem Zg1:∀ (a b:List Edit),ctL (a++b)=ctL a+ctL b
 | [],b=> by simp [ctL]
 | e ::r,b=> by rw [Qw,ctL,ctL,Zg1 r b];omega
noncomputable section
def atF:List Edit->Tree->Option Tree
 | [],t=> some (Z1 t)
 | e ::r,t=> if Z0 e 64=true then (match doE false e t with
  | none=> none
  | some u=> if Z9 (Z1 u) 64=true then atF r (Z1 u) else none) else none
def atG:List Edit->Tree->Option Tree
 | [],t=> some t
 | e ::r,t=> if Z0 e 64=true then (match doE true e t with
  | none=> none
  | some u=> if Z9 u 64=true then atG r u else none) else none
def oT(o:Option Tree):Tree × Bool:=match o with
 | some t=> (t,true)
 | none=> (Tree.nil,false)
def atO(f:Tree)(l:List Edit)(n:Int):Prop:=Z9 f 64=true/\f.kind≠10/\0<=n/\n<=l.length
instance (f:Tree) (l:List Edit) (n:Int):Decidable (atO f l n):=by unfold atO;infer_instance
def atN(f:Tree)(l:List Edit)(n:Int):Tree × Bool:=if atO f l n then oT (atF (l.take n.toNat) f) else (Tree.nil,false)
def atM(f:Tree)(l:List Edit)(n:Int):Tree × Bool:=if atO f l n then oT (atG (l.take n.toNat) (Z1 f)) else (Tree.nil,false)
def Z9P(l:List Edit)(a b:Int):Edit × Bool:=
 if a < 0\/b < 0\/l.length < a\/l.length < b then (Edit.nil,false)
 else if a<=b then YZ ((l.take b.toNat).drop a.toNat)
 else (ZE (Zq (YZ ((l.take a.toNat).drop b.toNat)).1),(YZ ((l.take a.toNat).drop b.toNat)).2)
end
theorem ZuI:∀ (l:List Edit) (t:Tree),atF l t=atG l (Z1 t)
 | [],_=> rfl
 | e ::r,t=> by
  rw [atF,atG]
  by_cases hr:Z0 e 64=true
  .rw [if_pos hr,if_pos hr,Z8P,(Z2O e 64 (Z1 t) t hr (Z8M t)).normed]
   cases doE false e t with
   | none=> rfl
   | some u=>
    dsimp only [Option.map]
    rw [ZuI r (Z1 u),ZZ]
  .rw [if_neg hr,if_neg hr]
theorem ZuJ(f:Tree)(l:List Edit)(n:Int):atN f l n=atM f l n:=by unfold atN atM;rw [ZuI]
theorem Zg4:∀ (a b:List Edit) (t:Tree),atG (a++b) t=(atG a t).bind (atG b)
 | [],_,_=> rfl
 | e ::r,b,t=> by
  rw [Qw,atG,atG]
  by_cases hr:Z0 e 64=true
  .rw [if_pos hr,if_pos hr]
   cases doE true e t with
   | none=> rfl
   | some u=>
    dsimp only
    by_cases h:Z9 u 64=true
    .rw [if_pos h,if_pos h,Zg4 r b u]
    .rw [if_neg h,if_neg h];try rfl
  .rw [if_neg hr,if_neg hr];try rfl
structure RowT (t:Tree):Prop where
 n:Z1 t=t
 r:Z9 t 64=true
 g:rng t
theorem RowT.rt{t:Tree}(h:RowT t):RT_ t:=⟨⟨64,h.r⟩,h.g⟩
theorem Z8V:∀ {l:List Edit} {t u:Tree},RowT t->(∀ e∈l,ZK e)->atG l t=some u->RowT u/\(∀ e∈l,Z0 e 64=true)/\Zm5 l t=some u
 | [],t,u,ht,_,h=> by
  injection h with h
  subst h
  exact ⟨ht,fun e he=> (by cases he),rfl⟩
 | e ::r,t,u,ht,hg,h=> by
  rw [atG] at h
  by_cases hr:Z0 e 64=true
  .rw [if_pos hr,Z8P] at h
   cases hd:doE false e t with
   | none=> rw [hd] at h;cases h
   | some v=>
    rw [hd] at h
    dsimp only [Option.map] at h
    by_cases hv:Z9 (Z1 v) 64=true
    .rw [if_pos hv] at h
     have rv:RowT (Z1 v):=⟨ZZ v,hv,J9 _ (Z4g false _ _ _ (hg e Q4) ht.g hd)⟩
     obtain ⟨h1,h2,h3⟩:=Z8V rv (fun x hx=> hg x (Q0 _ hx)) h
     refine ⟨h1,fun x hx=> ?_,?_⟩
     .rcases Q6.1 hx with rfl | hx
      .exact hr
      .exact h2 x hx
     .rw [Zm5,hd];exact h3
    .rw [if_neg hv] at h;cases h
  .rw [if_neg hr] at h;cases h
theorem Zg0:∀ {l:List Edit},(∀ e∈l,Zd e<=10000)->ctL l<=l.length*660000000
 | [],_=> Qm _
 | e ::r,h=> by
  have h1:=Z2P e
  have h2:=h e Q4
  have h3:=Zg0 (l:=r) fun x hx=> h x (Q0 _ hx)
  simp only [ctL,Q7,Qx]
  omega
theorem ZjO{l:List Edit}{t u:Tree}(ht:RowT t)(hu:RowT u)(hl:∀ e∈l,Z0 e 64=true/\ZK e/\Zd e<=10000)(hn:l.length<=8)(h:Zm5 l t=some u):
  (YZ l).2=true/\YI (YZ l).1/\(doE false (YZ l).1 t).map Z1=some u/\(doE false (ZE (Zq (YZ l).1)) u).map Z1=some t:=by
 have hx:∀ e∈l,YI e:=fun e he=> by
  obtain ⟨a,b,c⟩:=hl e he
  have:=Z2P e
  exact ⟨V0,b,64,a⟩
 have hc:=Zg0 fun e he=> (hl e he).2.2
 have hc:ctL l<=8000000000:=V0
 have h18:ctE Edit.nil=18:=by simp [ctE,Z0t,YN,Edit.nil,Tree.nil,Zn,Zl]
 have hz:∀ t,(doE false Edit.nil t).bind (Z4M l)=Z4M l t:=fun t=> by rw [Zty];try rfl
 have hs:=ZkG l t fun e he=> ⟨64,(hl e he).1⟩
 rw [ht.n,h] at hs
 cases hd:Z4M l t with
 | none=> rw [hd] at hs;cases hs
 | some v=>
  rw [hd] at hs
  have ev:u=Z1 v:=by injection hs
  obtain ⟨j1,j2,j3,j4⟩:=ZhT l Edit.nil t Z58 hx V0 ht.rt (by rw [hz,hd];rfl)
  have hj:YZ l=(ZE (Z0T l Edit.nil).1,true):=by rw [YZ,if_pos j1]
  obtain ⟨dj,rj⟩:=j2.2.2
  have k:=j4 t ht.rt
  rw [hz,hd] at k
  have k2:=Z4j (Z70 _ dj t rj ht.rt) k
  have k3:=k2.normed
  rw [hj]
  have ok:YI (ZE (Z0T l Edit.nil).1):=⟨X5 (Z4r _) j2.1,Z0G _ dj rj j2.2.1,dj,Jx _ dj rj⟩
  refine ⟨rfl,ok,by rw [k3,ev];rfl,?_⟩
  dsimp only
  generalize hJ:ZE (Z0T l Edit.nil).1=J at*
  cases hw:doE false J t with
  | none=> rw [hw] at k3;cases k3
  | some w=>
   rw [hw] at k3
   obtain ⟨d,hr⟩:=ok.2.2
   obtain ⟨y,hy,he⟩:=Z7k J d t w hr ok.2.1 ht.rt hw
   have e2:Z1 w=Z1 v:=by injection k3
   have r2:=Yn J d hr
   have q:=Z2O (Zq J) d u w r2 (by show Z1 u=Z1 w;rw [hu.n,e2];exact ev)
   rw [hy] at q
   have q2:=Z4j (Z70 (Zq J) d u r2 hu.rt) q
   rw [q2.normed]
   show some (Z1 y)=some t
   rw [show Z1 y=Z1 t from he,ht.n]
theorem Zf9(l:List Edit){i j:Nat}(h:i<=j):l.take j=l.take i++(l.take j).drop i:=by
 have:=Qv i (l.take j)
 rw [List.take_take,Xf h] at this
 exact this.symm
theorem Z4H{f:Tree}{l:List Edit}(hf:RowT (Z1 f))(hb:∀ e∈l,ZK e/\Zd e<=10000)(hn:l.length<=8){T:Tree}(h:atG l (Z1 f)=some T){i j:Nat}(hi:i<=l.length)(hj:j<=l.length):
  ∃ t u,(atG (l.take i) (Z1 f)=some t/\atG (l.take j) (Z1 f)=some u)/\RowT t/\RowT u/\(Z9P l i j).2=true/\YI (Z9P l i j).1/\(doE false (Z9P l i j).1 t).map Z1=some u:=by
 have sub:∀ k:Nat,∃ t,atG (l.take k) (Z1 f)=some t/\RowT t:=fun k=> by
  have h2:=h
  rw [<-Qv k l,Zg4] at h2
  cases ht:atG (l.take k) (Z1 f) with
  | none=> rw [ht] at h2;cases h2
  | some t=> exact ⟨t,rfl,(Z8V hf (fun e he=> (hb e (X9 he)).1) ht).1⟩
 have all:=(Z8V hf (fun e he=> (hb e he).1) h).2.1
 obtain ⟨t,h1,r1⟩:=sub i
 obtain ⟨u,h2,r2⟩:=sub j
 have step:∀ {a b:Nat} {x y:Tree},a<=b->atG (l.take a) (Z1 f)=some x->atG (l.take b) (Z1 f)=some y->RowT x->RowT y->
   (YZ ((l.take b).drop a)).2=true/\YI (YZ ((l.take b).drop a)).1/\(doE false (YZ ((l.take b).drop a)).1 x).map Z1=some y/\(doE false (ZE (Zq (YZ ((l.take b).drop a)).1)) y).map Z1=some x:=by
  intro a b x y hab ha hb' rx ry
  rw [Zf9 l hab,Zg4,ha] at hb'
  have mem:∀ e∈(l.take b).drop a,e∈l:=fun e he=> X9 (QZ he)
  have s:=(Z8V rx (fun e he=> (hb e (mem e he)).1) hb').2.2
  refine ZjO rx ry (fun e he=> ⟨all e (mem e he),hb e (mem e he)⟩) ?_ s
  rw [QI,Qj];omega
 refine ⟨t,u,⟨h1,h2⟩,r1,r2,?_⟩
 unfold Z9P
 rw [JI]
 by_cases c:(i:Int)<=j
 .rw [if_pos c]
  obtain ⟨a1,a2,a3,_⟩:=step (show i<=j by omega) h1 h2 r1 r2
  exact ⟨a1,a2,a3⟩
 .rw [if_neg c]
  obtain ⟨a1,a2,_,a4⟩:=step (show j<=i by omega) h2 h1 r2 r1
  obtain ⟨d,hr⟩:=a2.2.2
  exact ⟨a1,(Z7j a2).2,a4⟩
noncomputable section
def Zr0:ArgL (List Edit × Unit):=(.cons (aSl .edit) .nil)
def Zhh(a:List Edit × Unit):Prop:=(∀ x∈a.1,YI x)/\ctL a.1<=8000000000
def ZkX(a:List Edit × Unit):V U:= .tup [(true,(enc .edit ((YZ a.1).1))),(false,[.bool ((YZ a.1).2)])]
def Zc0:Fs U:=fs Zr0 (fun a=> [Zhh a]) ZkX
def ZjG:List (FuncId × Fs U):=[(41,ZbS),(42,Z1Y)]
def Ztf:Ze U:=lvk [([0,2],[2]),([0,2,4],[2,4]),([2,4,10,11,12],[2,((.loc 4),[.any,.any,.unk .u64,.unk .tree,.any,.unk .u64,.unk .tree,.unk .wedit,.unk .kid,.any,.unk .op])]),([2,4,10,11,12,13],[2,4]),([2,4,6,10,11,12],[2,4,6]),([2,4,7,8,10,11,12],[2,4,7]),([2,4,7,10,11,12,23],[2,4,7]),([2,3],[2]),([2,4,10,11,12],[2,4]),([2,4,10,11,12],[2,((.loc 4),[.any,.any,.unk .u64,.unk .tree,.any,.unk .u64,.unk .tree,.unk .wedit,.unk .kid,.any,.unk .op])]),([2,3],[2])]
def Z8y(l:List Edit)(x12 ml4_0 ml4_1 ml4_4 ml4_9:Int)(ml4_2:List Int)(ml4_3:List Tree)(ml4_5:List Int)(ml4_6:List Tree)(ml4_7:List WEdit)(ml4_8:List Kid)(ml4_10:List Op):LSt U:=(L2 [pL 2,pL 4,(10,.c (sU .edit l .unk)),pI 11 (l.length:Int),pI 12 x12] [(.loc 2,zc1),(.loc 4,[ci ml4_0,ci ml4_1,sU .u64 ml4_2 .unk,sU .tree ml4_3 .unk,ci ml4_4,sU .u64 ml4_5 .unk,sU .tree ml4_6 .unk,sU .wedit ml4_7 .unk,sU .kid ml4_8 .unk,ci ml4_9,sU .op ml4_10 .unk])])
abbrev A23(p:List Nat):=AW (Z2 ZjG) Try.f23 Ztf p
abbrev S23(p:List Nat):=SW (Z2 ZjG) Try.f23 Ztf p
theorem ZBr(l:List Edit)(Q:QT)(h:(Zi (A23 [1,1,0,1,0,0]) (Z8y l 0 0 0 0 0 [] [] [] [] [] [] []) (xB 0 (S23 [1,1,1] Q)))):
  A23 [] (L2 [(0,.c (sU .edit l .unk))] []) Q:=
 Eq.mpr V5 h
theorem Zsk(l:List Edit)(x12 ml4_0 ml4_1 ml4_4 ml4_9:Int)(ml4_2:List Int)(ml4_3:List Tree)(ml4_5:List Int)(ml4_6:List Tree)(ml4_7:List WEdit)(ml4_8:List Kid)(ml4_10:List Op)(N0:NT)(Q:QT)(h:∀ y_1,y_1=(l.getD x12.toNat Edit.nil)->∀ y_2,y_2=(Edit.mk ml4_0 (Tree.mk ml4_1 ml4_2 ml4_3) (Tree.mk ml4_4 ml4_5 ml4_6) ml4_7 ml4_8 ml4_9 ml4_10)->∀ y_3,y_3=y_1->let z1:=Edit.new ((Z0W y_2 y_3).1);let z0:=Edit.old ((Z0W y_2 y_3).1);(iB (decide (x12 < (l.length:Int))) (((0:Int)<=x12/\x12 < (l.length:Int))/\((Z4F (y_2,y_3,()))/\(iB (!((Z0W y_2 y_3).2)) ((Q .ret (L2 [pL 2,pB 3 false] [(.loc 2,zc1)]))) (((InR (x12+1))/\(N0 (Z8y l (x12+1) (Edit.kind ((Z0W y_2 y_3).1)) (Tree.kind z0) (Tree.kind z1) (Edit.list ((Z0W y_2 y_3).1)) (Tree.words z0) (Tree.kids z0) (Tree.words z1) (Tree.kids z1) (Edit.words ((Z0W y_2 y_3).1)) (Edit.kids ((Z0W y_2 y_3).1)) (Edit.ops ((Z0W y_2 y_3).1))))))))) ((Z1l (y_2,()))/\(Q .ret (L2 [pL 2,pB 3 true] [(.loc 2,(enc .edit (ZE y_2)))]))))):
  A23 [1,1,0,1,0,0] (Z8y l x12 ml4_0 ml4_1 ml4_4 ml4_9 ml4_2 ml4_3 ml4_5 ml4_6 ml4_7 ml4_8 ml4_10) (xT N0 (xB 0 (S23 [1,1,1] Q))):=
 Eq.mpr V5 (h _ rfl _ rfl _ (Zf _))
def ZyT(l:List Edit):Prop:=AW (Z2 ZjG) Try.f23 Ztf [] (Zj (Zr0.can (l,())) []) (EQ Try.f23 (ZkX (l,())) [])
theorem Zwl(c41:CT 41 ZbS)(c42:CT 42 Z1Y)(hb:∀ (l:List Edit) (_:Unit),Zhh (l,())->ZyT l):CT 23 Zc0:=
 Z3 (l:=[(41,ZbS),(42,Z1Y)]) Zk rfl (⟨c41,c42,trivial⟩) Ztf Try.func23 rfl rfl 1 (fun _=> rfl) V2 (fun ⟨l,_⟩=> hb l ())
end
theorem ZlG:∀ l:List Edit,l.length<=ctL l
 | []=> Qm _
 | e ::r=> by have:=ZlG r;have:=Z9L e;simp only [ctL,Q7];omega
theorem ZtD{p q:Edit}(hp:YI p)(hq:YI q)(h:(Z0W p q).2=true)(hs:ctE p+ctE q<=9000000000):YI (Z0W p q).1/\ctE (Z0W p q).1+18<=ctE p+ctE q:=by
 have F:=Z64 hp hq
 unfold Z0W at h ⊢
 split at h
 .rename_i hc
  rw [if_pos hc]
  have w:=F.wk hc
  have c:=F.ct trivial hc
  have n:=Z4r (Y7 p q).1
  dsimp only
  exact ⟨⟨V0,Z0G _ _ w.r w.g,_,Jx _ _ w.r⟩,V0⟩
 .cases h
theorem c23:Contract Try.prog cfg 23 Zc0:=by
 refine Zwl c41 ZjZ.1 ?_
 intro l _ hp
 simp only [Zhh] at hp
 obtain ⟨hx,hc⟩:=hp
 have hll:=ZlG l
 refine ZBr _ _ ?_
 (simp only [iB,vcT,vcS])
 refine Zb (ι:=Int × Edit) (fun j=> Z8y l j.1 j.2.kind j.2.old.kind j.2.new.kind j.2.list j.2.old.words j.2.old.kids j.2.new.words j.2.new.kids j.2.words j.2.kids j.2.ops) (fun j=> (0<=j.1/\j.1<=l.length)/\(YI j.2/\ctE j.2+ctL (l.drop j.1.toNat)<=8000000018)/\Z0T (l.drop j.1.toNat) j.2=Z0T l Edit.nil) (fun j=> ((l.length:Int) - j.1).toNat) (0,Edit.nil) rfl ⟨⟨V3,V3⟩,⟨Z58,by
   have:ctE Edit.nil=18:=by simp [ctE,Z0t,YN,Edit.nil,Tree.nil,Zn,Zl]
   simp only [QV,Int.toNat_zero];omega⟩,by simp⟩ ?_
 rintro ⟨i,x⟩ ⟨⟨i1,i2⟩,⟨x1,x2⟩,x3⟩
 dsimp only at i1 i2 x1 x2 x3
 refine Zsk _ _ _ _ _ _ _ _ _ _ _ _ _ _ _ ?_
 rintro y1 hy1 y2 hy2 y3 rfl
 dsimp only at hy2
 have e2:y2=x:=by rw [hy2];obtain ⟨k,⟨_,_,_⟩,⟨_,_,_⟩,w,ks,l,os⟩:=x;rfl
 subst e2
 (simp only [iB,vcT,vcS])
 refine ⟨fun hi=> ?_,fun hi=> ?_⟩
 .have hd:=YB i1 hi Edit.nil
  rw [<-hy1] at hd
  have hm:y3∈l:=by rw [hy1];exact Zh V0 _
  rw [hd,ctL] at x2
  rw [hd,Z0T] at x3
  refine ⟨⟨i1,hi⟩,⟨x1,hx _ hm⟩,fun hc=> ?_,fun hc=> ⟨V4,(i+1,(Z0W y2 y3).1),rfl,⟨⟨V3,V3⟩,?_,?_⟩,V3⟩⟩
  .rw [if_neg (by rw [hc];decide)] at x3
   have:YZ l=(Edit.nil,false):=by rw [YZ,if_neg];rw [<-x3];decide
   simp only [ZkX,this]
   exact Y6
  .have:=ZtD x1 (hx _ hm) hc V0
   exact ⟨this.1,V3⟩
  .rw [if_pos hc] at x3
   exact x3
 .rw [Q8 V0,Z0T] at x3
  have hm:=Z3i x1
  refine ⟨⟨V3,x1.2.2⟩,?_⟩
  have:YZ l=(ZE y2,true):=by rw [YZ,<-x3];try rfl
  simp only [ZkX,this]
  exact Y6
noncomputable def Zd4(e:Edit):Bool:=decide (0<=Z0q e 80 3000) && (!Z0 e 64 || Z1C e)
noncomputable def ZmY(f:Tree)(l:List Edit):Bool:=(decide (0<=ZF f 80 3000) && decide (l.length<=8)) && l.all Zd4
noncomputable section
def ZuM:ArgL (Bnd × Unit):=(.cons (aEl .rbundle) .nil)
def Zvk(a:Bnd × Unit):Prop:=True
def Zzf(a:Bnd × Unit):V U:= .agg (enc .bundle a.1)
def Zgx:Fs U:=fs ZuM (fun a=> [Zvk a]) Zzf
def Zvl(a:Bnd × Unit):Prop:=Z23 (Bnd.first a.1)/\rng (Bnd.first a.1)/\(∀ e∈Bnd.log a.1,Z1z e/\ZK e)/\(Bnd.log a.1).length<=17592186044416
def Zzh(a:Bnd × Unit):V U:= .c (.bool (ZmY (Bnd.first a.1) (Bnd.log a.1)))
def ZgA:Fs U:=fs ZuM (fun a=> [Zvl a]) Zzh
def ZuN:ArgL (Bnd × Int × Unit):=(.cons (aEl .rbundle) (.cons (Yu .i64) .nil))
def pre6(a:Bnd × Int × Unit):Prop:=((Zn (Bnd.first a.1)<=1000000000/\rng (Bnd.first a.1))/\(Bnd.log a.1).length<=8)/\∀ e∈Bnd.log a.1,Zd e<=10000/\ZK e
def Zvd(a:Bnd × Int × Unit):V U:= .tup [(true,(enc .tree ((atM (Bnd.first a.1) (Bnd.log a.1) a.2.1).1))),(false,[.bool ((atM (Bnd.first a.1) (Bnd.log a.1) a.2.1).2)])]
def Zgy:Fs U:=fs ZuN (fun a=> [pre6 a]) Zvd
def ZuL:ArgL (Bnd × Int × Unit):=(.cons (aEl .bundle) (.cons (Yu .i64) .nil))
def Zvc(a:Bnd × Int × Unit):V U:= .tup [(true,(enc .tree ((atN (Bnd.first a.1) (Bnd.log a.1) a.2.1).1))),(false,[.bool ((atN (Bnd.first a.1) (Bnd.log a.1) a.2.1).2)])]
def Za5:Fs U:=fs ZuL (fun a=> [pre6 a]) Zvc
def ZuK:ArgL (Bnd × Int × Int × Unit):=(.cons (aEl .bundle) (.cons (Yu .i64) (.cons (Yu .i64) .nil)))
def ZsG(a:Bnd × Int × Int × Unit):Prop:=(∀ e∈Bnd.log a.1,YI e)/\ctL (Bnd.log a.1)<=8000000000
def Zvb(a:Bnd × Int × Int × Unit):V U:= .tup [(true,(enc .edit ((Z9P (Bnd.log a.1) a.2.1 a.2.2.1).1))),(false,[.bool ((Z9P (Bnd.log a.1) a.2.1 a.2.2.1).2)])]
def Za4:Fs U:=fs ZuK (fun a=> [ZsG a]) Zvb
abbrev A7(p:List Nat):=AW (Z2 ZjE) Try.f7 Zxc p
theorem vc7(b:Bnd)(Q:QT)(h:(Q .ret (L2 [pL 2] [(.loc 2,(enc .bundle b))]))):
  A7 [] (L2 [(0,.agg (enc .bundle b))] []) Q:=
 (Eq.mpr V5 h:)
abbrev ZA8(b:Bnd):Prop:=AW (Z2 ZjE) Try.f7 Zxc [] (Zj (ZuM.can (b,())) []) (EQ Try.f7 (Zzf (b,())) [])
theorem Zzq(hb:∀ (b:Bnd) (_:Unit),Zvk (b,())->ZA8 b):CT 7 Zgx:=
 Z3 (l:=[]) Zk rfl trivial Zxc Try.func7 rfl rfl 1 (fun _=> rfl) V2 (fun ⟨b,_⟩=> hb b ())
def ZpG:List (FuncId × Fs U):=[(11,Z4W),(14,Z4U),(15,Z20),(16,Z4T)]
def lv4:Ze U:=lvl [([1],[1]),([1,13],[1]),([2],[]),([1,3],[1]),([1,3,18],[1]),([1,3],[1]),([1,3,44],[1]),([2],[]),([2],[])]
def Zbl(b:Bnd)(x3:Int):LSt U:=(L2 [pL 1,pI 3 x3] [(.loc 1,(enc .bundle b))])
abbrev A4(p:List Nat):=AW (Z2 ZpG) Try.f4 lv4 p
abbrev S4(p:List Nat):=SW (Z2 ZpG) Try.f4 lv4 p
theorem vc4(b:Bnd)(Q:QT)(h:let z1:=Tree.mk (Tree.kind (Bnd.first b)) (Tree.words (Bnd.first b)) (Tree.kids (Bnd.first b));let z0:= !(decide (0<=ZF z1 80 3000));((Zlh (z1,()))/\(Tt (!z0))/\(Tt (!z0))/\(Tt (!z0))/\(z0=false->(!z0)=true)/\(iB (bif z0 then true else (decide ((8:Int) < ((Bnd.log b).length:Int)))) ((Q .ret (L2 [pB 2 false] []))) ((Zi (A4 [1,1,0,1,0,0]) (Zbl b 0) (xB 0 (S4 [1,1,1] Q))))))):
  A4 [] (L2 [(0,.agg (enc .bundle b))] []) Q:=
 (Eq.mpr V5 h:)
theorem Zv2(b:Bnd)(x3:Int)(N0:NT)(Q:QT)(h:∀ y_1,y_1=(List.getD (Bnd.log b) x3.toNat Edit.nil)->∀ y_2,y_2=y_1->let z0:= !(decide (0<=Z0q y_2 80 3000));let z1:=(!z0) && (Z0 y_2 64);(iB (decide (x3 < ((Bnd.log b).length:Int))) (((0:Int)<=x3/\x3 < ((Bnd.log b).length:Int))/\(Zlg (y_2,()))/\(Tt (!z0))/\(Tt (!z0))/\(Tt (!z0))/\((!z0)=true->(0:Int)<=x3/\x3 < ((Bnd.log b).length:Int))/\(Tt (!z0))/\(Tt (!z0))/\((!z0)=true->Z6n (y_2,64,()))/\(Tt (!z0))/\(Tt z1)/\(Tt z1)/\(Tt z1)/\(z1=true->(0:Int)<=x3/\x3 < ((Bnd.log b).length:Int))/\(Tt z1)/\(Tt z1)/\(z1=true->Zas (y_2,()))/\(Tt z1)/\((!z0)=true->(True->(!z0)=true))/\((!z0)=true->((Z0 y_2 64)=true->z1=true))/\(z0=false->(!z0)=true)/\(iB (bif z0 then true else (bif (Z0 y_2 64) then (!(Z1C y_2)) else false)) ((Q .ret (L2 [pB 2 false] []))) ((InR (x3+1))/\(N0 (Zbl b (x3+1)))))) ((Q .ret (L2 [pB 2 true] []))))):
  A4 [1,1,0,1,0,0] (Zbl b x3) (xT N0 (xB 0 (S4 [1,1,1] Q))):=
 (Eq.mpr V5 (h _ rfl _ (Zf _)):)
abbrev ZAb(b:Bnd):Prop:=AW (Z2 ZpG) Try.f4 lv4 [] (Zj (ZuM.can (b,())) []) (EQ Try.f4 (Zzh (b,())) [])
theorem Zzt(c11:CT 11 Z4W)(c14:CT 14 Z4U)(c15:CT 15 Z20)(c16:CT 16 Z4T)(hb:∀ (b:Bnd) (_:Unit),Zvl (b,())->ZAb b):CT 4 ZgA:=
 Z3 (l:=[(11,Z4W),(14,Z4U),(15,Z20),(16,Z4T)]) Zk rfl (⟨c11,c14,c15,c16,trivial⟩) lv4 Try.func4 rfl rfl 1 (fun _=> rfl) V2 (fun ⟨b,_⟩=> hb b ())
def Zpv:List (FuncId × Fs U):=[(15,Z20),(17,ZbV),(18,Z1y),(19,Z9i)]
def lv6:Ze U:=lvl [([1,2,4],[2,4]),([1,2,4,30],[2,4]),([4,5],[4]),([1,2,4,6],[2,4,6]),([1,2,4,6,7],[2,4,6]),([1,2,4,6,7,37],[2,4,6]),([1,2,4,6,7],[2,4,6]),([1,2,4,6,7,46],[2,4,6]),([4,5],[4]),([1,2,4,6,7,8,9],[2,4,6,8]),([1,2,4,6,7,8,64],[2,4,6,8]),([4,5],[4]),([1,2,4,6,7],[2,4,6]),([4,5],[4])]
def Zbk(b:Bnd)(n x7 ml6_0:Int)(ml6_1:List Int)(ml6_2:List Tree):LSt U:=(L2 [pI 1 n,pL 2,pL 4,pL 6,pI 7 x7] [(.loc 2,(enc .bundle b)),(.loc 4,[ci 0,.nils,.nils]),(.loc 6,[ci ml6_0,sU .u64 ml6_1 .unk,sU .tree ml6_2 .unk])])
abbrev A6(p:List Nat):=AW (Z2 Zpv) Try.f6 lv6 p
abbrev S6(p:List Nat):=SW (Z2 Zpv) Try.f6 lv6 p
theorem vc6(b:Bnd)(n:Int)(Q:QT)(h:∀ y_1,y_1=(Bnd.first b)->let z2:= !(Z9 y_1 64);let z0:=bif z2 then true else (((Tree.kind (Bnd.first b)):Int)==10);let z1:=bif z0 then true else (decide (n < 0));((Zar (y_1,64,()))/\(Tt (!z2))/\(Tt (!z2))/\(Tt (!z2))/\(z2=false->(!z2)=true)/\(Tt (!z0))/\(z0=false->(!z0)=true)/\(Tt (!z1))/\(Tt (!z1))/\(Tt (!z1))/\(Tt (!z1))/\(z1=false->(!z1)=true)/\(iB (bif z1 then true else (decide ((((Bnd.log b).length:Int):Int) < n))) ((Q .ret (L2 [pL 4,pB 5 false] [(.loc 4,[ci 0,.nils,.nils])]))) ((Z0P (y_1,()))/\(Zi (A6 [1,1,1,0,1,0,0]) (Zbk b n 0 (Tree.kind (Z1 y_1)) (Tree.words (Z1 y_1)) (Tree.kids (Z1 y_1))) (xB 0 (S6 [1,1,1,1] Q))))))):
  A6 [] (L2 [(0,.agg (enc .bundle b)),pI 1 n] []) Q:=
 (Eq.mpr V5 (h _ (Za _)):)
theorem Zv1(b:Bnd)(n x7 ml6_0:Int)(ml6_1:List Int)(ml6_2:List Tree)(N0:NT)(Q:QT)(h:∀ y_1,y_1=(List.getD (Bnd.log b) x7.toNat Edit.nil)->∀ y_2,y_2=y_1->∀ y_3,y_3=(Z00 (doE true y_2 (Tree.mk ml6_0 ml6_1 ml6_2)))->let z1:=(Q .ret (L2 [pL 4,pB 5 false] [(.loc 4,[ci 0,.nils,.nils])]));let z0:=doE true y_2 (Tree.mk ml6_0 ml6_1 ml6_2);(iB (decide (x7 < n)) (((0:Int)<=x7/\x7 < ((Bnd.log b).length:Int))/\(Z6n (y_2,64,()))/\(iB (!(Z0 y_2 64)) z1 (((0:Int)<=x7/\x7 < ((Bnd.log b).length:Int))/\(Z3j (y_2,(Tree.mk ml6_0 ml6_1 ml6_2),()))/\((Tt (!(!(z0.isSome))))/\((!(!(z0.isSome)))=true->Zar (y_3,64,()))/\(Tt (!(!(z0.isSome))))/\((!(z0.isSome))=false->(!(!(z0.isSome)))=true)/\(iB (bif (!(z0.isSome)) then true else (!(Z9 y_3 64))) z1 (((InR (x7+1))/\(N0 (Zbk b n (x7+1) (Tree.kind (Z00 z0)) (Tree.words (Z00 z0)) (Tree.kids (Z00 z0))))))))))) ((Q .ret (L2 [pL 4,pB 5 true] [(.loc 4,[ci ml6_0,sU .u64 ml6_1 .unk,sU .tree ml6_2 .unk])]))))):
  A6 [1,1,1,0,1,0,0] (Zbk b n x7 ml6_0 ml6_1 ml6_2) (xT N0 (xB 0 (S6 [1,1,1,1] Q))):=
 (Eq.mpr V5 (h _ rfl _ (Zf _) _ (Za _)):)
abbrev ZA9(b:Bnd)(n:Int):Prop:=AW (Z2 Zpv) Try.f6 lv6 [] (Zj (ZuN.can (b,n,())) []) (EQ Try.f6 (Zvd (b,n,())) [])
theorem Zzr(c15:CT 15 Z20)(c17:CT 17 ZbV)(c18:CT 18 Z1y)(c19:CT 19 Z9i)(hb:∀ (b:Bnd) (n:Int) (_:Unit),pre6 (b,n,())->ZA9 b n):CT 6 Zgy:=
 Z3 (l:=[(15,Z20),(17,ZbV),(18,Z1y),(19,Z9i)]) Zk rfl (⟨c15,c17,c18,c19,trivial⟩) lv6 Try.func6 rfl rfl 2 (fun _=> rfl) V2 (fun ⟨b,n,_⟩=> hb b n ())
def Zpi:List (FuncId × Fs U):=[(12,Z0z),(20,Z1Z),(21,Zc1),(22,Z1y)]
def lv8:Ze U:=lvl [([1,2,4],[2,4]),([1,2,4,6],[2,4,6]),([1,2,4,6,31],[2,4,6]),([4,5],[4]),([4,6,36,37,38],[4,6]),([4,6,36,37,38,39],[4,6]),([4,6,8,36,37,38],[4,6,8]),([4,6,8,36,37,38,44],[4,6,8]),([4,5],[4]),([4,6,9,10,36,37,38],[4,6,9]),([4,6,9,36,37,38,58],[4,6,9]),([4,5],[4]),([4,6,36,37,38],[4,6]),([4,6,36,37,38],[4,6]),([4,5],[4])]
def Zbj(b:Bnd)(n x38 ml6_0:Int)(ml6_1:List Int)(ml6_2:List Tree):LSt U:=(L2 [pL 4,pL 6,(36,.c (sU .edit (List.take n.toNat (Bnd.log b)) .unk)),pI 37 ((List.take n.toNat (Bnd.log b)).length:Int),pI 38 x38] [(.loc 4,[ci 0,.nils,.nils]),(.loc 6,[ci ml6_0,sU .u64 ml6_1 .unk,sU .tree ml6_2 .unk])])
abbrev A8(p:List Nat):=AW (Z2 Zpi) Try.f8 lv8 p
abbrev S8(p:List Nat):=SW (Z2 Zpi) Try.f8 lv8 p
theorem vc8(b:Bnd)(n:Int)(Q:QT)(h:∀ y_1,y_1=(Bnd.first b)->let z2:= !(Z9 y_1 64);let z0:=bif z2 then true else (((Tree.kind (Bnd.first b)):Int)==10);let z1:=bif z0 then true else (decide (n < 0));((Zcy (y_1,()))/\(Tt (!z2))/\(Tt (!z2))/\(z2=false->(!z2)=true)/\(Tt (!z0))/\(z0=false->(!z0)=true)/\(Tt (!z1))/\(Tt (!z1))/\(Tt (!z1))/\(Tt (!z1))/\(z1=false->(!z1)=true)/\(iB (bif z1 then true else (decide ((((Bnd.log b).length:Int):Int) < n))) ((Q .ret (L2 [pL 4,pB 5 false] [(.loc 4,[ci 0,.nils,.nils])]))) (((0:Int)<=n/\n<=((Bnd.log b).length:Int))/\(Zi (A8 [1,1,1,0,1,0,0]) (Zbj b n 0 (Tree.kind (Bnd.first b)) (Tree.words (Bnd.first b)) (Tree.kids (Bnd.first b))) (xB 0 (S8 [1,1,1,1] Q))))))):
  A8 [] (L2 [(0,.agg (enc .bundle b)),pI 1 n] []) Q:=
 (Eq.mpr V5 (h _ (Za _)):)
theorem Zv0(b:Bnd)(n x38 ml6_0:Int)(ml6_1:List Int)(ml6_2:List Tree)(N0:NT)(Q:QT)(h:∀ y_1,y_1=(List.getD (List.take n.toNat (Bnd.log b)) x38.toNat Edit.nil)->∀ y_2,y_2=y_1->∀ y_3,y_3=(Z00 ((doE false y_2 (Tree.mk ml6_0 ml6_1 ml6_2)).map Z1))->∀ y_4,y_4=y_3->let z3:=List.take n.toNat (Bnd.log b);let z2:=(Q .ret (L2 [pL 4,pB 5 false] [(.loc 4,[ci 0,.nils,.nils])]));let z1:=Tree.mk ml6_0 ml6_1 ml6_2;let z0:= !((doE false y_2 z1).isSome);(iB (decide (x38 < (z3.length:Int))) (((0:Int)<=x38/\x38 < (z3.length:Int))/\((Zlf (y_2,()))/\(iB (!(Z0 y_2 64)) z2 ((Z3j (y_2,z1,()))/\((Tt (!z0))/\((!z0)=true->Zcy (y_4,()))/\(Tt (!z0))/\(z0=false->(!z0)=true)/\(iB (bif z0 then true else (!(Z9 y_4 64))) z2 (((InR (x38+1))/\(N0 (Zbj b n (x38+1) y_3.kind y_3.words y_3.kids)))))))))) ((Z0P (z1,()))/\(Q .ret (L2 [pL 4,pB 5 true] [(.loc 4,(enc .tree (Z1 z1)))]))))):
  A8 [1,1,1,0,1,0,0] (Zbj b n x38 ml6_0 ml6_1 ml6_2) (xT N0 (xB 0 (S8 [1,1,1,1] Q))):=
 (Eq.mpr V5 (h _ rfl _ (Zf _) _ rfl _ (Za _)):)
abbrev ZA7(b:Bnd)(n:Int):Prop:=AW (Z2 Zpi) Try.f8 lv8 [] (Zj (ZuL.can (b,n,())) []) (EQ Try.f8 (Zvc (b,n,())) [])
theorem Zzp(c12:CT 12 Z0z)(c20:CT 20 Z1Z)(c21:CT 21 Zc1)(c22:CT 22 Z1y)(hb:∀ (b:Bnd) (n:Int) (_:Unit),pre6 (b,n,())->ZA7 b n):CT 8 Za5:=
 Z3 (l:=[(12,Z0z),(20,Z1Z),(21,Zc1),(22,Z1y)]) Zk rfl (⟨c12,c20,c21,c22,trivial⟩) lv8 Try.func8 rfl rfl 2 (fun _=> rfl) V2 (fun ⟨b,n,_⟩=> hb b n ())
def Zuv:List (FuncId × Fs U):=[(23,Zc0),(24,Z1x)]
def lv9:Ze U:=lvl [([1,2,3,6],[3,6]),([1,2,3,6,10],[3,6]),([6,7],[6]),([1,2,3,6,32],[3,6]),([6,7],[6]),([6,8,9],[6,8]),([6,7],[6])]
abbrev A9(p:List Nat):=AW (Z2 Zuv) Try.f9 lv9 p
theorem vc9(b:Bnd)(from_ to:Int)(Q:QT)(h:∀ y_1,y_1=(List.drop from_.toNat (List.take to.toNat (Bnd.log b)))->∀ y_2,y_2=(List.drop to.toNat (List.take from_.toNat (Bnd.log b)))->∀ y_3,y_3=((YZ y_2).1)->let z2:=decide (from_ < 0);let z1:=bif z2 then true else (decide (to < 0));let z0:=bif z1 then true else (decide ((((Bnd.log b).length:Int):Int) < from_));((Tt (!z2))/\(z2=false->(!z2)=true)/\(Tt (!z1))/\(Tt (!z1))/\(Tt (!z1))/\(Tt (!z1))/\(z1=false->(!z1)=true)/\(Tt (!z0))/\(Tt (!z0))/\(Tt (!z0))/\(Tt (!z0))/\(z0=false->(!z0)=true)/\(iB (bif z0 then true else (decide ((((Bnd.log b).length:Int):Int) < to))) ((Q .ret (L2 [pL 6,pB 7 false] [(.loc 6,zc1)]))) ((iB (decide (from_<=to)) (((0:Int)<=from_/\from_<=to/\to<=((Bnd.log b).length:Int))/\(Zhh (y_1,()))/\(Q .ret (L2 [pL 6,pB 7 ((YZ y_1).2)] [(.loc 6,(enc .edit ((YZ y_1).1)))]))) (((0:Int)<=to/\to<=from_/\from_<=((Bnd.log b).length:Int))/\(Zhh (y_2,()))/\((Z1l (y_3,()))/\(Q .ret (L2 [pL 6,pB 7 ((YZ y_2).2)] [(.loc 6,(enc .edit (ZE (Zq y_3))))]))))))))):
  A9 [] (L2 [(0,.agg (enc .bundle b)),pI 1 from_,pI 2 to] []) Q:=
 (Eq.mpr V5 (h _ rfl _ rfl _ (Zf _)):)
abbrev ZA6(b:Bnd)(from_ to:Int):Prop:=AW (Z2 Zuv) Try.f9 lv9 [] (Zj (ZuK.can (b,from_,to,())) []) (EQ Try.f9 (Zvb (b,from_,to,())) [])
theorem Zzo(c23:CT 23 Zc0)(c24:CT 24 Z1x)(hb:∀ (b:Bnd) (from_:Int) (to:Int) (_:Unit),ZsG (b,from_,to,())->ZA6 b from_ to):CT 9 Za4:=
 Z3 (l:=[(23,Zc0),(24,Z1x)]) Zk rfl (⟨c23,c24,trivial⟩) lv9 Try.func9 rfl rfl 3 (fun _=> rfl) V2 (fun ⟨b,from_,to,_⟩=> hb b from_ to ())
end
theorem c7:Contract Try.prog cfg 7 Zgx:=by
 refine Zzq ?_
 intro b _ _
 refine vc7 _ _ ?_
 exact Y6
theorem ZpW(e:Edit)(r:List Edit):(e ::r).all Zd4=(Zd4 e && r.all Zd4):=rfl
theorem c4:Contract Try.prog cfg 4 ZgA:=by
 refine Zzt c11 c14 Zk0.1 c16 ?_
 intro b _ hp
 obtain ⟨h1,h2,h3,h4⟩:=hp
 dsimp only at h1 h2 h3 h4
 refine vc4 _ _ ?_
 (simp only [Tree.eta,Edit.eta,Tree.kind_mk,Tree.words_mk,Tree.kids_mk])
 (simp only [iB,vcT,vcS])
 refine ⟨h1,fun hb=> ?_,fun hb=> ?_⟩
 .refine Z4 rfl ?_
  unfold ZmY
  rcases hb with h | h
  .rw [decide_eq_false h];try rfl
  .rw [decide_eq_false (show ¬b.log.length<=8 by omega),Bool.and_false];try rfl
 .have hb1:decide (0<=ZF b.first 80 3000)=true:=by simpa using hb.1
  have hb2:b.log.length<=8:=V0
  refine Zb (ι:=Int) (fun i=> Zbl b i) (fun i=> (0<=i/\i<=b.log.length)/\b.log.all Zd4=(b.log.drop i.toNat).all Zd4) (fun i=> ((b.log.length:Int) - i).toNat) 0 rfl ⟨⟨V0,V0⟩,rfl⟩ ?_
  rintro i ⟨⟨i0,i1⟩,f3⟩
  refine Zv2 _ _ _ _ ?_
  intro y1 e1 y2 e2
  subst e2
  (simp only [iB,vcT,vcS])
  refine ⟨fun hi=> ?_,fun hi=> ?_⟩
  .rw [YB i0 hi Edit.nil,<-e1,ZpW] at f3
   have hm:y2∈b.log:=by rw [e1];exact Zh V0 _
   have hs:=h3 y2 hm
   refine ⟨⟨i0,hi⟩,hs.1,fun _=> ⟨i0,hi⟩,fun h=> ⟨⟨by dsimp only;have:=Z3N h;omega,hs.2⟩,V3,V3⟩,fun _=> ⟨i0,hi⟩,fun h=> ⟨⟨by dsimp only;have:=Z3N h.1;omega,hs.2⟩,64,h.2⟩,fun h hr=> ⟨h,hr⟩,fun hx=> ?_,
    fun hx=> ⟨V4,i+1,rfl,⟨⟨V0,V0⟩,?_⟩,V0⟩⟩
   .have e:Zd4 y2=false:=by
     unfold Zd4
     rcases hx with h | h
     .rw [decide_eq_false h];try rfl
     .rw [h.1,h.2];simp
    refine Z4 rfl ?_
    unfold ZmY
    rw [f3,e]
    simp
   .have e:Zd4 y2=true:=by
     unfold Zd4
     rw [decide_eq_true hx.1]
     rcases hx.2 with h | h
     .rw [h];try rfl
     .rw [h];simp
    rw [f3,e,QH]
  .rw [Q8 V0] at f3
   refine Z4 rfl ?_
   unfold ZmY
   rw [hb1,decide_eq_true hb2,f3]
   try rfl
theorem ZlM{f:Tree}{l:List Edit}{n:Int}(h:((Z9 f 64=false\/f.kind=10)\/n < 0)\/(l.length:Int) < n):¬atO f l n:=by
 rintro ⟨h1,h2,h3,h4⟩
 rcases h with ((h | h) | h) | h
 .rw [h1] at h;cases h
 .exact h2 h
 .omega
 .omega
theorem ZlL{f:Tree}{l:List Edit}{n:Int}(h:((Z9 f 64=true/\¬f.kind=10)/\¬n < 0)/\¬(l.length:Int) < n):atO f l n:=⟨h.1.1.1,h.1.1.2,V0,V0⟩
theorem Z9y{e:Edit}{t u:Tree}(h:Z0 e 64=true)(hm:Zd e<=10000)(hd:doE false e t=some u):Zn (Z1 u)<=Zn t+660000000:=by
 have:=Z5Y false _ 64 _ _ h hd
 have:=Yt u
 have:=Z2P e
 omega
set_option maxHeartbeats 1000000 in
theorem c6:Contract Try.prog cfg 6 Zgy:=by
 refine Zzr Zk0.1 c17 c18 c19 ?_
 intro b n _ hp
 obtain ⟨⟨⟨hm,hg⟩,hl⟩,he⟩:=hp
 dsimp only at hm hg hl he
 have fin:∀ {X:Tree × Bool} {s:LSt U},atM b.first b.log n=X->Yv cfg Try.f6.ntmps Try.f6.results.toList (.tup [(true,enc .tree X.1),(false,[.bool X.2])]) [] .ret s->Yv cfg Try.f6.ntmps Try.f6.results.toList (Zvd (b,n,())) [] .ret s:=by
  intro X s h hs
  subst h
  exact hs
 refine vc6 _ _ _ ?_
 intro y1 e1
 subst e1
 (simp only [iB,vcT,vcS])
 refine ⟨⟨V3,hg,V3,V3⟩,fun hb=> fin (X:=(Tree.nil,false)) (by unfold atM;rw [if_neg (ZlM hb)]) Y6,fun hb=> ⟨by dsimp only [Z0P];omega,?_⟩⟩
 have hA:=ZlL hb
 have eA:atM b.first b.log n=oT (atG (b.log.take n.toNat) (Z1 b.first)):=by unfold atM;rw [if_pos hA]
 have hn:=hA.2.2
 have nm:=Yt b.first
 refine Zb (ι:=Int × Tree) (fun s=> Zbk b n s.1 s.2.kind s.2.words s.2.kids) (fun s=> (0<=s.1/\s.1<=n)/\atG (b.log.take n.toNat) (Z1 b.first)=atG ((b.log.take n.toNat).drop s.1.toNat) s.2/\(Zn s.2:Int)<=1000000000+s.1*660000000/\rng s.2) (fun s=> (n - s.1).toNat) (0,Z1 b.first) rfl ⟨⟨V3,V3⟩,rfl,V3,J9 _ hg⟩ ?_
 rintro ⟨i,t⟩ ⟨⟨i0,i1⟩,f3,mt,gt⟩
 dsimp only at i0 i1 f3 mt gt
 have ll:((b.log.take n.toNat).length:Int)=n:=by rw [Qj];omega
 refine Zv1 _ _ _ _ _ _ _ _ ?_
 intro y1 e1 y2 e2 y3 e3
 subst e2
 (simp only [Tree.eta,Edit.eta,Tree.kind_mk,Tree.words_mk,Tree.kids_mk])
 rw [Tree.eta] at e3
 (simp only [iB,vcT,vcS])
 refine ⟨fun hi=> ?_,fun hi=> ?_⟩
 .have e1':y2=(b.log.take n.toNat).getD i.toNat Edit.nil:=by
   rw [e1,Qd,Qd,QE V0]
  rw [YB i0 V0 Edit.nil,<-e1',atG] at f3
  have hmem:y2∈b.log:=by rw [e1];exact Zh V0 _
  obtain ⟨me,ge⟩:=he y2 hmem
  have ce:=Z2P y2
  refine ⟨⟨i0,V0⟩,⟨⟨V3,ge⟩,V3,V3⟩,fun hr=> fin (X:=(Tree.nil,false)) (by rw [eA,f3,if_neg (by rw [hr];decide)];rfl) Y6,fun hr=> ?_⟩
  rw [if_pos hr] at f3
  have p19:Z3j (y2,t,()):=⟨⟨V3,ge,64,hr⟩,V3,gt⟩
  cases hd:doE true y2 t with
  | none=>
   rw [hd] at f3
   exact ⟨⟨i0,V0⟩,p19,fun h=> (by cases h),fun _=> fin (X:=(Tree.nil,false)) (by rw [eA,f3];rfl) Y6,fun h=> (by cases h.1)⟩
  | some u=>
   rw [hd] at f3
   dsimp only at f3
   have e3':y3=u:=by
    rw [e3]
    show Z00 (doE true y2 t)=u
    rw [hd];try rfl
   obtain ⟨v,hv,rfl⟩:∃ v,doE false y2 t=some v/\u=Z1 v:=by
    rw [Z8P] at hd
    cases h:doE false y2 t with
    | none=> rw [h] at hd;cases hd
    | some v=> rw [h] at hd;injection hd with hd;exact ⟨v,rfl,hd.symm⟩
   have mu:=Z9y hr me hv
   have gu:=J9 _ (Z4g false _ _ _ ge gt hv)
   refine ⟨⟨i0,V0⟩,p19,fun _=> ⟨by rw [e3'];dsimp only;omega,by rw [e3'];exact gu,V3,V3⟩,fun h=> fin (X:=(Tree.nil,false)) (by rw [eA,f3,if_neg (by rcases h with h | h;cases h;rw [<-e3',h];decide)];rfl) Y6,
    fun h=> ⟨V4,(i+1,Z1 v),rfl,⟨⟨V3,V3⟩,by rw [f3,if_pos (by rw [<-e3'];exact h.2)],V3,gu⟩,V3⟩⟩
 .rw [Q8 V0,atG] at f3
  exact fin (X:=(t,true)) (by rw [eA,f3];rfl) Y6
set_option maxHeartbeats 1000000 in
theorem c8:Contract Try.prog cfg 8 Za5:=by
 refine Zzp c12 c20 c21 c22 ?_
 intro b n _ hp
 obtain ⟨⟨⟨hm,hg⟩,hl⟩,he⟩:=hp
 dsimp only at hm hg hl he
 have fin:∀ {X:Tree × Bool} {s:LSt U},atN b.first b.log n=X->Yv cfg Try.f8.ntmps Try.f8.results.toList (.tup [(true,enc .tree X.1),(false,[.bool X.2])]) [] .ret s->Yv cfg Try.f8.ntmps Try.f8.results.toList (Zvc (b,n,())) [] .ret s:=by
  intro X s h hs
  subst h
  exact hs
 refine vc8 _ _ _ ?_
 intro y1 e1
 subst e1
 (simp only [iB,vcT,vcS])
 refine ⟨⟨V3,hg⟩,fun hb=> fin (X:=(Tree.nil,false)) (by unfold atN;rw [if_neg (ZlM hb)]) Y6,fun hb=> ⟨⟨V0,V0⟩,?_⟩⟩
 have hA:=ZlL hb
 have eA:atN b.first b.log n=oT (atF (b.log.take n.toNat) b.first):=by unfold atN;rw [if_pos hA]
 have hn:=hA.2.2
 have ll:((b.log.take n.toNat).length:Int)=n:=by rw [Qj];omega
 refine Zb (ι:=Int × Tree) (fun s=> Zbj b n s.1 s.2.kind s.2.words s.2.kids) (fun s=> (0<=s.1/\s.1<=n)/\atF (b.log.take n.toNat) b.first=atF ((b.log.take n.toNat).drop s.1.toNat) s.2/\(Zn s.2:Int)<=1000000000+s.1*660000000/\rng s.2) (fun s=> (n - s.1).toNat) (0,b.first) rfl ⟨⟨V3,V3⟩,rfl,V3,hg⟩ ?_
 rintro ⟨i,t⟩ ⟨⟨i0,i1⟩,f3,mt,gt⟩
 dsimp only at i0 i1 f3 mt gt
 refine Zv0 _ _ _ _ _ _ _ _ ?_
 intro y1 e1 y2 e2 y3 e3 y4 e4
 subst e2 e4
 (simp only [Tree.eta,Edit.eta,Tree.kind_mk,Tree.words_mk,Tree.kids_mk])
 (simp only [iB,vcT,vcS])
 refine ⟨fun hi=> ?_,fun hi=> ?_⟩
 .have e1':y2=(b.log.take n.toNat).getD i.toNat Edit.nil:=e1
  rw [YB i0 V0 Edit.nil,<-e1',atF] at f3
  have hmem:y2∈b.log:=X9 (by rw [e1'];exact Zh V0 _)
  obtain ⟨me,ge⟩:=he y2 hmem
  have ce:=Z2P y2
  refine ⟨⟨i0,V0⟩,⟨V3,ge⟩,fun hr=> fin (X:=(Tree.nil,false)) (by rw [eA,f3,if_neg (by rw [hr];decide)];rfl) Y6,fun hr=> ?_⟩
  rw [if_pos hr] at f3
  have p12:Z3j (y2,t,()):=⟨⟨V3,ge,64,hr⟩,V3,gt⟩
  have e3:y4=Z00 ((doE false y2 t).map Z1):=e3.trans (by rw [Tree.eta])
  cases hd:doE false y2 t with
  | none=>
   rw [hd] at f3
   exact ⟨p12,fun h=> (by cases h),fun _=> fin (X:=(Tree.nil,false)) (by rw [eA,f3];rfl) Y6,fun h=> (by cases h.1)⟩
  | some v=>
   rw [hd] at f3 e3
   dsimp only at f3
   have e3':y4=Z1 v:=e3
   subst e3'
   have mu:=Z9y hr me hd
   have gu:=J9 _ (Z4g false _ _ _ ge gt hd)
   refine ⟨p12,fun _=> ⟨V3,gu⟩,fun h=> fin (X:=(Tree.nil,false)) (by rw [eA,f3,if_neg (by rcases h with h | h;cases h;rw [h];decide)];rfl) Y6,
    fun h=> ⟨V4,(i+1,Z1 v),rfl,⟨⟨V3,V3⟩,by rw [f3,if_pos h.2],V3,gu⟩,V3⟩⟩
 .rw [Q8 V0,atF] at f3
  exact ⟨by dsimp only [Z0P];omega,fin (X:=(Z1 t,true)) (by rw [eA,f3];rfl) Y6⟩
theorem Zq9(l:List Edit)(a b:Nat):ctL ((l.take b).drop a)<=ctL l:=by
 have h1:=Zg1 (l.take b) (l.drop b)
 have h2:=Zg1 ((l.take b).take a) ((l.take b).drop a)
 rw [Qv] at h1 h2
 omega
theorem ZhU:∀ (l:List Edit) (x:Edit),YI x->(∀ e∈l,YI e)->ctE x+ctL l<=8000000018->YI (Z0T l x).1
 | [],x,hx,_,_=> hx
 | e ::r,x,hx,he,hc=> by
  rw [Z0T]
  split
  .rename_i h
   rw [ctL] at hc
   have o:=Zid hx (he e Q4) h V0
   exact ZhU r _ o.1 (fun y hy=> he y (Q0 _ hy)) V0
  .exact Z58
theorem ZpS{l:List Edit}(he:∀ e∈l,YI e)(hc:ctL l<=8000000000):YI (YZ l).1:=by
 have h18:ctE Edit.nil=18:=by simp [ctE,Z0t,YN,Edit.nil,Tree.nil,Zn,Zl]
 unfold YZ
 split
 .obtain ⟨c,g,d,r⟩:=ZhU l Edit.nil Z58 he V0
  exact ⟨X5 (Z4r _) c,Z0G _ d r g,d,Jx _ d r⟩
 .exact Z58
theorem c9:Contract Try.prog cfg 9 Za4:=by
 refine Zzo c23 c24 ?_
 intro b i j _ hp
 obtain ⟨he,hc⟩:=hp
 dsimp only at he hc
 have fin:∀ {X:Edit × Bool} {s:LSt U},Z9P b.log i j=X->Yv cfg Try.f9.ntmps Try.f9.results.toList (.tup [(true,enc .edit X.1),(false,[.bool X.2])]) [] .ret s->Yv cfg Try.f9.ntmps Try.f9.results.toList (Zvb (b,i,j,())) [] .ret s:=by
  intro X s h hs
  subst h
  exact hs
 have part:∀ a c:Nat,(∀ x∈(b.log.take c).drop a,YI x)/\ctL ((b.log.take c).drop a)<=8000000000:=fun a c=> ⟨fun x hx=> he x (X9 (QZ hx)),X5 (Zq9 _ _ _) hc⟩
 have eB:=Z9P.eq_1 b.log i j
 refine vc9 _ _ _ _ ?_
 intro y1 e1 y2 e2 y3 e3
 have e1:y1=(b.log.take j.toNat).drop i.toNat:=e1
 have e2:y2=(b.log.take i.toNat).drop j.toNat:=e2
 rw [<-e1,<-e2] at eB
 (simp only [iB,vcT,vcS])
 refine ⟨fun h=> fin (X:=(Edit.nil,false)) (by rw [eB,V1]) Y6,fun h=> ?_⟩
 rw [JI] at eB
 refine ⟨fun hij=> ⟨⟨V0,hij,V0⟩,by rw [e1];exact part _ _,fin (X:=YZ y1) (by rw [eB,if_pos hij]) Y6⟩,fun hij=> ⟨⟨V0,V0,V0⟩,by rw [e2];exact part _ _,?_,fin (X:=(ZE (Zq y3),(YZ y2).2)) (by rw [eB,if_neg hij,<-e3]) Y6⟩⟩
 have hr:YI y3:=by rw [e3,e2];exact ZpS (part _ _).1 (part _ _).2
 have:=Z3i hr
 have:=hr.1
 exact ⟨V3,hr.2.2⟩
end Go.AM.Ytfapacabjkhepaa
