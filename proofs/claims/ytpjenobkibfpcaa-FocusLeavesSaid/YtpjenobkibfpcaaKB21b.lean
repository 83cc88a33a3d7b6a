import Derived.Test.YtpjenobkibfpcaaKL22m
import Derived.Test.YtpjenobkibfpcaaKRB07
import Derived.Test.YtpjenobkibfpcaaCD25s
set_option linter.unusedSimpArgs false
set_option linter.unusedVariables false
namespace Go.AM.Ytpjenobkibfpcaa
open Go.AM Go.Proofs
noncomputable section
abbrev ZD(p:Prop):Prop:=p→p
noncomputable section
def Zjc:ArgL (Int × Unit):=(.cons (Yt .u8) .nil)
def Zas(a:Int × Unit):Prop:=0≤a.1∧a.1 < 256
def ZlZ(a:Int × Unit):V U:= .c (.int .u64 ((JW (a.1).toNat 8:Nat):Int))
def Z6b:Fs U:=fs Zjc (fun a=> [Zas a]) ZlZ
def ZnL:ArgL (Int × Int × Int × Unit):=(.cons (Yt .u64) (.cons (Yt .u64) (.cons (Yt .u8) .nil)))
def Z3U(a:Int × Int × Int × Unit):Prop:=(0≤a.1∧a.1 < 18446744073709551616)∧(0≤a.2.1∧a.2.1 < 18446744073709551616)∧(0≤a.2.2.1∧a.2.2.1 < 256)
def Zrd(a:Int × Int × Int × Unit):V U:= .c (.int .u64 (mix a.1 a.2.1 a.2.2.1))
def Z2T:Fs U:=fs ZnL (fun a=> [Z3U a]) Zrd
def Zj6:ArgL (Tree × Unit):=(.cons (aEl .tree) .nil)
def Z3W(a:Tree × Unit):Prop:=Zj a.1≤20000000000∧rng a.1
def ZlU(a:Tree × Unit):V U:= .c (.bool (decide (Tree.kind a.1≠10) && Z9 a.1 64))
def Z31:Fs U:=fs Zj6 (fun a=> [Z3W a]) ZlU
def ZiV:ArgL (Int × Tree × Unit):=(.cons (Yt .i64) (.cons (aEl .tree) .nil))
def Zak(a:Int × Tree × Unit):Prop:=Zj a.2.1≤18000000000∧rng a.2.1∧isI a.1
def ZlL(a:Int × Tree × Unit):V U:= .c (.bool (Z9 (Tree.mk a.1 [] [a.2.1]) 64))
def Z61:Fs U:=fs ZiV (fun a=> [Zak a]) ZlL
def ZiU:ArgL (Int × Edit × Unit):=(.cons (Yt .i64) (.cons (aEl .edit) .nil))
def ZcV(a:Int × Edit × Unit):Prop:=True
def ZlK(a:Int × Edit × Unit):V U:= .c (.bool (Yi a.1 a.2.1))
def Z2X:Fs U:=fs ZiU (fun a=> [ZcV a]) ZlK
def Zj5:ArgL (List WEdit × Unit):=(.cons (aSl .wedit) .nil)
def Z7D(a:List WEdit × Unit):Prop:=(a.1).length≤20000000000∧∀ x∈a.1,ZlB x
def ZlT(a:List WEdit × Unit):V U:= .c (.bool (Zu (-1) a.1))
def Z30:Fs U:=fs Zj5 (fun a=> [Z7D a]) ZlT
def Z0o:List (FuncId × Fs U):=[]
def Z6F:Zi U:=lvl [([0],[]),([0,3],[]),([0,3,5],[]),([0,3,5,6],[]),([0,3,4,5],[]),([0,3,4,5,12],[]),([0,3,5],[]),([0,3,5],[]),([2],[])]
def JG(m x3 x5:Int):LSt U:=(L2 [(0,.c (.int .u8 m)),(3,.c (.int .u64 x3)),(5,.c (ci x5))] [])
abbrev Zw4(m:Int)(Q:QT):=AW (Z0 Z0o) Try.f105 Z6F [] (L2 [(0,.c (.int .u8 m))] []) Q
abbrev Zhh:=awp cfg (Z0 Z0o) (Zx cfg (Z0 Z0o)) Try.f105.ntmps Z6F
abbrev ZfN:=Z3K cfg (Z0 Z0o) (Zx cfg (Z0 Z0o)) Try.f105.ntmps Z6F
theorem Zvm(m:Int)(Q:QT)(h:Zh (AW (Z0 Z0o) Try.f105 Z6F [1,1,0,1,0,0]) (JG m 0 0) (xB 0 (SW (Z0 Z0o) Try.f105 Z6F [1,1,1] Q))):
  Zw4 m Q:=by
 have e_:(Zw4 m Q)=(Zh (Zhh (cd Try.f105 [1,1,0,1,0,0])) (JG m 0 0) (xB 0 (ZfN (cd Try.f105 [1,1,1]) Q))):=by kernel_rfl
 exact e_.mpr h
abbrev Zjs(m x3 x5:Int)(N0:NT)(Q:QT):=AW (Z0 Z0o) Try.f105 Z6F [1,1,0,1,0,0] (JG m x3 x5) (xT N0 (xB 0 (SW (Z0 Z0o) Try.f105 Z6F [1,1,1] Q)))
theorem Zlk(m x3 x5:Int)(N0:NT)(Q:QT)(h:((decide (x5 < 8))=true→((0:Int)≤x5)∧(((((IntKind.wrap .u8 (BitVec.ofInt (IntKind.bits .u8) (Int.fdiv m (2 ^ (min x5.toNat (IntKind.bits .u8)))) &&& BitVec.ofInt (IntKind.bits .u8) 1).toNat):Int)==1)=true→(InR ((8:Int)*x5))∧((0:Int)≤((8:Int)*x5))∧((InR (x5+1))∧(N0 (JG m (IntKind.wrap .u64 (BitVec.ofInt (IntKind.bits .u64) x3 ||| BitVec.ofInt (IntKind.bits .u64) (IntKind.wrap .u64 ((255:Int)*2 ^ (min (Int.toNat ((8:Int)*x5)) (IntKind.bits .u64))))).toNat) (x5+1)))))∧((((IntKind.wrap .u8 (BitVec.ofInt (IntKind.bits .u8) (Int.fdiv m (2 ^ (min x5.toNat (IntKind.bits .u8)))) &&& BitVec.ofInt (IntKind.bits .u8) 1).toNat):Int)==1)=false→(InR (x5+1))∧(N0 (JG m x3 (x5+1))))))∧((decide (x5 < 8))=false→Q .ret (L2 [(2,.c (.int .u64 x3))] []))):
  Zjs m x3 x5 N0 Q:=by
 have e_:(Zjs m x3 x5 N0 Q)=(let zz0:=(((IntKind.wrap .u8 (BitVec.ofInt (IntKind.bits .u8) (Int.fdiv m (2 ^ (min x5.toNat (IntKind.bits .u8)))) &&& BitVec.ofInt (IntKind.bits .u8) 1).toNat):Int)==1);(((decide ((x5:Int) < 8))=true→(((0:Int)≤x5)∧((zz0=true→(InR ((8:Int)*x5))∧((0:Int)≤((8:Int)*x5))∧((InR ((x5:Int)+1))∧(N0 (JG m (IntKind.wrap .u64 (BitVec.ofInt (IntKind.bits .u64) x3 ||| BitVec.ofInt (IntKind.bits .u64) (IntKind.wrap .u64 ((255:Int)*2 ^ (min (Int.toNat ((8:Int)*x5)) (IntKind.bits .u64))))).toNat) ((x5:Int)+1)))))∧(zz0=false→(InR ((x5:Int)+1))∧(N0 (JG m x3 ((x5:Int)+1)))))))∧((decide ((x5:Int) < 8))=false→(Q .ret (L2 [(2,.c (.int .u64 x3))] []))))):=by kernel_rfl
 exact e_.mpr ⟨fun c_1=> ⟨(h.1 c_1).1,⟨fun c_2=> ⟨((h.1 c_1).2.1 c_2).1,((h.1 c_1).2.1 c_2).2.1,⟨((h.1 c_1).2.1 c_2).2.2.1,((h.1 c_1).2.1 c_2).2.2.2⟩⟩,fun c_2=> ⟨((h.1 c_1).2.2 c_2).1,((h.1 c_1).2.2 c_2).2⟩⟩⟩,fun c_1=> (h.2 c_1)⟩
def Zr3(m:Int):Prop:=AW (Z0 Z0o) Try.f105 Z6F [] (Zm (Zjc.can (m,())) []) (EQ Try.f105 (ZlZ (m,())) [])
theorem ZpI(hb:∀ (m:Int) (_:Unit),Zas (m,())→Zr3 m):CT 105 Z6b:=
 Z3 (l:=[]) Zk rfl trivial Z6F Try.func105 rfl rfl 1 (fun _=> rfl) (by decide) (fun ⟨m,_⟩=> hb m ())
def Zn0:List (FuncId × Fs U):=[(105,Z6b)]
def ZsZ:Zi U:=lvl [([0,1,2],[]),([6],[])]
abbrev W66(a b m:Int)(Q:QT):=AW (Z0 Zn0) Try.f66 ZsZ [] (L2 [(0,.c (.int .u64 a)),(1,.c (.int .u64 b)),(2,.c (.int .u8 m))] []) Q
theorem ZwB(a b m:Int)(Q:QT)(h:(Zas (m,()))∧(Zas (m,()))∧(Q .ret (L2 [(6,.c (.int .u64 (IntKind.wrap .u64 (BitVec.ofInt (IntKind.bits .u64) (IntKind.wrap .u64 (BitVec.ofInt (IntKind.bits .u64) a &&& ~~~(BitVec.ofInt (IntKind.bits .u64) ((JW m.toNat 8:Nat):Int))).toNat) ||| BitVec.ofInt (IntKind.bits .u64) (IntKind.wrap .u64 (BitVec.ofInt (IntKind.bits .u64) b &&& BitVec.ofInt (IntKind.bits .u64) ((JW m.toNat 8:Nat):Int)).toNat)).toNat)))] []))):
  W66 a b m Q:=by
 have e_:(W66 a b m Q)=(type_of% h):=by kernel_rfl
 exact e_.mpr ⟨h.1,h.2.1,h.2.2⟩
def Zul(a b m:Int):Prop:=AW (Z0 Zn0) Try.f66 ZsZ [] (Zm (ZnL.can (a,b,m,())) []) (EQ Try.f66 (Zrd (a,b,m,())) [])
theorem Zsx(ZtH:CT 105 Z6b)(hb:∀ (a:Int) (b:Int) (m:Int) (_:Unit),Z3U (a,b,m,())→Zul a b m):CT 66 Z2T:=
 Z3 (l:=[(105,Z6b)]) Zk rfl (⟨ZtH,trivial⟩) ZsZ Try.func66 rfl rfl 3 (fun _=> rfl) (by decide) (fun ⟨a,b,m,_⟩=> hb a b m ())
def ZiA:List (FuncId × Fs U):=[(80,Z3C)]
def ZmL:Zi U:=lvl [([1],[1]),([2],[])]
abbrev Zw1(t:Tree)(Q:QT):=AW (Z0 ZiA) Try.f122 ZmL [] (L2 [(0,.agg (enc .tree t))] []) Q
theorem Zvc(t:Tree)(Q:QT)(h:((t.kind !=10)=true→Zek ((Tree.mk t.kind t.words t.kids),()))∧(Q .ret (L2 [(2,.c (.bool (bif (t.kind !=10) then (Z9 (Tree.mk t.kind t.words t.kids) 64) else false)))] []))):
  Zw1 t Q:=by
 have e_:(Zw1 t Q)=((ZD ((t.kind !=10)=true))∧((t.kind !=10)=true→Zek ((Tree.mk t.kind t.words t.kids),()))∧(ZD ((t.kind !=10)=true))∧(Q .ret (L2 [(2,.c (.bool (bif (t.kind !=10) then (Z9 (Tree.mk t.kind t.words t.kids) 64) else false)))] []))):=by kernel_rfl
 exact e_.mpr ⟨id,h.1,(by generalize ((t.kind:Int) !=10)=b0;revert b0;decide),h.2⟩
def ZqT(t:Tree):Prop:=AW (Z0 ZiA) Try.f122 ZmL [] (Zm (Zj6.can (t,())) []) (EQ Try.f122 (ZlU (t,())) [])
theorem ZpA(c80:CT 80 Z3C)(hb:∀ (t:Tree) (_:Unit),Z3W (t,())→ZqT t):CT 122 Z31:=
 Z3 (l:=[(80,Z3C)]) Zk rfl (⟨c80,trivial⟩) ZmL Try.func122 rfl rfl 1 (fun _=> rfl) (by decide) (fun ⟨t,_⟩=> hb t ())
def Zir:List (FuncId × Fs U):=[(80,Z3C)]
def ZmC:Zi U:=lvl [([0,3],[3]),([4],[])]
abbrev ZvN(list:Int)(t:Tree)(Q:QT):=AW (Z0 Zir) Try.f186 ZmC [] (L2 [(0,.c (ci list)),(1,.agg (enc .tree t))] []) Q
theorem ZuT(list:Int)(t:Tree)(Q:QT)(h:(Zek ((Tree.mk list [] ([(Tree.mk t.kind t.words t.kids)])),()))∧(Q .ret (L2 [(4,.c (.bool (Z9 (Tree.mk list [] ([(Tree.mk t.kind t.words t.kids)])) 64)))] []))):
  ZvN list t Q:=by
 have e_:(ZvN list t Q)=(type_of% h):=by kernel_rfl
 exact e_.mpr ⟨h.1,h.2⟩
def ZqA(list:Int)(t:Tree):Prop:=AW (Z0 Zir) Try.f186 ZmC [] (Zm (ZiV.can (list,t,())) []) (EQ Try.f186 (ZlL (list,t,())) [])
theorem Zpk(c80:CT 80 Z3C)(hb:∀ (list:Int) (t:Tree) (_:Unit),Zak (list,t,())→ZqA list t):CT 186 Z61:=
 Z3 (l:=[(80,Z3C)]) Zk rfl (⟨c80,trivial⟩) ZmC Try.func186 rfl rfl 2 (fun _=> rfl) (by decide) (fun ⟨list,t,_⟩=> hb list t ())
def Ziq:List (FuncId × Fs U):=[(120,Z1N)]
def ZmB:Zi U:=lvl [([0,3],[3]),([0,3,5],[3]),([4],[]),([3,13],[3]),([4],[]),([4],[])]
abbrev ZvM(list:Int)(e:Edit)(Q:QT):=AW (Z0 Ziq) Try.f187 ZmB [] (L2 [(0,.c (ci list)),(1,.agg (enc .edit e))] []) Q
theorem ZuS(list:Int)(e:Edit)(Q:QT)(h:(Z7F (list,()))∧(((bif (decide (2≤list∧list≤7)) then true else (e.kind==0))=true→Q .ret (L2 [(4,.c (.bool false))] []))∧((bif (decide (2≤list∧list≤7)) then true else (e.kind==0))=false→((bif (list==8) then true else (e.kind==2))=true→Q .ret (L2 [(4,.c (.bool true))] []))∧((bif (list==8) then true else (e.kind==2))=false→Q .ret (L2 [(4,.c (.bool (bif (bif (e.kind==1) then (e.old.kind==1) else false) then (e.new.kind==1) else false)))] []))))):
  ZvM list e Q:=by
 have e_:(ZvM list e Q)=(let zz2:=(bif ((list:Int)==8) then true else (e.kind==2));let zz1:=(decide (2≤list∧list≤7));let zz0:=(bif (e.kind==1) then ((e.old.kind:Int)==1) else false);((Z7F (list,()))∧(ZD ((!zz1)=true))∧(ZD ((!zz1)=true))∧(zz1=false→(!zz1)=true)∧(((bif zz1 then true else (e.kind==0))=true→(Q .ret (L2 [(4,.c (.bool false))] [])))∧((bif zz1 then true else (e.kind==0))=false→(ZD ((!((list:Int)==8))=true))∧(ZD ((!((list:Int)==8))=true))∧(((list:Int)==8)=false→(!((list:Int)==8))=true)∧((zz2=true→(Q .ret (L2 [(4,.c (.bool true))] [])))∧(zz2=false→(ZD ((e.kind==1)=true))∧(ZD ((e.kind==1)=true))∧(ZD ((e.kind==1)=true))∧(ZD ((e.kind==1)=true))∧(ZD (zz0=true))∧(ZD (zz0=true))∧(ZD (zz0=true))∧(ZD (zz0=true))∧(Q .ret (L2 [(4,.c (.bool (bif zz0 then ((e.new.kind:Int)==1) else false)))] [])))))))):=by kernel_rfl
 exact e_.mpr ⟨h.1,id,id,(by generalize (decide (2≤list∧list≤7))=b0;revert b0;decide),⟨fun c_3=> (h.2.1 c_3),fun c_3=> ⟨id,id,(by generalize ((list:Int)==8)=b0;revert b0;decide),⟨fun c_4=> ((h.2.2 c_3).1 c_4),fun c_4=> ⟨id,id,id,(by generalize ((e.kind:Int)==1)=b0;revert b0;decide),id,id,id,(by generalize ((e.old.kind:Int)==1)=b0;generalize ((e.kind:Int)==1)=b1;revert b0 b1;decide),((h.2.2 c_3).2 c_4)⟩⟩⟩⟩⟩
def Zqz(list:Int)(e:Edit):Prop:=AW (Z0 Ziq) Try.f187 ZmB [] (Zm (ZiU.can (list,e,())) []) (EQ Try.f187 (ZlK (list,e,())) [])
theorem Zpj(ZkB:CT 120 Z1N)(hb:∀ (list:Int) (e:Edit) (_:Unit),ZcV (list,e,())→Zqz list e):CT 187 Z2X:=
 Z3 (l:=[(120,Z1N)]) Zk rfl (⟨ZkB,trivial⟩) ZmB Try.func187 rfl rfl 2 (fun _=> rfl) (by decide) (fun ⟨list,e,_⟩=> hb list e ())
def Z0m:List (FuncId × Fs U):=[(66,Z2T)]
def Z6D:Zi U:=lvl [([0],[]),([0,5,6,7],[]),([0,5,6,7,8],[]),([0,3,4,5,6,7],[4]),([0,4,5,6,7,39],[4]),([2],[]),([0,5,6,7,53],[]),([2],[]),([0,5,6,7],[]),([2],[])]
def Z1h(l:List WEdit)(x7:Int):LSt U:=(L2 [(0,.c (sU .wedit l .unk)),(5,.c (sU .wedit l .unk)),(6,.c (ci (l.length:Int))),(7,.c (ci x7))] [])
abbrev Zw0(l:List WEdit)(Q:QT):=AW (Z0 Z0m) Try.f123 Z6D [] (L2 [(0,.c (sU .wedit l .unk))] []) Q
abbrev Zhf:=awp cfg (Z0 Z0m) (Zx cfg (Z0 Z0m)) Try.f123.ntmps Z6D
abbrev ZfL:=Z3K cfg (Z0 Z0m) (Zx cfg (Z0 Z0m)) Try.f123.ntmps Z6D
theorem Zvb(l:List WEdit)(Q:QT)(h:Zh (AW (Z0 Z0m) Try.f123 Z6D [1,0,1,0,0]) (Z1h l 0) (xB 0 (SW (Z0 Z0m) Try.f123 Z6D [1,1] Q))):
  Zw0 l Q:=by
 have e_:(Zw0 l Q)=(Zh (Zhf (cd Try.f123 [1,0,1,0,0])) (Z1h l 0) (xB 0 (ZfL (cd Try.f123 [1,1]) Q))):=by kernel_rfl
 exact e_.mpr h
abbrev Zjq(l:List WEdit)(x7:Int)(N0:NT)(Q:QT):=AW (Z0 Z0m) Try.f123 Z6D [1,0,1,0,0] (Z1h l x7) (xT N0 (xB 0 (SW (Z0 Z0m) Try.f123 Z6D [1,1] Q)))
theorem Zl9(l:List WEdit)(x7:Int)(N0:NT)(Q:QT)(h:∀ y_1,y_1=(l.getD x7.toNat (WEdit.mk 0 0 0 0))→∀ y_2,y_2=(List.getD l (Int.toNat (x7 - 1)) (WEdit.mk 0 0 0 0))→((decide (x7 < (l.length:Int)))=true→((0:Int)≤x7∧x7 < (l.length:Int))∧((((!(bif (decide (y_1.at_ < 0)) then true else (decide ((65535:Int)≤y_1.at_)))) && (decide ((0:Int) < x7)))=true→InR (x7 - 1))∧(((!(bif (decide (y_1.at_ < 0)) then true else (decide ((65535:Int)≤y_1.at_)))) && (decide ((0:Int) < x7)))=true→(0:Int)≤(x7 - 1)∧(x7 - 1) < (l.length:Int))∧(((bif (bif (bif (decide (y_1.at_ < 0)) then true else (decide ((65535:Int)≤y_1.at_))) then true else (bif (decide ((0:Int) < x7)) then (decide (y_1.at_≤y_2.at_)) else false)) then true else (y_1.mask==0))=true→Q .ret (L2 [(2,.c (.bool false))] []))∧((bif (bif (bif (decide (y_1.at_ < 0)) then true else (decide ((65535:Int)≤y_1.at_))) then true else (bif (decide ((0:Int) < x7)) then (decide (y_1.at_≤y_2.at_)) else false)) then true else (y_1.mask==0))=false→(Z3U (y_1.old,0,y_1.mask,()))∧((!(((mix y_1.old 0 y_1.mask):Int) !=0))=true→Z3U (y_1.new,0,y_1.mask,()))∧(((bif (((mix y_1.old 0 y_1.mask):Int) !=0) then true else (((mix y_1.new 0 y_1.mask):Int) !=0))=true→Q .ret (L2 [(2,.c (.bool false))] []))∧((bif (((mix y_1.old 0 y_1.mask):Int) !=0) then true else (((mix y_1.new 0 y_1.mask):Int) !=0))=false→(InR (x7+1))∧(N0 (Z1h l (x7+1)))))))))∧((decide (x7 < (l.length:Int)))=false→Q .ret (L2 [(2,.c (.bool true))] []))):
  Zjq l x7 N0 Q:=by
 have e_:(Zjq l x7 N0 Q)=(let y_1:=(l.getD x7.toNat (WEdit.mk 0 0 0 0));let y_2:=(List.getD l (Int.toNat ((x7:Int) - 1)) (WEdit.mk 0 0 0 0));let zz5:=(((mix y_1.new 0 y_1.mask):Int) !=0);let zz4:=(decide (y_1.at_ < 0));let zz3:=(decide ((0:Int) < x7));let zz2:=(bif zz3 then (decide (y_1.at_≤y_2.at_)) else false);let zz1:=(((mix y_1.old 0 y_1.mask):Int) !=0);let zz0:=(bif zz4 then true else (decide ((65535:Int)≤y_1.at_)));(((decide ((x7:Int) < (l.length:Int)))=true→((0:Int)≤x7∧x7 < (l.length:Int))∧((ZD ((!zz4)=true))∧(ZD ((!zz4)=true))∧(zz4=false→(!zz4)=true)∧(ZD ((!zz0)=true))∧(ZD ((!zz0)=true))∧(ZD (((!zz0) && zz3)=true))∧(((!zz0) && zz3)=true→InR ((x7:Int) - 1))∧(ZD (((!zz0) && zz3)=true))∧(ZD (((!zz0) && zz3)=true))∧(((!zz0) && zz3)=true→(0:Int)≤((x7:Int) - 1)∧((x7:Int) - 1) < (l.length:Int))∧(ZD (((!zz0) && zz3)=true))∧(ZD (((!zz0) && zz3)=true))∧(ZD (((!zz0) && zz3)=true))∧(ZD (((!zz0) && zz3)=true))∧(ZD (((!zz0) && zz3)=true))∧((!zz0)=true→(True→(!zz0)=true))∧((!zz0)=true→(zz3=true→((!zz0) && zz3)=true))∧(zz0=false→(!zz0)=true)∧(ZD ((!(bif zz0 then true else zz2))=true))∧(ZD ((!(bif zz0 then true else zz2))=true))∧((bif zz0 then true else zz2)=false→(!(bif zz0 then true else zz2))=true)∧(((bif (bif zz0 then true else zz2) then true else (y_1.mask==0))=true→(Q .ret (L2 [(2,.c (.bool false))] [])))∧((bif (bif zz0 then true else zz2) then true else (y_1.mask==0))=false→(Z3U (y_1.old,0,y_1.mask,()))∧(ZD ((!zz1)=true))∧(ZD ((!zz1)=true))∧(ZD ((!zz1)=true))∧(ZD ((!zz1)=true))∧((!zz1)=true→Z3U (y_1.new,0,y_1.mask,()))∧(ZD ((!zz1)=true))∧(zz1=false→(!zz1)=true)∧(((bif zz1 then true else zz5)=true→(Q .ret (L2 [(2,.c (.bool false))] [])))∧((bif zz1 then true else zz5)=false→(InR ((x7:Int)+1))∧(N0 (Z1h l ((x7:Int)+1)))))))))∧((decide ((x7:Int) < (l.length:Int)))=false→(Q .ret (L2 [(2,.c (.bool true))] []))))):=by kernel_rfl
 exact e_.mpr (by intro y_1 y_2;have hh:=h y_1 rfl y_2 rfl;exact ⟨fun c_5=> ⟨(hh.1 c_5).1,⟨id,id,(by generalize (decide ((y_1.at_:Int) < 0))=b0;revert b0;decide),id,id,id,(hh.1 c_5).2.1,id,id,(hh.1 c_5).2.2.1,id,id,id,id,id,(by generalize (decide ((65535:Int)≤y_1.at_))=b0;generalize (decide ((y_1.at_:Int) < 0))=b1;revert b0 b1;decide),(by generalize (decide ((65535:Int)≤y_1.at_))=b0;generalize (decide ((y_1.at_:Int) < 0))=b1;generalize (decide ((0:Int) < x7))=b2;revert b0 b1 b2;decide),(by generalize (decide ((65535:Int)≤y_1.at_))=b0;generalize (decide ((y_1.at_:Int) < 0))=b1;revert b0 b1;decide),id,id,(by generalize (decide ((y_1.at_:Int)≤y_2.at_))=b0;generalize (decide ((65535:Int)≤y_1.at_))=b1;generalize (decide ((y_1.at_:Int) < 0))=b2;generalize (decide ((0:Int) < x7))=b3;revert b0 b1 b2 b3;decide),⟨fun c_6=> ((hh.1 c_5).2.2.2.1 c_6),fun c_6=> ⟨((hh.1 c_5).2.2.2.2 c_6).1,id,id,id,id,((hh.1 c_5).2.2.2.2 c_6).2.1,id,(by generalize (((mix y_1.old 0 y_1.mask):Int) !=0)=b0;revert b0;decide),⟨fun c_7=> (((hh.1 c_5).2.2.2.2 c_6).2.2.1 c_7),fun c_7=> ⟨(((hh.1 c_5).2.2.2.2 c_6).2.2.2 c_7).1,(((hh.1 c_5).2.2.2.2 c_6).2.2.2 c_7).2⟩⟩⟩⟩⟩⟩,fun c_5=> (hh.2 c_5)⟩)
def ZqS(l:List WEdit):Prop:=AW (Z0 Z0m) Try.f123 Z6D [] (Zm (Zj5.can (l,())) []) (EQ Try.f123 (ZlT (l,())) [])
theorem Zpz(c66:CT 66 Z2T)(hb:∀ (l:List WEdit) (_:Unit),Z7D (l,())→ZqS l):CT 123 Z30:=
 Z3 (l:=[(66,Z2T)]) Zk rfl (⟨c66,trivial⟩) Z6D Try.func123 rfl rfl 1 (fun _=> rfl) (by decide) (fun ⟨l,_⟩=> hb l ())
end
end
end Go.AM.Ytpjenobkibfpcaa
namespace Go.AM.Ytpjenobkibfpcaa
open Go.AM Go.Proofs
theorem Zny:∀ n:Fin 256,∀ i:Fin 8,IntKind.wrap .u8 (BitVec.ofInt (IntKind.bits .u8) (Int.fdiv (n.1:Int) (2 ^ (min (Int.toNat (i.1:Int)) (IntKind.bits .u8)))) &&& BitVec.ofInt (IntKind.bits .u8) 1).toNat=((n.1 / 2 ^ i.1 % 2:Nat):Int):=by decide+kernel
theorem Zpa:∀ n:Fin 256,∀ i:Fin 8,IntKind.wrap .u64 (BitVec.ofInt (IntKind.bits .u64) ((JW n.1 i.1:Nat):Int) ||| BitVec.ofInt (IntKind.bits .u64) (IntKind.wrap .u64 (255*2 ^ (min (Int.toNat (8*(i.1:Int))) (IntKind.bits .u64))))).toNat=((JW n.1 i.1+255*2 ^ (8*i.1):Nat):Int):=by decide+kernel
theorem ZtH:Contract Try.prog cfg 105 Z6b:=by
 refine ZpI ?_
 intro m _ hp
 simp only [Zas] at hp
 obtain ⟨n,rfl⟩:=Int.eq_ofNat_of_zero_le hp.1
 have hn:n < 256:=by omega
 refine Zvm _ _ ?_
 refine Za (ι:=Nat) (fun i=> JG n ((JW n i:Nat):Int) i) (fun i=> i≤8) (fun i=> 8 - i) 0 rfl (by omega) ?_
 intro i hi
 refine Zlk _ _ _ _ _ ?_
 (simp only [vcS])
 refine ⟨fun hc=> ⟨by omega,fun hq=> ⟨by unfold InR;omega,by omega,by unfold InR;omega,i+1,?_,by omega,by omega⟩,fun hq=> ⟨by unfold InR;omega,i+1,?_,by omega,by omega⟩⟩,fun hc=> ?_⟩
 ·have h1:=Zny ⟨n,hn⟩ ⟨i,by omega⟩
  have h2:=Zpa ⟨n,hn⟩ ⟨i,by omega⟩
  simp only at h1 h2
  rw [h1] at hq
  rw [h2]
  have e:JW n (i+1)=JW n i+255*2 ^ (8*i):=by simp only [JW];rw [if_pos (by omega)]
  rw [e]
  try rfl
 ·have h1:=Zny ⟨n,hn⟩ ⟨i,by omega⟩
  simp only at h1
  rw [h1] at hq
  have e:JW n (i+1)=JW n i:=by simp only [JW];rw [if_neg (by omega)];omega
  rw [e]
  try rfl
 ·have:i=8:=by omega
  subst this
  exact YH rfl rfl
theorem Z18(a:Nat)(h:a < 2 ^ 64):(BitVec.ofInt 64 (a:Int)).toNat=a:=by
 rw [BitVec.toNat_ofInt]
 omega
theorem c66:Contract Try.prog cfg 66 Z2T:=by
 refine Zsx ZtH ?_
 intro a b m _ hp
 simp only [Z3U] at hp
 obtain ⟨⟨a0,a1⟩,⟨b0,b1⟩,m0,m1⟩:=hp
 obtain ⟨x,rfl⟩:=Int.eq_ofNat_of_zero_le a0
 obtain ⟨y,rfl⟩:=Int.eq_ofNat_of_zero_le b0
 obtain ⟨n,rfl⟩:=Int.eq_ofNat_of_zero_le m0
 have hn:n < 256:=by omega
 have hx:x < 2 ^ 64:=by omega
 have hy:y < 2 ^ 64:=by omega
 have hw:=Zog ⟨n,hn⟩
 have hw2:=Zhl ⟨n,hn⟩
 simp only at hw hw2
 rw [←hw2] at hw
 refine ZwB _ _ _ _ ?_
 refine ⟨⟨m0,m1⟩,⟨m0,m1⟩,YH rfl ?_⟩
 have em:mix x y n=(((x &&& (2 ^ 64 - 1 - JW n 8)) ||| (y &&& JW n 8):Nat):Int):=by rw [←Zmw,←Zmv x y n hn]
 have e1:(BitVec.ofInt 64 (x:Int) &&& ~~~(BitVec.ofInt 64 ((JW n 8:Nat):Int))).toNat=x &&& (2 ^ 64 - 1 - JW n 8):=by
  rw [BitVec.toNat_and,BitVec.toNat_not,Z18 x hx,Z18 _ hw]
 have e2:(BitVec.ofInt 64 (y:Int) &&& BitVec.ofInt 64 ((JW n 8:Nat):Int)).toNat=y &&& JW n 8:=by
  rw [BitVec.toNat_and,Z18 y hy,Z18 _ hw]
 have l1:x &&& (2 ^ 64 - 1 - JW n 8) < 2 ^ 64:=Nat.lt_of_le_of_lt Nat.and_le_left hx
 have l2:y &&& JW n 8 < 2 ^ 64:=Nat.lt_of_le_of_lt Nat.and_le_left hy
 have l3:(x &&& (2 ^ 64 - 1 - JW n 8)) ||| (y &&& JW n 8) < 2 ^ 64:=Nat.or_lt_two_pow l1 l2
 have key:IntKind.wrap .u64 ((BitVec.ofInt 64 (IntKind.wrap .u64 ((BitVec.ofInt 64 (x:Int) &&& ~~~(BitVec.ofInt 64 ((JW n 8:Nat):Int))).toNat:Int)) ||| BitVec.ofInt 64 (IntKind.wrap .u64 ((BitVec.ofInt 64 (y:Int) &&& BitVec.ofInt 64 ((JW n 8:Nat):Int)).toNat:Int))).toNat:Int)=mix x y n:=by
  have w1:∀ k:Nat,k < 2 ^ 64→IntKind.wrap .u64 (k:Int)=k:=fun k hk=> Z3v (by omega) (by omega)
  rw [e1,e2,w1 _ l1,w1 _ l2,BitVec.toNat_or,Z18 _ l1,Z18 _ l2,w1 _ l3,em]
 exact key
theorem ZtB:Contract Try.prog cfg 122 Z31:=by
 refine ZpA c80 ?_
 intro t _ hp
 refine Zvc _ _ ?_
 (simp only [Tree.eta,Edit.eta,Tree.kind_mk,Tree.words_mk,Tree.kids_mk])
 refine ⟨fun _=> hp,Z2 rfl ?_⟩
 rw [Bool.eq_iff_iff]
 (simp only [vcS])
theorem Zto:Contract Try.prog cfg 186 Z61:=by
 refine Zpk c80 ?_
 intro list t _ hp
 simp only [Zak] at hp
 refine ZuT _ _ _ ?_
 (simp only [Tree.eta,Edit.eta,Tree.kind_mk,Tree.words_mk,Tree.kids_mk])
 refine ⟨⟨?_,?_⟩,by (repeat' (first | exact trivial | exact rfl | apply And.intro))⟩
 ·simp only [Zj,Zb,List.length_nil];omega
 ·simp only [rng,ZW]
  have hi:=hp.2.2
  unfold isI at hi
  exact ⟨hi,by simp,hp.2.1,trivial⟩
theorem Ztn:Contract Try.prog cfg 187 Z2X:=by
 refine Zpj ZkB ?_
 intro list e _ hp
 refine ZuS _ _ _ ?_
 (simp only [vcS])
 refine ⟨trivial,fun h=> ?_,fun h=> ⟨fun h2=> ?_,fun h2=> ?_⟩⟩
 ·exact Z2 rfl (by show false=Yi list e;unfold Yi;rw [if_pos h])
 ·exact Z2 rfl (by show true=Yi list e;unfold Yi;rw [if_neg (by omega),if_pos h2])
 ·refine Z2 rfl ?_
  show _=Yi list e
  unfold Yi
  rw [if_neg (by omega),if_neg (by omega),Bool.eq_iff_iff]
  (simp only [vcS])
  omega
theorem Zcw(last:Int)(w:WEdit)(r:List WEdit):Zu last (w ::r)=(decide (last < w.at_∧w.at_≤65534∧w.mask≠0) && Z0g w.old w.mask && Z0g w.new w.mask && Zu w.at_ r):=rfl
theorem ZtA:Contract Try.prog cfg 123 Z30:=by
 refine Zpz c66 ?_
 intro l _ hp
 simp only [Z7D] at hp
 refine Zvb _ _ ?_
 refine Za (ι:=Int) (fun i=> Z1h l i) (fun i=> 0≤i∧i≤l.length∧(i≠0→0≤(l.getD (i - 1).toNat (WEdit.mk 0 0 0 0)).at_)∧Zu (if i=0 then -1 else (l.getD (i - 1).toNat (WEdit.mk 0 0 0 0)).at_) (l.drop i.toNat)=Zu (-1) l) (fun i=> ((l.length:Int) - i).toNat) 0 rfl ⟨by omega,by omega,by simp,by simp⟩ ?_
 rintro i ⟨h1,h2,hpos,h3⟩
 refine Zl9 _ _ _ _ ?_
 rintro y1 hy1 y2 hy2
 (simp only [vcS])
 refine ⟨fun hi=> ?_,fun hi=> ?_⟩
 ·have hm:=hp.2 _ (Zl (l:=l) (i:=i.toNat) (by omega) (WEdit.mk 0 0 0 0))
  rw [ZR h1 hi (WEdit.mk 0 0 0 0),Zcw] at h3
  rw [←hy1] at h3 hm
  rw [←hy2] at h3 hpos
  obtain ⟨r1,r2,r3,r4⟩:=hm
  unfold isW at r3 r4
  have hw:∀ x:Int,Z0g x y1.mask=decide (mix x 0 y1.mask=0):=fun x=> rfl
  refine ⟨⟨h1,hi⟩,fun _=> by unfold InR;omega,fun _=> ⟨by omega,by omega⟩,fun hq=> ?_,fun hq=> ⟨⟨r3,by dsimp only;omega,r2⟩,fun _=> ⟨r4,by dsimp only;omega,r2⟩,fun hz=> ?_,fun hz=> ⟨by unfold InR;omega,i+1,rfl,⟨by omega,by omega,fun _=> by rw [show i+1 - 1=i by omega,←hy1];omega,?_⟩,by omega⟩⟩⟩
  ·refine Z2 rfl ?_
   show false=Zu (-1) l
   rw [←h3,decide_eq_false]
   ·try rfl
   ·split <;> omega
  ·refine Z2 rfl ?_
   show false=Zu (-1) l
   rw [←h3,hw,hw]
   rcases hz with hz | hz
   ·rw [decide_eq_false hz];simp
   ·rw [decide_eq_false hz];simp
  ·rw [if_neg (by omega),show i+1 - 1=i by omega,←hy1,←h3,hw,hw,decide_eq_true hz.1,decide_eq_true hz.2,decide_eq_true]
   ·simp
   ·split <;> omega
 ·rw [List.drop_of_length_le (by omega)] at h3
  exact Z2 rfl (by show true=Zu (-1) l;rw [←h3];rfl)
end Go.AM.Ytpjenobkibfpcaa
namespace Go.AM
def wr(n:Int):Int:=IntKind.wrap .i64 n
def Z07(o:Op):Int:=if o.kind=3 then 1 else wr (o.n+o.l.length)
def Zdn(n:Int):Int:=if 1048576 < n then 1048576 else n
def Z0x:List Op→Int→Int
 | [],n=> n
 | o ::r,n=> Z0x r (if o.kind=2 then n else Zdn (wr (n+Z07 o)))
def Z0J:List Op→Int→Int
 | [],n=> n
 | o ::r,n=> Z0J r (if o.kind=1 then n else Zdn (wr (n+Z07 o)))
def Z0B(e:Edit):Bool:=
 if (e.kind≠1∧¬(ZM e.old=true∧ZM e.new=true))∨(e.kind≠2∧¬(e.words.length=0∧e.kids.length=0))∨(e.kind≠3∧(e.list≠0∨e.ops.length≠0)) then false else true
end Go.AM
namespace Go.AM.Ytpjenobkibfpcaa
open Go.AM Go.Proofs
noncomputable section
def ZiY:ArgL (Edit × Unit):=(.cons (aEl .edit) .nil)
def Z7z(a:Edit × Unit):Prop:=Zg a.1≤20000000000
def ZlO(a:Edit × Unit):V U:= .tup [(false,[ci (Z0x a.1.ops 0)]),(false,[ci (Z0J a.1.ops 0)])]
def Z2Z:Fs U:=fs ZiY (fun a=> [Z7z a]) ZlO
def Zv:List (FuncId × Fs U):=[]
def Y5:Zi U:=lvl [([1],[1]),([1,4,5],[1]),([4,5,10,11,12],[]),([4,5,10,11,12,13],[]),([4,5,7,10,11,12],[7]),([4,5,7,8,10,11,12],[7]),([4,5,7,8,10,11,12,24],[7]),([4,5,7,8,10,11,12,24],[7]),([4,5,7,8,10,11,12,27],[7]),([4,5,7,8,10,11,12,27],[7]),([4,5,8,10,11,12,34],[]),([4,5,10,11,12],[]),([4,5,10,11,12],[]),([2,3],[])]
def YT(e:Edit)(x4 x5 x12:Int):LSt U:=(L2 [(4,.c (ci x4)),(5,.c (ci x5)),(10,.c (sU .op e.ops .unk)),(11,.c (ci (e.ops.length:Int))),(12,.c (ci x12))] [])
def Z2F(e:Edit)(x4 x5 x12 x8_a:Int):LSt U:=(L2 [(4,.c (ci x4)),(5,.c (ci x5)),(7,.ptr (.loc 7) 0),(8,.c (ci x8_a)),(10,.c (sU .op e.ops .unk)),(11,.c (ci (e.ops.length:Int))),(12,.c (ci x12)),(24,.c (.bool (((OpOf.kind (e.ops.getD x12.toNat Op.nil)):Int)==3)))] [(.loc 7,(enc .op (e.ops.getD x12.toNat Op.nil)))])
def Z2E(e:Edit)(x5 x12 x8_a x4_b:Int):LSt U:=(L2 [(4,.c (ci x4_b)),(5,.c (ci x5)),(7,.ptr (.loc 7) 0),(8,.c (ci x8_a)),(10,.c (sU .op e.ops .unk)),(11,.c (ci (e.ops.length:Int))),(12,.c (ci x12)),(27,.c (.bool (((OpOf.kind (e.ops.getD x12.toNat Op.nil)):Int) !=2)))] [(.loc 7,(enc .op (e.ops.getD x12.toNat Op.nil)))])
abbrev ZvS(e:Edit)(Q:QT):=AW (Y0 Zv) Try.f164 Y5 [] (L2 [(0,.agg (enc .edit e))] []) Q
theorem ZuZ(e:Edit)(Q:QT)(h:Zh (AW (Y0 Zv) Try.f164 Y5 [1,1,0,1,0,0]) (YT e 0 0 0) (xB 0 (SW (Y0 Zv) Try.f164 Y5 [1,1,1] Q))):
  ZvS e Q:=by
 have e_:(ZvS e Q)=(Zh (AW (Y0 Zv) Try.f164 Y5 [1,1,0,1,0,0]) (YT e 0 0 0) (xB 0 (SW (Y0 Zv) Try.f164 Y5 [1,1,1] Q))):=by kernel_rfl
 exact e_.mpr h
abbrev Zjk(e:Edit)(x4 x5 x12:Int)(N0:NT)(Q:QT):=AW (Y0 Zv) Try.f164 Y5 [1,1,0,1,0,0] (YT e x4 x5 x12) (xT N0 (xB 0 (SW (Y0 Zv) Try.f164 Y5 [1,1,1] Q)))
theorem Zl0(e:Edit)(x4 x5 x12:Int)(N0:NT)(Q:QT)(h:((decide (x12 < (e.ops.length:Int)))=true→((0:Int)≤x12∧x12 < (e.ops.length:Int))∧(((((OpOf.kind (e.ops.getD x12.toNat Op.nil)):Int)==3)=true→AW (Y0 Zv) Try.f164 Y5 [1,1,0,1,0,0,1,1,0,0,1,1,1] (Z2F e x4 x5 x12 1) (xB 1 (SW (Y0 Zv) Try.f164 Y5 [1,1,0,1,0,0,1,1,1] (xT N0 (xB 0 (SW (Y0 Zv) Try.f164 Y5 [1,1,1] Q))))))∧((((OpOf.kind (e.ops.getD x12.toNat Op.nil)):Int)==3)=false→AW (Y0 Zv) Try.f164 Y5 [1,1,0,1,0,0,1,1,0,0,1,1,1] (Z2F e x4 x5 x12 (IntKind.wrap .i64 (((OpOf.n (e.ops.getD x12.toNat Op.nil)):Int)+((OpOf.l (e.ops.getD x12.toNat Op.nil)).length:Int)))) (xB 1 (SW (Y0 Zv) Try.f164 Y5 [1,1,0,1,0,0,1,1,1] (xT N0 (xB 0 (SW (Y0 Zv) Try.f164 Y5 [1,1,1] Q))))))))∧((decide (x12 < (e.ops.length:Int)))=false→Q .ret (L2 [(2,.c (ci x4)),(3,.c (ci x5))] []))):
  Zjk e x4 x5 x12 N0 Q:=by
 have e_:(Zjk e x4 x5 x12 N0 Q)=(let zz0:=(((OpOf.kind (e.ops.getD x12.toNat Op.nil)):Int)==3);(((decide ((x12:Int) < (e.ops.length:Int)))=true→((0:Int)≤x12∧x12 < (e.ops.length:Int))∧((zz0=true→(AW (Y0 Zv) Try.f164 Y5 [1,1,0,1,0,0,1,1,0,0,1,1,1] (Z2F e x4 x5 x12 1) (xB 1 (SW (Y0 Zv) Try.f164 Y5 [1,1,0,1,0,0,1,1,1] (xT N0 (xB 0 (SW (Y0 Zv) Try.f164 Y5 [1,1,1] Q)))))))∧(zz0=false→AW (Y0 Zv) Try.f164 Y5 [1,1,0,1,0,0,1,1,0,0,1,1,1] (Z2F e x4 x5 x12 (IntKind.wrap .i64 (((OpOf.n (e.ops.getD x12.toNat Op.nil)):Int)+((OpOf.l (e.ops.getD x12.toNat Op.nil)).length:Int)))) (xB 1 (SW (Y0 Zv) Try.f164 Y5 [1,1,0,1,0,0,1,1,1] (xT N0 (xB 0 (SW (Y0 Zv) Try.f164 Y5 [1,1,1] Q))))))))∧((decide ((x12:Int) < (e.ops.length:Int)))=false→(Q .ret (L2 [(2,.c (ci x4)),(3,.c (ci x5))] []))))):=by kernel_rfl
 exact e_.mpr ⟨fun c_1=> ⟨(h.1 c_1).1,⟨fun c_2=> ((h.1 c_1).2.1 c_2),fun c_2=> ((h.1 c_1).2.2 c_2)⟩⟩,fun c_1=> (h.2 c_1)⟩
abbrev ZdG(e:Edit)(x4 x5 x12 x8_a:Int)(N0:NT)(Q:QT):=AW (Y0 Zv) Try.f164 Y5 [1,1,0,1,0,0,1,1,0,0,1,1,1] (Z2F e x4 x5 x12 x8_a) (xB 1 (SW (Y0 Zv) Try.f164 Y5 [1,1,0,1,0,0,1,1,1] (xT N0 (xB 0 (SW (Y0 Zv) Try.f164 Y5 [1,1,1] Q)))))
theorem Zl2(e:Edit)(x4 x5 x12 x8_a:Int)(N0:NT)(Q:QT)(h:((((OpOf.kind (e.ops.getD x12.toNat Op.nil)):Int) !=2)=true→AW (Y0 Zv) Try.f164 Y5 [1,1,0,1,0,0,1,1,0,0,1,1,1,1] (Z2E e x5 x12 x8_a (if (1048576:Int) < (IntKind.wrap .i64 (x4+x8_a)) then 1048576 else (IntKind.wrap .i64 (x4+x8_a)))) (xB 1 (SW (Y0 Zv) Try.f164 Y5 [1,1,0,1,0,0,1,1,1] (xT N0 (xB 0 (SW (Y0 Zv) Try.f164 Y5 [1,1,1] Q))))))∧((((OpOf.kind (e.ops.getD x12.toNat Op.nil)):Int) !=2)=false→AW (Y0 Zv) Try.f164 Y5 [1,1,0,1,0,0,1,1,0,0,1,1,1,1] (Z2E e x5 x12 x8_a x4) (xB 1 (SW (Y0 Zv) Try.f164 Y5 [1,1,0,1,0,0,1,1,1] (xT N0 (xB 0 (SW (Y0 Zv) Try.f164 Y5 [1,1,1] Q))))))):
  ZdG e x4 x5 x12 x8_a N0 Q:=by
 have e_:(ZdG e x4 x5 x12 x8_a N0 Q)=(let zz0:=(((OpOf.kind (e.ops.getD x12.toNat Op.nil)):Int) !=2);((zz0=true→(AW (Y0 Zv) Try.f164 Y5 [1,1,0,1,0,0,1,1,0,0,1,1,1,1] (Z2E e x5 x12 x8_a (if (1048576:Int) < (IntKind.wrap .i64 ((x4:Int)+x8_a)) then 1048576 else (IntKind.wrap .i64 ((x4:Int)+x8_a)))) (xB 1 (SW (Y0 Zv) Try.f164 Y5 [1,1,0,1,0,0,1,1,1] (xT N0 (xB 0 (SW (Y0 Zv) Try.f164 Y5 [1,1,1] Q)))))))∧(zz0=false→AW (Y0 Zv) Try.f164 Y5 [1,1,0,1,0,0,1,1,0,0,1,1,1,1] (Z2E e x5 x12 x8_a x4) (xB 1 (SW (Y0 Zv) Try.f164 Y5 [1,1,0,1,0,0,1,1,1] (xT N0 (xB 0 (SW (Y0 Zv) Try.f164 Y5 [1,1,1] Q)))))))):=by kernel_rfl
 exact e_.mpr ⟨fun c_3=> (h.1 c_3),fun c_3=> (h.2 c_3)⟩
abbrev ZdF(e:Edit)(x5 x12 x8_a x4_b:Int)(N0:NT)(Q:QT):=AW (Y0 Zv) Try.f164 Y5 [1,1,0,1,0,0,1,1,0,0,1,1,1,1] (Z2E e x5 x12 x8_a x4_b) (xB 1 (SW (Y0 Zv) Try.f164 Y5 [1,1,0,1,0,0,1,1,1] (xT N0 (xB 0 (SW (Y0 Zv) Try.f164 Y5 [1,1,1] Q)))))
theorem Zl1(e:Edit)(x5 x12 x8_a x4_b:Int)(N0:NT)(Q:QT)(h:((((OpOf.kind (e.ops.getD x12.toNat Op.nil)):Int) !=1)=true→N0 (YT e x4_b (if (1048576:Int) < (IntKind.wrap .i64 (x5+x8_a)) then 1048576 else (IntKind.wrap .i64 (x5+x8_a))) (IntKind.wrap .i64 (x12+1))))∧((((OpOf.kind (e.ops.getD x12.toNat Op.nil)):Int) !=1)=false→N0 (YT e x4_b x5 (IntKind.wrap .i64 (x12+1))))):
  ZdF e x5 x12 x8_a x4_b N0 Q:=by
 have e_:(ZdF e x5 x12 x8_a x4_b N0 Q)=(((((OpOf.kind (e.ops.getD x12.toNat Op.nil)):Int) !=1)=true→(N0 (YT e x4_b (if (1048576:Int) < (IntKind.wrap .i64 ((x5:Int)+x8_a)) then 1048576 else (IntKind.wrap .i64 ((x5:Int)+x8_a))) (IntKind.wrap .i64 ((x12:Int)+1)))))∧((((OpOf.kind (e.ops.getD x12.toNat Op.nil)):Int) !=1)=false→(N0 (YT e x4_b x5 (IntKind.wrap .i64 ((x12:Int)+1)))))):=by kernel_rfl
 exact e_.mpr ⟨fun c_4=> (h.1 c_4),fun c_4=> (h.2 c_4)⟩
def ZqG(e:Edit):Prop:=AW (Y0 Zv) Try.f164 Y5 [] (Zm (ZiY.can (e,())) []) (EQ Try.f164 (ZlO (e,())) [])
theorem Zpp(hb:∀ (e:Edit) (_:Unit),Z7z (e,())→ZqG e):CT 164 Z2Z:=
 Zbb (l:=[]) Zk rfl trivial Y5 Try.func164 rfl rfl 1 (fun _=> rfl) (by decide) (fun ⟨e,_⟩=> hb e ())
end
end Go.AM.Ytpjenobkibfpcaa
namespace Go.AM.Ytpjenobkibfpcaa
open Go.AM Go.Proofs
theorem ZdN{n:Int}(h:InR n):wr n=n:=by
 unfold InR at h
 simp [wr,IntKind.wrap,IntKind.signed,IntKind.bits]
 split <;> omega
theorem Zgm{l:List Op}{i:Int}(n:Int)(h0:0≤i)(h:i < l.length):Z0x (l.drop i.toNat) n=Z0x (l.drop (i+1).toNat) (if (l.getD i.toNat Op.nil).kind=2 then n else Zdn (wr (n+Z07 (l.getD i.toNat Op.nil)))):=by
 rw [ZR h0 h Op.nil,Z0x]
theorem Zgl{l:List Op}{i:Int}(n:Int)(h0:0≤i)(h:i < l.length):Z0J (l.drop i.toNat) n=Z0J (l.drop (i+1).toNat) (if (l.getD i.toNat Op.nil).kind=1 then n else Zdn (wr (n+Z07 (l.getD i.toNat Op.nil)))):=by
 rw [ZR h0 h Op.nil,Z0J]
theorem Ztt:Contract Try.prog cfg 164 Z2Z:=by
 refine Zpp ?_
 intro e _ hp
 simp only [Z7z] at hp
 have h1:=Y6 e
 have h2:=Y3 e.ops
 refine ZuZ _ _ ?_
 refine Za (ι:=Int × Int × Int) (fun s=> YT e s.1 s.2.1 s.2.2) (fun s=> (0≤s.2.2∧s.2.2≤e.ops.length)∧Z0x (e.ops.drop s.2.2.toNat) s.1=Z0x e.ops 0∧Z0J (e.ops.drop s.2.2.toNat) s.2.1=Z0J e.ops 0) (fun s=> ((e.ops.length:Int) - s.2.2).toNat) (0,0,0) rfl ⟨⟨by simp,by simp⟩,rfl,rfl⟩ ?_
 rintro ⟨n,m,i⟩ ⟨⟨g1,g2⟩,g3,g4⟩
 dsimp only at g1 g2 g3 g4
 refine Zl0 _ _ _ _ _ _ ?_
 (simp only [vcS])
 refine ⟨fun hi=> ⟨⟨g1,hi⟩,?_⟩,fun hi=> ?_⟩
 ·rw [Zgm _ g1 hi] at g3
  rw [Zgl _ g1 hi] at g4
  have hk:IntKind.wrap .i64 (i+1)=i+1:=ZdN (by unfold InR;omega)
  generalize hy:e.ops.getD i.toNat Op.nil=y at*
  have key:∀ k:Int,k=Z07 y→∀ (Q':AExit→LSt U→Prop),ZdG e n m i k (fun s2=> ∃ j:Int × Int × Int,s2=YT e j.1 j.2.1 j.2.2∧((0≤j.2.2∧j.2.2≤e.ops.length)∧Z0x (e.ops.drop j.2.2.toNat) j.1=Z0x e.ops 0∧Z0J (e.ops.drop j.2.2.toNat) j.2.1=Z0J e.ops 0)∧((e.ops.length:Int) - j.2.2).toNat < ((e.ops.length:Int) - i).toNat) Q':=by
   rintro k rfl Q'
   have step2:∀ a:Int,a=(if y.kind=2 then n else Zdn (wr (n+Z07 y)))→ZdF e m i (Z07 y) a (fun s2=> ∃ j:Int × Int × Int,s2=YT e j.1 j.2.1 j.2.2∧((0≤j.2.2∧j.2.2≤e.ops.length)∧Z0x (e.ops.drop j.2.2.toNat) j.1=Z0x e.ops 0∧Z0J (e.ops.drop j.2.2.toNat) j.2.1=Z0J e.ops 0)∧((e.ops.length:Int) - j.2.2).toNat < ((e.ops.length:Int) - i).toNat) Q':=by
    rintro a ha
    refine Zl1 _ _ _ _ _ _ _ ?_
    rw [hy,hk]
    (simp only [vcS])
    rw [←ha] at g3
    refine ⟨fun hb=> ⟨(a,_,i+1),rfl,⟨⟨by dsimp only;omega,by dsimp only;omega⟩,g3,?_⟩,by dsimp only;omega⟩,fun hb=> ⟨(a,_,i+1),rfl,⟨⟨by dsimp only;omega,by dsimp only;omega⟩,g3,?_⟩,by dsimp only;omega⟩⟩
    ·rw [if_neg hb] at g4;exact g4
    ·rw [if_pos hb] at g4;exact g4
   refine Zl2 _ _ _ _ _ _ _ ?_
   rw [hy]
   (simp only [vcS])
   exact ⟨fun hb=> step2 _ (by rw [if_neg hb];rfl),fun hb=> step2 _ (by rw [if_pos hb])⟩
  exact ⟨fun hb=> key _ (by unfold Z07;rw [if_pos hb]) _,fun hb=> key _ (by unfold Z07;rw [if_neg hb];rfl) _⟩
 ·rw [List.drop_of_length_le (by omega)] at g3 g4
  simp only [Z0x,Z0J] at g3 g4
  rw [g3,g4]
  (repeat' (first | exact trivial | exact rfl | apply And.intro))
theorem Zf0:∀ (l:List Op) (n:Int),(∀ o∈l,(0≤o.n∧o.n≤1048576)∧o.l.length≤20000000000)→0≤n→n≤1048576→Z0x l n=JY l n
 | [],_,_,_,_=> rfl
 | o ::r,n,h,h0,hn=> by
  have ho:=h o (List.mem_cons_self ..)
  have hl:=Z6p o
  have ew:Z07 o=Zr o:=by
   unfold Z07;rw [hl]
   split
   ·try rfl
   ·exact ZdN (by unfold InR;omega)
  have hb:0≤Zr o∧Zr o≤60000000000:=by rw [hl];split <;> omega
  simp only [Z0x,JY]
  rw [ew,ZdN (by unfold InR;omega)]
  have e2:(if o.kind=2 then n else Zdn (n+Zr o))=min (if o.kind=2 then n else n+Zr o) 1048576:=by
   unfold Zdn;split
   ·omega
   ·split <;> omega
  rw [e2]
  exact Zf0 r _ (fun x hx=> h x (List.mem_cons_of_mem _ hx)) (by split <;> omega) (by omega)
theorem ZeZ:∀ (l:List Op) (n:Int),(∀ o∈l,(0≤o.n∧o.n≤1048576)∧o.l.length≤20000000000)→0≤n→n≤1048576→Z0J l n=JX l n
 | [],_,_,_,_=> rfl
 | o ::r,n,h,h0,hn=> by
  have ho:=h o (List.mem_cons_self ..)
  have hl:=Z6p o
  have ew:Z07 o=Zr o:=by
   unfold Z07;rw [hl]
   split
   ·try rfl
   ·exact ZdN (by unfold InR;omega)
  have hb:0≤Zr o∧Zr o≤60000000000:=by rw [hl];split <;> omega
  simp only [Z0J,JX]
  rw [ew,ZdN (by unfold InR;omega)]
  have e2:(if o.kind=1 then n else Zdn (n+Zr o))=min (if o.kind=1 then n else n+Zr o) 1048576:=by
   unfold Zdn;split
   ·omega
   ·split <;> omega
  rw [e2]
  exact ZeZ r _ (fun x hx=> h x (List.mem_cons_of_mem _ hx)) (by split <;> omega) (by omega)
end Go.AM.Ytpjenobkibfpcaa
namespace Go.AM.Ytpjenobkibfpcaa
open Go.AM Go.Proofs
noncomputable section
noncomputable section
def Zj1:ArgL (List Tree × List Tree × Unit × Unit):=(.cons (aSl .tree) (.cons (aSl .tree) (.cons (aFn 106) .nil)))
def Zao(a:List Tree × List Tree × Unit × Unit):Prop:=Zb a.1≤1000000000000∧Zb a.2.1≤1000000000000
def ZlR(a:List Tree × List Tree × Unit × Unit):V U:= .c (.bool (eqX (Z5 a.1) (Z5 a.2.1)))
def Z4u:Fs U:=fs Zj1 (fun a=> [Zao a]) ZlR
def Z0j:List (FuncId × Fs U):=[(106,Z0O)]
def Z6A:Zi U:=lvl [([0,1,2],[]),([0,1,2,14],[]),([6],[]),([1,2,15,16,17],[]),([1,2,15,16,17,18],[]),([1,2,7,8,15,16,17],[8]),([1,2,8,9,15,16,17],[8,9]),([1,2,15,16,17,30],[]),([6],[]),([1,2,15,16,17],[]),([6],[])]
def Z1e(a b:List Tree)(f:Unit)(x17:Int):LSt U:=(L2 [(1,.c (sU .tree b .unk)),(2,.fn 106),(15,.c (sU .tree a .unk)),(16,.c (ci (a.length:Int))),(17,.c (ci x17))] [])
abbrev ZvU(a b:List Tree)(f:Unit)(Q:QT):=AW (Z0 Z0j) Try.f151 Z6A [] (L2 [(0,.c (sU .tree a .unk)),(1,.c (sU .tree b .unk)),(2,.fn 106)] []) Q
abbrev Zhc:=awp cfg (Z0 Z0j) (Zx cfg (Z0 Z0j)) Try.f151.ntmps Z6A
abbrev ZfI:=Z3K cfg (Z0 Z0j) (Zx cfg (Z0 Z0j)) Try.f151.ntmps Z6A
theorem Zv2(a b:List Tree)(f:Unit)(Q:QT)(h:((((a.length:Int):Int) !=(b.length:Int))=true→Q .ret (L2 [(6,.c (.bool false))] []))∧((((a.length:Int):Int) !=(b.length:Int))=false→Zh (AW (Z0 Z0j) Try.f151 Z6A [1,1,0,1,0,0]) (Z1e a b f 0) (xB 0 (SW (Z0 Z0j) Try.f151 Z6A [1,1,1] Q)))):
  ZvU a b f Q:=by
 have e_:(ZvU a b f Q)=((((a.length:Int) !=(b.length:Int))=true→(Q .ret (L2 [(6,.c (.bool false))] [])))∧(((a.length:Int) !=(b.length:Int))=false→(Zh (Zhc (cd Try.f151 [1,1,0,1,0,0])) (Z1e a b f 0) (xB 0 (ZfI (cd Try.f151 [1,1,1]) Q))))):=by kernel_rfl
 exact e_.mpr ⟨fun c_4=> (h.1 c_4),fun c_4=> (h.2 c_4)⟩
abbrev Zjm(a b:List Tree)(f:Unit)(x17:Int)(N0:NT)(Q:QT):=AW (Z0 Z0j) Try.f151 Z6A [1,1,0,1,0,0] (Z1e a b f x17) (xT N0 (xB 0 (SW (Z0 Z0j) Try.f151 Z6A [1,1,1] Q)))
theorem Zl4(a b:List Tree)(f:Unit)(x17:Int)(N0:NT)(Q:QT)(h:((decide (x17 < (a.length:Int)))=true→((0:Int)≤x17∧x17 < (a.length:Int))∧(((0:Int)≤x17∧x17 < (b.length:Int))∧((Z1y ((Tree.mk (Tree.kind (a.getD x17.toNat Tree.nil)) (Tree.words (a.getD x17.toNat Tree.nil)) (Tree.kids (a.getD x17.toNat Tree.nil))),(Tree.mk (Tree.kind (b.getD x17.toNat Tree.nil)) (Tree.words (b.getD x17.toNat Tree.nil)) (Tree.kids (b.getD x17.toNat Tree.nil))),()))∧(((!(Yv (Z6 (Tree.mk (Tree.kind (a.getD x17.toNat Tree.nil)) (Tree.words (a.getD x17.toNat Tree.nil)) (Tree.kids (a.getD x17.toNat Tree.nil)))) (Z6 (Tree.mk (Tree.kind (b.getD x17.toNat Tree.nil)) (Tree.words (b.getD x17.toNat Tree.nil)) (Tree.kids (b.getD x17.toNat Tree.nil))))))=true→Q .ret (L2 [(6,.c (.bool false))] []))∧((!(Yv (Z6 (Tree.mk (Tree.kind (a.getD x17.toNat Tree.nil)) (Tree.words (a.getD x17.toNat Tree.nil)) (Tree.kids (a.getD x17.toNat Tree.nil)))) (Z6 (Tree.mk (Tree.kind (b.getD x17.toNat Tree.nil)) (Tree.words (b.getD x17.toNat Tree.nil)) (Tree.kids (b.getD x17.toNat Tree.nil))))))=false→(InR (x17+1))∧(N0 (Z1e a b f (x17+1))))))))∧((decide (x17 < (a.length:Int)))=false→Q .ret (L2 [(6,.c (.bool true))] []))):
  Zjm a b f x17 N0 Q:=by
 have e_:(Zjm a b f x17 N0 Q)=(let zz0:=(!(Yv (Z6 (Tree.mk (Tree.kind (a.getD x17.toNat Tree.nil)) (Tree.words (a.getD x17.toNat Tree.nil)) (Tree.kids (a.getD x17.toNat Tree.nil)))) (Z6 (Tree.mk (Tree.kind (b.getD x17.toNat Tree.nil)) (Tree.words (b.getD x17.toNat Tree.nil)) (Tree.kids (b.getD x17.toNat Tree.nil))))));(((decide ((x17:Int) < (a.length:Int)))=true→((0:Int)≤x17∧x17 < (a.length:Int))∧(((0:Int)≤x17∧x17 < (b.length:Int))∧((Z1y ((Tree.mk (Tree.kind (a.getD x17.toNat Tree.nil)) (Tree.words (a.getD x17.toNat Tree.nil)) (Tree.kids (a.getD x17.toNat Tree.nil))),(Tree.mk (Tree.kind (b.getD x17.toNat Tree.nil)) (Tree.words (b.getD x17.toNat Tree.nil)) (Tree.kids (b.getD x17.toNat Tree.nil))),()))∧((zz0=true→(Q .ret (L2 [(6,.c (.bool false))] [])))∧(zz0=false→(InR ((x17:Int)+1))∧(N0 (Z1e a b f ((x17:Int)+1))))))))∧((decide ((x17:Int) < (a.length:Int)))=false→(Q .ret (L2 [(6,.c (.bool true))] []))))):=by kernel_rfl
 exact e_.mpr ⟨fun c_5=> ⟨(h.1 c_5).1,⟨(h.1 c_5).2.1,⟨(h.1 c_5).2.2.1,⟨fun c_6=> ((h.1 c_5).2.2.2.1 c_6),fun c_6=> ⟨((h.1 c_5).2.2.2.2 c_6).1,((h.1 c_5).2.2.2.2 c_6).2⟩⟩⟩⟩⟩,fun c_5=> (h.2 c_5)⟩
def ZqJ(a b:List Tree)(f:Unit):Prop:=AW (Z0 Z0j) Try.f151 Z6A [] (Zm (Zj1.can (a,b,f,())) []) (EQ Try.f151 (ZlR (a,b,f,())) [])
theorem Zps(ZkC:CT 106 Z0O)(hb:∀ (a:List Tree) (b:List Tree) (f:Unit) (_:Unit),Zao (a,b,f,())→ZqJ a b f):CT 151 Z4u:=
 Z3 (l:=[(106,Z0O)]) Zk rfl (⟨ZkC,trivial⟩) Z6A Try.func151 rfl rfl 3 (fun _=> rfl) (by decide) (fun ⟨a,b,f,_⟩=> hb a b f ())
end
end
end Go.AM.Ytpjenobkibfpcaa
namespace Go.AM.Ytpjenobkibfpcaa
open Go.AM Go.Proofs
theorem Ztw:Contract Try.prog cfg 151 Z4u:=by
 refine Zps ZkC ?_
 intro a b f _ hp
 simp only [Zao] at hp
 refine Zv2 a b f _ ?_
 (simp only [vcS])
 refine ⟨fun hc=> Z2 rfl (Z3i (a:=Z5 a) (b:=Z5 b) (fun h=> hc (by have:=congrArg List.length h;simp [Z5] at this;omega))).symm,fun hc=> ?_⟩
 have hl:a.length=b.length:=by omega
 have hla:=Zs a
 refine Za (ι:=Int) (fun i=> Z1e a b f i) (fun i=> 0≤i∧i≤a.length∧∀ j:Nat,(j:Int) < i→Z6 (a.getD j Tree.nil)=Z6 (b.getD j Tree.nil)) (fun i=> ((a.length:Int) - i).toNat) 0 rfl ⟨by omega,by omega,by intro j hj;omega⟩ ?_
 rintro i ⟨h1,h2,h3⟩
 refine Zl4 a b f _ _ _ ?_
 (simp only [vcS])
 (simp only [Tree.eta,Edit.eta,Tree.kind_mk,Tree.words_mk,Tree.kids_mk])
 refine ⟨fun hi=> ⟨⟨h1,hi⟩,⟨h1,by omega⟩,?_,fun hq=> ?_,fun hq=> ⟨by unfold InR;omega,i+1,rfl,⟨by omega,by omega,?_⟩,by omega⟩⟩,fun hi=> ?_⟩
 ·have:=YG (Zl (l:=a) (i:=i.toNat) (by omega) Tree.nil)
  have:=YG (Zl (l:=b) (i:=i.toNat) (by omega) Tree.nil)
  simp only [Z1y];omega
 ·refine Z2 rfl (Z3i (a:=Z5 a) (b:=Z5 b) (fun h=> ?_)).symm
  have h5:=Zfc (d:=Tree.nil) h i.toNat
  rw [Yz] at hq
  exact hq h5
 ·intro j hj
  by_cases hj2:(j:Int) < i
  ·exact h3 j hj2
  ·rw [J0,show i.toNat=j by omega] at hq
   exact hq
 ·exact Z2 rfl (Z0p (a:=Z5 a) (b:=Z5 b).2 (ZeU Tree.nil hl (fun j hj=> h3 j (by omega)))).symm
end Go.AM.Ytpjenobkibfpcaa
namespace Go.AM.Ytpjenobkibfpcaa
open Go.AM Go.Proofs
noncomputable section
def Zfr:ArgL (List Int × Unit):=(.cons (aSl .u64) .nil)
def Z6n(a:List Int × Unit):Prop:=a.1.length≤1000000000000
def Z6h(a:List Int × Unit):List Int:=a.1
def Z2l:Fs U:=fsL Zfr (fun a=> [Z6n a]) .u64 Z6h
def Zj2:ArgL (List Tree × Unit):=(.cons (aSl .tree) .nil)
def Zap(a:List Tree × Unit):Prop:=a.1.length≤1000000000000
def Z9e(a:List Tree × Unit):List Tree:=a.1
def Z4v:Fs U:=fsL Zj2 (fun a=> [Zap a]) .tree Z9e
def Z8a:ArgL (Edit × Tree × Unit):=(.cons (aEl .edit) (.cons (aEl .tree) .nil))
def Z2p(a:Edit × Tree × Unit):Prop:=(Zg a.1≤20000000000∧Y1 a.1∧∃ d,Z4 a.1 d=true)∧Zj a.2.1+ctE a.1≤200000000000∧rng a.2.1
def Zbp(a:Edit × Tree × Unit):Nat:=2*Zg a.1+1
def Z3Q(a:Edit × Tree × Unit):V U:= .tup [(true,(enc .tree (Z93 a.1 a.2.1))),(false,[.bool ((doE false a.1 a.2.1).isSome)])]
def Z7r:Fs U:=fs Z8a (fun a=> [Z2p a]) Z3Q
def Z54:ArgL (Edit × Tree × Unit):=(.cons (aEl .edit) (.cons (aEl .tree) .nil))
def Z3c(a:Edit × Tree × Unit):Prop:=Edit.kind a.1=2∧(Zg a.1≤20000000000∧Y1 a.1∧∃ d,Z4 a.1 d=true)∧Zj a.2.1+ctE a.1≤200000000000∧rng a.2.1
def Z8E(a:Edit × Tree × Unit):Nat:=2*Zg a.1
def Z35(a:Edit × Tree × Unit):V U:= .tup [(true,(enc .tree (Z40 (Z92 false a.1 a.2.1)))),(false,[.bool ((Z92 false a.1 a.2.1).isSome)])]
def Zhv:Fs U:=fs Z54 (fun a=> [Z3c a]) Z35
def Z53:ArgL (Edit × Tree × Unit):=(.cons (aEl .edit) (.cons (aEl .tree) .nil))
def Z3b(a:Edit × Tree × Unit):Prop:=Edit.kind a.1=3∧(Zg a.1≤20000000000∧Y1 a.1∧∃ d,Z4 a.1 d=true)∧Zj a.2.1+ctE a.1≤200000000000∧rng a.2.1
def Z8D(a:Edit × Tree × Unit):Nat:=2*Zg a.1
def Z34(a:Edit × Tree × Unit):V U:= .tup [(true,(enc .tree (ZmP a.1 (Z58 false a.1 a.2.1)))),(false,[.bool ((Z2J (Z58 false a.1 a.2.1)).isSome)])]
def Zhu:Fs U:=fs Z53 (fun a=> [Z3b a]) Z34
def Zf5:List (FuncId × Fs U):=[]
def Zgk:Zi U:=fun i=> match i with
 | 0=> ([(0,[])],[])
 | 1=> ([(0,[]),(4,[])],[])
 | 2=> ([(2,[.wr .u64])],[])
 | 3=> ([(2,[.wr .u64])],[])
 | _=> ([],[])
abbrev Zwg(p:List Nat):=AW (ZaU Zf5) Try.f109 Zgk p
theorem ZrS(l:List Int)(Q:QT)(h:(((l=[])→(Q .ret (⟨[(2,.c (.mref (.e 2 0)))],[],[(.e 2 0,LC.mk (U:=U) .u64 [] 0)]⟩:LSt U)))∧(True→((([]:List Int).length+l.length)*8≤140737488355328)∧(Q .ret (⟨[(2,.c (.mref (.e 2 0)))],[],[(.e 2 0,LC.mk (U:=U) .u64 (([]:List Int)++l) (([]:List Int).length))]⟩:LSt U))))):
  Zwg [] (L2 [(0,.c (sU .u64 l .unk))] []) Q:=
 Eq.mpr (by kernel_rfl) h
def Zoc(l:List Int):Prop:=AW (ZaU Zf5) Try.f109 Zgk [] (Zm (Zfr.can (l,())) []) (Z2g cfg Try.f109.ntmps Try.f109.results.toList (.c (.mref (.r 0 0))) [] [(.r 0 0,LC.mk (U:=U) .u64 (Z6h (l,())) 0)])
theorem ZmA(hb:∀ (l:List Int) (_:Unit),Z6n (l,())→Zoc l):CT 109 Z2l:=
 Z4q (l:=[]) Zk rfl trivial Zgk Try.func109 rfl rfl 1 (fun _=> rfl) (by decide) (fun ⟨l,_⟩=> hb l ())
def Ziw:List (FuncId × Fs U):=[]
def ZmH:Zi U:=fun i=> match i with
 | 0=> ([(0,[])],[])
 | 1=> ([(0,[]),(4,[])],[])
 | 2=> ([(2,[.wr .tree])],[])
 | 3=> ([(2,[.wr .tree])],[])
 | _=> ([],[])
abbrev Zxb(p:List Nat):=AW (ZaU Ziw) Try.f150 ZmH p
theorem Zv3(l:List Tree)(Q:QT)(h:(((l=[])→(Q .ret (⟨[(2,.c (.mref (.e 2 0)))],[],[(.e 2 0,LC.mk (U:=U) .tree [] 0)]⟩:LSt U)))∧(True→((([]:List Tree).length+l.length)*56≤140737488355328)∧(Q .ret (⟨[(2,.c (.mref (.e 2 0)))],[],[(.e 2 0,LC.mk (U:=U) .tree (([]:List Tree)++l) (([]:List Tree).length))]⟩:LSt U))))):
  Zxb [] (L2 [(0,.c (sU .tree l .unk))] []) Q:=
 Eq.mpr (by kernel_rfl) h
def ZqK(l:List Tree):Prop:=AW (ZaU Ziw) Try.f150 ZmH [] (Zm (Zj2.can (l,())) []) (Z2g cfg Try.f150.ntmps Try.f150.results.toList (.c (.mref (.r 0 0))) [] [(.r 0 0,LC.mk (U:=U) .tree (Z9e (l,())) 0)])
theorem Zpt(hb:∀ (l:List Tree) (_:Unit),Zap (l,())→ZqK l):CT 150 Z4v:=
 Z4q (l:=[]) Zk rfl trivial ZmH Try.func150 rfl rfl 1 (fun _=> rfl) (by decide) (fun ⟨l,_⟩=> hb l ())
def Z80(N:Nat):List (FuncId × Fs U):=(70,fs Z8a (fun a=> [Z2p a,Zbp a < N]) Z3Q) ::(107,fs Z54 (fun a=> [Z3c a,Z8E a < N]) Z35) ::(108,fs Z53 (fun a=> [Z3b a,Z8D a < N]) Z34) ::[(106,Z0O),(149,Z0M),(91,Z0D),(151,Z4u),(150,Z4v),(66,Z2T),(109,Z2l)]
def ZsY:Zi U:=lvl [([2,3,4],[2,3,4]),([2,3,4,7],[2,3,4]),([2,3,4,7,8],[2,3,4]),([4,5],[4]),([2,3,4,7,11],[2,3,4]),([4,5],[4]),([2,3,4,7,19],[2,3,4]),([4,5],[4]),([2,3,4,26],[2,3,4]),([4,5],[4]),([4,5],[4])]
abbrev A70(N:Nat)(p:List Nat):=AW (Z0 (Z80 N)) Try.f70 ZsY p
theorem Zwx(N:Nat)(e:Edit)(t:Tree)(Q:QT)(h:∀ y_1,y_1=e→∀ y_2,y_2=t→∀ y_3,y_3=(e.old)→(((e.kind==0)=true→(Q .ret (L2 [(4,.ptr (.loc 4) 0),(5,.c (.bool true))] [(.loc 4,(enc .tree t))])))∧((e.kind==0)=false→(((e.kind==1)=true→(Z1y (y_3,y_2,()))∧(Q .ret (L2 [(4,.ptr (.loc 4) 0),(5,.c (.bool (Yv (Z6 y_3) (Z6 y_2))))] [(.loc 4,(enc .tree e.new))])))∧((e.kind==1)=false→(((e.kind==2)=true→(Z3c (y_1,y_2,()))∧(Z8E (y_1,y_2,()) < N)∧(Q .ret (L2 [(4,.ptr (.loc 4) 0),(5,.c (.bool ((Z92 false y_1 y_2).isSome)))] [(.loc 4,(enc .tree (Z40 (Z92 false y_1 y_2))))])))∧((e.kind==2)=false→(((e.kind==3)=true→(Z3b (y_1,y_2,()))∧(Z8D (y_1,y_2,()) < N)∧(Q .ret (L2 [(4,.ptr (.loc 4) 0),(5,.c (.bool ((Z2J (Z58 false y_1 y_2)).isSome)))] [(.loc 4,(enc .tree (ZmP y_1 (Z58 false y_1 y_2))))])))∧((e.kind==3)=false→(Q .ret (L2 [(4,.ptr (.loc 4) 0),(5,.c (.bool false))] [(.loc 4,[ci 0,.nils,.nils])]))))))))))):
  A70 N [] (L2 [(0,.agg (enc .edit e)),(1,.agg (enc .tree t))] []) Q:=
 Eq.mpr (by kernel_rfl) (h _ (Ze _) _ (Zc _) _ (Zc _))
def Zuh(N:Nat)(e:Edit)(t:Tree):Prop:=AW (Z0 (Z80 N)) Try.f70 ZsY [] (Zm (Z8a.can (e,t,())) []) (EQ Try.f70 (Z3Q (e,t,())) [])
abbrev Zwa:Prop:=∀ (N:Nat) (e:Edit) (t:Tree) (_:Unit),Z2p (e,t,())→Zbp (e,t,()) < N+1→Zuh N e t
def Zde(N:Nat):List (FuncId × Fs U):=(70,fs Z8a (fun a=> [Z2p a,Zbp a < N]) Z3Q) ::(107,fs Z54 (fun a=> [Z3c a,Z8E a < N]) Z35) ::(108,fs Z53 (fun a=> [Z3b a,Z8D a < N]) Z34) ::[(106,Z0O),(149,Z0M),(91,Z0D),(151,Z4u),(150,Z4v),(66,Z2T),(109,Z2l)]
def Zij:Zi U:=fun i=> match i with
 | 0=> ([(2,[]),(3,[]),(4,[])],[(.loc 2,[]),(.loc 3,[]),(.loc 4,[])])
 | 1=> ([(2,[]),(3,[]),(4,[]),(16,[])],[(.loc 2,[]),(.loc 3,[]),(.loc 4,[])])
 | 2=> ([(4,[]),(5,[])],[(.loc 4,[])])
 | 3=> ([(2,[]),(3,[]),(4,[]),(6,[])],[(.loc 2,[]),(.loc 3,[]),(.loc 4,[]),(.loc 6,[.any,.wr .u64,.wr .tree])])
 | 4=> ([(2,[]),(3,[]),(4,[]),(6,[]),(26,[]),(27,[]),(28,[])],[(.loc 2,[]),(.loc 3,[]),(.loc 4,[]),(.loc 6,[.any,.wr .u64,.wr .tree])])
 | 5=> ([(2,[]),(3,[]),(4,[]),(6,[]),(26,[]),(27,[]),(28,[]),(29,[])],[(.loc 2,[]),(.loc 3,[]),(.loc 4,[]),(.loc 6,[.any,.wr .u64,.wr .tree])])
 | 6=> ([(2,[]),(3,[]),(4,[]),(6,[]),(8,[]),(26,[]),(27,[]),(28,[])],[(.loc 2,[]),(.loc 3,[]),(.loc 4,[]),(.loc 6,[.any,.wr .u64,.wr .tree]),(.loc 8,[])])
 | 7=> ([(2,[]),(3,[]),(4,[]),(6,[]),(8,[]),(9,[]),(26,[]),(27,[]),(28,[])],[(.loc 2,[]),(.loc 3,[]),(.loc 4,[]),(.loc 6,[.any,.wr .u64,.wr .tree]),(.loc 8,[])])
 | 8=> ([(2,[]),(3,[]),(4,[]),(6,[]),(8,[]),(9,[]),(26,[]),(27,[]),(28,[]),(42,[])],[(.loc 2,[]),(.loc 3,[]),(.loc 4,[]),(.loc 6,[.any,.wr .u64,.wr .tree]),(.loc 8,[])])
 | 9=> ([(4,[]),(5,[])],[(.loc 4,[])])
 | 10=> ([(2,[]),(3,[]),(4,[]),(6,[]),(8,[]),(9,[]),(26,[]),(27,[]),(28,[]),(42,[]),(49,[])],[(.loc 2,[]),(.loc 3,[]),(.loc 4,[]),(.loc 6,[.any,.wr .u64,.wr .tree]),(.loc 8,[])])
 | 11=> ([(2,[]),(3,[]),(4,[]),(6,[]),(8,[]),(9,[]),(26,[]),(27,[]),(28,[]),(42,[])],[(.loc 2,[]),(.loc 3,[]),(.loc 4,[]),(.loc 6,[.any,.wr .u64,.wr .tree]),(.loc 8,[])])
 | 12=> ([(2,[]),(3,[]),(4,[]),(6,[]),(26,[]),(27,[]),(28,[])],[(.loc 2,[]),(.loc 3,[]),(.loc 4,[]),(.loc 6,[.any,.wr .u64,.wr .tree])])
 | 13=> ([(2,[]),(3,[]),(4,[]),(6,[]),(26,[]),(27,[]),(28,[])],[(.loc 2,[]),(.loc 3,[]),(.loc 4,[]),(.loc 6,[.any,.wr .u64,.wr .tree])])
 | 14=> ([(3,[]),(4,[]),(6,[]),(68,[]),(69,[]),(70,[])],[(.loc 3,[]),(.loc 4,[]),(.loc 6,[.any,.wr .u64,.wr .tree])])
 | 15=> ([(3,[]),(4,[]),(6,[]),(68,[]),(69,[]),(70,[]),(71,[])],[(.loc 3,[]),(.loc 4,[]),(.loc 6,[.any,.wr .u64,.wr .tree])])
 | 16=> ([(3,[]),(4,[]),(6,[]),(11,[]),(68,[]),(69,[]),(70,[])],[(.loc 3,[]),(.loc 4,[]),(.loc 6,[.any,.wr .u64,.wr .tree]),(.loc 11,[])])
 | 17=> ([(3,[]),(4,[]),(6,[]),(11,[]),(12,[]),(13,[]),(68,[]),(69,[]),(70,[])],[(.loc 3,[]),(.loc 4,[]),(.loc 6,[.any,.wr .u64,.wr .tree]),(.loc 11,[]),(.loc 12,[])])
 | 18=> ([(3,[]),(4,[]),(6,[]),(11,[]),(12,[]),(68,[]),(69,[]),(70,[]),(85,[])],[(.loc 3,[]),(.loc 4,[]),(.loc 6,[.any,.wr .u64,.wr .tree]),(.loc 11,[]),(.loc 12,[])])
 | 19=> ([(4,[]),(5,[])],[(.loc 4,[])])
 | 20=> ([(3,[]),(4,[]),(6,[]),(11,[]),(12,[]),(68,[]),(69,[]),(70,[]),(85,[]),(92,[])],[(.loc 3,[]),(.loc 4,[]),(.loc 6,[.any,.wr .u64,.wr .tree]),(.loc 11,[]),(.loc 12,[])])
 | 21=> ([(3,[]),(4,[]),(6,[]),(11,[]),(12,[]),(68,[]),(69,[]),(70,[]),(85,[])],[(.loc 3,[]),(.loc 4,[]),(.loc 6,[.any,.wr .u64,.wr .tree]),(.loc 11,[]),(.loc 12,[])])
 | 22=> ([(3,[]),(4,[]),(6,[]),(68,[]),(69,[]),(70,[])],[(.loc 3,[]),(.loc 4,[]),(.loc 6,[.any,.wr .u64,.wr .tree])])
 | 23=> ([(3,[]),(4,[]),(6,[]),(68,[]),(69,[]),(70,[])],[(.loc 3,[]),(.loc 4,[]),(.loc 6,[.any,.wr .u64,.wr .tree])])
 | 24=> ([(4,[]),(5,[])],[(.loc 4,[])])
 | _=> ([],[])
def Z4X(e:Edit)(t:Tree)(x28:Int)(rl_6_1:List Int):LSt U:=(⟨[(2,.ptr (.loc 2) 0),(3,.ptr (.loc 3) 0),(4,.ptr (.loc 4) 0),(6,.ptr (.loc 6) 0),(26,.c (sU .wedit e.words .unk)),(27,.c (ci (e.words.length:Int))),(28,.c (ci x28))],[(.loc 2,(enc .edit e)),(.loc 3,(enc .tree t)),(.loc 4,[ci 0,.nils,.nils]),(.loc 6,[ci 1,.mref (.l 6 1),.mref (.l 6 2)])],[(.l 6 1,LC.mk (U:=U) .u64 rl_6_1 0),(.l 6 2,LC.mk (U:=U) .tree t.kids 0)]⟩:LSt U)
def Z4W(e:Edit)(t:Tree)(x28:Int)(rl_6_1_a:List Int):LSt U:=(⟨[(2,.ptr (.loc 2) 0),(3,.ptr (.loc 3) 0),(4,.ptr (.loc 4) 0),(6,.ptr (.loc 6) 0),(8,.ptr (.loc 8) 0),(9,.c (.int .u64 (YX (Tree.mk t.kind t.words t.kids) (WEdit.at_ (e.words.getD x28.toNat (WEdit.mk 0 0 0 0)))))),(26,.c (sU .wedit e.words .unk)),(27,.c (ci (e.words.length:Int))),(28,.c (ci x28)),(42,.c (.bool (((mix 0 (YX (Tree.mk t.kind t.words t.kids) (WEdit.at_ (e.words.getD x28.toNat (WEdit.mk 0 0 0 0)))) (WEdit.mask (e.words.getD x28.toNat (WEdit.mk 0 0 0 0)))):Int) !=(WEdit.old (e.words.getD x28.toNat (WEdit.mk 0 0 0 0))))))],[(.loc 2,(enc .edit e)),(.loc 3,(enc .tree t)),(.loc 4,[ci 0,.nils,.nils]),(.loc 6,[ci 1,.mref (.l 6 1),.mref (.l 6 2)]),(.loc 8,(enc .wedit (e.words.getD x28.toNat (WEdit.mk 0 0 0 0))))],[(.l 6 1,LC.mk (U:=U) .u64 rl_6_1_a 0),(.l 6 2,LC.mk (U:=U) .tree t.kids 0)]⟩:LSt U)
def Z4V(e:Edit)(t:Tree)(rl_6_1:List Int)(x70_b:Int)(rl_6_2_b:List Tree):LSt U:=(⟨[(3,.ptr (.loc 3) 0),(4,.ptr (.loc 4) 0),(6,.ptr (.loc 6) 0),(68,.c (sU .kid e.kids .unk)),(69,.c (ci (e.kids.length:Int))),(70,.c (ci x70_b))],[(.loc 3,(enc .tree t)),(.loc 4,[ci 0,.nils,.nils]),(.loc 6,[ci 1,.mref (.l 6 1),.mref (.l 6 2)])],[(.l 6 1,LC.mk (U:=U) .u64 rl_6_1 0),(.l 6 2,LC.mk (U:=U) .tree rl_6_2_b 0)]⟩:LSt U)
def Z4U(e:Edit)(t:Tree)(rl_6_1:List Int)(x70_b:Int)(rl_6_2_c:List Tree):LSt U:=(⟨[(3,.ptr (.loc 3) 0),(4,.ptr (.loc 4) 0),(6,.ptr (.loc 6) 0),(11,.ptr (.loc 11) 0),(12,.ptr (.loc 12) 0),(68,.c (sU .kid e.kids .unk)),(69,.c (ci (e.kids.length:Int))),(70,.c (ci x70_b)),(85,.c (.bool (!((doE false (Edit.mk (Edit.kind (KidOf.e (e.kids.getD x70_b.toNat (KidOf.mk 0 Edit.nil)))) (Tree.mk (Tree.kind (Edit.old (KidOf.e (e.kids.getD x70_b.toNat (KidOf.mk 0 Edit.nil))))) (Tree.words (Edit.old (KidOf.e (e.kids.getD x70_b.toNat (KidOf.mk 0 Edit.nil))))) (Tree.kids (Edit.old (KidOf.e (e.kids.getD x70_b.toNat (KidOf.mk 0 Edit.nil)))))) (Tree.mk (Tree.kind (Edit.new (KidOf.e (e.kids.getD x70_b.toNat (KidOf.mk 0 Edit.nil))))) (Tree.words (Edit.new (KidOf.e (e.kids.getD x70_b.toNat (KidOf.mk 0 Edit.nil))))) (Tree.kids (Edit.new (KidOf.e (e.kids.getD x70_b.toNat (KidOf.mk 0 Edit.nil)))))) (Edit.words (KidOf.e (e.kids.getD x70_b.toNat (KidOf.mk 0 Edit.nil)))) (Edit.kids (KidOf.e (e.kids.getD x70_b.toNat (KidOf.mk 0 Edit.nil)))) (Edit.list (KidOf.e (e.kids.getD x70_b.toNat (KidOf.mk 0 Edit.nil)))) (Edit.ops (KidOf.e (e.kids.getD x70_b.toNat (KidOf.mk 0 Edit.nil))))) (Tree.mk (Tree.kind (YI (Tree.mk t.kind t.words t.kids) (KidOf.at_ (e.kids.getD x70_b.toNat (KidOf.mk 0 Edit.nil))))) (Tree.words (YI (Tree.mk t.kind t.words t.kids) (KidOf.at_ (e.kids.getD x70_b.toNat (KidOf.mk 0 Edit.nil))))) (Tree.kids (YI (Tree.mk t.kind t.words t.kids) (KidOf.at_ (e.kids.getD x70_b.toNat (KidOf.mk 0 Edit.nil))))))).isSome))))],[(.loc 3,(enc .tree t)),(.loc 4,[ci 0,.nils,.nils]),(.loc 6,[ci 1,.mref (.l 6 1),.mref (.l 6 2)]),(.loc 11,(enc .kid (e.kids.getD x70_b.toNat (KidOf.mk 0 Edit.nil)))),(.loc 12,(enc .tree (Z93 (Edit.mk (Edit.kind (KidOf.e (e.kids.getD x70_b.toNat (KidOf.mk 0 Edit.nil)))) (Tree.mk (Tree.kind (Edit.old (KidOf.e (e.kids.getD x70_b.toNat (KidOf.mk 0 Edit.nil))))) (Tree.words (Edit.old (KidOf.e (e.kids.getD x70_b.toNat (KidOf.mk 0 Edit.nil))))) (Tree.kids (Edit.old (KidOf.e (e.kids.getD x70_b.toNat (KidOf.mk 0 Edit.nil)))))) (Tree.mk (Tree.kind (Edit.new (KidOf.e (e.kids.getD x70_b.toNat (KidOf.mk 0 Edit.nil))))) (Tree.words (Edit.new (KidOf.e (e.kids.getD x70_b.toNat (KidOf.mk 0 Edit.nil))))) (Tree.kids (Edit.new (KidOf.e (e.kids.getD x70_b.toNat (KidOf.mk 0 Edit.nil)))))) (Edit.words (KidOf.e (e.kids.getD x70_b.toNat (KidOf.mk 0 Edit.nil)))) (Edit.kids (KidOf.e (e.kids.getD x70_b.toNat (KidOf.mk 0 Edit.nil)))) (Edit.list (KidOf.e (e.kids.getD x70_b.toNat (KidOf.mk 0 Edit.nil)))) (Edit.ops (KidOf.e (e.kids.getD x70_b.toNat (KidOf.mk 0 Edit.nil))))) (Tree.mk (Tree.kind (YI (Tree.mk t.kind t.words t.kids) (KidOf.at_ (e.kids.getD x70_b.toNat (KidOf.mk 0 Edit.nil))))) (Tree.words (YI (Tree.mk t.kind t.words t.kids) (KidOf.at_ (e.kids.getD x70_b.toNat (KidOf.mk 0 Edit.nil))))) (Tree.kids (YI (Tree.mk t.kind t.words t.kids) (KidOf.at_ (e.kids.getD x70_b.toNat (KidOf.mk 0 Edit.nil)))))))))],[(.l 6 1,LC.mk (U:=U) .u64 rl_6_1 0),(.l 6 2,LC.mk (U:=U) .tree rl_6_2_c 0)]⟩:LSt U)
abbrev ZdK(N:Nat)(p:List Nat):=AW (Z0 (Zde N)) Try.f107 Zij p
abbrev Z59(N:Nat)(p:List Nat):=SW (Z0 (Zde N)) Try.f107 Zij p
theorem Zvk(N:Nat)(e:Edit)(t:Tree)(Q:QT)(h:(((t.kind !=1)=true→(Q .ret (L2 [(4,.ptr (.loc 4) 0),(5,.c (.bool false))] [(.loc 4,[ci 0,.nils,.nils])])))∧((t.kind !=1)=false→(Z6n (t.words,()))∧(Zap (t.kids,()))∧(Zh (ZdK N [1,1,1,0,1,0,0]) (Z4X e t 0 t.words) (xB 0 (Z59 N [1,1,1,1] Q)))))):
  ZdK N [] (L2 [(0,.agg (enc .edit e)),(1,.agg (enc .tree t))] []) Q:=
 Eq.mpr (by kernel_rfl) h
theorem Zlh(N:Nat)(e:Edit)(t:Tree)(x28:Int)(rl_6_1:List Int)(N0:NT)(Q:QT)(h:∀ y_1,y_1=t→∀ y_2,y_2=(e.words.getD x28.toNat (WEdit.mk 0 0 0 0))→let z1:=decide (x28 < (e.words.length:Int));let z0:=((mix 0 (YX y_1 y_2.at_) y_2.mask):Int) !=y_2.old;((z1=true→((0:Int)≤x28∧x28 < (e.words.length:Int))∧((Z7B (y_1,y_2.at_,()))∧((Z3U (0,(YX y_1 y_2.at_),y_2.mask,()))∧((z0=true→(Q .ret (L2 [(4,.ptr (.loc 4) 0),(5,.c (.bool false))] [(.loc 4,[ci 0,.nils,.nils])])))∧(z0=false→Zh (ZdK N [1,1,1,0,1,0,0,1,1,0,0,1,1,1,0,0,0]) (Z4W e t x28 rl_6_1) (xB 2 (Z59 N [1,1,1,0,1,0,0,1,1,0,0,1,1,1,1] (xB 1 (Z59 N [1,1,1,0,1,0,0,1,1,1] (xT N0 (xB 0 (Z59 N [1,1,1,1] Q))))))))))))∧(z1=false→(Zh (ZdK N [1,1,1,1,0,1,0,0]) (Z4V e t rl_6_1 0 t.kids) (xB 4 (Z59 N [1,1,1,1,1] Q)))))):
  ZdK N [1,1,1,0,1,0,0] (Z4X e t x28 rl_6_1) (xT N0 (xB 0 (Z59 N [1,1,1,1] Q))):=
 Eq.mpr (by kernel_rfl) (h _ (Zc _) _ rfl)
theorem Zlg(N:Nat)(e:Edit)(t:Tree)(x28:Int)(rl_6_1_a:List Int)(N1 N0:NT)(Q:QT)(h:let z0:=e.words.getD x28.toNat (WEdit.mk 0 0 0 0);let z2:=YX (Tree.mk t.kind t.words t.kids) (WEdit.at_ z0);let z1:=decide (((rl_6_1_a.length:Int):Int)≤(WEdit.at_ z0));((z1=true→((rl_6_1_a.length+([0]).length)*8≤140737488355328)∧(N1 (Z4W e t x28 (rl_6_1_a++([0])))))∧(z1=false→(Z3U (z2,(WEdit.new z0),(WEdit.mask z0),()))∧((0:Int)≤(WEdit.at_ z0)∧(WEdit.at_ z0) < (rl_6_1_a.length:Int))∧((0:Nat)≤(Int.toNat (WEdit.at_ z0)))∧((InR (x28+1))∧(N0 (Z4X e t (x28+1) (List.set rl_6_1_a (Int.toNat (WEdit.at_ z0)) (mix z2 (WEdit.new z0) (WEdit.mask z0))))))))):
  ZdK N [1,1,1,0,1,0,0,1,1,0,0,1,1,1,0,0,0] (Z4W e t x28 rl_6_1_a) (xT N1 (xB 2 (Z59 N [1,1,1,0,1,0,0,1,1,0,0,1,1,1,1] (xB 1 (Z59 N [1,1,1,0,1,0,0,1,1,1] (xT N0 (xB 0 (Z59 N [1,1,1,1] Q)))))))):=
 Eq.mpr (by kernel_rfl) h
theorem Zlf(N:Nat)(e:Edit)(t:Tree)(rl_6_1:List Int)(x70_b:Int)(rl_6_2_b:List Tree)(N2:NT)(Q:QT)(h:∀ y_1,y_1=t→∀ y_2,y_2=(e.kids.getD x70_b.toNat (KidOf.mk 0 Edit.nil))→∀ y_3,y_3=(y_2.e)→∀ y_4,y_4=(YI y_1 y_2.at_)→let z1:= !((doE false y_3 y_4).isSome);let z0:=decide (x70_b < (e.kids.length:Int));((z0=true→((0:Int)≤x70_b∧x70_b < (e.kids.length:Int))∧((Z8t (y_1,y_2.at_,()))∧(Z2p (y_3,y_4,()))∧(Zbp (y_3,y_4,()) < N)∧((z1=true→(Q .ret (L2 [(4,.ptr (.loc 4) 0),(5,.c (.bool false))] [(.loc 4,[ci 0,.nils,.nils])])))∧(z1=false→Zh (ZdK N [1,1,1,1,0,1,0,0,1,1,0,0,1,1,1,0,0,0]) (Z4U e t rl_6_1 x70_b rl_6_2_b) (xB 6 (Z59 N [1,1,1,1,0,1,0,0,1,1,0,0,1,1,1,1] (xB 5 (Z59 N [1,1,1,1,0,1,0,0,1,1,1] (xT N2 (xB 4 (Z59 N [1,1,1,1,1] Q)))))))))))∧(z0=false→(Q .ret (L2 [(4,.ptr (.loc 4) 0),(5,.c (.bool true))] [(.loc 4,[ci 1,sU .u64 rl_6_1 (.own (.l 4 1)),sU .tree rl_6_2_b (.own (.l 4 2))])]))))):
  ZdK N [1,1,1,1,0,1,0,0] (Z4V e t rl_6_1 x70_b rl_6_2_b) (xT N2 (xB 4 (Z59 N [1,1,1,1,1] Q))):=
 Eq.mpr (by kernel_rfl) (h _ (Zc _) _ rfl _ (Ze _) _ (Zc _))
theorem Zle(N:Nat)(e:Edit)(t:Tree)(rl_6_1:List Int)(x70_b:Int)(rl_6_2_c:List Tree)(N3 N2:NT)(Q:QT)(h:∀ y_1,y_1=t→∀ y_2,y_2=(e.kids.getD x70_b.toNat (KidOf.mk 0 Edit.nil))→∀ y_3,y_3=(y_2.e)→∀ y_4,y_4=(YI y_1 y_2.at_)→∀ y_5,y_5=(Z93 y_3 y_4)→let z0:=decide (((rl_6_2_c.length:Int):Int)≤y_2.at_);((z0=true→((rl_6_2_c.length+([(Tree.mk 0 [] [])]).length)*56≤140737488355328)∧(N3 (Z4U e t rl_6_1 x70_b (rl_6_2_c++([(Tree.mk 0 [] [])])))))∧(z0=false→((0:Int)≤y_2.at_∧y_2.at_ < (rl_6_2_c.length:Int))∧((0:Nat)≤(Int.toNat y_2.at_))∧((InR (x70_b+1))∧(N2 (Z4V e t rl_6_1 (x70_b+1) (List.set rl_6_2_c (Int.toNat y_2.at_) y_5))))))):
  ZdK N [1,1,1,1,0,1,0,0,1,1,0,0,1,1,1,0,0,0] (Z4U e t rl_6_1 x70_b rl_6_2_c) (xT N3 (xB 6 (Z59 N [1,1,1,1,0,1,0,0,1,1,0,0,1,1,1,1] (xB 5 (Z59 N [1,1,1,1,0,1,0,0,1,1,1] (xT N2 (xB 4 (Z59 N [1,1,1,1,1] Q)))))))):=
 Eq.mpr (by kernel_rfl) (h _ (Zc _) _ rfl _ (Ze _) _ (Zc _) _ (Zc _))
def Zr1(N:Nat)(e:Edit)(t:Tree):Prop:=AW (Z0 (Zde N)) Try.f107 Zij [] (Zm (Z54.can (e,t,())) []) (EQ Try.f107 (Z35 (e,t,())) [])
abbrev ZrM:Prop:=∀ (N:Nat) (e:Edit) (t:Tree) (_:Unit),Z3c (e,t,())→Z8E (e,t,()) < N+1→Zr1 N e t
def Zdd(N:Nat):List (FuncId × Fs U):=(70,fs Z8a (fun a=> [Z2p a,Zbp a < N]) Z3Q) ::(107,fs Z54 (fun a=> [Z3c a,Z8E a < N]) Z35) ::(108,fs Z53 (fun a=> [Z3b a,Z8D a < N]) Z34) ::[(106,Z0O),(149,Z0M),(91,Z0D),(151,Z4u),(150,Z4v),(66,Z2T),(109,Z2l)]
def Zii:Zi U:=fun i=> match i with
 | 0=> ([(2,[]),(3,[]),(4,[])],[(.loc 2,[]),(.loc 3,[]),(.loc 4,[])])
 | 1=> ([(2,[]),(3,[]),(4,[]),(18,[])],[(.loc 2,[]),(.loc 3,[]),(.loc 4,[])])
 | 2=> ([(4,[]),(5,[])],[(.loc 4,[])])
 | 3=> ([(2,[]),(3,[]),(4,[]),(6,[])],[(.loc 2,[]),(.loc 3,[]),(.loc 4,[]),(.loc 6,[])])
 | 4=> ([(2,[]),(4,[]),(6,[]),(7,[])],[(.loc 2,[]),(.loc 4,[]),(.loc 6,[])])
 | 5=> ([(4,[]),(6,[]),(7,[]),(26,[]),(27,[]),(28,[])],[(.loc 4,[]),(.loc 6,[.any,.any,.own .tree])])
 | 6=> ([(4,[]),(6,[]),(7,[]),(26,[]),(27,[]),(28,[]),(29,[])],[(.loc 4,[]),(.loc 6,[])])
 | 7=> ([(4,[]),(6,[]),(7,[]),(9,[]),(26,[]),(27,[]),(28,[])],[(.loc 4,[]),(.loc 6,[]),(.loc 9,[])])
 | 8=> ([(4,[]),(6,[]),(7,[]),(9,[]),(10,[]),(26,[]),(27,[]),(28,[])],[(.loc 4,[]),(.loc 6,[]),(.loc 9,[])])
 | 9=> ([(4,[]),(6,[]),(7,[]),(9,[]),(10,[]),(26,[]),(27,[]),(28,[]),(35,[])],[(.loc 4,[]),(.loc 6,[]),(.loc 9,[])])
 | 10=> ([(4,[]),(6,[]),(7,[]),(9,[]),(10,[]),(26,[]),(27,[]),(28,[]),(35,[]),(36,[])],[(.loc 4,[]),(.loc 6,[]),(.loc 9,[])])
 | 11=> ([(4,[]),(6,[]),(7,[]),(26,[]),(27,[]),(28,[]),(97,[])],[(.loc 4,[]),(.loc 6,[])])
 | 12=> ([(4,[]),(6,[]),(7,[]),(9,[]),(10,[]),(26,[]),(27,[]),(28,[]),(35,[]),(44,[])],[(.loc 4,[]),(.loc 6,[]),(.loc 9,[])])
 | 13=> ([(4,[]),(6,[]),(7,[]),(9,[]),(10,[]),(26,[]),(27,[]),(28,[]),(49,[])],[(.loc 4,[]),(.loc 6,[]),(.loc 9,[])])
 | 14=> ([(4,[]),(6,[]),(7,[]),(9,[]),(10,[]),(26,[]),(27,[]),(28,[]),(49,[])],[(.loc 4,[]),(.loc 6,[]),(.loc 9,[])])
 | 15=> ([(4,[]),(6,[]),(7,[]),(9,[]),(10,[]),(26,[]),(27,[]),(28,[]),(49,[])],[(.loc 4,[]),(.loc 6,[]),(.loc 9,[])])
 | 16=> ([(4,[]),(6,[]),(7,[]),(9,[]),(10,[]),(26,[]),(27,[]),(28,[]),(54,[])],[(.loc 4,[]),(.loc 6,[]),(.loc 9,[])])
 | 17=> ([(4,[]),(5,[])],[(.loc 4,[])])
 | 18=> ([(4,[]),(6,[]),(7,[]),(9,[]),(10,[]),(26,[]),(27,[]),(28,[])],[(.loc 4,[]),(.loc 6,[]),(.loc 9,[])])
 | 19=> ([(4,[]),(6,[]),(7,[]),(9,[]),(11,[]),(26,[]),(27,[]),(28,[])],[(.loc 4,[]),(.loc 6,[]),(.loc 9,[])])
 | 20=> ([(4,[]),(6,[]),(7,[]),(12,[]),(13,[]),(26,[]),(27,[]),(28,[])],[(.loc 4,[]),(.loc 6,[]),(.loc 12,[])])
 | 21=> ([(4,[]),(6,[]),(7,[]),(12,[]),(26,[]),(27,[]),(28,[]),(72,[])],[(.loc 4,[]),(.loc 6,[]),(.loc 12,[])])
 | 22=> ([(4,[]),(5,[])],[(.loc 4,[])])
 | 23=> ([(4,[]),(6,[]),(7,[]),(26,[]),(27,[]),(28,[]),(97,[])],[(.loc 4,[]),(.loc 6,[])])
 | 24=> ([(4,[]),(6,[]),(7,[]),(9,[]),(11,[]),(26,[]),(27,[]),(28,[]),(80,[])],[(.loc 4,[]),(.loc 6,[]),(.loc 9,[])])
 | 25=> ([(4,[]),(6,[]),(7,[]),(26,[]),(27,[]),(28,[]),(97,[])],[(.loc 4,[]),(.loc 6,[])])
 | 26=> ([(4,[]),(6,[]),(7,[]),(9,[]),(11,[]),(26,[]),(27,[]),(28,[]),(89,[])],[(.loc 4,[]),(.loc 6,[]),(.loc 9,[])])
 | 27=> ([(4,[]),(6,[]),(7,[]),(26,[]),(27,[]),(28,[]),(97,[])],[(.loc 4,[]),(.loc 6,[])])
 | 28=> ([(4,[]),(5,[])],[(.loc 4,[])])
 | 29=> ([(4,[]),(6,[]),(7,[]),(26,[]),(27,[]),(28,[])],[(.loc 4,[]),(.loc 6,[.any,.any,.own .tree])])
 | 30=> ([(4,[]),(5,[])],[(.loc 4,[])])
 | _=> ([],[])
def Z0c(e:Edit)(t:Tree)(x28:Int)(x7 ml6_2:List Tree):LSt U:=(L2 [(4,.ptr (.loc 4) 0),(6,.ptr (.loc 6) 0),(7,.c (sU .tree x7 .unk)),(26,.c (sU .op e.ops .unk)),(27,.c (ci (e.ops.length:Int))),(28,.c (ci x28))] [(.loc 4,[ci 0,.nils,.nils]),(.loc 6,[ci t.kind,.nils,sU .tree ml6_2 (.own (.l 6 2))])])
def Z1i(e:Edit)(t:Tree)(x28:Int)(x7_a ml6_2_a:List Tree)(v97_a:V U):LSt U:=(L2 [(4,.ptr (.loc 4) 0),(6,.ptr (.loc 6) 0),(7,.c (sU .tree x7_a .unk)),(26,.c (sU .op e.ops .unk)),(27,.c (ci (e.ops.length:Int))),(28,.c (ci x28)),(97,v97_a)] [(.loc 4,[ci 0,.nils,.nils]),(.loc 6,[ci t.kind,.nils,sU .tree ml6_2_a (.own (.l 6 2))])])
def Z4T(e:Edit)(t:Tree)(x28:Int)(x7 ml6_2:List Tree)(x10_b:Int)(v49_b:V U):LSt U:=(L2 [(4,.ptr (.loc 4) 0),(6,.ptr (.loc 6) 0),(7,.c (sU .tree x7 .unk)),(9,.ptr (.loc 9) 0),(10,.c (ci x10_b)),(26,.c (sU .op e.ops .unk)),(27,.c (ci (e.ops.length:Int))),(28,.c (ci x28)),(49,v49_b)] [(.loc 4,[ci 0,.nils,.nils]),(.loc 6,[ci t.kind,.nils,sU .tree ml6_2 (.own (.l 6 2))]),(.loc 9,(enc .op (e.ops.getD x28.toNat Op.nil)))])
abbrev Z8c(N:Nat)(p:List Nat):=AW (Z0 (Zdd N)) Try.f108 Zii p
abbrev ZdH(N:Nat)(p:List Nat):=SW (Z0 (Zdd N)) Try.f108 Zii p
theorem Zvj(N:Nat)(e:Edit)(t:Tree)(Q:QT)(h:(((t.kind !=e.list)=true→(Q .ret (L2 [(4,.ptr (.loc 4) 0),(5,.c (.bool false))] [(.loc 4,[ci 0,.nils,.nils])])))∧((t.kind !=e.list)=false→(Zh (Z8c N [1,1,1,1,0,1,0,0]) (Z0c e t 0 t.kids []) (xB 0 (ZdH N [1,1,1,1,1] Q)))))):
  Z8c N [] (L2 [(0,.agg (enc .edit e)),(1,.agg (enc .tree t))] []) Q:=
 Eq.mpr (by kernel_rfl) h
theorem Zlc(N:Nat)(e:Edit)(t:Tree)(x28:Int)(x7 ml6_2:List Tree)(N0:NT)(Q:QT)(h:∀ y_1,y_1=(e.ops.getD x28.toNat Op.nil)→let z2:=decide (x28 < (e.ops.length:Int));let z1:=xT N0 (xB 0 (ZdH N [1,1,1,1,1] Q));let z0:=xB 1 (ZdH N [1,1,1,1,0,1,0,0,1,1,1] z1);((z2=true→((0:Int)≤x28∧x28 < (e.ops.length:Int))∧(((y_1.kind==2)=true→((ml6_2.length+y_1.l.length)*56≤140737488355328)∧(Z8c N [1,1,1,1,0,1,0,0,1,1,1] (Z1i e t x28 x7 (ml6_2++y_1.l) .junk) z1))∧((y_1.kind==2)=false→(((y_1.kind==1)=true→(Z8c N [1,1,1,1,0,1,0,0,1,1,0,0,1,1,1] (Z4T e t x28 x7 ml6_2 (y_1.l.length:Int) .junk) z0))∧((y_1.kind==1)=false→(((y_1.kind==3)=true→(Z8c N [1,1,1,1,0,1,0,0,1,1,0,0,1,1,1] (Z4T e t x28 x7 ml6_2 1 (.c (.bool (y_1.kind==3)))) z0))∧((y_1.kind==3)=false→Z8c N [1,1,1,1,0,1,0,0,1,1,0,0,1,1,1] (Z4T e t x28 x7 ml6_2 y_1.n (.c (.bool (y_1.kind==3)))) z0)))))))∧(z2=false→(Q .ret (L2 [(4,.ptr (.loc 4) 0),(5,.c (.bool (((x7.length:Int):Int)==0)))] [(.loc 4,[ci t.kind,.nils,sU .tree ml6_2 (.own (.l 4 2))])]))))):
  Z8c N [1,1,1,1,0,1,0,0] (Z0c e t x28 x7 ml6_2) (xT N0 (xB 0 (ZdH N [1,1,1,1,1] Q))):=
 Eq.mpr (by kernel_rfl) (h _ rfl)
theorem Zld(N:Nat)(e:Edit)(t:Tree)(x28:Int)(x7_a ml6_2_a:List Tree)(v97_a:V U)(N0:NT)(Q:QT)(h:(InR (x28+1))∧(N0 (Z0c e t (x28+1) x7_a ml6_2_a))):
  Z8c N [1,1,1,1,0,1,0,0,1,1,1] (Z1i e t x28 x7_a ml6_2_a v97_a) (xT N0 (xB 0 (ZdH N [1,1,1,1,1] Q))):=
 Eq.mpr (by kernel_rfl) h
theorem Z9t(N:Nat)(e:Edit)(t:Tree)(x28:Int)(x7 ml6_2:List Tree)(x10_b:Int)(v49_b:V U)(N0:NT)(Q:QT)(h:∀ y_1,y_1=(e.ops.getD x28.toNat Op.nil)→∀ y_2,y_2=(List.getD (List.take x10_b.toNat x7) (Int.toNat 0) Tree.nil)→∀ y_3,y_3=y_2→∀ y_4,y_4=(y_1.e)→∀ y_5,y_5=(eqX (Z5 y_1.l) (Z5 (List.take x10_b.toNat x7)))→∀ y_6,y_6=(Z93 y_4 y_3)→let z5:= !((doE false y_4 y_3).isSome);let z4:=decide (((x7.length:Int):Int) < x10_b);let z3:=List.drop x10_b.toNat x7;let z2:=List.take x10_b.toNat x7;let z1:=xT N0 (xB 0 (ZdH N [1,1,1,1,1] Q));let z0:=Q .ret (L2 [(4,.ptr (.loc 4) 0),(5,.c (.bool false))] [(.loc 4,[ci 0,.nils,.nils])]);((z4=true→z0)∧(z4=false→(((0:Int)≤x10_b∧x10_b≤(x7.length:Int))∧((0:Int)≤x10_b∧x10_b≤(x7.length:Int))∧(((y_1.kind==0)=true→((ml6_2.length+z2.length)*56≤140737488355328)∧(Z8c N [1,1,1,1,0,1,0,0,1,1,1] (Z1i e t x28 z3 (ml6_2++z2) .junk) z1))∧((y_1.kind==0)=false→(((y_1.kind==1)=true→(Zao (y_1.l,z2,(),()))∧(((!y_5)=true→z0)∧((!y_5)=false→Z8c N [1,1,1,1,0,1,0,0,1,1,1] (Z1i e t x28 z3 ml6_2 (.c (.bool (!y_5)))) z1)))∧((y_1.kind==1)=false→((0:Int)≤0∧0 < (z2.length:Int))∧(Z2p (y_4,y_3,()))∧(Zbp (y_4,y_3,()) < N)∧((z5=true→z0)∧(z5=false→((ml6_2.length+([y_6]).length)*56≤140737488355328)∧(Z8c N [1,1,1,1,0,1,0,0,1,1,1] (Z1i e t x28 z3 (ml6_2++([y_6])) .junk) z1))))))))))):
  Z8c N [1,1,1,1,0,1,0,0,1,1,0,0,1,1,1] (Z4T e t x28 x7 ml6_2 x10_b v49_b) (xB 1 (ZdH N [1,1,1,1,0,1,0,0,1,1,1] (xT N0 (xB 0 (ZdH N [1,1,1,1,1] Q))))):=
 Eq.mpr (by kernel_rfl) (h _ rfl _ rfl _ (Zc _) _ (Ze _) _ rfl _ (Zc _))
def Zr0(N:Nat)(e:Edit)(t:Tree):Prop:=AW (Z0 (Zdd N)) Try.f108 Zii [] (Zm (Z53.can (e,t,())) []) (EQ Try.f108 (Z34 (e,t,())) [])
abbrev ZrL:Prop:=∀ (N:Nat) (e:Edit) (t:Tree) (_:Unit),Z3b (e,t,())→Z8D (e,t,()) < N+1→Zr0 N e t
theorem Zpg(ZkC:CT 106 Z0O)(Zkz:CT 149 Z0M)(c91:CT 91 Z0D)(Ztw:CT 151 Z4u)(Ztx:CT 150 Z4v)(c66:CT 66 Z2T)(Znw:CT 109 Z2l)(b70:Zwa)(ZtP:ZrM)(ZtO:ZrL):
  CT 70 Z7r∧CT 107 Zhv∧CT 108 Zhu:=by
 have h82 : ∃ fn, Try.prog.funcs[(70 : FuncId)]? = some fn ∧ fn.body.isSome = true ∧ (fn.name == "runtime.NumGoroutine") = false := ⟨Try.f70, Try.func70, rfl, rfl⟩
 have h113 : ∃ fn, Try.prog.funcs[(107 : FuncId)]? = some fn ∧ fn.body.isSome = true ∧ (fn.name == "runtime.NumGoroutine") = false := ⟨Try.f107, Try.func107, rfl, rfl⟩
 have h114 : ∃ fn, Try.prog.funcs[(108 : FuncId)]? = some fn ∧ fn.body.isSome = true ∧ (fn.name == "runtime.NumGoroutine") = false := ⟨Try.f108, Try.func108, rfl, rfl⟩
 have key:∀ N,CT 70 (fs Z8a (fun a=> [Z2p a,Zbp a < N]) Z3Q)∧CT 107 (fs Z54 (fun a=> [Z3c a,Z8E a < N]) Z35)∧CT 108 (fs Z53 (fun a=> [Z3b a,Z8D a < N]) Z34):=by
  intro N
  induction N with
  | zero=> exact ⟨Z0X h82,Z0X h113,Z0X h114⟩
  | succ N ih=>
   have kn:=JS (l:=Z80 N) ⟨ih.1,ih.2.1,ih.2.2,ZkC,Zkz,c91,Ztw,Ztx,c66,Znw,trivial⟩
   exact ⟨Y9 (Γ:=Z0 (Z80 N)) Zk rfl kn ZsY Try.func70 rfl rfl (fun a=> by show 2≤_;decide) (fun ⟨e,t,_⟩ h=> b70 N e t () h.1 h.2.1),
    Y9 (Γ:=Z0 (Z80 N)) Zk rfl kn Zij Try.func107 rfl rfl (fun a=> by show 2≤_;decide) (fun ⟨e,t,_⟩ h=> ZtP N e t () h.1 h.2.1),
    Y9 (Γ:=Z0 (Z80 N)) Zk rfl kn Zii Try.func108 rfl rfl (fun a=> by show 2≤_;decide) (fun ⟨e,t,_⟩ h=> ZtO N e t () h.1 h.2.1)⟩
 exact ⟨Z0Y h82 fun N=> (key N).1,Z0Y h113 fun N=> (key N).2.1,Z0Y h114 fun N=> (key N).2.2⟩
end
end Go.AM.Ytpjenobkibfpcaa
namespace Go.AM.Ytpjenobkibfpcaa
open Go.AM Go.Proofs
noncomputable section
def ZnW:ArgL (Edit × Tree × Unit):=(.cons (aEl .edit) (.cons (aEl .tree) .nil))
def Zi1(a:Edit × Tree × Unit):Prop:=(Zg a.1≤20000000000∧Y1 a.1∧∃ d,Z4 a.1 d=true)∧Zj a.2.1+ctE a.1≤200000000000∧rng a.2.1
def ZhM(a:Edit × Tree × Unit):V U:= .tup [(true,(enc .tree (Z40 ((doE false a.1 a.2.1).map Z6)))),(false,[.bool ((doE false a.1 a.2.1).isSome)])]
def Z9V:Fs U:=fs ZnW (fun a=> [Zi1 a]) ZhM
def Zn7:List (FuncId × Fs U):=[(71,Jr),(70,Z7r)]
def Zt6:Zi U:=lvl [([2,3,4],[2,3,4]),([4,6,7],[4,6]),([4,6,15],[4,6]),([4,5],[4]),([4,5],[4])]
abbrev A26(p:List Nat):=AW (Z0 Zn7) Try.f26 Zt6 p
theorem ZwV(e:Edit)(t:Tree)(Q:QT)(h:∀ y_1,y_1=e→∀ y_2,y_2=t→∀ y_3,y_3=(Z93 y_1 y_2)→let z0:= !((doE false y_1 y_2).isSome);((Z2p (y_1,y_2,()))∧((z0=true→(Q .ret (L2 [(4,.ptr (.loc 4) 0),(5,.c (.bool false))] [(.loc 4,[ci 0,.nils,.nils])])))∧(z0=false→(Z02 (y_3,()))∧(Q .ret (L2 [(4,.ptr (.loc 4) 0),(5,.c (.bool true))] [(.loc 4,(enc .tree (Z6 y_3)))])))))):
  A26 [] (L2 [(0,.agg (enc .edit e)),(1,.agg (enc .tree t))] []) Q:=
 Eq.mpr (by kernel_rfl) (h _ (Ze _) _ (Zc _) _ (Zc _))
def ZuF(e:Edit)(t:Tree):Prop:=AW (Z0 Zn7) Try.f26 Zt6 [] (Zm (ZnW.can (e,t,())) []) (EQ Try.f26 (ZhM (e,t,())) [])
theorem ZsO(c71:CT 71 Jr)(c70:CT 70 Z7r)(hb:∀ (e:Edit) (t:Tree) (_:Unit),Zi1 (e,t,())→ZuF e t):CT 26 Z9V:=
 Z3 (l:=[(71,Jr),(70,Z7r)]) Zk rfl (⟨c71,c70,trivial⟩) Zt6 Try.func26 rfl rfl 2 (fun _=> rfl) (by decide) (fun ⟨e,t,_⟩=> hb e t ())
end
end Go.AM.Ytpjenobkibfpcaa
namespace Go.AM.Ytpjenobkibfpcaa
open Go.AM Go.Proofs
theorem Znw:Contract Try.prog cfg 109 Z2l:=by
 refine ZmA ?_
 intro l _ hp
 simp only [Z6n] at hp
 refine ZrS _ _ ⟨fun h=> ?_,fun _=> ⟨by simp only [List.length_nil];omega,?_⟩⟩
 ·subst h
  simp only [Z6h]
  (repeat' (first | exact trivial | exact rfl | apply And.intro))
 ·simp only [Z6h]
  (repeat' (first | exact trivial | exact rfl | apply And.intro))
theorem Ztx:Contract Try.prog cfg 150 Z4v:=by
 refine Zpt ?_
 intro l _ hp
 simp only [Zap] at hp
 refine Zv3 _ _ ⟨fun h=> ?_,fun _=> ⟨by simp only [List.length_nil];omega,?_⟩⟩
 ·subst h
  simp only [Z9e]
  (repeat' (first | exact trivial | exact rfl | apply And.intro))
 ·simp only [Z9e]
  (repeat' (first | exact trivial | exact rfl | apply And.intro))
theorem ZbB{α:Type}(z:α){l:List α}{i:Nat}(h:i < l.length)(x:α):Yl z l i x=l.set i x:=by
 simp only [Yl];rw [show i+1 - l.length=0 by omega];simp
theorem Z8j{α:Type}(z:α){l:List α}{i:Nat}(h:l.length≤i)(x:α):Yl z (l++[z]) i x=Yl z l i x:=by
 simp only [Yl,List.length_append,List.length_singleton,List.append_assoc]
 rw [show i+1 - l.length=(i+1 - (l.length+1))+1 by omega,List.replicate_succ]
 try rfl
theorem Z7W(t:Tree):t.words.length+Zb t.kids+1=Zj t:=by obtain ⟨k,w,ks⟩:=t;simp only [Zj,Tree.words_mk,Tree.kids_mk];omega
theorem ZlA{t:Tree}(h:rng t):isI t.kind∧(∀ x∈t.words,isW x)∧ZW t.kids:=by obtain ⟨k,w,ks⟩:=t;exact h
theorem Zhz{ks:List Tree}(h:ZW ks)(i:Nat):rng (ks.getD i Tree.nil):=by
 by_cases hi:i < ks.length
 ·exact JJ h (Zl hi _)
 ·rw [List.getD_eq_getElem?_getD,List.getElem?_eq_none (by omega)]
  refine ⟨by decide,by simp [Tree.nil],trivial⟩
theorem ZeQ(ks:List Tree)(i:Nat):Zj (ks.getD i Tree.nil)≤Zb ks+1:=by
 by_cases hi:i < ks.length
 ·have:=YG (Zl hi Tree.nil);omega
 ·rw [List.getD_eq_getElem?_getD,List.getElem?_eq_none (by omega)]
  simp [Tree.nil,Zj,Zb]
theorem Zki(t:Tree){i:Int}(h:0≤i):YI t i=t.kids.getD i.toNat Tree.nil:=by unfold YI;rw [if_neg (by omega)]
theorem Zfz(t:Tree){i:Int}(h:0≤i):YX t i=t.words.getD i.toNat 0:=by unfold YX;rw [if_neg (by omega)]
theorem Zoe{l:List Int}(h:∀ x∈l,isW x)(i:Nat):isW (l.getD i 0):=by
 by_cases hi:i < l.length
 ·exact h _ (Zl hi _)
 ·rw [List.getD_eq_getElem?_getD,List.getElem?_eq_none (by omega)];show 0≤(0:Int)∧(0:Int) < _;omega
theorem b70:Zwa:=by
 intro N e t _ hp hN
 simp only [Z2p,Zbp] at hp hN
 obtain ⟨⟨p1,p2,d,p3⟩,p4,p5⟩:=hp
 have h1:=Y6 e
 have h2:=Z0P p2
 have hd:=Z0e false e t
 rw [Yx] at hd
 refine Zwx _ _ _ _ ?_
 rintro y1 hy1 y2 hy2 y3 hy3
 subst hy1 hy2 hy3
 (simp only [vcT,vcS])
 refine ⟨fun hk=> ?_,fun hk=> ⟨fun hk1=> ⟨by simp only [Z1y];omega,?_⟩,fun hk1=> ⟨fun hk2=> ⟨by simp only [Z3c];exact ⟨hk2,⟨p1,p2,d,p3⟩,p4,p5⟩,by simp only [Z8E];omega,?_⟩,fun hk2=> ⟨fun hk3=> ⟨by simp only [Z3b];exact ⟨hk3,⟨p1,p2,d,p3⟩,p4,p5⟩,by simp only [Z8D];omega,?_⟩,fun hk3=> ?_⟩⟩⟩⟩
 ·rw [if_pos hk] at hd
  simp only [Z3Q,Z93,if_pos hk,hd]
  (repeat' (first | exact trivial | exact rfl | apply And.intro))
 ·rw [if_neg hk,if_pos hk1] at hd
  simp only [Z3Q,Z93,if_neg hk,if_pos hk1,hd]
  cases Yv (Z6 y1.old) (Z6 y2) <;> (repeat' (first | exact trivial | exact rfl | apply And.intro))
 ·rw [if_neg hk,if_neg hk1,if_pos hk2] at hd
  simp only [Z3Q,Z93,if_neg hk,if_neg hk1,if_pos hk2,hd]
  (repeat' (first | exact trivial | exact rfl | apply And.intro))
 ·rw [if_neg hk,if_neg hk1,if_neg hk2,if_pos hk3] at hd
  simp only [Z3Q,Z93,if_neg hk,if_neg hk1,if_neg hk2,if_pos hk3,hd]
  have e2:(if y2.kind=y1.list then (Z2J (ZK false y1.ops y2.kids [])).map fun b=> Tree.mk y1.list [] b else none).isSome=(Z2J (Z58 false y1 y2)).isSome:=by
   unfold Z58
   split
   ·cases Z2J (ZK false y1.ops y2.kids []) <;> rfl
   ·try rfl
  rw [e2]
  (repeat' (first | exact trivial | exact rfl | apply And.intro))
 ·rw [if_neg hk,if_neg hk1,if_neg hk2,if_neg hk3] at hd
  simp only [Z3Q,Z93,if_neg hk,if_neg hk1,if_neg hk2,if_neg hk3,hd]
  (repeat' (first | exact trivial | exact rfl | apply And.intro))
theorem ZtP:ZrM:=by
 intro N e t _ hp hN
 simp only [Z3c,Z8E] at hp hN
 obtain ⟨k2,⟨p1,p2,d,p3⟩,p4,p5⟩:=hp
 have h1:=Y6 e
 have h2:=Y4 e.kids
 have h3:=Z7W t
 have h4:=Zs t.kids
 have r2:=Z0P p2
 have rt:=ZlA p5
 have ri:=J3 p3
 refine Zvk _ _ _ _ ?_
 (simp only [vcT,vcS])
 have no:Z92 false e t=none→Jg cfg Try.f107.ntmps Try.f107.results.toList (Z35 (e,t,())) [] .ret (⟨[(4,.ptr (.loc 4) 0),(5,.c (.bool false))],[((.loc 4),[.int .i64 0,.nils,.nils])],[]⟩:LSt U):=by
  intro hs
  simp only [Z35,hs]
  (repeat' (first | exact trivial | exact rfl | apply And.intro))
 refine ⟨fun hk=> no (by unfold Z92;rw [if_neg hk]),fun hk=> ?_⟩
 have hk:t.kind=1:=by simpa using hk
 refine ⟨by simp only [Z6n];omega,by simp only [Zap];omega,?_⟩
 refine Za (ι:=Int × List Int) (fun s=> Z4X e t s.1 s.2) (fun s=> 0≤s.1∧s.1≤e.words.length∧wsD t.words (e.words.drop s.1.toNat) s.2=wsD t.words e.words t.words∧s.2.length≤t.words.length+65536) (fun s=> ((e.words.length:Int) - s.1).toNat) (0,t.words) rfl ⟨by simp,by simp,by simp,by simp⟩ ?_
 rintro ⟨i,out⟩ ⟨f1,f2,f3,f4⟩
 dsimp only at f1 f2 f3 f4
 refine Zlh _ _ _ _ _ _ _ ?_
 rintro y1 hy1 y2 hy2
 subst hy1
 (simp only [vcT,vcS])
 refine ⟨fun hi=> ?_,fun hi=> ?_⟩
 ·have hmem:=Zl (l:=e.words) (i:=i.toNat) (by omega) (WEdit.mk 0 0 0 0)
  rw [ZR f1 hi (WEdit.mk 0 0 0 0),←hy2] at f3
  rw [←hy2] at hmem
  have hw:=Z3z ri.words y2 hmem
  obtain ⟨g1,g2,g3,g4⟩:=r2.2.2.2.1 y2 hmem
  have hat:YX y1 y2.at_=y1.words.getD y2.at_.toNat 0:=Zfz y1 (by omega)
  have hwi:=Zoe rt.2.1 y2.at_.toNat
  rw [wsD] at f3
  rw [hat]
  unfold isW at g3 g4 hwi
  refine ⟨⟨f1,hi⟩,by simp only [Z7B],by simp only [Z3U];omega,fun hne=> no ?_,fun heq=> ?_⟩
  ·rw [if_neg hne] at f3
   unfold Z92
   rw [if_pos hk,←f3]
   try rfl
  ·have heq:mix 0 (y1.words.getD y2.at_.toNat 0) y2.mask=y2.old:=by simpa using heq
   rw [if_pos heq] at f3
   refine Za (ι:=List Int) (fun s=> Z4W e y1 i s) (fun s=> (∀ v,Yl 0 s y2.at_.toNat v=Yl 0 out y2.at_.toNat v)∧s.length≤y1.words.length+65536) (fun s=> (y2.at_+1 - s.length).toNat) out rfl ⟨fun v=> rfl,f4⟩ ?_
   rintro s ⟨q1,q2⟩
   refine Zlg _ _ _ _ _ _ _ _ ?_
   (simp only [Tree.eta,Edit.eta,Tree.kind_mk,Tree.words_mk,Tree.kids_mk])
   rw [←hy2,hat]
   (simp only [vcT,vcS])
   refine ⟨fun hl=> ⟨by simp;omega,s++[0],rfl,⟨fun v=> ?_,by simp;omega⟩,by simp;omega⟩,fun hl=> ?_⟩
   ·rw [Z8j 0 (by omega),q1]
   ·have hl:y2.at_ < s.length:=by omega
    refine ⟨by simp only [Z3U];omega,by omega,by omega,by unfold InR;omega,(i+1,s.set y2.at_.toNat (mix (y1.words.getD y2.at_.toNat 0) y2.new y2.mask)),rfl,⟨by dsimp only;omega,by dsimp only;omega,?_,by simp only [List.length_set];omega⟩,by dsimp only;omega⟩
    dsimp only
    rw [←f3,←ZbB 0 (by omega),q1]
 ·rw [List.drop_of_length_le (by omega),wsD] at f3
  refine Za (ι:=Int × List Tree) (fun s=> Z4V e y1 out s.1 s.2) (fun s=> 0≤s.1∧s.1≤e.kids.length∧JB false y1.kids (e.kids.drop s.1.toNat) s.2=JB false y1.kids e.kids y1.kids∧s.2.length≤y1.kids.length+65536) (fun s=> ((e.kids.length:Int) - s.1).toNat) (0,y1.kids) rfl ⟨by simp,by simp,by simp,by simp⟩ ?_
  rintro ⟨j,ks⟩ ⟨e1,e2,e3,e4⟩
  dsimp only at e1 e2 e3 e4
  refine Zlf _ _ _ _ _ _ _ _ ?_
  rintro y1 hy1 y2 hy2 y3 hy3 y4 hy4
  subst hy1
  (simp only [vcT,vcS])
  refine ⟨fun hj=> ?_,fun hj=> ?_⟩
  ·have hmem:=Zl (l:=e.kids) (i:=j.toNat) (by omega) (KidOf.mk 0 Edit.nil)
   rw [ZR e1 hj (KidOf.mk 0 Edit.nil),←hy2] at e3
   rw [←hy2] at hmem
   have hk2:=J2 ri.kids y2 hmem
   have hm:=YC hmem
   have hct:=Zfl hmem
   have hca:=Znr e
   have hr:=(Z15 r2.2.2.2.2.2.1 hmem).2
   have hat:YI y1 y2.at_=y1.kids.getD y2.at_.toNat Tree.nil:=Zki y1 (by omega)
   rw [hat] at hy4
   have hm4:=ZeQ y1.kids y2.at_.toNat
   have hr4:=Zhz rt.2.2 y2.at_.toNat
   rw [JB,Zb7,←hy4,←hy3] at e3
   rw [←hy4] at hm4 hr4
   rw [←hy3] at hm hr hk2 hct
   refine ⟨⟨e1,hj⟩,by simp only [Z8t],by simp only [Z2p];exact ⟨⟨by omega,hr,_,hk2.2⟩,by omega,hr4⟩,by simp only [Zbp];omega,fun hne=> no ?_,fun heq=> ?_⟩
   ·have hne:doE false y3 y4=none:=by simpa using hne
    rw [hne] at e3
    unfold Z92
    rw [if_pos hk,←f3,←e3]
    try rfl
   ·obtain ⟨u,hu⟩:=Option.isSome_iff_exists.1 heq
    rw [hu,Option.bind_some] at e3
    refine Za (ι:=List Tree) (fun s=> Z4U e y1 out j s) (fun s=> (∀ v,Yl Tree.nil s y2.at_.toNat v=Yl Tree.nil ks y2.at_.toNat v)∧s.length≤y1.kids.length+65536) (fun s=> (y2.at_+1 - s.length).toNat) ks rfl ⟨fun v=> rfl,e4⟩ ?_
    rintro s ⟨q1,q2⟩
    refine Zle _ _ _ _ _ _ _ _ _ ?_
    rintro z1 hz1 z2 hz2 z3 hz3 z4 hz4 z5 hz5
    rw [←hy2] at hz2
    subst hz1 hz2
    rw [←hy3] at hz3
    subst hz3
    rw [hat,←hy4] at hz4
    subst hz4
    rw [Z7J hu] at hz5
    subst hz5
    (simp only [vcT,vcS])
    refine ⟨fun hl=> ⟨by simp;omega,s++[Tree.nil],rfl,⟨fun v=> ?_,by simp;omega⟩,by simp;omega⟩,fun hl=> ?_⟩
    ·rw [Z8j Tree.nil (by omega),q1]
    ·have hl:z2.at_ < s.length:=by omega
     refine ⟨by omega,by omega,by unfold InR;omega,(j+1,s.set z2.at_.toNat z5),rfl,⟨by dsimp only;omega,by dsimp only;omega,?_,by simp only [List.length_set];omega⟩,by dsimp only;omega⟩
     dsimp only
     rw [←e3,←ZbB Tree.nil (by omega),q1]
  ·rw [List.drop_of_length_le (by omega),JB] at e3
   have hs:Z92 false e y1=some (.mk 1 out ks):=by
    unfold Z92
    rw [if_pos hk,←f3,←e3]
    try rfl
   simp only [Z35,hs]
   (repeat' (first | exact trivial | exact rfl | apply And.intro))
theorem Zkv(r:Bool)(o:Op)(s:List Op)(rest out:List Tree):ZK r (o ::s) rest out=(Z3j r o rest out).bind fun x=> ZK r s x.2 x.1:=by rw [ZK]
theorem Z16{ks:List Tree}(h:ZW ks)(n:Nat):ZW (ks.drop n):=by
 induction n generalizing ks with
 | zero=> exact h
 | succ n ih=> cases ks with
  | nil=> exact h
  | cons a r=> exact ih h.2
theorem ZtO:ZrL:=by
 intro N e t _ hp hN
 simp only [Z3b,Z8D] at hp hN
 obtain ⟨k3,⟨p1,p2,d,p3⟩,p4,p5⟩:=hp
 have h1:=Y6 e
 have h2:=Y3 e.ops
 have h3:=Z7W t
 have h4:=Zs t.kids
 have r2:=Z0P p2
 have rt:=ZlA p5
 have ri:=J3 p3
 refine Zvj _ _ _ _ ?_
 (simp only [vcT,vcS])
 have no:Z58 false e t=none→Jg cfg Try.f108.ntmps Try.f108.results.toList (Z34 (e,t,())) [] .ret (⟨[(4,.ptr (.loc 4) 0),(5,.c (.bool false))],[((.loc 4),[.int .i64 0,.nils,.nils])],[]⟩:LSt U):=by
  intro hs
  simp only [Z34,hs]
  (repeat' (first | exact trivial | exact rfl | apply And.intro))
 refine ⟨fun hk=> no (by unfold Z58;rw [if_neg hk]),fun hk=> ?_⟩
 have hk:t.kind=e.list:=by simpa using hk
 have hl0:Z58 false e t=ZK false e.ops t.kids []:=by unfold Z58;rw [if_pos hk]
 refine Za (ι:=Int × List Tree × List Tree) (fun s=> Z0c e t s.1 s.2.2 s.2.1)
  (fun s=> 0≤s.1∧s.1≤e.ops.length∧ZK false (e.ops.drop s.1.toNat) s.2.2 s.2.1=Z58 false e t∧s.2.1.length+s.2.2.length+Zd (e.ops.drop s.1.toNat)≤t.kids.length+Zd e.ops∧Zb s.2.2≤Zb t.kids∧ZW s.2.2)
  (fun s=> ((e.ops.length:Int) - s.1).toNat) (0,[],t.kids) rfl ⟨by simp,by simp,by simp [hl0],by simp,by simp,rt.2.2⟩ ?_
 rintro ⟨i,out,rest⟩ ⟨f1,f2,f3,f4,f5,f6⟩
 dsimp only at f1 f2 f3 f4 f5 f6
 refine Zlc _ _ _ _ _ _ _ _ ?_
 rintro y1 hy1
 (simp only [vcT,vcS])
 refine ⟨fun hi=> ?_,fun hi=> ?_⟩
 ·have hmem:=Zl (l:=e.ops) (i:=i.toNat) (by omega) Op.nil
  rw [ZR f1 hi Op.nil,←hy1] at f3 f4
  rw [←hy1] at hmem
  have hr:=Go.AM.rightOs_mem ri.ops y1 hmem
  have hm:=Y2 hmem
  have hct:=Zfk hmem
  have hca:=Znr e
  have hme:=Yg y1
  have hro:=Z9c (Z14 r2.2.2.2.2.2.2 hmem)
  have hml:=Zs y1.l
  simp only [Zd] at f4
  rw [Zkv,Yk] at f3
  have go:∀ (x:List Tree) (m:List Tree) (v:V U) N0 Q',ZK false (e.ops.drop (i+1).toNat) x m=Z58 false e t→m.length+x.length+Zd (e.ops.drop (i+1).toNat)≤t.kids.length+Zd e.ops→Zb x≤Zb t.kids→ZW x→
    (∀ s2,s2=Z0c e t (i+1) x m→N0 s2)→Z8c N [1,1,1,1,0,1,0,0,1,1,1] (Z1i e t i x m v) (AExit.then N0 (AExit.inBlock 0 (ZdH N [1,1,1,1,1] Q'))):=by
   intro x m v N0 Q' a1 a2 a3 a4 a5
   exact Zld _ _ _ _ _ _ _ _ _ ⟨by unfold InR;omega,a5 _ rfl⟩
  have fin:∀ (x m:List Tree),ZK false (e.ops.drop (i+1).toNat) x m=Z58 false e t→m.length+x.length+Zd (e.ops.drop (i+1).toNat)≤t.kids.length+Zd e.ops→Zb x≤Zb t.kids→ZW x→∀ s2,s2=Z0c e t (i+1) x m→
    ∃ j:Int × List Tree × List Tree,s2=Z0c e t j.1 j.2.2 j.2.1∧(0≤j.1∧j.1≤e.ops.length∧ZK false (e.ops.drop j.1.toNat) j.2.2 j.2.1=Z58 false e t∧j.2.1.length+j.2.2.length+Zd (e.ops.drop j.1.toNat)≤t.kids.length+Zd e.ops∧Zb j.2.2≤Zb t.kids∧ZW j.2.2)∧((e.ops.length:Int) - j.1).toNat < ((e.ops.length:Int) - i).toNat:=by
   rintro x m a1 a2 a3 a4 _ rfl
   exact ⟨(i+1,m,x),rfl,⟨by dsimp only;omega,by dsimp only;omega,a1,a2,a3,a4⟩,by dsimp only;omega⟩
  have r1:=Yf hr
  have ht:∀ n:Nat,(rest.take n).length≤rest.length∧(rest.take n).length+(rest.drop n).length=rest.length:=by
   intro n
   simp only [List.length_take,List.length_drop];omega
  refine ⟨⟨f1,hi⟩,fun hk2=> ⟨by omega,?_⟩,fun hk2=> ⟨fun hk1=> ?_,fun hk1=> ⟨fun hk3=> ?_,fun hk3=> ?_⟩⟩⟩
  ·rw [if_neg (by omega),if_neg (by omega),if_pos hk2,Option.bind_some] at f3
   exact go _ _ _ _ _ f3 (by simp only [List.length_append];omega) f5 f6 (fin _ _ f3 (by simp only [List.length_append];omega) f5 f6)
  ·refine Z9t _ _ _ _ _ _ _ _ _ _ ?_
   rintro z1 hz1 z2 hz2 z3 hz3 z4 hz4 z5 hz5 z6 hz6
   rw [←hy1] at hz1
   subst hz1
   rw [if_neg (by omega),if_pos hk1] at f3
   (simp only [vcT,vcS])
   rw [Int.toNat_natCast] at hz5
   rw [Int.toNat_natCast]
   refine ⟨fun hs=> no ?_,fun hs=> ⟨by omega,by omega,fun h=> by omega,fun _=> ⟨fun _=> ⟨?_,fun hq=> no ?_,fun hq=> ?_⟩,fun h=> absurd hk1 h⟩⟩⟩
   ·have:YV z1.l rest=false:=by unfold YV;rw [decide_eq_false (by omega)];try rfl
    rw [this,if_neg (by simp)] at f3
    exact f3.symm
   ·have:=Zgg z1.l.length rest
    simp only [Zao];omega
   ·have:YV z1.l rest=false:=by unfold YV;rw [←hz5,hq];simp
    rw [this,if_neg (by simp)] at f3
    exact f3.symm
   ·have:YV z1.l rest=true:=by unfold YV;rw [←hz5,hq,decide_eq_true (by omega)];try rfl
    rw [this,if_pos rfl,Option.bind_some] at f3
    have hd:=Z3f z1.l.length rest
    have ht1:=ht z1.l.length
    exact go _ _ _ _ _ f3 (by omega) (by omega) (Z16 f6 _) (fin _ _ f3 (by omega) (by omega) (Z16 f6 _))
  ·refine Z9t _ _ _ _ _ _ _ _ _ _ ?_
   rintro z1 hz1 z2 hz2 z3 hz3 z4 hz4 z5 hz5 z6 hz6
   rw [←hy1] at hz1
   subst hz1
   rw [if_neg (by omega),if_neg hk1,if_neg hk2] at f3
   (simp only [vcT,vcS])
   rw [show Int.toNat 1=1 from rfl]
   refine ⟨fun hs=> no ?_,fun hs=> ⟨by omega,by omega,fun h=> by omega,fun _=> ⟨fun h=> absurd h hk1,fun _=> ?_⟩⟩⟩
   ·rw [if_pos (by omega)] at f3
    exact f3.symm
   ·have hz:z3=rest.getD 0 Tree.nil:=by
     rw [hz3,hz2]
     cases rest with
     | nil=> rfl
     | cons a r=> rfl
    rw [if_neg (by omega),←hz,←hz4] at f3
    have hm3:=ZeQ rest 0
    have hr3:=Zhz f6 0
    rw [←hz] at hm3 hr3
    have hre:=Z33 hr hk3
    rw [←hz4] at hre hme hro hct
    refine ⟨?_,by simp only [Z2p];exact ⟨⟨by omega,hro.2.2.2,_,hre⟩,by omega,hr3⟩,by simp only [Zbp];omega,fun hne=> no ?_,fun heq=> ?_⟩
    ·simp only [List.length_take];omega
    ·have hne:doE false z4 z3=none:=by simpa using hne
     rw [hne] at f3
     exact f3.symm
    ·obtain ⟨u,hu⟩:=Option.isSome_iff_exists.1 heq
     rw [Z7J hu] at hz6
     subst hz6
     rw [hu,Option.map_some,Option.bind_some] at f3
     have hd:=Z3f 1 rest
     have ht1:=ht 1
     have ht2:(rest.take 1).length=1:=by simp only [List.length_take];omega
     refine ⟨by simp only [List.length_singleton];omega,?_⟩
     exact go _ _ _ _ _ f3 (by simp only [List.length_append,List.length_singleton];omega) (by omega) (Z16 f6 _) (fin _ _ f3 (by simp only [List.length_append,List.length_singleton];omega) (by omega) (Z16 f6 _))
  ·have hk0:y1.kind=0:=by cases r1 <;> first | rfl | (exfalso;simp at hk1 hk2 hk3)
   refine Z9t _ _ _ _ _ _ _ _ _ _ ?_
   rintro z1 hz1 z2 hz2 z3 hz3 z4 hz4 z5 hz5 z6 hz6
   rw [←hy1] at hz1
   subst hz1
   rw [if_pos hk0] at f3
   have hn:1≤z1.n∧z1.n≤1048576:=by cases r1 <;> first | (constructor <;> assumption) | (exfalso;simp at hk1 hk2 hk3 hk0)
   (simp only [vcT,vcS])
   refine ⟨fun hs=> no ?_,fun hs=> ⟨by omega,by omega,fun _=> ⟨?_,?_⟩,fun h=> absurd hk0 h⟩⟩
   ·rw [if_neg (by omega)] at f3
    exact f3.symm
   ·have:=(ht z1.n.toNat).1
    omega
   ·rw [if_pos (by omega),Option.bind_some] at f3
    have hd:=Z3f z1.n.toNat rest
    have ht1:=ht z1.n.toNat
    exact go _ _ _ _ _ f3 (by simp only [List.length_append];omega) (by omega) (Z16 f6 _) (fin _ _ f3 (by simp only [List.length_append];omega) (by omega) (Z16 f6 _))
 ·rw [List.drop_of_length_le (by omega),ZK] at f3
  simp only [Z34,←f3,ZmP,Z2J,Option.bind_some,hk]
  by_cases hr:rest.length=0
  ·rw [if_pos hr,hr]
   (repeat' (first | exact trivial | exact rfl | apply And.intro))
  ·rw [if_neg hr,show ((rest.length:Int)==0)=false by rw [beq_eq_false_iff_ne];omega]
   (repeat' (first | exact trivial | exact rfl | apply And.intro))
theorem Zx8:Contract Try.prog cfg 70 Z7r∧Contract Try.prog cfg 107 Zhv∧Contract Try.prog cfg 108 Zhu:=Zpg ZkC Zkz c91 Ztw Ztx c66 Znw b70 ZtP ZtO
theorem c70:Contract Try.prog cfg 70 Z7r:=Zx8.1
end Go.AM.Ytpjenobkibfpcaa
namespace Go.AM.Ytpjenobkibfpcaa
open Go.AM Go.Proofs
theorem Zfj{r:Bool}{e:Edit}{t u:Tree}(hr:∃ d,Z4 e d=true)(ht:Zj t+ctE e≤200000000000)(h:doE r e t=some u):Zj u≤1000000000000:=by
 obtain ⟨d,hr⟩:=hr
 have:=Zpe r e d t u hr h
 omega
theorem c26:Contract Try.prog cfg 26 Z9V:=by
 refine ZsO c71 c70 ?_
 intro e t _ hp
 simp only [Zi1] at hp
 refine ZwV _ _ _ ?_
 rintro y1 hy1 y2 hy2 y3 hy3
 subst hy1 hy2
 (simp only [vcT,vcS])
 refine ⟨by simp only [Z2p];exact hp,fun hn=> ?_,fun hs=> ?_⟩
 ·have hn:doE false y1 y2=none:=by simpa using hn
  simp only [ZhM,hn]
  (repeat' (first | exact trivial | exact rfl | apply And.intro))
 ·obtain ⟨u,hu⟩:=Option.isSome_iff_exists.1 hs
  rw [Z7J hu] at hy3
  subst hy3
  have:=Zfj hp.1.2.2 hp.2.1 hu
  refine ⟨by simp only [Z02];exact this,?_⟩
  simp only [ZhM,hu]
  (repeat' (first | exact trivial | exact rfl | apply And.intro))
end Go.AM.Ytpjenobkibfpcaa
