import Derived.Test.YthokdjgpdonhgaaQL15
import Derived.Test.YthokdjgpdonhgaaQD7
set_option linter.unusedSimpArgs false
set_option linter.unusedVariables false
namespace Go.AM.Ythokdjgpdonhgaa
open Go.AM Go.Proofs
noncomputable section
noncomputable section
def ZjI:ArgL (Int × Int × Unit):=(.cons (Zr .i64) (.cons (Zr .u64) .nil))
def Z95(a:Int × Int × Unit):Prop:=0<=a.2.1/\a.2.1 < 18446744073709551616
def ZmV(a:Int × Int × Unit):V U:= .c (.bool (J6 a.1 a.2.1))
def Z1I:Fs U:=fs ZjI (fun a=> [Z95 a]) ZmV
def Zh4(a:Int × Unit):V U:= .c (.bool (decide (2<=a.1/\a.1<=9)))
def Z3J:Fs U:=fs ZjK (fun a=> [Z5G a]) Zh4
def ZeS:ArgL (Int × Tree × Unit):=(.cons (Zr .i64) (.cons (aEl .tree) .nil))
def Z7M(a:Int × Tree × Unit):Prop:=rng a.2.1
def Zh3(a:Int × Tree × Unit):V U:= .c (.bool (YE a.1 a.2.1))
def Z3I:Fs U:=fs ZeS (fun a=> [Z7M a]) Zh3
def Z30(a:Tree × Int × Unit):Prop:=Zh a.1<=1000000/\rng a.1/\0<=a.2.1/\a.2.1<=1000
def Z8t(a:Tree × Int × Unit):Nat:=Zh a.1
def Zdr(a:Tree × Int × Unit):V U:= .c (.bool (Z8 a.1 a.2.1))
def Z6G:Fs U:=fs Zf4 (fun a=> [Z30 a]) Zdr
def Zhn(a:Tree × Unit):Prop:=Zh a.1<=1000000/\rng a.1
def ZmR(a:Tree × Unit):V U:= .c (.bool (Z8 a.1 64))
def Z6V:Fs U:=fs Zd0 (fun a=> [Zhn a]) ZmR
def JC:List (FuncId × Fs U):=[(56,Jl)]
def Z6d:Z6 U:=lvl [([0,1],[]),([1,5],[]),([1,5,10],[]),([4],[]),([1,5,6],[]),([1,5,6,13],[]),([1,5,6],[]),([1,5,6],[]),([4],[])]
def Z0l(c n x1 x6:Int):LSt U:=(L2 [(1,.c (.int .u64 x1)),pI 5 (wd c),pI 6 x6] [])
abbrev Zgg:=awp cfg (Z1 JC) (Y8 cfg (Z1 JC)) Try.f58.ntmps Z6d
abbrev Zfl:=ZgD cfg (Z1 JC) (Y8 cfg (Z1 JC)) Try.f58.ntmps Z6d
theorem ZsL(c n:Int)(Q:QT)(h:(Z5G (c,()))/\(((decide (((wd c):Int) < 0))=true->Q .ret (L2 [pB 4 false] []))/\((decide (((wd c):Int) < 0))=false->Zk (AW (Z1 JC) Try.f58 Z6d [1,1,1,0,1,0,0]) (Z0l c n n 0) (xB 0 (SW (Z1 JC) Try.f58 Z6d [1,1,1,1] Q))))):
  AW (Z1 JC) Try.f58 Z6d [] (L2 [pI 0 c,(1,.c (.int .u64 n))] []) Q:=by
 have e:(AW (Z1 JC) Try.f58 Z6d [] (L2 [pI 0 c,(1,.c (.int .u64 n))] []) Q)=((Z5G (c,()))/\(((decide (((wd c):Int) < 0))=true->(Q .ret (L2 [pB 4 false] [])))/\((decide (((wd c):Int) < 0))=false->(Zk (Zgg (cd Try.f58 [1,1,1,0,1,0,0])) (Z0l c n n 0) (xB 0 (Zfl (cd Try.f58 [1,1,1,1]) Q)))))):=by kernel_rfl
 exact e.mpr ⟨h.1,⟨fun c_7=> (h.2.1 c_7),fun c_7=> (h.2.2 c_7)⟩⟩
theorem ZkI(c n x1 x6:Int)(N0:NT)(Q:QT)(h:((decide (x6 < (wd c)))=true->((2:Int)≠0)/\((InR (x6+1))/\(N0 (Z0l c n (IntKind.wrap .u64 (Int.tdiv x1 2)) (x6+1)))))/\((decide (x6 < (wd c)))=false->Q .ret (L2 [pB 4 (x1==0)] []))):
  AW (Z1 JC) Try.f58 Z6d [1,1,1,0,1,0,0] (Z0l c n x1 x6) (xT N0 (xB 0 (SW (Z1 JC) Try.f58 Z6d [1,1,1,1] Q))):=by
 have e:(AW (Z1 JC) Try.f58 Z6d [1,1,1,0,1,0,0] (Z0l c n x1 x6) (xT N0 (xB 0 (SW (Z1 JC) Try.f58 Z6d [1,1,1,1] Q))))=(((decide ((x6:Int) < (wd c)))=true->((2:Int)≠0)/\((InR ((x6:Int)+1))/\(N0 (Z0l c n (IntKind.wrap .u64 (Int.tdiv x1 2)) ((x6:Int)+1)))))/\((decide ((x6:Int) < (wd c)))=false->(Q .ret (L2 [pB 4 ((x1:Int)==0)] [])))):=by kernel_rfl
 exact e.mpr ⟨fun c_8=> ⟨(h.1 c_8).1,⟨(h.1 c_8).2.1,(h.1 c_8).2.2⟩⟩,fun c_8=> (h.2 c_8)⟩
def Zqu(c n:Int):Prop:=AW (Z1 JC) Try.f58 Z6d [] (Zb (ZjI.can (c,n,())) []) (EQ Try.f58 (ZmV (c,n,())) [])
theorem Zob(c56:CT 56 Jl)(hb:∀ (c:Int) (n:Int) (_:Unit),Z95 (c,n,())->Zqu c n):CT 58 Z1I:=
 Z0 (l:=[(56,Jl)]) Z9 rfl (⟨c56,trivial⟩) Z6d Try.func58 rfl rfl 2 (fun _=> rfl) (by decide) (fun ⟨c,n,_⟩=> hb c n ())
def Ze5:Z6 U:=lvl [([0,1],[]),([1,5,6],[]),([4],[])]
theorem Zr9(c n:Int)(Q:QT)(h:(Z5G (c,()))/\((((decide (0<=wd c)) && (!(((if wd c < 0 then 0 else wd c):Int)==64)))=true->(0:Int)<=(if wd c < 0 then 0 else wd c))/\(Q .ret (L2 [(4,.c (.bool (bif (decide (0<=wd c)) then (bif (((if wd c < 0 then 0 else wd c):Int)==64) then true else (((Int.fdiv n (2 ^ (min (Int.toNat (if wd c < 0 then 0 else wd c)) (IntKind.bits .u64)))):Int)==0)) else false)))] [])))):
  AW (Z1 Ziw) Try.f121 Ze5 [] (L2 [pI 0 c,(1,.c (.int .u64 n))] []) Q:=by
 have e:(AW (Z1 Ziw) Try.f121 Ze5 [] (L2 [pI 0 c,(1,.c (.int .u64 n))] []) Q)=(let zz0:=(((if wd c < 0 then 0 else wd c):Int)==64);((Z5G (c,()))/\((Tr ((decide (0<=wd c))=true))/\(Tr ((decide (0<=wd c))=true))/\(Tr (((decide (0<=wd c)) && (!zz0))=true))/\(Tr (((decide (0<=wd c)) && (!zz0))=true))/\(((decide (0<=wd c)) && (!zz0))=true->(0:Int)<=(if wd c < 0 then 0 else wd c))/\(Tr (((decide (0<=wd c)) && (!zz0))=true))/\((decide (0<=wd c))=true->(True->(decide (0<=wd c))=true))/\((decide (0<=wd c))=true->(zz0=false->((decide (0<=wd c)) && (!zz0))=true))/\(Tr ((decide (0<=wd c))=true))/\(Q .ret (L2 [(4,.c (.bool (bif (decide (0<=wd c)) then (bif zz0 then true else (((Int.fdiv n (2 ^ (min (Int.toNat (if wd c < 0 then 0 else wd c)) (IntKind.bits .u64)))):Int)==0)) else false)))] []))))):=by kernel_rfl
 exact e.mpr ⟨h.1,⟨id,id,id,id,h.2.1,id,(by generalize (decide (0<=wd c))=b0;revert b0;decide),(by generalize (((if wd c < 0 then 0 else wd c):Int)==64)=b0;generalize (decide (0<=wd c))=b1;revert b0 b1;decide),(by generalize (decide (0<=wd c))=b0;revert b0;decide),h.2.2⟩⟩
def Zmf(c n:Int):Prop:=AW (Z1 Ziw) Try.f121 Ze5 [] (Zb (ZjI.can (c,n,())) []) (EQ Try.f121 (ZmV (c,n,())) [])
theorem Zlg(Z3A:CT 110 Yc)(hb:∀ (c:Int) (n:Int) (_:Unit),Z95 (c,n,())->Zmf c n):CT 121 Z1I:=
 Z0 (l:=[(110,Yc)]) Z9 rfl (⟨Z3A,trivial⟩) Ze5 Try.func121 rfl rfl 2 (fun _=> rfl) (by decide) (fun ⟨c,n,_⟩=> hb c n ())
theorem Zre(k:Int)(Q:QT)(h:Q .ret (L2 [(2,.c (.bool (bif (decide ((2:Int)<=k)) then (decide (k<=9)) else false)))] [])):
  AW (Z1 ZiK) Try.f116 Zi9 [] (L2 [pI 0 k] []) Q:=by
 have e:(AW (Z1 ZiK) Try.f116 Zi9 [] (L2 [pI 0 k] []) Q)=((Tr ((decide ((2:Int)<=k))=true))/\(Tr ((decide ((2:Int)<=k))=true))/\(Q .ret (L2 [(2,.c (.bool (bif (decide ((2:Int)<=k)) then (decide ((k:Int)<=9)) else false)))] []))):=by kernel_rfl
 exact e.mpr ⟨id,(by generalize (decide ((2:Int)<=k))=b0;revert b0;decide),h⟩
def Zmk(k:Int):Prop:=AW (Z1 ZiK) Try.f116 Zi9 [] (Zb (ZjK.can (k,())) []) (EQ Try.f116 (Zh4 (k,())) [])
theorem Zll(hb:∀ (k:Int) (_:Unit),Z5G (k,())->Zmk k):CT 116 Z3J:=
 Z0 (l:=[]) Z9 rfl trivial Zi9 Try.func116 rfl rfl 1 (fun _=> rfl) (by decide) (fun ⟨k,_⟩=> hb k ())
def Zal:List (FuncId × Fs U):=[(107,Jn),(121,Z1I)]
def Ze7:Z6 U:=lvl [([0,3],[3]),([0,3,5],[3]),([4],[]),([3,32],[3]),([4],[]),([4],[])]
theorem Zrd(l:Int)(t:Tree)(Q:QT)(h:(Z5G (l,()))/\(((decide (2<=l/\l<=7))=true->((bif (bif (t.kind==10) then (((t.kids.length:Int):Int)==0) else false) then (((t.words.length:Int):Int)==1) else false)=true->InR (l - 2))/\((bif (bif (t.kind==10) then (((t.kids.length:Int):Int)==0) else false) then (((t.words.length:Int):Int)==1) else false)=true->(0:Int)<=0/\0 < (t.words.length:Int))/\((bif (bif (t.kind==10) then (((t.kids.length:Int):Int)==0) else false) then (((t.words.length:Int):Int)==1) else false)=true->Z95 ((l - 2),(List.getD t.words (Int.toNat 0) (0:Int)),()))/\(Q .ret (L2 [(4,.c (.bool (bif (bif (bif (t.kind==10) then (((t.kids.length:Int):Int)==0) else false) then (((t.words.length:Int):Int)==1) else false) then (J6 (l - 2) (List.getD t.words (Int.toNat 0) (0:Int))) else false)))] [])))/\((decide (2<=l/\l<=7))=false->((l==9)=true->Q .ret (L2 [pB 4 (t.kind==1)] []))/\((l==9)=false->Q .ret (L2 [pB 4 (t.kind !=10)] []))))):
  AW (Z1 Zal) Try.f117 Ze7 [] (L2 [pI 0 l,(1,.agg (enc .tree t))] []) Q:=by
 have e:(AW (Z1 Zal) Try.f117 Ze7 [] (L2 [pI 0 l,(1,.agg (enc .tree t))] []) Q)=(let zz1:=(bif (t.kind==10) then ((t.kids.length:Int)==0) else false);let zz0:=(bif zz1 then ((t.words.length:Int)==1) else false);((Z5G (l,()))/\(((decide (2<=l/\l<=7))=true->(Tr ((t.kind==10)=true))/\(Tr ((t.kind==10)=true))/\(Tr ((t.kind==10)=true))/\(Tr ((t.kind==10)=true))/\(Tr (zz1=true))/\(Tr (zz1=true))/\(Tr (zz1=true))/\(Tr (zz1=true))/\(Tr (zz0=true))/\(zz0=true->InR ((l:Int) - 2))/\(Tr (zz0=true))/\(Tr (zz0=true))/\(zz0=true->(0:Int)<=0/\0 < (t.words.length:Int))/\(Tr (zz0=true))/\(Tr (zz0=true))/\(Tr (zz0=true))/\(zz0=true->Z95 (((l:Int) - 2),(List.getD t.words (Int.toNat 0) (0:Int)),()))/\(Tr (zz0=true))/\(Q .ret (L2 [(4,.c (.bool (bif zz0 then (J6 ((l:Int) - 2) (List.getD t.words (Int.toNat 0) (0:Int))) else false)))] [])))/\((decide (2<=l/\l<=7))=false->((((l:Int)==9)=true->(Q .ret (L2 [pB 4 (t.kind==1)] [])))/\(((l:Int)==9)=false->(Q .ret (L2 [pB 4 (t.kind !=10)] [])))))))):=by kernel_rfl
 exact e.mpr ⟨h.1,⟨fun c_10=> ⟨id,id,id,(by generalize ((t.kind:Int)==10)=b0;revert b0;decide),id,id,id,(by generalize (((t.kids.length:Int):Int)==0)=b0;generalize ((t.kind:Int)==10)=b1;revert b0 b1;decide),id,(h.2.1 c_10).1,id,id,(h.2.1 c_10).2.1,id,id,id,(h.2.1 c_10).2.2.1,(by generalize (((t.words.length:Int):Int)==1)=b0;generalize (((t.kids.length:Int):Int)==0)=b1;generalize ((t.kind:Int)==10)=b2;revert b0 b1 b2;decide),(h.2.1 c_10).2.2.2⟩,fun c_10=> ⟨fun c_11=> ((h.2.2 c_10).1 c_11),fun c_11=> ((h.2.2 c_10).2 c_11)⟩⟩⟩
def Zmj(l:Int)(t:Tree):Prop:=AW (Z1 Zal) Try.f117 Ze7 [] (Zb (ZeS.can (l,t,())) []) (EQ Try.f117 (Zh3 (l,t,())) [])
theorem Zlk(Zay:CT 107 Jn)(Zg0:CT 121 Z1I)(hb:∀ (l:Int) (t:Tree) (_:Unit),Z7M (l,t,())->Zmj l t):CT 117 Z3I:=
 Z0 (l:=[(107,Jn),(121,Z1I)]) Z9 rfl (⟨Zay,Zg0,trivial⟩) Ze7 Try.func117 rfl rfl 2 (fun _=> rfl) (by decide) (fun ⟨l,t,_⟩=> hb l t ())
def Yx(N:Nat):List (FuncId × Fs U):=(94,fs Zf4 (fun a=> [Z30 a,Z8t a < N]) Zdr) ::[(116,Z3J),(117,Z3I)]
def Z2U:Z6 U:=lvl [([1,2],[2]),([1,2,8],[2]),([4],[]),([1,2,22],[2]),([4],[]),([1,2,36],[2]),([4],[]),([1,2,39],[2]),([1,2,52],[2]),([4],[]),([1,2,53],[2]),([4],[]),([1,2,71,72,73],[2]),([1,2,71,72,73,74],[2]),([1,2,6,71,72,73],[2,6]),([1,2,6,7,71,72,73],[2,6]),([1,2,6,7,71,72,73,82],[2,6]),([1,2,6,7,71,72,73],[2,6]),([1,2,71,72,73,95],[2]),([4],[]),([1,2,71,72,73],[2]),([4],[])]
def Yz(t:Tree)(d x73:Int):LSt U:=(L2 [pI 1 d,pL 2,(71,.c (sU .tree t.kids .unk)),pI 72 (t.kids.length:Int),pI 73 x73] [(.loc 2,(enc .tree t))])
abbrev Z9B(N:Nat):=awp cfg (Z1 (Yx N)) (Y8 cfg (Z1 (Yx N))) Try.f94.ntmps Z2U
abbrev Z8O(N:Nat):=ZgD cfg (Z1 (Yx N)) (Y8 cfg (Z1 (Yx N))) Try.f94.ntmps Z2U
theorem Zsc(N:Nat)(t:Tree)(d:Int)(Q:QT)(h:((t.kind==0)=true->Q .ret (L2 [(4,.c (.bool (bif (((t.words.length:Int):Int)==0) then (((t.kids.length:Int):Int)==0) else false)))] []))/\((t.kind==0)=false->((t.kind==10)=true->Q .ret (L2 [(4,.c (.bool (bif (((t.words.length:Int):Int)==1) then (((t.kids.length:Int):Int)==0) else false)))] []))/\((t.kind==10)=false->((d==0)=true->Q .ret (L2 [pB 4 false] []))/\((d==0)=false->((t.kind==1)=true->((bif (decide ((65536:Int)<=(t.words.length:Int))) then true else (decide ((65536:Int)<=(t.kids.length:Int))))=true->Q .ret (L2 [pB 4 false] []))/\((bif (decide ((65536:Int)<=(t.words.length:Int))) then true else (decide ((65536:Int)<=(t.kids.length:Int))))=false->Zk (AW (Z1 (Yx N)) Try.f94 Z2U [1,1,0,1,0,0]) (Yz t d 0) (xB 1 (SW (Z1 (Yx N)) Try.f94 Z2U [1,1,1] Q))))/\((t.kind==1)=false->(Z5G (t.kind,()))/\(((bif (bif (!(decide (2<=t.kind/\t.kind<=9))) then true else (decide ((0:Int) < (t.words.length:Int)))) then true else (decide ((1048576:Int)<=(t.kids.length:Int))))=true->Q .ret (L2 [pB 4 false] []))/\((bif (bif (!(decide (2<=t.kind/\t.kind<=9))) then true else (decide ((0:Int) < (t.words.length:Int)))) then true else (decide ((1048576:Int)<=(t.kids.length:Int))))=false->Zk (AW (Z1 (Yx N)) Try.f94 Z2U [1,1,0,1,0,0]) (Yz t d 0) (xB 1 (SW (Z1 (Yx N)) Try.f94 Z2U [1,1,1] Q))))))))):
  AW (Z1 (Yx N)) Try.f94 Z2U [] (L2 [(0,.agg (enc .tree t)),pI 1 d] []) Q:=by
 have e:(AW (Z1 (Yx N)) Try.f94 Z2U [] (L2 [(0,.agg (enc .tree t)),pI 1 d] []) Q)=(let zz6:=(decide ((65536:Int)<=(t.kids.length:Int)));let zz5:=(decide ((1048576:Int)<=(t.kids.length:Int)));let zz4:=((t.words.length:Int)==1);let zz3:=((t.words.length:Int)==0);let zz2:=(!(decide (2<=t.kind/\t.kind<=9)));let zz1:=(decide ((65536:Int)<=(t.words.length:Int)));let zz0:=(bif zz2 then true else (decide ((0:Int) < (t.words.length:Int))));(((t.kind==0)=true->(Tr (zz3=true))/\(Tr (zz3=true))/\(Tr (zz3=true))/\(Tr (zz3=true))/\(Q .ret (L2 [pB 4 (bif zz3 then ((t.kids.length:Int)==0) else false)] [])))/\((t.kind==0)=false->(((t.kind==10)=true->(Tr (zz4=true))/\(Tr (zz4=true))/\(Tr (zz4=true))/\(Tr (zz4=true))/\(Q .ret (L2 [pB 4 (bif zz4 then ((t.kids.length:Int)==0) else false)] [])))/\((t.kind==10)=false->((((d:Int)==0)=true->(Q .ret (L2 [pB 4 false] [])))/\(((d:Int)==0)=false->(((t.kind==1)=true->(Tr ((!zz1)=true))/\(Tr ((!zz1)=true))/\(Tr ((!zz1)=true))/\(zz1=false->(!zz1)=true)/\(((bif zz1 then true else zz6)=true->(Q .ret (L2 [pB 4 false] [])))/\((bif zz1 then true else zz6)=false->(Zk (Z9B N (cd Try.f94 [1,1,0,1,0,0])) (Yz t d 0) (xB 1 (Z8O N (cd Try.f94 [1,1,1]) Q))))))/\((t.kind==1)=false->(Z5G (t.kind,()))/\(Tr ((!zz2)=true))/\(Tr ((!zz2)=true))/\(Tr ((!zz2)=true))/\(zz2=false->(!zz2)=true)/\(Tr ((!zz0)=true))/\(Tr ((!zz0)=true))/\(Tr ((!zz0)=true))/\(zz0=false->(!zz0)=true)/\(((bif zz0 then true else zz5)=true->(Q .ret (L2 [pB 4 false] [])))/\((bif zz0 then true else zz5)=false->(Zk (Z9B N (cd Try.f94 [1,1,0,1,0,0])) (Yz t d 0) (xB 1 (Z8O N (cd Try.f94 [1,1,1]) Q)))))))))))))):=by kernel_rfl
 exact e.mpr ⟨fun c_12=> ⟨id,id,id,(by generalize (((t.words.length:Int):Int)==0)=b0;revert b0;decide),(h.1 c_12)⟩,fun c_12=> ⟨fun c_13=> ⟨id,id,id,(by generalize (((t.words.length:Int):Int)==1)=b0;revert b0;decide),((h.2 c_12).1 c_13)⟩,fun c_13=> ⟨fun c_14=> (((h.2 c_12).2 c_13).1 c_14),fun c_14=> ⟨fun c_15=> ⟨id,id,id,(by generalize (decide ((65536:Int)<=(t.words.length:Int)))=b0;revert b0;decide),⟨fun c_16=> (((((h.2 c_12).2 c_13).2 c_14).1 c_15).1 c_16),fun c_16=> (((((h.2 c_12).2 c_13).2 c_14).1 c_15).2 c_16)⟩⟩,fun c_15=> ⟨((((h.2 c_12).2 c_13).2 c_14).2 c_15).1,id,id,id,(by generalize (decide (2<=t.kind/\t.kind<=9))=b0;revert b0;decide),id,id,id,(by generalize (decide ((0:Int) < (t.words.length:Int)))=b0;generalize (decide (2<=t.kind/\t.kind<=9))=b1;revert b0 b1;decide),⟨fun c_17=> (((((h.2 c_12).2 c_13).2 c_14).2 c_15).2.1 c_17),fun c_17=> (((((h.2 c_12).2 c_13).2 c_14).2 c_15).2.2 c_17)⟩⟩⟩⟩⟩⟩
theorem Zkk(N:Nat)(t:Tree)(d x73:Int)(N0:NT)(Q:QT)(h:((decide (x73 < (t.kids.length:Int)))=true->((0:Int)<=x73/\x73 < (t.kids.length:Int))/\(((t.kind !=1)=true->(Z7M (t.kind,(Tree.mk (Tree.kind (t.kids.getD x73.toNat Tree.nil)) (Tree.words (t.kids.getD x73.toNat Tree.nil)) (Tree.kids (t.kids.getD x73.toNat Tree.nil))),()))/\(((!(!(YE t.kind (Tree.mk (Tree.kind (t.kids.getD x73.toNat Tree.nil)) (Tree.words (t.kids.getD x73.toNat Tree.nil)) (Tree.kids (t.kids.getD x73.toNat Tree.nil))))))=true->InR (d - 1))/\((!(!(YE t.kind (Tree.mk (Tree.kind (t.kids.getD x73.toNat Tree.nil)) (Tree.words (t.kids.getD x73.toNat Tree.nil)) (Tree.kids (t.kids.getD x73.toNat Tree.nil))))))=true->Z30 ((Tree.mk (Tree.kind (t.kids.getD x73.toNat Tree.nil)) (Tree.words (t.kids.getD x73.toNat Tree.nil)) (Tree.kids (t.kids.getD x73.toNat Tree.nil))),(d - 1),()))/\((!(!(YE t.kind (Tree.mk (Tree.kind (t.kids.getD x73.toNat Tree.nil)) (Tree.words (t.kids.getD x73.toNat Tree.nil)) (Tree.kids (t.kids.getD x73.toNat Tree.nil))))))=true->Z8t ((Tree.mk (Tree.kind (t.kids.getD x73.toNat Tree.nil)) (Tree.words (t.kids.getD x73.toNat Tree.nil)) (Tree.kids (t.kids.getD x73.toNat Tree.nil))),(d - 1),()) < N)/\(((bif (!(YE t.kind (Tree.mk (Tree.kind (t.kids.getD x73.toNat Tree.nil)) (Tree.words (t.kids.getD x73.toNat Tree.nil)) (Tree.kids (t.kids.getD x73.toNat Tree.nil))))) then true else (!(Z8 (Tree.mk (Tree.kind (t.kids.getD x73.toNat Tree.nil)) (Tree.words (t.kids.getD x73.toNat Tree.nil)) (Tree.kids (t.kids.getD x73.toNat Tree.nil))) (d - 1))))=true->Q .ret (L2 [pB 4 false] []))/\((bif (!(YE t.kind (Tree.mk (Tree.kind (t.kids.getD x73.toNat Tree.nil)) (Tree.words (t.kids.getD x73.toNat Tree.nil)) (Tree.kids (t.kids.getD x73.toNat Tree.nil))))) then true else (!(Z8 (Tree.mk (Tree.kind (t.kids.getD x73.toNat Tree.nil)) (Tree.words (t.kids.getD x73.toNat Tree.nil)) (Tree.kids (t.kids.getD x73.toNat Tree.nil))) (d - 1))))=false->(InR (x73+1))/\(N0 (Yz t d (x73+1)))))))/\((t.kind !=1)=false->((!(!(((Tree.kind (t.kids.getD x73.toNat Tree.nil)):Int) !=10)))=true->InR (d - 1))/\((!(!(((Tree.kind (t.kids.getD x73.toNat Tree.nil)):Int) !=10)))=true->Z30 ((Tree.mk (Tree.kind (t.kids.getD x73.toNat Tree.nil)) (Tree.words (t.kids.getD x73.toNat Tree.nil)) (Tree.kids (t.kids.getD x73.toNat Tree.nil))),(d - 1),()))/\((!(!(((Tree.kind (t.kids.getD x73.toNat Tree.nil)):Int) !=10)))=true->Z8t ((Tree.mk (Tree.kind (t.kids.getD x73.toNat Tree.nil)) (Tree.words (t.kids.getD x73.toNat Tree.nil)) (Tree.kids (t.kids.getD x73.toNat Tree.nil))),(d - 1),()) < N)/\(((bif (!(((Tree.kind (t.kids.getD x73.toNat Tree.nil)):Int) !=10)) then true else (!(Z8 (Tree.mk (Tree.kind (t.kids.getD x73.toNat Tree.nil)) (Tree.words (t.kids.getD x73.toNat Tree.nil)) (Tree.kids (t.kids.getD x73.toNat Tree.nil))) (d - 1))))=true->Q .ret (L2 [pB 4 false] []))/\((bif (!(((Tree.kind (t.kids.getD x73.toNat Tree.nil)):Int) !=10)) then true else (!(Z8 (Tree.mk (Tree.kind (t.kids.getD x73.toNat Tree.nil)) (Tree.words (t.kids.getD x73.toNat Tree.nil)) (Tree.kids (t.kids.getD x73.toNat Tree.nil))) (d - 1))))=false->(InR (x73+1))/\(N0 (Yz t d (x73+1))))))))/\((decide (x73 < (t.kids.length:Int)))=false->Q .ret (L2 [pB 4 true] []))):
  AW (Z1 (Yx N)) Try.f94 Z2U [1,1,0,1,0,0] (Yz t d x73) (xT N0 (xB 1 (SW (Z1 (Yx N)) Try.f94 Z2U [1,1,1] Q))):=by
 have e:(AW (Z1 (Yx N)) Try.f94 Z2U [1,1,0,1,0,0] (Yz t d x73) (xT N0 (xB 1 (SW (Z1 (Yx N)) Try.f94 Z2U [1,1,1] Q))))=(let zz2:=(!(Z8 (Tree.mk (Tree.kind (t.kids.getD x73.toNat Tree.nil)) (Tree.words (t.kids.getD x73.toNat Tree.nil)) (Tree.kids (t.kids.getD x73.toNat Tree.nil))) ((d:Int) - 1)));let zz1:=(!(((Tree.kind (t.kids.getD x73.toNat Tree.nil)):Int) !=10));let zz0:=(!(YE t.kind (Tree.mk (Tree.kind (t.kids.getD x73.toNat Tree.nil)) (Tree.words (t.kids.getD x73.toNat Tree.nil)) (Tree.kids (t.kids.getD x73.toNat Tree.nil)))));(((decide ((x73:Int) < (t.kids.length:Int)))=true->((0:Int)<=x73/\x73 < (t.kids.length:Int))/\(((t.kind !=1)=true->(Z7M (t.kind,(Tree.mk (Tree.kind (t.kids.getD x73.toNat Tree.nil)) (Tree.words (t.kids.getD x73.toNat Tree.nil)) (Tree.kids (t.kids.getD x73.toNat Tree.nil))),()))/\((Tr ((!zz0)=true))/\((!zz0)=true->InR ((d:Int) - 1))/\(Tr ((!zz0)=true))/\(Tr ((!zz0)=true))/\((!zz0)=true->Z30 ((Tree.mk (Tree.kind (t.kids.getD x73.toNat Tree.nil)) (Tree.words (t.kids.getD x73.toNat Tree.nil)) (Tree.kids (t.kids.getD x73.toNat Tree.nil))),((d:Int) - 1),()))/\((!zz0)=true->Z8t ((Tree.mk (Tree.kind (t.kids.getD x73.toNat Tree.nil)) (Tree.words (t.kids.getD x73.toNat Tree.nil)) (Tree.kids (t.kids.getD x73.toNat Tree.nil))),((d:Int) - 1),()) < N)/\(Tr ((!zz0)=true))/\(zz0=false->(!zz0)=true)/\(((bif zz0 then true else zz2)=true->(Q .ret (L2 [pB 4 false] [])))/\((bif zz0 then true else zz2)=false->(InR ((x73:Int)+1))/\(N0 (Yz t d ((x73:Int)+1)))))))/\((t.kind !=1)=false->(Tr ((!zz1)=true))/\((!zz1)=true->InR ((d:Int) - 1))/\(Tr ((!zz1)=true))/\(Tr ((!zz1)=true))/\((!zz1)=true->Z30 ((Tree.mk (Tree.kind (t.kids.getD x73.toNat Tree.nil)) (Tree.words (t.kids.getD x73.toNat Tree.nil)) (Tree.kids (t.kids.getD x73.toNat Tree.nil))),((d:Int) - 1),()))/\((!zz1)=true->Z8t ((Tree.mk (Tree.kind (t.kids.getD x73.toNat Tree.nil)) (Tree.words (t.kids.getD x73.toNat Tree.nil)) (Tree.kids (t.kids.getD x73.toNat Tree.nil))),((d:Int) - 1),()) < N)/\(Tr ((!zz1)=true))/\(zz1=false->(!zz1)=true)/\(((bif zz1 then true else zz2)=true->(Q .ret (L2 [pB 4 false] [])))/\((bif zz1 then true else zz2)=false->(InR ((x73:Int)+1))/\(N0 (Yz t d ((x73:Int)+1))))))))/\((decide ((x73:Int) < (t.kids.length:Int)))=false->(Q .ret (L2 [pB 4 true] []))))):=by kernel_rfl
 exact e.mpr ⟨fun c_18=> ⟨(h.1 c_18).1,⟨fun c_19=> ⟨((h.1 c_18).2.1 c_19).1,⟨id,((h.1 c_18).2.1 c_19).2.1,id,id,((h.1 c_18).2.1 c_19).2.2.1,((h.1 c_18).2.1 c_19).2.2.2.1,id,(by generalize (YE t.kind (Tree.mk (Tree.kind (t.kids.getD x73.toNat Tree.nil)) (Tree.words (t.kids.getD x73.toNat Tree.nil)) (Tree.kids (t.kids.getD x73.toNat Tree.nil))))=b0;revert b0;decide),⟨fun c_20=> (((h.1 c_18).2.1 c_19).2.2.2.2.1 c_20),fun c_20=> ⟨(((h.1 c_18).2.1 c_19).2.2.2.2.2 c_20).1,(((h.1 c_18).2.1 c_19).2.2.2.2.2 c_20).2⟩⟩⟩⟩,fun c_19=> ⟨id,((h.1 c_18).2.2 c_19).1,id,id,((h.1 c_18).2.2 c_19).2.1,((h.1 c_18).2.2 c_19).2.2.1,id,(by generalize (((Tree.kind (t.kids.getD x73.toNat Tree.nil)):Int) !=10)=b0;revert b0;decide),⟨fun c_21=> (((h.1 c_18).2.2 c_19).2.2.2.1 c_21),fun c_21=> ⟨(((h.1 c_18).2.2 c_19).2.2.2.2 c_21).1,(((h.1 c_18).2.2 c_19).2.2.2.2 c_21).2⟩⟩⟩⟩⟩,fun c_18=> (h.2 c_18)⟩
def ZpV(N:Nat)(t:Tree)(d:Int):Prop:=AW (Z1 (Yx N)) Try.f94 Z2U [] (Zb (Zf4.can (t,d,())) []) (EQ Try.f94 (Zdr (t,d,())) [])
theorem ZnF(ZpA:CT 116 Z3J)(Zpz:CT 117 Z3I)(hb:∀ (N:Nat) (t:Tree) (d:Int) (_:Unit),Z30 (t,d,())->Z8t (t,d,()) < N+1->ZpV N t d):CT 94 Z6G:=
 Yg (μ:=Z8t) (l:=[(116,Z3J),(117,Z3I)]) Z9 rfl (⟨ZpA,Zpz,trivial⟩) Z2U Try.func94 rfl rfl 2 (fun _=> rfl) (by decide) (fun N ⟨t,d,_⟩=> hb N t d ())
def ZcD:List (FuncId × Fs U):=[(94,Z6G)]
theorem Zsz(t:Tree)(Q:QT)(h:(Z30 ((Tree.mk t.kind t.words t.kids),64,()))/\(Q .ret (L2 [pB 2 (Z8 (Tree.mk t.kind t.words t.kids) 64)] []))):
  AW (Z1 ZcD) Try.f71 Zpm [] (L2 [(0,.agg (enc .tree t))] []) Q:=by
 have e:(AW (Z1 ZcD) Try.f71 Zpm [] (L2 [(0,.agg (enc .tree t))] []) Q)=(type_of% h):=by kernel_rfl
 exact e.mpr ⟨h.1,h.2⟩
def Zqi(t:Tree):Prop:=AW (Z1 ZcD) Try.f71 Zpm [] (Zb (Zd0.can (t,())) []) (EQ Try.f71 (ZmR (t,())) [])
theorem ZnZ(c94:CT 94 Z6G)(hb:∀ (t:Tree) (_:Unit),Zhn (t,())->Zqi t):CT 71 Z6V:=
 Z0 (l:=[(94,Z6G)]) Z9 rfl (⟨c94,trivial⟩) Zpm Try.func71 rfl rfl 1 (fun _=> rfl) (by decide) (fun ⟨t,_⟩=> hb t ())
def JD(N:Nat):List (FuncId × Fs U):=(43,fs Zf4 (fun a=> [Z30 a,Z8t a < N]) Zdr) ::[(58,Z1I)]
def Z6e:Z6 U:=lvl [([1,2],[2]),([1,2,10],[2]),([4],[]),([1,2,23],[2]),([4],[]),([1,2,68],[2]),([4],[]),([1,2,77],[2]),([4],[]),([1,2,5],[2]),([1,2,5,82],[2]),([1,2,5],[2]),([1,2,5,6],[2,6]),([1,2,5,6,94],[2,6]),([4],[]),([1,2,5,6,7],[2,6]),([1,2,5,131],[2]),([4],[]),([4],[])]
def Z0m(t:Tree)(d x5:Int):LSt U:=(L2 [pI 1 d,pL 2,pI 5 x5] [(.loc 2,(enc .tree t))])
abbrev Zgh(N:Nat):=awp cfg (Z1 (JD N)) (Y8 cfg (Z1 (JD N))) Try.f43.ntmps Z6e
abbrev Zfm(N:Nat):=ZgD cfg (Z1 (JD N)) (Y8 cfg (Z1 (JD N))) Try.f43.ntmps Z6e
theorem ZsW(N:Nat)(t:Tree)(d:Int)(Q:QT)(h:((t.kind==0)=true->Q .ret (L2 [(4,.c (.bool (bif (((t.words.length:Int):Int)==0) then (((t.kids.length:Int):Int)==0) else false)))] []))/\((t.kind==0)=false->((t.kind==10)=true->Q .ret (L2 [(4,.c (.bool (bif (((t.words.length:Int):Int)==1) then (((t.kids.length:Int):Int)==0) else false)))] []))/\((t.kind==10)=false->((bif (bif (bif (bif (bif (decide (t.kind < 0)) then true else (decide ((10:Int) < t.kind))) then true else (d==0)) then true else (decide ((65536:Int)<=(t.words.length:Int)))) then true else (bif (t.kind==1) then (decide ((65536:Int)<=(t.kids.length:Int))) else false)) then true else (decide ((1048576:Int)<=(t.kids.length:Int))))=true->Q .ret (L2 [pB 4 false] []))/\((bif (bif (bif (bif (bif (decide (t.kind < 0)) then true else (decide ((10:Int) < t.kind))) then true else (d==0)) then true else (decide ((65536:Int)<=(t.words.length:Int)))) then true else (bif (t.kind==1) then (decide ((65536:Int)<=(t.kids.length:Int))) else false)) then true else (decide ((1048576:Int)<=(t.kids.length:Int))))=false->((bif (decide ((1:Int) < t.kind)) then (decide ((0:Int) < (t.words.length:Int))) else false)=true->Q .ret (L2 [pB 4 false] []))/\((bif (decide ((1:Int) < t.kind)) then (decide ((0:Int) < (t.words.length:Int))) else false)=false->Zk (AW (Z1 (JD N)) Try.f43 Z6e [1,1,1,1,1,0,1,0,0]) (Z0m t d 0) (xB 0 (SW (Z1 (JD N)) Try.f43 Z6e [1,1,1,1,1,1] Q))))))):
  AW (Z1 (JD N)) Try.f43 Z6e [] (L2 [(0,.agg (enc .tree t)),pI 1 d] []) Q:=by
 have e:(AW (Z1 (JD N)) Try.f43 Z6e [] (L2 [(0,.agg (enc .tree t)),pI 1 d] []) Q)=(let zz7:=(decide ((1048576:Int)<=(t.kids.length:Int)));let zz6:=(decide (t.kind < 0));let zz5:=((t.words.length:Int)==1);let zz4:=((t.words.length:Int)==0);let zz3:=(decide ((1:Int) < t.kind));let zz2:=(bif (t.kind==1) then (decide ((65536:Int)<=(t.kids.length:Int))) else false);let zz1:=(bif zz6 then true else (decide ((10:Int) < t.kind)));let zz0:=(bif (bif zz1 then true else ((d:Int)==0)) then true else (decide ((65536:Int)<=(t.words.length:Int))));(((t.kind==0)=true->(Tr (zz4=true))/\(Tr (zz4=true))/\(Tr (zz4=true))/\(Tr (zz4=true))/\(Q .ret (L2 [pB 4 (bif zz4 then ((t.kids.length:Int)==0) else false)] [])))/\((t.kind==0)=false->(((t.kind==10)=true->(Tr (zz5=true))/\(Tr (zz5=true))/\(Tr (zz5=true))/\(Tr (zz5=true))/\(Q .ret (L2 [pB 4 (bif zz5 then ((t.kids.length:Int)==0) else false)] [])))/\((t.kind==10)=false->(Tr ((!zz6)=true))/\(Tr ((!zz6)=true))/\(zz6=false->(!zz6)=true)/\(Tr ((!zz1)=true))/\(zz1=false->(!zz1)=true)/\(Tr ((!(bif zz1 then true else ((d:Int)==0)))=true))/\(Tr ((!(bif zz1 then true else ((d:Int)==0)))=true))/\(Tr ((!(bif zz1 then true else ((d:Int)==0)))=true))/\((bif zz1 then true else ((d:Int)==0))=false->(!(bif zz1 then true else ((d:Int)==0)))=true)/\(Tr ((!zz0)=true))/\(Tr ((!zz0)=true))/\(Tr ((!zz0)=true))/\(Tr (((!zz0) && (t.kind==1))=true))/\(Tr (((!zz0) && (t.kind==1))=true))/\(Tr (((!zz0) && (t.kind==1))=true))/\((!zz0)=true->(True->(!zz0)=true))/\((!zz0)=true->((t.kind==1)=true->((!zz0) && (t.kind==1))=true))/\(zz0=false->(!zz0)=true)/\(Tr ((!(bif zz0 then true else zz2))=true))/\(Tr ((!(bif zz0 then true else zz2))=true))/\(Tr ((!(bif zz0 then true else zz2))=true))/\((bif zz0 then true else zz2)=false->(!(bif zz0 then true else zz2))=true)/\(((bif (bif zz0 then true else zz2) then true else zz7)=true->(Q .ret (L2 [pB 4 false] [])))/\((bif (bif zz0 then true else zz2) then true else zz7)=false->(Tr (zz3=true))/\(Tr (zz3=true))/\(Tr (zz3=true))/\(Tr (zz3=true))/\(((bif zz3 then (decide ((0:Int) < (t.words.length:Int))) else false)=true->(Q .ret (L2 [pB 4 false] [])))/\((bif zz3 then (decide ((0:Int) < (t.words.length:Int))) else false)=false->(Zk (Zgh N (cd Try.f43 [1,1,1,1,1,0,1,0,0])) (Z0m t d 0) (xB 0 (Zfm N (cd Try.f43 [1,1,1,1,1,1]) Q)))))))))))):=by kernel_rfl
 exact e.mpr ⟨fun c_22=> ⟨id,id,id,(by generalize (((t.words.length:Int):Int)==0)=b0;revert b0;decide),(h.1 c_22)⟩,fun c_22=> ⟨fun c_23=> ⟨id,id,id,(by generalize (((t.words.length:Int):Int)==1)=b0;revert b0;decide),((h.2 c_22).1 c_23)⟩,fun c_23=> ⟨id,id,(by generalize (decide ((t.kind:Int) < 0))=b0;revert b0;decide),id,(by generalize (decide ((10:Int) < t.kind))=b0;generalize (decide ((t.kind:Int) < 0))=b1;revert b0 b1;decide),id,id,id,(by generalize (decide ((10:Int) < t.kind))=b0;generalize (decide ((t.kind:Int) < 0))=b1;generalize ((d:Int)==0)=b2;revert b0 b1 b2;decide),id,id,id,id,id,id,(by generalize (decide ((65536:Int)<=(t.words.length:Int)))=b0;generalize (decide ((10:Int) < t.kind))=b1;generalize (decide ((t.kind:Int) < 0))=b2;generalize ((d:Int)==0)=b3;revert b0 b1 b2 b3;decide),(by generalize (decide ((65536:Int)<=(t.words.length:Int)))=b0;generalize (decide ((10:Int) < t.kind))=b1;generalize (decide ((t.kind:Int) < 0))=b2;generalize ((t.kind:Int)==1)=b3;generalize ((d:Int)==0)=b4;revert b0 b1 b2 b3 b4;decide),(by generalize (decide ((65536:Int)<=(t.words.length:Int)))=b0;generalize (decide ((10:Int) < t.kind))=b1;generalize (decide ((t.kind:Int) < 0))=b2;generalize ((d:Int)==0)=b3;revert b0 b1 b2 b3;decide),id,id,id,(by generalize (decide ((65536:Int)<=(t.words.length:Int)))=b0;generalize (decide ((65536:Int)<=(t.kids.length:Int)))=b1;generalize (decide ((10:Int) < t.kind))=b2;generalize (decide ((t.kind:Int) < 0))=b3;generalize ((t.kind:Int)==1)=b4;generalize ((d:Int)==0)=b5;revert b0 b1 b2 b3 b4 b5;decide),⟨fun c_24=> (((h.2 c_22).2 c_23).1 c_24),fun c_24=> ⟨id,id,id,(by generalize (decide ((1:Int) < t.kind))=b0;revert b0;decide),⟨fun c_25=> ((((h.2 c_22).2 c_23).2 c_24).1 c_25),fun c_25=> ((((h.2 c_22).2 c_23).2 c_24).2 c_25)⟩⟩⟩⟩⟩⟩
theorem ZkS(N:Nat)(t:Tree)(d x5:Int)(N0:NT)(Q:QT)(h:((decide (x5 < (t.kids.length:Int)))=true->((0:Int)<=x5/\x5 < (t.kids.length:Int))/\((InR (d - 1))/\(Z30 ((Tree.mk (Tree.kind (t.kids.getD x5.toNat Tree.nil)) (Tree.words (t.kids.getD x5.toNat Tree.nil)) (Tree.kids (t.kids.getD x5.toNat Tree.nil))),(d - 1),()))/\(Z8t ((Tree.mk (Tree.kind (t.kids.getD x5.toNat Tree.nil)) (Tree.words (t.kids.getD x5.toNat Tree.nil)) (Tree.kids (t.kids.getD x5.toNat Tree.nil))),(d - 1),()) < N)/\(((!(Z8 (Tree.mk (Tree.kind (t.kids.getD x5.toNat Tree.nil)) (Tree.words (t.kids.getD x5.toNat Tree.nil)) (Tree.kids (t.kids.getD x5.toNat Tree.nil))) (d - 1)))=true->Q .ret (L2 [pB 4 false] []))/\((!(Z8 (Tree.mk (Tree.kind (t.kids.getD x5.toNat Tree.nil)) (Tree.words (t.kids.getD x5.toNat Tree.nil)) (Tree.kids (t.kids.getD x5.toNat Tree.nil))) (d - 1)))=false->(((!(bif ((bif (decide ((2:Int)<=t.kind)) then (decide (t.kind<=7)) else false) !=(((Tree.kind (t.kids.getD x5.toNat Tree.nil)):Int)==10)) then true else (bif (t.kind==9) then (((Tree.kind (t.kids.getD x5.toNat Tree.nil)):Int) !=1) else false))) && (bif (decide ((2:Int)<=t.kind)) then (decide (t.kind<=7)) else false))=true->InR (t.kind - 2))/\(((!(bif ((bif (decide ((2:Int)<=t.kind)) then (decide (t.kind<=7)) else false) !=(((Tree.kind (t.kids.getD x5.toNat Tree.nil)):Int)==10)) then true else (bif (t.kind==9) then (((Tree.kind (t.kids.getD x5.toNat Tree.nil)):Int) !=1) else false))) && (bif (decide ((2:Int)<=t.kind)) then (decide (t.kind<=7)) else false))=true->(0:Int)<=0/\0 < ((Tree.words (t.kids.getD x5.toNat Tree.nil)).length:Int))/\(((!(bif ((bif (decide ((2:Int)<=t.kind)) then (decide (t.kind<=7)) else false) !=(((Tree.kind (t.kids.getD x5.toNat Tree.nil)):Int)==10)) then true else (bif (t.kind==9) then (((Tree.kind (t.kids.getD x5.toNat Tree.nil)):Int) !=1) else false))) && (bif (decide ((2:Int)<=t.kind)) then (decide (t.kind<=7)) else false))=true->Z95 ((t.kind - 2),(List.getD (Tree.words (t.kids.getD x5.toNat Tree.nil)) (Int.toNat 0) (0:Int)),()))/\(((bif (bif ((bif (decide ((2:Int)<=t.kind)) then (decide (t.kind<=7)) else false) !=(((Tree.kind (t.kids.getD x5.toNat Tree.nil)):Int)==10)) then true else (bif (t.kind==9) then (((Tree.kind (t.kids.getD x5.toNat Tree.nil)):Int) !=1) else false)) then true else (bif (bif (decide ((2:Int)<=t.kind)) then (decide (t.kind<=7)) else false) then (!(J6 (t.kind - 2) (List.getD (Tree.words (t.kids.getD x5.toNat Tree.nil)) (Int.toNat 0) (0:Int)))) else false))=true->Q .ret (L2 [pB 4 false] []))/\((bif (bif ((bif (decide ((2:Int)<=t.kind)) then (decide (t.kind<=7)) else false) !=(((Tree.kind (t.kids.getD x5.toNat Tree.nil)):Int)==10)) then true else (bif (t.kind==9) then (((Tree.kind (t.kids.getD x5.toNat Tree.nil)):Int) !=1) else false)) then true else (bif (bif (decide ((2:Int)<=t.kind)) then (decide (t.kind<=7)) else false) then (!(J6 (t.kind - 2) (List.getD (Tree.words (t.kids.getD x5.toNat Tree.nil)) (Int.toNat 0) (0:Int)))) else false))=false->(InR (x5+1))/\(N0 (Z0m t d (x5+1)))))))))/\((decide (x5 < (t.kids.length:Int)))=false->Q .ret (L2 [pB 4 true] []))):
  AW (Z1 (JD N)) Try.f43 Z6e [1,1,1,1,1,0,1,0,0] (Z0m t d x5) (xT N0 (xB 0 (SW (Z1 (JD N)) Try.f43 Z6e [1,1,1,1,1,1] Q))):=by
 have e:(AW (Z1 (JD N)) Try.f43 Z6e [1,1,1,1,1,0,1,0,0] (Z0m t d x5) (xT N0 (xB 0 (SW (Z1 (JD N)) Try.f43 Z6e [1,1,1,1,1,1] Q))))=(let zz5:=(decide ((2:Int)<=t.kind));let zz4:=(!(J6 (t.kind - 2) (List.getD (Tree.words (t.kids.getD x5.toNat Tree.nil)) (Int.toNat 0) (0:Int))));let zz3:=(!(Z8 (Tree.mk (Tree.kind (t.kids.getD x5.toNat Tree.nil)) (Tree.words (t.kids.getD x5.toNat Tree.nil)) (Tree.kids (t.kids.getD x5.toNat Tree.nil))) ((d:Int) - 1)));let zz2:=(((Tree.kind (t.kids.getD x5.toNat Tree.nil)):Int)==10);let zz1:=(bif zz5 then (decide (t.kind<=7)) else false);let zz0:=(bif (zz1 !=zz2) then true else (bif (t.kind==9) then (((Tree.kind (t.kids.getD x5.toNat Tree.nil)):Int) !=1) else false));(((decide ((x5:Int) < (t.kids.length:Int)))=true->((0:Int)<=x5/\x5 < (t.kids.length:Int))/\((InR ((d:Int) - 1))/\(Z30 ((Tree.mk (Tree.kind (t.kids.getD x5.toNat Tree.nil)) (Tree.words (t.kids.getD x5.toNat Tree.nil)) (Tree.kids (t.kids.getD x5.toNat Tree.nil))),((d:Int) - 1),()))/\(Z8t ((Tree.mk (Tree.kind (t.kids.getD x5.toNat Tree.nil)) (Tree.words (t.kids.getD x5.toNat Tree.nil)) (Tree.kids (t.kids.getD x5.toNat Tree.nil))),((d:Int) - 1),()) < N)/\((zz3=true->(Q .ret (L2 [pB 4 false] [])))/\(zz3=false->(Tr (zz5=true))/\(Tr (zz5=true))/\(Tr (zz5=true))/\((Tr ((!(zz1 !=zz2))=true))/\(Tr ((!(zz1 !=zz2))=true))/\(Tr ((!(zz1 !=zz2))=true))/\(Tr (((!(zz1 !=zz2)) && (t.kind==9))=true))/\(Tr (((!(zz1 !=zz2)) && (t.kind==9))=true))/\((!(zz1 !=zz2))=true->(True->(!(zz1 !=zz2))=true))/\((!(zz1 !=zz2))=true->((t.kind==9)=true->((!(zz1 !=zz2)) && (t.kind==9))=true))/\((zz1 !=zz2)=false->(!(zz1 !=zz2))=true)/\(Tr ((!zz0)=true))/\(Tr (((!zz0) && zz1)=true))/\(Tr (((!zz0) && zz1)=true))/\(((!zz0) && zz1)=true->InR (t.kind - 2))/\(Tr (((!zz0) && zz1)=true))/\(Tr (((!zz0) && zz1)=true))/\(((!zz0) && zz1)=true->(0:Int)<=0/\0 < ((Tree.words (t.kids.getD x5.toNat Tree.nil)).length:Int))/\(Tr (((!zz0) && zz1)=true))/\(Tr (((!zz0) && zz1)=true))/\(Tr (((!zz0) && zz1)=true))/\(((!zz0) && zz1)=true->Z95 ((t.kind - 2),(List.getD (Tree.words (t.kids.getD x5.toNat Tree.nil)) (Int.toNat 0) (0:Int)),()))/\(Tr (((!zz0) && zz1)=true))/\((!zz0)=true->(True->(!zz0)=true))/\((!zz0)=true->(zz1=true->((!zz0) && zz1)=true))/\(zz0=false->(!zz0)=true)/\(((bif zz0 then true else (bif zz1 then zz4 else false))=true->(Q .ret (L2 [pB 4 false] [])))/\((bif zz0 then true else (bif zz1 then zz4 else false))=false->(InR ((x5:Int)+1))/\(N0 (Z0m t d ((x5:Int)+1))))))))))/\((decide ((x5:Int) < (t.kids.length:Int)))=false->(Q .ret (L2 [pB 4 true] []))))):=by kernel_rfl
 exact e.mpr ⟨fun c_26=> ⟨(h.1 c_26).1,⟨(h.1 c_26).2.1,(h.1 c_26).2.2.1,(h.1 c_26).2.2.2.1,⟨fun c_27=> ((h.1 c_26).2.2.2.2.1 c_27),fun c_27=> ⟨id,id,(by generalize (decide ((2:Int)<=t.kind))=b0;revert b0;decide),⟨id,id,id,id,id,(by generalize ((bif (decide ((2:Int)<=t.kind)) then (decide ((t.kind:Int)<=7)) else false) !=(((Tree.kind (t.kids.getD x5.toNat Tree.nil)):Int)==10))=b0;revert b0;decide),(by generalize ((bif (decide ((2:Int)<=t.kind)) then (decide ((t.kind:Int)<=7)) else false) !=(((Tree.kind (t.kids.getD x5.toNat Tree.nil)):Int)==10))=b0;generalize ((t.kind:Int)==9)=b1;revert b0 b1;decide),(by generalize ((bif (decide ((2:Int)<=t.kind)) then (decide ((t.kind:Int)<=7)) else false) !=(((Tree.kind (t.kids.getD x5.toNat Tree.nil)):Int)==10))=b0;revert b0;decide),id,id,id,((h.1 c_26).2.2.2.2.2 c_27).1,id,id,((h.1 c_26).2.2.2.2.2 c_27).2.1,id,id,id,((h.1 c_26).2.2.2.2.2 c_27).2.2.1,id,(by generalize ((bif (decide ((2:Int)<=t.kind)) then (decide ((t.kind:Int)<=7)) else false) !=(((Tree.kind (t.kids.getD x5.toNat Tree.nil)):Int)==10))=b0;generalize (((Tree.kind (t.kids.getD x5.toNat Tree.nil)):Int) !=1)=b1;generalize ((t.kind:Int)==9)=b2;revert b0 b1 b2;decide),(by generalize ((bif (decide ((2:Int)<=t.kind)) then (decide ((t.kind:Int)<=7)) else false) !=(((Tree.kind (t.kids.getD x5.toNat Tree.nil)):Int)==10))=b0;generalize (((Tree.kind (t.kids.getD x5.toNat Tree.nil)):Int) !=1)=b1;generalize (decide ((2:Int)<=t.kind))=b2;generalize (decide ((t.kind:Int)<=7))=b3;generalize ((t.kind:Int)==9)=b4;revert b0 b1 b2 b3 b4;decide),(by generalize ((bif (decide ((2:Int)<=t.kind)) then (decide ((t.kind:Int)<=7)) else false) !=(((Tree.kind (t.kids.getD x5.toNat Tree.nil)):Int)==10))=b0;generalize (((Tree.kind (t.kids.getD x5.toNat Tree.nil)):Int) !=1)=b1;generalize ((t.kind:Int)==9)=b2;revert b0 b1 b2;decide),⟨fun c_28=> (((h.1 c_26).2.2.2.2.2 c_27).2.2.2.1 c_28),fun c_28=> ⟨(((h.1 c_26).2.2.2.2.2 c_27).2.2.2.2 c_28).1,(((h.1 c_26).2.2.2.2.2 c_27).2.2.2.2 c_28).2⟩⟩⟩⟩⟩⟩⟩,fun c_26=> (h.2 c_26)⟩
def ZqF(N:Nat)(t:Tree)(d:Int):Prop:=AW (Z1 (JD N)) Try.f43 Z6e [] (Zb (Zf4.can (t,d,())) []) (EQ Try.f43 (Zdr (t,d,())) [])
theorem Zom(c58:CT 58 Z1I)(hb:∀ (N:Nat) (t:Tree) (d:Int) (_:Unit),Z30 (t,d,())->Z8t (t,d,()) < N+1->ZqF N t d):CT 43 Z6G:=
 Yg (μ:=Z8t) (l:=[(58,Z1I)]) Z9 rfl (⟨c58,trivial⟩) Z6e Try.func43 rfl rfl 2 (fun _=> rfl) (by decide) (fun N ⟨t,d,_⟩=> hb N t d ())
end
end
theorem ZbX(n:Int)(h0:0<=n)(h1:n < 18446744073709551616):IntKind.wrap .u64 (Int.tdiv n 2)=n / 2:=by
 rw [Ql h0]
 simp [IntKind.wrap,IntKind.signed,IntKind.bits]
 omega
theorem Zhy{w:Nat}{n m:Int}(h:0<=n):(n / 2 < 2 ^ w)↔n < 2 ^ (w+1):=by
 have:(2:Int) ^ (w+1)=2 ^ w*2:=by rw [Int.pow_succ]
 omega
theorem c58:Contract Try.prog cfg 58 Z1I:=by
 refine Zob c56 ?_
 intro c n _ hp
 simp only [Z95] at hp
 have hw:=Zgn c
 refine ZsL _ _ _ ?_
 (simp only [vcS])
 refine ⟨trivial,fun h=> Zj rfl ?_,fun h=> ?_⟩
 ·simp only [J6]
  simp
  omega
 ·refine Za (ι:=Int × Int) (fun p=> Z0l c n p.1 p.2) (fun p=> 0<=p.2/\p.2<=wd c/\0<=p.1/\p.1 < 18446744073709551616/\(n < 2 ^ (wd c).toNat↔p.1 < 2 ^ (wd c - p.2).toNat)) (fun p=> (wd c - p.2).toNat) (n,0) rfl ⟨by dsimp only;omega,by dsimp only;omega,by dsimp only;omega,by dsimp only;omega,by simp⟩ ?_
  rintro ⟨m,i⟩ ⟨h1,h2,h3,h4,h5⟩
  dsimp only at*
  refine ZkI _ _ _ _ _ _ ?_
  (simp only [vcS])
  refine ⟨fun hc=> ⟨by omega,by unfold InR;omega,(IntKind.wrap .u64 (Int.tdiv m 2),i+1),rfl,?_,by dsimp only;omega⟩,fun hc=> Zj rfl ?_⟩
  ·rw [ZbX m h3 h4]
   refine ⟨by dsimp only;omega,by dsimp only;omega,by dsimp only;omega,by dsimp only;omega,?_⟩
   dsimp only
   rw [h5,show (wd c - i).toNat=(wd c - (i+1)).toNat+1 by omega]
   exact (Zhy (m:=0) h3).symm
  ·have e:(wd c - i).toNat=0:=by omega
   rw [e] at h5
   simp only [J6]
   rw [Qv]
   simp
   omega
theorem Zj8(n:Int)(w:Nat)(h:0<=n):(Int.fdiv n (2 ^ w)=0)↔n < 2 ^ w:=by
 have hp:(0:Int) < 2 ^ w:=Kb (by omega)
 rw [Xy _ (by omega)]
 constructor
 ·intro h1
  have:=Int.lt_ediv_add_one_mul_self n hp
  rw [h1] at this
  simpa using this
 ·intro h1
  exact Int.ediv_eq_zero_of_lt h h1
theorem Zg0:Contract Try.prog cfg 121 Z1I:=by
 refine Zlg Z3A ?_
 intro c n _ hp
 simp only [Z95] at hp
 have hw:=Zgn c
 refine Zr9 _ _ _ ?_
 refine ⟨trivial,fun h=> by split <;> omega,Zj rfl ?_⟩
 simp only [J6]
 by_cases h0:0<=wd c
 ·rw [if_neg (by omega)]
  simp only [h0,decide_true,cond_true,true_and]
  by_cases h64:wd c=64
  ·simp [h64]
   omega
  ·have:((wd c)==64)=false:=by simpa using h64
   rw [this,cond_false,Qv]
   have hm:min (wd c).toNat (IntKind.bits .u64)=(wd c).toNat:=by
    show min (wd c).toNat 64=_
    omega
   rw [hm]
   simp only [beq_iff_eq,decide_eq_true_eq]
   exact Zj8 n _ hp.1
 ·simp [h0]
theorem ZpA:Contract Try.prog cfg 116 Z3J:=by
 refine Zll ?_
 intro c _ _
 refine Zre _ _ ?_
 refine Zj rfl ?_
 rw [Qv]
 (simp only [vcS])
theorem ZaU{t:Tree}(h:rng t){i:Nat}(hi:i < t.words.length):0<=t.words.getD i 0/\t.words.getD i 0 < 18446744073709551616:=by
 obtain ⟨k,w,ks⟩:=t
 simp only [rng] at h
 simp only [Tree.words_mk] at*
 have hg:w.getD i 0∈w:=by
  simp only [List.getD,Q0 hi,QL]
  exact Xd hi
 exact h.2.1 _ hg
theorem Zpz:Contract Try.prog cfg 117 Z3I:=by
 refine Zlk Zay Zg0 ?_
 intro l t _ hp
 simp only [Z7M] at hp
 refine Zrd _ _ _ ?_
 (simp only [vcS])
 refine ⟨trivial,fun hd=> ⟨fun _=> by unfold InR;omega,fun h=> by omega,fun h=> ZaU hp (by omega),Zj rfl ?_⟩,fun hd=> ⟨fun h=> Zj rfl ?_,fun h=> Zj rfl ?_⟩⟩
 ·simp only [YE,if_pos hd,Int.toNat_zero]
  rw [Qv]
  (simp only [vcS])
  constructor <;> (rintro ⟨h1,h2⟩;exact ⟨by omega,h2⟩)
 ·simp only [YE,if_neg hd,if_pos h]
  rw [Qv]
  (simp only [vcS])
 ·simp only [YE,if_neg hd,if_neg h]
  rw [Qv]
  (simp only [vcS])
theorem Z5C{l:Int}{ks:List Tree}{i:Int}{d:Int}(h0:0<=i)(h:i < ks.length):
  ZI l (ks.drop i.toNat) d=((YE l (ks.getD i.toNat Tree.nil) && Z8 (ks.getD i.toNat Tree.nil) d) && ZI l (ks.drop (i+1).toNat) d):=by
 have e:(i+1).toNat=i.toNat+1:=by omega
 rw [QR (by omega),e]
 simp only [ZI,List.getD,Q0 (show i.toNat < ks.length by omega),QL]
theorem Z7q:∀ {ks:List Tree} {i:Nat},Z1B ks->i < ks.length->rng (ks.getD i Tree.nil)
 | t ::_,0,h,_=> by simp only [Z1B] at h;exact h.1
 | _ ::r,i+1,h,hi=> by simp only [Z1B] at h;exact Z7q (ks:=r) (i:=i) h.2 (by simpa using hi)
theorem ZbD(t:Tree):YE 1 t=decide (t.kind≠10):=by simp [YE]
theorem c94:Contract Try.prog cfg 94 Z6G:=by
 refine ZnF ZpA Zpz ?_
 rintro N ⟨k,ws,ks⟩ d _ hp hN
 simp only [Z30,Z8t,Zh,rng] at hp hN
 have key:∀ b,d≠0->Z8 (.mk k ws ks) d=(b && ZI k ks (d - 1))->b=true->
   Zk (awp cfg (Z1 (Yx N)) (Y8 cfg (Z1 (Yx N))) Try.f94.ntmps Z2U (cd Try.f94 [1,1,0,1,0,0])) (Yz (.mk k ws ks) d 0) (AExit.inBlock 1 (ZgD cfg (Z1 (Yx N)) (Y8 cfg (Z1 (Yx N))) Try.f94.ntmps Z2U (cd Try.f94 [1,1,1]) (Zx cfg Try.f94.ntmps Try.f94.results.toList (Zdr (.mk k ws ks,d,())) []))):=by
  intro b hd0 hb hbt
  subst hbt
  rw [Bool.true_and] at hb
  refine Za (ι:=Int) (fun p=> Yz (.mk k ws ks) d p) (fun p=> 0<=p/\p<=ks.length/\Z8 (.mk k ws ks) d=ZI k (ks.drop p.toNat) (d - 1)) (fun p=> ((ks.length:Int) - p).toNat) 0 rfl ⟨by omega,by omega,by simpa using hb⟩ ?_
  rintro i ⟨h1,h2,h3⟩
  refine Zkk N _ _ _ _ _ ?_
  (simp only [vcS])
  (simp only [Tree.eta,Tree.kind_mk,Tree.words_mk,Tree.kids_mk])
  refine ⟨fun hi=> ⟨⟨by omega,hi⟩,?_⟩,fun hi=> ?_⟩
  ·have hd:=Z5C (l:=k) (d:=d - 1) h1 hi
   have hm:=Je (ks:=ks) (i:=i.toNat) (by omega)
   have hr:=Z7q (i:=i.toNat) hp.2.1.2.2 (by omega)
   rw [hd] at h3
   have hlen:=Jd ks
   generalize ks.getD i.toNat Tree.nil=y at*
   have hpre:Z30 (y,d - 1,()):=⟨by dsimp only;omega,hr,by dsimp only;omega,by dsimp only;omega⟩
   have hmu:Z8t (y,d - 1,()) < N:=by simp only [Z8t];omega
   have hin:InR (d - 1):=by unfold InR;omega
   refine ⟨fun hk=> ⟨hr,fun _=> hin,fun _=> hpre,fun _=> hmu,fun hc=> Zj rfl ?_,fun hc=> ⟨by unfold InR;omega,i+1,rfl,⟨by omega,by omega,?_⟩,by omega⟩⟩,fun hk=> ⟨fun _=> hin,fun _=> hpre,fun _=> hmu,fun hc=> Zj rfl ?_,fun hc=> ⟨by unfold InR;omega,i+1,rfl,⟨by omega,by omega,?_⟩,by omega⟩⟩⟩
   ·rw [h3]
    rcases hc with hc | hc <;> simp [hc]
   ·rw [h3,hc.1,hc.2];try rfl
   ·subst hk
    rw [h3,ZbD]
    rcases hc with hc | hc <;> simp [hc]
   ·subst hk
    rw [h3,ZbD,hc.2]
    simp [hc.1]
  ·rw [Qu (by omega)] at h3
   simp only [ZI] at h3
   exact Zj rfl h3.symm
 refine Zsc N _ _ _ ?_
 (simp only [vcS])
 (simp only [Tree.eta,Tree.kind_mk,Tree.words_mk,Tree.kids_mk])
 have hk0:∀ h0:k=0,Z8 (.mk k ws ks) d=decide (ws.length=0/\ks.length=0):=fun h0=> by simp only [Z8,if_pos h0]
 have hk10:∀ (_:¬k=0) (h10:k=10),Z8 (.mk k ws ks) d=decide (ws.length=1/\ks.length=0):=fun h0 h10=> by simp only [Z8,if_neg h0,if_pos h10]
 refine ⟨fun h0=> Zj rfl ?_,fun h0=> ⟨fun h10=> Zj rfl ?_,fun h10=> ⟨fun hd=> Zj rfl ?_,fun hd=> ⟨fun h1=> ⟨fun hc=> Zj rfl ?_,fun hc=> key true hd ?_ rfl⟩,fun h1=> ⟨trivial,fun hc=> Zj rfl ?_,fun hc=> key true hd ?_ rfl⟩⟩⟩⟩⟩
 ·rw [hk0 h0,Qv];(simp only [vcS]);omega
 ·rw [hk10 h0 h10,Qv];(simp only [vcS]);omega
 ·simp only [Z8,if_neg h0,if_neg h10,if_pos hd]
 ·simp only [Z8,if_neg h0,if_neg h10,if_neg hd,if_pos h1]
  rw [decide_eq_false (by omega)];try rfl
 ·simp only [Z8,if_neg h0,if_neg h10,if_neg hd,if_pos h1]
  rw [decide_eq_true (by omega),h1]
 ·simp only [Z8,if_neg h0,if_neg h10,if_neg hd,if_neg h1]
  rw [decide_eq_false (by omega)];try rfl
 ·simp only [Z8,if_neg h0,if_neg h10,if_neg hd,if_neg h1]
  rw [decide_eq_true (by omega)]
theorem c71:Contract Try.prog cfg 71 Z6V:=by
 refine ZnZ c94 ?_
 intro t _ hp
 refine Zsz _ _ ?_
 (simp only [Tree.eta,Tree.kind_mk,Tree.words_mk,Tree.kids_mk])
 exact ⟨⟨hp.1,hp.2,by dsimp only;omega,by dsimp only;omega⟩,Zj rfl rfl⟩
theorem ZaW{y:Tree}{d:Int}(h:Z8 y d=true)(hk:y.kind=10):y.words.length=1/\y.kids.length=0:=by
 obtain ⟨k,w,ks⟩:=y
 simp only [Tree.kind_mk] at hk
 subst hk
 simpa [Z8] using h
theorem c43:Contract Try.prog cfg 43 Z6G:=by
 refine Zom c58 ?_
 rintro N ⟨k,ws,ks⟩ d _ hp hN
 simp only [Z30,Z8t,Zh,rng] at hp hN
 refine ZsW N _ _ _ ?_
 (simp only [vcS])
 (simp only [Tree.eta,Tree.kind_mk,Tree.words_mk,Tree.kids_mk])
 refine ⟨fun h0=> Zj rfl ?_,fun h0=> ⟨fun h10=> Zj rfl ?_,fun h10=> ⟨fun hc=> Zj rfl ?_,fun hc=> ⟨fun hw=> Zj rfl ?_,fun hw=> ?_⟩⟩⟩⟩
 ·simp only [Z8,if_pos h0]
  rw [Qv];(simp only [vcS]);omega
 ·simp only [Z8,if_neg h0,if_pos h10]
  rw [Qv];(simp only [vcS]);omega
 ·simp only [Z8,if_neg h0,if_neg h10]
  split
  ·try rfl
  ·split
   ·rw [decide_eq_false (by omega)];try rfl
   ·have:¬(2<=k/\k<=9/\ws.length=0/\ks.length < 1048576):=by omega
    rw [decide_eq_false this];try rfl
 ·simp only [Z8,if_neg h0,if_neg h10]
  rw [if_neg (by omega),if_neg (by omega)]
  have:¬(2<=k/\k<=9/\ws.length=0/\ks.length < 1048576):=by omega
  rw [decide_eq_false this];try rfl
 ·have hb:Z8 (.mk k ws ks) d=ZI k ks (d - 1):=by
   simp only [Z8,if_neg h0,if_neg h10]
   rw [if_neg (by omega)]
   split
   ·rename_i h1
    rw [decide_eq_true (by omega),h1];try rfl
   ·have:2<=k/\k<=9/\ws.length=0/\ks.length < 1048576:=by omega
    rw [decide_eq_true this];try rfl
  refine Za (ι:=Int) (fun p=> Z0m (.mk k ws ks) d p) (fun p=> 0<=p/\p<=ks.length/\Z8 (.mk k ws ks) d=ZI k (ks.drop p.toNat) (d - 1)) (fun p=> ((ks.length:Int) - p).toNat) 0 rfl ⟨by omega,by omega,by simpa using hb⟩ ?_
  rintro i ⟨h1,h2,h3⟩
  refine ZkS N _ _ _ _ _ ?_
  (simp only [vcS])
  (simp only [Tree.eta,Tree.kind_mk,Tree.words_mk,Tree.kids_mk])
  refine ⟨fun hi=> ?_,fun hi=> ?_⟩
  ·have hd:=Z5C (l:=k) (d:=d - 1) h1 hi
   have hm:=Je (ks:=ks) (i:=i.toNat) (by omega)
   have hr:=Z7q (i:=i.toNat) hp.2.1.2.2 (by omega)
   rw [hd] at h3
   have hlen:=Jd ks
   generalize ks.getD i.toNat Tree.nil=y at*
   have hpre:Z30 (y,d - 1,()):=⟨by dsimp only;omega,hr,by dsimp only;omega,by dsimp only;omega⟩
   have hmu:Z8t (y,d - 1,()) < N:=by simp only [Z8t];omega
   have hin:InR (d - 1):=by unfold InR;omega
   refine ⟨⟨h1,hi⟩,hin,hpre,hmu,fun hf=> Zj rfl ?_,fun hf=> ?_⟩
   ·rw [h3,hf];simp
   ·have hdata:((bif decide (2<=k) then decide (k<=7) else false)=(y.kind==10))↔((2<=k/\k<=7)↔y.kind=10):=by
     rw [Qv];(simp only [vcS])
    have hat:=ZaW hf
    have hkb:YE k y=true↔(((2<=k/\k<=7)↔y.kind=10)/\(¬k=9\/y.kind=1))/\((¬2<=k\/¬k<=7)\/J6 (k - 2) (y.words.getD 0 0)=true):=by
     unfold YE
     by_cases hk:2<=k/\k<=7
     ·rw [if_pos hk]
      (simp only [vcS])
      constructor
      ·rintro ⟨h4,h5⟩;exact ⟨⟨by omega,by omega⟩,.inr h5⟩
      ·rintro ⟨⟨h4,_⟩,h5⟩
       have:=hat (by omega)
       exact ⟨by omega,by rcases h5 with h5 | h5;omega;exact h5⟩
     ·rw [if_neg hk]
      by_cases h9:k=9
      ·rw [if_pos h9]
       (simp only [vcS])
       constructor
       ·intro h4;exact ⟨⟨by omega,by omega⟩,.inl (by omega)⟩
       ·rintro ⟨⟨_,h4⟩,_⟩;omega
      ·rw [if_neg h9]
       (simp only [vcS])
       constructor
       ·intro h4;exact ⟨⟨by omega,by omega⟩,.inl (by omega)⟩
       ·rintro ⟨⟨h4,_⟩,_⟩;omega
    have hone:∀ (h4:(((bif decide (2<=k) then decide (k<=7) else false)=(y.kind==10)/\(¬k=9\/y.kind=1))/\2<=k/\k<=7)),y.words.length=1:=fun h4=> (hat ((hdata.1 h4.1.1).1 h4.2)).1
    simp only [Int.toNat_zero]
    refine ⟨fun h4=> by unfold InR;omega,fun h4=> by have:=hone h4;omega,fun h4=> ZaU hr (by have:=hone h4;omega),fun h4=> Zj rfl ?_,fun h4=> ⟨by unfold InR;omega,i+1,rfl,⟨by omega,by omega,?_⟩,by omega⟩⟩
    ·have hno:YE k y=false:=by
      cases hkk:YE k y with
      | false=> rfl
      | true=>
       exfalso
       obtain ⟨h5,h6⟩:=hkb.1 hkk
       rcases h4 with h4 | ⟨h4,h7⟩
       ·rcases h4 with h4 | h4
        ·exact h4 (hdata.2 h5.1)
        ·omega
       ·rcases h6 with h6 | h6
        ·omega
        ·rw [h7] at h6;cases h6
     rw [h3,hno];try rfl
    ·rw [h3,hkb.2 ⟨⟨hdata.1 h4.1.1,h4.1.2⟩,h4.2⟩,hf];try rfl
  ·rw [Qu (by omega)] at h3
   simp only [ZI] at h3
   exact Zj rfl h3.symm
noncomputable section
def Zdu(a:Int × Int × Unit):V U:= .c (ci (ZK a.1 a.2.1))
def Z1J:Fs U:=fs ZeL (fun a=> [Z0I a]) Zdu
def Zk6:ArgL (Int × List Int × Unit):=(.cons (Zr .i64) (.cons (aSl .u64) .nil))
def Zhw(a:Int × List Int × Unit):Prop:=okW a.2.1/\a.2.1.length<=1099511627776
def Zb9(a:Int × List Int × Unit):V U:= .tup [(false,[sU .u64 (Z3W a.1 a.2.1) .unk]),(false,[.bool (Jf a.1 a.2.1)])]
def Z7h:Fs U:=fs Zk6 (fun a=> [Zhw a]) Zb9
def Zp3:Z6 U:=lvl [([0,1],[]),([0,1,16],[]),([4],[]),([1,5],[]),([1,5,23],[]),([4],[]),([4],[])]
abbrev A57(p:List Nat):=AW (Z1 JC) Try.f57 Zp3 p
theorem ZsM(c n:Int)(Q:QT)(h:let z2:=decide (((wd c):Int) < 1);let z1:=bif z2 then true else (decide (n < 0));let z4:=bif z1 then true else (decide ((1099511627776:Int) < n));let z0:=IntKind.wrap .i64 (Int.tdiv 64 (wd c));let z5:=decide ((0:Int) < (Int.tmod n z0));let z3:=IntKind.wrap .i64 (Int.tdiv n z0);((Z5G (c,()))/\(Tr ((!z2)=true))/\(z2=false->(!z2)=true)/\(Tr ((!z1)=true))/\(z1=false->(!z1)=true)/\((z4=true->(Q .ret (L2 [pI 4 0] [])))/\(z4=false->(Z5G (c,()))/\(((wd c):Int)≠0)/\(((z0:Int)≠0)/\((z5=true->((z0:Int)≠0)/\(InR ((z3:Int)+1))/\(Q .ret (L2 [(4,.c (ci ((z3:Int)+1)))] [])))/\(z5=false->((z0:Int)≠0)/\(Q .ret (L2 [(4,.c (ci z3))] []))))))))):
  A57 [] (L2 [pI 0 c,pI 1 n] []) Q:=
 Eq.mpr (by kernel_rfl) h
def Zqv(c n:Int):Prop:=AW (Z1 JC) Try.f57 Zp3 [] (Zb (ZeL.can (c,n,())) []) (EQ Try.f57 (Zdu (c,n,())) [])
theorem Zoc(c56:CT 56 Jl)(hb:∀ (c:Int) (n:Int) (_:Unit),Z0I (c,n,())->Zqv c n):CT 57 Z1J:=
 Z0 (l:=[(56,Jl)]) Z9 rfl (⟨c56,trivial⟩) Zp3 Try.func57 rfl rfl 2 (fun _=> rfl) (by decide) (fun ⟨c,n,_⟩=> hb c n ())
def Zi2:Z6 U:=lvl [([0,1],[]),([1,5,6],[]),([1,5,21],[]),([4],[]),([4],[])]
abbrev Ztv(p:List Nat):=AW (Z1 Ziw) Try.f118 Zi2 p
theorem Zrc(c n:Int)(Q:QT)(h:let z1:= !(decide (0<=wd c));let z0:=bif z1 then true else (decide (n < 0));let z2:=bif z0 then true else (decide ((1099511627776:Int) < n));((Z5G (c,()))/\((Tr ((!z1)=true))/\(z1=false->(!z1)=true)/\(Tr ((!z0)=true))/\(z0=false->(!z0)=true)/\((z2=true->(Q .ret (L2 [pI 4 0] [])))/\(z2=false->(InR (n*(if wd c < 0 then 0 else wd c)))/\(InR (((n*(if wd c < 0 then 0 else wd c)):Int)+63))/\((64:Int)≠0)/\(Q .ret (L2 [(4,.c (ci (IntKind.wrap .i64 (Int.tdiv (((n*(if wd c < 0 then 0 else wd c)):Int)+63) 64))))] []))))))):
  Ztv [] (L2 [pI 0 c,pI 1 n] []) Q:=
 Eq.mpr (by kernel_rfl) h
def Zmi(c n:Int):Prop:=AW (Z1 Ziw) Try.f118 Zi2 [] (Zb (ZeL.can (c,n,())) []) (EQ Try.f118 (Zdu (c,n,())) [])
theorem Zlj(Z3A:CT 110 Yc)(hb:∀ (c:Int) (n:Int) (_:Unit),Z0I (c,n,())->Zmi c n):CT 118 Z1J:=
 Z0 (l:=[(110,Yc)]) Z9 rfl (⟨Z3A,trivial⟩) Zi2 Try.func118 rfl rfl 2 (fun _=> rfl) (by decide) (fun ⟨c,n,_⟩=> hb c n ())
def ZcK:List (FuncId × Fs U):=[(56,Jl),(57,Z1J),(58,Z1I)]
def ZlR:Z6 U:=fun i=> match i with
 | 0=> ([(0,[]),(1,[])],[])
 | 1=> ([(0,[]),(1,[]),(6,[])],[])
 | 2=> ([(0,[]),(1,[]),(6,[]),(14,[])],[])
 | 3=> ([(4,[]),(5,[])],[])
 | 4=> ([(0,[]),(1,[]),(6,[]),(7,[.wr .u64])],[])
 | 5=> ([(0,[]),(1,[]),(6,[]),(7,[.wr .u64]),(8,[])],[])
 | 6=> ([(0,[]),(1,[]),(6,[]),(7,[.wr .u64]),(8,[]),(23,[])],[])
 | 7=> ([(0,[]),(1,[]),(6,[]),(7,[.wr .u64]),(8,[])],[])
 | 8=> ([(0,[]),(1,[]),(6,[]),(7,[.wr .u64]),(8,[]),(9,[])],[])
 | 9=> ([(0,[]),(1,[]),(6,[]),(7,[.wr .u64]),(8,[]),(9,[]),(33,[])],[])
 | 10=> ([(4,[]),(5,[])],[])
 | 11=> ([(0,[]),(1,[]),(6,[]),(7,[.wr .u64]),(8,[]),(9,[]),(10,[])],[])
 | 12=> ([(0,[]),(1,[]),(6,[]),(7,[.wr .u64]),(8,[]),(9,[]),(10,[]),(39,[])],[])
 | 13=> ([(0,[]),(1,[]),(6,[]),(7,[.wr .u64]),(8,[]),(9,[]),(10,[])],[])
 | 14=> ([(0,[]),(1,[]),(6,[]),(7,[.wr .u64]),(8,[]),(9,[]),(10,[])],[])
 | 15=> ([(0,[]),(1,[]),(6,[]),(7,[.wr .u64]),(8,[]),(9,[]),(45,[])],[])
 | 16=> ([(0,[]),(1,[]),(6,[]),(7,[.wr .u64]),(8,[])],[])
 | 17=> ([(4,[]),(5,[])],[])
 | _=> ([],[])
def Z2s(c:Int)(ns:List Int)(x8:Int)(re_7_0:List Int):LSt U:=(⟨[pI 0 c,(1,.c (sU .u64 ns .unk)),pI 6 (wd c),(7,.c (.mref (.e 7 0))),pI 8 x8],[],[(.e 7 0,LC.mk (U:=U) .u64 re_7_0 0)]⟩:LSt U)
def Z4A(c:Int)(ns:List Int)(x8:Int)(re_7_0:List Int)(x9_a x10_a:Int):LSt U:=(⟨[pI 0 c,(1,.c (sU .u64 ns .unk)),pI 6 (wd c),(7,.c (.mref (.e 7 0))),pI 8 x8,(9,.c (.int .u64 x9_a)),pI 10 x10_a],[],[(.e 7 0,LC.mk (U:=U) .u64 re_7_0 0)]⟩:LSt U)
abbrev A18(p:List Nat):=AW (Z34 ZcK) Try.f18 ZlR p
abbrev S18(p:List Nat):=SW (Z34 ZcK) Try.f18 ZlR p
theorem Zte(c:Int)(ns:List Int)(Q:QT)(h:let z0:=ZK c (ns.length:Int);((Z5G (c,()))/\(((decide (((wd c):Int) < 0))=true->(Q .ret (L2 [(4,.c (.nils)),pB 5 false] [])))/\((decide (((wd c):Int) < 0))=false->(Z0I (c,(ns.length:Int),()))/\((0:Int)<=ZK c (ns.length:Int)/\(z0:Int)*((8:Nat):Int)<=140737488355328/\(ZK c (ns.length:Int):Int)<=9223372036854775807)/\((ZK c (ns.length:Int):Int)=z0)/\(Zk (A18 [1,1,1,1,0,1,0,0]) (Z2s c ns 0 (List.replicate (Int.toNat z0) (0:Int))) (xB 0 (S18 [1,1,1,1,1] Q))))))):
  A18 [] (L2 [pI 0 c,(1,.c (sU .u64 ns .unk))] []) Q:=
 Eq.mpr (by kernel_rfl) h
theorem ZkX(c:Int)(ns:List Int)(x8:Int)(re_7_0:List Int)(N0:NT)(Q:QT)(h:let z1:=decide (x8 < (ns.length:Int));let z0:=ns.getD x8.toNat (0:Int);((z1=true->((0:Int)<=x8/\x8 < (ns.length:Int))/\((Z95 (c,z0,()))/\(((!(J6 c z0))=true->(Q .ret (L2 [(4,.c (.nils)),pB 5 false] [])))/\((!(J6 c z0))=false->(Zk (A18 [1,1,1,1,0,1,0,0,1,0,0,1,1,0,1,0,0]) (Z4A c ns x8 re_7_0 z0 0) (xB 2 (S18 [1,1,1,1,0,1,0,0,1,0,0,1,1,1] (xB 1 (S18 [1,1,1,1,0,1,0,0,1,1] (xT N0 (xB 0 (S18 [1,1,1,1,1] Q))))))))))))/\(z1=false->(Q .ret (L2 [(4,.c (sU .u64 re_7_0 (.own (.e 4 0)))),pB 5 true] []))))):
  A18 [1,1,1,1,0,1,0,0] (Z2s c ns x8 re_7_0) (xT N0 (xB 0 (S18 [1,1,1,1,1] Q))):=
 Eq.mpr (by kernel_rfl) h
theorem ZkW(c:Int)(ns:List Int)(x8:Int)(re_7_0:List Int)(x9_a x10_a:Int)(N1 N0:NT)(Q:QT)(h:let z2:=InR (x8*(wd c));let z1:=decide (x10_a < (Int.tmod (x8*(wd c)) 64));let z0:=IntKind.wrap .i64 (Int.tdiv (x8*(wd c)) 64);z2/\((64:Int)≠0)/\((z1=true->((InR (x10_a+1))/\(N1 (Z4A c ns x8 re_7_0 (IntKind.wrap .u64 (x9_a*2)) (x10_a+1)))))/\(z1=false->(((decide ((0:Int) < (wd c)))=true->z2/\((64:Int)≠0)/\z2/\((64:Int)≠0)/\((0:Int)<=z0/\z0 < (re_7_0.length:Int))/\((0:Int)<=z0/\z0 < (re_7_0.length:Int))/\((0:Nat)<=(Int.toNat z0))/\((InR (x8+1))/\(N0 (Z2s c ns (x8+1) (List.set re_7_0 (Int.toNat z0) (IntKind.wrap .u64 (((List.getD re_7_0 (Int.toNat z0) (0:Int)):Int)+x9_a)))))))/\((decide ((0:Int) < (wd c)))=false->(InR (x8+1))/\(N0 (Z2s c ns (x8+1) re_7_0))))))):
  A18 [1,1,1,1,0,1,0,0,1,0,0,1,1,0,1,0,0] (Z4A c ns x8 re_7_0 x9_a x10_a) (xT N1 (xB 2 (S18 [1,1,1,1,0,1,0,0,1,0,0,1,1,1] (xB 1 (S18 [1,1,1,1,0,1,0,0,1,1] (xT N0 (xB 0 (S18 [1,1,1,1,1] Q)))))))):=
 Eq.mpr (by kernel_rfl) h
def ZqX(c:Int)(ns:List Int):Prop:=AW (Z34 ZcK) Try.f18 ZlR [] (Zb (Zk6.can (c,ns,())) []) (EQ Try.f18 (Zb9 (c,ns,())) [])
theorem ZoE(c56:CT 56 Jl)(c57:CT 57 Z1J)(c58:CT 58 Z1I)(hb:∀ (c:Int) (ns:List Int) (_:Unit),Zhw (c,ns,())->ZqX c ns):CT 18 Z7h:=
 Z0n (l:=[(56,Jl),(57,Z1J),(58,Z1I)]) Z9 rfl (⟨c56,c57,c58,trivial⟩) ZlR Try.func18 rfl rfl 2 (fun _=> rfl) (by decide) (fun ⟨c,ns,_⟩=> hb c ns ())
def Zar:List (FuncId × Fs U):=[(110,Yc),(118,Z1J),(121,Z1I)]
def Zed:Z6 U:=fun i=> match i with
 | 0=> ([(0,[]),(1,[])],[])
 | 1=> ([(0,[]),(1,[]),(6,[]),(7,[])],[])
 | 2=> ([(0,[]),(1,[]),(6,[]),(17,[])],[])
 | 3=> ([(4,[]),(5,[])],[])
 | 4=> ([(0,[]),(1,[]),(6,[]),(8,[.wr .u64])],[])
 | 5=> ([(0,[]),(6,[]),(8,[.wr .u64]),(23,[]),(24,[]),(25,[])],[])
 | 6=> ([(0,[]),(6,[]),(8,[.wr .u64]),(23,[]),(24,[]),(25,[]),(26,[])],[])
 | 7=> ([(0,[]),(6,[]),(8,[.wr .u64]),(9,[]),(10,[]),(23,[]),(24,[]),(25,[])],[])
 | 8=> ([(0,[]),(6,[]),(8,[.wr .u64]),(9,[]),(10,[]),(23,[]),(24,[]),(25,[]),(33,[])],[])
 | 9=> ([(4,[]),(5,[])],[])
 | 10=> ([(0,[]),(6,[]),(8,[.wr .u64]),(9,[]),(10,[]),(23,[]),(24,[]),(25,[]),(35,[])],[])
 | 11=> ([(0,[]),(6,[]),(8,[.wr .u64]),(23,[]),(24,[]),(25,[])],[])
 | 12=> ([(0,[]),(6,[]),(8,[.wr .u64]),(23,[]),(24,[]),(25,[])],[])
 | 13=> ([(4,[]),(5,[])],[])
 | _=> ([],[])
def Z0V(c:Int)(ns:List Int)(x25:Int)(re_8_0:List Int):LSt U:=(⟨[pI 0 c,pI 6 (if wd c < 0 then 0 else wd c),(8,.c (.mref (.e 8 0))),(23,.c (sU .u64 ns .unk)),pI 24 (ns.length:Int),pI 25 x25],[],[(.e 8 0,LC.mk (U:=U) .u64 re_8_0 0)]⟩:LSt U)
abbrev Zr4(p:List Nat):=AW (Z34 Zar) Try.f101 Zed p
abbrev ZrZ(p:List Nat):=SW (Z34 Zar) Try.f101 Zed p
theorem Zrt(c:Int)(ns:List Int)(Q:QT)(h:let z0:=ZK c (ns.length:Int);((Z5G (c,()))/\(((!(decide (0<=wd c)))=true->(Q .ret (L2 [(4,.c (.nils)),pB 5 false] [])))/\((!(decide (0<=wd c)))=false->(Z0I (c,(ns.length:Int),()))/\((0:Int)<=ZK c (ns.length:Int)/\(z0:Int)*((8:Nat):Int)<=140737488355328/\(ZK c (ns.length:Int):Int)<=9223372036854775807)/\((ZK c (ns.length:Int):Int)=z0)/\(Zk (Zr4 [1,1,1,1,0,1,0,0]) (Z0V c ns 0 (List.replicate (Int.toNat z0) (0:Int))) (xB 0 (ZrZ [1,1,1,1,1] Q))))))):
  Zr4 [] (L2 [pI 0 c,(1,.c (sU .u64 ns .unk))] []) Q:=
 Eq.mpr (by kernel_rfl) h
theorem Zgt(c:Int)(ns:List Int)(x25:Int)(re_8_0:List Int)(N0:NT)(Q:QT)(h:∀ y_1,y_1=(ns.getD x25.toNat (0:Int))->∀ y_2,y_2=(Int.tdiv (x25*(if wd c < 0 then 0 else wd c)) 64)->let z5:=decide (x25 < (ns.length:Int));let z4:=IntKind.bits .u64;let z3:=InR (x25*(if wd c < 0 then 0 else wd c));let z2:=Int.tmod (x25*(if wd c < 0 then 0 else wd c)) 64;let z1:=decide ((0:Int) < (if wd c < 0 then 0 else wd c));let z0:=IntKind.wrap .i64 y_2;((z5=true->((0:Int)<=x25/\x25 < (ns.length:Int))/\((Z95 (c,y_1,()))/\(((!(J6 c y_1))=true->(Q .ret (L2 [(4,.c (.nils)),pB 5 false] [])))/\((!(J6 c y_1))=false->((z1=true->z3/\((64:Int)≠0)/\((0:Int)<=z0/\z0 < (re_8_0.length:Int))/\z3/\((64:Int)≠0)/\((0:Int)<=z2)/\((0:Int)<=z0/\z0 < (re_8_0.length:Int))/\((0:Nat)<=(Int.toNat z0))/\((InR (x25+1))/\(N0 (Z0V c ns (x25+1) (List.set re_8_0 (Int.toNat z0) (IntKind.wrap .u64 (BitVec.ofInt z4 (List.getD re_8_0 (Int.toNat z0) (0:Int)) ||| BitVec.ofInt z4 (IntKind.wrap .u64 (y_1*2 ^ (min (Int.toNat z2) z4)))).toNat))))))/\(z1=false->(InR (x25+1))/\(N0 (Z0V c ns (x25+1) re_8_0))))))))/\(z5=false->(Q .ret (L2 [(4,.c (sU .u64 re_8_0 (.own (.e 4 0)))),pB 5 true] []))))):
  Zr4 [1,1,1,1,0,1,0,0] (Z0V c ns x25 re_8_0) (xT N0 (xB 0 (ZrZ [1,1,1,1,1] Q))):=
 Eq.mpr (by kernel_rfl) (h _ rfl _ rfl)
def Zmz(c:Int)(ns:List Int):Prop:=AW (Z34 Zar) Try.f101 Zed [] (Zb (Zk6.can (c,ns,())) []) (EQ Try.f101 (Zb9 (c,ns,())) [])
theorem Zly(Z3A:CT 110 Yc)(Zg3:CT 118 Z1J)(Zg0:CT 121 Z1I)(hb:∀ (c:Int) (ns:List Int) (_:Unit),Zhw (c,ns,())->Zmz c ns):CT 101 Z7h:=
 Z0n (l:=[(110,Yc),(118,Z1J),(121,Z1I)]) Z9 rfl (⟨Z3A,Zg3,Zg0,trivial⟩) Zed Try.func101 rfl rfl 2 (fun _=> rfl) (by decide) (fun ⟨c,ns,_⟩=> hb c ns ())
end
theorem Z7p{c n:Int}(h0:0<=n)(h1:n<=1099511627776):0<=ZK c n/\ZK c n<=1099511627776:=by
 unfold ZK
 split
 ·omega
 ·rcases Z17 c with e | e | e | e | e | e
  ·omega
  all_goals (rw [e];omega)
theorem c57:Contract Try.prog cfg 57 Z1J:=by
 refine Zoc c56 ?_
 intro c n _ _
 refine ZsM _ _ _ ?_
 (simp only [vcT,vcS])
 refine ⟨trivial,fun h=> Z7 rfl ?_,fun h=> ⟨trivial,?_⟩⟩
 ·show (0:Int)=ZK c n
  unfold ZK
  rw [if_pos (by omega)]
 ·have hr:ZK c n=(n*wd c+63) / 64:=by unfold ZK;rw [if_neg (by omega)]
  have key:∀ w p:Int,wd c=w->IntKind.wrap .i64 (Int.tdiv 64 w)=p->1<=p->p<=64->(n*w+63) / 64=(if 0 < n % p then n / p+1 else n / p)->
    ¬wd c=0/\¬IntKind.i64.wrap (Int.tdiv 64 (wd c))=0/\(0 < n.tmod (IntKind.i64.wrap (Int.tdiv 64 (wd c)))->¬IntKind.i64.wrap (Int.tdiv 64 (wd c))=0/\InR (IntKind.i64.wrap (n.tdiv (IntKind.i64.wrap (Int.tdiv 64 (wd c))))+1)/\
     Zx cfg Try.f57.ntmps Try.f57.results.toList (Zdu (c,n,())) [] AExit.ret { env:=[(4,V.c (C.int IntKind.i64 (IntKind.i64.wrap (n.tdiv (IntKind.i64.wrap (Int.tdiv 64 (wd c))))+1)))],mem:=[],ls:=[] })/\
    (¬0 < n.tmod (IntKind.i64.wrap (Int.tdiv 64 (wd c)))->¬IntKind.i64.wrap (Int.tdiv 64 (wd c))=0/\
     Zx cfg Try.f57.ntmps Try.f57.results.toList (Zdu (c,n,())) [] AExit.ret { env:=[(4,V.c (C.int IntKind.i64 (IntKind.i64.wrap (n.tdiv (IntKind.i64.wrap (Int.tdiv 64 (wd c)))))))],mem:=[],ls:=[] }):=by
   intro w p e1 e2 p1 p2 hd
   rw [e1,e2]
   have hq:Int.tdiv n p=n / p:=Ql (by omega)
   have hm:Int.tmod n p=n % p:=Qw (by omega)
   have hle:0<=n / p/\n / p<=n:=⟨XT (by omega) (by omega),XJ _ (by omega)⟩
   rw [hq,hm,Ya (n:=n / p) (by omega) (by omega)]
   refine ⟨by omega,by omega,fun h0=> ⟨by omega,by ((unfold InR;omega)),Z7 rfl ?_⟩,fun h0=> ⟨by omega,Z7 rfl ?_⟩⟩
   ·show _=ZK c n
    rw [hr,e1,hd,if_pos h0]
   ·show _=ZK c n
    rw [hr,e1,hd,if_neg h0]
  rcases Z17 c with e | e | e | e | e | e
  ·omega
  ·exact key 1 64 e (by decide) (by decide) (by decide) (by split <;> omega)
  ·exact key 8 8 e (by decide) (by decide) (by decide) (by split <;> omega)
  ·exact key 16 4 e (by decide) (by decide) (by decide) (by split <;> omega)
  ·exact key 32 2 e (by decide) (by decide) (by decide) (by split <;> omega)
  ·exact key 64 1 e (by decide) (by decide) (by decide) (by split <;> omega)
theorem Zg3:Contract Try.prog cfg 118 Z1J:=by
 refine Zlj Z3A ?_
 intro c n _ _
 refine Zrc _ _ _ ?_
 (simp only [vcT,vcS])
 refine ⟨trivial,fun h=> Z7 rfl ?_,fun h=> ?_⟩
 ·show (0:Int)=ZK c n
  unfold ZK
  rw [if_pos (by omega)]
 ·rw [if_neg (show ¬wd c < 0 by omega)]
  have hb:0<=n*wd c/\n*wd c<=70368744177664:=by
   rcases Ji c with e | e | e | e | e | e | e
   ·omega
   all_goals (rw [e];omega)
  have hq:Int.tdiv (n*wd c+63) 64=(n*wd c+63) / 64:=Ql (by omega)
  rw [hq,Ya (n:=(n*wd c+63) / 64) (by omega) (by omega)]
  refine ⟨by ((unfold InR;omega)),by ((unfold InR;omega)),by decide,Z7 rfl ?_⟩
  show _=ZK c n
  unfold ZK
  by_cases h0:wd c < 1
  ·rw [if_pos (.inl h0),show wd c=0 by omega];simp
  ·rw [if_neg (by omega)]
theorem ZdC{c:Int}{ns:List Int}(h:Jf c ns=false):Z3W c ns=[]:=by unfold Z3W;rw [h];try rfl
theorem Zbd{c:Int}{ns:List Int}(h:Jf c ns=true):Z3W c ns=Z2T c ns:=by unfold Z3W;rw [h];try rfl
theorem Z9p{c:Int}{ns:List Int}(h:wd c < 0):Jf c ns=false:=by
 unfold Jf
 rw [decide_eq_false (by omega)];try rfl
theorem Z9q{c:Int}{ns:List Int}{i:Nat}(hi:i < ns.length)(h:J6 c (ns.getD i 0)=false):Jf c ns=false:=by
 cases e:Jf c ns with
 | false=> rfl
 | true=> rw [ZfX e hi] at h;cases h
theorem Z9r{c:Int}{ns:List Int}(h0:0<=wd c)(h:∀ i,i < ns.length->J6 c (ns.getD i 0)=true):Jf c ns=true:=by
 unfold Jf
 rw [Q2,Qf]
 refine ⟨decide_eq_true h0,fun x hx=> ?_⟩
 obtain ⟨i,hi,rfl⟩:=X3 hx
 have:=h i hi
 rwa [Q7,Q0 hi] at this
theorem Zbe{c:Int}{ns:List Int}(hn:okW ns)(hl:(ns.length:Int)<=1099511627776){i:Int}(h0:0<=i)(h1:i < ns.length)(hf:∀ j:Nat,(j:Int) < i->J6 c (ns.getD j 0)=true)(hw:1<=wd c):Zk9 c (Z1C c ns i) i:=by
 have:=Zhi hw hn hl i.toNat (by omega) fun j hj=> hf j (by omega)
 rwa [show ((i.toNat:Nat):Int)=i by omega] at this
theorem c18:Contract Try.prog cfg 18 Z7h:=by
 refine ZoE c56 c57 c58 ?_
 intro c ns _ hp
 obtain ⟨hn,hl⟩:=hp
 dsimp only at hn hl
 have no:Jf c ns=false->Zx cfg Try.f18.ntmps Try.f18.results.toList (Zb9 (c,ns,())) [] .ret (⟨[(4,.c (.nils)),(5,.c (.bool false))],[],[]⟩:LSt U):=by
  intro h
  refine ZG (r':= .tup [(false,[.slice (U:=U) .u64 [] .unk]),(false,[.bool false])]) ?_ (by (repeat' (first | exact trivial | exact rfl | apply And.intro)))
  simp only [Zb9]
  rw [h,ZdC h]
 refine Zte _ _ _ ?_
 (simp only [vcT,vcS])
 have hrm:=Z7p (c:=c) (n:=ns.length) (by omega) (by omega)
 refine ⟨trivial,fun h=> no (Z9p h),fun hc=> ⟨trivial,⟨hrm.1,by omega,by omega⟩,?_⟩⟩
 refine Za (ι:=Int) (fun p=> Z2s c ns p (Z1C c ns p)) (fun p=> 0<=p/\p<=ns.length/\∀ j:Nat,(j:Int) < p->J6 c (ns.getD j 0)=true) (fun p=> ((ns.length:Int) - p).toNat) 0 (by simp only [Z52]) ⟨by omega,by omega,fun j hj=> by omega⟩ ?_
 rintro i ⟨h1,h2,h3⟩
 refine ZkX _ _ _ _ _ _ ?_
 (simp only [vcT,vcS])
 refine ⟨fun hi=> ⟨⟨h1,hi⟩,Yr hn _,fun hb=> no (Z9q (by omega) hb),fun hb=> ?_⟩,fun hi=> ?_⟩
 ·have hx:=Yr hn i.toNat
  have hf:=Zav hb
  have hin:0<=i*wd c/\i*wd c<=70368744177664:=by
   rcases Ji c with e | e | e | e | e | e | e
   ·omega
   all_goals (rw [e];omega)
  have hm:Int.tmod (i*wd c) 64=i*wd c % 64:=Qw hin.1
  have hd:Int.tdiv (i*wd c) 64=i*wd c / 64:=Ql hin.1
  refine Za (ι:=Int) (fun p=> Z4A c ns i (Z1C c ns i) (ns.getD i.toNat 0*2 ^ p.toNat) p) (fun p=> 0<=p/\p<=i*wd c % 64) (fun p=> (i*wd c % 64 - p).toNat) 0 (by simp) ⟨by omega,by omega⟩ ?_
  rintro k ⟨g1,g2⟩
  refine ZkW _ _ _ _ _ _ _ _ _ ?_
  (simp only [vcT,vcS])
  rw [hm,hd,Ya (n:=i*wd c / 64) (by omega) (by omega)]
  have hpow:∀ q:Int,0<=q->q+wd c<=64->0<=ns.getD i.toNat 0*2 ^ q.toNat/\ns.getD i.toNat 0*2 ^ q.toNat < 18446744073709551616:=by
   intro q q0 q1
   have hp:=Y3 q.toNat
   refine ⟨QE hx.1 (QP hp),?_⟩
   have e1:=Int.mul_lt_mul_of_pos_right hf.2 hp
   have e2:=Z1g (show (wd c).toNat+q.toNat<=64 by omega)
   rw [Int.pow_add] at e2
   have h64:(2:Int) ^ 64=18446744073709551616:=rfl
   omega
  have hstep:Z1C c ns (i+1)=Z6b c (Z1C c ns i) i (ns.getD i.toNat 0):=Z53 c ns h1 hi
  have hfin:0<=i+1/\i+1<=ns.length/\∀ j:Nat,(j:Int) < i+1->J6 c (ns.getD j 0)=true:=by
   refine ⟨by omega,by omega,fun j hj=> ?_⟩
   by_cases hji:(j:Int) < i
   ·exact h3 j hji
   ·rw [show j=i.toNat by omega];exact hb
  refine ⟨by ((unfold InR;omega)),by decide,fun hk=> ⟨by ((unfold InR;omega)),k+1,?_,⟨by omega,by omega⟩,by omega⟩,fun hk=> ⟨fun hw=> ?_,fun hw=> ?_⟩⟩
  ·have hw1:1<=wd c:=by
    rcases Ji c with e | e | e | e | e | e | e
    ·omega
    ·rw [e] at hk;omega
    all_goals omega
   obtain ⟨a0,a1,a2,a3⟩:=Z6y (c:=c) (i:=i) (by omega) (by omega) hw1
   have e:=hpow (k+1) (by omega) (by omega)
   rw [show (k+1).toNat=k.toNat+1 by omega,Z01,<-Int.mul_assoc] at e ⊢
   rw [Zo e.1 e.2]
  ·obtain ⟨a0,a1,a2,a3⟩:=Z6y (c:=c) (i:=i) (by omega) (by omega) (by omega)
   obtain ⟨r1,r2⟩:=Zdm (c:=c) (n:=ns.length) (i:=i) (by omega) h1 hi (by omega)
   have hI:=Zbe hn (by omega) h1 hi h3 (by omega)
   have hu:=Z9G (c:=c) (i:=i) (by omega) h1 (by omega)
   have hq:=hI (i*wd c / 64).toNat
   rw [hu.1] at hq
   have hs:=Za4 hq.1 hq.2 hx.1 hf.2
   have hp:=Z1g (show (i*wd c % 64).toNat+(wd c).toNat<=64 by omega)
   have h64:(2:Int) ^ 64=18446744073709551616:=rfl
   have hk':k=i*wd c % 64:=by omega
   subst hk'
   refine ⟨by ((unfold InR;omega)),by decide,by ((unfold InR;omega)),by decide,⟨by omega,by rw [Z1Z];omega⟩,⟨by omega,by rw [Z1Z];omega⟩,by omega,by ((unfold InR;omega)),i+1,?_,hfin,by omega⟩
   rw [Zo (by omega) (by omega),hstep]
   unfold Z6b
   rw [if_neg (by omega)]
  ·refine ⟨by ((unfold InR;omega)),i+1,?_,hfin,by omega⟩
   rw [hstep]
   unfold Z6b
   rw [if_pos (by omega)]
 ·have hall:Jf c ns=true:=Z9r (by omega) fun j hj=> h3 j (by omega)
  have e:i=ns.length:=by omega
  subst e
  rw [Z7E]
  refine ZG (r':= .tup [(false,[.slice (U:=U) .u64 (Z2T c ns) .unk]),(false,[.bool true])]) ?_ (by (repeat' (first | exact trivial | exact rfl | apply And.intro)))
  simp only [Zb9]
  rw [hall,Zbd hall]
theorem Z7Q{x y:Int}{a:Nat}(hx:0<=x)(hx':x < 2 ^ a)(hy:0<=y)(hs:x+y*2 ^ a < 18446744073709551616):
  IntKind.wrap .u64 (BitVec.ofInt (IntKind.bits .u64) x ||| BitVec.ofInt (IntKind.bits .u64) (y*2 ^ a)).toNat=x+y*2 ^ a:=by
 have hp:=Y3 a
 have h1:0<=y*2 ^ a:=QE hy (QP hp)
 have e:∀ z:Int,0<=z->z < 18446744073709551616->(BitVec.ofInt (IntKind.bits .u64) z).toNat=z.toNat:=by
  intro z z0 z1
  simp [IntKind.bits]
  omega
 rw [BitVec.toNat_or,e x hx (by omega),e _ h1 (by omega)]
 obtain ⟨m,rfl⟩:=Qg hx
 obtain ⟨n,rfl⟩:=Qg hy
 have hpn:(2:Int) ^ a=((2 ^ a:Nat):Int):=by simp
 rw [hpn] at hx' hs ⊢
 have hm:m < 2 ^ a:=by omega
 have hor:m ||| n*2 ^ a=m+n*2 ^ a:=by
  have h:=XY hm n
  rw [Nat.or_comm,QF n,<-h,K7]
 rw [<-QX,Q4,Q4,hor,Zo (by omega) (by omega)]
 push_cast
 try rfl
theorem Ztm:Contract Try.prog cfg 101 Z7h:=by
 refine Zly Z3A Zg3 Zg0 ?_
 intro c ns _ hp
 obtain ⟨hn,hl⟩:=hp
 dsimp only at hn hl
 have no:Jf c ns=false->Zx cfg Try.f101.ntmps Try.f101.results.toList (Zb9 (c,ns,())) [] .ret (⟨[(4,.c (.nils)),(5,.c (.bool false))],[],[]⟩:LSt U):=by
  intro h
  refine ZG (r':= .tup [(false,[.slice (U:=U) .u64 [] .unk]),(false,[.bool false])]) ?_ (by (repeat' (first | exact trivial | exact rfl | apply And.intro)))
  simp only [Zb9]
  rw [h,ZdC h]
 refine Zrt _ _ _ ?_
 (simp only [vcT,vcS])
 have hrm:=Z7p (c:=c) (n:=ns.length) (by omega) (by omega)
 refine ⟨trivial,fun h=> no (Z9p (by omega)),fun hc=> ⟨trivial,⟨hrm.1,by omega,by omega⟩,?_⟩⟩
 refine Za (ι:=Int) (fun p=> Z0V c ns p (Z1C c ns p)) (fun p=> 0<=p/\p<=ns.length/\∀ j:Nat,(j:Int) < p->J6 c (ns.getD j 0)=true) (fun p=> ((ns.length:Int) - p).toNat) 0 (by simp only [Z52]) ⟨by omega,by omega,fun j hj=> by omega⟩ ?_
 rintro i ⟨h1,h2,h3⟩
 refine Zgt _ _ _ _ _ _ ?_
 rintro y1 hy1 y2 hy2
 rw [if_neg (show ¬wd c < 0 by omega)] at hy2 ⊢
 (simp only [vcT,vcS])
 refine ⟨fun hi=> ⟨⟨h1,hi⟩,by rw [hy1];exact Yr hn _,fun hb=> no (Z9q (i:=i.toNat) (by omega) (by rw [<-hy1];exact hb)),fun hb=> ?_⟩,fun hi=> ?_⟩
 ·have hx:=Yr hn i.toNat
  rw [<-hy1] at hx
  have hf:=Zav hb
  have hin:0<=i*wd c/\i*wd c<=70368744177664:=by
   rcases Ji c with e | e | e | e | e | e | e
   ·omega
   all_goals (rw [e];omega)
  have hm:Int.tmod (i*wd c) 64=i*wd c % 64:=Qw hin.1
  rw [Ql hin.1] at hy2
  have hstep:Z1C c ns (i+1)=Z6b c (Z1C c ns i) i y1:=by rw [hy1];exact Z53 c ns h1 hi
  have hfin:0<=i+1/\i+1<=ns.length/\∀ j:Nat,(j:Int) < i+1->J6 c (ns.getD j 0)=true:=by
   refine ⟨by omega,by omega,fun j hj=> ?_⟩
   by_cases hji:(j:Int) < i
   ·exact h3 j hji
   ·rw [show j=i.toNat by omega,<-hy1];exact hb
  refine ⟨fun hw=> ?_,fun hw=> ?_⟩
  ·obtain ⟨a0,a1,a2,a3⟩:=Z6y (c:=c) (i:=i) (by omega) (by omega) (by omega)
   obtain ⟨r1,r2⟩:=Zdm (c:=c) (n:=ns.length) (i:=i) (by omega) h1 hi (by omega)
   have hI:=Zbe hn (by omega) h1 hi h3 (by omega)
   have hu:=Z9G (c:=c) (i:=i) (by omega) h1 (by omega)
   have hq:=hI (i*wd c / 64).toNat
   rw [hu.1] at hq
   have hs:=Za4 hq.1 hq.2 hx.1 hf.2
   have hp:=Z1g (show (i*wd c % 64).toNat+(wd c).toNat<=64 by omega)
   have h64:(2:Int) ^ 64=18446744073709551616:=rfl
   have hwy:IntKind.wrap .i64 y2=i*wd c / 64:=by rw [hy2,Ya (by omega) (by omega)]
   have hmin:min (i*wd c % 64).toNat (IntKind.bits .u64)=(i*wd c % 64).toNat:=by simp [IntKind.bits];omega
   rw [hm,hwy,hmin,Zo (n:=y1*2 ^ (i*wd c % 64).toNat) hs.2.2 (by omega),Z7Q hq.1 hq.2 hx.1 (by omega)]
   refine ⟨by ((unfold InR;omega)),by decide,⟨by omega,by rw [Z1Z];omega⟩,by ((unfold InR;omega)),by decide,by omega,⟨by omega,by rw [Z1Z];omega⟩,by omega,by ((unfold InR;omega)),i+1,?_,hfin,by omega⟩
   rw [hstep]
   unfold Z6b
   rw [if_neg (by omega)]
  ·refine ⟨by ((unfold InR;omega)),i+1,?_,hfin,by omega⟩
   rw [hstep]
   unfold Z6b
   rw [if_pos (by omega)]
 ·have hall:Jf c ns=true:=Z9r (by omega) fun j hj=> h3 j (by omega)
  have e:i=ns.length:=by omega
  subst e
  rw [Z7E]
  refine ZG (r':= .tup [(false,[.slice (U:=U) .u64 (Z2T c ns) .unk]),(false,[.bool true])]) ?_ (by (repeat' (first | exact trivial | exact rfl | apply And.intro)))
  simp only [Zb9]
  rw [hall,Zbd hall]
noncomputable section
def Zbh(a:Tree × Unit):Prop:=Zh a.1<=1000000
def ZmN(a:Tree × Unit):V U:= .tup [(false,[ci (frW a.1.kids:Int)]),(false,[ci (frK a.1.kids:Int)])]
def Z1G:Fs U:=fs Zd0 (fun a=> [Zbh a]) ZmN
def ZgZ(a:Int × Unit):V U:= .c (.bool (decide (-536870912<=a.1/\a.1 < 536870912)))
def Z3G:Fs U:=fs ZjK (fun a=> [Z5G a]) ZgZ
def Za7(a:Int × Int × Unit):Prop:=0<=a.2.1/\a.2.1 < 4
def ZgX(a:Int × Int × Unit):V U:= .c (.int .u64 (4*(a.1 % 1073741824)+a.2.1))
def Z3F:Fs U:=fs ZeL (fun a=> [Za7 a]) ZgX
def Z55(a:Ptr × Unit):Prop:=Ptr.kind a.1=1\/Ptr.kind a.1=2
def Z9X(a:Ptr × Unit):V U:= .tup [(false,[.int .u64 (YR a.1)]),(false,[.bool (eqP (Z4 (YR a.1)) a.1 && !decide (Ptr.kind a.1=4))])]
def Z19:Fs U:=fs ZeU (fun a=> [Z55 a]) Z9X
def Zf3:ArgL (Int × Int × Int × Int × Unit):=(.cons (Zr .i64) (.cons (Zr .i64) (.cons (Zr .i64) (.cons (Zr .u64) .nil))))
def Z3m(a:Int × Int × Int × Int × Unit):Prop:=(0<=a.1/\a.1<=a.2.1/\a.2.1 < 500000000)/\(0<=a.2.2.1/\a.2.2.1 < 4)/\0<=a.2.2.2.1/\a.2.2.2.1 < 4294967296
def Zhc(a:Int × Int × Int × Int × Unit):V U:= .c (.int .u64 (Z0b a.1 a.2.1 a.2.2.1 a.2.2.2.1))
def Z3R:Fs U:=fs Zf3 (fun a=> [Z3m a]) Zhc
def Zci(a:Tree × Unit):Prop:=Zh a.1<=1000000/\∀ k∈Tree.kids a.1,k.words.length=1
def Zha(a:Tree × Unit):V U:= .c (sU .u64 (Yd a.1.kids) .unk)
def Z3P:Fs U:=fs Zd0 (fun a=> [Zci a]) Zha
def Z6v:ArgM (List Int × Int × Unit):=(.lst (cWt .u64 (.e 0 0)) (.cons (Zr .i64) .nil))
def Z57(a:List Int × Int × Unit):Prop:=(a.1.length<=1000000)/\0<=a.2.1/\a.2.1<=1000000
def Zhb(a:List Int × Int × Unit):V U:= .c (.mref (.r 0 0))
def Zdn(a:List Int × Int × Unit):List (List (C U)):=[]
def Zdo(a:List Int × Int × Unit):List (Tok × LC U):=[(.r 0 0,LC.mk (U:=U) .u64 (a.1++zs (Int.toNat a.2.1)) 0)]
def Z3Q:Fs U:=(J5 Z6v (fun a=> [Z57 a]) Zhb Zdn Zdo).passing [0]
def ZlF:Z6 U:=lvl [([1],[1]),([1,4,5],[1]),([1,4,5,6],[1]),([1,4,5,6,11],[1]),([1,4,5,6],[1]),([1,4,5,6,22],[1]),([1,4,5,6,22],[1]),([1,4,5,6,38],[1]),([1,4,5,6,38],[1]),([2,3],[])]
def Z0Q(t:Tree)(x4 x5 x6:Int):LSt U:=(L2 [pL 1,pI 4 x4,pI 5 x5,pI 6 x6] [(.loc 1,(enc .tree t))])
def Z8a(t:Tree)(x4 x5 x6 x4_a:Int):LSt U:=(L2 [pL 1,pI 4 x4_a,pI 5 x5,pI 6 x6,(22,.c (.bool (decide ((x4:Int) < ((Tree.words (t.kids.getD x6.toNat Tree.nil)).length:Int)))))] [(.loc 1,(enc .tree t))])
def Z89(t:Tree)(x5 x6 x4_a x5_b:Int):LSt U:=(L2 [pL 1,pI 4 x4_a,pI 5 x5_b,pI 6 x6,(38,.c (.bool (decide ((x5:Int) < ((Tree.kids (t.kids.getD x6.toNat Tree.nil)).length:Int)))))] [(.loc 1,(enc .tree t))])
abbrev A82(p:List Nat):=AW (Z1 ZiK) Try.f82 ZlF p
abbrev S82(p:List Nat):=SW (Z1 ZiK) Try.f82 ZlF p
theorem Zso(t:Tree)(Q:QT)(h:(Zk (A82 [1,1,0,1,0,0]) (Z0Q t 0 0 0) (xB 0 (S82 [1,1,1] Q)))):
  A82 [] (L2 [(0,.agg (enc .tree t))] []) Q:=
 (Eq.mpr (by kernel_rfl) h:)
theorem Zko(t:Tree)(x4 x5 x6:Int)(N0:NT)(Q:QT)(h:let z2:=decide (x6 < (t.kids.length:Int));let z1:=xB 1 (S82 [1,1,0,1,0,0,1,1] (xT N0 (xB 0 (S82 [1,1,1] Q))));let z0:=Tree.words (t.kids.getD x6.toNat Tree.nil);let z3:=decide (x4 < (z0.length:Int));((z2=true->((0:Int)<=x6/\x6 < (t.kids.length:Int))/\((z3=true->((0:Int)<=x6/\x6 < (t.kids.length:Int))/\(A82 [1,1,0,1,0,0,1,0,0,1] (Z8a t x4 x5 x6 (z0.length:Int)) z1))/\(z3=false->A82 [1,1,0,1,0,0,1,0,0,1] (Z8a t x4 x5 x6 x4) z1)))/\(z2=false->(Q .ret (L2 [pI 2 x4,pI 3 x5] []))))):
  A82 [1,1,0,1,0,0] (Z0Q t x4 x5 x6) (xT N0 (xB 0 (S82 [1,1,1] Q))):=
 (Eq.mpr (by kernel_rfl) h:)
theorem Zd5(t:Tree)(x4 x5 x6 x4_a:Int)(N0:NT)(Q:QT)(h:let z2:=xT N0 (xB 0 (S82 [1,1,1] Q));let z0:=Tree.kids (t.kids.getD x6.toNat Tree.nil);let z1:=decide (x5 < (z0.length:Int));((0:Int)<=x6/\x6 < (t.kids.length:Int))/\((z1=true->((0:Int)<=x6/\x6 < (t.kids.length:Int))/\(A82 [1,1,0,1,0,0,1,1] (Z89 t x5 x6 x4_a (z0.length:Int)) z2))/\(z1=false->A82 [1,1,0,1,0,0,1,1] (Z89 t x5 x6 x4_a x5) z2))):
  A82 [1,1,0,1,0,0,1,0,0,1] (Z8a t x4 x5 x6 x4_a) (xB 1 (S82 [1,1,0,1,0,0,1,1] (xT N0 (xB 0 (S82 [1,1,1] Q))))):=
 (Eq.mpr (by kernel_rfl) h:)
theorem Z6l(t:Tree)(x5 x6 x4_a x5_b:Int)(N0:NT)(Q:QT)(h:(InR (x6+1))/\(N0 (Z0Q t x4_a x5_b (x6+1)))):
  A82 [1,1,0,1,0,0,1,1] (Z89 t x5 x6 x4_a x5_b) (xT N0 (xB 0 (S82 [1,1,1] Q))):=
 (Eq.mpr (by kernel_rfl) h:)
abbrev Zq7(t:Tree):Prop:=AW (Z1 ZiK) Try.f82 ZlF [] (Zb (Zd0.can (t,())) []) (EQ Try.f82 (ZmN (t,())) [])
theorem ZnR(hb:∀ (t:Tree) (_:Unit),Zbh (t,())->Zq7 t):CT 82 Z1G:=
 Z0 (l:=[]) Z9 rfl trivial ZlF Try.func82 rfl rfl 1 (fun _=> rfl) (by decide) (fun ⟨t,_⟩=> hb t ())
def Ze6:Z6 U:=lvl [([1],[1]),([1,4,5],[1]),([4,5,9,10,11],[]),([4,5,9,10,11,12],[]),([4,5,7,9,10,11],[7]),([4,5,9,10,11],[]),([4,5,9,10,11],[]),([2,3],[])]
def Z2I(t:Tree)(x4 x5 x11:Int):LSt U:=(L2 [pI 4 x4,pI 5 x5,(9,.c (sU .tree t.kids .unk)),pI 10 (t.kids.length:Int),pI 11 x11] [])
abbrev ZqZ(p:List Nat):=AW (Z1 ZiK) Try.f119 Ze6 p
abbrev ZrU(p:List Nat):=SW (Z1 ZiK) Try.f119 Ze6 p
theorem Zrb(t:Tree)(Q:QT)(h:(Zk (ZqZ [1,1,0,1,0,0]) (Z2I t 0 0 0) (xB 0 (ZrU [1,1,1] Q)))):
  ZqZ [] (L2 [(0,.agg (enc .tree t))] []) Q:=
 (Eq.mpr (by kernel_rfl) h:)
theorem Zgp(t:Tree)(x4 x5 x11:Int)(N0:NT)(Q:QT)(h:let z1:=decide (x11 < (t.kids.length:Int));let z0:=t.kids.getD x11.toNat Tree.nil;((z1=true->((0:Int)<=x11/\x11 < (t.kids.length:Int))/\((InR (x11+1))/\(N0 (Z2I t (if x4 < ((Tree.words z0).length:Int) then ((Tree.words z0).length:Int) else x4) (if x5 < ((Tree.kids z0).length:Int) then ((Tree.kids z0).length:Int) else x5) (x11+1)))))/\(z1=false->(Q .ret (L2 [pI 2 x4,pI 3 x5] []))))):
  ZqZ [1,1,0,1,0,0] (Z2I t x4 x5 x11) (xT N0 (xB 0 (ZrU [1,1,1] Q))):=
 (Eq.mpr (by kernel_rfl) h:)
abbrev Zmh(t:Tree):Prop:=AW (Z1 ZiK) Try.f119 Ze6 [] (Zb (Zd0.can (t,())) []) (EQ Try.f119 (ZmN (t,())) [])
theorem Zli(hb:∀ (t:Tree) (_:Unit),Zbh (t,())->Zmh t):CT 119 Z1G:=
 Z0 (l:=[]) Z9 rfl trivial Ze6 Try.func119 rfl rfl 1 (fun _=> rfl) (by decide) (fun ⟨t,_⟩=> hb t ())
abbrev Ztt(p:List Nat):=AW (Z1 ZiK) Try.f123 Zi9 p
theorem Zr7(n:Int)(Q:QT)(h:let z0:=decide (((-536870912):Int)<=n);((Tr (z0=true))/\(Tr (z0=true))/\(Q .ret (L2 [(2,.c (.bool (bif z0 then (decide (n < 536870912)) else false)))] [])))):
  Ztt [] (L2 [pI 0 n] []) Q:=
 (Eq.mpr (by kernel_rfl) h:)
abbrev Zmd(n:Int):Prop:=AW (Z1 ZiK) Try.f123 Zi9 [] (Zb (ZjK.can (n,())) []) (EQ Try.f123 (ZgZ (n,())) [])
theorem Zle(hb:∀ (n:Int) (_:Unit),Z5G (n,())->Zmd n):CT 123 Z3G:=
 Z0 (l:=[]) Z9 rfl trivial Zi9 Try.func123 rfl rfl 1 (fun _=> rfl) (by decide) (fun ⟨n,_⟩=> hb n ())
abbrev Ztr(p:List Nat):=AW (Z1 ZiK) Try.f125 ZhY p
theorem Zr5(off k:Int)(Q:QT)(h:let z0:=IntKind.bits .u32;(((0:Int)<=2)/\(Q .ret (L2 [(4,.c (.int .u64 (IntKind.wrap .u64 (IntKind.wrap .u32 (BitVec.ofInt z0 (IntKind.wrap .u32 (((IntKind.wrap .u32 off):Int)*2 ^ (min (Int.toNat 2) z0))) ||| BitVec.ofInt z0 (IntKind.wrap .u32 k)).toNat))))] [])))):
  Ztr [] (L2 [pI 0 off,pI 1 k] []) Q:=
 (Eq.mpr (by kernel_rfl) h:)
abbrev Zmb(off k:Int):Prop:=AW (Z1 ZiK) Try.f125 ZhY [] (Zb (ZeL.can (off,k,())) []) (EQ Try.f125 (ZgX (off,k,())) [])
theorem Zlc(hb:∀ (off:Int) (k:Int) (_:Unit),Za7 (off,k,())->Zmb off k):CT 125 Z3F:=
 Z0 (l:=[]) Z9 rfl trivial ZhY Try.func125 rfl rfl 2 (fun _=> rfl) (by decide) (fun ⟨off,k,_⟩=> hb off k ())
def Zem:List (FuncId × Fs U):=[(123,Z3G),(124,Z0s),(125,Z3F),(86,Z1H)]
def Zi1:Z6 U:=lvl [([1],[1]),([1,4],[1]),([1,4,6],[1]),([1,4,6,7],[1]),([1,4,21,49,63,72,84],[1]),([1,4,21,49,63,72,84],[1]),([1,4,6,35],[1]),([1,4,21,49,63,72,84],[1]),([1,4,21,49,63,72,84],[1]),([1,4,21,49,63,72,84],[1]),([1,4,21,49,63,72,84],[1]),([1,4],[1]),([1,4,21,49,63,72,84],[1]),([1,4,21,49,63,72,84],[1]),([2,3],[])]
def YA(p:Ptr)(x4:Int)(v21 v49 v84 v72 v63:V U):LSt U:=(L2 [pL 1,(4,.c (.int .u64 x4)),(21,v21),(49,v49),(63,v63),(72,v72),(84,v84)] [(.loc 1,(enc .ptr p))])
abbrev Z8r(p:List Nat):=AW (Z1 Zem) Try.f120 Zi1 p
theorem Zra(p:Ptr)(Q:QT)(h:let z9:=((Ptr.kind p):Int)==3;let z5:=IntKind.bits .u64;let z10:=min (Int.toNat 32) z5;let z4:=decide (0<=(Ptr.off p)/\(Ptr.off p)<=536870911);let z8:=bif z4 then (decide (0<=(Ptr.segment p)/\(Ptr.segment p)<=4294967295)) else false;let z3:=IntKind.wrap .u64 (BitVec.ofInt z5 (IntKind.wrap .u64 (BitVec.ofInt z5 (IntKind.wrap .u64 (((IntKind.wrap .u64 (Ptr.off p)):Int)*2 ^ (min (Int.toNat 3) z5))) ||| BitVec.ofInt z5 2).toNat) ||| BitVec.ofInt z5 (IntKind.wrap .u64 (((IntKind.wrap .u64 (Ptr.segment p)):Int)*2 ^ z10))).toNat;let z0:=decide (-536870912<=(Ptr.off p)/\(Ptr.off p) < 536870912);let z2:=bif z0 then (decide (0<=(Ptr.code p)/\(Ptr.code p)<=7)) else false;let z6:=bif z2 then (decide (0<=(Ptr.count p)/\(Ptr.count p)<=536870911)) else false;let z1:=bif z0 then (decide (0<=(Ptr.data p)/\(Ptr.data p)<=65535)) else false;let z7:=bif z1 then (decide (0<=(Ptr.ptrs p)/\(Ptr.ptrs p)<=65535)) else false;(((((Ptr.kind p):Int)==1)=true->(Z5G ((Ptr.off p),()))/\(Tr (z0=true))/\(Tr (z0=true))/\(z0=true->Z0I ((Ptr.data p),65535,()))/\(Tr (z0=true))/\(Tr (z1=true))/\(Tr (z1=true))/\(z1=true->Z0I ((Ptr.ptrs p),65535,()))/\(Tr (z1=true))/\((z7=true->(Za7 ((Ptr.off p),0,()))/\((0:Int)<=32)/\((0:Int)<=48)/\(Z8r [1,1,1] (YA p (IntKind.wrap .u64 (BitVec.ofInt z5 (IntKind.wrap .u64 (BitVec.ofInt z5 (4*((Ptr.off p) % 1073741824)+0) ||| BitVec.ofInt z5 (IntKind.wrap .u64 (((IntKind.wrap .u64 (Ptr.data p)):Int)*2 ^ z10))).toNat) ||| BitVec.ofInt z5 (IntKind.wrap .u64 (((IntKind.wrap .u64 (Ptr.ptrs p)):Int)*2 ^ (min (Int.toNat 48) z5)))).toNat) (.c (.bool z7)) .junk .junk .junk .junk) Q))/\(z7=false->Z8r [1,1,1] (YA p 0 (.c (.bool z7)) .junk .junk .junk .junk) Q)))/\((((Ptr.kind p):Int)==1)=false->(((((Ptr.kind p):Int)==2)=true->(Z5G ((Ptr.off p),()))/\(Tr (z0=true))/\(Tr (z0=true))/\(z0=true->Z0I ((Ptr.code p),7,()))/\(Tr (z0=true))/\(Tr (z2=true))/\(Tr (z2=true))/\(z2=true->Z0I ((Ptr.count p),536870911,()))/\(Tr (z2=true))/\((z6=true->(Za7 ((Ptr.off p),1,()))/\((0:Int)<=32)/\((0:Int)<=35)/\(Z8r [1,1,1] (YA p (IntKind.wrap .u64 (BitVec.ofInt z5 (IntKind.wrap .u64 (BitVec.ofInt z5 (4*((Ptr.off p) % 1073741824)+1) ||| BitVec.ofInt z5 (IntKind.wrap .u64 (((IntKind.wrap .u64 (Ptr.code p)):Int)*2 ^ z10))).toNat) ||| BitVec.ofInt z5 (IntKind.wrap .u64 (((IntKind.wrap .u64 (Ptr.count p)):Int)*2 ^ (min (Int.toNat 35) z5)))).toNat) .junk (.c (.bool z6)) .junk .junk .junk) Q))/\(z6=false->Z8r [1,1,1] (YA p 0 .junk (.c (.bool z6)) .junk .junk .junk) Q)))/\((((Ptr.kind p):Int)==2)=false->((z9=true->(Z0I ((Ptr.off p),536870911,()))/\(Tr (z4=true))/\(Tr (z4=true))/\(z4=true->Z0I ((Ptr.segment p),4294967295,()))/\(Tr (z4=true))/\((z8=true->((0:Int)<=3)/\((0:Int)<=32)/\(((Ptr.double p)=true->(Z8r [1,1,1] (YA p (IntKind.wrap .u64 (BitVec.ofInt z5 z3 ||| BitVec.ofInt z5 4).toNat) .junk .junk (.c (.bool (Ptr.double p))) .junk .junk) Q))/\((Ptr.double p)=false->Z8r [1,1,1] (YA p z3 .junk .junk (.c (.bool (Ptr.double p))) .junk .junk) Q)))/\(z8=false->Z8r [1,1,1] (YA p 0 .junk .junk .junk (.c (.bool z8)) (.c (.bool z9))) Q)))/\(z9=false->Z8r [1,1,1] (YA p 0 .junk .junk .junk .junk (.c (.bool z9))) Q))))))):
  Z8r [] (L2 [(0,.agg (enc .ptr p))] []) Q:=
 (Eq.mpr (by kernel_rfl) h:)
theorem Zgo(p:Ptr)(x4:Int)(v21 v49 v84 v72 v63:V U)(Q:QT)(h:let z0:=(((Ptr.kind (Z4 x4)):Int)==(Ptr.kind p)) && ((((Ptr.off (Z4 x4)):Int)==(Ptr.off p)) && ((((Ptr.data (Z4 x4)):Int)==(Ptr.data p)) && ((((Ptr.ptrs (Z4 x4)):Int)==(Ptr.ptrs p)) && ((((Ptr.code (Z4 x4)):Int)==(Ptr.code p)) && ((((Ptr.count (Z4 x4)):Int)==(Ptr.count p)) && ((((Ptr.segment (Z4 x4)):Int)==(Ptr.segment p)) && (((Ptr.double (Z4 x4))==(Ptr.double p)) && true)))))));(Z5F (x4,()))/\(Tr (z0=true))/\(Tr (z0=true))/\(Tr (z0=true))/\(Q .ret (L2 [(2,.c (.int .u64 x4)),(3,.c (.bool (bif z0 then (((Ptr.kind p):Int) !=4) else false)))] []))):
  Z8r [1,1,1] (YA p x4 v21 v49 v84 v72 v63) Q:=
 (Eq.mpr (by kernel_rfl) h:)
abbrev Zmg(p:Ptr):Prop:=AW (Z1 Zem) Try.f120 Zi1 [] (Zb (ZeU.can (p,())) []) (EQ Try.f120 (Z9X (p,())) [])
theorem Zlh(Zpx:CT 123 Z3G)(ZfZ:CT 124 Z0s)(Zpw:CT 125 Z3F)(c86:CT 86 Z1H)(hb:∀ (p:Ptr) (_:Unit),Z55 (p,())->Zmg p):CT 120 Z19:=
 Z0 (l:=[(123,Z3G),(124,Z0s),(125,Z3F),(86,Z1H)]) Z9 rfl (⟨Zpx,ZfZ,Zpw,c86,trivial⟩) Zi1 Try.func120 rfl rfl 1 (fun _=> rfl) (by decide) (fun ⟨p,_⟩=> hb p ())
def Zic:Z6 U:=lvl [([0,1,2,3],[]),([2,3,9],[]),([2,3,9,15],[]),([2,3,9],[]),([8],[])]
abbrev ZtF(p:List Nat):=AW (Z1 ZiK) Try.f102 Zic p
theorem Zrs(fr to k up:Int)(Q:QT)(h:let z1:=IntKind.wrap .u64 (up*4294967296);let z0:=decide (((((to - fr):Int) - 1):Int) < 0);((InR (to - fr))/\(InR (((to - fr):Int) - 1))/\((z0=true->(InR (((((to - fr):Int) - 1):Int)+1073741824))/\((InR ((4:Int)*(((((to - fr):Int) - 1):Int)+1073741824)))/\(InR ((((4:Int)*(((((to - fr):Int) - 1):Int)+1073741824)):Int)+k))/\(Q .ret (L2 [(8,.c (.int .u64 (IntKind.wrap .u64 (((IntKind.wrap .u64 ((((4:Int)*(((((to - fr):Int) - 1):Int)+1073741824)):Int)+k)):Int)+z1))))] []))))/\(z0=false->(InR ((4:Int)*(((to - fr):Int) - 1)))/\(InR ((((4:Int)*(((to - fr):Int) - 1)):Int)+k))/\(Q .ret (L2 [(8,.c (.int .u64 (IntKind.wrap .u64 (((IntKind.wrap .u64 ((((4:Int)*(((to - fr):Int) - 1)):Int)+k)):Int)+z1))))] [])))))):
  ZtF [] (L2 [pI 0 fr,pI 1 to,pI 2 k,(3,.c (.int .u64 up))] []) Q:=
 (Eq.mpr (by kernel_rfl) h:)
abbrev Zmy(fr to k up:Int):Prop:=AW (Z1 ZiK) Try.f102 Zic [] (Zb (Zf3.can (fr,to,k,up,())) []) (EQ Try.f102 (Zhc (fr,to,k,up,())) [])
theorem Zlx(hb:∀ (fr:Int) (to:Int) (k:Int) (up:Int) (_:Unit),Z3m (fr,to,k,up,())->Zmy fr to k up):CT 102 Z3R:=
 Z0 (l:=[]) Z9 rfl trivial Zic Try.func102 rfl rfl 4 (fun _=> rfl) (by decide) (fun ⟨fr,to,k,up,_⟩=> hb fr to k up ())
def Zeb:Z6 U:=fun i=> match i with
 | 0=> ([(1,[])],[(.loc 1,[])])
 | 1=> ([(1,[]),(3,[])],[(.loc 1,[])])
 | 2=> ([(1,[]),(3,[.own .u64]),(4,[])],[(.loc 1,[])])
 | 3=> ([(1,[]),(3,[]),(4,[]),(9,[])],[(.loc 1,[])])
 | 4=> ([(1,[]),(3,[.own .u64]),(4,[])],[(.loc 1,[])])
 | 5=> ([(1,[]),(3,[]),(4,[])],[(.loc 1,[])])
 | 6=> ([(2,[])],[])
 | _=> ([],[])
def Z2K(t:Tree)(x4:Int)(x3:List Int):LSt U:=(L2 [pL 1,(3,.c (sU .u64 x3 (.own (.e 3 0)))),pI 4 x4] [(.loc 1,(enc .tree t))])
abbrev Zr2(p:List Nat):=AW (Z1 ZiK) Try.f104 Zeb p
abbrev ZrX(p:List Nat):=SW (Z1 ZiK) Try.f104 Zeb p
theorem Zrq(t:Tree)(Q:QT)(h:(Zk (Zr2 [1,1,0,1,0,0]) (Z2K t 0 []) (xB 0 (ZrX [1,1,1] Q)))):
  Zr2 [] (L2 [(0,.agg (enc .tree t))] []) Q:=
 (Eq.mpr (by kernel_rfl) h:)
theorem Zgr(t:Tree)(x4:Int)(x3:List Int)(N0:NT)(Q:QT)(h:let z1:=decide (x4 < (t.kids.length:Int));let z0:=Tree.words (t.kids.getD x4.toNat Tree.nil);((z1=true->((0:Int)<=x4/\x4 < (t.kids.length:Int))/\((0:Int)<=0/\0 < (z0.length:Int))/\((x3.length+([List.getD z0 (Int.toNat 0) (0:Int)]).length)*8<=140737488355328)/\((InR (x4+1))/\(N0 (Z2K t (x4+1) (x3++([List.getD z0 (Int.toNat 0) (0:Int)]))))))/\(z1=false->(Q .ret (L2 [(2,.c (sU .u64 x3 (.own (.e 2 0))))] []))))):
  Zr2 [1,1,0,1,0,0] (Z2K t x4 x3) (xT N0 (xB 0 (ZrX [1,1,1] Q))):=
 (Eq.mpr (by kernel_rfl) h:)
abbrev Zmw(t:Tree):Prop:=AW (Z1 ZiK) Try.f104 Zeb [] (Zb (Zd0.can (t,())) []) (EQ Try.f104 (Zha (t,())) [])
theorem Zlv(hb:∀ (t:Tree) (_:Unit),Zci (t,())->Zmw t):CT 104 Z3P:=
 Z0 (l:=[]) Z9 rfl trivial Zeb Try.func104 rfl rfl 1 (fun _=> rfl) (by decide) (fun ⟨t,_⟩=> hb t ())
def Zec:Z6 U:=fun i=> match i with
 | 0=> ([(0,[.wr .u64]),(1,[])],[])
 | 1=> ([(0,[.wr .u64]),(1,[]),(5,[])],[])
 | 2=> ([(0,[.wr .u64]),(1,[]),(5,[]),(8,[])],[])
 | 3=> ([(0,[.wr .u64]),(1,[]),(5,[])],[])
 | 4=> ([(0,[.wr .u64]),(1,[]),(5,[])],[])
 | 5=> ([(4,[.wr .u64])],[])
 | _=> ([],[])
def Z2L(l:List Int)(n x5:Int)(re_0_0:List Int):LSt U:=(⟨[(0,.c (.mref (.e 0 0))),pI 1 n,pI 5 x5],[],[(.e 0 0,LC.mk (U:=U) .u64 re_0_0 0)]⟩:LSt U)
abbrev Zr3(p:List Nat):=AW (Z1 ZiK) Try.f103 Zec p
abbrev ZrY(p:List Nat):=SW (Z1 ZiK) Try.f103 Zec p
theorem Zrr(l:List Int)(n:Int)(Q:QT)(h:(Zk (Zr3 [1,0,1,0,0]) (Z2L l n 0 l) (xB 0 (ZrY [1,1] Q)))):
  Zr3 [] (⟨[(0,.c (.mref (.e 0 0))),pI 1 n],[],[(.e 0 0,LC.mk (U:=U) .u64 l 0)]⟩:LSt U) Q:=
 (Eq.mpr (by kernel_rfl) h:)
theorem Zgs(l:List Int)(n x5:Int)(re_0_0:List Int)(N0:NT)(Q:QT)(h:(((decide (x5 < n))=true->((re_0_0.length+([0]).length)*8<=140737488355328)/\((InR (x5+1))/\(N0 (Z2L l n (x5+1) (re_0_0++([0]))))))/\((decide (x5 < n))=false->(Q .ret (⟨[(4,.c (.mref (.e 4 0)))],[],[(.e 4 0,LC.mk (U:=U) .u64 re_0_0 0)]⟩:LSt U))))):
  Zr3 [1,0,1,0,0] (Z2L l n x5 re_0_0) (xT N0 (xB 0 (ZrY [1,1] Q))):=
 (Eq.mpr (by kernel_rfl) h:)
abbrev Zmx(l:List Int)(n:Int):Prop:=AW (Z1 ZiK) Try.f103 Zec [] (Ys (Z6v.can (l,n,())) (Z6v.canX (l,n,())) (Z6v.canL (l,n,()))) (YP cfg Try.f103.ntmps Try.f103.results.toList (Zhb (l,n,())) (Zdn (l,n,())) (Zdo (l,n,())))
theorem Zlw(hb:∀ (l:List Int) (n:Int) (_:Unit),Z57 (l,n,())->Zmx l n):CT 103 Z3Q:=
 Contract.passing <| J2 (l:=[]) Z9 rfl trivial Zec Try.func103 rfl rfl 2 (fun _=> rfl) (by decide) (fun ⟨l,n,_⟩=> hb l n ())
end
end Go.AM.Ythokdjgpdonhgaa
