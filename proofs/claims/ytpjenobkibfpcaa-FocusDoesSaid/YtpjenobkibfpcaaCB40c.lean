import Derived.Test.YtpjenobkibfpcaaKG21a
import Derived.Test.YtpjenobkibfpcaaKB20y
import Derived.Test.YtpjenobkibfpcaaKD22
import Derived.Test.YtpjenobkibfpcaaKL21n
set_option linter.unusedSimpArgs false
set_option linter.unusedVariables false
namespace Go.AM.Ytpjenobkibfpcaa
open Go.AM Go.Proofs
noncomputable section
abbrev ZB(p:Prop):Prop:=p→p
def Zhc:ArgL (Tree × Unit):=(.cons (aEl .tree) .nil)
def Z2B(a:Tree × Unit):Prop:=Zg a.1≤20000000000
def ZjO(a:Tree × Unit):V U:= .c (.bool (ZH a.1))
def Z5g:Fs U:=fs Zhc (fun a=> [Z2B a]) ZjO
def Zhl:ArgL (Edit × Unit):=(.cons (aEl .edit) .nil)
def Z6H(a:Edit × Unit):Prop:=Ze a.1≤20000000000
def ZjV(a:Edit × Unit):V U:= .c (.bool (Z0j a.1))
def Z2v:Fs U:=fs Zhl (fun a=> [Z6H a]) ZjV
def ZgN:List (FuncId × Fs U):=[]
def ZkI:Zh U:=lvl [([1],[1]),([2],[])]
abbrev Zt6(t:Tree)(Q:QT):=AW (Z0 ZgN) Try.f167 ZkI [] (L2 [(0,.agg (enc .tree t))] []) Q
theorem Zsg(t:Tree)(Q:QT)(h:((t.kind==0)=true→InR (((t.words.length:Int):Int)+(t.kids.length:Int)))∧(Q .ret (L2 [(2,.c (.bool (bif (t.kind==0) then (((((t.words.length:Int):Int)+(t.kids.length:Int)):Int)==0) else false)))] []))):
  Zt6 t Q:=by
 have e_:(Zt6 t Q)=((ZB ((t.kind==0)=true))∧(ZB ((t.kind==0)=true))∧(ZB ((t.kind==0)=true))∧(ZB ((t.kind==0)=true))∧(ZB ((t.kind==0)=true))∧(ZB ((t.kind==0)=true))∧((t.kind==0)=true→InR ((t.words.length:Int)+(t.kids.length:Int)))∧(ZB ((t.kind==0)=true))∧(ZB ((t.kind==0)=true))∧(Q .ret (L2 [(2,.c (.bool (bif (t.kind==0) then ((((t.words.length:Int)+(t.kids.length:Int)):Int)==0) else false)))] []))):=by kernel_rfl
 exact e_.mpr ⟨id,id,id,id,id,id,h.1,id,(by generalize ((t.kind:Int)==0)=b0;revert b0;decide),h.2⟩
def Zoi(t:Tree):Prop:=AW (Z0 ZgN) Try.f167 ZkI [] (Zl (Zhc.can (t,())) []) (EQ Try.f167 (ZjO (t,())) [])
theorem Zn9(hb:∀ (t:Tree) (_:Unit),Z2B (t,())→Zoi t):CT 167 Z5g:=
 Z4 (l:=[]) Zk rfl trivial ZkI Try.func167 rfl rfl 1 (fun _=> rfl) (by decide) (fun ⟨t,_⟩=> hb t ())
def ZgT:List (FuncId × Fs U):=[(167,Z5g)]
def ZkO:Zh U:=lvl [([1],[1]),([1,3],[1]),([1,4],[1]),([2],[]),([1,21],[1]),([2],[]),([2],[])]
abbrev Ztg(e:Edit)(Q:QT):=AW (Z0 ZgT) Try.f121 ZkO [] (L2 [(0,.agg (enc .edit e))] []) Q
theorem Zsu(e:Edit)(Q:QT)(h:∀ y_1,y_1=(e.new)→∀ y_2,y_2=(e.old)→((e.kind !=1)=true→Z2B (y_2,()))∧(((e.kind !=1) && (ZH y_2))=true→Z2B (y_1,()))∧(((bif (e.kind !=1) then (!(bif (ZH y_2) then (ZH y_1) else false)) else false)=true→Q .ret (L2 [(2,.c (.bool false))] []))∧((bif (e.kind !=1) then (!(bif (ZH y_2) then (ZH y_1) else false)) else false)=false→((e.kind !=2)=true→InR (((e.words.length:Int):Int)+(e.kids.length:Int)))∧(((bif (e.kind !=2) then (decide ((0:Int) < (((e.words.length:Int):Int)+(e.kids.length:Int)))) else false)=true→Q .ret (L2 [(2,.c (.bool false))] []))∧((bif (e.kind !=2) then (decide ((0:Int) < (((e.words.length:Int):Int)+(e.kids.length:Int)))) else false)=false→Q .ret (L2 [(2,.c (.bool (bif (e.kind==3) then true else (bif (e.list==0) then (((e.ops.length:Int):Int)==0) else false))))] [])))))):
  Ztg e Q:=by
 have e_:(Ztg e Q)=(let y_1:=(Z3d e.new);let y_2:=(Z3d e.old);let zz2:=(bif (e.kind !=1) then (!(bif (ZH y_2) then (ZH y_1) else false)) else false);let zz1:=(bif (e.kind !=2) then (decide ((0:Int) < ((e.words.length:Int)+(e.kids.length:Int)))) else false);let zz0:=(!(e.kind==3));((ZB ((e.kind !=1)=true))∧(ZB ((e.kind !=1)=true))∧(ZB ((e.kind !=1)=true))∧((e.kind !=1)=true→Z2B (y_2,()))∧(ZB ((e.kind !=1)=true))∧(ZB (((e.kind !=1) && (ZH y_2))=true))∧(ZB (((e.kind !=1) && (ZH y_2))=true))∧(ZB (((e.kind !=1) && (ZH y_2))=true))∧(((e.kind !=1) && (ZH y_2))=true→Z2B (y_1,()))∧((e.kind !=1)=true→(True→(e.kind !=1)=true))∧((e.kind !=1)=true→((ZH y_2)=true→((e.kind !=1) && (ZH y_2))=true))∧(ZB ((e.kind !=1)=true))∧(ZB ((e.kind !=1)=true))∧((zz2=true→(Q .ret (L2 [(2,.c (.bool false))] [])))∧(zz2=false→(ZB ((e.kind !=2)=true))∧(ZB ((e.kind !=2)=true))∧(ZB ((e.kind !=2)=true))∧(ZB ((e.kind !=2)=true))∧(ZB ((e.kind !=2)=true))∧(ZB ((e.kind !=2)=true))∧((e.kind !=2)=true→InR ((e.words.length:Int)+(e.kids.length:Int)))∧(ZB ((e.kind !=2)=true))∧(ZB ((e.kind !=2)=true))∧((zz1=true→(Q .ret (L2 [(2,.c (.bool false))] [])))∧(zz1=false→(ZB (zz0=true))∧(ZB (zz0=true))∧(ZB (zz0=true))∧(ZB ((zz0 && (e.list==0))=true))∧(ZB ((zz0 && (e.list==0))=true))∧(ZB ((zz0 && (e.list==0))=true))∧(zz0=true→(True→zz0=true))∧(zz0=true→((e.list==0)=true→(zz0 && (e.list==0))=true))∧((e.kind==3)=false→zz0=true)∧(Q .ret (L2 [(2,.c (.bool (bif (e.kind==3) then true else (bif (e.list==0) then ((e.ops.length:Int)==0) else false))))] [])))))))):=by kernel_rfl
 exact e_.mpr (by intro y_1 y_2;have hh:=h y_1 (Zb _) y_2 (Zb _);exact ⟨id,id,id,hh.1,id,id,id,id,hh.2.1,(by generalize ((e.kind:Int) !=1)=b0;revert b0;decide),(by generalize (ZH y_2)=b0;generalize ((e.kind:Int) !=1)=b1;revert b0 b1;decide),id,(by generalize ((e.kind:Int) !=1)=b0;revert b0;decide),⟨fun c_1=> (hh.2.2.1 c_1),fun c_1=> ⟨id,id,id,id,id,id,(hh.2.2.2 c_1).1,id,(by generalize ((e.kind:Int) !=2)=b0;revert b0;decide),⟨fun c_2=> ((hh.2.2.2 c_1).2.1 c_2),fun c_2=> ⟨id,id,id,id,id,id,(by generalize ((e.kind:Int)==3)=b0;revert b0;decide),(by generalize ((e.kind:Int)==3)=b0;generalize ((e.list:Int)==0)=b1;revert b0 b1;decide),(by generalize ((e.kind:Int)==3)=b0;revert b0;decide),((hh.2.2.2 c_1).2.2 c_2)⟩⟩⟩⟩⟩)
def Zow(e:Edit):Prop:=AW (Z0 ZgT) Try.f121 ZkO [] (Zl (Zhl.can (e,())) []) (EQ Try.f121 (ZjV (e,())) [])
theorem Znl(ZqS:CT 167 Z5g)(hb:∀ (e:Edit) (_:Unit),Z6H (e,())→Zow e):CT 121 Z2v:=
 Z4 (l:=[(167,Z5g)]) Zk rfl (⟨ZqS,trivial⟩) ZkO Try.func121 rfl rfl 1 (fun _=> rfl) (by decide) (fun ⟨e,_⟩=> hb e ())
end
end Go.AM.Ytpjenobkibfpcaa
namespace Go.AM.Ytpjenobkibfpcaa
open Go.AM Go.Proofs
theorem ZqS:Contract Try.prog cfg 167 Z5g:=by
 refine Zn9 ?_
 intro t _ hp
 simp only [Z2B] at hp
 have:=Zdz t
 refine Zsg t _ ?_
 refine ⟨fun _=> by unfold InR;omega,Z2 rfl ?_⟩
 rw [Bool.eq_iff_iff]
 simp only [ZH]
 (simp only [vcS])
 omega
theorem Zr1:Contract Try.prog cfg 121 Z2v:=by
 refine Znl ZqS ?_
 intro e _ hp
 simp only [Z6H] at hp
 have h1:=Y5 e
 have h2:=Yg e.kids
 refine Zsu e _ ?_
 rintro y1 rfl y2 rfl
 (simp only [vcS])
 refine ⟨fun _=> by simp only [Z2B];omega,fun _=> by simp only [Z2B];omega,fun h=> ?_,fun h=> ⟨fun _=> by unfold InR;omega,fun h3=> ?_,fun h3=> ?_⟩⟩
 ·refine Z2 rfl ?_
  show false=Z0j e
  unfold Z0j
  rw [if_pos (Or.inl ⟨h.1,fun hn=> by have:=h.2;rw [hn.1,hn.2] at this;revert this;decide⟩)]
 ·refine Z2 rfl ?_
  show false=Z0j e
  unfold Z0j
  rw [if_pos (Or.inr (Or.inl ⟨h3.1,by omega⟩))]
 ·refine Z2 rfl ?_
  show _=Z0j e
  unfold Z0j
  have g1:¬(e.kind≠1∧¬(ZH e.old=true∧ZH e.new=true)):=by
   intro hc
   rcases h with h | h
   ·exact hc.1 (by simpa using h)
   ·exact hc.2 (by simpa using h)
  have g2:¬(e.kind≠2∧¬(e.words.length=0∧e.kids.length=0)):=by omega
  by_cases g3:e.kind≠3∧(e.list≠0∨e.ops.length≠0)
  ·rw [if_pos (Or.inr (Or.inr g3)),Bool.eq_iff_iff]
   (simp only [vcS])
   constructor
   ·intro h;omega
   ·intro h;cases h
  ·rw [if_neg (by rintro (x | x | x) <;> contradiction),Bool.eq_iff_iff]
   (simp only [vcS])
   constructor
   ·intro _;first | trivial | rfl
   ·intro _;omega
end Go.AM.Ytpjenobkibfpcaa
namespace Go.AM.Ytpjenobkibfpcaa
open Go.AM Go.Proofs
noncomputable section
abbrev Z7(p:Prop):Prop:=p→p
noncomputable section
def Z55:ArgL (Edit × Int × Unit):=(.cons (aEl .edit) (.cons (Yk .i64) .nil))
def YF(a:Edit × Int × Unit):Prop:=(Ze a.1≤18000000000∧ZL a.1)∧0≤a.2.1∧a.2.1≤1000
def Z1N(a:Edit × Int × Unit):Nat:=4*Ze a.1
def Z9a(a:Edit × Int × Unit):V U:= .c (.bool (Z3 a.1 a.2.1))
def Z8C:Fs U:=fs Z55 (fun a=> [YF a]) Z9a
def Z2O:ArgL (List Kid × Int × Unit):=(.cons (aSl .kid) (.cons (Yk .i64) .nil))
def Z17(a:List Kid × Int × Unit):Prop:=(ZK a.1≤18000000000∧Z1x a.1)∧0≤a.2.1∧a.2.1≤1000
def Z4t(a:List Kid × Int × Unit):Nat:=4*ZK a.1+2
def Z3c(a:List Kid × Int × Unit):V U:= .c (.bool (Zv (-1) a.1 a.2.1))
def ZfP:Fs U:=fs Z2O (fun a=> [Z17 a]) Z3c
def Z2N:ArgL (Edit × Int × Unit):=(.cons (aEl .edit) (.cons (Yk .i64) .nil))
def Z16(a:Edit × Int × Unit):Prop:=(Ze a.1≤18000000000∧ZL a.1∧2≤Edit.list a.1∧Edit.list a.1≤9)∧0≤a.2.1∧a.2.1≤1000
def Z4s(a:Edit × Int × Unit):Nat:=4*Zf a.1.ops+2
def Z4M(a:Edit × Int × Unit):V U:= .c (.bool (Zx a.1.list a.1.ops a.2.1 && decide (JG a.1.ops 0 < 1048576∧JF a.1.ops 0 < 1048576)))
def ZfO:Fs U:=fs Z2N (fun a=> [Z16 a]) Z4M
def Z2M:ArgL (Int × Op × Int × Unit):=(.cons (Yk .i64) (.cons (aEl .op) (.cons (Yk .i64) .nil)))
def Z15(a:Int × Op × Int × Unit):Prop:=(ZW a.2.1≤18000000000∧JI a.2.1∧2≤a.1∧a.1≤9)∧0≤a.2.2.1∧a.2.2.1≤1000
def Z4r(a:Int × Op × Int × Unit):Nat:=4*ZW a.2.1+1
def Z4L(a:Int × Op × Int × Unit):V U:= .c (.bool (Zd a.1 a.2.1 a.2.2.1))
def ZfN:Fs U:=fs Z2M (fun a=> [Z15 a]) Z4L
def ZlQ:ArgL (Edit × Unit):=(.cons (aEl .edit) .nil)
def Zgh(a:Edit × Unit):Prop:=Ze a.1≤18000000000∧ZL a.1
def ZoS(a:Edit × Unit):V U:= .c (.bool (Z3 a.1 64))
def Z8P:Fs U:=fs ZlQ (fun a=> [Zgh a]) ZoS
def Z53(N:Nat):List (FuncId × Fs U):=(89,fs Z55 (fun a=> [YF a,Z1N a < N]) Z9a) ::(124,fs Z2O (fun a=> [Z17 a,Z4t a < N]) Z3c) ::(125,fs Z2N (fun a=> [Z16 a,Z4s a < N]) Z4M) ::(168,fs Z2M (fun a=> [Z15 a,Z4r a < N]) Z4L) ::[(121,Z2v),(122,Z2u),(123,Z2t),(92,JL),(184,Z2r),(187,Z2q),(164,Z2s)]
def Zqn:Zh U:=lvl [([1,2],[2]),([1,2,11],[2]),([4],[]),([1,2,13],[2]),([1,2,13,14],[2]),([4],[]),([1,2,13,16],[2]),([4],[]),([1,2,13,26],[2]),([4],[]),([1,2,38],[2]),([4],[]),([4],[])]
abbrev W89(N:Nat)(e:Edit)(d:Int)(Q:QT):=AW (Z0 (Z53 N)) Try.f89 Zqn [] (L2 [(0,.agg (enc .edit e)),(1,.c (ci d))] []) Q
theorem Ztx(N:Nat)(e:Edit)(d:Int)(Q:QT)(h:∀ y_1,y_1=e→∀ y_2,y_2=(e.new)→∀ y_3,y_3=(e.old)→(Z6H (y_1,()))∧(((bif (!(Z0j y_1)) then true else (d==0))=true→Q .ret (L2 [(4,.c (.bool false))] []))∧((bif (!(Z0j y_1)) then true else (d==0))=false→((e.kind==0)=true→Q .ret (L2 [(4,.c (.bool true))] []))∧((e.kind==0)=false→((e.kind==1)=true→(Z3g (y_3,()))∧((decide (Tree.kind y_3≠10) && Z9 y_3 64)=true→Z3g (y_2,()))∧(Q .ret (L2 [(4,.c (.bool (bif (decide (Tree.kind y_3≠10) && Z9 y_3 64) then (decide (Tree.kind y_2≠10) && Z9 y_2 64) else false)))] [])))∧((e.kind==1)=false→((e.kind==2)=true→(Z6G (e.words,()))∧((Zs (-1) e.words)=true→InR (d - 1))∧((Zs (-1) e.words)=true→Z17 (e.kids,(d - 1),()))∧((Zs (-1) e.words)=true→Z4t (e.kids,(d - 1),()) < N)∧(Q .ret (L2 [(4,.c (.bool (bif (Zs (-1) e.words) then (Zv (-1) e.kids (d - 1)) else false)))] [])))∧((e.kind==2)=false→((e.kind==3)=true→(Z7u (e.list,()))∧((decide (2≤e.list∧e.list≤9))=true→InR (d - 1))∧((decide (2≤e.list∧e.list≤9))=true→Z16 (y_1,(d - 1),()))∧((decide (2≤e.list∧e.list≤9))=true→Z4s (y_1,(d - 1),()) < N)∧(Q .ret (L2 [(4,.c (.bool (bif (decide (2≤e.list∧e.list≤9)) then (Zx y_1.list y_1.ops (d - 1) && decide (JG y_1.ops 0 < 1048576∧JF y_1.ops 0 < 1048576)) else false)))] [])))∧((e.kind==3)=false→Q .ret (L2 [(4,.c (.bool false))] [])))))))):
  W89 N e d Q:=by
 have e_:(W89 N e d Q)=(let y_1:=(Jb e);let y_2:=(Z3d e.new);let y_3:=(Z3d e.old);let zz1:=(decide (Tree.kind y_3≠10) && Z9 y_3 64);let zz0:=(decide (2≤e.list∧e.list≤9));((Z6H (y_1,()))∧(Z7 ((!(!(Z0j y_1)))=true))∧((!(Z0j y_1))=false→(!(!(Z0j y_1)))=true)∧(((bif (!(Z0j y_1)) then true else ((d:Int)==0))=true→(Q .ret (L2 [(4,.c (.bool false))] [])))∧((bif (!(Z0j y_1)) then true else ((d:Int)==0))=false→(((e.kind==0)=true→(Q .ret (L2 [(4,.c (.bool true))] [])))∧((e.kind==0)=false→(((e.kind==1)=true→(Z3g (y_3,()))∧(Z7 (zz1=true))∧(Z7 (zz1=true))∧(zz1=true→Z3g (y_2,()))∧(Z7 (zz1=true))∧(Q .ret (L2 [(4,.c (.bool (bif zz1 then (decide (Tree.kind y_2≠10) && Z9 y_2 64) else false)))] [])))∧((e.kind==1)=false→(((e.kind==2)=true→(Z6G (e.words,()))∧(Z7 ((Zs (-1) e.words)=true))∧(Z7 ((Zs (-1) e.words)=true))∧((Zs (-1) e.words)=true→InR ((d:Int) - 1))∧(Z7 ((Zs (-1) e.words)=true))∧(Z7 ((Zs (-1) e.words)=true))∧((Zs (-1) e.words)=true→Z17 (e.kids,((d:Int) - 1),()))∧((Zs (-1) e.words)=true→Z4t (e.kids,((d:Int) - 1),()) < N)∧(Z7 ((Zs (-1) e.words)=true))∧(Q .ret (L2 [(4,.c (.bool (bif (Zs (-1) e.words) then (Zv (-1) e.kids ((d:Int) - 1)) else false)))] [])))∧((e.kind==2)=false→(((e.kind==3)=true→(Z7u (e.list,()))∧(Z7 (zz0=true))∧(zz0=true→InR ((d:Int) - 1))∧(Z7 (zz0=true))∧(Z7 (zz0=true))∧(zz0=true→Z16 (y_1,((d:Int) - 1),()))∧(zz0=true→Z4s (y_1,((d:Int) - 1),()) < N)∧(Z7 (zz0=true))∧(Q .ret (L2 [(4,.c (.bool (bif zz0 then (Zx y_1.list y_1.ops ((d:Int) - 1) && decide (JG y_1.ops 0 < 1048576∧JF y_1.ops 0 < 1048576)) else false)))] [])))∧((e.kind==3)=false→(Q .ret (L2 [(4,.c (.bool false))] [])))))))))))))):=by kernel_rfl
 exact e_.mpr (by intro y_1 y_2 y_3;have hh:=h y_1 (Zm _) y_2 (Zb _) y_3 (Zb _);exact ⟨hh.1,id,(by generalize (Z0j y_1)=b0;revert b0;decide),⟨fun c_1=> (hh.2.1 c_1),fun c_1=> ⟨fun c_2=> ((hh.2.2 c_1).1 c_2),fun c_2=> ⟨fun c_3=> ⟨(((hh.2.2 c_1).2 c_2).1 c_3).1,id,id,(((hh.2.2 c_1).2 c_2).1 c_3).2.1,(by generalize (decide (Tree.kind y_3≠10))=b0;generalize (Z9 y_3 64)=b1;revert b0 b1;decide),(((hh.2.2 c_1).2 c_2).1 c_3).2.2⟩,fun c_3=> ⟨fun c_4=> ⟨((((hh.2.2 c_1).2 c_2).2 c_3).1 c_4).1,id,id,((((hh.2.2 c_1).2 c_2).2 c_3).1 c_4).2.1,id,id,((((hh.2.2 c_1).2 c_2).2 c_3).1 c_4).2.2.1,((((hh.2.2 c_1).2 c_2).2 c_3).1 c_4).2.2.2.1,(by generalize (Zs (-1) e.words)=b0;revert b0;decide),((((hh.2.2 c_1).2 c_2).2 c_3).1 c_4).2.2.2.2⟩,fun c_4=> ⟨fun c_5=> ⟨(((((hh.2.2 c_1).2 c_2).2 c_3).2 c_4).1 c_5).1,id,(((((hh.2.2 c_1).2 c_2).2 c_3).2 c_4).1 c_5).2.1,id,id,(((((hh.2.2 c_1).2 c_2).2 c_3).2 c_4).1 c_5).2.2.1,(((((hh.2.2 c_1).2 c_2).2 c_3).2 c_4).1 c_5).2.2.2.1,(by generalize (decide (2≤e.list∧e.list≤9))=b0;revert b0;decide),(((((hh.2.2 c_1).2 c_2).2 c_3).2 c_4).1 c_5).2.2.2.2⟩,fun c_5=> (((((hh.2.2 c_1).2 c_2).2 c_3).2 c_4).2 c_5)⟩⟩⟩⟩⟩⟩)
def Zru(N:Nat)(e:Edit)(d:Int):Prop:=AW (Z0 (Z53 N)) Try.f89 Zqn [] (Zl (Z55.can (e,d,())) []) (EQ Try.f89 (Z9a (e,d,())) [])
abbrev Ztl:Prop:=∀ (N:Nat) (e:Edit) (d:Int) (_:Unit),YF (e,d,())→Z1N (e,d,()) < N+1→Zru N e d
def Z02(N:Nat):List (FuncId × Fs U):=(89,fs Z55 (fun a=> [YF a,Z1N a < N]) Z9a) ::(124,fs Z2O (fun a=> [Z17 a,Z4t a < N]) Z3c) ::(125,fs Z2N (fun a=> [Z16 a,Z4s a < N]) Z4M) ::(168,fs Z2M (fun a=> [Z15 a,Z4r a < N]) Z4L) ::[(121,Z2v),(122,Z2u),(123,Z2t),(92,JL),(184,Z2r),(187,Z2q),(164,Z2s)]
def Z5J:Zh U:=lvl [([0,1],[]),([0,1,7,8,9],[]),([0,1,7,8,9,10],[]),([0,1,5,6,7,8,9],[6]),([0,1,7,8,9,49],[]),([4],[]),([0,1,7,8,9],[]),([4],[])]
def Z0S(l:List Kid)(d x9:Int):LSt U:=(L2 [(0,.c (sU .kid l .unk)),(1,.c (ci d)),(7,.c (sU .kid l .unk)),(8,.c (ci (l.length:Int))),(9,.c (ci x9))] [])
abbrev Ztd(N:Nat)(l:List Kid)(d:Int)(Q:QT):=AW (Z0 (Z02 N)) Try.f124 Z5J [] (L2 [(0,.c (sU .kid l .unk)),(1,.c (ci d))] []) Q
abbrev ZfC(N:Nat):=awp cfg (Z0 (Z02 N)) (ZA cfg (Z0 (Z02 N))) Try.f124.ntmps Z5J
abbrev Zej(N:Nat):=Z6y cfg (Z0 (Z02 N)) (ZA cfg (Z0 (Z02 N))) Try.f124.ntmps Z5J
theorem Zsr(N:Nat)(l:List Kid)(d:Int)(Q:QT)(h:Zj (AW (Z0 (Z02 N)) Try.f124 Z5J [1,0,1,0,0]) (Z0S l d 0) (xB 0 (SW (Z0 (Z02 N)) Try.f124 Z5J [1,1] Q))):
  Ztd N l d Q:=by
 have e_:(Ztd N l d Q)=(Zj (ZfC N (cd Try.f124 [1,0,1,0,0])) (Z0S l d 0) (xB 0 (Zej N (cd Try.f124 [1,1]) Q))):=by kernel_rfl
 exact e_.mpr h
abbrev ZhB(N:Nat)(l:List Kid)(d x9:Int)(N0:NT)(Q:QT):=AW (Z0 (Z02 N)) Try.f124 Z5J [1,0,1,0,0] (Z0S l d x9) (xT N0 (xB 0 (SW (Z0 (Z02 N)) Try.f124 Z5J [1,1] Q)))
theorem Zjd(N:Nat)(l:List Kid)(d x9:Int)(N0:NT)(Q:QT)(h:∀ y_1,y_1=(l.getD x9.toNat (KidOf.mk 0 Edit.nil))→∀ y_2,y_2=(List.getD l (Int.toNat (x9 - 1)) (KidOf.mk 0 Edit.nil))→∀ y_3,y_3=(y_1.e)→((decide (x9 < (l.length:Int)))=true→((0:Int)≤x9∧x9 < (l.length:Int))∧((((!(bif (decide (y_1.at_ < 0)) then true else (decide ((65535:Int)≤y_1.at_)))) && (decide ((0:Int) < x9)))=true→InR (x9 - 1))∧(((!(bif (decide (y_1.at_ < 0)) then true else (decide ((65535:Int)≤y_1.at_)))) && (decide ((0:Int) < x9)))=true→(0:Int)≤(x9 - 1)∧(x9 - 1) < (l.length:Int))∧((!(bif (bif (bif (decide (y_1.at_ < 0)) then true else (decide ((65535:Int)≤y_1.at_))) then true else (bif (decide ((0:Int) < x9)) then (decide (y_1.at_≤y_2.at_)) else false)) then true else (y_1.e.kind==0)))=true→YF (y_3,d,()))∧((!(bif (bif (bif (decide (y_1.at_ < 0)) then true else (decide ((65535:Int)≤y_1.at_))) then true else (bif (decide ((0:Int) < x9)) then (decide (y_1.at_≤y_2.at_)) else false)) then true else (y_1.e.kind==0)))=true→Z1N (y_3,d,()) < N)∧(((bif (bif (bif (bif (decide (y_1.at_ < 0)) then true else (decide ((65535:Int)≤y_1.at_))) then true else (bif (decide ((0:Int) < x9)) then (decide (y_1.at_≤y_2.at_)) else false)) then true else (y_1.e.kind==0)) then true else (!(Z3 y_3 d)))=true→Q .ret (L2 [(4,.c (.bool false))] []))∧((bif (bif (bif (bif (decide (y_1.at_ < 0)) then true else (decide ((65535:Int)≤y_1.at_))) then true else (bif (decide ((0:Int) < x9)) then (decide (y_1.at_≤y_2.at_)) else false)) then true else (y_1.e.kind==0)) then true else (!(Z3 y_3 d)))=false→(InR (x9+1))∧(N0 (Z0S l d (x9+1)))))))∧((decide (x9 < (l.length:Int)))=false→Q .ret (L2 [(4,.c (.bool true))] []))):
  ZhB N l d x9 N0 Q:=by
 have e_:(ZhB N l d x9 N0 Q)=(let y_1:=(l.getD x9.toNat (KidOf.mk 0 Edit.nil));let y_2:=(List.getD l (Int.toNat ((x9:Int) - 1)) (KidOf.mk 0 Edit.nil));let y_3:=(Jb y_1.e);let zz4:=(decide (y_1.at_ < 0));let zz3:=(decide ((0:Int) < x9));let zz2:=((y_1.e.kind:Int)==0);let zz1:=(bif zz3 then (decide (y_1.at_≤y_2.at_)) else false);let zz0:=(bif zz4 then true else (decide ((65535:Int)≤y_1.at_)));(((decide ((x9:Int) < (l.length:Int)))=true→((0:Int)≤x9∧x9 < (l.length:Int))∧((Z7 ((!zz4)=true))∧(Z7 ((!zz4)=true))∧(zz4=false→(!zz4)=true)∧(Z7 ((!zz0)=true))∧(Z7 ((!zz0)=true))∧(Z7 (((!zz0) && zz3)=true))∧(((!zz0) && zz3)=true→InR ((x9:Int) - 1))∧(Z7 (((!zz0) && zz3)=true))∧(Z7 (((!zz0) && zz3)=true))∧(((!zz0) && zz3)=true→(0:Int)≤((x9:Int) - 1)∧((x9:Int) - 1) < (l.length:Int))∧(Z7 (((!zz0) && zz3)=true))∧(Z7 (((!zz0) && zz3)=true))∧(Z7 (((!zz0) && zz3)=true))∧(Z7 (((!zz0) && zz3)=true))∧(Z7 (((!zz0) && zz3)=true))∧((!zz0)=true→(True→(!zz0)=true))∧((!zz0)=true→(zz3=true→((!zz0) && zz3)=true))∧(zz0=false→(!zz0)=true)∧(Z7 ((!(bif zz0 then true else zz1))=true))∧(Z7 ((!(bif zz0 then true else zz1))=true))∧(Z7 ((!(bif zz0 then true else zz1))=true))∧((bif zz0 then true else zz1)=false→(!(bif zz0 then true else zz1))=true)∧(Z7 ((!(bif (bif zz0 then true else zz1) then true else zz2))=true))∧(Z7 ((!(bif (bif zz0 then true else zz1) then true else zz2))=true))∧(Z7 ((!(bif (bif zz0 then true else zz1) then true else zz2))=true))∧((!(bif (bif zz0 then true else zz1) then true else zz2))=true→YF (y_3,d,()))∧((!(bif (bif zz0 then true else zz1) then true else zz2))=true→Z1N (y_3,d,()) < N)∧(Z7 ((!(bif (bif zz0 then true else zz1) then true else zz2))=true))∧((bif (bif zz0 then true else zz1) then true else zz2)=false→(!(bif (bif zz0 then true else zz1) then true else zz2))=true)∧(((bif (bif (bif zz0 then true else zz1) then true else zz2) then true else (!(Z3 y_3 d)))=true→(Q .ret (L2 [(4,.c (.bool false))] [])))∧((bif (bif (bif zz0 then true else zz1) then true else zz2) then true else (!(Z3 y_3 d)))=false→(InR ((x9:Int)+1))∧(N0 (Z0S l d ((x9:Int)+1)))))))∧((decide ((x9:Int) < (l.length:Int)))=false→(Q .ret (L2 [(4,.c (.bool true))] []))))):=by kernel_rfl
 exact e_.mpr (by intro y_1 y_2 y_3;have hh:=h y_1 rfl y_2 rfl y_3 (Zm _);exact ⟨fun c_6=> ⟨(hh.1 c_6).1,⟨id,id,(by generalize (decide ((y_1.at_:Int) < 0))=b0;revert b0;decide),id,id,id,(hh.1 c_6).2.1,id,id,(hh.1 c_6).2.2.1,id,id,id,id,id,(by generalize (decide ((65535:Int)≤y_1.at_))=b0;generalize (decide ((y_1.at_:Int) < 0))=b1;revert b0 b1;decide),(by generalize (decide ((65535:Int)≤y_1.at_))=b0;generalize (decide ((y_1.at_:Int) < 0))=b1;generalize (decide ((0:Int) < x9))=b2;revert b0 b1 b2;decide),(by generalize (decide ((65535:Int)≤y_1.at_))=b0;generalize (decide ((y_1.at_:Int) < 0))=b1;revert b0 b1;decide),id,id,id,(by generalize (decide ((y_1.at_:Int)≤y_2.at_))=b0;generalize (decide ((65535:Int)≤y_1.at_))=b1;generalize (decide ((y_1.at_:Int) < 0))=b2;generalize (decide ((0:Int) < x9))=b3;revert b0 b1 b2 b3;decide),id,id,id,(hh.1 c_6).2.2.2.1,(hh.1 c_6).2.2.2.2.1,id,(by generalize (decide ((y_1.at_:Int)≤y_2.at_))=b0;generalize (decide ((65535:Int)≤y_1.at_))=b1;generalize ((y_1.e.kind:Int)==0)=b2;generalize (decide ((y_1.at_:Int) < 0))=b3;generalize (decide ((0:Int) < x9))=b4;revert b0 b1 b2 b3 b4;decide),⟨fun c_7=> ((hh.1 c_6).2.2.2.2.2.1 c_7),fun c_7=> ⟨((hh.1 c_6).2.2.2.2.2.2 c_7).1,((hh.1 c_6).2.2.2.2.2.2 c_7).2⟩⟩⟩⟩,fun c_6=> (hh.2 c_6)⟩)
def Zot(N:Nat)(l:List Kid)(d:Int):Prop:=AW (Z0 (Z02 N)) Try.f124 Z5J [] (Zl (Z2O.can (l,d,())) []) (EQ Try.f124 (Z3c (l,d,())) [])
abbrev Zpk:Prop:=∀ (N:Nat) (l:List Kid) (d:Int) (_:Unit),Z17 (l,d,())→Z4t (l,d,()) < N+1→Zot N l d
def Z01(N:Nat):List (FuncId × Fs U):=(89,fs Z55 (fun a=> [YF a,Z1N a < N]) Z9a) ::(124,fs Z2O (fun a=> [Z17 a,Z4t a < N]) Z3c) ::(125,fs Z2N (fun a=> [Z16 a,Z4s a < N]) Z4M) ::(168,fs Z2M (fun a=> [Z15 a,Z4r a < N]) Z4L) ::[(121,Z2v),(122,Z2u),(123,Z2t),(92,JL),(184,Z2r),(187,Z2q),(164,Z2s)]
def Z5I:Zh U:=lvl [([1,2],[2]),([1,2,10,11,12],[2]),([1,2,10,11,12,13],[2]),([1,2,6,10,11,12],[2,6]),([1,2,10,11,12,21],[2]),([4],[]),([1,2,10,11,12],[2]),([7,8],[]),([4],[])]
def Z0R(e:Edit)(d x12:Int):LSt U:=(L2 [(1,.c (ci d)),(2,.ptr (.loc 2) 0),(10,.c (sU .op e.ops .unk)),(11,.c (ci (e.ops.length:Int))),(12,.c (ci x12))] [(.loc 2,(enc .edit e))])
abbrev Ztc(N:Nat)(e:Edit)(d:Int)(Q:QT):=AW (Z0 (Z01 N)) Try.f125 Z5I [] (L2 [(0,.agg (enc .edit e)),(1,.c (ci d))] []) Q
abbrev ZfB(N:Nat):=awp cfg (Z0 (Z01 N)) (ZA cfg (Z0 (Z01 N))) Try.f125.ntmps Z5I
abbrev Zei(N:Nat):=Z6y cfg (Z0 (Z01 N)) (ZA cfg (Z0 (Z01 N))) Try.f125.ntmps Z5I
theorem Zsq(N:Nat)(e:Edit)(d:Int)(Q:QT)(h:Zj (AW (Z0 (Z01 N)) Try.f125 Z5I [1,0,1,0,0]) (Z0R e d 0) (xB 0 (SW (Z0 (Z01 N)) Try.f125 Z5I [1,1] Q))):
  Ztc N e d Q:=by
 have e_:(Ztc N e d Q)=(Zj (ZfB N (cd Try.f125 [1,0,1,0,0])) (Z0R e d 0) (xB 0 (Zei N (cd Try.f125 [1,1]) Q))):=by kernel_rfl
 exact e_.mpr h
abbrev ZhA(N:Nat)(e:Edit)(d x12:Int)(N0:NT)(Q:QT):=AW (Z0 (Z01 N)) Try.f125 Z5I [1,0,1,0,0] (Z0R e d x12) (xT N0 (xB 0 (SW (Z0 (Z01 N)) Try.f125 Z5I [1,1] Q)))
theorem Zjc(N:Nat)(e:Edit)(d x12:Int)(N0:NT)(Q:QT)(h:∀ y_1,y_1=e→∀ y_2,y_2=(e.ops.getD x12.toNat Op.nil)→∀ y_3,y_3=y_2→((decide (x12 < (e.ops.length:Int)))=true→((0:Int)≤x12∧x12 < (e.ops.length:Int))∧((Z15 (e.list,y_3,d,()))∧(Z4r (e.list,y_3,d,()) < N)∧(((!(Zd e.list y_3 d))=true→Q .ret (L2 [(4,.c (.bool false))] []))∧((!(Zd e.list y_3 d))=false→(InR (x12+1))∧(N0 (Z0R e d (x12+1)))))))∧((decide (x12 < (e.ops.length:Int)))=false→(Z6D (y_1,()))∧(Q .ret (L2 [(4,.c (.bool (bif (decide (((Z0f y_1.ops 0):Int) < 1048576)) then (decide (((Z0o y_1.ops 0):Int) < 1048576)) else false)))] [])))):
  ZhA N e d x12 N0 Q:=by
 have e_:(ZhA N e d x12 N0 Q)=(let y_1:=(Jb e);let y_2:=(e.ops.getD x12.toNat Op.nil);let y_3:=(Zk3 y_2);let zz0:=(decide (((Z0f y_1.ops 0):Int) < 1048576));(((decide ((x12:Int) < (e.ops.length:Int)))=true→((0:Int)≤x12∧x12 < (e.ops.length:Int))∧((Z15 (e.list,y_3,d,()))∧(Z4r (e.list,y_3,d,()) < N)∧(((!(Zd e.list y_3 d))=true→(Q .ret (L2 [(4,.c (.bool false))] [])))∧((!(Zd e.list y_3 d))=false→(InR ((x12:Int)+1))∧(N0 (Z0R e d ((x12:Int)+1)))))))∧((decide ((x12:Int) < (e.ops.length:Int)))=false→(Z6D (y_1,()))∧((Z7 (zz0=true))∧(Z7 (zz0=true))∧(Q .ret (L2 [(4,.c (.bool (bif zz0 then (decide (((Z0o y_1.ops 0):Int) < 1048576)) else false)))] [])))))):=by kernel_rfl
 exact e_.mpr (by intro y_1 y_2 y_3;have hh:=h y_1 (Zm _) y_2 rfl y_3 (Z8i _);exact ⟨fun c_8=> ⟨(hh.1 c_8).1,⟨(hh.1 c_8).2.1,(hh.1 c_8).2.2.1,⟨fun c_9=> ((hh.1 c_8).2.2.2.1 c_9),fun c_9=> ⟨((hh.1 c_8).2.2.2.2 c_9).1,((hh.1 c_8).2.2.2.2 c_9).2⟩⟩⟩⟩,fun c_8=> ⟨(hh.2 c_8).1,⟨id,(by generalize (decide (((Z0f y_1.ops 0):Int) < 1048576))=b0;revert b0;decide),(hh.2 c_8).2⟩⟩⟩)
def Zos(N:Nat)(e:Edit)(d:Int):Prop:=AW (Z0 (Z01 N)) Try.f125 Z5I [] (Zl (Z2N.can (e,d,())) []) (EQ Try.f125 (Z4M (e,d,())) [])
abbrev Zpj:Prop:=∀ (N:Nat) (e:Edit) (d:Int) (_:Unit),Z16 (e,d,())→Z4s (e,d,()) < N+1→Zos N e d
def ZgM(N:Nat):List (FuncId × Fs U):=(89,fs Z55 (fun a=> [YF a,Z1N a < N]) Z9a) ::(124,fs Z2O (fun a=> [Z17 a,Z4t a < N]) Z3c) ::(125,fs Z2N (fun a=> [Z16 a,Z4s a < N]) Z4M) ::(168,fs Z2M (fun a=> [Z15 a,Z4r a < N]) Z4L) ::[(121,Z2v),(122,Z2u),(123,Z2t),(92,JL),(184,Z2r),(187,Z2q),(164,Z2s)]
def ZkH:Zh U:=lvl [([2,3,4],[3,4]),([2,3,4,8],[3,4]),([2,3,4,8,9],[3,4]),([2,3,4,8,11],[3,4]),([2,3,4,8,13],[3,4]),([2,3,4,15],[3,4]),([6],[]),([6],[]),([6],[]),([6],[])]
abbrev Zt5(N:Nat)(list:Int)(o:Op)(d:Int)(Q:QT):=AW (Z0 (ZgM N)) Try.f168 ZkH [] (L2 [(0,.c (ci list)),(1,.agg (enc .op o)),(2,.c (ci d))] []) Q
theorem Zsf(N:Nat)(list:Int)(o:Op)(d:Int)(Q:QT)(h:∀ y_1,y_1=(o.e)→∀ y_2,y_2=(.bool (bif (bif (bif (bif (o.n==0) then (decide ((0:Int) < (o.l.length:Int))) else false) then (Z3 y_1 1) else false) then (o.e.kind==0) else false) then (!(!(Yw list o.l))) else false))→((o.kind==0)=true→((bif (bif (decide ((1:Int)≤o.n)) then (decide (o.n≤1048576)) else false) then (((o.l.length:Int):Int)==0) else false)=true→YF (y_1,1,()))∧((bif (bif (decide ((1:Int)≤o.n)) then (decide (o.n≤1048576)) else false) then (((o.l.length:Int):Int)==0) else false)=true→Z1N (y_1,1,()) < N)∧(Q .ret (L2 [(6,.c (.bool (bif (bif (bif (bif (decide ((1:Int)≤o.n)) then (decide (o.n≤1048576)) else false) then (((o.l.length:Int):Int)==0) else false) then (Z3 y_1 1) else false) then (o.e.kind==0) else false)))] [])))∧((o.kind==0)=false→((o.kind==1)=true→((bif (o.n==0) then (decide ((0:Int) < (o.l.length:Int))) else false)=true→YF (y_1,1,()))∧((bif (o.n==0) then (decide ((0:Int) < (o.l.length:Int))) else false)=true→Z1N (y_1,1,()) < N)∧((bif (bif (bif (o.n==0) then (decide ((0:Int) < (o.l.length:Int))) else false) then (Z3 y_1 1) else false) then (o.e.kind==0) else false)=true→Z2A (o.l,(list,()),()))∧(Q .ret (L2 [(6,.c y_2)] [])))∧((o.kind==1)=false→((o.kind==2)=true→((bif (o.n==0) then (decide ((0:Int) < (o.l.length:Int))) else false)=true→YF (y_1,1,()))∧((bif (o.n==0) then (decide ((0:Int) < (o.l.length:Int))) else false)=true→Z1N (y_1,1,()) < N)∧((bif (bif (bif (o.n==0) then (decide ((0:Int) < (o.l.length:Int))) else false) then (Z3 y_1 1) else false) then (o.e.kind==0) else false)=true→Z2A (o.l,(list,()),()))∧(Q .ret (L2 [(6,.c y_2)] [])))∧((o.kind==2)=false→((o.kind==3)=true→((bif (o.n==0) then (((o.l.length:Int):Int)==0) else false)=true→ZbH (list,y_1,()))∧((bif (bif (o.n==0) then (((o.l.length:Int):Int)==0) else false) then (Y4 list y_1) else false)=true→YF (y_1,d,()))∧((bif (bif (o.n==0) then (((o.l.length:Int):Int)==0) else false) then (Y4 list y_1) else false)=true→Z1N (y_1,d,()) < N)∧(Q .ret (L2 [(6,.c (.bool (bif (bif (bif (o.n==0) then (((o.l.length:Int):Int)==0) else false) then (Y4 list y_1) else false) then (Z3 y_1 d) else false)))] [])))∧((o.kind==3)=false→Q .ret (L2 [(6,.c (.bool false))] [])))))):
  Zt5 N list o d Q:=by
 have e_:(Zt5 N list o d Q)=(let y_1:=(Jb o.e);let y_2:=(.bool (bif (bif (bif (bif (o.n==0) then (decide ((0:Int) < (o.l.length:Int))) else false) then (Z3 y_1 1) else false) then ((o.e.kind:Int)==0) else false) then (!(!(Yw list o.l))) else false));let zz5:=(decide ((1:Int)≤o.n));let zz4:=(bif zz5 then (decide (o.n≤1048576)) else false);let zz3:=((o.e.kind:Int)==0);let zz2:=(bif (o.n==0) then ((o.l.length:Int)==0) else false);let zz1:=(bif zz4 then ((o.l.length:Int)==0) else false);let zz0:=(bif (o.n==0) then (decide ((0:Int) < (o.l.length:Int))) else false);(((o.kind==0)=true→(Z7 (zz5=true))∧(Z7 (zz5=true))∧(Z7 (zz5=true))∧(Z7 (zz4=true))∧(Z7 (zz4=true))∧(Z7 (zz4=true))∧(Z7 (zz4=true))∧(Z7 (zz1=true))∧(Z7 (zz1=true))∧(zz1=true→YF (y_1,1,()))∧(zz1=true→Z1N (y_1,1,()) < N)∧(Z7 (zz1=true))∧(Z7 ((bif zz1 then (Z3 y_1 1) else false)=true))∧(Z7 ((bif zz1 then (Z3 y_1 1) else false)=true))∧(Z7 ((bif zz1 then (Z3 y_1 1) else false)=true))∧(Z7 ((bif zz1 then (Z3 y_1 1) else false)=true))∧(Q .ret (L2 [(6,.c (.bool (bif (bif zz1 then (Z3 y_1 1) else false) then zz3 else false)))] [])))∧((o.kind==0)=false→(((o.kind==1)=true→(Z7 ((o.n==0)=true))∧(Z7 ((o.n==0)=true))∧(Z7 ((o.n==0)=true))∧(Z7 ((o.n==0)=true))∧(Z7 (zz0=true))∧(Z7 (zz0=true))∧(zz0=true→YF (y_1,1,()))∧(zz0=true→Z1N (y_1,1,()) < N)∧(Z7 (zz0=true))∧(Z7 ((bif zz0 then (Z3 y_1 1) else false)=true))∧(Z7 ((bif zz0 then (Z3 y_1 1) else false)=true))∧(Z7 ((bif zz0 then (Z3 y_1 1) else false)=true))∧(Z7 ((bif zz0 then (Z3 y_1 1) else false)=true))∧(Z7 ((bif (bif zz0 then (Z3 y_1 1) else false) then zz3 else false)=true))∧(Z7 ((bif (bif zz0 then (Z3 y_1 1) else false) then zz3 else false)=true))∧(Z7 ((bif (bif zz0 then (Z3 y_1 1) else false) then zz3 else false)=true))∧((bif (bif zz0 then (Z3 y_1 1) else false) then zz3 else false)=true→Z2A (o.l,(list,()),()))∧(Z7 ((bif (bif zz0 then (Z3 y_1 1) else false) then zz3 else false)=true))∧(Z7 ((bif (bif zz0 then (Z3 y_1 1) else false) then zz3 else false)=true))∧(Q .ret (L2 [(6,.c y_2)] [])))∧((o.kind==1)=false→(((o.kind==2)=true→(Z7 ((o.n==0)=true))∧(Z7 ((o.n==0)=true))∧(Z7 ((o.n==0)=true))∧(Z7 ((o.n==0)=true))∧(Z7 (zz0=true))∧(Z7 (zz0=true))∧(zz0=true→YF (y_1,1,()))∧(zz0=true→Z1N (y_1,1,()) < N)∧(Z7 (zz0=true))∧(Z7 ((bif zz0 then (Z3 y_1 1) else false)=true))∧(Z7 ((bif zz0 then (Z3 y_1 1) else false)=true))∧(Z7 ((bif zz0 then (Z3 y_1 1) else false)=true))∧(Z7 ((bif zz0 then (Z3 y_1 1) else false)=true))∧(Z7 ((bif (bif zz0 then (Z3 y_1 1) else false) then zz3 else false)=true))∧(Z7 ((bif (bif zz0 then (Z3 y_1 1) else false) then zz3 else false)=true))∧(Z7 ((bif (bif zz0 then (Z3 y_1 1) else false) then zz3 else false)=true))∧((bif (bif zz0 then (Z3 y_1 1) else false) then zz3 else false)=true→Z2A (o.l,(list,()),()))∧(Z7 ((bif (bif zz0 then (Z3 y_1 1) else false) then zz3 else false)=true))∧(Z7 ((bif (bif zz0 then (Z3 y_1 1) else false) then zz3 else false)=true))∧(Q .ret (L2 [(6,.c y_2)] [])))∧((o.kind==2)=false→(((o.kind==3)=true→(Z7 ((o.n==0)=true))∧(Z7 ((o.n==0)=true))∧(Z7 ((o.n==0)=true))∧(Z7 ((o.n==0)=true))∧(Z7 (zz2=true))∧(Z7 (zz2=true))∧(Z7 (zz2=true))∧(zz2=true→ZbH (list,y_1,()))∧(Z7 (zz2=true))∧(Z7 ((bif zz2 then (Y4 list y_1) else false)=true))∧(Z7 ((bif zz2 then (Y4 list y_1) else false)=true))∧(Z7 ((bif zz2 then (Y4 list y_1) else false)=true))∧((bif zz2 then (Y4 list y_1) else false)=true→YF (y_1,d,()))∧((bif zz2 then (Y4 list y_1) else false)=true→Z1N (y_1,d,()) < N)∧(Z7 ((bif zz2 then (Y4 list y_1) else false)=true))∧(Q .ret (L2 [(6,.c (.bool (bif (bif zz2 then (Y4 list y_1) else false) then (Z3 y_1 d) else false)))] [])))∧((o.kind==3)=false→(Q .ret (L2 [(6,.c (.bool false))] []))))))))))):=by kernel_rfl
 exact e_.mpr (by intro y_1 y_2;have hh:=h y_1 (Zm _) y_2 rfl;exact ⟨fun c_10=> ⟨id,id,(by generalize (decide ((1:Int)≤o.n))=b0;revert b0;decide),id,id,id,(by generalize (decide ((o.n:Int)≤1048576))=b0;generalize (decide ((1:Int)≤o.n))=b1;revert b0 b1;decide),id,id,(hh.1 c_10).1,(hh.1 c_10).2.1,(by generalize (((o.l.length:Int):Int)==0)=b0;generalize (decide ((o.n:Int)≤1048576))=b1;generalize (decide ((1:Int)≤o.n))=b2;revert b0 b1 b2;decide),id,id,id,(by generalize (Z3 y_1 1)=b0;generalize (((o.l.length:Int):Int)==0)=b1;generalize (decide ((o.n:Int)≤1048576))=b2;generalize (decide ((1:Int)≤o.n))=b3;revert b0 b1 b2 b3;decide),(hh.1 c_10).2.2⟩,fun c_10=> ⟨fun c_11=> ⟨id,id,id,(by generalize ((o.n:Int)==0)=b0;revert b0;decide),id,id,((hh.2 c_10).1 c_11).1,((hh.2 c_10).1 c_11).2.1,(by generalize (decide ((0:Int) < (o.l.length:Int)))=b0;generalize ((o.n:Int)==0)=b1;revert b0 b1;decide),id,id,id,(by generalize (Z3 y_1 1)=b0;generalize (decide ((0:Int) < (o.l.length:Int)))=b1;generalize ((o.n:Int)==0)=b2;revert b0 b1 b2;decide),id,id,id,((hh.2 c_10).1 c_11).2.2.1,id,(by generalize (Z3 y_1 1)=b0;generalize (decide ((0:Int) < (o.l.length:Int)))=b1;generalize ((o.e.kind:Int)==0)=b2;generalize ((o.n:Int)==0)=b3;revert b0 b1 b2 b3;decide),((hh.2 c_10).1 c_11).2.2.2⟩,fun c_11=> ⟨fun c_12=> ⟨id,id,id,(by generalize ((o.n:Int)==0)=b0;revert b0;decide),id,id,(((hh.2 c_10).2 c_11).1 c_12).1,(((hh.2 c_10).2 c_11).1 c_12).2.1,(by generalize (decide ((0:Int) < (o.l.length:Int)))=b0;generalize ((o.n:Int)==0)=b1;revert b0 b1;decide),id,id,id,(by generalize (Z3 y_1 1)=b0;generalize (decide ((0:Int) < (o.l.length:Int)))=b1;generalize ((o.n:Int)==0)=b2;revert b0 b1 b2;decide),id,id,id,(((hh.2 c_10).2 c_11).1 c_12).2.2.1,id,(by generalize (Z3 y_1 1)=b0;generalize (decide ((0:Int) < (o.l.length:Int)))=b1;generalize ((o.e.kind:Int)==0)=b2;generalize ((o.n:Int)==0)=b3;revert b0 b1 b2 b3;decide),(((hh.2 c_10).2 c_11).1 c_12).2.2.2⟩,fun c_12=> ⟨fun c_13=> ⟨id,id,id,(by generalize ((o.n:Int)==0)=b0;revert b0;decide),id,id,id,((((hh.2 c_10).2 c_11).2 c_12).1 c_13).1,(by generalize (((o.l.length:Int):Int)==0)=b0;generalize ((o.n:Int)==0)=b1;revert b0 b1;decide),id,id,id,((((hh.2 c_10).2 c_11).2 c_12).1 c_13).2.1,((((hh.2 c_10).2 c_11).2 c_12).1 c_13).2.2.1,(by generalize (Y4 list y_1)=b0;generalize (((o.l.length:Int):Int)==0)=b1;generalize ((o.n:Int)==0)=b2;revert b0 b1 b2;decide),((((hh.2 c_10).2 c_11).2 c_12).1 c_13).2.2.2⟩,fun c_13=> ((((hh.2 c_10).2 c_11).2 c_12).2 c_13)⟩⟩⟩⟩)
def Zoh(N:Nat)(list:Int)(o:Op)(d:Int):Prop:=AW (Z0 (ZgM N)) Try.f168 ZkH [] (Zl (Z2M.can (list,o,d,())) []) (EQ Try.f168 (Z4L (list,o,d,())) [])
abbrev Zpi:Prop:=∀ (N:Nat) (list:Int) (o:Op) (d:Int) (_:Unit),Z15 (list,o,d,())→Z4r (list,o,d,()) < N+1→Zoh N list o d
def Zl6:List (FuncId × Fs U):=[(89,Z8C)]
def Zqv:Zh U:=lvl [([1],[1]),([2],[])]
abbrev W52(e:Edit)(Q:QT):=AW (Z0 Zl6) Try.f52 Zqv [] (L2 [(0,.agg (enc .edit e))] []) Q
theorem ZtU(e:Edit)(Q:QT)(h:(YF ((Edit.mk e.kind (Tree.mk e.old.kind e.old.words e.old.kids) (Tree.mk e.new.kind e.new.words e.new.kids) e.words e.kids e.list e.ops),64,()))∧(Q .ret (L2 [(2,.c (.bool (Z3 (Edit.mk e.kind (Tree.mk e.old.kind e.old.words e.old.kids) (Tree.mk e.new.kind e.new.words e.new.kids) e.words e.kids e.list e.ops) 64)))] []))):
  W52 e Q:=by
 have e_:(W52 e Q)=(type_of% h):=by kernel_rfl
 exact e_.mpr ⟨h.1,h.2⟩
def ZrR(e:Edit):Prop:=AW (Z0 Zl6) Try.f52 Zqv [] (Zl (ZlQ.can (e,())) []) (EQ Try.f52 (ZoS (e,())) [])
theorem Zq9(c89:CT 89 Z8C)(hb:∀ (e:Edit) (_:Unit),Zgh (e,())→ZrR e):CT 52 Z8P:=
 Z4 (l:=[(89,Z8C)]) Zk rfl (⟨c89,trivial⟩) Zqv Try.func52 rfl rfl 1 (fun _=> rfl) (by decide) (fun ⟨e,_⟩=> hb e ())
theorem Zn0(Zr1:CT 121 Z2v)(Zr0:CT 122 Z2u)(ZqZ:CT 123 Z2t)(c92:CT 92 JL)(ZqQ:CT 184 Z2r)(ZqN:CT 187 Z2q)(ZqT:CT 164 Z2s)(b89:Ztl)(Zrb:Zpk)(Zra:Zpj)(Zr9:Zpi):
  CT 89 Z8C∧CT 124 ZfP∧CT 125 ZfO∧CT 168 ZfN:=by
 have h87 : ∃ fn, Try.prog.funcs[(89 : FuncId)]? = some fn ∧ fn.body.isSome = true ∧ (fn.name == "runtime.NumGoroutine") = false := ⟨Try.f89, Try.func89, rfl, rfl⟩
 have h121 : ∃ fn, Try.prog.funcs[(124 : FuncId)]? = some fn ∧ fn.body.isSome = true ∧ (fn.name == "runtime.NumGoroutine") = false := ⟨Try.f124, Try.func124, rfl, rfl⟩
 have h122 : ∃ fn, Try.prog.funcs[(125 : FuncId)]? = some fn ∧ fn.body.isSome = true ∧ (fn.name == "runtime.NumGoroutine") = false := ⟨Try.f125, Try.func125, rfl, rfl⟩
 have h132 : ∃ fn, Try.prog.funcs[(168 : FuncId)]? = some fn ∧ fn.body.isSome = true ∧ (fn.name == "runtime.NumGoroutine") = false := ⟨Try.f168, Try.func168, rfl, rfl⟩
 have key:∀ N,CT 89 (fs Z55 (fun a=> [YF a,Z1N a < N]) Z9a)∧CT 124 (fs Z2O (fun a=> [Z17 a,Z4t a < N]) Z3c)∧CT 125 (fs Z2N (fun a=> [Z16 a,Z4s a < N]) Z4M)∧CT 168 (fs Z2M (fun a=> [Z15 a,Z4r a < N]) Z4L):=by
  intro N
  induction N with
  | zero=> exact ⟨Z0A h87,Z0A h121,Z0A h122,Z0A h132⟩
  | succ N ih=>
   have kn:=Jx (l:=Z53 N) ⟨ih.1,ih.2.1,ih.2.2.1,ih.2.2.2,Zr1,Zr0,ZqZ,c92,ZqQ,ZqN,ZqT,trivial⟩
   exact ⟨ZV (Γ:=Z0 (Z53 N)) Zk rfl kn Zqn Try.func89 rfl rfl (fun a=> by show 2≤_;decide) (fun ⟨e,d,_⟩ h=> b89 N e d () h.1 h.2.1),
    ZV (Γ:=Z0 (Z53 N)) Zk rfl kn Z5J Try.func124 rfl rfl (fun a=> by show 2≤_;decide) (fun ⟨l,d,_⟩ h=> Zrb N l d () h.1 h.2.1),
    ZV (Γ:=Z0 (Z53 N)) Zk rfl kn Z5I Try.func125 rfl rfl (fun a=> by show 2≤_;decide) (fun ⟨e,d,_⟩ h=> Zra N e d () h.1 h.2.1),
    ZV (Γ:=Z0 (Z53 N)) Zk rfl kn ZkH Try.func168 rfl rfl (fun a=> by show 3≤_;decide) (fun ⟨list,o,d,_⟩ h=> Zr9 N list o d () h.1 h.2.1)⟩
 exact ⟨Z0B h87 fun N=> (key N).1,Z0B h121 fun N=> (key N).2.1,Z0B h122 fun N=> (key N).2.2.1,Z0B h132 fun N=> (key N).2.2.2⟩
end
end
end Go.AM.Ytpjenobkibfpcaa
namespace Go.AM.Ytpjenobkibfpcaa
open Go.AM Go.Proofs
theorem ZhR{e:Edit}:(Z3 e 1=true∧e.kind=0)↔JH e=true:=by
 rw [Z1Y]
 simp only [JH,Bool.and_eq_true,decide_eq_true_eq]
 by_cases hk:e.kind=0
 ·rw [if_neg (by omega)]
  by_cases hb:ZH e.old=true∧ZH e.new=true
  ·by_cases hw:e.words.length=0∧e.kids.length=0
   ·by_cases hl:e.list=0∧e.ops.length=0
    ·have h1:e.words=[]:=List.length_eq_zero_iff.1 hw.1
     have h2:e.kids=[]:=List.length_eq_zero_iff.1 hw.2
     have h3:e.ops=[]:=List.length_eq_zero_iff.1 hl.2
     rw [if_neg (fun h=> by rcases h with h | h | h;exact h.2 hb;exact h.2 hw;omega),if_neg (by omega),h1,h2,h3]
     simp only [Zs,Zv,Zx,JG,JF,Bool.true_and,Bool.and_true,Bool.and_eq_true,decide_eq_true_eq]
     refine ⟨fun _=> ⟨⟨⟨hk,hb.1⟩,hb.2⟩,rfl,rfl,rfl,hl.1⟩,fun _=> by simp [hk]⟩
    ·rw [if_pos (Or.inr (Or.inr ⟨by omega,by omega⟩))]
     refine ⟨fun h=> (nomatch h.1),fun h=> absurd ⟨h.2.2.2.2,h.2.2.2.1⟩ hl⟩
   ·rw [if_pos (Or.inr (Or.inl ⟨by omega,hw⟩))]
    refine ⟨fun h=> (nomatch h.1),fun h=> absurd ⟨h.2.1,h.2.2.1⟩ hw⟩
  ·rw [if_pos (Or.inl ⟨by omega,hb⟩)]
   refine ⟨fun h=> (nomatch h.1),fun h=> absurd ⟨h.1.1.2,h.1.2⟩ hb⟩
 ·exact ⟨fun h=> absurd h.2 hk,fun h=> absurd h.1.1.1 hk⟩
theorem b89:Ztl:=by
 intro N e d _ hp hN
 simp only [YF,Z1N] at hp hN
 obtain ⟨⟨hm,hr⟩,hd0,hd1⟩:=hp
 obtain ⟨ik,ro,rn,rw',il,rk,ros⟩:=Z0u hr
 have hme:=Y5 e
 have hkl:=Yg e.kids
 have hol:=Yq e.ops
 have hat:=Z1Y e d
 rw [Zh3 hd0] at hat
 refine Ztx N e d _ ?_
 rintro y1 hy1 y2 hy2 y3 hy3
 subst hy1 hy2 hy3
 (simp only [vcS])
 have hbare:Z0j y1=true↔¬((y1.kind≠1∧¬(ZH y1.old=true∧ZH y1.new=true))∨(y1.kind≠2∧¬(y1.words.length=0∧y1.kids.length=0))∨(y1.kind≠3∧(y1.list≠0∨y1.ops.length≠0))):=by
  unfold Z0j
  split
  ·rename_i h;exact ⟨fun h=> (nomatch h),fun h2=> absurd h h2⟩
  ·rename_i h;exact ⟨fun _=> h,fun _=> rfl⟩
 refine ⟨by simp only [Z6H];omega,fun hc=> Z2 rfl ?_,fun hc=> ?_⟩
 ·rcases hc with hc | hc
  ·rw [hat]
   split
   ·try rfl
   ·rw [if_pos (Classical.byContradiction fun h=> by rw [hbare.2 h] at hc;cases hc)]
  ·rw [hat,if_pos (Or.inl hc)]
 have hb:=hbare.1 hc.1
 have hr2:¬(y1.kind=0∨y1.kind=1∨y1.kind=2∨y1.kind=3)→Z3 y1 d=false:=fun h=> by rw [hat,if_pos (by omega)]
 by_cases hk:y1.kind=0∨y1.kind=1∨y1.kind=2∨y1.kind=3
 ·rw [if_neg (by omega),if_neg hb] at hat
  have hw:y1.kind≠2→y1.words=[]∧y1.kids=[]:=by
   intro h
   have:y1.words.length=0∧y1.kids.length=0:=Classical.byContradiction fun h2=> hb (Or.inr (Or.inl ⟨h,h2⟩))
   exact ⟨List.length_eq_zero_iff.1 this.1,List.length_eq_zero_iff.1 this.2⟩
  have ho:y1.kind≠3→y1.list=0∧y1.ops=[]:=by
   intro h
   have:y1.list=0∧y1.ops.length=0:=by
    constructor
    ·exact Classical.byContradiction fun h2=> hb (Or.inr (Or.inr ⟨h,Or.inl h2⟩))
    ·exact Classical.byContradiction fun h2=> hb (Or.inr (Or.inr ⟨h,Or.inr h2⟩))
   exact ⟨this.1,List.length_eq_zero_iff.1 this.2⟩
  refine ⟨fun h0=> Z2 rfl ?_,fun h0=> ⟨fun h1=> ⟨by simp only [Z3g];exact ⟨by omega,ro⟩,fun _=> by simp only [Z3g];exact ⟨by omega,rn⟩,Z2 rfl ?_⟩,fun h1=> ⟨fun h2=> ⟨by simp only [Z6G];exact ⟨by omega,rw'⟩,fun _=> by unfold InR;omega,fun _=> by simp only [Z17];exact ⟨⟨by omega,rk⟩,by omega,by omega⟩,fun _=> by simp only [Z4t];omega,Z2 rfl ?_⟩,fun h2=> ⟨fun h3=> ⟨trivial,fun _=> by unfold InR;omega,fun hl=> by simp only [Z16];exact ⟨⟨by omega,hr,hl⟩,by omega,by omega⟩,fun _=> by simp only [Z4s];omega,Z2 rfl ?_⟩,fun h3=> ?_⟩⟩⟩⟩
  ·rw [hat,if_neg (by omega),(hw (by omega)).1,(hw (by omega)).2,(ho (by omega)).1,(ho (by omega)).2]
   simp [Zs,Zv,Zx,JG,JF]
   omega
  ·rw [hat,if_pos h1,Bool.eq_iff_iff]
   (simp only [vcS])
   exact ⟨fun h=> ⟨⟨h.1.2,h.2.2⟩,h.1.1,h.2.1⟩,fun h=> ⟨⟨h.2.1,h.1.1⟩,h.2.2,h.1.2⟩⟩
  ·rw [hat,if_neg h1,(ho (by omega)).1,(ho (by omega)).2,Bool.eq_iff_iff]
   simp only [Zx,JG,JF]
   (simp only [vcS])
   constructor
   ·rintro ⟨a,b⟩
    exact ⟨⟨⟨⟨a,b⟩,by omega⟩,trivial⟩,by decide⟩
   ·rintro ⟨⟨⟨⟨a,b⟩,_⟩,_⟩,_⟩
    exact ⟨a,b⟩
  ·rw [hat,if_neg h1,(hw (by omega)).1,(hw (by omega)).2,Bool.eq_iff_iff]
   simp only [Zs,Zv]
   (simp only [vcS])
   constructor
   ·rintro ⟨a,b,c⟩
    exact ⟨⟨⟨⟨trivial,trivial⟩,by omega⟩,b⟩,c⟩
   ·rintro ⟨⟨⟨_,a⟩,b⟩,c⟩
    exact ⟨by omega,b,c⟩
  ·omega
 ·have he:=hr2 hk
  refine ⟨fun h0=> by omega,fun h0=> ⟨fun h1=> by omega,fun h1=> ⟨fun h2=> by omega,fun h2=> ⟨fun h3=> by omega,fun h3=> Z2 rfl ?_⟩⟩⟩⟩
  rw [he]
theorem Zrb:Zpk:=by
 intro N l d _ hp hN
 simp only [Z17,Z4t] at hp hN
 obtain ⟨⟨hm,hr⟩,hd0,hd1⟩:=hp
 have hl:=Yg l
 refine Zsr N l d _ ?_
 refine Zc (ι:=Int) (fun i=> Z0S l d i) (fun i=> 0≤i∧i≤l.length∧∃ last,-1≤last∧(i=0→last= -1)∧(0 < i→last=(l.getD (i - 1).toNat (KidOf.mk 0 Edit.nil)).at_)∧Zv last (l.drop i.toNat) d=Zv (-1) l d) (fun i=> ((l.length:Int) - i).toNat) 0 rfl ⟨by omega,by omega,-1,by omega,fun _=> rfl,fun h=> by omega,by simp⟩ ?_
 rintro i ⟨g1,g2,last,g3,g4,g5,g6⟩
 refine Zjd N l d i _ _ ?_
 rintro y1 hy1 y2 hy2 y3 hy3
 (simp only [vcS])
 refine ⟨fun hi=> ?_,fun hi=> ?_⟩
 ·have hmem:=Zp (l:=l) (i:=i.toNat) (by omega) (KidOf.mk 0 Edit.nil)
  have hmk:=Jg hmem
  have hrk:=Z0I hr hmem
  rw [Yn g1 hi (KidOf.mk 0 Edit.nil)] at g6
  rw [←hy1] at g6 hmk hrk
  rw [←hy2] at g5
  rw [←hy3] at hmk hrk
  simp only [Zv,Z09] at g6
  rw [←hy3] at g6
  have hk:y1.e.kind=y3.kind:=by rw [hy3]
  rw [hk]
  have gl:(¬0 < i∨¬y1.at_≤y2.at_)∧¬y1.at_ < 0↔last < y1.at_∧¬y1.at_ < 0:=by
   by_cases h0:0 < i
   ·have:=g5 h0;omega
   ·have:=g4 (by omega);omega
  refine ⟨⟨g1,hi⟩,fun _=> by unfold InR;omega,fun _=> by omega,fun _=> ?_,fun _=> by simp only [Z1N];omega,fun hc=> Z2 rfl ?_,fun hc=> ⟨by unfold InR;omega,i+1,rfl,⟨by omega,by omega,y1.at_,by omega,fun h=> by omega,fun _=> by rw [show (i+1 - 1).toNat=i.toNat by omega,←hy1],?_⟩,by omega⟩⟩
  ·simp only [YF]
   exact ⟨⟨by omega,hrk.2⟩,hd0,hd1⟩
  ·rw [←g6]
   by_cases hr:Z3 y3 d=true
   ·rw [decide_eq_false (fun h=> ?_)]
    ·try rfl
    ·rcases hc with hc | hc
     ·rcases hc with (hc | hc) | hc
      ·omega
      ·by_cases h0:0 < i
       ·have:=g5 h0;omega
       ·omega
      ·exact h.2.2 hc
     ·rw [hr] at hc;cases hc
   ·simp only [Bool.not_eq_true] at hr
    rw [hr];simp
  ·rw [←g6,hc.2,decide_eq_true (show last < y1.at_∧y1.at_≤65534∧y3.kind≠0 by
    refine ⟨?_,by omega,hc.1.2⟩
    by_cases h0:0 < i
    ·have:=g5 h0;omega
    ·have:=g4 (by omega);omega)]
   try rfl
 ·rw [List.drop_of_length_le (by omega)] at g6
  simp only [Z3c]
  rw [←g6]
  exact Z2 rfl rfl
theorem Z4o{list d:Int}:∀ {os:List Op},(∀ o∈os,Zd list o d=true)→Zx list os d=true
 | [],_=> rfl
 | o ::r,h=> by
  simp only [Zx,Bool.and_eq_true]
  exact ⟨h o (List.mem_cons_self ..),Z4o (fun x hx=> h x (List.mem_cons_of_mem _ hx))⟩
theorem Zra:Zpj:=by
 intro N e d _ hp hN
 simp only [Z16,Z4s] at hp hN
 obtain ⟨⟨hm,hr,hl⟩,hd0,hd1⟩:=hp
 obtain ⟨ik,ro,rn,rw',il,rk,ros⟩:=Z0u hr
 have hme:=Y5 e
 have hol:=Yq e.ops
 refine Zsq N e d _ ?_
 refine Zc (ι:=Int) (fun i=> Z0R e d i) (fun i=> 0≤i∧i≤e.ops.length∧∀ o∈e.ops.take i.toNat,Zd e.list o d=true) (fun i=> ((e.ops.length:Int) - i).toNat) 0 rfl ⟨by omega,by omega,by simp⟩ ?_
 rintro i ⟨g1,g2,g3⟩
 refine Zjc N e d i _ _ ?_
 rintro y1 hy1 y2 hy2 y3 hy3
 subst hy1 hy3
 (simp only [vcS])
 refine ⟨fun hi=> ?_,fun hi=> ?_⟩
 ·have hmem:=Zp (l:=y1.ops) (i:=i.toNat) (by omega) Op.nil
  have hmo:=Yy hmem
  have hro:=Z0H ros hmem
  rw [←hy2] at hmem hmo hro
  refine ⟨⟨g1,hi⟩,?_,by simp only [Z4r];omega,fun hc=> Z2 rfl ?_,fun hc=> ⟨by unfold InR;omega,i+1,rfl,⟨by omega,by omega,fun o ho=> ?_⟩,by omega⟩⟩
  ·simp only [Z15]
   exact ⟨⟨by omega,hro,hl⟩,hd0,hd1⟩
  ·have:Zx y1.list y1.ops d=false:=by
    rw [←Bool.not_eq_true]
    intro h
    have:=rightOs_mem h hmem
    rw [hc] at this;cases this
   rw [this,Bool.false_and]
  ·rw [show (i+1).toNat=i.toNat+1 by omega,List.take_add_one] at ho
   rcases List.mem_append.1 ho with ho | ho
   ·exact g3 o ho
   ·have e:y1.ops[i.toNat]?=some y3:=by
     rw [hy2]
     simp [List.getD,List.getElem?_eq_getElem (show i.toNat < y1.ops.length by omega)]
    rw [e] at ho
    simp only [Option.toList_some,List.mem_singleton] at ho
    subst ho
    exact hc
 ·rw [List.take_of_length_le (by omega)] at g3
  have hall:Zx y1.list y1.ops d=true:=Z4o g3
  have hb:∀ o∈y1.ops,(0≤o.n∧o.n≤1048576)∧o.l.length≤20000000000:=by
   intro o ho
   refine ⟨Z3R (g3 o ho),?_⟩
   have h1:=Yy ho
   rw [YC] at h1
   have h2:=Zr o.l
   omega
  refine ⟨by simp only [Z6D];omega,Z2 rfl ?_⟩
  rw [ZdB _ _ hb (by decide) (by decide),ZdA _ _ hb (by decide) (by decide),hall,Bool.true_and]
  by_cases h1:JG y1.ops 0 < 1048576 <;> by_cases h2:JF y1.ops 0 < 1048576 <;> simp [h1,h2]
theorem Zr9:Zpi:=by
 intro N list o d _ hp hN
 simp only [Z15,Z4r] at hp hN
 obtain ⟨⟨hm,hr,hil⟩,hd0,hd1⟩:=hp
 obtain ⟨ik,inn,rl,re⟩:=Z8f hr
 rw [YC] at hm hN
 have hll:=Zr o.l
 have hep:=Z0O o.e
 have hat:=YM list o d
 rw [Zh3 hd0,Z6s] at hat
 have hs:=ZhR (e:=o.e)
 refine Zsf N list o d _ ?_
 rintro y1 hy1 y2 hy2
 subst hy1
 (simp only [vcS])
 have hp87:YF (o.e,1,()):=by simp only [YF];exact ⟨⟨by omega,re⟩,by omega,by omega⟩
 have hm87:Z1N (o.e,1,()) < N:=by simp only [Z1N];omega
 have hp135:Z2A (o.l,(list,()),()):=by simp only [Z2A];exact ⟨by omega,rl,by unfold isI;omega⟩
 have h12:o.kind=1∨o.kind=2→y2= .bool (Zd list o d):=by
  intro hk
  rw [hy2,hat,if_neg (by omega)]
  congr 1
  rw [Bool.eq_iff_iff]
  (simp only [vcS])
  by_cases hn:o.n=0
  ·rw [if_neg (by omega),if_pos (by omega)]
   (simp only [vcS])
   constructor
   ·rintro ⟨⟨⟨⟨h1,h2⟩,h3⟩,h4⟩,h5⟩
    exact ⟨⟨h5,by omega⟩,hs.1 ⟨h3,h4⟩⟩
   ·rintro ⟨⟨h5,h2⟩,h3⟩
    have:=hs.2 h3
    exact ⟨⟨⟨⟨hn,by omega⟩,this.1⟩,this.2⟩,h5⟩
  ·rw [if_pos (by omega)]
   exact ⟨fun h=> absurd h.1.1.1.1 hn,fun h=> (nomatch h)⟩
 refine ⟨fun hk=> ⟨fun _=> hp87,fun _=> hm87,Z2 rfl ?_⟩,fun hk=> ⟨fun hk1=> ⟨fun _=> hp87,fun _=> hm87,fun _=> hp135,?_⟩,fun hk1=> ⟨fun hk2=> ⟨fun _=> hp87,fun _=> hm87,fun _=> hp135,?_⟩,fun hk2=> ⟨fun hk3=> ⟨fun _=> trivial,fun _=> ?_,fun _=> by simp only [Z1N];omega,Z2 rfl ?_⟩,fun hk3=> Z2 rfl ?_⟩⟩⟩⟩
 ·rw [hat,if_pos hk,Bool.eq_iff_iff]
  (simp only [vcS])
  constructor
  ·rintro ⟨⟨⟨h1,h2⟩,h3⟩,h4⟩
   exact ⟨⟨h1.1,h1.2,by omega⟩,hs.1 ⟨h3,h4⟩⟩
  ·rintro ⟨⟨h1,h2,h3⟩,h4⟩
   have:=hs.2 h4
   exact ⟨⟨⟨⟨h1,h2⟩,by omega⟩,this.1⟩,this.2⟩
 ·rw [h12 (Or.inl hk1)]
  exact Z2 rfl rfl
 ·rw [h12 (Or.inr hk2)]
  exact Z2 rfl rfl
 ·simp only [YF];exact ⟨⟨by omega,re⟩,hd0,hd1⟩
 ·rw [hat,if_neg hk,Bool.eq_iff_iff]
  by_cases hn:o.n=0
  ·rw [if_neg (by omega),if_neg (by omega)]
   have hw:Y4 list o.e=true↔(o.e.kind≠0∧7 < list)∧(list=8∨o.e.kind=2∨o.e.kind=1∧o.e.old.kind=1∧o.e.new.kind=1):=by
    unfold Y4
    split
    ·exact ⟨fun h=> (nomatch h),fun h=> by omega⟩
    ·split
     ·exact ⟨fun _=> ⟨by omega,by omega⟩,fun _=> rfl⟩
     ·rw [decide_eq_true_eq]
      exact ⟨fun h=> ⟨by omega,Or.inr (Or.inr h)⟩,fun h=> by omega⟩
   (simp only [vcS])
   rw [hw]
   constructor
   ·rintro ⟨⟨h1,h2⟩,h3⟩
    exact ⟨⟨⟨by omega,h2.1⟩,h3⟩,h2.2⟩
   ·rintro ⟨⟨⟨h1,h2⟩,h3⟩,h4⟩
    exact ⟨⟨⟨hn,by omega⟩,h2,h4⟩,h3⟩
  ·rw [if_pos (by omega)]
   (simp only [vcS])
   exact ⟨fun h=> absurd h.1.1.1 hn,fun h=> (nomatch h)⟩
 ·rw [hat,if_neg hk]
  by_cases hn:o.n≠0∨o.kind < 0∨3 < o.kind
  ·rw [if_pos hn]
  ·exfalso;omega
theorem Zuc:Contract Try.prog cfg 89 Z8C∧Contract Try.prog cfg 124 ZfP∧Contract Try.prog cfg 125 ZfO∧Contract Try.prog cfg 168 ZfN:=
 Zn0 Zr1 Zr0 ZqZ c92 ZqQ ZqN ZqT b89 Zrb Zra Zr9
theorem c52:Contract Try.prog cfg 52 Z8P:=by
 refine Zq9 Zuc.1 ?_
 intro e _ hp
 simp only [Zgh] at hp
 refine ZtU _ _ ?_
 (simp only [Tree.eta,Edit.eta,Tree.kind_mk,Tree.words_mk,Tree.kids_mk])
 refine ⟨by simp only [YF];exact ⟨hp,by omega,by omega⟩,?_⟩
 exact Z2 rfl rfl
end Go.AM.Ytpjenobkibfpcaa
namespace Go.AM.Ytpjenobkibfpcaa
open Go.AM Go.Proofs
theorem kids_sum:∀ {l:List Op},(∀ o∈l,Z4i o)→Z1Q l≤Yz l+YH l
 | [],_=> by simp [Z1Q,Yz,YH]
 | o ::r,h=> by
  have h1:=Z6K (h o List.mem_cons_self)
  have h2:=kids_sum fun x hx=> h x (List.mem_cons_of_mem _ hx)
  simp only [Z1Q,Yz,YH]
  split <;> split <;> omega
end Go.AM.Ytpjenobkibfpcaa
namespace Go.AM.Ytpjenobkibfpcaa
open Go.AM Go.Proofs
theorem Zlg{t:Tree}(h:Z2d t=true)(hr:rng t):Zg t≤20000000000∧RT_ t∧Z9 t 64=true∧t.kind≠10:=by
 unfold Z2d at h
 simp only [Bool.and_eq_true,decide_eq_true_eq] at h
 exact ⟨Zb2 h.1.1,⟨⟨64,h.1.2⟩,hr⟩,h.1.2,h.2⟩
theorem Zp4{t:Tree}(h:Z2d t=true):Zg t≤3000:=by
 unfold Z2d at h
 simp only [Bool.and_eq_true,decide_eq_true_eq] at h
 have:=Jn t 80 3000 h.1.1
 omega
theorem ZdJ{e:Edit}(h:Jz e=true):Ze e≤3000∧Z3 e 64=true:=by
 simp only [Jz,Bool.and_eq_true,decide_eq_true_eq] at h
 exact ⟨Z7a h.1.1,h.1.2⟩
theorem Zkh{e:Edit}{t:Tree}(hg:Jz e=true)(he:ZL e)(ht:Zg t≤20000000000)(hr:rng t):(Ze e≤20000000000∧ZL e∧∃ d,Z3 e d=true)∧Zg t+ctE e≤200000000000∧rng t:=by
 obtain ⟨hm,hx⟩:=ZdJ hg
 have hc:=Z8p e
 exact ⟨⟨by omega,he,64,hx⟩,by omega,hr⟩
theorem ZeE{r:Bool}{e:Edit}{t:Tree}(hr:∃ d,Z3 e d=true)(ht:Zg t+ctE e≤200000000000):Zg (Z2R (doE r e t))≤1000000000000:=by
 cases h:doE r e t with
 | none=> simp [Z2R,Tree.nil,Zg,Za]
 | some u=> exact ZdV hr ht h
theorem ZeD(o:Option Tree):Z2R (o.map Z5)=Z5 (Z2R o):=by cases o;exact Z6P.symm;rfl
end Go.AM.Ytpjenobkibfpcaa
namespace Go.AM.Ytpjenobkibfpcaa
open Go.AM Go.Proofs
mutual
theorem Z4m:∀ t:Tree,Zg t≤17592186044416→Z0Y t
 | .mk k w ks,h=> by
  simp only [Zg] at h
  have:=Zr ks
  exact ⟨by omega,by omega,Z34 ks (by omega)⟩
theorem Z34:∀ l:List Tree,Za l≤17592186044416→Z0X l
 | [],_=> trivial
 | t ::r,h=> by
  simp only [Za] at h
  exact ⟨Z4m t (by omega),Z34 r (by omega)⟩
end
theorem ZeK{e:Edit}{t:Tree}(hr:∃ d,Z3 e d=true)(ht:Zg t+ctE e≤200000000000):Zg (Z2R ((doE false e t).map Z5))≤1000000000000:=by
 rw [ZeD]
 exact Nat.le_trans (Jc _) (ZeE hr ht)
end Go.AM.Ytpjenobkibfpcaa
namespace Go.AM.Ytpjenobkibfpcaa
open Go.AM Go.Proofs
theorem Zlf{e:Edit}(h:Jz e=true)(g:ZL e):ZsG e∧Ze e≤3000∧Z3 e 64=true:=by
 obtain ⟨m,r⟩:=ZdJ h
 have hl:Jv e=true:=by
  simp only [Jz,Bool.and_eq_true] at h
  exact h.2
 have:=Zjq _ e (Nat.le_refl _) ⟨64,r⟩ hl
 exact ⟨⟨by omega,g,64,r⟩,m,r⟩
end Go.AM.Ytpjenobkibfpcaa
namespace Go.AM.Ytpjenobkibfpcaa
open Go.AM Go.Proofs
noncomputable section
def ZlA:ArgL (Int × Unit):=(.cons (Yk .i64) .nil)
def ZaJ(a:Int × Unit):Prop:=True
def Zg2(a:Int × Unit):V U:= .c (sU .op (Z27 a.1) (.own (.r 0 0)))
def Z8A:Fs U:=fs ZlA (fun a=> [ZaJ a]) Zg2
def Zfs:ArgL (Tree × List PStep × Edit × Unit):=(.cons (aEl .tree) (.cons (aSl .step) (.cons (aEl .edit) .nil)))
def Z5t(a:Tree × List PStep × Edit × Unit):Prop:=(Zg a.1≤1000000000)∧(a.2.1).length≤70
def Zdo(a:Tree × List PStep × Edit × Unit):Nat:=(a.2.1).length
def Z3b(a:Tree × List PStep × Edit × Unit):V U:= .tup [(true,(enc .edit ((ZG JE a.2.2.1 a.2.1 a.1).1))),(false,[.bool ((ZG JE a.2.2.1 a.2.1 a.1).2)])]
def Z8M:Fs U:=fs Zfs (fun a=> [Z5t a]) Z3b
def ZlH:ArgL (List Op × Int × Unit):=(.cons (aSl .op) (.cons (Yk .i64) .nil))
def Zge(a:List Op × Int × Unit):Prop:=Zu8 a.1∧0≤a.2.1
def ZcT(a:List Op × Int × Unit):V U:= .tup [(true,(enc .op ((Yi a.1 a.2.1 0 0).1))),(false,[ci ((Yi a.1 a.2.1 0 0).2.1)]),(false,[.bool ((Yi a.1 a.2.1 0 0).2.2)])]
def Z8G:Fs U:=fs ZlH (fun a=> [Zge a]) ZcT
def Zfp:ArgM (Kid × (Int × Int × Unit) × Unit):=(.cons (aEl .kid) (.obj 0 (.cons (Zfk .i64) (.cons (Zfk .i64) .nil)) .nil))
def Zke(a:Kid × (Int × Int × Unit) × Unit):Prop:=True
def ZjF(a:Kid × (Int × Int × Unit) × Unit):V U:= .c (.bool (decide (KidOf.at_ a.1=a.2.1.2.1)))
def ZjD(a:Kid × (Int × Int × Unit) × Unit):List (List (C U)):=[[ci a.2.1.1,ci a.2.1.2.1]]
def Z8H:Fs U:=fsX Zfp (fun a=> [Zke a]) ZjF ZjD
def Zfq:ArgM (List Kid × (Int × Int × Unit) × Unit):=(.cons (aSl .kid) (.clo 73 0 (.cons (Zfk .i64) (.cons (Zfk .i64) .nil)) .nil))
def Zd2(a:List Kid × (Int × Int × Unit) × Unit):Prop:=(a.1).length≤1000000000000
def Zg5(a:List Kid × (Int × Int × Unit) × Unit):V U:= .c (ci (Z0i a.1 a.2.1.2.1 0))
def Zbv(a:List Kid × (Int × Int × Unit) × Unit):List (List (C U)):=[[ci a.2.1.1,ci a.2.1.2.1]]
def Z8I:Fs U:=fsX Zfq (fun a=> [Zd2 a]) Zg5 Zbv
def ZkY:List (FuncId × Fs U):=[]
def Zql:Zh U:=lvl [([0],[]),([0,4],[]),([2],[]),([2],[])]
abbrev A93(p:List Nat):=AW (Z0 ZkY) Try.f93 Zql p
theorem Ztt(n:Int)(Q:QT)(h:(((n==0)=true→(Q .ret (L2 [(2,.c (.nils))] [])))∧((n==0)=false→(Q .ret (L2 [(2,.c (sU .op ([(OpOf.mk 0 n [] (Edit.mk 0 (Tree.mk 0 [] []) (Tree.mk 0 [] []) [] [] 0 []))]) .full))] []))))):
  A93 [] (L2 [(0,.c (ci n))] []) Q:=
 Eq.mpr (by kernel_rfl) h
def Zrq(n:Int):Prop:=AW (Z0 ZkY) Try.f93 Zql [] (Zl (ZlA.can (n,())) []) (EQ Try.f93 (Zg2 (n,())) [])
theorem ZpM(hb:∀ (n:Int) (_:Unit),ZaJ (n,())→Zrq n):CT 93 Z8A:=
 Z4 (l:=[]) Zk rfl trivial Zql Try.func93 rfl rfl 1 (fun _=> rfl) (by decide) (fun ⟨n,_⟩=> hb n ())
def Zl4(N:Nat):List (FuncId × Fs U):=(56,fs Zfs (fun a=> [Z5t a,Zdo a < N]) Z3b) ::[(91,Z0l),(92,JL),(93,Z8A)]
def Zqt:Zh U:=lvl [([1,3,5,6],[3,5,6]),([1,3,5,6,16],[3,5,6]),([6,7],[6]),([1,3,5,6,8],[3,5,6,8]),([1,3,5,6,8,31],[3,5,6,8]),([6,7],[6]),([1,3,5,6,8,33],[3,5,6,8]),([6,8,9,10],[6,8,9]),([6,8,9,10,59],[6,8,9]),([6,7],[6]),([6,7],[6]),([1,3,5,6,8,68],[3,5,6,8]),([3,6,8,11,12],[3,6,8,11]),([3,6,8,11,12,99],[3,6,8,11]),([6,7],[6]),([3,6,8,13],[3,6,8]),([6,7],[6]),([6,7],[6])]
abbrev A56(N:Nat)(p:List Nat):=AW (Z0 (Zl4 N)) Try.f56 Zqt p
theorem ZtR(N:Nat)(t:Tree)(l:List PStep)(e:Edit)(Q:QT)(h:∀ y_1,y_1=e→∀ y_2,y_2=t→∀ y_3,y_3=(List.getD l (Int.toNat 0) (PStep.mk 0 0))→∀ y_4,y_4=(Yu y_2 (PStep.at_ y_3))→∀ y_5,y_5=(List.getD t.kids (Int.toNat (PStep.at_ y_3)) Tree.nil)→∀ y_6,y_6=y_5→∀ y_7,y_7=((ZG JE y_1 (List.drop (Int.toNat 1) l) y_4).1)→∀ y_8,y_8=((ZG JE y_1 (List.drop (Int.toNat 1) l) y_6).1)→let z13:=((l.length:Int):Int)==0;let z12:=Z27 (PStep.at_ y_3);let z8:=Z27 (((((t.kids.length:Int):Int) - (PStep.at_ y_3)):Int) - 1);let z7:=Q .ret (L2 [(6,.ptr (.loc 6) 0),(7,.c (.bool false))] [(.loc 6,zc1)]);let z6:=bif (t.kind==1) then (decide (((PStep.at_ y_3):Int) < 65535)) else false;let z4:=((PStep.kind y_3):Int) !=0;let z11:=bif z4 then true else (decide (((PStep.at_ y_3):Int) < 0));let z1:=decide (2≤t.kind∧t.kind≤9);let z5:=bif z1 then (decide (((PStep.at_ y_3):Int) < (t.kids.length:Int))) else false;let z0:=List.drop (Int.toNat 1) l;let z3:=ZG JE y_1 z0 y_6;let z10:=bif (!(z3.2)) then true else (((Edit.kind (z3.1)):Int)==0);let z2:=ZG JE y_1 z0 y_4;let z9:=bif (!(z2.2)) then true else (((Edit.kind (z2.1)):Int)==0);((z13=true→(Q .ret (L2 [(6,.ptr (.loc 6) 0),(7,.c (.bool (t.kind !=10)))] [(.loc 6,(enc .edit e))])))∧(z13=false→((0:Int)≤0∧0 < (l.length:Int))∧((Tr ((!z4)=true))∧(Tr ((!z4)=true))∧(z4=false→(!z4)=true)∧((z11=true→z7)∧(z11=false→(Tr ((t.kind==1)=true))∧(Tr ((t.kind==1)=true))∧(Tr ((t.kind==1)=true))∧((z6=true→(Z7v (y_2,(PStep.at_ y_3),()))∧((0:Int)≤1∧1≤(l.length:Int))∧(Z5t (y_4,z0,y_1,()))∧(Zdo (y_4,z0,y_1,()) < N)∧((Tr ((!(!(z2.2)))=true))∧(Tr ((!(!(z2.2)))=true))∧((!(z2.2))=false→(!(!(z2.2)))=true)∧((z9=true→(Q .ret (L2 [(6,.ptr (.loc 6) 0),(7,.c (.bool (z2.2)))] [(.loc 6,zc1)])))∧(z9=false→(Q .ret (L2 [(6,.ptr (.loc 6) 0),(7,.c (.bool true))] [(.loc 6,[ci 2,ci 0,.nils,.nils,ci 0,.nils,.nils,.nils,sU .kid ([(KidOf.mk (PStep.at_ y_3) y_7)]) .full,ci 0,.nils])]))))))∧(z6=false→(Z7u (t.kind,()))∧(Tr (z1=true))∧(Tr (z1=true))∧(Tr (z1=true))∧(Tr (z1=true))∧(Tr (z1=true))∧(Tr (z1=true))∧((z5=true→((0:Int)≤(PStep.at_ y_3)∧(PStep.at_ y_3) < (t.kids.length:Int))∧((0:Int)≤1∧1≤(l.length:Int))∧(Z5t (y_6,z0,y_1,()))∧(Zdo (y_6,z0,y_1,()) < N)∧((Tr ((!(!(z3.2)))=true))∧(Tr ((!(!(z3.2)))=true))∧((!(z3.2))=false→(!(!(z3.2)))=true)∧((z10=true→(Q .ret (L2 [(6,.ptr (.loc 6) 0),(7,.c (.bool (z3.2)))] [(.loc 6,zc1)])))∧(z10=false→(ZaJ ((PStep.at_ y_3),()))∧((z12.length+([(OpOf.mk 3 0 [] y_8)]).length)*240≤140737488355328)∧((InR (((t.kids.length:Int):Int) - (PStep.at_ y_3)))∧(InR (((((t.kids.length:Int):Int) - (PStep.at_ y_3)):Int) - 1))∧(ZaJ ((((((t.kids.length:Int):Int) - (PStep.at_ y_3)):Int) - 1),()))∧(((z12++([(OpOf.mk 3 0 [] y_8)])).length+z8.length)*240≤140737488355328)∧(Q .ret (L2 [(6,.ptr (.loc 6) 0),(7,.c (.bool true))] [(.loc 6,[ci 3,ci 0,.nils,.nils,ci 0,.nils,.nils,.nils,.nils,ci t.kind,sU .op ((z12++([(OpOf.mk 3 0 [] y_8)]))++z8) (.own (.l 6 10))])])))))))∧(z5=false→z7)))))))))):
  A56 N [] (L2 [(0,.agg (enc .tree t)),(1,.c (sU .step l .unk)),(2,.agg (enc .edit e))] []) Q:=
 Eq.mpr (by kernel_rfl) (h _ (Zm _) _ (Zb _) _ rfl _ (Zb _) _ rfl _ (Zb _) _ (Zm _) _ (Zm _))
def ZrO(N:Nat)(t:Tree)(l:List PStep)(e:Edit):Prop:=AW (Z0 (Zl4 N)) Try.f56 Zqt [] (Zl (Zfs.can (t,l,e,())) []) (EQ Try.f56 (Z3b (t,l,e,())) [])
theorem Zq6(c91:CT 91 Z0l)(c92:CT 92 JL)(c93:CT 93 Z8A)(hb:∀ (N:Nat) (t:Tree) (l:List PStep) (e:Edit) (_:Unit),Z5t (t,l,e,())→Zdo (t,l,e,()) < N+1→ZrO N t l e):CT 56 Z8M:=
 ZT (μ:=Zdo) (l:=[(91,Z0l),(92,JL),(93,Z8A)]) Zk rfl (⟨c91,c92,c93,trivial⟩) Zqt Try.func56 rfl rfl 3 (fun _=> rfl) (by decide) (fun N ⟨t,l,e,_⟩=> hb N t l e ())
def Zf1:List (FuncId × Fs U):=[]
def ZnA:Zh U:=lvl [([0,1,4],[4]),([0,1,4,7,8],[4]),([1,4,7,8,12,13,14],[4]),([1,4,7,8,12,13,14,15],[4]),([1,4,7,8,10,12,13,14],[4,10]),([1,4,7,8,10,11,12,13,14],[4,10]),([1,4,7,8,10,11,12,13,14,26],[4,10]),([1,4,7,8,10,11,12,13,14],[4,10]),([1,4,7,8,10,11,12,13,14,29],[4,10]),([1,4,7,8,12,13,14],[4]),([1,4,7,8,10,11,12,13,14,37],[4,10]),([4,5,6],[4]),([1,4,7,8,10,11,12,13,14],[4,10]),([1,4,7,8,11,12,13,14,52],[4]),([1,4,7,8,12,13,14],[4]),([1,4,7,8,12,13,14],[4]),([4,5,6],[4])]
def Jy(l:List Op)(at_ x8 x14 x7:Int):LSt U:=(L2 [(1,.c (ci at_)),(4,.ptr (.loc 4) 0),(7,.c (ci x7)),(8,.c (ci x8)),(12,.c (sU .op l .unk)),(13,.c (ci (l.length:Int))),(14,.c (ci x14))] [(.loc 4,zc2)])
abbrev A74(p:List Nat):=AW (Z0 Zf1) Try.f74 ZnA p
abbrev S74(p:List Nat):=SW (Z0 Zf1) Try.f74 ZnA p
theorem ZtD(l:List Op)(at_:Int)(Q:QT)(h:(Zj (A74 [1,1,0,1,0,0]) (Jy l at_ 0 0 0) (xB 0 (S74 [1,1,1] Q)))):
  A74 [] (L2 [(0,.c (sU .op l .unk)),(1,.c (ci at_))] []) Q:=
 Eq.mpr (by kernel_rfl) h
theorem Zml(l:List Op)(at_ x8 x14 x7:Int)(N0:NT)(Q:QT)(h:∀ y_1,y_1=(l.getD x14.toNat Op.nil)→let z5:=InR (((x8+at_):Int) - x7);let z4:=decide (x14 < (l.length:Int));let z3:=InR (x7+(y_1.n+(y_1.l.length:Int)));let z2:=InR (x8+(y_1.n+(y_1.l.length:Int)));let z1:=decide (at_ < (x7+(y_1.n+(y_1.l.length:Int))));let z0:=Q .ret (L2 [(4,.ptr (.loc 4) 0),(5,.c (ci (((x8+at_):Int) - x7))),(6,.c (.bool (y_1.kind !=1)))] [(.loc 4,(enc .op y_1))]);((z4=true→((0:Int)≤x14∧x14 < (l.length:Int))∧((InR (y_1.n+(y_1.l.length:Int)))∧(((y_1.kind==3)=true→(((y_1.kind==2)=true→(InR (x8+1))∧((InR (x14+1))∧(N0 (Jy l at_ (x8+1) (x14+1) x7))))∧((y_1.kind==2)=false→(InR (x7+1))∧(((decide (at_ < (x7+1)))=true→(InR (x8+at_))∧z5∧z0)∧((decide (at_ < (x7+1)))=false→(InR (x7+1))∧(((y_1.kind !=1)=true→(InR (x8+1))∧((InR (x14+1))∧(N0 (Jy l at_ (x8+1) (x14+1) (x7+1)))))∧((y_1.kind !=1)=false→(InR (x14+1))∧(N0 (Jy l at_ x8 (x14+1) (x7+1))))))))))∧((y_1.kind==3)=false→(((y_1.kind==2)=true→z2∧((InR (x14+1))∧(N0 (Jy l at_ (x8+(y_1.n+(y_1.l.length:Int))) (x14+1) x7))))∧((y_1.kind==2)=false→z3∧((z1=true→(InR (x8+at_))∧z5∧z0)∧(z1=false→z3∧(((y_1.kind !=1)=true→z2∧((InR (x14+1))∧(N0 (Jy l at_ (x8+(y_1.n+(y_1.l.length:Int))) (x14+1) (x7+(y_1.n+(y_1.l.length:Int)))))))∧((y_1.kind !=1)=false→(InR (x14+1))∧(N0 (Jy l at_ x8 (x14+1) (x7+(y_1.n+(y_1.l.length:Int)))))))))))))))∧(z4=false→(Q .ret (L2 [(4,.ptr (.loc 4) 0),(5,.c (ci 0)),(6,.c (.bool false))] [(.loc 4,zc2)]))))):
  A74 [1,1,0,1,0,0] (Jy l at_ x8 x14 x7) (xT N0 (xB 0 (S74 [1,1,1] Q))):=
 Eq.mpr (by kernel_rfl) (h _ rfl)
def ZrA(l:List Op)(at_:Int):Prop:=AW (Z0 Zf1) Try.f74 ZnA [] (Zl (ZlH.can (l,at_,())) []) (EQ Try.f74 (ZcT (l,at_,())) [])
theorem ZpV(hb:∀ (l:List Op) (at_:Int) (_:Unit),Zge (l,at_,())→ZrA l at_):CT 74 Z8G:=
 Z4 (l:=[]) Zk rfl trivial ZnA Try.func74 rfl rfl 2 (fun _=> rfl) (by decide) (fun ⟨l,at_,_⟩=> hb l at_ ())
def Zl0:List (FuncId × Fs U):=[]
def Zqo:Zh U:=fun i=> match i with
 | 0=> ([(1,[]),(2,[])],[(.loc 2,[]),(.x 0,[])])
 | 1=> ([(3,[])],[(.x 0,[])])
 | _=> ([],[])
abbrev A73(p:List Nat):=AW (Z0 Zl0) Try.f73 Zqo p
theorem ZtE(k:Kid)(kind at_:Int)(Q:QT)(h:(Q .ret (L2 [(3,.c (.bool (k.at_==at_)))] [(.x 0,[ci kind,ci at_])]))):
  A73 [] (L2 [(0,.agg (enc .kid k)),(1,.ptr (.x 0) 0)] [(.x 0,[ci kind,ci at_])]) Q:=
 Eq.mpr (by kernel_rfl) h
def ZrB(k:Kid)(kind at_:Int):Prop:=AW (Z0 Zl0) Try.f73 Zqo [] (Zl (Zfp.can (k,(kind,at_,()),())) (Zfp.canX (k,(kind,at_,()),()))) (EQ Try.f73 (ZjF (k,(kind,at_,()),())) (ZjD (k,(kind,at_,()),())))
theorem ZpW(hb:∀ (k:Kid) (kind:Int) (at_:Int) (_:Unit),Zke (k,(kind,at_,()),())→ZrB k kind at_):CT 73 Z8H:=
 YU (l:=[]) Zk rfl trivial Zqo Try.func73 rfl rfl 2 (fun _=> rfl) (by decide) (fun ⟨k,⟨kind,at_,_⟩,_⟩=> hb k kind at_ ())
def Zf2:List (FuncId × Fs U):=[(73,Z8H)]
def ZnB:Zh U:=fun i=> match i with
 | 0=> ([(0,[]),(1,[])],[(.x 0,[])])
 | 1=> ([(0,[]),(1,[]),(7,[]),(8,[])],[(.x 0,[])])
 | 2=> ([(0,[]),(1,[]),(7,[]),(8,[]),(9,[])],[(.x 0,[])])
 | 3=> ([(0,[]),(1,[]),(5,[]),(7,[]),(8,[])],[(.x 0,[])])
 | 4=> ([(0,[]),(1,[]),(5,[]),(7,[]),(8,[]),(16,[])],[(.x 0,[])])
 | 5=> ([(4,[])],[(.x 0,[])])
 | 6=> ([(0,[]),(1,[]),(7,[]),(8,[])],[(.x 0,[])])
 | 7=> ([(4,[])],[(.x 0,[])])
 | _=> ([],[])
def Z5X(l:List Kid)(kind at_ x8:Int):LSt U:=(L2 [(0,.c (sU .kid l .unk)),(1,.clo 73 [(.x 0)]),(7,.c (ci (l.length:Int))),(8,.c (ci x8))] [(.x 0,[ci kind,ci at_])])
abbrev A72(p:List Nat):=AW (Z0 Zf2) Try.f72 ZnB p
abbrev S72(p:List Nat):=SW (Z0 Zf2) Try.f72 ZnB p
theorem ZtF(l:List Kid)(kind at_:Int)(Q:QT)(h:(Zj (A72 [1,0,1,0,0]) (Z5X l kind at_ 0) (xB 0 (S72 [1,1] Q)))):
  A72 [] (L2 [(0,.c (sU .kid l .unk)),(1,.clo 73 [(.x 0)])] [(.x 0,[ci kind,ci at_])]) Q:=
 Eq.mpr (by kernel_rfl) h
theorem Zmm(l:List Kid)(kind at_ x8:Int)(N0:NT)(Q:QT)(h:∀ y_1,y_1=(l.getD x8.toNat (KidOf.mk 0 Edit.nil))→∀ y_2,y_2=y_1→let z1:=decide (KidOf.at_ y_2=at_);let z0:=decide (x8 < (l.length:Int));((z0=true→(((0:Int)≤x8∧x8 < (l.length:Int))∧(Zke (y_2,(kind,at_,()),()))∧((z1=true→(Q .ret (L2 [(4,.c (ci x8))] [(.x 0,[ci kind,ci at_])])))∧(z1=false→(InR (x8+1))∧(N0 (Z5X l kind at_ (x8+1)))))))∧(z0=false→(Q .ret (L2 [(4,.c (ci (-1)))] [(.x 0,[ci kind,ci at_])]))))):
  A72 [1,0,1,0,0] (Z5X l kind at_ x8) (xT N0 (xB 0 (S72 [1,1] Q))):=
 Eq.mpr (by kernel_rfl) (h _ rfl _ (Zk4 _))
def ZrC(l:List Kid)(kind at_:Int):Prop:=AW (Z0 Zf2) Try.f72 ZnB [] (Zl (Zfq.can (l,(kind,at_,()),())) (Zfq.canX (l,(kind,at_,()),()))) (EQ Try.f72 (Zg5 (l,(kind,at_,()),())) (Zbv (l,(kind,at_,()),())))
theorem ZpX(c73:CT 73 Z8H)(hb:∀ (l:List Kid) (kind:Int) (at_:Int) (_:Unit),Zd2 (l,(kind,at_,()),())→ZrC l kind at_):CT 72 Z8I:=
 YU (l:=[(73,Z8H)]) Zk rfl (⟨c73,trivial⟩) ZnB Try.func72 rfl rfl 2 (fun _=> rfl) (by decide) (fun ⟨l,⟨kind,at_,_⟩,_⟩=> hb l kind at_ ())
end
end Go.AM.Ytpjenobkibfpcaa
namespace Go.AM.Ytpjenobkibfpcaa
open Go.AM Go.Proofs
theorem c93:Contract Try.prog cfg 93 Z8A:=by
 refine ZpM ?_
 intro n _ _
 refine Ztt _ _ ?_
 (simp only [vcT,vcS])
 refine ⟨fun h=> ?_,fun h=> ?_⟩
 ·simp only [Zg2,Z27,if_pos h]
  (repeat' (first | exact trivial | exact rfl | apply And.intro))
 ·simp only [Zg2,Z27,if_neg h]
  (repeat' (first | exact trivial | exact rfl | apply And.intro))
theorem c73:Contract Try.prog cfg 73 Z8H:=by
 refine ZpW ?_
 intro k kd at_ _ _
 refine ZtE _ _ _ _ ?_
 refine ZnY (r':= .c (.bool (k.at_==at_))) ?_ (by (repeat' (first | exact trivial | exact rfl | apply And.intro)))
 simp only [ZjF]
 congr 2
theorem c72:Contract Try.prog cfg 72 Z8I:=by
 refine ZpX c73 ?_
 intro l kind at_ _ hp
 simp only [Zd2] at hp
 refine ZtF _ _ _ _ ?_
 refine Zc (ι:=Int) (fun i=> Z5X l kind at_ i) (fun i=> 0≤i∧i≤l.length∧Z0i (l.drop i.toNat) at_ i=Z0i l at_ 0) (fun i=> ((l.length:Int) - i).toNat) 0 rfl ⟨by omega,by omega,rfl⟩ ?_
 rintro i ⟨h1,h2,h3⟩
 refine Zmm _ _ _ _ _ _ ?_
 rintro y1 hy1 y2 rfl
 (simp only [vcT,vcS])
 refine ⟨fun hi=> ⟨⟨h1,hi⟩,trivial,fun he=> ?_,fun he=> ⟨by unfold InR;omega,i+1,rfl,⟨by omega,by omega,?_⟩,by omega⟩⟩,fun hi=> ?_⟩
 ·rw [Yn h1 hi ⟨0,Edit.nil⟩,←hy1,Z0i,if_pos he] at h3
  simp only [Zg5,Zbv,←h3]
  (repeat' (first | exact trivial | exact rfl | apply And.intro))
 ·rw [Yn h1 hi ⟨0,Edit.nil⟩,←hy1,Z0i,if_neg he] at h3
  exact h3
 ·rw [List.drop_of_length_le (by omega),Z0i] at h3
  simp only [Zg5,Zbv,←h3]
  (repeat' (first | exact trivial | exact rfl | apply And.intro))
theorem c74:Contract Try.prog cfg 74 Z8G:=by
 refine ZpV ?_
 intro l at_ _ hp
 simp only [Zge] at hp
 obtain ⟨⟨ho,hm⟩,ha⟩:=hp
 have hl:=Yq l
 refine ZtD _ _ _ ?_
 refine Zc (ι:=Int × Int × Int) (fun s=> Jy l at_ s.1 s.2.1 s.2.2) (fun s=> (0≤s.2.1∧s.2.1≤l.length)∧(0≤s.1∧0≤s.2.2∧s.2.2+Zf (l.drop s.2.1.toNat)≤1048576*s.2.1+Zf l∧s.1+Zf (l.drop s.2.1.toNat)≤1048576*s.2.1+Zf l)∧Yi (l.drop s.2.1.toNat) at_ s.2.2 s.1=Yi l at_ 0 0) (fun s=> ((l.length:Int) - s.2.1).toNat) (0,0,0) rfl ⟨⟨by dsimp only;omega,by dsimp only;omega⟩,⟨by dsimp only;omega,by dsimp only;omega,by simp,by simp⟩,rfl⟩ ?_
 rintro ⟨to,i,from_⟩ ⟨⟨h1,h2⟩,⟨h3,h4,h5,h6⟩,h7⟩
 dsimp only at h1 h2 h3 h4 h5 h6 h7
 refine Zml _ _ _ _ _ _ _ ?_
 rintro y hy
 dsimp only at hy
 (simp only [vcT,vcS])
 refine ⟨fun hi=> ?_,fun hi=> ?_⟩
 ·have hmem:y∈l:=by rw [hy];exact Zp (by omega) _
  have hok:=ho y hmem
  have hn:=ZpF hok
  have e:=Yn h1 hi Op.nil
  rw [←hy] at e
  have hm0:Zf (l.drop i.toNat)=ZW y+Zf (l.drop (i+1).toNat):=by rw [e];try rfl
  have hyl:y.l.length≤ZW y:=by have:=Zr y.l;have:=YC y;omega
  have hy1:1≤ZW y:=by have:=Z0O y.e;have:=YC y;omega
  rw [e,Yi] at h7
  refine ⟨⟨h1,hi⟩,by unfold InR;omega,fun h3k=> ?_,fun h3k=> ?_⟩
  ·have ol:Zn y=1:=by unfold Zn;rw [if_pos h3k]
   rw [if_neg (by omega),ol] at h7
   refine ⟨fun h=> by omega,fun h2k=> ⟨by unfold InR;omega,fun hc=> ?_,fun hc=> ?_⟩⟩
   ·rw [if_pos hc] at h7
    refine ⟨by unfold InR;omega,by unfold InR;omega,?_⟩
    simp only [ZcT,←h7]
    (repeat' (first | exact trivial | exact rfl | apply And.intro))
   ·rw [if_neg hc,if_neg (by omega)] at h7
    exact ⟨by unfold InR;omega,fun hk=> ⟨by unfold InR;omega,by unfold InR;omega,(to+1,i+1,from_+1),rfl,⟨⟨by dsimp only;omega,by dsimp only;omega⟩,⟨by dsimp only;omega,by dsimp only;omega,by dsimp only;omega,by dsimp only;omega⟩,h7⟩,by dsimp only;omega⟩,fun hk=> by omega⟩
  ·have ol:Zn y=y.n+y.l.length:=by unfold Zn;rw [if_neg h3k]
   rw [ol] at h7
   refine ⟨fun h=> ?_,fun h2k=> ⟨by unfold InR;omega,fun hc=> ?_,fun hc=> ?_⟩⟩
   ·rw [if_pos h] at h7
    exact ⟨by unfold InR;omega,by unfold InR;omega,(to+(y.n+y.l.length),i+1,from_),rfl,⟨⟨by dsimp only;omega,by dsimp only;omega⟩,⟨by dsimp only;omega,by dsimp only;omega,by dsimp only;omega,by dsimp only;omega⟩,h7⟩,by dsimp only;omega⟩
   ·rw [if_neg h2k,if_pos hc] at h7
    refine ⟨by unfold InR;omega,by unfold InR;omega,?_⟩
    simp only [ZcT,←h7]
    (repeat' (first | exact trivial | exact rfl | apply And.intro))
   ·rw [if_neg h2k,if_neg hc] at h7
    refine ⟨by unfold InR;omega,fun hk=> ?_,fun hk=> ?_⟩
    ·rw [if_neg hk] at h7
     exact ⟨by unfold InR;omega,by unfold InR;omega,(to+(y.n+y.l.length),i+1,from_+(y.n+y.l.length)),rfl,⟨⟨by dsimp only;omega,by dsimp only;omega⟩,⟨by dsimp only;omega,by dsimp only;omega,by dsimp only;omega,by dsimp only;omega⟩,h7⟩,by dsimp only;omega⟩
    ·rw [if_pos hk] at h7
     exact ⟨by unfold InR;omega,(to,i+1,from_+(y.n+y.l.length)),rfl,⟨⟨by dsimp only;omega,by dsimp only;omega⟩,⟨by dsimp only;omega,by dsimp only;omega,by dsimp only;omega,by dsimp only;omega⟩,h7⟩,by dsimp only;omega⟩
 ·rw [List.drop_of_length_le (by omega),Yi] at h7
  simp only [ZcT,←h7]
  (repeat' (first | exact trivial | exact rfl | apply And.intro))
end Go.AM.Ytpjenobkibfpcaa
namespace Go.AM.Ytpjenobkibfpcaa
open Go.AM Go.Proofs
theorem Zis(t:Tree){i:Int}(h:0≤i):Yu t i=t.kids.getD i.toNat Tree.nil:=by unfold Yu;rw [if_neg (by omega)]
theorem Z23(t:Tree)(i:Nat):Zg (t.kids.getD i Tree.nil)≤Zg t:=by
 by_cases hi:i < t.kids.length
 ·have:=YX (Zp hi Tree.nil);have:=Z6W t;omega
 ·rw [List.getD_eq_getElem?_getD,List.getElem?_eq_none (by omega)]
  have:=Z0e t
  simp [Tree.nil,Zg,Za];omega
theorem Z57{f:Int→Int→Edit→List Op}{e:Edit}{s:PStep}{l:List PStep}{t:Tree}(h:¬Z1n s t):ZG f e (s ::l) t=(Edit.nil,false):=by rw [ZG,if_neg h]
theorem Z2k{f:Int→Int→Edit→List Op}{e:Edit}{s:PStep}{l:List PStep}{t:Tree}(h:Z1n s t)(h2:(ZG f e l (t.kids.getD s.at_.toNat Tree.nil)).2=false∨(ZG f e l (t.kids.getD s.at_.toNat Tree.nil)).1.kind=0):
  ZG f e (s ::l) t=(Edit.nil,(ZG f e l (t.kids.getD s.at_.toNat Tree.nil)).2):=by rw [ZG,if_pos h,if_pos h2]
theorem Z6o{f:Int→Int→Edit→List Op}{e:Edit}{s:PStep}{l:List PStep}{t:Tree}(h:Z1n s t)(h2:¬((ZG f e l (t.kids.getD s.at_.toNat Tree.nil)).2=false∨(ZG f e l (t.kids.getD s.at_.toNat Tree.nil)).1.kind=0))(h3:t.kind=1):
  ZG f e (s ::l) t=(.mk 2 Tree.nil Tree.nil [] [⟨s.at_,(ZG f e l (t.kids.getD s.at_.toNat Tree.nil)).1⟩] 0 [],true):=by rw [ZG,if_pos h,if_neg h2,if_pos h3]
theorem Z6p{f:Int→Int→Edit→List Op}{e:Edit}{s:PStep}{l:List PStep}{t:Tree}(h:Z1n s t)(h2:¬((ZG f e l (t.kids.getD s.at_.toNat Tree.nil)).2=false∨(ZG f e l (t.kids.getD s.at_.toNat Tree.nil)).1.kind=0))(h3:¬t.kind=1):
  ZG f e (s ::l) t=(.mk 3 Tree.nil Tree.nil [] [] t.kind (f t.kids.length s.at_ (ZG f e l (t.kids.getD s.at_.toNat Tree.nil)).1),true):=by rw [ZG,if_pos h,if_neg h2,if_neg h3]
theorem Z42(n:Int):(Z27 n).length≤1:=by unfold Z27;split <;> simp
theorem c56:Contract Try.prog cfg 56 Z8M:=by
 refine Zq6 c91 c92 c93 ?_
 intro N t l e _ hp hN
 simp only [Z5t,Zdo] at hp hN
 have hkl:=Z6W t
 have hkk:=Zr t.kids
 refine ZtR _ _ _ _ _ ?_
 rintro y1 rfl y2 rfl y3 hy3 y4 hy4 y5 hy5 y6 rfl y7 hy7 y8 hy8
 cases l with
 | nil=>
  (simp only [vcT,vcS])
  refine ⟨fun _=> ?_,fun h=> absurd rfl h⟩
  simp only [Z3b,ZG]
  (repeat' (first | exact trivial | exact rfl | apply And.intro))
 | cons s l=>
  have hs:y3=s:=hy3
  subst hs
  have e1:List.drop (Int.toNat 1) (y3 ::l)=l:=rfl
  rw [e1] at hy7 hy8
  rw [e1]
  (simp only [vcT,vcS])
  try simp only [vcU]
  simp only [List.length_cons] at hp hN
  refine ⟨fun h=> by simp only [List.length_cons] at h;omega,fun _=> ⟨⟨by omega,by simp only [List.length_cons];omega⟩,fun hb=> ?_,fun hb=> ⟨fun h1=> ?_,fun h1=> ?_⟩⟩⟩
  ·rw [show Z3b (y2,y3 ::l,y1,())=_ from rfl]
   simp only [Z3b,Z57 (show ¬Z1n y3 y2 from fun h=> by unfold Z1n at h;omega)]
   (repeat' (first | exact trivial | exact rfl | apply And.intro))
  ·have hf:Z1n y3 y2:=⟨hb.1,by omega,.inl h1⟩
   have hk:y4=y2.kids.getD y3.at_.toNat Tree.nil:=by rw [hy4,Zis y2 (by omega)]
   have hm:=Z23 y2 y3.at_.toNat
   rw [←hk] at hm
   refine ⟨by simp only [Z7v],⟨by omega,by simp only [List.length_cons];omega⟩,by simp only [Z5t];omega,by simp only [Zdo];omega,fun h2=> ?_,fun h2=> ?_⟩
   ·rw [hk] at h2 ⊢
    simp only [Z3b,Z2k hf h2]
    (repeat' (first | exact trivial | exact rfl | apply And.intro))
   ·have h2':¬((ZG JE y1 l y4).2=false∨(ZG JE y1 l y4).1.kind=0):=by rw [h2.1];rintro (h | h);cases h;exact h2.2 h
    rw [hk] at h2'
    rw [hy7,hk]
    simp only [Z3b,Z6o hf h2' h1.1]
    (repeat' (first | exact trivial | exact rfl | apply And.intro))
  ·refine ⟨by simp only [Z7u],fun h2=> ?_,fun h2=> ?_⟩
   ·have hf:Z1n y3 y2:=⟨hb.1,by omega,.inr h2⟩
    have hm:=Z23 y2 y3.at_.toNat
    rw [←hy5] at hm
    have h3:¬y2.kind=1:=by omega
    refine ⟨⟨by omega,h2.2⟩,⟨by omega,by simp only [List.length_cons];omega⟩,by simp only [Z5t];omega,by simp only [Zdo];omega,fun h4=> ?_,fun h4=> ?_⟩
    ·rw [hy5] at h4 ⊢
     simp only [Z3b,Z2k hf h4]
     (repeat' (first | exact trivial | exact rfl | apply And.intro))
    ·have h2':¬((ZG JE y1 l y6).2=false∨(ZG JE y1 l y6).1.kind=0):=by rw [h4.1];rintro (h | h);cases h;exact h4.2 h
     have k1:=Z42 y3.at_
     have k2:=Z42 (y2.kids.length - y3.at_ - 1)
     refine ⟨by simp only [ZaJ],by simp only [List.length_cons,List.length_nil];omega,by unfold InR;omega,by unfold InR;omega,by simp only [ZaJ],by simp only [List.length_append,List.length_cons,List.length_nil];omega,?_⟩
     rw [hy5] at h2'
     rw [hy8,hy5]
     simp only [Z3b,Z6p hf h2' h3,JE]
     (repeat' (first | exact trivial | exact rfl | apply And.intro))
   ·simp only [Z3b,Z57 (show ¬Z1n y3 y2 from fun h=> by unfold Z1n at h;omega)]
    (repeat' (first | exact trivial | exact rfl | apply And.intro))
end Go.AM.Ytpjenobkibfpcaa
namespace Go.AM.Ytpjenobkibfpcaa
open Go.AM Go.Proofs
noncomputable section
def ZlU:ArgL (Tree × List PStep × Edit × Unit):=(.cons (aEl .tree) (.cons (aSl .step) (.cons (aEl .edit) .nil)))
def Zgj(a:Tree × List PStep × Edit × Unit):Prop:=((Zg a.1≤1000000000∧rng a.1)∧(Ze a.2.2.1≤1000000000∧ZL a.2.2.1))∧(∀ s∈a.2.1,isI s.kind∧isI s.at_)∧(a.2.1).length≤70
def Zg9(a:Tree × List PStep × Edit × Unit):V U:= .tup [(true,(enc .edit ((Z4l JE a.2.2.1 a.2.1 a.1).1))),(false,[.bool ((Z4l JE a.2.2.1 a.2.1 a.1).2)])]
def Z8W:Fs U:=fs ZlU (fun a=> [Zgj a]) Zg9
def ZlS:ArgL (Edit × List PStep × Unit):=(.cons (aEl .edit) (.cons (aSl .step) .nil))
def Zd5(a:Edit × List PStep × Unit):Prop:=(Ze a.1≤1000000000∧ZL a.1∧∃ d,Z3 a.1 d=true)∧(a.2.1).length≤70
def ZcU(a:Edit × List PStep × Unit):V U:= .tup [(true,(enc .edit ((Z0d a.1 a.2.1).1))),(false,[sU .step ((Z0d a.1 a.2.1).2.1) .unk]),(false,[.bool ((Z0d a.1 a.2.1).2.2)])]
def Z32:Fs U:=fs ZlS (fun a=> [Zd5 a]) ZcU
def Zl9:List (FuncId × Fs U):=[(56,Z8M),(52,Z8P),(57,Z31)]
def Zqy:Zh U:=lvl [([1,3,5,6],[3,5,6]),([6,8,9],[6,8]),([6,8,23],[6,8]),([6,7],[6]),([6,7],[6])]
abbrev A17(p:List Nat):=AW (Z0 Zl9) Try.f17 Zqy p
theorem Zu3(t:Tree)(l:List PStep)(e:Edit)(Q:QT)(h:∀ y_1,y_1=e→∀ y_2,y_2=t→∀ y_3,y_3=((ZG JE y_1 l y_2).1)→let z0:= !((ZG JE y_1 l y_2).2);let z1:=bif z0 then true else (!(Z3 y_3 64));((Z5t (y_2,l,y_1,()))∧((Tr ((!z0)=true))∧((!z0)=true→Zgh (y_3,()))∧(Tr ((!z0)=true))∧(z0=false→(!z0)=true)∧((z1=true→(Q .ret (L2 [(6,.ptr (.loc 6) 0),(7,.c (.bool false))] [(.loc 6,zc1)])))∧(z1=false→(Z20 (y_3,()))∧(Q .ret (L2 [(6,.ptr (.loc 6) 0),(7,.c (.bool true))] [(.loc 6,(enc .edit (Yb y_3)))]))))))):
  A17 [] (L2 [(0,.agg (enc .tree t)),(1,.c (sU .step l .unk)),(2,.agg (enc .edit e))] []) Q:=
 Eq.mpr (by kernel_rfl) (h _ (Zm _) _ (Zb _) _ (Zm _))
def Zs0(t:Tree)(l:List PStep)(e:Edit):Prop:=AW (Z0 Zl9) Try.f17 Zqy [] (Zl (ZlU.can (t,l,e,())) []) (EQ Try.f17 (Zg9 (t,l,e,())) [])
theorem Zqh(c56:CT 56 Z8M)(c52:CT 52 Z8P)(c57:CT 57 Z31)(hb:∀ (t:Tree) (l:List PStep) (e:Edit) (_:Unit),Zgj (t,l,e,())→Zs0 t l e):CT 17 Z8W:=
 Z4 (l:=[(56,Z8M),(52,Z8P),(57,Z31)]) Zk rfl (⟨c56,c52,c57,trivial⟩) Zqy Try.func17 rfl rfl 3 (fun _=> rfl) (by decide) (fun ⟨t,l,e,_⟩=> hb t l e ())
def Zfd:List (FuncId × Fs U):=[(72,Z8I),(74,Z8G),(57,Z31)]
def ZnM:Zh U:=fun i=> match i with
 | 0=> ([(1,[]),(2,[]),(4,[])],[(.loc 2,[]),(.loc 4,[])])
 | 1=> ([(1,[]),(2,[]),(4,[]),(7,[])],[(.loc 2,[]),(.loc 4,[])])
 | 2=> ([(2,[]),(4,[]),(7,[.own .step]),(14,[]),(15,[]),(16,[])],[(.loc 2,[.any,.any,.unk .u64,.unk .tree,.any,.unk .u64,.unk .tree,.unk .wedit,.unk .kid,.any,.unk .op]),(.loc 4,[])])
 | 3=> ([(2,[]),(4,[]),(7,[]),(14,[]),(15,[]),(16,[]),(17,[])],[(.loc 2,[]),(.loc 4,[])])
 | 4=> ([(2,[]),(4,[]),(7,[]),(9,[]),(14,[]),(15,[]),(16,[])],[(.loc 2,[]),(.loc 4,[]),(.loc 9,[])])
 | 5=> ([(2,[]),(4,[]),(7,[]),(9,[]),(14,[]),(15,[]),(16,[]),(20,[])],[(.loc 2,[]),(.loc 4,[]),(.loc 9,[])])
 | 6=> ([(4,[]),(5,[]),(6,[])],[(.loc 4,[])])
 | 7=> ([(2,[]),(4,[]),(7,[]),(9,[]),(14,[]),(15,[]),(16,[]),(35,[])],[(.loc 2,[]),(.loc 4,[]),(.loc 9,[])])
 | 8=> ([(2,[]),(4,[]),(7,[]),(9,[]),(10,[]),(14,[]),(15,[]),(16,[])],[(.loc 2,[]),(.loc 4,[]),(.loc 9,[])])
 | 9=> ([(2,[]),(4,[]),(7,[]),(9,[]),(10,[]),(14,[]),(15,[]),(16,[]),(44,[])],[(.loc 2,[]),(.loc 4,[]),(.loc 9,[])])
 | 10=> ([(2,[]),(4,[]),(7,[]),(9,[]),(14,[]),(15,[]),(16,[])],[(.loc 2,[]),(.loc 4,[]),(.loc 9,[])])
 | 11=> ([(2,[]),(4,[]),(7,[]),(9,[]),(14,[]),(15,[]),(16,[])],[(.loc 2,[]),(.loc 4,[]),(.loc 9,[])])
 | 12=> ([(2,[]),(4,[]),(7,[]),(9,[]),(14,[]),(15,[]),(16,[]),(52,[])],[(.loc 2,[]),(.loc 4,[]),(.loc 9,[])])
 | 13=> ([(2,[]),(4,[]),(7,[]),(9,[]),(11,[]),(12,[]),(13,[]),(14,[]),(15,[]),(16,[])],[(.loc 2,[]),(.loc 4,[]),(.loc 9,[]),(.loc 11,[])])
 | 14=> ([(2,[]),(4,[]),(7,[]),(9,[]),(11,[]),(12,[]),(14,[]),(15,[]),(16,[]),(66,[])],[(.loc 2,[]),(.loc 4,[]),(.loc 9,[]),(.loc 11,[])])
 | 15=> ([(4,[]),(5,[]),(6,[])],[(.loc 4,[])])
 | 16=> ([(2,[]),(4,[]),(7,[]),(9,[]),(14,[]),(15,[]),(16,[])],[(.loc 2,[]),(.loc 4,[]),(.loc 9,[])])
 | 17=> ([(2,[]),(4,[]),(7,[]),(14,[]),(15,[]),(16,[])],[(.loc 2,[]),(.loc 4,[])])
 | 18=> ([(2,[]),(4,[]),(7,[.own .step]),(14,[]),(15,[]),(16,[])],[(.loc 2,[.any,.any,.unk .u64,.unk .tree,.any,.unk .u64,.unk .tree,.unk .wedit,.unk .kid,.any,.unk .op]),(.loc 4,[])])
 | 19=> ([(4,[]),(5,[]),(6,[])],[(.loc 4,[])])
 | _=> ([],[])
def Z1m(e:Edit)(l:List PStep)(x16 ml2_0 ml2_1 ml2_4 ml2_9:Int)(ml2_2:List Int)(ml2_3:List Tree)(ml2_5:List Int)(ml2_6:List Tree)(ml2_7:List WEdit)(ml2_8:List Kid)(ml2_10:List Op)(x7:List PStep):LSt U:=(L2 [(2,.ptr (.loc 2) 0),(4,.ptr (.loc 4) 0),(7,.c (sU .step x7 (.own (.e 7 0)))),(14,.c (sU .step l .unk)),(15,.c (ci (l.length:Int))),(16,.c (ci x16))] [(.loc 2,[ci ml2_0,ci ml2_1,sU .u64 ml2_2 .unk,sU .tree ml2_3 .unk,ci ml2_4,sU .u64 ml2_5 .unk,sU .tree ml2_6 .unk,sU .wedit ml2_7 .unk,sU .kid ml2_8 .unk,ci ml2_9,sU .op ml2_10 .unk]),(.loc 4,zc1)])
abbrev A27(p:List Nat):=AW (Z0 Zfd) Try.f27 ZnM p
abbrev S27(p:List Nat):=SW (Z0 Zfd) Try.f27 ZnM p
theorem Zu0(e:Edit)(l:List PStep)(Q:QT)(h:(Zj (A27 [1,1,0,1,0,0]) (Z1m e l 0 e.kind e.old.kind e.new.kind e.list e.old.words e.old.kids e.new.words e.new.kids e.words e.kids e.ops []) (xB 0 (S27 [1,1,1] Q)))):
  A27 [] (L2 [(0,.agg (enc .edit e)),(1,.c (sU .step l .unk))] []) Q:=
 Eq.mpr (by kernel_rfl) h
theorem ZmF(e:Edit)(l:List PStep)(x16 ml2_0 ml2_1 ml2_4 ml2_9:Int)(ml2_2:List Int)(ml2_3:List Tree)(ml2_5:List Int)(ml2_6:List Tree)(ml2_7:List WEdit)(ml2_8:List Kid)(ml2_10:List Op)(x7:List PStep)(N0:NT)(Q:QT)(h:∀ y_1,y_1=(l.getD x16.toNat (PStep.mk 0 0))→∀ y_2,y_2=(Edit.mk ml2_0 (Tree.mk ml2_1 ml2_2 ml2_3) (Tree.mk ml2_4 ml2_5 ml2_6) ml2_7 ml2_8 ml2_9 ml2_10)→∀ y_3,y_3=y_1→∀ y_4,y_4=(List.getD ml2_8 (Int.toNat (Z0i ml2_8 (PStep.at_ y_1) 0)) (KidOf.mk 0 Edit.nil))→let z8:=decide (x16 < (l.length:Int));let z5:=Z0i ml2_8 (PStep.at_ y_1) 0;let z4:=Q .ret (L2 [(4,.ptr (.loc 4) 0),(5,.c (.nils)),(6,.c (.bool false))] [(.loc 4,zc1)]);let z3:=((PStep.kind y_1):Int) !=0;let z2:=Yi ml2_10 (PStep.at_ y_1) 0 0;let z7:=PStep.mk (PStep.kind y_1) (z2.2.1);let z1:=OpOf.e (z2.1);let z0:=bif z3 then true else (decide (((PStep.at_ y_1):Int) < 0));let z6:=bif z0 then true else (ml2_0==1);((z8=true→((0:Int)≤x16∧x16 < (l.length:Int))∧((Tr ((!z3)=true))∧(Tr ((!z3)=true))∧(z3=false→(!z3)=true)∧(Tr ((!z0)=true))∧(Tr ((!z0)=true))∧(z0=false→(!z0)=true)∧((z6=true→z4)∧(z6=false→(((ml2_0==2)=true→(Zd2 (ml2_8,((PStep.kind y_1),(PStep.at_ y_1),()),()))∧(((decide ((z5:Int) < 0))=true→(((x7.length+([y_3]).length)*16≤140737488355328)∧((InR (x16+1))∧(N0 (Z1m e l (x16+1) 0 0 0 0 [] [] [] [] [] [] [] (x7++([y_3])))))))∧((decide ((z5:Int) < 0))=false→((0:Int)≤z5∧z5 < (ml2_8.length:Int))∧(((x7.length+([y_3]).length)*16≤140737488355328)∧((InR (x16+1))∧(N0 (Z1m e l (x16+1) y_4.e.kind y_4.e.old.kind y_4.e.new.kind y_4.e.list y_4.e.old.words y_4.e.old.kids y_4.e.new.words y_4.e.new.kids y_4.e.words y_4.e.kids y_4.e.ops (x7++([y_3])))))))))∧((ml2_0==2)=false→(((ml2_0==3)=true→(Zge (ml2_10,(PStep.at_ y_1),()))∧(((!(z2.2.2))=true→z4)∧((!(z2.2.2))=false→(((x7.length+([z7]).length)*16≤140737488355328)∧((InR (x16+1))∧(N0 (Z1m e l (x16+1) (Edit.kind z1) (Tree.kind (Edit.old z1)) (Tree.kind (Edit.new z1)) (Edit.list z1) (Tree.words (Edit.old z1)) (Tree.kids (Edit.old z1)) (Tree.words (Edit.new z1)) (Tree.kids (Edit.new z1)) (Edit.words z1) (Edit.kids z1) (Edit.ops z1) (x7++([z7])))))))))∧((ml2_0==3)=false→((x7.length+([y_3]).length)*16≤140737488355328)∧((InR (x16+1))∧(N0 (Z1m e l (x16+1) ml2_0 ml2_1 ml2_4 ml2_9 ml2_2 ml2_3 ml2_5 ml2_6 ml2_7 ml2_8 ml2_10 (x7++([y_3])))))))))))))∧(z8=false→(Z20 (y_2,()))∧(Q .ret (L2 [(4,.ptr (.loc 4) 0),(5,.c (sU .step x7 (.own (.e 5 0)))),(6,.c (.bool true))] [(.loc 4,(enc .edit (Yb y_2)))]))))):
  A27 [1,1,0,1,0,0] (Z1m e l x16 ml2_0 ml2_1 ml2_4 ml2_9 ml2_2 ml2_3 ml2_5 ml2_6 ml2_7 ml2_8 ml2_10 x7) (xT N0 (xB 0 (S27 [1,1,1] Q))):=
 Eq.mpr (by kernel_rfl) (h _ rfl _ rfl _ (Zi0 _) _ rfl)
def ZrX(e:Edit)(l:List PStep):Prop:=AW (Z0 Zfd) Try.f27 ZnM [] (Zl (ZlS.can (e,l,())) []) (EQ Try.f27 (ZcU (e,l,())) [])
theorem Zqf(c72:CT 72 Z8I)(c74:CT 74 Z8G)(c57:CT 57 Z31)(hb:∀ (e:Edit) (l:List PStep) (_:Unit),Zd5 (e,l,())→ZrX e l):CT 27 Z32:=
 Z4 (l:=[(72,Z8I),(74,Z8G),(57,Z31)]) Zk rfl (⟨c72,c74,c57,trivial⟩) ZnM Try.func27 rfl rfl 2 (fun _=> rfl) (by decide) (fun ⟨e,l,_⟩=> hb e l ())
end
end Go.AM.Ytpjenobkibfpcaa
namespace Go.AM.Ytpjenobkibfpcaa
open Go.AM Go.Proofs
theorem Z9G(n:Int):Zf (Z27 n)≤3:=by
 unfold Z27
 split
 ·simp [Zf]
 ·simp only [Zf,ZW,Za,JS];omega
theorem Zif(len i:Int)(x:Edit):(JE len i x).length+Zf (JE len i x)≤Ze x+9:=by
 have h1:=Z42 i
 have h2:=Z42 (len - i - 1)
 have h3:=Z9G i
 have h4:=Z9G (len - i - 1)
 simp only [JE,List.length_append,List.length_cons,List.length_nil,YQ,Zf,ZW,Za]
 omega
theorem Z9E{f:Int→Int→Edit→List Op}(hf:∀ (len i:Int) (x:Edit),0≤i→i < len→((f len i x).length+Zf (f len i x):Int)≤Ze x+4*len+9)(e:Edit):∀ (l:List PStep) (t:Tree),(Ze (ZG f e l t).1:Int)≤Ze e+4*Zg t+12*l.length
 | [],t=> by rw [ZG];simp only [List.length_nil];omega
 | s ::l,t=> by
  have ih:=Z9E hf e l (t.kids.getD s.at_.toNat Tree.nil)
  have he:=Z0O e
  have ht:=Z0e t
  by_cases h:Z1n s t
  ·by_cases h2:(ZG f e l (t.kids.getD s.at_.toNat Tree.nil)).2=false∨(ZG f e l (t.kids.getD s.at_.toNat Tree.nil)).1.kind=0
   ·rw [Z2k h h2];simp only [JS,List.length_cons];omega
   ·by_cases h3:t.kind=1
    ·have:=Z23 t s.at_.toNat
     rw [Z6o h h2 h3]
     simp only [Ze,Tree.nil,Zg,Za,ZK,Js,Zf,List.length_nil,List.length_cons] at ih this ⊢
     omega
    ·rw [Z6p h h2 h3]
     have hlt:s.at_ < t.kids.length:=by
      rcases h.2.2 with h4 | h4
      ·exact absurd h4.1 h3
      ·exact h4.2
     have h0:0≤s.at_:=h.2.1
     have hm:=hf t.kids.length s.at_ (ZG f e l (t.kids.getD s.at_.toNat Tree.nil)).1 h0 hlt
     have hk:Zg (t.kids.getD s.at_.toNat Tree.nil)+t.kids.length≤Zg t:=by
      have h5:=Zp (l:=t.kids) (i:=s.at_.toNat) (by omega) Tree.nil
      have h6:=Z6W t
      have h7:=massK_sum h5
      omega
     simp only [Ze,Tree.nil,Zg,Za,ZK,List.length_nil,List.length_cons] at ih hm hk ⊢
     omega
  ·rw [Z57 h];simp only [JS,List.length_cons];omega
where
 massK_sum:∀ {ks:List Tree} {k:Tree},k∈ks→Zg k+ks.length≤Za ks+1
  | a ::r,k,h=> by
   have h1:=Zr r
   have h2:=Z0e a
   rcases List.mem_cons.1 h with rfl | h
   ·simp only [Za,List.length_cons];omega
   ·have:=massK_sum h;simp only [Za,List.length_cons];omega
theorem Z07:ZL Edit.nil:=by simp [Edit.nil,ZL,Tree.nil,rng,ZO,Z1x,Z1w,isI]
theorem Zaz:∀ {l:List Op},(∀ o∈l,JI o)→Z1w l
 | [],_=> trivial
 | o ::r,h=> ⟨h o List.mem_cons_self,Zaz fun x hx=> h x (List.mem_cons_of_mem _ hx)⟩
theorem Zaw{n:Int}(h:isI n):∀ o∈Z27 n,JI o:=by
 unfold Z27
 split
 ·simp
 ·intro o ho
  simp only [List.mem_singleton] at ho
  subst ho
  exact ⟨by unfold isI;omega,h,trivial,Z07⟩
theorem Zav{f:Int→Int→Edit→List Op}(hf:∀ (len i:Int) (x:Edit),0≤i→i < len→len≤1000000000→ZL x→∀ o∈f len i x,JI o){e:Edit}(he:ZL e):∀ (l:List PStep) (t:Tree),Zg t≤1000000000→ZL (ZG f e l t).1
 | [],t,_=> by rw [ZG];exact he
 | s ::l,t,hm=> by
  have hk:=Z23 t s.at_.toNat
  have ih:=Zav hf he l (t.kids.getD s.at_.toNat Tree.nil) (by omega)
  by_cases h:Z1n s t
  ·by_cases h2:(ZG f e l (t.kids.getD s.at_.toNat Tree.nil)).2=false∨(ZG f e l (t.kids.getD s.at_.toNat Tree.nil)).1.kind=0
   ·rw [Z2k h h2];exact Z07
   ·have hlen:=Zr t.kids
    have hmk:=Z6W t
    have hn:rng Tree.nil:=by simp [Tree.nil,rng,ZO,isI]
    obtain ⟨f1,f2,f3⟩:=h
    by_cases h3:t.kind=1
    ·rw [Z6o ⟨f1,f2,f3⟩ h2 h3]
     exact ⟨by unfold isI;omega,hn,hn,by simp,by unfold isI;omega,⟨⟨by unfold isI;omega,ih⟩,trivial⟩,trivial⟩
    ·rw [Z6p ⟨f1,f2,f3⟩ h2 h3]
     exact ⟨by unfold isI;omega,hn,hn,by simp,by unfold isI;omega,trivial,Zaz (hf _ _ _ f2 (by omega) (by omega) ih)⟩
  ·rw [Z57 h];exact Z07
theorem Zjz(len i:Int)(x:Edit)(h0:0≤i)(h1:i < len)(h2:len≤1000000000)(hx:ZL x):∀ o∈JE len i x,JI o:=by
 intro o ho
 simp only [JE,List.mem_append,List.mem_singleton] at ho
 rcases ho with (ho | rfl) | ho
 ·exact Zaw (by unfold isI;omega) o ho
 ·exact ⟨by unfold isI;omega,by unfold isI;omega,trivial,hx⟩
 ·exact Zaw (by unfold isI;omega) o ho
theorem c17:Contract Try.prog cfg 17 Z8W:=by
 refine Zqh c56 c52 Zlt.1 ?_
 intro t l e _ hp
 simp only [Zgj] at hp
 obtain ⟨⟨⟨hm,hr⟩,hme,hre⟩,hs,hl⟩:=hp
 have m1:=Z9E (f:=JE) (fun len i x _ _=> by have:=Zif len i x;omega) e l t
 have r1:=Zav (f:=JE) Zjz hre l t hm
 refine Zu3 _ _ _ _ ?_
 rintro y1 rfl y2 rfl y3 hy3
 rw [←hy3] at m1 r1
 (simp only [vcT,vcS])
 try simp only [vcU]
 refine ⟨⟨hm,hl⟩,fun _=> ⟨by dsimp only;omega,r1⟩,fun h=> ?_,fun h=> ⟨⟨by dsimp only;omega,64,h.2⟩,?_⟩⟩
 ·have e:Z4l JE y1 l y2=(Edit.nil,false):=by
   rw [Z4l,if_neg]
   rw [←hy3]
   rintro ⟨a,b⟩
   rcases h with h | h
   ·rw [h] at a;cases a
   ·rw [h] at b;cases b
  simp only [Zg9,e]
  (repeat' (first | exact trivial | exact rfl | apply And.intro))
 ·have e:Z4l JE y1 l y2=(Yb y3,true):=by
   rw [hy3] at h ⊢
   rw [Z4l,if_pos h]
  simp only [Zg9,e]
  (repeat' (first | exact trivial | exact rfl | apply And.intro))
end Go.AM.Ytpjenobkibfpcaa
