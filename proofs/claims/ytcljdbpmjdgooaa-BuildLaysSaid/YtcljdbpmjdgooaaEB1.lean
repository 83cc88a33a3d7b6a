import Derived.Test.YtcljdbpmjdgooaaEmZ
import Derived.Test.YtcljdbpmjdgooaaChecked
import Derived.Test.YtcljdbpmjdgooaaRows
import Derived.Test.YtcljdbpmjdgooaaEmX
import Derived.ProofKit
import Derived.Test.YtcljdbpmjdgooaaEBD07
import Derived.Test.YtcljdbpmjdgooaaEmY
set_option linter.unusedSimpArgs false
set_option linter.unusedVariables false
namespace Go.AM.Ytcljdbpmjdgooaa
open Go.AM Go.Proofs
def el:Ty->TypeId
 | .u64=> 50
 | .u8=> 5
 | .int=> 3
 | .words=> 22
 | .tree=> 25
 | .ptr=> 89
 | .loc=> 124
 | .arena=> 71
 | .ref=> 81
 | .limits=> 45
 | .spot=> 55
def tb:Tables U:=
 {el:=el
  sl:=[(22,.u64),(23,.tree),(31,.words)]
  var:=[(2,false,[.int .i64 0]),
   (3,false,[.int .i64 0]),
   (4,false,[.bool false]),
   (5,false,[.int .u8 0]),
   (6,false,[.int .u8 0]),
   (7,true,[.int .i64 0,.int .i64 0,.bool false,.int .u8 0]),
   (8,true,[.int .i64 0,.int .i64 0,.bool false,.int .u8 0]),
   (12,false,[.int .u64 0]),
   (15,false,[.nilp]),
   (16,false,[.nilp]),
   (17,false,[.nilp]),
   (18,true,[.nilp]),
   (19,true,[.nilp]),
   (21,false,[.int .i32 0]),
   (22,false,[.nils]),
   (23,false,[.nils]),
   (24,true,[.int .i64 0,.nils,.nils]),
   (25,true,[.int .i64 0,.nils,.nils]),
   (28,false,[.nilp]),
   (31,false,[.nils]),
   (40,false,[.int .i64 0]),
   (44,true,[.int .i64 0,.int .i64 0,.int .i64 0,.int .i64 0]),
   (45,true,[.int .i64 0,.int .i64 0,.int .i64 0,.int .i64 0]),
   (50,false,[.int .u64 0]),
   (52,true,[.nilp]),
   (53,true,[.nilp]),
   (54,true,[.int .i64 0,.int .i64 0]),
   (55,true,[.int .i64 0,.int .i64 0]),
   (59,false,[.nilp]),
   (60,false,[.nilp]),
   (62,true,[.nilp,.bool false]),
   (63,true,[.nilp,.bool false]),
   (67,true,[.nils,.int .i64 0,.int .i64 0,.int .i64 0]),
   (68,true,[.nils,.int .i64 0,.int .i64 0,.int .i64 0]),
   (70,true,[.nils,.int .i64 0,.int .i64 0,.int .i64 0]),
   (71,true,[.nils,.int .i64 0,.int .i64 0,.int .i64 0]),
   (72,false,[.nilp]),
   (73,true,[.nils]),
   (74,true,[.nils]),
   (80,true,[.nilp,.int .i64 0,.int .i64 0,.int .i64 0,.int .i64 0,.int .i64 0,.int .i64 0,.int .u64 0]),
   (81,true,[.nilp,.int .i64 0,.int .i64 0,.int .i64 0,.int .i64 0,.int .i64 0,.int .i64 0,.int .u64 0]),
   (88,true,[.int .i64 0,.int .i64 0,.int .i64 0,.int .i64 0,.int .i64 0,.int .i64 0,.int .i64 0,.bool false]),
   (89,true,[.int .i64 0,.int .i64 0,.int .i64 0,.int .i64 0,.int .i64 0,.int .i64 0,.int .i64 0,.bool false]),
   (102,false,[.nilp]),
   (103,true,[.int .i64 0,.int .i64 0]),
   (104,true,[.int .i64 0,.int .i64 0]),
   (123,true,[.int .i64 0,.int .i64 0,.int .i64 0,.int .i64 0,.int .i64 0,.int .i64 0,.int .i64 0,.bool false,.int .i64 0,.int .i64 0]),
   (124,true,[.int .i64 0,.int .i64 0,.int .i64 0,.int .i64 0,.int .i64 0,.int .i64 0,.int .i64 0,.bool false,.int .i64 0,.int .i64 0]),
   (129,false,[.int .u64 0]),
   (132,true,[.int .i64 0,.int .i64 0,.int .i64 0,.int .i64 0,.int .i64 0,.int .i64 0]),
   (136,false,[.int .u32 0]),
   (140,true,[.int .i64 0,.int .i64 0,.int .i64 0,.int .i64 0,.int .i64 0,.int .i64 0,.int .i64 0]),
   (147,false,[.int .u8 0]),
   (148,false,[.int .u8 0]),
   (150,false,[.nilp]),
   (151,false,[.int .i32 0]),
   (152,false,[.int .i32 0])]
  fld:=[(7,0,0,2),(7,1,1,3),(7,2,2,4),(7,3,3,6),(8,0,0,2),(8,1,1,3),(8,2,2,4),(8,3,3,6),(18,0,0,17),(19,0,0,17),(24,0,0,3),(24,1,1,22),(24,2,2,23),(25,0,0,3),(25,1,1,22),(25,2,2,23),(44,0,0,3),(44,1,1,3),(44,2,2,3),(44,3,3,3),(45,0,0,3),(45,1,1,3),(45,2,2,3),(45,3,3,3),(52,0,0,28),(53,0,0,28),(54,0,0,3),(54,1,1,3),(55,0,0,3),(55,1,1,3),(62,0,0,60),(62,1,1,4),(63,0,0,60),(63,1,1,4),(67,0,0,31),(67,1,1,3),(67,2,2,3),(67,3,3,3),(68,0,0,31),(68,1,1,3),(68,2,2,3),(68,3,3,3),(70,0,0,31),(70,1,1,3),(70,2,2,3),(70,3,3,3),(71,0,0,31),(71,1,1,3),(71,2,2,3),(71,3,3,3),(73,0,0,22),(74,0,0,22),(80,0,0,28),(80,1,1,3),(80,2,2,3),(80,3,3,3),(80,4,4,3),(80,5,5,3),(80,6,6,3),(80,7,7,50),(81,0,0,28),(81,1,1,3),(81,2,2,3),(81,3,3,3),(81,4,4,3),(81,5,5,3),(81,6,6,3),(81,7,7,50),(88,0,0,3),(88,1,1,3),(88,2,2,3),(88,3,3,3),(88,4,4,3),(88,5,5,3),(88,6,6,3),(88,7,7,4),(89,0,0,3),(89,1,1,3),(89,2,2,3),(89,3,3,3),(89,4,4,3),(89,5,5,3),(89,6,6,3),(89,7,7,4),(103,0,0,3),(103,1,1,3),(104,0,0,3),(104,1,1,3),(123,0,0,89),(123,1,8,3),(123,2,9,3),(124,0,0,89),(124,1,8,3),(124,2,9,3)]
  arr:=[(132,6,3),(140,7,3)]
  eqs:=[7,8,44,45,54,55,88,89,103,104] }
def cfg:Cfg U:=tb.cfg K
theorem Zm3:tb.var.all (Zh8 Try.prog)=true:=by kernel_rfl
theorem ZnJ:tb.sl.all (fun x=> slB Try.prog tb.el x && (K.aT x.2).isNone)=true:=by kernel_rfl
theorem Zmu:tb.fld.all (ZkR Try.prog)=true:=by kernel_rfl
theorem Zmz:tb.arr.all (ZkX Try.prog)=true:=by kernel_rfl
theorem ZnM:∀ t,elB Try.prog K tb t=true:=by
 intro t
 cases t
 .kernel_rfl
 .kernel_rfl
 .kernel_rfl
 .kernel_rfl
 .kernel_rfl
 .kernel_rfl
 .kernel_rfl
 .kernel_rfl
 .kernel_rfl
 .kernel_rfl
 .kernel_rfl
theorem Zf:CfgOk Try.prog cfg:=ZcP ZnR Zm3 ZnJ Zmu Zmz ZnM (by kernel_rfl) (by kernel_rfl)
abbrev sU(T:Ty)(l:List (El T))(t:Tail):C U:= .slice (U:=U) T l t
noncomputable abbrev AW(K:Known U)(f:Func)(lv:Zc U)(p:List Nat):=awp cfg K (ZA cfg K) f.ntmps lv (cd f p)
noncomputable abbrev SW(K:Known U)(f:Func)(lv:Zc U)(p:List Nat):=Z6h cfg K (ZA cfg K) f.ntmps lv (cd f p)
abbrev EQ(f:Func):=YN cfg f.ntmps f.results.toList
abbrev QT:=AExit->LSt U->Prop
abbrev NT:=LSt U->Prop
abbrev CT(k:FuncId)(s:Fs U):Prop:=Contract Try.prog cfg k s
abbrev xB:=@AExit.inBlock U
abbrev xT:=@AExit.then U
abbrev ci(x:Int):C U:= .int .i64 x
abbrev L2(e:List (Nat × V U))(m:List (Name × List (C U))):LSt U:=⟨e,m,[]⟩
abbrev zb8(f:Int->Nat->Int)(x:Int):List (C U):=[.int .u8 (f x 0),.int .u8 (f x 1),.int .u8 (f x 2),.int .u8 (f x 3),.int .u8 (f x 4),.int .u8 (f x 5),.int .u8 (f x 6),.int .u8 (f x 7)]
abbrev zi8(l:List Int):List (C U):=l.map fun x=> .int .u8 x
abbrev FK (k : FuncId) : Prop := ∃ fn, Try.prog.funcs[k]? = some fn ∧ fn.body.isSome = true ∧ (fn.name == "runtime.NumGoroutine") = false
abbrev pL(n:Nat):Nat × V U:=(n,.ptr (.loc n) 0)
abbrev pB(n:Nat)(b:Bool):Nat × V U:=(n,.c (.bool b))
abbrev pI(n:Nat)(x:Int):Nat × V U:=(n,.c (.int .i64 x))
def lvl(l:List (List Nat × List Nat)):Zc U:=fun i=> ((l.getD i ([],[])).1.map fun k=> (k,[]),(l.getD i ([],[])).2.map fun k=> (.loc k,[]))
abbrev zc0:List (C U):=[.int .i64 0,.int .i64 0,.int .i64 0,.int .i64 0,.int .i64 0,.int .i64 0,.int .i64 0,.bool false]
end Go.AM.Ytcljdbpmjdgooaa
namespace Go.AM.Ytcljdbpmjdgooaa
open Go.AM Go.Proofs Go.Proofs.Ytcljdbpmjdgooaa Go.ChangeShapes Go.WideShapes Go.RowKit
theorem own:ownKnob Try.prog.godebug=none:=by kernel_rfl
theorem ZhI:laidOutB Try.prog=true:=by kernel_rfl
theorem ZcN:TreeTypes cfg:=⟨rfl,rfl,⟨_,rfl⟩,⟨_,rfl⟩,⟨_,rfl,rfl⟩,⟨_,_,rfl,rfl⟩,⟨_,_,rfl,rfl,rfl⟩,⟨_,_,rfl,rfl,rfl⟩⟩
theorem ZhW{H:Type}{henc:TypeId × Value->H}:ZgF henc Try.prog cfg (aEl .tree) 25 inT:=ZhX Zf rfl ⟨_,_,rfl⟩ (fun _ n cs h=> Zhl Zf ZcN n cs h)
theorem Zgm{H:Type}{henc:TypeId × Value->H}:ZgF henc Try.prog cfg (Zv .i64) 3 (fun z=> IntKind.min .i64<=z/\z<=IntKind.max .i64):=Zgl Zf (n0:=0) rfl
theorem inI{z:Int}(h:IntKind.min .i64<=z/\z<=IntKind.max .i64):InR z:=by
 have h1:IntKind.min .i64= -9223372036854775808:=rfl
 have h2:IntKind.max .i64=9223372036854775807:=rfl
 unfold InR
 omega
end Go.AM.Ytcljdbpmjdgooaa
namespace Go.AM
def pz:Ptr:=⟨0,0,0,0,0,0,0,false⟩
def Za1(w:Int):Int:=if 536870912<=w / 4 % 1073741824 then w / 4 % 1073741824 - 1073741824 else w / 4 % 1073741824
def Zh(w:Int):Ptr:=
 if w=0 then pz
 else if w % 4=0 then ⟨1,Za1 w,w / 4294967296 % 65536,w / 281474976710656,0,0,0,false⟩
 else if w % 4=1 then ⟨2,Za1 w,0,0,w / 4294967296 % 8,w / 34359738368,0,false⟩
 else if w % 4=2 then ⟨3,w / 8 % 536870912,0,0,0,0,w / 4294967296,decide (w / 4 % 2=1)⟩
 else ⟨4,0,0,0,0,0,0,false⟩
def Za(l:List (List Int))(s:Int):List Int:=if s < 0 then [] else l.getD s.toNat []
def Y2(l:List (List Int))(s a n:Int):Bool:=decide (0<=s/\s < (l.length:Int)/\0<=a/\0<=n/\a+n<=((Za l s).length:Int))
def ZnK(p:Ptr):Ptr:=⟨p.kind,0,p.data,p.ptrs,p.code,p.count,p.segment,p.double⟩
def Z7P(l:List (List Int)):Prop:=l.length<=5864062014805/\∀ w∈l,w.length<=17592186044416/\∀ x∈w,0<=x/\x < 18446744073709551616
theorem Z6D{l:List (List Int)}(h:Z7P l)(s:Int):(Za l s).length<=17592186044416/\∀ x∈Za l s,0<=x/\x < 18446744073709551616:=by
 unfold Za
 split
 .exact ⟨by simp,fun x hx=> by cases hx⟩
 .by_cases hs:s.toNat < l.length
  .rw [Q6,Q0 hs]
   exact h.2 _ (X6 hs)
  .rw [Q6,X3 (by omega)]
   exact ⟨by simp,fun x hx=> by cases hx⟩
theorem J3{w:List Int}(h:∀ x∈w,0<=x/\x < 18446744073709551616)(i:Nat):0<=w.getD i 0/\w.getD i 0 < 18446744073709551616:=by
 rw [Q6]
 by_cases hi:i < w.length
 .rw [Q0 hi];exact h _ (X6 hi)
 .rw [X3 (by omega)];decide
theorem Zb{l:List (List Int)}{s a n:Int}:Y2 l s a n=true↔0<=s/\s < (l.length:Int)/\0<=a/\0<=n/\a+n<=((Za l s).length:Int):=by simp [Y2]
theorem Z0B(c:Int):wd c= -1\/wd c=0\/wd c=1\/wd c=8\/wd c=16\/wd c=32\/wd c=64:=by
 unfold wd
 repeat' split
 all_goals simp
def okW(l:List Int):Prop:=∀ x∈l,0<=x/\x < 18446744073709551616
def YB(a:Option Arena):List (List Int):=match a with
 | none=> []
 | some x=> x.segs
def okB(a:Option Arena):Prop:=Z7P (YB a)
theorem Z8{n:Int}(h0:0<=n)(h1:n < 18446744073709551616):IntKind.wrap .u64 n=n:=by
 simp [IntKind.wrap,IntKind.signed,IntKind.bits];omega
theorem Jt{n:Int}(h0: -9223372036854775808<=n)(h1:n < 9223372036854775808):IntKind.wrap .i64 n=n:=by
 simp [IntKind.wrap,IntKind.signed,IntKind.bits]
 split <;> omega
theorem Zat{a:Int}(h0:0<=a)(h1:a < 18446744073709551616)(k:Nat)(hk:k<=64){m:Int}(hm:m=2 ^ k - 1):
  IntKind.wrap .u64 (BitVec.ofInt (IntKind.bits .u64) a &&& BitVec.ofInt (IntKind.bits .u64) m).toNat=a % 2 ^ k:=by
 obtain ⟨n,rfl⟩:=Qf h0
 subst hm
 have e1:BitVec.ofInt (IntKind.bits .u64) ((n:Nat):Int)=BitVec.ofNat 64 n:=by simp [IntKind.bits]
 have hpos:(0:Nat) < 2 ^ k:=Nat.two_pow_pos k
 have e2:((2:Int) ^ k - 1)=((2 ^ k - 1:Nat):Int):=by rw [Int.ofNat_sub hpos];simp
 rw [e1,e2]
 have e3:BitVec.ofInt (IntKind.bits .u64) ((2 ^ k - 1:Nat):Int)=BitVec.ofNat 64 (2 ^ k - 1):=by simp [IntKind.bits]
 rw [e3]
 have hle:2 ^ k<=2 ^ 64:=XP (by decide) hk
 have hn:n < 2 ^ 64:=by omega
 have e4:(BitVec.ofNat 64 n &&& BitVec.ofNat 64 (2 ^ k - 1)).toNat=n % 2 ^ k:=by
  rw [BitVec.toNat_and,XF,XF,X5 hn,X5 (by omega),Nat.and_two_pow_sub_one_eq_mod]
 show IntKind.wrap .u64 ((BitVec.ofNat 64 n &&& BitVec.ofNat 64 (2 ^ k - 1)).toNat:Int)=_
 rw [e4,Z8 (by omega) (by have:=Xu n hpos;omega)]
 simp
end Go.AM
namespace Go.AM.Ytcljdbpmjdgooaa
open Go.AM Go.Proofs
noncomputable section
def Zg0:ArgL (Int × Unit):=(.cons (Zv .i64) .nil)
def Z6w(a:Int × Unit):Prop:=True
def Zio(a:Int × Unit):V U:= .c (ci (wd a.1))
def JW:Fs U:=fs Zg0 (fun a=> [Z6w a]) Zio
def ZbI(a:Int × Unit):V U:= .tup [(false,[ci (if wd a.1 < 0 then 0 else wd a.1)]),(false,[.bool (decide (0<=wd a.1))])]
def JV:Fs U:=fs Zg0 (fun a=> [Z6w a]) ZbI
def Zcy:ArgL (Int × Unit):=(.cons (Zv .u64) .nil)
def Z4e(a:Int × Unit):Prop:=(0<=a.1/\a.1 < 18446744073709551616)
def Zei(a:Int × Unit):V U:= .agg (enc .ptr (Zh a.1))
def Z0d:Fs U:=fs Zcy (fun a=> [Z4e a]) Zei
def ZfQ:ArgL (Int × Int × Unit):=(.cons (Zv .i64) (.cons (Zv .i64) .nil))
def J2(a:Int × Int × Unit):Prop:=True
def Zif(a:Int × Int × Unit):V U:= .c (.bool (decide (0<=a.1/\a.1<=a.2.1)))
def Z1s:Fs U:=fs ZfQ (fun a=> [J2 a]) Zif
def Zff:List (FuncId × Fs U):=[]
def Zkt:Zc U:=lvl [([0],[]),([3],[]),([3,4],[]),([2],[]),([3,6],[]),([2],[]),([3,8],[]),([2],[]),([3,10],[]),([2],[]),([3,12],[]),([2],[]),([14],[]),([2],[]),([2],[])]
abbrev A80(p:List Nat):=AW (Z1 Zff) Try.f80 Zkt p
theorem ZmY(c:Int)(Q:QT)(h:(((c==0)=true->(Q .ret (L2 [pI 2 0] [])))/\((c==0)=false->(((c==1)=true->(Q .ret (L2 [pI 2 1] [])))/\((c==1)=false->(((c==2)=true->(Q .ret (L2 [pI 2 8] [])))/\((c==2)=false->(((c==3)=true->(Q .ret (L2 [pI 2 16] [])))/\((c==3)=false->(((c==4)=true->(Q .ret (L2 [pI 2 32] [])))/\((c==4)=false->(((c==5)=true->(Q .ret (L2 [pI 2 64] [])))/\((c==5)=false->(Q .ret (L2 [pI 2 (-1)] []))))))))))))))):
  A80 [] (L2 [pI 0 c] []) Q:=
 Eq.mpr (by kernel_rfl) h
def Zle(c:Int):Prop:=AW (Z1 Zff) Try.f80 Zkt [] (Zs (Zg0.can (c,())) []) (EQ Try.f80 (Zio (c,())) [])
theorem ZjD(hb:∀ (c:Int) (_:Unit),Z6w (c,())->Zle c):CT 80 JW:=
 Z3 (l:=[]) Zf rfl trivial Zkt Try.func80 rfl rfl 1 (fun _=> rfl) (by decide) (fun ⟨c,_⟩=> hb c ())
def Zkm:Zc U:=lvl [([0],[]),([0,4],[4]),([0,4,11],[4]),([2,3],[]),([2,3],[])]
abbrev A88(p:List Nat):=AW (Z1 Zff) Try.f88 Zkm p
theorem ZmQ(c:Int)(Q:QT)(h:let z0:=bif (decide (c < 0)) then true else (decide ((6:Int)<=c));((Tr ((!(decide (c < 0)))=true))/\((decide (c < 0))=false->(!(decide (c < 0)))=true)/\((z0=true->(Q .ret (L2 [pI 2 0,pB 3 false] [])))/\(z0=false->((0:Int)<=c/\c < ((6:Nat):Int))/\(Q .ret (L2 [pI 2 (List.getD [0,1,8,16,32,64] c.toNat 0),pB 3 true] [])))))):
  A88 [] (L2 [pI 0 c] []) Q:=
 Eq.mpr (by kernel_rfl) h
def Zl6(c:Int):Prop:=AW (Z1 Zff) Try.f88 Zkm [] (Zs (Zg0.can (c,())) []) (EQ Try.f88 (ZbI (c,())) [])
theorem Zjv(hb:∀ (c:Int) (_:Unit),Z6w (c,())->Zl6 c):CT 88 JV:=
 Z3 (l:=[]) Zf rfl trivial Zkm Try.func88 rfl rfl 1 (fun _=> rfl) (by decide) (fun ⟨c,_⟩=> hb c ())
def ZeU:Zc U:=lvl [([0,2],[2]),([0,2,3],[2]),([0,2,3,9],[2]),([2],[2]),([0,2,3,13],[2]),([2],[2]),([0,2,3,26],[2]),([2],[2]),([0,2,39],[2]),([2],[2]),([2],[2])]
abbrev ZnU(p:List Nat):=AW (Z1 Zff) Try.f101 ZeU p
theorem Zm1(w:Int)(Q:QT)(h:∀ y_1,y_1=(BitVec.ofInt (IntKind.bits .u64) w &&& BitVec.ofInt (IntKind.bits .u64) 3)->let z2:=Int.fdiv (IntKind.wrap .i64 (IntKind.wrap .i32 (IntKind.wrap .u32 w))) (2 ^ (min (Int.toNat 2) (IntKind.bits .i64)));let z1:=IntKind.wrap .u64 y_1.toNat;let z0:=IntKind.bits .u64;let z3:=Int.fdiv w (2 ^ (min (Int.toNat 32) z0));(((0:Int)<=2)/\(((w==0)=true->(Q .ret (L2 [pL 2] [(.loc 2,zc0)])))/\((w==0)=false->((((z1:Int)==0)=true->((0:Int)<=32)/\((0:Int)<=48)/\(Q .ret (L2 [pL 2] [(.loc 2,[ci 1,ci z2,ci (IntKind.wrap .i64 (IntKind.wrap .u64 (BitVec.ofInt z0 z3 &&& BitVec.ofInt z0 65535).toNat)),ci (IntKind.wrap .i64 (Int.fdiv w (2 ^ (min (Int.toNat 48) z0)))),ci 0,ci 0,ci 0,.bool false])])))/\(((z1:Int)==0)=false->((((z1:Int)==1)=true->((0:Int)<=32)/\((0:Int)<=35)/\(Q .ret (L2 [pL 2] [(.loc 2,[ci 2,ci z2,ci 0,ci 0,ci (IntKind.wrap .i64 (IntKind.wrap .u64 (BitVec.ofInt z0 z3 &&& BitVec.ofInt z0 7).toNat)),ci (IntKind.wrap .i64 (Int.fdiv w (2 ^ (min (Int.toNat 35) z0)))),ci 0,.bool false])])))/\(((z1:Int)==1)=false->((((z1:Int)==2)=true->((0:Int)<=3)/\((0:Int)<=32)/\(Q .ret (L2 [pL 2] [(.loc 2,[ci 3,ci (IntKind.wrap .i64 (IntKind.wrap .u64 (BitVec.ofInt z0 (Int.fdiv w (2 ^ (min (Int.toNat 3) z0))) &&& BitVec.ofInt z0 536870911).toNat)),ci 0,ci 0,ci 0,ci 0,ci (IntKind.wrap .i64 z3),.bool (((IntKind.wrap .u64 (BitVec.ofInt z0 w &&& BitVec.ofInt z0 4).toNat):Int) !=0)])])))/\(((z1:Int)==2)=false->(Q .ret (L2 [pL 2] [(.loc 2,[ci 4,ci 0,ci 0,ci 0,ci 0,ci 0,ci 0,.bool false])])))))))))))):
  ZnU [] (L2 [(0,.c (.int .u64 w))] []) Q:=
 Eq.mpr (by kernel_rfl) (h _ rfl)
def Zia(w:Int):Prop:=AW (Z1 Zff) Try.f101 ZeU [] (Zs (Zcy.can (w,())) []) (EQ Try.f101 (Zei (w,())) [])
theorem Zhu(hb:∀ (w:Int) (_:Unit),Z4e (w,())->Zia w):CT 101 Z0d:=
 Z3 (l:=[]) Zf rfl trivial ZeU Try.func101 rfl rfl 1 (fun _=> rfl) (by decide) (fun ⟨w,_⟩=> hb w ())
def Zkj:Zc U:=lvl [([0,1],[]),([4],[])]
abbrev A99(p:List Nat):=AW (Z1 Zff) Try.f99 Zkj p
theorem ZmM(n to:Int)(Q:QT)(h:let z0:=decide ((0:Int)<=n);((Tr (z0=true))/\(Tr (z0=true))/\(Tr (z0=true))/\(Q .ret (L2 [(4,.c (.bool (bif z0 then (decide (n<=to)) else false)))] [])))):
  A99 [] (L2 [pI 0 n,pI 1 to] []) Q:=
 Eq.mpr (by kernel_rfl) h
def Zl2(n to:Int):Prop:=AW (Z1 Zff) Try.f99 Zkj [] (Zs (ZfQ.can (n,to,())) []) (EQ Try.f99 (Zif (n,to,())) [])
theorem Zjr(hb:∀ (n:Int) (to:Int) (_:Unit),J2 (n,to,())->Zl2 n to):CT 99 Z1s:=
 Z3 (l:=[]) Zf rfl trivial Zkj Try.func99 rfl rfl 2 (fun _=> rfl) (by decide) (fun ⟨n,to,_⟩=> hb n to ())
end
theorem Zd{n k:Nat}{rs:List ResultVar}{b b':Bool}(hr:rs=[ResultVar.tmp k])(h:b=b'):YN cfg n rs (.c (.bool b')) [] .ret (⟨[(k,.c (.bool b))],[],[]⟩:LSt U):=by
 subst hr h
 have hk:Nat.beq k k=true:=Nat.beq_refl k
 simp [YN,Zl1,Z8a,Z89,Z6i,Z7,Z2X,Z45,LSt.toF,Z7a,hk,Z6y,Z0u,Ya,YC,leR,leL,leC,Zdx]
theorem ZJ{n k:Nat}{rs:List ResultVar}{K:IntKind}{b b':Int}(hr:rs=[ResultVar.tmp k])(h:b=b'):YN cfg n rs (.c (.int K b')) [] .ret (⟨[(k,.c (.int K b))],[],[]⟩:LSt U):=by
 subst hr h
 have hk:Nat.beq k k=true:=Nat.beq_refl k
 simp [YN,Zl1,Z8a,Z89,Z6i,Z7,Z2X,Z45,LSt.toF,Z7a,hk,Z6y,Z0u,Ya,YC,leR,leL,leC,Zdx]
theorem YE{n:Nat}{rs:List ResultVar}{r r':V U}{X:List (List (C U))}{e:AExit}{s:LSt U}(hr:r=r')(h:YN cfg n rs r' X e s):YN cfg n rs r X e s:=by rw [hr];exact h
theorem ZfK{α:Type}{l:List α}{i:Int}(h0:0<=i)(h:i < l.length)(d:α):l.drop i.toNat=l.getD i.toNat d ::l.drop (i+1).toNat:=by
 rw [show (i+1).toNat=i.toNat+1 by omega,Q6,Q0 (by omega)]
 exact Xd (by omega)
theorem Jy{α:Type}{l:List α}{i:Nat}(h:i < l.length)(d:α):l.getD i d∈l:=by
 rw [Q6,Q0 h]
 exact X6 h
theorem Zd4(k:Nat):(2:Int) ^ (k+1)=2 ^ k*2:=Int.pow_succ ..
theorem Jc(k:Nat):(0:Int) < 2 ^ k:=Int.pow_pos (by decide)
theorem c80:Contract Try.prog cfg 80 JW:=by
 refine ZjD ?_
 intro c _ _
 refine ZmY _ _ ?_
 (simp only [vcT,vcS])
 refine ⟨fun h=> ZJ rfl ?_,fun h=> ⟨fun h=> ZJ rfl ?_,fun h=> ⟨fun h=> ZJ rfl ?_,fun h=> ⟨fun h=> ZJ rfl ?_,fun h=> ⟨fun h=> ZJ rfl ?_,fun h=> ⟨fun h=> ZJ rfl ?_,fun h=> ZJ rfl ?_⟩⟩⟩⟩⟩⟩
 all_goals (simp only [wd];repeat' split) <;> omega
theorem ZgG{c:Int}(h0:0<=c)(h1:c < 6):List.getD [0,1,8,16,32,64] c.toNat 0=wd c/\0<=wd c:=by
 have:c=0\/c=1\/c=2\/c=3\/c=4\/c=5:=by omega
 rcases this with rfl | rfl | rfl | rfl | rfl | rfl <;> decide
theorem Zjd{c:Int}(h:c < 0\/6<=c):wd c= -1:=by
 unfold wd
 repeat' split
 all_goals omega
theorem c88:Contract Try.prog cfg 88 JV:=by
 refine Zjv ?_
 intro c _ _
 refine ZmQ _ _ ?_
 (simp only [vcT,vcS])
 refine ⟨fun h=> ?_,fun h=> ⟨by omega,?_⟩⟩
 .refine YE (r':= .tup [(false,[.int .i64 0]),(false,[.bool false])]) ?_ (by (repeat' (first | exact trivial | exact rfl | apply And.intro)))
  simp only [ZbI,Zjd h]
  try rfl
 .have hw:=ZgG (c:=c) (by omega) (by omega)
  refine YE (r':= .tup [(false,[.int .i64 (List.getD [0,1,8,16,32,64] (Int.toNat c) 0)]),(false,[.bool true])]) ?_ (by (repeat' (first | exact trivial | exact rfl | apply And.intro)))
  simp only [ZbI,hw.1]
  rw [if_neg (by omega),decide_eq_true hw.2]
theorem Z3U(c:Int):wd c < 1\/wd c=1\/wd c=8\/wd c=16\/wd c=32\/wd c=64:=by have:=Z0B c;omega
theorem Zic(c:Int): -1<=wd c/\wd c<=64:=by have:=Z0B c;omega
theorem ZdD{c i:Int}(hi:0<=i)(hi':i<=1099511627776)(hw:1<=wd c):0<=i*wd c/\i*wd c<=70368744177664/\i*wd c % 64+wd c<=64/\
  ∀ k,0<=k->k < wd c->(i*wd c+k) / 64=i*wd c / 64/\(i*wd c+k) % 64=i*wd c % 64+k:=by
 rcases Z3U c with e | e | e | e | e | e
 .omega
 all_goals (rw [e];refine ⟨by omega,by omega,by omega,fun k _ _=> ⟨by omega,by omega⟩⟩)
theorem Zhc{x:Int}{n:Int}(h0:0<=n)(h1:n<=64):Int.fdiv x (2 ^ (min n.toNat (IntKind.bits .u64)))=x / 2 ^ n.toNat:=by
 rw [show min n.toNat (IntKind.bits .u64)=n.toNat by simp [IntKind.bits];omega,Xy _ (Xt (Jc _))]
theorem ZnQ{w:Int}(h0:0<=w)(h1:w < 18446744073709551616):IntKind.wrap .u64 (BitVec.ofInt (IntKind.bits .u64) w &&& BitVec.ofInt (IntKind.bits .u64) 3).toNat=w % 4:=Zat h0 h1 2 (by decide) rfl
theorem ZnP{w:Int}(h0:0<=w)(h1:w < 18446744073709551616):(IntKind.wrap .u64 (BitVec.ofInt (IntKind.bits .u64) w &&& BitVec.ofInt (IntKind.bits .u64) 4).toNat !=0)=decide (w / 4 % 2=1):=by
 obtain ⟨n,rfl⟩:=Qf h0
 have e1:BitVec.ofInt (IntKind.bits .u64) ((n:Nat):Int)=BitVec.ofNat 64 n:=by simp [IntKind.bits]
 have e2:BitVec.ofInt (IntKind.bits .u64) (4:Int)=BitVec.ofNat 64 4:=rfl
 rw [e1,e2]
 have hn:n < 2 ^ 64:=by omega
 have e4:(BitVec.ofNat 64 n &&& BitVec.ofNat 64 4).toNat=n / 4 % 2*4:=by
  rw [BitVec.toNat_and,XF,XF,X5 hn]
  apply Nat.eq_of_testBit_eq
  intro k
  rw [Nat.testBit_and,show (4 % 2 ^ 64:Nat)=2 ^ 2 from rfl,Nat.testBit_two_pow]
  by_cases hk:2=k
  .subst hk
   rw [Nat.testBit_eq_decide_div_mod_eq]
   have:n / 4 % 2=0\/n / 4 % 2=1:=by omega
   rcases this with e | e <;> rw [show n / 2 ^ 2=n / 4 from rfl,e] <;> decide
  .have:n / 4 % 2=0\/n / 4 % 2=1:=by omega
   rcases this with e | e <;> rw [e]
   .simp [hk]
   .rw [show 1*4=2 ^ 2 from rfl,Nat.testBit_two_pow];simp [hk]
 show (IntKind.wrap .u64 ((BitVec.ofNat 64 n &&& BitVec.ofNat 64 4).toNat:Int) !=0)=_
 rw [e4,Z8 (by omega) (by omega)]
 rw [Qq]
 simp
 omega
theorem Zho{w:Int}(h0:0<=w)(h1:w < 18446744073709551616):Int.fdiv (IntKind.wrap .i64 (IntKind.wrap .i32 (IntKind.wrap .u32 w))) (2 ^ (min (Int.toNat 2) (IntKind.bits .i64)))=Za1 w:=by
 show Int.fdiv _ 4=_
 rw [Xy _ (by decide)]
 unfold Za1
 simp only [IntKind.wrap,IntKind.signed,IntKind.bits]
 simp
 repeat' split
 all_goals omega
theorem Zdl:Contract Try.prog cfg 101 Z0d:=by
 refine Zhu ?_
 intro w _ hp
 simp only [Z4e] at hp
 refine Zm1 _ _ ?_
 rintro y hy
 dsimp only at hy
 have h3:=ZnQ hp.1 hp.2
 rw [<-hy] at h3
 (simp only [vcT,vcS])
 rw [h3,Zho hp.1 hp.2,ZnP hp.1 hp.2]
 have hs:∀ (k:Nat),k<=64->Int.fdiv w (2 ^ (min (Int.toNat (k:Int)) (IntKind.bits .u64)))=w / 2 ^ k:=fun k hk=> Zhc (x:=w) (n:=(k:Int)) (by omega) (by omega)
 have s32:=hs 32 (by decide)
 have s48:=hs 48 (by decide)
 have s35:=hs 35 (by decide)
 have s3:=hs 3 (by decide)
 have m1:∀ x m:Int,0<=x->x < 18446744073709551616->∀ k:Nat,k<=32->m=2 ^ k - 1->IntKind.wrap .i64 (IntKind.wrap .u64 (BitVec.ofInt (IntKind.bits .u64) x &&& BitVec.ofInt (IntKind.bits .u64) m).toNat)=x % 2 ^ k:=by
  intro x m hx0 hx1 k hk hm
  rw [Zat hx0 hx1 k (by omega) hm]
  have hp':=Jc k
  have hle:(2:Int) ^ k<=4294967296:=by
   have:(2:Int) ^ k=((2 ^ k:Nat):Int):=by simp
   rw [this]
   have:=XP (n:=2) (show 0 < 2 by decide) hk
   omega
  have a1:=XE x (show (2:Int) ^ k≠0 by omega)
  have a2:=Xo x hp'
  exact Jt (by omega) (by omega)
 erw [s32,s48,s35,s3]
 rw [m1 _ 65535 (by omega) (by omega) 16 (by decide) rfl,m1 _ 7 (by omega) (by omega) 3 (by decide) rfl,m1 _ 536870911 (by omega) (by omega) 29 (by decide) rfl]
 rw [Jt (n:=w / 2 ^ 48) (by omega) (by omega),Jt (n:=w / 2 ^ 35) (by omega) (by omega),Jt (n:=w / 2 ^ 32) (by omega) (by omega)]
 refine ⟨by decide,fun h=> ?_,fun hz=> ⟨fun h=> ⟨by decide,by decide,?_⟩,fun h0=> ⟨fun h=> ⟨by decide,by decide,?_⟩,fun h1=> ⟨fun h=> ⟨by decide,by decide,?_⟩,fun h2=> ?_⟩⟩⟩⟩
 all_goals
  refine YE (r':= .agg (enc .ptr (Zh w))) rfl ?_
 .rw [show Zh w=pz by unfold Zh;rw [if_pos h]];(repeat' (first | exact trivial | exact rfl | apply And.intro))
 .rw [show Zh w=⟨1,Za1 w,w / 4294967296 % 65536,w / 281474976710656,0,0,0,false⟩ by unfold Zh;rw [if_neg hz,if_pos h]];(repeat' (first | exact trivial | exact rfl | apply And.intro))
 .rw [show Zh w=⟨2,Za1 w,0,0,w / 4294967296 % 8,w / 34359738368,0,false⟩ by unfold Zh;rw [if_neg hz,if_neg h0,if_pos h]];(repeat' (first | exact trivial | exact rfl | apply And.intro))
 .rw [show Zh w=⟨3,w / 8 % 536870912,0,0,0,0,w / 4294967296,decide (w / 4 % 2=1)⟩ by unfold Zh;rw [if_neg hz,if_neg h0,if_neg h1,if_pos h]];(repeat' (first | exact trivial | exact rfl | apply And.intro))
 .rw [show Zh w=⟨4,0,0,0,0,0,0,false⟩ by unfold Zh;rw [if_neg hz,if_neg h0,if_neg h1,if_neg h2]];(repeat' (first | exact trivial | exact rfl | apply And.intro))
theorem c99:Contract Try.prog cfg 99 Z1s:=by
 refine Zjr ?_
 intro n to _ _
 refine ZmM _ _ _ ?_
 (simp only [vcT,vcS])
 refine Zd rfl ?_
 rw [Qq]
 (simp only [vcT,vcS])
def ZU(c n:Int):Int:=if wd c < 1\/n < 0\/1099511627776 < n then 0 else (n*wd c+63) / 64
def Z49(c:Int)(l:List Int)(i n:Int):List Int:=
 if wd c < 1 then l else l.set (i*wd c / 64).toNat (l.getD (i*wd c / 64).toNat 0+n*2 ^ (i*wd c % 64).toNat)
def Z0g(c:Int):List Int->Int->List Int->List Int
 | l,_,[]=> l
 | l,i,n ::r=> Z0g c (Z49 c l i n) (i+1) r
def J0(c:Int)(ns:List Int):List Int:=Z0g c (List.replicate (ZU c ns.length).toNat 0) 0 ns
def YU(c:Int)(ns:List Int):Bool:=decide (0<=wd c) && ns.all (J7 c)
def ZF(c:Int)(ns:List Int):List Int:=if YU c ns then J0 c ns else []
theorem Z3q(c:Int):∀ (a b l:List Int) (i:Int),Z0g c l i (a++b)=Z0g c (Z0g c l i a) (i+a.length) b
 | [],b,l,i=> by simp [Z0g]
 | n ::r,b,l,i=> by
  simp only [Xi,Z0g]
  rw [Z3q c r b _ (i+1)]
  congr 1
  simp
  omega
theorem Zer(c:Int)(l:List Int)(i n:Int):(Z49 c l i n).length=l.length:=by
 unfold Z49
 split <;> simp
theorem Z7A(c:Int):∀ (a l:List Int) (i:Int),(Z0g c l i a).length=l.length
 | [],l,i=> rfl
 | n ::r,l,i=> by rw [Z0g,Z7A c r,Zer]
def Z1q(c:Int)(ns:List Int)(i:Int):List Int:=Z0g c (List.replicate (ZU c ns.length).toNat 0) 0 (ns.take i.toNat)
theorem Z4a(c:Int)(ns:List Int):Z1q c ns 0=List.replicate (ZU c ns.length).toNat 0:=by simp [Z1q,Z0g]
theorem Z4b(c:Int)(ns:List Int){i:Int}(h0:0<=i)(h:i < ns.length):Z1q c ns (i+1)=Z49 c (Z1q c ns i) i (ns.getD i.toNat 0):=by
 unfold Z1q
 have e:ns.take (i+1).toNat=ns.take i.toNat++[ns.getD i.toNat 0]:=by
  rw [show (i+1).toNat=i.toNat+1 by omega,Q6,Q0 (show i.toNat < ns.length by omega),QE]
  exact (Xg (by omega)).symm
 rw [e,Z3q]
 simp only [Z0g,Qc]
 congr 1
 omega
theorem Z3p(c:Int)(ns:List Int):Z1q c ns ns.length=J0 c ns:=by simp [Z1q,J0]
theorem Z1N(c:Int)(ns:List Int)(i:Int):(Z1q c ns i).length=(ZU c ns.length).toNat:=by simp [Z1q,Z7A]
theorem ZbH{c n i:Int}(hw:1<=wd c)(h0:0<=i)(h1:i < n)(h2:n<=1099511627776):i*wd c / 64 < ZU c n/\0<=i*wd c / 64:=by
 unfold ZU
 rw [if_neg (by omega)]
 rcases Z3U c with e | e | e | e | e | e
 .omega
 all_goals (rw [e];omega)
def Z3e(c i:Int)(q:Nat):Nat:=min 64 (i*wd c - 64*q).toNat
def Zdz(c:Int)(l:List Int)(i:Int):Prop:=∀ q:Nat,0<=l.getD q 0/\l.getD q 0 < 2 ^ Z3e c i q
theorem Z8d{c i:Int}(hw:1<=wd c)(h0:0<=i)(h2:i<=1099511627776):Z3e c i (i*wd c / 64).toNat=(i*wd c % 64).toNat/\Z3e c (i+1) (i*wd c / 64).toNat=(i*wd c % 64).toNat+(wd c).toNat:=by
 unfold Z3e
 rcases Z3U c with e | e | e | e | e | e
 .omega
 all_goals (rw [e];constructor <;> omega)
theorem ZcK(c i:Int)(q:Nat)(hw:1<=wd c):Z3e c i q<=Z3e c (i+1) q:=by
 unfold Z3e
 have:i*wd c<=(i+1)*wd c:=by rw [XL];omega
 omega
theorem JZ{a b:Nat}(h:a<=b):(2:Int) ^ a<=2 ^ b:=by
 have e:∀ k:Nat,(2:Int) ^ k=((2 ^ k:Nat):Int):=fun k=> by simp
 rw [e,e]
 exact Int.ofNat_le.2 (XP (by decide) h)
theorem Z8z{x n:Int}{a w:Nat}(hx:0<=x)(hx':x < 2 ^ a)(hn:0<=n)(hn':n < 2 ^ w):0<=x+n*2 ^ a/\x+n*2 ^ a < 2 ^ (a+w)/\0<=n*2 ^ a:=by
 have hp:=Jc a
 have h1:0<=n*2 ^ a:=QS hn (Xt hp)
 have h2:(n+1)*2 ^ a<=2 ^ w*2 ^ a:=Xn (by omega) (Xt hp)
 rw [XL,XX] at h2
 rw [Int.pow_add,Int.mul_comm (2 ^ a)]
 omega
theorem Z8U{c n:Int}(h:J7 c n=true):0<=wd c/\n < 2 ^ (wd c).toNat:=by
 unfold J7 at h
 exact of_decide_eq_true h
theorem Zd0{c:Int}{l:List Int}{i n:Int}(hw:1<=wd c)(h0:0<=i)(h2:i<=1099511627776)(hn:0<=n)(hf:J7 c n=true)(h:Zdz c l i):Zdz c (Z49 c l i n) (i+1):=by
 intro q
 unfold Z49
 rw [if_neg (by omega)]
 have hu:=Z8d hw h0 h2
 rw [Q6,Xq]
 by_cases hq:(i*wd c / 64).toNat=q
 .subst hq
  rw [if_pos rfl]
  have hq:=h (i*wd c / 64).toNat
  rw [hu.1] at hq
  have:=Z8z hq.1 hq.2 hn (Z8U hf).2
  by_cases hl:(i*wd c / 64).toNat < l.length
  .rw [if_pos hl,hu.2]
   simp only [QE]
   omega
  .rw [if_neg hl]
   simp only [Option.getD_none]
   exact ⟨by decide,Jc _⟩
 .rw [if_neg hq,<-Q6]
  have hm:=JZ (ZcK c i q hw)
  have:=h q
  omega
theorem ZcZ(c:Int)(k:Nat):Zdz c (List.replicate k 0) 0:=by
 intro q
 have:(List.replicate k (0:Int)).getD q 0=0:=by
  rw [Q6,List.getElem?_replicate]
  split <;> rfl
 rw [this]
 exact ⟨by decide,Jc _⟩
theorem Z80{c:Int}{ns:List Int}(h:YU c ns=true){i:Nat}(hi:i < ns.length):J7 c (ns.getD i 0)=true:=by
 unfold YU at h
 rw [Q2,Q9] at h
 rw [Q6,Q0 hi]
 exact h.2 _ (X6 hi)
theorem Z9S{c:Int}{ns:List Int}(hw:1<=wd c)(hn:okW ns)(hl:(ns.length:Int)<=1099511627776):∀ (k:Nat),k<=ns.length->(∀ j,j < k->J7 c (ns.getD j 0)=true)->Zdz c (Z1q c ns k) k:=by
 intro k
 induction k with
 | zero=> intro _ _;rw [show ((0:Nat):Int)=0 from rfl,Z4a];exact ZcZ c _
 | succ k ih=>
  intro hk hf
  rw [show ((k+1:Nat):Int)=(k:Int)+1 by omega,Z4b c ns (by omega) (by omega)]
  have:=hf k (by omega)
  exact Zd0 hw (by omega) (by omega) (J3 hn _).1 (by simpa using this) (ih (by omega) fun j hj=> hf j (by omega))
theorem Zes{c:Int}{l:List Int}{i:Int}(h:Zdz c l i):okW l:=by
 intro x hx
 obtain ⟨q,hq,rfl⟩:=QO hx
 have:=h q
 rw [Q6,Q0 hq,QE] at this
 have hp:=JZ (show Z3e c i q<=64 by unfold Z3e;omega)
 have h64:(2:Int) ^ 64=18446744073709551616:=rfl
 omega
theorem Zeq{c:Int}{ns:List Int}(hn:okW ns)(hl:(ns.length:Int)<=1099511627776)(hf:YU c ns=true):okW (J0 c ns):=by
 by_cases hw:1<=wd c
 .rw [<-Z3p]
  exact Zes (Z9S hw hn hl ns.length (Qn _) fun j hj=> Z80 hf hj)
 .have:J0 c ns=List.replicate (ZU c ns.length).toNat 0:=by
   unfold J0
   have:∀ (a l:List Int) (i:Int),Z0g c l i a=l:=by
    intro a
    induction a with
    | nil=> intro l i;rfl
    | cons n r ih=> intro l i;rw [Z0g,ih];unfold Z49;rw [if_pos (by omega)]
   exact this _ _ _
  rw [this]
  intro x hx
  have:=(XZ.1 hx).2
  omega
theorem Z9P(c:Int)(ns:List Int):(J0 c ns).length=(ZU c ns.length).toNat:=by rw [<-Z3p,Z1N]
noncomputable section
def Zcx:ArgL (Option Arena × Unit):=(.cons (aPo .arena) .nil)
def Z4d(a:Option Arena × Unit):Prop:=okB a.1
def Zeh(a:Option Arena × Unit):V U:= .c (ci ((YB a.1).length:Int))
def J9:Fs U:=fs Zcx (fun a=> [Z4d a]) Zeh
def ZfS:ArgL (Option Arena × Int × Unit):=(.cons (aPo .arena) (.cons (Zv .i64) .nil))
def ZbW(a:Option Arena × Int × Unit):Prop:=okB a.1
def Zih(a:Option Arena × Int × Unit):V U:= .c (ci ((Za (YB a.1) a.2.1).length:Int))
def Z1u:Fs U:=fs ZfS (fun a=> [ZbW a]) Zih
def Zcw:ArgL (Option Arena × Int × Int × Int × Unit):=(.cons (aPo .arena) (.cons (Zv .i64) (.cons (Zv .i64) (.cons (Zv .i64) .nil))))
def Z8D(a:Option Arena × Int × Int × Int × Unit):Prop:=okB a.1
def Zeg(a:Option Arena × Int × Int × Int × Unit):V U:= .c (.bool (Y2 (YB a.1) a.2.1 a.2.2.1 a.2.2.2.1))
def Z3i:Fs U:=fs Zcw (fun a=> [Z8D a]) Zeg
def Zgc:ArgL (List Int × Unit):=(.cons (aSl .u64) .nil)
def Z7L(a:List Int × Unit):Prop:=a.1.length<=17592186044416
def ZiC(a:List Int × Unit):V U:= .c (sU .u64 a.1 .unk)
def Z1C:Fs U:=fs Zgc (fun a=> [Z7L a]) ZiC
def Zgi:ArgL (List (List Int) × Unit):=(.cons (aSl .words) .nil)
def Zcb(a:List (List Int) × Unit):Prop:=Z7P a.1
def ZiH(a:List (List Int) × Unit):V U:= .c (.po (U:=U) .arena (some (Arena.mk a.1 0 0 0)))
def Z6c:Fs U:=fs Zgi (fun a=> [Zcb a]) ZiH
def ZiI(a:Option Arena × Unit):V U:= .c (sU .words (YB a.1) .unk)
def Z1E:Fs U:=fs Zcx (fun a=> [Z4d a]) ZiI
def ZeT:Zc U:=lvl [([0],[]),([0,4],[]),([2],[]),([2],[])]
abbrev ZnT(p:List Nat):=AW (Z1 Zff) Try.f102 ZeT p
theorem Zm0(a:Option Arena)(Q:QT)(h:(((Option.isNone a)=true->(Q .ret (L2 [pI 2 0] [])))/\((Option.isNone a)=false->(Option.isSome a=true)/\(Option.isSome a=true)/\(Q .ret (L2 [(2,.c (ci ((Arena.segs (Option.getD a (Arena.mk [] 0 0 0))).length:Int)))] []))))):
  ZnT [] (L2 [(0,.c (.po (U:=U) .arena a))] []) Q:=
 Eq.mpr (by kernel_rfl) h
def Zi9(a:Option Arena):Prop:=AW (Z1 Zff) Try.f102 ZeT [] (Zs (Zcx.can (a,())) []) (EQ Try.f102 (Zeh (a,())) [])
theorem Zht(hb:∀ (a:Option Arena) (_:Unit),Z4d (a,())->Zi9 a):CT 102 J9:=
 Z3 (l:=[]) Zf rfl trivial ZeT Try.func102 rfl rfl 1 (fun _=> rfl) (by decide) (fun ⟨a,_⟩=> hb a ())
def Zf7:List (FuncId × Fs U):=[(102,J9)]
def Zkl:Zc U:=lvl [([0,1],[]),([0,1,12],[]),([4],[]),([4],[])]
abbrev A97(p:List Nat):=AW (Z1 Zf7) Try.f97 Zkl p
theorem ZmO(a:Option Arena)(s:Int)(Q:QT)(h:let z2:=Arena.segs (Option.getD a (Arena.mk [] 0 0 0));let z1:= !(decide (s < 0));let z0:=bif (decide (s < 0)) then true else (decide ((((YB a).length:Int):Int)<=s));((Tr (z1=true))/\(z1=true->Z4d (a,()))/\(Tr (z1=true))/\(Tr (z1=true))/\((decide (s < 0))=false->z1=true)/\((z0=true->(Q .ret (L2 [pI 4 0] [])))/\(z0=false->(Option.isSome a=true)/\(Option.isSome a=true)/\((0:Int)<=s/\s < (z2.length:Int))/\(Q .ret (L2 [(4,.c (ci ((List.getD z2 s.toNat ([]:List Int)).length:Int)))] [])))))):
  A97 [] (L2 [(0,.c (.po (U:=U) .arena a)),pI 1 s] []) Q:=
 Eq.mpr (by kernel_rfl) h
def Zl4(a:Option Arena)(s:Int):Prop:=AW (Z1 Zf7) Try.f97 Zkl [] (Zs (ZfS.can (a,s,())) []) (EQ Try.f97 (Zih (a,s,())) [])
theorem Zjt(Z8Y:CT 102 J9)(hb:∀ (a:Option Arena) (s:Int) (_:Unit),ZbW (a,s,())->Zl4 a s):CT 97 Z1u:=
 Z3 (l:=[(102,J9)]) Zf rfl (⟨Z8Y,trivial⟩) Zkl Try.func97 rfl rfl 2 (fun _=> rfl) (by decide) (fun ⟨a,s,_⟩=> hb a s ())
def Zcj:List (FuncId × Fs U):=[(102,J9),(97,Z1u)]
def ZeS:Zc U:=lvl [([0,1,2,3],[]),([0,1,2,3,9],[]),([8],[])]
abbrev ZnS(p:List Nat):=AW (Z1 Zcj) Try.f103 ZeS p
theorem ZlZ(a:Option Arena)(s at_ n:Int)(Q:QT)(h:let z5:=Za (YB a) s;let z3:=decide ((0:Int)<=s);let z2:=bif z3 then (decide (s < ((YB a).length:Int))) else false;let z4:=bif z2 then (decide ((0:Int)<=at_)) else false;let z0:=bif z4 then (decide ((0:Int)<=n)) else false;let z1:=bif z0 then (decide (n<=(z5.length:Int))) else false;((ZbW (a,s,()))/\((Tr (z3=true))/\(z3=true->Z4d (a,()))/\(Tr (z3=true))/\(Tr (z3=true))/\(Tr (z3=true))/\(Tr (z2=true))/\(Tr (z2=true))/\(Tr (z4=true))/\(Tr (z4=true))/\(Tr (z0=true))/\(Tr (z0=true))/\(Tr (z0=true))/\(Tr (z1=true))/\(Tr (z1=true))/\(z1=true->InR (((z5.length:Int):Int) - n))/\(Tr (z1=true))/\(Tr (z1=true))/\(Tr (z1=true))/\(Q .ret (L2 [(8,.c (.bool (bif z1 then (decide (at_<=(((z5.length:Int):Int) - n))) else false)))] []))))):
  ZnS [] (L2 [(0,.c (.po (U:=U) .arena a)),pI 1 s,pI 2 at_,pI 3 n] []) Q:=
 Eq.mpr (by kernel_rfl) h
def Zi8(a:Option Arena)(s at_ n:Int):Prop:=AW (Z1 Zcj) Try.f103 ZeS [] (Zs (Zcw.can (a,s,at_,n,())) []) (EQ Try.f103 (Zeg (a,s,at_,n,())) [])
theorem Zhs(Z8Y:CT 102 J9)(c97:CT 97 Z1u)(hb:∀ (a:Option Arena) (s:Int) (at_:Int) (n:Int) (_:Unit),Z8D (a,s,at_,n,())->Zi8 a s at_ n):CT 103 Z3i:=
 Z3 (l:=[(102,J9),(97,Z1u)]) Zf rfl (⟨Z8Y,c97,trivial⟩) ZeS Try.func103 rfl rfl 4 (fun _=> rfl) (by decide) (fun ⟨a,s,at_,n,_⟩=> hb a s at_ n ())
abbrev A37(p:List Nat):=AW (Z1 Zff) Try.f37 ZeT p
theorem Zns(l:List Int)(Q:QT)(h:(((l=[])->(Q .ret (L2 [(2,.c (.nils))] [])))/\(True->((([]:List Int).length+l.length)*8<=140737488355328)/\(Q .ret (L2 [(2,.c (sU .u64 (([]:List Int)++l) (.own (.e 2 0))))] []))))):
  A37 [] (L2 [(0,.c (sU .u64 l .unk))] []) Q:=
 Eq.mpr (by kernel_rfl) h
def ZlI(l:List Int):Prop:=AW (Z1 Zff) Try.f37 ZeT [] (Zs (Zgc.can (l,())) []) (EQ Try.f37 (ZiC (l,())) [])
theorem Zk4(hb:∀ (l:List Int) (_:Unit),Z7L (l,())->ZlI l):CT 37 Z1C:=
 Z3 (l:=[]) Zf rfl trivial ZeT Try.func37 rfl rfl 1 (fun _=> rfl) (by decide) (fun ⟨l,_⟩=> hb l ())
def Zbd:List (FuncId × Fs U):=[(37,Z1C)]
def ZhG:Zc U:=fun i=> match i with
 | 0=> ([(0,[])],[])
 | 1=> ([(0,[]),(3,[])],[(.loc 7,[])])
 | 2=> ([(3,[]),(8,[]),(9,[]),(10,[])],[(.loc 7,[.own .words])])
 | 3=> ([(3,[]),(8,[]),(9,[]),(10,[]),(11,[])],[(.loc 7,[])])
 | 4=> ([(3,[]),(5,[]),(8,[]),(9,[]),(10,[])],[(.loc 7,[])])
 | 5=> ([(3,[]),(8,[]),(9,[]),(10,[])],[(.loc 7,[])])
 | 6=> ([(3,[]),(8,[]),(9,[]),(10,[])],[(.loc 7,[.own .words])])
 | 7=> ([(2,[.pt .arena])],[(.loc 7,[])])
 | _=> ([],[])
def Z3I(l:List (List Int))(x10:Int)(ml7_0:List (List Int)):LSt U:=(L2 [(3,.ptr (.loc 7) 0),(8,.c (sU .words l .unk)),pI 9 (l.length:Int),pI 10 x10] [(.loc 7,[sU .words ml7_0 (.own (.l 7 0)),ci 0,ci 0,ci 0])])
abbrev A15(p:List Nat):=AW (Z1 Zbd) Try.f15 ZhG p
abbrev S15(p:List Nat):=SW (Z1 Zbd) Try.f15 ZhG p
theorem ZnF(l:List (List Int))(Q:QT)(h:(Zo (A15 [1,1,0,1,0,0]) (Z3I l 0 []) (xB 0 (S15 [1,1,1] Q)))):
  A15 [] (L2 [(0,.c (sU .words l .unk))] []) Q:=
 Eq.mpr (by kernel_rfl) h
theorem Zh5(l:List (List Int))(x10:Int)(ml7_0:List (List Int))(N0:NT)(Q:QT)(h:let z1:=decide (x10 < (l.length:Int));let z0:=l.getD x10.toNat ([]:List Int);((z1=true->((0:Int)<=x10/\x10 < (l.length:Int))/\((Z7L (z0,()))/\((ml7_0.length+([z0]).length)*24<=140737488355328)/\((InR (x10+1))/\(N0 (Z3I l (x10+1) (ml7_0++([z0])))))))/\(z1=false->(Q .ret (L2 [(2,.c (.po (U:=U) .arena (some (Arena.mk ml7_0 0 0 0))))] []))))):
  A15 [1,1,0,1,0,0] (Z3I l x10 ml7_0) (xT N0 (xB 0 (S15 [1,1,1] Q))):=
 Eq.mpr (by kernel_rfl) h
def ZlV(l:List (List Int)):Prop:=AW (Z1 Zbd) Try.f15 ZhG [] (Zs (Zgi.can (l,())) []) (EQ Try.f15 (ZiH (l,())) [])
theorem Zkf(c37:CT 37 Z1C)(hb:∀ (l:List (List Int)) (_:Unit),Zcb (l,())->ZlV l):CT 15 Z6c:=
 Z3 (l:=[(37,Z1C)]) Zf rfl (⟨c37,trivial⟩) ZhG Try.func15 rfl rfl 1 (fun _=> rfl) (by decide) (fun ⟨l,_⟩=> hb l ())
def ZfA:List (FuncId × Fs U):=[(15,Z6c)]
abbrev A11(p:List Nat):=AW (Z1 ZfA) Try.f11 ZeT p
theorem ZnH(a:Option Arena)(Q:QT)(h:let z1:=Arena.segs (Option.getD a (Arena.mk [] 0 0 0));let z0:=some (Arena.mk z1 0 0 0);(((Option.isNone a)=true->(Q .ret (L2 [(2,.c (.nils))] [])))/\((Option.isNone a)=false->(Option.isSome a=true)/\(Option.isSome a=true)/\(Zcb (z1,()))/\(Option.isSome z0=true)/\(Option.isSome z0=true)/\(Q .ret (L2 [(2,.c (sU .words (Arena.segs (Option.getD z0 (Arena.mk [] 0 0 0))) .unk))] []))))):
  A11 [] (L2 [(0,.c (.po (U:=U) .arena a))] []) Q:=
 Eq.mpr (by kernel_rfl) h
def ZlX(a:Option Arena):Prop:=AW (Z1 ZfA) Try.f11 ZeT [] (Zs (Zcx.can (a,())) []) (EQ Try.f11 (ZiI (a,())) [])
theorem Zkh(c15:CT 15 Z6c)(hb:∀ (a:Option Arena) (_:Unit),Z4d (a,())->ZlX a):CT 11 Z1E:=
 Z3 (l:=[(15,Z6c)]) Zf rfl (⟨c15,trivial⟩) ZeT Try.func11 rfl rfl 1 (fun _=> rfl) (by decide) (fun ⟨a,_⟩=> hb a ())
end
theorem Z43{a:Option Arena}(h:a.isSome=true):(a.getD (Arena.mk [] 0 0 0)).segs=YB a:=by
 cases a with
 | none=> cases h
 | some x=> rfl
theorem Z8Y:Contract Try.prog cfg 102 J9:=by
 refine Zht ?_
 intro a _ hp
 refine Zm0 _ _ ?_
 (simp only [vcT,vcS])
 refine ⟨fun h=> ZJ rfl ?_,fun h=> ?_⟩
 .show (0:Int)=((YB a).length:Int)
  cases a with
  | none=> rfl
  | some x=> cases h
 .have hs:a.isSome=true:=by
   cases a with
   | none=> cases h
   | some x=> rfl
  refine ⟨hs,hs,ZJ rfl ?_⟩
  rw [Z43 hs]
theorem Z9z{a:Option Arena}{s:Int}(h0:0<=s)(h:s < ((YB a).length:Int)):a.isSome=true:=by
 cases a with
 | none=> simp [YB] at h;omega
 | some x=> rfl
theorem ZdO{l:List (List Int)}{s:Int}(h:0<=s):Za l s=l.getD s.toNat []:=by unfold Za;rw [if_neg (by omega)]
theorem ZcS{l:List (List Int)}{s:Int}(h:s < 0\/(l.length:Int)<=s):Za l s=[]:=by
 unfold Za
 split
 .try rfl
 .rw [Q6,X3 (by omega)];try rfl
theorem c97:Contract Try.prog cfg 97 Z1u:=by
 refine Zjt Z8Y ?_
 intro a s _ hp
 refine ZmO _ _ _ ?_
 (simp only [vcT,vcS])
 refine ⟨fun _=> hp,fun h=> ZJ rfl ?_,fun h=> ?_⟩
 .show (0:Int)=((Za (YB a) s).length:Int)
  rw [ZcS h];try rfl
 .have hs:=Z9z (a:=a) (s:=s) (by omega) (by omega)
  rw [Z43 hs]
  refine ⟨hs,hs,by omega,ZJ rfl ?_⟩
  show _=((Za (YB a) s).length:Int)
  rw [ZdO (by omega)]
theorem ZkU:Contract Try.prog cfg 103 Z3i:=by
 refine Zhs Z8Y c97 ?_
 intro a s x n _ hp
 refine ZlZ _ _ _ _ _ ?_
 have hl:=(Z6D hp s).1
 (simp only [vcT,vcS])
 refine ⟨hp,fun _=> hp,fun h=> by dsimp only at hl;((unfold InR;omega)),Zd rfl ?_⟩
 rw [Qq]
 show _↔Y2 (YB a) s x n=true
 rw [Zb]
 (simp only [vcT,vcS])
 omega
theorem c37:Contract Try.prog cfg 37 Z1C:=by
 refine Zk4 ?_
 intro l _ hp
 simp only [Z7L] at hp
 refine Zns _ _ ?_
 (simp only [vcT,vcS])
 refine ⟨fun h=> ?_,by simp;omega,?_⟩
 .subst h;(repeat' (first | exact trivial | exact rfl | apply And.intro))
 .rw [List.nil_append];(repeat' (first | exact trivial | exact rfl | apply And.intro))
theorem c15:Contract Try.prog cfg 15 Z6c:=by
 refine Zkf c37 ?_
 intro l _ hp
 simp only [Zcb] at hp
 have hl:=hp.1
 refine ZnF _ _ ?_
 refine Zj (ι:=Int × List (List Int)) (fun p=> Z3I l p.1 p.2) (fun p=> 0<=p.1/\p.1<=l.length/\p.2.length=p.1/\p.2++l.drop p.1.toNat=l) (fun p=> (l.length - p.1).toNat) (0,[]) rfl ⟨by simp,by dsimp only;omega,by simp,by simp⟩ ?_
 rintro ⟨i,o⟩ ⟨h1,h2,h3,h4⟩
 dsimp only at h1 h2 h3 h4
 refine Zh5 _ _ _ _ _ ?_
 (simp only [vcT,vcS])
 refine ⟨fun hi=> ?_,fun hi=> ?_⟩
 .have hm:=hp.2 _ (Jy (l:=l) (i:=i.toNat) (by omega) [])
  refine ⟨by omega,hm.1,by simp;omega,by ((unfold InR;omega)),(i+1,o++[l.getD i.toNat []]),rfl,⟨by dsimp only;omega,by dsimp only;omega,by simp;omega,?_⟩,by dsimp only;omega⟩
  dsimp only
  rw [QN,List.singleton_append,<-ZfK h1 hi [],h4]
 .rw [List.drop_of_length_le (by omega),XC] at h4
  subst h4
  (repeat' (first | exact trivial | exact rfl | apply And.intro))
theorem c11:Contract Try.prog cfg 11 Z1E:=by
 refine Zkh c15 ?_
 intro a _ hp
 refine ZnH _ _ ?_
 (simp only [vcT,vcS])
 refine ⟨fun h=> ?_,fun h=> ?_⟩
 .refine YE (r':= .c (.slice (U:=U) .words [] .unk)) ?_ (by (repeat' (first | exact trivial | exact rfl | apply And.intro)))
  cases a with
  | none=> rfl
  | some x=> cases h
 .have hs:a.isSome=true:=by
   cases a with
   | none=> cases h
   | some x=> rfl
  rw [Z43 hs]
  refine ⟨hs,hs,hp,rfl,rfl,?_⟩
  (repeat' (first | exact trivial | exact rfl | apply And.intro))
noncomputable section
def Zge:ArgL (List Int × List Int × Unit):=(.cons (aSl .u64) (.cons (aSl .u64) .nil))
def Zc7(a:List Int × List Int × Unit):Prop:=a.1.length<=17592186044416
def ZiD(a:List Int × List Int × Unit):V U:= .c (.bool (decide (a.1=a.2.1)))
def Z65:Fs U:=fs Zge (fun a=> [Zc7 a]) ZiD
def Zgk:ArgL (List (List Int) × List (List Int) × Unit):=(.cons (aSl .words) (.cons (aSl .words) .nil))
def Z6x(a:List (List Int) × List (List Int) × Unit):Prop:=Z7P a.1
def ZiJ(a:List (List Int) × List (List Int) × Unit):V U:= .c (.bool (decide (a.1=a.2.1)))
def Z1F:Fs U:=fs Zgk (fun a=> [Z6x a]) ZiJ
def ZhE:Zc U:=lvl [([0,1],[]),([0,1,10],[]),([4],[]),([0,1,5],[]),([0,1,5,14],[]),([0,1,5],[]),([0,1,5,25],[]),([4],[]),([4],[])]
def Z3H(a b:List Int)(x5:Int):LSt U:=(L2 [(0,.c (sU .u64 a .unk)),(1,.c (sU .u64 b .unk)),pI 5 x5] [])
abbrev A29(p:List Nat):=AW (Z1 Zff) Try.f29 ZhE p
abbrev S29(p:List Nat):=SW (Z1 Zff) Try.f29 ZhE p
theorem Znu(a b:List Int)(Q:QT)(h:let z0:=((a.length:Int):Int) !=(b.length:Int);((z0=true->(Q .ret (L2 [pB 4 false] [])))/\(z0=false->(Zo (A29 [1,1,0,1,0,0]) (Z3H a b 0) (xB 0 (S29 [1,1,1] Q)))))):
  A29 [] (L2 [(0,.c (sU .u64 a .unk)),(1,.c (sU .u64 b .unk))] []) Q:=
 Eq.mpr (by kernel_rfl) h
theorem ZgW(a b:List Int)(x5:Int)(N0:NT)(Q:QT)(h:let z1:=decide (x5 < (a.length:Int));let z0:=((a.getD x5.toNat (0:Int)):Int) !=(b.getD x5.toNat (0:Int));((z1=true->((0:Int)<=x5/\x5 < (a.length:Int))/\((0:Int)<=x5/\x5 < (b.length:Int))/\((z0=true->(Q .ret (L2 [pB 4 false] [])))/\(z0=false->(InR (x5+1))/\(N0 (Z3H a b (x5+1))))))/\(z1=false->(Q .ret (L2 [pB 4 true] []))))):
  A29 [1,1,0,1,0,0] (Z3H a b x5) (xT N0 (xB 0 (S29 [1,1,1] Q))):=
 Eq.mpr (by kernel_rfl) h
def ZlK(a b:List Int):Prop:=AW (Z1 Zff) Try.f29 ZhE [] (Zs (Zge.can (a,b,())) []) (EQ Try.f29 (ZiD (a,b,())) [])
theorem Zk6(hb:∀ (a:List Int) (b:List Int) (_:Unit),Zc7 (a,b,())->ZlK a b):CT 29 Z65:=
 Z3 (l:=[]) Zf rfl trivial ZhE Try.func29 rfl rfl 2 (fun _=> rfl) (by decide) (fun ⟨a,b,_⟩=> hb a b ())
def Zbe:List (FuncId × Fs U):=[(29,Z65)]
def ZhH:Zc U:=lvl [([0,1],[]),([0,1,10],[]),([4],[]),([0,1,5],[]),([0,1,5,14],[]),([0,1,5],[]),([0,1,5,26],[]),([4],[]),([4],[])]
def Z3J(a b:List (List Int))(x5:Int):LSt U:=(L2 [(0,.c (sU .words a .unk)),(1,.c (sU .words b .unk)),pI 5 x5] [])
abbrev A10(p:List Nat):=AW (Z1 Zbe) Try.f10 ZhH p
abbrev S10(p:List Nat):=SW (Z1 Zbe) Try.f10 ZhH p
theorem ZnI(a b:List (List Int))(Q:QT)(h:let z0:=((a.length:Int):Int) !=(b.length:Int);((z0=true->(Q .ret (L2 [pB 4 false] [])))/\(z0=false->(Zo (A10 [1,1,0,1,0,0]) (Z3J a b 0) (xB 0 (S10 [1,1,1] Q)))))):
  A10 [] (L2 [(0,.c (sU .words a .unk)),(1,.c (sU .words b .unk))] []) Q:=
 Eq.mpr (by kernel_rfl) h
theorem Zh7(a b:List (List Int))(x5:Int)(N0:NT)(Q:QT)(h:let z3:=decide (x5 < (a.length:Int));let z2:=b.getD x5.toNat ([]:List Int);let z1:=a.getD x5.toNat ([]:List Int);let z0:= !(decide (z1=z2));((z3=true->((0:Int)<=x5/\x5 < (a.length:Int))/\((0:Int)<=x5/\x5 < (b.length:Int))/\(Zc7 (z1,z2,()))/\((z0=true->(Q .ret (L2 [pB 4 false] [])))/\(z0=false->(InR (x5+1))/\(N0 (Z3J a b (x5+1))))))/\(z3=false->(Q .ret (L2 [pB 4 true] []))))):
  A10 [1,1,0,1,0,0] (Z3J a b x5) (xT N0 (xB 0 (S10 [1,1,1] Q))):=
 Eq.mpr (by kernel_rfl) h
def ZlY(a b:List (List Int)):Prop:=AW (Z1 Zbe) Try.f10 ZhH [] (Zs (Zgk.can (a,b,())) []) (EQ Try.f10 (ZiJ (a,b,())) [])
theorem Zki(c29:CT 29 Z65)(hb:∀ (a:List (List Int)) (b:List (List Int)) (_:Unit),Z6x (a,b,())->ZlY a b):CT 10 Z1F:=
 Z3 (l:=[(29,Z65)]) Zf rfl (⟨c29,trivial⟩) ZhH Try.func10 rfl rfl 2 (fun _=> rfl) (by decide) (fun ⟨a,b,_⟩=> hb a b ())
end
theorem Z6U{α:Type}{a b:List α}(d:α)(hl:a.length=b.length)(h:∀ j:Nat,j < a.length->a.getD j d=b.getD j d):a=b:=by
 refine List.ext_getElem hl fun j h1 h2=> ?_
 have:=h j h1
 rwa [Q6,Q6,Q0 h1,Q0 h2] at this
theorem c29:Contract Try.prog cfg 29 Z65:=by
 refine Zk6 ?_
 intro a b _ hp
 simp only [Zc7] at hp
 refine Znu _ _ _ ?_
 (simp only [vcT,vcS])
 refine ⟨fun h=> Zd rfl (decide_eq_false fun e=> h (by rw [show a=b from e])).symm,fun h=> ?_⟩
 refine Zj (ι:=Int) (fun i=> Z3H a b i) (fun i=> 0<=i/\i<=a.length/\∀ j:Nat,j < i.toNat->a.getD j 0=b.getD j 0) (fun i=> (a.length - i).toNat) 0 rfl ⟨by simp,by omega,fun j hj=> by simp at hj⟩ ?_
 rintro i ⟨h1,h2,h3⟩
 refine ZgW _ _ _ _ _ ?_
 (simp only [vcT,vcS])
 refine ⟨fun hi=> ⟨by omega,by omega,fun hn=> Zd rfl ?_,fun he=> ⟨by ((unfold InR;omega)),i+1,rfl,⟨by omega,by omega,fun j hj=> ?_⟩,by omega⟩⟩,fun hi=> Zd rfl ?_⟩
 .exact (decide_eq_false fun e=> hn (by rw [show a=b from e])).symm
 .by_cases e:j < i.toNat
  .exact h3 j e
  .rw [show j=i.toNat by omega];exact he
 .exact (decide_eq_true (Z6U 0 (by omega) fun j hj=> h3 j (by omega))).symm
theorem c10:Contract Try.prog cfg 10 Z1F:=by
 refine Zki c29 ?_
 intro a b _ hp
 simp only [Z6x] at hp
 have hl:=hp.1
 refine ZnI _ _ _ ?_
 (simp only [vcT,vcS])
 refine ⟨fun h=> Zd rfl (decide_eq_false fun e=> h (by rw [show a=b from e])).symm,fun h=> ?_⟩
 refine Zj (ι:=Int) (fun i=> Z3J a b i) (fun i=> 0<=i/\i<=a.length/\∀ j:Nat,j < i.toNat->a.getD j []=b.getD j []) (fun i=> (a.length - i).toNat) 0 rfl ⟨by simp,by omega,fun j hj=> by simp at hj⟩ ?_
 rintro i ⟨h1,h2,h3⟩
 refine Zh7 _ _ _ _ _ ?_
 (simp only [vcT,vcS])
 refine ⟨fun hi=> ⟨by omega,by omega,(hp.2 _ (Jy (by omega) [])).1,fun hn=> Zd rfl ?_,fun he=> ⟨by ((unfold InR;omega)),i+1,rfl,⟨by omega,by omega,fun j hj=> ?_⟩,by omega⟩⟩,fun hi=> Zd rfl ?_⟩
 .exact (decide_eq_false fun e=> hn (by rw [show a=b from e])).symm
 .by_cases e:j < i.toNat
  .exact h3 j e
  .rw [show j=i.toNat by omega];exact he
 .exact (decide_eq_true (Z6U [] (by omega) fun j hj=> h3 j (by omega))).symm
noncomputable section
def Zik(a:Int × Unit):V U:= .c (.bool (decide (2<=a.1/\a.1<=7)))
def Z5Q:Fs U:=fs Zg0 (fun a=> [Z6w a]) Zik
def Zko:Zc U:=lvl [([0],[]),([2],[])]
abbrev A86(p:List Nat):=AW (Z1 Zff) Try.f86 Zko p
theorem ZmS(k:Int)(Q:QT)(h:let z0:=decide ((2:Int)<=k);((Tr (z0=true))/\(Tr (z0=true))/\(Q .ret (L2 [(2,.c (.bool (bif z0 then (decide (k<=7)) else false)))] [])))):
  A86 [] (L2 [pI 0 k] []) Q:=
 Eq.mpr (by kernel_rfl) h
def Zl8(k:Int):Prop:=AW (Z1 Zff) Try.f86 Zko [] (Zs (Zg0.can (k,())) []) (EQ Try.f86 (Zik (k,())) [])
theorem Zjx(hb:∀ (k:Int) (_:Unit),Z6w (k,())->Zl8 k):CT 86 Z5Q:=
 Z3 (l:=[]) Zf rfl trivial Zko Try.func86 rfl rfl 1 (fun _=> rfl) (by decide) (fun ⟨k,_⟩=> hb k ())
end
theorem c86:Contract Try.prog cfg 86 Z5Q:=by
 refine Zjx ?_
 intro k _ _
 refine ZmS _ _ ?_
 (simp only [vcT,vcS])
 refine Zd rfl ?_
 rw [Qq]
 (simp only [vcT,vcS])
noncomputable section
def Zbr:ArgL (Tree × Int × Int × Unit):=(.cons (aEl .tree) (.cons (Zv .i64) (.cons (Zv .i64) .nil)))
def Z9V(a:Tree × Int × Int × Unit):Prop:=Z6f a.1/\0<=a.2.1/\a.2.1<=4611686018427387904/\-1<=a.2.2.1/\a.2.2.1<=4611686018427387904
def Zdb(a:Tree × Int × Int × Unit):Nat:=ZE a.1
def Z9L(a:Tree × Int × Int × Unit):V U:= .c (ci (ZG a.1 a.2.1 a.2.2.1))
def Z6b:Fs U:=fs Zbr (fun a=> [Z9V a]) Z9L
def Zj2:ArgL (Tree × Unit):=(.cons (aEl .tree) .nil)
def pre6(a:Tree × Unit):Prop:=Z6f a.1
def Zm5(a:Tree × Unit):V U:= .c (.bool (decide (0<=ZG a.1 80 3000)))
def Z9y:Fs U:=fs Zj2 (fun a=> [pre6 a]) Zm5
def Z9U(a:List Int × Unit):Prop:=a.1.length<=1000000000000
def Zed(a:List Int × Unit):V U:= .c (sU .u64 (JA a.1) .unk)
def Z64:Fs U:=fs Zgc (fun a=> [Z9U a]) Zed
def Zg7:ArgL (Tree × Int × Unit):=(.cons (aEl .tree) (.cons (Zv .i64) .nil))
def Zc2(a:Tree × Int × Unit):Prop:=True
def ZbO(a:Tree × Int × Unit):V U:= .c (.int .u64 (Z11 a.1 a.2.1))
def Z60:Fs U:=fs Zg7 (fun a=> [Zc2 a]) ZbO
def Z4Y(a:Tree × Unit):Prop:=ZE a.1<=1000000000000
def Zdc(a:Tree × Unit):Nat:=ZE a.1
def Z7x(a:Tree × Unit):V U:= .agg (enc .tree (Zi a.1))
def Z6d:Fs U:=fs Zj2 (fun a=> [Z4Y a]) Z7x
def Z1d(N:Nat):List (FuncId × Fs U):=(19,fs Zbr (fun a=> [Z9V a,Zdb a < N]) Z9L) ::[]
def Z78:Zc U:=lvl [([1,2,3],[3]),([1,2,3],[3]),([1,2,3,19],[3]),([6],[]),([1,2,3,7],[3]),([1,2,3,7,28],[3]),([1,2,3,7],[3]),([1,2,3,7],[3]),([6],[])]
def Z2a(t:Tree)(d l x2 x7:Int):LSt U:=(L2 [pI 1 d,pI 2 x2,pL 3,pI 7 x7] [(.loc 3,(enc .tree t))])
theorem ZnE(N:Nat)(t:Tree)(d l:Int)(Q:QT)(h:((InR (l - 1))/\(InR (((l - 1):Int) - (t.words.length:Int)))/\(((!(d==0))=true->(!(d==0))=true)/\((d==0)=false->(!(d==0))=true)/\(((bif (d==0) then true else (decide (((((l - 1):Int) - (t.words.length:Int)):Int) < 0)))=true->(Q .ret (L2 [pI 6 (-1)] [])))/\((bif (d==0) then true else (decide (((((l - 1):Int) - (t.words.length:Int)):Int) < 0)))=false->(Zo (AW (Z1 (Z1d N)) Try.f19 Z78 [1,1,1,0,1,0,0]) (Z2a t d l (((l - 1):Int) - (t.words.length:Int)) 0) (xB 0 (SW (Z1 (Z1d N)) Try.f19 Z78 [1,1,1,1] Q)))))))):
  AW (Z1 (Z1d N)) Try.f19 Z78 [] (L2 [(0,.agg (enc .tree t)),pI 1 d,pI 2 l] []) Q:=by
 have e:(AW (Z1 (Z1d N)) Try.f19 Z78 [] (L2 [(0,.agg (enc .tree t)),pI 1 d,pI 2 l] []) Q)=(type_of% h):=by kernel_rfl
 exact e.mpr h
theorem Zh4(N:Nat)(t:Tree)(d l x2 x7:Int)(N0:NT)(Q:QT)(h:((decide (x7 < (t.kids.length:Int)))=true->(decide (x7 < (t.kids.length:Int)))=true)/\((decide (x7 < (t.kids.length:Int)))=true->(decide (x7 < (t.kids.length:Int)))=true)/\(((bif (decide (x7 < (t.kids.length:Int))) then (decide ((0:Int)<=x2)) else false)=true->(0<=x7/\x7 < (t.kids.length:Int))/\(InR (d - 1))/\(Z9V ((Tree.mk (Tree.kind (t.kids.getD x7.toNat Tree.nil)) (Tree.words (t.kids.getD x7.toNat Tree.nil)) (Tree.kids (t.kids.getD x7.toNat Tree.nil))),(d - 1),x2,()))/\(Zdb ((Tree.mk (Tree.kind (t.kids.getD x7.toNat Tree.nil)) (Tree.words (t.kids.getD x7.toNat Tree.nil)) (Tree.kids (t.kids.getD x7.toNat Tree.nil))),(d - 1),x2,()) < N)/\((InR (x7+1))/\(N0 (Z2a t d l (ZG (Tree.mk (Tree.kind (t.kids.getD x7.toNat Tree.nil)) (Tree.words (t.kids.getD x7.toNat Tree.nil)) (Tree.kids (t.kids.getD x7.toNat Tree.nil))) (d - 1) x2) (x7+1)))))/\((bif (decide (x7 < (t.kids.length:Int))) then (decide ((0:Int)<=x2)) else false)=false->(Q .ret (L2 [pI 6 x2] []))))):
  AW (Z1 (Z1d N)) Try.f19 Z78 [1,1,1,0,1,0,0] (Z2a t d l x2 x7) (xT N0 (xB 0 (SW (Z1 (Z1d N)) Try.f19 Z78 [1,1,1,1] Q))):=by
 have e:(AW (Z1 (Z1d N)) Try.f19 Z78 [1,1,1,0,1,0,0] (Z2a t d l x2 x7) (xT N0 (xB 0 (SW (Z1 (Z1d N)) Try.f19 Z78 [1,1,1,1] Q))))=(type_of% h):=by kernel_rfl
 exact e.mpr h
def ZlU(N:Nat)(t:Tree)(d l:Int):Prop:=AW (Z1 (Z1d N)) Try.f19 Z78 [] (Zs (Zbr.can (t,d,l,())) []) (EQ Try.f19 (Z9L (t,d,l,())) [])
theorem Zke(hb:∀ (N:Nat) (t:Tree) (d:Int) (l:Int) (_:Unit),Z9V (t,d,l,())->Zdb (t,d,l,()) < N+1->ZlU N t d l):CT 19 Z6b:=
 Jg (μ:=Zdb) (l:=[]) Zf rfl trivial Z78 Try.func19 rfl rfl 3 (fun _=> rfl) (by decide) (fun N ⟨t,d,l,_⟩=> hb N t d l ())
def Zfo:List (FuncId × Fs U):=[(19,Z6b)]
def lv6:Zc U:=lvl [([1],[1]),([2],[])]
theorem vc6(t:Tree)(Q:QT)(h:((Z9V ((Tree.mk t.kind t.words t.kids),80,3000,()))/\(Q .ret (L2 [(2,.c (.bool (decide ((0:Int)<=(ZG (Tree.mk t.kind t.words t.kids) 80 3000)))))] [])))):
  AW (Z1 Zfo) Try.f6 lv6 [] (L2 [(0,.agg (enc .tree t))] []) Q:=by
 have e:(AW (Z1 Zfo) Try.f6 lv6 [] (L2 [(0,.agg (enc .tree t))] []) Q)=(type_of% h):=by kernel_rfl
 exact e.mpr h
def ZmJ(t:Tree):Prop:=AW (Z1 Zfo) Try.f6 lv6 [] (Zs (Zj2.can (t,())) []) (EQ Try.f6 (Zm5 (t,())) [])
theorem Zmk(c19:CT 19 Z6b)(hb:∀ (t:Tree) (_:Unit),pre6 (t,())->ZmJ t):CT 6 Z9y:=
 Z3 (l:=[(19,Z6b)]) Zf rfl (⟨c19,trivial⟩) lv6 Try.func6 rfl rfl 1 (fun _=> rfl) (by decide) (fun ⟨t,_⟩=> hb t ())
def Z77:Zc U:=lvl [([0],[]),([0,3],[]),([0,3,16],[]),([0,3],[]),([0,3,4],[]),([2],[])]
def Z25(l:List Int)(x3:Int):LSt U:=(L2 [(0,.c (sU .u64 l .unk)),pI 3 x3] [])
theorem Znt(l:List Int)(Q:QT)(h:(Zo (AW (Z1 Zff) Try.f33 Z77 [1,1,0,0,0]) (Z25 l (l.length:Int)) (xB 0 (SW (Z1 Zff) Try.f33 Z77 [1,1,1] Q)))):
  AW (Z1 Zff) Try.f33 Z77 [] (L2 [(0,.c (sU .u64 l .unk))] []) Q:=by
 have e:(AW (Z1 Zff) Try.f33 Z77 [] (L2 [(0,.c (sU .u64 l .unk))] []) Q)=(type_of% h):=by kernel_rfl
 exact e.mpr h
theorem ZgV(l:List Int)(x3:Int)(N0:NT)(Q:QT)(h:((decide ((0:Int) < x3))=true->(decide ((0:Int) < x3))=true)/\((decide ((0:Int) < x3))=true->InR (x3 - 1))/\((decide ((0:Int) < x3))=true->(decide ((0:Int) < x3))=true)/\((decide ((0:Int) < x3))=true->(decide ((0:Int) < x3))=true)/\((decide ((0:Int) < x3))=true->0<=(x3 - 1)/\(x3 - 1) < (l.length:Int))/\((decide ((0:Int) < x3))=true->(decide ((0:Int) < x3))=true)/\((decide ((0:Int) < x3))=true->(decide ((0:Int) < x3))=true)/\((decide ((0:Int) < x3))=true->(decide ((0:Int) < x3))=true)/\(((bif (decide ((0:Int) < x3)) then (((List.getD l (Int.toNat (x3 - 1)) (0:Int)):Int)==0) else false)=true->(InR (x3 - 1))/\(N0 (Z25 l (x3 - 1))))/\((bif (decide ((0:Int) < x3)) then (((List.getD l (Int.toNat (x3 - 1)) (0:Int)):Int)==0) else false)=false->((0<=x3/\x3<=(l.length:Int))/\((([]:List Int).length+(List.take x3.toNat l).length)*8<=140737488355328)/\(Q .ret (L2 [(2,.c (sU .u64 (([]:List Int)++(List.take x3.toNat l)) (.own (.e 2 0))))] [])))))):
  AW (Z1 Zff) Try.f33 Z77 [1,1,0,0,0] (Z25 l x3) (xT N0 (xB 0 (SW (Z1 Zff) Try.f33 Z77 [1,1,1] Q))):=by
 have e:(AW (Z1 Zff) Try.f33 Z77 [1,1,0,0,0] (Z25 l x3) (xT N0 (xB 0 (SW (Z1 Zff) Try.f33 Z77 [1,1,1] Q))))=(type_of% h):=by kernel_rfl
 exact e.mpr h
def ZlJ(l:List Int):Prop:=AW (Z1 Zff) Try.f33 Z77 [] (Zs (Zgc.can (l,())) []) (EQ Try.f33 (Zed (l,())) [])
theorem Zk5(hb:∀ (l:List Int) (_:Unit),Z9U (l,())->ZlJ l):CT 33 Z64:=
 Z3 (l:=[]) Zf rfl trivial Z77 Try.func33 rfl rfl 1 (fun _=> rfl) (by decide) (fun ⟨l,_⟩=> hb l ())
def ZhB:Zc U:=lvl [([1,2],[2]),([1,2,13],[2]),([4],[]),([4],[])]
theorem Znb(t:Tree)(i:Int)(Q:QT)(h:(((!(decide (i < 0)))=true->(!(decide (i < 0)))=true)/\((!(decide (i < 0)))=true->(!(decide (i < 0)))=true)/\((!(decide (i < 0)))=true->(!(decide (i < 0)))=true)/\((!(decide (i < 0)))=true->(!(decide (i < 0)))=true)/\((decide (i < 0))=false->(!(decide (i < 0)))=true)/\(((bif (decide (i < 0)) then true else (decide (((t.words.length:Int):Int)<=i)))=true->(Q .ret (L2 [(4,.c (.int .u64 0))] [])))/\((bif (decide (i < 0)) then true else (decide (((t.words.length:Int):Int)<=i)))=false->(0<=i/\i < (t.words.length:Int))/\(Q .ret (L2 [(4,.c (.int .u64 (t.words.getD i.toNat (0:Int))))] [])))))):
  AW (Z1 Zff) Try.f59 ZhB [] (L2 [(0,.agg (enc .tree t)),pI 1 i] []) Q:=by
 have e:(AW (Z1 Zff) Try.f59 ZhB [] (L2 [(0,.agg (enc .tree t)),pI 1 i] []) Q)=(type_of% h):=by kernel_rfl
 exact e.mpr h
def Zlr(t:Tree)(i:Int):Prop:=AW (Z1 Zff) Try.f59 ZhB [] (Zs (Zg7.can (t,i,())) []) (EQ Try.f59 (ZbO (t,i,())) [])
theorem ZjQ(hb:∀ (t:Tree) (i:Int) (_:Unit),Zc2 (t,i,())->Zlr t i):CT 59 Z60:=
 Z3 (l:=[]) Zf rfl trivial ZhB Try.func59 rfl rfl 2 (fun _=> rfl) (by decide) (fun ⟨t,i,_⟩=> hb t i ())
def Z1e(N:Nat):List (FuncId × Fs U):=(13,fs Zj2 (fun a=> [Z4Y a,Zdc a < N]) Z7x) ::[(33,Z64)]
def Z79:Zc U:=fun i=> match i with
 | 0=> ([(1,[]),(2,[])],[(.loc 1,[]),(.loc 2,[])])
 | 1=> ([(1,[]),(2,[]),(10,[])],[(.loc 1,[]),(.loc 2,[])])
 | 2=> ([(2,[])],[(.loc 2,[])])
 | 3=> ([(1,[]),(2,[]),(3,[])],[(.loc 1,[]),(.loc 2,[])])
 | 4=> ([(1,[]),(2,[]),(3,[]),(4,[])],[(.loc 1,[]),(.loc 2,[])])
 | 5=> ([(1,[]),(2,[]),(3,[.own .tree]),(4,[]),(5,[])],[(.loc 1,[]),(.loc 2,[])])
 | 6=> ([(1,[]),(2,[]),(3,[]),(4,[]),(5,[]),(16,[])],[(.loc 1,[]),(.loc 2,[])])
 | 7=> ([(1,[]),(2,[]),(3,[.own .tree]),(4,[]),(5,[])],[(.loc 1,[]),(.loc 2,[])])
 | 8=> ([(1,[]),(2,[]),(3,[]),(4,[]),(5,[]),(6,[])],[(.loc 1,[]),(.loc 2,[]),(.loc 6,[])])
 | 9=> ([(1,[]),(2,[]),(3,[]),(4,[]),(5,[]),(6,[])],[(.loc 1,[]),(.loc 2,[]),(.loc 6,[])])
 | 10=> ([(1,[]),(2,[]),(3,[]),(4,[]),(5,[]),(31,[])],[(.loc 1,[]),(.loc 2,[])])
 | 11=> ([(1,[]),(2,[]),(3,[]),(4,[]),(5,[])],[(.loc 1,[]),(.loc 2,[])])
 | 12=> ([(1,[]),(2,[]),(3,[]),(4,[]),(36,[])],[(.loc 1,[]),(.loc 2,[])])
 | 13=> ([(2,[])],[(.loc 2,[])])
 | 14=> ([(1,[]),(2,[]),(3,[]),(7,[])],[(.loc 1,[]),(.loc 2,[])])
 | 15=> ([(1,[]),(2,[]),(3,[]),(7,[])],[(.loc 1,[]),(.loc 2,[])])
 | 16=> ([(2,[])],[(.loc 2,[])])
 | _=> ([],[])
def Z0Q(t:Tree)(x4 x5:Int)(x3:List Tree):LSt U:=(L2 [pL 1,pL 2,(3,.c (sU .tree x3 (.own (.e 3 0)))),pI 4 x4,pI 5 x5] [(.loc 1,(enc .tree t)),(.loc 2,[ci 0,.nils,.nils])])
theorem ZnG(N:Nat)(t:Tree)(Q:QT)(h:(((t.kind==0)=true->(Q .ret (L2 [pL 2] [(.loc 2,[ci 0,.nils,.nils])])))/\((t.kind==0)=false->(Zo (AW (Z1 (Z1e N)) Try.f13 Z79 [1,1,1,1,0,1,0,0]) (Z0Q t 0 0 []) (xB 0 (SW (Z1 (Z1e N)) Try.f13 Z79 [1,1,1,1,1] Q)))))):
  AW (Z1 (Z1e N)) Try.f13 Z79 [] (L2 [(0,.agg (enc .tree t))] []) Q:=by
 have e:(AW (Z1 (Z1e N)) Try.f13 Z79 [] (L2 [(0,.agg (enc .tree t))] []) Q)=(type_of% h):=by kernel_rfl
 exact e.mpr h
theorem Zh6(N:Nat)(t:Tree)(x4 x5:Int)(x3:List Tree)(N0:NT)(Q:QT)(h:(((decide (x5 < (t.kids.length:Int)))=true->(0<=x5/\x5 < (t.kids.length:Int))/\(Z4Y ((Tree.mk (Tree.kind (t.kids.getD x5.toNat Tree.nil)) (Tree.words (t.kids.getD x5.toNat Tree.nil)) (Tree.kids (t.kids.getD x5.toNat Tree.nil))),()))/\(Zdc ((Tree.mk (Tree.kind (t.kids.getD x5.toNat Tree.nil)) (Tree.words (t.kids.getD x5.toNat Tree.nil)) (Tree.kids (t.kids.getD x5.toNat Tree.nil))),()) < N)/\(((x3.length+([(Tree.mk (Tree.kind (Zi (Tree.mk (Tree.kind (t.kids.getD x5.toNat Tree.nil)) (Tree.words (t.kids.getD x5.toNat Tree.nil)) (Tree.kids (t.kids.getD x5.toNat Tree.nil))))) (Tree.words (Zi (Tree.mk (Tree.kind (t.kids.getD x5.toNat Tree.nil)) (Tree.words (t.kids.getD x5.toNat Tree.nil)) (Tree.kids (t.kids.getD x5.toNat Tree.nil))))) (Tree.kids (Zi (Tree.mk (Tree.kind (t.kids.getD x5.toNat Tree.nil)) (Tree.words (t.kids.getD x5.toNat Tree.nil)) (Tree.kids (t.kids.getD x5.toNat Tree.nil))))))]).length)*56<=140737488355328)/\(((((Tree.kind (Zi (Tree.mk (Tree.kind (t.kids.getD x5.toNat Tree.nil)) (Tree.words (t.kids.getD x5.toNat Tree.nil)) (Tree.kids (t.kids.getD x5.toNat Tree.nil))))):Int) !=0)=true->(InR (x5+1))/\((InR (x5+1))/\(N0 (Z0Q t (x5+1) (x5+1) (x3++([(Tree.mk (Tree.kind (Zi (Tree.mk (Tree.kind (t.kids.getD x5.toNat Tree.nil)) (Tree.words (t.kids.getD x5.toNat Tree.nil)) (Tree.kids (t.kids.getD x5.toNat Tree.nil))))) (Tree.words (Zi (Tree.mk (Tree.kind (t.kids.getD x5.toNat Tree.nil)) (Tree.words (t.kids.getD x5.toNat Tree.nil)) (Tree.kids (t.kids.getD x5.toNat Tree.nil))))) (Tree.kids (Zi (Tree.mk (Tree.kind (t.kids.getD x5.toNat Tree.nil)) (Tree.words (t.kids.getD x5.toNat Tree.nil)) (Tree.kids (t.kids.getD x5.toNat Tree.nil))))))]))))))/\((((Tree.kind (Zi (Tree.mk (Tree.kind (t.kids.getD x5.toNat Tree.nil)) (Tree.words (t.kids.getD x5.toNat Tree.nil)) (Tree.kids (t.kids.getD x5.toNat Tree.nil))))):Int) !=0)=false->(InR (x5+1))/\(N0 (Z0Q t x4 (x5+1) (x3++([(Tree.mk (Tree.kind (Zi (Tree.mk (Tree.kind (t.kids.getD x5.toNat Tree.nil)) (Tree.words (t.kids.getD x5.toNat Tree.nil)) (Tree.kids (t.kids.getD x5.toNat Tree.nil))))) (Tree.words (Zi (Tree.mk (Tree.kind (t.kids.getD x5.toNat Tree.nil)) (Tree.words (t.kids.getD x5.toNat Tree.nil)) (Tree.kids (t.kids.getD x5.toNat Tree.nil))))) (Tree.kids (Zi (Tree.mk (Tree.kind (t.kids.getD x5.toNat Tree.nil)) (Tree.words (t.kids.getD x5.toNat Tree.nil)) (Tree.kids (t.kids.getD x5.toNat Tree.nil))))))]))))))))/\((decide (x5 < (t.kids.length:Int)))=false->(((t.kind==1)=true->(Z9U (t.words,()))/\(0<=x4/\x4<=(x3.length:Int))/\(Q .ret (L2 [pL 2] [(.loc 2,[ci 1,sU .u64 (JA t.words) .unk,sU .tree (List.take x4.toNat x3) .unk])])))/\((t.kind==1)=false->(((([]:List Int).length+t.words.length)*8<=140737488355328)/\(Q .ret (L2 [pL 2] [(.loc 2,[ci t.kind,sU .u64 (([]:List Int)++t.words) (.own (.l 2 1)),sU .tree x3 (.own (.l 2 2))])])))))))):
  AW (Z1 (Z1e N)) Try.f13 Z79 [1,1,1,1,0,1,0,0] (Z0Q t x4 x5 x3) (xT N0 (xB 0 (SW (Z1 (Z1e N)) Try.f13 Z79 [1,1,1,1,1] Q))):=by
 have e:(AW (Z1 (Z1e N)) Try.f13 Z79 [1,1,1,1,0,1,0,0] (Z0Q t x4 x5 x3) (xT N0 (xB 0 (SW (Z1 (Z1e N)) Try.f13 Z79 [1,1,1,1,1] Q))))=(type_of% h):=by kernel_rfl
 exact e.mpr h
def ZlW(N:Nat)(t:Tree):Prop:=AW (Z1 (Z1e N)) Try.f13 Z79 [] (Zs (Zj2.can (t,())) []) (EQ Try.f13 (Z7x (t,())) [])
theorem Zkg(c33:CT 33 Z64)(hb:∀ (N:Nat) (t:Tree) (_:Unit),Z4Y (t,())->Zdc (t,()) < N+1->ZlW N t):CT 13 Z6d:=
 Jg (μ:=Zdc) (l:=[(33,Z64)]) Zf rfl (⟨c33,trivial⟩) Z79 Try.func13 rfl rfl 1 (fun _=> rfl) (by decide) (fun N ⟨t,_⟩=> hb N t ())
def Y7(N:Nat):List (FuncId × Fs U):=(24,fs Zj2 (fun a=> [Z4Y a,Zdc a < N]) Z7x) ::[(37,Z1C)]
def JB:Zc U:=fun i=> match i with
 | 0=> ([(1,[]),(2,[])],[(.loc 1,[]),(.loc 2,[])])
 | 1=> ([(1,[]),(2,[]),(8,[])],[(.loc 1,[]),(.loc 2,[])])
 | 2=> ([(2,[])],[(.loc 2,[])])
 | 3=> ([(1,[]),(2,[]),(3,[])],[(.loc 1,[]),(.loc 2,[]),(.loc 3,[])])
 | 4=> ([(1,[]),(2,[]),(3,[]),(17,[]),(18,[]),(19,[])],[(.loc 1,[]),(.loc 2,[]),(.loc 3,[.any,.any,.own .tree])])
 | 5=> ([(1,[]),(2,[]),(3,[]),(17,[]),(18,[]),(19,[]),(20,[])],[(.loc 1,[]),(.loc 2,[]),(.loc 3,[])])
 | 6=> ([(1,[]),(2,[]),(3,[]),(5,[]),(17,[]),(18,[]),(19,[])],[(.loc 1,[]),(.loc 2,[]),(.loc 3,[]),(.loc 5,[])])
 | 7=> ([(1,[]),(2,[]),(3,[]),(17,[]),(18,[]),(19,[])],[(.loc 1,[]),(.loc 2,[]),(.loc 3,[])])
 | 8=> ([(1,[]),(2,[]),(3,[]),(17,[]),(18,[]),(19,[])],[(.loc 1,[]),(.loc 2,[]),(.loc 3,[.any,.any,.own .tree])])
 | 9=> ([(2,[]),(3,[]),(33,[])],[(.loc 2,[]),(.loc 3,[.any,.any,.unk .tree])])
 | 10=> ([(2,[]),(3,[]),(33,[]),(48,[])],[(.loc 2,[]),(.loc 3,[.any,.any,.unk .tree])])
 | 11=> ([(2,[]),(3,[]),(33,[])],[(.loc 2,[]),(.loc 3,[.any,.any,.unk .tree])])
 | 12=> ([(2,[]),(3,[]),(33,[]),(48,[]),(72,[])],[(.loc 2,[]),(.loc 3,[])])
 | 13=> ([(2,[]),(3,[]),(33,[]),(48,[])],[(.loc 2,[]),(.loc 3,[.any,.any,.unk .tree])])
 | 14=> ([(2,[])],[(.loc 2,[])])
 | _=> ([],[])
def Z28(t:Tree)(x19:Int)(ml3_2:List Tree):LSt U:=(L2 [pL 1,pL 2,pL 3,(17,.c (sU .tree t.kids .unk)),pI 18 (t.kids.length:Int),pI 19 x19] [(.loc 1,(enc .tree t)),(.loc 2,[ci 0,.nils,.nils]),(.loc 3,[ci t.kind,sU .u64 t.words .unk,sU .tree ml3_2 (.own (.l 3 2))])])
def Z27(t:Tree)(ml3_2:List Tree)(ml3_1_a:List Int):LSt U:=(L2 [pL 2,pL 3,pB 33 ((t.kind:Int)==1)] [(.loc 2,[ci 0,.nils,.nils]),(.loc 3,[ci t.kind,sU .u64 ml3_1_a .unk,sU .tree ml3_2 .unk])])
def Z26(t:Tree)(ml3_1_a:List Int)(ml3_2_b:List Tree):LSt U:=(L2 [pL 2,pL 3,pB 33 ((t.kind:Int)==1),(48,.c (.bool (bif (decide ((0:Int) < (ml3_1_a.length:Int))) then (((List.getD ml3_1_a (Int.toNat (((ml3_1_a.length:Int):Int) - 1)) (0:Int)):Int)==0) else false)))] [(.loc 2,[ci 0,.nils,.nils]),(.loc 3,[ci t.kind,sU .u64 ml3_1_a .unk,sU .tree ml3_2_b .unk])])
theorem Znz(N:Nat)(t:Tree)(Q:QT)(h:(((t.kind==0)=true->(Q .ret (L2 [pL 2] [(.loc 2,[ci 0,.nils,.nils])])))/\((t.kind==0)=false->(Z7L (t.words,()))/\(Zo (AW (Z1 (Y7 N)) Try.f24 JB [1,1,1,0,1,0,0]) (Z28 t 0 []) (xB 0 (SW (Z1 (Y7 N)) Try.f24 JB [1,1,1,1] Q)))))):
  AW (Z1 (Y7 N)) Try.f24 JB [] (L2 [(0,.agg (enc .tree t))] []) Q:=by
 have e:(AW (Z1 (Y7 N)) Try.f24 JB [] (L2 [(0,.agg (enc .tree t))] []) Q)=(type_of% h):=by kernel_rfl
 exact e.mpr h
theorem Zh2(N:Nat)(t:Tree)(x19:Int)(ml3_2:List Tree)(N0:NT)(Q:QT)(h:(((decide (x19 < (t.kids.length:Int)))=true->(0<=x19/\x19 < (t.kids.length:Int))/\((Z4Y ((Tree.mk (Tree.kind (t.kids.getD x19.toNat Tree.nil)) (Tree.words (t.kids.getD x19.toNat Tree.nil)) (Tree.kids (t.kids.getD x19.toNat Tree.nil))),()))/\(Zdc ((Tree.mk (Tree.kind (t.kids.getD x19.toNat Tree.nil)) (Tree.words (t.kids.getD x19.toNat Tree.nil)) (Tree.kids (t.kids.getD x19.toNat Tree.nil))),()) < N)/\((ml3_2.length+([(Tree.mk (Tree.kind (Zi (Tree.mk (Tree.kind (t.kids.getD x19.toNat Tree.nil)) (Tree.words (t.kids.getD x19.toNat Tree.nil)) (Tree.kids (t.kids.getD x19.toNat Tree.nil))))) (Tree.words (Zi (Tree.mk (Tree.kind (t.kids.getD x19.toNat Tree.nil)) (Tree.words (t.kids.getD x19.toNat Tree.nil)) (Tree.kids (t.kids.getD x19.toNat Tree.nil))))) (Tree.kids (Zi (Tree.mk (Tree.kind (t.kids.getD x19.toNat Tree.nil)) (Tree.words (t.kids.getD x19.toNat Tree.nil)) (Tree.kids (t.kids.getD x19.toNat Tree.nil))))))]).length)*56<=140737488355328)/\((InR (x19+1))/\(N0 (Z28 t (x19+1) (ml3_2++([(Tree.mk (Tree.kind (Zi (Tree.mk (Tree.kind (t.kids.getD x19.toNat Tree.nil)) (Tree.words (t.kids.getD x19.toNat Tree.nil)) (Tree.kids (t.kids.getD x19.toNat Tree.nil))))) (Tree.words (Zi (Tree.mk (Tree.kind (t.kids.getD x19.toNat Tree.nil)) (Tree.words (t.kids.getD x19.toNat Tree.nil)) (Tree.kids (t.kids.getD x19.toNat Tree.nil))))) (Tree.kids (Zi (Tree.mk (Tree.kind (t.kids.getD x19.toNat Tree.nil)) (Tree.words (t.kids.getD x19.toNat Tree.nil)) (Tree.kids (t.kids.getD x19.toNat Tree.nil))))))])))))))/\((decide (x19 < (t.kids.length:Int)))=false->(((t.kind==1)=true->Zo (AW (Z1 (Y7 N)) Try.f24 JB [1,1,1,1,0,1,0,0,0,0]) (Z27 t ml3_2 t.words) (xB 2 (SW (Z1 (Y7 N)) Try.f24 JB [1,1,1,1,0,1,0,1] (SW (Z1 (Y7 N)) Try.f24 JB [1,1,1,1,1] Q))))/\((t.kind==1)=false->(Q .ret (L2 [pL 2] [(.loc 2,[ci t.kind,sU .u64 t.words .unk,sU .tree ml3_2 .unk])]))))))):
  AW (Z1 (Y7 N)) Try.f24 JB [1,1,1,0,1,0,0] (Z28 t x19 ml3_2) (xT N0 (xB 0 (SW (Z1 (Y7 N)) Try.f24 JB [1,1,1,1] Q))):=by
 have e:(AW (Z1 (Y7 N)) Try.f24 JB [1,1,1,0,1,0,0] (Z28 t x19 ml3_2) (xT N0 (xB 0 (SW (Z1 (Y7 N)) Try.f24 JB [1,1,1,1] Q))))=(type_of% h):=by kernel_rfl
 exact e.mpr h
theorem Zh1(N:Nat)(t:Tree)(ml3_2:List Tree)(ml3_1_a:List Int)(N1:NT)(Q:QT)(h:((decide ((0:Int) < (ml3_1_a.length:Int)))=true->(decide ((0:Int) < (ml3_1_a.length:Int)))=true)/\((decide ((0:Int) < (ml3_1_a.length:Int)))=true->(decide ((0:Int) < (ml3_1_a.length:Int)))=true)/\((decide ((0:Int) < (ml3_1_a.length:Int)))=true->(decide ((0:Int) < (ml3_1_a.length:Int)))=true)/\((decide ((0:Int) < (ml3_1_a.length:Int)))=true->(decide ((0:Int) < (ml3_1_a.length:Int)))=true)/\((decide ((0:Int) < (ml3_1_a.length:Int)))=true->InR (((ml3_1_a.length:Int):Int) - 1))/\((decide ((0:Int) < (ml3_1_a.length:Int)))=true->(decide ((0:Int) < (ml3_1_a.length:Int)))=true)/\((decide ((0:Int) < (ml3_1_a.length:Int)))=true->(decide ((0:Int) < (ml3_1_a.length:Int)))=true)/\((decide ((0:Int) < (ml3_1_a.length:Int)))=true->0<=(((ml3_1_a.length:Int):Int) - 1)/\(((ml3_1_a.length:Int):Int) - 1) < (ml3_1_a.length:Int))/\((decide ((0:Int) < (ml3_1_a.length:Int)))=true->(decide ((0:Int) < (ml3_1_a.length:Int)))=true)/\((decide ((0:Int) < (ml3_1_a.length:Int)))=true->(decide ((0:Int) < (ml3_1_a.length:Int)))=true)/\((decide ((0:Int) < (ml3_1_a.length:Int)))=true->(decide ((0:Int) < (ml3_1_a.length:Int)))=true)/\(((bif (decide ((0:Int) < (ml3_1_a.length:Int))) then (((List.getD ml3_1_a (Int.toNat (((ml3_1_a.length:Int):Int) - 1)) (0:Int)):Int)==0) else false)=true->(InR (((ml3_1_a.length:Int):Int) - 1))/\(0<=(((ml3_1_a.length:Int):Int) - 1)/\(((ml3_1_a.length:Int):Int) - 1)<=(ml3_1_a.length:Int))/\(N1 (Z27 t ml3_2 (List.take (Int.toNat (((ml3_1_a.length:Int):Int) - 1)) ml3_1_a))))/\((bif (decide ((0:Int) < (ml3_1_a.length:Int))) then (((List.getD ml3_1_a (Int.toNat (((ml3_1_a.length:Int):Int) - 1)) (0:Int)):Int)==0) else false)=false->Zo (AW (Z1 (Y7 N)) Try.f24 JB [1,1,1,1,0,1,0,1,0,0]) (Z26 t ml3_1_a ml3_2) (xB 4 (SW (Z1 (Y7 N)) Try.f24 JB [1,1,1,1,1] Q))))):
  AW (Z1 (Y7 N)) Try.f24 JB [1,1,1,1,0,1,0,0,0,0] (Z27 t ml3_2 ml3_1_a) (xT N1 (xB 2 (SW (Z1 (Y7 N)) Try.f24 JB [1,1,1,1,0,1,0,1] (SW (Z1 (Y7 N)) Try.f24 JB [1,1,1,1,1] Q)))):=by
 have e:(AW (Z1 (Y7 N)) Try.f24 JB [1,1,1,1,0,1,0,0,0,0] (Z27 t ml3_2 ml3_1_a) (xT N1 (xB 2 (SW (Z1 (Y7 N)) Try.f24 JB [1,1,1,1,0,1,0,1] (SW (Z1 (Y7 N)) Try.f24 JB [1,1,1,1,1] Q)))))=(type_of% h):=by kernel_rfl
 exact e.mpr h
theorem Zh0(N:Nat)(t:Tree)(ml3_1_a:List Int)(ml3_2_b:List Tree)(N2:NT)(Q:QT)(h:((decide ((0:Int) < (ml3_2_b.length:Int)))=true->(decide ((0:Int) < (ml3_2_b.length:Int)))=true)/\((decide ((0:Int) < (ml3_2_b.length:Int)))=true->(decide ((0:Int) < (ml3_2_b.length:Int)))=true)/\((decide ((0:Int) < (ml3_2_b.length:Int)))=true->(decide ((0:Int) < (ml3_2_b.length:Int)))=true)/\((decide ((0:Int) < (ml3_2_b.length:Int)))=true->(decide ((0:Int) < (ml3_2_b.length:Int)))=true)/\((decide ((0:Int) < (ml3_2_b.length:Int)))=true->InR (((ml3_2_b.length:Int):Int) - 1))/\((decide ((0:Int) < (ml3_2_b.length:Int)))=true->(decide ((0:Int) < (ml3_2_b.length:Int)))=true)/\((decide ((0:Int) < (ml3_2_b.length:Int)))=true->(decide ((0:Int) < (ml3_2_b.length:Int)))=true)/\((decide ((0:Int) < (ml3_2_b.length:Int)))=true->0<=(((ml3_2_b.length:Int):Int) - 1)/\(((ml3_2_b.length:Int):Int) - 1) < (ml3_2_b.length:Int))/\((decide ((0:Int) < (ml3_2_b.length:Int)))=true->(decide ((0:Int) < (ml3_2_b.length:Int)))=true)/\((decide ((0:Int) < (ml3_2_b.length:Int)))=true->(decide ((0:Int) < (ml3_2_b.length:Int)))=true)/\((decide ((0:Int) < (ml3_2_b.length:Int)))=true->(decide ((0:Int) < (ml3_2_b.length:Int)))=true)/\((decide ((0:Int) < (ml3_2_b.length:Int)))=true->(decide ((0:Int) < (ml3_2_b.length:Int)))=true)/\(((bif (decide ((0:Int) < (ml3_2_b.length:Int))) then (((Tree.kind (List.getD ml3_2_b (Int.toNat (((ml3_2_b.length:Int):Int) - 1)) Tree.nil)):Int)==0) else false)=true->(InR (((ml3_2_b.length:Int):Int) - 1))/\(0<=(((ml3_2_b.length:Int):Int) - 1)/\(((ml3_2_b.length:Int):Int) - 1)<=(ml3_2_b.length:Int))/\(N2 (Z26 t ml3_1_a (List.take (Int.toNat (((ml3_2_b.length:Int):Int) - 1)) ml3_2_b))))/\((bif (decide ((0:Int) < (ml3_2_b.length:Int))) then (((Tree.kind (List.getD ml3_2_b (Int.toNat (((ml3_2_b.length:Int):Int) - 1)) Tree.nil)):Int)==0) else false)=false->(Q .ret (L2 [pL 2] [(.loc 2,[ci t.kind,sU .u64 ml3_1_a .unk,sU .tree ml3_2_b .unk])]))))):
  AW (Z1 (Y7 N)) Try.f24 JB [1,1,1,1,0,1,0,1,0,0] (Z26 t ml3_1_a ml3_2_b) (xT N2 (xB 4 (SW (Z1 (Y7 N)) Try.f24 JB [1,1,1,1,1] Q))):=by
 have e:(AW (Z1 (Y7 N)) Try.f24 JB [1,1,1,1,0,1,0,1,0,0] (Z26 t ml3_1_a ml3_2_b) (xT N2 (xB 4 (SW (Z1 (Y7 N)) Try.f24 JB [1,1,1,1,1] Q))))=(type_of% h):=by kernel_rfl
 exact e.mpr h
def ZlP(N:Nat)(t:Tree):Prop:=AW (Z1 (Y7 N)) Try.f24 JB [] (Zs (Zj2.can (t,())) []) (EQ Try.f24 (Z7x (t,())) [])
theorem Zka(c37:CT 37 Z1C)(hb:∀ (N:Nat) (t:Tree) (_:Unit),Z4Y (t,())->Zdc (t,()) < N+1->ZlP N t):CT 24 Z6d:=
 Jg (μ:=Zdc) (l:=[(37,Z1C)]) Zf rfl (⟨c37,trivial⟩) JB Try.func24 rfl rfl 1 (fun _=> rfl) (by decide) (fun N ⟨t,_⟩=> hb N t ())
end
theorem Z6e:∀ {ks:List Tree} {i:Nat},Z42 ks->i < ks.length->Z6f (ks.getD i Tree.nil)
 | t ::_,0,h,_=> by simp only [Z42] at h;exact h.1
 | _ ::r,i+1,h,hi=> by simp only [Z42] at h;exact Z6e (ks:=r) (i:=i) h.2 (by simpa using hi)
theorem JR:∀ {ks:List Tree} {i:Nat},i < ks.length->ZE (ks.getD i Tree.nil)<=Yo ks
 | t ::_,0,_=> by simp only [Yo,List.getD_cons_zero];omega
 | t ::r,i+1,h=> by
  have:=JR (ks:=r) (i:=i) (by simpa using h)
  simp only [Yo,List.getD_cons_succ]
  omega
mutual
theorem Z0t:∀ (t:Tree) (d l:Int),-1<=ZG t d l/\ZG t d l<=max l (-1)
 | .mk _ w ks,d,l=> by
  simp only [ZG]
  split
  .omega
  .have:=JX ks (d - 1) (l - 1 - w.length) (by omega)
   omega
theorem JX:∀ (ks:List Tree) (d l:Int),-1<=l->-1<=ZM ks d l/\ZM ks d l<=l
 | [],d,l,h=> by simp only [ZM];omega
 | t ::r,d,l,h=> by
  simp only [ZM]
  split
  .omega
  .have h1:=Z0t t d l
   have h2:=JX r d (ZG t d l) h1.1
   omega
end
theorem Z75{ks:List Tree}{i:Nat}{d l:Int}(h:i < ks.length)(hl:0<=l):ZM (ks.drop i) d l=ZM (ks.drop (i+1)) d (ZG (ks.getD i Tree.nil) d l):=by
 rw [Xd h]
 simp only [ZM]
 rw [if_neg (by omega)]
 simp [List.getD,h]
theorem c19:Contract Try.prog cfg 19 Z6b:=by
 refine Zke ?_
 rintro N ⟨k,ws,ks⟩ d l _ ⟨hs,h1,h2,h3,h4⟩ hN
 simp only [Z6f,Zdb,ZE] at*
 refine ZnE N _ _ _ _ ?_
 (simp only [vcS])
 (simp only [Tree.eta,Tree.kind_mk,Tree.words_mk,Tree.kids_mk])
 refine ⟨by unfold InR;omega,by unfold InR;omega,by omega,by omega,fun hc=> ?_,fun hc=> ?_⟩
 .have e:ZG (.mk k ws ks) d l= -1:=by
   simp only [ZG]
   rw [if_pos (by omega)]
  simp only [Z9L,e]
  exact ⟨⟨rfl,⟨⟨rfl,rfl⟩,trivial⟩,trivial⟩,trivial⟩
 .have e:ZG (.mk k ws ks) d l=ZM ks (d - 1) (l - 1 - ws.length):=by
   simp only [ZG]
   rw [if_neg (by omega)]
  simp only [Z9L,e]
  refine Zj (ι:=Int × Int) (fun p=> Z2a (.mk k ws ks) d l p.1 p.2) (fun p=> 0<=p.2/\p.2<=ks.length/\-1<=p.1/\p.1<=l/\ZM (ks.drop p.2.toNat) (d - 1) p.1=ZM ks (d - 1) (l - 1 - ws.length)) (fun p=> ((ks.length:Int) - p.2).toNat) (l - 1 - ws.length,0) rfl ⟨by omega,by omega,by omega,by omega,by simp⟩ ?_
  rintro ⟨l',i⟩ ⟨h5,h6,h7,h8,h9⟩
  dsimp only at*
  refine Zh4 N _ _ _ _ _ _ _ ?_
  (simp only [vcS])
  (simp only [Tree.eta,Tree.kind_mk,Tree.words_mk,Tree.kids_mk])
  refine ⟨by omega,by omega,fun hc=> ?_,fun hc=> ?_⟩
  .have hi:i.toNat < ks.length:=by omega
   have hr:=Z0t (ks.getD i.toNat Tree.nil) (d - 1) l'
   have hn:=JR hi
   have hd:=Z75 (d:=d - 1) hi hc.2
   refine ⟨by omega,by unfold InR;omega,⟨Z6e hs.2.2 hi,by dsimp only;omega,by dsimp only;omega,by dsimp only;omega,by dsimp only;omega⟩,by simp only [Zdb];omega,by unfold InR;omega,⟨(ZG (ks.getD i.toNat Tree.nil) (d - 1) l',i+1),rfl,⟨by dsimp only;omega,by dsimp only;omega,by dsimp only;omega,by dsimp only;omega,?_⟩,by dsimp only;omega⟩⟩
   dsimp only
   rw [<-h9,hd]
   congr 2
   omega
  .have e:ZM ks (d - 1) (l - 1 - ws.length)=l':=by
    rw [<-h9]
    by_cases hi:i < ks.length
    .rw [Xd (by omega)]
     simp only [ZM]
     rw [if_pos (by omega)]
    .rw [QM (by omega)]
     simp only [ZM]
   rw [e]
   exact ⟨⟨rfl,⟨⟨rfl,rfl⟩,trivial⟩,trivial⟩,trivial⟩
theorem c6:Contract Try.prog cfg 6 Z9y:=by
 refine Zmk c19 ?_
 intro t _ hp
 refine vc6 _ _ ?_
 (simp only [Tree.eta,Tree.kind_mk,Tree.words_mk,Tree.kids_mk])
 refine ⟨⟨hp,by dsimp only;omega,by dsimp only;omega,by dsimp only;omega,by dsimp only;omega⟩,?_⟩
 exact ⟨⟨rfl,⟨rfl,trivial⟩,trivial⟩,trivial⟩
theorem c59:Contract Try.prog cfg 59 Z60:=by
 refine ZjQ ?_
 intro t i _ hp
 refine Znb _ _ _ ?_
 (simp only [vcS])
 (repeat (refine And.intro (by first | omega | (unfold InR;omega) | (dsimp only;omega)) ?_))
 refine ⟨fun hc=> ?_,fun hc=> ⟨by omega,?_⟩⟩
 .have e:Z11 t i=0:=by
   unfold Z11
   split
   .try rfl
   .rw [List.getD,X3 (by omega)]
    try rfl
  simp only [ZbO,e]
  exact ⟨⟨rfl,⟨⟨rfl,rfl⟩,trivial⟩,trivial⟩,trivial⟩
 .have e:Z11 t i=t.words.getD i.toNat 0:=by
   unfold Z11
   rw [if_neg (by omega)]
  simp only [ZbO,e]
  exact ⟨⟨rfl,⟨⟨rfl,rfl⟩,trivial⟩,trivial⟩,trivial⟩
theorem Z0G:∀ (ks:List Tree),ks.length<=Yo ks
 | []=> by simp [Yo]
 | t ::r=> by
  have:=Z0G r
  have:1<=ZE t:=by cases t;simp only [ZE];omega
  simp only [Yo,Qv]
  omega
theorem Z3V:∀ (l:List Int),JA (l++[0])=JA l
 | []=> rfl
 | x ::r=> by
  show (match JA (r++[0]) with | []=> if x=0 then [] else [x] | y ::s=> x ::y ::s)=_
  rw [Z3V r]
  try rfl
theorem Z8e{x:Int}(hx:x≠0):∀ (l:List Int),JA (l++[x])=l++[x]
 | []=> by simp [JA,hx]
 | y ::r=> by
  show (match JA (r++[x]) with | []=> if y=0 then [] else [y] | z ::s=> y ::z ::s)=_
  rw [Z8e hx r]
  cases r <;> rfl
theorem Z3X{l:List Int}{i:Int}(h0:0 < i)(hi:i<=l.length):l.take i.toNat=l.take (i - 1).toNat++[l.getD (i - 1).toNat 0]:=by
 have e:i.toNat=(i - 1).toNat+1:=by omega
 rw [e,List.take_add_one]
 simp only [List.getD,Q0 (show (i - 1).toNat < l.length by omega),Option.toList,QE]
theorem c33:Contract Try.prog cfg 33 Z64:=by
 refine Zk5 ?_
 intro l _ hp
 simp only [Z9U] at hp
 refine Znt _ _ ?_
 refine Zj (ι:=Int) (fun p=> Z25 l p) (fun p=> 0<=p/\p<=l.length/\JA (l.take p.toNat)=JA l) (fun p=> p.toNat) (l.length:Int) rfl ⟨by omega,by omega,by simp⟩ ?_
 rintro i ⟨h1,h2,h3⟩
 refine ZgV _ _ _ _ ?_
 (simp only [vcS])
 refine ⟨id,fun h=> by unfold InR;omega,id,id,fun h=> by omega,id,id,id,fun hc=> ⟨by unfold InR;omega,i - 1,rfl,⟨by omega,by omega,?_⟩,by omega⟩,fun hc=> ⟨by omega,?_,?_⟩⟩
 .rw [Z3X hc.1 h2,hc.2,Z3V] at h3
  exact h3
 .simp only [Xb,Qc]
  omega
 .have e:JA l=[]++l.take i.toNat:=by
   rw [<-h3]
   by_cases h0:0 < i
   .rw [Z3X h0 h2,Z8e (by rcases hc with h | h;exact absurd h0 h;exact h)]
    try rfl
   .have:i.toNat=0:=by omega
    rw [this]
    try rfl
  simp only [Zed,e]
  exact ⟨⟨rfl,⟨⟨rfl,trivial⟩,trivial⟩,trivial⟩,trivial⟩
theorem Z9u:∀ (l:List Int),(JA l).length<=l.length
 | []=> by simp [JA]
 | x ::r=> by
  have:=Z9u r
  simp only [JA]
  split
  .split <;> simp
  .rename_i h
   rw [h] at this
   simp at*
   omega
theorem Z5L:∀ (l:List Tree),Yo (YS l)<=Yo l
 | []=> by simp [YS]
 | x ::r=> by
  have:=Z5L r
  simp only [YS]
  split
  .split
   .simp [Yo]
   .simp [Yo]
  .rename_i h
   rw [h] at this
   simp only [Yo] at*
   omega
mutual
theorem Z35:∀ (t:Tree),ZE (Zi t)<=ZE t
 | .mk k w ks=> by
  have h1:=Z6F ks
  have h2:=Z9u w
  have h3:=Z5L (YD ks)
  simp only [Zi]
  split
  .simp only [Tree.nil,ZE,Yo,Xb];omega
  .split
   .simp only [ZE];omega
   .simp only [ZE];omega
theorem Z6F:∀ (ks:List Tree),Yo (YD ks)<=Yo ks
 | []=> by simp [YD]
 | t ::r=> by
  have h1:=Z35 t
  have h2:=Z6F r
  simp only [YD,Yo]
  omega
end
theorem Z4g:∀ (l:List Tree) (x:Tree),YD (l++[x])=YD l++[Zi x]
 | [],x=> rfl
 | y ::r,x=> by simp only [Xi,YD,Z4g r x]
theorem JQ:∀ (l:List Tree),(YD l).length=l.length
 | []=> rfl
 | y ::r=> by simp only [YD,Qv,JQ r]
theorem Z2T{x:Tree}(hx:x.kind=0):∀ (l:List Tree),YS (l++[x])=YS l
 | []=> by simp [YS,hx]
 | y ::r=> by
  show (match YS (r++[x]) with | []=> if y.kind=0 then [] else [y] | z ::s=> y ::z ::s)=_
  rw [Z2T hx r]
  try rfl
theorem Z5K{x:Tree}(hx:x.kind≠0):∀ (l:List Tree),YS (l++[x])=l++[x]
 | []=> by simp [YS,hx]
 | y ::r=> by
  show (match YS (r++[x]) with | []=> if y.kind=0 then [] else [y] | z ::s=> y ::z ::s)=_
  rw [Z5K hx r]
  cases r <;> rfl
theorem Z2U{l:List Tree}{i:Int}(h0:0<=i)(hi:i < l.length):l.take (i+1).toNat=l.take i.toNat++[l.getD i.toNat Tree.nil]:=by
 have e:(i+1).toNat=i.toNat+1:=by omega
 rw [e,List.take_add_one]
 simp only [List.getD,Q0 (show i.toNat < l.length by omega),Option.toList,QE]
theorem c13:Contract Try.prog cfg 13 Z6d:=by
 refine Zkg c33 ?_
 rintro N ⟨k,ws,ks⟩ _ hp hN
 have hlen:=Z0G ks
 simp only [Z4Y,Zdc,ZE] at hp hN
 refine ZnG N _ _ ?_
 (simp only [vcS])
 (simp only [Tree.eta,Tree.kind_mk,Tree.words_mk,Tree.kids_mk])
 refine ⟨fun hc=> ?_,fun hc0=> ?_⟩
 .have e:Zi (.mk k ws ks)=Tree.nil:=by simp [Zi,hc]
  simp only [Z7x,e]
  exact ⟨⟨rfl,⟨⟨rfl,rfl⟩,⟨rfl,⟨rfl,trivial⟩⟩⟩,trivial⟩,trivial⟩
 .refine Zj (ι:=Int × Int × List Tree) (fun p=> Z0Q (.mk k ws ks) p.1 p.2.1 p.2.2) (fun p=> 0<=p.2.1/\p.2.1<=ks.length/\0<=p.1/\p.1<=p.2.1/\p.2.2=YD (ks.take p.2.1.toNat)/\YS (YD (ks.take p.2.1.toNat))=p.2.2.take p.1.toNat) (fun p=> ((ks.length:Int) - p.2.1).toNat) (0,0,[]) rfl ⟨by dsimp only;omega,by dsimp only;omega,by dsimp only;omega,by dsimp only;omega,rfl,rfl⟩ ?_
  rintro ⟨last,i,l⟩ ⟨h1,h2,h3,h4,h5,h6⟩
  dsimp only at*
  have hl:l.length=i.toNat:=by rw [h5,JQ,Qc];omega
  refine Zh6 N _ _ _ _ _ _ ?_
  (simp only [vcS])
  (simp only [Tree.eta,Tree.kind_mk,Tree.words_mk,Tree.kids_mk])
  refine ⟨fun hc=> ?_,fun hc=> ⟨fun h1=> ⟨?_,by omega,?_⟩,fun hk=> ⟨?_,?_⟩⟩⟩
  .have hm:=JR (ks:=ks) (i:=i.toNat) (by omega)
   have hnx:YD (ks.take (i+1).toNat)=l++[Zi (ks.getD i.toNat Tree.nil)]:=by rw [Z2U h1 hc,Z4g,h5]
   refine ⟨by omega,by simp only [Z4Y];omega,by simp only [Zdc];omega,by simp only [Qv,Xb];omega,fun hk=> ⟨by unfold InR;omega,by unfold InR;omega,(i+1,i+1,_),rfl,⟨by dsimp only;omega,by dsimp only;omega,by dsimp only;omega,by dsimp only;omega,hnx.symm,?_⟩,by dsimp only;omega⟩,fun hk=> ⟨by unfold InR;omega,(last,i+1,_),rfl,⟨by dsimp only;omega,by dsimp only;omega,by dsimp only;omega,by dsimp only;omega,hnx.symm,?_⟩,by dsimp only;omega⟩⟩
   .dsimp only
    rw [hnx,Z5K hk,Qw (by simp;omega)]
   .dsimp only
    rw [hnx,Z2T hk,List.take_append_of_le_length (by omega),<-h6,h5]
  .simp only [Z9U];omega
  .have hi:ks.take i.toNat=ks:=Qw (by omega)
   rw [hi] at h5 h6
   have e:Zi (.mk k ws ks)= .mk 1 (JA ws) (l.take last.toNat):=by
    subst h1
    simp only [Zi,<-h6]
    try rfl
   simp only [Z7x,e]
   exact ⟨⟨rfl,⟨⟨rfl,rfl⟩,⟨rfl,trivial⟩,⟨rfl,trivial⟩,trivial⟩,trivial⟩,trivial⟩
  .simp only [Xb];omega
  .have hi:ks.take i.toNat=ks:=Qw (by omega)
   rw [hi] at h5
   have e:Zi (.mk k ws ks)= .mk k ([]++ws) l:=by
    simp only [Zi,if_neg hc0,if_neg hk,h5]
    try rfl
   simp only [Z7x,e]
   exact ⟨⟨rfl,⟨⟨rfl,rfl⟩,⟨rfl,trivial⟩,⟨rfl,trivial⟩,trivial⟩,trivial⟩,trivial⟩
theorem Zci{l:List Int}(h0:0 < (l.length:Int)):l=l.take ((l.length:Int) - 1).toNat++[l.getD ((l.length:Int) - 1).toNat 0]:=by
 have:=Z3X h0 (XY _)
 rw [Qw (by omega)] at this
 exact this
theorem Za7{l:List Tree}(h0:0 < (l.length:Int)):l=l.take ((l.length:Int) - 1).toNat++[l.getD ((l.length:Int) - 1).toNat Tree.nil]:=by
 have:=Z2U (l:=l) (i:=(l.length:Int) - 1) (by omega) (by omega)
 rw [Qw (by omega)] at this
 exact this
theorem ZcL{l:List Int}(h0:0 < (l.length:Int))(hz:l.getD ((l.length:Int) - 1).toNat 0=0):JA (l.take ((l.length:Int) - 1).toNat)=JA l:=by
 have e:=Z3V (l.take ((l.length:Int) - 1).toNat)
 have h:=Zci h0
 rw [hz] at h
 rw [<-h] at e
 exact e.symm
theorem ZcM{l:List Int}(h:¬0 < (l.length:Int)\/¬l.getD ((l.length:Int) - 1).toNat 0=0):JA l=l:=by
 by_cases h0:0 < (l.length:Int)
 .have e:=Z8e (x:=l.getD ((l.length:Int) - 1).toNat 0) (by rcases h with h | h;exact absurd h0 h;exact h) (l.take ((l.length:Int) - 1).toNat)
  rw [<-Zci h0] at e
  exact e
 .have:l=[]:=Q5 (by omega)
  subst this
  try rfl
theorem ZaB{l:List Tree}(h0:0 < (l.length:Int))(hz:(l.getD ((l.length:Int) - 1).toNat Tree.nil).kind=0):YS (l.take ((l.length:Int) - 1).toNat)=YS l:=by
 have e:=Z2T hz (l.take ((l.length:Int) - 1).toNat)
 rw [<-Za7 h0] at e
 exact e.symm
theorem ZaC{l:List Tree}(h:¬0 < (l.length:Int)\/¬(l.getD ((l.length:Int) - 1).toNat Tree.nil).kind=0):YS l=l:=by
 by_cases h0:0 < (l.length:Int)
 .have e:=Z5K (x:=l.getD ((l.length:Int) - 1).toNat Tree.nil) (by rcases h with h | h;exact absurd h0 h;exact h) (l.take ((l.length:Int) - 1).toNat)
  rw [<-Za7 h0] at e
  exact e
 .have:l=[]:=Q5 (by omega)
  subst this
  try rfl
theorem c24:Contract Try.prog cfg 24 Z6d:=by
 refine Zka c37 ?_
 rintro N ⟨k,ws,ks⟩ _ hp hN
 have hlen:=Z0G ks
 simp only [Z4Y,Zdc,ZE] at hp hN
 refine Znz N _ _ ?_
 (simp only [vcS])
 (simp only [Tree.eta,Tree.kind_mk,Tree.words_mk,Tree.kids_mk])
 refine ⟨fun hc=> ?_,fun hc0=> ⟨by simp only [Z7L];omega,?_⟩⟩
 .have e:Zi (.mk k ws ks)=Tree.nil:=by simp [Zi,hc]
  simp only [Z7x,e]
  exact ⟨⟨rfl,⟨⟨rfl,rfl⟩,⟨rfl,⟨rfl,trivial⟩⟩⟩,trivial⟩,trivial⟩
 .refine Zj (ι:=Int × List Tree) (fun p=> Z28 (.mk k ws ks) p.1 p.2) (fun p=> 0<=p.1/\p.1<=ks.length/\p.2=YD (ks.take p.1.toNat)) (fun p=> ((ks.length:Int) - p.1).toNat) (0,[]) rfl ⟨by dsimp only;omega,by dsimp only;omega,rfl⟩ ?_
  rintro ⟨i,l⟩ ⟨h1,h2,h5⟩
  dsimp only at*
  have hl:l.length=i.toNat:=by rw [h5,JQ,Qc];omega
  refine Zh2 N _ _ _ _ _ ?_
  (simp only [vcS])
  (simp only [Tree.eta,Tree.kind_mk,Tree.words_mk,Tree.kids_mk])
  refine ⟨fun hc=> ?_,fun hc=> ⟨fun hk=> ?_,fun hk=> ?_⟩⟩
  .have hm:=JR (ks:=ks) (i:=i.toNat) (by omega)
   have hnx:YD (ks.take (i+1).toNat)=l++[Zi (ks.getD i.toNat Tree.nil)]:=by rw [Z2U h1 hc,Z4g,h5]
   exact ⟨by omega,by simp only [Z4Y];omega,by simp only [Zdc];omega,by simp only [Qv,Xb];omega,by unfold InR;omega,(i+1,_),rfl,⟨by dsimp only;omega,by dsimp only;omega,hnx.symm⟩,by dsimp only;omega⟩
  .have hi:ks.take i.toNat=ks:=Qw (by omega)
   rw [hi] at h5
   refine Zj (ι:=List Int) (fun p=> Z27 (.mk k ws ks) l p) (fun p=> p.length<=ws.length/\JA p=JA ws) (fun p=> p.length) ws rfl ⟨by omega,rfl⟩ ?_
   rintro w ⟨h6,h7⟩
   refine Zh1 N _ _ _ _ _ ?_
   (simp only [vcS])
   refine ⟨id,id,id,id,fun h=> by unfold InR;omega,id,id,fun h=> by omega,id,id,id,fun hc=> ⟨by unfold InR;omega,by omega,_,rfl,⟨by rw [List.length_take];omega,?_⟩,by rw [List.length_take];omega⟩,fun hc=> ?_⟩
   .rw [ZcL hc.1 hc.2,h7]
   .have hw:w=JA ws:=by rw [<-h7,ZcM hc]
    refine Zj (ι:=List Tree) (fun p=> Z26 (.mk k ws ks) w p) (fun p=> p.length<=l.length/\YS p=YS l) (fun p=> p.length) l rfl ⟨by omega,rfl⟩ ?_
    rintro q ⟨h8,h9⟩
    refine Zh0 N _ _ _ _ _ ?_
    (simp only [vcS])
    refine ⟨id,id,id,id,fun h=> by unfold InR;omega,id,id,fun h=> by omega,id,id,id,id,fun hc=> ⟨by unfold InR;omega,by omega,_,rfl,⟨by rw [List.length_take];omega,?_⟩,by rw [List.length_take];omega⟩,fun hc=> ?_⟩
    .rw [ZaB hc.1 hc.2,h9]
    .have hq:q=YS (YD ks):=by rw [<-h5,<-h9,ZaC hc]
     have e:Zi (.mk k ws ks)= .mk k w q:=by
      subst hk
      simp only [Zi,hw,hq]
      try rfl
     simp only [Z7x,e]
     exact ⟨⟨rfl,⟨⟨rfl,rfl⟩,⟨rfl,trivial⟩,⟨rfl,trivial⟩,trivial⟩,trivial⟩,trivial⟩
  .have hi:ks.take i.toNat=ks:=Qw (by omega)
   rw [hi] at h5
   have e:Zi (.mk k ws ks)= .mk k ws l:=by simp only [Zi,if_neg hc0,if_neg hk,h5]
   simp only [Z7x,e]
   exact ⟨⟨rfl,⟨⟨rfl,rfl⟩,⟨rfl,trivial⟩,⟨rfl,trivial⟩,trivial⟩,trivial⟩,trivial⟩
def frW:List Tree->Nat
 | []=> 0
 | t ::r=> max t.words.length (frW r)
def frK:List Tree->Nat
 | []=> 0
 | t ::r=> max t.kids.length (frK r)
mutual
def Z1G:Tree->Nat
 | .mk k w ks=>
  if k=1 then w.length+ks.length+Z1H ks
  else if k=8 then ks.length+Z1H ks
  else if k=9 then 1+ks.length*(frW ks+frK ks)+Z7m ks
  else if 2<=k/\k<=7 then (ZU (k - 2) ks.length).toNat
  else Z1H ks
def Z1H:List Tree->Nat
 | []=> 0
 | t ::r=> Z1G t+Z1H r
def Z7m:List Tree->Nat
 | []=> 0
 | .mk _ _ ks ::r=> Z1H ks+Z7m r
end
def Z0b(a to kind up:Int):Int:=4*((to - a - 1) % 1073741824)+kind+4294967296*up
def Zab(a to:Int):Tree->Int
 | .mk k w ks=>
  if k=0 then 0
  else if k=1 then Z0b a (if w.length+ks.length=0 then a else to) 0 (w.length+65536*ks.length)
  else if k=8 then Z0b a to 1 (6+8*ks.length)
  else if k=9 then Z0b a to 1 (7+8*(ks.length*(frW ks+frK ks):Nat))
  else Z0b a to 1 (k - 2+8*ks.length)
def Z3g(n fw fk:Nat):Int:=4*n+4294967296*(fw+65536*fk)
def Y9(ks:List Tree):List Int:=ks.map fun t=> t.words.getD 0 0
mutual
def Z91:Tree->Int->List Int
 | .mk k w ks,to=>
  if k=0 then []
  else if k=1 then w++((JE ks (to+w.length) (to+w.length+ks.length)).1++(JE ks (to+w.length) (to+w.length+ks.length)).2)
  else if k=8 then (JE ks to (to+ks.length)).1++(JE ks to (to+ks.length)).2
  else if k=9 then Z3g ks.length (frW ks) (frK ks) ::((Z2K (frW ks) (frK ks) ks (to+1) (to+1+(ks.length*(frW ks+frK ks):Nat))).1++(Z2K (frW ks) (frK ks) ks (to+1) (to+1+(ks.length*(frW ks+frK ks):Nat))).2)
  else ZF (k - 2) (Y9 ks)
def JE:List Tree->Int->Int->List Int × List Int
 | [],_,_=> ([],[])
 | t ::r,a,to=> (Zab a to t ::(JE r (a+1) (to+(Z91 t to).length)).1,Z91 t to++(JE r (a+1) (to+(Z91 t to).length)).2)
def Z2K(fw fk:Nat):List Tree->Int->Int->List Int × List Int
 | [],_,_=> ([],[])
 | .mk _ w ks ::r,a,to=>
  (w++(List.replicate (fw - w.length) 0++((JE ks (a+fw) to).1++(List.replicate (fk - ks.length) 0++(Z2K fw fk r (a+(fw+fk)) (to+(JE ks (a+fw) to).2.length)).1))),
   (JE ks (a+fw) to).2++(Z2K fw fk r (a+(fw+fk)) (to+(JE ks (a+fw) to).2.length)).2)
end
def Zdg(l:List Int)(a:Int)(t:Tree):List Int:=if t.kind=0 then l else l.set a.toNat (Zab a l.length t)++Z91 t l.length
def Zai(t:Tree)(most:Int):List Int × Bool:=
 if Z6 t 64=true/\t.kind≠10 then
  if (Z1G (Zi t):Int) < most/\Z1G (Zi t) < 131072 then (Zdg [0] 0 (Zi t),true) else ([],false)
 else ([],false)
def ZO(size most:Int):Arena:=⟨[],max size 1,min (max most 0) 131072,0⟩
def Yp(a:Arena)(s n:Int):Arena:=⟨a.segs.set s.toNat (Za a.segs s++List.replicate n.toNat 0),a.size,a.most,a.used+n⟩
def JD(a:Arena)(s n:Int):Bool:=decide (n<=a.size - ((Za a.segs s).length:Int))
def Yj(a:Arena)(s n:Int):Bool:=decide (0<=s/\s < (a.segs.length:Int)/\0<=n/\n<=a.most - a.used) && JD a s n
def inA(a:Arena)(s n:Int):Arena:=if Yj a s n then Yp a s n else a
def Z0(a:Arena)(n:Int):Bool:=decide (0<=n/\n<=a.most - a.used)
def Yl(a:Arena)(n:Int):Arena:=if a.segs.length=0\/(JD a ((a.segs.length:Int) - 1) n=false/\a.segs.length < 16) then ⟨a.segs++[[]],a.size,a.most,a.used⟩ else a
def giveS(a:Arena)(n:Int):Int:=((Yl a n).segs.length:Int) - 1
def giveT(a:Arena)(n:Int):Int:=((Za (Yl a n).segs (giveS a n)).length:Int)
def Z5(a:Arena)(n:Int):Arena:=if Z0 a n then Yp (Yl a n) (giveS a n) n else a
def ZD(a:Arena)(s at_ w:Int):Arena:=if Y2 a.segs s at_ 1 then ⟨a.segs.set s.toNat ((Za a.segs s).set at_.toNat w),a.size,a.most,a.used⟩ else a
structure OkAr (a:Arena):Prop where
 used:0<=a.used/\a.used<=a.most/\a.most<=131072
 size:1<=a.size/\a.size < 9223372036854775808
 few:a.segs.length<=16
 segs:∀ l∈a.segs,(l.length:Int)<=a.used/\∀ x∈l,0<=x/\x < 18446744073709551616
def arO:Option Arena->Arena
 | none=> ZO 1 0
 | some y=> y
theorem Z2y:∀ (ks:List Tree) (a to:Int),(JE ks a to).1.length=ks.length
 | [],_,_=> by rw [JE];try rfl
 | t ::r,a,to=> by rw [JE,Qv,Qv,Z2y r]
theorem ZcO{ks:List Tree}{i:Nat}(h:i < ks.length):ks.take (i+1)=ks.take i++[ks.getD i Tree.nil]:=by
 rw [Q6,Q0 h,QE]
 exact (Xg h).symm
theorem Z7p{fw fk:Nat}:∀ (ks:List Tree) (a to:Int),(∀ t∈ks,t.words.length<=fw/\t.kids.length<=fk)->(Z2K fw fk ks a to).1.length=ks.length*(fw+fk)
 | [],_,_,_=> by rw [Z2K];simp
 | .mk k w l ::r,a,to,h=> by
  have h1:w.length<=fw/\l.length<=fk:=h _ Qz
  rw [Z2K]
  simp only [Qa,Qs,Z2y,Qv]
  rw [Z7p r _ _ fun t ht=> h t (Qk _ ht),Qo]
  omega
theorem Z8S:∀ {ks:List Tree} {t:Tree},t∈ks->t.words.length<=frW ks/\t.kids.length<=frK ks
 | k ::r,t,h=> by
  rw [frW,frK]
  rcases QF.1 h with rfl | h
  .omega
  .have:=Z8S h;omega
theorem Z13{i:Int}:∀ {ks:List Tree} {d:Int} {t:Tree},Yf i ks d=true->t∈ks->Jj i t=true/\Z6 t d=true
 | k ::r,d,t,h,ht=> by
  rw [Yf,Q2,Q2] at h
  rcases QF.1 ht with rfl | ht
  .exact h.1
  .exact Z13 h.2 ht
structure RiT (k:Int) (w:List Int) (ks:List Tree) (d:Int):Prop where
 kind:0<=k/\k<=10
 nil:k=0->w=[]/\ks=[]
 atom:k=10->w.length=1/\ks=[]
 stru:k=1->w.length < 65536/\ks.length < 65536
 list:k≠1->k≠10->w=[]
 len:ks.length < 1048576
 kids:∀ t∈ks,Z6 t (d - 1)=true/\(k≠1->Jj k t=true)/\(k=1\/k=8->t.kind≠10)/\(k=9->t.kind=1)
 data:2<=k->k<=7->YU (k - 2) (Y9 ks)=true/\∀ t∈ks,t.kind=10/\t.kids.length=0/\t.words.length=1
theorem riT{k:Int}{w:List Int}{ks:List Tree}{d:Int}(h:Z6 (.mk k w ks) d=true):RiT k w ks d:=by
 rw [Z6] at h
 split at h
 .rename_i h0
  have:=of_decide_eq_true h
  have h1:=QL.1 this.1
  have h2:=QL.1 this.2
  subst h1 h2
  exact ⟨by omega,fun _=> ⟨rfl,rfl⟩,by omega,by omega,fun _ _=> rfl,by simp,fun t ht=> (by cases ht),by omega⟩
 .split at h
  .have:=of_decide_eq_true h
   have h2:=QL.1 this.2
   subst h2
   exact ⟨by omega,by omega,fun _=> ⟨this.1,rfl⟩,by omega,by omega,by simp,fun t ht=> (by cases ht),by omega⟩
  .split at h
   .cases h
   .split at h
    .rename_i h1
     rw [Q2] at h
     have hw:=of_decide_eq_true h.1
     refine ⟨by omega,by omega,by omega,fun _=> hw,by omega,by omega,fun t ht=> ?_,by omega⟩
     have:=Z13 h.2 ht
     refine ⟨this.2,by omega,fun _=> ?_,by omega⟩
     have hb:=this.1
     unfold Jj at hb
     rw [if_neg (by omega),if_neg (by omega)] at hb
     exact of_decide_eq_true hb
    .rename_i h1
     rw [Q2] at h
     have hw:=of_decide_eq_true h.1
     refine ⟨by omega,by omega,by omega,by omega,fun _ _=> QL.1 hw.2.2.1,by omega,fun t ht=> ?_,fun h2 h7=> ?_⟩
     .have:=Z13 h.2 ht
      refine ⟨this.2,fun _=> this.1,fun h8=> ?_,fun h9=> ?_⟩
      .have hb:=this.1
       unfold Jj at hb
       rw [if_neg (by omega),if_neg (by omega)] at hb
       exact of_decide_eq_true hb
      .have hb:=this.1
       unfold Jj at hb
       rw [if_neg (by omega),if_pos h9] at hb
       exact of_decide_eq_true hb
     .have hk:∀ t∈ks,(t.kind=10/\t.kids.length=0/\t.words.length=1)/\J7 (k - 2) (t.words.getD 0 0)=true:=fun t ht=> by
       have hb:=(Z13 h.2 ht).1
       unfold Jj at hb
       rw [if_pos ⟨h2,h7⟩,Q2] at hb
       exact ⟨of_decide_eq_true hb.1,hb.2⟩
      refine ⟨?_,fun t ht=> (hk t ht).1⟩
      unfold YU
      rw [Q2]
      refine ⟨decide_eq_true ?_,Q9.2 fun x hx=> ?_⟩
      .unfold wd;repeat' split
       all_goals omega
      .obtain ⟨t,ht,rfl⟩:=Xh.1 hx
       exact (hk t ht).2
mutual
theorem Zao:∀ (t:Tree) (d to:Int),Z6 t d=true->t.kind≠10->(Z91 t to).length=Z1G t
 | .mk k w ks,d,to,h,h10=> by
  have hr:=riT h
  have h10:k≠10:=h10
  rw [Z91,Z1G]
  split
  .rename_i h0
   subst h0
   rw [if_neg (by decide),if_neg (by decide),if_neg (by decide),if_neg (by decide),(hr.nil rfl).2]
   try rfl
  .rename_i h0
   split
   .rename_i h1
    rw [Qa,Qa,Z2y,Z2z ks (d - 1) _ _ fun t ht=> ⟨(hr.kids t ht).1,(hr.kids t ht).2.2.1 (.inl h1)⟩]
    omega
   .split
    .rename_i h8
     rw [Qa,Z2y,Z2z ks (d - 1) _ _ fun t ht=> ⟨(hr.kids t ht).1,(hr.kids t ht).2.2.1 (.inr h8)⟩]
    .split
     .rename_i h9
      rw [Qv,Qa,Z7p ks _ _ fun t ht=> Z8S ht,Z7q (frW ks) (frK ks) ks (d - 1) _ _ fun t ht=> ⟨(hr.kids t ht).1,(hr.kids t ht).2.2.2 h9⟩]
      omega
     .have hk:=hr.kind
      rw [if_pos (by omega)]
      unfold ZF
      rw [if_pos (hr.data (by omega) (by omega)).1,Z9P,Y9,QP]
theorem Z2z:∀ (ks:List Tree) (d a to:Int),(∀ t∈ks,Z6 t d=true/\t.kind≠10)->(JE ks a to).2.length=Z1H ks
 | [],_,_,_,_=> by rw [JE,Z1H];try rfl
 | t ::r,d,a,to,h=> by
  have h1:=h t Qz
  rw [JE,Z1H,Qa,Zao t d to h1.1 h1.2,Z2z r d _ _ fun t ht=> h t (Qk _ ht)]
theorem Z7q(fw fk:Nat):∀ (ks:List Tree) (d a to:Int),(∀ t∈ks,Z6 t d=true/\t.kind=1)->(Z2K fw fk ks a to).2.length=Z7m ks
 | [],_,_,_,_=> by rw [Z2K,Z7m];try rfl
 | .mk k w l ::r,d,a,to,h=> by
  have h1:=h _ Qz
  have h1k:k=1:=h1.2
  have hr:=riT h1.1
  rw [Z2K,Z7m,Qa,Z2z l (d - 1) _ _ fun t ht=> ⟨(hr.kids t ht).1,(hr.kids t ht).2.2.1 (.inl h1k)⟩,Z7q fw fk r d _ _ fun t ht=> h t (Qk _ ht)]
end
def zs(n:Nat):List Int:=List.replicate n 0
@[simp] theorem ZmL (n:Nat):(zs n).length=n:=by simp [zs]
def Fit(fw fk:Nat)(ks:List Tree):Prop:=∀ t∈ks,t.words.length<=fw/\t.kids.length<=fk
def Zt(p:Ptr):Int:=
 if p.kind=1 then (if (-536870912<=p.off/\p.off < 536870912)/\(0<=p.data/\p.data<=65535)/\0<=p.ptrs/\p.ptrs<=65535 then 4*(p.off % 1073741824)+4294967296*(p.data+65536*p.ptrs) else 0)
 else if p.kind=2 then (if (-536870912<=p.off/\p.off < 536870912)/\(0<=p.code/\p.code<=7)/\0<=p.count/\p.count<=536870911 then 4*(p.off % 1073741824)+1+4294967296*(p.code+8*p.count) else 0)
 else if p.kind=3 then (if (0<=p.off/\p.off<=536870911)/\0<=p.segment/\p.segment<=4294967295 then 8*p.off+2+(if p.double=true then 4 else 0)+4294967296*p.segment else 0)
 else 0
def eqP(p q:Ptr):Bool:=p.kind==q.kind && (p.off==q.off && (p.data==q.data && (p.ptrs==q.ptrs && (p.code==q.code && (p.count==q.count && (p.segment==q.segment && (p.double==q.double && true)))))))
theorem Zah(p:Ptr):eqP p p=true:=by simp [eqP]
theorem Zce{o:Int}(h: -536870912<=o/\o < 536870912):(if 536870912<=o % 1073741824 then o % 1073741824 - 1073741824 else o % 1073741824)=o:=by
 split <;> omega
theorem Zbj{o d p:Int}(ho: -536870912<=o/\o < 536870912)(hd:0<=d/\d < 65536)(hp:0<=p/\p < 65536)(hz:¬(o=0/\d=0/\p=0)):
  Zh (4*(o % 1073741824)+0+4294967296*(d+65536*p))=⟨1,o,d,p,0,0,0,false⟩:=by
 have e0:(4*(o % 1073741824)+0+4294967296*(d+65536*p)) / 4 % 1073741824=o % 1073741824:=by omega
 unfold Zh Za1
 rw [if_neg (by omega),if_pos (by omega),e0,Zce ho]
 congr 1 <;> omega
theorem ZfL{o c n:Int}(ho: -536870912<=o/\o < 536870912)(hc:0<=c/\c < 8)(hn:0<=n/\n < 536870912):
  Zh (4*(o % 1073741824)+1+4294967296*(c+8*n))=⟨2,o,0,0,c,n,0,false⟩:=by
 have e0:(4*(o % 1073741824)+1+4294967296*(c+8*n)) / 4 % 1073741824=o % 1073741824:=by omega
 unfold Zh Za1
 rw [if_neg (by omega),if_neg (by omega),if_pos (by omega),e0,Zce ho]
 congr 1 <;> omega
def Z4Z(p:Ptr):Prop:=
 (p.kind=1/\(0<=p.data/\p.data < 65536)/\(0<=p.ptrs/\p.ptrs < 65536)/\p.code=0/\p.count=0\/p.kind=2/\p.data=0/\p.ptrs=0/\(0<=p.code/\p.code < 8)/\0<=p.count/\p.count < 536870912)/\p.segment=0/\p.double=false
def ZQ(a:Arena)(s:Int):Int:=if s < 0\/(a.segs.length:Int)<=s then -1 else ((Za a.segs s).length:Int)
def Zk:List Int->Arena->Int->Int->Arena
 | [],a,_,_=> a
 | w ::r,a,s,i=> Zk r (ZD a s i w) s (i+1)
def kdP(p:Ptr):Int:=if p.kind=1 then 0 else 1
def upP(p:Ptr):Int:=if p.kind=1 then p.data+65536*p.ptrs else p.code+8*p.count
def pwA(fr to k up:Int):Int:=if k=0/\up=0 then 4294967292 else Z0b fr to k up
def J8(d:Bool)(s i:Int):Int:=2+(if d=true then 4 else 0)+8*i+4294967296*s
def endA(a:Arena)(s:Int):Int:=((Za a.segs s).length:Int)
def Zu(a:Arena)(s i s' i' k up:Int):Arena × Bool:=
 if s=s'\/(k=0/\up=0) then (ZD a s i (pwA i i' k up),true)
 else if Yj a s' 1 then (ZD (ZD (inA a s' 1) s i (J8 false s' (endA a s'))) s' (endA a s') (pwA (endA a s') i' k up),true)
 else if Z0 a 2 then (ZD (ZD (ZD (Z5 a 2) s i (J8 true (giveS a 2) (giveT a 2))) (giveS a 2) (giveT a 2) (J8 false s' i')) (giveS a 2) (giveT a 2+1) (k+4294967296*up),true)
 else (a,false)
def ZW(a:Arena)(s i n k up:Int):Arena × Bool:=
 if Z0 a n then Zu (Z5 a n) s i (giveS a n) (giveT a n) k up else (a,false)
def YG(b:Arena × Bool)(f:Arena->Arena × Bool):Arena × Bool:=bif b.2 then f b.1 else b
mutual
def Zx:Tree->Arena->Int->Int->Arena × Bool
 | .mk k w ks,a,s,i=>
  if k=0 then (a,true)
  else if k=1 then YG (ZW a s i (w.length+ks.length) 0 (w.length+65536*ks.length)) fun b=>
   ZL ks (Zk w b (giveS a (w.length+ks.length)) (giveT a (w.length+ks.length))) (giveS a (w.length+ks.length)) (giveT a (w.length+ks.length)+w.length)
  else if k=8 then YG (ZW a s i ks.length 1 (6+8*ks.length)) fun b=> ZL ks b (giveS a ks.length) (giveT a ks.length)
  else if k=9 then YG (ZW a s i (1+ks.length*((frW ks:Int)+frK ks)) 1 (7+8*(ks.length*((frW ks:Int)+frK ks)))) fun b=>
   JY (frW ks) (frK ks) ks (ZD b (giveS a (1+ks.length*((frW ks:Int)+frK ks))) (giveT a (1+ks.length*((frW ks:Int)+frK ks))) (Z3g ks.length (frW ks) (frK ks)))
    (giveS a (1+ks.length*((frW ks:Int)+frK ks))) (giveT a (1+ks.length*((frW ks:Int)+frK ks))+1)
  else YG (ZW a s i (ZF (k - 2) (Y9 ks)).length 1 (k - 2+8*ks.length)) fun b=>
   (Zk (ZF (k - 2) (Y9 ks)) b (giveS a (ZF (k - 2) (Y9 ks)).length) (giveT a (ZF (k - 2) (Y9 ks)).length),true)
def ZL:List Tree->Arena->Int->Int->Arena × Bool
 | [],a,_,_=> (a,true)
 | t ::r,a,s,i=> YG (Zx t a s i) fun b=> ZL r b s (i+1)
def JY(fw fk:Nat):List Tree->Arena->Int->Int->Arena × Bool
 | [],a,_,_=> (a,true)
 | .mk _ w ks ::r,a,s,i=> YG (ZL ks (Zk w a s i) s (i+fw)) fun b=> JY fw fk r b s (i+((fw:Int)+fk))
end
def Z4(t:Tree)(size most:Int):Arena × Bool:=
 if Z6 t 64=true/\t.kind≠10 then
  if Z0 (ZO size most) 1 then Zx (Zi t) (Z5 (ZO size most) 1) (giveS (ZO size most) 1) (giveT (ZO size most) 1) else (ZO size most,false)
 else (ZO size most,false)
noncomputable section
def Z7H(a:Option Arena × Unit):Prop:=(∃ y,a.1=some y/\OkAr y)
def Zit(a:Option Arena × Unit):V U:= .c (ci ((arO a.1).most - (arO a.1).used))
def Z1A:Fs U:=fs Zcx (fun a=> [Z7H a]) Zit
def Zg3:ArgL (Option Arena × Int × Int × Unit):=(.cons (aPo .arena) (.cons (Zv .i64) (.cons (Zv .i64) .nil)))
def Z7G(a:Option Arena × Int × Int × Unit):Prop:=(∃ y,a.1=some y/\OkAr y)
def Zis(a:Option Arena × Int × Int × Unit):V U:= .c (.bool (JD (arO a.1) a.2.1 a.2.2.1))
def Z1z:Fs U:=fs Zg3 (fun a=> [Z7G a]) Zis
def Z98:ArgM (Arena × Int × Int × Unit):=(.lst cAr (.cons (Zv .i64) (.cons (Zv .i64) .nil)))
def Z4T(a:Arena × Int × Int × Unit):Prop:=OkAr a.1/\(0<=a.2.1/\a.2.1 < a.1.segs.length)/\0<=a.2.2.1/\a.2.2.1<=a.1.most - a.1.used
def Zir(a:Arena × Int × Int × Unit):V U:= .c (ci ((Za a.1.segs a.2.1).length:Int))
def ZdU(a:Arena × Int × Int × Unit):List (List (C U)):=[]
def Ze4(a:Arena × Int × Int × Unit):List (Tok × LC U):=[(.A,LC.mk (U:=U) .arena [Yp a.1 a.2.1 a.2.2.1] 0)]
def Z1y:Fs U:=(Ys Z98 (fun a=> [Z4T a]) Zir ZdU Ze4).passing [0]
def Zc0(a:Arena × Int × Int × Unit):Prop:=OkAr a.1
def ZbM(a:Arena × Int × Int × Unit):V U:= .tup [(false,[ci (if Yj a.1 a.2.1 a.2.2.1 then ((Za a.1.segs a.2.1).length:Int) else 0)]),(false,[.bool (Yj a.1 a.2.1 a.2.2.1)])]
def Z8u(a:Arena × Int × Int × Unit):List (Tok × LC U):=[(.A,LC.mk (U:=U) .arena [inA a.1 a.2.1 a.2.2.1] 0)]
def Z5W:Fs U:=(Ys Z98 (fun a=> [Zc0 a]) ZbM ZdU Z8u).passing [0]
def Z9g:ArgM (Arena × Int × Unit):=(.lst cAr (.cons (Zv .i64) .nil))
def Zc6(a:Arena × Int × Unit):Prop:=OkAr a.1
def Z9J(a:Arena × Int × Unit):V U:= .tup [(false,[ci (if Z0 a.1 a.2.1 then giveS a.1 a.2.1 else 0)]),(false,[ci (if Z0 a.1 a.2.1 then giveT a.1 a.2.1 else 0)]),(false,[.bool (Z0 a.1 a.2.1)])]
def Ze0(a:Arena × Int × Unit):List (List (C U)):=[]
def Z6s(a:Arena × Int × Unit):List (Tok × LC U):=[(.A,LC.mk (U:=U) .arena [Z5 a.1 a.2.1] 0)]
def Z62:Fs U:=(Ys Z9g (fun a=> [Zc6 a]) Z9J Ze0 Z6s).passing [0]
def Z94:ArgM (Arena × Int × Int × Int × Unit):=(.lst cAr (.cons (Zv .i64) (.cons (Zv .i64) (.cons (Zv .u64) .nil))))
def ZbZ(a:Arena × Int × Int × Int × Unit):Prop:=OkAr a.1/\0<=a.2.2.2.1/\a.2.2.2.1 < 18446744073709551616
def ZbL(a:Arena × Int × Int × Int × Unit):V U:= .c (.bool (Y2 a.1.segs a.2.1 a.2.2.1 1))
def ZdR(a:Arena × Int × Int × Int × Unit):List (List (C U)):=[]
def Z8t(a:Arena × Int × Int × Int × Unit):List (Tok × LC U):=[(.A,LC.mk (U:=U) .arena [ZD a.1 a.2.1 a.2.2.1 a.2.2.2.1] 0)]
def Z5U:Fs U:=(Ys Z94 (fun a=> [ZbZ a]) ZbL ZdR Z8t).passing [0]
abbrev W71(a:Option Arena)(Q:QT):=AW (Z1 Zff) Try.f71 ZeT [] (L2 [(0,.c (.po (U:=U) .arena a))] []) Q
theorem Zn7(a:Option Arena)(Q:QT)(h:((Option.isNone a)=true->Q .ret (L2 [pI 2 0] []))/\((Option.isNone a)=false->(Option.isSome a=true)/\(Option.isSome a=true)/\(Option.isSome a=true)/\(Option.isSome a=true)/\(InR (((Arena.most (Option.getD a (Arena.mk [] 0 0 0))):Int) - (Arena.used (Option.getD a (Arena.mk [] 0 0 0)))))/\(Q .ret (L2 [(2,.c (ci (((Arena.most (Option.getD a (Arena.mk [] 0 0 0))):Int) - (Arena.used (Option.getD a (Arena.mk [] 0 0 0))))))] [])))):
  W71 a Q:=by
 have e_:(W71 a Q)=(((Option.isNone a)=true->(Q .ret (L2 [pI 2 0] [])))/\((Option.isNone a)=false->(Option.isSome a=true)/\(Option.isSome a=true)/\(Option.isSome a=true)/\(Option.isSome a=true)/\(InR (((Arena.most (Option.getD a (Arena.mk [] 0 0 0))):Int) - (Arena.used (Option.getD a (Arena.mk [] 0 0 0)))))/\(Q .ret (L2 [(2,.c (ci (((Arena.most (Option.getD a (Arena.mk [] 0 0 0))):Int) - (Arena.used (Option.getD a (Arena.mk [] 0 0 0))))))] [])))):=by kernel_rfl
 exact e_.mpr ⟨fun c_1=> (h.1 c_1),fun c_1=> ⟨(h.2 c_1).1,(h.2 c_1).2.1,(h.2 c_1).2.2.1,(h.2 c_1).2.2.2.1,(h.2 c_1).2.2.2.2.1,(h.2 c_1).2.2.2.2.2⟩⟩
abbrev Zln(a:Option Arena):Prop:=AW (Z1 Zff) Try.f71 ZeT [] (Zs (Zcx.can (a,())) []) (EQ Try.f71 (Zit (a,())) [])
theorem ZjM(hb:∀ (a:Option Arena) (_:Unit),Z7H (a,())->Zln a):CT 71 Z1A:=
 Z3 (l:=[]) Zf rfl trivial ZeT Try.func71 rfl rfl 1 (fun _=> rfl) (by decide) (fun ⟨a,_⟩=> hb a ())
def Zfm:List (FuncId × Fs U):=[(97,Z1u)]
def ZkA:Zc U:=lvl [([0,1,2],[]),([6],[])]
abbrev W72(a:Option Arena)(s n:Int)(Q:QT):=AW (Z1 Zfm) Try.f72 ZkA [] (L2 [(0,.c (.po (U:=U) .arena a)),pI 1 s,pI 2 n] []) Q
theorem Zn6(a:Option Arena)(s n:Int)(Q:QT)(h:(Option.isSome a=true)/\(Option.isSome a=true)/\(ZbW (a,s,()))/\(InR (((Arena.size (Option.getD a (Arena.mk [] 0 0 0))):Int) - ((Za (YB a) s).length:Int)))/\(Q .ret (L2 [(6,.c (.bool (decide (n<=(((Arena.size (Option.getD a (Arena.mk [] 0 0 0))):Int) - ((Za (YB a) s).length:Int))))))] []))):
  W72 a s n Q:=by
 have e_:(W72 a s n Q)=(type_of% h):=by kernel_rfl
 exact e_.mpr ⟨h.1,h.2.1,h.2.2.1,h.2.2.2.1,h.2.2.2.2⟩
abbrev Zlm(a:Option Arena)(s n:Int):Prop:=AW (Z1 Zfm) Try.f72 ZkA [] (Zs (Zg3.can (a,s,n,())) []) (EQ Try.f72 (Zis (a,s,n,())) [])
theorem ZjL(c97:CT 97 Z1u)(hb:∀ (a:Option Arena) (s:Int) (n:Int) (_:Unit),Z7G (a,s,n,())->Zlm a s n):CT 72 Z1z:=
 Z3 (l:=[(97,Z1u)]) Zf rfl (⟨c97,trivial⟩) ZkA Try.func72 rfl rfl 3 (fun _=> rfl) (by decide) (fun ⟨a,s,n,_⟩=> hb a s n ())
def Zkz:Zc U:=fun i=> match i with
 | 0=> ([(0,[.ar]),(1,[]),(2,[])],[])
 | 1=> ([(0,[.ar]),(1,[]),(2,[]),(7,[])],[])
 | 2=> ([(0,[.ar]),(2,[]),(7,[])],[])
 | 3=> ([(0,[.ar]),(7,[])],[])
 | 4=> ([(0,[.ar]),(6,[])],[])
 | _=> ([],[])
abbrev W73(a:Arena)(s n:Int)(Q:QT):=AW (Z1 Zff) Try.f73 Zkz [] (⟨[(0,.c (.mref (.A))),pI 1 s,pI 2 n],[],[(.A,LC.mk (U:=U) .arena ([a]) 0)]⟩:LSt U) Q
theorem Zn5(a:Arena)(s n:Int)(Q:QT)(h:((0:Int)<=s/\s < ((Arena.segs a).length:Int))/\(((0:Int)<=s/\s < ((Arena.segs a).length:Int))/\((0:Int)<=n/\(((List.getD (Arena.segs a) s.toNat []).length:Int)+n)*8<=140737488355328)/\((0:Int)<=s/\s < ((Arena.segs a).length:Int))/\(s.toNat=s.toNat)/\((InR (((Arena.used a):Int)+n))/\(Q .ret (⟨[(0,.c (.mref (.A))),pI 6 ((List.getD (Arena.segs a) s.toNat []).length:Int)],[],[(.A,LC.mk (U:=U) .arena ([Arena.mk (List.set (Arena.segs a) s.toNat ((List.getD (Arena.segs a) s.toNat [])++(List.replicate n.toNat 0))) (Arena.size a) (Arena.most a) (((Arena.used a):Int)+n)]) 0)]⟩:LSt U))))):
  W73 a s n Q:=by
 have e_:(W73 a s n Q)=(((0:Int)<=s/\s < ((Arena.segs a).length:Int))/\(((0:Int)<=s/\s < ((Arena.segs a).length:Int))/\((0:Int)<=n/\(((List.getD (Arena.segs a) s.toNat []).length:Int)+n)*8<=140737488355328)/\((0:Int)<=s/\s < ((Arena.segs a).length:Int))/\(s.toNat=s.toNat)/\((InR (((Arena.used a):Int)+n))/\(Q .ret (⟨[(0,.c (.mref (.A))),pI 6 ((List.getD (Arena.segs a) s.toNat []).length:Int)],[],[(.A,LC.mk (U:=U) .arena ([Arena.mk (List.set (Arena.segs a) s.toNat ((List.getD (Arena.segs a) s.toNat [])++(List.replicate n.toNat 0))) (Arena.size a) (Arena.most a) (((Arena.used a):Int)+n)]) 0)]⟩:LSt U))))):=by kernel_rfl
 exact e_.mpr ⟨h.1,⟨h.2.1,h.2.2.1,h.2.2.2.1,h.2.2.2.2.1,⟨h.2.2.2.2.2.1,h.2.2.2.2.2.2⟩⟩⟩
abbrev Zll(a:Arena)(s n:Int):Prop:=AW (Z1 Zff) Try.f73 Zkz [] (ZI (Z98.can (a,s,n,())) (Z98.canX (a,s,n,())) (Z98.canL (a,s,n,()))) (ZK cfg Try.f73.ntmps Try.f73.results.toList (Zir (a,s,n,())) (ZdU (a,s,n,())) (Ze4 (a,s,n,())))
theorem ZjK(hb:∀ (a:Arena) (s:Int) (n:Int) (_:Unit),Z4T (a,s,n,())->Zll a s n):CT 73 Z1y:=
 Contract.passing <| Ze (l:=[]) Zf rfl trivial Zkz Try.func73 rfl rfl 3 (fun _=> rfl) (by decide) (fun ⟨a,s,n,_⟩=> hb a s n ())
def Zfi:List (FuncId × Fs U):=[(102,J9.lend),(71,Z1A.lend),(72,Z1z.lend),(73,Z1y)]
def Zkw:Zc U:=fun i=> match i with
 | 0=> ([(0,[.ar]),(1,[]),(2,[])],[])
 | 1=> ([(0,[.ar]),(1,[]),(2,[]),(32,[])],[])
 | 2=> ([(0,[.ar]),(6,[]),(7,[])],[])
 | 3=> ([(0,[.ar]),(6,[]),(7,[])],[])
 | _=> ([],[])
abbrev W77(a:Arena)(s n:Int)(Q:QT):=AW (Z1 Zfi) Try.f77 Zkw [] (⟨[(0,.c (.mref (.A))),pI 1 s,pI 2 n],[],[(.A,LC.mk (U:=U) .arena ([a]) 0)]⟩:LSt U) Q
theorem Zn1(a:Arena)(s n:Int)(Q:QT)(h:((!(decide (s < 0)))=true->Z4d ((some a),()))/\((!(bif (bif (decide (s < 0)) then true else (decide ((((YB (some a)).length:Int):Int)<=s))) then true else (decide (n < 0))))=true->Z7H ((some a),()))/\((!(bif (bif (bif (decide (s < 0)) then true else (decide ((((YB (some a)).length:Int):Int)<=s))) then true else (decide (n < 0))) then true else (decide ((((arO (some a)).most - (arO (some a)).used):Int) < n))))=true->Z7G ((some a),s,n,()))/\(((bif (bif (bif (bif (decide (s < 0)) then true else (decide ((((YB (some a)).length:Int):Int)<=s))) then true else (decide (n < 0))) then true else (decide ((((arO (some a)).most - (arO (some a)).used):Int) < n))) then true else (!(JD (arO (some a)) s n)))=true->Q .ret (⟨[(0,.c (.mref (.A))),pI 6 0,pB 7 false],[],[(.A,LC.mk (U:=U) .arena ([a]) 0)]⟩:LSt U))/\((bif (bif (bif (bif (decide (s < 0)) then true else (decide ((((YB (some a)).length:Int):Int)<=s))) then true else (decide (n < 0))) then true else (decide ((((arO (some a)).most - (arO (some a)).used):Int) < n))) then true else (!(JD (arO (some a)) s n)))=false->(Z4T (a,s,n,()))/\(Q .ret (⟨[(0,.c (.mref (.A))),pI 6 ((Za a.segs s).length:Int),pB 7 true],[],[(.A,LC.mk (U:=U) .arena ([Yp a s n]) 0)]⟩:LSt U))))):
  W77 a s n Q:=by
 have e_:(W77 a s n Q)=(let zz3:=(decide ((s:Int) < 0));let zz2:=(bif zz3 then true else (decide ((((YB (some a)).length:Int):Int)<=s)));let zz1:=(decide ((((arO (some a)).most - (arO (some a)).used):Int) < n));let zz0:=(bif zz2 then true else (decide ((n:Int) < 0)));((Tr ((!zz3)=true))/\((!zz3)=true->Z4d ((some a),()))/\(Tr ((!zz3)=true))/\(Tr ((!zz3)=true))/\(zz3=false->(!zz3)=true)/\(Tr ((!zz2)=true))/\(zz2=false->(!zz2)=true)/\(Tr ((!zz0)=true))/\((!zz0)=true->Z7H ((some a),()))/\(Tr ((!zz0)=true))/\(Tr ((!zz0)=true))/\(zz0=false->(!zz0)=true)/\(Tr ((!(bif zz0 then true else zz1))=true))/\(Tr ((!(bif zz0 then true else zz1))=true))/\(Tr ((!(bif zz0 then true else zz1))=true))/\((!(bif zz0 then true else zz1))=true->Z7G ((some a),s,n,()))/\(Tr ((!(bif zz0 then true else zz1))=true))/\((bif zz0 then true else zz1)=false->(!(bif zz0 then true else zz1))=true)/\(((bif (bif zz0 then true else zz1) then true else (!(JD (arO (some a)) s n)))=true->(Q .ret (⟨[(0,.c (.mref (.A))),pI 6 0,pB 7 false],[],[(.A,LC.mk (U:=U) .arena ([a]) 0)]⟩:LSt U)))/\((bif (bif zz0 then true else zz1) then true else (!(JD (arO (some a)) s n)))=false->(Z4T (a,s,n,()))/\(Q .ret (⟨[(0,.c (.mref (.A))),pI 6 ((Za a.segs s).length:Int),pB 7 true],[],[(.A,LC.mk (U:=U) .arena ([Yp a s n]) 0)]⟩:LSt U)))))):=by kernel_rfl
 exact e_.mpr ⟨id,h.1,id,id,(by generalize (decide ((s:Int) < 0))=b0;revert b0;decide),id,(by generalize (decide ((((YB (some a)).length:Int):Int)<=s))=b0;generalize (decide ((s:Int) < 0))=b1;revert b0 b1;decide),id,h.2.1,id,id,(by generalize (decide ((((YB (some a)).length:Int):Int)<=s))=b0;generalize (decide ((s:Int) < 0))=b1;generalize (decide ((n:Int) < 0))=b2;revert b0 b1 b2;decide),id,id,id,h.2.2.1,id,(by generalize (decide ((((arO (some a)).most - (arO (some a)).used):Int) < n))=b0;generalize (decide ((((YB (some a)).length:Int):Int)<=s))=b1;generalize (decide ((s:Int) < 0))=b2;generalize (decide ((n:Int) < 0))=b3;revert b0 b1 b2 b3;decide),⟨fun c_2=> (h.2.2.2.1 c_2),fun c_2=> ⟨(h.2.2.2.2 c_2).1,(h.2.2.2.2 c_2).2⟩⟩⟩
abbrev Zlh(a:Arena)(s n:Int):Prop:=AW (Z1 Zfi) Try.f77 Zkw [] (ZI (Z98.can (a,s,n,())) (Z98.canX (a,s,n,())) (Z98.canL (a,s,n,()))) (ZK cfg Try.f77.ntmps Try.f77.results.toList (ZbM (a,s,n,())) (ZdU (a,s,n,())) (Z8u (a,s,n,())))
theorem ZjG(Z8Y:CT 102 J9)(c71:CT 71 Z1A)(c72:CT 72 Z1z)(c73:CT 73 Z1y)(hb:∀ (a:Arena) (s:Int) (n:Int) (_:Unit),Zc0 (a,s,n,())->Zlh a s n):CT 77 Z5W:=
 Contract.passing <| Ze (l:=[(102,J9.lend),(71,Z1A.lend),(72,Z1z.lend),(73,Z1y)]) Zf rfl (⟨Z8Y.lend,c71.lend,c72.lend,c73,trivial⟩) Zkw Try.func77 rfl rfl 3 (fun _=> rfl) (by decide) (fun ⟨a,s,n,_⟩=> hb a s n ())
def Zfu:List (FuncId × Fs U):=[(71,Z1A.lend),(72,Z1z.lend),(73,Z1y)]
def ZkH:Zc U:=fun i=> match i with
 | 0=> ([(0,[.ar]),(1,[])],[])
 | 1=> ([(0,[.ar]),(1,[]),(19,[])],[])
 | 2=> ([(0,[.ar]),(4,[]),(5,[]),(6,[])],[])
 | 3=> ([(0,[.ar]),(1,[]),(7,[])],[])
 | 4=> ([(0,[.ar]),(1,[]),(7,[]),(42,[])],[])
 | 5=> ([(0,[.ar]),(1,[]),(7,[])],[])
 | 6=> ([(0,[.ar]),(1,[]),(7,[])],[])
 | 7=> ([(0,[.ar]),(4,[]),(5,[]),(6,[])],[])
 | _=> ([],[])
abbrev W40(a:Arena)(n:Int)(Q:QT):=AW (Z1 Zfu) Try.f40 ZkH [] (⟨[(0,.c (.mref (.A))),pI 1 n],[],[(.A,LC.mk (U:=U) .arena ([a]) 0)]⟩:LSt U) Q
theorem Znp(a:Arena)(n:Int)(Q:QT)(h:∀ y_1,y_1=(JD (arO (some a)) ((((Arena.segs a).length:Int):Int) - 1) n)->∀ y_2,y_2=(Arena.mk ((Arena.segs a)++List.replicate 1 []) (Arena.size a) (Arena.most a) (Arena.used a))->((!(decide (n < 0)))=true->Z7H ((some a),()))/\(((bif (decide (n < 0)) then true else (decide ((((arO (some a)).most - (arO (some a)).used):Int) < n)))=true->Q .ret (⟨[(0,.c (.mref (.A))),pI 4 0,pI 5 0,pB 6 false],[],[(.A,LC.mk (U:=U) .arena ([a]) 0)]⟩:LSt U))/\((bif (decide (n < 0)) then true else (decide ((((arO (some a)).most - (arO (some a)).used):Int) < n)))=false->(InR ((((Arena.segs a).length:Int):Int) - 1))/\(((!(decide ((((((Arena.segs a).length:Int):Int) - 1):Int) < 0)))=true->Z7G ((some a),((((Arena.segs a).length:Int):Int) - 1),n,()))/\(((bif (decide ((((((Arena.segs a).length:Int):Int) - 1):Int) < 0)) then true else (bif (!y_1) then (decide ((((Arena.segs a).length:Int):Int) < 16)) else false))=true->(((Arena.segs a).length+1)*24<=140737488355328)/\((InR ((((((Arena.segs a).length:Int):Int) - 1):Int)+1))/\((Z4T (y_2,((((((Arena.segs a).length:Int):Int) - 1):Int)+1),n,()))/\(Q .ret (⟨[(0,.c (.mref (.A))),(4,.c (ci ((((((Arena.segs a).length:Int):Int) - 1):Int)+1))),(5,.c (ci ((Za y_2.segs ((((((Arena.segs a).length:Int):Int) - 1):Int)+1)).length:Int))),pB 6 true],[],[(.A,LC.mk (U:=U) .arena ([Yp y_2 ((((((Arena.segs a).length:Int):Int) - 1):Int)+1) n]) 0)]⟩:LSt U)))))/\((bif (decide ((((((Arena.segs a).length:Int):Int) - 1):Int) < 0)) then true else (bif (!y_1) then (decide ((((Arena.segs a).length:Int):Int) < 16)) else false))=false->(Z4T (a,((((Arena.segs a).length:Int):Int) - 1),n,()))/\(Q .ret (⟨[(0,.c (.mref (.A))),(4,.c (ci ((((Arena.segs a).length:Int):Int) - 1))),(5,.c (ci ((Za a.segs ((((Arena.segs a).length:Int):Int) - 1)).length:Int))),pB 6 true],[],[(.A,LC.mk (U:=U) .arena ([Yp a ((((Arena.segs a).length:Int):Int) - 1) n]) 0)]⟩:LSt U)))))))):
  W40 a n Q:=by
 have e_:(W40 a n Q)=(let y_1:=(JD (arO (some a)) (((Arena.segs a).length:Int) - 1) n);let y_2:=(Arena.mk ((Arena.segs a)++List.replicate 1 []) (Arena.size a) (Arena.most a) (Arena.used a));let zz3:=(decide ((((arO (some a)).most - (arO (some a)).used):Int) < n));let zz2:=(bif (!y_1) then (decide (((Arena.segs a).length:Int) < 16)) else false);let zz1:=(decide ((n:Int) < 0));let zz0:=(decide (((((Arena.segs a).length:Int) - 1):Int) < 0));(((!false)=true->(!false)=true)/\(false=false->(!false)=true)/\(Tr ((!zz1)=true))/\((!zz1)=true->Z7H ((some a),()))/\(Tr ((!zz1)=true))/\(Tr ((!zz1)=true))/\(zz1=false->(!zz1)=true)/\(((bif zz1 then true else zz3)=true->(Q .ret (⟨[(0,.c (.mref (.A))),pI 4 0,pI 5 0,pB 6 false],[],[(.A,LC.mk (U:=U) .arena ([a]) 0)]⟩:LSt U)))/\((bif zz1 then true else zz3)=false->(InR (((Arena.segs a).length:Int) - 1))/\((Tr ((!zz0)=true))/\(Tr ((!zz0)=true))/\(Tr ((!zz0)=true))/\((!zz0)=true->Z7G ((some a),(((Arena.segs a).length:Int) - 1),n,()))/\(Tr ((!zz0)=true))/\(Tr ((!zz0)=true))/\(Tr (((!zz0) && (!y_1))=true))/\(Tr (((!zz0) && (!y_1))=true))/\(Tr (((!zz0) && (!y_1))=true))/\(Tr (((!zz0) && (!y_1))=true))/\(Tr (((!zz0) && (!y_1))=true))/\((!zz0)=true->(True->(!zz0)=true))/\((!zz0)=true->((!y_1)=true->((!zz0) && (!y_1))=true))/\(zz0=false->(!zz0)=true)/\(((bif zz0 then true else zz2)=true->(((Arena.segs a).length+1)*24<=140737488355328)/\((InR (((((Arena.segs a).length:Int) - 1):Int)+1))/\((Z4T (y_2,(((((Arena.segs a).length:Int) - 1):Int)+1),n,()))/\(Q .ret (⟨[(0,.c (.mref (.A))),(4,.c (ci (((((Arena.segs a).length:Int) - 1):Int)+1))),(5,.c (ci ((Za y_2.segs (((((Arena.segs a).length:Int) - 1):Int)+1)).length:Int))),pB 6 true],[],[(.A,LC.mk (U:=U) .arena ([Yp y_2 (((((Arena.segs a).length:Int) - 1):Int)+1) n]) 0)]⟩:LSt U)))))/\((bif zz0 then true else zz2)=false->(Z4T (a,(((Arena.segs a).length:Int) - 1),n,()))/\(Q .ret (⟨[(0,.c (.mref (.A))),pI 4 (((Arena.segs a).length:Int) - 1),(5,.c (ci ((Za a.segs (((Arena.segs a).length:Int) - 1)).length:Int))),pB 6 true],[],[(.A,LC.mk (U:=U) .arena ([Yp a (((Arena.segs a).length:Int) - 1) n]) 0)]⟩:LSt U))))))))):=by kernel_rfl
 exact e_.mpr (by intro y_1 y_2;have hh:=h y_1 rfl y_2 rfl;exact ⟨id,(by decide),id,hh.1,id,id,(by generalize (decide ((n:Int) < 0))=b0;revert b0;decide),⟨fun c_3=> (hh.2.1 c_3),fun c_3=> ⟨(hh.2.2 c_3).1,⟨id,id,id,(hh.2.2 c_3).2.1,id,id,id,id,id,id,id,(by generalize (decide ((((((Arena.segs a).length:Int):Int) - 1):Int) < 0))=b0;revert b0;decide),(by generalize y_1=b0;generalize (decide ((((((Arena.segs a).length:Int):Int) - 1):Int) < 0))=b1;revert b0 b1;decide),(by generalize (decide ((((((Arena.segs a).length:Int):Int) - 1):Int) < 0))=b0;revert b0;decide),⟨fun c_4=> ⟨((hh.2.2 c_3).2.2.1 c_4).1,⟨((hh.2.2 c_3).2.2.1 c_4).2.1,⟨((hh.2.2 c_3).2.2.1 c_4).2.2.1,((hh.2.2 c_3).2.2.1 c_4).2.2.2⟩⟩⟩,fun c_4=> ⟨((hh.2.2 c_3).2.2.2 c_4).1,((hh.2.2 c_3).2.2.2 c_4).2⟩⟩⟩⟩⟩⟩)
abbrev ZlF(a:Arena)(n:Int):Prop:=AW (Z1 Zfu) Try.f40 ZkH [] (ZI (Z9g.can (a,n,())) (Z9g.canX (a,n,())) (Z9g.canL (a,n,()))) (ZK cfg Try.f40.ntmps Try.f40.results.toList (Z9J (a,n,())) (Ze0 (a,n,())) (Z6s (a,n,())))
theorem Zk1(c71:CT 71 Z1A)(c72:CT 72 Z1z)(c73:CT 73 Z1y)(hb:∀ (a:Arena) (n:Int) (_:Unit),Zc6 (a,n,())->ZlF a n):CT 40 Z62:=
 Contract.passing <| Ze (l:=[(71,Z1A.lend),(72,Z1z.lend),(73,Z1y)]) Zf rfl (⟨c71.lend,c72.lend,c73,trivial⟩) ZkH Try.func40 rfl rfl 2 (fun _=> rfl) (by decide) (fun ⟨a,n,_⟩=> hb a n ())
def Zfg:List (FuncId × Fs U):=[(103,Z3i.lend)]
def Zku:Zc U:=fun i=> match i with
 | 0=> ([(0,[.ar]),(1,[]),(2,[]),(3,[])],[])
 | 1=> ([(0,[.ar]),(1,[]),(2,[]),(3,[]),(13,[])],[])
 | 2=> ([(0,[.ar]),(8,[])],[])
 | 3=> ([(0,[.ar])],[])
 | 4=> ([(0,[.ar]),(8,[])],[])
 | _=> ([],[])
abbrev W79(a:Arena)(s at_ w:Int)(Q:QT):=AW (Z1 Zfg) Try.f79 Zku [] (⟨[(0,.c (.mref (.A))),pI 1 s,pI 2 at_,(3,.c (.int .u64 w))],[],[(.A,LC.mk (U:=U) .arena ([a]) 0)]⟩:LSt U) Q
theorem ZmZ(a:Arena)(s at_ w:Int)(Q:QT)(h:(Z8D ((some a),s,at_,1,()))/\(((!(Y2 (YB (some a)) s at_ 1))=true->Q .ret (⟨[(0,.c (.mref (.A))),pB 8 false],[],[(.A,LC.mk (U:=U) .arena ([a]) 0)]⟩:LSt U))/\((!(Y2 (YB (some a)) s at_ 1))=false->((0:Int)<=s/\s < ((Arena.segs a).length:Int))/\((0:Int)<=at_/\at_ < ((List.getD (Arena.segs a) s.toNat []).length:Int))/\(Q .ret (⟨[(0,.c (.mref (.A))),pB 8 true],[],[(.A,LC.mk (U:=U) .arena ([Arena.mk (List.set (Arena.segs a) s.toNat (List.set (List.getD (Arena.segs a) s.toNat []) at_.toNat w)) (Arena.size a) (Arena.most a) (Arena.used a)]) 0)]⟩:LSt U))))):
  W79 a s at_ w Q:=by
 have e_:(W79 a s at_ w Q)=((Z8D ((some a),s,at_,1,()))/\(((!(Y2 (YB (some a)) s at_ 1))=true->(Q .ret (⟨[(0,.c (.mref (.A))),pB 8 false],[],[(.A,LC.mk (U:=U) .arena ([a]) 0)]⟩:LSt U)))/\((!(Y2 (YB (some a)) s at_ 1))=false->((0:Int)<=s/\s < ((Arena.segs a).length:Int))/\((0:Int)<=at_/\at_ < ((List.getD (Arena.segs a) s.toNat []).length:Int))/\(Q .ret (⟨[(0,.c (.mref (.A))),pB 8 true],[],[(.A,LC.mk (U:=U) .arena ([Arena.mk (List.set (Arena.segs a) s.toNat (List.set (List.getD (Arena.segs a) s.toNat []) at_.toNat w)) (Arena.size a) (Arena.most a) (Arena.used a)]) 0)]⟩:LSt U))))):=by kernel_rfl
 exact e_.mpr ⟨h.1,⟨fun c_5=> (h.2.1 c_5),fun c_5=> ⟨(h.2.2 c_5).1,(h.2.2 c_5).2.1,(h.2.2 c_5).2.2⟩⟩⟩
abbrev Zlf(a:Arena)(s at_ w:Int):Prop:=AW (Z1 Zfg) Try.f79 Zku [] (ZI (Z94.can (a,s,at_,w,())) (Z94.canX (a,s,at_,w,())) (Z94.canL (a,s,at_,w,()))) (ZK cfg Try.f79.ntmps Try.f79.results.toList (ZbL (a,s,at_,w,())) (ZdR (a,s,at_,w,())) (Z8t (a,s,at_,w,())))
theorem ZjE(ZkU:CT 103 Z3i)(hb:∀ (a:Arena) (s:Int) (at_:Int) (w:Int) (_:Unit),ZbZ (a,s,at_,w,())->Zlf a s at_ w):CT 79 Z5U:=
 Contract.passing <| Ze (l:=[(103,Z3i.lend)]) Zf rfl (⟨ZkU.lend,trivial⟩) Zku Try.func79 rfl rfl 4 (fun _=> rfl) (by decide) (fun ⟨a,s,at_,w,_⟩=> hb a s at_ w ())
end
theorem OkAr.seg{a:Arena}(h:OkAr a):Z7P a.segs:=by
 refine ⟨by have:=h.few;omega,fun l hl=> ⟨?_,(h.segs l hl).2⟩⟩
 have:=(h.segs l hl).1
 have:=h.used
 omega
theorem ZP{l:List (List Int)}{s:Int}(h0:0<=s):Za l s=l.getD s.toNat []:=by
 unfold Za
 rw [if_neg (by omega)]
theorem ZcT{l:List (List Int)}{s:Int}(h0:0<=s)(h:s < l.length):Za l s∈l:=by
 rw [ZP h0,Q6,Q0 (show s.toNat < l.length by omega)]
 exact X6 _
theorem Z0C{l:List (List Int)}{s t:Int}{x:List Int}(h0:0<=s)(h:s < l.length):Za (l.set s.toNat x) t=if t=s then x else Za l t:=by
 by_cases ht:t < 0
 .rw [if_neg (by omega)]
  unfold Za
  rw [if_pos ht,if_pos ht]
 .rw [ZP (by omega),ZP (by omega),Q6,Xq]
  by_cases e:t=s
  .subst e
   rw [if_pos rfl,if_pos rfl,if_pos (by omega)]
   try rfl
  .rw [if_neg (by omega),if_neg e,Q6]
theorem OkAr.len{a:Arena}(h:OkAr a)(s:Int):((Za a.segs s).length:Int)<=a.used:=by
 by_cases hs:0<=s/\s < a.segs.length
 .exact (h.segs _ (ZcT hs.1 hs.2)).1
 .have:Za a.segs s=[]:=by
   by_cases h0:s < 0
   .unfold Za;rw [if_pos h0]
   .rw [ZP (by omega),Q6,X3 (by omega)];try rfl
  rw [this]
  exact h.used.1
theorem OkAr.grow{a:Arena}(h:OkAr a){s n:Int}(h0:0<=n)(hn:n<=a.most - a.used):OkAr (Yp a s n):=by
 have hu:=h.used
 refine ⟨⟨?_,?_,hu.2.2⟩,h.size,?_,?_⟩
 .show 0<=a.used+n;omega
 .show a.used+n<=a.most;omega
 .show (a.segs.set _ _).length<=16
  rw [QI]
  exact h.few
 .intro l hl
  show (l.length:Int)<=a.used+n/\_
  rcases XA hl with hl | rfl
  .have:=h.segs l hl
   exact ⟨by omega,this.2⟩
  .have:=h.len s
   rw [Qa,Qs]
   refine ⟨by omega,fun x hx=> ?_⟩
   rcases Qt.1 hx with hx | hx
   .exact (Z6D h.seg s).2 x hx
   .have:=(XZ.1 hx).2
    omega
theorem OkAr.inn{a:Arena}(h:OkAr a)(s n:Int):OkAr (inA a s n):=by
 unfold inA
 split
 .rename_i hh
  unfold Yj at hh
  rw [Q2,decide_eq_true_eq] at hh
  exact h.grow hh.1.2.2.1 hh.1.2.2.2
 .exact h
theorem OkAr.opens{a:Arena}(h:OkAr a)(n:Int):OkAr (Yl a n):=by
 unfold Yl
 split
 .rename_i hh
  refine ⟨h.used,h.size,?_,?_⟩
  .show (a.segs++[[]]).length<=16
   rw [Qa,Xa]
   omega
  .intro l hl
   rcases Qt.1 hl with hl | hl
   .exact h.segs l hl
   .rw [QD.1 hl]
    exact ⟨h.used.1,fun x hx=> by cases hx⟩
 .exact h
theorem Z16(a:Arena)(n:Int):(Yl a n).used=a.used/\(Yl a n).most=a.most/\(Yl a n).size=a.size:=by
 unfold Yl
 split <;> exact ⟨rfl,rfl,rfl⟩
theorem Z4f(a:Arena)(n:Int):0 < (Yl a n).segs.length/\a.segs.length<=(Yl a n).segs.length:=by
 unfold Yl
 split
 .show 0 < (a.segs++[[]]).length/\_<=(a.segs++[[]]).length
  rw [Qa,Xa]
  omega
 .rename_i h
  omega
theorem OkAr.give{a:Arena}(h:OkAr a)(n:Int):OkAr (Z5 a n):=by
 unfold Z5
 split
 .rename_i hh
  unfold Z0 at hh
  rw [decide_eq_true_eq] at hh
  have:=Z16 a n
  exact (h.opens n).grow hh.1 (by omega)
 .exact h
theorem OkAr.put{a:Arena}(h:OkAr a)(s i:Int){w:Int}(hw:0<=w/\w < 18446744073709551616):OkAr (ZD a s i w):=by
 unfold ZD
 split
 .rename_i hh
  rw [Zb] at hh
  refine ⟨h.used,h.size,?_,?_⟩
  .show (a.segs.set _ _).length<=16
   rw [QI]
   exact h.few
  .intro l hl
   rcases XA hl with hl | rfl
   .exact h.segs l hl
   .rw [QI]
    refine ⟨h.len s,fun x hx=> ?_⟩
    rcases XA hx with hx | rfl
    .exact (Z6D h.seg s).2 x hx
    .exact hw
 .exact h
theorem OkAr.new(size most:Int)(h:size < 9223372036854775808):OkAr (ZO size most):=by
 refine ⟨⟨XY _,?_,?_⟩,⟨?_,?_⟩,by simp [ZO],fun l hl=> by cases hl⟩
 all_goals (simp only [ZO];omega)
structure Gr (a b:Arena):Prop where
 size:b.size=a.size
 most:b.most=a.most
 len:a.segs.length<=b.segs.length
 seg:∀ s,(Za a.segs s).length<=(Za b.segs s).length
theorem Gr.refl(a:Arena):Gr a a:=⟨rfl,rfl,Qn _,fun _=> Qn _⟩
theorem Gr.trans{a b c:Arena}(h:Gr a b)(k:Gr b c):Gr a c:=⟨k.size.trans h.size,k.most.trans h.most,X8 h.len k.len,fun s=> X8 (h.seg s) (k.seg s)⟩
theorem Gr.has{a b:Arena}(h:Gr a b){s i n:Int}(hh:Y2 a.segs s i n=true):Y2 b.segs s i n=true:=by
 rw [Zb] at hh ⊢
 have:=h.len
 have:=h.seg s
 omega
theorem Zcp(a:Arena){s n:Int}(h0:0<=s)(h:s < a.segs.length):Gr a (Yp a s n):=by
 refine ⟨rfl,rfl,?_,fun t=> ?_⟩
 .show _<=(a.segs.set _ _).length
  rw [QI];exact Qn _
 .show _<=(Za (a.segs.set _ _) t).length
  rw [Z0C h0 h]
  split
  .rename_i e
   subst e
   rw [Qa]
   omega
  .exact Qn _
theorem Zco(a:Arena)(s n:Int):Gr a (inA a s n):=by
 unfold inA
 split
 .rename_i hh
  unfold Yj at hh
  rw [Q2,decide_eq_true_eq] at hh
  exact Zcp a hh.1.1 hh.1.2.1
 .exact .refl a
theorem ZhK(a:Arena)(n:Int):Gr a (Yl a n):=by
 have e:=Z16 a n
 refine ⟨e.2.2,e.2.1,(Z4f a n).2,fun s=> ?_⟩
 unfold Yl
 split
 .show _<=(Za (a.segs++[[]]) s).length
  by_cases h0:s < 0
  .unfold Za
   rw [if_pos h0,if_pos h0]
   exact Qn _
  .rw [ZP (by omega),ZP (by omega),Q6,Q6]
   by_cases hs:s.toNat < a.segs.length
   .rw [Qp hs]
    exact Qn _
   .rw [X3 (Nat.le_of_not_lt hs)]
    exact XK _
 .exact Qn _
theorem JK(a:Arena)(n:Int):Gr a (Z5 a n):=by
 unfold Z5
 split
 .have:=Z4f a n
  exact (ZhK a n).trans (Zcp _ (by unfold giveS;omega) (by unfold giveS;omega))
 .exact .refl a
theorem Yd(a:Arena)(s i w:Int):Gr a (ZD a s i w):=by
 unfold ZD
 split
 .rename_i hh
  rw [Zb] at hh
  refine ⟨rfl,rfl,?_,fun t=> ?_⟩
  .show _<=(a.segs.set _ _).length
   rw [QI];exact Qn _
  .show _<=(Za (a.segs.set _ _) t).length
   rw [Z0C hh.1 hh.2.1]
   split
   .rename_i e
    subst e
    rw [QI]
    exact Qn _
   .exact Qn _
 .exact .refl a
theorem Z2d(a:Arena)(n:Int):0<=giveS a n/\giveS a n < ((Yl a n).segs.length:Int):=by
 have:=Z4f a n
 unfold giveS
 omega
theorem Z2c{a:Arena}{n:Int}(h:Z0 a n=true):Y2 (Z5 a n).segs (giveS a n) (giveT a n) n=true:=by
 have hs:=Z2d a n
 have hn:0<=n/\n<=a.most - a.used:=of_decide_eq_true h
 unfold Z5
 rw [if_pos h,Zb]
 have e:Za (Yp (Yl a n) (giveS a n) n).segs (giveS a n)=Za (Yl a n).segs (giveS a n)++List.replicate n.toNat 0:=by
  show Za ((Yl a n).segs.set _ _) _=_
  rw [Z0C hs.1 hs.2,if_pos rfl]
 refine ⟨hs.1,?_,by unfold giveT;omega,hn.1,?_⟩
 .show _ < (((Yl a n).segs.set _ _).length:Int)
  rw [QI]
  exact hs.2
 .rw [e,Qa,Qs]
  unfold giveT
  omega
theorem ZfC{a:Arena}{s n:Int}(h:Yj a s n=true):Y2 (inA a s n).segs s ((Za a.segs s).length:Int) n=true:=by
 have hh:=h
 unfold Yj at hh
 rw [Q2,decide_eq_true_eq] at hh
 unfold inA
 rw [if_pos h,Zb]
 have e:Za (Yp a s n).segs s=Za a.segs s++List.replicate n.toNat 0:=by
  show Za (a.segs.set _ _) _=_
  rw [Z0C hh.1.1 hh.1.2.1,if_pos rfl]
 refine ⟨hh.1.1,?_,by omega,hh.1.2.2.1,?_⟩
 .show _ < ((a.segs.set _ _).length:Int)
  rw [QI]
  exact hh.1.2.1
 .rw [e,Qa,Qs]
  omega
theorem c71:Contract Try.prog cfg 71 Z1A:=by
 refine ZjM ?_
 intro a _ hp
 obtain ⟨y,hy0,hy⟩:=hp
 dsimp only at hy0
 subst hy0
 have h1:=hy.used
 refine Zn7 (some y) _ ⟨fun h=> (by cases h),fun _=> ⟨rfl,rfl,rfl,rfl,?_,?_⟩⟩
 .show InR (y.most - y.used)
  ((unfold InR;omega))
 ·(repeat' (first | exact trivial | exact rfl | apply And.intro))
theorem c72:Contract Try.prog cfg 72 Z1z:=by
 refine ZjL c97 ?_
 intro a s n _ hp
 obtain ⟨y,hy0,hy⟩:=hp
 dsimp only at hy0
 subst hy0
 have h1:=hy.size
 have h2:=hy.len s
 have h3:=hy.used
 refine Zn6 (some y) s n _ ⟨rfl,rfl,hy.seg,?_,?_⟩
 .show InR (y.size - ((Za y.segs s).length:Int))
  ((unfold InR;omega))
 ·(repeat' (first | exact trivial | exact rfl | apply And.intro))
theorem c73:Contract Try.prog cfg 73 Z1y:=by
 refine ZjK ?_
 intro a s n _ hp
 obtain ⟨h,⟨h1,h2⟩,h3,h4⟩:=hp
 dsimp only at h h1 h2 h3 h4
 have hu:=h.used
 have hl:=h.len s
 rw [ZP h1] at hl
 refine Zn5 a s n _ ⟨⟨h1,h2⟩,⟨h1,h2⟩,⟨h3,by omega⟩,⟨h1,h2⟩,rfl,by ((unfold InR;omega)),?_⟩
 have e:Yp a s n=Arena.mk (List.set (Arena.segs a) (Int.toNat s) ((List.getD (Arena.segs a) (Int.toNat s) [])++(List.replicate (Int.toNat n) 0))) (Arena.size a) (Arena.most a) (((Arena.used a):Int)+n):=by
  unfold Yp
  rw [ZP h1]
 rw [<-e,<-ZP h1]
 (repeat' (first | exact trivial | exact rfl | apply And.intro))
theorem c77:Contract Try.prog cfg 77 Z5W:=by
 refine ZjG Z8Y c71 c72 c73 ?_
 intro a s n _ h
 have h:OkAr a:=h
 have hs:okB (some a):=h.seg
 have hy:∃ y,some a=some y/\OkAr y:=⟨a,rfl,h⟩
 refine Zn1 a s n _ ⟨fun _=> hs,fun _=> hy,fun _=> hy,?_,?_⟩
 .intro hb
  have hk:Yj a s n=false:=by
   cases hk:Yj a s n with
   | false=> rfl
   | true=>
    unfold Yj at hk
    rw [Q2,decide_eq_true_eq] at hk
    obtain ⟨⟨k1,k2,k3,k4⟩,k5⟩:=hk
    rw [show (decide ((s:Int) < 0))=false from decide_eq_false (by omega),show (decide ((((YB (some a)).length:Int):Int)<=s))=false from decide_eq_false (by show ¬(a.segs.length:Int)<=s;omega),
     show (decide ((n:Int) < 0))=false from decide_eq_false (by omega),show (decide ((((arO (some a)).most - (arO (some a)).used):Int) < n))=false from decide_eq_false (by show ¬a.most - a.used < n;omega),show JD (arO (some a)) s n=true from k5] at hb
    cases hb
  simp only [Z8u,ZbM,inA,hk,Qd,if_false]
  (repeat' (first | exact trivial | exact rfl | apply And.intro))
 .intro hb
  cases c1:decide ((s:Int) < 0) <;> cases c2:decide ((((YB (some a)).length:Int):Int)<=s) <;> cases c3:decide ((n:Int) < 0) <;> cases c4:decide ((((arO (some a)).most - (arO (some a)).used):Int) < n) <;> cases c5:JD (arO (some a)) s n <;> rw [c1] at hb <;> rw [c2] at hb <;> rw [c3] at hb <;> rw [c4] at hb <;> rw [c5] at hb <;> try (cases hb;done)
  rw [decide_eq_false_iff_not] at c1 c2 c3 c4
  have c2:¬(a.segs.length:Int)<=s:=c2
  have c4:¬a.most - a.used < n:=c4
  have hk:Yj a s n=true:=by
   unfold Yj
   rw [Q2,decide_eq_true_eq]
   exact ⟨⟨by omega,by omega,by omega,by omega⟩,c5⟩
  refine ⟨⟨h,⟨by dsimp only;omega,by dsimp only;omega⟩,by dsimp only;omega,by dsimp only;omega⟩,?_⟩
  simp only [Z8u,ZbM,inA,hk,if_true]
  (repeat' (first | exact trivial | exact rfl | apply And.intro))
theorem c40:Contract Try.prog cfg 40 Z62:=by
 refine Zk1 c71 c72 c73 ?_
 intro a n _ h
 have h:OkAr a:=h
 have hy:∃ y,some a=some y/\OkAr y:=⟨a,rfl,h⟩
 have hf:=h.few
 refine Znp a n _ ?_
 intro y1 hy1 y2 hy2
 have hy1:y1=JD a ((a.segs.length:Int) - 1) n:=hy1
 refine ⟨fun _=> hy,?_,?_⟩
 .intro hb
  have hk:Z0 a n=false:=by
   cases hk:Z0 a n with
   | false=> rfl
   | true=>
    have hk:0<=n/\n<=a.most - a.used:=of_decide_eq_true hk
    rw [show (decide ((n:Int) < 0))=false from decide_eq_false (by omega),show (decide ((((arO (some a)).most - (arO (some a)).used):Int) < n))=false from decide_eq_false (by show ¬a.most - a.used < n;omega)] at hb
    cases hb
  simp only [Z6s,Z9J,Z5,hk,Qd,if_false]
  (repeat' (first | exact trivial | exact rfl | apply And.intro))
 .intro hb
  cases c1:decide ((n:Int) < 0) <;> cases c2:decide ((((arO (some a)).most - (arO (some a)).used):Int) < n) <;> rw [c1] at hb <;> rw [c2] at hb <;> try (cases hb;done)
  rw [decide_eq_false_iff_not] at c1 c2
  have c2:¬a.most - a.used < n:=c2
  have hk:Z0 a n=true:=decide_eq_true ⟨by omega,by omega⟩
  refine ⟨by ((unfold InR;omega)),fun _=> hy,?_,?_⟩
  .intro hd
   have ho:Yl a n=y2:=by
    unfold Yl
    rw [hy2,if_pos]
    .try rfl
    .cases c3:decide ((((((Arena.segs a).length:Int):Int) - 1):Int) < 0) with
     | true=> rw [decide_eq_true_eq] at c3;left;omega
     | false=>
      rw [c3] at hd
      cases c4:y1 with
      | true=> rw [c4] at hd;cases hd
      | false=>
       rw [c4] at hd
       have:(a.segs.length:Int) < 16:=of_decide_eq_true hd
       right
       exact ⟨by rw [<-hy1,c4],by omega⟩
   have hl:y2.segs.length=a.segs.length+1:=by rw [hy2];simp
   have hS:giveS a n=((((((Arena.segs a).length:Int):Int) - 1):Int)+1):=by
    unfold giveS
    rw [ho,hl]
    omega
   have hT:giveT a n=((Za y2.segs ((((((Arena.segs a).length:Int):Int) - 1):Int)+1)).length:Int):=by
    unfold giveT
    rw [ho,hS]
   have hA:Z5 a n=Yp y2 ((((((Arena.segs a).length:Int):Int) - 1):Int)+1) n:=by
    unfold Z5
    rw [if_pos hk,ho,hS]
   have hu:=Z16 a n
   rw [ho] at hu
   refine ⟨by omega,by ((unfold InR;omega)),⟨by rw [<-ho];exact h.opens n,⟨by dsimp only;omega,by dsimp only;omega⟩,by dsimp only;omega,by dsimp only;omega⟩,?_⟩
   simp only [Z6s,Z9J,hk,if_true]
   rw [<-hA,<-hS]
   rw [show ((Za y2.segs (giveS a n)).length:Int)=giveT a n by unfold giveT;rw [ho]]
   (repeat' (first | exact trivial | exact rfl | apply And.intro))
  .intro hd
   have hne:¬((((a.segs.length:Int)) - 1):Int) < 0:=by
    intro hc
    rw [show decide ((((((Arena.segs a).length:Int):Int) - 1):Int) < 0)=true from decide_eq_true hc] at hd
    cases hd
   have ho:Yl a n=a:=by
    unfold Yl
    rw [if_neg]
    rintro (hc | ⟨hc,hc2⟩)
    .omega
    .rw [show decide ((((((Arena.segs a).length:Int):Int) - 1):Int) < 0)=false from decide_eq_false hne,hy1,hc,show (decide ((((Arena.segs a).length:Int):Int) < 16))=true from decide_eq_true (by omega)] at hd
     cases hd
   have hS:giveS a n=((((Arena.segs a).length:Int):Int) - 1):=by
    unfold giveS
    rw [ho]
   have hA:Z5 a n=Yp a ((((Arena.segs a).length:Int):Int) - 1) n:=by
    unfold Z5
    rw [if_pos hk,ho,hS]
   refine ⟨⟨h,⟨by dsimp only;omega,by dsimp only;omega⟩,by dsimp only;omega,by dsimp only;omega⟩,?_⟩
   simp only [Z6s,Z9J,hk,if_true]
   rw [<-hA,<-hS]
   rw [show ((Za a.segs (giveS a n)).length:Int)=giveT a n by unfold giveT;rw [ho]]
   (repeat' (first | exact trivial | exact rfl | apply And.intro))
theorem c79:Contract Try.prog cfg 79 Z5U:=by
 refine ZjE ZkU ?_
 intro a s i w _ hp
 obtain ⟨h,hw⟩:=hp
 dsimp only at h hw
 refine ZmZ a s i w _ ⟨h.seg,fun hb=> ?_,fun hb=> ?_⟩
 .have hb:(!Y2 a.segs s i 1)=true:=hb
  have hb:Y2 a.segs s i 1=false:=by simpa using hb
  simp only [Z8t,ZbL,ZD,hb,Qd,if_false]
  (repeat' (first | exact trivial | exact rfl | apply And.intro))
 .have hb:(!Y2 a.segs s i 1)=false:=hb
  have hb:Y2 a.segs s i 1=true:=by simpa using hb
  have hh:=Zb.1 hb
  rw [ZP hh.1] at hh
  refine ⟨⟨hh.1,hh.2.1⟩,⟨hh.2.2.1,by omega⟩,?_⟩
  simp only [Z8t,ZbL,ZD,hb,if_true]
  rw [ZP hh.1]
  (repeat' (first | exact trivial | exact rfl | apply And.intro))
end Go.AM.Ytcljdbpmjdgooaa
