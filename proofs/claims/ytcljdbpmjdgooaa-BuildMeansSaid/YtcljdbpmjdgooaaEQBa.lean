import Derived.Test.YtcljdbpmjdgooaaEmZ
import Derived.Test.YtcljdbpmjdgooaaChecked
import Derived.Test.YtcljdbpmjdgooaaRows
import Derived.Test.YtcljdbpmjdgooaaEmX
import Derived.ProofKit
import Derived.Test.YtcljdbpmjdgooaaEBD07
set_option linter.unusedSimpArgs false
set_option linter.unusedVariables false
namespace Go.AM.Ytcljdbpmjdgooaa
open Go.AM Go.Proofs
def el:Ty->TypeId
 | .u64=> 50
 | .u8=> 5
 | .int=> 3
 | .words=> 22
 | .tree=> 25
 | .ptr=> 89
 | .loc=> 124
 | .arena=> 71
 | .ref=> 81
 | .limits=> 45
 | .spot=> 55
def tb:Tables U:=
 {el:=el
  sl:=[(22,.u64),(23,.tree),(31,.words)]
  var:=[(2,false,[.int .i64 0]),
   (3,false,[.int .i64 0]),
   (4,false,[.bool false]),
   (5,false,[.int .u8 0]),
   (6,false,[.int .u8 0]),
   (7,true,[.int .i64 0,.int .i64 0,.bool false,.int .u8 0]),
   (8,true,[.int .i64 0,.int .i64 0,.bool false,.int .u8 0]),
   (12,false,[.int .u64 0]),
   (15,false,[.nilp]),
   (16,false,[.nilp]),
   (17,false,[.nilp]),
   (18,true,[.nilp]),
   (19,true,[.nilp]),
   (21,false,[.int .i32 0]),
   (22,false,[.nils]),
   (23,false,[.nils]),
   (24,true,[.int .i64 0,.nils,.nils]),
   (25,true,[.int .i64 0,.nils,.nils]),
   (28,false,[.nilp]),
   (31,false,[.nils]),
   (40,false,[.int .i64 0]),
   (44,true,[.int .i64 0,.int .i64 0,.int .i64 0,.int .i64 0]),
   (45,true,[.int .i64 0,.int .i64 0,.int .i64 0,.int .i64 0]),
   (50,false,[.int .u64 0]),
   (52,true,[.nilp]),
   (53,true,[.nilp]),
   (54,true,[.int .i64 0,.int .i64 0]),
   (55,true,[.int .i64 0,.int .i64 0]),
   (59,false,[.nilp]),
   (60,false,[.nilp]),
   (62,true,[.nilp,.bool false]),
   (63,true,[.nilp,.bool false]),
   (67,true,[.nils,.int .i64 0,.int .i64 0,.int .i64 0]),
   (68,true,[.nils,.int .i64 0,.int .i64 0,.int .i64 0]),
   (70,true,[.nils,.int .i64 0,.int .i64 0,.int .i64 0]),
   (71,true,[.nils,.int .i64 0,.int .i64 0,.int .i64 0]),
   (72,false,[.nilp]),
   (73,true,[.nils]),
   (74,true,[.nils]),
   (80,true,[.nilp,.int .i64 0,.int .i64 0,.int .i64 0,.int .i64 0,.int .i64 0,.int .i64 0,.int .u64 0]),
   (81,true,[.nilp,.int .i64 0,.int .i64 0,.int .i64 0,.int .i64 0,.int .i64 0,.int .i64 0,.int .u64 0]),
   (88,true,[.int .i64 0,.int .i64 0,.int .i64 0,.int .i64 0,.int .i64 0,.int .i64 0,.int .i64 0,.bool false]),
   (89,true,[.int .i64 0,.int .i64 0,.int .i64 0,.int .i64 0,.int .i64 0,.int .i64 0,.int .i64 0,.bool false]),
   (102,false,[.nilp]),
   (103,true,[.int .i64 0,.int .i64 0]),
   (104,true,[.int .i64 0,.int .i64 0]),
   (123,true,[.int .i64 0,.int .i64 0,.int .i64 0,.int .i64 0,.int .i64 0,.int .i64 0,.int .i64 0,.bool false,.int .i64 0,.int .i64 0]),
   (124,true,[.int .i64 0,.int .i64 0,.int .i64 0,.int .i64 0,.int .i64 0,.int .i64 0,.int .i64 0,.bool false,.int .i64 0,.int .i64 0]),
   (129,false,[.int .u64 0]),
   (132,true,[.int .i64 0,.int .i64 0,.int .i64 0,.int .i64 0,.int .i64 0,.int .i64 0]),
   (136,false,[.int .u32 0]),
   (140,true,[.int .i64 0,.int .i64 0,.int .i64 0,.int .i64 0,.int .i64 0,.int .i64 0,.int .i64 0]),
   (147,false,[.int .u8 0]),
   (148,false,[.int .u8 0]),
   (150,false,[.nilp]),
   (151,false,[.int .i32 0]),
   (152,false,[.int .i32 0])]
  fld:=[(7,0,0,2),(7,1,1,3),(7,2,2,4),(7,3,3,6),(8,0,0,2),(8,1,1,3),(8,2,2,4),(8,3,3,6),(18,0,0,17),(19,0,0,17),(24,0,0,3),(24,1,1,22),(24,2,2,23),(25,0,0,3),(25,1,1,22),(25,2,2,23),(44,0,0,3),(44,1,1,3),(44,2,2,3),(44,3,3,3),(45,0,0,3),(45,1,1,3),(45,2,2,3),(45,3,3,3),(52,0,0,28),(53,0,0,28),(54,0,0,3),(54,1,1,3),(55,0,0,3),(55,1,1,3),(62,0,0,60),(62,1,1,4),(63,0,0,60),(63,1,1,4),(67,0,0,31),(67,1,1,3),(67,2,2,3),(67,3,3,3),(68,0,0,31),(68,1,1,3),(68,2,2,3),(68,3,3,3),(70,0,0,31),(70,1,1,3),(70,2,2,3),(70,3,3,3),(71,0,0,31),(71,1,1,3),(71,2,2,3),(71,3,3,3),(73,0,0,22),(74,0,0,22),(80,0,0,28),(80,1,1,3),(80,2,2,3),(80,3,3,3),(80,4,4,3),(80,5,5,3),(80,6,6,3),(80,7,7,50),(81,0,0,28),(81,1,1,3),(81,2,2,3),(81,3,3,3),(81,4,4,3),(81,5,5,3),(81,6,6,3),(81,7,7,50),(88,0,0,3),(88,1,1,3),(88,2,2,3),(88,3,3,3),(88,4,4,3),(88,5,5,3),(88,6,6,3),(88,7,7,4),(89,0,0,3),(89,1,1,3),(89,2,2,3),(89,3,3,3),(89,4,4,3),(89,5,5,3),(89,6,6,3),(89,7,7,4),(103,0,0,3),(103,1,1,3),(104,0,0,3),(104,1,1,3),(123,0,0,89),(123,1,8,3),(123,2,9,3),(124,0,0,89),(124,1,8,3),(124,2,9,3)]
  arr:=[(132,6,3),(140,7,3)]
  eqs:=[7,8,44,45,54,55,88,89,103,104] }
def cfg:Cfg U:=tb.cfg K
theorem ZqZ:tb.var.all (Zl7 Try.prog)=true:=by kernel_rfl
theorem ZsH:tb.sl.all (fun x=> slB Try.prog tb.el x && (K.aT x.2).isNone)=true:=by kernel_rfl
theorem Zrp:tb.fld.all (Zpr Try.prog)=true:=by kernel_rfl
theorem Zru:tb.arr.all (ZpD Try.prog)=true:=by kernel_rfl
theorem ZsK:∀ t,elB Try.prog K tb t=true:=by
 intro t
 cases t
 .kernel_rfl
 .kernel_rfl
 .kernel_rfl
 .kernel_rfl
 .kernel_rfl
 .kernel_rfl
 .kernel_rfl
 .kernel_rfl
 .kernel_rfl
 .kernel_rfl
 .kernel_rfl
theorem Zf:CfgOk Try.prog cfg:=Zg5 ZsP ZqZ ZsH Zrp Zru ZsK (by kernel_rfl) (by kernel_rfl)
abbrev sU(T:Ty)(l:List (El T))(t:Tail):C U:= .slice (U:=U) T l t
noncomputable abbrev AW(K:Known U)(f:Func)(lv:Z8 U)(p:List Nat):=awp cfg K (Y0 cfg K) f.ntmps lv (cd f p)
noncomputable abbrev SW(K:Known U)(f:Func)(lv:Z8 U)(p:List Nat):=Zd8 cfg K (Y0 cfg K) f.ntmps lv (cd f p)
abbrev EQ(f:Func):=Yg cfg f.ntmps f.results.toList
abbrev QT:=AExit->LSt U->Prop
abbrev NT:=LSt U->Prop
abbrev CT(k:FuncId)(s:Fs U):Prop:=Contract Try.prog cfg k s
abbrev xB:=@AExit.inBlock U
abbrev xT:=@AExit.then U
abbrev ci(x:Int):C U:= .int .i64 x
abbrev L2(e:List (Nat × V U))(m:List (Name × List (C U))):LSt U:=⟨e,m,[]⟩
abbrev zb8(f:Int->Nat->Int)(x:Int):List (C U):=[.int .u8 (f x 0),.int .u8 (f x 1),.int .u8 (f x 2),.int .u8 (f x 3),.int .u8 (f x 4),.int .u8 (f x 5),.int .u8 (f x 6),.int .u8 (f x 7)]
abbrev zi8(l:List Int):List (C U):=l.map fun x=> .int .u8 x
abbrev FK (k : FuncId) : Prop := ∃ fn, Try.prog.funcs[k]? = some fn ∧ fn.body.isSome = true ∧ (fn.name == "runtime.NumGoroutine") = false
abbrev pL(n:Nat):Nat × V U:=(n,.ptr (.loc n) 0)
abbrev pB(n:Nat)(b:Bool):Nat × V U:=(n,.c (.bool b))
abbrev pI(n:Nat)(x:Int):Nat × V U:=(n,.c (.int .i64 x))
def lvl(l:List (List Nat × List Nat)):Z8 U:=fun i=> ((l.getD i ([],[])).1.map fun k=> (k,[]),(l.getD i ([],[])).2.map fun k=> (.loc k,[]))
abbrev zc0:List (C U):=[.int .i64 0,.int .i64 0,.int .i64 0,.int .i64 0,.int .i64 0,.int .i64 0,.int .i64 0,.bool false]
abbrev zc1:List (C U):=[.int .i64 0,.int .i64 0,.int .i64 0,.int .i64 0,.int .i64 0,.int .i64 0,.int .i64 0,.bool false,.int .i64 0,.int .i64 0]
abbrev zc2:List (C U):=[.nilp,.int .i64 0,.int .i64 0,.int .i64 0,.int .i64 0,.int .i64 0,.int .i64 0,.int .u64 0]
end Go.AM.Ytcljdbpmjdgooaa
namespace Go.AM.Ytcljdbpmjdgooaa
open Go.AM Go.Proofs Go.Proofs.Ytcljdbpmjdgooaa Go.ChangeShapes Go.WideShapes Go.RowKit
theorem own:ownKnob Try.prog.godebug=none:=by kernel_rfl
theorem ZlV:laidOutB Try.prog=true:=by kernel_rfl
theorem Zg3:TreeTypes cfg:=⟨rfl,rfl,⟨_,rfl⟩,⟨_,rfl⟩,⟨_,rfl,rfl⟩,⟨_,_,rfl,rfl⟩,⟨_,_,rfl,rfl,rfl⟩,⟨_,_,rfl,rfl,rfl⟩⟩
theorem Zme{H:Type}{henc:TypeId × Value->H}:ZkE henc Try.prog cfg (aEl .tree) 25 inT:=Zmf Zf rfl ⟨_,_,rfl⟩ (fun _ n cs h=> Zlj Zf Zg3 n cs h)
theorem ZpG{H:Type}{henc:TypeId × Value->H}:ZkE henc Try.prog cfg (ZQ .i64) 3 (fun z=> IntKind.min .i64<=z/\z<=IntKind.max .i64):=Zkp Zf (n0:=0) rfl
theorem inI{z:Int}(h:IntKind.min .i64<=z/\z<=IntKind.max .i64):InR z:=by
 have h1:IntKind.min .i64= -9223372036854775808:=rfl
 have h2:IntKind.max .i64=9223372036854775807:=rfl
 unfold InR
 omega
end Go.AM.Ytcljdbpmjdgooaa
namespace Go.AM
def Jn(l:List Int)(c i:Int):Int:=
 if wd c < 1\/i < 0\/1099511627776 < i\/(l.length:Int)<=i*wd c / 64 then 0
 else (l.getD (i*wd c / 64).toNat 0 / 2 ^ (i*wd c % 64).toNat) % 2 ^ (wd c).toNat
def pz:Ptr:=⟨0,0,0,0,0,0,0,false⟩
def Z8E(w:Int):Int:=if 536870912<=w / 4 % 1073741824 then w / 4 % 1073741824 - 1073741824 else w / 4 % 1073741824
def Z6(w:Int):Ptr:=
 if w=0 then pz
 else if w % 4=0 then ⟨1,Z8E w,w / 4294967296 % 65536,w / 281474976710656,0,0,0,false⟩
 else if w % 4=1 then ⟨2,Z8E w,0,0,w / 4294967296 % 8,w / 34359738368,0,false⟩
 else if w % 4=2 then ⟨3,w / 8 % 536870912,0,0,0,0,w / 4294967296,decide (w / 4 % 2=1)⟩
 else ⟨4,0,0,0,0,0,0,false⟩
structure OkP (p:Ptr):Prop where
 kind:0<=p.kind/\p.kind<=4
 off: -536870912<=p.off/\p.off < 536870912
 data:0<=p.data/\p.data < 65536
 ptrs:0<=p.ptrs/\p.ptrs < 65536
 code:0<=p.code/\p.code < 8
 count:0<=p.count/\p.count < 536870912
 segment:0<=p.segment/\p.segment < 4294967296
 far:p.kind=3->0<=p.off
theorem Z3F{w:Int}(h0:0<=w)(h1:w < 18446744073709551616):OkP (Z6 w):=by
 have ho: -536870912<=Z8E w/\Z8E w < 536870912:=by unfold Z8E;split <;> omega
 unfold Z6 pz
 split
 .constructor <;> simp
 .split
  .constructor <;> simp <;> omega
  .split
   .constructor <;> simp <;> omega
   .split
    .constructor <;> simp <;> omega
    .constructor <;> simp
def Z0k(c:Int):Int:=if c=0 then 0 else if c=1 then 1 else if c=2 then 8 else if c=3 then 16 else if c=4 then 32 else 64
def ZY(p:Ptr):Int:=
 if p.kind=1 then p.data+p.ptrs
 else if p.kind=2 then
  if p.code=7 then p.count+1
  else if p.code < 0\/6 < p.code\/p.count < 0\/536870912<=p.count then -1
  else (p.count*Z0k p.code+63) / 64
 else -1
def Zh(l:List (List Int))(s:Int):List Int:=if s < 0 then [] else l.getD s.toNat []
def Zc(l:List (List Int))(s a n:Int):Bool:=decide (0<=s/\s < (l.length:Int)/\0<=a/\0<=n/\a+n<=((Zh l s).length:Int))
def Zg(l:List (List Int))(s a:Int):Int:=(Zh l s).getD a.toNat 0
def Z1l:Loc:=⟨pz,0,0⟩
def Zdz(p:Ptr):Ptr:=⟨p.kind,0,p.data,p.ptrs,p.code,p.count,p.segment,p.double⟩
def YA(l:List (List Int))(x:Loc):Loc × Int:=if Zc l x.segment x.at_ (ZY x.p) then (⟨Zdz x.p,x.segment,x.at_⟩,0) else (Z1l,7)
def Jj(p:Ptr):Int:=if p.kind=4 then 9 else if p.kind=1\/p.kind=2 then 0 else 8
def Jr(l:List (List Int))(p:Ptr)(s a:Int):Loc × Int:=if Jj p=0 then YA l ⟨p,s,a+1+p.off⟩ else (Z1l,Jj p)
def Je(l:List (List Int))(s a:Int):Loc × Int:=
 if Zc l s a 2 then
  if (Z6 (Zg l s a)).kind≠3\/(Z6 (Zg l s a)).double=true then (Z1l,8)
  else if Jj (Z6 (Zg l s (a+1)))≠0 then (Z1l,Jj (Z6 (Zg l s (a+1))))
  else if (Z6 (Zg l s (a+1))).off≠0 then (Z1l,8)
  else YA l ⟨Z6 (Zg l s (a+1)),(Z6 (Zg l s a)).segment,(Z6 (Zg l s a)).off⟩
 else (Z1l,7)
def Ze(l:List (List Int))(s a:Int):Loc × Int:=
 if Zc l s a 1 then
  if (Z6 (Zg l s a)).kind=0 then (Z1l,0)
  else if (Z6 (Zg l s a)).kind≠3 then Jr l (Z6 (Zg l s a)) s a
  else if (Z6 (Zg l s a)).double=true then Je l (Z6 (Zg l s a)).segment (Z6 (Zg l s a)).off
  else if Zc l (Z6 (Zg l s a)).segment (Z6 (Zg l s a)).off 1 then
   Jr l (Z6 (Zg l (Z6 (Zg l s a)).segment (Z6 (Zg l s a)).off)) (Z6 (Zg l s a)).segment (Z6 (Zg l s a)).off
  else (Z1l,7)
 else (Z1l,7)
def xz:XRef:=⟨0,0,0,0,0,0,0⟩
def Z0r(l:List (List Int))(s a n:Int):XRef × Int:=
 if Zg l s a≠0/\(Z6 (Zg l s a)).kind≠1\/(Z6 (Zg l s a)).off < 0\/n < (Z6 (Zg l s a)).off*((Z6 (Zg l s a)).data+(Z6 (Zg l s a)).ptrs) then (xz,8)
 else (⟨9,s,a+1,(Z6 (Zg l s a)).data,(Z6 (Zg l s a)).ptrs,(Z6 (Zg l s a)).off,0⟩,0)
def Zo(l:List (List Int))(s a:Int):XRef × Int:=
 if (Ze l s a).2≠0\/(Ze l s a).1.p.kind=0 then (xz,(Ze l s a).2)
 else if (Ze l s a).1.p.kind=1 then (⟨1,(Ze l s a).1.segment,(Ze l s a).1.at_,(Ze l s a).1.p.data,(Ze l s a).1.p.ptrs,0,0⟩,0)
 else if (Ze l s a).1.p.code < 7 then (⟨2+(Ze l s a).1.p.code,(Ze l s a).1.segment,(Ze l s a).1.at_,0,0,(Ze l s a).1.p.count,0⟩,0)
 else Z0r l (Ze l s a).1.segment (Ze l s a).1.at_ (Ze l s a).1.p.count
def ZH(x:XRef):Int:=if x.kind=1 then x.ptrs else x.count
def ZF(l:List (List Int))(x:XRef):List Int:=if x.kind=10 then [x.n] else if x.kind=1 then ((Zh l x.s).drop x.at_.toNat).take x.data.toNat else []
def Zk(l:List (List Int))(x:XRef)(i:Int):XRef × Int:=
 if i < 0\/ZH x<=i then (xz,0)
 else if x.kind=1 then Zo l x.s (x.at_+x.data+i)
 else if x.kind=8 then Zo l x.s (x.at_+i)
 else if x.kind=9 then (⟨1,x.s,x.at_+i*(x.data+x.ptrs),x.data,x.ptrs,0,0⟩,0)
 else (⟨10,0,0,0,0,0,Jn ((Zh l x.s).drop x.at_.toNat) (x.kind - 2) i⟩,0)
def YK(l:List (List Int)):Prop:=l.length<=5864062014805/\∀ w∈l,w.length<=17592186044416/\∀ x∈w,0<=x/\x < 18446744073709551616
structure OkX (l:List (List Int)) (x:XRef):Prop where
 kind:0<=x.kind/\x.kind<=10
 data:0<=x.data/\x.data < 65536
 ptrs:0<=x.ptrs/\x.ptrs < 65536
 count:0<=x.count/\x.count < 536870912
 n:0<=x.n/\x.n < 18446744073709551616
 at_:0<=x.at_/\x.at_<=17592186044416
 one:x.kind=1->Zc l x.s x.at_ (x.data+x.ptrs)=true
 zero:x.kind=0\/x.kind=10->x.count=0
 nine:x.kind=9->Zc l x.s x.at_ (x.count*(x.data+x.ptrs))=true
 list:2<=x.kind->x.kind<=8->Zc l x.s x.at_ ((x.count*Z0k (x.kind - 2)+63) / 64)=true
 frame:x.kind≠1->x.kind≠9->x.data=0/\x.ptrs=0
 num:x.kind≠10->x.n=0
 cnt:x.kind=1->x.count=0
 lie:x.kind=0\/x.kind=10->x.s=0/\x.at_=0
 null:x.kind=0->x=xz
theorem Yr{l:List (List Int)}(h:YK l)(s:Int):(Zh l s).length<=17592186044416/\∀ x∈Zh l s,0<=x/\x < 18446744073709551616:=by
 unfold Zh
 split
 .exact ⟨by simp,fun x hx=> by cases hx⟩
 .by_cases hs:s.toNat < l.length
  .rw [Q2,Q0 hs]
   exact h.2 _ (X8 hs)
  .rw [Q2,Qz (by omega)]
   exact ⟨by simp,fun x hx=> by cases hx⟩
theorem Jd{w:List Int}(h:∀ x∈w,0<=x/\x < 18446744073709551616)(i:Nat):0<=w.getD i 0/\w.getD i 0 < 18446744073709551616:=by
 rw [Q2]
 by_cases hi:i < w.length
 .rw [Q0 hi];exact h _ (X8 hi)
 .rw [Qz (by omega)];decide
theorem YW{l:List (List Int)}(h:YK l)(s a:Int):0<=Zg l s a/\Zg l s a < 18446744073709551616:=Jd (Yr h s).2 _
theorem Z3{l:List (List Int)}{s a n:Int}:Zc l s a n=true↔0<=s/\s < (l.length:Int)/\0<=a/\0<=n/\a+n<=((Zh l s).length:Int):=by simp [Zc]
theorem Zil{p:Ptr}(h:OkP p):OkP (Zdz p):=⟨h.kind,by simp [Zdz],h.data,h.ptrs,h.code,h.count,h.segment,fun _=> by simp [Zdz]⟩
structure OkL (l:List (List Int)) (x:Loc):Prop where
 p:OkP x.p
 kind:x.p.kind=0\/x.p.kind=1\/x.p.kind=2
 off:x.p.off=0
 lie:x.p.kind≠0->Zc l x.segment x.at_ (ZY x.p)=true
theorem Zra:OkP pz:=by constructor <;> simp [pz]
theorem Z59{l:List (List Int)}:OkL l Z1l:=⟨Zra,.inl rfl,rfl,fun h=> absurd rfl h⟩
theorem Z8D{l:List (List Int)}{x:Loc}(h:OkP x.p)(hk:x.p.kind=1\/x.p.kind=2):OkL l (YA l x).1:=by
 unfold YA
 split
 .rename_i hh
  exact ⟨Zil h,.inr hk,rfl,fun _=> hh⟩
 .exact Z59
theorem Z6s{p:Ptr}(h:Jj p=0):p.kind=1\/p.kind=2:=by
 unfold Jj at h
 split at h
 .cases h
 .split at h
  .assumption
  .cases h
theorem Zci{l:List (List Int)}{p:Ptr}{s a:Int}(h:OkP p):OkL l (Jr l p s a).1:=by
 unfold Jr
 split
 .rename_i hs
  exact Z8D h (Z6s hs)
 .exact Z59
theorem Z23{l:List (List Int)}(h:YK l)(s a:Int):OkL l (Ze l s a).1:=by
 have hd:∀ s a,OkP (Z6 (Zg l s a)):=fun s a=> Z3F (YW h s a).1 (YW h s a).2
 unfold Ze
 split
 .split
  .exact Z59
  .split
   .exact Zci (hd s a)
   .split
    .unfold Je
     split
     .split
      .exact Z59
      .split
       .exact Z59
       .split
        .exact Z59
        .rename_i h1 h2
         exact Z8D (hd _ _) (Z6s (Decidable.not_not.1 h1))
     .exact Z59
    .split
     .exact Zci (hd _ _)
     .exact Z59
 .exact Z59
theorem Zf5{l:List (List Int)}:OkX l xz:=by constructor <;> simp [xz]
theorem Z8B{l:List (List Int)}(h:YK l){s a d p:Int}(hd:0<=d/\d < 65536)(hp:0<=p/\p < 65536)(hh:Zc l s a (d+p)=true):OkX l ⟨1,s,a,d,p,0,0⟩:=by
 have hl:=Z3.1 hh
 have hlen:=(Yr h s).1
 have ha:a<=17592186044416:=by omega
 constructor <;> simp <;> first | exact hd | exact hp | exact hh | exact ⟨hl.2.2.1,ha⟩
theorem Zii{l:List (List Int)}(h:YK l){k s a c:Int}(hk:2<=k/\k<=8)(hc:0<=c/\c < 536870912)(hh:Zc l s a ((c*Z0k (k - 2)+63) / 64)=true):OkX l ⟨k,s,a,0,0,c,0⟩:=by
 have hl:=Z3.1 hh
 have hlen:=(Yr h s).1
 have ha:a<=17592186044416:=by omega
 constructor <;> simp <;> first | exact hc | exact ⟨hl.2.2.1,ha⟩ | (intro _ _;exact hh) | omega
theorem Zij{l:List (List Int)}(h:YK l){s a d p c:Int}(hd:0<=d/\d < 65536)(hp:0<=p/\p < 65536)(hc:0<=c/\c < 536870912)(hh:Zc l s a (c*(d+p))=true):OkX l ⟨9,s,a,d,p,c,0⟩:=by
 have hl:=Z3.1 hh
 have hlen:=(Yr h s).1
 have ha:a<=17592186044416:=by omega
 constructor <;> simp <;> first | exact hd | exact hp | exact hc | exact hh | exact ⟨hl.2.2.1,ha⟩
theorem Zik{l:List (List Int)}{n:Int}(h:0<=n/\n < 18446744073709551616):OkX l ⟨10,0,0,0,0,0,n⟩:=by
 constructor <;> simp <;> exact h
theorem Zgr{l:List (List Int)}(h:YK l){s a n:Int}(hn:0<=n)(hh:Zc l s a (n+1)=true):OkX l (Z0r l s a n).1:=by
 have hp:=Z3F (YW h s a).1 (YW h s a).2
 have hl:=Z3.1 hh
 unfold Z0r
 split
 .exact Zf5
 .rename_i hn'
  have h1:0<=(Z6 (Zg l s a)).off:=by omega
  have h2:(Z6 (Zg l s a)).off*((Z6 (Zg l s a)).data+(Z6 (Zg l s a)).ptrs)<=n:=by omega
  have h3:=hp.data.1
  have h4:=hp.ptrs.1
  have h5:0<=(Z6 (Zg l s a)).off*((Z6 (Zg l s a)).data+(Z6 (Zg l s a)).ptrs):=Qw h1 (by omega)
  exact Zij h hp.data hp.ptrs ⟨h1,hp.off.2⟩ (Z3.2 ⟨hl.1,hl.2.1,by omega,h5,by omega⟩)
theorem Zb8{l:List (List Int)}(h:YK l)(s a:Int):OkX l (Zo l s a).1:=by
 have hf:=Z23 h s a
 have hp:=hf.p
 unfold Zo
 split
 .exact Zf5
 .rename_i hn
  have hn':(Ze l s a).1.p.kind≠0:=fun e=> hn (.inr e)
  have hl:=hf.lie hn'
  have hk:=hf.kind
  split
  .rename_i h1
   have hw:ZY (Ze l s a).1.p=(Ze l s a).1.p.data+(Ze l s a).1.p.ptrs:=by unfold ZY;rw [if_pos h1]
   rw [hw] at hl
   exact Z8B h hp.data hp.ptrs hl
  .rename_i h1
   have h2:(Ze l s a).1.p.kind=2:=by omega
   have hc:=hp.code
   have hcn:=hp.count
   split
   .rename_i h7
    have hw:ZY (Ze l s a).1.p=((Ze l s a).1.p.count*Z0k (Ze l s a).1.p.code+63) / 64:=by
     unfold ZY;rw [if_neg h1,if_pos h2,if_neg (by omega),if_neg (by omega)]
    rw [hw] at hl
    exact Zii h (by omega) hcn (by rw [show 2+(Ze l s a).1.p.code - 2=(Ze l s a).1.p.code by omega];exact hl)
   .have hw:ZY (Ze l s a).1.p=(Ze l s a).1.p.count+1:=by
     unfold ZY;rw [if_neg h1,if_pos h2,if_pos (by omega)]
    rw [hw] at hl
    exact Zgr h hcn.1 hl
theorem Z0H(c:Int):wd c= -1\/wd c=0\/wd c=1\/wd c=8\/wd c=16\/wd c=32\/wd c=64:=by
 unfold wd
 repeat' split
 all_goals simp
theorem ZgL{l:List Int}(h:∀ x∈l,0<=x/\x < 18446744073709551616)(c i:Int):0<=Jn l c i/\Jn l c i < 18446744073709551616:=by
 unfold Jn
 split
 .decide
 .rename_i hn
  rcases Z0H c with e | e | e | e | e | e | e <;> rw [e] at hn ⊢
  .omega
  .omega
  all_goals exact ⟨XN _ (by decide),Int.lt_of_lt_of_le (Xk _ (by decide)) (by decide)⟩
theorem Ja{l:List (List Int)}(h:YK l){x:XRef}(hx:OkX l x)(i:Int):OkX l (Zk l x i).1:=by
 unfold Zk
 split
 .exact Zf5
 .rename_i hi
  split
  .exact Zb8 h _ _
  .rename_i h1
   split
   .exact Zb8 h _ _
   .split
    .rename_i h9
     have hh:=Z3.1 (hx.nine h9)
     have hd:=hx.data
     have hp:=hx.ptrs
     have hi2:0<=i/\i < x.count:=by unfold ZH at hi;rw [if_neg h1] at hi;omega
     have e1:0<=i*(x.data+x.ptrs):=Qw hi2.1 (by omega)
     have e2:(i+1)*(x.data+x.ptrs)<=x.count*(x.data+x.ptrs):=X3 (by omega) (by omega)
     rw [Xn,Kg] at e2
     exact Z8B h hd hp (Z3.2 ⟨hh.1,hh.2.1,by omega,by omega,by omega⟩)
    .exact Zik (ZgL (fun y hy=> (Yr h x.s).2 y (XD hy)) _ _)
def okW(l:List Int):Prop:=∀ x∈l,0<=x/\x < 18446744073709551616
def Z2q(l:List (List Int))(s a n:Int):List Int:=((Zh l s).drop a.toNat).take n.toNat
def Z1(a:Option Arena):List (List Int):=match a with
 | none=> []
 | some x=> x.segs
def okB(a:Option Arena):Prop:=YK (Z1 a)
theorem Z0d{n:Int}(h0:0<=n)(h1:n < 18446744073709551616):IntKind.wrap .u64 n=n:=by
 simp [IntKind.wrap,IntKind.signed,IntKind.bits];omega
theorem Jp{n:Int}(h0: -9223372036854775808<=n)(h1:n < 9223372036854775808):IntKind.wrap .i64 n=n:=by
 simp [IntKind.wrap,IntKind.signed,IntKind.bits]
 split <;> omega
theorem Z9g{a:Int}(h0:0<=a)(h1:a < 18446744073709551616)(k:Nat)(hk:k<=64){m:Int}(hm:m=2 ^ k - 1):
  IntKind.wrap .u64 (BitVec.ofInt (IntKind.bits .u64) a &&& BitVec.ofInt (IntKind.bits .u64) m).toNat=a % 2 ^ k:=by
 obtain ⟨n,rfl⟩:=Ql h0
 subst hm
 have e1:BitVec.ofInt (IntKind.bits .u64) ((n:Nat):Int)=BitVec.ofNat 64 n:=by simp [IntKind.bits]
 have hpos:(0:Nat) < 2 ^ k:=Nat.two_pow_pos k
 have e2:((2:Int) ^ k - 1)=((2 ^ k - 1:Nat):Int):=by rw [Int.ofNat_sub hpos];simp
 rw [e1,e2]
 have e3:BitVec.ofInt (IntKind.bits .u64) ((2 ^ k - 1:Nat):Int)=BitVec.ofNat 64 (2 ^ k - 1):=by simp [IntKind.bits]
 rw [e3]
 have hle:2 ^ k<=2 ^ 64:=XV (by decide) hk
 have hn:n < 2 ^ 64:=by omega
 have e4:(BitVec.ofNat 64 n &&& BitVec.ofNat 64 (2 ^ k - 1)).toNat=n % 2 ^ k:=by
  rw [BitVec.toNat_and,XP,XP,Xf hn,Xf (by omega),Nat.and_two_pow_sub_one_eq_mod]
 show IntKind.wrap .u64 ((BitVec.ofNat 64 n &&& BitVec.ofNat 64 (2 ^ k - 1)).toNat:Int)=_
 rw [e4,Z0d (by omega) (by have:=XA n hpos;omega)]
 simp
end Go.AM
namespace Go.AM.Ytcljdbpmjdgooaa
open Go.AM Go.Proofs
noncomputable section
def ZjV:ArgL (Int × Unit):=(.cons (ZQ .i64) .nil)
def Z6A(a:Int × Unit):Prop:=True
def ZeA(a:Int × Unit):V U:= .tup [(false,[ci (if wd a.1 < 0 then 0 else wd a.1)]),(false,[.bool (decide (0<=wd a.1))])]
def J1:Fs U:=fs ZjV (fun a=> [Z6A a]) ZeA
def ZfF:ArgL (List Int × Int × Int × Unit):=(.cons (aSl .u64) (.cons (ZQ .i64) (.cons (ZQ .i64) .nil)))
def Zb2(a:List Int × Int × Int × Unit):Prop:=okW a.1
def ZhK(a:List Int × Int × Int × Unit):V U:= .c (.int .u64 (Jn a.1 a.2.1 a.2.2.1))
def Z4Q:Fs U:=fs ZfF (fun a=> [Zb2 a]) ZhK
def ZfM:ArgL (Int × Unit):=(.cons (ZQ .u64) .nil)
def Z0P(a:Int × Unit):Prop:=(0<=a.1/\a.1 < 18446744073709551616)
def ZhO(a:Int × Unit):V U:= .agg (enc .ptr (Z6 a.1))
def Yy:Fs U:=fs ZfM (fun a=> [Z0P a]) ZhO
def ZjM:ArgL (Int × Int × Unit):=(.cons (ZQ .i64) (.cons (ZQ .i64) .nil))
def Jg(a:Int × Int × Unit):Prop:=True
def ZmE(a:Int × Int × Unit):V U:= .c (.bool (decide (0<=a.1/\a.1<=a.2.1)))
def Z0J:Fs U:=fs ZjM (fun a=> [Jg a]) ZmE
def ZfC:ArgL (Ptr × Unit):=(.cons (aEl .ptr) .nil)
def Zb0(a:Ptr × Unit):Prop:=OkP a.1
def Z5O(a:Ptr × Unit):V U:= .tup [(false,[ci (if ZY a.1 < 0 then 0 else ZY a.1)]),(false,[.bool (decide (0<=ZY a.1))])]
def Z4O:Fs U:=fs ZfC (fun a=> [Zb0 a]) Z5O
def Zj1:List (FuncId × Fs U):=[]
def ZoT:Z8 U:=lvl [([0],[]),([0,4],[4]),([0,4,11],[4]),([2,3],[]),([2,3],[])]
abbrev A88(p:List Nat):=AW (Z0 Zj1) Try.f88 ZoT p
theorem ZrQ(c:Int)(Q:QT)(h:let z0:=bif (decide (c < 0)) then true else (decide ((6:Int)<=c));((Tr ((!(decide (c < 0)))=true))/\((decide (c < 0))=false->(!(decide (c < 0)))=true)/\((z0=true->(Q .ret (L2 [pI 2 0,pB 3 false] [])))/\(z0=false->((0:Int)<=c/\c < ((6:Nat):Int))/\(Q .ret (L2 [pI 2 (List.getD [0,1,8,16,32,64] c.toNat 0),pB 3 true] [])))))):
  A88 [] (L2 [pI 0 c] []) Q:=
 Eq.mpr (by kernel_rfl) h
def ZpV(c:Int):Prop:=AW (Z0 Zj1) Try.f88 ZoT [] (Zi (ZjV.can (c,())) []) (EQ Try.f88 (ZeA (c,())) [])
theorem ZnX(hb:∀ (c:Int) (_:Unit),Z6A (c,())->ZpV c):CT 88 J1:=
 Z2 (l:=[]) Zf rfl trivial ZoT Try.func88 rfl rfl 1 (fun _=> rfl) (by decide) (fun ⟨c,_⟩=> hb c ())
def Zfh:List (FuncId × Fs U):=[(88,J1)]
def ZiB:Z8 U:=lvl [([0],[]),([2,3],[])]
abbrev ZsU(p:List Nat):=AW (Z0 Zfh) Try.f107 ZiB p
theorem ZqR(c:Int)(Q:QT)(h:((Z6A (c,()))/\(Q .ret (L2 [pI 2 (if wd c < 0 then 0 else wd c),pB 3 (decide (0<=wd c))] [])))):
  ZsU [] (L2 [pI 0 c] []) Q:=
 Eq.mpr (by kernel_rfl) h
def Zmu(c:Int):Prop:=AW (Z0 Zfh) Try.f107 ZiB [] (Zi (ZjV.can (c,())) []) (EQ Try.f107 (ZeA (c,())) [])
theorem Zlw(c88:CT 88 J1)(hb:∀ (c:Int) (_:Unit),Z6A (c,())->Zmu c):CT 107 J1:=
 Z2 (l:=[(88,J1)]) Zf rfl (⟨c88,trivial⟩) ZiB Try.func107 rfl rfl 1 (fun _=> rfl) (by decide) (fun ⟨c,_⟩=> hb c ())
def ZiA:Z8 U:=lvl [([0,1,2],[]),([0,2,7,8],[]),([0,2,7,37],[]),([6],[]),([7,9],[]),([7,9,51],[]),([6],[]),([6],[])]
abbrev ZsT(p:List Nat):=AW (Z0 Zfh) Try.f108 ZiA p
theorem ZqQ(l:List Int)(c i:Int)(Q:QT)(h:∀ y_1,y_1=(IntKind.wrap .i64 (Int.tdiv (i*(if wd c < 0 then 0 else wd c)) 64))->let z9:=InR (i*(if wd c < 0 then 0 else wd c));let z8:=((if wd c < 0 then 0 else wd c):Int)==64;let z7:=Int.tmod (i*(if wd c < 0 then 0 else wd c)) 64;let z6:=IntKind.bits .u64;let z5:= !(decide (0<=wd c));let z2:=Int.fdiv (l.getD y_1.toNat (0:Int)) (2 ^ (min (Int.toNat z7) z6));let z1:=bif z5 then true else (((if wd c < 0 then 0 else wd c):Int)==0);let z3:=bif z1 then true else (decide (i < 0));let z0:=bif z3 then true else (decide ((1099511627776:Int) < i));let z4:=bif z0 then true else (decide (((l.length:Int):Int)<=y_1));((Z6A (c,()))/\((Tr ((!z5)=true))/\(z5=false->(!z5)=true)/\(Tr ((!z1)=true))/\(z1=false->(!z1)=true)/\(Tr ((!z3)=true))/\(z3=false->(!z3)=true)/\(Tr ((!z0)=true))/\(Tr ((!z0)=true))/\((!z0)=true->InR (i*(if wd c < 0 then 0 else wd c)))/\(Tr ((!z0)=true))/\((!z0)=true->(64:Int)≠0)/\(Tr ((!z0)=true))/\(Tr ((!z0)=true))/\(Tr ((!z0)=true))/\(z0=false->(!z0)=true)/\((z4=true->(Q .ret (L2 [(6,.c (.int .u64 0))] [])))/\(z4=false->z9/\((64:Int)≠0)/\((0:Int)<=y_1/\y_1 < (l.length:Int))/\z9/\((64:Int)≠0)/\((0:Int)<=z7)/\((z8=true->(Q .ret (L2 [(6,.c (.int .u64 z2))] [])))/\(z8=false->((0:Int)<=(if wd c < 0 then 0 else wd c))/\(Q .ret (L2 [(6,.c (.int .u64 (IntKind.wrap .u64 (BitVec.ofInt z6 z2 &&& BitVec.ofInt z6 (IntKind.wrap .u64 (((IntKind.wrap .u64 ((1:Int)*2 ^ (min (Int.toNat (if wd c < 0 then 0 else wd c)) z6))):Int) - 1))).toNat)))] []))))))))):
  ZsT [] (L2 [(0,.c (sU .u64 l .unk)),pI 1 c,pI 2 i] []) Q:=
 Eq.mpr (by kernel_rfl) (h _ rfl)
def Zmt(l:List Int)(c i:Int):Prop:=AW (Z0 Zfh) Try.f108 ZiA [] (Zi (ZfF.can (l,c,i,())) []) (EQ Try.f108 (ZhK (l,c,i,())) [])
theorem Zlv(c88:CT 88 J1)(hb:∀ (l:List Int) (c:Int) (i:Int) (_:Unit),Zb2 (l,c,i,())->Zmt l c i):CT 108 Z4Q:=
 Z2 (l:=[(88,J1)]) Zf rfl (⟨c88,trivial⟩) ZiA Try.func108 rfl rfl 3 (fun _=> rfl) (by decide) (fun ⟨l,c,i,_⟩=> hb l c i ())
def ZiH:Z8 U:=lvl [([0,2],[2]),([0,2,3],[2]),([0,2,3,9],[2]),([2],[2]),([0,2,3,13],[2]),([2],[2]),([0,2,3,26],[2]),([2],[2]),([0,2,39],[2]),([2],[2]),([2],[2])]
abbrev Zt0(p:List Nat):=AW (Z0 Zj1) Try.f101 ZiH p
theorem ZqX(w:Int)(Q:QT)(h:∀ y_1,y_1=(BitVec.ofInt (IntKind.bits .u64) w &&& BitVec.ofInt (IntKind.bits .u64) 3)->let z2:=Int.fdiv (IntKind.wrap .i64 (IntKind.wrap .i32 (IntKind.wrap .u32 w))) (2 ^ (min (Int.toNat 2) (IntKind.bits .i64)));let z1:=IntKind.wrap .u64 y_1.toNat;let z0:=IntKind.bits .u64;let z3:=Int.fdiv w (2 ^ (min (Int.toNat 32) z0));(((0:Int)<=2)/\(((w==0)=true->(Q .ret (L2 [pL 2] [(.loc 2,zc0)])))/\((w==0)=false->((((z1:Int)==0)=true->((0:Int)<=32)/\((0:Int)<=48)/\(Q .ret (L2 [pL 2] [(.loc 2,[ci 1,ci z2,ci (IntKind.wrap .i64 (IntKind.wrap .u64 (BitVec.ofInt z0 z3 &&& BitVec.ofInt z0 65535).toNat)),ci (IntKind.wrap .i64 (Int.fdiv w (2 ^ (min (Int.toNat 48) z0)))),ci 0,ci 0,ci 0,.bool false])])))/\(((z1:Int)==0)=false->((((z1:Int)==1)=true->((0:Int)<=32)/\((0:Int)<=35)/\(Q .ret (L2 [pL 2] [(.loc 2,[ci 2,ci z2,ci 0,ci 0,ci (IntKind.wrap .i64 (IntKind.wrap .u64 (BitVec.ofInt z0 z3 &&& BitVec.ofInt z0 7).toNat)),ci (IntKind.wrap .i64 (Int.fdiv w (2 ^ (min (Int.toNat 35) z0)))),ci 0,.bool false])])))/\(((z1:Int)==1)=false->((((z1:Int)==2)=true->((0:Int)<=3)/\((0:Int)<=32)/\(Q .ret (L2 [pL 2] [(.loc 2,[ci 3,ci (IntKind.wrap .i64 (IntKind.wrap .u64 (BitVec.ofInt z0 (Int.fdiv w (2 ^ (min (Int.toNat 3) z0))) &&& BitVec.ofInt z0 536870911).toNat)),ci 0,ci 0,ci 0,ci 0,ci (IntKind.wrap .i64 z3),.bool (((IntKind.wrap .u64 (BitVec.ofInt z0 w &&& BitVec.ofInt z0 4).toNat):Int) !=0)])])))/\(((z1:Int)==2)=false->(Q .ret (L2 [pL 2] [(.loc 2,[ci 4,ci 0,ci 0,ci 0,ci 0,ci 0,ci 0,.bool false])])))))))))))):
  Zt0 [] (L2 [(0,.c (.int .u64 w))] []) Q:=
 Eq.mpr (by kernel_rfl) (h _ rfl)
def ZmA(w:Int):Prop:=AW (Z0 Zj1) Try.f101 ZiH [] (Zi (ZfM.can (w,())) []) (EQ Try.f101 (ZhO (w,())) [])
theorem ZlC(hb:∀ (w:Int) (_:Unit),Z0P (w,())->ZmA w):CT 101 Yy:=
 Z2 (l:=[]) Zf rfl trivial ZiH Try.func101 rfl rfl 1 (fun _=> rfl) (by decide) (fun ⟨w,_⟩=> hb w ())
def ZoK:Z8 U:=lvl [([0,1],[]),([4],[])]
abbrev A99(p:List Nat):=AW (Z0 Zj1) Try.f99 ZoK p
theorem ZrF(n to:Int)(Q:QT)(h:let z0:=decide ((0:Int)<=n);((Tr (z0=true))/\(Tr (z0=true))/\(Tr (z0=true))/\(Q .ret (L2 [(4,.c (.bool (bif z0 then (decide (n<=to)) else false)))] [])))):
  A99 [] (L2 [pI 0 n,pI 1 to] []) Q:=
 Eq.mpr (by kernel_rfl) h
def ZpK(n to:Int):Prop:=AW (Z0 Zj1) Try.f99 ZoK [] (Zi (ZjM.can (n,to,())) []) (EQ Try.f99 (ZmE (n,to,())) [])
theorem ZnN(hb:∀ (n:Int) (to:Int) (_:Unit),Jg (n,to,())->ZpK n to):CT 99 Z0J:=
 Z2 (l:=[]) Zf rfl trivial ZoK Try.func99 rfl rfl 2 (fun _=> rfl) (by decide) (fun ⟨n,to,_⟩=> hb n to ())
def Zfd:List (FuncId × Fs U):=[(99,Z0J)]
def Zix:Z8 U:=lvl [([1],[1]),([1,4],[1,4]),([1,4,6],[1,4]),([2,3],[]),([1,4,15],[1,4]),([2,3],[]),([1,4,27],[1,4]),([2,3],[]),([2,3],[])]
abbrev ZsQ(p:List Nat):=AW (Z0 Zfd) Try.f111 Zix p
theorem ZqN(p:Ptr)(Q:QT)(h:∀ y_1,y_1=(List.getD [0,1,8,16,32,64,64] (Int.toNat (Ptr.code p)) 0)->let z1:=((Ptr.kind p):Int)==2;let z3:=bif z1 then (((Ptr.code p):Int)==7) else false;let z0:=bif z1 then (decide (0<=(Ptr.code p)/\(Ptr.code p)<=6)) else false;let z2:=bif z0 then (decide (0<=(Ptr.count p)/\(Ptr.count p)<=536870911)) else false;(((((Ptr.kind p):Int)==1)=true->(InR (((Ptr.data p):Int)+(Ptr.ptrs p)))/\(Q .ret (L2 [pI 2 (((Ptr.data p):Int)+(Ptr.ptrs p)),pB 3 true] [])))/\((((Ptr.kind p):Int)==1)=false->(Tr (z1=true))/\(Tr (z1=true))/\(Tr (z1=true))/\((z3=true->(InR (((Ptr.count p):Int)+1))/\(Q .ret (L2 [pI 2 (((Ptr.count p):Int)+1),pB 3 true] [])))/\(z3=false->(Tr (z1=true))/\(Tr (z1=true))/\(z1=true->Jg ((Ptr.code p),6,()))/\(Tr (z1=true))/\(Tr (z0=true))/\(Tr (z0=true))/\(z0=true->Jg ((Ptr.count p),536870911,()))/\(Tr (z0=true))/\((z2=true->((0:Int)<=(Ptr.code p)/\(Ptr.code p) < ((7:Nat):Int))/\(InR (((Ptr.count p):Int)*y_1))/\(InR (((((Ptr.count p):Int)*y_1):Int)+63))/\((64:Int)≠0)/\(Q .ret (L2 [(2,.c (ci (IntKind.wrap .i64 (Int.tdiv (((((Ptr.count p):Int)*y_1):Int)+63) 64)))),pB 3 true] [])))/\(z2=false->(Q .ret (L2 [pI 2 0,pB 3 false] []))))))))):
  ZsQ [] (L2 [(0,.agg (enc .ptr p))] []) Q:=
 Eq.mpr (by kernel_rfl) (h _ rfl)
def Zmq(p:Ptr):Prop:=AW (Z0 Zfd) Try.f111 Zix [] (Zi (ZfC.can (p,())) []) (EQ Try.f111 (Z5O (p,())) [])
theorem Zls(c99:CT 99 Z0J)(hb:∀ (p:Ptr) (_:Unit),Zb0 (p,())->Zmq p):CT 111 Z4O:=
 Z2 (l:=[(99,Z0J)]) Zf rfl (⟨c99,trivial⟩) Zix Try.func111 rfl rfl 1 (fun _=> rfl) (by decide) (fun ⟨p,_⟩=> hb p ())
end
end Go.AM.Ytcljdbpmjdgooaa
namespace Go.AM
def Zgd:Ref:=⟨none,0,0,0,0,0,0,0⟩
def Yc(a:Option Arena)(x:XRef):Ref:=if x.kind=0 then Zgd else ⟨a,x.kind,x.s,x.at_,x.data,x.ptrs,x.count,x.n⟩
def unX(r:Ref):XRef:=⟨r.kind,r.segment,r.at_,r.data,r.kids,r.count,r.number⟩
def okR(r:Ref):Prop:=okB r.a/\OkX (Z1 r.a) (unX r)
def JN(r:Ref):Int:=if r.kind=1 then r.data else if r.kind=10 then 1 else 0
def ZB(r:Ref):Int:=if r.kind=1 then r.kids else r.count
def Z2x(r:Ref)(i:Int):Int:=if i < 0 then 0 else (ZF (Z1 r.a) (unX r)).getD i.toNat 0
theorem Z3a(r:Ref):ZB r=ZH (unX r):=rfl
theorem Z4L{a:Option Arena}{x:XRef}{l:List (List Int)}(h:OkX l x):unX (Yc a x)=x:=by
 unfold Yc
 split
 .rename_i h0
  rw [h.null h0];try rfl
 .try rfl
theorem Z9h{a:Option Arena}{x:XRef}(h:x.kind≠0):(Yc a x).a=a:=by unfold Yc;rw [if_neg h]
theorem Z58{a:Option Arena}{x:XRef}(ha:okB a)(h:OkX (Z1 a) x):okR (Yc a x):=by
 by_cases h0:x.kind=0
 .unfold Yc
  rw [if_pos h0]
  exact ⟨⟨by simp [Zgd,Z1],fun w hw=> by simp [Zgd,Z1] at hw⟩,Zf5⟩
 .refine ⟨by rw [Z9h h0];exact ha,?_⟩
  rw [Z4L h,Z9h h0]
  exact h
end Go.AM
namespace Go.AM.Ytcljdbpmjdgooaa
open Go.AM Go.Proofs
theorem Zw{n k:Nat}{rs:List ResultVar}{b b':Bool}(hr:rs=[ResultVar.tmp k])(h:b=b'):Yg cfg n rs (.c (.bool b')) [] .ret (⟨[(k,.c (.bool b))],[],[]⟩:LSt U):=by
 subst hr h
 have hk:Nat.beq k k=true:=Nat.beq_refl k
 simp [Yg,ZpJ,ZaA,Zaz,Z8a,Z7,Z4k,Z5M,LSt.toF,Z9u,hk,Z8y,Z1k,Yq,YX,leR,leL,leC,Zh7]
theorem ZC{n k:Nat}{rs:List ResultVar}{K:IntKind}{b b':Int}(hr:rs=[ResultVar.tmp k])(h:b=b'):Yg cfg n rs (.c (.int K b')) [] .ret (⟨[(k,.c (.int K b))],[],[]⟩:LSt U):=by
 subst hr h
 have hk:Nat.beq k k=true:=Nat.beq_refl k
 simp [Yg,ZpJ,ZaA,Zaz,Z8a,Z7,Z4k,Z5M,LSt.toF,Z9u,hk,Z8y,Z1k,Yq,YX,leR,leL,leC,Zh7]
theorem Y4{n:Nat}{rs:List ResultVar}{r r':V U}{X:List (List (C U))}{e:AExit}{s:LSt U}(hr:r=r')(h:Yg cfg n rs r' X e s):Yg cfg n rs r X e s:=by rw [hr];exact h
theorem ZjI{α:Type}{l:List α}{i:Int}(h0:0<=i)(h:i < l.length)(d:α):l.drop i.toNat=l.getD i.toNat d ::l.drop (i+1).toNat:=by
 rw [show (i+1).toNat=i.toNat+1 by omega,Q2,Q0 (by omega)]
 exact QP (by omega)
theorem Z1w{α:Type}{l:List α}{i:Nat}(h:i < l.length)(d:α):l.getD i d∈l:=by
 rw [Q2,Q0 h]
 exact X8 h
theorem J4(k:Nat):(0:Int) < 2 ^ k:=Kf (by decide)
theorem ZkF{c:Int}(h0:0<=c)(h1:c < 6):List.getD [0,1,8,16,32,64] c.toNat 0=wd c/\0<=wd c:=by
 have:c=0\/c=1\/c=2\/c=3\/c=4\/c=5:=by omega
 rcases this with rfl | rfl | rfl | rfl | rfl | rfl <;> decide
theorem Znz{c:Int}(h:c < 0\/6<=c):wd c= -1:=by
 unfold wd
 repeat' split
 all_goals omega
theorem c88:Contract Try.prog cfg 88 J1:=by
 refine ZnX ?_
 intro c _ _
 refine ZrQ _ _ ?_
 (simp only [vcT,vcS])
 refine ⟨fun h=> ?_,fun h=> ⟨by omega,?_⟩⟩
 .refine Y4 (r':= .tup [(false,[.int .i64 0]),(false,[.bool false])]) ?_ (by (repeat' (first | exact trivial | exact rfl | apply And.intro)))
  simp only [ZeA,Znz h]
  try rfl
 .have hw:=ZkF (c:=c) (by omega) (by omega)
  refine Y4 (r':= .tup [(false,[.int .i64 (List.getD [0,1,8,16,32,64] (Int.toNat c) 0)]),(false,[.bool true])]) ?_ (by (repeat' (first | exact trivial | exact rfl | apply And.intro)))
  simp only [ZeA,hw.1]
  rw [if_neg (by omega),decide_eq_true hw.2]
theorem Zpx:Contract Try.prog cfg 107 J1:=by
 refine Zlw c88 ?_
 intro c _ _
 refine ZqR _ _ ?_
 refine ⟨trivial,?_⟩
 (repeat' (first | exact trivial | exact rfl | apply And.intro))
theorem Z5B(c:Int):wd c < 1\/wd c=1\/wd c=8\/wd c=16\/wd c=32\/wd c=64:=by have:=Z0H c;omega
theorem ZqM(c:Int): -1<=wd c/\wd c<=64:=by have:=Z0H c;omega
theorem Zem{c i:Int}(hi:0<=i)(hi':i<=1099511627776)(hw:1<=wd c):0<=i*wd c/\i*wd c<=70368744177664/\i*wd c % 64+wd c<=64/\
  ∀ k,0<=k->k < wd c->(i*wd c+k) / 64=i*wd c / 64/\(i*wd c+k) % 64=i*wd c % 64+k:=by
 rcases Z5B c with e | e | e | e | e | e
 .omega
 all_goals (rw [e];refine ⟨by omega,by omega,by omega,fun k _ _=> ⟨by omega,by omega⟩⟩)
def Z4J(l:List Int)(q:Int):Int:=if (l.length:Int)<=q then 0 else l.getD q.toNat 0
theorem Z3P{l:List Int}{c i:Int}(hw:1<=wd c)(h0:0<=i)(h1:i<=1099511627776):Jn l c i=Z4J l (i*wd c / 64) / 2 ^ (i*wd c % 64).toNat % 2 ^ (wd c).toNat:=by
 unfold Jn Z4J
 by_cases h2:(l.length:Int)<=i*wd c / 64
 .rw [if_pos (by omega),if_pos h2];simp
 .rw [if_neg (by omega),if_neg h2]
theorem Zev{x:Int}{n:Int}(h0:0<=n)(h1:n<=64):Int.fdiv x (2 ^ (min n.toNat (IntKind.bits .u64)))=x / 2 ^ n.toNat:=by
 rw [show min n.toNat (IntKind.bits .u64)=n.toNat by simp [IntKind.bits];omega,XG _ (Xc (J4 _))]
theorem Zpw:Contract Try.prog cfg 108 Z4Q:=by
 refine Zlv c88 ?_
 intro l c i _ hp
 simp only [Zb2] at hp
 refine ZqQ _ _ _ _ ?_
 rintro y hy
 (simp only [vcT,vcS])
 dsimp only at hy
 have hw:=Z0H c
 by_cases hg:1<=wd c
 .rw [if_neg (show ¬wd c < 0 by omega)] at hy ⊢
  refine ⟨trivial,fun h=> ?_,fun _=> by decide,fun h=> ZC rfl ?_,fun h=> ?_⟩
  .obtain ⟨a0,a1,a2,a3⟩:=Zem (c:=c) (i:=i) (by omega) (by omega) hg
   ((unfold InR;omega))
  .show (0:Int)=Jn l c i
   unfold Jn
   by_cases h0:i < 0\/1099511627776 < i
   .rw [if_pos (by omega)]
   .obtain ⟨a0,a1,a2,a3⟩:=Zem (c:=c) (i:=i) (by omega) (by omega) hg
    rw [QY a0,Jp (by omega) (by omega)] at hy
    rw [if_pos (by omega)]
  .obtain ⟨a0,a1,a2,a3⟩:=Zem (c:=c) (i:=i) (by omega) (by omega) hg
   rw [QY a0,Jp (by omega) (by omega)] at hy
   have hx:=Jd hp y.toNat
   have hm:Int.tmod (i*wd c) 64=i*wd c % 64:=XF a0
   rw [hm,Zev (by omega) (by omega)]
   have hg':Jn l c i=l.getD y.toNat 0 / 2 ^ (i*wd c % 64).toNat % 2 ^ (wd c).toNat:=by
    rw [Z3P hg (by omega) (by omega)]
    unfold Z4J
    rw [<-hy,if_neg (by omega)]
   have hz0:0<=l.getD y.toNat 0 / 2 ^ (i*wd c % 64).toNat:=Int.ediv_nonneg hx.1 (Xc (J4 _))
   have hz1:l.getD y.toNat 0 / 2 ^ (i*wd c % 64).toNat < 18446744073709551616:=Int.lt_of_le_of_lt (Int.ediv_le_self _ hx.1) hx.2
   refine ⟨by ((unfold InR;omega)),by decide,by omega,by ((unfold InR;omega)),by decide,by omega,fun h64=> ZC rfl ?_,fun h64=> ⟨by omega,ZC rfl ?_⟩⟩
   .show _=Jn l c i
    rw [hg']
    have h64':(2:Int) ^ (wd c).toNat=18446744073709551616:=by rw [h64];try rfl
    rw [h64']
    exact (Int.emod_eq_of_lt hz0 hz1).symm
   .show _=Jn l c i
    rw [hg']
    refine Z9g hz0 hz1 (wd c).toNat (by omega) ?_
    rcases Z5B c with e | e | e | e | e | e
    .omega
    all_goals first | (rw [e];decide) | omega
 .refine ⟨trivial,fun h=> ?_,fun _=> by decide,fun h=> ZC rfl ?_,fun h=> ?_⟩
  .exfalso
   have h1:=h.1.1.2
   rw [if_neg (by omega)] at h1
   omega
  .show (0:Int)=Jn l c i
   unfold Jn
   rw [if_pos (by omega)]
  .exfalso
   have h1:=h.1.1.1.2
   rw [if_neg (by omega)] at h1
   omega
theorem ZsO{w:Int}(h0:0<=w)(h1:w < 18446744073709551616):IntKind.wrap .u64 (BitVec.ofInt (IntKind.bits .u64) w &&& BitVec.ofInt (IntKind.bits .u64) 3).toNat=w % 4:=Z9g h0 h1 2 (by decide) rfl
theorem ZsN{w:Int}(h0:0<=w)(h1:w < 18446744073709551616):(IntKind.wrap .u64 (BitVec.ofInt (IntKind.bits .u64) w &&& BitVec.ofInt (IntKind.bits .u64) 4).toNat !=0)=decide (w / 4 % 2=1):=by
 obtain ⟨n,rfl⟩:=Ql h0
 have e1:BitVec.ofInt (IntKind.bits .u64) ((n:Nat):Int)=BitVec.ofNat 64 n:=by simp [IntKind.bits]
 have e2:BitVec.ofInt (IntKind.bits .u64) (4:Int)=BitVec.ofNat 64 4:=rfl
 rw [e1,e2]
 have hn:n < 2 ^ 64:=by omega
 have e4:(BitVec.ofNat 64 n &&& BitVec.ofNat 64 4).toNat=n / 4 % 2*4:=by
  rw [BitVec.toNat_and,XP,XP,Xf hn]
  apply Nat.eq_of_testBit_eq
  intro k
  rw [Nat.testBit_and,show (4 % 2 ^ 64:Nat)=2 ^ 2 from rfl,Nat.testBit_two_pow]
  by_cases hk:2=k
  .subst hk
   rw [Nat.testBit_eq_decide_div_mod_eq]
   have:n / 4 % 2=0\/n / 4 % 2=1:=by omega
   rcases this with e | e <;> rw [show n / 2 ^ 2=n / 4 from rfl,e] <;> decide
  .have:n / 4 % 2=0\/n / 4 % 2=1:=by omega
   rcases this with e | e <;> rw [e]
   .simp [hk]
   .rw [show 1*4=2 ^ 2 from rfl,Nat.testBit_two_pow];simp [hk]
 show (IntKind.wrap .u64 ((BitVec.ofNat 64 n &&& BitVec.ofNat 64 4).toNat:Int) !=0)=_
 rw [e4,Z0d (by omega) (by omega)]
 rw [QO]
 simp
 omega
theorem Zlm{w:Int}(h0:0<=w)(h1:w < 18446744073709551616):Int.fdiv (IntKind.wrap .i64 (IntKind.wrap .i32 (IntKind.wrap .u32 w))) (2 ^ (min (Int.toNat 2) (IntKind.bits .i64)))=Z8E w:=by
 show Int.fdiv _ 4=_
 rw [XG _ (by decide)]
 unfold Z8E
 simp only [IntKind.wrap,IntKind.signed,IntKind.bits]
 simp
 repeat' split
 all_goals omega
theorem Z4G:Contract Try.prog cfg 101 Yy:=by
 refine ZlC ?_
 intro w _ hp
 simp only [Z0P] at hp
 refine ZqX _ _ ?_
 rintro y hy
 dsimp only at hy
 have h3:=ZsO hp.1 hp.2
 rw [<-hy] at h3
 (simp only [vcT,vcS])
 rw [h3,Zlm hp.1 hp.2,ZsN hp.1 hp.2]
 have hs:∀ (k:Nat),k<=64->Int.fdiv w (2 ^ (min (Int.toNat (k:Int)) (IntKind.bits .u64)))=w / 2 ^ k:=fun k hk=> Zev (x:=w) (n:=(k:Int)) (by omega) (by omega)
 have s32:=hs 32 (by decide)
 have s48:=hs 48 (by decide)
 have s35:=hs 35 (by decide)
 have s3:=hs 3 (by decide)
 have m1:∀ x m:Int,0<=x->x < 18446744073709551616->∀ k:Nat,k<=32->m=2 ^ k - 1->IntKind.wrap .i64 (IntKind.wrap .u64 (BitVec.ofInt (IntKind.bits .u64) x &&& BitVec.ofInt (IntKind.bits .u64) m).toNat)=x % 2 ^ k:=by
  intro x m hx0 hx1 k hk hm
  rw [Z9g hx0 hx1 k (by omega) hm]
  have hp':=J4 k
  have hle:(2:Int) ^ k<=4294967296:=by
   have:(2:Int) ^ k=((2 ^ k:Nat):Int):=by simp
   rw [this]
   have:=XV (n:=2) (show 0 < 2 by decide) hk
   omega
  have a1:=XN x (show (2:Int) ^ k≠0 by omega)
  have a2:=Xk x hp'
  exact Jp (by omega) (by omega)
 erw [s32,s48,s35,s3]
 rw [m1 _ 65535 (by omega) (by omega) 16 (by decide) rfl,m1 _ 7 (by omega) (by omega) 3 (by decide) rfl,m1 _ 536870911 (by omega) (by omega) 29 (by decide) rfl]
 rw [Jp (n:=w / 2 ^ 48) (by omega) (by omega),Jp (n:=w / 2 ^ 35) (by omega) (by omega),Jp (n:=w / 2 ^ 32) (by omega) (by omega)]
 refine ⟨by decide,fun h=> ?_,fun hz=> ⟨fun h=> ⟨by decide,by decide,?_⟩,fun h0=> ⟨fun h=> ⟨by decide,by decide,?_⟩,fun h1=> ⟨fun h=> ⟨by decide,by decide,?_⟩,fun h2=> ?_⟩⟩⟩⟩
 all_goals
  refine Y4 (r':= .agg (enc .ptr (Z6 w))) rfl ?_
 .rw [show Z6 w=pz by unfold Z6;rw [if_pos h]];(repeat' (first | exact trivial | exact rfl | apply And.intro))
 .rw [show Z6 w=⟨1,Z8E w,w / 4294967296 % 65536,w / 281474976710656,0,0,0,false⟩ by unfold Z6;rw [if_neg hz,if_pos h]];(repeat' (first | exact trivial | exact rfl | apply And.intro))
 .rw [show Z6 w=⟨2,Z8E w,0,0,w / 4294967296 % 8,w / 34359738368,0,false⟩ by unfold Z6;rw [if_neg hz,if_neg h0,if_pos h]];(repeat' (first | exact trivial | exact rfl | apply And.intro))
 .rw [show Z6 w=⟨3,w / 8 % 536870912,0,0,0,0,w / 4294967296,decide (w / 4 % 2=1)⟩ by unfold Z6;rw [if_neg hz,if_neg h0,if_neg h1,if_pos h]];(repeat' (first | exact trivial | exact rfl | apply And.intro))
 .rw [show Z6 w=⟨4,0,0,0,0,0,0,false⟩ by unfold Z6;rw [if_neg hz,if_neg h0,if_neg h1,if_neg h2]];(repeat' (first | exact trivial | exact rfl | apply And.intro))
theorem c99:Contract Try.prog cfg 99 Z0J:=by
 refine ZnN ?_
 intro n to _ _
 refine ZrF _ _ _ ?_
 (simp only [vcT,vcS])
 refine Zw rfl ?_
 rw [QO]
 (simp only [vcT,vcS])
theorem Zpu:Contract Try.prog cfg 111 Z4O:=by
 refine Zls c99 ?_
 intro p _ hp
 simp only [Zb0] at hp
 have h1:=hp.data
 have h2:=hp.ptrs
 have h3:=hp.code
 have h4:=hp.count
 refine ZqN _ _ ?_
 rintro y hy
 (simp only [vcT,vcS])
 dsimp only at hy
 have hy':p.code<=6->y=Z0k p.code:=fun h=> by
  have:p.code=0\/p.code=1\/p.code=2\/p.code=3\/p.code=4\/p.code=5\/p.code=6:=by omega
  rcases this with e | e | e | e | e | e | e <;> rw [hy,e] <;> decide
 have hb:0<=Z0k p.code/\Z0k p.code<=64:=by unfold Z0k;(repeat' split) <;> omega
 have hc:p.code<=6->0<=p.count*y/\p.count*y<=34359738368:=fun h=> by
  rw [hy' h]
  have:=K3 (Xc h4.2) hb.2 hb.1 (by decide:(0:Int)<=536870912)
  exact ⟨Qw h4.1 hb.1,by omega⟩
 have hr:∀ n:Int,0<=n->ZY p=n->Z5O (p,())= .tup [(false,[.int .i64 n]),(false,[.bool true])]:=fun n h0 h=> by
  simp only [Z5O];rw [h,if_neg (by omega),decide_eq_true h0]
 have hr':ZY p < 0->Z5O (p,())= .tup [(false,[.int .i64 0]),(false,[.bool false])]:=fun h=> by
  simp only [Z5O];rw [if_pos h,decide_eq_false (by omega)]
 refine ⟨fun k1=> ⟨by ((unfold InR;omega)),?_⟩,fun k1=> ⟨fun k2=> ⟨by ((unfold InR;omega)),?_⟩,fun k2=> ⟨fun _=> trivial,fun _=> trivial,fun k3=> ?_,fun k3=> ?_⟩⟩⟩
 .rw [hr (p.data+p.ptrs) (by omega) (by unfold ZY;rw [if_pos k1])];(repeat' (first | exact trivial | exact rfl | apply And.intro))
 .rw [hr (p.count+1) (by omega) (by unfold ZY;rw [if_neg k1,if_pos k2.1,if_pos k2.2])];(repeat' (first | exact trivial | exact rfl | apply And.intro))
 .have hcc:=hc k3.1.2.2
  rw [QY (by omega),Jp (by omega) (by omega)]
  refine ⟨by omega,by ((unfold InR;omega)),by ((unfold InR;omega)),by decide,?_⟩
  rw [hr ((p.count*y+63) / 64) (by omega) (by unfold ZY;rw [if_neg k1,if_pos k3.1.1,if_neg (by omega),if_neg (by omega),hy' k3.1.2.2])];(repeat' (first | exact trivial | exact rfl | apply And.intro))
 .have hn:ZY p < 0:=by
   unfold ZY
   rw [if_neg k1]
   split
   .rw [if_neg (by omega),if_pos (by omega)];decide
   .decide
  rw [hr' hn];(repeat' (first | exact trivial | exact rfl | apply And.intro))
def YI(c n:Int):Int:=if wd c < 1\/n < 0\/1099511627776 < n then 0 else (n*wd c+63) / 64
def Z8n(c:Int)(l:List Int)(i n:Int):List Int:=
 if wd c < 1 then l else l.set (i*wd c / 64).toNat (l.getD (i*wd c / 64).toNat 0+n*2 ^ (i*wd c % 64).toNat)
def Z18(c:Int):List Int->Int->List Int->List Int
 | l,_,[]=> l
 | l,i,n ::r=> Z18 c (Z8n c l i n) (i+1) r
def J3(c:Int)(ns:List Int):List Int:=Z18 c (List.replicate (YI c ns.length).toNat 0) 0 ns
def Ju(c:Int)(ns:List Int):Bool:=decide (0<=wd c) && ns.all (Z1L c)
def JX(c:Int)(ns:List Int):List Int:=if Ju c ns then J3 c ns else []
theorem Z51(c:Int):∀ (a b l:List Int) (i:Int),Z18 c l i (a++b)=Z18 c (Z18 c l i a) (i+a.length) b
 | [],b,l,i=> by simp [Z18]
 | n ::r,b,l,i=> by
  simp only [QX,Z18]
  rw [Z51 c r b _ (i+1)]
  congr 1
  simp
  omega
theorem ZhW(c:Int)(l:List Int)(i n:Int):(Z8n c l i n).length=l.length:=by
 unfold Z8n
 split <;> simp
theorem Za3(c:Int):∀ (a l:List Int) (i:Int),(Z18 c l i a).length=l.length
 | [],l,i=> rfl
 | n ::r,l,i=> by rw [Z18,Za3 c r,ZhW]
def Z4l(c:Int)(ns:List Int)(i:Int):List Int:=Z18 c (List.replicate (YI c ns.length).toNat 0) 0 (ns.take i.toNat)
theorem Za2(c:Int)(ns:List Int):Z4l c ns 0=List.replicate (YI c ns.length).toNat 0:=by simp [Z4l,Z18]
theorem Z5P(c:Int)(ns:List Int){i:Int}(h0:0<=i)(h:i < ns.length):Z4l c ns (i+1)=Z8n c (Z4l c ns i) i (ns.getD i.toNat 0):=by
 unfold Z4l
 have e:ns.take (i+1).toNat=ns.take i.toNat++[ns.getD i.toNat 0]:=by
  rw [show (i+1).toNat=i.toNat+1 by omega,Q2,Q0 (show i.toNat < ns.length by omega),Qu]
  exact (Xp (by omega)).symm
 rw [e,Z51]
 simp only [Z18,Qd]
 congr 1
 omega
theorem Z50(c:Int)(ns:List Int):Z4l c ns ns.length=J3 c ns:=by simp [Z4l,J3]
theorem Z0O(c:Int)(ns:List Int)(i:Int):(Z4l c ns i).length=(YI c ns.length).toNat:=by simp [Z4l,Za3]
theorem Z7l{c n i:Int}(hw:1<=wd c)(h0:0<=i)(h1:i < n)(h2:n<=1099511627776):i*wd c / 64 < YI c n/\0<=i*wd c / 64:=by
 unfold YI
 rw [if_neg (by omega)]
 rcases Z5B c with e | e | e | e | e | e
 .omega
 all_goals (rw [e];omega)
def Z4K(c i:Int)(q:Nat):Nat:=min 64 (i*wd c - 64*q).toNat
def Zh9(c:Int)(l:List Int)(i:Int):Prop:=∀ q:Nat,0<=l.getD q 0/\l.getD q 0 < 2 ^ Z4K c i q
theorem ZaE{c i:Int}(hw:1<=wd c)(h0:0<=i)(h2:i<=1099511627776):Z4K c i (i*wd c / 64).toNat=(i*wd c % 64).toNat/\Z4K c (i+1) (i*wd c / 64).toNat=(i*wd c % 64).toNat+(wd c).toNat:=by
 unfold Z4K
 rcases Z5B c with e | e | e | e | e | e
 .omega
 all_goals (rw [e];constructor <;> omega)
theorem ZfZ(c i:Int)(q:Nat)(hw:1<=wd c):Z4K c i q<=Z4K c (i+1) q:=by
 unfold Z4K
 have:i*wd c<=(i+1)*wd c:=by rw [Xn];omega
 omega
theorem Z4o{a b:Nat}(h:a<=b):(2:Int) ^ a<=2 ^ b:=by
 have e:∀ k:Nat,(2:Int) ^ k=((2 ^ k:Nat):Int):=fun k=> by simp
 rw [e,e]
 exact Int.ofNat_le.2 (XV (by decide) h)
theorem ZeO{x n:Int}{a w:Nat}(hx:0<=x)(hx':x < 2 ^ a)(hn:0<=n)(hn':n < 2 ^ w):0<=x+n*2 ^ a/\x+n*2 ^ a < 2 ^ (a+w)/\0<=n*2 ^ a:=by
 have hp:=J4 a
 have h1:0<=n*2 ^ a:=Qw hn (Xc hp)
 have h2:(n+1)*2 ^ a<=2 ^ w*2 ^ a:=X3 (by omega) (Xc hp)
 rw [Xn,Kg] at h2
 rw [Int.pow_add,Kb (2 ^ a)]
 omega
theorem Z7r{c n:Int}(h:Z1L c n=true):0<=wd c/\n < 2 ^ (wd c).toNat:=by
 unfold Z1L at h
 exact of_decide_eq_true h
theorem Zgi{c:Int}{l:List Int}{i n:Int}(hw:1<=wd c)(h0:0<=i)(h2:i<=1099511627776)(hn:0<=n)(hf:Z1L c n=true)(h:Zh9 c l i):Zh9 c (Z8n c l i n) (i+1):=by
 intro q
 unfold Z8n
 rw [if_neg (by omega)]
 have hu:=ZaE hw h0 h2
 rw [Q2,Xd]
 by_cases hq:(i*wd c / 64).toNat=q
 .subst hq
  rw [if_pos rfl]
  have hq:=h (i*wd c / 64).toNat
  rw [hu.1] at hq
  have:=ZeO hq.1 hq.2 hn (Z7r hf).2
  by_cases hl:(i*wd c / 64).toNat < l.length
  .rw [if_pos hl,hu.2]
   simp only [Qu]
   omega
  .rw [if_neg hl]
   simp only [Option.getD_none]
   exact ⟨by decide,J4 _⟩
 .rw [if_neg hq,<-Q2]
  have hm:=Z4o (ZfZ c i q hw)
  have:=h q
  omega
theorem Zgh(c:Int)(k:Nat):Zh9 c (List.replicate k 0) 0:=by
 intro q
 have:(List.replicate k (0:Int)).getD q 0=0:=by
  rw [Q2,QW]
  split <;> rfl
 rw [this]
 exact ⟨by decide,J4 _⟩
theorem Z1K{c:Int}{ns:List Int}(h:Ju c ns=true){i:Nat}(hi:i < ns.length):Z1L c (ns.getD i 0)=true:=by
 unfold Ju at h
 rw [Q3,Qg] at h
 rw [Q2,Q0 hi]
 exact h.2 _ (X8 hi)
theorem Z8o{c:Int}{ns:List Int}(hw:1<=wd c)(hn:okW ns)(hl:(ns.length:Int)<=1099511627776):∀ (k:Nat),k<=ns.length->(∀ j,j < k->Z1L c (ns.getD j 0)=true)->Zh9 c (Z4l c ns k) k:=by
 intro k
 induction k with
 | zero=> intro _ _;rw [show ((0:Nat):Int)=0 from rfl,Za2];exact Zgh c _
 | succ k ih=>
  intro hk hf
  rw [show ((k+1:Nat):Int)=(k:Int)+1 by omega,Z5P c ns (by omega) (by omega)]
  have:=hf k (by omega)
  exact Zgi hw (by omega) (by omega) (Jd hn _).1 (by simpa using this) (ih (by omega) fun j hj=> hf j (by omega))
theorem ZhZ{c:Int}{l:List Int}{i:Int}(h:Zh9 c l i):okW l:=by
 intro x hx
 obtain ⟨q,hq,rfl⟩:=QZ hx
 have:=h q
 rw [Q2,Q0 hq,Qu] at this
 have hp:=Z4o (show Z4K c i q<=64 by unfold Z4K;omega)
 have h64:(2:Int) ^ 64=18446744073709551616:=rfl
 omega
theorem Zjw{x m:Int}{a w s:Nat}(h:a+w<=s):(x+m*2 ^ s) / 2 ^ a % 2 ^ w=x / 2 ^ a % 2 ^ w:=by
 have hp:=J4 a
 obtain ⟨t,rfl⟩:=Nat.exists_eq_add_of_le h
 rw [Int.pow_add,Int.pow_add,show m*(2 ^ a*2 ^ w*2 ^ t)=2 ^ a*(2 ^ w*(2 ^ t*m)) by simp only [Kb,Int.mul_left_comm,Int.mul_assoc]]
 rw [Int.add_mul_ediv_left _ _ (by omega),Int.add_mul_emod_self_left]
theorem Zm1{x n:Int}{a w:Nat}(hx:0<=x)(hx':x < 2 ^ a)(hn:0<=n)(hn':n < 2 ^ w):(x+n*2 ^ a) / 2 ^ a % 2 ^ w=n:=by
 rw [Int.add_mul_ediv_right _ _ (by have:=J4 a;omega),Int.ediv_eq_zero_of_lt hx hx',XO,Int.emod_eq_of_lt hn hn']
theorem Zkt{c i j:Int}(hw:1<=wd c)(h0:0<=j)(h1:j < i)(h2:i<=1099511627776)(h:i*wd c / 64=j*wd c / 64):(j*wd c % 64).toNat+(wd c).toNat<=(i*wd c % 64).toNat:=by
 rcases Z5B c with e | e | e | e | e | e
 .omega
 all_goals (rw [e] at h ⊢;omega)
theorem Zjx{c:Int}{ns:List Int}(hw:1<=wd c)(hn:okW ns)(hl:(ns.length:Int)<=1099511627776)(hf:Ju c ns=true){j:Int}(h0:0<=j):
  ∀ (k:Nat),k<=ns.length->j < k->Jn (Z4l c ns k) c j=ns.getD j.toNat 0:=by
 intro k
 induction k with
 | zero=> intro _ h;omega
 | succ k ih=>
  intro hk hj
  have hinv:=Z8o hw hn hl k (by omega) fun j hj=> Z1K hf (by omega)
  obtain ⟨r1,r2⟩:=Z7l hw (i:=k) (n:=ns.length) (by omega) (by omega) hl
  obtain ⟨s1,s2⟩:=Z7l hw (i:=j) (n:=ns.length) (by omega) (by omega) hl
  rw [Z3P hw h0 (by omega),show ((k+1:Nat):Int)=(k:Int)+1 by omega,Z5P c ns (by omega) (by omega)]
  unfold Z4J Z8n
  rw [if_neg (by omega:¬wd c < 1),if_neg (by rw [QR,Z0O];omega),Q2,Xd]
  by_cases hq:((k:Int)*wd c / 64).toNat=(j*wd c / 64).toNat
  .rw [if_pos hq,if_pos (by rw [Z0O];omega),Qu]
   by_cases hjk:j=k
   .subst hjk
    have hu:=ZaE hw (i:=(k:Int)) (by omega) (by omega)
    have hI:=hinv ((k:Int)*wd c / 64).toNat
    rw [hu.1] at hI
    exact Zm1 hI.1 hI.2 (Jd hn _).1 (Z7r (Z1K hf (by omega))).2
   .have hlt:j < k:=by omega
    rw [Zjw (Zkt hw h0 hlt (by omega) (by omega)),<-ih (by omega) hlt,Z3P hw h0 (by omega)]
    unfold Z4J
    rw [if_neg (by rw [Z0O];omega),hq]
  .rw [if_neg hq,<-Q2]
   have hlt:j < k:=by
    rcases Int.lt_or_le j k with h | h
    .exact h
    .have:j=k:=by omega
     subst this;exact absurd rfl hq
   rw [<-ih (by omega) hlt,Z3P hw h0 (by omega)]
   unfold Z4J
   rw [if_neg (by rw [Z0O];omega)]
theorem ZgM{c:Int}{ns:List Int}(hw:1<=wd c)(hn:okW ns)(hl:(ns.length:Int)<=1099511627776)(hf:Ju c ns=true){j:Int}(h0:0<=j)(h1:j < ns.length):Jn (J3 c ns) c j=ns.getD j.toNat 0:=by
 rw [<-Z50]
 exact Zjx hw hn hl hf h0 ns.length (Qn _) h1
theorem ZhV{c:Int}{ns:List Int}(hn:okW ns)(hl:(ns.length:Int)<=1099511627776)(hf:Ju c ns=true):okW (J3 c ns):=by
 by_cases hw:1<=wd c
 .rw [<-Z50]
  exact ZhZ (Z8o hw hn hl ns.length (Qn _) fun j hj=> Z1K hf hj)
 .have:J3 c ns=List.replicate (YI c ns.length).toNat 0:=by
   unfold J3
   have:∀ (a l:List Int) (i:Int),Z18 c l i a=l:=by
    intro a
    induction a with
    | nil=> intro l i;rfl
    | cons n r ih=> intro l i;rw [Z18,ih];unfold Z8n;rw [if_pos (by omega)]
   exact this _ _ _
  rw [this]
  intro x hx
  have:=(K4.1 hx).2
  omega
theorem Z8m(c:Int)(ns:List Int):(J3 c ns).length=(YI c ns.length).toNat:=by rw [<-Z50,Z0O]
end Go.AM.Ytcljdbpmjdgooaa
namespace Go.AM
def Jo(n t:Int):Int:=if n < 0 then 0 else if t < n then t else n
def JM(x:Limits):Limits:=⟨Jo x.depth 64,Jo x.weight 65536,Jo x.maxD 4096,Jo x.maxOut 131072⟩
def ZV(x:XRef):Int:=if x.kind=1 then 1+x.data+x.ptrs else if x.kind=9 then 1+x.count*(1+x.data+x.ptrs) else 1+x.count
def ZZ(f:Int->Int->Tree × Int × Int):Nat->Int->Int->List Tree->List Tree × Int × Int
 | 0,_,left,acc=> (acc,left,0)
 | n+1,i,left,acc=> if (f i left).2.2=0 then ZZ f n (i+1) (f i left).2.1 (acc++[(f i left).1]) else (acc,(f i left).2)
def Js(l:List (List Int))(m:XRef->Int->Tree × Int × Int)(x:XRef)(left:Int):Tree × Int × Int:=
 (⟨1,ZF l x,(ZZ (fun j left=> if (Zk l x j).2=0 then m (Zk l x j).1 left else (Tree.nil,left,(Zk l x j).2)) x.ptrs.toNat 0 left []).1⟩,
  (ZZ (fun j left=> if (Zk l x j).2=0 then m (Zk l x j).1 left else (Tree.nil,left,(Zk l x j).2)) x.ptrs.toNat 0 left []).2)
def Ym(l:List (List Int))(m m':XRef->Int->Tree × Int × Int)(x:XRef)(i left:Int):Tree × Int × Int:=
 if (Zk l x i).2=0 then
  if x.kind=9 then Js l m' (Zk l x i).1 left
  else if x.kind=1\/x.kind=8 then m (Zk l x i).1 left
  else (⟨(Zk l x i).1.kind,ZF l (Zk l x i).1,[]⟩,left,0)
 else (Tree.nil,left,(Zk l x i).2)
def YR(l:List (List Int))(d:Nat)(m m':XRef->Int->Tree × Int × Int)(x:XRef)(left:Int):Tree × Int × Int:=
 if x.kind=0 then (⟨0,ZF l x,[]⟩,left,0)
 else if d=0\/(x.kind=9/\0 < x.count/\d < 2)\/left < ZV x then (⟨x.kind,ZF l x,[]⟩,left,3)
 else (⟨x.kind,ZF l x,(ZZ (Ym l m m' x) (ZH x).toNat 0 (left - ZV x) []).1⟩,(ZZ (Ym l m m' x) (ZH x).toNat 0 (left - ZV x) []).2)
def Zs(l:List (List Int)):Nat->XRef->Int->Tree × Int × Int
 | 0=> YR l 0 (fun _ left=> (Tree.nil,left,3)) (fun _ left=> (Tree.nil,left,3))
 | 1=> YR l 1 (Zs l 0) (fun _ left=> (Tree.nil,left,3))
 | d+2=> YR l (d+2) (Zs l (d+1)) (Zs l d)
def Z2e(l:List (List Int))(d:Nat)(x:XRef)(i left:Int):Int × Int:=
 if (Zk l x i).2=0 then (if x.kind=9 then (Js l (Zs l d) (Zk l x i).1 left).2 else (Zs l d (Zk l x i).1 left).2) else (left,(Zk l x i).2)
def Z0l(l:List (List Int))(x:Limits):Tree × Int × Int:=
 if (Zo l 0 0).2=0 then
  if (Zs l (JM x).depth.toNat (Zo l 0 0).1 (JM x).weight).2.2=0 then
   ((Zs l (JM x).depth.toNat (Zo l 0 0).1 (JM x).weight).1,(JM x).weight - (Zs l (JM x).depth.toNat (Zo l 0 0).1 (JM x).weight).2.1,0)
  else (Tree.nil,0,(Zs l (JM x).depth.toNat (Zo l 0 0).1 (JM x).weight).2.2)
 else (Tree.nil,0,(Zo l 0 0).2)
theorem Z56{l:List (List Int)}{x:XRef}(h:OkX l x):1<=ZV x:=by
 have h1:=h.data
 have h2:=h.ptrs
 have h3:=h.count
 unfold ZV
 split
 .omega
 .split
  .have:=Qw h3.1 (show 0<=1+x.data+x.ptrs by omega);omega
  .omega
theorem Z8P{l:List (List Int)}{x:XRef}(h:OkX l x):0<=ZH x/\ZH x+1<=ZV x:=by
 have h1:=h.data
 have h2:=h.ptrs
 have h3:=h.count
 unfold ZV ZH
 split
 .omega
 .split
  .have:x.count*1<=x.count*(1+x.data+x.ptrs):=Int.mul_le_mul_of_nonneg_left (by omega) h3.1
   omega
  .omega
def Zmp(r:Tree × Int × Int)(left:Int):Prop:=0<=r.2.1/\r.2.1<=left
theorem Z4z{f:Int->Int->Tree × Int × Int}(hf:∀ i left,0<=left->Zmp (f i left) left):∀ (n:Nat) (i left:Int) (acc:List Tree),0<=left->0<=(ZZ f n i left acc).2.1/\(ZZ f n i left acc).2.1<=left
 | 0,_,left,_,h=> ⟨h,QE _⟩
 | n+1,i,left,acc,h=> by
  have h1:=hf i left h
  simp only [ZZ]
  split
  .have:=Z4z hf n (i+1) (f i left).2.1 (acc++[(f i left).1]) h1.1
   exact ⟨this.1,Int.le_trans this.2 h1.2⟩
  .exact h1
def Z7b(l:List (List Int))(m:XRef->Int->Tree × Int × Int):Prop:=∀ x left,OkX l x->0<=left->Zmp (m x left) left
theorem Z8Q{l:List (List Int)}(hl:YK l){m:XRef->Int->Tree × Int × Int}(hm:Z7b l m){x:XRef}(hx:OkX l x)(left:Int)(h:0<=left):Zmp (Js l m x left) left:=by
 refine Z4z (fun j left h=> ?_) _ _ _ _ h
 split
 .exact hm _ _ (Ja hl hx _) h
 .exact ⟨h,QE _⟩
theorem Zar{l:List (List Int)}(hl:YK l){m m':XRef->Int->Tree × Int × Int}(hm:Z7b l m)(hm':Z7b l m'){x:XRef}(hx:OkX l x)(i left:Int)(h:0<=left):Zmp (Ym l m m' x i left) left:=by
 unfold Ym
 split
 .split
  .exact Z8Q hl hm' (Ja hl hx _) _ h
  .split
   .exact hm _ _ (Ja hl hx _) h
   .exact ⟨h,QE _⟩
 .exact ⟨h,QE _⟩
theorem Z4g{l:List (List Int)}(hl:YK l){d:Nat}{m m':XRef->Int->Tree × Int × Int}(hm:Z7b l m)(hm':Z7b l m'):Z7b l (YR l d m m'):=by
 intro x left hx h
 unfold YR
 split
 .exact ⟨h,QE _⟩
 .split
  .exact ⟨h,QE _⟩
  .have h1:=Z56 hx
   have:=Z4z (f:=Ym l m m' x) (fun i left h=> Zar hl hm hm' hx i left h) (ZH x).toNat 0 (left - ZV x) [] (by omega)
   exact ⟨this.1,by have:=this.2;dsimp only;omega⟩
theorem Z5T{l:List (List Int)}:Z7b l (fun _ left=> (Tree.nil,left,3)):=fun _ _ _ h=> ⟨h,QE _⟩
theorem Z3I{l:List (List Int)}(hl:YK l):∀ d:Nat,Z7b l (Zs l d):=by
 intro d
 induction d using Nat.strongRecOn with
 | ind d ih=>
  match d with
  | 0=> exact Z4g hl Z5T Z5T
  | 1=> exact Z4g hl (ih 0 (by omega)) Z5T
  | d+2=> exact Z4g hl (ih (d+1) (by omega)) (ih d (by omega))
theorem JT{l:List (List Int)}{d:Nat}{x:XRef}{left:Int}(h:1<=d):Zs l d x left=YR l d (Zs l (d - 1)) (Zs l (d - 2)) x left:=by
 match d,h with
 | 1,_=>
  show YR l 1 (Zs l 0) _ x left=YR l 1 (Zs l 0) (Zs l 0) x left
  unfold YR
  split
  .try rfl
  .split
   .try rfl
   .rename_i h0 h1
    have h9:x.kind=9->x.count<=0:=fun e=> by
     by_cases hc:0 < x.count
     .exact absurd (.inr (.inl ⟨e,hc,by decide⟩)) h1
     .omega
    have:∀ a b,Ym l (Zs l 0) a x=Ym l (Zs l 0) b x\/(ZH x).toNat=0:=fun a b=> by
     by_cases e:x.kind=9
     .right
      have:=h9 e
      unfold ZH
      rw [if_neg (by omega)]
      omega
     .left
      funext i left
      unfold Ym
      rw [if_neg e,if_neg e]
    rcases this (fun _ left=> (Tree.nil,left,3)) (Zs l 0) with e | e
    .rw [e]
    .rw [e];try rfl
 | d+2,_=> rfl
theorem Zag{l:List (List Int)}{x:XRef}{left:Int}:Zs l 0 x left=if x.kind=0 then (⟨0,ZF l x,[]⟩,left,0) else (⟨x.kind,ZF l x,[]⟩,left,3):=by
 show YR l 0 _ _ x left=_
 unfold YR
 split
 .try rfl
 .rw [if_pos (.inl rfl)]
end Go.AM
namespace Go.AM.Ytcljdbpmjdgooaa
open Go.AM Go.Proofs
noncomputable section
def ZfL:ArgL (Option Arena × Unit):=(.cons (aPo .arena) .nil)
def Z5Q(a:Option Arena × Unit):Prop:=okB a.1
def ZhN(a:Option Arena × Unit):V U:= .c (ci ((Z1 a.1).length:Int))
def JQ:Fs U:=fs ZfL (fun a=> [Z5Q a]) ZhN
def ZjO:ArgL (Option Arena × Int × Unit):=(.cons (aPo .arena) (.cons (ZQ .i64) .nil))
def ZeP(a:Option Arena × Int × Unit):Prop:=okB a.1
def ZmG(a:Option Arena × Int × Unit):V U:= .c (ci ((Zh (Z1 a.1) a.2.1).length:Int))
def Z2D:Fs U:=fs ZjO (fun a=> [ZeP a]) ZmG
def ZfK:ArgL (Option Arena × Int × Int × Int × Unit):=(.cons (aPo .arena) (.cons (ZQ .i64) (.cons (ZQ .i64) (.cons (ZQ .i64) .nil))))
def Z4n(a:Option Arena × Int × Int × Int × Unit):Prop:=okB a.1
def ZhM(a:Option Arena × Int × Int × Int × Unit):V U:= .c (.bool (Zc (Z1 a.1) a.2.1 a.2.2.1 a.2.2.2.1))
def YY:Fs U:=fs ZfK (fun a=> [Z4n a]) ZhM
def ZjQ:ArgL (Option Arena × Int × Int × Unit):=(.cons (aPo .arena) (.cons (ZQ .i64) (.cons (ZQ .i64) .nil)))
def Z8q(a:Option Arena × Int × Int × Unit):Prop:=okB a.1
def Zey(a:Option Arena × Int × Int × Unit):V U:= .tup [(false,[.int .u64 (if Zc (Z1 a.1) a.2.1 a.2.2.1 1 then Zg (Z1 a.1) a.2.1 a.2.2.1 else 0)]),(false,[.bool (Zc (Z1 a.1) a.2.1 a.2.2.1 1)])]
def JO:Fs U:=fs ZjQ (fun a=> [Z8q a]) Zey
def Zke:ArgL (List Int × Unit):=(.cons (aSl .u64) .nil)
def Z8t(a:List Int × Unit):Prop:=a.1.length<=17592186044416
def Zn0(a:List Int × Unit):V U:= .c (sU .u64 a.1 .unk)
def Z0M:Fs U:=fs Zke (fun a=> [Z8t a]) Zn0
def ZaV(a:Option Arena × Int × Int × Int × Unit):V U:= .tup [(false,[sU .u64 (if Zc (Z1 a.1) a.2.1 a.2.2.1 a.2.2.2.1 then Z2q (Z1 a.1) a.2.1 a.2.2.1 a.2.2.2.1 else []) .unk]),(false,[.bool (Zc (Z1 a.1) a.2.1 a.2.2.1 a.2.2.2.1)])]
def Z4P:Fs U:=fs ZfK (fun a=> [Z4n a]) ZaV
def Zkl:ArgL (List (List Int) × Unit):=(.cons (aSl .words) .nil)
def Z8w(a:List (List Int) × Unit):Prop:=YK a.1
def Zn6(a:List (List Int) × Unit):V U:= .c (.po (U:=U) .arena (some (Arena.mk a.1 0 0 0)))
def Z2P:Fs U:=fs Zkl (fun a=> [Z8w a]) Zn6
def Zn7(a:Option Arena × Unit):V U:= .c (sU .words (Z1 a.1) .unk)
def Z2Q:Fs U:=fs ZfL (fun a=> [Z5Q a]) Zn7
def ZiG:Z8 U:=lvl [([0],[]),([0,4],[]),([2],[]),([2],[])]
abbrev ZsZ(p:List Nat):=AW (Z0 Zj1) Try.f102 ZiG p
theorem ZqW(a:Option Arena)(Q:QT)(h:(((Option.isNone a)=true->(Q .ret (L2 [pI 2 0] [])))/\((Option.isNone a)=false->(Option.isSome a=true)/\(Option.isSome a=true)/\(Q .ret (L2 [(2,.c (ci ((Arena.segs (Option.getD a (Arena.mk [] 0 0 0))).length:Int)))] []))))):
  ZsZ [] (L2 [(0,.c (.po (U:=U) .arena a))] []) Q:=
 Eq.mpr (by kernel_rfl) h
def Zmz(a:Option Arena):Prop:=AW (Z0 Zj1) Try.f102 ZiG [] (Zi (ZfL.can (a,())) []) (EQ Try.f102 (ZhN (a,())) [])
theorem ZlB(hb:∀ (a:Option Arena) (_:Unit),Z5Q (a,())->Zmz a):CT 102 JQ:=
 Z2 (l:=[]) Zf rfl trivial ZiG Try.func102 rfl rfl 1 (fun _=> rfl) (by decide) (fun ⟨a,_⟩=> hb a ())
def ZiU:List (FuncId × Fs U):=[(102,JQ)]
def ZoM:Z8 U:=lvl [([0,1],[]),([0,1,12],[]),([4],[]),([4],[])]
abbrev A97(p:List Nat):=AW (Z0 ZiU) Try.f97 ZoM p
theorem ZrH(a:Option Arena)(s:Int)(Q:QT)(h:let z2:=Arena.segs (Option.getD a (Arena.mk [] 0 0 0));let z1:= !(decide (s < 0));let z0:=bif (decide (s < 0)) then true else (decide ((((Z1 a).length:Int):Int)<=s));((Tr (z1=true))/\(z1=true->Z5Q (a,()))/\(Tr (z1=true))/\(Tr (z1=true))/\((decide (s < 0))=false->z1=true)/\((z0=true->(Q .ret (L2 [pI 4 0] [])))/\(z0=false->(Option.isSome a=true)/\(Option.isSome a=true)/\((0:Int)<=s/\s < (z2.length:Int))/\(Q .ret (L2 [(4,.c (ci ((List.getD z2 s.toNat ([]:List Int)).length:Int)))] [])))))):
  A97 [] (L2 [(0,.c (.po (U:=U) .arena a)),pI 1 s] []) Q:=
 Eq.mpr (by kernel_rfl) h
def ZpM(a:Option Arena)(s:Int):Prop:=AW (Z0 ZiU) Try.f97 ZoM [] (Zi (ZjO.can (a,s,())) []) (EQ Try.f97 (ZmG (a,s,())) [])
theorem ZnP(Zbm:CT 102 JQ)(hb:∀ (a:Option Arena) (s:Int) (_:Unit),ZeP (a,s,())->ZpM a s):CT 97 Z2D:=
 Z2 (l:=[(102,JQ)]) Zf rfl (⟨Zbm,trivial⟩) ZoM Try.func97 rfl rfl 2 (fun _=> rfl) (by decide) (fun ⟨a,s,_⟩=> hb a s ())
def Zfl:List (FuncId × Fs U):=[(102,JQ),(97,Z2D)]
def ZiF:Z8 U:=lvl [([0,1,2,3],[]),([0,1,2,3,9],[]),([8],[])]
abbrev ZsY(p:List Nat):=AW (Z0 Zfl) Try.f103 ZiF p
theorem ZqV(a:Option Arena)(s at_ n:Int)(Q:QT)(h:let z5:=Zh (Z1 a) s;let z3:=decide ((0:Int)<=s);let z2:=bif z3 then (decide (s < ((Z1 a).length:Int))) else false;let z4:=bif z2 then (decide ((0:Int)<=at_)) else false;let z0:=bif z4 then (decide ((0:Int)<=n)) else false;let z1:=bif z0 then (decide (n<=(z5.length:Int))) else false;((ZeP (a,s,()))/\((Tr (z3=true))/\(z3=true->Z5Q (a,()))/\(Tr (z3=true))/\(Tr (z3=true))/\(Tr (z3=true))/\(Tr (z2=true))/\(Tr (z2=true))/\(Tr (z4=true))/\(Tr (z4=true))/\(Tr (z0=true))/\(Tr (z0=true))/\(Tr (z0=true))/\(Tr (z1=true))/\(Tr (z1=true))/\(z1=true->InR (((z5.length:Int):Int) - n))/\(Tr (z1=true))/\(Tr (z1=true))/\(Tr (z1=true))/\(Q .ret (L2 [(8,.c (.bool (bif z1 then (decide (at_<=(((z5.length:Int):Int) - n))) else false)))] []))))):
  ZsY [] (L2 [(0,.c (.po (U:=U) .arena a)),pI 1 s,pI 2 at_,pI 3 n] []) Q:=
 Eq.mpr (by kernel_rfl) h
def Zmy(a:Option Arena)(s at_ n:Int):Prop:=AW (Z0 Zfl) Try.f103 ZiF [] (Zi (ZfK.can (a,s,at_,n,())) []) (EQ Try.f103 (ZhM (a,s,at_,n,())) [])
theorem ZlA(Zbm:CT 102 JQ)(c97:CT 97 Z2D)(hb:∀ (a:Option Arena) (s:Int) (at_:Int) (n:Int) (_:Unit),Z4n (a,s,at_,n,())->Zmy a s at_ n):CT 103 YY:=
 Z2 (l:=[(102,JQ),(97,Z2D)]) Zf rfl (⟨Zbm,c97,trivial⟩) ZiF Try.func103 rfl rfl 4 (fun _=> rfl) (by decide) (fun ⟨a,s,at_,n,_⟩=> hb a s at_ n ())
def ZiW:List (FuncId × Fs U):=[(103,YY)]
def ZoO:Z8 U:=lvl [([0,1,2],[]),([0,1,2,12],[]),([6,7],[]),([6,7],[])]
abbrev A95(p:List Nat):=AW (Z0 ZiW) Try.f95 ZoO p
theorem ZrJ(a:Option Arena)(s at_:Int)(Q:QT)(h:let z0:=Arena.segs (Option.getD a (Arena.mk [] 0 0 0));let z1:=List.getD z0 s.toNat ([]:List Int);((Z4n (a,s,at_,1,()))/\(((!(Zc (Z1 a) s at_ 1))=true->(Q .ret (L2 [(6,.c (.int .u64 0)),pB 7 false] [])))/\((!(Zc (Z1 a) s at_ 1))=false->(Option.isSome a=true)/\(Option.isSome a=true)/\((0:Int)<=s/\s < (z0.length:Int))/\((0:Int)<=at_/\at_ < (z1.length:Int))/\(Q .ret (L2 [(6,.c (.int .u64 (List.getD z1 at_.toNat (0:Int)))),pB 7 true] [])))))):
  A95 [] (L2 [(0,.c (.po (U:=U) .arena a)),pI 1 s,pI 2 at_] []) Q:=
 Eq.mpr (by kernel_rfl) h
def ZpO(a:Option Arena)(s at_:Int):Prop:=AW (Z0 ZiW) Try.f95 ZoO [] (Zi (ZjQ.can (a,s,at_,())) []) (EQ Try.f95 (Zey (a,s,at_,())) [])
theorem ZnR(Z7h:CT 103 YY)(hb:∀ (a:Option Arena) (s:Int) (at_:Int) (_:Unit),Z8q (a,s,at_,())->ZpO a s at_):CT 95 JO:=
 Z2 (l:=[(103,YY)]) Zf rfl (⟨Z7h,trivial⟩) ZoO Try.func95 rfl rfl 3 (fun _=> rfl) (by decide) (fun ⟨a,s,at_,_⟩=> hb a s at_ ())
abbrev A37(p:List Nat):=AW (Z0 Zj1) Try.f37 ZiG p
theorem Zsn(l:List Int)(Q:QT)(h:(((l=[])->(Q .ret (L2 [(2,.c (.nils))] [])))/\(True->((([]:List Int).length+l.length)*8<=140737488355328)/\(Q .ret (L2 [(2,.c (sU .u64 (([]:List Int)++l) (.own (.e 2 0))))] []))))):
  A37 [] (L2 [(0,.c (sU .u64 l .unk))] []) Q:=
 Eq.mpr (by kernel_rfl) h
def Zqs(l:List Int):Prop:=AW (Z0 Zj1) Try.f37 ZiG [] (Zi (Zke.can (l,())) []) (EQ Try.f37 (Zn0 (l,())) [])
theorem Zor(hb:∀ (l:List Int) (_:Unit),Z8t (l,())->Zqs l):CT 37 Z0M:=
 Z2 (l:=[]) Zf rfl trivial ZiG Try.func37 rfl rfl 1 (fun _=> rfl) (by decide) (fun ⟨l,_⟩=> hb l ())
def Zfe:List (FuncId × Fs U):=[(103,YY),(37,Z0M)]
def Ziy:Z8 U:=lvl [([0,1,2,3],[]),([0,1,2,3,15],[]),([8,9],[]),([8,9],[])]
abbrev ZsR(p:List Nat):=AW (Z0 Zfe) Try.f110 Ziy p
theorem ZqO(a:Option Arena)(s at_ n:Int)(Q:QT)(h:let z2:=Arena.segs (Option.getD a (Arena.mk [] 0 0 0));let z0:=List.getD z2 s.toNat ([]:List Int);let z1:=List.drop at_.toNat (List.take (Int.toNat (at_+n)) z0);((Z4n (a,s,at_,n,()))/\(((!(Zc (Z1 a) s at_ n))=true->(Q .ret (L2 [(8,.c (.nils)),pB 9 false] [])))/\((!(Zc (Z1 a) s at_ n))=false->(Option.isSome a=true)/\(Option.isSome a=true)/\((0:Int)<=s/\s < (z2.length:Int))/\(InR (at_+n))/\((0:Int)<=at_/\at_<=(at_+n)/\(at_+n)<=(z0.length:Int))/\(Z8t (z1,()))/\(Q .ret (L2 [(8,.c (sU .u64 z1 .unk)),pB 9 true] [])))))):
  ZsR [] (L2 [(0,.c (.po (U:=U) .arena a)),pI 1 s,pI 2 at_,pI 3 n] []) Q:=
 Eq.mpr (by kernel_rfl) h
def Zmr(a:Option Arena)(s at_ n:Int):Prop:=AW (Z0 Zfe) Try.f110 Ziy [] (Zi (ZfK.can (a,s,at_,n,())) []) (EQ Try.f110 (ZaV (a,s,at_,n,())) [])
theorem Zlt(Z7h:CT 103 YY)(c37:CT 37 Z0M)(hb:∀ (a:Option Arena) (s:Int) (at_:Int) (n:Int) (_:Unit),Z4n (a,s,at_,n,())->Zmr a s at_ n):CT 110 Z4P:=
 Z2 (l:=[(103,YY),(37,Z0M)]) Zf rfl (⟨Z7h,c37,trivial⟩) Ziy Try.func110 rfl rfl 4 (fun _=> rfl) (by decide) (fun ⟨a,s,at_,n,_⟩=> hb a s at_ n ())
def ZdU:List (FuncId × Fs U):=[(37,Z0M)]
def ZlS:Z8 U:=fun i=> match i with
 | 0=> ([(0,[])],[])
 | 1=> ([(0,[]),(3,[])],[(.loc 7,[])])
 | 2=> ([(3,[]),(8,[]),(9,[]),(10,[])],[(.loc 7,[.own .words])])
 | 3=> ([(3,[]),(8,[]),(9,[]),(10,[]),(11,[])],[(.loc 7,[])])
 | 4=> ([(3,[]),(5,[]),(8,[]),(9,[]),(10,[])],[(.loc 7,[])])
 | 5=> ([(3,[]),(8,[]),(9,[]),(10,[])],[(.loc 7,[])])
 | 6=> ([(3,[]),(8,[]),(9,[]),(10,[])],[(.loc 7,[.own .words])])
 | 7=> ([(2,[.pt .arena])],[(.loc 7,[])])
 | _=> ([],[])
def Z5o(l:List (List Int))(x10:Int)(ml7_0:List (List Int)):LSt U:=(L2 [(3,.ptr (.loc 7) 0),(8,.c (sU .words l .unk)),pI 9 (l.length:Int),pI 10 x10] [(.loc 7,[sU .words ml7_0 (.own (.l 7 0)),ci 0,ci 0,ci 0])])
abbrev A15(p:List Nat):=AW (Z0 ZdU) Try.f15 ZlS p
abbrev S15(p:List Nat):=SW (Z0 ZdU) Try.f15 ZlS p
theorem ZsC(l:List (List Int))(Q:QT)(h:(ZJ (A15 [1,1,0,1,0,0]) (Z5o l 0 []) (xB 0 (S15 [1,1,1] Q)))):
  A15 [] (L2 [(0,.c (sU .words l .unk))] []) Q:=
 Eq.mpr (by kernel_rfl) h
theorem Zl4(l:List (List Int))(x10:Int)(ml7_0:List (List Int))(N0:NT)(Q:QT)(h:let z1:=decide (x10 < (l.length:Int));let z0:=l.getD x10.toNat ([]:List Int);((z1=true->((0:Int)<=x10/\x10 < (l.length:Int))/\((Z8t (z0,()))/\((ml7_0.length+([z0]).length)*24<=140737488355328)/\((InR (x10+1))/\(N0 (Z5o l (x10+1) (ml7_0++([z0])))))))/\(z1=false->(Q .ret (L2 [(2,.c (.po (U:=U) .arena (some (Arena.mk ml7_0 0 0 0))))] []))))):
  A15 [1,1,0,1,0,0] (Z5o l x10 ml7_0) (xT N0 (xB 0 (S15 [1,1,1] Q))):=
 Eq.mpr (by kernel_rfl) h
def ZqH(l:List (List Int)):Prop:=AW (Z0 ZdU) Try.f15 ZlS [] (Zi (Zkl.can (l,())) []) (EQ Try.f15 (Zn6 (l,())) [])
theorem ZoF(c37:CT 37 Z0M)(hb:∀ (l:List (List Int)) (_:Unit),Z8w (l,())->ZqH l):CT 15 Z2P:=
 Z2 (l:=[(37,Z0M)]) Zf rfl (⟨c37,trivial⟩) ZlS Try.func15 rfl rfl 1 (fun _=> rfl) (by decide) (fun ⟨l,_⟩=> hb l ())
def Zjt:List (FuncId × Fs U):=[(15,Z2P)]
abbrev A11(p:List Nat):=AW (Z0 Zjt) Try.f11 ZiG p
theorem ZsF(a:Option Arena)(Q:QT)(h:let z1:=Arena.segs (Option.getD a (Arena.mk [] 0 0 0));let z0:=some (Arena.mk z1 0 0 0);(((Option.isNone a)=true->(Q .ret (L2 [(2,.c (.nils))] [])))/\((Option.isNone a)=false->(Option.isSome a=true)/\(Option.isSome a=true)/\(Z8w (z1,()))/\(Option.isSome z0=true)/\(Option.isSome z0=true)/\(Q .ret (L2 [(2,.c (sU .words (Arena.segs (Option.getD z0 (Arena.mk [] 0 0 0))) .unk))] []))))):
  A11 [] (L2 [(0,.c (.po (U:=U) .arena a))] []) Q:=
 Eq.mpr (by kernel_rfl) h
def ZqK(a:Option Arena):Prop:=AW (Z0 Zjt) Try.f11 ZiG [] (Zi (ZfL.can (a,())) []) (EQ Try.f11 (Zn7 (a,())) [])
theorem ZoI(c15:CT 15 Z2P)(hb:∀ (a:Option Arena) (_:Unit),Z5Q (a,())->ZqK a):CT 11 Z2Q:=
 Z2 (l:=[(15,Z2P)]) Zf rfl (⟨c15,trivial⟩) ZiG Try.func11 rfl rfl 1 (fun _=> rfl) (by decide) (fun ⟨a,_⟩=> hb a ())
end
theorem Z1r{a:Option Arena}(h:a.isSome=true):(a.getD (Arena.mk [] 0 0 0)).segs=Z1 a:=by
 cases a with
 | none=> cases h
 | some x=> rfl
theorem Zbm:Contract Try.prog cfg 102 JQ:=by
 refine ZlB ?_
 intro a _ hp
 refine ZqW _ _ ?_
 (simp only [vcT,vcS])
 refine ⟨fun h=> ZC rfl ?_,fun h=> ?_⟩
 .show (0:Int)=((Z1 a).length:Int)
  cases a with
  | none=> rfl
  | some x=> cases h
 .have hs:a.isSome=true:=by
   cases a with
   | none=> cases h
   | some x=> rfl
  refine ⟨hs,hs,ZC rfl ?_⟩
  rw [Z1r hs]
theorem Z2R{a:Option Arena}{s:Int}(h0:0<=s)(h:s < ((Z1 a).length:Int)):a.isSome=true:=by
 cases a with
 | none=> simp [Z1] at h;omega
 | some x=> rfl
theorem Z89{l:List (List Int)}{s:Int}(h:0<=s):Zh l s=l.getD s.toNat []:=by unfold Zh;rw [if_neg (by omega)]
theorem Zg8{l:List (List Int)}{s:Int}(h:s < 0\/(l.length:Int)<=s):Zh l s=[]:=by
 unfold Zh
 split
 .try rfl
 .rw [Q2,Qz (by omega)];try rfl
theorem c97:Contract Try.prog cfg 97 Z2D:=by
 refine ZnP Zbm ?_
 intro a s _ hp
 refine ZrH _ _ _ ?_
 (simp only [vcT,vcS])
 refine ⟨fun _=> hp,fun h=> ZC rfl ?_,fun h=> ?_⟩
 .show (0:Int)=((Zh (Z1 a) s).length:Int)
  rw [Zg8 h];try rfl
 .have hs:=Z2R (a:=a) (s:=s) (by omega) (by omega)
  rw [Z1r hs]
  refine ⟨hs,hs,by omega,ZC rfl ?_⟩
  show _=((Zh (Z1 a) s).length:Int)
  rw [Z89 (by omega)]
theorem Z7h:Contract Try.prog cfg 103 YY:=by
 refine ZlA Zbm c97 ?_
 intro a s x n _ hp
 refine ZqV _ _ _ _ _ ?_
 have hl:=(Yr hp s).1
 (simp only [vcT,vcS])
 refine ⟨hp,fun _=> hp,fun h=> by dsimp only at hl;((unfold InR;omega)),Zw rfl ?_⟩
 rw [QO]
 show _↔Zc (Z1 a) s x n=true
 rw [Z3]
 (simp only [vcT,vcS])
 omega
theorem c95:Contract Try.prog cfg 95 JO:=by
 refine ZnR Z7h ?_
 intro a s x _ hp
 refine ZrJ _ _ _ _ ?_
 (simp only [vcT,vcS])
 refine ⟨hp,fun h=> ?_,fun h=> ?_⟩
 .refine Y4 (r':= .tup [(false,[.int .u64 0]),(false,[.bool false])]) ?_ (by (repeat' (first | exact trivial | exact rfl | apply And.intro)))
  simp only [Zey,h];try rfl
 .have hh:=Z3.1 h
  have hs:=Z2R (a:=a) (s:=s) hh.1 hh.2.1
  rw [Z1r hs,<-Z89 hh.1]
  refine ⟨hs,hs,by omega,by omega,?_⟩
  refine Y4 (r':= .tup [(false,[.int .u64 (Zg (Z1 a) s x)]),(false,[.bool true])]) ?_ (by (repeat' (first | exact trivial | exact rfl | apply And.intro)))
  simp only [Zey,h];try rfl
theorem c37:Contract Try.prog cfg 37 Z0M:=by
 refine Zor ?_
 intro l _ hp
 simp only [Z8t] at hp
 refine Zsn _ _ ?_
 (simp only [vcT,vcS])
 refine ⟨fun h=> ?_,by simp;omega,?_⟩
 .subst h;(repeat' (first | exact trivial | exact rfl | apply And.intro))
 .rw [X5];(repeat' (first | exact trivial | exact rfl | apply And.intro))
theorem Zpv:Contract Try.prog cfg 110 Z4P:=by
 refine Zlt Z7h c37 ?_
 intro a s x n _ hp
 refine ZqO _ _ _ _ _ ?_
 (simp only [vcT,vcS])
 refine ⟨hp,fun h=> ?_,fun h=> ?_⟩
 .refine Y4 (r':= .tup [(false,[.slice (U:=U) .u64 [] .unk]),(false,[.bool false])]) ?_ (by (repeat' (first | exact trivial | exact rfl | apply And.intro)))
  simp only [ZaV,h];try rfl
 .have hh:=Z3.1 h
  have hl:=(Yr hp s).1
  dsimp only at hl
  have hs:=Z2R (a:=a) (s:=s) hh.1 hh.2.1
  rw [Z1r hs,<-Z89 hh.1]
  refine ⟨hs,hs,by omega,by ((unfold InR;omega)),by omega,?_,?_⟩
  .show (List.drop _ (List.take _ _)).length<=_
   simp;omega
  .refine Y4 (r':= .tup [(false,[.slice (U:=U) .u64 (Z2q (Z1 a) s x n) .unk]),(false,[.bool true])]) ?_ ?_
   .simp only [ZaV,h];try rfl
   .rw [show Z2q (Z1 a) s x n=List.drop x.toNat (List.take (x+n).toNat (Zh (Z1 a) s)) by
     unfold Z2q;rw [List.drop_take,show (x+n).toNat - x.toNat=n.toNat by omega]]
    (repeat' (first | exact trivial | exact rfl | apply And.intro))
theorem c15:Contract Try.prog cfg 15 Z2P:=by
 refine ZoF c37 ?_
 intro l _ hp
 simp only [Z8w] at hp
 have hl:=hp.1
 refine ZsC _ _ ?_
 refine Zr (ι:=Int × List (List Int)) (fun p=> Z5o l p.1 p.2) (fun p=> 0<=p.1/\p.1<=l.length/\p.2.length=p.1/\p.2++l.drop p.1.toNat=l) (fun p=> (l.length - p.1).toNat) (0,[]) rfl ⟨by simp,by dsimp only;omega,by simp,by simp⟩ ?_
 rintro ⟨i,o⟩ ⟨h1,h2,h3,h4⟩
 dsimp only at h1 h2 h3 h4
 refine Zl4 _ _ _ _ _ ?_
 (simp only [vcT,vcS])
 refine ⟨fun hi=> ?_,fun hi=> ?_⟩
 .have hm:=hp.2 _ (Z1w (l:=l) (i:=i.toNat) (by omega) [])
  refine ⟨by omega,hm.1,by simp;omega,by ((unfold InR;omega)),(i+1,o++[l.getD i.toNat []]),rfl,⟨by dsimp only;omega,by dsimp only;omega,by simp;omega,?_⟩,by dsimp only;omega⟩
  dsimp only
  rw [QM,List.singleton_append,<-ZjI h1 hi [],h4]
 .rw [List.drop_of_length_le (by omega),XZ] at h4
  subst h4
  (repeat' (first | exact trivial | exact rfl | apply And.intro))
theorem c11:Contract Try.prog cfg 11 Z2Q:=by
 refine ZoI c15 ?_
 intro a _ hp
 refine ZsF _ _ ?_
 (simp only [vcT,vcS])
 refine ⟨fun h=> ?_,fun h=> ?_⟩
 .refine Y4 (r':= .c (.slice (U:=U) .words [] .unk)) ?_ (by (repeat' (first | exact trivial | exact rfl | apply And.intro)))
  cases a with
  | none=> rfl
  | some x=> cases h
 .have hs:a.isSome=true:=by
   cases a with
   | none=> cases h
   | some x=> rfl
  rw [Z1r hs]
  refine ⟨hs,hs,hp,rfl,rfl,?_⟩
  (repeat' (first | exact trivial | exact rfl | apply And.intro))
noncomputable section
def ZfE:ArgL (Option Arena × Loc × Unit):=(.cons (aPo .arena) (.cons (aEl .loc) .nil))
def Zb1(a:Option Arena × Loc × Unit):Prop:=okB a.1/\OkP (Loc.p a.2.1)/\(((Loc.p a.2.1).kind=1)\/((Loc.p a.2.1).kind=2))
def Zdf(a:Option Arena × Loc × Unit):V U:= .tup [(true,(enc .loc ((YA (Z1 a.1) a.2.1).1))),(false,[ci ((YA (Z1 a.1) a.2.1).2)])]
def Z14:Fs U:=fs ZfE (fun a=> [Zb1 a]) Zdf
def ZfI:ArgL (Option Arena × Ptr × Int × Int × Unit):=(.cons (aPo .arena) (.cons (aEl .ptr) (.cons (ZQ .i64) (.cons (ZQ .i64) .nil))))
def Zb5(a:Option Arena × Ptr × Int × Int × Unit):Prop:=okB a.1/\OkP a.2.1/\0<=a.2.2.2.1/\a.2.2.2.1<=17592186044416
def Zdh(a:Option Arena × Ptr × Int × Int × Unit):V U:= .tup [(true,(enc .loc ((Jr (Z1 a.1) a.2.1 a.2.2.1 a.2.2.2.1).1))),(false,[ci ((Jr (Z1 a.1) a.2.1 a.2.2.1 a.2.2.2.1).2)])]
def Z4U:Fs U:=fs ZfI (fun a=> [Zb5 a]) Zdh
def Zdg(a:Option Arena × Int × Int × Unit):V U:= .tup [(true,(enc .loc ((Je (Z1 a.1) a.2.1 a.2.2.1).1))),(false,[ci ((Je (Z1 a.1) a.2.1 a.2.2.1).2)])]
def Z4T:Fs U:=fs ZjQ (fun a=> [Z8q a]) Zdg
def ZhF(a:Option Arena × Int × Int × Unit):V U:= .tup [(true,(enc .loc ((Ze (Z1 a.1) a.2.1 a.2.2.1).1))),(false,[ci ((Ze (Z1 a.1) a.2.1 a.2.2.1).2)])]
def Z7F:Fs U:=fs ZjQ (fun a=> [Z8q a]) ZhF
def Zff:List (FuncId × Fs U):=[(111,Z4O),(103,YY)]
def Ziz:Z8 U:=lvl [([0,3,4],[3,4]),([0,3,4,6],[3,4]),([3,4,21],[3,4]),([4,5],[4]),([3,4],[3,4]),([4,5],[4])]
abbrev ZsS(p:List Nat):=AW (Z0 Zff) Try.f109 Ziz p
theorem ZqP(a:Option Arena)(x:Loc)(Q:QT)(h:∀ y_1,y_1=(Loc.p x)->let z0:= !(Zc (Z1 a) (Loc.segment x) (Loc.at_ x) (if ZY y_1 < 0 then 0 else ZY y_1));((Zb0 (y_1,()))/\((Z4n (a,(Loc.segment x),(Loc.at_ x),(if ZY y_1 < 0 then 0 else ZY y_1),()))/\((z0=true->(Q .ret (L2 [pL 4,pI 5 7] [(.loc 4,zc1)])))/\(z0=false->(Q .ret (L2 [pL 4,pI 5 0] [(.loc 4,[ci (Ptr.kind (Loc.p x)),ci 0,ci (Ptr.data (Loc.p x)),ci (Ptr.ptrs (Loc.p x)),ci (Ptr.code (Loc.p x)),ci (Ptr.count (Loc.p x)),ci (Ptr.segment (Loc.p x)),.bool (Ptr.double (Loc.p x)),ci (Loc.segment x),ci (Loc.at_ x)])]))))))):
  ZsS [] (L2 [(0,.c (.po (U:=U) .arena a)),(1,.agg (enc .loc x))] []) Q:=
 Eq.mpr (by kernel_rfl) (h _ (Z1t _))
def Zms(a:Option Arena)(x:Loc):Prop:=AW (Z0 Zff) Try.f109 Ziz [] (Zi (ZfE.can (a,x,())) []) (EQ Try.f109 (Zdf (a,x,())) [])
theorem Zlu(Zpu:CT 111 Z4O)(Z7h:CT 103 YY)(hb:∀ (a:Option Arena) (x:Loc) (_:Unit),Zb1 (a,x,())->Zms a x):CT 109 Z14:=
 Z2 (l:=[(111,Z4O),(103,YY)]) Zf rfl (⟨Zpu,Z7h,trivial⟩) Ziz Try.func109 rfl rfl 2 (fun _=> rfl) (by decide) (fun ⟨a,x,_⟩=> hb a x ())
def Zfj:List (FuncId × Fs U):=[(109,Z14)]
def ZiD:Z8 U:=lvl [([0,2,3,5,8],[5,8]),([0,2,3,5,8,11],[5,8]),([0,2,3,5,8,11,12],[5,8]),([0,2,3,5,8,11,12],[5,8]),([8,9],[8]),([8,27],[8]),([8,9],[8]),([8,9],[8])]
abbrev ZsW(p:List Nat):=AW (Z0 Zfj) Try.f105 ZiD p
theorem ZqT(a:Option Arena)(p:Ptr)(s at_:Int)(Q:QT)(h:∀ y_1,y_1=p->∀ y_2,y_2=(YA (Z1 a) (Loc.mk y_1 s (((at_+1):Int)+(Ptr.off p))))->let z6:=InR (((at_+1):Int)+(Ptr.off p));let z5:=Q .ret (L2 [pL 8,pI 9 8] [(.loc 8,zc1)]);let z4:=Q .ret (L2 [pL 8,pI 9 9] [(.loc 8,zc1)]);let z3:=Zb1 (a,(Loc.mk y_1 s (((at_+1):Int)+(Ptr.off p))),());let z2:=((Ptr.kind p):Int)==4;let z1:=((Ptr.kind p):Int)==1;let z0:=Q .ret (L2 [pL 8,pI 9 (y_2.2)] [(.loc 8,(enc .ptr (Loc.p (y_2.1))++[ci (Loc.segment (y_2.1)),ci (Loc.at_ (y_2.1))]))]);((z1=true->(z1=true->(InR (at_+1))/\z6/\z3/\z0)/\(z1=false->((z2=true->z4)/\(z2=false->z5))))/\(z1=false->(((((Ptr.kind p):Int)==2)=true->(InR (at_+1))/\z6/\z3/\z0)/\((((Ptr.kind p):Int)==2)=false->((z2=true->z4)/\(z2=false->z5))))))):
  ZsW [] (L2 [(0,.c (.po (U:=U) .arena a)),(1,.agg (enc .ptr p)),pI 2 s,pI 3 at_] []) Q:=
 Eq.mpr (by kernel_rfl) (h _ (Z1t _) _ rfl)
def Zmw(a:Option Arena)(p:Ptr)(s at_:Int):Prop:=AW (Z0 Zfj) Try.f105 ZiD [] (Zi (ZfI.can (a,p,s,at_,())) []) (EQ Try.f105 (Zdh (a,p,s,at_,())) [])
theorem Zly(ZgV:CT 109 Z14)(hb:∀ (a:Option Arena) (p:Ptr) (s:Int) (at_:Int) (_:Unit),Zb5 (a,p,s,at_,())->Zmw a p s at_):CT 105 Z4U:=
 Z2 (l:=[(109,Z14)]) Zf rfl (⟨ZgV,trivial⟩) ZiD Try.func105 rfl rfl 4 (fun _=> rfl) (by decide) (fun ⟨a,p,s,at_,_⟩=> hb a p s at_ ())
def Zfi:List (FuncId × Fs U):=[(110,Z4P),(101,Yy),(109,Z14)]
def ZiC:Z8 U:=lvl [([0,1,2,6],[6]),([0,6,8,9],[6]),([0,6,8,20],[6]),([6,7],[6]),([0,6,10,11],[6,10,11]),([0,6,10,11,30],[6,10,11]),([6,7],[6]),([0,6,10,11,39],[6,10,11]),([6,7],[6]),([0,6,10,11,44],[6,10,11]),([6,7],[6]),([6,7],[6])]
abbrev ZsV(p:List Nat):=AW (Z0 Zfi) Try.f106 ZiC p
theorem ZqS(a:Option Arena)(s at_:Int)(Q:QT)(h:∀ y_1,y_1=(List.getD (if Zc (Z1 a) s at_ 2 then Z2q (Z1 a) s at_ 2 else []) (Int.toNat 0) (0:Int))->∀ y_2,y_2=(List.getD (if Zc (Z1 a) s at_ 2 then Z2q (Z1 a) s at_ 2 else []) (Int.toNat 1) (0:Int))->∀ y_3,y_3=(Z6 y_2)->∀ y_4,y_4=(YA (Z1 a) (Loc.mk y_3 (Ptr.segment (Z6 y_1)) (Ptr.off (Z6 y_1))))->let z5:=Q .ret (L2 [pL 6,pI 7 8] [(.loc 6,zc1)]);let z2:=Ptr.kind (Z6 y_2);let z1:=((Ptr.kind (Z6 y_1)):Int) !=3;let z4:=bif z1 then true else (Ptr.double (Z6 y_1));let z0:=bif ((z2:Int) !=1) then ((z2:Int) !=2) else false;let z3:=bif z0 then true else (((Ptr.off (Z6 y_2)):Int) !=0);((Z4n (a,s,at_,2,()))/\(((!(Zc (Z1 a) s at_ 2))=true->(Q .ret (L2 [pL 6,pI 7 7] [(.loc 6,zc1)])))/\((!(Zc (Z1 a) s at_ 2))=false->((0:Int)<=0/\0 < ((if Zc (Z1 a) s at_ 2 then Z2q (Z1 a) s at_ 2 else []).length:Int))/\(Z0P (y_1,()))/\((0:Int)<=1/\1 < ((if Zc (Z1 a) s at_ 2 then Z2q (Z1 a) s at_ 2 else []).length:Int))/\(Z0P (y_2,()))/\((Tr ((!z1)=true))/\(z1=false->(!z1)=true)/\((z4=true->z5)/\(z4=false->((((z2:Int)==4)=true->(Q .ret (L2 [pL 6,pI 7 9] [(.loc 6,zc1)])))/\(((z2:Int)==4)=false->(Tr (((z2:Int) !=1)=true))/\(Tr (((z2:Int) !=1)=true))/\(Tr (((z2:Int) !=1)=true))/\(Tr ((!z0)=true))/\(Tr ((!z0)=true))/\(z0=false->(!z0)=true)/\((z3=true->z5)/\(z3=false->(Zb1 (a,(Loc.mk y_3 (Ptr.segment (Z6 y_1)) (Ptr.off (Z6 y_1))),()))/\(Q .ret (L2 [pL 6,pI 7 (y_4.2)] [(.loc 6,(enc .ptr (Loc.p (y_4.1))++[ci (Loc.segment (y_4.1)),ci (Loc.at_ (y_4.1))]))]))))))))))))):
  ZsV [] (L2 [(0,.c (.po (U:=U) .arena a)),pI 1 s,pI 2 at_] []) Q:=
 Eq.mpr (by kernel_rfl) (h _ rfl _ rfl _ (Z1t _) _ rfl)
def Zmv(a:Option Arena)(s at_:Int):Prop:=AW (Z0 Zfi) Try.f106 ZiC [] (Zi (ZjQ.can (a,s,at_,())) []) (EQ Try.f106 (Zdg (a,s,at_,())) [])
theorem Zlx(Zpv:CT 110 Z4P)(Z4G:CT 101 Yy)(ZgV:CT 109 Z14)(hb:∀ (a:Option Arena) (s:Int) (at_:Int) (_:Unit),Z8q (a,s,at_,())->Zmv a s at_):CT 106 Z4T:=
 Z2 (l:=[(110,Z4P),(101,Yy),(109,Z14)]) Zf rfl (⟨Zpv,Z4G,ZgV,trivial⟩) ZiC Try.func106 rfl rfl 3 (fun _=> rfl) (by decide) (fun ⟨a,s,at_,_⟩=> hb a s at_ ())
def ZiY:List (FuncId × Fs U):=[(95,JO),(101,Yy),(105,Z4U),(106,Z4T)]
def ZoQ:Z8 U:=lvl [([0,1,2,6],[6]),([0,1,2,6,8,9],[6]),([0,1,2,6,8,20],[6]),([6,7],[6]),([0,1,2,6,10],[6,10]),([0,1,2,6,10,24],[6,10]),([6,7],[6]),([0,1,2,6,10,29],[6,10]),([6,7],[6]),([0,6,10,40],[6,10]),([6,7],[6]),([0,6,9,10,11],[6,10]),([0,6,10,11,61],[6,10]),([6,7],[6]),([6,7],[6])]
abbrev A93(p:List Nat):=AW (Z0 ZiY) Try.f93 ZoQ p
theorem ZrL(a:Option Arena)(s at_:Int)(Q:QT)(h:∀ y_1,y_1=(Z6 (if Zc (Z1 a) s at_ 1 then Zg (Z1 a) s at_ else 0))->∀ y_2,y_2=y_1->∀ y_3,y_3=(Loc.p ((Je (Z1 a) (Ptr.segment y_1) (Ptr.off y_1)).1))->∀ y_4,y_4=(Z6 (if Zc (Z1 a) (Ptr.segment y_1) (Ptr.off y_1) 1 then Zg (Z1 a) (Ptr.segment y_1) (Ptr.off y_1) else 0))->∀ y_5,y_5=y_4->∀ y_6,y_6=(Loc.p ((Jr (Z1 a) y_5 (Ptr.segment y_1) (Ptr.off y_1)).1))->let z3:=Q .ret (L2 [pL 6,pI 7 7] [(.loc 6,zc1)]);let z2:= !(Zc (Z1 a) (Ptr.segment y_1) (Ptr.off y_1) 1);let z1:=Je (Z1 a) (Ptr.segment y_1) (Ptr.off y_1);let z0:=Jr (Z1 a) y_5 (Ptr.segment y_1) (Ptr.off y_1);((Z8q (a,s,at_,()))/\(((!(Zc (Z1 a) s at_ 1))=true->z3)/\((!(Zc (Z1 a) s at_ 1))=false->(Z0P ((if Zc (Z1 a) s at_ 1 then Zg (Z1 a) s at_ else 0),()))/\(((((Ptr.kind y_1):Int)==0)=true->(Q .ret (L2 [pL 6,pI 7 0] [(.loc 6,zc1)])))/\((((Ptr.kind y_1):Int)==0)=false->(((((Ptr.kind y_1):Int) !=3)=true->(Zb5 (a,y_2,s,at_,()))/\(Q .ret (L2 [pL 6,pI 7 ((Jr (Z1 a) y_2 s at_).2)] [(.loc 6,(enc .loc ((Jr (Z1 a) y_2 s at_).1)))])))/\((((Ptr.kind y_1):Int) !=3)=false->(((Ptr.double y_1)=true->(Z8q (a,(Ptr.segment y_1),(Ptr.off y_1),()))/\(Q .ret (L2 [pL 6,pI 7 (z1.2)] [(.loc 6,(enc .ptr y_3++[ci (Loc.segment (z1.1)),ci (Loc.at_ (z1.1))]))])))/\((Ptr.double y_1)=false->(Z8q (a,(Ptr.segment y_1),(Ptr.off y_1),()))/\((z2=true->z3)/\(z2=false->(Z0P ((if Zc (Z1 a) (Ptr.segment y_1) (Ptr.off y_1) 1 then Zg (Z1 a) (Ptr.segment y_1) (Ptr.off y_1) else 0),()))/\(Zb5 (a,y_5,(Ptr.segment y_1),(Ptr.off y_1),()))/\(Q .ret (L2 [pL 6,pI 7 (z0.2)] [(.loc 6,(enc .ptr y_6++[ci (Loc.segment (z0.1)),ci (Loc.at_ (z0.1))]))])))))))))))))):
  A93 [] (L2 [(0,.c (.po (U:=U) .arena a)),pI 1 s,pI 2 at_] []) Q:=
 Eq.mpr (by kernel_rfl) (h _ rfl _ (Z1t _) _ rfl _ rfl _ (Z1t _) _ rfl)
def ZpQ(a:Option Arena)(s at_:Int):Prop:=AW (Z0 ZiY) Try.f93 ZoQ [] (Zi (ZjQ.can (a,s,at_,())) []) (EQ Try.f93 (ZhF (a,s,at_,())) [])
theorem ZnT(c95:CT 95 JO)(Z4G:CT 101 Yy)(Zpz:CT 105 Z4U)(Zpy:CT 106 Z4T)(hb:∀ (a:Option Arena) (s:Int) (at_:Int) (_:Unit),Z8q (a,s,at_,())->ZpQ a s at_):CT 93 Z7F:=
 Z2 (l:=[(95,JO),(101,Yy),(105,Z4U),(106,Z4T)]) Zf rfl (⟨c95,Z4G,Zpz,Zpy,trivial⟩) ZoQ Try.func93 rfl rfl 3 (fun _=> rfl) (by decide) (fun ⟨a,s,at_,_⟩=> hb a s at_ ())
end
abbrev tL(x:Loc × Int):V U:= .tup [(true,enc .loc x.1),(false,[.int .i64 x.2])]
theorem ZfX{p:Ptr}(h:OkP p)(hk:p.kind=1\/p.kind=2):0<=ZY p:=by
 have h1:=h.data
 have h2:=h.ptrs
 have h3:=h.code
 have h4:=h.count
 have hb:0<=Z0k p.code:=by unfold Z0k;(repeat' split) <;> omega
 have hm:=Qw h4.1 hb
 unfold ZY
 repeat' split
 all_goals omega
theorem ZgV:Contract Try.prog cfg 109 Z14:=by
 refine Zlu Zpu Z7h ?_
 intro a x _ hp
 obtain ⟨ha,hx,hk⟩:=hp
 dsimp only at ha hx hk
 refine ZqP _ _ _ ?_
 rintro y hy
 dsimp only at hy
 subst hy
 (simp only [vcT,vcS])
 have hw:=ZfX hx hk
 rw [if_neg (show ¬ZY x.p < 0 by omega)]
 have hr:Zdf (a,x,())=tL (YA (Z1 a) x):=rfl
 rw [hr]
 refine ⟨hx,ha,fun h=> ?_,fun h=> ?_⟩
 .rw [show YA (Z1 a) x=(Z1l,7) by unfold YA;rw [h];rfl];(repeat' (first | exact trivial | exact rfl | apply And.intro))
 .rw [show YA (Z1 a) x=(⟨Zdz x.p,x.segment,x.at_⟩,0) by unfold YA;rw [h];rfl];(repeat' (first | exact trivial | exact rfl | apply And.intro))
theorem ZaL{p:Ptr}(h:p.kind=1\/p.kind=2):Jj p=0:=by unfold Jj;rw [if_neg (by omega),if_pos h]
theorem Zex{p:Ptr}(h:p.kind=4):Jj p=9:=by unfold Jj;rw [if_pos h]
theorem Zew{p:Ptr}(h1:¬p.kind=1)(h2:¬p.kind=2)(h4:¬p.kind=4):Jj p=8:=by unfold Jj;rw [if_neg h4,if_neg (by omega)]
theorem Zpz:Contract Try.prog cfg 105 Z4U:=by
 refine Zly ZgV ?_
 intro a p s x _ hp
 obtain ⟨ha,hx,h0,h1⟩:=hp
 dsimp only at ha hx h0 h1
 have ho:=hx.off
 refine ZqT _ _ _ _ _ ?_
 rintro y hy z hz
 dsimp only at hy hz
 replace hy:=hy.symm
 subst hy hz
 (simp only [vcT,vcS])
 have hr:Zdh (a,p,s,x,())=tL (Jr (Z1 a) p s x):=rfl
 rw [hr]
 have hok:p.kind=1\/p.kind=2->Jr (Z1 a) p s x=YA (Z1 a) ⟨p,s,x+1+p.off⟩:=fun h=> by
  unfold Jr;rw [ZaL h,if_pos rfl]
 have h4:p.kind=4->Jr (Z1 a) p s x=(Z1l,9):=fun h=> by unfold Jr;rw [Zex h,if_neg (by decide)]
 have h8:¬p.kind=1->¬p.kind=2->¬p.kind=4->Jr (Z1 a) p s x=(Z1l,8):=fun a1 a2 a3=> by unfold Jr;rw [Zew a1 a2 a3,if_neg (by decide)]
 refine ⟨fun k1=> ⟨fun _=> ⟨by ((unfold InR;omega)),by ((unfold InR;omega)),⟨ha,hx,.inl k1⟩,?_⟩,fun k2=> absurd k1 k2⟩,fun k1=> ⟨fun k2=> ⟨by ((unfold InR;omega)),by ((unfold InR;omega)),⟨ha,hx,.inr k2⟩,?_⟩,fun k2=> ⟨fun k4=> ?_,fun k4=> ?_⟩⟩⟩
 .rw [hok (.inl k1)];(repeat' (first | exact trivial | exact rfl | apply And.intro))
 .rw [hok (.inr k2)];(repeat' (first | exact trivial | exact rfl | apply And.intro))
 .rw [h4 k4];(repeat' (first | exact trivial | exact rfl | apply And.intro))
 .rw [h8 k1 k2 k4];(repeat' (first | exact trivial | exact rfl | apply And.intro))
theorem Zac{l:List (List Int)}{s x:Int}{n k:Nat}(hx:0<=x)(hk:k < n):(Z2q l s x (n:Int)).getD k 0=Zg l s (x+k):=by
 unfold Z2q Zg
 rw [Q2,Q2,QL (by omega),Qh,show (x+(k:Int)).toNat=x.toNat+k by omega]
theorem Zgo{l:List (List Int)}{s x n:Int}(h:Zc l s x n=true):((Z2q l s x n).length:Int)=n:=by
 have hh:=Z3.1 h
 unfold Z2q
 simp
 omega
theorem Zpy:Contract Try.prog cfg 106 Z4T:=by
 refine Zlx Zpv Z4G ZgV ?_
 intro a s x _ ha
 simp only [Z8q] at ha
 refine ZqS _ _ _ _ ?_
 rintro y1 h1 y2 h2 y3 h3 y4 h4
 dsimp only at h1 h2 h3 h4
 (simp only [vcT,vcS])
 have hr:Zdg (a,s,x,())=tL (Je (Z1 a) s x):=rfl
 rw [hr]
 refine ⟨ha,fun h=> ?_,fun h=> ?_⟩
 .rw [show Je (Z1 a) s x=(Z1l,7) by unfold Je;rw [h];rfl];(repeat' (first | exact trivial | exact rfl | apply And.intro))
 .have hh:=Z3.1 h
  have hl:=Zgo h
  rw [if_pos h] at h1 h2 ⊢
  have e1:y1=Zg (Z1 a) s x:=by rw [h1];have:=Zac (l:=Z1 a) (s:=s) (x:=x) (n:=2) (k:=0) hh.2.2.1 (by decide);simpa using this
  have e2:y2=Zg (Z1 a) s (x+1):=by rw [h2];have:=Zac (l:=Z1 a) (s:=s) (x:=x) (n:=2) (k:=1) hh.2.2.1 (by decide);simpa using this
  have w1:=YW ha s x
  have w2:=YW ha s (x+1)
  have o2:=Z3F w2.1 w2.2
  clear h1 h2
  subst e1 e2 h3 h4
  have hD:Je (Z1 a) s x=if (Z6 (Zg (Z1 a) s x)).kind≠3\/(Z6 (Zg (Z1 a) s x)).double=true then (Z1l,8)
    else if Jj (Z6 (Zg (Z1 a) s (x+1)))≠0 then (Z1l,Jj (Z6 (Zg (Z1 a) s (x+1))))
    else if (Z6 (Zg (Z1 a) s (x+1))).off≠0 then (Z1l,8)
    else YA (Z1 a) ⟨Z6 (Zg (Z1 a) s (x+1)),(Z6 (Zg (Z1 a) s x)).segment,(Z6 (Zg (Z1 a) s x)).off⟩:=by unfold Je;rw [h];try rfl
  rw [hD]
  refine ⟨by omega,w1,by omega,w2,fun k=> ?_,fun k=> ⟨fun k4=> ?_,fun k4=> ⟨fun k5=> ?_,fun k5=> ⟨⟨ha,o2,k5.1⟩,?_⟩⟩⟩⟩
  .rw [if_pos k];(repeat' (first | exact trivial | exact rfl | apply And.intro))
  all_goals rw [if_neg (show ¬((Z6 (Zg (Z1 a) s x)).kind≠3\/(Z6 (Zg (Z1 a) s x)).double=true) by rw [k.1,k.2];simp)]
  .rw [Zex k4,if_pos (by decide)];(repeat' (first | exact trivial | exact rfl | apply And.intro))
  .by_cases k6:(Z6 (Zg (Z1 a) s (x+1))).kind=1\/(Z6 (Zg (Z1 a) s (x+1))).kind=2
   .rw [ZaL k6,if_neg (by decide),if_pos (by omega)];(repeat' (first | exact trivial | exact rfl | apply And.intro))
   .rw [Zew (fun e=> k6 (.inl e)) (fun e=> k6 (.inr e)) k4,if_pos (by decide)];(repeat' (first | exact trivial | exact rfl | apply And.intro))
  .rw [ZaL k5.1,if_neg (by decide),if_neg (by omega)];(repeat' (first | exact trivial | exact rfl | apply And.intro))
theorem c93:Contract Try.prog cfg 93 Z7F:=by
 refine ZnT c95 Z4G Zpz Zpy ?_
 intro a s x _ ha
 simp only [Z8q] at ha
 refine ZrL _ _ _ _ ?_
 rintro y1 h1 y2 h2 y3 h3 y4 h4 y5 h5 y6 h6
 dsimp only at h1 h2 h3 h4 h5 h6
 (simp only [vcT,vcS])
 have hr:ZhF (a,s,x,())=tL (Ze (Z1 a) s x):=rfl
 rw [hr]
 refine ⟨ha,fun h=> ?_,fun h=> ?_⟩
 .rw [show Ze (Z1 a) s x=(Z1l,7) by unfold Ze;rw [h];rfl];(repeat' (first | exact trivial | exact rfl | apply And.intro))
 .have hh:=Z3.1 h
  have hl:=(Yr ha s).1
  have hl2:=(Yr ha y1.segment).1
  have w1:=YW ha s x
  rw [if_pos h] at h1 ⊢
  have o1:=Z3F w1.1 w1.2
  rw [<-h1] at o1
  have hD:Ze (Z1 a) s x=if y1.kind=0 then (Z1l,0) else if y1.kind≠3 then Jr (Z1 a) y1 s x else if y1.double=true then Je (Z1 a) y1.segment y1.off
    else if Zc (Z1 a) y1.segment y1.off 1 then Jr (Z1 a) (Z6 (Zg (Z1 a) y1.segment y1.off)) y1.segment y1.off else (Z1l,7):=by unfold Ze;rw [h,h1];try rfl
  rw [hD]
  clear hD
  subst h2 h3 h5 h6
  refine ⟨w1,fun k0=> ?_,fun k0=> ⟨fun k3=> ⟨⟨ha,o1,hh.2.2.1,by dsimp only;omega⟩,?_⟩,fun k3=> ⟨fun kd=> ⟨ha,?_⟩,fun kd=> ⟨ha,fun kh=> ?_,fun kh=> ?_⟩⟩⟩⟩
  .rw [if_pos k0];(repeat' (first | exact trivial | exact rfl | apply And.intro))
  .rw [if_neg k0,if_pos k3];(repeat' (first | exact trivial | exact rfl | apply And.intro))
  .rw [if_neg k0,if_neg (by omega),if_pos kd];(repeat' (first | exact trivial | exact rfl | apply And.intro))
  .rw [if_neg k0,if_neg (by omega),if_neg (by rw [kd];decide),if_neg (by rw [kh];decide)];(repeat' (first | exact trivial | exact rfl | apply And.intro))
  .have hh2:=Z3.1 kh
   have w2:=YW ha y2.segment y2.off
   rw [if_pos kh] at h4 ⊢
   subst h4
   refine ⟨w2,⟨ha,Z3F w2.1 w2.2,hh2.2.2.1,by dsimp only;omega⟩,?_⟩
   rw [if_neg k0,if_neg (by omega),if_neg (by rw [kd];decide),if_pos kh];(repeat' (first | exact trivial | exact rfl | apply And.intro))
noncomputable section
def ZjR:ArgL (Ref × Int × Unit):=(.cons (aEl .ref) (.cons (ZQ .i64) .nil))
def Zi3(a:Ref × Int × Unit):Prop:=okB (Ref.a a.1)/\0<=a.2.1/\Ref.number a.1=0/\Zc (Z1 (Ref.a a.1)) (Ref.segment a.1) (Ref.at_ a.1) (a.2.1+1)=true
def ZhE(a:Ref × Int × Unit):V U:= .tup [(true,(enc .ref (Yc (Ref.a a.1) (Z0r (Z1 (Ref.a a.1)) (Ref.segment a.1) (Ref.at_ a.1) a.2.1).1))),(false,[ci ((Z0r (Z1 (Ref.a a.1)) (Ref.segment a.1) (Ref.at_ a.1) a.2.1).2)])]
def Z7E:Fs U:=fs ZjR (fun a=> [Zi3 a]) ZhE
def ZeE(a:Option Arena × Int × Int × Unit):V U:= .tup [(true,(enc .ref (Yc a.1 (Zo (Z1 a.1) a.2.1 a.2.2.1).1))),(false,[ci ((Zo (Z1 a.1) a.2.1 a.2.2.1).2)])]
def Z2K:Fs U:=fs ZjQ (fun a=> [Z8q a]) ZeE
def Zn1(a:Option Arena × Unit):V U:= .tup [(true,(enc .ref (Yc a.1 (Zo (Z1 a.1) 0 0).1))),(false,[ci ((Zo (Z1 a.1) 0 0).2)])]
def Z2L:Fs U:=fs ZfL (fun a=> [Z5Q a]) Zn1
def Zk8:ArgL (Ref × Unit):=(.cons (aEl .ref) .nil)
def Z52(a:Ref × Unit):Prop:=True
def ZmV(a:Ref × Unit):V U:= .c (ci (Ref.kind a.1))
def Z0L:Fs U:=fs Zk8 (fun a=> [Z52 a]) ZmV
def ZmU(a:Ref × Unit):V U:= .c (ci (JN a.1))
def Z0K:Fs U:=fs Zk8 (fun a=> [Z52 a]) ZmU
def ZmS(a:Ref × Unit):V U:= .c (ci (ZB a.1))
def JP:Fs U:=fs Zk8 (fun a=> [Z52 a]) ZmS
def Zi7(a:Ref × Int × Unit):Prop:=okR a.1
def ZmT(a:Ref × Int × Unit):V U:= .c (.int .u64 (Z2x a.1 a.2.1))
def Z7P:Fs U:=fs ZjR (fun a=> [Zi7 a]) ZmT
def ZaW(a:Ref × Unit):V U:= .tup [(false,[ci (if Ref.kind a.1=9 then Ref.data a.1 else 0)]),(false,[ci (if Ref.kind a.1=9 then Ref.kids a.1 else 0)])]
def Z4V:Fs U:=fs Zk8 (fun a=> [Z52 a]) ZaW
def Zi2(a:Ref × Int × Unit):Prop:=okR a.1/\2<=Ref.kind a.1/\Ref.kind a.1<=7/\0<=a.2.1/\a.2.1 < Ref.count a.1
def ZhD(a:Ref × Int × Unit):V U:= .c (.int .u64 (Jn (List.drop (Int.toNat (Ref.at_ a.1)) (Zh (Z1 (Ref.a a.1)) (Ref.segment a.1))) (Ref.kind a.1 - 2) a.2.1))
def Z7D:Fs U:=fs ZjR (fun a=> [Zi2 a]) ZhD
def ZhI(a:Ref × Int × Unit):V U:= .tup [(true,(enc .ref (Yc (Ref.a a.1) (Zk (Z1 (Ref.a a.1)) (unX a.1) a.2.1).1))),(false,[ci ((Zk (Z1 (Ref.a a.1)) (unX a.1) a.2.1).2)])]
def Z2J:Fs U:=fs ZjR (fun a=> [Zi7 a]) ZhI
def ZiX:List (FuncId × Fs U):=[(95,JO),(101,Yy)]
def ZoP:Z8 U:=lvl [([1,2,4],[2,4]),([1,2,4,6],[2,4]),([1,2,4,6,8],[2,4,8]),([2,4,8,44],[2,4,8]),([4,5],[4]),([2,4,8],[2,4,8]),([2,4],[2,4]),([4,5],[4])]
abbrev A94(p:List Nat):=AW (Z0 ZiX) Try.f94 ZoP p
theorem ZrK(r:Ref)(n:Int)(Q:QT)(h:∀ y_1,y_1=(Z6 (if Zc (Z1 (Ref.a r)) (Ref.segment r) (Ref.at_ r) 1 then Zg (Z1 (Ref.a r)) (Ref.segment r) (Ref.at_ r) else 0))->let z1:=((if Zc (Z1 (Ref.a r)) (Ref.segment r) (Ref.at_ r) 1 then Zg (Z1 (Ref.a r)) (Ref.segment r) (Ref.at_ r) else 0):Int) !=0;let z2:=bif z1 then (((Ptr.kind y_1):Int) !=1) else false;let z0:=bif z2 then true else (decide (((Ptr.off y_1):Int) < 0));let z3:=bif z0 then true else (decide (n < (((Ptr.off y_1):Int)*(((Ptr.data y_1):Int)+(Ptr.ptrs y_1)))));((Z8q ((Ref.a r),(Ref.segment r),(Ref.at_ r),()))/\((Z0P ((if Zc (Z1 (Ref.a r)) (Ref.segment r) (Ref.at_ r) 1 then Zg (Z1 (Ref.a r)) (Ref.segment r) (Ref.at_ r) else 0),()))/\((Tr (z1=true))/\(Tr (z1=true))/\(Tr (z1=true))/\(Tr ((!z2)=true))/\(Tr ((!z2)=true))/\(z2=false->(!z2)=true)/\(Tr ((!z0)=true))/\(Tr ((!z0)=true))/\(Tr ((!z0)=true))/\(Tr ((!z0)=true))/\(Tr ((!z0)=true))/\((!z0)=true->InR (((Ptr.data y_1):Int)+(Ptr.ptrs y_1)))/\(Tr ((!z0)=true))/\(Tr ((!z0)=true))/\((!z0)=true->InR (((Ptr.off y_1):Int)*(((Ptr.data y_1):Int)+(Ptr.ptrs y_1))))/\(Tr ((!z0)=true))/\(Tr ((!z0)=true))/\(z0=false->(!z0)=true)/\((z3=true->(Q .ret (L2 [pL 4,pI 5 8] [(.loc 4,zc2)])))/\(z3=false->(InR (((Ref.at_ r):Int)+1))/\(Q .ret (L2 [pL 4,pI 5 0] [(.loc 4,[.po (U:=U) .arena (Ref.a r),ci 9,ci (Ref.segment r),ci (((Ref.at_ r):Int)+1),ci (Ptr.data y_1),ci (Ptr.ptrs y_1),ci (Ptr.off y_1),.int .u64 (Ref.number r)])])))))))):
  A94 [] (L2 [(0,.agg (enc .ref r)),pI 1 n] []) Q:=
 Eq.mpr (by kernel_rfl) (h _ rfl)
def ZpP(r:Ref)(n:Int):Prop:=AW (Z0 ZiX) Try.f94 ZoP [] (Zi (ZjR.can (r,n,())) []) (EQ Try.f94 (ZhE (r,n,())) [])
theorem ZnS(c95:CT 95 JO)(Z4G:CT 101 Yy)(hb:∀ (r:Ref) (n:Int) (_:Unit),Zi3 (r,n,())->ZpP r n):CT 94 Z7E:=
 Z2 (l:=[(95,JO),(101,Yy)]) Zf rfl (⟨c95,Z4G,trivial⟩) ZoP Try.func94 rfl rfl 2 (fun _=> rfl) (by decide) (fun ⟨r,n,_⟩=> hb r n ())
def Zjh:List (FuncId × Fs U):=[(93,Z7F),(94,Z7E)]
def Zp9:Z8 U:=lvl [([0,1,2,6],[6]),([0,6,8,9],[6,8]),([0,6,8,9,25],[6,8]),([6,7],[6]),([6,8,10],[6,8,10]),([6,7],[6]),([6,8,10,41],[6,8,10]),([6,10],[6,10]),([6,8,10,55],[6,8,10]),([6,10],[6,10]),([6,8,10,69],[6,8,10]),([6,10],[6,10]),([6,7],[6])]
def Z3e(a:Option Arena)(s at_ ml10_1 ml10_4 ml10_5 ml10_6:Int):LSt U:=(L2 [pL 6,pL 10] [(.loc 6,zc2),(.loc 10,[.po (U:=U) .arena a,ci ml10_1,ci (Loc.segment ((Ze (Z1 a) s at_).1)),ci (Loc.at_ ((Ze (Z1 a) s at_).1)),ci ml10_4,ci ml10_5,ci ml10_6,.int .u64 0])])
abbrev A63(p:List Nat):=AW (Z0 Zjh) Try.f63 Zp9 p
theorem Zs9(a:Option Arena)(s at_:Int)(Q:QT)(h:∀ y_1,y_1=(Ref.mk a 0 (Loc.segment ((Ze (Z1 a) s at_).1)) (Loc.at_ ((Ze (Z1 a) s at_).1)) 0 0 0 0)->∀ y_2,y_2=(Z0r (Z1 (Ref.a y_1)) (Ref.segment y_1) (Ref.at_ y_1) (Ptr.count (Loc.p ((Ze (Z1 a) s at_).1))))->let z3:=Ze (Z1 a) s at_;let z1:=((z3.2):Int) !=0;let z0:=Loc.p (z3.1);let z4:=decide (((Ptr.code z0):Int) < 6);let z2:=bif z1 then true else (((Ptr.kind z0):Int)==0);((Z8q (a,s,at_,()))/\((Tr ((!z1)=true))/\(Tr ((!z1)=true))/\(Tr ((!z1)=true))/\(z1=false->(!z1)=true)/\((z2=true->(Q .ret (L2 [pL 6,pI 7 (z3.2)] [(.loc 6,zc2)])))/\(z2=false->(((((Ptr.kind z0):Int)==1)=true->(A63 [1,1,1,1,1] (Z3e a s at_ 1 (Ptr.data z0) (Ptr.ptrs z0) 0) Q))/\((((Ptr.kind z0):Int)==1)=false->((z4=true->(InR ((2:Int)+(Ptr.code z0)))/\(A63 [1,1,1,1,1] (Z3e a s at_ ((2:Int)+(Ptr.code z0)) 0 0 (Ptr.count z0)) Q))/\(z4=false->(((((Ptr.code z0):Int)==6)=true->(A63 [1,1,1,1,1] (Z3e a s at_ 8 0 0 (Ptr.count z0)) Q))/\((((Ptr.code z0):Int)==6)=false->(Zi3 (y_1,(Ptr.count z0),()))/\(Q .ret (L2 [pL 6,pI 7 (y_2.2)] [(.loc 6,(enc .ref (Yc (Ref.a y_1) y_2.1)))]))))))))))))):
  A63 [] (L2 [(0,.c (.po (U:=U) .arena a)),pI 1 s,pI 2 at_] []) Q:=
 Eq.mpr (by kernel_rfl) (h _ rfl _ rfl)
theorem ZkJ(a:Option Arena)(s at_ ml10_1 ml10_4 ml10_5 ml10_6:Int)(Q:QT)(h:(Q .ret (L2 [pL 6,pI 7 0] [(.loc 6,[.po (U:=U) .arena a,ci ml10_1,ci (Loc.segment ((Ze (Z1 a) s at_).1)),ci (Loc.at_ ((Ze (Z1 a) s at_).1)),ci ml10_4,ci ml10_5,ci ml10_6,.int .u64 0])]))):
  A63 [1,1,1,1,1] (Z3e a s at_ ml10_1 ml10_4 ml10_5 ml10_6) Q:=
 Eq.mpr (by kernel_rfl) h
def Zqe(a:Option Arena)(s at_:Int):Prop:=AW (Z0 Zjh) Try.f63 Zp9 [] (Zi (ZjQ.can (a,s,at_,())) []) (EQ Try.f63 (ZeE (a,s,at_,())) [])
theorem Zog(c93:CT 93 Z7F)(c94:CT 94 Z7E)(hb:∀ (a:Option Arena) (s:Int) (at_:Int) (_:Unit),Z8q (a,s,at_,())->Zqe a s at_):CT 63 Z2K:=
 Z2 (l:=[(93,Z7F),(94,Z7E)]) Zf rfl (⟨c93,c94,trivial⟩) Zp9 Try.func63 rfl rfl 3 (fun _=> rfl) (by decide) (fun ⟨a,s,at_,_⟩=> hb a s at_ ())
def Zjo:List (FuncId × Fs U):=[(63,Z2K)]
def Zpf:Z8 U:=lvl [([0,2],[2]),([2,3],[2])]
abbrev A35(p:List Nat):=AW (Z0 Zjo) Try.f35 Zpf p
theorem Zsp(a:Option Arena)(Q:QT)(h:((Z8q (a,0,0,()))/\(Q .ret (L2 [pL 2,pI 3 ((Zo (Z1 a) 0 0).2)] [(.loc 2,(enc .ref (Yc a (Zo (Z1 a) 0 0).1)))])))):
  A35 [] (L2 [(0,.c (.po (U:=U) .arena a))] []) Q:=
 Eq.mpr (by kernel_rfl) h
def Zqu(a:Option Arena):Prop:=AW (Z0 Zjo) Try.f35 Zpf [] (Zi (ZfL.can (a,())) []) (EQ Try.f35 (Zn1 (a,())) [])
theorem Zot(c63:CT 63 Z2K)(hb:∀ (a:Option Arena) (_:Unit),Z5Q (a,())->Zqu a):CT 35 Z2L:=
 Z2 (l:=[(63,Z2K)]) Zf rfl (⟨c63,trivial⟩) Zpf Try.func35 rfl rfl 1 (fun _=> rfl) (by decide) (fun ⟨a,_⟩=> hb a ())
def Zp8:Z8 U:=lvl [([1],[1]),([2],[])]
abbrev A64(p:List Nat):=AW (Z0 Zj1) Try.f64 Zp8 p
theorem Zs8(r:Ref)(Q:QT)(h:(Q .ret (L2 [pI 2 (Ref.kind r)] []))):
  A64 [] (L2 [(0,.agg (enc .ref r))] []) Q:=
 Eq.mpr (by kernel_rfl) h
def Zqd(r:Ref):Prop:=AW (Z0 Zj1) Try.f64 Zp8 [] (Zi (Zk8.can (r,())) []) (EQ Try.f64 (ZmV (r,())) [])
theorem Zof(hb:∀ (r:Ref) (_:Unit),Z52 (r,())->Zqd r):CT 64 Z0L:=
 Z2 (l:=[]) Zf rfl trivial Zp8 Try.func64 rfl rfl 1 (fun _=> rfl) (by decide) (fun ⟨r,_⟩=> hb r ())
def Zp7:Z8 U:=lvl [([1],[1]),([1,4],[1]),([1,4,5],[1]),([2],[]),([9],[]),([2],[]),([2],[])]
abbrev A65(p:List Nat):=AW (Z0 Zj1) Try.f65 Zp7 p
theorem Zs7(r:Ref)(Q:QT)(h:(((((Ref.kind r):Int)==1)=true->(Q .ret (L2 [pI 2 (Ref.data r)] [])))/\((((Ref.kind r):Int)==1)=false->(((((Ref.kind r):Int)==10)=true->(Q .ret (L2 [pI 2 1] [])))/\((((Ref.kind r):Int)==10)=false->(Q .ret (L2 [pI 2 0] []))))))):
  A65 [] (L2 [(0,.agg (enc .ref r))] []) Q:=
 Eq.mpr (by kernel_rfl) h
def Zqc(r:Ref):Prop:=AW (Z0 Zj1) Try.f65 Zp7 [] (Zi (Zk8.can (r,())) []) (EQ Try.f65 (ZmU (r,())) [])
theorem Zoe(hb:∀ (r:Ref) (_:Unit),Z52 (r,())->Zqc r):CT 65 Z0K:=
 Z2 (l:=[]) Zf rfl trivial Zp7 Try.func65 rfl rfl 1 (fun _=> rfl) (by decide) (fun ⟨r,_⟩=> hb r ())
def Zp5:Z8 U:=lvl [([1],[1]),([1,5],[1]),([2],[]),([2],[])]
abbrev A67(p:List Nat):=AW (Z0 Zj1) Try.f67 Zp5 p
theorem Zs5(r:Ref)(Q:QT)(h:(((((Ref.kind r):Int)==1)=true->(Q .ret (L2 [pI 2 (Ref.kids r)] [])))/\((((Ref.kind r):Int)==1)=false->(Q .ret (L2 [pI 2 (Ref.count r)] []))))):
  A67 [] (L2 [(0,.agg (enc .ref r))] []) Q:=
 Eq.mpr (by kernel_rfl) h
def Zqa(r:Ref):Prop:=AW (Z0 Zj1) Try.f67 Zp5 [] (Zi (Zk8.can (r,())) []) (EQ Try.f67 (ZmS (r,())) [])
theorem Zoc(hb:∀ (r:Ref) (_:Unit),Z52 (r,())->Zqa r):CT 67 JP:=
 Z2 (l:=[]) Zf rfl trivial Zp5 Try.func67 rfl rfl 1 (fun _=> rfl) (by decide) (fun ⟨r,_⟩=> hb r ())
def Zje:List (FuncId × Fs U):=[(65,Z0K),(95,JO)]
def Zp6:Z8 U:=lvl [([1,2],[2]),([1,2,14],[2]),([4],[]),([1,2,17],[2]),([4],[]),([5],[]),([4],[])]
abbrev A66(p:List Nat):=AW (Z0 Zje) Try.f66 Zp6 p
theorem Zs6(r:Ref)(i:Int)(Q:QT)(h:let z2:= !(decide (i < 0));let z0:=Ref.mk (Ref.a r) (Ref.kind r) (Ref.segment r) (Ref.at_ r) (Ref.data r) (Ref.kids r) (Ref.count r) (Ref.number r);let z1:=bif (decide (i < 0)) then true else (decide (((JN z0):Int)<=i));((Tr (z2=true))/\(z2=true->Z52 (z0,()))/\(Tr (z2=true))/\(Tr (z2=true))/\((decide (i < 0))=false->z2=true)/\((z1=true->(Q .ret (L2 [(4,.c (.int .u64 0))] [])))/\(z1=false->(((((Ref.kind r):Int)==10)=true->(Q .ret (L2 [(4,.c (.int .u64 (Ref.number r)))] [])))/\((((Ref.kind r):Int)==10)=false->(InR (((Ref.at_ r):Int)+i))/\(Z8q ((Ref.a r),(Ref.segment r),(((Ref.at_ r):Int)+i),()))/\(Q .ret (L2 [(4,.c (.int .u64 (if Zc (Z1 (Ref.a r)) (Ref.segment r) (((Ref.at_ r):Int)+i) 1 then Zg (Z1 (Ref.a r)) (Ref.segment r) (((Ref.at_ r):Int)+i) else 0)))] [])))))))):
  A66 [] (L2 [(0,.agg (enc .ref r)),pI 1 i] []) Q:=
 Eq.mpr (by kernel_rfl) h
def Zqb(r:Ref)(i:Int):Prop:=AW (Z0 Zje) Try.f66 Zp6 [] (Zi (ZjR.can (r,i,())) []) (EQ Try.f66 (ZmT (r,i,())) [])
theorem Zod(c65:CT 65 Z0K)(c95:CT 95 JO)(hb:∀ (r:Ref) (i:Int) (_:Unit),Zi7 (r,i,())->Zqb r i):CT 66 Z7P:=
 Z2 (l:=[(65,Z0K),(95,JO)]) Zf rfl (⟨c65,c95,trivial⟩) Zp6 Try.func66 rfl rfl 2 (fun _=> rfl) (by decide) (fun ⟨r,i,_⟩=> hb r i ())
def ZiE:Z8 U:=lvl [([1],[1]),([1,6],[1]),([2,3],[]),([2,3],[])]
abbrev ZsX(p:List Nat):=AW (Z0 Zj1) Try.f104 ZiE p
theorem ZqU(r:Ref)(Q:QT)(h:(((((Ref.kind r):Int) !=9)=true->(Q .ret (L2 [pI 2 0,pI 3 0] [])))/\((((Ref.kind r):Int) !=9)=false->(Q .ret (L2 [pI 2 (Ref.data r),pI 3 (Ref.kids r)] []))))):
  ZsX [] (L2 [(0,.agg (enc .ref r))] []) Q:=
 Eq.mpr (by kernel_rfl) h
def Zmx(r:Ref):Prop:=AW (Z0 Zj1) Try.f104 ZiE [] (Zi (Zk8.can (r,())) []) (EQ Try.f104 (ZaW (r,())) [])
theorem Zlz(hb:∀ (r:Ref) (_:Unit),Z52 (r,())->Zmx r):CT 104 Z4V:=
 Z2 (l:=[]) Zf rfl trivial ZiE Try.func104 rfl rfl 1 (fun _=> rfl) (by decide) (fun ⟨r,_⟩=> hb r ())
def ZiV:List (FuncId × Fs U):=[(107,J1),(95,JO),(108,Z4Q)]
def ZoN:Z8 U:=lvl [([1,2],[2]),([1,2,5],[2]),([1,2,5,6],[2]),([1,2,5,6,20],[2]),([4],[]),([1,2,5,8],[2]),([1,5,8,9],[]),([4],[])]
abbrev A96(p:List Nat):=AW (Z0 ZiV) Try.f96 ZoN p
theorem ZrI(r:Ref)(i:Int)(Q:QT)(h:∀ y_1,y_1=(Int.tdiv 64 (if wd (((Ref.kind r):Int) - 2) < 0 then 0 else wd (((Ref.kind r):Int) - 2)))->let z2:=IntKind.wrap .i64 y_1;let z1:=((if wd (((Ref.kind r):Int) - 2) < 0 then 0 else wd (((Ref.kind r):Int) - 2)):Int)==0;let z0:=IntKind.wrap .i64 (Int.tdiv i z2);((InR (((Ref.kind r):Int) - 2))/\((Z6A ((((Ref.kind r):Int) - 2),()))/\((z1=true->(Q .ret (L2 [(4,.c (.int .u64 0))] [])))/\(z1=false->(((if wd (((Ref.kind r):Int) - 2) < 0 then 0 else wd (((Ref.kind r):Int) - 2)):Int)≠0)/\(((z2:Int)≠0)/\(InR (((Ref.at_ r):Int)+z0))/\(Z8q ((Ref.a r),(Ref.segment r),(((Ref.at_ r):Int)+z0),()))/\(((z2:Int)≠0)/\(Zb2 (([if Zc (Z1 (Ref.a r)) (Ref.segment r) (((Ref.at_ r):Int)+z0) 1 then Zg (Z1 (Ref.a r)) (Ref.segment r) (((Ref.at_ r):Int)+z0) else 0]),(((Ref.kind r):Int) - 2),(Int.tmod i z2),()))/\(Q .ret (L2 [(4,.c (.int .u64 (Jn ([if Zc (Z1 (Ref.a r)) (Ref.segment r) (((Ref.at_ r):Int)+z0) 1 then Zg (Z1 (Ref.a r)) (Ref.segment r) (((Ref.at_ r):Int)+z0) else 0]) (((Ref.kind r):Int) - 2) (Int.tmod i z2))))] []))))))))):
  A96 [] (L2 [(0,.agg (enc .ref r)),pI 1 i] []) Q:=
 Eq.mpr (by kernel_rfl) (h _ rfl)
def ZpN(r:Ref)(i:Int):Prop:=AW (Z0 ZiV) Try.f96 ZoN [] (Zi (ZjR.can (r,i,())) []) (EQ Try.f96 (ZhD (r,i,())) [])
theorem ZnQ(Zpx:CT 107 J1)(c95:CT 95 JO)(Zpw:CT 108 Z4Q)(hb:∀ (r:Ref) (i:Int) (_:Unit),Zi2 (r,i,())->ZpN r i):CT 96 Z7D:=
 Z2 (l:=[(107,J1),(95,JO),(108,Z4Q)]) Zf rfl (⟨Zpx,c95,Zpw,trivial⟩) ZoN Try.func96 rfl rfl 2 (fun _=> rfl) (by decide) (fun ⟨r,i,_⟩=> hb r i ())
def Zjc:List (FuncId × Fs U):=[(67,JP),(63,Z2K),(96,Z7D)]
def Zp4:Z8 U:=lvl [([1,2,4],[2,4]),([1,2,4,13],[2,4]),([4,5],[4]),([1,2,4,16],[2,4]),([1,2,4,16,17],[2,4]),([4,5],[4]),([1,2,4,16,33],[2,4]),([4,5],[4]),([1,2,4,46],[2,4]),([4,5],[4]),([4,5],[4])]
abbrev A68(p:List Nat):=AW (Z0 Zjc) Try.f68 Zp4 p
theorem Zs4(r:Ref)(i:Int)(Q:QT)(h:∀ y_1,y_1=r->∀ y_2,y_2=(Zo (Z1 (Ref.a r)) (Ref.segment r) (((Ref.at_ r):Int)+i))->∀ y_3,y_3=(Zo (Z1 (Ref.a r)) (Ref.segment r) (((((Ref.at_ r):Int)+(Ref.data r)):Int)+i))->let z1:= !(decide (i < 0));let z0:=bif (decide (i < 0)) then true else (decide (((ZB y_1):Int)<=i));((Tr (z1=true))/\(z1=true->Z52 (y_1,()))/\(Tr (z1=true))/\(Tr (z1=true))/\((decide (i < 0))=false->z1=true)/\((z0=true->(Q .ret (L2 [pL 4,pI 5 0] [(.loc 4,zc2)])))/\(z0=false->(((((Ref.kind r):Int)==1)=true->(InR (((Ref.at_ r):Int)+(Ref.data r)))/\(InR (((((Ref.at_ r):Int)+(Ref.data r)):Int)+i))/\(Z8q ((Ref.a r),(Ref.segment r),(((((Ref.at_ r):Int)+(Ref.data r)):Int)+i),()))/\(Q .ret (L2 [pL 4,pI 5 (y_3.2)] [(.loc 4,(enc .ref (Yc (Ref.a r) y_3.1)))])))/\((((Ref.kind r):Int)==1)=false->(((((Ref.kind r):Int)==8)=true->(InR (((Ref.at_ r):Int)+i))/\(Z8q ((Ref.a r),(Ref.segment r),(((Ref.at_ r):Int)+i),()))/\(Q .ret (L2 [pL 4,pI 5 (y_2.2)] [(.loc 4,(enc .ref (Yc (Ref.a r) y_2.1)))])))/\((((Ref.kind r):Int)==8)=false->(((((Ref.kind r):Int)==9)=true->(InR (((Ref.data r):Int)+(Ref.kids r)))/\(InR (i*(((Ref.data r):Int)+(Ref.kids r))))/\(InR (((Ref.at_ r):Int)+(i*(((Ref.data r):Int)+(Ref.kids r)))))/\(Q .ret (L2 [pL 4,pI 5 0] [(.loc 4,[.po (U:=U) .arena (Ref.a r),ci 1,ci (Ref.segment r),ci (((Ref.at_ r):Int)+(i*(((Ref.data r):Int)+(Ref.kids r)))),ci (Ref.data r),ci (Ref.kids r),ci 0,.int .u64 0])])))/\((((Ref.kind r):Int)==9)=false->(Zi2 (y_1,i,()))/\(Q .ret (L2 [pL 4,pI 5 0] [(.loc 4,[.po (U:=U) .arena (Ref.a r),ci 10,ci 0,ci 0,ci 0,ci 0,ci 0,.int .u64 (Jn (List.drop (Int.toNat (Ref.at_ y_1)) (Zh (Z1 (Ref.a y_1)) (Ref.segment y_1))) (Ref.kind y_1 - 2) i)])])))))))))))):
  A68 [] (L2 [(0,.agg (enc .ref r)),pI 1 i] []) Q:=
 Eq.mpr (by kernel_rfl) (h _ (YJ _) _ rfl _ rfl)
def Zq9(r:Ref)(i:Int):Prop:=AW (Z0 Zjc) Try.f68 Zp4 [] (Zi (ZjR.can (r,i,())) []) (EQ Try.f68 (ZhI (r,i,())) [])
theorem Zob(c67:CT 67 JP)(c63:CT 63 Z2K)(c96:CT 96 Z7D)(hb:∀ (r:Ref) (i:Int) (_:Unit),Zi7 (r,i,())->Zq9 r i):CT 68 Z2J:=
 Z2 (l:=[(67,JP),(63,Z2K),(96,Z7D)]) Zf rfl (⟨c67,c63,c96,trivial⟩) Zp4 Try.func68 rfl rfl 2 (fun _=> rfl) (by decide) (fun ⟨r,i,_⟩=> hb r i ())
end
abbrev tR(a:Option Arena)(x:XRef × Int):V U:= .tup [(true,enc .ref (Yc a x.1)),(false,[.int .i64 x.2])]
theorem ZjB{p:Ptr}(h:OkP p)(h0:0<=p.off):0<=p.off*(p.data+p.ptrs)/\p.off*(p.data+p.ptrs)<=70368744177664:=by
 have h1:=h.data
 have h2:=h.ptrs
 have h3:=h.off
 have:=K3 (Xc h3.2) (show p.data+p.ptrs<=131072 by omega) (by omega) (by decide:(0:Int)<=536870912)
 exact ⟨Qw h0 (by omega),by omega⟩
theorem c94:Contract Try.prog cfg 94 Z7E:=by
 refine ZnS c95 Z4G ?_
 intro r n _ hp
 obtain ⟨ha,hn,hz,hh⟩:=hp
 dsimp only at ha hn hz hh
 refine ZrK _ _ _ ?_
 rintro y hy
 dsimp only at hy
 (simp only [vcT,vcS])
 have g:=Z3.1 hh
 have hl:=(Yr ha r.segment).1
 have h1:Zc (Z1 r.a) r.segment r.at_ 1=true:=Z3.2 ⟨g.1,g.2.1,g.2.2.1,by decide,by omega⟩
 have hw:=YW ha r.segment r.at_
 rw [if_pos h1] at hy ⊢
 have ho:=Z3F hw.1 hw.2
 rw [<-hy] at ho
 have hd:=ho.data
 have hq:=ho.ptrs
 have hr:ZhE (r,n,())=tR r.a (Z0r (Z1 r.a) r.segment r.at_ n):=rfl
 rw [hr]
 refine ⟨ha,hw,fun h=> by ((unfold InR;omega)),fun h=> by have:=ZjB ho (by omega);((unfold InR;omega)),fun h=> ?_,fun h=> ⟨by ((unfold InR;omega)),?_⟩⟩
 .rw [show Z0r (Z1 r.a) r.segment r.at_ n=(xz,8) by unfold Z0r;rw [<-hy,if_pos (by omega)]];(repeat' (first | exact trivial | exact rfl | apply And.intro))
 .rw [show Z0r (Z1 r.a) r.segment r.at_ n=(⟨9,r.segment,r.at_+1,y.data,y.ptrs,y.off,0⟩,0) by unfold Z0r;rw [<-hy,if_neg (by omega)]]
  rw [hz];(repeat' (first | exact trivial | exact rfl | apply And.intro))
theorem c63:Contract Try.prog cfg 63 Z2K:=by
 refine Zog c93 c94 ?_
 intro a s x _ ha
 simp only [Z8q] at ha
 refine Zs9 _ _ _ _ ?_
 rintro y1 h1 y2 h2
 dsimp only at h1 h2
 have hf:=Z23 ha s x
 have hp:=hf.p
 have hk:=hf.kind
 have hc:=hp.code
 have hcn:=hp.count
 have hr:ZeE (a,s,x,())=tR a (Zo (Z1 a) s x):=rfl
 have cut:∀ k d p c:Int,k≠0->Zo (Z1 a) s x=(⟨k,(Ze (Z1 a) s x).1.segment,(Ze (Z1 a) s x).1.at_,d,p,c,0⟩,0)->A63 [1,1,1,1,1] (Z3e a s x k d p c) (Yg cfg Try.f63.ntmps Try.f63.results.toList (ZeE (a,s,x,())) []):=by
  intro k d p c hk0 he
  refine ZkJ _ _ _ _ _ _ _ _ ?_
  rw [hr,he,show tR a (⟨k,(Ze (Z1 a) s x).1.segment,(Ze (Z1 a) s x).1.at_,d,p,c,0⟩,0)= .tup [(true,enc .ref ⟨a,k,(Ze (Z1 a) s x).1.segment,(Ze (Z1 a) s x).1.at_,d,p,c,0⟩),(false,[.int .i64 0])] by
   simp only [tR,Yc];rw [if_neg hk0]]
  (repeat' (first | exact trivial | exact rfl | apply And.intro))
 (simp only [vcT,vcS])
 refine ⟨ha,fun h=> ?_,fun h=> ⟨fun k1=> ?_,fun k1=> ⟨fun k6=> ⟨by ((unfold InR;omega)),?_⟩,fun k6=> ⟨fun k7=> ?_,fun k7=> ⟨?_,?_⟩⟩⟩⟩⟩
 .rw [hr,show Zo (Z1 a) s x=(xz,(Ze (Z1 a) s x).2) by unfold Zo;rw [if_pos h]];(repeat' (first | exact trivial | exact rfl | apply And.intro))
 .refine cut _ _ _ _ (by decide) ?_
  unfold Zo;rw [if_neg (by omega),if_pos k1]
 .refine cut _ _ _ _ (by omega) ?_
  unfold Zo;rw [if_neg (by omega),if_neg k1,if_pos (by omega)]
 .refine cut _ _ _ _ (by decide) ?_
  unfold Zo;rw [if_neg (by omega),if_neg k1,if_pos (by omega),k7];try rfl
 .subst h1
  refine ⟨ha,hcn.1,rfl,?_⟩
  have:=hf.lie (by omega)
  rw [show ZY (Ze (Z1 a) s x).1.p=(Ze (Z1 a) s x).1.p.count+1 by unfold ZY;rw [if_neg k1,if_pos (by omega),if_pos (by omega)]] at this
  exact this
 .subst h1 h2
  rw [hr,show Zo (Z1 a) s x=Z0r (Z1 a) (Ze (Z1 a) s x).1.segment (Ze (Z1 a) s x).1.at_ (Ze (Z1 a) s x).1.p.count by unfold Zo;rw [if_neg (by omega),if_neg k1,if_neg (by omega)]]
  (repeat' (first | exact trivial | exact rfl | apply And.intro))
theorem c35:Contract Try.prog cfg 35 Z2L:=by
 refine Zot c63 ?_
 intro a _ ha
 refine Zsp _ _ ?_
 refine ⟨ha,?_⟩
 (repeat' (first | exact trivial | exact rfl | apply And.intro))
theorem c64:Contract Try.prog cfg 64 Z0L:=by
 refine Zof ?_
 intro r _ _
 refine Zs8 _ _ ?_
 (repeat' (first | exact trivial | exact rfl | apply And.intro))
theorem c65:Contract Try.prog cfg 65 Z0K:=by
 refine Zoe ?_
 intro r _ _
 refine Zs7 _ _ ?_
 (simp only [vcT,vcS])
 refine ⟨fun h=> ZC rfl ?_,fun h=> ⟨fun h2=> ZC rfl ?_,fun h2=> ZC rfl ?_⟩⟩
 all_goals
  show _=JN r
  unfold JN
 .rw [if_pos h]
 .rw [if_neg h,if_pos h2]
 .rw [if_neg h,if_neg h2]
theorem c67:Contract Try.prog cfg 67 JP:=by
 refine Zoc ?_
 intro r _ _
 refine Zs5 _ _ ?_
 (simp only [vcT,vcS])
 refine ⟨fun h=> ZC rfl ?_,fun h=> ZC rfl ?_⟩
 all_goals
  show _=ZB r
  unfold ZB
 .rw [if_pos h]
 .rw [if_neg h]
theorem ZpA:Contract Try.prog cfg 104 Z4V:=by
 refine Zlz ?_
 intro r _ _
 refine ZqU _ _ ?_
 (simp only [vcT,vcS])
 refine ⟨fun h=> ?_,fun h=> ?_⟩
 .refine Y4 (r':= .tup [(false,[.int .i64 0]),(false,[.int .i64 0])]) ?_ (by (repeat' (first | exact trivial | exact rfl | apply And.intro)))
  simp only [ZaW];rw [if_neg h,if_neg h]
 .refine Y4 (r':= .tup [(false,[.int .i64 r.data]),(false,[.int .i64 r.kids])]) ?_ (by (repeat' (first | exact trivial | exact rfl | apply And.intro)))
  simp only [ZaW];rw [if_pos h,if_pos h]
theorem Zd1{l:List (List Int)}{x:XRef}{i:Int}(h1:x.kind=1)(ha:0<=x.at_)(h0:0<=i)(hi:i < x.data):(ZF l x).getD i.toNat 0=Zg l x.s (x.at_+i):=by
 unfold ZF Zg
 rw [if_neg (by omega),if_pos h1,Q2,Q2,QL (by omega),Qh,show (x.at_+i).toNat=x.at_.toNat+i.toNat by omega]
theorem Zd0{l:List (List Int)}{x:XRef}(h:OkX l x):((ZF l x).length:Int)=if x.kind=1 then x.data else if x.kind=10 then 1 else 0:=by
 unfold ZF
 by_cases h1:x.kind=1
 .have hh:=Z3.1 (h.one h1)
  have hd:=h.data
  have hp:=h.ptrs
  rw [if_neg (by omega),if_pos h1,if_pos h1]
  simp
  omega
 .by_cases h10:x.kind=10
  .rw [if_pos h10,if_neg h1,if_pos h10];try rfl
  .rw [if_neg h10,if_neg h1,if_neg h1,if_neg h10];try rfl
theorem c66:Contract Try.prog cfg 66 Z7P:=by
 refine Zod c65 c95 ?_
 intro r i _ hp
 obtain ⟨ha,hx⟩:=hp
 dsimp only at ha hx
 refine Zs6 _ _ _ ?_
 (simp only [vcT,vcS])
 have hlen:=Zd0 hx
 have hlr:JN r=((ZF (Z1 r.a) (unX r)).length:Int):=by rw [hlen];try rfl
 have hat:=hx.at_
 have hdt:=hx.data
 have hpt:=hx.ptrs
 simp only [unX] at hat hdt hpt
 refine ⟨fun _=> trivial,fun h=> ZC rfl ?_,fun h=> ⟨fun k=> ZC rfl ?_,fun k=> ?_⟩⟩
 .show (0:Int)=Z2x r i
  change i < 0\/JN r<=i at h
  unfold Z2x
  by_cases h0:i < 0
  .rw [if_pos h0]
  .rw [if_neg h0,Q2,Qz (by omega)];try rfl
 .show r.number=Z2x r i
  change ¬i < 0/\¬JN r<=i at h
  have h1:JN r=1:=by unfold JN;rw [if_neg (by omega),if_pos k]
  unfold Z2x ZF
  rw [if_neg h.1,if_pos (show (unX r).kind=10 from k),show i=0 by omega]
  try rfl
 .change ¬i < 0/\¬JN r<=i at h
  have k1:r.kind=1:=by
   cases Decidable.em (r.kind=1) with
   | inl e=> exact e
   | inr e=> exfalso;have:JN r=0:=(by unfold JN;rw [if_neg e,if_neg k]);omega
  have hl:JN r=r.data:=by unfold JN;rw [if_pos k1]
  have hh:=Z3.1 (hx.one k1)
  simp only [unX] at hh
  refine ⟨by ((unfold InR;omega)),ha,ZC rfl ?_⟩
  show _=Z2x r i
  unfold Z2x
  rw [if_neg h.1,Zd1 (x:=unX r) k1 hh.2.2.1 (by omega) (by show i < r.data;omega),if_pos (Z3.2 ⟨hh.1,hh.2.1,by omega,by decide,by omega⟩)]
  try rfl
theorem ZkG{c:Int}(h0:0<=c)(h1:c<=5):wd c=Z0k c:=by
 have:c=0\/c=1\/c=2\/c=3\/c=4\/c=5:=by omega
 rcases this with rfl | rfl | rfl | rfl | rfl | rfl <;> decide
theorem Zjy{g:List Int}{a c i n w:Int}(hw:wd c=w)(hw':w=1\/w=8\/w=16\/w=32\/w=64)(ha:0<=a)(h0:0<=i)(hi:i < n)(hn:n < 536870912)(hl:a+(n*w+63) / 64<=(g.length:Int)):
  a+i / (64 / w) < (g.length:Int)/\0<=i / (64 / w)/\i / (64 / w)<=i/\Jn [g.getD (a+i / (64 / w)).toNat 0] c (i % (64 / w))=Jn (g.drop a.toNat) c i:=by
 have key:i*w / 64=i / (64 / w)/\i % (64 / w)*w / 64=0/\i % (64 / w)*w % 64=i*w % 64/\a+i / (64 / w) < (g.length:Int)/\0<=i / (64 / w)/\i / (64 / w)<=i/\0<=i % (64 / w)/\i % (64 / w)<=64:=by
  rcases hw' with e | e | e | e | e <;> subst e
  .exact ⟨by omega,by omega,by omega,by omega,by omega,by omega,by omega,by omega⟩
  .exact ⟨by omega,by omega,by omega,by omega,by omega,by omega,by omega,by omega⟩
  .exact ⟨by omega,by omega,by omega,by omega,by omega,by omega,by omega,by omega⟩
  .exact ⟨by omega,by omega,by omega,by omega,by omega,by omega,by omega,by omega⟩
  .exact ⟨by omega,by omega,by omega,by omega,by omega,by omega,by omega,by omega⟩
 obtain ⟨e1,e2,e3,e4,e5,e6,e7,e8⟩:=key
 refine ⟨e4,e5,e6,?_⟩
 have hwp:1<=wd c:=by omega
 rw [Z3P hwp e7 (by omega),Z3P hwp h0 (by omega),hw,e1,e2,e3]
 have:Z4J [g.getD (a+i / (64 / w)).toNat 0] 0=Z4J (g.drop a.toNat) (i / (64 / w)):=by
  unfold Z4J
  rw [if_neg (by simp),if_neg (by simp;omega)]
  rw [Q2 (l:=g.drop _),Qh,<-Q2,show a.toNat+(i / (64 / w)).toNat=(a+i / (64 / w)).toNat by omega]
  try rfl
 rw [this]
theorem c96:Contract Try.prog cfg 96 Z7D:=by
 refine ZnQ Zpx c95 Zpw ?_
 intro r i _ hp
 obtain ⟨⟨ha,hx⟩,hk0,hk1,hi0,hi1⟩:=hp
 dsimp only at ha hx hk0 hk1 hi0 hi1
 refine ZrI _ _ _ ?_
 rintro y hy
 dsimp only at hy
 (simp only [vcT,vcS])
 have hc:=hx.count
 have hat:=hx.at_
 have hh:=Z3.1 (hx.list hk0 (by show r.kind<=8;omega))
 simp only [unX] at hc hat hh
 have hwb:=ZkG (c:=r.kind - 2) (by omega) (by omega)
 rw [<-hwb] at hh
 have hwc:=Z0H (r.kind - 2)
 have hb0:0<=Z0k (r.kind - 2):=by unfold Z0k;(repeat' split) <;> omega
 rw [if_neg (show ¬wd (r.kind - 2) < 0 by omega)] at hy ⊢
 have hr:ZhD (r,i,())= .c (.int .u64 (Jn ((Zh (Z1 r.a) r.segment).drop r.at_.toNat) (r.kind - 2) i)):=rfl
 refine ⟨by ((unfold InR;omega)),trivial,fun h=> ZC rfl ?_,fun h=> ?_⟩
 .show (0:Int)=Jn _ (r.kind - 2) i
  unfold Jn
  rw [if_pos (by omega)]
 .generalize hwe:wd (r.kind - 2)=w at*
  have hw5:w=1\/w=8\/w=16\/w=32\/w=64:=by omega
  obtain ⟨q1,q2,q3,q4⟩:=Zjy (g:=Zh (Z1 r.a) r.segment) (i:=i) hwe hw5 hat.1 hi0 hi1 hc.2 hh.2.2.2.2
  have hy':IntKind.wrap .i64 y=64 / w/\0 < 64 / w/\64 / w<=64:=by
   rw [hy]
   rcases hw5 with e | e | e | e | e <;> subst e <;> decide
  rw [hy'.1,QY hi0,XF hi0,Jp (n:=i / (64 / w)) (by omega) (by omega)]
  have h1:Zc (Z1 r.a) r.segment (r.at_+i / (64 / w)) 1=true:=Z3.2 ⟨hh.1,hh.2.1,by omega,by decide,by omega⟩
  rw [if_pos h1]
  refine ⟨h,by omega,by ((unfold InR;omega)),ha,by omega,?_,ZC rfl q4⟩
  intro z hz
  rw [Qy.1 hz]
  exact YW ha _ _
theorem c68:Contract Try.prog cfg 68 Z2J:=by
 refine Zob c67 c63 c96 ?_
 intro r i _ hp
 obtain ⟨ha,hx⟩:=hp
 dsimp only at ha hx
 refine Zs4 _ _ _ ?_
 rintro y1 h1 y2 h2 y3 h3
 dsimp only at h1 h2 h3
 replace h1:=h1.symm
 subst h1
 (simp only [vcT,vcS])
 have hr:ZhI (r,i,())=tR r.a (Zk (Z1 r.a) (unX r) i):=rfl
 rw [hr]
 have hk:=hx.kind
 have hat:=hx.at_
 have hd:=hx.data
 have hp:=hx.ptrs
 have hcn:=hx.count
 have hz:=hx.zero
 simp only [unX] at hk hat hd hp hcn hz
 have hkr:ZH (unX r)=ZB r:=rfl
 have hb:¬ZB r<=i->i < 536870912:=fun h=> by unfold ZB at h;split at h <;> omega
 refine ⟨fun _=> trivial,fun h=> ?_,fun h=> ⟨fun k1=> ⟨by ((unfold InR;omega)),by have:=hb h.2;((unfold InR;omega)),ha,?_⟩,fun k1=> ⟨fun k8=> ⟨by have:=hb h.2;((unfold InR;omega)),ha,?_⟩,fun k8=> ⟨fun k9=> ?_,fun k9=> ⟨⟨⟨ha,hx⟩,?_⟩,?_⟩⟩⟩⟩⟩
 .rw [show Zk (Z1 r.a) (unX r) i=(xz,0) by unfold Zk;rw [if_pos (by rw [hkr];exact h)]];(repeat' (first | exact trivial | exact rfl | apply And.intro))
 .subst h3
  rw [show Zk (Z1 r.a) (unX r) i=Zo (Z1 r.a) r.segment (r.at_+r.data+i) by unfold Zk;rw [if_neg (by rw [hkr];omega),if_pos (show (unX r).kind=1 from k1)];rfl];(repeat' (first | exact trivial | exact rfl | apply And.intro))
 .subst h2
  rw [show Zk (Z1 r.a) (unX r) i=Zo (Z1 r.a) r.segment (r.at_+i) by unfold Zk;rw [if_neg (by rw [hkr];omega),if_neg (show ¬(unX r).kind=1 from k1),if_pos (show (unX r).kind=8 from k8)];rfl];(repeat' (first | exact trivial | exact rfl | apply And.intro))
 .have hh:=Z3.1 (hx.nine k9)
  have hic:i < r.count:=by have:=h.2;unfold ZB at this;rw [if_neg k1] at this;omega
  have hl:=(Yr ha r.segment).1
  simp only [unX] at hh
  have e1:0<=i*(r.data+r.kids):=Qw (by omega) (by omega)
  have e2:i*(r.data+r.kids)<=r.count*(r.data+r.kids):=X3 (by omega) (by omega)
  refine ⟨by ((unfold InR;omega)),by ((unfold InR;omega)),by ((unfold InR;omega)),?_⟩
  rw [show Zk (Z1 r.a) (unX r) i=(⟨1,r.segment,r.at_+i*(r.data+r.kids),r.data,r.kids,0,0⟩,0) by
   unfold Zk;rw [if_neg (by rw [hkr];omega),if_neg (show ¬(unX r).kind=1 from k1),if_neg (show ¬(unX r).kind=8 from k8),if_pos (show (unX r).kind=9 from k9)];rfl]
  (repeat' (first | exact trivial | exact rfl | apply And.intro))
 .have hic:i < r.count:=by have:=h.2;unfold ZB at this;rw [if_neg k1] at this;omega
  refine ⟨by show 2<=r.kind;omega,by show r.kind<=7;omega,by show 0<=i;omega,hic⟩
 .rw [show Zk (Z1 r.a) (unX r) i=(⟨10,0,0,0,0,0,Jn ((Zh (Z1 r.a) r.segment).drop r.at_.toNat) (r.kind - 2) i⟩,0) by
   unfold Zk;rw [if_neg (by rw [hkr];omega),if_neg (show ¬(unX r).kind=1 from k1),if_neg (show ¬(unX r).kind=8 from k8),if_neg (show ¬(unX r).kind=9 from k9)];rfl]
  (repeat' (first | exact trivial | exact rfl | apply And.intro))
noncomputable section
def Zki:ArgL (List Int × List Int × Unit):=(.cons (aSl .u64) (.cons (aSl .u64) .nil))
def Z8u(a:List Int × List Int × Unit):Prop:=a.1.length<=17592186044416
def Zn2(a:List Int × List Int × Unit):V U:= .c (.bool (decide (a.1=a.2.1)))
def Z2N:Fs U:=fs Zki (fun a=> [Z8u a]) Zn2
def Zko:ArgL (List (List Int) × List (List Int) × Unit):=(.cons (aSl .words) (.cons (aSl .words) .nil))
def Zcb(a:List (List Int) × List (List Int) × Unit):Prop:=YK a.1
def Zn8(a:List (List Int) × List (List Int) × Unit):V U:= .c (.bool (decide (a.1=a.2.1)))
def Z86:Fs U:=fs Zko (fun a=> [Zcb a]) Zn8
def ZlO:Z8 U:=lvl [([0,1],[]),([0,1,10],[]),([4],[]),([0,1,5],[]),([0,1,5,14],[]),([0,1,5],[]),([0,1,5,25],[]),([4],[]),([4],[])]
def Z5n(a b:List Int)(x5:Int):LSt U:=(L2 [(0,.c (sU .u64 a .unk)),(1,.c (sU .u64 b .unk)),pI 5 x5] [])
abbrev A29(p:List Nat):=AW (Z0 Zj1) Try.f29 ZlO p
abbrev S29(p:List Nat):=SW (Z0 Zj1) Try.f29 ZlO p
theorem Zss(a b:List Int)(Q:QT)(h:let z0:=((a.length:Int):Int) !=(b.length:Int);((z0=true->(Q .ret (L2 [pB 4 false] [])))/\(z0=false->(ZJ (A29 [1,1,0,1,0,0]) (Z5n a b 0) (xB 0 (S29 [1,1,1] Q)))))):
  A29 [] (L2 [(0,.c (sU .u64 a .unk)),(1,.c (sU .u64 b .unk))] []) Q:=
 Eq.mpr (by kernel_rfl) h
theorem ZkV(a b:List Int)(x5:Int)(N0:NT)(Q:QT)(h:let z1:=decide (x5 < (a.length:Int));let z0:=((a.getD x5.toNat (0:Int)):Int) !=(b.getD x5.toNat (0:Int));((z1=true->((0:Int)<=x5/\x5 < (a.length:Int))/\((0:Int)<=x5/\x5 < (b.length:Int))/\((z0=true->(Q .ret (L2 [pB 4 false] [])))/\(z0=false->(InR (x5+1))/\(N0 (Z5n a b (x5+1))))))/\(z1=false->(Q .ret (L2 [pB 4 true] []))))):
  A29 [1,1,0,1,0,0] (Z5n a b x5) (xT N0 (xB 0 (S29 [1,1,1] Q))):=
 Eq.mpr (by kernel_rfl) h
def Zqx(a b:List Int):Prop:=AW (Z0 Zj1) Try.f29 ZlO [] (Zi (Zki.can (a,b,())) []) (EQ Try.f29 (Zn2 (a,b,())) [])
theorem Zow(hb:∀ (a:List Int) (b:List Int) (_:Unit),Z8u (a,b,())->Zqx a b):CT 29 Z2N:=
 Z2 (l:=[]) Zf rfl trivial ZlO Try.func29 rfl rfl 2 (fun _=> rfl) (by decide) (fun ⟨a,b,_⟩=> hb a b ())
def ZdV:List (FuncId × Fs U):=[(29,Z2N)]
def ZlT:Z8 U:=lvl [([0,1],[]),([0,1,10],[]),([4],[]),([0,1,5],[]),([0,1,5,14],[]),([0,1,5],[]),([0,1,5,26],[]),([4],[]),([4],[])]
def Z5p(a b:List (List Int))(x5:Int):LSt U:=(L2 [(0,.c (sU .words a .unk)),(1,.c (sU .words b .unk)),pI 5 x5] [])
abbrev A10(p:List Nat):=AW (Z0 ZdV) Try.f10 ZlT p
abbrev S10(p:List Nat):=SW (Z0 ZdV) Try.f10 ZlT p
theorem ZsG(a b:List (List Int))(Q:QT)(h:let z0:=((a.length:Int):Int) !=(b.length:Int);((z0=true->(Q .ret (L2 [pB 4 false] [])))/\(z0=false->(ZJ (A10 [1,1,0,1,0,0]) (Z5p a b 0) (xB 0 (S10 [1,1,1] Q)))))):
  A10 [] (L2 [(0,.c (sU .words a .unk)),(1,.c (sU .words b .unk))] []) Q:=
 Eq.mpr (by kernel_rfl) h
theorem Zl6(a b:List (List Int))(x5:Int)(N0:NT)(Q:QT)(h:let z3:=decide (x5 < (a.length:Int));let z2:=b.getD x5.toNat ([]:List Int);let z1:=a.getD x5.toNat ([]:List Int);let z0:= !(decide (z1=z2));((z3=true->((0:Int)<=x5/\x5 < (a.length:Int))/\((0:Int)<=x5/\x5 < (b.length:Int))/\(Z8u (z1,z2,()))/\((z0=true->(Q .ret (L2 [pB 4 false] [])))/\(z0=false->(InR (x5+1))/\(N0 (Z5p a b (x5+1))))))/\(z3=false->(Q .ret (L2 [pB 4 true] []))))):
  A10 [1,1,0,1,0,0] (Z5p a b x5) (xT N0 (xB 0 (S10 [1,1,1] Q))):=
 Eq.mpr (by kernel_rfl) h
def ZqL(a b:List (List Int)):Prop:=AW (Z0 ZdV) Try.f10 ZlT [] (Zi (Zko.can (a,b,())) []) (EQ Try.f10 (Zn8 (a,b,())) [])
theorem ZoJ(c29:CT 29 Z2N)(hb:∀ (a:List (List Int)) (b:List (List Int)) (_:Unit),Zcb (a,b,())->ZqL a b):CT 10 Z86:=
 Z2 (l:=[(29,Z2N)]) Zf rfl (⟨c29,trivial⟩) ZlT Try.func10 rfl rfl 2 (fun _=> rfl) (by decide) (fun ⟨a,b,_⟩=> hb a b ())
end
theorem Z91{α:Type}{a b:List α}(d:α)(hl:a.length=b.length)(h:∀ j:Nat,j < a.length->a.getD j d=b.getD j d):a=b:=by
 refine Ka hl fun j h1 h2=> ?_
 have:=h j h1
 rwa [Q2,Q2,Q0 h1,Q0 h2] at this
theorem c29:Contract Try.prog cfg 29 Z2N:=by
 refine Zow ?_
 intro a b _ hp
 simp only [Z8u] at hp
 refine Zss _ _ _ ?_
 (simp only [vcT,vcS])
 refine ⟨fun h=> Zw rfl (decide_eq_false fun e=> h (by rw [show a=b from e])).symm,fun h=> ?_⟩
 refine Zr (ι:=Int) (fun i=> Z5n a b i) (fun i=> 0<=i/\i<=a.length/\∀ j:Nat,j < i.toNat->a.getD j 0=b.getD j 0) (fun i=> (a.length - i).toNat) 0 rfl ⟨by simp,by omega,fun j hj=> by simp at hj⟩ ?_
 rintro i ⟨h1,h2,h3⟩
 refine ZkV _ _ _ _ _ ?_
 (simp only [vcT,vcS])
 refine ⟨fun hi=> ⟨by omega,by omega,fun hn=> Zw rfl ?_,fun he=> ⟨by ((unfold InR;omega)),i+1,rfl,⟨by omega,by omega,fun j hj=> ?_⟩,by omega⟩⟩,fun hi=> Zw rfl ?_⟩
 .exact (decide_eq_false fun e=> hn (by rw [show a=b from e])).symm
 .by_cases e:j < i.toNat
  .exact h3 j e
  .rw [show j=i.toNat by omega];exact he
 .exact (decide_eq_true (Z91 0 (by omega) fun j hj=> h3 j (by omega))).symm
theorem c10:Contract Try.prog cfg 10 Z86:=by
 refine ZoJ c29 ?_
 intro a b _ hp
 simp only [Zcb] at hp
 have hl:=hp.1
 refine ZsG _ _ _ ?_
 (simp only [vcT,vcS])
 refine ⟨fun h=> Zw rfl (decide_eq_false fun e=> h (by rw [show a=b from e])).symm,fun h=> ?_⟩
 refine Zr (ι:=Int) (fun i=> Z5p a b i) (fun i=> 0<=i/\i<=a.length/\∀ j:Nat,j < i.toNat->a.getD j []=b.getD j []) (fun i=> (a.length - i).toNat) 0 rfl ⟨by simp,by omega,fun j hj=> by simp at hj⟩ ?_
 rintro i ⟨h1,h2,h3⟩
 refine Zl6 _ _ _ _ _ ?_
 (simp only [vcT,vcS])
 refine ⟨fun hi=> ⟨by omega,by omega,(hp.2 _ (Z1w (by omega) [])).1,fun hn=> Zw rfl ?_,fun he=> ⟨by ((unfold InR;omega)),i+1,rfl,⟨by omega,by omega,fun j hj=> ?_⟩,by omega⟩⟩,fun hi=> Zw rfl ?_⟩
 .exact (decide_eq_false fun e=> hn (by rw [show a=b from e])).symm
 .by_cases e:j < i.toNat
  .exact h3 j e
  .rw [show j=i.toNat by omega];exact he
 .exact (decide_eq_true (Z91 [] (by omega) fun j hj=> h3 j (by omega))).symm
end Go.AM.Ytcljdbpmjdgooaa
