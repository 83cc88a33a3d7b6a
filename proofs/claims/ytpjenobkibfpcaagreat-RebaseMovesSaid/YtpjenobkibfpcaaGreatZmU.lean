import Derived.Test.YtpjenobkibfpcaaGreatZmP
set_option linter.unusedSimpArgs false
set_option linter.unusedVariables false
namespace Go.AM
structure WEdit where
 at_:Int
 mask:Int
 old:Int
 new:Int
inductive Tree where
 | mk (kind:Int) (words:List Int) (kids:List Tree)
def Tree.kind:Tree->Int | .mk k _ _=> k
def Tree.words:Tree->List Int | .mk _ w _=> w
def Tree.kids:Tree->List Tree | .mk _ _ k=> k
@[simp] theorem Tree.eta (t:Tree):Tree.mk t.kind t.words t.kids=t:=by cases t;rfl
@[simp] theorem Tree.kind_mk (k:Int) (w:List Int) (ks:List Tree):(Tree.mk k w ks).kind=k:=rfl
@[simp] theorem Tree.words_mk (k:Int) (w:List Int) (ks:List Tree):(Tree.mk k w ks).words=w:=rfl
@[simp] theorem Tree.kids_mk (k:Int) (w:List Int) (ks:List Tree):(Tree.mk k w ks).kids=ks:=rfl
structure KidOf (E:Type) where
 at_:Int
 e:E
structure OpOf (E:Type) where
 kind:Int
 n:Int
 l:List Tree
 e:E
inductive Edit where
 | mk (kind:Int) (old new:Tree) (words:List WEdit) (kids:List (KidOf Edit)) (list:Int) (ops:List (OpOf Edit))
abbrev Kid:=KidOf Edit
abbrev Op:=OpOf Edit
def Edit.kind:Edit->Int | .mk k _ _ _ _ _ _=> k
def Edit.old:Edit->Tree | .mk _ o _ _ _ _ _=> o
def Edit.new:Edit->Tree | .mk _ _ n _ _ _ _=> n
def Edit.words:Edit->List WEdit | .mk _ _ _ w _ _ _=> w
def Edit.kids:Edit->List Kid | .mk _ _ _ _ k _ _=> k
def Edit.list:Edit->Int | .mk _ _ _ _ _ l _=> l
def Edit.ops:Edit->List Op | .mk _ _ _ _ _ _ o=> o
@[simp] theorem Edit.eta (e:Edit):Edit.mk e.kind e.old e.new e.words e.kids e.list e.ops=e:=by cases e;rfl
section
variable (k:Int) (o n:Tree) (w:List WEdit) (ks:List Kid) (l:Int) (os:List Op)
@[simp] theorem Edit.kind_mk:(Edit.mk k o n w ks l os).kind=k:=rfl
@[simp] theorem Edit.old_mk:(Edit.mk k o n w ks l os).old=o:=rfl
@[simp] theorem Edit.new_mk:(Edit.mk k o n w ks l os).new=n:=rfl
@[simp] theorem Edit.words_mk:(Edit.mk k o n w ks l os).words=w:=rfl
@[simp] theorem Edit.kids_mk:(Edit.mk k o n w ks l os).kids=ks:=rfl
@[simp] theorem Edit.list_mk:(Edit.mk k o n w ks l os).list=l:=rfl
@[simp] theorem Edit.ops_mk:(Edit.mk k o n w ks l os).ops=os:=rfl
end
def Tree.nil:Tree:= .mk 0 [] []
def Edit.nil:Edit:= .mk 0 Tree.nil Tree.nil [] [] 0 []
def Op.nil:Op:=⟨0,0,[],Edit.nil⟩
structure AUnit where
 step:Int
 kind:Int
 t:Tree
 e:Edit
 alone:Bool
def AUnit.nil:AUnit:=⟨0,0,Tree.nil,Edit.nil,false⟩
structure PStep where
 kind:Int
 at_:Int
structure Piece where
 of:Int
 p:Op
 q:Op
structure APair where
 of:Int
 p:AUnit
 q:AUnit
structure LeftE where
 x:Edit
 y:Edit
 clash:Bool
 apart:Bool
structure Deed where
 kind:Int
 i:Int
 e:Edit
structure HDeed where
 kind:Int
 who:Int
 version:Int
 e:Edit
inductive Ty where
 | u64 | u8 | int | tree | wedit | edit | kid | op | piece | unit | pair | left | deed | hdeed
 deriving DecidableEq
@[reducible] def El:Ty->Type
 | .u64=> Int
 | .u8=> Int
 | .int=> Int
 | .tree=> Tree
 | .wedit=> WEdit
 | .edit=> Edit
 | .kid=> Kid
 | .op=> Op
 | .piece=> Piece
 | .unit=> AUnit
 | .pair=> APair
 | .left=> LeftE
 | .deed=> Deed
 | .hdeed=> HDeed
@[reducible] def U:Uni:={ Ty:=Ty,El:=El }
abbrev sl(T:Ty)(l:List (El T)):C U:= .slice (U:=U) T l .unk
def ZCn(x:Tree):List (C U):=[.int .i64 x.kind,sl .u64 x.words,sl .tree x.kids]
def Zxf(x:WEdit):List (C U):=[.int .i64 x.at_,.int .u8 x.mask,.int .u64 x.old,.int .u64 x.new]
def ZCq(x:Edit):List (C U):=[.int .i64 x.kind,.int .i64 x.old.kind,sl .u64 x.old.words,sl .tree x.old.kids,.int .i64 x.new.kind,sl .u64 x.new.words,sl .tree x.new.kids,sl .wedit x.words,sl .kid x.kids,.int .i64 x.list,sl .op x.ops]
def ZHQ(x:Kid):List (C U):=[.int .i64 x.at_,.int .i64 x.e.kind,.int .i64 x.e.old.kind,sl .u64 x.e.old.words,sl .tree x.e.old.kids,.int .i64 x.e.new.kind,sl .u64 x.e.new.words,sl .tree x.e.new.kids,sl .wedit x.e.words,sl .kid x.e.kids,.int .i64 x.e.list,sl .op x.e.ops]
def eOp(x:Op):List (C U):=[.int .i64 x.kind,.int .i64 x.n,sl .tree x.l,.int .i64 x.e.kind,.int .i64 x.e.old.kind,sl .u64 x.e.old.words,sl .tree x.e.old.kids,.int .i64 x.e.new.kind,sl .u64 x.e.new.words,sl .tree x.e.new.kids,sl .wedit x.e.words,sl .kid x.e.kids,.int .i64 x.e.list,sl .op x.e.ops]
def Zxg(x:Piece):List (C U):=[.int .i64 x.of,.int .i64 x.p.kind,.int .i64 x.p.n,sl .tree x.p.l,.int .i64 x.p.e.kind,.int .i64 x.p.e.old.kind,sl .u64 x.p.e.old.words,sl .tree x.p.e.old.kids,.int .i64 x.p.e.new.kind,sl .u64 x.p.e.new.words,sl .tree x.p.e.new.kids,sl .wedit x.p.e.words,sl .kid x.p.e.kids,.int .i64 x.p.e.list,sl .op x.p.e.ops,.int .i64 x.q.kind,.int .i64 x.q.n,sl .tree x.q.l,.int .i64 x.q.e.kind,.int .i64 x.q.e.old.kind,sl .u64 x.q.e.old.words,sl .tree x.q.e.old.kids,.int .i64 x.q.e.new.kind,sl .u64 x.q.e.new.words,sl .tree x.q.e.new.kids,sl .wedit x.q.e.words,sl .kid x.q.e.kids,.int .i64 x.q.e.list,sl .op x.q.e.ops]
def ZCm(x:AUnit):List (C U):=[.int .i64 x.step,.int .i64 x.kind,.int .i64 x.t.kind,sl .u64 x.t.words,sl .tree x.t.kids,.int .i64 x.e.kind,.int .i64 x.e.old.kind,sl .u64 x.e.old.words,sl .tree x.e.old.kids,.int .i64 x.e.new.kind,sl .u64 x.e.new.words,sl .tree x.e.new.kids,sl .wedit x.e.words,sl .kid x.e.kids,.int .i64 x.e.list,sl .op x.e.ops,.bool x.alone]
def ZCo(x:APair):List (C U):=[.int .i64 x.of,.int .i64 x.p.step,.int .i64 x.p.kind,.int .i64 x.p.t.kind,sl .u64 x.p.t.words,sl .tree x.p.t.kids,.int .i64 x.p.e.kind,.int .i64 x.p.e.old.kind,sl .u64 x.p.e.old.words,sl .tree x.p.e.old.kids,.int .i64 x.p.e.new.kind,sl .u64 x.p.e.new.words,sl .tree x.p.e.new.kids,sl .wedit x.p.e.words,sl .kid x.p.e.kids,.int .i64 x.p.e.list,sl .op x.p.e.ops,.bool x.p.alone,.int .i64 x.q.step,.int .i64 x.q.kind,.int .i64 x.q.t.kind,sl .u64 x.q.t.words,sl .tree x.q.t.kids,.int .i64 x.q.e.kind,.int .i64 x.q.e.old.kind,sl .u64 x.q.e.old.words,sl .tree x.q.e.old.kids,.int .i64 x.q.e.new.kind,sl .u64 x.q.e.new.words,sl .tree x.q.e.new.kids,sl .wedit x.q.e.words,sl .kid x.q.e.kids,.int .i64 x.q.e.list,sl .op x.q.e.ops,.bool x.q.alone]
def ZCp(x:LeftE):List (C U):=[.int .i64 x.x.kind,.int .i64 x.x.old.kind,sl .u64 x.x.old.words,sl .tree x.x.old.kids,.int .i64 x.x.new.kind,sl .u64 x.x.new.words,sl .tree x.x.new.kids,sl .wedit x.x.words,sl .kid x.x.kids,.int .i64 x.x.list,sl .op x.x.ops,.int .i64 x.y.kind,.int .i64 x.y.old.kind,sl .u64 x.y.old.words,sl .tree x.y.old.kids,.int .i64 x.y.new.kind,sl .u64 x.y.new.words,sl .tree x.y.new.kids,sl .wedit x.y.words,sl .kid x.y.kids,.int .i64 x.y.list,sl .op x.y.ops,.bool x.clash,.bool x.apart]
def ZCr(x:Deed):List (C U):=[.int .i64 x.kind,.int .i64 x.i,.int .i64 x.e.kind,.int .i64 x.e.old.kind,sl .u64 x.e.old.words,sl .tree x.e.old.kids,.int .i64 x.e.new.kind,sl .u64 x.e.new.words,sl .tree x.e.new.kids,sl .wedit x.e.words,sl .kid x.e.kids,.int .i64 x.e.list,sl .op x.e.ops]
def Zxh(x:HDeed):List (C U):=[.int .i64 x.kind,.int .i64 x.who,.int .i64 x.version,.int .i64 x.e.kind,.int .i64 x.e.old.kind,sl .u64 x.e.old.words,sl .tree x.e.old.kids,.int .i64 x.e.new.kind,sl .u64 x.e.new.words,sl .tree x.e.new.kids,sl .wedit x.e.words,sl .kid x.e.kids,.int .i64 x.e.list,sl .op x.e.ops]
def enc:(T:Ty)->El T->List (C U)
 | .u64,n=> [.int .u64 n]
 | .u8,n=> [.int .u8 n]
 | .int,n=> [.int .i64 n]
 | .tree,x=> ZCn x
 | .wedit,x=> Zxf x
 | .edit,x=> ZCq x
 | .kid,x=> ZHQ x
 | .op,x=> eOp x
 | .piece,x=> Zxg x
 | .unit,x=> ZCm x
 | .pair,x=> ZCo x
 | .left,x=> ZCp x
 | .deed,x=> ZCr x
 | .hdeed,x=> Zxh x
abbrev Rd(α:Type):=List (C U)->Option (α × List (C U))
def Z2m(k:IntKind):Rd Int
 | .int k' n ::r=> if k=k' then some (n,r) else none
 | _=> none
def Zl0:Rd Bool
 | .bool b ::r=> some (b,r)
 | _=> none
def rSl(T:Ty):Rd (List (El T))
 | .nils ::r=> some ([],r)
 | .slice S l _ ::r=> match (inferInstance:DecidableEq Ty) S T with
  | isTrue h=> some (h▸l,r)
  | isFalse _=> none
 | _=> none
def Y5{α β:Type}(x:Rd α)(f:α->Rd β):Rd β:=fun cs=> match x cs with
 | some (a,r)=> f a r
 | none=> none
def Z5K{α:Type}(a:α):Rd α:=fun cs=> some (a,cs)
def WkL:List (C U)->List (C U)->Prop
 | [],[]=> True
 | c ::r,c' ::r'=> Wk c c'/\WkL r r'
 | _,_=> False
theorem WkL.append:∀ {a b c d:List (C U)},WkL a b->WkL c d->WkL (a++c) (b++d)
 | [],[],_,_,_,h=> h
 | _ ::_,_ ::_,_,_,h,k=> ⟨h.1,WkL.append h.2 k⟩
theorem WkL.get:∀ {a b:List (C U)},WkL a b->a.length=b.length/\∀ (j:Nat) c c',a[j]?=some c->b[j]?=some c'->Wk c c'
 | [],[],_=> ⟨rfl,fun j c c' h=> by simp at h⟩
 | x ::a,y ::b,h=> by
  obtain ⟨h1,h2⟩:=WkL.get h.2
  refine ⟨by simp [h1],fun j c c' hc hc'=> ?_⟩
  cases j with
  | zero=> simp at hc hc';subst hc hc';exact h.1
  | succ j=> exact h2 j c c' (by simpa using hc) (by simpa using hc')
def Z2e{α:Type}(r:Rd α)(e:α->List (C U)):Prop:=∀ cs x rest,r cs=some (x,rest)->∃ p,cs=p++rest/\WkL p (e x)
theorem ZJ(k:IntKind):Z2e (Z2m k) fun n=> [.int k n]:=by
 intro cs x rest h
 unfold Z2m at h
 split at h
 .split at h
  .rename_i hk
   subst hk
   cases h
   exact ⟨[_],rfl,.int _ _,trivial⟩
  .cases h
 .cases h
theorem Z8f:Z2e Zl0 fun b=> [.bool b]:=by
 intro cs x rest h
 unfold Zl0 at h
 split at h
 .cases h;exact ⟨[_],rfl,.bool _,trivial⟩
 .cases h
theorem Z32(T:Ty):Z2e (rSl T) fun l=> [sl T l]:=by
 intro cs x rest h
 unfold rSl at h
 split at h
 .cases h;exact ⟨[_],rfl,(Wk.snil (U:=U) T:Wk (U:=U) .nils (.slice T [] .unk)),trivial⟩
 .split at h
  .rename_i hST _
   subst hST
   cases h
   exact ⟨[_],rfl,.slice _ _ _,trivial⟩
  .cases h
 .cases h
theorem Yh{α β:Type}{x:Rd α}{f:α->Rd β}{ex:α->List (C U)}(hx:Z2e x ex){cs:List (C U)}{b:β}{rest:List (C U)}(h:Y5 x f cs=some (b,rest)):
  ∃ a p r,cs=p++r/\WkL p (ex a)/\f a r=some (b,rest):=by
 unfold Y5 at h
 split at h
 .rename_i a r ha
  obtain ⟨p,rfl,h1⟩:=hx _ _ _ ha
  exact ⟨a,p,r,rfl,h1,h⟩
 .cases h
def ZkZ:Rd Tree:=Y5 (Z2m .i64) fun x0=> Y5 (rSl .u64) fun x1=> Y5 (rSl .tree) fun x2=> Z5K (Tree.mk x0 x1 x2)
theorem Z4W:Z2e ZkZ ZCn:=by
 intro cs x rest h
 obtain ⟨x0,p0,r0,rfl,w0,h⟩:=Yh (ZJ _) h
 obtain ⟨x1,p1,r1,rfl,w1,h⟩:=Yh (Z32 _) h
 obtain ⟨x2,p2,r2,rfl,w2,h⟩:=Yh (Z32 _) h
 cases h
 exact ⟨p0++(p1++(p2)),by simp,w0.append (w1.append (w2))⟩
def Zvj:Rd WEdit:=Y5 (Z2m .i64) fun x0=> Y5 (Z2m .u8) fun x1=> Y5 (Z2m .u64) fun x2=> Y5 (Z2m .u64) fun x3=> Z5K (WEdit.mk x0 x1 x2 x3)
theorem ZkS:Z2e Zvj Zxf:=by
 intro cs x rest h
 obtain ⟨x0,p0,r0,rfl,w0,h⟩:=Yh (ZJ _) h
 obtain ⟨x1,p1,r1,rfl,w1,h⟩:=Yh (ZJ _) h
 obtain ⟨x2,p2,r2,rfl,w2,h⟩:=Yh (ZJ _) h
 obtain ⟨x3,p3,r3,rfl,w3,h⟩:=Yh (ZJ _) h
 cases h
 exact ⟨p0++(p1++(p2++(p3))),by simp,w0.append (w1.append (w2.append (w3)))⟩
def Z9p:Rd Edit:=Y5 (Z2m .i64) fun x0=> Y5 ZkZ fun x1=> Y5 ZkZ fun x2=> Y5 (rSl .wedit) fun x3=> Y5 (rSl .kid) fun x4=> Y5 (Z2m .i64) fun x5=> Y5 (rSl .op) fun x6=> Z5K (Edit.mk x0 x1 x2 x3 x4 x5 x6)
theorem JZ:Z2e Z9p ZCq:=by
 intro cs x rest h
 obtain ⟨x0,p0,r0,rfl,w0,h⟩:=Yh (ZJ _) h
 obtain ⟨x1,p1,r1,rfl,w1,h⟩:=Yh Z4W h
 obtain ⟨x2,p2,r2,rfl,w2,h⟩:=Yh Z4W h
 obtain ⟨x3,p3,r3,rfl,w3,h⟩:=Yh (Z32 _) h
 obtain ⟨x4,p4,r4,rfl,w4,h⟩:=Yh (Z32 _) h
 obtain ⟨x5,p5,r5,rfl,w5,h⟩:=Yh (ZJ _) h
 obtain ⟨x6,p6,r6,rfl,w6,h⟩:=Yh (Z32 _) h
 cases h
 exact ⟨p0++(p1++(p2++(p3++(p4++(p5++(p6)))))),by simp,w0.append (w1.append (w2.append (w3.append (w4.append (w5.append (w6))))))⟩
def ZHu:Rd Kid:=Y5 (Z2m .i64) fun x0=> Y5 Z9p fun x1=> Z5K (KidOf.mk x0 x1)
theorem Zsf:Z2e ZHu ZHQ:=by
 intro cs x rest h
 obtain ⟨x0,p0,r0,rfl,w0,h⟩:=Yh (ZJ _) h
 obtain ⟨x1,p1,r1,rfl,w1,h⟩:=Yh JZ h
 cases h
 exact ⟨p0++(p1),by simp,w0.append (w1)⟩
def rOp:Rd Op:=Y5 (Z2m .i64) fun x0=> Y5 (Z2m .i64) fun x1=> Y5 (rSl .tree) fun x2=> Y5 Z9p fun x3=> Z5K (OpOf.mk x0 x1 x2 x3)
theorem ZeV:Z2e rOp eOp:=by
 intro cs x rest h
 obtain ⟨x0,p0,r0,rfl,w0,h⟩:=Yh (ZJ _) h
 obtain ⟨x1,p1,r1,rfl,w1,h⟩:=Yh (ZJ _) h
 obtain ⟨x2,p2,r2,rfl,w2,h⟩:=Yh (Z32 _) h
 obtain ⟨x3,p3,r3,rfl,w3,h⟩:=Yh JZ h
 cases h
 exact ⟨p0++(p1++(p2++(p3))),by simp,w0.append (w1.append (w2.append (w3)))⟩
def Zvl:Rd Piece:=Y5 (Z2m .i64) fun x0=> Y5 rOp fun x1=> Y5 rOp fun x2=> Z5K (Piece.mk x0 x1 x2)
theorem ZkT:Z2e Zvl Zxg:=by
 intro cs x rest h
 obtain ⟨x0,p0,r0,rfl,w0,h⟩:=Yh (ZJ _) h
 obtain ⟨x1,p1,r1,rfl,w1,h⟩:=Yh ZeV h
 obtain ⟨x2,p2,r2,rfl,w2,h⟩:=Yh ZeV h
 cases h
 exact ⟨p0++(p1++(p2)),by simp,w0.append (w1.append (w2))⟩
def Zp3:Rd AUnit:=Y5 (Z2m .i64) fun x0=> Y5 (Z2m .i64) fun x1=> Y5 ZkZ fun x2=> Y5 Z9p fun x3=> Y5 Zl0 fun x4=> Z5K (AUnit.mk x0 x1 x2 x3 x4)
theorem Z8e:Z2e Zp3 ZCm:=by
 intro cs x rest h
 obtain ⟨x0,p0,r0,rfl,w0,h⟩:=Yh (ZJ _) h
 obtain ⟨x1,p1,r1,rfl,w1,h⟩:=Yh (ZJ _) h
 obtain ⟨x2,p2,r2,rfl,w2,h⟩:=Yh Z4W h
 obtain ⟨x3,p3,r3,rfl,w3,h⟩:=Yh JZ h
 obtain ⟨x4,p4,r4,rfl,w4,h⟩:=Yh Z8f h
 cases h
 exact ⟨p0++(p1++(p2++(p3++(p4)))),by simp,w0.append (w1.append (w2.append (w3.append (w4))))⟩
def ZCa:Rd APair:=Y5 (Z2m .i64) fun x0=> Y5 Zp3 fun x1=> Y5 Zp3 fun x2=> Z5K (APair.mk x0 x1 x2)
theorem ZmZ:Z2e ZCa ZCo:=by
 intro cs x rest h
 obtain ⟨x0,p0,r0,rfl,w0,h⟩:=Yh (ZJ _) h
 obtain ⟨x1,p1,r1,rfl,w1,h⟩:=Yh Z8e h
 obtain ⟨x2,p2,r2,rfl,w2,h⟩:=Yh Z8e h
 cases h
 exact ⟨p0++(p1++(p2)),by simp,w0.append (w1.append (w2))⟩
def ZCb:Rd LeftE:=Y5 Z9p fun x0=> Y5 Z9p fun x1=> Y5 Zl0 fun x2=> Y5 Zl0 fun x3=> Z5K (LeftE.mk x0 x1 x2 x3)
theorem Zn0:Z2e ZCb ZCp:=by
 intro cs x rest h
 obtain ⟨x0,p0,r0,rfl,w0,h⟩:=Yh JZ h
 obtain ⟨x1,p1,r1,rfl,w1,h⟩:=Yh JZ h
 obtain ⟨x2,p2,r2,rfl,w2,h⟩:=Yh Z8f h
 obtain ⟨x3,p3,r3,rfl,w3,h⟩:=Yh Z8f h
 cases h
 exact ⟨p0++(p1++(p2++(p3))),by simp,w0.append (w1.append (w2.append (w3)))⟩
def ZCc:Rd Deed:=Y5 (Z2m .i64) fun x0=> Y5 (Z2m .i64) fun x1=> Y5 Z9p fun x2=> Z5K (Deed.mk x0 x1 x2)
theorem Zn1:Z2e ZCc ZCr:=by
 intro cs x rest h
 obtain ⟨x0,p0,r0,rfl,w0,h⟩:=Yh (ZJ _) h
 obtain ⟨x1,p1,r1,rfl,w1,h⟩:=Yh (ZJ _) h
 obtain ⟨x2,p2,r2,rfl,w2,h⟩:=Yh JZ h
 cases h
 exact ⟨p0++(p1++(p2)),by simp,w0.append (w1.append (w2))⟩
def Zvm:Rd HDeed:=Y5 (Z2m .i64) fun x0=> Y5 (Z2m .i64) fun x1=> Y5 (Z2m .i64) fun x2=> Y5 Z9p fun x3=> Z5K (HDeed.mk x0 x1 x2 x3)
theorem ZkU:Z2e Zvm Zxh:=by
 intro cs x rest h
 obtain ⟨x0,p0,r0,rfl,w0,h⟩:=Yh (ZJ _) h
 obtain ⟨x1,p1,r1,rfl,w1,h⟩:=Yh (ZJ _) h
 obtain ⟨x2,p2,r2,rfl,w2,h⟩:=Yh (ZJ _) h
 obtain ⟨x3,p3,r3,rfl,w3,h⟩:=Yh JZ h
 cases h
 exact ⟨p0++(p1++(p2++(p3))),by simp,w0.append (w1.append (w2.append (w3)))⟩
def rEl:(T:Ty)->Rd (El T)
 | .u64=> Z2m .u64
 | .u8=> Z2m .u8
 | .int=> Z2m .i64
 | .tree=> ZkZ
 | .wedit=> Zvj
 | .edit=> Z9p
 | .kid=> ZHu
 | .op=> rOp
 | .piece=> Zvl
 | .unit=> Zp3
 | .pair=> ZCa
 | .left=> ZCb
 | .deed=> ZCc
 | .hdeed=> Zvm
theorem ZkV:∀ T:Ty,Z2e (rEl T) (enc T)
 | .u64=> ZJ _
 | .u8=> ZJ _
 | .int=> ZJ _
 | .tree=> Z4W
 | .wedit=> ZkS
 | .edit=> JZ
 | .kid=> Zsf
 | .op=> ZeV
 | .piece=> ZkT
 | .unit=> Z8e
 | .pair=> ZmZ
 | .left=> Zn0
 | .deed=> Zn1
 | .hdeed=> ZkU
def dec(T:Ty)(cs:List (C U)):Option (El T):=
 match rEl T cs with
 | some (x,[])=> some x
 | _=> none
def K:Codec U:=
 {tyEq:=inferInstanceAs (DecidableEq Ty)
  dflt:=fun T=> match T with
   | .u64=> (0:Int) | .u8=> (0:Int) | .int=> (0:Int) | .tree=> Tree.nil | .wedit=> WEdit.mk 0 0 0 0 | .edit=> Edit.nil | .kid=> KidOf.mk 0 Edit.nil | .op=> Op.nil | .piece=> Piece.mk 0 Op.nil Op.nil | .unit=> AUnit.nil | .pair=> APair.mk 0 AUnit.nil AUnit.nil | .left=> LeftE.mk Edit.nil Edit.nil false false | .deed=> Deed.mk 0 0 Edit.nil | .hdeed=> HDeed.mk 0 0 0 Edit.nil
  enc:=enc
  dec:=dec
  aggT:=fun T=> match T with | .u64 | .u8 | .int=> false | _=> true
  sz:=fun T=> match T with | .u64=> 1 | .u8=> 1 | .int=> 1 | .tree=> 3 | .wedit=> 4 | .edit=> 11 | .kid=> 12 | .op=> 14 | .piece=> 29 | .unit=> 17 | .pair=> 35 | .left=> 24 | .deed=> 13 | .hdeed=> 14
  bytes:=fun T=> match T with | .u64=> 8 | .u8=> 1 | .int=> 8 | .tree=> 56 | .wedit=> 32 | .edit=> 200 | .kid=> 208 | .op=> 240 | .piece=> 488 | .unit=> 280 | .pair=> 568 | .left=> 408 | .deed=> 216 | .hdeed=> 224 }
theorem ZJ6:CodecOk K:=by
 refine ⟨?_,?_,?_,?_,?_⟩
 .intro T x
  cases T <;> rfl
 .intro T x c hc
  have h:(enc T x).all C.plain=true:=by cases T <;> rfl
  exact QE.1 h c hc
 .intro T cs x h
  have h':dec T cs=some x:=h
  unfold dec at h'
  split at h'
  .rename_i y he
   cases h'
   obtain ⟨p,hp,hw⟩:=ZkV T _ _ _ he
   rw [Qo] at hp
   subst hp
   exact hw.get
  .cases h'
 .intro T;cases T <;> decide
 .intro T;cases T <;> decide
theorem ZAp(T:Ty)(x:El T):dec T (enc T x)=some x:=by
 cases T with
 | u64=> rfl
 | u8=> rfl
 | int=> rfl
 | tree=> cases x;rfl
 | wedit=> rfl
 | edit=> obtain ⟨k,⟨_,_,_⟩,⟨_,_,_⟩,w,ks,l,os⟩:=x;rfl
 | kid=> obtain ⟨a,⟨k,⟨_,_,_⟩,⟨_,_,_⟩,w,ks,l,os⟩⟩:=x;rfl
 | op=> obtain ⟨a,b,c,⟨k,⟨_,_,_⟩,⟨_,_,_⟩,w,ks,l,os⟩⟩:=x;rfl
 | piece=> obtain ⟨_,⟨_,_,_,⟨_,⟨_,_,_⟩,⟨_,_,_⟩,_,_,_,_⟩⟩,⟨_,_,_,⟨_,⟨_,_,_⟩,⟨_,_,_⟩,_,_,_,_⟩⟩⟩:=x;rfl
 | unit=> obtain ⟨_,_,⟨_,_,_⟩,⟨_,⟨_,_,_⟩,⟨_,_,_⟩,_,_,_,_⟩,_⟩:=x;rfl
 | pair=> obtain ⟨_,⟨_,_,⟨_,_,_⟩,⟨_,⟨_,_,_⟩,⟨_,_,_⟩,_,_,_,_⟩,_⟩,⟨_,_,⟨_,_,_⟩,⟨_,⟨_,_,_⟩,⟨_,_,_⟩,_,_,_,_⟩,_⟩⟩:=x;rfl
 | left=> obtain ⟨⟨_,⟨_,_,_⟩,⟨_,_,_⟩,_,_,_,_⟩,⟨_,⟨_,_,_⟩,⟨_,_,_⟩,_,_,_,_⟩,_,_⟩:=x;rfl
 | deed=> obtain ⟨_,_,⟨_,⟨_,_,_⟩,⟨_,_,_⟩,_,_,_,_⟩⟩:=x;rfl
 | hdeed=> obtain ⟨_,_,_,⟨_,⟨_,_,_⟩,⟨_,_,_⟩,_,_,_,_⟩⟩:=x;rfl
def Ziu(x:Tree):Tree:=Tree.mk (Tree.kind x) (Tree.words x) (Tree.kids x)
@[simp] theorem Za (x:Tree):Ziu x=x:=Tree.eta x
def ZyA(x:WEdit):WEdit:=WEdit.mk (WEdit.at_ x) (WEdit.mask x) (WEdit.old x) (WEdit.new x)
@[simp] theorem Z0F (x:WEdit):ZyA x=x:=rfl
def JF(x:Edit):Edit:=Edit.mk (Edit.kind x) (Ziu (Edit.old x)) (Ziu (Edit.new x)) (Edit.words x) (Edit.kids x) (Edit.list x) (Edit.ops x)
@[simp] theorem Z7 (x:Edit):JF x=x:=by unfold JF;rw [Za,Za];exact Edit.eta x
def ZC9(x:Kid):Kid:=KidOf.mk (KidOf.at_ x) (JF (KidOf.e x))
@[simp] theorem ZkW (x:Kid):ZC9 x=x:=by unfold ZC9;rw [Z7]
def ZyB(x:Op):Op:=OpOf.mk (OpOf.kind x) (OpOf.n x) (OpOf.l x) (JF (OpOf.e x))
@[simp] theorem Yw (x:Op):ZyB x=x:=by unfold ZyB;rw [Z7]
def ZoY(x:Piece):Piece:=Piece.mk (Piece.of x) (ZyB (Piece.p x)) (ZyB (Piece.q x))
@[simp] theorem ZDb (x:Piece):ZoY x=x:=by unfold ZoY;rw [Yw,Yw]
def Zit(x:AUnit):AUnit:=AUnit.mk (AUnit.step x) (AUnit.kind x) (Ziu (AUnit.t x)) (JF (AUnit.e x)) (AUnit.alone x)
@[simp] theorem Z0N (x:AUnit):Zit x=x:=by unfold Zit;rw [Z7,Za]
def Zvb(x:APair):APair:=APair.mk (APair.of x) (Zit (APair.p x)) (Zit (APair.q x))
@[simp] theorem ZG0 (x:APair):Zvb x=x:=by unfold Zvb;rw [Z0N,Z0N]
def Zvc(x:LeftE):LeftE:=LeftE.mk (JF (LeftE.x x)) (JF (LeftE.y x)) (LeftE.clash x) (LeftE.apart x)
@[simp] theorem ZG1 (x:LeftE):Zvc x=x:=by unfold Zvc;rw [Z7,Z7]
def Zvd(x:Deed):Deed:=Deed.mk (Deed.kind x) (Deed.i x) (JF (Deed.e x))
@[simp] theorem ZG2 (x:Deed):Zvd x=x:=by unfold Zvd;rw [Z7]
def Zp0(x:HDeed):HDeed:=HDeed.mk (HDeed.kind x) (HDeed.who x) (HDeed.version x) (JF (HDeed.e x))
@[simp] theorem ZDc (x:HDeed):Zp0 x=x:=by unfold Zp0;rw [Z7]
end Go.AM
