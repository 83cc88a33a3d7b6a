import Derived.Test.YtpjenobkibfpcaaGreatZmP
set_option linter.unusedSimpArgs false
set_option linter.unusedVariables false
namespace Go.AM
structure WEdit where
 at_:Int
 mask:Int
 old:Int
 new:Int
inductive Tree where
 | mk (kind:Int) (words:List Int) (kids:List Tree)
def Tree.kind:Tree→Int | .mk k _ _=> k
def Tree.words:Tree→List Int | .mk _ w _=> w
def Tree.kids:Tree→List Tree | .mk _ _ k=> k
@[simp] theorem Tree.eta (t:Tree):Tree.mk t.kind t.words t.kids=t:=by cases t;rfl
@[simp] theorem Tree.kind_mk (k:Int) (w:List Int) (ks:List Tree):(Tree.mk k w ks).kind=k:=rfl
@[simp] theorem Tree.words_mk (k:Int) (w:List Int) (ks:List Tree):(Tree.mk k w ks).words=w:=rfl
@[simp] theorem Tree.kids_mk (k:Int) (w:List Int) (ks:List Tree):(Tree.mk k w ks).kids=ks:=rfl
structure KidOf (E:Type) where
 at_:Int
 e:E
structure OpOf (E:Type) where
 kind:Int
 n:Int
 l:List Tree
 e:E
inductive Edit where
 | mk (kind:Int) (old new:Tree) (words:List WEdit) (kids:List (KidOf Edit)) (list:Int) (ops:List (OpOf Edit))
abbrev Kid:=KidOf Edit
abbrev Op:=OpOf Edit
def Edit.kind:Edit→Int | .mk k _ _ _ _ _ _=> k
def Edit.old:Edit→Tree | .mk _ o _ _ _ _ _=> o
def Edit.new:Edit→Tree | .mk _ _ n _ _ _ _=> n
def Edit.words:Edit→List WEdit | .mk _ _ _ w _ _ _=> w
def Edit.kids:Edit→List Kid | .mk _ _ _ _ k _ _=> k
def Edit.list:Edit→Int | .mk _ _ _ _ _ l _=> l
def Edit.ops:Edit→List Op | .mk _ _ _ _ _ _ o=> o
@[simp] theorem Edit.eta (e:Edit):Edit.mk e.kind e.old e.new e.words e.kids e.list e.ops=e:=by cases e;rfl
section
variable (k:Int) (o n:Tree) (w:List WEdit) (ks:List Kid) (l:Int) (os:List Op)
@[simp] theorem Edit.kind_mk:(Edit.mk k o n w ks l os).kind=k:=rfl
@[simp] theorem Edit.old_mk:(Edit.mk k o n w ks l os).old=o:=rfl
@[simp] theorem Edit.new_mk:(Edit.mk k o n w ks l os).new=n:=rfl
@[simp] theorem Edit.words_mk:(Edit.mk k o n w ks l os).words=w:=rfl
@[simp] theorem Edit.kids_mk:(Edit.mk k o n w ks l os).kids=ks:=rfl
@[simp] theorem Edit.list_mk:(Edit.mk k o n w ks l os).list=l:=rfl
@[simp] theorem Edit.ops_mk:(Edit.mk k o n w ks l os).ops=os:=rfl
end
def Tree.nil:Tree:= .mk 0 [] []
def Edit.nil:Edit:= .mk 0 Tree.nil Tree.nil [] [] 0 []
def Op.nil:Op:=⟨0,0,[],Edit.nil⟩
structure AUnit where
 step:Int
 kind:Int
 t:Tree
 e:Edit
 alone:Bool
def AUnit.nil:AUnit:=⟨0,0,Tree.nil,Edit.nil,false⟩
structure PStep where
 kind:Int
 at_:Int
structure Piece where
 of:Int
 p:Op
 q:Op
structure APair where
 of:Int
 p:AUnit
 q:AUnit
structure LeftE where
 x:Edit
 y:Edit
 clash:Bool
 apart:Bool
structure Deed where
 kind:Int
 i:Int
 e:Edit
structure HDeed where
 kind:Int
 who:Int
 version:Int
 e:Edit
inductive Ty where
 | u64 | u8 | int | tree | wedit | edit | kid | op | piece | unit | pair | left | deed | hdeed
 deriving DecidableEq
@[reducible] def El:Ty→Type
 | .u64=> Int
 | .u8=> Int
 | .int=> Int
 | .tree=> Tree
 | .wedit=> WEdit
 | .edit=> Edit
 | .kid=> Kid
 | .op=> Op
 | .piece=> Piece
 | .unit=> AUnit
 | .pair=> APair
 | .left=> LeftE
 | .deed=> Deed
 | .hdeed=> HDeed
@[reducible] def U:Uni:={ Ty:=Ty,El:=El }
abbrev sl(T:Ty)(l:List (El T)):C U:= .slice (U:=U) T l .unk
def ZzD(x:Tree):List (C U):=[.int .i64 x.kind,sl .u64 x.words,sl .tree x.kids]
def ZuF(x:WEdit):List (C U):=[.int .i64 x.at_,.int .u8 x.mask,.int .u64 x.old,.int .u64 x.new]
def ZzG(x:Edit):List (C U):=[.int .i64 x.kind,.int .i64 x.old.kind,sl .u64 x.old.words,sl .tree x.old.kids,.int .i64 x.new.kind,sl .u64 x.new.words,sl .tree x.new.kids,sl .wedit x.words,sl .kid x.kids,.int .i64 x.list,sl .op x.ops]
def ZEI(x:Kid):List (C U):=[.int .i64 x.at_,.int .i64 x.e.kind,.int .i64 x.e.old.kind,sl .u64 x.e.old.words,sl .tree x.e.old.kids,.int .i64 x.e.new.kind,sl .u64 x.e.new.words,sl .tree x.e.new.kids,sl .wedit x.e.words,sl .kid x.e.kids,.int .i64 x.e.list,sl .op x.e.ops]
def eOp(x:Op):List (C U):=[.int .i64 x.kind,.int .i64 x.n,sl .tree x.l,.int .i64 x.e.kind,.int .i64 x.e.old.kind,sl .u64 x.e.old.words,sl .tree x.e.old.kids,.int .i64 x.e.new.kind,sl .u64 x.e.new.words,sl .tree x.e.new.kids,sl .wedit x.e.words,sl .kid x.e.kids,.int .i64 x.e.list,sl .op x.e.ops]
def ZuG(x:Piece):List (C U):=[.int .i64 x.of,.int .i64 x.p.kind,.int .i64 x.p.n,sl .tree x.p.l,.int .i64 x.p.e.kind,.int .i64 x.p.e.old.kind,sl .u64 x.p.e.old.words,sl .tree x.p.e.old.kids,.int .i64 x.p.e.new.kind,sl .u64 x.p.e.new.words,sl .tree x.p.e.new.kids,sl .wedit x.p.e.words,sl .kid x.p.e.kids,.int .i64 x.p.e.list,sl .op x.p.e.ops,.int .i64 x.q.kind,.int .i64 x.q.n,sl .tree x.q.l,.int .i64 x.q.e.kind,.int .i64 x.q.e.old.kind,sl .u64 x.q.e.old.words,sl .tree x.q.e.old.kids,.int .i64 x.q.e.new.kind,sl .u64 x.q.e.new.words,sl .tree x.q.e.new.kids,sl .wedit x.q.e.words,sl .kid x.q.e.kids,.int .i64 x.q.e.list,sl .op x.q.e.ops]
def ZzC(x:AUnit):List (C U):=[.int .i64 x.step,.int .i64 x.kind,.int .i64 x.t.kind,sl .u64 x.t.words,sl .tree x.t.kids,.int .i64 x.e.kind,.int .i64 x.e.old.kind,sl .u64 x.e.old.words,sl .tree x.e.old.kids,.int .i64 x.e.new.kind,sl .u64 x.e.new.words,sl .tree x.e.new.kids,sl .wedit x.e.words,sl .kid x.e.kids,.int .i64 x.e.list,sl .op x.e.ops,.bool x.alone]
def ZzE(x:APair):List (C U):=[.int .i64 x.of,.int .i64 x.p.step,.int .i64 x.p.kind,.int .i64 x.p.t.kind,sl .u64 x.p.t.words,sl .tree x.p.t.kids,.int .i64 x.p.e.kind,.int .i64 x.p.e.old.kind,sl .u64 x.p.e.old.words,sl .tree x.p.e.old.kids,.int .i64 x.p.e.new.kind,sl .u64 x.p.e.new.words,sl .tree x.p.e.new.kids,sl .wedit x.p.e.words,sl .kid x.p.e.kids,.int .i64 x.p.e.list,sl .op x.p.e.ops,.bool x.p.alone,.int .i64 x.q.step,.int .i64 x.q.kind,.int .i64 x.q.t.kind,sl .u64 x.q.t.words,sl .tree x.q.t.kids,.int .i64 x.q.e.kind,.int .i64 x.q.e.old.kind,sl .u64 x.q.e.old.words,sl .tree x.q.e.old.kids,.int .i64 x.q.e.new.kind,sl .u64 x.q.e.new.words,sl .tree x.q.e.new.kids,sl .wedit x.q.e.words,sl .kid x.q.e.kids,.int .i64 x.q.e.list,sl .op x.q.e.ops,.bool x.q.alone]
def ZzF(x:LeftE):List (C U):=[.int .i64 x.x.kind,.int .i64 x.x.old.kind,sl .u64 x.x.old.words,sl .tree x.x.old.kids,.int .i64 x.x.new.kind,sl .u64 x.x.new.words,sl .tree x.x.new.kids,sl .wedit x.x.words,sl .kid x.x.kids,.int .i64 x.x.list,sl .op x.x.ops,.int .i64 x.y.kind,.int .i64 x.y.old.kind,sl .u64 x.y.old.words,sl .tree x.y.old.kids,.int .i64 x.y.new.kind,sl .u64 x.y.new.words,sl .tree x.y.new.kids,sl .wedit x.y.words,sl .kid x.y.kids,.int .i64 x.y.list,sl .op x.y.ops,.bool x.clash,.bool x.apart]
def ZzH(x:Deed):List (C U):=[.int .i64 x.kind,.int .i64 x.i,.int .i64 x.e.kind,.int .i64 x.e.old.kind,sl .u64 x.e.old.words,sl .tree x.e.old.kids,.int .i64 x.e.new.kind,sl .u64 x.e.new.words,sl .tree x.e.new.kids,sl .wedit x.e.words,sl .kid x.e.kids,.int .i64 x.e.list,sl .op x.e.ops]
def ZuH(x:HDeed):List (C U):=[.int .i64 x.kind,.int .i64 x.who,.int .i64 x.version,.int .i64 x.e.kind,.int .i64 x.e.old.kind,sl .u64 x.e.old.words,sl .tree x.e.old.kids,.int .i64 x.e.new.kind,sl .u64 x.e.new.words,sl .tree x.e.new.kids,sl .wedit x.e.words,sl .kid x.e.kids,.int .i64 x.e.list,sl .op x.e.ops]
def enc:(T:Ty)→El T→List (C U)
 | .u64,n=> [.int .u64 n]
 | .u8,n=> [.int .u8 n]
 | .int,n=> [.int .i64 n]
 | .tree,x=> ZzD x
 | .wedit,x=> ZuF x
 | .edit,x=> ZzG x
 | .kid,x=> ZEI x
 | .op,x=> eOp x
 | .piece,x=> ZuG x
 | .unit,x=> ZzC x
 | .pair,x=> ZzE x
 | .left,x=> ZzF x
 | .deed,x=> ZzH x
 | .hdeed,x=> ZuH x
abbrev Rd(α:Type):=List (C U)→Option (α × List (C U))
def Z2q(k:IntKind):Rd Int
 | .int k' n ::r=> if k=k' then some (n,r) else none
 | _=> none
def ZjF:Rd Bool
 | .bool b ::r=> some (b,r)
 | _=> none
def rSl(T:Ty):Rd (List (El T))
 | .nils ::r=> some ([],r)
 | .slice S l _ ::r=> match (inferInstance:DecidableEq Ty) S T with
  | isTrue h=> some (h▸l,r)
  | isFalse _=> none
 | _=> none
def Yc{α β:Type}(x:Rd α)(f:α→Rd β):Rd β:=fun cs=> match x cs with
 | some (a,r)=> f a r
 | none=> none
def Z63{α:Type}(a:α):Rd α:=fun cs=> some (a,cs)
def WkL:List (C U)→List (C U)→Prop
 | [],[]=> True
 | c ::r,c' ::r'=> Wk c c'∧WkL r r'
 | _,_=> False
theorem WkL.append:∀ {a b c d:List (C U)},WkL a b→WkL c d→WkL (a++c) (b++d)
 | [],[],_,_,_,h=> h
 | _ ::_,_ ::_,_,_,h,k=> ⟨h.1,WkL.append h.2 k⟩
theorem WkL.get:∀ {a b:List (C U)},WkL a b→a.length=b.length∧∀ (j:Nat) c c',a[j]?=some c→b[j]?=some c'→Wk c c'
 | [],[],_=> ⟨rfl,fun j c c' h=> by simp at h⟩
 | x ::a,y ::b,h=> by
  obtain ⟨h1,h2⟩:=WkL.get h.2
  refine ⟨by simp [h1],fun j c c' hc hc'=> ?_⟩
  cases j with
  | zero=> simp at hc hc';subst hc hc';exact h.1
  | succ j=> exact h2 j c c' (by simpa using hc) (by simpa using hc')
def Z2i{α:Type}(r:Rd α)(e:α→List (C U)):Prop:=∀ cs x rest,r cs=some (x,rest)→∃ p,cs=p++rest∧WkL p (e x)
theorem ZU(k:IntKind):Z2i (Z2q k) fun n=> [.int k n]:=by
 intro cs x rest h
 unfold Z2q at h
 split at h
 ·split at h
  ·rename_i hk
   subst hk
   cases h
   exact ⟨[_],rfl,.int _ _,trivial⟩
  ·cases h
 ·cases h
theorem Z8a:Z2i ZjF fun b=> [.bool b]:=by
 intro cs x rest h
 unfold ZjF at h
 split at h
 ·cases h;exact ⟨[_],rfl,.bool _,trivial⟩
 ·cases h
theorem Z3e(T:Ty):Z2i (rSl T) fun l=> [sl T l]:=by
 intro cs x rest h
 unfold rSl at h
 split at h
 ·cases h;exact ⟨[_],rfl,(Wk.snil (U:=U) T:Wk (U:=U) .nils (.slice T [] .unk)),trivial⟩
 ·split at h
  ·rename_i hST _
   subst hST
   cases h
   exact ⟨[_],rfl,.slice _ _ _,trivial⟩
  ·cases h
 ·cases h
theorem Yp{α β:Type}{x:Rd α}{f:α→Rd β}{ex:α→List (C U)}(hx:Z2i x ex){cs:List (C U)}{b:β}{rest:List (C U)}(h:Yc x f cs=some (b,rest)):
  ∃ a p r,cs=p++r∧WkL p (ex a)∧f a r=some (b,rest):=by
 unfold Yc at h
 split at h
 ·rename_i a r ha
  obtain ⟨p,rfl,h1⟩:=hx _ _ _ ha
  exact ⟨a,p,r,rfl,h1,h⟩
 ·cases h
def ZjE:Rd Tree:=Yc (Z2q .i64) fun x0=> Yc (rSl .u64) fun x1=> Yc (rSl .tree) fun x2=> Z63 (Tree.mk x0 x1 x2)
theorem Z5g:Z2i ZjE ZzD:=by
 intro cs x rest h
 obtain ⟨x0,p0,r0,rfl,w0,h⟩:=Yp (ZU _) h
 obtain ⟨x1,p1,r1,rfl,w1,h⟩:=Yp (Z3e _) h
 obtain ⟨x2,p2,r2,rfl,w2,h⟩:=Yp (Z3e _) h
 cases h
 exact ⟨p0++(p1++(p2)),by simp,w0.append (w1.append (w2))⟩
def Zt3:Rd WEdit:=Yc (Z2q .i64) fun x0=> Yc (Z2q .u8) fun x1=> Yc (Z2q .u64) fun x2=> Yc (Z2q .u64) fun x3=> Z63 (WEdit.mk x0 x1 x2 x3)
theorem ZjA:Z2i Zt3 ZuF:=by
 intro cs x rest h
 obtain ⟨x0,p0,r0,rfl,w0,h⟩:=Yp (ZU _) h
 obtain ⟨x1,p1,r1,rfl,w1,h⟩:=Yp (ZU _) h
 obtain ⟨x2,p2,r2,rfl,w2,h⟩:=Yp (ZU _) h
 obtain ⟨x3,p3,r3,rfl,w3,h⟩:=Yp (ZU _) h
 cases h
 exact ⟨p0++(p1++(p2++(p3))),by simp,w0.append (w1.append (w2.append (w3)))⟩
def Z9n:Rd Edit:=Yc (Z2q .i64) fun x0=> Yc ZjE fun x1=> Yc ZjE fun x2=> Yc (rSl .wedit) fun x3=> Yc (rSl .kid) fun x4=> Yc (Z2q .i64) fun x5=> Yc (rSl .op) fun x6=> Z63 (Edit.mk x0 x1 x2 x3 x4 x5 x6)
theorem Z06:Z2i Z9n ZzG:=by
 intro cs x rest h
 obtain ⟨x0,p0,r0,rfl,w0,h⟩:=Yp (ZU _) h
 obtain ⟨x1,p1,r1,rfl,w1,h⟩:=Yp Z5g h
 obtain ⟨x2,p2,r2,rfl,w2,h⟩:=Yp Z5g h
 obtain ⟨x3,p3,r3,rfl,w3,h⟩:=Yp (Z3e _) h
 obtain ⟨x4,p4,r4,rfl,w4,h⟩:=Yp (Z3e _) h
 obtain ⟨x5,p5,r5,rfl,w5,h⟩:=Yp (ZU _) h
 obtain ⟨x6,p6,r6,rfl,w6,h⟩:=Yp (Z3e _) h
 cases h
 exact ⟨p0++(p1++(p2++(p3++(p4++(p5++(p6)))))),by simp,w0.append (w1.append (w2.append (w3.append (w4.append (w5.append (w6))))))⟩
def ZEu:Rd Kid:=Yc (Z2q .i64) fun x0=> Yc Z9n fun x1=> Z63 (KidOf.mk x0 x1)
theorem Zqc:Z2i ZEu ZEI:=by
 intro cs x rest h
 obtain ⟨x0,p0,r0,rfl,w0,h⟩:=Yp (ZU _) h
 obtain ⟨x1,p1,r1,rfl,w1,h⟩:=Yp Z06 h
 cases h
 exact ⟨p0++(p1),by simp,w0.append (w1)⟩
def rOp:Rd Op:=Yc (Z2q .i64) fun x0=> Yc (Z2q .i64) fun x1=> Yc (rSl .tree) fun x2=> Yc Z9n fun x3=> Z63 (OpOf.mk x0 x1 x2 x3)
theorem Ze0:Z2i rOp eOp:=by
 intro cs x rest h
 obtain ⟨x0,p0,r0,rfl,w0,h⟩:=Yp (ZU _) h
 obtain ⟨x1,p1,r1,rfl,w1,h⟩:=Yp (ZU _) h
 obtain ⟨x2,p2,r2,rfl,w2,h⟩:=Yp (Z3e _) h
 obtain ⟨x3,p3,r3,rfl,w3,h⟩:=Yp Z06 h
 cases h
 exact ⟨p0++(p1++(p2++(p3))),by simp,w0.append (w1.append (w2.append (w3)))⟩
def Zt5:Rd Piece:=Yc (Z2q .i64) fun x0=> Yc rOp fun x1=> Yc rOp fun x2=> Z63 (Piece.mk x0 x1 x2)
theorem ZjB:Z2i Zt5 ZuG:=by
 intro cs x rest h
 obtain ⟨x0,p0,r0,rfl,w0,h⟩:=Yp (ZU _) h
 obtain ⟨x1,p1,r1,rfl,w1,h⟩:=Yp Ze0 h
 obtain ⟨x2,p2,r2,rfl,w2,h⟩:=Yp Ze0 h
 cases h
 exact ⟨p0++(p1++(p2)),by simp,w0.append (w1.append (w2))⟩
def Znq:Rd AUnit:=Yc (Z2q .i64) fun x0=> Yc (Z2q .i64) fun x1=> Yc ZjE fun x2=> Yc Z9n fun x3=> Yc ZjF fun x4=> Z63 (AUnit.mk x0 x1 x2 x3 x4)
theorem Z89:Z2i Znq ZzC:=by
 intro cs x rest h
 obtain ⟨x0,p0,r0,rfl,w0,h⟩:=Yp (ZU _) h
 obtain ⟨x1,p1,r1,rfl,w1,h⟩:=Yp (ZU _) h
 obtain ⟨x2,p2,r2,rfl,w2,h⟩:=Yp Z5g h
 obtain ⟨x3,p3,r3,rfl,w3,h⟩:=Yp Z06 h
 obtain ⟨x4,p4,r4,rfl,w4,h⟩:=Yp Z8a h
 cases h
 exact ⟨p0++(p1++(p2++(p3++(p4)))),by simp,w0.append (w1.append (w2.append (w3.append (w4))))⟩
def Zzv:Rd APair:=Yc (Z2q .i64) fun x0=> Yc Znq fun x1=> Yc Znq fun x2=> Z63 (APair.mk x0 x1 x2)
theorem Zlu:Z2i Zzv ZzE:=by
 intro cs x rest h
 obtain ⟨x0,p0,r0,rfl,w0,h⟩:=Yp (ZU _) h
 obtain ⟨x1,p1,r1,rfl,w1,h⟩:=Yp Z89 h
 obtain ⟨x2,p2,r2,rfl,w2,h⟩:=Yp Z89 h
 cases h
 exact ⟨p0++(p1++(p2)),by simp,w0.append (w1.append (w2))⟩
def Zzw:Rd LeftE:=Yc Z9n fun x0=> Yc Z9n fun x1=> Yc ZjF fun x2=> Yc ZjF fun x3=> Z63 (LeftE.mk x0 x1 x2 x3)
theorem Zlv:Z2i Zzw ZzF:=by
 intro cs x rest h
 obtain ⟨x0,p0,r0,rfl,w0,h⟩:=Yp Z06 h
 obtain ⟨x1,p1,r1,rfl,w1,h⟩:=Yp Z06 h
 obtain ⟨x2,p2,r2,rfl,w2,h⟩:=Yp Z8a h
 obtain ⟨x3,p3,r3,rfl,w3,h⟩:=Yp Z8a h
 cases h
 exact ⟨p0++(p1++(p2++(p3))),by simp,w0.append (w1.append (w2.append (w3)))⟩
def Zzx:Rd Deed:=Yc (Z2q .i64) fun x0=> Yc (Z2q .i64) fun x1=> Yc Z9n fun x2=> Z63 (Deed.mk x0 x1 x2)
theorem Zlw:Z2i Zzx ZzH:=by
 intro cs x rest h
 obtain ⟨x0,p0,r0,rfl,w0,h⟩:=Yp (ZU _) h
 obtain ⟨x1,p1,r1,rfl,w1,h⟩:=Yp (ZU _) h
 obtain ⟨x2,p2,r2,rfl,w2,h⟩:=Yp Z06 h
 cases h
 exact ⟨p0++(p1++(p2)),by simp,w0.append (w1.append (w2))⟩
def Zt6:Rd HDeed:=Yc (Z2q .i64) fun x0=> Yc (Z2q .i64) fun x1=> Yc (Z2q .i64) fun x2=> Yc Z9n fun x3=> Z63 (HDeed.mk x0 x1 x2 x3)
theorem ZjC:Z2i Zt6 ZuH:=by
 intro cs x rest h
 obtain ⟨x0,p0,r0,rfl,w0,h⟩:=Yp (ZU _) h
 obtain ⟨x1,p1,r1,rfl,w1,h⟩:=Yp (ZU _) h
 obtain ⟨x2,p2,r2,rfl,w2,h⟩:=Yp (ZU _) h
 obtain ⟨x3,p3,r3,rfl,w3,h⟩:=Yp Z06 h
 cases h
 exact ⟨p0++(p1++(p2++(p3))),by simp,w0.append (w1.append (w2.append (w3)))⟩
def rEl:(T:Ty)→Rd (El T)
 | .u64=> Z2q .u64
 | .u8=> Z2q .u8
 | .int=> Z2q .i64
 | .tree=> ZjE
 | .wedit=> Zt3
 | .edit=> Z9n
 | .kid=> ZEu
 | .op=> rOp
 | .piece=> Zt5
 | .unit=> Znq
 | .pair=> Zzv
 | .left=> Zzw
 | .deed=> Zzx
 | .hdeed=> Zt6
theorem ZjD:∀ T:Ty,Z2i (rEl T) (enc T)
 | .u64=> ZU _
 | .u8=> ZU _
 | .int=> ZU _
 | .tree=> Z5g
 | .wedit=> ZjA
 | .edit=> Z06
 | .kid=> Zqc
 | .op=> Ze0
 | .piece=> ZjB
 | .unit=> Z89
 | .pair=> Zlu
 | .left=> Zlv
 | .deed=> Zlw
 | .hdeed=> ZjC
def dec(T:Ty)(cs:List (C U)):Option (El T):=
 match rEl T cs with
 | some (x,[])=> some x
 | _=> none
def K:Codec U:=
 {tyEq:=inferInstanceAs (DecidableEq Ty)
  dflt:=fun T=> match T with
   | .u64=> (0:Int) | .u8=> (0:Int) | .int=> (0:Int) | .tree=> Tree.nil | .wedit=> WEdit.mk 0 0 0 0 | .edit=> Edit.nil | .kid=> KidOf.mk 0 Edit.nil | .op=> Op.nil | .piece=> Piece.mk 0 Op.nil Op.nil | .unit=> AUnit.nil | .pair=> APair.mk 0 AUnit.nil AUnit.nil | .left=> LeftE.mk Edit.nil Edit.nil false false | .deed=> Deed.mk 0 0 Edit.nil | .hdeed=> HDeed.mk 0 0 0 Edit.nil
  enc:=enc
  dec:=dec
  aggT:=fun T=> match T with | .u64 | .u8 | .int=> false | _=> true
  sz:=fun T=> match T with | .u64=> 1 | .u8=> 1 | .int=> 1 | .tree=> 3 | .wedit=> 4 | .edit=> 11 | .kid=> 12 | .op=> 14 | .piece=> 29 | .unit=> 17 | .pair=> 35 | .left=> 24 | .deed=> 13 | .hdeed=> 14
  bytes:=fun T=> match T with | .u64=> 8 | .u8=> 1 | .int=> 8 | .tree=> 56 | .wedit=> 32 | .edit=> 200 | .kid=> 208 | .op=> 240 | .piece=> 488 | .unit=> 280 | .pair=> 568 | .left=> 408 | .deed=> 216 | .hdeed=> 224 }
theorem ZGd:CodecOk K:=by
 refine ⟨?_,?_,?_,?_,?_⟩
 ·intro T x
  cases T <;> rfl
 ·intro T x c hc
  have h:(enc T x).all C.plain=true:=by cases T <;> rfl
  exact List.all_eq_true.1 h c hc
 ·intro T cs x h
  have h':dec T cs=some x:=h
  unfold dec at h'
  split at h'
  ·rename_i y he
   cases h'
   obtain ⟨p,hp,hw⟩:=ZjD T _ _ _ he
   rw [List.append_nil] at hp
   subst hp
   exact hw.get
  ·cases h'
 ·intro T;cases T <;> decide
 ·intro T;cases T <;> decide
theorem ZxO(T:Ty)(x:El T):dec T (enc T x)=some x:=by
 cases T with
 | u64=> rfl
 | u8=> rfl
 | int=> rfl
 | tree=> cases x;rfl
 | wedit=> rfl
 | edit=> obtain ⟨k,⟨_,_,_⟩,⟨_,_,_⟩,w,ks,l,os⟩:=x;rfl
 | kid=> obtain ⟨a,⟨k,⟨_,_,_⟩,⟨_,_,_⟩,w,ks,l,os⟩⟩:=x;rfl
 | op=> obtain ⟨a,b,c,⟨k,⟨_,_,_⟩,⟨_,_,_⟩,w,ks,l,os⟩⟩:=x;rfl
 | piece=> obtain ⟨_,⟨_,_,_,⟨_,⟨_,_,_⟩,⟨_,_,_⟩,_,_,_,_⟩⟩,⟨_,_,_,⟨_,⟨_,_,_⟩,⟨_,_,_⟩,_,_,_,_⟩⟩⟩:=x;rfl
 | unit=> obtain ⟨_,_,⟨_,_,_⟩,⟨_,⟨_,_,_⟩,⟨_,_,_⟩,_,_,_,_⟩,_⟩:=x;rfl
 | pair=> obtain ⟨_,⟨_,_,⟨_,_,_⟩,⟨_,⟨_,_,_⟩,⟨_,_,_⟩,_,_,_,_⟩,_⟩,⟨_,_,⟨_,_,_⟩,⟨_,⟨_,_,_⟩,⟨_,_,_⟩,_,_,_,_⟩,_⟩⟩:=x;rfl
 | left=> obtain ⟨⟨_,⟨_,_,_⟩,⟨_,_,_⟩,_,_,_,_⟩,⟨_,⟨_,_,_⟩,⟨_,_,_⟩,_,_,_,_⟩,_,_⟩:=x;rfl
 | deed=> obtain ⟨_,_,⟨_,⟨_,_,_⟩,⟨_,_,_⟩,_,_,_,_⟩⟩:=x;rfl
 | hdeed=> obtain ⟨_,_,_,⟨_,⟨_,_,_⟩,⟨_,_,_⟩,_,_,_,_⟩⟩:=x;rfl
def Z62(x:Tree):Tree:=Tree.mk (Tree.kind x) (Tree.words x) (Tree.kids x)
@[simp] theorem Zm (x:Tree):Z62 x=x:=Tree.eta x
def Zwg(x:WEdit):WEdit:=WEdit.mk (WEdit.at_ x) (WEdit.mask x) (WEdit.old x) (WEdit.new x)
@[simp] theorem Z8b (x:WEdit):Zwg x=x:=rfl
def Yv(x:Edit):Edit:=Edit.mk (Edit.kind x) (Z62 (Edit.old x)) (Z62 (Edit.new x)) (Edit.words x) (Edit.kids x) (Edit.list x) (Edit.ops x)
@[simp] theorem Z6 (x:Edit):Yv x=x:=by unfold Yv;rw [Zm,Zm];exact Edit.eta x
def Zzu(x:Kid):Kid:=KidOf.mk (KidOf.at_ x) (Yv (KidOf.e x))
@[simp] theorem Ze1 (x:Kid):Zzu x=x:=by unfold Zzu;rw [Z6]
def Zlz(x:Op):Op:=OpOf.mk (OpOf.kind x) (OpOf.n x) (OpOf.l x) (Yv (OpOf.e x))
@[simp] theorem YX (x:Op):Zlz x=x:=by unfold Zlz;rw [Z6]
def Znl(x:Piece):Piece:=Piece.mk (Piece.of x) (Zlz (Piece.p x)) (Zlz (Piece.q x))
@[simp] theorem Zly (x:Piece):Znl x=x:=by unfold Znl;rw [YX,YX]
def Zht(x:AUnit):AUnit:=AUnit.mk (AUnit.step x) (AUnit.kind x) (Z62 (AUnit.t x)) (Yv (AUnit.e x)) (AUnit.alone x)
@[simp] theorem Zgd (x:AUnit):Zht x=x:=by unfold Zht;rw [Z6,Zm]
def ZsX(x:APair):APair:=APair.mk (APair.of x) (Zht (APair.p x)) (Zht (APair.q x))
@[simp] theorem ZDb (x:APair):ZsX x=x:=by unfold ZsX;rw [Zgd,Zgd]
def ZsZ(x:LeftE):LeftE:=LeftE.mk (Yv (LeftE.x x)) (Yv (LeftE.y x)) (LeftE.clash x) (LeftE.apart x)
@[simp] theorem ZDc (x:LeftE):ZsZ x=x:=by unfold ZsZ;rw [Z6,Z6]
def Zt0(x:Deed):Deed:=Deed.mk (Deed.kind x) (Deed.i x) (Yv (Deed.e x))
@[simp] theorem ZDd (x:Deed):Zt0 x=x:=by unfold Zt0;rw [Z6]
def Znp(x:HDeed):HDeed:=HDeed.mk (HDeed.kind x) (HDeed.who x) (HDeed.version x) (Yv (HDeed.e x))
@[simp] theorem ZAn (x:HDeed):Znp x=x:=by unfold Znp;rw [Z6]
end Go.AM
