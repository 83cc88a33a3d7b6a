import Derived.Test.YtpjenobkibfpcaaCmP
set_option linter.unusedSimpArgs false
set_option linter.unusedVariables false
namespace Go.AM
structure WEdit where
 at_:Int
 mask:Int
 old:Int
 new:Int
inductive Tree where
 | mk (kind:Int) (words:List Int) (kids:List Tree)
def Tree.kind:Tree->Int | .mk k _ _=> k
def Tree.words:Tree->List Int | .mk _ w _=> w
def Tree.kids:Tree->List Tree | .mk _ _ k=> k
@[simp] theorem Tree.eta (t:Tree):Tree.mk t.kind t.words t.kids=t:=by cases t;rfl
@[simp] theorem Tree.kind_mk (k:Int) (w:List Int) (ks:List Tree):(Tree.mk k w ks).kind=k:=rfl
@[simp] theorem Tree.words_mk (k:Int) (w:List Int) (ks:List Tree):(Tree.mk k w ks).words=w:=rfl
@[simp] theorem Tree.kids_mk (k:Int) (w:List Int) (ks:List Tree):(Tree.mk k w ks).kids=ks:=rfl
structure KidOf (E:Type) where
 at_:Int
 e:E
structure OpOf (E:Type) where
 kind:Int
 n:Int
 l:List Tree
 e:E
inductive Edit where
 | mk (kind:Int) (old new:Tree) (words:List WEdit) (kids:List (KidOf Edit)) (list:Int) (ops:List (OpOf Edit))
abbrev Kid:=KidOf Edit
abbrev Op:=OpOf Edit
def Edit.kind:Edit->Int | .mk k _ _ _ _ _ _=> k
def Edit.old:Edit->Tree | .mk _ o _ _ _ _ _=> o
def Edit.new:Edit->Tree | .mk _ _ n _ _ _ _=> n
def Edit.words:Edit->List WEdit | .mk _ _ _ w _ _ _=> w
def Edit.kids:Edit->List Kid | .mk _ _ _ _ k _ _=> k
def Edit.list:Edit->Int | .mk _ _ _ _ _ l _=> l
def Edit.ops:Edit->List Op | .mk _ _ _ _ _ _ o=> o
@[simp] theorem Edit.eta (e:Edit):Edit.mk e.kind e.old e.new e.words e.kids e.list e.ops=e:=by cases e;rfl
section
variable (k:Int) (o n:Tree) (w:List WEdit) (ks:List Kid) (l:Int) (os:List Op)
@[simp] theorem Edit.kind_mk:(Edit.mk k o n w ks l os).kind=k:=rfl
@[simp] theorem Edit.old_mk:(Edit.mk k o n w ks l os).old=o:=rfl
@[simp] theorem Edit.new_mk:(Edit.mk k o n w ks l os).new=n:=rfl
@[simp] theorem Edit.words_mk:(Edit.mk k o n w ks l os).words=w:=rfl
@[simp] theorem Edit.kids_mk:(Edit.mk k o n w ks l os).kids=ks:=rfl
@[simp] theorem Edit.list_mk:(Edit.mk k o n w ks l os).list=l:=rfl
@[simp] theorem Edit.ops_mk:(Edit.mk k o n w ks l os).ops=os:=rfl
end
def Tree.nil:Tree:= .mk 0 [] []
def Edit.nil:Edit:= .mk 0 Tree.nil Tree.nil [] [] 0 []
def Op.nil:Op:=⟨0,0,[],Edit.nil⟩
structure AUnit where
 step:Int
 kind:Int
 t:Tree
 e:Edit
 alone:Bool
def AUnit.nil:AUnit:=⟨0,0,Tree.nil,Edit.nil,false⟩
structure Piece where
 of:Int
 p:Op
 q:Op
structure APair where
 of:Int
 p:AUnit
 q:AUnit
structure PStep where
 kind:Int
 at_:Int
structure Deed where
 kind:Int
 i:Int
 e:Edit
inductive Ty where
 | u64 | u8 | int | tree | wedit | edit | kid | op | piece | unit | pair | step | deed
 deriving DecidableEq
@[reducible] def El:Ty->Type
 | .u64=> Int
 | .u8=> Int
 | .int=> Int
 | .tree=> Tree
 | .wedit=> WEdit
 | .edit=> Edit
 | .kid=> Kid
 | .op=> Op
 | .piece=> Piece
 | .unit=> AUnit
 | .pair=> APair
 | .step=> PStep
 | .deed=> Deed
@[reducible] def U:Uni:={ Ty:=Ty,El:=El }
abbrev sl(T:Ty)(l:List (El T)):C U:= .slice (U:=U) T l .unk
def Zu0(x:Tree):List (C U):=[.int .i64 x.kind,sl .u64 x.words,sl .tree x.kids]
def ZpS(x:WEdit):List (C U):=[.int .i64 x.at_,.int .u8 x.mask,.int .u64 x.old,.int .u64 x.new]
def Zu3(x:Edit):List (C U):=[.int .i64 x.kind,.int .i64 x.old.kind,sl .u64 x.old.words,sl .tree x.old.kids,.int .i64 x.new.kind,sl .u64 x.new.words,sl .tree x.new.kids,sl .wedit x.words,sl .kid x.kids,.int .i64 x.list,sl .op x.ops]
def Zyh(x:Kid):List (C U):=[.int .i64 x.at_,.int .i64 x.e.kind,.int .i64 x.e.old.kind,sl .u64 x.e.old.words,sl .tree x.e.old.kids,.int .i64 x.e.new.kind,sl .u64 x.e.new.words,sl .tree x.e.new.kids,sl .wedit x.e.words,sl .kid x.e.kids,.int .i64 x.e.list,sl .op x.e.ops]
def eOp(x:Op):List (C U):=[.int .i64 x.kind,.int .i64 x.n,sl .tree x.l,.int .i64 x.e.kind,.int .i64 x.e.old.kind,sl .u64 x.e.old.words,sl .tree x.e.old.kids,.int .i64 x.e.new.kind,sl .u64 x.e.new.words,sl .tree x.e.new.kids,sl .wedit x.e.words,sl .kid x.e.kids,.int .i64 x.e.list,sl .op x.e.ops]
def ZpT(x:Piece):List (C U):=[.int .i64 x.of,.int .i64 x.p.kind,.int .i64 x.p.n,sl .tree x.p.l,.int .i64 x.p.e.kind,.int .i64 x.p.e.old.kind,sl .u64 x.p.e.old.words,sl .tree x.p.e.old.kids,.int .i64 x.p.e.new.kind,sl .u64 x.p.e.new.words,sl .tree x.p.e.new.kids,sl .wedit x.p.e.words,sl .kid x.p.e.kids,.int .i64 x.p.e.list,sl .op x.p.e.ops,.int .i64 x.q.kind,.int .i64 x.q.n,sl .tree x.q.l,.int .i64 x.q.e.kind,.int .i64 x.q.e.old.kind,sl .u64 x.q.e.old.words,sl .tree x.q.e.old.kids,.int .i64 x.q.e.new.kind,sl .u64 x.q.e.new.words,sl .tree x.q.e.new.kids,sl .wedit x.q.e.words,sl .kid x.q.e.kids,.int .i64 x.q.e.list,sl .op x.q.e.ops]
def ZtZ(x:AUnit):List (C U):=[.int .i64 x.step,.int .i64 x.kind,.int .i64 x.t.kind,sl .u64 x.t.words,sl .tree x.t.kids,.int .i64 x.e.kind,.int .i64 x.e.old.kind,sl .u64 x.e.old.words,sl .tree x.e.old.kids,.int .i64 x.e.new.kind,sl .u64 x.e.new.words,sl .tree x.e.new.kids,sl .wedit x.e.words,sl .kid x.e.kids,.int .i64 x.e.list,sl .op x.e.ops,.bool x.alone]
def Zu2(x:APair):List (C U):=[.int .i64 x.of,.int .i64 x.p.step,.int .i64 x.p.kind,.int .i64 x.p.t.kind,sl .u64 x.p.t.words,sl .tree x.p.t.kids,.int .i64 x.p.e.kind,.int .i64 x.p.e.old.kind,sl .u64 x.p.e.old.words,sl .tree x.p.e.old.kids,.int .i64 x.p.e.new.kind,sl .u64 x.p.e.new.words,sl .tree x.p.e.new.kids,sl .wedit x.p.e.words,sl .kid x.p.e.kids,.int .i64 x.p.e.list,sl .op x.p.e.ops,.bool x.p.alone,.int .i64 x.q.step,.int .i64 x.q.kind,.int .i64 x.q.t.kind,sl .u64 x.q.t.words,sl .tree x.q.t.kids,.int .i64 x.q.e.kind,.int .i64 x.q.e.old.kind,sl .u64 x.q.e.old.words,sl .tree x.q.e.old.kids,.int .i64 x.q.e.new.kind,sl .u64 x.q.e.new.words,sl .tree x.q.e.new.kids,sl .wedit x.q.e.words,sl .kid x.q.e.kids,.int .i64 x.q.e.list,sl .op x.q.e.ops,.bool x.q.alone]
def Zu1(x:PStep):List (C U):=[.int .i64 x.kind,.int .i64 x.at_]
def Zu4(x:Deed):List (C U):=[.int .i64 x.kind,.int .i64 x.i,.int .i64 x.e.kind,.int .i64 x.e.old.kind,sl .u64 x.e.old.words,sl .tree x.e.old.kids,.int .i64 x.e.new.kind,sl .u64 x.e.new.words,sl .tree x.e.new.kids,sl .wedit x.e.words,sl .kid x.e.kids,.int .i64 x.e.list,sl .op x.e.ops]
def enc:(T:Ty)->El T->List (C U)
 | .u64,n=> [.int .u64 n]
 | .u8,n=> [.int .u8 n]
 | .int,n=> [.int .i64 n]
 | .tree,x=> Zu0 x
 | .wedit,x=> ZpS x
 | .edit,x=> Zu3 x
 | .kid,x=> Zyh x
 | .op,x=> eOp x
 | .piece,x=> ZpT x
 | .unit,x=> ZtZ x
 | .pair,x=> Zu2 x
 | .step,x=> Zu1 x
 | .deed,x=> Zu4 x
abbrev Rd(α:Type):=List (C U)->Option (α × List (C U))
def Z1Y(k:IntKind):Rd Int
 | .int k' n ::r=> if k=k' then some (n,r) else none
 | _=> none
def Zod:Rd Bool
 | .bool b ::r=> some (b,r)
 | _=> none
def rSl(T:Ty):Rd (List (El T))
 | .nils ::r=> some ([],r)
 | .slice S l _ ::r=> match (inferInstance:DecidableEq Ty) S T with
  | isTrue h=> some (h▸l,r)
  | isFalse _=> none
 | _=> none
def ZW{α β:Type}(x:Rd α)(f:α->Rd β):Rd β:=fun cs=> match x cs with
 | some (a,r)=> f a r
 | none=> none
def Z5M{α:Type}(a:α):Rd α:=fun cs=> some (a,cs)
def WkL:List (C U)->List (C U)->Prop
 | [],[]=> True
 | c ::r,c' ::r'=> Wk c c'/\WkL r r'
 | _,_=> False
theorem WkL.append:∀ {a b c d:List (C U)},WkL a b->WkL c d->WkL (a++c) (b++d)
 | [],[],_,_,_,h=> h
 | _ ::_,_ ::_,_,_,h,k=> ⟨h.1,WkL.append h.2 k⟩
theorem WkL.get:∀ {a b:List (C U)},WkL a b->a.length=b.length/\∀ (j:Nat) c c',a[j]?=some c->b[j]?=some c'->Wk c c'
 | [],[],_=> ⟨rfl,fun j c c' h=> by simp at h⟩
 | x ::a,y ::b,h=> by
  obtain ⟨h1,h2⟩:=WkL.get h.2
  refine ⟨by simp [h1],fun j c c' hc hc'=> ?_⟩
  cases j with
  | zero=> simp at hc hc';subst hc hc';exact h.1
  | succ j=> exact h2 j c c' (by simpa using hc) (by simpa using hc')
def Z2a{α:Type}(r:Rd α)(e:α->List (C U)):Prop:=∀ cs x rest,r cs=some (x,rest)->∃ p,cs=p++rest/\WkL p (e x)
theorem ZF(k:IntKind):Z2a (Z1Y k) fun n=> [.int k n]:=by
 intro cs x rest h
 unfold Z1Y at h
 split at h
 ·split at h
  ·rename_i hk
   subst hk
   cases h
   exact ⟨[_],rfl,.int _ _,trivial⟩
  ·cases h
 ·cases h
theorem Zi5:Z2a Zod fun b=> [.bool b]:=by
 intro cs x rest h
 unfold Zod at h
 split at h
 ·cases h;exact ⟨[_],rfl,.bool _,trivial⟩
 ·cases h
theorem Z1T(T:Ty):Z2a (rSl T) fun l=> [sl T l]:=by
 intro cs x rest h
 unfold rSl at h
 split at h
 ·cases h;exact ⟨[_],rfl,(Wk.snil (U:=U) T:Wk (U:=U) .nils (.slice T [] .unk)),trivial⟩
 ·split at h
  ·rename_i hST _
   subst hST
   cases h
   exact ⟨[_],rfl,.slice _ _ _,trivial⟩
  ·cases h
 ·cases h
theorem Y7{α β:Type}{x:Rd α}{f:α->Rd β}{ex:α->List (C U)}(hx:Z2a x ex){cs:List (C U)}{b:β}{rest:List (C U)}(h:ZW x f cs=some (b,rest)):
  ∃ a p r,cs=p++r/\WkL p (ex a)/\f a r=some (b,rest):=by
 unfold ZW at h
 split at h
 ·rename_i a r ha
  obtain ⟨p,rfl,h1⟩:=hx _ _ _ ha
  exact ⟨a,p,r,rfl,h1,h⟩
 ·cases h
def Zgr:Rd Tree:=ZW (Z1Y .i64) fun x0=> ZW (rSl .u64) fun x1=> ZW (rSl .tree) fun x2=> Z5M (Tree.mk x0 x1 x2)
theorem Z3q:Z2a Zgr Zu0:=by
 intro cs x rest h
 obtain ⟨x0,p0,r0,rfl,w0,h⟩:=Y7 (ZF _) h
 obtain ⟨x1,p1,r1,rfl,w1,h⟩:=Y7 (Z1T _) h
 obtain ⟨x2,p2,r2,rfl,w2,h⟩:=Y7 (Z1T _) h
 cases h
 exact ⟨p0++(p1++(p2)),by simp,w0.append (w1.append (w2))⟩
def Zoa:Rd WEdit:=ZW (Z1Y .i64) fun x0=> ZW (Z1Y .u8) fun x1=> ZW (Z1Y .u64) fun x2=> ZW (Z1Y .u64) fun x3=> Z5M (WEdit.mk x0 x1 x2 x3)
theorem Zgn:Z2a Zoa ZpS:=by
 intro cs x rest h
 obtain ⟨x0,p0,r0,rfl,w0,h⟩:=Y7 (ZF _) h
 obtain ⟨x1,p1,r1,rfl,w1,h⟩:=Y7 (ZF _) h
 obtain ⟨x2,p2,r2,rfl,w2,h⟩:=Y7 (ZF _) h
 obtain ⟨x3,p3,r3,rfl,w3,h⟩:=Y7 (ZF _) h
 cases h
 exact ⟨p0++(p1++(p2++(p3))),by simp,w0.append (w1.append (w2.append (w3)))⟩
def Zdq:Rd Edit:=ZW (Z1Y .i64) fun x0=> ZW Zgr fun x1=> ZW Zgr fun x2=> ZW (rSl .wedit) fun x3=> ZW (rSl .kid) fun x4=> ZW (Z1Y .i64) fun x5=> ZW (rSl .op) fun x6=> Z5M (Edit.mk x0 x1 x2 x3 x4 x5 x6)
theorem Z1U:Z2a Zdq Zu3:=by
 intro cs x rest h
 obtain ⟨x0,p0,r0,rfl,w0,h⟩:=Y7 (ZF _) h
 obtain ⟨x1,p1,r1,rfl,w1,h⟩:=Y7 Z3q h
 obtain ⟨x2,p2,r2,rfl,w2,h⟩:=Y7 Z3q h
 obtain ⟨x3,p3,r3,rfl,w3,h⟩:=Y7 (Z1T _) h
 obtain ⟨x4,p4,r4,rfl,w4,h⟩:=Y7 (Z1T _) h
 obtain ⟨x5,p5,r5,rfl,w5,h⟩:=Y7 (ZF _) h
 obtain ⟨x6,p6,r6,rfl,w6,h⟩:=Y7 (Z1T _) h
 cases h
 exact ⟨p0++(p1++(p2++(p3++(p4++(p5++(p6)))))),by simp,w0.append (w1.append (w2.append (w3.append (w4.append (w5.append (w6))))))⟩
def ZxV:Rd Kid:=ZW (Z1Y .i64) fun x0=> ZW Zdq fun x1=> Z5M (KidOf.mk x0 x1)
theorem ZlV:Z2a ZxV Zyh:=by
 intro cs x rest h
 obtain ⟨x0,p0,r0,rfl,w0,h⟩:=Y7 (ZF _) h
 obtain ⟨x1,p1,r1,rfl,w1,h⟩:=Y7 Z1U h
 cases h
 exact ⟨p0++(p1),by simp,w0.append (w1)⟩
def rOp:Rd Op:=ZW (Z1Y .i64) fun x0=> ZW (Z1Y .i64) fun x1=> ZW (rSl .tree) fun x2=> ZW Zdq fun x3=> Z5M (OpOf.mk x0 x1 x2 x3)
theorem ZbB:Z2a rOp eOp:=by
 intro cs x rest h
 obtain ⟨x0,p0,r0,rfl,w0,h⟩:=Y7 (ZF _) h
 obtain ⟨x1,p1,r1,rfl,w1,h⟩:=Y7 (ZF _) h
 obtain ⟨x2,p2,r2,rfl,w2,h⟩:=Y7 (Z1T _) h
 obtain ⟨x3,p3,r3,rfl,w3,h⟩:=Y7 Z1U h
 cases h
 exact ⟨p0++(p1++(p2++(p3))),by simp,w0.append (w1.append (w2.append (w3)))⟩
def Zoc:Rd Piece:=ZW (Z1Y .i64) fun x0=> ZW rOp fun x1=> ZW rOp fun x2=> Z5M (Piece.mk x0 x1 x2)
theorem Zgo:Z2a Zoc ZpT:=by
 intro cs x rest h
 obtain ⟨x0,p0,r0,rfl,w0,h⟩:=Y7 (ZF _) h
 obtain ⟨x1,p1,r1,rfl,w1,h⟩:=Y7 ZbB h
 obtain ⟨x2,p2,r2,rfl,w2,h⟩:=Y7 ZbB h
 cases h
 exact ⟨p0++(p1++(p2)),by simp,w0.append (w1.append (w2))⟩
def ZjL:Rd AUnit:=ZW (Z1Y .i64) fun x0=> ZW (Z1Y .i64) fun x1=> ZW Zgr fun x2=> ZW Zdq fun x3=> ZW Zod fun x4=> Z5M (AUnit.mk x0 x1 x2 x3 x4)
theorem Z68:Z2a ZjL ZtZ:=by
 intro cs x rest h
 obtain ⟨x0,p0,r0,rfl,w0,h⟩:=Y7 (ZF _) h
 obtain ⟨x1,p1,r1,rfl,w1,h⟩:=Y7 (ZF _) h
 obtain ⟨x2,p2,r2,rfl,w2,h⟩:=Y7 Z3q h
 obtain ⟨x3,p3,r3,rfl,w3,h⟩:=Y7 Z1U h
 obtain ⟨x4,p4,r4,rfl,w4,h⟩:=Y7 Zi5 h
 cases h
 exact ⟨p0++(p1++(p2++(p3++(p4)))),by simp,w0.append (w1.append (w2.append (w3.append (w4))))⟩
def ZtQ:Rd APair:=ZW (Z1Y .i64) fun x0=> ZW ZjL fun x1=> ZW ZjL fun x2=> Z5M (APair.mk x0 x1 x2)
theorem Zi3:Z2a ZtQ Zu2:=by
 intro cs x rest h
 obtain ⟨x0,p0,r0,rfl,w0,h⟩:=Y7 (ZF _) h
 obtain ⟨x1,p1,r1,rfl,w1,h⟩:=Y7 Z68 h
 obtain ⟨x2,p2,r2,rfl,w2,h⟩:=Y7 Z68 h
 cases h
 exact ⟨p0++(p1++(p2)),by simp,w0.append (w1.append (w2))⟩
def ZtP:Rd PStep:=ZW (Z1Y .i64) fun x0=> ZW (Z1Y .i64) fun x1=> Z5M (PStep.mk x0 x1)
theorem Zi2:Z2a ZtP Zu1:=by
 intro cs x rest h
 obtain ⟨x0,p0,r0,rfl,w0,h⟩:=Y7 (ZF _) h
 obtain ⟨x1,p1,r1,rfl,w1,h⟩:=Y7 (ZF _) h
 cases h
 exact ⟨p0++(p1),by simp,w0.append (w1)⟩
def ZtR:Rd Deed:=ZW (Z1Y .i64) fun x0=> ZW (Z1Y .i64) fun x1=> ZW Zdq fun x2=> Z5M (Deed.mk x0 x1 x2)
theorem Zi4:Z2a ZtR Zu4:=by
 intro cs x rest h
 obtain ⟨x0,p0,r0,rfl,w0,h⟩:=Y7 (ZF _) h
 obtain ⟨x1,p1,r1,rfl,w1,h⟩:=Y7 (ZF _) h
 obtain ⟨x2,p2,r2,rfl,w2,h⟩:=Y7 Z1U h
 cases h
 exact ⟨p0++(p1++(p2)),by simp,w0.append (w1.append (w2))⟩
def rEl:(T:Ty)->Rd (El T)
 | .u64=> Z1Y .u64
 | .u8=> Z1Y .u8
 | .int=> Z1Y .i64
 | .tree=> Zgr
 | .wedit=> Zoa
 | .edit=> Zdq
 | .kid=> ZxV
 | .op=> rOp
 | .piece=> Zoc
 | .unit=> ZjL
 | .pair=> ZtQ
 | .step=> ZtP
 | .deed=> ZtR
theorem Zgp:∀ T:Ty,Z2a (rEl T) (enc T)
 | .u64=> ZF _
 | .u8=> ZF _
 | .int=> ZF _
 | .tree=> Z3q
 | .wedit=> Zgn
 | .edit=> Z1U
 | .kid=> ZlV
 | .op=> ZbB
 | .piece=> Zgo
 | .unit=> Z68
 | .pair=> Zi3
 | .step=> Zi2
 | .deed=> Zi4
def dec(T:Ty)(cs:List (C U)):Option (El T):=
 match rEl T cs with
 | some (x,[])=> some x
 | _=> none
def K:Codec U:=
 {tyEq:=inferInstanceAs (DecidableEq Ty)
  dflt:=fun T=> match T with
   | .u64=> (0:Int) | .u8=> (0:Int) | .int=> (0:Int) | .tree=> Tree.nil | .wedit=> WEdit.mk 0 0 0 0 | .edit=> Edit.nil | .kid=> KidOf.mk 0 Edit.nil | .op=> Op.nil | .piece=> Piece.mk 0 Op.nil Op.nil | .unit=> AUnit.nil | .pair=> APair.mk 0 AUnit.nil AUnit.nil | .step=> (PStep.mk 0 0) | .deed=> Deed.mk 0 0 Edit.nil
  enc:=enc
  dec:=dec
  aggT:=fun T=> match T with | .u64 | .u8 | .int=> false | _=> true
  sz:=fun T=> match T with | .u64=> 1 | .u8=> 1 | .int=> 1 | .tree=> 3 | .wedit=> 4 | .edit=> 11 | .kid=> 12 | .op=> 14 | .piece=> 29 | .unit=> 17 | .pair=> 35 | .step=> 2 | .deed=> 13
  bytes:=fun T=> match T with | .u64=> 8 | .u8=> 1 | .int=> 8 | .tree=> 56 | .wedit=> 32 | .edit=> 200 | .kid=> 208 | .op=> 240 | .piece=> 488 | .unit=> 280 | .pair=> 568 | .step=> 16 | .deed=> 216 }
theorem Zzg:CodecOk K:=by
 refine ⟨?_,?_,?_,?_,?_⟩
 ·intro T x
  cases T <;> rfl
 ·intro T x c hc
  have h:(enc T x).all C.plain=true:=by cases T <;> rfl
  exact QB.1 h c hc
 ·intro T cs x h
  have h':dec T cs=some x:=h
  unfold dec at h'
  split at h'
  ·rename_i y he
   cases h'
   obtain ⟨p,hp,hw⟩:=Zgp T _ _ _ he
   rw [Qr] at hp
   subst hp
   exact hw.get
  ·cases h'
 ·intro T;cases T <;> decide
 ·intro T;cases T <;> decide
theorem ZsD(T:Ty)(x:El T):dec T (enc T x)=some x:=by
 cases T with
 | u64=> rfl
 | u8=> rfl
 | int=> rfl
 | tree=> cases x;rfl
 | wedit=> rfl
 | edit=> obtain ⟨k,⟨_,_,_⟩,⟨_,_,_⟩,w,ks,l,os⟩:=x;rfl
 | kid=> obtain ⟨a,⟨k,⟨_,_,_⟩,⟨_,_,_⟩,w,ks,l,os⟩⟩:=x;rfl
 | op=> obtain ⟨a,b,c,⟨k,⟨_,_,_⟩,⟨_,_,_⟩,w,ks,l,os⟩⟩:=x;rfl
 | piece=> obtain ⟨_,⟨_,_,_,⟨_,⟨_,_,_⟩,⟨_,_,_⟩,_,_,_,_⟩⟩,⟨_,_,_,⟨_,⟨_,_,_⟩,⟨_,_,_⟩,_,_,_,_⟩⟩⟩:=x;rfl
 | unit=> obtain ⟨_,_,⟨_,_,_⟩,⟨_,⟨_,_,_⟩,⟨_,_,_⟩,_,_,_,_⟩,_⟩:=x;rfl
 | pair=> obtain ⟨_,⟨_,_,⟨_,_,_⟩,⟨_,⟨_,_,_⟩,⟨_,_,_⟩,_,_,_,_⟩,_⟩,⟨_,_,⟨_,_,_⟩,⟨_,⟨_,_,_⟩,⟨_,_,_⟩,_,_,_,_⟩,_⟩⟩:=x;rfl
 | step=> rfl
 | deed=> obtain ⟨_,_,⟨_,⟨_,_,_⟩,⟨_,_,_⟩,_,_,_,_⟩⟩:=x;rfl
def ZeE(x:Tree):Tree:=Tree.mk (Tree.kind x) (Tree.words x) (Tree.kids x)
@[simp] theorem Zc (x:Tree):ZeE x=x:=Tree.eta x
def Zrh(x:WEdit):WEdit:=WEdit.mk (WEdit.at_ x) (WEdit.mask x) (WEdit.old x) (WEdit.new x)
@[simp] theorem Z1V (x:WEdit):Zrh x=x:=rfl
def Z1W(x:Edit):Edit:=Edit.mk (Edit.kind x) (ZeE (Edit.old x)) (ZeE (Edit.new x)) (Edit.words x) (Edit.kids x) (Edit.list x) (Edit.ops x)
@[simp] theorem Zd (x:Edit):Z1W x=x:=by unfold Z1W;rw [Zc,Zc];exact Edit.eta x
def ZtO(x:Kid):Kid:=KidOf.mk (KidOf.at_ x) (Z1W (KidOf.e x))
@[simp] theorem Zgq (x:Kid):ZtO x=x:=by unfold ZtO;rw [Zd]
def Zri(x:Op):Op:=OpOf.mk (OpOf.kind x) (OpOf.n x) (OpOf.l x) (Z1W (OpOf.e x))
@[simp] theorem YA (x:Op):Zri x=x:=by unfold Zri;rw [Zd]
def ZjI(x:Piece):Piece:=Piece.mk (Piece.of x) (Zri (Piece.p x)) (Zri (Piece.q x))
@[simp] theorem ZuB (x:Piece):ZjI x=x:=by unfold ZjI;rw [YA,YA]
def ZeD(x:AUnit):AUnit:=AUnit.mk (AUnit.step x) (AUnit.kind x) (ZeE (AUnit.t x)) (Z1W (AUnit.e x)) (AUnit.alone x)
@[simp] theorem Zdo (x:AUnit):ZeD x=x:=by unfold ZeD;rw [Zd,Zc]
def Zo6(x:APair):APair:=APair.mk (APair.of x) (ZeD (APair.p x)) (ZeD (APair.q x))
@[simp] theorem Zx2 (x:APair):Zo6 x=x:=by unfold Zo6;rw [Zdo,Zdo]
def ZuA(x:PStep):PStep:=PStep.mk (PStep.kind x) (PStep.at_ x)
@[simp] theorem Zx1 (x:PStep):ZuA x=x:=rfl
def Zo7(x:Deed):Deed:=Deed.mk (Deed.kind x) (Deed.i x) (Z1W (Deed.e x))
@[simp] theorem Zx3 (x:Deed):Zo7 x=x:=by unfold Zo7;rw [Zd]
end Go.AM
