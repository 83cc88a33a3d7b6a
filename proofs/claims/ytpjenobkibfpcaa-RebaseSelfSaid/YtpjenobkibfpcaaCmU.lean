import Derived.Test.YtpjenobkibfpcaaCmP
set_option linter.unusedSimpArgs false
set_option linter.unusedVariables false
namespace Go.AM
structure WEdit where
 at_:Int
 mask:Int
 old:Int
 new:Int
inductive Tree where
 | mk (kind:Int) (words:List Int) (kids:List Tree)
def Tree.kind:Tree->Int | .mk k _ _=> k
def Tree.words:Tree->List Int | .mk _ w _=> w
def Tree.kids:Tree->List Tree | .mk _ _ k=> k
@[simp] theorem Tree.eta (t:Tree):Tree.mk t.kind t.words t.kids=t:=by cases t;rfl
@[simp] theorem Tree.kind_mk (k:Int) (w:List Int) (ks:List Tree):(Tree.mk k w ks).kind=k:=rfl
@[simp] theorem Tree.words_mk (k:Int) (w:List Int) (ks:List Tree):(Tree.mk k w ks).words=w:=rfl
@[simp] theorem Tree.kids_mk (k:Int) (w:List Int) (ks:List Tree):(Tree.mk k w ks).kids=ks:=rfl
structure KidOf (E:Type) where
 at_:Int
 e:E
structure OpOf (E:Type) where
 kind:Int
 n:Int
 l:List Tree
 e:E
inductive Edit where
 | mk (kind:Int) (old new:Tree) (words:List WEdit) (kids:List (KidOf Edit)) (list:Int) (ops:List (OpOf Edit))
abbrev Kid:=KidOf Edit
abbrev Op:=OpOf Edit
def Edit.kind:Edit->Int | .mk k _ _ _ _ _ _=> k
def Edit.old:Edit->Tree | .mk _ o _ _ _ _ _=> o
def Edit.new:Edit->Tree | .mk _ _ n _ _ _ _=> n
def Edit.words:Edit->List WEdit | .mk _ _ _ w _ _ _=> w
def Edit.kids:Edit->List Kid | .mk _ _ _ _ k _ _=> k
def Edit.list:Edit->Int | .mk _ _ _ _ _ l _=> l
def Edit.ops:Edit->List Op | .mk _ _ _ _ _ _ o=> o
@[simp] theorem Edit.eta (e:Edit):Edit.mk e.kind e.old e.new e.words e.kids e.list e.ops=e:=by cases e;rfl
section
variable (k:Int) (o n:Tree) (w:List WEdit) (ks:List Kid) (l:Int) (os:List Op)
@[simp] theorem Edit.kind_mk:(Edit.mk k o n w ks l os).kind=k:=rfl
@[simp] theorem Edit.old_mk:(Edit.mk k o n w ks l os).old=o:=rfl
@[simp] theorem Edit.new_mk:(Edit.mk k o n w ks l os).new=n:=rfl
@[simp] theorem Edit.words_mk:(Edit.mk k o n w ks l os).words=w:=rfl
@[simp] theorem Edit.kids_mk:(Edit.mk k o n w ks l os).kids=ks:=rfl
@[simp] theorem Edit.list_mk:(Edit.mk k o n w ks l os).list=l:=rfl
@[simp] theorem Edit.ops_mk:(Edit.mk k o n w ks l os).ops=os:=rfl
end
def Tree.nil:Tree:= .mk 0 [] []
def Edit.nil:Edit:= .mk 0 Tree.nil Tree.nil [] [] 0 []
def Op.nil:Op:=⟨0,0,[],Edit.nil⟩
structure AUnit where
 step:Int
 kind:Int
 t:Tree
 e:Edit
 alone:Bool
def AUnit.nil:AUnit:=⟨0,0,Tree.nil,Edit.nil,false⟩
structure Piece where
 of:Int
 p:Op
 q:Op
structure APair where
 of:Int
 p:AUnit
 q:AUnit
structure PStep where
 kind:Int
 at_:Int
structure Deed where
 kind:Int
 i:Int
 e:Edit
inductive Ty where
 | u64 | u8 | int | tree | wedit | edit | kid | op | piece | unit | pair | step | deed
 deriving DecidableEq
@[reducible] def El:Ty->Type
 | .u64=> Int
 | .u8=> Int
 | .int=> Int
 | .tree=> Tree
 | .wedit=> WEdit
 | .edit=> Edit
 | .kid=> Kid
 | .op=> Op
 | .piece=> Piece
 | .unit=> AUnit
 | .pair=> APair
 | .step=> PStep
 | .deed=> Deed
@[reducible] def U:Uni:={ Ty:=Ty,El:=El }
abbrev sl(T:Ty)(l:List (El T)):C U:= .slice (U:=U) T l .unk
def Zud(x:Tree):List (C U):=[.int .i64 x.kind,sl .u64 x.words,sl .tree x.kids]
def ZpM(x:WEdit):List (C U):=[.int .i64 x.at_,.int .u8 x.mask,.int .u64 x.old,.int .u64 x.new]
def Zug(x:Edit):List (C U):=[.int .i64 x.kind,.int .i64 x.old.kind,sl .u64 x.old.words,sl .tree x.old.kids,.int .i64 x.new.kind,sl .u64 x.new.words,sl .tree x.new.kids,sl .wedit x.words,sl .kid x.kids,.int .i64 x.list,sl .op x.ops]
def ZyC(x:Kid):List (C U):=[.int .i64 x.at_,.int .i64 x.e.kind,.int .i64 x.e.old.kind,sl .u64 x.e.old.words,sl .tree x.e.old.kids,.int .i64 x.e.new.kind,sl .u64 x.e.new.words,sl .tree x.e.new.kids,sl .wedit x.e.words,sl .kid x.e.kids,.int .i64 x.e.list,sl .op x.e.ops]
def eOp(x:Op):List (C U):=[.int .i64 x.kind,.int .i64 x.n,sl .tree x.l,.int .i64 x.e.kind,.int .i64 x.e.old.kind,sl .u64 x.e.old.words,sl .tree x.e.old.kids,.int .i64 x.e.new.kind,sl .u64 x.e.new.words,sl .tree x.e.new.kids,sl .wedit x.e.words,sl .kid x.e.kids,.int .i64 x.e.list,sl .op x.e.ops]
def ZpN(x:Piece):List (C U):=[.int .i64 x.of,.int .i64 x.p.kind,.int .i64 x.p.n,sl .tree x.p.l,.int .i64 x.p.e.kind,.int .i64 x.p.e.old.kind,sl .u64 x.p.e.old.words,sl .tree x.p.e.old.kids,.int .i64 x.p.e.new.kind,sl .u64 x.p.e.new.words,sl .tree x.p.e.new.kids,sl .wedit x.p.e.words,sl .kid x.p.e.kids,.int .i64 x.p.e.list,sl .op x.p.e.ops,.int .i64 x.q.kind,.int .i64 x.q.n,sl .tree x.q.l,.int .i64 x.q.e.kind,.int .i64 x.q.e.old.kind,sl .u64 x.q.e.old.words,sl .tree x.q.e.old.kids,.int .i64 x.q.e.new.kind,sl .u64 x.q.e.new.words,sl .tree x.q.e.new.kids,sl .wedit x.q.e.words,sl .kid x.q.e.kids,.int .i64 x.q.e.list,sl .op x.q.e.ops]
def Zuc(x:AUnit):List (C U):=[.int .i64 x.step,.int .i64 x.kind,.int .i64 x.t.kind,sl .u64 x.t.words,sl .tree x.t.kids,.int .i64 x.e.kind,.int .i64 x.e.old.kind,sl .u64 x.e.old.words,sl .tree x.e.old.kids,.int .i64 x.e.new.kind,sl .u64 x.e.new.words,sl .tree x.e.new.kids,sl .wedit x.e.words,sl .kid x.e.kids,.int .i64 x.e.list,sl .op x.e.ops,.bool x.alone]
def Zuf(x:APair):List (C U):=[.int .i64 x.of,.int .i64 x.p.step,.int .i64 x.p.kind,.int .i64 x.p.t.kind,sl .u64 x.p.t.words,sl .tree x.p.t.kids,.int .i64 x.p.e.kind,.int .i64 x.p.e.old.kind,sl .u64 x.p.e.old.words,sl .tree x.p.e.old.kids,.int .i64 x.p.e.new.kind,sl .u64 x.p.e.new.words,sl .tree x.p.e.new.kids,sl .wedit x.p.e.words,sl .kid x.p.e.kids,.int .i64 x.p.e.list,sl .op x.p.e.ops,.bool x.p.alone,.int .i64 x.q.step,.int .i64 x.q.kind,.int .i64 x.q.t.kind,sl .u64 x.q.t.words,sl .tree x.q.t.kids,.int .i64 x.q.e.kind,.int .i64 x.q.e.old.kind,sl .u64 x.q.e.old.words,sl .tree x.q.e.old.kids,.int .i64 x.q.e.new.kind,sl .u64 x.q.e.new.words,sl .tree x.q.e.new.kids,sl .wedit x.q.e.words,sl .kid x.q.e.kids,.int .i64 x.q.e.list,sl .op x.q.e.ops,.bool x.q.alone]
def Zue(x:PStep):List (C U):=[.int .i64 x.kind,.int .i64 x.at_]
def Zuh(x:Deed):List (C U):=[.int .i64 x.kind,.int .i64 x.i,.int .i64 x.e.kind,.int .i64 x.e.old.kind,sl .u64 x.e.old.words,sl .tree x.e.old.kids,.int .i64 x.e.new.kind,sl .u64 x.e.new.words,sl .tree x.e.new.kids,sl .wedit x.e.words,sl .kid x.e.kids,.int .i64 x.e.list,sl .op x.e.ops]
def enc:(T:Ty)->El T->List (C U)
 | .u64,n=> [.int .u64 n]
 | .u8,n=> [.int .u8 n]
 | .int,n=> [.int .i64 n]
 | .tree,x=> Zud x
 | .wedit,x=> ZpM x
 | .edit,x=> Zug x
 | .kid,x=> ZyC x
 | .op,x=> eOp x
 | .piece,x=> ZpN x
 | .unit,x=> Zuc x
 | .pair,x=> Zuf x
 | .step,x=> Zue x
 | .deed,x=> Zuh x
abbrev Rd(α:Type):=List (C U)->Option (α × List (C U))
def Z1E(k:IntKind):Rd Int
 | .int k' n ::r=> if k=k' then some (n,r) else none
 | _=> none
def Zo9:Rd Bool
 | .bool b ::r=> some (b,r)
 | _=> none
def rSl(T:Ty):Rd (List (El T))
 | .nils ::r=> some ([],r)
 | .slice S l _ ::r=> match (inferInstance:DecidableEq Ty) S T with
  | isTrue h=> some (h▸l,r)
  | isFalse _=> none
 | _=> none
def Y0{α β:Type}(x:Rd α)(f:α->Rd β):Rd β:=fun cs=> match x cs with
 | some (a,r)=> f a r
 | none=> none
def Z5t{α:Type}(a:α):Rd α:=fun cs=> some (a,cs)
def WkL:List (C U)->List (C U)->Prop
 | [],[]=> True
 | c ::r,c' ::r'=> Wk c c'/\WkL r r'
 | _,_=> False
theorem WkL.append:∀ {a b c d:List (C U)},WkL a b->WkL c d->WkL (a++c) (b++d)
 | [],[],_,_,_,h=> h
 | _ ::_,_ ::_,_,_,h,k=> ⟨h.1,WkL.append h.2 k⟩
theorem WkL.get:∀ {a b:List (C U)},WkL a b->a.length=b.length/\∀ (j:Nat) c c',a[j]?=some c->b[j]?=some c'->Wk c c'
 | [],[],_=> ⟨rfl,fun j c c' h=> by simp at h⟩
 | x ::a,y ::b,h=> by
  obtain ⟨h1,h2⟩:=WkL.get h.2
  refine ⟨by simp [h1],fun j c c' hc hc'=> ?_⟩
  cases j with
  | zero=> simp at hc hc';subst hc hc';exact h.1
  | succ j=> exact h2 j c c' (by simpa using hc) (by simpa using hc')
def Z1R{α:Type}(r:Rd α)(e:α->List (C U)):Prop:=∀ cs x rest,r cs=some (x,rest)->∃ p,cs=p++rest/\WkL p (e x)
theorem ZH(k:IntKind):Z1R (Z1E k) fun n=> [.int k n]:=by
 intro cs x rest h
 unfold Z1E at h
 split at h
 ·split at h
  ·rename_i hk
   subst hk
   cases h
   exact ⟨[_],rfl,.int _ _,trivial⟩
  ·cases h
 ·cases h
theorem ZhY:Z1R Zo9 fun b=> [.bool b]:=by
 intro cs x rest h
 unfold Zo9 at h
 split at h
 ·cases h;exact ⟨[_],rfl,.bool _,trivial⟩
 ·cases h
theorem Z1A(T:Ty):Z1R (rSl T) fun l=> [sl T l]:=by
 intro cs x rest h
 unfold rSl at h
 split at h
 ·cases h;exact ⟨[_],rfl,(Wk.snil (U:=U) T:Wk (U:=U) .nils (.slice T [] .unk)),trivial⟩
 ·split at h
  ·rename_i hST _
   subst hST
   cases h
   exact ⟨[_],rfl,.slice _ _ _,trivial⟩
  ·cases h
 ·cases h
theorem Y4{α β:Type}{x:Rd α}{f:α->Rd β}{ex:α->List (C U)}(hx:Z1R x ex){cs:List (C U)}{b:β}{rest:List (C U)}(h:Y0 x f cs=some (b,rest)):
  ∃ a p r,cs=p++r/\WkL p (ex a)/\f a r=some (b,rest):=by
 unfold Y0 at h
 split at h
 ·rename_i a r ha
  obtain ⟨p,rfl,h1⟩:=hx _ _ _ ha
  exact ⟨a,p,r,rfl,h1,h⟩
 ·cases h
def Zgl:Rd Tree:=Y0 (Z1E .i64) fun x0=> Y0 (rSl .u64) fun x1=> Y0 (rSl .tree) fun x2=> Z5t (Tree.mk x0 x1 x2)
theorem Z3g:Z1R Zgl Zud:=by
 intro cs x rest h
 obtain ⟨x0,p0,r0,rfl,w0,h⟩:=Y4 (ZH _) h
 obtain ⟨x1,p1,r1,rfl,w1,h⟩:=Y4 (Z1A _) h
 obtain ⟨x2,p2,r2,rfl,w2,h⟩:=Y4 (Z1A _) h
 cases h
 exact ⟨p0++(p1++(p2)),by simp,w0.append (w1.append (w2))⟩
def Zo6:Rd WEdit:=Y0 (Z1E .i64) fun x0=> Y0 (Z1E .u8) fun x1=> Y0 (Z1E .u64) fun x2=> Y0 (Z1E .u64) fun x3=> Z5t (WEdit.mk x0 x1 x2 x3)
theorem Zgg:Z1R Zo6 ZpM:=by
 intro cs x rest h
 obtain ⟨x0,p0,r0,rfl,w0,h⟩:=Y4 (ZH _) h
 obtain ⟨x1,p1,r1,rfl,w1,h⟩:=Y4 (ZH _) h
 obtain ⟨x2,p2,r2,rfl,w2,h⟩:=Y4 (ZH _) h
 obtain ⟨x3,p3,r3,rfl,w3,h⟩:=Y4 (ZH _) h
 cases h
 exact ⟨p0++(p1++(p2++(p3))),by simp,w0.append (w1.append (w2.append (w3)))⟩
def Zdc:Rd Edit:=Y0 (Z1E .i64) fun x0=> Y0 Zgl fun x1=> Y0 Zgl fun x2=> Y0 (rSl .wedit) fun x3=> Y0 (rSl .kid) fun x4=> Y0 (Z1E .i64) fun x5=> Y0 (rSl .op) fun x6=> Z5t (Edit.mk x0 x1 x2 x3 x4 x5 x6)
theorem Z1B:Z1R Zdc Zug:=by
 intro cs x rest h
 obtain ⟨x0,p0,r0,rfl,w0,h⟩:=Y4 (ZH _) h
 obtain ⟨x1,p1,r1,rfl,w1,h⟩:=Y4 Z3g h
 obtain ⟨x2,p2,r2,rfl,w2,h⟩:=Y4 Z3g h
 obtain ⟨x3,p3,r3,rfl,w3,h⟩:=Y4 (Z1A _) h
 obtain ⟨x4,p4,r4,rfl,w4,h⟩:=Y4 (Z1A _) h
 obtain ⟨x5,p5,r5,rfl,w5,h⟩:=Y4 (ZH _) h
 obtain ⟨x6,p6,r6,rfl,w6,h⟩:=Y4 (Z1A _) h
 cases h
 exact ⟨p0++(p1++(p2++(p3++(p4++(p5++(p6)))))),by simp,w0.append (w1.append (w2.append (w3.append (w4.append (w5.append (w6))))))⟩
def Zyj:Rd Kid:=Y0 (Z1E .i64) fun x0=> Y0 Zdc fun x1=> Z5t (KidOf.mk x0 x1)
theorem ZlT:Z1R Zyj ZyC:=by
 intro cs x rest h
 obtain ⟨x0,p0,r0,rfl,w0,h⟩:=Y4 (ZH _) h
 obtain ⟨x1,p1,r1,rfl,w1,h⟩:=Y4 Z1B h
 cases h
 exact ⟨p0++(p1),by simp,w0.append (w1)⟩
def rOp:Rd Op:=Y0 (Z1E .i64) fun x0=> Y0 (Z1E .i64) fun x1=> Y0 (rSl .tree) fun x2=> Y0 Zdc fun x3=> Z5t (OpOf.mk x0 x1 x2 x3)
theorem Zbo:Z1R rOp eOp:=by
 intro cs x rest h
 obtain ⟨x0,p0,r0,rfl,w0,h⟩:=Y4 (ZH _) h
 obtain ⟨x1,p1,r1,rfl,w1,h⟩:=Y4 (ZH _) h
 obtain ⟨x2,p2,r2,rfl,w2,h⟩:=Y4 (Z1A _) h
 obtain ⟨x3,p3,r3,rfl,w3,h⟩:=Y4 Z1B h
 cases h
 exact ⟨p0++(p1++(p2++(p3))),by simp,w0.append (w1.append (w2.append (w3)))⟩
def Zo8:Rd Piece:=Y0 (Z1E .i64) fun x0=> Y0 rOp fun x1=> Y0 rOp fun x2=> Z5t (Piece.mk x0 x1 x2)
theorem Zgh:Z1R Zo8 ZpN:=by
 intro cs x rest h
 obtain ⟨x0,p0,r0,rfl,w0,h⟩:=Y4 (ZH _) h
 obtain ⟨x1,p1,r1,rfl,w1,h⟩:=Y4 Zbo h
 obtain ⟨x2,p2,r2,rfl,w2,h⟩:=Y4 Zbo h
 cases h
 exact ⟨p0++(p1++(p2)),by simp,w0.append (w1.append (w2))⟩
def ZjI:Rd AUnit:=Y0 (Z1E .i64) fun x0=> Y0 (Z1E .i64) fun x1=> Y0 Zgl fun x2=> Y0 Zdc fun x3=> Y0 Zo9 fun x4=> Z5t (AUnit.mk x0 x1 x2 x3 x4)
theorem Z5K:Z1R ZjI Zuc:=by
 intro cs x rest h
 obtain ⟨x0,p0,r0,rfl,w0,h⟩:=Y4 (ZH _) h
 obtain ⟨x1,p1,r1,rfl,w1,h⟩:=Y4 (ZH _) h
 obtain ⟨x2,p2,r2,rfl,w2,h⟩:=Y4 Z3g h
 obtain ⟨x3,p3,r3,rfl,w3,h⟩:=Y4 Z1B h
 obtain ⟨x4,p4,r4,rfl,w4,h⟩:=Y4 ZhY h
 cases h
 exact ⟨p0++(p1++(p2++(p3++(p4)))),by simp,w0.append (w1.append (w2.append (w3.append (w4))))⟩
def Zu4:Rd APair:=Y0 (Z1E .i64) fun x0=> Y0 ZjI fun x1=> Y0 ZjI fun x2=> Z5t (APair.mk x0 x1 x2)
theorem ZhW:Z1R Zu4 Zuf:=by
 intro cs x rest h
 obtain ⟨x0,p0,r0,rfl,w0,h⟩:=Y4 (ZH _) h
 obtain ⟨x1,p1,r1,rfl,w1,h⟩:=Y4 Z5K h
 obtain ⟨x2,p2,r2,rfl,w2,h⟩:=Y4 Z5K h
 cases h
 exact ⟨p0++(p1++(p2)),by simp,w0.append (w1.append (w2))⟩
def Zu3:Rd PStep:=Y0 (Z1E .i64) fun x0=> Y0 (Z1E .i64) fun x1=> Z5t (PStep.mk x0 x1)
theorem ZhV:Z1R Zu3 Zue:=by
 intro cs x rest h
 obtain ⟨x0,p0,r0,rfl,w0,h⟩:=Y4 (ZH _) h
 obtain ⟨x1,p1,r1,rfl,w1,h⟩:=Y4 (ZH _) h
 cases h
 exact ⟨p0++(p1),by simp,w0.append (w1)⟩
def Zu5:Rd Deed:=Y0 (Z1E .i64) fun x0=> Y0 (Z1E .i64) fun x1=> Y0 Zdc fun x2=> Z5t (Deed.mk x0 x1 x2)
theorem ZhX:Z1R Zu5 Zuh:=by
 intro cs x rest h
 obtain ⟨x0,p0,r0,rfl,w0,h⟩:=Y4 (ZH _) h
 obtain ⟨x1,p1,r1,rfl,w1,h⟩:=Y4 (ZH _) h
 obtain ⟨x2,p2,r2,rfl,w2,h⟩:=Y4 Z1B h
 cases h
 exact ⟨p0++(p1++(p2)),by simp,w0.append (w1.append (w2))⟩
def rEl:(T:Ty)->Rd (El T)
 | .u64=> Z1E .u64
 | .u8=> Z1E .u8
 | .int=> Z1E .i64
 | .tree=> Zgl
 | .wedit=> Zo6
 | .edit=> Zdc
 | .kid=> Zyj
 | .op=> rOp
 | .piece=> Zo8
 | .unit=> ZjI
 | .pair=> Zu4
 | .step=> Zu3
 | .deed=> Zu5
theorem Zgi:∀ T:Ty,Z1R (rEl T) (enc T)
 | .u64=> ZH _
 | .u8=> ZH _
 | .int=> ZH _
 | .tree=> Z3g
 | .wedit=> Zgg
 | .edit=> Z1B
 | .kid=> ZlT
 | .op=> Zbo
 | .piece=> Zgh
 | .unit=> Z5K
 | .pair=> ZhW
 | .step=> ZhV
 | .deed=> ZhX
def dec(T:Ty)(cs:List (C U)):Option (El T):=
 match rEl T cs with
 | some (x,[])=> some x
 | _=> none
def K:Codec U:=
 {tyEq:=inferInstanceAs (DecidableEq Ty)
  dflt:=fun T=> match T with
   | .u64=> (0:Int) | .u8=> (0:Int) | .int=> (0:Int) | .tree=> Tree.nil | .wedit=> WEdit.mk 0 0 0 0 | .edit=> Edit.nil | .kid=> KidOf.mk 0 Edit.nil | .op=> Op.nil | .piece=> Piece.mk 0 Op.nil Op.nil | .unit=> AUnit.nil | .pair=> APair.mk 0 AUnit.nil AUnit.nil | .step=> (PStep.mk 0 0) | .deed=> Deed.mk 0 0 Edit.nil
  enc:=enc
  dec:=dec
  aggT:=fun T=> match T with | .u64 | .u8 | .int=> false | _=> true
  sz:=fun T=> match T with | .u64=> 1 | .u8=> 1 | .int=> 1 | .tree=> 3 | .wedit=> 4 | .edit=> 11 | .kid=> 12 | .op=> 14 | .piece=> 29 | .unit=> 17 | .pair=> 35 | .step=> 2 | .deed=> 13
  bytes:=fun T=> match T with | .u64=> 8 | .u8=> 1 | .int=> 8 | .tree=> 56 | .wedit=> 32 | .edit=> 200 | .kid=> 208 | .op=> 240 | .piece=> 488 | .unit=> 280 | .pair=> 568 | .step=> 16 | .deed=> 216 }
theorem ZzH:CodecOk K:=by
 refine ⟨?_,?_,?_,?_,?_⟩
 ·intro T x
  cases T <;> rfl
 ·intro T x c hc
  have h:(enc T x).all C.plain=true:=by cases T <;> rfl
  exact Qt.1 h c hc
 ·intro T cs x h
  have h':dec T cs=some x:=h
  unfold dec at h'
  split at h'
  ·rename_i y he
   cases h'
   obtain ⟨p,hp,hw⟩:=Zgi T _ _ _ he
   rw [QG] at hp
   subst hp
   exact hw.get
  ·cases h'
 ·intro T;cases T <;> decide
 ·intro T;cases T <;> decide
theorem ZsP(T:Ty)(x:El T):dec T (enc T x)=some x:=by
 cases T with
 | u64=> rfl
 | u8=> rfl
 | int=> rfl
 | tree=> cases x;rfl
 | wedit=> rfl
 | edit=> obtain ⟨k,⟨_,_,_⟩,⟨_,_,_⟩,w,ks,l,os⟩:=x;rfl
 | kid=> obtain ⟨a,⟨k,⟨_,_,_⟩,⟨_,_,_⟩,w,ks,l,os⟩⟩:=x;rfl
 | op=> obtain ⟨a,b,c,⟨k,⟨_,_,_⟩,⟨_,_,_⟩,w,ks,l,os⟩⟩:=x;rfl
 | piece=> obtain ⟨_,⟨_,_,_,⟨_,⟨_,_,_⟩,⟨_,_,_⟩,_,_,_,_⟩⟩,⟨_,_,_,⟨_,⟨_,_,_⟩,⟨_,_,_⟩,_,_,_,_⟩⟩⟩:=x;rfl
 | unit=> obtain ⟨_,_,⟨_,_,_⟩,⟨_,⟨_,_,_⟩,⟨_,_,_⟩,_,_,_,_⟩,_⟩:=x;rfl
 | pair=> obtain ⟨_,⟨_,_,⟨_,_,_⟩,⟨_,⟨_,_,_⟩,⟨_,_,_⟩,_,_,_,_⟩,_⟩,⟨_,_,⟨_,_,_⟩,⟨_,⟨_,_,_⟩,⟨_,_,_⟩,_,_,_,_⟩,_⟩⟩:=x;rfl
 | step=> rfl
 | deed=> obtain ⟨_,_,⟨_,⟨_,_,_⟩,⟨_,_,_⟩,_,_,_,_⟩⟩:=x;rfl
def Zet(x:Tree):Tree:=Tree.mk (Tree.kind x) (Tree.words x) (Tree.kids x)
@[simp] theorem Zc (x:Tree):Zet x=x:=Tree.eta x
def Zro(x:WEdit):WEdit:=WEdit.mk (WEdit.at_ x) (WEdit.mask x) (WEdit.old x) (WEdit.new x)
@[simp] theorem Z1C (x:WEdit):Zro x=x:=rfl
def JD(x:Edit):Edit:=Edit.mk (Edit.kind x) (Zet (Edit.old x)) (Zet (Edit.new x)) (Edit.words x) (Edit.kids x) (Edit.list x) (Edit.ops x)
@[simp] theorem Za (x:Edit):JD x=x:=by unfold JD;rw [Zc,Zc];exact Edit.eta x
def Zu2(x:Kid):Kid:=KidOf.mk (KidOf.at_ x) (JD (KidOf.e x))
@[simp] theorem Zgk (x:Kid):Zu2 x=x:=by unfold Zu2;rw [Za]
def Zrp(x:Op):Op:=OpOf.mk (OpOf.kind x) (OpOf.n x) (OpOf.l x) (JD (OpOf.e x))
@[simp] theorem Yv (x:Op):Zrp x=x:=by unfold Zrp;rw [Za]
def ZjF(x:Piece):Piece:=Piece.mk (Piece.of x) (Zrp (Piece.p x)) (Zrp (Piece.q x))
@[simp] theorem ZuP (x:Piece):ZjF x=x:=by unfold ZjF;rw [Yv,Yv]
def Zes(x:AUnit):AUnit:=AUnit.mk (AUnit.step x) (AUnit.kind x) (Zet (AUnit.t x)) (JD (AUnit.e x)) (AUnit.alone x)
@[simp] theorem Zda (x:AUnit):Zes x=x:=by unfold Zes;rw [Za,Zc]
def Zo1(x:APair):APair:=APair.mk (APair.of x) (Zes (APair.p x)) (Zes (APair.q x))
@[simp] theorem Zxp (x:APair):Zo1 x=x:=by unfold Zo1;rw [Zda,Zda]
def ZuO(x:PStep):PStep:=PStep.mk (PStep.kind x) (PStep.at_ x)
@[simp] theorem Zxo (x:PStep):ZuO x=x:=rfl
def Zo3(x:Deed):Deed:=Deed.mk (Deed.kind x) (Deed.i x) (JD (Deed.e x))
@[simp] theorem Zxq (x:Deed):Zo3 x=x:=by unfold Zo3;rw [Za]
end Go.AM
