import Derived.Test.YtfapacabjkhepaaGreatWmP
set_option linter.unusedSimpArgs false
set_option linter.unusedVariables false
namespace Go.AM
structure WEdit where
 at_:Int
 mask:Int
 old:Int
 new:Int
inductive Tree where
 | mk (kind:Int) (words:List Int) (kids:List Tree)
def Tree.kind:Tree->Int | .mk k _ _=> k
def Tree.words:Tree->List Int | .mk _ w _=> w
def Tree.kids:Tree->List Tree | .mk _ _ k=> k
@[simp] theorem Tree.eta (t:Tree):Tree.mk t.kind t.words t.kids=t:=by cases t;rfl
@[simp] theorem Tree.kind_mk (k:Int) (w:List Int) (ks:List Tree):(Tree.mk k w ks).kind=k:=rfl
@[simp] theorem Tree.words_mk (k:Int) (w:List Int) (ks:List Tree):(Tree.mk k w ks).words=w:=rfl
@[simp] theorem Tree.kids_mk (k:Int) (w:List Int) (ks:List Tree):(Tree.mk k w ks).kids=ks:=rfl
structure KidOf (E:Type) where
 at_:Int
 e:E
structure OpOf (E:Type) where
 kind:Int
 n:Int
 l:List Tree
 e:E
inductive Edit where
 | mk (kind:Int) (old new:Tree) (words:List WEdit) (kids:List (KidOf Edit)) (list:Int) (ops:List (OpOf Edit))
abbrev Kid:=KidOf Edit
abbrev Op:=OpOf Edit
def Edit.kind:Edit->Int | .mk k _ _ _ _ _ _=> k
def Edit.old:Edit->Tree | .mk _ o _ _ _ _ _=> o
def Edit.new:Edit->Tree | .mk _ _ n _ _ _ _=> n
def Edit.words:Edit->List WEdit | .mk _ _ _ w _ _ _=> w
def Edit.kids:Edit->List Kid | .mk _ _ _ _ k _ _=> k
def Edit.list:Edit->Int | .mk _ _ _ _ _ l _=> l
def Edit.ops:Edit->List Op | .mk _ _ _ _ _ _ o=> o
@[simp] theorem Edit.eta (e:Edit):Edit.mk e.kind e.old e.new e.words e.kids e.list e.ops=e:=by cases e;rfl
section
variable (k:Int) (o n:Tree) (w:List WEdit) (ks:List Kid) (l:Int) (os:List Op)
@[simp] theorem Edit.kind_mk:(Edit.mk k o n w ks l os).kind=k:=rfl
@[simp] theorem Edit.old_mk:(Edit.mk k o n w ks l os).old=o:=rfl
@[simp] theorem Edit.new_mk:(Edit.mk k o n w ks l os).new=n:=rfl
@[simp] theorem Edit.words_mk:(Edit.mk k o n w ks l os).words=w:=rfl
@[simp] theorem Edit.kids_mk:(Edit.mk k o n w ks l os).kids=ks:=rfl
@[simp] theorem Edit.list_mk:(Edit.mk k o n w ks l os).list=l:=rfl
@[simp] theorem Edit.ops_mk:(Edit.mk k o n w ks l os).ops=os:=rfl
end
def Tree.nil:Tree:= .mk 0 [] []
def Edit.nil:Edit:= .mk 0 Tree.nil Tree.nil [] [] 0 []
def Op.nil:Op:=⟨0,0,[],Edit.nil⟩
structure AUnit where
 step:Int
 kind:Int
 t:Tree
 e:Edit
 alone:Bool
def AUnit.nil:AUnit:=⟨0,0,Tree.nil,Edit.nil,false⟩
structure PStep where
 kind:Int
 at_:Int
structure Bnd where
 first:Tree
 log:List Edit
structure Piece where
 of:Int
 p:Op
 q:Op
structure APair where
 of:Int
 p:AUnit
 q:AUnit
inductive Ty where
 | u64 | u8 | int | tree | wedit | edit | kid | op | piece | unit | pair | bundle | rbundle
 deriving DecidableEq
@[reducible] def El:Ty->Type
 | .u64=> Int
 | .u8=> Int
 | .int=> Int
 | .tree=> Tree
 | .wedit=> WEdit
 | .edit=> Edit
 | .kid=> Kid
 | .op=> Op
 | .piece=> Piece
 | .unit=> AUnit
 | .pair=> APair
 | .bundle=> Bnd
 | .rbundle=> Bnd
@[reducible] def U:Uni:={ Ty:=Ty,El:=El }
abbrev sl(T:Ty)(l:List (El T)):C U:= .slice (U:=U) T l .unk
def ZBU(x:Tree):List (C U):=[.int .i64 x.kind,sl .u64 x.words,sl .tree x.kids]
def Zwr(x:WEdit):List (C U):=[.int .i64 x.at_,.int .u8 x.mask,.int .u64 x.old,.int .u64 x.new]
def ZBW(x:Edit):List (C U):=[.int .i64 x.kind,.int .i64 x.old.kind,sl .u64 x.old.words,sl .tree x.old.kids,.int .i64 x.new.kind,sl .u64 x.new.words,sl .tree x.new.kids,sl .wedit x.words,sl .kid x.kids,.int .i64 x.list,sl .op x.ops]
def ZHY(x:Kid):List (C U):=[.int .i64 x.at_,.int .i64 x.e.kind,.int .i64 x.e.old.kind,sl .u64 x.e.old.words,sl .tree x.e.old.kids,.int .i64 x.e.new.kind,sl .u64 x.e.new.words,sl .tree x.e.new.kids,sl .wedit x.e.words,sl .kid x.e.kids,.int .i64 x.e.list,sl .op x.e.ops]
def eOp(x:Op):List (C U):=[.int .i64 x.kind,.int .i64 x.n,sl .tree x.l,.int .i64 x.e.kind,.int .i64 x.e.old.kind,sl .u64 x.e.old.words,sl .tree x.e.old.kids,.int .i64 x.e.new.kind,sl .u64 x.e.new.words,sl .tree x.e.new.kids,sl .wedit x.e.words,sl .kid x.e.kids,.int .i64 x.e.list,sl .op x.e.ops]
def Zws(x:Piece):List (C U):=[.int .i64 x.of,.int .i64 x.p.kind,.int .i64 x.p.n,sl .tree x.p.l,.int .i64 x.p.e.kind,.int .i64 x.p.e.old.kind,sl .u64 x.p.e.old.words,sl .tree x.p.e.old.kids,.int .i64 x.p.e.new.kind,sl .u64 x.p.e.new.words,sl .tree x.p.e.new.kids,sl .wedit x.p.e.words,sl .kid x.p.e.kids,.int .i64 x.p.e.list,sl .op x.p.e.ops,.int .i64 x.q.kind,.int .i64 x.q.n,sl .tree x.q.l,.int .i64 x.q.e.kind,.int .i64 x.q.e.old.kind,sl .u64 x.q.e.old.words,sl .tree x.q.e.old.kids,.int .i64 x.q.e.new.kind,sl .u64 x.q.e.new.words,sl .tree x.q.e.new.kids,sl .wedit x.q.e.words,sl .kid x.q.e.kids,.int .i64 x.q.e.list,sl .op x.q.e.ops]
def ZBT(x:AUnit):List (C U):=[.int .i64 x.step,.int .i64 x.kind,.int .i64 x.t.kind,sl .u64 x.t.words,sl .tree x.t.kids,.int .i64 x.e.kind,.int .i64 x.e.old.kind,sl .u64 x.e.old.words,sl .tree x.e.old.kids,.int .i64 x.e.new.kind,sl .u64 x.e.new.words,sl .tree x.e.new.kids,sl .wedit x.e.words,sl .kid x.e.kids,.int .i64 x.e.list,sl .op x.e.ops,.bool x.alone]
def ZBV(x:APair):List (C U):=[.int .i64 x.of,.int .i64 x.p.step,.int .i64 x.p.kind,.int .i64 x.p.t.kind,sl .u64 x.p.t.words,sl .tree x.p.t.kids,.int .i64 x.p.e.kind,.int .i64 x.p.e.old.kind,sl .u64 x.p.e.old.words,sl .tree x.p.e.old.kids,.int .i64 x.p.e.new.kind,sl .u64 x.p.e.new.words,sl .tree x.p.e.new.kids,sl .wedit x.p.e.words,sl .kid x.p.e.kids,.int .i64 x.p.e.list,sl .op x.p.e.ops,.bool x.p.alone,.int .i64 x.q.step,.int .i64 x.q.kind,.int .i64 x.q.t.kind,sl .u64 x.q.t.words,sl .tree x.q.t.kids,.int .i64 x.q.e.kind,.int .i64 x.q.e.old.kind,sl .u64 x.q.e.old.words,sl .tree x.q.e.old.kids,.int .i64 x.q.e.new.kind,sl .u64 x.q.e.new.words,sl .tree x.q.e.new.kids,sl .wedit x.q.e.words,sl .kid x.q.e.kids,.int .i64 x.q.e.list,sl .op x.q.e.ops,.bool x.q.alone]
def Zqj(x:Bnd):List (C U):=[.int .i64 x.first.kind,sl .u64 x.first.words,sl .tree x.first.kids,sl .edit x.log]
def enc:(T:Ty)->El T->List (C U)
 | .u64,n=> [.int .u64 n]
 | .u8,n=> [.int .u8 n]
 | .int,n=> [.int .i64 n]
 | .tree,x=> ZBU x
 | .wedit,x=> Zwr x
 | .edit,x=> ZBW x
 | .kid,x=> ZHY x
 | .op,x=> eOp x
 | .piece,x=> Zws x
 | .unit,x=> ZBT x
 | .pair,x=> ZBV x
 | .bundle,x=> Zqj x
 | .rbundle,x=> Zqj x
abbrev Rd(α:Type):=List (C U)->Option (α × List (C U))
def Z5t(k:IntKind):Rd Int
 | .int k' n ::r=> if k=k' then some (n,r) else none
 | _=> none
def Zuv:Rd Bool
 | .bool b ::r=> some (b,r)
 | _=> none
def rSl(T:Ty):Rd (List (El T))
 | .nils ::r=> some ([],r)
 | .slice S l _ ::r=> match (inferInstance:DecidableEq Ty) S T with
  | isTrue h=> some (h▸l,r)
  | isFalse _=> none
 | _=> none
def Yq{α β:Type}(x:Rd α)(f:α->Rd β):Rd β:=fun cs=> match x cs with
 | some (a,r)=> f a r
 | none=> none
def Z8g{α:Type}(a:α):Rd α:=fun cs=> some (a,cs)
def WkL:List (C U)->List (C U)->Prop
 | [],[]=> True
 | c ::r,c' ::r'=> Wk c c'/\WkL r r'
 | _,_=> False
theorem WkL.append:∀ {a b c d:List (C U)},WkL a b->WkL c d->WkL (a++c) (b++d)
 | [],[],_,_,_,h=> h
 | _ ::_,_ ::_,_,_,h,k=> ⟨h.1,WkL.append h.2 k⟩
theorem WkL.get:∀ {a b:List (C U)},WkL a b->a.length=b.length/\∀ (j:Nat) c c',a[j]?=some c->b[j]?=some c'->Wk c c'
 | [],[],_=> ⟨rfl,fun j c c' h=> by simp at h⟩
 | x ::a,y ::b,h=> by
  obtain ⟨h1,h2⟩:=WkL.get h.2
  refine ⟨by simp [h1],fun j c c' hc hc'=> ?_⟩
  cases j with
  | zero=> simp at hc hc';subst hc hc';exact h.1
  | succ j=> exact h2 j c c' (by simpa using hc) (by simpa using hc')
def Z3o{α:Type}(r:Rd α)(e:α->List (C U)):Prop:=∀ cs x rest,r cs=some (x,rest)->∃ p,cs=p++rest/\WkL p (e x)
theorem Yg(k:IntKind):Z3o (Z5t k) fun n=> [.int k n]:=by
 intro cs x rest h
 unfold Z5t at h
 split at h
 .split at h
  .rename_i hk
   subst hk
   cases h
   exact ⟨[_],rfl,.int _ _,trivial⟩
  .cases h
 .cases h
theorem Zmz:Z3o Zuv fun b=> [.bool b]:=by
 intro cs x rest h
 unfold Zuv at h
 split at h
 .cases h;exact ⟨[_],rfl,.bool _,trivial⟩
 .cases h
theorem Z16(T:Ty):Z3o (rSl T) fun l=> [sl T l]:=by
 intro cs x rest h
 unfold rSl at h
 split at h
 .cases h;exact ⟨[_],rfl,(Wk.snil (U:=U) T:Wk (U:=U) .nils (.slice T [] .unk)),trivial⟩
 .split at h
  .rename_i hST _
   subst hST
   cases h
   exact ⟨[_],rfl,.slice _ _ _,trivial⟩
  .cases h
 .cases h
theorem YH{α β:Type}{x:Rd α}{f:α->Rd β}{ex:α->List (C U)}(hx:Z3o x ex){cs:List (C U)}{b:β}{rest:List (C U)}(h:Yq x f cs=some (b,rest)):
  ∃ a p r,cs=p++r/\WkL p (ex a)/\f a r=some (b,rest):=by
 unfold Yq at h
 split at h
 .rename_i a r ha
  obtain ⟨p,rfl,h1⟩:=hx _ _ _ ha
  exact ⟨a,p,r,rfl,h1,h⟩
 .cases h
def Zfk:Rd Tree:=Yq (Z5t .i64) fun x0=> Yq (rSl .u64) fun x1=> Yq (rSl .tree) fun x2=> Z8g (Tree.mk x0 x1 x2)
theorem Z1w:Z3o Zfk ZBU:=by
 intro cs x rest h
 obtain ⟨x0,p0,r0,rfl,w0,h⟩:=YH (Yg _) h
 obtain ⟨x1,p1,r1,rfl,w1,h⟩:=YH (Z16 _) h
 obtain ⟨x2,p2,r2,rfl,w2,h⟩:=YH (Z16 _) h
 cases h
 exact ⟨p0++(p1++(p2)),by simp,w0.append (w1.append (w2))⟩
def Zur:Rd WEdit:=Yq (Z5t .i64) fun x0=> Yq (Z5t .u8) fun x1=> Yq (Z5t .u64) fun x2=> Yq (Z5t .u64) fun x3=> Z8g (WEdit.mk x0 x1 x2 x3)
theorem ZkD:Z3o Zur Zwr:=by
 intro cs x rest h
 obtain ⟨x0,p0,r0,rfl,w0,h⟩:=YH (Yg _) h
 obtain ⟨x1,p1,r1,rfl,w1,h⟩:=YH (Yg _) h
 obtain ⟨x2,p2,r2,rfl,w2,h⟩:=YH (Yg _) h
 obtain ⟨x3,p3,r3,rfl,w3,h⟩:=YH (Yg _) h
 cases h
 exact ⟨p0++(p1++(p2++(p3))),by simp,w0.append (w1.append (w2.append (w3)))⟩
def ZkI:Rd Edit:=Yq (Z5t .i64) fun x0=> Yq Zfk fun x1=> Yq Zfk fun x2=> Yq (rSl .wedit) fun x3=> Yq (rSl .kid) fun x4=> Yq (Z5t .i64) fun x5=> Yq (rSl .op) fun x6=> Z8g (Edit.mk x0 x1 x2 x3 x4 x5 x6)
theorem Z5s:Z3o ZkI ZBW:=by
 intro cs x rest h
 obtain ⟨x0,p0,r0,rfl,w0,h⟩:=YH (Yg _) h
 obtain ⟨x1,p1,r1,rfl,w1,h⟩:=YH Z1w h
 obtain ⟨x2,p2,r2,rfl,w2,h⟩:=YH Z1w h
 obtain ⟨x3,p3,r3,rfl,w3,h⟩:=YH (Z16 _) h
 obtain ⟨x4,p4,r4,rfl,w4,h⟩:=YH (Z16 _) h
 obtain ⟨x5,p5,r5,rfl,w5,h⟩:=YH (Yg _) h
 obtain ⟨x6,p6,r6,rfl,w6,h⟩:=YH (Z16 _) h
 cases h
 exact ⟨p0++(p1++(p2++(p3++(p4++(p5++(p6)))))),by simp,w0.append (w1.append (w2.append (w3.append (w4.append (w5.append (w6))))))⟩
def ZHF:Rd Kid:=Yq (Z5t .i64) fun x0=> Yq ZkI fun x1=> Z8g (KidOf.mk x0 x1)
theorem Zrv:Z3o ZHF ZHY:=by
 intro cs x rest h
 obtain ⟨x0,p0,r0,rfl,w0,h⟩:=YH (Yg _) h
 obtain ⟨x1,p1,r1,rfl,w1,h⟩:=YH Z5s h
 cases h
 exact ⟨p0++(p1),by simp,w0.append (w1)⟩
def rOp:Rd Op:=Yq (Z5t .i64) fun x0=> Yq (Z5t .i64) fun x1=> Yq (rSl .tree) fun x2=> Yq ZkI fun x3=> Z8g (OpOf.mk x0 x1 x2 x3)
theorem Zff:Z3o rOp eOp:=by
 intro cs x rest h
 obtain ⟨x0,p0,r0,rfl,w0,h⟩:=YH (Yg _) h
 obtain ⟨x1,p1,r1,rfl,w1,h⟩:=YH (Yg _) h
 obtain ⟨x2,p2,r2,rfl,w2,h⟩:=YH (Z16 _) h
 obtain ⟨x3,p3,r3,rfl,w3,h⟩:=YH Z5s h
 cases h
 exact ⟨p0++(p1++(p2++(p3))),by simp,w0.append (w1.append (w2.append (w3)))⟩
def Zut:Rd Piece:=Yq (Z5t .i64) fun x0=> Yq rOp fun x1=> Yq rOp fun x2=> Z8g (Piece.mk x0 x1 x2)
theorem ZkE:Z3o Zut Zws:=by
 intro cs x rest h
 obtain ⟨x0,p0,r0,rfl,w0,h⟩:=YH (Yg _) h
 obtain ⟨x1,p1,r1,rfl,w1,h⟩:=YH Zff h
 obtain ⟨x2,p2,r2,rfl,w2,h⟩:=YH Zff h
 cases h
 exact ⟨p0++(p1++(p2)),by simp,w0.append (w1.append (w2))⟩
def Zp5:Rd AUnit:=Yq (Z5t .i64) fun x0=> Yq (Z5t .i64) fun x1=> Yq Zfk fun x2=> Yq ZkI fun x3=> Yq Zuv fun x4=> Z8g (AUnit.mk x0 x1 x2 x3 x4)
theorem Z8N:Z3o Zp5 ZBT:=by
 intro cs x rest h
 obtain ⟨x0,p0,r0,rfl,w0,h⟩:=YH (Yg _) h
 obtain ⟨x1,p1,r1,rfl,w1,h⟩:=YH (Yg _) h
 obtain ⟨x2,p2,r2,rfl,w2,h⟩:=YH Z1w h
 obtain ⟨x3,p3,r3,rfl,w3,h⟩:=YH Z5s h
 obtain ⟨x4,p4,r4,rfl,w4,h⟩:=YH Zmz h
 cases h
 exact ⟨p0++(p1++(p2++(p3++(p4)))),by simp,w0.append (w1.append (w2.append (w3.append (w4))))⟩
def ZBJ:Rd APair:=Yq (Z5t .i64) fun x0=> Yq Zp5 fun x1=> Yq Zp5 fun x2=> Z8g (APair.mk x0 x1 x2)
theorem Zmy:Z3o ZBJ ZBV:=by
 intro cs x rest h
 obtain ⟨x0,p0,r0,rfl,w0,h⟩:=YH (Yg _) h
 obtain ⟨x1,p1,r1,rfl,w1,h⟩:=YH Z8N h
 obtain ⟨x2,p2,r2,rfl,w2,h⟩:=YH Z8N h
 cases h
 exact ⟨p0++(p1++(p2)),by simp,w0.append (w1.append (w2))⟩
def Zp6:Rd Bnd:=Yq Zfk fun x0=> Yq (rSl .edit) fun x1=> Z8g (Bnd.mk x0 x1)
theorem ZiI:Z3o Zp6 Zqj:=by
 intro cs x rest h
 obtain ⟨x0,p0,r0,rfl,w0,h⟩:=YH Z1w h
 obtain ⟨x1,p1,r1,rfl,w1,h⟩:=YH (Z16 _) h
 cases h
 exact ⟨p0++(p1),by simp,w0.append (w1)⟩
theorem ZgN:Z3o Zp6 Zqj:=by
 intro cs x rest h
 obtain ⟨x0,p0,r0,rfl,w0,h⟩:=YH Z1w h
 obtain ⟨x1,p1,r1,rfl,w1,h⟩:=YH (Z16 _) h
 cases h
 exact ⟨p0++(p1),by simp,w0.append (w1)⟩
def rEl:(T:Ty)->Rd (El T)
 | .u64=> Z5t .u64
 | .u8=> Z5t .u8
 | .int=> Z5t .i64
 | .tree=> Zfk
 | .wedit=> Zur
 | .edit=> ZkI
 | .kid=> ZHF
 | .op=> rOp
 | .piece=> Zut
 | .unit=> Zp5
 | .pair=> ZBJ
 | .bundle=> Zp6
 | .rbundle=> Zp6
theorem ZkF:∀ T:Ty,Z3o (rEl T) (enc T)
 | .u64=> Yg _
 | .u8=> Yg _
 | .int=> Yg _
 | .tree=> Z1w
 | .wedit=> ZkD
 | .edit=> Z5s
 | .kid=> Zrv
 | .op=> Zff
 | .piece=> ZkE
 | .unit=> Z8N
 | .pair=> Zmy
 | .bundle=> ZiI
 | .rbundle=> ZgN
def dec(T:Ty)(cs:List (C U)):Option (El T):=
 match rEl T cs with
 | some (x,[])=> some x
 | _=> none
def K:Codec U:=
 {tyEq:=inferInstanceAs (DecidableEq Ty)
  dflt:=fun T=> match T with
   | .u64=> (0:Int) | .u8=> (0:Int) | .int=> (0:Int) | .tree=> Tree.nil | .wedit=> WEdit.mk 0 0 0 0 | .edit=> Edit.nil | .kid=> KidOf.mk 0 Edit.nil | .op=> Op.nil | .piece=> Piece.mk 0 Op.nil Op.nil | .unit=> AUnit.nil | .pair=> APair.mk 0 AUnit.nil AUnit.nil | .bundle=> Bnd.mk Tree.nil [] | .rbundle=> Bnd.mk Tree.nil []
  enc:=enc
  dec:=dec
  aggT:=fun T=> match T with | .u64 | .u8 | .int=> false | _=> true
  sz:=fun T=> match T with | .u64=> 1 | .u8=> 1 | .int=> 1 | .tree=> 3 | .wedit=> 4 | .edit=> 11 | .kid=> 12 | .op=> 14 | .piece=> 29 | .unit=> 17 | .pair=> 35 | .bundle=> 4 | .rbundle=> 4
  bytes:=fun T=> match T with | .u64=> 8 | .u8=> 1 | .int=> 8 | .tree=> 56 | .wedit=> 32 | .edit=> 200 | .kid=> 208 | .op=> 240 | .piece=> 488 | .unit=> 280 | .pair=> 568 | .bundle=> 80 | .rbundle=> 80 }
theorem ZK1:CodecOk K:=by
 refine ⟨?_,?_,?_,?_,?_⟩
 .intro T x
  cases T <;> rfl
 .intro T x c hc
  have h:(enc T x).all C.plain=true:=by cases T <;> rfl
  exact Qz.1 h c hc
 .intro T cs x h
  have h':dec T cs=some x:=h
  unfold dec at h'
  split at h'
  .rename_i y he
   cases h'
   obtain ⟨p,hp,hw⟩:=ZkF T _ _ _ he
   rw [Qs] at hp
   subst hp
   exact hw.get
  .cases h'
 .intro T;cases T <;> decide
 .intro T;cases T <;> decide
theorem ZA7(T:Ty)(x:El T):dec T (enc T x)=some x:=by
 cases T with
 | u64=> rfl
 | u8=> rfl
 | int=> rfl
 | tree=> cases x;rfl
 | wedit=> rfl
 | edit=> obtain ⟨k,⟨_,_,_⟩,⟨_,_,_⟩,w,ks,l,os⟩:=x;rfl
 | kid=> obtain ⟨a,⟨k,⟨_,_,_⟩,⟨_,_,_⟩,w,ks,l,os⟩⟩:=x;rfl
 | op=> obtain ⟨a,b,c,⟨k,⟨_,_,_⟩,⟨_,_,_⟩,w,ks,l,os⟩⟩:=x;rfl
 | piece=> obtain ⟨_,⟨_,_,_,⟨_,⟨_,_,_⟩,⟨_,_,_⟩,_,_,_,_⟩⟩,⟨_,_,_,⟨_,⟨_,_,_⟩,⟨_,_,_⟩,_,_,_,_⟩⟩⟩:=x;rfl
 | unit=> obtain ⟨_,_,⟨_,_,_⟩,⟨_,⟨_,_,_⟩,⟨_,_,_⟩,_,_,_,_⟩,_⟩:=x;rfl
 | pair=> obtain ⟨_,⟨_,_,⟨_,_,_⟩,⟨_,⟨_,_,_⟩,⟨_,_,_⟩,_,_,_,_⟩,_⟩,⟨_,_,⟨_,_,_⟩,⟨_,⟨_,_,_⟩,⟨_,_,_⟩,_,_,_,_⟩,_⟩⟩:=x;rfl
 | bundle=> obtain ⟨⟨_,_,_⟩,_⟩:=x;rfl
 | rbundle=> obtain ⟨⟨_,_,_⟩,_⟩:=x;rfl
def ZbL(x:Tree):Tree:=Tree.mk (Tree.kind x) (Tree.words x) (Tree.kids x)
@[simp] theorem Za (x:Tree):ZbL x=x:=Tree.eta x
def ZyG(x:WEdit):WEdit:=WEdit.mk (WEdit.at_ x) (WEdit.mask x) (WEdit.old x) (WEdit.new x)
@[simp] theorem Z1y (x:WEdit):ZyG x=x:=rfl
def Zfh(x:Edit):Edit:=Edit.mk (Edit.kind x) (ZbL (Edit.old x)) (ZbL (Edit.new x)) (Edit.words x) (Edit.kids x) (Edit.list x) (Edit.ops x)
@[simp] theorem Z7 (x:Edit):Zfh x=x:=by unfold Zfh;rw [Za,Za];exact Edit.eta x
def ZBI(x:Kid):Kid:=KidOf.mk (KidOf.at_ x) (Zfh (KidOf.e x))
@[simp] theorem Zfg (x:Kid):ZBI x=x:=by unfold ZBI;rw [Z7]
def ZyI(x:Op):Op:=OpOf.mk (OpOf.kind x) (OpOf.n x) (OpOf.l x) (Zfh (OpOf.e x))
@[simp] theorem YP (x:Op):ZyI x=x:=by unfold ZyI;rw [Z7]
def Zp2(x:Piece):Piece:=Piece.mk (Piece.of x) (ZyI (Piece.p x)) (ZyI (Piece.q x))
@[simp] theorem ZmB (x:Piece):Zp2 x=x:=by unfold Zp2;rw [YP,YP]
def ZiJ(x:AUnit):AUnit:=AUnit.mk (AUnit.step x) (AUnit.kind x) (ZbL (AUnit.t x)) (Zfh (AUnit.e x)) (AUnit.alone x)
@[simp] theorem Z0U (x:AUnit):ZiJ x=x:=by unfold ZiJ;rw [Z7,Za]
def Zuo(x:APair):APair:=APair.mk (APair.of x) (ZiJ (APair.p x)) (ZiJ (APair.q x))
@[simp] theorem ZGC (x:APair):Zuo x=x:=by unfold Zuo;rw [Z0U,Z0U]
def ZkG(x:Bnd):Bnd:=Bnd.mk (ZbL (Bnd.first x)) (Bnd.log x)
@[simp] theorem ZcV (x:Bnd):ZkG x=x:=by unfold ZkG;rw [Za]
def Zhp(x:Bnd):Bnd:=Bnd.mk (ZbL (Bnd.first x)) (Bnd.log x)
@[simp] theorem ZyH (x:Bnd):Zhp x=x:=by unfold Zhp;rw [Za]
end Go.AM
