import Derived.Test.YtfapacabjkhepaaVmP
set_option linter.unusedSimpArgs false
set_option linter.unusedVariables false
namespace Go.AM
structure WEdit where
 at_:Int
 mask:Int
 old:Int
 new:Int
inductive Tree where
 | mk (kind:Int) (words:List Int) (kids:List Tree)
def Tree.kind:Tree->Int | .mk k _ _=> k
def Tree.words:Tree->List Int | .mk _ w _=> w
def Tree.kids:Tree->List Tree | .mk _ _ k=> k
@[simp] theorem Tree.eta (t:Tree):Tree.mk t.kind t.words t.kids=t:=by cases t;rfl
@[simp] theorem Tree.kind_mk (k:Int) (w:List Int) (ks:List Tree):(Tree.mk k w ks).kind=k:=rfl
@[simp] theorem Tree.words_mk (k:Int) (w:List Int) (ks:List Tree):(Tree.mk k w ks).words=w:=rfl
@[simp] theorem Tree.kids_mk (k:Int) (w:List Int) (ks:List Tree):(Tree.mk k w ks).kids=ks:=rfl
structure KidOf (E:Type) where
 at_:Int
 e:E
structure OpOf (E:Type) where
 kind:Int
 n:Int
 l:List Tree
 e:E
inductive Edit where
 | mk (kind:Int) (old new:Tree) (words:List WEdit) (kids:List (KidOf Edit)) (list:Int) (ops:List (OpOf Edit))
abbrev Kid:=KidOf Edit
abbrev Op:=OpOf Edit
def Edit.kind:Edit->Int | .mk k _ _ _ _ _ _=> k
def Edit.old:Edit->Tree | .mk _ o _ _ _ _ _=> o
def Edit.new:Edit->Tree | .mk _ _ n _ _ _ _=> n
def Edit.words:Edit->List WEdit | .mk _ _ _ w _ _ _=> w
def Edit.kids:Edit->List Kid | .mk _ _ _ _ k _ _=> k
def Edit.list:Edit->Int | .mk _ _ _ _ _ l _=> l
def Edit.ops:Edit->List Op | .mk _ _ _ _ _ _ o=> o
@[simp] theorem Edit.eta (e:Edit):Edit.mk e.kind e.old e.new e.words e.kids e.list e.ops=e:=by cases e;rfl
section
variable (k:Int) (o n:Tree) (w:List WEdit) (ks:List Kid) (l:Int) (os:List Op)
@[simp] theorem Edit.kind_mk:(Edit.mk k o n w ks l os).kind=k:=rfl
@[simp] theorem Edit.old_mk:(Edit.mk k o n w ks l os).old=o:=rfl
@[simp] theorem Edit.new_mk:(Edit.mk k o n w ks l os).new=n:=rfl
@[simp] theorem Edit.words_mk:(Edit.mk k o n w ks l os).words=w:=rfl
@[simp] theorem Edit.kids_mk:(Edit.mk k o n w ks l os).kids=ks:=rfl
@[simp] theorem Edit.list_mk:(Edit.mk k o n w ks l os).list=l:=rfl
@[simp] theorem Edit.ops_mk:(Edit.mk k o n w ks l os).ops=os:=rfl
end
def Tree.nil:Tree:= .mk 0 [] []
def Edit.nil:Edit:= .mk 0 Tree.nil Tree.nil [] [] 0 []
def Op.nil:Op:=⟨0,0,[],Edit.nil⟩
structure AUnit where
 step:Int
 kind:Int
 t:Tree
 e:Edit
 alone:Bool
structure PStep where
 kind:Int
 at_:Int
structure Bnd where
 first:Tree
 log:List Edit
structure Piece where
 of:Int
 p:Op
 q:Op
inductive Ty where
 | u64 | u8 | int | tree | wedit | edit | kid | op | piece | bundle | rbundle
 deriving DecidableEq
@[reducible] def El:Ty->Type
 | .u64=> Int
 | .u8=> Int
 | .int=> Int
 | .tree=> Tree
 | .wedit=> WEdit
 | .edit=> Edit
 | .kid=> Kid
 | .op=> Op
 | .piece=> Piece
 | .bundle=> Bnd
 | .rbundle=> Bnd
@[reducible] def U:Uni:={ Ty:=Ty,El:=El }
abbrev sl(T:Ty)(l:List (El T)):C U:= .slice (U:=U) T l .unk
def ZuC(x:Tree):List (C U):=[.int .i64 x.kind,sl .u64 x.words,sl .tree x.kids]
def ZpZ(x:WEdit):List (C U):=[.int .i64 x.at_,.int .u8 x.mask,.int .u64 x.old,.int .u64 x.new]
def ZuD(x:Edit):List (C U):=[.int .i64 x.kind,.int .i64 x.old.kind,sl .u64 x.old.words,sl .tree x.old.kids,.int .i64 x.new.kind,sl .u64 x.new.words,sl .tree x.new.kids,sl .wedit x.words,sl .kid x.kids,.int .i64 x.list,sl .op x.ops]
def ZzG(x:Kid):List (C U):=[.int .i64 x.at_,.int .i64 x.e.kind,.int .i64 x.e.old.kind,sl .u64 x.e.old.words,sl .tree x.e.old.kids,.int .i64 x.e.new.kind,sl .u64 x.e.new.words,sl .tree x.e.new.kids,sl .wedit x.e.words,sl .kid x.e.kids,.int .i64 x.e.list,sl .op x.e.ops]
def eOp(x:Op):List (C U):=[.int .i64 x.kind,.int .i64 x.n,sl .tree x.l,.int .i64 x.e.kind,.int .i64 x.e.old.kind,sl .u64 x.e.old.words,sl .tree x.e.old.kids,.int .i64 x.e.new.kind,sl .u64 x.e.new.words,sl .tree x.e.new.kids,sl .wedit x.e.words,sl .kid x.e.kids,.int .i64 x.e.list,sl .op x.e.ops]
def Zq0(x:Piece):List (C U):=[.int .i64 x.of,.int .i64 x.p.kind,.int .i64 x.p.n,sl .tree x.p.l,.int .i64 x.p.e.kind,.int .i64 x.p.e.old.kind,sl .u64 x.p.e.old.words,sl .tree x.p.e.old.kids,.int .i64 x.p.e.new.kind,sl .u64 x.p.e.new.words,sl .tree x.p.e.new.kids,sl .wedit x.p.e.words,sl .kid x.p.e.kids,.int .i64 x.p.e.list,sl .op x.p.e.ops,.int .i64 x.q.kind,.int .i64 x.q.n,sl .tree x.q.l,.int .i64 x.q.e.kind,.int .i64 x.q.e.old.kind,sl .u64 x.q.e.old.words,sl .tree x.q.e.old.kids,.int .i64 x.q.e.new.kind,sl .u64 x.q.e.new.words,sl .tree x.q.e.new.kids,sl .wedit x.q.e.words,sl .kid x.q.e.kids,.int .i64 x.q.e.list,sl .op x.q.e.ops]
def ZlA(x:Bnd):List (C U):=[.int .i64 x.first.kind,sl .u64 x.first.words,sl .tree x.first.kids,sl .edit x.log]
def enc:(T:Ty)->El T->List (C U)
 | .u64,n=> [.int .u64 n]
 | .u8,n=> [.int .u8 n]
 | .int,n=> [.int .i64 n]
 | .tree,x=> ZuC x
 | .wedit,x=> ZpZ x
 | .edit,x=> ZuD x
 | .kid,x=> ZzG x
 | .op,x=> eOp x
 | .piece,x=> Zq0 x
 | .bundle,x=> ZlA x
 | .rbundle,x=> ZlA x
abbrev Rd(α:Type):=List (C U)->Option (α × List (C U))
def Z69(k:IntKind):Rd Int
 | .int k' n ::r=> if k=k' then some (n,r) else none
 | _=> none
def rSl(T:Ty):Rd (List (El T))
 | .nils ::r=> some ([],r)
 | .slice S l _ ::r=> match (inferInstance:DecidableEq Ty) S T with
  | isTrue h=> some (h▸l,r)
  | isFalse _=> none
 | _=> none
def Jb{α β:Type}(x:Rd α)(f:α->Rd β):Rd β:=fun cs=> match x cs with
 | some (a,r)=> f a r
 | none=> none
def Zam{α:Type}(a:α):Rd α:=fun cs=> some (a,cs)
def WkL:List (C U)->List (C U)->Prop
 | [],[]=> True
 | c ::r,c' ::r'=> Wk c c'/\WkL r r'
 | _,_=> False
theorem WkL.append:∀ {a b c d:List (C U)},WkL a b->WkL c d->WkL (a++c) (b++d)
 | [],[],_,_,_,h=> h
 | _ ::_,_ ::_,_,_,h,k=> ⟨h.1,WkL.append h.2 k⟩
theorem WkL.get:∀ {a b:List (C U)},WkL a b->a.length=b.length/\∀ (j:Nat) c c',a[j]?=some c->b[j]?=some c'->Wk c c'
 | [],[],_=> ⟨rfl,fun j c c' h=> by simp at h⟩
 | x ::a,y ::b,h=> by
  obtain ⟨h1,h2⟩:=WkL.get h.2
  refine ⟨by simp [h1],fun j c c' hc hc'=> ?_⟩
  cases j with
  | zero=> simp at hc hc';subst hc hc';exact h.1
  | succ j=> exact h2 j c c' (by simpa using hc) (by simpa using hc')
def Z4L{α:Type}(r:Rd α)(e:α->List (C U)):Prop:=∀ cs x rest,r cs=some (x,rest)->∃ p,cs=p++rest/\WkL p (e x)
theorem YE(k:IntKind):Z4L (Z69 k) fun n=> [.int k n]:=by
 intro cs x rest h
 unfold Z69 at h
 split at h
 .split at h
  .rename_i hk
   subst hk
   cases h
   exact ⟨[_],rfl,.int _ _,trivial⟩
  .cases h
 .cases h
theorem Z0O(T:Ty):Z4L (rSl T) fun l=> [sl T l]:=by
 intro cs x rest h
 unfold rSl at h
 split at h
 .cases h;exact ⟨[_],rfl,(Wk.snil (U:=U) T:Wk (U:=U) .nils (.slice T [] .unk)),trivial⟩
 .split at h
  .rename_i hST _
   subst hST
   cases h
   exact ⟨[_],rfl,.slice _ _ _,trivial⟩
  .cases h
 .cases h
theorem Jp{α β:Type}{x:Rd α}{f:α->Rd β}{ex:α->List (C U)}(hx:Z4L x ex){cs:List (C U)}{b:β}{rest:List (C U)}(h:Jb x f cs=some (b,rest)):
  ∃ a p r,cs=p++r/\WkL p (ex a)/\f a r=some (b,rest):=by
 unfold Jb at h
 split at h
 .rename_i a r ha
  obtain ⟨p,rfl,h1⟩:=hx _ _ _ ha
  exact ⟨a,p,r,rfl,h1,h⟩
 .cases h
def Zeh:Rd Tree:=Jb (Z69 .i64) fun x0=> Jb (rSl .u64) fun x1=> Jb (rSl .tree) fun x2=> Zam (Tree.mk x0 x1 x2)
theorem Z27:Z4L Zeh ZuC:=by
 intro cs x rest h
 obtain ⟨x0,p0,r0,rfl,w0,h⟩:=Jp (YE _) h
 obtain ⟨x1,p1,r1,rfl,w1,h⟩:=Jp (Z0O _) h
 obtain ⟨x2,p2,r2,rfl,w2,h⟩:=Jp (Z0O _) h
 cases h
 exact ⟨p0++(p1++(p2)),by simp,w0.append (w1.append (w2))⟩
def Zod:Rd WEdit:=Jb (Z69 .i64) fun x0=> Jb (Z69 .u8) fun x1=> Jb (Z69 .u64) fun x2=> Jb (Z69 .u64) fun x3=> Zam (WEdit.mk x0 x1 x2 x3)
theorem ZgY:Z4L Zod ZpZ:=by
 intro cs x rest h
 obtain ⟨x0,p0,r0,rfl,w0,h⟩:=Jp (YE _) h
 obtain ⟨x1,p1,r1,rfl,w1,h⟩:=Jp (YE _) h
 obtain ⟨x2,p2,r2,rfl,w2,h⟩:=Jp (YE _) h
 obtain ⟨x3,p3,r3,rfl,w3,h⟩:=Jp (YE _) h
 cases h
 exact ⟨p0++(p1++(p2++(p3))),by simp,w0.append (w1.append (w2.append (w3)))⟩
def Zl6:Rd Edit:=Jb (Z69 .i64) fun x0=> Jb Zeh fun x1=> Jb Zeh fun x2=> Jb (rSl .wedit) fun x3=> Jb (rSl .kid) fun x4=> Jb (Z69 .i64) fun x5=> Jb (rSl .op) fun x6=> Zam (Edit.mk x0 x1 x2 x3 x4 x5 x6)
theorem Z6Q:Z4L Zl6 ZuD:=by
 intro cs x rest h
 obtain ⟨x0,p0,r0,rfl,w0,h⟩:=Jp (YE _) h
 obtain ⟨x1,p1,r1,rfl,w1,h⟩:=Jp Z27 h
 obtain ⟨x2,p2,r2,rfl,w2,h⟩:=Jp Z27 h
 obtain ⟨x3,p3,r3,rfl,w3,h⟩:=Jp (Z0O _) h
 obtain ⟨x4,p4,r4,rfl,w4,h⟩:=Jp (Z0O _) h
 obtain ⟨x5,p5,r5,rfl,w5,h⟩:=Jp (YE _) h
 obtain ⟨x6,p6,r6,rfl,w6,h⟩:=Jp (Z0O _) h
 cases h
 exact ⟨p0++(p1++(p2++(p3++(p4++(p5++(p6)))))),by simp,w0.append (w1.append (w2.append (w3.append (w4.append (w5.append (w6))))))⟩
def Zzk:Rd Kid:=Jb (Z69 .i64) fun x0=> Jb Zl6 fun x1=> Zam (KidOf.mk x0 x1)
theorem Zme:Z4L Zzk ZzG:=by
 intro cs x rest h
 obtain ⟨x0,p0,r0,rfl,w0,h⟩:=Jp (YE _) h
 obtain ⟨x1,p1,r1,rfl,w1,h⟩:=Jp Z6Q h
 cases h
 exact ⟨p0++(p1),by simp,w0.append (w1)⟩
def rOp:Rd Op:=Jb (Z69 .i64) fun x0=> Jb (Z69 .i64) fun x1=> Jb (rSl .tree) fun x2=> Jb Zl6 fun x3=> Zam (OpOf.mk x0 x1 x2 x3)
theorem Zcq:Z4L rOp eOp:=by
 intro cs x rest h
 obtain ⟨x0,p0,r0,rfl,w0,h⟩:=Jp (YE _) h
 obtain ⟨x1,p1,r1,rfl,w1,h⟩:=Jp (YE _) h
 obtain ⟨x2,p2,r2,rfl,w2,h⟩:=Jp (Z0O _) h
 obtain ⟨x3,p3,r3,rfl,w3,h⟩:=Jp Z6Q h
 cases h
 exact ⟨p0++(p1++(p2++(p3))),by simp,w0.append (w1.append (w2.append (w3)))⟩
def Zof:Rd Piece:=Jb (Z69 .i64) fun x0=> Jb rOp fun x1=> Jb rOp fun x2=> Zam (Piece.mk x0 x1 x2)
theorem ZgZ:Z4L Zof Zq0:=by
 intro cs x rest h
 obtain ⟨x0,p0,r0,rfl,w0,h⟩:=Jp (YE _) h
 obtain ⟨x1,p1,r1,rfl,w1,h⟩:=Jp Zcq h
 obtain ⟨x2,p2,r2,rfl,w2,h⟩:=Jp Zcq h
 cases h
 exact ⟨p0++(p1++(p2)),by simp,w0.append (w1.append (w2))⟩
def Zl7:Rd Bnd:=Jb Zeh fun x0=> Jb (rSl .edit) fun x1=> Zam (Bnd.mk x0 x1)
theorem Zfv:Z4L Zl7 ZlA:=by
 intro cs x rest h
 obtain ⟨x0,p0,r0,rfl,w0,h⟩:=Jp Z27 h
 obtain ⟨x1,p1,r1,rfl,w1,h⟩:=Jp (Z0O _) h
 cases h
 exact ⟨p0++(p1),by simp,w0.append (w1)⟩
theorem Zdy:Z4L Zl7 ZlA:=by
 intro cs x rest h
 obtain ⟨x0,p0,r0,rfl,w0,h⟩:=Jp Z27 h
 obtain ⟨x1,p1,r1,rfl,w1,h⟩:=Jp (Z0O _) h
 cases h
 exact ⟨p0++(p1),by simp,w0.append (w1)⟩
def rEl:(T:Ty)->Rd (El T)
 | .u64=> Z69 .u64
 | .u8=> Z69 .u8
 | .int=> Z69 .i64
 | .tree=> Zeh
 | .wedit=> Zod
 | .edit=> Zl6
 | .kid=> Zzk
 | .op=> rOp
 | .piece=> Zof
 | .bundle=> Zl7
 | .rbundle=> Zl7
theorem Zh0:∀ T:Ty,Z4L (rEl T) (enc T)
 | .u64=> YE _
 | .u8=> YE _
 | .int=> YE _
 | .tree=> Z27
 | .wedit=> ZgY
 | .edit=> Z6Q
 | .kid=> Zme
 | .op=> Zcq
 | .piece=> ZgZ
 | .bundle=> Zfv
 | .rbundle=> Zdy
def dec(T:Ty)(cs:List (C U)):Option (El T):=
 match rEl T cs with
 | some (x,[])=> some x
 | _=> none
def K:Codec U:=
 {tyEq:=inferInstanceAs (DecidableEq Ty)
  dflt:=fun T=> match T with
   | .u64=> (0:Int) | .u8=> (0:Int) | .int=> (0:Int) | .tree=> Tree.nil | .wedit=> WEdit.mk 0 0 0 0 | .edit=> Edit.nil | .kid=> KidOf.mk 0 Edit.nil | .op=> Op.nil | .piece=> Piece.mk 0 Op.nil Op.nil | .bundle=> Bnd.mk Tree.nil [] | .rbundle=> Bnd.mk Tree.nil []
  enc:=enc
  dec:=dec
  aggT:=fun T=> match T with | .u64 | .u8 | .int=> false | _=> true
  sz:=fun T=> match T with | .u64=> 1 | .u8=> 1 | .int=> 1 | .tree=> 3 | .wedit=> 4 | .edit=> 11 | .kid=> 12 | .op=> 14 | .piece=> 29 | .bundle=> 4 | .rbundle=> 4
  bytes:=fun T=> match T with | .u64=> 8 | .u8=> 1 | .int=> 8 | .tree=> 56 | .wedit=> 32 | .edit=> 200 | .kid=> 208 | .op=> 240 | .piece=> 488 | .bundle=> 80 | .rbundle=> 80 }
theorem ZBL:CodecOk K:=by
 refine ⟨?_,?_,?_,?_,?_⟩
 .intro T x
  cases T <;> rfl
 .intro T x c hc
  have h:(enc T x).all C.plain=true:=by cases T <;> rfl
  exact QA.1 h c hc
 .intro T cs x h
  have h':dec T cs=some x:=h
  unfold dec at h'
  split at h'
  .rename_i y he
   cases h'
   obtain ⟨p,hp,hw⟩:=Zh0 T _ _ _ he
   rw [Qp] at hp
   subst hp
   exact hw.get
  .cases h'
 .intro T;cases T <;> decide
 .intro T;cases T <;> decide
theorem Ztz(T:Ty)(x:El T):dec T (enc T x)=some x:=by
 cases T with
 | u64=> rfl
 | u8=> rfl
 | int=> rfl
 | tree=> cases x;rfl
 | wedit=> rfl
 | edit=> obtain ⟨k,⟨_,_,_⟩,⟨_,_,_⟩,w,ks,l,os⟩:=x;rfl
 | kid=> obtain ⟨a,⟨k,⟨_,_,_⟩,⟨_,_,_⟩,w,ks,l,os⟩⟩:=x;rfl
 | op=> obtain ⟨a,b,c,⟨k,⟨_,_,_⟩,⟨_,_,_⟩,w,ks,l,os⟩⟩:=x;rfl
 | piece=> obtain ⟨_,⟨_,_,_,⟨_,⟨_,_,_⟩,⟨_,_,_⟩,_,_,_,_⟩⟩,⟨_,_,_,⟨_,⟨_,_,_⟩,⟨_,_,_⟩,_,_,_,_⟩⟩⟩:=x;rfl
 | bundle=> obtain ⟨⟨_,_,_⟩,_⟩:=x;rfl
 | rbundle=> obtain ⟨⟨_,_,_⟩,_⟩:=x;rfl
def Z4i(x:Tree):Tree:=Tree.mk (Tree.kind x) (Tree.words x) (Tree.kids x)
@[simp] theorem Za (x:Tree):Z4i x=x:=Tree.eta x
def ZsD(x:WEdit):WEdit:=WEdit.mk (WEdit.at_ x) (WEdit.mask x) (WEdit.old x) (WEdit.new x)
@[simp] theorem Z6R (x:WEdit):ZsD x=x:=rfl
def JJ(x:Edit):Edit:=Edit.mk (Edit.kind x) (Z4i (Edit.old x)) (Z4i (Edit.new x)) (Edit.words x) (Edit.kids x) (Edit.list x) (Edit.ops x)
@[simp] theorem Zf (x:Edit):JJ x=x:=by unfold JJ;rw [Za,Za];exact Edit.eta x
def Zur(x:Kid):Kid:=KidOf.mk (KidOf.at_ x) (JJ (KidOf.e x))
@[simp] theorem Zcr (x:Kid):Zur x=x:=by unfold Zur;rw [Zf]
def ZiZ(x:Op):Op:=OpOf.mk (OpOf.kind x) (OpOf.n x) (OpOf.l x) (JJ (OpOf.e x))
@[simp] theorem Jy (x:Op):ZiZ x=x:=by unfold ZiZ;rw [Zf]
def Zl2(x:Piece):Piece:=Piece.mk (Piece.of x) (ZiZ (Piece.p x)) (ZiZ (Piece.q x))
@[simp] theorem ZiY (x:Piece):Zl2 x=x:=by unfold Zl2;rw [Jy,Jy]
def Zh1(x:Bnd):Bnd:=Bnd.mk (Z4i (Bnd.first x)) (Bnd.log x)
@[simp] theorem Zal (x:Bnd):Zh1 x=x:=by unfold Zh1;rw [Za]
def Zeg(x:Bnd):Bnd:=Bnd.mk (Z4i (Bnd.first x)) (Bnd.log x)
@[simp] theorem ZsE (x:Bnd):Zeg x=x:=by unfold Zeg;rw [Za]
end Go.AM
