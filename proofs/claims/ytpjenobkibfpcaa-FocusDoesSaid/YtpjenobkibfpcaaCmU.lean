import Derived.Test.YtpjenobkibfpcaaCmP
set_option linter.unusedSimpArgs false
set_option linter.unusedVariables false
namespace Go.AM
structure WEdit where
 at_:Int
 mask:Int
 old:Int
 new:Int
inductive Tree where
 | mk (kind:Int) (words:List Int) (kids:List Tree)
def Tree.kind:Tree→Int | .mk k _ _=> k
def Tree.words:Tree→List Int | .mk _ w _=> w
def Tree.kids:Tree→List Tree | .mk _ _ k=> k
@[simp] theorem Tree.eta (t:Tree):Tree.mk t.kind t.words t.kids=t:=by cases t;rfl
@[simp] theorem Tree.kind_mk (k:Int) (w:List Int) (ks:List Tree):(Tree.mk k w ks).kind=k:=rfl
@[simp] theorem Tree.words_mk (k:Int) (w:List Int) (ks:List Tree):(Tree.mk k w ks).words=w:=rfl
@[simp] theorem Tree.kids_mk (k:Int) (w:List Int) (ks:List Tree):(Tree.mk k w ks).kids=ks:=rfl
structure KidOf (E:Type) where
 at_:Int
 e:E
structure OpOf (E:Type) where
 kind:Int
 n:Int
 l:List Tree
 e:E
inductive Edit where
 | mk (kind:Int) (old new:Tree) (words:List WEdit) (kids:List (KidOf Edit)) (list:Int) (ops:List (OpOf Edit))
abbrev Kid:=KidOf Edit
abbrev Op:=OpOf Edit
def Edit.kind:Edit→Int | .mk k _ _ _ _ _ _=> k
def Edit.old:Edit→Tree | .mk _ o _ _ _ _ _=> o
def Edit.new:Edit→Tree | .mk _ _ n _ _ _ _=> n
def Edit.words:Edit→List WEdit | .mk _ _ _ w _ _ _=> w
def Edit.kids:Edit→List Kid | .mk _ _ _ _ k _ _=> k
def Edit.list:Edit→Int | .mk _ _ _ _ _ l _=> l
def Edit.ops:Edit→List Op | .mk _ _ _ _ _ _ o=> o
@[simp] theorem Edit.eta (e:Edit):Edit.mk e.kind e.old e.new e.words e.kids e.list e.ops=e:=by cases e;rfl
section
variable (k:Int) (o n:Tree) (w:List WEdit) (ks:List Kid) (l:Int) (os:List Op)
@[simp] theorem Edit.kind_mk:(Edit.mk k o n w ks l os).kind=k:=rfl
@[simp] theorem Edit.old_mk:(Edit.mk k o n w ks l os).old=o:=rfl
@[simp] theorem Edit.new_mk:(Edit.mk k o n w ks l os).new=n:=rfl
@[simp] theorem Edit.words_mk:(Edit.mk k o n w ks l os).words=w:=rfl
@[simp] theorem Edit.kids_mk:(Edit.mk k o n w ks l os).kids=ks:=rfl
@[simp] theorem Edit.list_mk:(Edit.mk k o n w ks l os).list=l:=rfl
@[simp] theorem Edit.ops_mk:(Edit.mk k o n w ks l os).ops=os:=rfl
end
def Tree.nil:Tree:= .mk 0 [] []
def Edit.nil:Edit:= .mk 0 Tree.nil Tree.nil [] [] 0 []
def Op.nil:Op:=⟨0,0,[],Edit.nil⟩
structure AUnit where
 step:Int
 kind:Int
 t:Tree
 e:Edit
 alone:Bool
def AUnit.nil:AUnit:=⟨0,0,Tree.nil,Edit.nil,false⟩
structure Piece where
 of:Int
 p:Op
 q:Op
structure APair where
 of:Int
 p:AUnit
 q:AUnit
structure PStep where
 kind:Int
 at_:Int
structure Deed where
 kind:Int
 i:Int
 e:Edit
inductive Ty where
 | u64 | u8 | int | tree | wedit | edit | kid | op | piece | unit | pair | step | deed
 deriving DecidableEq
@[reducible] def El:Ty→Type
 | .u64=> Int
 | .u8=> Int
 | .int=> Int
 | .tree=> Tree
 | .wedit=> WEdit
 | .edit=> Edit
 | .kid=> Kid
 | .op=> Op
 | .piece=> Piece
 | .unit=> AUnit
 | .pair=> APair
 | .step=> PStep
 | .deed=> Deed
@[reducible] def U:Uni:={ Ty:=Ty,El:=El }
abbrev sl(T:Ty)(l:List (El T)):C U:= .slice (U:=U) T l .unk
def Zp6(x:Tree):List (C U):=[.int .i64 x.kind,sl .u64 x.words,sl .tree x.kids]
def Zln(x:WEdit):List (C U):=[.int .i64 x.at_,.int .u8 x.mask,.int .u64 x.old,.int .u64 x.new]
def Zp9(x:Edit):List (C U):=[.int .i64 x.kind,.int .i64 x.old.kind,sl .u64 x.old.words,sl .tree x.old.kids,.int .i64 x.new.kind,sl .u64 x.new.words,sl .tree x.new.kids,sl .wedit x.words,sl .kid x.kids,.int .i64 x.list,sl .op x.ops]
def ZsW(x:Kid):List (C U):=[.int .i64 x.at_,.int .i64 x.e.kind,.int .i64 x.e.old.kind,sl .u64 x.e.old.words,sl .tree x.e.old.kids,.int .i64 x.e.new.kind,sl .u64 x.e.new.words,sl .tree x.e.new.kids,sl .wedit x.e.words,sl .kid x.e.kids,.int .i64 x.e.list,sl .op x.e.ops]
def eOp(x:Op):List (C U):=[.int .i64 x.kind,.int .i64 x.n,sl .tree x.l,.int .i64 x.e.kind,.int .i64 x.e.old.kind,sl .u64 x.e.old.words,sl .tree x.e.old.kids,.int .i64 x.e.new.kind,sl .u64 x.e.new.words,sl .tree x.e.new.kids,sl .wedit x.e.words,sl .kid x.e.kids,.int .i64 x.e.list,sl .op x.e.ops]
def Zlo(x:Piece):List (C U):=[.int .i64 x.of,.int .i64 x.p.kind,.int .i64 x.p.n,sl .tree x.p.l,.int .i64 x.p.e.kind,.int .i64 x.p.e.old.kind,sl .u64 x.p.e.old.words,sl .tree x.p.e.old.kids,.int .i64 x.p.e.new.kind,sl .u64 x.p.e.new.words,sl .tree x.p.e.new.kids,sl .wedit x.p.e.words,sl .kid x.p.e.kids,.int .i64 x.p.e.list,sl .op x.p.e.ops,.int .i64 x.q.kind,.int .i64 x.q.n,sl .tree x.q.l,.int .i64 x.q.e.kind,.int .i64 x.q.e.old.kind,sl .u64 x.q.e.old.words,sl .tree x.q.e.old.kids,.int .i64 x.q.e.new.kind,sl .u64 x.q.e.new.words,sl .tree x.q.e.new.kids,sl .wedit x.q.e.words,sl .kid x.q.e.kids,.int .i64 x.q.e.list,sl .op x.q.e.ops]
def Zp5(x:AUnit):List (C U):=[.int .i64 x.step,.int .i64 x.kind,.int .i64 x.t.kind,sl .u64 x.t.words,sl .tree x.t.kids,.int .i64 x.e.kind,.int .i64 x.e.old.kind,sl .u64 x.e.old.words,sl .tree x.e.old.kids,.int .i64 x.e.new.kind,sl .u64 x.e.new.words,sl .tree x.e.new.kids,sl .wedit x.e.words,sl .kid x.e.kids,.int .i64 x.e.list,sl .op x.e.ops,.bool x.alone]
def Zp8(x:APair):List (C U):=[.int .i64 x.of,.int .i64 x.p.step,.int .i64 x.p.kind,.int .i64 x.p.t.kind,sl .u64 x.p.t.words,sl .tree x.p.t.kids,.int .i64 x.p.e.kind,.int .i64 x.p.e.old.kind,sl .u64 x.p.e.old.words,sl .tree x.p.e.old.kids,.int .i64 x.p.e.new.kind,sl .u64 x.p.e.new.words,sl .tree x.p.e.new.kids,sl .wedit x.p.e.words,sl .kid x.p.e.kids,.int .i64 x.p.e.list,sl .op x.p.e.ops,.bool x.p.alone,.int .i64 x.q.step,.int .i64 x.q.kind,.int .i64 x.q.t.kind,sl .u64 x.q.t.words,sl .tree x.q.t.kids,.int .i64 x.q.e.kind,.int .i64 x.q.e.old.kind,sl .u64 x.q.e.old.words,sl .tree x.q.e.old.kids,.int .i64 x.q.e.new.kind,sl .u64 x.q.e.new.words,sl .tree x.q.e.new.kids,sl .wedit x.q.e.words,sl .kid x.q.e.kids,.int .i64 x.q.e.list,sl .op x.q.e.ops,.bool x.q.alone]
def Zp7(x:PStep):List (C U):=[.int .i64 x.kind,.int .i64 x.at_]
def Zpa(x:Deed):List (C U):=[.int .i64 x.kind,.int .i64 x.i,.int .i64 x.e.kind,.int .i64 x.e.old.kind,sl .u64 x.e.old.words,sl .tree x.e.old.kids,.int .i64 x.e.new.kind,sl .u64 x.e.new.words,sl .tree x.e.new.kids,sl .wedit x.e.words,sl .kid x.e.kids,.int .i64 x.e.list,sl .op x.e.ops]
def enc:(T:Ty)→El T→List (C U)
 | .u64,n=> [.int .u64 n]
 | .u8,n=> [.int .u8 n]
 | .int,n=> [.int .i64 n]
 | .tree,x=> Zp6 x
 | .wedit,x=> Zln x
 | .edit,x=> Zp9 x
 | .kid,x=> ZsW x
 | .op,x=> eOp x
 | .piece,x=> Zlo x
 | .unit,x=> Zp5 x
 | .pair,x=> Zp8 x
 | .step,x=> Zp7 x
 | .deed,x=> Zpa x
abbrev Rd(α:Type):=List (C U)→Option (α × List (C U))
def Z14(k:IntKind):Rd Int
 | .int k' n ::r=> if k=k' then some (n,r) else none
 | _=> none
def Zkb:Rd Bool
 | .bool b ::r=> some (b,r)
 | _=> none
def rSl(T:Ty):Rd (List (El T))
 | .nils ::r=> some ([],r)
 | .slice S l _ ::r=> match (inferInstance:DecidableEq Ty) S T with
  | isTrue h=> some (h▸l,r)
  | isFalse _=> none
 | _=> none
def ZU{α β:Type}(x:Rd α)(f:α→Rd β):Rd β:=fun cs=> match x cs with
 | some (a,r)=> f a r
 | none=> none
def Z4p{α:Type}(a:α):Rd α:=fun cs=> some (a,cs)
def WkL:List (C U)→List (C U)→Prop
 | [],[]=> True
 | c ::r,c' ::r'=> Wk c c'∧WkL r r'
 | _,_=> False
theorem WkL.append:∀ {a b c d:List (C U)},WkL a b→WkL c d→WkL (a++c) (b++d)
 | [],[],_,_,_,h=> h
 | _ ::_,_ ::_,_,_,h,k=> ⟨h.1,WkL.append h.2 k⟩
theorem WkL.get:∀ {a b:List (C U)},WkL a b→a.length=b.length∧∀ (j:Nat) c c',a[j]?=some c→b[j]?=some c'→Wk c c'
 | [],[],_=> ⟨rfl,fun j c c' h=> by simp at h⟩
 | x ::a,y ::b,h=> by
  obtain ⟨h1,h2⟩:=WkL.get h.2
  refine ⟨by simp [h1],fun j c c' hc hc'=> ?_⟩
  cases j with
  | zero=> simp at hc hc';subst hc hc';exact h.1
  | succ j=> exact h2 j c c' (by simpa using hc) (by simpa using hc')
def Z1o{α:Type}(r:Rd α)(e:α→List (C U)):Prop:=∀ cs x rest,r cs=some (x,rest)→∃ p,cs=p++rest∧WkL p (e x)
theorem ZD(k:IntKind):Z1o (Z14 k) fun n=> [.int k n]:=by
 intro cs x rest h
 unfold Z14 at h
 split at h
 ·split at h
  ·rename_i hk
   subst hk
   cases h
   exact ⟨[_],rfl,.int _ _,trivial⟩
  ·cases h
 ·cases h
theorem Zez:Z1o Zkb fun b=> [.bool b]:=by
 intro cs x rest h
 unfold Zkb at h
 split at h
 ·cases h;exact ⟨[_],rfl,.bool _,trivial⟩
 ·cases h
theorem Z12(T:Ty):Z1o (rSl T) fun l=> [sl T l]:=by
 intro cs x rest h
 unfold rSl at h
 split at h
 ·cases h;exact ⟨[_],rfl,(Wk.snil (U:=U) T:Wk (U:=U) .nils (.slice T [] .unk)),trivial⟩
 ·split at h
  ·rename_i hST _
   subst hST
   cases h
   exact ⟨[_],rfl,.slice _ _ _,trivial⟩
  ·cases h
 ·cases h
theorem ZY{α β:Type}{x:Rd α}{f:α→Rd β}{ex:α→List (C U)}(hx:Z1o x ex){cs:List (C U)}{b:β}{rest:List (C U)}(h:ZU x f cs=some (b,rest)):
  ∃ a p r,cs=p++r∧WkL p (ex a)∧f a r=some (b,rest):=by
 unfold ZU at h
 split at h
 ·rename_i a r ha
  obtain ⟨p,rfl,h1⟩:=hx _ _ _ ha
  exact ⟨a,p,r,rfl,h1,h⟩
 ·cases h
def ZcY:Rd Tree:=ZU (Z14 .i64) fun x0=> ZU (rSl .u64) fun x1=> ZU (rSl .tree) fun x2=> Z4p (Tree.mk x0 x1 x2)
theorem Z2z:Z1o ZcY Zp6:=by
 intro cs x rest h
 obtain ⟨x0,p0,r0,rfl,w0,h⟩:=ZY (ZD _) h
 obtain ⟨x1,p1,r1,rfl,w1,h⟩:=ZY (Z12 _) h
 obtain ⟨x2,p2,r2,rfl,w2,h⟩:=ZY (Z12 _) h
 cases h
 exact ⟨p0++(p1++(p2)),by simp,w0.append (w1.append (w2))⟩
def Zk8:Rd WEdit:=ZU (Z14 .i64) fun x0=> ZU (Z14 .u8) fun x1=> ZU (Z14 .u64) fun x2=> ZU (Z14 .u64) fun x3=> Z4p (WEdit.mk x0 x1 x2 x3)
theorem ZcV:Z1o Zk8 Zln:=by
 intro cs x rest h
 obtain ⟨x0,p0,r0,rfl,w0,h⟩:=ZY (ZD _) h
 obtain ⟨x1,p1,r1,rfl,w1,h⟩:=ZY (ZD _) h
 obtain ⟨x2,p2,r2,rfl,w2,h⟩:=ZY (ZD _) h
 obtain ⟨x3,p3,r3,rfl,w3,h⟩:=ZY (ZD _) h
 cases h
 exact ⟨p0++(p1++(p2++(p3))),by simp,w0.append (w1.append (w2.append (w3)))⟩
def ZaI:Rd Edit:=ZU (Z14 .i64) fun x0=> ZU ZcY fun x1=> ZU ZcY fun x2=> ZU (rSl .wedit) fun x3=> ZU (rSl .kid) fun x4=> ZU (Z14 .i64) fun x5=> ZU (rSl .op) fun x6=> Z4p (Edit.mk x0 x1 x2 x3 x4 x5 x6)
theorem Z13:Z1o ZaI Zp9:=by
 intro cs x rest h
 obtain ⟨x0,p0,r0,rfl,w0,h⟩:=ZY (ZD _) h
 obtain ⟨x1,p1,r1,rfl,w1,h⟩:=ZY Z2z h
 obtain ⟨x2,p2,r2,rfl,w2,h⟩:=ZY Z2z h
 obtain ⟨x3,p3,r3,rfl,w3,h⟩:=ZY (Z12 _) h
 obtain ⟨x4,p4,r4,rfl,w4,h⟩:=ZY (Z12 _) h
 obtain ⟨x5,p5,r5,rfl,w5,h⟩:=ZY (ZD _) h
 obtain ⟨x6,p6,r6,rfl,w6,h⟩:=ZY (Z12 _) h
 cases h
 exact ⟨p0++(p1++(p2++(p3++(p4++(p5++(p6)))))),by simp,w0.append (w1.append (w2.append (w3.append (w4.append (w5.append (w6))))))⟩
def ZsI:Rd Kid:=ZU (Z14 .i64) fun x0=> ZU ZaI fun x1=> Z4p (KidOf.mk x0 x1)
theorem ZhZ:Z1o ZsI ZsW:=by
 intro cs x rest h
 obtain ⟨x0,p0,r0,rfl,w0,h⟩:=ZY (ZD _) h
 obtain ⟨x1,p1,r1,rfl,w1,h⟩:=ZY Z13 h
 cases h
 exact ⟨p0++(p1),by simp,w0.append (w1)⟩
def rOp:Rd Op:=ZU (Z14 .i64) fun x0=> ZU (Z14 .i64) fun x1=> ZU (rSl .tree) fun x2=> ZU ZaI fun x3=> Z4p (OpOf.mk x0 x1 x2 x3)
theorem Z9c:Z1o rOp eOp:=by
 intro cs x rest h
 obtain ⟨x0,p0,r0,rfl,w0,h⟩:=ZY (ZD _) h
 obtain ⟨x1,p1,r1,rfl,w1,h⟩:=ZY (ZD _) h
 obtain ⟨x2,p2,r2,rfl,w2,h⟩:=ZY (Z12 _) h
 obtain ⟨x3,p3,r3,rfl,w3,h⟩:=ZY Z13 h
 cases h
 exact ⟨p0++(p1++(p2++(p3))),by simp,w0.append (w1.append (w2.append (w3)))⟩
def Zk9:Rd Piece:=ZU (Z14 .i64) fun x0=> ZU rOp fun x1=> ZU rOp fun x2=> Z4p (Piece.mk x0 x1 x2)
theorem ZcW:Z1o Zk9 Zlo:=by
 intro cs x rest h
 obtain ⟨x0,p0,r0,rfl,w0,h⟩:=ZY (ZD _) h
 obtain ⟨x1,p1,r1,rfl,w1,h⟩:=ZY Z9c h
 obtain ⟨x2,p2,r2,rfl,w2,h⟩:=ZY Z9c h
 cases h
 exact ⟨p0++(p1++(p2)),by simp,w0.append (w1.append (w2))⟩
def Zgd:Rd AUnit:=ZU (Z14 .i64) fun x0=> ZU (Z14 .i64) fun x1=> ZU ZcY fun x2=> ZU ZaI fun x3=> ZU Zkb fun x4=> Z4p (AUnit.mk x0 x1 x2 x3 x4)
theorem Z4O:Z1o Zgd Zp5:=by
 intro cs x rest h
 obtain ⟨x0,p0,r0,rfl,w0,h⟩:=ZY (ZD _) h
 obtain ⟨x1,p1,r1,rfl,w1,h⟩:=ZY (ZD _) h
 obtain ⟨x2,p2,r2,rfl,w2,h⟩:=ZY Z2z h
 obtain ⟨x3,p3,r3,rfl,w3,h⟩:=ZY Z13 h
 obtain ⟨x4,p4,r4,rfl,w4,h⟩:=ZY Zez h
 cases h
 exact ⟨p0++(p1++(p2++(p3++(p4)))),by simp,w0.append (w1.append (w2.append (w3.append (w4))))⟩
def ZoZ:Rd APair:=ZU (Z14 .i64) fun x0=> ZU Zgd fun x1=> ZU Zgd fun x2=> Z4p (APair.mk x0 x1 x2)
theorem Zex:Z1o ZoZ Zp8:=by
 intro cs x rest h
 obtain ⟨x0,p0,r0,rfl,w0,h⟩:=ZY (ZD _) h
 obtain ⟨x1,p1,r1,rfl,w1,h⟩:=ZY Z4O h
 obtain ⟨x2,p2,r2,rfl,w2,h⟩:=ZY Z4O h
 cases h
 exact ⟨p0++(p1++(p2)),by simp,w0.append (w1.append (w2))⟩
def ZoY:Rd PStep:=ZU (Z14 .i64) fun x0=> ZU (Z14 .i64) fun x1=> Z4p (PStep.mk x0 x1)
theorem Zew:Z1o ZoY Zp7:=by
 intro cs x rest h
 obtain ⟨x0,p0,r0,rfl,w0,h⟩:=ZY (ZD _) h
 obtain ⟨x1,p1,r1,rfl,w1,h⟩:=ZY (ZD _) h
 cases h
 exact ⟨p0++(p1),by simp,w0.append (w1)⟩
def Zp0:Rd Deed:=ZU (Z14 .i64) fun x0=> ZU (Z14 .i64) fun x1=> ZU ZaI fun x2=> Z4p (Deed.mk x0 x1 x2)
theorem Zey:Z1o Zp0 Zpa:=by
 intro cs x rest h
 obtain ⟨x0,p0,r0,rfl,w0,h⟩:=ZY (ZD _) h
 obtain ⟨x1,p1,r1,rfl,w1,h⟩:=ZY (ZD _) h
 obtain ⟨x2,p2,r2,rfl,w2,h⟩:=ZY Z13 h
 cases h
 exact ⟨p0++(p1++(p2)),by simp,w0.append (w1.append (w2))⟩
def rEl:(T:Ty)→Rd (El T)
 | .u64=> Z14 .u64
 | .u8=> Z14 .u8
 | .int=> Z14 .i64
 | .tree=> ZcY
 | .wedit=> Zk8
 | .edit=> ZaI
 | .kid=> ZsI
 | .op=> rOp
 | .piece=> Zk9
 | .unit=> Zgd
 | .pair=> ZoZ
 | .step=> ZoY
 | .deed=> Zp0
theorem ZcX:∀ T:Ty,Z1o (rEl T) (enc T)
 | .u64=> ZD _
 | .u8=> ZD _
 | .int=> ZD _
 | .tree=> Z2z
 | .wedit=> ZcV
 | .edit=> Z13
 | .kid=> ZhZ
 | .op=> Z9c
 | .piece=> ZcW
 | .unit=> Z4O
 | .pair=> Zex
 | .step=> Zew
 | .deed=> Zey
def dec(T:Ty)(cs:List (C U)):Option (El T):=
 match rEl T cs with
 | some (x,[])=> some x
 | _=> none
def K:Codec U:=
 {tyEq:=inferInstanceAs (DecidableEq Ty)
  dflt:=fun T=> match T with
   | .u64=> (0:Int) | .u8=> (0:Int) | .int=> (0:Int) | .tree=> Tree.nil | .wedit=> WEdit.mk 0 0 0 0 | .edit=> Edit.nil | .kid=> KidOf.mk 0 Edit.nil | .op=> Op.nil | .piece=> Piece.mk 0 Op.nil Op.nil | .unit=> AUnit.nil | .pair=> APair.mk 0 AUnit.nil AUnit.nil | .step=> (PStep.mk 0 0) | .deed=> Deed.mk 0 0 Edit.nil
  enc:=enc
  dec:=dec
  aggT:=fun T=> match T with | .u64 | .u8 | .int=> false | _=> true
  sz:=fun T=> match T with | .u64=> 1 | .u8=> 1 | .int=> 1 | .tree=> 3 | .wedit=> 4 | .edit=> 11 | .kid=> 12 | .op=> 14 | .piece=> 29 | .unit=> 17 | .pair=> 35 | .step=> 2 | .deed=> 13
  bytes:=fun T=> match T with | .u64=> 8 | .u8=> 1 | .int=> 8 | .tree=> 56 | .wedit=> 32 | .edit=> 200 | .kid=> 208 | .op=> 240 | .piece=> 488 | .unit=> 280 | .pair=> 568 | .step=> 16 | .deed=> 216 }
theorem Zuf:CodecOk K:=by
 refine ⟨?_,?_,?_,?_,?_⟩
 ·intro T x
  cases T <;> rfl
 ·intro T x c hc
  have h:(enc T x).all C.plain=true:=by cases T <;> rfl
  exact List.all_eq_true.1 h c hc
 ·intro T cs x h
  have h':dec T cs=some x:=h
  unfold dec at h'
  split at h'
  ·rename_i y he
   cases h'
   obtain ⟨p,hp,hw⟩:=ZcX T _ _ _ he
   rw [List.append_nil] at hp
   subst hp
   exact hw.get
  ·cases h'
 ·intro T;cases T <;> decide
 ·intro T;cases T <;> decide
theorem ZnZ(T:Ty)(x:El T):dec T (enc T x)=some x:=by
 cases T with
 | u64=> rfl
 | u8=> rfl
 | int=> rfl
 | tree=> cases x;rfl
 | wedit=> rfl
 | edit=> obtain ⟨k,⟨_,_,_⟩,⟨_,_,_⟩,w,ks,l,os⟩:=x;rfl
 | kid=> obtain ⟨a,⟨k,⟨_,_,_⟩,⟨_,_,_⟩,w,ks,l,os⟩⟩:=x;rfl
 | op=> obtain ⟨a,b,c,⟨k,⟨_,_,_⟩,⟨_,_,_⟩,w,ks,l,os⟩⟩:=x;rfl
 | piece=> obtain ⟨_,⟨_,_,_,⟨_,⟨_,_,_⟩,⟨_,_,_⟩,_,_,_,_⟩⟩,⟨_,_,_,⟨_,⟨_,_,_⟩,⟨_,_,_⟩,_,_,_,_⟩⟩⟩:=x;rfl
 | unit=> obtain ⟨_,_,⟨_,_,_⟩,⟨_,⟨_,_,_⟩,⟨_,_,_⟩,_,_,_,_⟩,_⟩:=x;rfl
 | pair=> obtain ⟨_,⟨_,_,⟨_,_,_⟩,⟨_,⟨_,_,_⟩,⟨_,_,_⟩,_,_,_,_⟩,_⟩,⟨_,_,⟨_,_,_⟩,⟨_,⟨_,_,_⟩,⟨_,_,_⟩,_,_,_,_⟩,_⟩⟩:=x;rfl
 | step=> rfl
 | deed=> obtain ⟨_,_,⟨_,⟨_,_,_⟩,⟨_,_,_⟩,_,_,_,_⟩⟩:=x;rfl
def Z3d(x:Tree):Tree:=Tree.mk (Tree.kind x) (Tree.words x) (Tree.kids x)
@[simp] theorem Zb (x:Tree):Z3d x=x:=Tree.eta x
def ZmQ(x:WEdit):WEdit:=WEdit.mk (WEdit.at_ x) (WEdit.mask x) (WEdit.old x) (WEdit.new x)
@[simp] theorem Zpv (x:WEdit):ZmQ x=x:=rfl
def Jb(x:Edit):Edit:=Edit.mk (Edit.kind x) (Z3d (Edit.old x)) (Z3d (Edit.new x)) (Edit.words x) (Edit.kids x) (Edit.list x) (Edit.ops x)
@[simp] theorem Zm (x:Edit):Jb x=x:=by unfold Jb;rw [Zb,Zb];exact Edit.eta x
def ZoX(x:Kid):Kid:=KidOf.mk (KidOf.at_ x) (Jb (KidOf.e x))
@[simp] theorem Zk4 (x:Kid):ZoX x=x:=by unfold ZoX;rw [Zm]
def Zk3(x:Op):Op:=OpOf.mk (OpOf.kind x) (OpOf.n x) (OpOf.l x) (Jb (OpOf.e x))
@[simp] theorem Z8i (x:Op):Zk3 x=x:=by unfold Zk3;rw [Zm]
def Zgc(x:Piece):Piece:=Piece.mk (Piece.of x) (Zk3 (Piece.p x)) (Zk3 (Piece.q x))
@[simp] theorem Zpx (x:Piece):Zgc x=x:=by unfold Zgc;rw [Z8i,Z8i]
def ZbD(x:AUnit):AUnit:=AUnit.mk (AUnit.step x) (AUnit.kind x) (Z3d (AUnit.t x)) (Jb (AUnit.e x)) (AUnit.alone x)
@[simp] theorem ZaH (x:AUnit):ZbD x=x:=by unfold ZbD;rw [Zm,Zb]
def Zk2(x:APair):APair:=APair.mk (APair.of x) (ZbD (APair.p x)) (ZbD (APair.q x))
@[simp] theorem Zs6 (x:APair):Zk2 x=x:=by unfold Zk2;rw [ZaH,ZaH]
def Zpw(x:PStep):PStep:=PStep.mk (PStep.kind x) (PStep.at_ x)
@[simp] theorem Zi0 (x:PStep):Zpw x=x:=rfl
def Zk5(x:Deed):Deed:=Deed.mk (Deed.kind x) (Deed.i x) (Jb (Deed.e x))
@[simp] theorem Zs7 (x:Deed):Zk5 x=x:=by unfold Zk5;rw [Zm]
end Go.AM
