import Derived.Test.YtcljdbpmjdgooaaEmP
set_option linter.unusedSimpArgs false
set_option linter.unusedVariables false
namespace Go.AM
inductive Tree where
 | mk (kind:Int) (words:List Int) (kids:List Tree)
def Tree.kind:Tree->Int | .mk k _ _=> k
def Tree.words:Tree->List Int | .mk _ w _=> w
def Tree.kids:Tree->List Tree | .mk _ _ k=> k
@[simp] theorem Tree.eta (t:Tree):Tree.mk t.kind t.words t.kids=t:=by cases t;rfl
@[simp] theorem Tree.kind_mk (k:Int) (w:List Int) (ks:List Tree):(Tree.mk k w ks).kind=k:=rfl
@[simp] theorem Tree.words_mk (k:Int) (w:List Int) (ks:List Tree):(Tree.mk k w ks).words=w:=rfl
@[simp] theorem Tree.kids_mk (k:Int) (w:List Int) (ks:List Tree):(Tree.mk k w ks).kids=ks:=rfl
def Tree.nil:Tree:= .mk 0 [] []
structure XRef where
 kind:Int
 s:Int
 at_:Int
 data:Int
 ptrs:Int
 count:Int
 n:Int
structure Ptr where
 kind:Int
 off:Int
 data:Int
 ptrs:Int
 code:Int
 count:Int
 segment:Int
 double:Bool
structure Loc where
 p:Ptr
 segment:Int
 at_:Int
structure Arena where
 segs:List (List Int)
 size:Int
 most:Int
 used:Int
structure Ref where
 a:Option Arena
 kind:Int
 segment:Int
 at_:Int
 data:Int
 kids:Int
 count:Int
 number:Int
structure Limits where
 depth:Int
 weight:Int
 maxD:Int
 maxOut:Int
structure Spot where
 segment:Int
 at_:Int
inductive Ty where
 | u64 | u8 | int | words | tree | ptr | loc | arena | ref | limits | spot
 deriving DecidableEq
@[reducible] def El:Ty->Type
 | .u64=> Int
 | .u8=> Int
 | .int=> Int
 | .words=> List Int
 | .tree=> Tree
 | .ptr=> Ptr
 | .loc=> Loc
 | .arena=> Arena
 | .ref=> Ref
 | .limits=> Limits
 | .spot=> Spot
@[reducible] def U:Uni:={ Ty:=Ty,El:=El }
abbrev sl(T:Ty)(l:List (El T)):C U:= .slice (U:=U) T l .unk
def Znj(x:Tree):List (C U):=[.int .i64 x.kind,sl .u64 x.words,sl .tree x.kids]
def Zrr(x:Ptr):List (C U):=[.int .i64 x.kind,.int .i64 x.off,.int .i64 x.data,.int .i64 x.ptrs,.int .i64 x.code,.int .i64 x.count,.int .i64 x.segment,.bool x.double]
def Zrs(x:Loc):List (C U):=[.int .i64 x.p.kind,.int .i64 x.p.off,.int .i64 x.p.data,.int .i64 x.p.ptrs,.int .i64 x.p.code,.int .i64 x.p.count,.int .i64 x.p.segment,.bool x.p.double,.int .i64 x.segment,.int .i64 x.at_]
def ZjH(x:Arena):List (C U):=[sl .words x.segs,.int .i64 x.size,.int .i64 x.most,.int .i64 x.used]
def Zrq(x:Ref):List (C U):=[.po (U:=U) .arena x.a,.int .i64 x.kind,.int .i64 x.segment,.int .i64 x.at_,.int .i64 x.data,.int .i64 x.kids,.int .i64 x.count,.int .u64 x.number]
def ZfA(x:Limits):List (C U):=[.int .i64 x.depth,.int .i64 x.weight,.int .i64 x.maxD,.int .i64 x.maxOut]
def Znk(x:Spot):List (C U):=[.int .i64 x.segment,.int .i64 x.at_]
def enc:(T:Ty)->El T->List (C U)
 | .u64,n=> [.int .u64 n]
 | .u8,n=> [.int .u8 n]
 | .int,n=> [.int .i64 n]
 | .words,l=> [sl .u64 l]
 | .tree,x=> Znj x
 | .ptr,x=> Zrr x
 | .loc,x=> Zrs x
 | .arena,x=> ZjH x
 | .ref,x=> Zrq x
 | .limits,x=> ZfA x
 | .spot,x=> Znk x
abbrev Rd(α:Type):=List (C U)->Option (α × List (C U))
def JB(k:IntKind):Rd Int
 | .int k' n ::r=> if k=k' then some (n,r) else none
 | _=> none
def ZhT:Rd Bool
 | .bool b ::r=> some (b,r)
 | _=> none
def rSl(T:Ty):Rd (List (El T))
 | .nils ::r=> some ([],r)
 | .slice S l _ ::r=> match (inferInstance:DecidableEq Ty) S T with
  | isTrue h=> some (h▸l,r)
  | isFalse _=> none
 | _=> none
def rPo(T:Ty):Rd (Option (El T))
 | .nilp ::r=> some (none,r)
 | .po S o ::r=> match (inferInstance:DecidableEq Ty) S T with
  | isTrue h=> some (h▸o,r)
  | isFalse _=> none
 | _=> none
def Yb{α β:Type}(x:Rd α)(f:α->Rd β):Rd β:=fun cs=> match x cs with
 | some (a,r)=> f a r
 | none=> none
def Z8j{α:Type}(a:α):Rd α:=fun cs=> some (a,cs)
def WkL:List (C U)->List (C U)->Prop
 | [],[]=> True
 | c ::r,c' ::r'=> Wk c c'/\WkL r r'
 | _,_=> False
theorem WkL.append:∀ {a b c d:List (C U)},WkL a b->WkL c d->WkL (a++c) (b++d)
 | [],[],_,_,_,h=> h
 | _ ::_,_ ::_,_,_,h,k=> ⟨h.1,WkL.append h.2 k⟩
theorem WkL.get:∀ {a b:List (C U)},WkL a b->a.length=b.length/\∀ (j:Nat) c c',a[j]?=some c->b[j]?=some c'->Wk c c'
 | [],[],_=> ⟨rfl,fun j c c' h=> by simp at h⟩
 | x ::a,y ::b,h=> by
  obtain ⟨h1,h2⟩:=WkL.get h.2
  refine ⟨by simp [h1],fun j c c' hc hc'=> ?_⟩
  cases j with
  | zero=> simp at hc hc';subst hc hc';exact h.1
  | succ j=> exact h2 j c c' (by simpa using hc) (by simpa using hc')
def Z1S{α:Type}(r:Rd α)(e:α->List (C U)):Prop:=∀ cs x rest,r cs=some (x,rest)->∃ p,cs=p++rest/\WkL p (e x)
theorem Zn(k:IntKind):Z1S (JB k) fun n=> [.int k n]:=by
 intro cs x rest h
 unfold JB at h
 split at h
 .split at h
  .rename_i hk
   subst hk
   cases h
   exact ⟨[_],rfl,.int _ _,trivial⟩
  .cases h
 .cases h
theorem Zdk:Z1S ZhT fun b=> [.bool b]:=by
 intro cs x rest h
 unfold ZhT at h
 split at h
 .cases h;exact ⟨[_],rfl,.bool _,trivial⟩
 .cases h
theorem Z2X(T:Ty):Z1S (rSl T) fun l=> [sl T l]:=by
 intro cs x rest h
 unfold rSl at h
 split at h
 .cases h;exact ⟨[_],rfl,(Wk.snil (U:=U) T:Wk (U:=U) .nils (.slice T [] .unk)),trivial⟩
 .split at h
  .rename_i hST _
   subst hST
   cases h
   exact ⟨[_],rfl,.slice _ _ _,trivial⟩
  .cases h
 .cases h
theorem Zc2(T:Ty):Z1S (rPo T) fun o=> [.po (U:=U) T o]:=by
 intro cs x rest h
 unfold rPo at h
 split at h
 .cases h;exact ⟨[_],rfl,(Wk.pnil (U:=U) T:Wk (U:=U) .nilp (.po T none)),trivial⟩
 .split at h
  .rename_i hST _
   subst hST
   cases h
   exact ⟨[_],rfl,.po _ _,trivial⟩
  .cases h
 .cases h
theorem Yn{α β:Type}{x:Rd α}{f:α->Rd β}{ex:α->List (C U)}(hx:Z1S x ex){cs:List (C U)}{b:β}{rest:List (C U)}(h:Yb x f cs=some (b,rest)):
  ∃ a p r,cs=p++r/\WkL p (ex a)/\f a r=some (b,rest):=by
 unfold Yb at h
 split at h
 .rename_i a r ha
  obtain ⟨p,rfl,h1⟩:=hx _ _ _ ha
  exact ⟨a,p,r,rfl,h1,h⟩
 .cases h
def Zna:Rd Tree:=Yb (JB .i64) fun x0=> Yb (rSl .u64) fun x1=> Yb (rSl .tree) fun x2=> Z8j (Tree.mk x0 x1 x2)
theorem Zdi:Z1S Zna Znj:=by
 intro cs x rest h
 obtain ⟨x0,p0,r0,rfl,w0,h⟩:=Yn (Zn _) h
 obtain ⟨x1,p1,r1,rfl,w1,h⟩:=Yn (Z2X _) h
 obtain ⟨x2,p2,r2,rfl,w2,h⟩:=Yn (Z2X _) h
 cases h
 exact ⟨p0++(p1++(p2)),by simp,w0.append (w1.append (w2))⟩
def ZnE:Rd Ptr:=Yb (JB .i64) fun x0=> Yb (JB .i64) fun x1=> Yb (JB .i64) fun x2=> Yb (JB .i64) fun x3=> Yb (JB .i64) fun x4=> Yb (JB .i64) fun x5=> Yb (JB .i64) fun x6=> Yb ZhT fun x7=> Z8j (Ptr.mk x0 x1 x2 x3 x4 x5 x6 x7)
theorem Z9Z:Z1S ZnE Zrr:=by
 intro cs x rest h
 obtain ⟨x0,p0,r0,rfl,w0,h⟩:=Yn (Zn _) h
 obtain ⟨x1,p1,r1,rfl,w1,h⟩:=Yn (Zn _) h
 obtain ⟨x2,p2,r2,rfl,w2,h⟩:=Yn (Zn _) h
 obtain ⟨x3,p3,r3,rfl,w3,h⟩:=Yn (Zn _) h
 obtain ⟨x4,p4,r4,rfl,w4,h⟩:=Yn (Zn _) h
 obtain ⟨x5,p5,r5,rfl,w5,h⟩:=Yn (Zn _) h
 obtain ⟨x6,p6,r6,rfl,w6,h⟩:=Yn (Zn _) h
 obtain ⟨x7,p7,r7,rfl,w7,h⟩:=Yn Zdk h
 cases h
 exact ⟨p0++(p1++(p2++(p3++(p4++(p5++(p6++(p7))))))),by simp,w0.append (w1.append (w2.append (w3.append (w4.append (w5.append (w6.append (w7)))))))⟩
def Zr7:Rd Loc:=Yb ZnE fun x0=> Yb (JB .i64) fun x1=> Yb (JB .i64) fun x2=> Z8j (Loc.mk x0 x1 x2)
theorem Zgf:Z1S Zr7 Zrs:=by
 intro cs x rest h
 obtain ⟨x0,p0,r0,rfl,w0,h⟩:=Yn Z9Z h
 obtain ⟨x1,p1,r1,rfl,w1,h⟩:=Yn (Zn _) h
 obtain ⟨x2,p2,r2,rfl,w2,h⟩:=Yn (Zn _) h
 cases h
 exact ⟨p0++(p1++(p2)),by simp,w0.append (w1.append (w2))⟩
def ZhU:Rd Arena:=Yb (rSl .words) fun x0=> Yb (JB .i64) fun x1=> Yb (JB .i64) fun x2=> Yb (JB .i64) fun x3=> Z8j (Arena.mk x0 x1 x2 x3)
theorem Zc4:Z1S ZhU ZjH:=by
 intro cs x rest h
 obtain ⟨x0,p0,r0,rfl,w0,h⟩:=Yn (Z2X _) h
 obtain ⟨x1,p1,r1,rfl,w1,h⟩:=Yn (Zn _) h
 obtain ⟨x2,p2,r2,rfl,w2,h⟩:=Yn (Zn _) h
 obtain ⟨x3,p3,r3,rfl,w3,h⟩:=Yn (Zn _) h
 cases h
 exact ⟨p0++(p1++(p2++(p3))),by simp,w0.append (w1.append (w2.append (w3)))⟩
def Zr6:Rd Ref:=Yb (rPo .arena) fun x0=> Yb (JB .i64) fun x1=> Yb (JB .i64) fun x2=> Yb (JB .i64) fun x3=> Yb (JB .i64) fun x4=> Yb (JB .i64) fun x5=> Yb (JB .i64) fun x6=> Yb (JB .u64) fun x7=> Z8j (Ref.mk x0 x1 x2 x3 x4 x5 x6 x7)
theorem Zge:Z1S Zr6 Zrq:=by
 intro cs x rest h
 obtain ⟨x0,p0,r0,rfl,w0,h⟩:=Yn (Zc2 _) h
 obtain ⟨x1,p1,r1,rfl,w1,h⟩:=Yn (Zn _) h
 obtain ⟨x2,p2,r2,rfl,w2,h⟩:=Yn (Zn _) h
 obtain ⟨x3,p3,r3,rfl,w3,h⟩:=Yn (Zn _) h
 obtain ⟨x4,p4,r4,rfl,w4,h⟩:=Yn (Zn _) h
 obtain ⟨x5,p5,r5,rfl,w5,h⟩:=Yn (Zn _) h
 obtain ⟨x6,p6,r6,rfl,w6,h⟩:=Yn (Zn _) h
 obtain ⟨x7,p7,r7,rfl,w7,h⟩:=Yn (Zn _) h
 cases h
 exact ⟨p0++(p1++(p2++(p3++(p4++(p5++(p6++(p7))))))),by simp,w0.append (w1.append (w2.append (w3.append (w4.append (w5.append (w6.append (w7)))))))⟩
def ZeN:Rd Limits:=Yb (JB .i64) fun x0=> Yb (JB .i64) fun x1=> Yb (JB .i64) fun x2=> Yb (JB .i64) fun x3=> Z8j (Limits.mk x0 x1 x2 x3)
theorem ZaX:Z1S ZeN ZfA:=by
 intro cs x rest h
 obtain ⟨x0,p0,r0,rfl,w0,h⟩:=Yn (Zn _) h
 obtain ⟨x1,p1,r1,rfl,w1,h⟩:=Yn (Zn _) h
 obtain ⟨x2,p2,r2,rfl,w2,h⟩:=Yn (Zn _) h
 obtain ⟨x3,p3,r3,rfl,w3,h⟩:=Yn (Zn _) h
 cases h
 exact ⟨p0++(p1++(p2++(p3))),by simp,w0.append (w1.append (w2.append (w3)))⟩
def Znb:Rd Spot:=Yb (JB .i64) fun x0=> Yb (JB .i64) fun x1=> Z8j (Spot.mk x0 x1)
theorem Zdj:Z1S Znb Znk:=by
 intro cs x rest h
 obtain ⟨x0,p0,r0,rfl,w0,h⟩:=Yn (Zn _) h
 obtain ⟨x1,p1,r1,rfl,w1,h⟩:=Yn (Zn _) h
 cases h
 exact ⟨p0++(p1),by simp,w0.append (w1)⟩
def rEl:(T:Ty)->Rd (El T)
 | .u64=> JB .u64
 | .u8=> JB .u8
 | .int=> JB .i64
 | .words=> rSl .u64
 | .tree=> Zna
 | .ptr=> ZnE
 | .loc=> Zr7
 | .arena=> ZhU
 | .ref=> Zr6
 | .limits=> ZeN
 | .spot=> Znb
theorem Zc3:∀ T:Ty,Z1S (rEl T) (enc T)
 | .u64=> Zn _
 | .u8=> Zn _
 | .int=> Zn _
 | .words=> Z2X _
 | .tree=> Zdi
 | .ptr=> Z9Z
 | .loc=> Zgf
 | .arena=> Zc4
 | .ref=> Zge
 | .limits=> ZaX
 | .spot=> Zdj
def dec(T:Ty)(cs:List (C U)):Option (El T):=
 match rEl T cs with
 | some (x,[])=> some x
 | _=> none
def K:Codec U:=
 {tyEq:=inferInstanceAs (DecidableEq Ty)
  dflt:=fun T=> match T with
   | .u64=> (0:Int) | .u8=> (0:Int) | .int=> (0:Int) | .words=> ([]:List Int) | .tree=> Tree.nil | .ptr=> (Ptr.mk 0 0 0 0 0 0 0 false) | .loc=> (Loc.mk (Ptr.mk 0 0 0 0 0 0 0 false) 0 0) | .arena=> (Arena.mk [] 0 0 0) | .ref=> (Ref.mk none 0 0 0 0 0 0 0) | .limits=> (Limits.mk 0 0 0 0) | .spot=> (Spot.mk 0 0)
  enc:=enc
  dec:=dec
  aggT:=fun T=> match T with | .u64 | .u8 | .int | .words=> false | _=> true
  sz:=fun T=> match T with | .u64=> 1 | .u8=> 1 | .int=> 1 | .words=> 1 | .tree=> 3 | .ptr=> 8 | .loc=> 10 | .arena=> 4 | .ref=> 8 | .limits=> 4 | .spot=> 2
  bytes:=fun T=> match T with | .u64=> 8 | .u8=> 1 | .int=> 8 | .words=> 24 | .tree=> 56 | .ptr=> 64 | .loc=> 80 | .arena=> 48 | .ref=> 64 | .limits=> 32 | .spot=> 16
  aT:=fun T=> match T with | .arena=> some (fun x=> ⟨x.segs,x.size,x.most,x.used⟩) | _=> none
  aOf:=fun T S=> match T with | .arena=> some (Arena.mk S.segs S.x S.y S.z) | _=> none
  wT:= .u64
  wsT:= .words
  wI:=fun l=> l
  wO:=fun l=> l
  wsI:=fun l=> l }
theorem ZsP:CodecOk K:=by
 refine ⟨?_,?_,?_,?_,?_,?_,?_,?_,?_,?_,?_⟩
 .intro T x
  cases T <;> rfl
 .intro T x c hc
  have h:(enc T x).all C.plain=true:=by cases T <;> rfl
  exact Qg.1 h c hc
 .intro T cs x h
  have h':dec T cs=some x:=h
  unfold dec at h'
  split at h'
  .rename_i y he
   cases h'
   obtain ⟨p,hp,hw⟩:=Zc3 T _ _ _ he
   rw [XZ] at hp
   subst hp
   exact hw.get
  .cases h'
 .intro T;cases T <;> decide
 .intro T;cases T <;> decide
 .intro T f y h;cases T <;> cases h;rfl
 .intro T S y h;cases T <;> cases h;exact ⟨_,rfl,rfl⟩
 .intro L;exact ⟨rfl,fun i l h=> ⟨l,h,rfl⟩⟩
 .intro l;exact ⟨rfl,fun i x h=> ⟨x,h,rfl⟩⟩
 .intro l;exact ⟨rfl,fun i x h=> ⟨x,h,rfl⟩⟩
 .exact ⟨rfl,rfl⟩
theorem Zma(T:Ty)(x:El T):dec T (enc T x)=some x:=by
 cases T with
 | u64=> rfl
 | u8=> rfl
 | int=> rfl
 | words=> rfl
 | tree=> cases x;rfl
 | ptr=> rfl
 | loc=> rfl
 | arena=> rfl
 | ref=> rfl
 | limits=> rfl
 | spot=> rfl
def Z04(x:Tree):Tree:=Tree.mk (Tree.kind x) (Tree.words x) (Tree.kids x)
@[simp] theorem ZT (x:Tree):Z04 x=x:=Tree.eta x
def ZhQ(x:Ptr):Ptr:=Ptr.mk (Ptr.kind x) (Ptr.off x) (Ptr.data x) (Ptr.ptrs x) (Ptr.code x) (Ptr.count x) (Ptr.segment x) (Ptr.double x)
@[simp] theorem Z1t (x:Ptr):ZhQ x=x:=rfl
def Zr5(x:Loc):Loc:=Loc.mk (ZhQ (Loc.p x)) (Loc.segment x) (Loc.at_ x)
@[simp] theorem Zr4 (x:Loc):Zr5 x=x:=rfl
def Zli(x:Arena):Arena:=Arena.mk (Arena.segs x) (Arena.size x) (Arena.most x) (Arena.used x)
@[simp] theorem ZnB (x:Arena):Zli x=x:=rfl
def Zr3(x:Ref):Ref:=Ref.mk (Ref.a x) (Ref.kind x) (Ref.segment x) (Ref.at_ x) (Ref.data x) (Ref.kids x) (Ref.count x) (Ref.number x)
@[simp] theorem YJ (x:Ref):Zr3 x=x:=rfl
def ZhR(x:Limits):Limits:=Limits.mk (Limits.depth x) (Limits.weight x) (Limits.maxD x) (Limits.maxOut x)
@[simp] theorem Z6y (x:Limits):ZhR x=x:=rfl
def YM(x:Spot):Spot:=Spot.mk (Spot.segment x) (Spot.at_ x)
@[simp] theorem ZU (x:Spot):YM x=x:=rfl
end Go.AM
