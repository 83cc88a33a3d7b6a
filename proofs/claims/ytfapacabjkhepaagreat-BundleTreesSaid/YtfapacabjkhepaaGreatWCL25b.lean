import Derived.Test.YtfapacabjkhepaaGreatWKD20w
import Derived.Test.YtfapacabjkhepaaGreatWKRB07
set_option linter.unusedSimpArgs false
set_option linter.unusedVariables false
namespace Go.AM
def Zr5(a b:Int):Int:=IntKind.wrap .u8 (BitVec.ofInt (IntKind.bits .u8) a &&& BitVec.ofInt (IntKind.bits .u8) b).toNat
def orM(a b:Int):Int:=IntKind.wrap .u8 (BitVec.ofInt (IntKind.bits .u8) a ||| BitVec.ofInt (IntKind.bits .u8) b).toNat
def Zid(p q:WEdit):Bool:=decide (mix 0 p.new (Zr5 p.mask q.mask)=mix 0 q.old (Zr5 p.mask q.mask))
def JW(p q:WEdit):WEdit × Bool:=
 if Zid p q then (⟨p.at_,orM p.mask q.mask,mix q.old p.old p.mask,mix p.new q.new q.mask⟩,true) else (⟨0,0,0,0⟩,false)
def Zr{α:Type}(at_:α->Int)(one:α->α->α × Bool):List α->List α->Option (List α)
 | [],q=> some q
 | a ::p,[]=> some (a ::p)
 | a ::p,b ::q=>
  if at_ a < at_ b then (Zr at_ one p (b ::q)).map (a ::·)
  else if at_ b < at_ a then (Zr at_ one (a ::p) q).map (b ::·)
  else if (one a b).2 then (Zr at_ one p q).map ((one a b).1 ::·) else none
termination_by p q=> p.length+q.length
def ofO{α:Type}(o:Option (List α)):List α:=o.getD []
structure PRes where
 op:Op
 is:Bool
 ok:Bool
noncomputable def doB(e:Edit)(t:Tree):Tree × Bool:=(Jn ((doE false e t).map Z3),(doE false e t).isSome)
noncomputable def ZD8(a b:List Tree):Bool:=eqX (Z9 a) (Z9 b)
noncomputable def JH(f:Edit->Edit->Edit × Bool)(x:Piece):PRes:=
 if x.of=1\/(x.of=0/\x.q.kind=0) then ⟨x.p,true,true⟩
 else if x.of=2\/x.p.kind=0 then ⟨x.q,true,true⟩
 else if x.p.kind=2/\x.q.kind=1 then ⟨Op.nil,false,ZD8 x.p.l (x.q.l.take x.p.l.length)⟩
 else if x.p.kind=2 then ⟨⟨2,0,[(doB x.q.e (x.p.l.getD 0 Tree.nil)).1],Edit.nil⟩,true,(doB x.q.e (x.p.l.getD 0 Tree.nil)).2⟩
 else if x.q.kind=1 then ⟨⟨1,0,[(doB (Zq (ZO x.p.e)) (x.q.l.getD 0 Tree.nil)).1],Edit.nil⟩,true,(doB (Zq (ZO x.p.e)) (x.q.l.getD 0 Tree.nil)).2⟩
 else ⟨⟨3,0,[],(f x.p.e x.q.e).1⟩,true,(f x.p.e x.q.e).2⟩
noncomputable def Z3j(f:Edit->Edit->Edit × Bool):List Piece->Option (List Op)
 | []=> some []
 | x ::r=> if (JH f x).ok then (Z3j f r).map ((if (JH f x).is then [(JH f x).op] else [])++·) else none
noncomputable def Z3k(f:Edit->Edit->Edit × Bool)(p q:List Op):Option (List Op):=
 if (Yo 1 2 p q []).2.1 then Z3j f (Yo 1 2 p q []).1 else none
def Z27(f:Edit->Edit->Edit × Bool)(a b:Kid):Kid × Bool:=(⟨a.at_,(f a.e b.e).1⟩,(f a.e b.e).2)
noncomputable def JG(f:Edit->Edit->Edit × Bool)(p q:Edit):Edit × Bool:=
 if p.kind=0 then (q,true)
 else if q.kind=0 then (p,true)
 else if p.kind=1 then (.mk 1 p.old (doB q p.new).1 [] [] 0 [],(doB q p.new).2)
 else if q.kind=1 then (.mk 1 (doB (Zq (ZO p)) q.old).1 q.new [] [] 0 [],(doB (Zq (ZO p)) q.old).2)
 else if p.kind≠q.kind\/p.list≠q.list then (Edit.nil,false)
 else if p.kind=2 then
  if (Zr WEdit.at_ JW p.words q.words).isSome then
   (.mk 2 Tree.nil Tree.nil (ofO (Zr WEdit.at_ JW p.words q.words)) (ofO (Zr KidOf.at_ (Z27 f) p.kids q.kids)) 0 [],(Zr KidOf.at_ (Z27 f) p.kids q.kids).isSome)
  else (Edit.nil,false)
 else (.mk 3 Tree.nil Tree.nil [] [] p.list (ofO (Z3k f p.ops q.ops)),(Z3k f p.ops q.ops).isSome)
noncomputable def ZfH:Nat->Edit->Edit->Edit × Bool
 | 0,_,_=> (Edit.nil,false)
 | n+1,p,q=> JG (ZfH n) p q
noncomputable def Yv(p q:Edit):Edit × Bool:=ZfH (Zd p+Zd q) p q
def ZGN(l:List WEdit)(at_:Int):Option WEdit:=l.find? (fun w=> decide (w.at_=at_))
def ZyJ(l:List Kid)(at_:Int):Edit:=((l.find? (fun k=> decide (k.at_=at_))).map KidOf.e).getD Edit.nil
def Zt7:List Int->List Int->List Int
 | [],b=> b
 | a ::p,[]=> a ::p
 | a ::p,b ::q=> if a < b then a ::Zt7 p (b ::q) else if b < a then b ::Zt7 (a ::p) q else a ::Zt7 p q
termination_by p q=> p.length+q.length
def Zje(p q:List WEdit):List Int->Option (List WEdit)
 | []=> some []
 | n ::r=> match ZGN p n,ZGN q n with
  | some x,none=> (Zje p q r).map (x ::·)
  | none,some y=> (Zje p q r).map (y ::·)
  | some x,some y=> if (JW x y).2 then (Zje p q r).map ((JW x y).1 ::·) else none
  | none,none=> (Zje p q r).map ((⟨0,0,0,0⟩:WEdit) ::·)
noncomputable def ZAo(f:Edit->Edit->Edit × Bool)(p q:List Kid):List Int->Option (List Kid)
 | []=> some []
 | n ::r=> if (f (ZyJ p n) (ZyJ q n)).2 then (ZAo f p q r).map (⟨n,(f (ZyJ p n) (ZyJ q n)).1⟩ ::·) else none
noncomputable def ZBl(f:Edit->Edit->Edit × Bool)(p q:AUnit):List Op × Bool:=
 if q.kind=0 then ([opU p],true)
 else if p.kind=0 then ([opU q],true)
 else if p.kind=2/\q.kind=1 then ([],Yd (Z3 p.t) (Z3 q.t))
 else if p.kind=2 then ([⟨2,0,[Jn (doE true q.e p.t)],Edit.nil⟩],(doE true q.e p.t).isSome)
 else if q.kind=1 then ([⟨1,0,[Jn (doE true (Zq (ZO p.e)) q.t)],Edit.nil⟩],(doE true (Zq (ZO p.e)) q.t).isSome)
 else ([⟨3,0,[],(f p.e q.e).1⟩],(f p.e q.e).2)
noncomputable def ZnK(f:Edit->Edit->Edit × Bool):List APair->Option (List Op)
 | []=> some []
 | x ::r=>
  if x.of=1 then (ZnK f r).map (opU x.p ::·)
  else if x.of=2 then (ZnK f r).map (opU x.q ::·)
  else if (ZBl f x.p x.q).2 then (ZnK f r).map ((ZBl f x.p x.q).1++·) else none
noncomputable def ZGt(f:Edit->Edit->Edit × Bool)(p q:List Op):Option (List Op):=
 if (Zem (ZcT 0 1 p) (ZcT 0 2 q) []).2 then ZnK f (Zem (ZcT 0 1 p) (ZcT 0 2 q) []).1 else none
noncomputable def Zxg(f:Edit->Edit->Edit × Bool)(p q:Edit):Edit × Bool:=
 if p.kind=0 then (q,true)
 else if q.kind=0 then (p,true)
 else if p.kind=1 then (.mk 1 p.old (Jn (doE true q p.new)) [] [] 0 [],(doE true q p.new).isSome)
 else if q.kind=1 then (.mk 1 (Jn (doE true (Zq (ZO p)) q.old)) q.new [] [] 0 [],(doE true (Zq (ZO p)) q.old).isSome)
 else if p.kind≠q.kind then (Edit.nil,false)
 else if p.kind=2 then
  match Zje p.words q.words (Zt7 (p.words.map WEdit.at_) (q.words.map WEdit.at_)),ZAo f p.kids q.kids (Zt7 (p.kids.map KidOf.at_) (q.kids.map KidOf.at_)) with
  | some w,some k=> (.mk 2 Tree.nil Tree.nil w k 0 [],true)
  | _,_=> (Edit.nil,false)
 else if p.list≠q.list then (Edit.nil,false)
 else match ZGt f p.ops q.ops with
  | some l=> (.mk 3 Tree.nil Tree.nil [] [] p.list l,true)
  | none=> (Edit.nil,false)
noncomputable def ZGv:Nat->Edit->Edit->Edit × Bool
 | 0,_,_=> (Edit.nil,false)
 | n+1,p,q=> Zxg (ZGv n) p q
noncomputable def ZGw(p q:Edit):Edit × Bool:=ZGv (Zd p+Zd q) p q
def Jm(e:Edit):Prop:=ctE e<=9000000000/\Y0 e/\∃ d,Z6 e d=true
def ZuB(k:Kid):Prop:=Z2Q k<=9000000000/\Z1b k/\∃ d,Z6 k.e d=true
def Zck(l:List Kid):Prop:=Z0Y l<=9000000000/\Z0N l/\∀ k∈l,∃ d,Z6 k.e d=true
def ZpU(l:List Op):Prop:=YZ l<=9000000000/\Z05 l/\∀ o∈l,∃ list d,Zf list o d=true
def ZrV(o:Op):Prop:=YT o/\Z2V o<=9000000000/\YF o/\(o.kind=3->∃ d,Z6 o.e d=true)
structure PcOk (x:Piece):Prop where
 of:x.of=0\/x.of=1\/x.of=2
 pp:x.of≠2->ZrV x.p
 qq:x.of≠1->ZrV x.q
 both:x.of=0->x.p.kind≠1/\x.q.kind≠2/\Z7 x.p=Z7 x.q
instance:Inhabited PStep:=⟨⟨0,0⟩⟩
def ZAz(s:PStep)(t:Tree):Prop:=s.kind=0/\0<=s.at_/\(t.kind=1/\s.at_ < 65535\/(2<=t.kind/\t.kind<=9)/\s.at_ < t.kids.length)
instance (s:PStep) (t:Tree):Decidable (ZAz s t):=by unfold ZAz;infer_instance
noncomputable def Z1n(p q:Edit):Edit × Bool:=if (Yv p q).2=true then (Zq (Yv p q).1,true) else (Edit.nil,false)
noncomputable def ZGu(p q:Edit):Edit × Bool:=if (ZGw p q).2=true then (Zq (ZGw p q).1,true) else (Edit.nil,false)
noncomputable def ZBi:List Edit->Tree->Option Tree
 | [],t=> some t
 | e ::r,t=> ((doE false e t).map Z3).bind (ZBi r)
noncomputable def Z5C:List Edit->Edit->Edit × Bool
 | [],x=> (x,true)
 | e ::r,x=> if (Z1n x e).2=true then Z5C r (Z1n x e).1 else (Edit.nil,false)
noncomputable def Z0o(l:List Edit):Edit × Bool:=if (Z5C l Edit.nil).2=true then (Zq (Z5C l Edit.nil).1,true) else (Edit.nil,false)
def ctL:List Edit->Nat
 | []=> 0
 | e ::r=> ctE e+ctL r
end Go.AM
namespace Go.AM.YtfapacabjkhepaaGreat
open Go.AM Go.Proofs
theorem ZpL(l:List Int):trim (trim l)=trim l:=by
 induction l with
 | nil=> rfl
 | cons x r ih=>
  rw [Z2f]
  split
  .try rfl
  .rename_i h
   rw [Z2f,ih,if_neg h]
theorem ZkU(l:List Tree):Yf (Yf l)=Yf l:=by
 induction l with
 | nil=> rfl
 | cons x r ih=>
  rw [JI]
  split
  .try rfl
  .rename_i h
   rw [JI,ih,if_neg h]
def Normed:List Tree->Prop
 | []=> True
 | t ::r=> Z3 t=t/\Normed r
theorem Normed.eq:∀ {l:List Tree},Normed l->Yl l=l
 | [],_=> rfl
 | t ::r,h=> by simp only [Yl,h.1,Normed.eq h.2]
theorem Normed.trim:∀ {l:List Tree},Normed l->Normed (Yf l)
 | [],_=> trivial
 | t ::r,h=> by
  rw [JI]
  split
  .trivial
  .exact ⟨h.1,Normed.trim h.2⟩
mutual
theorem Yr:∀ (t:Tree),Z3 (Z3 t)=Z3 t
 | .mk k w ks=> by
  have h:=Z8Y ks
  by_cases h0:k=0
  .simp [Z3,h0,Tree.nil]
  .by_cases h1:k=1
   .subst h1
    simp only [Z3,if_neg h0,if_true,ZpL,h.trim.eq,ZkU]
   .simp only [Z3,if_neg h0,if_neg h1,h.eq]
theorem Z8Y:∀ (ks:List Tree),Normed (Yl ks)
 | []=> trivial
 | t ::r=> ⟨Yr t,Z8Y r⟩
end
noncomputable section
def Zph:ArgL (List Tree × Unit):=(.cons (aSl .tree) .nil)
def Zeb(a:List Tree × Unit):Prop:=Ze a.1<=20000000000
def Zsn(a:List Tree × Unit):V U:= .c (sU .tree (Z9 a.1) .unk)
def Z8m:Fs U:=fs Zph (fun a=> [Zeb a]) Zsn
def Zpw:ArgL (List Op × Int × Int × Unit):=(.cons (aSl .op) (.cons (Yc .i64) (.cons (Yc .i64) .nil)))
def Z7I(a:List Op × Int × Int × Unit):Prop:=Zj a.1<=20000000000/\0<=a.2.1/\a.2.1<=(a.1).length
def Zlc(a:List Op × Int × Int × Unit):V U:= .tup [(false,[sU .tree (Z0V a.2.2.1 ((a.1).drop (a.2.1).toNat)) .unk]),(false,[ci (a.2.1+YJ ((a.1).drop (a.2.1).toNat))])]
def Z60:Fs U:=fs Zpw (fun a=> [Z7I a]) Zlc
def ZhJ(a:Edit × Unit):Nat:=2*Zd a.1
def Zja(a:Edit × Unit):V U:= .agg (enc .edit (ZO a.1))
def Zde:Fs U:=fs Zvc (fun a=> [Ze0 a]) Zja
def Z7K(a:Op × Unit):Prop:=Zx a.1<=20000000000
def ZeB(a:Op × Unit):Nat:=2*Zx a.1+1
def Z5e(a:Op × Unit):V U:= .agg (enc .op (YV a.1))
def Znd:Fs U:=fs Zp7 (fun a=> [Z7K a]) Z5e
def Z6y:List (FuncId × Fs U):=[(34,Jr)]
def ZeM:Zg U:=lvk [([0],[]),([0,3],[]),([0,(3,[.own .tree]),4],[]),([0,3,4,8],[]),([0,(3,[.own .tree]),4],[]),([0,3,4],[]),([2],[])]
def Z6D(l:List Tree)(h:Int)(d:List Tree):LSt U:=(L2 [(0,.c (sU .tree l .unk)),(3,.c (sU .tree d (.own (.e 3 0)))),pI 4 h] [])
abbrev ZIS(l:List Tree)(Q:QT):=AW (Z2 Z6y) Tryz.f146 ZeM [] (L2 [(0,.c (sU .tree l .unk))] []) Q
theorem ZFQ(l:List Tree)(Q:QT)(h:Zl (AW (Z2 Z6y) Tryz.f146 ZeM [1,1,0,1,0,0]) (Z6D l 0 []) (xB 0 (SW (Z2 Z6y) Tryz.f146 ZeM [1,1,1] Q))):
  ZIS l Q:=
 Eq.mpr V5 h
abbrev Zz4(l:List Tree)(h:Int)(d:List Tree)(N0:NT)(Q:QT):=AW (Z2 Z6y) Tryz.f146 ZeM [1,1,0,1,0,0] (Z6D l h d) (xT N0 (xB 0 (SW (Z2 Z6y) Tryz.f146 ZeM [1,1,1] Q)))
theorem Zrt(l:List Tree)(d:Int)(s:List Tree)(N0:NT)(Q:QT)(h:let z2:=l.getD d.toNat Tree.nil;let z0:=Tree.mk (Tree.kind z2) (Tree.words z2) (Tree.kids z2);let z1:=Tree.mk (Tree.kind (Z3 z0)) (Tree.words (Z3 z0)) (Tree.kids (Z3 z0));iB (decide (d < (l.length:Int))) (((0:Int)<=d/\d < (l.length:Int))/\(Jv (z0,()))/\((s.length+([z1]).length)*56<=140737488355328)/\((InR (d+1))/\(N0 (Z6D l (d+1) (s++([z1])))))) (Q .ret (L2 [(2,.c (sU .tree s (.own (.e 2 0))))] []))):
  Zz4 l d s N0 Q:=
 Eq.mpr V5 h
def Zzv(l:List Tree):Prop:=AW (Z2 Z6y) Tryz.f146 ZeM [] (Zi (Zph.can (l,())) []) (EQ Tryz.f146 (Zsn (l,())) [])
theorem ZxM(c34:CT 34 Jr)(hb:∀ (l:List Tree) (_:Unit),Zeb (l,())->Zzv l):CT 146 Z8m:=
 Z1 (l:=[(34,Jr)]) Zk rfl (⟨c34,trivial⟩) ZeM Tryz.func146 rfl rfl 1 (fun _=> rfl) V2 (fun ⟨l,_⟩=> hb l ())
def Z6A:List (FuncId × Fs U):=[(146,Z8m)]
def ZeO:Zg U:=lvk [([0,1,2],[]),([0,1,2,8],[]),([0,2,(8,[.own .tree]),9],[]),([0,2,8,9,30],[]),([0,2,8,9,37],[]),([0,2,8,9],[]),([0,2,(8,[.own .tree]),9],[]),([6,7],[])]
def Z48(l:List Op)(from_ kind d:Int)(h:List Tree):LSt U:=(L2 [(0,.c (sU .op l .unk)),pI 2 kind,(8,.c (sU .tree h (.own (.e 8 0)))),pI 9 d] [])
abbrev ZIY(l:List Op)(from_ kind:Int)(Q:QT):=AW (Z2 Z6A) Tryz.f111 ZeO [] (L2 [(0,.c (sU .op l .unk)),pI 1 from_,pI 2 kind] []) Q
theorem ZG9(l:List Op)(from_ kind:Int)(Q:QT)(h:Zl (AW (Z2 Z6A) Tryz.f111 ZeO [1,1,1,0,0,0]) (Z48 l from_ kind from_ []) (xB 0 (SW (Z2 Z6A) Tryz.f111 ZeO [1,1,1,1] Q))):
  ZIY l from_ kind Q:=
 Eq.mpr V5 h
abbrev Zz7(l:List Op)(from_ kind d:Int)(h:List Tree)(N0:NT)(Q:QT):=AW (Z2 Z6A) Tryz.f111 ZeO [1,1,1,0,0,0] (Z48 l from_ kind d h) (xT N0 (xB 0 (SW (Z2 Z6A) Tryz.f111 ZeO [1,1,1,1] Q)))
theorem ZrC(l:List Op)(from_ kind s:Int)(u:List Tree)(N0:NT)(Q:QT)(h:∀ d,d=(l.getD s.toNat Op.nil)->let z0:=decide (s < (l.length:Int));let z1:=z0 && (!(d.kind==1));((Tt z0)/\(Tt z0)/\(z0=true->(0:Int)<=s/\s < (l.length:Int))/\(Tt z0)/\(Tt z0)/\(Tt z0)/\(Tt z0)/\(Tt z1)/\(Tt z1)/\(z1=true->(0:Int)<=s/\s < (l.length:Int))/\(Tt z1)/\(Tt z1)/\(Tt z1)/\(z0=true->(True->z0=true))/\(z0=true->((d.kind==1)=false->z1=true))/\(Tt z0)/\(iB (bif z0 then (bif (d.kind==1) then true else (d.kind==2)) else false) (((0:Int)<=s/\s < (l.length:Int))/\(iB (d.kind==kind) (((0:Int)<=s/\s < (l.length:Int))/\(Zeb (d.l,()))/\((u.length+(Z9 d.l).length)*56<=140737488355328)/\((InR (s+1))/\(N0 (Z48 l from_ kind (s+1) (u++(Z9 d.l)))))) ((InR (s+1))/\(N0 (Z48 l from_ kind (s+1) u))))) ((Q .ret (L2 [(6,.c (sU .tree u (.own (.e 6 0)))),pI 7 s] [])))))):
  Zz7 l from_ kind s u N0 Q:=
 Eq.mpr V5 (h _ rfl)
def ZzO(l:List Op)(from_ kind:Int):Prop:=AW (Z2 Z6A) Tryz.f111 ZeO [] (Zi (Zpw.can (l,from_,kind,())) []) (EQ Tryz.f111 (Zlc (l,from_,kind,())) [])
theorem Zy1(ZDp:CT 146 Z8m)(hb:∀ (l:List Op) (d:Int) (kind:Int) (_:Unit),Z7I (l,d,kind,())->ZzO l d kind):CT 111 Z60:=
 Z1 (l:=[(146,Z8m)]) Zk rfl (⟨ZDp,trivial⟩) ZeO Tryz.func111 rfl rfl 3 (fun _=> rfl) V2 (fun ⟨l,d,kind,_⟩=> hb l d kind ())
def Z0T(N:Nat):List (FuncId × Fs U):=(69,fs Zvc (fun a=> [Ze0 a,ZhJ a < N]) Zja) ::(105,fs Zp7 (fun a=> [Z7K a,ZeB a < N]) Z5e) ::[]
def Z7W:Zg U:=lvk [([1,2],[1,2]),([1,2,3],[1,2,3]),([1,2,3,20,21,22],[1,2,((.loc 3),(an 7 [.own .wedit]))]),([1,2,3,20,21,22,23],[1,2,3]),([1,2,3,5,20,21,22],[1,2,3,5]),([1,2,3,20,21,22],[1,2,3]),([1,2,3,20,21,22],[1,2,((.loc 3),(an 7 [.own .wedit]))]),([1,2,3,42,43,44],[1,2,((.loc 3),(an 8 [.own .kid]))]),([1,2,3,42,43,44,45],[1,2,3]),([1,2,3,7,42,43,44],[1,2,3,7]),([1,2,3,42,43,44],[1,2,3]),([1,2,3,42,43,44],[1,2,((.loc 3),(an 8 [.own .kid]))]),([2,3,61,62,63],[2,((.loc 3),(an 10 [.own .op]))]),([2,3,61,62,63,64],[2,3]),([2,3,9,61,62,63],[2,3,9]),([2,3,61,62,63],[2,3]),([2,3,61,62,63],[2,((.loc 3),(an 10 [.own .op]))]),([2],[2])]
def Z9w(e:Edit)(h:Int)(d:List WEdit):LSt U:=(L2 [pL 1,pL 2,pL 3,(20,.c (sU .wedit e.words .unk)),pI 21 (e.words.length:Int),pI 22 h] [(.loc 1,(enc .edit e)),(.loc 2,zc1),(.loc 3,([ci e.kind]++enc .tree e.new++enc .tree e.old++[sU .wedit d (.own (.l 3 7)),.nils,ci e.list,.nils]))])
def Z9v(e:Edit)(s:List WEdit)(h:Int)(d:List Kid):LSt U:=(L2 [pL 1,pL 2,pL 3,(42,.c (sU .kid e.kids .unk)),pI 43 (e.kids.length:Int),pI 44 h] [(.loc 1,(enc .edit e)),(.loc 2,zc1),(.loc 3,([ci e.kind]++enc .tree e.new++enc .tree e.old++[sU .wedit s (.own (.l 3 7)),sU .kid d (.own (.l 3 8)),ci e.list,.nils]))])
def Z9u(e:Edit)(s:List WEdit)(h:List Kid)(u:Int)(d:List Op):LSt U:=(L2 [pL 2,pL 3,(61,.c (sU .op e.ops .unk)),pI 62 (e.ops.length:Int),pI 63 u] [(.loc 2,zc1),(.loc 3,([ci e.kind]++enc .tree e.new++enc .tree e.old++[sU .wedit s (.own (.l 3 7)),sU .kid h (.own (.l 3 8)),ci e.list,sU .op d (.own (.l 3 10))]))])
abbrev W69(N:Nat)(e:Edit)(Q:QT):=AW (Z2 (Z0T N)) Tryz.f69 Z7W [] (L2 [(0,.agg (enc .edit e))] []) Q
theorem ZHP(N:Nat)(e:Edit)(Q:QT)(h:Zl (AW (Z2 (Z0T N)) Tryz.f69 Z7W [1,1,0,1,0,0]) (Z9w e 0 []) (xB 0 (SW (Z2 (Z0T N)) Tryz.f69 Z7W [1,1,1] Q))):
  W69 N e Q:=
 Eq.mpr V5 h
abbrev ZE2(N:Nat)(e:Edit)(h:Int)(d:List WEdit)(N0:NT)(Q:QT):=AW (Z2 (Z0T N)) Tryz.f69 Z7W [1,1,0,1,0,0] (Z9w e h d) (xT N0 (xB 0 (SW (Z2 (Z0T N)) Tryz.f69 Z7W [1,1,1] Q)))
theorem Zwj(N:Nat)(e:Edit)(s:Int)(d:List WEdit)(N0:NT)(Q:QT)(h:let z0:=e.words.getD s.toNat (WEdit.mk 0 0 0 0);let z1:=WEdit.mk (WEdit.at_ z0) (WEdit.mask z0) (WEdit.new z0) (WEdit.old z0);iB (decide (s < (e.words.length:Int))) (((0:Int)<=s/\s < (e.words.length:Int))/\(((d.length+([z1]).length)*32<=140737488355328)/\((InR (s+1))/\(N0 (Z9w e (s+1) (d++([z1]))))))) (Zl (AW (Z2 (Z0T N)) Tryz.f69 Z7W [1,1,1,0,1,0,0]) (Z9v e d 0 []) (xB 2 (SW (Z2 (Z0T N)) Tryz.f69 Z7W [1,1,1,1] Q)))):
  ZE2 N e s d N0 Q:=
 Eq.mpr V5 h
abbrev ZE1(N:Nat)(e:Edit)(s:List WEdit)(h:Int)(d:List Kid)(N1:NT)(Q:QT):=AW (Z2 (Z0T N)) Tryz.f69 Z7W [1,1,1,0,1,0,0] (Z9v e s h d) (xT N1 (xB 2 (SW (Z2 (Z0T N)) Tryz.f69 Z7W [1,1,1,1] Q)))
theorem Zwi(N:Nat)(e:Edit)(u:List WEdit)(d:Int)(s:List Kid)(N1:NT)(Q:QT)(h:∀ ab,ab=(e.kids.getD d.toNat (KidOf.mk 0 Edit.nil))->∀ aa,aa=(ab.e)->∀ ae,ae=(ZO aa)->iB (decide (d < (e.kids.length:Int))) (((0:Int)<=d/\d < (e.kids.length:Int))/\((Ze0 (aa,()))/\(ZhJ (aa,()) < N)/\((s.length+([(KidOf.mk ab.at_ ae:Kid)]).length)*208<=140737488355328)/\((InR (d+1))/\(N1 (Z9v e u (d+1) (s++([(KidOf.mk ab.at_ ae:Kid)]))))))) (Zl (AW (Z2 (Z0T N)) Tryz.f69 Z7W [1,1,1,1,0,1,0,0]) (Z9u e u s 0 []) (xB 4 (SW (Z2 (Z0T N)) Tryz.f69 Z7W [1,1,1,1,1] Q)))):
  ZE1 N e u d s N1 Q:=
 Eq.mpr V5 (h _ rfl _ (Z8 _) _ (Z8 _))
abbrev ZE0(N:Nat)(e:Edit)(s:List WEdit)(h:List Kid)(u:Int)(d:List Op)(N2:NT)(Q:QT):=AW (Z2 (Z0T N)) Tryz.f69 Z7W [1,1,1,1,0,1,0,0] (Z9u e s h u d) (xT N2 (xB 4 (SW (Z2 (Z0T N)) Tryz.f69 Z7W [1,1,1,1,1] Q)))
theorem Zwh(N:Nat)(e:Edit)(aa:List WEdit)(u:List Kid)(s:Int)(d:List Op)(N2:NT)(Q:QT)(h:∀ af,af=(e.ops.getD s.toNat Op.nil)->∀ ab,ab=af->∀ ae,ae=(YV ab)->iB (decide (s < (e.ops.length:Int))) (((0:Int)<=s/\s < (e.ops.length:Int))/\((Z7K (ab,()))/\(ZeB (ab,()) < N)/\((d.length+([ae]).length)*240<=140737488355328)/\((InR (s+1))/\(N2 (Z9u e aa u (s+1) (d++([ae]))))))) (Q .ret (L2 [pL 2] [(.loc 2,([ci e.kind]++enc .tree e.new++enc .tree e.old++[sU .wedit aa (.own (.l 2 7)),sU .kid u (.own (.l 2 8)),ci e.list,sU .op d (.own (.l 2 10))]))]))):
  ZE0 N e aa u s d N2 Q:=
 Eq.mpr V5 (h _ rfl _ (J5 _) _ (J5 _))
def ZEz(N:Nat)(e:Edit):Prop:=AW (Z2 (Z0T N)) Tryz.f69 Z7W [] (Zi (Zvc.can (e,())) []) (EQ Tryz.f69 (Zja (e,())) [])
abbrev ZHd:Prop:=∀ (N:Nat) (e:Edit) (_:Unit),Ze0 (e,())->ZhJ (e,()) < N+1->ZEz N e
def ZtS:Zg U:=lvl [([1,2],[1,2]),([1,2,4],[1,2]),([1,2,4,5],[1,2]),([1,2],[1,2]),([1,2,4,8],[1,2]),([1,2],[1,2]),([1,2,11],[1,2]),([1,2],[1,2]),([2],[2])]
abbrev ZJ2(N:Nat)(o:Op)(Q:QT):=AW (Z2 (Z0T N)) Tryz.f105 ZtS [] (L2 [(0,.agg (enc .op o))] []) Q
theorem ZGd(N:Nat)(o:Op)(Q:QT)(h:∀ d,d=(o.e)->iB (o.kind==1) (Q .ret (L2 [pL 2] [(.loc 2,([ci 2,ci o.n,sU .tree o.l .unk]++enc .edit o.e))])) (iB (o.kind==2) (Q .ret (L2 [pL 2] [(.loc 2,([ci 1,ci o.n,sU .tree o.l .unk]++enc .edit o.e))])) (iB (o.kind==3) ((Ze0 (d,()))/\(ZhJ (d,()) < N)/\(Q .ret (L2 [pL 2] [(.loc 2,([ci o.kind,ci o.n,sU .tree o.l .unk]++enc .edit (ZO d)))]))) (Q .ret (L2 [pL 2] [(.loc 2,(enc .op o))]))))):
  ZJ2 N o Q:=
 Eq.mpr V5 (h _ (Z8 _))
def ZzS(N:Nat)(o:Op):Prop:=AW (Z2 (Z0T N)) Tryz.f105 ZtS [] (Zi (Zp7.can (o,())) []) (EQ Tryz.f105 (Z5e (o,())) [])
abbrev ZB1:Prop:=∀ (N:Nat) (o:Op) (_:Unit),Z7K (o,())->ZeB (o,()) < N+1->ZzS N o
theorem ZlG(ha:ZHd)(hb:ZB1):CT 69 Zde/\CT 105 Znd:=
 JA (μA:=ZhJ) (μB:=ZeB) (l:=[]) Zk rfl trivial Z7W ZtS Tryz.func69 Tryz.func105 rfl rfl rfl rfl 1 1 (fun _=> rfl) (fun _=> rfl) V2 V2 (fun N ⟨e,_⟩=> ha N e ()) (fun N ⟨o,_⟩=> hb N o ())
end
theorem ZDp:Contract Tryz.prog cfg 146 Z8m:=by
 refine ZxM c34 ?_
 intro l _ hp
 simp only [Zeb] at hp
 have hl:=Zs l
 refine ZFQ _ _ ?_
 refine Z4 (ι:=Int × List Tree) (fun s=> Z6D l s.1 s.2) (fun s=> 0<=s.1/\s.1<=l.length/\s.2.length=s.1/\s.2++Z9 (l.drop s.1.toNat)=Z9 l) (fun s=> ((l.length:Int) - s.1).toNat) (0,[]) rfl ⟨by simp,by simp,by simp,by simp⟩ ?_
 rintro ⟨i,out⟩ ⟨u,h2,h3,d⟩
 dsimp only at u h2 h3 d
 refine Zrt _ _ _ _ _ ?_
 (simp only [iB,vcS])
 (simp only [vE])
 refine ⟨fun h=> ?_,fun h=> ?_⟩
 .have hm:=Y2 (Zb (l:=l) (i:=i.toNat) V0 Tree.nil)
  rw [Y1 u h Tree.nil] at d
  simp only [Z9,QD] at d
  refine ⟨⟨u,h⟩,by simp only [Jv];omega,by simp;omega,V4,(i+1,out++[Z3 (l.getD i.toNat Tree.nil)]),rfl,⟨V0,V0,by simp;omega,?_⟩,V0⟩
  simp only [Ql,Qt,QI]
  exact d
 .rw [Q6 V0] at d
  simp only [Z9,Xe,Qr] at d
  rw [d]
  exact V1
theorem ZgD{kind:Int}{l:List Op}{i:Int}(h0:0<=i)(h:i < l.length):Z0V kind (l.drop i.toNat)=if (l.getD i.toNat Op.nil).kind=1\/(l.getD i.toNat Op.nil).kind=2 then (if (l.getD i.toNat Op.nil).kind=kind then Z9 (l.getD i.toNat Op.nil).l else [])++Z0V kind (l.drop (i+1).toNat) else []:=by
 rw [Y1 h0 h Op.nil,Z0V]
theorem ZgF{l:List Op}{i:Int}(h0:0<=i)(h:i < l.length):YJ (l.drop i.toNat)=if (l.getD i.toNat Op.nil).kind=1\/(l.getD i.toNat Op.nil).kind=2 then 1+YJ (l.drop (i+1).toNat) else 0:=by
 rw [Y1 h0 h Op.nil,YJ]
theorem Zk1(n:Nat):∀ (l:List Op),Zj (l.drop n)<=Zj l:=by
 induction n with
 | zero=> intro l;simp
 | succ n ih=>
  intro l
  cases l with
  | nil=> simp
  | cons t r=> simp only [QJ,Zj];grind
theorem ZDC:Contract Tryz.prog cfg 111 Z60:=by
 refine Zy1 ZDp ?_
 intro l d kind _ hp
 simp only [Z7I] at hp
 obtain ⟨hm,ao,af⟩:=hp
 have hl:=ZM l
 refine ZG9 _ _ _ _ ?_
 refine Z4 (ι:=Int × List Tree) (fun s=> Z48 l d kind s.1 s.2) (fun s=> d<=s.1/\s.1<=l.length/\s.2.length+Zj (l.drop s.1.toNat)<=Zj l/\s.2++Z0V kind (l.drop s.1.toNat)=Z0V kind (l.drop d.toNat)/\s.1+YJ (l.drop s.1.toNat)=d+YJ (l.drop d.toNat)) (fun s=> ((l.length:Int) - s.1).toNat) (d,[]) rfl ⟨by simp,by simpa using af,by have:=Zk1 d.toNat l;simpa using this,by simp,rfl⟩ ?_
 rintro ⟨i,out⟩ ⟨h1,h2,h3,u,h5⟩
 dsimp only at h1 h2 h3 u h5
 refine ZrC _ _ _ _ _ _ _ ?_
 rintro y hy
 simp only [iB,vcT,vcS,aiT,true_and]
 refine ⟨fun h=> ⟨V0,h⟩,fun h=> ⟨V0,h.1⟩,fun h=> ?_,fun h=> ?_⟩
 .obtain ⟨h,hk⟩:=h
  have aa:=ZL (Zb (l:=l) (i:=i.toNat) V0 Op.nil)
  have hd:=congrArg Zj (Y1 (show 0<=i by omega) h Op.nil)
  rw [Z3d] at hd
  rw [ZgD V0 h] at u
  rw [ZgF V0 h] at h5
  rw [<-hy] at u h5 aa hd
  rw [if_pos hk] at u h5
  rw [ZG] at aa hd
  have am:=Zs y.l
  have ah:(Z9 y.l).length=y.l.length:=by simp [Z9]
  refine ⟨⟨V0,h⟩,fun hq=> ⟨⟨V0,h⟩,by simp only [Zeb];omega,by rw [ah];omega,V4,(i+1,out++Z9 y.l),rfl,⟨V3,V3,by simp;omega,?_,V3⟩,V3⟩,fun hq=> ⟨V4,(i+1,out),rfl,⟨V3,V3,V3,?_,V3⟩,V3⟩⟩
  .rw [if_pos hq,<-Ql] at u;exact u
  .rw [if_neg hq,QI] at u;exact u
 .have e1:Z0V kind (l.drop i.toNat)=[]/\YJ (l.drop i.toNat)=0:=by
   by_cases hc:i < l.length
   .rw [ZgD V0 hc,ZgF V0 hc,<-hy,JC,JC]
    exact ⟨rfl,rfl⟩
   .rw [Q6 V0]
    exact ⟨rfl,rfl⟩
  rw [e1.1,Qr] at u
  rw [e1.2] at h5
  have e2:i=d+YJ (l.drop d.toNat):=V0
  simp only [Zlc,<-u,<-e2]
  exact V1
theorem Jw(o:Op):YV o=if o.kind=1 then ⟨2,o.n,o.l,o.e⟩ else if o.kind=2 then ⟨1,o.n,o.l,o.e⟩ else if o.kind=3 then ⟨o.kind,o.n,o.l,ZO o.e⟩ else ⟨o.kind,o.n,o.l,o.e⟩:=by cases o;rfl
theorem ZrK(e:Edit):ZO e= .mk e.kind e.new e.old (e.words.map Z4T) (Z09 e.kids) e.list (Jq e.ops):=by cases e;rfl
theorem ZcV(k:Kid):Z1S k=⟨k.at_,ZO k.e⟩:=by cases k;rfl
theorem ZIL:ZB1:=by
 intro N o _ hp hN
 simp only [Z7K,ZeB] at hp hN
 rw [ZG] at hp hN
 have aa:=Z3V o.e
 refine ZGd _ _ _ ?_
 rintro y u
 (simp only [iB,vcS])
 refine ⟨fun h=> ?_,fun h=> ⟨fun d=> ?_,fun d=> ⟨fun s=> ⟨by simp only [Ze0,u];omega,by simp only [ZhJ,u];omega,?_⟩,fun s=> ?_⟩⟩⟩
 .have e:YV o=⟨2,o.n,o.l,o.e⟩:=by rw [Jw,if_pos h]
  simp only [Z5e,e]
  exact V1
 .have e:YV o=⟨1,o.n,o.l,o.e⟩:=by rw [Jw,if_neg h,if_pos d]
  simp only [Z5e,e]
  exact V1
 .have e:YV o=⟨o.kind,o.n,o.l,ZO o.e⟩:=by rw [Jw,if_neg h,if_neg d,if_pos s]
  simp only [Z5e,e]
  rw [u]
  exact V1
 .have e:YV o=⟨o.kind,o.n,o.l,o.e⟩:=by rw [Jw,if_neg h,if_neg d,if_neg s]
  simp only [Z5e,e]
  exact V1
theorem b69:ZHd:=by
 intro N e _ hp hN
 simp only [Ze0,ZhJ] at hp hN
 have h1:=ZY e
 have h2:=ZW e.kids
 have h3:=ZM e.ops
 have ha:=ZrK e
 refine ZHP _ _ _ ?_
 refine Z4 (ι:=Int × List WEdit) (fun s=> Z9w e s.1 s.2) (fun s=> 0<=s.1/\s.1<=e.words.length/\s.2.length=s.1/\s.2++(e.words.drop s.1.toNat).map Z4T=e.words.map Z4T) (fun s=> ((e.words.length:Int) - s.1).toNat) (0,[]) rfl ⟨by simp,by simp,by simp,by simp⟩ ?_
 rintro ⟨i,ws⟩ ⟨g1,g2,g3,g4⟩
 dsimp only at g1 g2 g3 g4
 refine Zwj _ _ _ _ _ _ ?_
 (simp only [iB,vcS])
 refine ⟨fun hi=> ?_,fun hi=> ?_⟩
 .rw [Y1 g1 hi (WEdit.mk 0 0 0 0)] at g4
  simp only [QD] at g4
  refine ⟨⟨g1,hi⟩,by simp;omega,V4,(i+1,ws++[Z4T (e.words.getD i.toNat (WEdit.mk 0 0 0 0))]),rfl,⟨V0,V0,by simp;omega,?_⟩,V0⟩
  grind
 .rw [Q6 V0] at g4
  simp only [Xe,Qr] at g4
  refine Z4 (ι:=Int × List Kid) (fun s=> Z9v e ws s.1 s.2) (fun s=> 0<=s.1/\s.1<=e.kids.length/\s.2.length=s.1/\s.2++Z09 (e.kids.drop s.1.toNat)=Z09 e.kids) (fun s=> ((e.kids.length:Int) - s.1).toNat) (0,[]) rfl ⟨by simp,by simp,by simp,by simp⟩ ?_
  rintro ⟨j,ks⟩ ⟨f1,f2,f3,d⟩
  dsimp only at f1 f2 f3 d
  refine Zwi _ _ _ _ _ _ _ ?_
  rintro y1 ae y2 ai y3 al
  (simp only [iB,vcS])
  refine ⟨fun u=> ?_,fun u=> ?_⟩
  .have hm:=YE (Zb (l:=e.kids) (i:=j.toNat) V0 (KidOf.mk 0 Edit.nil))
   rw [Y1 f1 u (KidOf.mk 0 Edit.nil)] at d
   rw [<-ae] at d hm
   simp only [Z09,ZcV] at d
   rw [<-ai] at d hm
   rw [<-al] at d
   refine ⟨⟨f1,u⟩,by simp only [Ze0];omega,by simp only [ZhJ];omega,by simp;omega,V4,(j+1,ks++[⟨y1.at_,y3⟩]),rfl,⟨V0,V0,by simp;omega,?_⟩,V0⟩
   grind
  .rw [Q6 V0] at d
   simp only [Z09,Qr] at d
   refine Z4 (ι:=Int × List Op) (fun s=> Z9u e ws ks s.1 s.2) (fun s=> 0<=s.1/\s.1<=e.ops.length/\s.2.length=s.1/\s.2++Jq (e.ops.drop s.1.toNat)=Jq e.ops) (fun s=> ((e.ops.length:Int) - s.1).toNat) (0,[]) rfl ⟨by simp,by simp,by simp,by simp⟩ ?_
   rintro ⟨k,os⟩ ⟨d1,d2,d3,h⟩
   dsimp only at d1 d2 d3 h
   refine Zwh _ _ _ _ _ _ _ _ ?_
   rintro z1 aj z2 ao z3 ah
   (simp only [iB,vcS])
   refine ⟨fun u=> ?_,fun u=> ?_⟩
   .have hm:=ZL (Zb (l:=e.ops) (i:=k.toNat) V0 Op.nil)
    rw [Y1 d1 u Op.nil] at h
    rw [<-aj,<-ao] at h hm
    simp only [Jq] at h
    rw [<-ah] at h
    refine ⟨⟨d1,u⟩,by simp only [Z7K];omega,by simp only [ZeB];omega,by simp;omega,V4,(k+1,os++[z3]),rfl,⟨V0,V0,by simp;omega,?_⟩,V0⟩
    grind
   .rw [Q6 V0] at h
    simp only [Jq,Qr] at h
    rw [g4,d,h]
    simp only [Zja,ha]
    exact V1
theorem ZyU:Contract Tryz.prog cfg 69 Zde/\Contract Tryz.prog cfg 105 Znd:=ZlG b69 ZIL
theorem Jt(list:Int):∀ (a b:List Op) (s:Wst),Zv list (a++b) s=Zv list b (Zv list a s)
 | [],b,s=> rfl
 | o ::r,b,s=> by simp only [Qt,Zv,Jt list r]
theorem Zc6:∀ (l:List Op) (m n:Int),YA (YA l m) n=YA l (m+n)
 | [],m,n=> by simp [YA]
 | [o],m,n=> by
  by_cases h:o.kind=0
  .simp [YA,h,Int.add_assoc]
  .simp [YA,h]
 | o ::p ::r,m,n=> by
  have d:=Zc6 (p ::r) m n
  cases hk:YA (p ::r) m with
  | nil=> cases r <;> simp [YA] at hk;grind
  | cons x y=>
   rw [hk] at d
   simp only [YA]
   rw [hk]
   simp only [YA]
   rw [d]
theorem J7:∀ (l:List Op) (n:Int),YA l n=l++[⟨0,n,[],Edit.nil⟩]\/∃ a o,l=a++[o]/\o.kind=0/\YA l n=a++[⟨o.kind,o.n+n,o.l,o.e⟩]
 | [],n=> Or.inl rfl
 | [o],n=> by
  by_cases h:o.kind=0
  .exact Or.inr ⟨[],o,rfl,h,by simp [YA,h]⟩
  .exact Or.inl (by simp [YA,h])
 | o ::p ::r,n=> by
  rcases J7 (p ::r) n with h | ⟨a,q,h1,h2,h3⟩
  .exact Or.inl (by simp only [YA,h,Qt])
  .exact Or.inr ⟨o ::a,q,by rw [h1];rfl,h2,by simp only [YA,h3,Qt]⟩
def W0:Wst:=⟨[],[],[]⟩
def Stb(list:Int)(w:Wst):Prop:=Zv list w.out W0=⟨w.out,[],[]⟩/\Z9 w.gone=w.gone/\Z9 w.brought=w.brought
theorem Zaw{list:Int}{w:Wst}(h:Stb list w):Zv list (Zc w).out W0=w:=by
 obtain ⟨u,d,s⟩:=h
 obtain ⟨out,g,b⟩:=w
 simp only [Zc,Jk]
 rw [Jt,u,Jt]
 simp only at d s
 by_cases hg:g.length=0
 .rw [if_pos hg]
  have:g=[]:=Qs.1 hg
  subst this
  by_cases hb:b.length=0
  .rw [if_pos hb]
   have:b=[]:=Qs.1 hb
   subst this
   try rfl
  .rw [if_neg hb]
   simp [Zv,YO,s]
 .rw [if_neg hg]
  by_cases hb:b.length=0
  .rw [if_pos hb]
   have:b=[]:=Qs.1 hb
   subst this
   simp [Zv,YO,d]
  .rw [if_neg hb]
   simp [Zv,YO,d,s]
theorem Zes(list:Int)(o:Op)(s:Wst)(h:o.kind=0):Zv list [o] s=Y7 s o.n:=by
 simp only [Zv,YO,h,if_true]
theorem ZiL{list:Int}{w:Wst}(h:Stb list w)(n:Int):Stb list (Y7 w n):=by
 have hf:=Zaw h
 refine ⟨?_,rfl,rfl⟩
 show Zv list (YA (Zc w).out n) W0=⟨YA (Zc w).out n,[],[]⟩
 rcases J7 (Zc w).out n with e | ⟨a,o,e1,e2,e3⟩
 .rw [e,Jt,hf,Zes _ _ _ rfl]
  show (⟨YA (Zc w).out n,[],[]⟩:Wst)=_
  rw [e]
 .rw [e1,Jt,Zes _ _ _ e2] at hf
  rw [e3,Jt,Zes list ⟨o.kind,o.n+n,o.l,o.e⟩ _ e2]
  have d:YA (Zc (Zv list a W0)).out o.n=w.out/\w.gone=[]/\w.brought=[]:=by
   rw [<-hf];exact ⟨rfl,rfl,rfl⟩
  have s:(Zc w).out=w.out:=by simp [Zc,Jk,d.2.1,d.2.2]
  show (⟨YA (Zc (Zv list a W0)).out (o.n+n),[],[]⟩:Wst)=_
  rw [<-Zc6,d.1,<-e3,s]
theorem Z3c(l:List Tree):Z9 (Z9 l)=Z9 l:=by
 simp only [Z9,XP]
 congr 1
 funext t
 exact Yr t
theorem Yt(a b:List Tree):Z9 (a++b)=Z9 a++Z9 b:=by simp [Z9]
theorem ZBe{list:Int}{w:Wst}{o:Op}(h:Stb list w)(hi:Zq (Zq o.e)=Zq o.e):Stb list (Z06 list o w):=by
 rw [YO]
 by_cases k0:o.kind=0
 .rw [if_pos k0];exact ZiL h _
 .rw [if_neg k0]
  by_cases k1:o.kind=1
  .rw [if_pos k1]
   exact ⟨h.1,by simp only [Yt,Z3c,h.2.1],h.2.2⟩
  .rw [if_neg k1]
   by_cases k2:o.kind=2
   .rw [if_pos k2]
    exact ⟨h.1,h.2.1,by simp only [Yt,Z3c,h.2.2]⟩
   .rw [if_neg k2]
    by_cases k3:o.kind=3
    .rw [if_pos k3]
     by_cases hd:Z5D list (Zq o.e)=true
     .rw [if_pos hd];exact ZiL h _
     .rw [if_neg hd]
      refine ⟨?_,rfl,rfl⟩
      have hf:=Zaw h
      show Zv list ((Zc w).out++[⟨3,0,[],Zq o.e⟩]) W0=_
      rw [Jt,hf]
      simp only [Zv,YO]
      grind
    grind
mutual
theorem Z6j:∀ (e:Edit),Zq (Zq e)=Zq e
 | .mk k o n w ks l os=> by
  have d:=Zeu ks
  have s:=Zgm l os W0 ⟨rfl,rfl,rfl⟩
  have h:=Zaw s
  rw [Zq]
  by_cases k1:k=1
  .rw [if_pos k1,Zq,if_pos k1,Yr,Yr]
  .rw [if_neg k1]
   by_cases k2:k=2
   .rw [if_pos k2,Zq,if_neg k1,if_pos k2,d]
   .rw [if_neg k2]
    by_cases k3:k=3
    .rw [if_pos k3,Zq,if_neg k1,if_neg k2,if_pos k3]
     show Edit.mk k Tree.nil Tree.nil [] [] l (Zc (Zv l (Zc (Zv l os W0)).out W0)).out=Edit.mk k Tree.nil Tree.nil [] [] l (Zc (Zv l os W0)).out
     rw [h]
    .rw [if_neg k3,Zq,if_neg k1,if_neg k2,if_neg k3]
theorem Zeu:∀ (ks:List (KidOf Edit)),Jd (Jd ks)=Jd ks
 | []=> rfl
 | k ::r=> by
  have d:=ZjN k
  have h:=Zeu r
  simp only [Jd]
  rw [d,h]
theorem ZjN:∀ (k:KidOf Edit),Z0d (Z0d k)=Z0d k
 | ⟨a,e⟩=> by
  have h:=Z6j e
  simp only [Z0d]
  rw [h]
theorem Zgm(list:Int):∀ (os:List (OpOf Edit)) (w:Wst),Stb list w->Stb list (Zv list os w)
 | [],w,h=> h
 | o ::r,w,h=> by
  have d:=Zqf list o w h
  exact Zgm list r _ d
theorem Zqf(list:Int):∀ (o:OpOf Edit) (w:Wst),Stb list w->Stb list (Z06 list o w)
 | ⟨k,n,l,e⟩,w,h=> ZBe (o:=⟨k,n,l,e⟩) h (Z6j e)
end
end Go.AM.YtfapacabjkhepaaGreat
namespace Go.AM
theorem Z90{t:Tree}(h:Ys t=true):t=Tree.nil:=by
 obtain ⟨k,w,ks⟩:=t
 simp only [Ys,decide_eq_true_eq] at h
 obtain ⟨d,s,u⟩:=h
 have d:k=0:=d
 rw [d,Q3 (l:=w) s,Q3 (l:=ks) u]
 try rfl
theorem ZiS{e:Edit}(h:Z14 e=true):e=Edit.nil:=by
 obtain ⟨k,o,n,w,ks,l,os⟩:=e
 simp only [Z14,Q0,decide_eq_true_eq] at h
 obtain ⟨⟨⟨s,h2⟩,h3⟩,h4,u,h6,d⟩:=h
 have s:k=0:=s
 have d:l=0:=d
 rw [s,d,Z90 (t:=o) h2,Z90 (t:=n) h3,Q3 (l:=w) h4,Q3 (l:=ks) u,Q3 (l:=os) h6]
 try rfl
structure RightE (e:Edit) (d:Int):Prop where
 d0:d≠0
 kind:0<=e.kind/\e.kind<=3
 none:e.kind≠1->e.old=Tree.nil/\e.new=Tree.nil
 words0:e.kind≠2->e.words=[]/\e.kids=[]
 ops0:e.kind≠3->e.list=0/\e.ops=[]
 rep:e.kind=1->Za e.old (dT d)=true/\Za e.new (dT d)=true/\e.old.kind≠10/\e.new.kind≠10
 words:ZN (-1) e.words=true
 kids:Zz (-1) e.kids (d - 1)=true
 list:e.kind=3->2<=e.list/\e.list<=9
 ops:Zy e.list e.ops (d - 1)=true
 len:Z13 e.ops 0 < 1048576/\Z12 e.ops 0 < 1048576
theorem ZH{e:Edit}{d:Int}(h:Z6 e d=true):RightE e d:=by
 obtain ⟨k,o,n,w,ks,l,os⟩:=e
 rw [Z6] at h
 split at h
 .cases h
 .rename_i a
  split at h
  .cases h
  .rename_i b
   have b1:k≠1->o=Tree.nil/\n=Tree.nil:=by
    intro s
    by_cases x:Ys o=true/\Ys n=true
    .exact ⟨Z90 x.1,Z90 x.2⟩
    .grind
   have b2:k≠2->w=[]/\ks=[]:=by
    intro s
    by_cases x:w.length=0/\ks.length=0
    .exact ⟨Q3 x.1,Q3 x.2⟩
    .exact absurd (.inr (.inl ⟨s,x⟩)) b
   have u:k≠3->l=0/\os=[]:=by
    intro s
    by_cases x:l≠0\/os.length≠0
    .exact absurd (.inr (.inr ⟨s,x⟩)) b
    .exact ⟨V0,Q3 V0⟩
   split at h
   .rename_i c
    simp only [Q0,decide_eq_true_eq] at h
    obtain ⟨⟨h1,h2⟩,h3,h4⟩:=h
    have c2:=b2 V0
    have c3:=u V0
    obtain ⟨rfl,rfl⟩:=c2
    obtain ⟨rfl,rfl⟩:=c3
    exact ⟨V0,⟨by simp_all,by simp_all⟩,b1,b2,u,fun _=> ⟨h1,h2,h3,h4⟩,rfl,rfl,fun e=> by simp_all,rfl,by show Z13 [] 0 < _/\Z12 [] 0 < _;trivial⟩
   .rename_i c
    simp only [Q0,decide_eq_true_eq] at h
    obtain ⟨⟨⟨⟨h1,h2⟩,h3⟩,h4⟩,h5⟩:=h
    exact ⟨V0,⟨by simp_all,by simp_all⟩,b1,b2,u,fun e=> absurd e c,h1,h2,fun e=> by simp_all,h4,h5⟩
theorem ZP:∀ {ks:List Kid} {last d:Int},Zz last ks d=true->∀ k∈ks,(last < k.at_/\k.at_<=65534/\k.e.kind≠0)/\Z6 k.e d=true
 | [],_,_,_,_,hk=> by cases hk
 | ⟨a,e⟩ ::r,last,d,h,k,hk=> by
  simp only [Zz,YM,Q0,decide_eq_true_eq] at h
  obtain ⟨⟨u,h2⟩,s⟩:=h
  rcases Q7.1 hk with rfl | hk
  .grind
  .have:=ZP s k hk
   grind
theorem rightOs_mem{list:Int}:∀ {os:List Op} {d:Int},Zy list os d=true->∀ o∈os,Zf list o d=true
 | [],_,_,_,ho=> by cases ho
 | a ::r,d,h,o,ho=> by
  simp only [Zy,Q0] at h
  rcases Q7.1 ho with rfl | ho
  .exact h.1
  .exact rightOs_mem h.2 o ho
theorem Yw:∀ {ws:List WEdit} {last:Int},ZN last ws=true->∀ w∈ws,last < w.at_/\w.at_<=65534/\w.mask≠0/\Yg w.old w.mask=true/\Yg w.new w.mask=true
 | [],_,_,_,hw=> by cases hw
 | a ::r,last,h,w,hw=> by
  simp only [ZN,Q0,decide_eq_true_eq] at h
  obtain ⟨⟨⟨s,h2⟩,u⟩,d⟩:=h
  rcases Q7.1 hw with rfl | hw
  .grind
  .have:=Yw d w hw
   grind
inductive RightOp (list:Int) (d:Int):Op->Prop
 | keep (n:Int):1<=n->n<=1048576->RightOp list d ⟨0,n,[],Edit.nil⟩
 | gone (l:List Tree):Yp (dT d) list l=true->0 < l.length->RightOp list d ⟨1,0,l,Edit.nil⟩
 | come (l:List Tree):Yp (dT d) list l=true->0 < l.length->RightOp list d ⟨2,0,l,Edit.nil⟩
 | into (e:Edit):Z6 e d=true->e.kind≠0->7 < list->(list=8\/e.kind=2\/e.kind=1/\e.old.kind=1/\e.new.kind=1)->RightOp list d ⟨3,0,[],e⟩
theorem ZJ{list:Int}{o:Op}{d:Int}(h:Zf list o d=true):RightOp list d o:=by
 obtain ⟨k,n,l,e⟩:=o
 rw [Zf] at h
 split at h
 .rename_i hk
  simp only [Q0,decide_eq_true_eq] at h
  obtain ⟨⟨h1,h2,u⟩,s⟩:=h
  rw [hk,ZiS s,Q3 u]
  exact .keep n h1 h2
 .rename_i h0
  split at h
  .cases h
  .rename_i h1
   have hn:n=0:=V0
   subst hn
   split at h
   .rename_i h2
    simp only [Q0,decide_eq_true_eq] at h
    obtain ⟨⟨u,s⟩,h5⟩:=h
    rw [ZiS h5]
    by_cases hk:k=1
    .rw [hk];exact .gone l u s
    .rw [show k=2 by omega];exact .come l u s
   .rename_i h2
    simp only [Q0,decide_eq_true_eq] at h
    obtain ⟨⟨⟨u,s,h5⟩,h6⟩,h7⟩:=h
    rw [show k=3 by omega,Q3 u]
    exact .into e h6 s h5 h7
theorem Zl5{e:Edit}{d:Int}(h:Z6 e d=true):(∀ k∈e.kids,∃ d,Z6 k.e d=true)/\(∀ o∈e.ops,∃ l d,Zf l o d=true)/\(e.kind=3->2<=e.list/\e.list<=9):=by
 have r:=ZH h
 exact ⟨fun k s=> ⟨_,(ZP r.kids k s).2⟩,fun o u=> ⟨_,_,rightOs_mem r.ops o u⟩,r.list⟩
theorem Z0w{l d:Int}{o:Op}(h:Zf l o d=true)(hk:o.kind=3):Z6 o.e d=true:=by
 have r:=ZJ h
 cases r with
 | into e h1=> exact h1
 | keep | gone | come=> grind
end Go.AM
namespace Go.AM.YtfapacabjkhepaaGreat
open Go.AM Go.Proofs
theorem Z70{α:Type}(z:α)(l:List α)(i:Nat)(x:α):(Y4 z l i x).length=max l.length (i+1):=by
 simp only [Y4,List.length_set,Qa,Xm];omega
theorem Z1t{α:Type}(z:α)(l:List α)(i:Nat)(x:α)(j:Nat):(Y4 z l i x).getD j z=if j=i then x else l.getD j z:=by
 simp only [Y4,Q9,XZ,Qa,Xm]
 grind
theorem Zl1{α β:Type}(f:α->β)(z:α)(l:List α)(i:Nat)(x:α):(Y4 z l i x).map f=Y4 (f z) (l.map f) i (f x):=by
 simp [Y4,List.map_set]
theorem Z3S:∀ l:List Tree,Yl l=Z9 l
 | []=> rfl
 | t ::r=> by simp [Yl,Z9,Z3S r]
theorem Zex(l:List Tree)(i:Nat)(x:Tree):Z9 (Y4 Tree.nil l i x)=Y4 Tree.nil (Z9 l) i (Z3 x):=by
 rw [Z9,Zl1,Zqg];try rfl
theorem Zgo{a b:List Tree}{i:Nat}{x y:Tree}(h:Z9 a=Z9 b)(hx:Z3 x=Z3 y):Z9 (Y4 Tree.nil a i x)=Z9 (Y4 Tree.nil b i y):=by
 rw [Zex,Zex,h,hx]
theorem JZ{a b c d:List Tree}(h:Z9 a=Z9 b)(hx:Z9 c=Z9 d):Z9 (a++c)=Z9 (b++d):=by
 rw [Yt,Yt,h,hx]
theorem Z5q(k:Int)(w:List Int){a b:List Tree}(h:Z9 a=Z9 b):Z3 (.mk k w a)=Z3 (.mk k w b):=by
 simp only [Z3,Z3S,h]
theorem Z3R{a b:List Tree}(h:Z9 a=Z9 b):a.length=b.length:=by
 have:=congrArg List.length h
 simpa [Z9] using this
theorem Z6l{a b:Tree}:Z9 [a]=Z9 [b]↔Z3 a=Z3 b:=by simp [Z9]
def OptR{α β:Type}(R:α->β->Prop):Option α->Option β->Prop
 | none,none=> True
 | some a,some b=> R a b
 | _,_=> False
theorem OptR.rfl'{α:Type}(a:Option α):OptR Eq a a:=by cases a;exact trivial;exact rfl
theorem OptR.bind{α β γ δ:Type}{R:α->β->Prop}{S:γ->δ->Prop}{a:Option α}{b:Option β}{f:α->Option γ}{g:β->Option δ}(h:OptR R a b)(hf:∀ x y,R x y->OptR S (f x) (g y)):OptR S (a.bind f) (b.bind g):=by
 cases a <;> cases b <;> first | exact trivial | exact h.elim | exact hf _ _ h
theorem OptR.map{α β γ δ:Type}{R:α->β->Prop}{S:γ->δ->Prop}{a:Option α}{b:Option β}{f:α->γ}{g:β->δ}(h:OptR R a b)(hf:∀ x y,R x y->S (f x) (g y)):OptR S (a.map f) (b.map g):=by
 cases a <;> cases b <;> first | exact trivial | exact h.elim | exact hf _ _ h
theorem OptR.ite{α β:Type}{R:α->β->Prop}{p q:Prop} [Decidable p] [Decidable q] {a c:Option α}{b d:Option β}(h:p↔q)(h1:p->OptR R a b)(h2:¬p->OptR R c d):OptR R (if p then a else c) (if q then b else d):=by
 grind
theorem OptR.mono{α β:Type}{R S:α->β->Prop}{a:Option α}{b:Option β}(h:OptR R a b)(hf:∀ x y,R x y->S x y):OptR S a b:=by
 cases a <;> cases b <;> first | exact trivial | exact h.elim | exact hf _ _ h
theorem OptR.normed{a b:Option Tree}(h:OptR (fun x y=> Z3 x=Z3 y) a b):a.map Z3=b.map Z3:=by
 cases a <;> cases b <;> first | rfl | exact h.elim | exact congrArg some h
def Eqv(x y:Tree):Prop:=Z3 x=Z3 y
def EqvL(x y:List Tree):Prop:=Z9 x=Z9 y
theorem EqvL.take{x y:List Tree}(h:EqvL x y)(n:Nat):EqvL (x.take n) (y.take n):=by unfold EqvL Z9 at*;simp_all
theorem EqvL.drop{x y:List Tree}(h:EqvL x y)(n:Nat):EqvL (x.drop n) (y.drop n):=by unfold EqvL Z9 at*;simp_all
theorem EqvL.len{x y:List Tree}(h:EqvL x y):x.length=y.length:=Z3R h
theorem Zew(l:List Tree)(i:Nat):(Z9 l).getD i Tree.nil=Z3 (l.getD i Tree.nil):=by rw [<-Z3S];exact Z0x l i
theorem EqvL.get{x y:List Tree}(h:EqvL x y)(i:Nat):Eqv (x.getD i Tree.nil) (y.getD i Tree.nil):=by
 unfold Eqv;rw [<-Zew,<-Zew,h]
theorem Zf1{a b:Option (List Tree × List Tree)}(h:OptR (fun x y=> EqvL x.1 y.1/\EqvL x.2 y.2) a b):OptR EqvL (Z25 a) (Z25 b):=by
 unfold Z25
 refine h.bind fun x y d=> ?_
 exact OptR.ite (by rw [d.2.len]) (fun _=> d.1) (fun _=> trivial)
mutual
theorem Zmx:∀ (e:Edit) (t:Tree),OptR Eqv (doE true e t) (doE false e t)
 | .mk k o n w ks l os,t=> by
  have s:=ZoX ks t.kids t.kids t.kids rfl
  have d:=ZoW os t.kids [] [] rfl
  rw [Z0X,Z0X,Jj]
  show OptR Eqv (Option.map (nrD true) _) _
  suffices h:∀ a b,OptR Eqv a b->OptR Eqv (Option.map (nrD true) a) b by
   refine h _ _ ?_
   refine OptR.ite Qu (fun _=> rfl) fun _=> OptR.ite Qu (fun _=> OptR.ite Qu (fun _=> rfl) (fun _=> trivial)) fun _=> OptR.ite Qu (fun _=> ?_) fun _=> OptR.ite Qu (fun _=> ?_) (fun _=> trivial)
   .refine OptR.ite Qu (fun _=> ?_) (fun _=> trivial)
    refine OptR.bind (R:=Eq) (OptR.rfl' _) ?_
    rintro a _ rfl
    exact s.map fun x y h=> Z5q _ _ h
   .refine OptR.ite Qu (fun _=> ?_) (fun _=> trivial)
    exact (Zf1 (d.mono fun x y h=> ⟨h.1,by rw [h.2];rfl⟩)).map fun x y h=> Z5q _ _ h
  intro a b h
  cases a <;> cases b <;> first | exact trivial | exact h.elim | skip
  unfold Eqv nrD at*
  simp only [Qf,if_true]
  show Z3 (Z3 _)=_
  rw [Yr]
  exact h
theorem ZoX:∀ (ks:List (KidOf Edit)) (tk a b:List Tree),EqvL a b->OptR EqvL (JV true tk ks a) (JV false tk ks b)
 | [],_,_,_,h=> h
 | k ::r,tk,a,b,h=> by
  rw [JV,JV]
  refine (ZuS k tk).bind fun x y d=> ZoX r tk _ _ (Zgo h d)
theorem ZuS:∀ (k:KidOf Edit) (tk:List Tree),OptR Eqv (Z08 true tk k) (Z08 false tk k)
 | ⟨_,e⟩,tk=> by rw [Z08,Z08];exact Zmx e _
theorem ZoW:∀ (os:List (OpOf Edit)) (rest a b:List Tree),EqvL a b->OptR (fun x y=> EqvL x.1 y.1/\x.2=y.2) (ZR true os rest a) (ZR false os rest b)
 | [],rest,a,b,h=> ⟨h,rfl⟩
 | o ::r,rest,a,b,h=> by
  rw [ZR,ZR]
  refine (ZyO o rest a b h).bind fun x y d=> ?_
  rw [d.2]
  exact ZoW r _ _ _ d.1
theorem ZyO:∀ (o:OpOf Edit) (rest a b:List Tree),EqvL a b->OptR (fun x y=> EqvL x.1 y.1/\x.2=y.2) (Z2P true o rest a) (Z2P false o rest b)
 | ⟨k,n,l,e⟩,rest,a,b,h=> by
  have d:=Zmx e (rest.getD 0 Tree.nil)
  rw [Z2P,Z2P]
  refine OptR.ite Qu (fun _=> OptR.ite Qu (fun _=> ⟨JZ h rfl,rfl⟩) (fun _=> trivial)) fun _=> OptR.ite Qu (fun _=> OptR.ite Qu (fun _=> ⟨h,rfl⟩) (fun _=> trivial)) fun _=> OptR.ite Qu (fun _=> ⟨JZ h rfl,rfl⟩) fun _=> OptR.ite Qu (fun _=> trivial) fun _=> ?_
  exact d.map fun x y s=> ⟨JZ h (Z6l.2 s),rfl⟩
end
theorem Z5Q(e:Edit)(t:Tree):(doE true e t)=(doE false e t).map Z3:=by
 have h:=Zmx e t
 have d:(doE true e t).map Z3=doE true e t:=by
  rw [Z0X]
  generalize ite (e.kind=0) _ _=x
  cases x with
  | none=> rfl
  | some u=> simp [nrD,Yr]
 rw [<-d]
 exact h.normed
def ZvS(a b:List Int):Prop:=∀ i:Nat,a.getD i 0=b.getD i 0
def Zrb(a b:List Tree):Prop:=∀ i:Nat,Eqv (a.getD i Tree.nil) (b.getD i Tree.nil)
theorem Zf0{a b:Tree}(ha:a.kind=1)(hb:b.kind=1):Eqv a b↔ZvS a.words b.words/\Zrb a.kids b.kids:=by
 unfold Eqv ZvS Zrb
 rw [YH,ha,hb]
 simp [Eqv]
theorem ZuL{a b:Tree}(h0:a.kind≠0)(h1:a.kind≠1):Eqv a b↔a.kind=b.kind/\a.words=b.words/\EqvL a.kids b.kids:=by
 unfold Eqv EqvL
 rw [YH,if_neg h1,<-Z3S,<-Z3S,Z8Z]
 grind
theorem Eqv.kind{a b:Tree}(h:Eqv a b):a.kind=b.kind:=((YH a b).1 h).1
theorem ZmY{tw tv:List Int}(h:ZvS tw tv):∀ (ws:List WEdit) (a b:List Int),ZvS a b->OptR ZvS (wsD tw ws a) (wsD tv ws b)
 | [],_,_,hab=> hab
 | w ::r,a,b,hab=> by
  rw [wsD,wsD,h w.at_.toNat]
  refine OptR.ite Qu (fun _=> ZmY h r _ _ fun i=> ?_) (fun _=> trivial)
  rw [Z1t,Z1t]
  split
  .try rfl
  .exact hab i
theorem ZqK(l:List Tree){a b:List Tree}(h:EqvL a b):Je l a=Je l b:=by
 unfold Je
 rw [h.len,show Z9 (a.take l.length)=Z9 (b.take l.length) from h.take _]
mutual
theorem Zi7:∀ (e:Edit) (d:Int) (t s:Tree),Z6 e d=true->Eqv t s->OptR Eqv (doE false e t) (doE false e s)
 | .mk k o n w ks l os,d,t,s,hr,h=> by
  have h1:=Zkz ks t.kids s.kids
  have h2:=Zf5 os t.kids s.kids [] []
  have hk:=h.kind
  have aa:=Zl5 hr
  rw [Z0X,Z0X,Jj,Jj]
  show OptR Eqv (if k=0 then _ else _) (if k=0 then _ else _)
  refine OptR.ite Qu (fun _=> h) fun _=> OptR.ite Qu (fun _=> ?_) fun _=> OptR.ite Qu (fun k2=> ?_) fun _=> OptR.ite Qu (fun k3=> ?_) (fun _=> trivial)
  .rw [show Z3 t=Z3 s from h]
   exact OptR.ite Qu (fun _=> rfl) (fun _=> trivial)
  .refine OptR.ite (by rw [hk]) (fun ht=> ?_) (fun _=> trivial)
   have hs:s.kind=1:=by rw [<-hk];exact ht
   obtain ⟨hw,u⟩:=(Zf0 ht hs).1 h
   refine (ZmY hw w t.words s.words hw).bind fun a b ai=> ?_
   refine (h1 u aa.1 t.kids s.kids u).map fun x y ab=> ?_
   exact (Zf0 rfl rfl).2 ⟨ai,ab⟩
  .refine OptR.ite (by rw [hk]) (fun ht=> ?_) (fun _=> trivial)
   have hl:=aa.2.2
   have af:=aa.2.1
   replace ht:t.kind=l:=ht
   replace hl:2<=l/\l<=9:=hl k3
   obtain ⟨_,_,u⟩:=(ZuL V0 V0).1 h
   exact (Zf1 (h2 u rfl af)).map fun x y ab=> Z5q _ _ ab
theorem Zkz:∀ (ks:List (KidOf Edit)) (tk sk:List Tree),Zrb tk sk->(∀ k∈ks,∃ d,Z6 k.e d=true)->∀ a b,Zrb a b->OptR Zrb (JV false tk ks a) (JV false sk ks b)
 | [],_,_,_,_,_,_,hab=> hab
 | k ::r,tk,sk,h,hr,a,b,hab=> by
  rw [JV,JV]
  obtain ⟨d,u⟩:=hr k Q5
  refine (ZqQ k d tk sk h u).bind fun x y s=> Zkz r tk sk h (fun q hq=> hr q (Q1 _ hq)) _ _ fun i=> ?_
  rw [Z1t,Z1t]
  split
  .exact s
  .exact hab i
theorem ZqQ:∀ (k:KidOf Edit) (d:Int) (tk sk:List Tree),Zrb tk sk->Z6 k.e d=true->OptR Eqv (Z08 false tk k) (Z08 false sk k)
 | ⟨a,e⟩,d,tk,sk,h,hr=> by rw [Z08,Z08];exact Zi7 e d _ _ hr (h _)
theorem Zf5:∀ (os:List (OpOf Edit)) (rt rs a b:List Tree),EqvL rt rs->EqvL a b->(∀ o∈os,∃ l d,Zf l o d=true)->OptR (fun x y=> EqvL x.1 y.1/\EqvL x.2 y.2) (ZR false os rt a) (ZR false os rs b)
 | [],_,_,_,_,h,hab,_=> ⟨hab,h⟩
 | o ::r,rt,rs,a,b,h,hab,hr=> by
  rw [ZR,ZR]
  refine (ZuR o rt rs a b h hab (hr o Q5)).bind fun x y s=> Zf5 r _ _ _ _ s.2 s.1 (fun q u=> hr q (Q1 _ u))
theorem ZuR:∀ (o:OpOf Edit) (rt rs a b:List Tree),EqvL rt rs->EqvL a b->(∃ l d,Zf l o d=true)->OptR (fun x y=> EqvL x.1 y.1/\EqvL x.2 y.2) (Z2P false o rt a) (Z2P false o rs b)
 | ⟨k,n,l,e⟩,rt,rs,a,b,h,hab,u=> by
  obtain ⟨li,d,u⟩:=u
  have he:=fun h3=> Zi7 e d (rt.getD 0 Tree.nil) (rs.getD 0 Tree.nil) (Z0w u h3) (h.get 0)
  have s:=h.len
  rw [Z2P,Z2P]
  refine OptR.ite Qu (fun _=> OptR.ite (by rw [s]) (fun _=> ⟨JZ hab (h.take _),h.drop _⟩) (fun _=> trivial)) fun k0=> OptR.ite Qu (fun _=> ?_) fun k1=> OptR.ite Qu (fun _=> ⟨JZ hab rfl,h⟩) fun k2=> OptR.ite (by rw [s]) (fun _=> trivial) fun _=> ?_
  .rw [ZqK l h]
   exact OptR.ite Qu (fun _=> ⟨hab,h.drop _⟩) (fun _=> trivial)
  .have ab:k=0\/k=1\/k=2\/k=3:=by
    have r:=ZJ u
    generalize ho:OpOf.mk k n l e=o at r
    cases r <;> (injection ho with h1;subst h1;decide)
   exact (he (by grind)).map fun x y h'=> ⟨JZ hab (Z6l.2 h'),h.drop _⟩
end
theorem ZcU:∀ (ks:List Kid),(Z09 ks).length=ks.length
 | []=> rfl
 | k ::r=> by simp only [Z09,Qe,ZcU r]
theorem ZbX{α β:Type}{f:α->β}(d:α){a b:List α}(hl:a.length=b.length)(h:∀ i:Nat,i < a.length->f (a.getD i d)=f (b.getD i d)):a.map f=b.map f:=by
 apply K1 (by simpa using hl)
 grind
theorem Z5K{α β:Type}{f:α->β}{d:α}{a b:List α}(h:a.map f=b.map f)(i:Nat):f (a.getD i d)=f (b.getD i d):=by
 have e:=congrArg (fun l=> l[i]?.getD (f d)) h
 grind
theorem Z2j(t:Tree):(Z3 t).kind=t.kind:=by
 obtain ⟨k,w,ks⟩:=t
 simp only [Z3]
 by_cases h0:k=0
 .rw [if_pos h0,h0];try rfl
 .rw [if_neg h0]
  by_cases h1:k=1
  .rw [if_pos h1,h1];try rfl
  .rw [if_neg h1];try rfl
theorem ZcW:∀ (l:List Int),∃ r,l=trim l++r
 | []=> ⟨[],rfl⟩
 | x ::r=> by
  obtain ⟨s,d⟩:=ZcW r
  simp only [trim]
  split
  .rename_i e
   split
   .exact ⟨x ::r,rfl⟩
   .exact ⟨r,rfl⟩
  .rename_i y t e
   rw [e] at d
   exact ⟨s,by rw [d];rfl⟩
theorem Zas:∀ (l:List Tree),∃ r,l=Yf l++r
 | []=> ⟨[],rfl⟩
 | x ::r=> by
  obtain ⟨s,d⟩:=Zas r
  simp only [Yf]
  split
  .rename_i e
   split
   .exact ⟨x ::r,rfl⟩
   .exact ⟨r,rfl⟩
  .rename_i y t e
   rw [e] at d
   exact ⟨s,by rw [d];rfl⟩
theorem ZdM{list d:Int}:∀ (a b:List Tree),Yb list (a++b) d=true->Yb list a d=true
 | [],_,_=> rfl
 | t ::r,b,h=> by
  simp only [Qt,Yb,Q0] at h ⊢
  exact ⟨h.1,ZdM r b h.2⟩
theorem Z20:∀ (l:List Tree),(Yl l).length=l.length
 | []=> rfl
 | t ::r=> by simp only [Yl,Qe,Z20 r]
theorem ZqG{list:Int}{t:Tree}(h:Z0n list t=true):Z0n list (Z3 t)=true:=by
 unfold Z0n at h ⊢
 rw [Z2j]
 split at h
 .rename_i hl
  rw [if_pos hl]
  simp only [Q0,decide_eq_true_eq] at h ⊢
  obtain ⟨⟨s,d,h3⟩,u⟩:=h
  obtain ⟨k,w,ks⟩:=t
  simp only [Tree.kind_mk,Tree.kids_mk,Tree.words_mk] at s d h3 u
  have:ks=[]:=Qs.1 d
  subst this
  subst s
  trivial
 grind
mutual
theorem Z1x:∀ (t:Tree) (d:Int),Za t d=true->Za (Z3 t) d=true
 | .mk k w ks,d,h=> by
  have u:=fun (list:Int) (h:Yb list ks (d - 1)=true)=> Z5c ks list (d - 1) h
  simp only [Za] at h
  simp only [Z3]
  by_cases h0:k=0
  .rw [if_pos h0];try rfl
  .rw [if_neg h0] at h ⊢
   by_cases h10:k=10
   .subst h10
    rw [if_pos rfl] at h
    rw [if_neg V2]
    simp only [decide_eq_true_eq] at h
    simp only [Za]
    rw [if_neg V2,if_pos trivial,Z20]
    simpa using h
   .rw [if_neg h10] at h
    by_cases hd:d=0
    .grind
    .rw [if_neg hd] at h
     by_cases h1:k=1
     .subst h1
      rw [if_pos rfl] at h
      rw [if_pos rfl]
      simp only [Q0,decide_eq_true_eq] at h
      simp only [Za]
      rw [if_neg V2,if_neg V2,if_neg hd,if_pos trivial]
      simp only [Q0,decide_eq_true_eq]
      obtain ⟨r1,e1⟩:=ZcW w
      obtain ⟨r2,e2⟩:=Zas (Yl ks)
      have l1:=congrArg List.length e1
      have s:=congrArg List.length e2
      rw [Z20] at s
      simp only [Qa] at l1 s
      refine ⟨⟨V0,V0⟩,?_⟩
      have:=u 1 h.2
      rw [e2] at this
      exact ZdM _ _ this
     .rw [if_neg h1] at h ⊢
      simp only [Q0,decide_eq_true_eq] at h
      simp only [Za]
      rw [if_neg h0,if_neg h10,if_neg hd,if_neg h1,Z20]
      grind
theorem Z5c:∀ (l:List Tree) (list d:Int),Yb list l d=true->Yb list (Yl l) d=true
 | [],_,_,_=> rfl
 | t ::r,list,d,h=> by
  simp only [Yb,Q0] at h
  have s:=Z1x t d h.1.2
  have u:=Z5c r list d h.2
  simp only [Yl,Yb,Q0]
  exact ⟨⟨ZqG h.1.1,s⟩,u⟩
end
theorem Z19(e:Edit):(ZO e).kind=e.kind:=by cases e;rfl
theorem ZfO(e:Edit):(ZO e).old=e.new:=by cases e;rfl
theorem ZfP(e:Edit):(ZO e).new=e.old:=by cases e;rfl
theorem Z86:∀ (l:List WEdit) (last:Int),ZN last (l.map Z4T)=ZN last l
 | [],_=> rfl
 | w ::r,last=> by
  simp only [QD,ZN,Z86 r]
  have d:(Z4T w).at_=w.at_:=rfl
  have s:(Z4T w).mask=w.mask:=rfl
  have h:(Z4T w).old=w.new:=rfl
  have u:(Z4T w).new=w.old:=rfl
  grind
theorem ZkS(o:Op):Z7 (YV o)=Z7 o/\((YV o).kind=2↔o.kind=1)/\((YV o).kind=1↔o.kind=2):=by
 rw [Jw]
 by_cases h1:o.kind=1
 .rw [if_pos h1];simp [Z7,h1]
 .rw [if_neg h1]
  by_cases h2:o.kind=2
  .rw [if_pos h2];simp [Z7,h2]
  .rw [if_neg h2]
   by_cases h3:o.kind=3
   .rw [if_pos h3];simp [Z7,h3]
   simp_all
theorem Z9i:∀ (l:List Op) (n:Int),Z13 (Jq l) n=Z12 l n/\Z12 (Jq l) n=Z13 l n
 | [],_=> ⟨rfl,rfl⟩
 | o ::r,n=> by
  obtain ⟨d,s,h⟩:=ZkS o
  simp only [Jq,Z13,Z12]
  rw [d]
  constructor
  .rw [(Z9i r _).1]
   grind
  .rw [(Z9i r _).2]
   grind
theorem Z7o:∀ (l:List Op),(Jq l).length=l.length
 | []=> rfl
 | o ::r=> by simp only [Jq,Qe,Z7o r]
theorem Zxo{list d:Int}{o:Op}(h:Zf list o d=true)(hi:Z6 o.e d=true->Z6 (ZO o.e) d=true):Zf list (YV o) d=true:=by
 have h':=h
 rw [Js] at h
 by_cases k0:o.kind=0
 .have e:YV o=o:=by rw [Jw,JC,JC,JC]
  grind
 .rw [if_neg k0] at h
  split at h
  .cases h
  .rename_i u
   by_cases k3:o.kind=3
   .rw [JC] at h
    have e:YV o=⟨o.kind,o.n,o.l,ZO o.e⟩:=by rw [Jw,JC,JC,if_pos k3]
    rw [e,Js]
    simp only
    rw [if_neg k0,if_neg u,JC,Z19,ZfO,ZfP]
    grind
   .rw [YC] at h
    have s:o.kind=1\/o.kind=2:=V0
    rcases s with k | k
    .have e:YV o=⟨2,o.n,o.l,o.e⟩:=by rw [Jw,if_pos k]
     rw [e,Js]
     grind
    .have e:YV o=⟨1,o.n,o.l,o.e⟩:=by rw [Jw,JC,if_pos k]
     rw [e,Js]
     grind
mutual
theorem JN:∀ (e:Edit) (d:Int),Z6 e d=true->Z6 (ZO e) d=true
 | .mk k o n w ks l os,d,h=> by
  have h1:=Z8D ks
  have h2:=Z8A l os
  simp only [Z6] at h
  simp only [ZO,Z6]
  split at h
  .cases h
  .rename_i a
   rw [if_neg a]
   split at h
   .cases h
   .rename_i b
    rw [if_neg (by rw [X5,ZcU,Z7o];grind)]
    split at h
    .grind
    .rename_i c
     rw [if_neg c]
     simp only [Q0,decide_eq_true_eq] at h ⊢
     obtain ⟨⟨⟨⟨u,x2⟩,x3⟩,s⟩,x5⟩:=h
     refine ⟨⟨⟨⟨by rw [Z86];exact u,h1 _ _ x2⟩,x3⟩,h2 _ s⟩,?_⟩
     rw [(Z9i os 0).1,(Z9i os 0).2]
     omega
theorem Z8D:∀ (ks:List (KidOf Edit)) (last d:Int),Zz last ks d=true->Zz last (Z09 ks) d=true
 | [],_,_,_=> rfl
 | k ::r,last,d,h=> by
  simp only [Zz,Q0] at h
  have s:=Zfu k last d h.1
  have u:=Z8D r k.at_ d h.2
  simp only [Z09,Zz,Q0]
  exact ⟨s,by rw [ZcV];exact u⟩
theorem Zfu:∀ (k:KidOf Edit) (last d:Int),YM last k d=true->YM last (Z1S k) d=true
 | ⟨a,e⟩,last,d,h=> by
  simp only [YM,Q0] at h
  have s:=JN e d h.2
  simp only [Z1S,YM,Q0]
  rw [Z19]
  grind
theorem Z8A(list:Int):∀ (os:List (OpOf Edit)) (d:Int),Zy list os d=true->Zy list (Jq os) d=true
 | [],_,_=> rfl
 | o ::r,d,h=> by
  simp only [Zy,Q0] at h
  have s:=Zhg list o d h.1
  have u:=Z8A list r d h.2
  simp only [Jq,Zy,Q0]
  grind
theorem Zhg(list:Int):∀ (o:OpOf Edit) (d:Int),Zf list o d=true->Zf list (YV o) d=true
 | ⟨k,n,l,e⟩,d,h=> Zxo (o:=⟨k,n,l,e⟩) h (fun s=> JN e d s)
end
theorem ZaU:∀ (a b:List Tree),Ze (a++b)=Ze a+Ze b
 | [],b=> by simp [Ze]
 | t ::r,b=> by simp only [Qt,Ze,ZaU r b];omega
theorem Z0z:∀ (a b:List Op),Zj (a++b)=Zj a+Zj b
 | [],b=> by simp [Zj]
 | t ::r,b=> by simp only [Qt,Zj,Z0z r b];omega
theorem Z5v:∀ (l:List Tree),Ze (Z9 l)<=Ze l
 | []=> by trivial
 | t ::r=> by
  have h:=Z5v r
  have d:=Yj t
  simp only [Z9] at h
  simp only [Z9,QD,Ze]
  omega
theorem Z6q:Zd Edit.nil=3:=by rfl
theorem Z0G:Zh Tree.nil=1:=by rfl
theorem Z6p(t:Tree):1<=Zh t:=by cases t;simp only [Zh];omega
theorem Zk5:∀ (e:Edit),3<=Zd e
 | .mk k o n w ks l os=> by
  have d:=Z6p o
  have h:=Z6p n
  simp only [Zd];omega
def Z7L(w:Wst):Nat:=Zj w.out+w.out.length+Ze w.gone+Ze w.brought+(if w.gone.length=0 then 0 else 4)+(if w.brought.length=0 then 0 else 4)
theorem Z0y(o:Op):Zj [o]=Zx o:=by rfl
theorem Z2i(k n:Int)(l:List Tree)(e:Edit):Zx (OpOf.mk k n l e)=Ze l+Zd e:=rfl
theorem ZaK(w:Wst):Zj (Zc w).out+(Zc w).out.length=Z7L w:=by
 simp only [Zc,Jk,Z7L]
 rw [Z0z,Z0z,Qa,Qa]
 by_cases hg:w.gone.length=0
 .have e:w.gone=[]:=Qs.1 hg
  rw [if_pos hg,if_pos hg,e]
  by_cases hb:w.brought.length=0
  .have e2:w.brought=[]:=Qs.1 hb
   rw [if_pos hb,if_pos hb,e2];try rfl
  .rw [if_neg hb,if_neg hb,Z0y,Z2i,Z6q];simp [Zj,Ze];omega
 .rw [if_neg hg,if_neg hg,Z0y,Z2i,Z6q]
  by_cases hb:w.brought.length=0
  .have e2:w.brought=[]:=Qs.1 hb
   rw [if_pos hb,if_pos hb,e2];simp [Zj,Ze];omega
  .rw [if_neg hb,if_neg hb,Z0y,Z2i,Z6q];simp;omega
theorem ZjB(w:Wst)(n:Int):Z7L (Y7 w n)<=Z7L w+4:=by
 have h:=ZaK w
 have e:Z7L (Y7 w n)=Zj (YA (Zc w).out n)+(YA (Zc w).out n).length:=rfl
 rw [e]
 rcases J7 (Zc w).out n with e | ⟨a,o,e1,_,e3⟩
 .rw [e,Z0z,Qa,Z0y,Z2i,Z6q];simp [Ze];omega
 .rw [e3,Z0z,Qa,Z0y]
  rw [e1,Z0z,Qa,Z0y] at h
  obtain ⟨k,m,l,e⟩:=o
  simp only [Z2i] at h ⊢
  grind
theorem ZBv{list:Int}{w:Wst}{o:Op}(hi:Zd (Zq o.e)<=Zd o.e):Z7L (Z06 list o w)<=Z7L w+Zx o+1:=by
 have h:=Zk5 o.e
 have s:Zx o=Ze o.l+Zd o.e:=by cases o;rfl
 have d:=Z5v o.l
 have hl:(Z9 o.l).length=o.l.length:=by simp [Z9]
 rw [YO]
 split
 .have:=ZjB w o.n;omega
 .split
  .simp only [Z7L,ZaU,Qa,hl]
   grind
  .split
   .simp only [Z7L,ZaU,Qa,hl]
    grind
   .split
    .split
     .have:=ZjB w 1;omega
     .have:=ZaK w
      have e:Z7L ⟨(Zc w).out++[⟨3,0,[],Zq o.e⟩],[],[]⟩=Zj ((Zc w).out++[(⟨3,0,[],Zq o.e⟩:Op)])+((Zc w).out++[(⟨3,0,[],Zq o.e⟩:Op)]).length:=rfl
      rw [e,Z0z,Qa,Z0y,Z2i]
      simp [Ze];omega
    .omega
mutual
theorem Z02:∀ (e:Edit),Zd (Zq e)<=Zd e
 | .mk k o n w ks l os=> by
  have u:=ZeH ks
  have d:=Zo0 l os W0
  have s:=ZaK (Zv l os W0)
  have e0:Z7L W0=0:=rfl
  have po:=Z6p o
  have pn:=Z6p n
  have h:=Yj o
  have mn:=Yj n
  rw [Zq]
  split
  .simp only [Zd,Zp,Zj,Qj];omega
  .split
   .simp only [Zd,Zp,Zj,Qj,Z0G];omega
   .split
    .simp only [Zd,Zp,Qj,Z0G]
     show 1+1+1+0+(Zc (Zv l os W0)).out.length+0+Zj (Zc (Zv l os W0)).out<=_
     omega
    .simp only [Zd,Zp,Zj,Qj,Z0G];omega
theorem ZeH:∀ (ks:List (KidOf Edit)),Zp (Jd ks)<=Zp ks
 | []=> Qc _
 | k ::r=> by
  have d:=Zk3 k
  have h:=ZeH r
  simp only [Jd,Zp];omega
theorem Zk3:∀ (k:KidOf Edit),Ym (Z0d k)<=Ym k
 | ⟨a,e⟩=> by
  have h:=Z02 e
  trivial
theorem Zo0(list:Int):∀ (os:List (OpOf Edit)) (w:Wst),Z7L (Zv list os w)<=Z7L w+Zj os+os.length
 | [],w=> by simp [Zv,Zj]
 | o ::r,w=> by
  have d:=Zq5 list o w
  have h:=Zo0 list r (Z06 list o w)
  simp only [Zv,Zj,Qe];omega
theorem Zq5(list:Int):∀ (o:OpOf Edit) (w:Wst),Z7L (Z06 list o w)<=Z7L w+Zx o+1
 | ⟨k,n,l,e⟩,_=> ZBv (o:=⟨k,n,l,e⟩) (Z02 e)
end
theorem Z3Q(e:Edit):(Zq e).kind=e.kind:=by
 rw [Z6k]
 split
 .try rfl
 .split
  .try rfl
  .split <;> rfl
theorem Z8W(e:Edit)(h:e.kind=1):(Zq e).old=Z3 e.old/\(Zq e).new=Z3 e.new:=by
 rw [Z6k,if_pos h]
 simp_all
theorem Zl6{D list:Int}{t:Tree}(hD:D≠0)(h:Za (.mk list [] [t]) D=true):Za (.mk list [] [Z3 t]) D=true:=by
 have s:=fun (k d:Int) (h:Yb k [t] d=true)=> Z5c [t] k d h
 simp only [Yl] at s
 simp only [Za] at h ⊢
 grind
theorem Z3m{D list:Int}(hD:D≠0):∀ {l:List Tree},Yp D list l=true->Yp D list (Z9 l)=true
 | [],_=> rfl
 | t ::r,h=> by
  simp only [Yp,Q0] at h
  have d:=Z3m hD h.2
  simp only [Z9] at d
  simp only [Z9,QD,Yp,Q0]
  exact ⟨Zl6 hD h.1,d⟩
theorem Z4U{D list:Int}:∀ {a b:List Tree},Yp D list a=true->Yp D list b=true->Yp D list (a++b)=true
 | [],_,_,h=> h
 | t ::r,b,h,h2=> by
  simp only [Yp,Q0] at h
  simp only [Qt,Yp,Q0]
  exact ⟨h.1,Z4U h.2 h2⟩
def rOp(list:Int)(d:Int)(o:Op):Prop:=(o.kind=0->1<=o.n/\o.l.length=0/\Z14 o.e=true)/\(o.kind≠0->Zf list o d=true)
theorem ZsN{list d:Int}{o:Op}(h:Zf list o d=true):rOp list d o:=by
 refine ⟨fun s=> ?_,fun _=> h⟩
 obtain ⟨k,n,l,e⟩:=o
 simp only at s
 subst s
 simp only [Zf,if_true,Q0,decide_eq_true_eq] at h
 grind
theorem ZBq{list d:Int}{o:Op}(h:rOp list d o)(hn:o.kind=0->o.n<=1048576):Zf list o d=true:=by
 by_cases hk:o.kind=0
 .have u:=h.1 hk
  have s:=hn hk
  obtain ⟨k,n,l,e⟩:=o
  simp only at hk u s
  subst hk
  simp only [Zf,if_true,Q0,decide_eq_true_eq]
  grind
 .exact h.2 hk
theorem Z5b{list:Int}:∀ {os:List Op} {d:Int},Zy list os d=true↔∀ o∈os,Zf list o d=true
 | [],d=> by simp [Zy]
 | o ::r,d=> by
  simp only [Zy,Q0,Q7,forall_eq_or_imp]
  rw [Z5b (os:=r)]
theorem Z2v:Z14 Edit.nil=true:=rfl
structure OkW (list d:Int) (w:Wst):Prop where
 out:∀ o∈w.out,rOp list d o
 gone:Yp (dT d) list w.gone=true
 brought:Yp (dT d) list w.brought=true
theorem ZaN{list d:Int}{w:Wst}(h:OkW list d w):OkW list d (Zc w):=by
 refine ⟨?_,rfl,rfl⟩
 simp only [Zc,Jk]
 intro o s
 rcases Qk.1 s with s | s
 .exact h.out o s
 rcases Qk.1 s with s | s
 .split at s
  .cases s
  .rename_i hl
   simp only [Qi] at s
   subst s
   refine ⟨fun u=> (by cases u),fun _=> ?_⟩
   simp only [Zf]
   rw [if_neg V2,if_neg V2,if_pos V2,h.gone,Z2v]
   grind
 .split at s
  .cases s
  .rename_i hl
   simp only [Qi] at s
   subst s
   refine ⟨fun u=> (by cases u),fun _=> ?_⟩
   simp only [Zf]
   rw [if_neg V2,if_neg V2,if_pos V2,h.brought,Z2v]
   grind
theorem ZjK{list d:Int}{w:Wst}{n:Int}(h:OkW list d w)(hn:1<=n):OkW list d (Y7 w n):=by
 have hf:=ZaN h
 refine ⟨?_,rfl,rfl⟩
 simp only [Y7]
 intro o s
 rcases J7 (Zc w).out n with e | ⟨a,q,e1,e2,e3⟩
 .rw [e] at s
  rcases Qk.1 s with s | s
  .exact hf.out o s
  .simp only [Qi] at s
   subst s
   exact ⟨fun _=> ⟨hn,rfl,Z2v⟩,fun u=> absurd rfl u⟩
 .rw [e3] at s
  rcases Qk.1 s with s | s
  .exact hf.out o (by grind)
  .simp only [Qi] at s
   subst s
   have hq:=(hf.out q (by rw [e1];simp)).1 e2
   exact ⟨fun _=> ⟨by grind,hq.2⟩,fun u=> absurd e2 u⟩
theorem ZBA{list d:Int}{w:Wst}{o:Op}(h:OkW list d w)(hr:Zf list o d=true)(hi:Z6 o.e d=true->Z6 (Zq o.e) d=true):OkW list d (Z06 list o w):=by
 obtain ⟨k,n,l,e⟩:=o
 have ab:=hr
 rw [Zf] at hr
 rw [YO]
 simp only at hi ⊢
 split at hr
 .rename_i u
  rw [if_pos u]
  simp only [Q0,decide_eq_true_eq] at hr
  exact ZjK h hr.1.1
 .rename_i u
  rw [if_neg u]
  split at hr
  .cases hr
  .rename_i hn
   split at hr
   .rename_i h3
    simp only [Q0,decide_eq_true_eq] at hr
    by_cases k1:k=1
    .rw [if_pos k1]
     exact ⟨h.out,Z4U h.gone (Z3m (ZAF d) hr.1.1),h.brought⟩
    .rw [if_neg k1,YC]
     exact ⟨h.out,h.gone,Z4U h.brought (Z3m (ZAF d) hr.1.1)⟩
   .rename_i h3
    rw [JC,JC,YC]
    split
    .exact ZjK h V2
    .have hf:=ZaN h
     refine ⟨?_,rfl,rfl⟩
     intro o s
     rcases Qk.1 s with s | s
     .exact hf.out o s
     .simp only [Qi] at s
      subst s
      refine ⟨fun u=> (by cases u),fun _=> ?_⟩
      simp only [Q0,decide_eq_true_eq] at hr
      simp only [Zf]
      rw [if_neg V2,if_neg V2,if_neg V2,Z3Q,hi hr.1.2]
      simp only [XK,Q0,decide_eq_true_eq]
      refine ⟨⟨rfl,hr.1.1.2⟩,?_⟩
      rcases hr.2 with h | h | h
      .exact Or.inl h
      .omega
      .rw [(Z8W e h.1).1,(Z8W e h.1).2,Z2j,Z2j]
       omega
def JJ:List Op->Int
 | []=> 0
 | o ::r=> (if o.kind=2 then 0 else Z7 o)+JJ r
def Z0a:List Op->Int
 | []=> 0
 | o ::r=> (if o.kind=1 then 0 else Z7 o)+Z0a r
theorem Z3F:∀ (a b:List Op),JJ (a++b)=JJ a+JJ b
 | [],b=> by simp [JJ]
 | o ::r,b=> by simp only [Qt,JJ,Z3F r b];omega
theorem Z3E:∀ (a b:List Op),Z0a (a++b)=Z0a a+Z0a b
 | [],b=> by simp [Z0a]
 | o ::r,b=> by simp only [Qt,Z0a,Z3E r b];omega
theorem Z41:∀ (l:List Op) (n:Int),(∀ o∈l,0<=Z7 o)->0<=n->n<=1048576->Z13 l n=min (n+JJ l) 1048576/\0<=JJ l
 | [],n,_,h1,h2=> by simp only [Z13,JJ];omega
 | o ::r,n,h,h1,h2=> by
  have u:=h o (Q5 ..)
  simp only [Z13,JJ]
  have d:0<=(if o.kind=2 then n else n+Z7 o)/\(if o.kind=2 then n else n+Z7 o)=n+(if o.kind=2 then 0 else Z7 o):=by split <;> omega
  have s:0<=(if o.kind=2 then 0 else Z7 o):=by split <;> omega
  rw [d.2]
  rw [d.2] at d
  generalize (if o.kind=2 then 0 else Z7 o)=y at*
  obtain ⟨e1,e2⟩:=Z41 r (min (n+y) 1048576) (fun x d=> h x (Q1 _ d)) V0 V0
  omega
theorem Z40:∀ (l:List Op) (n:Int),(∀ o∈l,0<=Z7 o)->0<=n->n<=1048576->Z12 l n=min (n+Z0a l) 1048576/\0<=Z0a l
 | [],n,_,h1,h2=> by simp only [Z12,Z0a];omega
 | o ::r,n,h,h1,h2=> by
  have u:=h o (Q5 ..)
  simp only [Z12,Z0a]
  have d:0<=(if o.kind=1 then n else n+Z7 o)/\(if o.kind=1 then n else n+Z7 o)=n+(if o.kind=1 then 0 else Z7 o):=by split <;> omega
  have s:0<=(if o.kind=1 then 0 else Z7 o):=by split <;> omega
  rw [d.2]
  rw [d.2] at d
  generalize (if o.kind=1 then 0 else Z7 o)=y at*
  obtain ⟨e1,e2⟩:=Z40 r (min (n+y) 1048576) (fun x d=> h x (Q1 _ d)) V0 V0
  omega
theorem Z8L{list d:Int}{o:Op}(h:rOp list d o):0<=Z7 o:=by
 unfold Z7
 split
 .decide
 .by_cases hk:o.kind=0
  .have:=(h.1 hk).1;omega
  .have s:=h.2 hk
   obtain ⟨k,n,l,e⟩:=o
   simp only at hk ⊢
   rw [Zf,if_neg hk] at s
   grind
theorem ZiK:∀ {l:List Op} {o:Op},(∀ o∈l,0<=Z7 o)->o∈l->o.kind≠2->Z7 o<=JJ l
 | a ::r,o,h,ho,hk=> by
  have s:=(Z41 r 0 (fun x d=> h x (Q1 _ d)) V2 V2).2
  have u:=h a (Q5 ..)
  simp only [JJ]
  rcases Q7.1 ho with rfl | ho
  .omega
  .have:=ZiK (fun x d=> h x (Q1 _ d)) ho hk
   omega
def sA(w:Wst):Int:=JJ w.out+w.gone.length
def sB(w:Wst):Int:=Z0a w.out+w.brought.length
theorem Zav(w:Wst):JJ (Zc w).out=sA w/\Z0a (Zc w).out=sB w:=by
 simp only [Zc,Jk,sA,sB,Z3F,Z3E]
 constructor
 .by_cases hg:w.gone.length=0
  .rw [if_pos hg]
   by_cases hb:w.brought.length=0
   .rw [if_pos hb];simp [JJ];omega
   .rw [if_neg hb];simp [JJ];omega
  .rw [if_neg hg]
   by_cases hb:w.brought.length=0
   .rw [if_pos hb];simp [JJ,Z7]
   .rw [if_neg hb];simp [JJ,Z7]
 .by_cases hg:w.gone.length=0
  .rw [if_pos hg]
   by_cases hb:w.brought.length=0
   .rw [if_pos hb];simp [Z0a];omega
   .rw [if_neg hb];simp [Z0a,Z7]
  .rw [if_neg hg]
   by_cases hb:w.brought.length=0
   .rw [if_pos hb];simp [Z0a];omega
   .rw [if_neg hb];simp [Z0a,Z7]
theorem ZiJ(w:Wst)(n:Int):sA (Y7 w n)=sA w+n/\sB (Y7 w n)=sB w+n:=by
 have hf:=Zav w
 simp only [Y7]
 have e1:∀ x,sA ⟨x,[],[]⟩=JJ x:=fun x=> by simp [sA]
 have e2:∀ x,sB ⟨x,[],[]⟩=Z0a x:=fun x=> by simp [sB]
 rw [e1,e2,<-hf.1,<-hf.2]
 rcases J7 (Zc w).out n with e | ⟨a,q,e1,e2,e3⟩
 .rw [e,Z3F,Z3E]
  simp [JJ,Z0a,Z7]
 .rw [e3,e1,Z3F,Z3E,Z3F,Z3E]
  simp only [JJ,Z0a,Z7,e2]
  simp
  omega
theorem ZBd{list d:Int}{w:Wst}{o:Op}(hr:Zf list o d=true):sA (Z06 list o w)=sA w+(if o.kind=2 then 0 else Z7 o)/\sB (Z06 list o w)=sB w+(if o.kind=1 then 0 else Z7 o):=by
 have hl:∀ l,((Z9 l).length:Int)=l.length:=fun l=> by simp [Z9]
 obtain ⟨k,n,l,e⟩:=o
 rw [Zf] at hr
 rw [YO]
 simp only [Z7]
 split at hr
 .rename_i h
  subst h
  rw [if_pos rfl]
  simp only [Q0,decide_eq_true_eq] at hr
  have:=ZiJ w n
  simp
  omega
 .rename_i h
  rw [if_neg h]
  split at hr
  .cases hr
  .rename_i hn
   split at hr
   .rename_i s
    by_cases k1:k=1
    .subst k1
     rw [if_pos rfl]
     simp only [sA,sB,Qa]
     grind
    .have u:k=2:=V0
     subst u
     rw [if_neg k1,if_pos rfl]
     simp only [sA,sB,Qa]
     grind
   .rename_i s
    have k3:k=3:=V0
    subst k3
    rw [JC,JC,if_pos rfl]
    split
    .have:=ZiJ w 1
     omega
    .have:=Zav w
     simp only [sA,sB,Z3F,Z3E,JJ,Z0a,Z7] at this ⊢
     grind
mutual
theorem Yi:∀ (e:Edit) (d:Int),Z6 e d=true->Z6 (Zq e) d=true
 | .mk k o n w ks l os,d,h=> by
  have h1:=Zbz ks
  have h2:=Zo4 l os
  have h4:=Zn4 l os
  rw [Z6] at h
  split at h
  .cases h
  .rename_i a
   split at h
   .cases h
   .rename_i b
    have nn:Ys Tree.nil=true:=rfl
    by_cases k1:k=1
    .subst k1
     rw [if_pos rfl] at h
     have hl:l=0:=by
      apply X9
      intro hl
      exact b (.inr (.inr ⟨V2,.inl hl⟩))
     simp only [Q0,decide_eq_true_eq] at h
     rw [Zq,if_pos rfl,Z6,if_neg a,if_neg (by simp [hl]),if_pos rfl]
     simp only [Q0,decide_eq_true_eq]
     rw [Z2j,Z2j]
     exact ⟨⟨Z1x _ _ h.1.1,Z1x _ _ h.1.2⟩,h.2⟩
    .rw [if_neg k1] at h
     simp only [Q0,decide_eq_true_eq] at h
     obtain ⟨⟨⟨⟨x1,x2⟩,x3⟩,x4⟩,x5⟩:=h
     rw [Zq,if_neg k1]
     by_cases k2:k=2
     .have hl:l=0:=by
       apply X9
       intro hl
       exact b (.inr (.inr ⟨V0,.inl hl⟩))
      rw [if_pos k2,Z6,if_neg a,if_neg (by grind),if_neg k1]
      grind
     .rw [if_neg k2]
      by_cases k3:k=3
      .rw [if_pos k3,Z6,if_neg a,if_neg (by simp [nn,k3]),if_neg k1]
       simp only [Q0,decide_eq_true_eq]
       have aa:=Z5b.1 x4
       obtain ⟨y1,y2⟩:=Z41 os 0 (fun o s=> Z8L (ZsN (aa o s))) V2 V2
       obtain ⟨z1,z2⟩:=Z40 os 0 (fun o s=> Z8L (ZsN (aa o s))) V2 V2
       have hw:=h2 (d - 1) W0 x4 ⟨fun o s=> (by cases s),rfl,rfl⟩
       have hs:=h4 (d - 1) W0 x4
       have u:=ZaN hw
       have al:=Zav (Zv l os W0)
       have e0:sA W0=0/\sB W0=0:=⟨rfl,rfl⟩
       have hA:=Z41 (Zc (Zv l os W0)).out 0 (fun o s=> Z8L (u.out o s)) V2 V2
       have hB:=Z40 (Zc (Zv l os W0)).out 0 (fun o s=> Z8L (u.out o s)) V2 V2
       refine ⟨⟨⟨⟨rfl,rfl⟩,x3⟩,Z5b.2 (fun o s=> ZBq (u.out o s) (fun hk=> ?_))⟩,?_,?_⟩
       .have hm:=ZiK (fun o s=> Z8L (u.out o s)) s V0
        unfold Z7 at hm
        omega
       .show Z13 (Zc (Zv l os W0)).out 0 < 1048576
        omega
       .show Z12 (Zc (Zv l os W0)).out 0 < 1048576
        omega
      .have hl:l=0:=by
        apply X9
        intro hl
        exact b (.inr (.inr ⟨k3,.inl hl⟩))
       rw [if_neg k3,Z6,if_neg a,if_neg (by simp [nn,hl]),if_neg k1]
       grind
theorem Zbz:∀ (ks:List (KidOf Edit)) (last d:Int),Zz last ks d=true->Zz last (Jd ks) d=true
 | [],_,_,_=> rfl
 | k ::r,last,d,h=> by
  simp only [Zz,Q0] at h
  have s:=Zhi k last d h.1
  have u:=Zbz r k.at_ d h.2
  simp only [Jd,Zz,Q0]
  exact ⟨s,by rw [ZaQ];exact u⟩
theorem Zhi:∀ (k:KidOf Edit) (last d:Int),YM last k d=true->YM last (Z0d k) d=true
 | ⟨a,e⟩,last,d,h=> by
  simp only [YM,Q0] at h
  have s:=Yi e d h.2
  simp only [Z0d,YM,Q0]
  rw [Z3Q]
  grind
theorem Zo4(list:Int):∀ (os:List (OpOf Edit)) (d:Int) (w:Wst),Zy list os d=true->OkW list d w->OkW list d (Zv list os w)
 | [],_,_,_,hw=> hw
 | o ::r,d,w,h,hw=> by
  simp only [Zy,Q0] at h
  have s:=Zqc list o d w h.1 hw
  exact Zo4 list r d _ h.2 s
theorem Zqc(list:Int):∀ (o:OpOf Edit) (d:Int) (w:Wst),Zf list o d=true->OkW list d w->OkW list d (Z06 list o w)
 | ⟨k,n,l,e⟩,d,w,h,hw=> ZBA (o:=⟨k,n,l,e⟩) hw h (fun s=> Yi e d s)
theorem Zn4(list:Int):∀ (os:List (OpOf Edit)) (d:Int) (w:Wst),Zy list os d=true->sA (Zv list os w)=sA w+JJ os/\sB (Zv list os w)=sB w+Z0a os
 | [],_,_,_=> by simp [Zv,JJ,Z0a]
 | o ::r,d,w,h=> by
  simp only [Zy,Q0] at h
  have s:=ZBd (w:=w) h.1
  have u:=Zn4 list r d (Z06 list o w) h.2
  simp only [Zv,JJ,Z0a]
  omega
end
theorem Z58:∀ {a b:List Tree},Ya (a++b)↔Ya a/\Ya b
 | [],b=> by simp [Ya]
 | t ::r,b=> by simp only [Qt,Ya];rw [Z58 (a:=r),and_assoc]
mutual
theorem YL:∀ (t:Tree),rng t->rng (Z3 t)
 | .mk k w ks,h=> by
  simp only [rng] at h
  obtain ⟨h1,s,u⟩:=h
  have d:=Zg1 ks u
  simp only [Z3]
  split
  .trivial
  .split
   .obtain ⟨r1,e1⟩:=ZcW w
    obtain ⟨r2,e2⟩:=Zas (Yl ks)
    simp only [rng]
    refine ⟨V2,fun x hx=> s x (by grind),?_⟩
    rw [e2] at d
    exact (Z58.1 d).1
   trivial
theorem Zg1:∀ (l:List Tree),Ya l->Ya (Yl l)
 | [],_=> trivial
 | t ::r,h=> by
  simp only [Ya] at h
  have d:=YL t h.1
  have s:=Zg1 r h.2
  trivial
end
theorem Z7w:∀ {l:List Tree},Ya l->Ya (Z9 l)
 | [],_=> trivial
 | t ::r,h=> by
  simp only [Ya] at h
  have d:=Z7w h.2
  simp only [Z9] at d
  simp only [Z9,QD,Ya]
  exact ⟨YL t h.1,d⟩
theorem Z3L:rng Tree.nil:=by
 trivial
mutual
theorem Z68:∀ (e:Edit),Y0 e->Y0 (ZO e)
 | .mk k o n w ks l os,h=> by
  simp only [Y0] at h
  obtain ⟨h1,u,h3,h4,s,h6,h7⟩:=h
  have i6:=ZdG ks h6
  have d:=ZdF os h7
  simp only [ZO,Y0]
  refine ⟨h1,h3,u,fun x hx=> ?_,s,i6,d⟩
  obtain ⟨y,hy,rfl⟩:=X3.1 hx
  have:=h4 y hy
  simp only [Z2T,Z4T] at this ⊢
  grind
theorem ZdG:∀ (ks:List (KidOf Edit)),Z0N ks->Z0N (Z09 ks)
 | [],_=> trivial
 | k ::r,h=> by
  simp only [Z0N] at h
  have d:=ZiZ k h.1
  have s:=ZdG r h.2
  trivial
theorem ZiZ:∀ (k:KidOf Edit),Z1b k->Z1b (Z1S k)
 | ⟨a,e⟩,h=> by
  simp only [Z1b] at h
  have d:=Z68 e h.2
  simp only [Z1S,Z1b]
  grind
theorem ZdF:∀ (os:List (OpOf Edit)),Z05 os->Z05 (Jq os)
 | [],_=> trivial
 | o ::r,h=> by
  simp only [Z05] at h
  have d:=Zl2 o h.1
  have s:=ZdF r h.2
  trivial
theorem Zl2:∀ (o:OpOf Edit),YF o->YF (YV o)
 | ⟨k,n,l,e⟩,h=> by
  simp only [YF] at h
  have d:=Z68 e h.2.2.2
  simp only [YV]
  split
  .simp only [YF];exact ⟨by trivial,h.2⟩
  .split
   .simp only [YF];exact ⟨by trivial,h.2⟩
   .split
    .simp only [YF];grind
    trivial
end
structure RngW (w:Wst):Prop where
 out:∀ o∈w.out,Ya o.l/\Y0 o.e
 gone:Ya w.gone
 brought:Ya w.brought
theorem Z69:Y0 Edit.nil:=by
 simp only [Edit.nil,Y0,Z0N,Z05]
 exact ⟨by trivial,Z3L,Z3L,by simp,by trivial,trivial,trivial⟩
theorem Z7v{w:Wst}(h:RngW w):RngW (Zc w):=by
 refine ⟨?_,trivial,trivial⟩
 simp only [Zc,Jk]
 intro o d
 rcases Qk.1 d with d | d
 .exact h.out o d
 rcases Qk.1 d with d | d
 .split at d
  .cases d
  .simp only [Qi] at d
   subst d
   exact ⟨h.gone,Z69⟩
 .split at d
  .cases d
  .simp only [Qi] at d
   subst d
   exact ⟨h.brought,Z69⟩
theorem ZfX{w:Wst}{n:Int}(h:RngW w):RngW (Y7 w n):=by
 have hf:=Z7v h
 refine ⟨?_,trivial,trivial⟩
 simp only [Y7]
 intro o d
 rcases J7 (Zc w).out n with e | ⟨a,q,e1,e2,e3⟩
 .rw [e] at d
  rcases Qk.1 d with d | d
  .exact hf.out o d
  .simp only [Qi] at d
   subst d
   exact ⟨trivial,Z69⟩
 .rw [e3] at d
  rcases Qk.1 d with d | d
  .exact hf.out o (by grind)
  .simp only [Qi] at d
   subst d
   exact hf.out q (by rw [e1];simp)
theorem Znm{list:Int}{w:Wst}{o:Op}(h:RngW w)(hl:Ya o.l)(he:Y0 (Zq o.e)):RngW (Z06 list o w):=by
 rw [YO]
 split
 .exact ZfX h
 .split
  .exact ⟨h.out,Z58.2 ⟨h.gone,Z7w hl⟩,h.brought⟩
  .split
   .exact ⟨h.out,h.gone,Z58.2 ⟨h.brought,Z7w hl⟩⟩
   .split
    .split
     .exact ZfX h
     .refine ⟨?_,trivial,trivial⟩
      intro o d
      rcases Qk.1 d with d | d
      .exact (Z7v h).out o d
      .simp only [Qi] at d
       subst d
       trivial
    .exact h
theorem Zbx:∀ {os:List Op},(∀ o∈os,YF o)->Z05 os
 | [],_=> trivial
 | o ::r,h=> by
  simp only [Z05]
  exact ⟨h o (Q5 ..),Zbx (fun x d=> h x (Q1 _ d))⟩
theorem Zj3{list d:Int}{o:Op}(h:Zf list o d=true)(hl:Ya o.l)(he:Y0 o.e):YF o:=by
 have s:=Z6a h
 obtain ⟨k,n,l,e⟩:=o
 simp only at s hl he
 simp only [YF]
 refine ⟨?_,V4,hl,he⟩
 rw [Zf] at h
 unfold InR
 grind
mutual
theorem J1:∀ (e:Edit) (d:Int),Z6 e d=true->Y0 e->Y0 (Zq e)
 | .mk k o n w ks l os,d,hr,h=> by
  have u:=ZaD hr
  have s:=ZaD (Yi _ _ hr)
  simp only [Edit.kids_mk,Edit.ops_mk,Edit.list_mk] at u
  simp only [Y0] at h
  obtain ⟨h1,h2,h3,h4,h5,h6,h7⟩:=h
  have i6:=Zg0 ks (d - 1) (fun k hk=> (u.1 k hk).1) h6
  have i7:=ZfY l os (d - 1) u.2 h7 W0 ⟨fun o ho=> (by cases ho),trivial,trivial⟩
  rw [Zq] at s ⊢
  by_cases k1:k=1
  .rw [if_pos k1]
   simp only [Y0]
   exact ⟨h1,YL o h2,YL n h3,by simp,h5,trivial,trivial⟩
  .rw [if_neg k1] at s ⊢
   by_cases k2:k=2
   .rw [if_pos k2]
    trivial
   .rw [if_neg k2] at s ⊢
    by_cases k3:k=3
    .rw [if_pos k3] at s ⊢
     simp only [Y0]
     refine ⟨h1,Z3L,Z3L,by simp,h5,trivial,Zbx (fun q hq=> ?_)⟩
     have hx:=s.2 q hq
     have hy:=(Z7v i7).out q hq
     exact Zj3 hx hy.1 hy.2
    .rw [if_neg k3]
     simp only [Y0]
     exact ⟨h1,Z3L,Z3L,by simp,h5,trivial,trivial⟩
theorem Zg0:∀ (ks:List (KidOf Edit)) (d:Int),(∀ k∈ks,Z6 k.e d=true)->Z0N ks->Z0N (Jd ks)
 | [],_,_,_=> trivial
 | k ::r,d,hr,h=> by
  simp only [Z0N] at h
  have u:=Zl3 k d (hr k (Q5 ..)) h.1
  have h2:=Zg0 r d (fun x s=> hr x (Q1 _ s)) h.2
  trivial
theorem Zl3:∀ (k:KidOf Edit) (d:Int),Z6 k.e d=true->Z1b k->Z1b (Z0d k)
 | ⟨a,e⟩,d,hr,h=> by
  simp only [Z1b] at h
  have s:=J1 e d hr h.2
  simp only [Z0d,Z1b]
  grind
theorem ZfY(list:Int):∀ (os:List (OpOf Edit)) (d:Int),(∀ o∈os,Zf list o d=true)->Z05 os->∀ (w:Wst),RngW w->RngW (Zv list os w)
 | [],_,_,_,w,hw=> hw
 | o ::r,d,hr,h,w,hw=> by
  simp only [Z05] at h
  have u:=ZpW list o d (hr o (Q5 ..)) h.1 w hw
  exact ZfY list r d (fun x s=> hr x (Q1 _ s)) h.2 _ u
theorem ZpW(list:Int):∀ (o:OpOf Edit) (d:Int),Zf list o d=true->YF o->∀ (w:Wst),RngW w->RngW (Z06 list o w)
 | ⟨k,n,l,e⟩,d,hr,h,w,hw=> by
  simp only [YF] at h
  by_cases k3:k=3
  .have u:Z6 e d=true:=by
    rw [Zf,JC,] at hr
    split at hr
    .cases hr
    .grind
   exact Znm (o:=⟨k,n,l,e⟩) hw h.2.2.1 (J1 e d u h.2.2.2)
  .have s:Y0 (Zq Edit.nil):=by
    show Y0 (.mk 0 Tree.nil Tree.nil [] [] 0 [])
    exact Z69
   have e2:Z06 list ⟨k,n,l,e⟩ w=Z06 list ⟨k,n,l,Edit.nil⟩ w:=by
    simp only [Z06]
    grind
   rw [e2]
   exact Znm (o:=⟨k,n,l,Edit.nil⟩) hw h.2.2.1 s
end
theorem ZlD(t:Tree):t.words.length+Ze t.kids+1=Zh t:=by obtain ⟨k,w,ks⟩:=t;simp only [Zh,Tree.words_mk,Tree.kids_mk];omega
theorem Zgw:∀ (l:List Tree) (i:Nat) (x:Tree),i < l.length->Ze (l.set i x)+Zh (l.getD i Tree.nil)=Ze l+Zh x
 | [],i,x,h=> by simp at h
 | a ::r,0,x,_=> by simp only [List.set_cons_zero,Ze,QB];omega
 | a ::r,i+1,x,h=> by
  have:=Zgw r i x (by simpa using h)
  simp only [List.set_cons_succ,Ze,List.getD_cons_succ];omega
theorem ZlE(n:Nat):Ze (List.replicate n Tree.nil)=n:=by
 induction n with
 | zero=> rfl
 | succ n ih=> rw [XU,Ze,ih];simp [Tree.nil,Zh,Ze];omega
theorem Jy:∀ (a b:List Tree),Ze (a++b)=Ze a+Ze b
 | [],b=> by simp [Ze]
 | t ::r,b=> by simp only [Qt,Ze,Jy r b];omega
theorem Zqt(l:List Tree)(i:Nat)(x:Tree):Ze (Y4 Tree.nil l i x)+Zh (l.getD i Tree.nil)<=Ze l+Zh x+(i+1):=by
 have h:=Zgw (l++List.replicate (i+1 - l.length) Tree.nil) i x (by simp;omega)
 have e:(l++List.replicate (i+1 - l.length) Tree.nil).getD i Tree.nil=l.getD i Tree.nil:=by
  by_cases hi:i < l.length
  .simp only [Q9];rw [QZ hi]
  .simp only [Q9]
   rw [Qv V0,Qp (l:=l) V0,List.getElem?_replicate]
   split <;> rfl
 rw [e,Jy,ZlE] at h
 simp only [Y4]
 omega
theorem ZgX{tw:List Int}:∀ {ws:List WEdit} {last:Int} {out a:List Int},ZN last ws=true->wsD tw ws out=some a->a.length<=max out.length 65535
 | [],_,out,a,_,h=> by rw [wsD] at h;cases h;omega
 | w ::r,last,out,a,hw,h=> by
  have d:=Yw hw w Q5
  simp only [ZN,Q0] at hw
  rw [wsD] at h
  split at h
  .have:=ZgX hw.2 h
   rw [Z70] at this
   omega
  .cases h
theorem Z8E{last d:Int}{k:Kid}{r:List Kid}(h:Zz last (k ::r) d=true):(last < k.at_/\k.at_<=65534)/\Z6 k.e d=true/\Zz k.at_ r d=true:=by
 have:=ZP h k Q5
 simp only [Zz,Q0] at h
 grind
theorem Zrg{tw:List Int}{ws:List WEdit}{last:Int}{out a:List Int}(hw:ZN last ws=true)(h:wsD tw ws out=some a):a.length<=out.length+65600*ws.length:=by
 cases ws with
 | nil=> rw [wsD] at h;cases h;omega
 | cons w r=>
  have:=ZgX hw h
  grind
theorem Zev(r:Bool)(v:Tree):Zh (nrD r v)<=Zh v:=by
 unfold nrD
 split
 .exact Yj v
 omega
mutual
theorem Z9b(r:Bool):∀ (e:Edit) (d:Int) (t v:Tree),Z6 e d=true->Zfw r e t=some v->Zh v+18<=Zh t+ctE e
 | .mk k o n w ks l os,d,t,v,hr,hv=> by
  have s:=ZH hr
  have h1:=Zgv r ks t.kids
  have h2:=Zgu r l os
  have ht:=ZlD t
  have po:=ZQ o
  have pn:=ZQ n
  have pt:=ZQ t
  unfold Zfw at hv
  simp only [ctE]
  split at hv
  .grind
  .split at hv
   .split at hv
    .cases hv
     show Zh n+18<=_
     omega
    .cases hv
   .split at hv
    .split at hv
     .obtain ⟨a,ha,h⟩:=Qo.1 hv
      obtain ⟨b,h,e⟩:=Qh.1 h
      have l1:=Zrg s.words ha
      simp only [Edit.words_mk] at l1
      have l2:=h1 t.kids b _ (-1) V0 s.kids (fun j _=> rfl) h
      rw [<-e]
      simp only [Zh]
      omega
     .cases hv
    .split at hv
     .split at hv
      .obtain ⟨b,h,e⟩:=Qh.1 hv
       unfold Z25 at h
       obtain ⟨x,hx,u⟩:=Qo.1 h
       have l2:=h2 _ t.kids [] x (fun o ho=> Go.AM.rightOs_mem s.ops o ho) hx
       split at u
       .cases u
        rw [<-e]
        simp only [Zh,Qj]
        grind
       .cases u
      .cases hv
     .cases hv
theorem Zgv(r:Bool):∀ (ks:List (KidOf Edit)) (tk out b:List Tree) (d last:Int),-1<=last->Zz last ks d=true->(∀ j:Nat,last < (j:Int)->out.getD j Tree.nil=tk.getD j Tree.nil)->JV r tk ks out=some b->Ze b<=Ze out+Z0Y ks
 | [],tk,out,b,d,last,_,_,_,h=> by rw [JV] at h;cases h;simp
 | k ::s,tk,out,b,d,last,hl,hr,hj,h=> by
  obtain ⟨h1,h2,h3⟩:=Z8E hr
  rw [JV] at h
  obtain ⟨u,hu,hb⟩:=Qo.1 h
  have m1:=ZlB r k tk u d h2 hu
  have m2:=Zqt out k.at_.toNat u
  rw [hj k.at_.toNat V0] at m2
  have m3:=Zgv r s tk _ b d k.at_ V0 h3 (fun j ai=> by
   rw [Z1t,JC]
   grind) hb
  have m4:k.at_.toNat+1<=65600:=V0
  have e1:Z0Y (k ::s)=65600+ctE k.e+Z0Y s:=by obtain ⟨a,e⟩:=k;rfl
  omega
theorem ZlB(r:Bool):∀ (k:KidOf Edit) (tk:List Tree) (u:Tree) (d:Int),Z6 k.e d=true->Z08 r tk k=some u->Zh u+18<=Zh (tk.getD k.at_.toNat Tree.nil)+ctE k.e
 | ⟨a,e⟩,tk,u,d,hr,h=> by
  rw [Z08,Z6P] at h
  obtain ⟨v,hv,hu⟩:=Qh.1 h
  have:=Z9b r e d (tk.getD a.toNat Tree.nil) v hr hv
  have s:=Zev r v
  grind
theorem Zgu(r:Bool)(l:Int):∀ (os:List (OpOf Edit)) (d:Int) (rest out:List Tree) (x:List Tree × List Tree),(∀ o∈os,Zf l o d=true)->ZR r os rest out=some x->Ze x.1+Ze x.2<=Ze out+Ze rest+YZ os
 | [],d,rest,out,x,_,h=> by rw [ZR] at h;cases h;simp
 | o ::s,d,rest,out,x,hr,h=> by
  rw [ZR] at h
  obtain ⟨y,hy,u⟩:=Qo.1 h
  have m1:=Zqq r l o d rest out y (hr o Q5) hy
  have m2:=Zgu r l s d _ _ x (fun q hq=> hr q (Q1 _ hq)) u
  rw [YZ]
  omega
theorem Zqq(r:Bool)(l:Int):∀ (o:OpOf Edit) (d:Int) (rest out:List Tree) (x:List Tree × List Tree),Zf l o d=true->Z2P r o rest out=some x->Ze x.1+Ze x.2<=Ze out+Ze rest+Z2V o
 | ⟨k,n,L,e⟩,d,rest,out,x,hr,h=> by
  have he:=Z9b r e d (rest.getD 0 Tree.nil)
  rw [Z2P] at h
  simp only [Z2V]
  split at h
  .split at h
   .cases h
    have:=Jy (rest.take n.toNat) (rest.drop n.toNat)
    rw [QQ] at this
    dsimp only
    rw [Jy];omega
   .cases h
  .split at h
   .split at h
    .cases h
     have:=Z2G L.length rest
     grind
    .cases h
   .split at h
    .cases h
     dsimp only
     rw [Jy];omega
    .split at h
     .cases h
     .obtain ⟨u,s,e2⟩:=Qh.1 h
      cases e2
      have hk:k=3:=by
       have ra:=ZJ hr
       generalize ho:OpOf.mk k n L e=o at ra
       cases ra <;> (injection ho with h1;try omega)
      rw [Z6P] at s
      obtain ⟨v,hv,s⟩:=Qh.1 s
      have:=he v (Z0w hr hk) hv
      have aa:=Zev r v
      rw [s] at aa
      cases rest with
      | nil=> contradiction
      | cons a q=>
       rw [Jy]
       simp only [Ze,QJ,Xg,QB] at this ⊢
       omega
end
theorem Z6r(r:Bool)(e:Edit)(d:Int)(t u:Tree)(hr:Z6 e d=true)(h:doE r e t=some u):Zh u+18<=Zh t+ctE e:=by
 rw [Z6P] at h
 obtain ⟨v,hv,hu⟩:=Qh.1 h
 have:=Z9b r e d t v hr hv
 have s:=Zev r v
 grind
theorem ZBB{f:Nat->Int}(h:∀ i,0<=f i/\f i < 256):isW (of8 f):=by
 have h0:=h 0;have h1:=h 1;have s:=h 2;have h3:=h 3;have u:=h 4;have d:=h 5;have h6:=h 6;have h7:=h 7
 unfold isW of8
 omega
theorem ZhN(a b m:Int):isW (mix a b m):=ZBB (Z5s a b m)
theorem Z8z{l:List Tree}(h:∀ t∈l,rng t):Ya l:=by
 induction l with
 | nil=> exact trivial
 | cons a r ih=> exact ⟨h a Q5,ih fun t d=> h t (Q1 _ d)⟩
theorem YB:rng Tree.nil:=⟨V2,by simp,trivial⟩
theorem Z7u{α:Type}{z x y:α}{l:List α}{i:Nat}(h:y∈Y4 z l i x):y∈l\/y=z\/y=x:=by
 rcases List.mem_or_eq_of_mem_set h with h | h
 .rcases Qk.1 h with h | h
  .exact .inl h
  .exact .inr (.inl (List.eq_of_mem_replicate h))
 .exact .inr (.inr h)
theorem Znl{ks:List Tree}(h:Ya ks)(i:Nat):rng (ks.getD i Tree.nil):=by
 by_cases hi:i < ks.length
 .exact Jh h (Zb hi _)
 .rw [Q9,Qp V0]
  exact YB
theorem Zrh{tw:List Int}:∀ {ws:List WEdit} {out a:List Int},(∀ x∈out,isW x)->wsD tw ws out=some a->∀ x∈a,isW x
 | [],out,a,h,hw=> by rw [wsD] at hw;grind
 | w ::r,out,a,h,hw=> by
  rw [wsD] at hw
  split at hw
  .refine Zrh (fun x d=> ?_) hw
   rcases Z7u d with d | rfl | rfl
   .exact h x d
   .trivial
   .exact ZhN _ _ _
  .cases hw
mutual
theorem Z3r(r:Bool):∀ (e:Edit) (t u:Tree),Y0 e->rng t->doE r e t=some u->rng u
 | .mk k o n w ks l os,t,u,hr,ht,h=> by
  have h1:=ZiW r ks
  have h2:=ZiV r os
  simp only [Y0] at hr
  obtain ⟨r1,r2,r3,r4,r5,r6,r7⟩:=hr
  have s:InR t.kind/\(∀ x∈t.words,isW x)/\Ya t.kids:=by obtain ⟨k,w,ks⟩:=t;exact ht
  rw [Z0X] at h
  obtain ⟨v,d,hu⟩:=Qh.1 h
  suffices rng v by
   rw [<-hu];unfold nrD
   split
   .exact YL v this
   .exact this
  clear h hu
  split at d
  .grind
  .split at d
   .simp_all
   .split at d
    .split at d
     .obtain ⟨a,ha,hb⟩:=Qo.1 d
      obtain ⟨b,hb,e⟩:=Qh.1 hb
      rw [<-e]
      exact ⟨V2,Zrh s.2.1 ha,h1 _ _ _ r6 s.2.2 s.2.2 hb⟩
     .cases d
    .split at d
     .split at d
      .obtain ⟨b,hb,e⟩:=Qh.1 d
       unfold Z25 at hb
       obtain ⟨x,hx,hy⟩:=Qo.1 hb
       split at hy
       .cases hy
        rw [<-e]
        exact ⟨r5,by simp,(h2 _ [] _ r7 s.2.2 trivial hx).1⟩
       .cases hy
      .cases d
     .cases d
theorem ZiW(r:Bool):∀ (ks:List (KidOf Edit)) (tk out b:List Tree),Z0N ks->Ya tk->Ya out->JV r tk ks out=some b->Ya b
 | [],tk,out,b,_,_,ho,h=> by rw [JV] at h;cases h;exact ho
 | k ::s,tk,out,b,hk,ht,ho,h=> by
  rw [JV] at h
  obtain ⟨u,hu,hb⟩:=Qo.1 h
  have m1:=ZpV r k tk u hk.1 ht hu
  refine ZiW r s tk _ b hk.2 ht (Z8z fun x d=> ?_) hb
  rcases Z7u d with d | rfl | rfl
  .exact Jh ho d
  .exact YB
  .exact m1
theorem ZpV(r:Bool):∀ (k:KidOf Edit) (tk:List Tree) (u:Tree),Z1b k->Ya tk->Z08 r tk k=some u->rng u
 | ⟨a,e⟩,tk,u,hr,ht,h=> by
  rw [Z08] at h
  exact Z3r r e _ u hr.2 (Znl ht _) h
theorem ZiV(r:Bool):∀ (os:List (OpOf Edit)) (rest out:List Tree) (x:List Tree × List Tree),Z05 os->Ya rest->Ya out->ZR r os rest out=some x->Ya x.1/\Ya x.2
 | [],rest,out,x,_,hr,ho,h=> by rw [ZR] at h;grind
 | o ::s,rest,out,x,hs,hr,ho,h=> by
  rw [ZR] at h
  obtain ⟨y,hy,u⟩:=Qo.1 h
  have d:=Zs1 r o rest out y hs.1 hr ho hy
  exact ZiV r s _ _ x hs.2 d.2 d.1 u
theorem Zs1(r:Bool):∀ (o:OpOf Edit) (rest out:List Tree) (x:List Tree × List Tree),YF o->Ya rest->Ya out->Z2P r o rest out=some x->Ya x.1/\Ya x.2
 | ⟨k,n,L,e⟩,rest,out,x,hs,hr,ho,h=> by
  have he:=Z3r r e (rest.getD 0 Tree.nil)
  simp only [YF] at hs
  have hd:∀ n,Ya (rest.drop n):=fun n=> Z8z fun t s=> Jh hr (X7 s)
  have d:∀ l,Ya l->Ya (out++l):=fun l hl=> Z58.2 ⟨ho,hl⟩
  rw [Z2P] at h
  split at h
  .split at h
   .cases h
    exact ⟨d _ (Z8z fun t s=> Jh hr (Xp s)),hd _⟩
   .cases h
  .split at h
   .grind
   .split at h
    .grind
    .split at h
     .cases h
     .obtain ⟨u,hu,e2⟩:=Qh.1 h
      cases e2
      exact ⟨d _ ⟨he u hs.2.2.2 (Znl hr 0) hu,trivial⟩,hd _⟩
end
section
variable {α β:Type} (z:α) (f:β->Option α) (p:β->Int)
def mg:List β->List α->Option (List α)
 | [],out=> some out
 | w ::r,out=> (f w).bind fun v=> mg r (Y4 z out (p w).toNat v)
def asc(last:Int):List β->Prop
 | []=> True
 | w ::r=> last < p w/\asc (p w) r
structure Mg (l0:List α) (ws:List β) (n a i:Int) (out:List α):Prop where
 a0:0<=a/\a<=ws.length
 i0:0<=i/\i<=n
 len:(out.length:Int)=i
 ac:asc p (i - 1) (ws.drop a.toNat)
 lt:∀ w∈ws.drop a.toNat,p w < n
 ex:n=l0.length\/i=n\/∃ w∈ws.drop a.toNat,p w+1=n
 n0:l0.length<=n
 eq:mg z f p (ws.drop a.toNat) (out++l0.drop i.toNat)=mg z f p ws l0
variable {z f p} {l0:List α} {ws:List β} {n a i:Int} {out:List α}
theorem Zl0(v:α)(i:Nat)(h:out.length=i):Y4 z (out++l0.drop i) i v=(out++[v])++l0.drop (i+1):=by
 by_cases hi:i < l0.length
 .simp only [Y4]
  rw [show i+1 - (out++l0.drop i).length=0 by simp;omega]
  simp only [List.replicate_zero,Qr]
  rw [List.set_append_right _ _ V0,show i - out.length=0 by omega,QH hi,List.set_cons_zero,Ql]
  try rfl
 .rw [Q6 V0,Q6 V0]
  simp only [Y4,Qr]
  simp_all
theorem ZmG{last:Int}:∀ {l:List β},asc p last l->∀ w∈l,last < p w
 | [],_,_,hw=> by cases hw
 | b ::r,h,w,hw=> by
  rcases Q7.1 hw with rfl | hw
  .exact h.1
  .have:=ZmG h.2 w hw
   have:=h.1
   omega
theorem Mg.cons(m:Mg z f p l0 ws n a i out)(d:β)(ha:a < ws.length):ws.drop a.toNat=ws.getD a.toNat d ::ws.drop (a+1).toNat:=Y1 m.a0.1 ha d
theorem Mg.none(m:Mg z f p l0 ws n a i out)(d:β)(ha:a < ws.length)(hf:f (ws.getD a.toNat d)=Option.none):mg z f p ws l0=Option.none:=by
 rw [<-m.eq,m.cons d ha,mg,hf];try rfl
theorem Mg.edit(m:Mg z f p l0 ws n a i out)(d:β)(hi:i < n)(ha:a < ws.length)(hp:p (ws.getD a.toNat d)=i){v:α}(hf:f (ws.getD a.toNat d)=some v):Mg z f p l0 ws n (a+1) (i+1) (out++[v]):=by
 have hc:=m.cons d ha
 have u:=m.ac;have s:=m.lt;have h3:=m.ex;have h:=m.eq;have h5:=m.a0;have h6:=m.i0;have h7:=m.len
 rw [hc] at u s h3 h
 refine ⟨V0,V0,by simp;omega,?_,fun w hw=> s w (Q1 _ hw),?_,m.n0,?_⟩
 .have:=u.2
  grind
 .grind
 .rw [mg,hf,Qg,hp,Zl0 v i.toNat V0,show i.toNat+1=(i+1).toNat by omega] at h
  exact h
theorem ZBD{l:List β}(h:∃ w,w∈l)(ha:asc p (out.length:Int) l):mg z f p l (out++[z])=mg z f p l out:=by
 cases l with
 | nil=> grind
 | cons w r=>
  have d:=ha.1
  rw [mg,mg]
  congr 1
  funext v
  have:Y4 z (out++[z]) (p w).toNat v=Y4 z out (p w).toNat v:=by
   simp only [Y4,Qa,Q8,Ql]
   rw [show (p w).toNat+1 - out.length=((p w).toNat+1 - (out.length+1))+1 by omega,XU]
   try rfl
  rw [this]
theorem Mg.plain(m:Mg z f p l0 ws n a i out)(d:β)(hi:i < n)(hn:¬(a < ws.length/\p (ws.getD a.toNat d)=i)):Mg z f p l0 ws n a (i+1) (out++[l0.getD i.toNat z]):=by
 have s:=m.ac;have h2:=m.lt;have h:=m.ex;have h4:=m.eq;have u:=m.a0;have h6:=m.i0;have h7:=m.len;have h8:=m.n0
 have af:asc p i (ws.drop a.toNat):=by
  by_cases ha:a < ws.length
  .rw [m.cons d ha] at s ⊢
   exact ⟨by have:=s.1;omega,s.2⟩
  .rw [Q6 V0];exact trivial
 refine ⟨u,V0,by simp;omega,by grind,h2,?_,h8,?_⟩
 .grind
 .rw [<-h4]
  by_cases hl:i.toNat < l0.length
  .rw [QH hl,show i.toNat+1=(i+1).toNat by omega,Q9,Q2 hl,Xb]
   simp
  .have e1:l0.drop i.toNat=[]:=Q6 V0
   have e2:l0.drop (i+1).toNat=[]:=Q6 V0
   rw [e1,e2,Qr,Qr,Q9,Qp V0,Option.getD_none]
   rcases h with h | h | ⟨w,hw,h⟩
   .omega
   .omega
   .exact ZBD ⟨w,hw⟩ (by grind)
theorem Mg.fin(m:Mg z f p l0 ws n a i out)(hi:¬i < n):mg z f p ws l0=some out:=by
 have d:=m.ac;have s:=m.lt;have h6:=m.i0;have u:=m.n0
 rw [<-m.eq]
 have:ws.drop a.toNat=[]:=by
  cases h:ws.drop a.toNat with
  | nil=> rfl
  | cons w r=>
   rw [h] at d s
   have:=d.1
   grind
 rw [this,mg,Q6 V0,Qr]
end
theorem Mg.init{α β:Type}{z:α}{f:β->Option α}{p:β->Int}{l0:List α}{ws:List β}{n:Int}(d:β)(has:asc p (-1) ws)(hn:n=if 0 < ws.length/\(l0.length:Int)<=p (ws.getD (ws.length - 1) d) then p (ws.getD (ws.length - 1) d)+1 else (l0.length:Int)):Mg z f p l0 ws n 0 0 []:=by
 have aa:∀ (l:List β) (m:Int),asc p m l->∀ w∈l,p w<=p (l.getD (l.length - 1) d):=by
  intro l
  induction l with
  | nil=> intro m h w u;cases u
  | cons b r ih=>
   intro m h w u
   cases r with
   | nil=>
    rcases Q7.1 u with rfl | u
    .simp
    .cases u
   | cons c s=>
    have e:(b ::c ::s).getD ((b ::c ::s).length - 1) d=(c ::s).getD ((c ::s).length - 1) d:=by simp
    rw [e]
    rcases Q7.1 u with rfl | u
    .have h1:=ih _ h.2 c Q5
     have h2:=h.2.1
     omega
    .exact ih _ h.2 w u
 have hl:=aa ws _ has
 have hm:0 < ws.length->ws.getD (ws.length - 1) d∈ws:=fun h=> Zb V0 _
 refine ⟨V0,⟨V0,?_⟩,rfl,has,fun w u=> ?_,?_,?_,by simp⟩
 .rw [hn];split <;> omega
 .have:=hl w u
  have hp:0 < ws.length:=List.length_pos_of_mem u
  rw [hn];split <;> omega
 .rw [hn];split
  .rename_i h;exact .inr (.inr ⟨_,hm h.1,rfl⟩)
  .exact .inl rfl
 .rw [hn];split <;> omega
theorem ZkP(tw:List Int):∀ (ws:List WEdit) (out:List Int),wsD tw ws out=mg 0 (fun w=> if mix 0 (tw.getD w.at_.toNat 0) w.mask=w.old then some (mix (tw.getD w.at_.toNat 0) w.new w.mask) else none) WEdit.at_ ws out
 | [],_=> rfl
 | w ::r,out=> by
  rw [wsD,mg]
  split
  .rw [Qg];exact ZkP tw r _
  .try rfl
theorem Zi6(r:Bool)(tk:List Tree):∀ (ks:List Kid) (out:List Tree),JV r tk ks out=mg Tree.nil (Z08 r tk) KidOf.at_ ks out
 | [],_=> by rfl
 | k ::s,out=> by
  rw [JV,mg]
  congr 1
  funext u
  exact Zi6 r tk s _
theorem Z5V:∀ {ws:List WEdit} {last:Int},ZN last ws=true->asc WEdit.at_ last ws
 | [],_,_=> trivial
 | w ::r,last,h=> by
  have d:=Yw h w Q5
  simp only [ZN,Q0] at h
  exact ⟨d.1,Z5V h.2⟩
theorem Z9l:∀ {ks:List Kid} {last d:Int},Zz last ks d=true->asc KidOf.at_ last ks
 | [],_,_,_=> trivial
 | k ::r,last,d,h=> by
  obtain ⟨s,_,u⟩:=Z8E h
  exact ⟨s.1,Z9l u⟩
end Go.AM.YtfapacabjkhepaaGreat
namespace Go.AM.YtfapacabjkhepaaGreat
open Go.AM Go.Proofs
theorem Zxq{f g:Nat->Int}(hf:∀ i,0<=f i/\f i < 256)(hg:∀ i,0<=g i/\g i < 256)(h:of8 f=of8 g):∀ i,i < 8->f i=g i:=by
 unfold of8 at h
 grind
theorem Zqd{a:Int}(h:isW a):of8 (Zu a)=a:=by
 obtain ⟨s,d⟩:=h
 simp only [of8,Zu]
 omega
theorem ZjY{a b m:Int}{i:Nat}(h:i < 8):Zu (mix a b m) i=Jo a b m i:=
 Zxq (fun i=> Z0Z _ i) (Z5s a b m) (by rw [Zqd (ZhN a b m)];rfl) i h
section
variable {α β:Type} {z:α} {f:β->Option α} {p:β->Int}
end
theorem Z7z{list d:Int}:∀ {l:List Tree},Yb list l d=true->∀ t∈l,Za t d=true
 | [],_,_,ht=> by cases ht
 | a ::r,h,t,ht=> by
  simp only [Yb,Q0] at h
  rcases Q7.1 ht with rfl | ht
  .exact h.1.2
  .exact Z7z h.2 t ht
def RT_(t:Tree):Prop:=(∃ d,Za t d=true)/\rng t
theorem RT_.kids{t:Tree}(h:RT_ t):(∀ k∈t.kids,RT_ k)/\(t.kind≠0->t.kind≠1->t.kind≠10->t.words=[]):=by
 obtain ⟨⟨d,h⟩,hr⟩:=h
 obtain ⟨k,w,ks⟩:=t
 have u:∀ x∈ks,rng x:=fun x s=> Jh hr.2.2 s
 show (∀ x∈ks,RT_ x)/\(k≠0->k≠1->k≠10->w=[])
 rw [Za] at h
 split at h
 .grind
 .split at h
  .grind
  .split at h
   .cases h
   .split at h
    .simp only [Q0] at h
     exact ⟨fun x s=> ⟨⟨_,Z7z h.2 x s⟩,u x s⟩,fun _ h1=> absurd ‹_› h1⟩
    .simp only [Q0,decide_eq_true_eq] at h
     exact ⟨fun x s=> ⟨⟨_,Z7z h.2 x s⟩,u x s⟩,fun _ _ _=> Q3 h.1.2.2.1⟩
theorem ZEb:RT_ Tree.nil:=⟨⟨1,rfl⟩,YB⟩
theorem ZvQ{l:List Tree}(h:∀ t∈l,RT_ t)(i:Nat):RT_ (l.getD i Tree.nil):=by
 by_cases hi:i < l.length
 .grind
 .rw [Q9,Qp V0];exact ZEb
theorem ZdK{list:Int}{o:Op}{d:Int}(h:Zf list o d=true):o.kind=0\/o.kind=1\/o.kind=2\/o.kind=3:=by
 have r:=ZJ h
 cases r with
 | keep=> simp
 | gone=> grind
 | come=> grind
 | into=> grind
end Go.AM.YtfapacabjkhepaaGreat
namespace Go.AM.YtfapacabjkhepaaGreat
open Go.AM Go.Proofs
def Rx(x y:List Tree × List Tree):Prop:=EqvL x.1 y.1/\EqvL x.2 y.2
theorem Rx.rfl'(a:Option (List Tree × List Tree)):OptR Rx a a:=by cases a;exact trivial;exact ⟨rfl,rfl⟩
theorem Rx.of{a b:Option (List Tree × List Tree)}(h:a=b):OptR Rx a b:=by rw [h];exact Rx.rfl' b
theorem OptR.trans'{α:Type}{R:α->α->Prop}(ht:∀ x y z,R x y->R y z->R x z){a b c:Option α}(h1:OptR R a b)(h2:OptR R b c):OptR R a c:=by
 cases a <;> cases b <;> cases c <;> first | exact trivial | exact h1.elim | exact h2.elim | exact ht _ _ _ h1 h2
theorem Rx.trans{a b c:Option (List Tree × List Tree)}(h1:OptR Rx a b)(h2:OptR Rx b c):OptR Rx a c:=
 OptR.trans' (fun _ _ _ p q=> ⟨Eq.trans p.1 q.1,Eq.trans p.2 q.2⟩) h1 h2
theorem Z4b(r:Bool):∀ (a b:List Op) (rest out:List Tree),ZR r (a++b) rest out=(ZR r a rest out).bind fun x=> ZR r b x.2 x.1
 | [],b,rest,out=> by rfl
 | o ::s,b,rest,out=> by
  rw [Qt,ZR,ZR]
  cases h:Z2P r o rest out with
  | none=> rfl
  | some x=> rw [Qg,Qg];exact Z4b r s b _ _
theorem Zf4(r:Bool)(o:Op)(rest out:List Tree):ZR r [o] rest out=Z2P r o rest out:=by
 rw [ZR]
 cases Z2P r o rest out with
 | none=> rfl
 | some x=> rfl
theorem Z5P(r:Bool)(a:List Op)(o:Op)(rest out:List Tree):ZR r (a++[o]) rest out=(ZR r a rest out).bind fun x=> Z2P r o x.2 x.1:=by
 rw [Z4b]
 congr 1
 funext x
 exact Zf4 r o _ _
theorem Z5O{r:Bool}:∀ {os:List Op} {rest out:List Tree} {x:List Tree × List Tree},ZR r os rest out=some x->∃ n,x.2=rest.drop n
 | [],rest,out,x,h=> by rw [ZR] at h;cases h;exact ⟨0,by simp⟩
 | o ::s,rest,out,x,h=> by
  rw [ZR] at h
  obtain ⟨y,d,hx⟩:=Qo.1 h
  obtain ⟨n,hn⟩:=Z5O hx
  have:∃ m,y.2=rest.drop m:=by
   rw [Yu] at d
   split at d
   .grind
   .split at d
    .grind
    .split at d
     .cases d;exact ⟨0,by simp⟩
     .split at d
      .cases d
      .obtain ⟨u,_,e⟩:=Qh.1 d
       grind
  obtain ⟨m,hm⟩:=this
  exact ⟨m+n,by simp_all⟩
theorem ZqJ(rest:List Tree):Je [] rest=true:=by unfold Je;simp_all
theorem Zkr(l rest:List Tree):Je (Z9 l) rest=Je l rest:=by
 unfold Je
 rw [Z3c,show (Z9 l).length=l.length by simp [Z9]]
theorem Z49(l rest:List Tree):Je l rest=true↔l.length<=rest.length/\Z9 l=Z9 (rest.take l.length):=by
 unfold Je
 rw [Q0,decide_eq_true_eq,Z0r]
theorem ZqL(a b rest:List Tree):Je (a++b) rest=(Je a rest && Je b (rest.drop a.length)):=by
 rw [Qn,Q0,Z49,Z49,Z49]
 simp only [Qa,QY]
 constructor
 .rintro ⟨s,d⟩
  rw [Yt,List.take_add,Yt] at d
  obtain ⟨u,h⟩:=List.append_inj d (by simp [Z9];omega)
  grind
 .rintro ⟨⟨s,d⟩,u,h⟩
  refine ⟨V0,?_⟩
  rw [Yt,List.take_add,Yt,d,h]
theorem Zah(s:Wst)(rest out:List Tree):ZR false (Zc s).out rest out=(ZR false s.out rest out).bind fun x=> if Je s.gone x.2=true then some (x.1++s.brought,x.2.drop s.gone.length) else none:=by
 simp only [Zc,Jk]
 rw [Z4b]
 congr 1
 funext x
 rw [Z4b]
 have u:ZR false (if s.gone.length=0 then [] else [⟨1,0,s.gone,Edit.nil⟩]) x.2 x.1=if Je s.gone x.2=true then some (x.1,x.2.drop s.gone.length) else none:=by
  split
  .rename_i h
   rw [Q3 h,ZqJ,if_pos rfl,ZR]
   try rfl
  .rw [Zf4,Yu]
   rw [if_neg (by show ¬(1:Int)=0;omega),if_pos rfl]
 have d:∀ y:List Tree × List Tree,ZR false (if s.brought.length=0 then [] else [⟨2,0,s.brought,Edit.nil⟩]) y.2 y.1=some (y.1++s.brought,y.2):=by
  intro y
  split
  .rename_i h
   rw [Q3 h,Qr,ZR]
  .rw [Zf4,Yu]
   rw [if_neg (by show ¬(2:Int)=0;omega),if_neg (by show ¬(2:Int)=1;omega),if_pos rfl]
 rw [u]
 split
 .rw [Qg,d]
 .try rfl
theorem ZyG{F:List Op}{n:Int}(hF:∀ o∈F,0<=o.n)(hn:0<=n)(rest out:List Tree):ZR false (YA F n) rest out=ZR false (F++[⟨0,n,[],Edit.nil⟩]) rest out:=by
 rcases J7 F n with h | ⟨a,o,h1,h2,h3⟩
 .rw [h]
 .rw [h3,h1,Z5P,Z5P,Z5P]
  cases hx:ZR false a rest out with
  | none=> rfl
  | some x=>
   have d:=hF o (by rw [h1];simp)
   simp only [Qg]
   rw [Yu,Yu,if_pos h2,if_pos h2]
   simp only
   have e:(o.n+n).toNat=o.n.toNat+n.toNat:=V0
   rw [e]
   by_cases c:o.n.toNat<=x.2.length
   .rw [if_pos c,Qg,Yu,if_pos rfl]
    simp only [QY]
    by_cases c2:n.toNat<=x.2.length - o.n.toNat
    .rw [if_pos c2,YC,Xx,Ql,<-List.take_add]
    grind
   .rw [if_neg c,JC]
    try rfl
def N0s(s:Wst):Prop:=∀ o∈s.out,0<=o.n
theorem N0s.flush{s:Wst}(h:N0s s):∀ o∈(Zc s).out,0<=o.n:=by
 intro o d
 simp only [Zc,Jk,Qk] at d
 rcases d with d | d | d
 .exact h o d
 .split at d
  .cases d
  .simp only [Qi] at d;subst d;exact Xq 0
 .split at d
  .cases d
  .simp only [Qi] at d;subst d;exact Xq 0
theorem N0s.keep{s:Wst}(h:N0s s){n:Int}(hn:0<=n):N0s (Y7 s n):=by
 intro o d
 simp only [Y7] at d
 rcases J7 (Zc s).out n with e | ⟨a,p,h1,h2,h3⟩
 .rw [e] at d
  rcases Qk.1 d with d | d
  .exact h.flush o d
  grind
 .rw [h3] at d
  rcases Qk.1 d with d | d
  .exact h.flush o (by grind)
  .simp only [Qi] at d;subst d
   have:=h.flush p (by rw [h1];simp)
   grind
theorem Znn{list d:Int}{o:Op}(h:Zf list o d=true):0<=o.n:=by
 have r:=ZJ h
 cases r with
 | keep n h1=> grind
 | gone | come | into=> grind
theorem N0s.op{list d:Int}{s:Wst}{o:Op}(h:N0s s)(hr:Zf list o d=true):N0s (Z06 list o s):=by
 rw [YO]
 split
 .exact h.keep (Znn hr)
 .split
  .exact h
  .split
   .exact h
   .split
    .split
     .exact h.keep V0
     .intro p u
      rcases Qk.1 u with u | u
      .exact h.flush p u
      grind
    .exact h
def K9(list:Int)(l:List Tree):Prop:=(∀ t∈l,RT_ t)/\(list=9->∀ t∈l,t.kind=1)
theorem K9.drop{list:Int}{l:List Tree}(h:K9 list l)(n:Nat):K9 list (l.drop n):=⟨fun t d=> h.1 t (X7 d),fun e t d=> h.2 e t (X7 d)⟩
theorem Zno{d:Int}:∀ {l:List Tree},Yb 9 l d=true->∀ t∈l,t.kind=1
 | [],_,t,ht=> by cases ht
 | a ::r,h,t,ht=> by
  simp only [Yb,Q0] at h
  rcases Q7.1 ht with rfl | ht
  .have:=h.1.1
   simpa [Z0n] using this
  .exact Zno h.2 t ht
theorem RT_.k9{t:Tree}(h:RT_ t):K9 t.kind t.kids:=by
 refine ⟨h.kids.1,fun e=> ?_⟩
 obtain ⟨⟨d,h⟩,_⟩:=h
 obtain ⟨k,w,ks⟩:=t
 have e:k=9:=e
 subst e
 rw [Za,JC,JC] at h
 split at h
 .cases h
 .rw [JC] at h
  simp only [Q0] at h
  exact Zno h.2
theorem Zxb {list d:Int} {s:Wst} {o:Op} (hs:N0s s) (hr:Zf list o d=true) {rest:List Tree} (hk:K9 list rest) (out:List Tree)
  (ih:∀ y,RT_ y->Z6 o.e d=true->OptR Eqv (doE false (Zq o.e) y) (doE false o.e y)):
  OptR Rx (ZR false (Zc (Z06 list o s)).out rest out) ((ZR false (Zc s).out rest out).bind fun x=> Z2P false o x.2 x.1):=by
 have keep:∀ n:Int,0<=n->ZR false (Zc (Y7 s n)).out rest out=(ZR false (Zc s).out rest out).bind fun x=> Z2P false ⟨0,n,[],Edit.nil⟩ x.2 x.1:=by
  intro n hn
  have e:(Zc (Y7 s n)).out=YA (Zc s).out n:=by simp [Zc,Jk,Y7]
  rw [e,ZyG hs.flush hn,Z5P]
 rw [YO]
 have r1:=ZdK hr
 by_cases h0:o.kind=0
 .rw [if_pos h0,keep _ (Znn hr)]
  refine Rx.of ?_
  congr 1
  funext x
  rw [Yu,Yu,if_pos rfl,if_pos h0]
 .rw [if_neg h0]
  by_cases h1:o.kind=1
  .rw [if_pos h1,Zah,Zah]
   refine Rx.of ?_
   rw [XY]
   congr 1
   funext x
   simp only
   rw [ZqL,Zkr]
   by_cases c:Je s.gone x.2=true
   .rw [if_pos c,c,QK,Qg,Yu,if_neg h0,if_pos h1]
    simp only
    rw [Xx,show (s.gone++Z9 o.l).length=s.gone.length+o.l.length by simp [Z9]]
   grind
  .rw [if_neg h1]
   by_cases h2:o.kind=2
   .rw [if_pos h2,Zah,Zah,XY]
    refine OptR.bind (R:=Eq) (OptR.rfl' _) ?_
    rintro x _ rfl
    simp only
    split
    .rw [Qg,Yu,if_neg h0,if_neg h1,if_pos h2]
     refine ⟨?_,rfl⟩
     show Z9 (x.1++(s.brought++Z9 o.l))=Z9 (x.1++s.brought++o.l)
     simp only [Yt,Z3c,Ql]
    .exact trivial
   .have h3:o.kind=3:=by rcases r1 with h | h | h | h <;> first | exact absurd h h0 | exact absurd h h1 | exact absurd h h2 | exact h
    rw [if_neg h2,if_pos h3]
    have af:=Z0w hr h3
    have ra:=ZJ hr
    by_cases hi:Z5D list (Zq o.e)=true
    .rw [if_pos hi,keep 1 V0]
     cases hx:ZR false (Zc s).out rest out with
     | none=> exact trivial
     | some x=>
      obtain ⟨m,hm⟩:=Z5O hx
      have aa:=hk.drop m
      rw [<-hm] at aa
      simp only [Qg]
      rw [Yu,Yu,if_pos rfl,if_neg h0,if_neg h1,if_neg h2]
      cases hx2:x.2 with
      | nil=> exact trivial
      | cons y q=>
       rw [hx2] at aa
       have ae:o.e.kind≠0:=by
        cases ra with
        | into e _ h=> exact h
        | keep | gone | come=> grind
       simp only [Z5D,decide_eq_true_eq,Z3Q] at hi
       rcases hi with hi | ⟨hl9,he2,hw,hks⟩
       .omega
       .have hy:=aa.2 hl9 y Q5
        have hn:=Z6k o.e
        rw [JC,if_pos he2] at hn
        have e1:o.e.words=[]:=by rw [hn] at hw;exact Q3 hw
        have e2:o.e.kids=[]:=by
         rw [hn] at hks
         have:(Jd o.e.kids).length=0:=hks
         cases hh:o.e.kids with
         | nil=> rfl
         | cons a b=> rw [hh] at this;trivial
        have hd:doE false o.e y=some (.mk 1 y.words y.kids):=by
         rw [Z0X,if_neg ae,JC,if_pos he2,if_pos hy,e1,e2,wsD,Qg,JV]
         try rfl
        rw [if_neg (show ¬(y ::q).length=0 by simp),QB,hd,if_pos (show Int.toNat 1<=(y ::q).length by simp)]
        refine ⟨?_,rfl⟩
        show Z9 (x.1++[y])=Z9 (x.1++[Tree.mk 1 y.words y.kids])
        rw [show Tree.mk 1 y.words y.kids=y by rw [<-hy];exact Tree.eta y]
    .rw [if_neg hi]
     have e:(Zc ⟨(Zc s).out++[⟨3,0,[],Zq o.e⟩],[],[]⟩).out=(Zc s).out++[⟨3,0,[],Zq o.e⟩]:=by simp [Zc,Jk]
     rw [e,Z5P]
     cases hx:ZR false (Zc s).out rest out with
     | none=> exact trivial
     | some x=>
      obtain ⟨m,hm⟩:=Z5O hx
      have aa:=hk.drop m
      rw [<-hm] at aa
      simp only [Qg]
      rw [Yu,Yu,if_neg h0,if_neg h1,if_neg h2,if_neg (by grind),if_neg (by grind),if_neg (by grind)]
      refine OptR.ite Qu (fun _=> trivial) fun _=> ?_
      exact (ih _ (ZvQ aa.1 0) af).map fun u v h=> ⟨JZ rfl (Z6l.2 h),rfl⟩
mutual
theorem Zlu:∀ (e:Edit) (d:Int) (t:Tree),Z6 e d=true->RT_ t->OptR Eqv (doE false (Zq e) t) (doE false e t)
 | .mk k o n w ks l os,d,t,hr,ht=> by
  have ri:=ZH hr
  have h1:=ZjM ks
  have h2:=ZjL l os
  have u:=ht.kids.1
  have s:Zq (.mk k o n w ks l os)=if k=1 then .mk k (Z3 o) (Z3 n) [] [] l [] else if k=2 then .mk k Tree.nil Tree.nil w (Jd ks) l [] else if k=3 then .mk k Tree.nil Tree.nil [] [] l (Zc (Zv l os ⟨[],[],[]⟩)).out else .mk k Tree.nil Tree.nil [] [] l []:=by rw [Zq]
  rw [Z6P,Z6P,Jj,Jj]
  by_cases c1:k=1
  .subst c1
   rw [if_pos rfl] at s
   unfold Zfw
   rw [s]
   refine OptR.ite Qu (fun _=> rfl) fun _=> OptR.ite Qu (fun _=> ?_) (fun h=> absurd rfl h)
   show OptR Eqv (if Yd (Z3 (Z3 o)) (Z3 t)=true then some (Z3 n) else none) (if Yd (Z3 o) (Z3 t)=true then some n else none)
   rw [Yr]
   exact OptR.ite Qu (fun _=> Yr n) (fun _=> trivial)
  .by_cases c2:k=2
   .subst c2
    rw [if_neg c1,if_pos rfl] at s
    unfold Zfw
    rw [s]
    refine OptR.ite Qu (fun _=> rfl) fun _=> OptR.ite Qu (fun h=> absurd h c1) fun _=> OptR.ite Qu (fun _=> ?_) (fun h=> absurd rfl h)
    refine OptR.ite Qu (fun ab=> ?_) (fun _=> trivial)
    refine OptR.bind (R:=Eq) (OptR.rfl' _) ?_
    rintro a _ rfl
    exact (h1 (d - 1) t.kids t.kids t.kids (fun k hk=> (ZP ri.kids k hk).2) u rfl).map fun x y h=> Z5q _ _ h
   .by_cases c3:k=3
    .subst c3
     rw [if_neg c1,if_neg c2,if_pos rfl] at s
     unfold Zfw
     rw [s]
     refine OptR.ite Qu (fun _=> rfl) fun _=> OptR.ite Qu (fun h=> absurd h c1) fun _=> OptR.ite Qu (fun h=> absurd h c2) fun _=> OptR.ite Qu (fun _=> ?_) (fun h=> absurd rfl h)
     refine OptR.ite Qu (fun ab=> ?_) (fun _=> trivial)
     have aa:=ht.k9
     rw [ab] at aa
     have:=h2 (d - 1) ⟨[],[],[]⟩ t.kids [] (fun o ho=> Go.AM.rightOs_mem ri.ops o ho) (fun o ho=> by cases ho) aa
     exact (Zf1 this).map fun x y h=> Z5q _ _ h
    .have e0:k=0:=by have:=ri.kind;have:0<=k/\k<=3:=this;omega
     subst e0
     try rfl
theorem ZjM:∀ (ks:List (KidOf Edit)) (d:Int) (tk a b:List Tree),(∀ k∈ks,Z6 k.e d=true)->(∀ t∈tk,RT_ t)->EqvL a b->OptR EqvL (JV false tk (Jd ks) a) (JV false tk ks b)
 | [],d,tk,a,b,_,_,h=> by trivial
 | k ::r,d,tk,a,b,hr,ht,h=> by
  rw [Jd,JV,JV]
  have e:(Z0d k).at_=k.at_:=by cases k;rfl
  rw [e]
  refine (Zqe k d tk (hr k Q5) ht).bind fun x y s=> ZjM r d tk _ _ (fun q u=> hr q (Q1 _ u)) ht (Zgo h s)
theorem Zqe:∀ (k:KidOf Edit) (d:Int) (tk:List Tree),Z6 k.e d=true->(∀ t∈tk,RT_ t)->OptR Eqv (Z08 false tk (Z0d k)) (Z08 false tk k)
 | ⟨a,e⟩,d,tk,hr,ht=> by rw [Z0d,Z08,Z08];exact Zlu e d _ hr (ZvQ ht _)
theorem ZjL(list:Int):∀ (os:List (OpOf Edit)) (d:Int) (s:Wst) (rest out:List Tree),(∀ o∈os,Zf list o d=true)->N0s s->K9 list rest->OptR Rx (ZR false (Zc (Zv list os s)).out rest out) (ZR false ((Zc s).out++os) rest out)
 | [],d,s,rest,out,_,_,_=> by rw [Zv,Qr];exact Rx.rfl' _
 | o ::r,d,s,rest,out,hr,hs,hk=> by
  have ho:=hr o Q5
  have st:=Zxb hs ho hk out (Zt9 o d)
  rw [Zv]
  refine Rx.trans (ZjL list r d _ rest out (fun q u=> hr q (Q1 _ u)) (hs.op ho) hk) ?_
  rw [Z4b,Z4b]
  have e:∀ x:List Tree × List Tree,ZR false (o ::r) x.2 x.1=(Z2P false o x.2 x.1).bind fun y=> ZR false r y.2 y.1:=fun x=> by rw [ZR]
  rw [show (fun x:List Tree × List Tree=> ZR false (o ::r) x.2 x.1)=fun x=> (Z2P false o x.2 x.1).bind fun y=> ZR false r y.2 y.1 from funext e,<-XY]
  exact st.bind fun x y h=> Zf5 r _ _ _ _ h.2 h.1 (fun q u=> ⟨_,_,hr q (Q1 _ u)⟩)
theorem Zt9:∀ (o:OpOf Edit) (d:Int),∀ y,RT_ y->Z6 o.e d=true->OptR Eqv (doE false (Zq o.e) y) (doE false o.e y)
 | ⟨_,_,_,e⟩,d,y,hy,hr=> Zlu e d y hr hy
end
theorem ZbV:∀ {ks:List Kid} {k:Kid},k∈ks->Zd k.e<=Zp ks
 | ⟨_,_⟩ ::r,k,h=> by
  rcases Q7.1 h with rfl | h
  .simp only [Zp,Ym];omega
  .have:=ZbV h;simp only [Zp];omega
theorem ZbT:∀ {os:List Op} {o:Op},o∈os->Zx o<=Zj os
 | a ::r,o,h=> by
  rcases Q7.1 h with rfl | h
  .simp only [Zj];omega
  .have:=ZbT h;simp only [Zj];omega
theorem Zqs(o:Op):Zd o.e<=Zx o:=by obtain ⟨k,n,l,e⟩:=o;simp only [Zx];omega
theorem Jz{e:Edit}{k:Kid}(h:k∈e.kids):Zd k.e < Zd e:=by
 obtain ⟨d,o,n,w,ks,l,os⟩:=e
 have:=ZbV (ks:=ks) h
 simp only [Zd];omega
theorem Z0S{e:Edit}{o:Op}(h:o∈e.ops):Zd o.e < Zd e:=by
 obtain ⟨d,s,n,w,ks,l,os⟩:=e
 have:=ZbT (os:=os) h
 have:=Zqs o
 simp only [Zd];omega
mutual
theorem Jx:∀ (t:Tree) (d m:Int),m < 0->Za t d=true->Za t m=true
 | .mk k w ks,d,m,hm,h=> by
  rw [Za] at h ⊢
  by_cases h0:k=0
  .grind
  .rw [if_neg h0] at h ⊢
   by_cases h1:k=10
   .grind
   .rw [if_neg h1] at h ⊢
    by_cases h2:d=0
    .grind
    .rw [if_neg h2] at h
     rw [JC]
     by_cases h3:k=1
     .rw [if_pos h3,Q0] at h ⊢
      exact ⟨h.1,Z7y 1 ks (d - 1) (m - 1) V0 h.2⟩
     .rw [if_neg h3,Q0] at h ⊢
      exact ⟨h.1,Z7y k ks (d - 1) (m - 1) V0 h.2⟩
theorem Z7y(list:Int):∀ (ks:List Tree) (d m:Int),m < 0->Yb list ks d=true->Yb list ks m=true
 | [],_,_,_,_=> rfl
 | t ::r,d,m,hm,h=> by
  simp only [Yb,Q0] at h ⊢
  exact ⟨⟨h.1.1,Jx t d m hm h.1.2⟩,Z7y list r d m hm h.2⟩
end
theorem Z2w{list d:Int}:∀ {ks:List Tree},Yb list ks d=true↔∀ t∈ks,Z0n list t=true/\Za t d=true
 | []=> by simp [Yb]
 | t ::r=> by
  simp only [Yb,Q0,Z2w (ks:=r),Q7,forall_eq_or_imp]
theorem Z5a{t:Tree}(h:Za t (-1)=true):t.kind≠0->t.kind≠10->
  (t.kind=1->t.words.length < 65536/\t.kids.length < 65536)/\(t.kind≠1->(2<=t.kind/\t.kind<=9)/\t.words=[]/\t.kids.length < 1048576)/\∀ k∈t.kids,Z0n t.kind k=true/\Za k (-1)=true:=by
 obtain ⟨k,w,ks⟩:=t
 intro s u
 have s:k≠0:=s
 have u:k≠10:=u
 rw [Za,if_neg s,if_neg u,if_neg V2] at h
 by_cases h3:k=1
 .rw [if_pos h3,Q0,decide_eq_true_eq,Z2w] at h
  subst h3
  exact ⟨fun _=> h.1,fun e=> absurd rfl e,fun x d=> ⟨(h.2 x d).1,Jx _ _ _ V2 (h.2 x d).2⟩⟩
 .rw [if_neg h3,Q0,decide_eq_true_eq,Z2w] at h
  exact ⟨fun e=> absurd e h3,fun _=> ⟨⟨h.1.1,h.1.2.1⟩,Q3 h.1.2.2.1,h.1.2.2.2⟩,fun x d=> ⟨(h.2 x d).1,Jx _ _ _ V2 (h.2 x d).2⟩⟩
theorem Zhf{w:List Int}{ks:List Tree}(h1:w.length < 65536)(h2:ks.length < 65536)(h:∀ k∈ks,Z0n 1 k=true/\Za k (-1)=true):Za (.mk 1 w ks) (-1)=true:=by
 rw [Za,if_neg V2,if_neg V2,if_neg V2,if_pos rfl,Q0,decide_eq_true_eq,Z2w]
 exact ⟨⟨h1,h2⟩,fun x d=> ⟨(h x d).1,Jx _ _ _ V2 (h x d).2⟩⟩
theorem ZdI{l:Int}{ks:List Tree}(hl:2<=l/\l<=9)(h2:ks.length < 1048576)(h:∀ k∈ks,Z0n l k=true/\Za k (-1)=true):Za (.mk l [] ks) (-1)=true:=by
 rw [Za,JC,JC,if_neg V2,JC,Q0,decide_eq_true_eq,Z2w]
 exact ⟨⟨hl.1,hl.2,rfl,h2⟩,fun x d=> ⟨(h x d).1,Jx _ _ _ V2 (h x d).2⟩⟩
theorem Z2X{D list:Int}:∀ {l:List Tree},Yp D list l=true->∀ t∈l,Za (.mk list [] [t]) D=true
 | a ::r,h,t,ht=> by
  simp only [Yp,Q0] at h
  rcases Q7.1 ht with rfl | ht
  .exact h.1
  .exact Z2X h.2 t ht
theorem Z0i{D list:Int}(hl:2<=list/\list<=9){l:List Tree}(h:Yp D list l=true):∀ t∈l,Z0n list t=true/\Za t (-1)=true:=by
 intro t d
 have:=Z5a (Jx _ _ (-1) V2 (Z2X h t d)) (by show list≠0;omega) (by show list≠10;omega)
 simp_all
inductive Run:List Op->List Tree->List Tree->Prop
 | nil:Run [] [] []
 | keep {o r a s d}:o.kind=0->(a.length:Int)=o.n->Run r s d->Run (o ::r) (a++s) (a++d)
 | gone {o r a s d}:o.kind=1->Z9 o.l=Z9 a->Run r s d->Run (o ::r) (a++s) d
 | come {o r s d}:o.kind=2->Run r s d->Run (o ::r) s (o.l++d)
 | into {o r x y s d}:o.kind=3->doE false o.e x=some y->Run r s d->Run (o ::r) (x ::s) (y ::d)
def kOk(o:Op):Prop:=(o.kind=0/\0<=o.n)\/o.kind=1\/o.kind=2\/o.kind=3
theorem ZBj:∀ {os:List Op} {s d:List Tree},Run os s d->∀ out,ZR false os s out=some (out++d,[]):=by
 intro os s d h
 induction h with
 | nil=> intro out;simp [ZR]
 | keep h0 hn hr0 ih=>
  rename_i o r a s d
  intro out
  rw [ZR,Yu,if_pos h0,if_pos (by grind),show o.n.toNat=a.length by omega]
  grind
 | gone h1 hn hr0 ih=>
  rename_i o r a s d
  intro out
  have hl:=Z3R hn
  rw [ZR,Yu,JC,if_pos h1,if_pos]
  .grind
  .rw [Z49,hl,List.take_left]
   grind
 | come h2 hr0 ih=>
  intro out
  rw [ZR,Yu,JC,JC,if_pos h2]
  grind
 | into h3 he hr0 ih=>
  intro out
  rw [ZR,Yu,JC,JC,JC,if_neg (by simp)]
  grind
theorem Zf3:∀ {os:List Op} {s out:List Tree} {x:List Tree × List Tree},(∀ o∈os,kOk o)->ZR false os s out=some x->x.2=[]->∃ d,x.1=out++d/\Run os s d
 | [],s,out,x,_,h,u=> by
  rw [ZR] at h
  cases h
  have u:s=[]:=u
  subst u
  exact ⟨[],by simp,.nil⟩
 | o ::r,s,out,x,hk,h,u=> by
  rw [ZR,Yu] at h
  have hr:∀ o∈r,kOk o:=fun o ho=> hk o (Q1 _ ho)
  rcases hk o Q5 with h0 | h1 | h2 | h3
  .rw [if_pos h0.1] at h
   split at h
   .rename_i hl
    simp only [Qg] at h
    obtain ⟨d,e,hd⟩:=Zf3 hr h u
    refine ⟨s.take o.n.toNat++d,by grind,?_⟩
    have:=Run.keep (a:=s.take o.n.toNat) h0.1 (by grind) hd
    simp_all
   .cases h
  .rw [JC,if_pos h1] at h
   split at h
   .rename_i hg
    obtain ⟨g1,g2⟩:=(Z49 _ _).1 hg
    simp only [Qg] at h
    obtain ⟨d,e,hd⟩:=Zf3 hr h u
    refine ⟨d,e,?_⟩
    have:=Run.gone (a:=s.take o.l.length) h1 g2 hd
    simp_all
   .cases h
  .rw [JC,JC,if_pos h2] at h
   simp only [Qg] at h
   obtain ⟨d,e,hd⟩:=Zf3 hr h u
   exact ⟨o.l++d,by grind,.come h2 hd⟩
  .rw [JC,JC,JC] at h
   split at h
   .cases h
   .rename_i hl
    obtain ⟨y,hy,h⟩:=Qo.1 h
    obtain ⟨z,hz,rfl⟩:=Qh.1 hy
    obtain ⟨d,e,hd⟩:=Zf3 hr h u
    cases s with
    | nil=> simp at hl
    | cons x0 s=>
     refine ⟨z ::d,by rw [e];simp,.into h3 (by simpa using hz) (by simpa using hd)⟩
theorem ZyD{os:List Op}{s d:List Tree}(hk:∀ o∈os,kOk o):Z25 (ZR false os s [])=some d↔Run os s d:=by
 constructor
 .intro h
  unfold Z25 at h
  obtain ⟨x,u,h⟩:=Qo.1 h
  split at h
  .rename_i hl
   cases h
   obtain ⟨d,e,hd⟩:=Zf3 hk u (Q3 hl)
   grind
  .cases h
 .intro h
  have:=ZBj h []
  unfold Z25
  grind
theorem ZqI{list d:Int}{o:Op}(h:Zf list o d=true):kOk o:=by
 have:=ZJ h
 cases this with
 | keep n h1=> exact .inl ⟨rfl,by grind⟩
 | gone=> exact .inr (.inl rfl)
 | come=> exact .inr (.inr (.inl rfl))
 | into=> exact .inr (.inr (.inr rfl))
theorem Zxf:∀ {os:List Op} {s d:List Tree},Run os s d->(∀ o∈os,YT o)->(s.length:Int)=JJ os/\(d.length:Int)=Z0a os:=by
 intro os s d h
 induction h with
 | nil=> intro _;simp [JJ,Z0a]
 | keep h0 hn hr0 ih=>
  rename_i o r a s d
  intro hk
  obtain ⟨i1,i2⟩:=ih fun o u=> hk o (Q1 _ u)
  have u:=hk o Q5
  have hl:Z7 o=o.n:=by
   rcases u with h | h | h
   .unfold Z7;rw [JC,h.2.1];simp
   .omega
   .omega
  simp only [JJ,Z0a,Qa]
  rw [JC,JC,hl]
  omega
 | gone h1 hn hr0 ih=>
  rename_i o r a s d
  intro hk
  obtain ⟨i1,i2⟩:=ih fun o u=> hk o (Q1 _ u)
  have u:=hk o Q5
  have hl:Z7 o=a.length:=by
   have:=Z3R hn
   rcases u with h | h | h
   .omega
   .unfold Z7;rw [JC,h.2.1];omega
   .omega
  simp only [JJ,Z0a,Qa]
  rw [JC,if_pos h1,hl]
  omega
 | come h2 hr0 ih=>
  rename_i o r s d
  intro hk
  obtain ⟨i1,i2⟩:=ih fun o u=> hk o (Q1 _ u)
  have u:=hk o Q5
  have hl:Z7 o=o.l.length:=by
   rcases u with h | h | h
   .omega
   .unfold Z7;rw [JC,h.2.1];omega
   .omega
  simp only [JJ,Z0a,Qa]
  rw [if_pos h2,JC,hl]
  omega
 | into h3 he hr0 ih=>
  rename_i o r x y s d
  intro hk
  obtain ⟨i1,i2⟩:=ih fun o u=> hk o (Q1 _ u)
  have hl:Z7 o=1:=by unfold Z7;rw [if_pos h3]
  simp only [JJ,Z0a,Qe]
  rw [JC,JC,hl]
  omega
theorem Zky{r:Bool}{tk:List Tree}:∀ {ks:List Kid} {out b:List Tree},JV r tk ks out=some b->(∀ k∈ks,k.at_<=65534)->
  b.length<=max out.length 65535/\∀ y∈b,y∈out\/y=Tree.nil\/∃ k∈ks,doE r k.e (tk.getD k.at_.toNat Tree.nil)=some y
 | [],out,b,h,_=> by
  rw [JV] at h
  cases h
  exact ⟨V0,fun y d=> .inl d⟩
 | k ::s,out,b,h,ha=> by
  rw [JV,Zf6] at h
  obtain ⟨v,hv,hb⟩:=Qo.1 h
  obtain ⟨i1,i2⟩:=Zky hb fun x u=> ha x (Q1 _ u)
  have:=ha k Q5
  rw [Z70] at i1
  refine ⟨V0,fun y d=> ?_⟩
  rcases i2 y d with h1 | h1 | ⟨q,hq,h1⟩
  .rcases Z7u h1 with h1 | h1 | h1
   .exact .inl h1
   .exact .inr (.inl h1)
   .subst h1
    exact .inr (.inr ⟨k,Q5,hv⟩)
  .exact .inr (.inl h1)
  .exact .inr (.inr ⟨q,Q1 _ hq,h1⟩)
theorem Zxe:∀ {os:List Op} {s d:List Tree},Run os s d->∀ y∈d,y∈s\/(∃ o∈os,o.kind=2/\y∈o.l)\/∃ o∈os,o.kind=3/\∃ x∈s,doE false o.e x=some y:=by
 intro os s d h
 induction h with
 | nil=> grind
 | keep h0 hn hr0 ih=>
  grind
 | gone h1 hn hr0 ih=>
  grind
 | come h2 hr0 ih=>
  grind
 | into h3 he hr0 ih=>
  grind
theorem ZD3{y:Tree}(h:y.kind≠10):Z0n 1 y=true:=by
 unfold Z0n
 grind
theorem Z7R{list d:Int}{os:List Op}(h:Zy list os d=true):∀ o∈os,YT o:=fun o s=> Z7x (rightOs_mem h s)
theorem Z1Z{o:Op}(h:YT o):0<=Z7 o:=by have:=Ji h;omega
theorem Zaj{e:Edit}{d:Int}{t u:Tree}(hr:Z6 e d=true)(h:doE false e t=some u):(e.kind=1->u=e.new)/\(e.kind=2->u.kind=1/\t.kind=1)/\(e.kind=3->u.kind=e.list/\t.kind=e.list)/\(e.kind=0->u=t):=by
 rw [Z0X,Jj] at h
 refine ⟨fun s=> ?_,fun s=> ?_,fun s=> ?_,fun s=> ?_⟩
 .grind
 .rw [JC,JC,if_pos s] at h
  split at h
  .rename_i ht
   obtain ⟨a,ha,h⟩:=Qo.1 h
   obtain ⟨b,hb,rfl⟩:=Qh.1 h
   simp_all
  .cases h
 .rw [JC,JC,JC,if_pos s] at h
  split at h
  .rename_i ht
   obtain ⟨b,hb,rfl⟩:=Qh.1 h
   simp_all
  .cases h
 grind
theorem Z4a:∀ (n:Nat) (e:Edit) (d:Int) (t u:Tree),Zd e<=n->Z6 e d=true->Za t (-1)=true->doE false e t=some u->Za u (-1)=true/\(e.kind≠0->u.kind≠10):=by
 intro n
 induction n with
 | zero=> intro e d t u hm;obtain ⟨k,o,nw,w,ks,l,os⟩:=e;simp only [Zd] at hm;omega
 | succ n ih=>
  intro e d t u hm hr ht h
  have R:=ZH hr
  obtain ⟨k1,k2,k3,k0⟩:=Zaj hr h
  have hk:=R.kind
  by_cases h0:e.kind=0
  .grind
  by_cases h1:e.kind=1
  .rw [k1 h1]
   obtain ⟨r1,r2,r3,r4⟩:=R.rep h1
   exact ⟨Jx _ _ _ V2 r2,fun _=> r4⟩
  by_cases h2:e.kind=2
  .obtain ⟨u1,t1⟩:=k2 h2
   refine ⟨?_,fun _=> by omega⟩
   rw [Z0X,Jj,if_neg h0,if_neg h1,if_pos h2,if_pos t1] at h
   obtain ⟨a,ha,h⟩:=Qo.1 h
   obtain ⟨b,hb,rfl⟩:=Qh.1 h
   obtain ⟨p1,_,p3⟩:=Z5a ht V0 V0
   have p1:=p1 t1
   rw [t1] at p3
   have hl:=ZgX R.words ha
   have aa:=ZP R.kids
   obtain ⟨m1,m2⟩:=Zky hb fun k hk=> (aa k hk).1.2.1
   refine Zhf V0 V0 fun y hy=> ?_
   rcases m2 y hy with h | rfl | ⟨k,hk,h⟩
   .exact p3 y h
   .trivial
   .have hx:Za (t.kids.getD k.at_.toNat Tree.nil) (-1)=true:=by
     by_cases hi:k.at_.toNat < t.kids.length
     .grind
     .rw [Q9,Qp V0];try rfl
    obtain ⟨g1,g2⟩:=ih k.e _ _ y (by have:=Jz hk;omega) (aa k hk).2 hx h
    exact ⟨ZD3 (g2 (aa k hk).1.2.2),g1⟩
  .have h3:e.kind=3:=V0
   obtain ⟨u1,t1⟩:=k3 h3
   have ah:=R.list h3
   refine ⟨?_,fun _=> by omega⟩
   rw [Z0X,Jj,if_neg h0,if_neg h1,if_neg h2,if_pos h3,if_pos t1] at h
   obtain ⟨b,hb,rfl⟩:=Qh.1 h
   have ho:∀ o∈e.ops,Zf e.list o (d - 1)=true:=fun o h=> rightOs_mem R.ops h
   have s:=(ZyD (fun o h=> ZqI (ho o h))).1 hb
   obtain ⟨_,q2⟩:=Zxf s (Z7R R.ops)
   obtain ⟨q3,q4⟩:=Z40 e.ops 0 (fun o h=> Z1Z (Z7R R.ops o h)) V2 V2
   have q5:=R.len.2
   obtain ⟨_,_,p3⟩:=Z5a ht V0 V0
   rw [t1] at p3
   refine ZdI ah V0 fun y hy=> ?_
   rcases Zxe s y hy with h | ⟨o,hoo,hk2,hyl⟩ | ⟨o,hoo,hk3,x,hx,h⟩
   .exact p3 y h
   .have:=ZJ (ho o hoo)
    cases this with
    | come l h1 h2=> exact Z0i ah h1 y hyl
    | keep | gone | into=> grind
   .have:=ZJ (ho o hoo)
    cases this with
    | into e' g1 g2 g3 g4=>
     obtain ⟨f1,f2⟩:=ih e' _ x y (by have:=Z0S hoo;grind) g1 (p3 x hx).2 h
     refine ⟨?_,f1⟩
     obtain ⟨j1,j2,_,_⟩:=Zaj g1 h
     unfold Z0n
     grind
    | keep | gone | come=> grind
end Go.AM.YtfapacabjkhepaaGreat
