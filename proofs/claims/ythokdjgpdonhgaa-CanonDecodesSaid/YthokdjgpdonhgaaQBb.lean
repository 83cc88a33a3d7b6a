import Derived.Test.YthokdjgpdonhgaaQB5
import Derived.Test.YthokdjgpdonhgaaQD7
set_option linter.unusedSimpArgs false
set_option linter.unusedVariables false
namespace Go.AM
def Y2(n t:Int):Int:=if n < 0 then 0 else if t < n then t else n
def Yf(x:Limits):Limits:=⟨Y2 x.depth 64,Y2 x.weight 65536,Y2 x.maxD 4096,Y2 x.maxOut 131072⟩
def Z3x(x:Limits):Limits:=if 3000 < x.weight then ⟨x.depth,3000,x.maxD,x.maxOut⟩ else x
def ZC(x:XRef):Int:=if x.kind=1 then 1+x.data+x.ptrs else if x.kind=9 then 1+x.count*(1+x.data+x.ptrs) else 1+x.count
def Zz(f:Int->Int->Tree × Int × Int):Nat->Int->Int->List Tree->List Tree × Int × Int
 | 0,_,left,acc=> (acc,left,0)
 | n+1,i,left,acc=> if (f i left).2.2=0 then Zz f n (i+1) (f i left).2.1 (acc++[(f i left).1]) else (acc,(f i left).2)
def YG(l:List (List Int))(m:XRef->Int->Tree × Int × Int)(x:XRef)(left:Int):Tree × Int × Int:=
 (⟨1,Zg l x,(Zz (fun j left=> if (Zc l x j).2=0 then m (Zc l x j).1 left else (Tree.nil,left,(Zc l x j).2)) x.ptrs.toNat 0 left []).1⟩,
  (Zz (fun j left=> if (Zc l x j).2=0 then m (Zc l x j).1 left else (Tree.nil,left,(Zc l x j).2)) x.ptrs.toNat 0 left []).2)
def ZY(l:List (List Int))(m m':XRef->Int->Tree × Int × Int)(x:XRef)(i left:Int):Tree × Int × Int:=
 if (Zc l x i).2=0 then
  if x.kind=9 then YG l m' (Zc l x i).1 left
  else if x.kind=1\/x.kind=8 then m (Zc l x i).1 left
  else (⟨(Zc l x i).1.kind,Zg l (Zc l x i).1,[]⟩,left,0)
 else (Tree.nil,left,(Zc l x i).2)
def Yy(l:List (List Int))(d:Nat)(m m':XRef->Int->Tree × Int × Int)(x:XRef)(left:Int):Tree × Int × Int:=
 if x.kind=0 then (⟨0,Zg l x,[]⟩,left,0)
 else if d=0\/(x.kind=9/\0 < x.count/\d < 2)\/left < ZC x then (⟨x.kind,Zg l x,[]⟩,left,3)
 else (⟨x.kind,Zg l x,(Zz (ZY l m m' x) (Zf x).toNat 0 (left - ZC x) []).1⟩,(Zz (ZY l m m' x) (Zf x).toNat 0 (left - ZC x) []).2)
def Zl(l:List (List Int)):Nat->XRef->Int->Tree × Int × Int
 | 0=> Yy l 0 (fun _ left=> (Tree.nil,left,3)) (fun _ left=> (Tree.nil,left,3))
 | 1=> Yy l 1 (Zl l 0) (fun _ left=> (Tree.nil,left,3))
 | d+2=> Yy l (d+2) (Zl l (d+1)) (Zl l d)
def Z1p(l:List (List Int))(d:Nat)(x:XRef)(i left:Int):Int × Int:=
 if (Zc l x i).2=0 then (if x.kind=9 then (YG l (Zl l d) (Zc l x i).1 left).2 else (Zl l d (Zc l x i).1 left).2) else (left,(Zc l x i).2)
def ZV(l:List (List Int))(x:Limits):Tree × Int × Int:=
 if (Zp l 0 0).2=0 then
  if (Zl l (Yf x).depth.toNat (Zp l 0 0).1 (Yf x).weight).2.2=0 then
   ((Zl l (Yf x).depth.toNat (Zp l 0 0).1 (Yf x).weight).1,(Yf x).weight - (Zl l (Yf x).depth.toNat (Zp l 0 0).1 (Yf x).weight).2.1,0)
  else (Tree.nil,0,(Zl l (Yf x).depth.toNat (Zp l 0 0).1 (Yf x).weight).2.2)
 else (Tree.nil,0,(Zp l 0 0).2)
theorem Z24{l:List (List Int)}{x:XRef}(h:OkX l x):1<=ZC x:=by
 have h1:=h.data
 have h2:=h.ptrs
 have h3:=h.count
 unfold ZC
 split
 ·omega
 ·split
  ·have:=QE h3.1 (show 0<=1+x.data+x.ptrs by omega);omega
  ·omega
theorem Z4e{l:List (List Int)}{x:XRef}(h:OkX l x):0<=Zf x/\Zf x+1<=ZC x:=by
 have h1:=h.data
 have h2:=h.ptrs
 have h3:=h.count
 unfold ZC Zf
 split
 ·omega
 ·split
  ·have:x.count*1<=x.count*(1+x.data+x.ptrs):=Int.mul_le_mul_of_nonneg_left (by omega) h3.1
   omega
  ·omega
def Zma(r:Tree × Int × Int)(left:Int):Prop:=0<=r.2.1/\r.2.1<=left
theorem Z3v{f:Int->Int->Tree × Int × Int}(hf:∀ i left,0<=left->Zma (f i left) left):∀ (n:Nat) (i left:Int) (acc:List Tree),0<=left->0<=(Zz f n i left acc).2.1/\(Zz f n i left acc).2.1<=left
 | 0,_,left,_,h=> ⟨h,QQ _⟩
 | n+1,i,left,acc,h=> by
  have h1:=hf i left h
  simp only [Zz]
  split
  ·have:=Z3v hf n (i+1) (f i left).2.1 (acc++[(f i left).1]) h1.1
   exact ⟨this.1,Int.le_trans this.2 h1.2⟩
  ·exact h1
def Z69(l:List (List Int))(m:XRef->Int->Tree × Int × Int):Prop:=∀ x left,OkX l x->0<=left->Zma (m x left) left
theorem Z85{l:List (List Int)}(hl:ZX l){m:XRef->Int->Tree × Int × Int}(hm:Z69 l m){x:XRef}(hx:OkX l x)(left:Int)(h:0<=left):Zma (YG l m x left) left:=by
 refine Z3v (fun j left h=> ?_) _ _ _ _ h
 split
 ·exact hm _ _ (Yv hl hx _) h
 ·exact ⟨h,QQ _⟩
theorem Z5j{l:List (List Int)}(hl:ZX l){m m':XRef->Int->Tree × Int × Int}(hm:Z69 l m)(hm':Z69 l m'){x:XRef}(hx:OkX l x)(i left:Int)(h:0<=left):Zma (ZY l m m' x i left) left:=by
 unfold ZY
 split
 ·split
  ·exact Z85 hl hm' (Yv hl hx _) _ h
  ·split
   ·exact hm _ _ (Yv hl hx _) h
   ·exact ⟨h,QQ _⟩
 ·exact ⟨h,QQ _⟩
theorem Z3f{l:List (List Int)}(hl:ZX l){d:Nat}{m m':XRef->Int->Tree × Int × Int}(hm:Z69 l m)(hm':Z69 l m'):Z69 l (Yy l d m m'):=by
 intro x left hx h
 unfold Yy
 split
 ·exact ⟨h,QQ _⟩
 ·split
  ·exact ⟨h,QQ _⟩
  ·have h1:=Z24 hx
   have:=Z3v (f:=ZY l m m' x) (fun i left h=> Z5j hl hm hm' hx i left h) (Zf x).toNat 0 (left - ZC x) [] (by omega)
   exact ⟨this.1,by have:=this.2;dsimp only;omega⟩
theorem Z5b{l:List (List Int)}:Z69 l (fun _ left=> (Tree.nil,left,3)):=fun _ _ _ h=> ⟨h,QQ _⟩
theorem Jc{l:List (List Int)}(hl:ZX l):∀ d:Nat,Z69 l (Zl l d):=by
 intro d
 induction d using Nat.strongRecOn with
 | ind d ih=>
  match d with
  | 0=> exact Z3f hl Z5b Z5b
  | 1=> exact Z3f hl (ih 0 (by omega)) Z5b
  | d+2=> exact Z3f hl (ih (d+1) (by omega)) (ih d (by omega))
theorem JX{l:List (List Int)}{d:Nat}{x:XRef}{left:Int}(h:1<=d):Zl l d x left=Yy l d (Zl l (d - 1)) (Zl l (d - 2)) x left:=by
 match d,h with
 | 1,_=>
  show Yy l 1 (Zl l 0) _ x left=Yy l 1 (Zl l 0) (Zl l 0) x left
  unfold Yy
  split
  ·try rfl
  ·split
   ·try rfl
   ·rename_i h0 h1
    have h9:x.kind=9->x.count<=0:=fun e=> by
     by_cases hc:0 < x.count
     ·exact absurd (.inr (.inl ⟨e,hc,by decide⟩)) h1
     ·omega
    have:∀ a b,ZY l (Zl l 0) a x=ZY l (Zl l 0) b x\/(Zf x).toNat=0:=fun a b=> by
     by_cases e:x.kind=9
     ·right
      have:=h9 e
      unfold Zf
      rw [if_neg (by omega)]
      omega
     ·left
      funext i left
      unfold ZY
      rw [if_neg e,if_neg e]
    rcases this (fun _ left=> (Tree.nil,left,3)) (Zl l 0) with e | e
    ·rw [e]
    ·rw [e];try rfl
 | d+2,_=> rfl
theorem Z9c{l:List (List Int)}{x:XRef}{left:Int}:Zl l 0 x left=if x.kind=0 then (⟨0,Zg l x,[]⟩,left,0) else (⟨x.kind,Zg l x,[]⟩,left,3):=by
 show Yy l 0 _ _ x left=_
 unfold Yy
 split
 ·try rfl
 ·rw [if_pos (.inl rfl)]
end Go.AM
namespace Go.AM.Ythokdjgpdonhgaa
open Go.AM Go.Proofs
noncomputable section
def ZjO:ArgL (Limits × Unit):=(.cons (aEl .limits) .nil)
def Zhs(a:Limits × Unit):Prop:=True
def ZmY(a:Limits × Unit):V U:= .agg (enc .limits (Yf a.1))
def Z78:Fs U:=fs ZjO (fun a=> [Zhs a]) ZmY
def ZmO(a:Int × Int × Unit):V U:= .c (ci (Y2 a.1 a.2.1))
def Z6S:Fs U:=fs ZeL (fun a=> [Z0I a]) ZmO
def ZgT(a:Limits × Unit):V U:= .agg (enc .limits (Z3x a.1))
def Z7c:Fs U:=fs ZjO (fun a=> [Zhs a]) ZgT
def Zh8(a:Int × Unit):V U:= .c (.bool (decide (2<=a.1/\a.1<=7)))
def Jn:Fs U:=fs ZjK (fun a=> [Z5G a]) Zh8
def Zcg(a:Ref × Unit):Prop:=okR a.1
def Zh9(a:Ref × Unit):V U:= .c (ci (ZC (unX a.1)))
def Z3N:Fs U:=fs Zk3 (fun a=> [Zcg a]) Zh9
def ZaD:ArgM ((Int × Int × Unit) × Int × Unit):=(.obj 0 (.cons (ZfY .i64) (.cons (ZfY .i64) .nil)) (.cons (Zr .i64) .nil))
def Zch(a:(Int × Int × Unit) × Int × Unit):Prop:=0<=a.1.1/\a.1.1<=a.1.2.1/\a.1.2.1<=65536/\0<=a.2.1
def Za0(a:(Int × Int × Unit) × Int × Unit):V U:= .c (.bool (decide (a.2.1<=a.1.2.1 - a.1.1)))
def Z6o(a:(Int × Int × Unit) × Int × Unit):List (List (C U)):=[[ci (if a.2.1<=a.1.2.1 - a.1.1 then a.1.1+a.2.1 else a.1.1),ci a.1.2.1]]
def Z3O:Fs U:=fsX ZaD (fun a=> [Zch a]) Za0 Z6o
def Z5v:ArgM ((Int × Int × Unit) × Ref × Int × Unit):=(.obj 0 (.cons (ZfY .i64) (.cons (ZfY .i64) .nil)) (.cons (aEl .ref) (.cons (Zr .i64) .nil)))
def Z7G(a:(Int × Int × Unit) × Ref × Int × Unit):Prop:=okR a.2.1/\0<=a.1.1/\a.1.1<=a.1.2.1/\a.1.2.1<=65536/\0<=a.2.2.1/\a.2.2.1<=64
def ZhR(a:(Int × Int × Unit) × Ref × Int × Unit):Nat:=3*Int.toNat a.2.2.1
def Z5D(a:(Int × Int × Unit) × Ref × Int × Unit):V U:= .c (ci ((Zl (Z2 (Ref.a a.2.1)) (Int.toNat a.2.2.1) (unX a.2.1) (a.1.2.1 - a.1.1)).2.2))
def Z1X(a:(Int × Int × Unit) × Ref × Int × Unit):List (List (C U)):=[[ci (a.1.2.1 - (Zl (Z2 (Ref.a a.2.1)) (Int.toNat a.2.2.1) (unX a.2.1) (a.1.2.1 - a.1.1)).2.1),ci a.1.2.1]]
def Z4R:Fs U:=fsX Z5v (fun a=> [Z7G a]) Z5D Z1X
def Z2N:ArgM ((Int × Int × Unit) × Ref × Int × Int × Unit):=(.obj 0 (.cons (ZfY .i64) (.cons (ZfY .i64) .nil)) (.cons (aEl .ref) (.cons (Zr .i64) (.cons (Zr .i64) .nil))))
def Z3l(a:(Int × Int × Unit) × Ref × Int × Int × Unit):Prop:=okR a.2.1/\0<=a.1.1/\a.1.1<=a.1.2.1/\a.1.2.1<=65536/\0<=a.2.2.2.1/\a.2.2.2.1<=64/\(Ref.kind a.2.1=1\/Ref.kind a.2.1=8\/Ref.kind a.2.1=9)
def Z9b(a:(Int × Int × Unit) × Ref × Int × Int × Unit):Nat:=3*Int.toNat a.2.2.2.1+(if Ref.kind a.2.1=9 then 2 else 1)
def Z3j(a:(Int × Int × Unit) × Ref × Int × Int × Unit):V U:= .c (ci ((Z1p (Z2 (Ref.a a.2.1)) (Int.toNat a.2.2.2.1) (unX a.2.1) a.2.2.1 (a.1.2.1 - a.1.1)).2))
def Z1f(a:(Int × Int × Unit) × Ref × Int × Int × Unit):List (List (C U)):=[[ci (a.1.2.1 - (Z1p (Z2 (Ref.a a.2.1)) (Int.toNat a.2.2.2.1) (unX a.2.1) a.2.2.1 (a.1.2.1 - a.1.1)).1),ci a.1.2.1]]
def Zde:Fs U:=fsX Z2N (fun a=> [Z3l a]) Z3j Z1f
def ZjQ:ArgL (Option Arena × Limits × Unit):=(.cons (aPo .arena) (.cons (aEl .limits) .nil))
def ZdR(a:Option Arena × Limits × Unit):Prop:=okA a.1
def Zb6(a:Option Arena × Limits × Unit):V U:= .tup [(false,[ci ((ZV (Z2 a.1) a.2.1).2.1)]),(false,[ci ((ZV (Z2 a.1) a.2.1).2.2)])]
def Z7b:Fs U:=fs ZjQ (fun a=> [ZdR a]) Zb6
def Zp8:Z6 U:=lvl [([1,2],[1,2]),([2],[2])]
abbrev A45(p:List Nat):=AW (Z1 ZiK) Try.f45 Zp8 p
theorem ZsV(x:Limits)(Q:QT)(h:(Q .ret (L2 [pL 2] [(.loc 2,[ci (if (64:Int) < (if ((Limits.depth x):Int) < 0 then 0 else (Limits.depth x)) then 64 else (if ((Limits.depth x):Int) < 0 then 0 else (Limits.depth x))),ci (if (65536:Int) < (if ((Limits.weight x):Int) < 0 then 0 else (Limits.weight x)) then 65536 else (if ((Limits.weight x):Int) < 0 then 0 else (Limits.weight x))),ci (if (4096:Int) < (if ((Limits.maxD x):Int) < 0 then 0 else (Limits.maxD x)) then 4096 else (if ((Limits.maxD x):Int) < 0 then 0 else (Limits.maxD x))),ci (if (131072:Int) < (if ((Limits.maxOut x):Int) < 0 then 0 else (Limits.maxOut x)) then 131072 else (if ((Limits.maxOut x):Int) < 0 then 0 else (Limits.maxOut x)))])]))):
  A45 [] (L2 [(0,.agg (enc .limits x))] []) Q:=
 Eq.mpr (by kernel_rfl) h
def ZqE(x:Limits):Prop:=AW (Z1 ZiK) Try.f45 Zp8 [] (Zb (ZjO.can (x,())) []) (EQ Try.f45 (ZmY (x,())) [])
theorem Zol(hb:∀ (x:Limits) (_:Unit),Zhs (x,())->ZqE x):CT 45 Z78:=
 Z0 (l:=[]) Z9 rfl trivial Zp8 Try.func45 rfl rfl 1 (fun _=> rfl) (by decide) (fun ⟨x,_⟩=> hb x ())
def ZoR:Z6 U:=lvl [([0,1],[]),([0,1,6],[]),([4],[]),([0,1,9],[]),([4],[]),([4],[])]
abbrev A79(p:List Nat):=AW (Z1 ZiK) Try.f79 ZoR p
theorem Zsr(n to:Int)(Q:QT)(h:(((decide (n < 0))=true->(Q .ret (L2 [pI 4 0] [])))/\((decide (n < 0))=false->(((decide (to < n))=true->(Q .ret (L2 [pI 4 to] [])))/\((decide (to < n))=false->(Q .ret (L2 [pI 4 n] []))))))):
  A79 [] (L2 [pI 0 n,pI 1 to] []) Q:=
 Eq.mpr (by kernel_rfl) h
def Zqa(n to:Int):Prop:=AW (Z1 ZiK) Try.f79 ZoR [] (Zb (ZeL.can (n,to,())) []) (EQ Try.f79 (ZmO (n,to,())) [])
theorem ZnU(hb:∀ (n:Int) (to:Int) (_:Unit),Z0I (n,to,())->Zqa n to):CT 79 Z6S:=
 Z0 (l:=[]) Z9 rfl trivial ZoR Try.func79 rfl rfl 2 (fun _=> rfl) (by decide) (fun ⟨n,to,_⟩=> hb n to ())
def ZiN:List (FuncId × Fs U):=[(79,Z6S)]
abbrev A47(p:List Nat):=AW (Z1 ZiN) Try.f47 Zp8 p
theorem ZsU(x:Limits)(Q:QT)(h:((Z0I ((Limits.depth x),64,()))/\(Z0I ((Limits.weight x),65536,()))/\(Z0I ((Limits.maxD x),4096,()))/\(Z0I ((Limits.maxOut x),131072,()))/\(Q .ret (L2 [pL 2] [(.loc 2,[ci (Y2 (Limits.depth x) 64),ci (Y2 (Limits.weight x) 65536),ci (Y2 (Limits.maxD x) 4096),ci (Y2 (Limits.maxOut x) 131072)])])))):
  A47 [] (L2 [(0,.agg (enc .limits x))] []) Q:=
 Eq.mpr (by kernel_rfl) h
def ZqD(x:Limits):Prop:=AW (Z1 ZiN) Try.f47 Zp8 [] (Zb (ZjO.can (x,())) []) (EQ Try.f47 (ZmY (x,())) [])
theorem Zok(c79:CT 79 Z6S)(hb:∀ (x:Limits) (_:Unit),Zhs (x,())->ZqD x):CT 47 Z78:=
 Z0 (l:=[(79,Z6S)]) Z9 rfl (⟨c79,trivial⟩) Zp8 Try.func47 rfl rfl 1 (fun _=> rfl) (by decide) (fun ⟨x,_⟩=> hb x ())
def Zpb:Z6 U:=lvl [([1,2],[1,2]),([1,2,5],[1,2]),([1,2],[1,2]),([2],[2])]
abbrev A39(p:List Nat):=AW (Z1 ZiK) Try.f39 Zpb p
theorem ZsZ(x:Limits)(Q:QT)(h:let z0:=decide ((3000:Int) < (Limits.weight x));((z0=true->(Q .ret (L2 [pL 2] [(.loc 2,[ci (Limits.depth x),ci 3000,ci (Limits.maxD x),ci (Limits.maxOut x)])])))/\(z0=false->(Q .ret (L2 [pL 2] [(.loc 2,(enc .limits x))]))))):
  A39 [] (L2 [(0,.agg (enc .limits x))] []) Q:=
 Eq.mpr (by kernel_rfl) h
def ZqI(x:Limits):Prop:=AW (Z1 ZiK) Try.f39 Zpb [] (Zb (ZjO.can (x,())) []) (EQ Try.f39 (ZgT (x,())) [])
theorem Zop(hb:∀ (x:Limits) (_:Unit),Zhs (x,())->ZqI x):CT 39 Z7c:=
 Z0 (l:=[]) Z9 rfl trivial Zpb Try.func39 rfl rfl 1 (fun _=> rfl) (by decide) (fun ⟨x,_⟩=> hb x ())
def Zi9:Z6 U:=lvl [([0],[]),([2],[])]
abbrev ZtC(p:List Nat):=AW (Z1 ZiK) Try.f107 Zi9 p
theorem Zrn(k:Int)(Q:QT)(h:let z0:=decide ((2:Int)<=k);((Tr (z0=true))/\(Tr (z0=true))/\(Q .ret (L2 [(2,.c (.bool (bif z0 then (decide (k<=7)) else false)))] [])))):
  ZtC [] (L2 [pI 0 k] []) Q:=
 Eq.mpr (by kernel_rfl) h
def Zmt(k:Int):Prop:=AW (Z1 ZiK) Try.f107 Zi9 [] (Zb (ZjK.can (k,())) []) (EQ Try.f107 (Zh8 (k,())) [])
theorem Zls(hb:∀ (k:Int) (_:Unit),Z5G (k,())->Zmt k):CT 107 Jn:=
 Z0 (l:=[]) Z9 rfl trivial Zi9 Try.func107 rfl rfl 1 (fun _=> rfl) (by decide) (fun ⟨k,_⟩=> hb k ())
def Zev:List (FuncId × Fs U):=[(22,Z0a),(59,Z08),(23,Jm),(68,Z6X)]
def Zia:Z6 U:=lvl [([1],[1]),([1,5],[1]),([2],[]),([1,15],[1]),([1,3,4],[1]),([2],[]),([2],[])]
abbrev ZtD(p:List Nat):=AW (Z1 Zev) Try.f106 Zia p
theorem Zro(r:Ref)(Q:QT)(h:∀ y_1,y_1=r->((Z41 (y_1,()))/\(((((Ref.kind y_1):Int)==1)=true->(Z41 (y_1,()))/\(InR ((1:Int)+(Jh y_1)))/\(Z41 (y_1,()))/\(InR ((((1:Int)+(Jh y_1)):Int)+(Zw y_1)))/\(Q .ret (L2 [(2,.c (ci ((((1:Int)+(Jh y_1)):Int)+(Zw y_1))))] [])))/\((((Ref.kind y_1):Int)==1)=false->(Z41 (y_1,()))/\(((((Ref.kind y_1):Int)==9)=true->(Z41 (y_1,()))/\((Z41 (y_1,()))/\(InR ((1:Int)+(if Ref.kind y_1=9 then Ref.data y_1 else 0)))/\(InR ((((1:Int)+(if Ref.kind y_1=9 then Ref.data y_1 else 0)):Int)+(if Ref.kind y_1=9 then Ref.kids y_1 else 0)))/\(InR (((Zw y_1):Int)*((((1:Int)+(if Ref.kind y_1=9 then Ref.data y_1 else 0)):Int)+(if Ref.kind y_1=9 then Ref.kids y_1 else 0))))/\(InR ((1:Int)+(((Zw y_1):Int)*((((1:Int)+(if Ref.kind y_1=9 then Ref.data y_1 else 0)):Int)+(if Ref.kind y_1=9 then Ref.kids y_1 else 0)))))/\(Q .ret (L2 [(2,.c (ci ((1:Int)+(((Zw y_1):Int)*((((1:Int)+(if Ref.kind y_1=9 then Ref.data y_1 else 0)):Int)+(if Ref.kind y_1=9 then Ref.kids y_1 else 0))))))] []))))/\((((Ref.kind y_1):Int)==9)=false->(Z41 (y_1,()))/\(InR ((1:Int)+(Zw y_1)))/\(Q .ret (L2 [pI 2 ((1:Int)+(Zw y_1))] [])))))))):
  ZtD [] (L2 [(0,.agg (enc .ref r))] []) Q:=
 Eq.mpr (by kernel_rfl) (h _ (Yp _))
def Zmu(r:Ref):Prop:=AW (Z1 Zev) Try.f106 Zia [] (Zb (Zk3.can (r,())) []) (EQ Try.f106 (Zh9 (r,())) [])
theorem Zlt(c22:CT 22 Z0a)(c59:CT 59 Z08)(c23:CT 23 Jm)(c68:CT 68 Z6X)(hb:∀ (r:Ref) (_:Unit),Zcg (r,())->Zmu r):CT 106 Z3N:=
 Z0 (l:=[(22,Z0a),(59,Z08),(23,Jm),(68,Z6X)]) Z9 rfl (⟨c22,c59,c23,c68,trivial⟩) Zia Try.func106 rfl rfl 1 (fun _=> rfl) (by decide) (fun ⟨r,_⟩=> hb r ())
def Zib:Z6 U:=fun i=> match i with
 | 0=> ([(0,[]),(1,[])],[(.x 0,[])])
 | 1=> ([(0,[]),(1,[]),(15,[])],[(.x 0,[])])
 | 2=> ([(4,[])],[(.x 0,[])])
 | 3=> ([],[(.x 0,[])])
 | 4=> ([(4,[])],[(.x 0,[])])
 | _=> ([],[])
abbrev ZtE(p:List Nat):=AW (Z1 ZiK) Try.f105 Zib p
theorem Zrp(u t n:Int)(Q:QT)(h:let z0:=decide (((t - u):Int) < n);((InR (t - u))/\((z0=true->(Q .ret (L2 [pB 4 false] [(.x 0,[ci u,ci t])])))/\(z0=false->(InR (u+n))/\(Q .ret (L2 [pB 4 true] [(.x 0,[ci (u+n),ci t])])))))):
  ZtE [] (L2 [(0,.ptr (.x 0) 0),pI 1 n] [(.x 0,[ci u,ci t])]) Q:=
 Eq.mpr (by kernel_rfl) h
def Zmv(u t n:Int):Prop:=AW (Z1 ZiK) Try.f105 Zib [] (Zb (ZaD.can ((u,t,()),n,())) (ZaD.canX ((u,t,()),n,()))) (EQ Try.f105 (Za0 ((u,t,()),n,())) (Z6o ((u,t,()),n,())))
theorem Zlu(hb:∀ (u:Int) (t:Int) (n:Int) (_:Unit),Zch ((u,t,()),n,())->Zmv u t n):CT 105 Z3O:=
 Z8f (l:=[]) Z9 rfl trivial Zib Try.func105 rfl rfl 2 (fun _=> rfl) (by decide) (fun ⟨⟨u,t,_⟩,n,_⟩=> hb u t n ())
def Z5i(N:Nat):List (FuncId × Fs U):=(77,fsX Z5v (fun a=> [Z7G a,ZhR a < N]) Z5D Z1X) ::(108,fsX Z2N (fun a=> [Z3l a,Z9b a < N]) Z3j Z1f) ::[(106,Z3N),(105,Z3O),(107,Jn),(22,Z0a),(23,Jm),(24,Z1O)]
def ZlH:Z6 U:=fun i=> match i with
 | 0=> ([(0,[]),(2,[]),(4,[])],[(.loc 4,[]),(.x 0,[])])
 | 1=> ([(0,[]),(2,[]),(4,[]),(12,[])],[(.loc 4,[]),(.x 0,[])])
 | 2=> ([(6,[])],[(.x 0,[])])
 | 3=> ([(0,[]),(2,[]),(4,[]),(7,[])],[(.loc 4,[]),(.x 0,[])])
 | 4=> ([(0,[]),(2,[]),(4,[]),(7,[]),(22,[])],[(.loc 4,[]),(.x 0,[])])
 | 5=> ([(0,[]),(2,[]),(4,[]),(7,[]),(22,[])],[(.loc 4,[]),(.x 0,[])])
 | 6=> ([(0,[]),(4,[]),(7,[]),(37,[])],[(.loc 4,[]),(.x 0,[])])
 | 7=> ([(6,[])],[(.x 0,[])])
 | 8=> ([(0,[]),(4,[]),(7,[]),(40,[])],[(.loc 4,[]),(.x 0,[])])
 | 9=> ([(6,[])],[(.x 0,[])])
 | 10=> ([(0,[]),(4,[]),(7,[]),(42,[]),(43,[])],[(.loc 4,[]),(.x 0,[])])
 | 11=> ([(0,[]),(4,[]),(7,[]),(42,[]),(43,[]),(44,[])],[(.loc 4,[]),(.x 0,[])])
 | 12=> ([(0,[]),(4,[]),(7,[]),(8,[]),(42,[]),(43,[])],[(.loc 4,[]),(.x 0,[])])
 | 13=> ([(0,[]),(4,[]),(7,[]),(9,[]),(42,[]),(43,[])],[(.loc 4,[]),(.x 0,[])])
 | 14=> ([(0,[]),(4,[]),(7,[]),(9,[]),(42,[]),(43,[]),(52,[])],[(.loc 4,[]),(.x 0,[])])
 | 15=> ([(6,[])],[(.x 0,[])])
 | 16=> ([(0,[]),(4,[]),(7,[]),(42,[]),(43,[])],[(.loc 4,[]),(.x 0,[])])
 | 17=> ([(6,[])],[(.x 0,[])])
 | _=> ([],[])
def Z4l(u t:Int)(r:Ref)(d x7:Int):LSt U:=(L2 [(0,.ptr (.x 0) 0),pI 2 d,pL 4,pI 7 x7,(22,.c (.bool (bif (((Ref.kind (Ref.mk (Ref.a r) (Ref.kind r) (Ref.segment r) (Ref.at_ r) (Ref.data r) (Ref.kids r) (Ref.count r) (Ref.number r))):Int)==9) then (decide ((0:Int) < (Zw (Ref.mk (Ref.a r) (Ref.kind r) (Ref.segment r) (Ref.at_ r) (Ref.data r) (Ref.kids r) (Ref.count r) (Ref.number r))))) else false)))] [(.loc 4,(enc .ref r)),(.x 0,[ci u,ci t])])
def Z2l(u t:Int)(r:Ref)(d x7 x43_a mx0_0_a mx0_1_a:Int):LSt U:=(L2 [(0,.ptr (.x 0) 0),pL 4,pI 7 x7,pI 42 (Zw (Ref.mk (Ref.a r) (Ref.kind r) (Ref.segment r) (Ref.at_ r) (Ref.data r) (Ref.kids r) (Ref.count r) (Ref.number r))),pI 43 x43_a] [(.loc 4,(enc .ref r)),(.x 0,[ci mx0_0_a,ci mx0_1_a])])
abbrev A77(N:Nat)(p:List Nat):=AW (Z1 (Z5i N)) Try.f77 ZlH p
abbrev S77(N:Nat)(p:List Nat):=SW (Z1 (Z5i N)) Try.f77 ZlH p
theorem Zst(N:Nat)(u t:Int)(r:Ref)(d:Int)(Q:QT)(h:∀ y_1,y_1=r->let z0:=((Ref.kind y_1):Int)==9;let z1:=bif z0 then (decide ((0:Int) < (Zw y_1))) else false;((Z41 (y_1,()))/\(((((Ref.kind y_1):Int)==0)=true->(Q .ret (L2 [pI 6 0] [(.x 0,[ci u,ci t])])))/\((((Ref.kind y_1):Int)==0)=false->(InR (d - 1))/\((Z41 (y_1,()))/\(Tr (z0=true))/\(z0=true->Z41 (y_1,()))/\(Tr (z0=true))/\(Tr (z0=true))/\((z1=true->(InR (((d - 1):Int) - 1))/\(A77 N [1,1,1,1] (Z4l u t r d (((d - 1):Int) - 1)) Q))/\(z1=false->A77 N [1,1,1,1] (Z4l u t r d (d - 1)) Q))))))):
  A77 N [] (L2 [(0,.ptr (.x 0) 0),(1,.agg (enc .ref r)),pI 2 d] [(.x 0,[ci u,ci t])]) Q:=
 Eq.mpr (by kernel_rfl) (h _ (Yp _))
theorem Zkw(N:Nat)(u t:Int)(r:Ref)(d x7:Int)(Q:QT)(h:∀ y_1,y_1=r->let z3:=decide (2<=(Ref.kind y_1)/\(Ref.kind y_1)<=7);let z0:=bif (decide (d < 1)) then true else (decide (x7 < 0));let z4:=bif (!z0) then t else t;let z2:=bif z0 then true else (!(decide ((ZC (unX y_1))<=t - u)));let z1:=bif (!z0) then (if (ZC (unX y_1))<=t - u then u+(ZC (unX y_1)) else u) else u;(Tr ((!(decide (d < 1)))=true))/\((decide (d < 1))=false->(!(decide (d < 1)))=true)/\(Tr ((!z0)=true))/\((!z0)=true->Zcg (y_1,()))/\(Tr ((!z0)=true))/\(Tr ((!z0)=true))/\((!z0)=true->Zch ((u,t,()),(ZC (unX y_1)),()))/\(Tr ((!z0)=true))/\(z0=false->(!z0)=true)/\((z2=true->(Q .ret (L2 [pI 6 3] [(.x 0,[ci z1,ci z4])])))/\(z2=false->(Z41 (y_1,()))/\(Z5G ((Ref.kind y_1),()))/\((z3=true->(Q .ret (L2 [pI 6 0] [(.x 0,[ci z1,ci z4])])))/\(z3=false->(Z41 (y_1,()))/\(Zk (A77 N [1,1,1,1,1,1,0,1,0,0]) (Z2l u t r d x7 0 z1 z4) (xB 0 (S77 N [1,1,1,1,1,1,1] Q)))))))):
  A77 N [1,1,1,1] (Z4l u t r d x7) Q:=
 Eq.mpr (by kernel_rfl) (h _ (Yp _))
theorem Zd6(N:Nat)(u t:Int)(r:Ref)(d x7 x43_a mx0_0_a mx0_1_a:Int)(N1:NT)(Q:QT)(h:∀ y_1,y_1=r->∀ y_2,y_2=(Z1p (Z2 (Ref.a y_1)) x7.toNat (unX y_1) x43_a (mx0_1_a - mx0_0_a))->let z0:=decide (x43_a < (Zw y_1));((z0=true->((Z3l ((mx0_0_a,mx0_1_a,()),y_1,x43_a,x7,()))/\(Z9b ((mx0_0_a,mx0_1_a,()),y_1,x43_a,x7,()) < N)/\(((((y_2.2):Int) !=0)=true->(Q .ret (L2 [pI 6 (y_2.2)] [(.x 0,[ci (mx0_1_a - y_2.1),ci mx0_1_a])])))/\((((y_2.2):Int) !=0)=false->(InR (x43_a+1))/\(N1 (Z2l u t r d x7 (x43_a+1) (mx0_1_a - y_2.1) mx0_1_a))))))/\(z0=false->(Q .ret (L2 [pI 6 0] [(.x 0,[ci mx0_0_a,ci mx0_1_a])]))))):
  A77 N [1,1,1,1,1,1,0,1,0,0] (Z2l u t r d x7 x43_a mx0_0_a mx0_1_a) (xT N1 (xB 0 (S77 N [1,1,1,1,1,1,1] Q))):=
 Eq.mpr (by kernel_rfl) (h _ (Yp _) _ rfl)
def Zqc(N:Nat)(u t:Int)(r:Ref)(d:Int):Prop:=AW (Z1 (Z5i N)) Try.f77 ZlH [] (Zb (Z5v.can ((u,t,()),r,d,())) (Z5v.canX ((u,t,()),r,d,()))) (EQ Try.f77 (Z5D ((u,t,()),r,d,())) (Z1X ((u,t,()),r,d,())))
abbrev Zs4:Prop:=∀ (N:Nat) (u:Int) (t:Int) (r:Ref) (d:Int) (_:Unit),Z7G ((u,t,()),r,d,())->ZhR ((u,t,()),r,d,()) < N+1->Zqc N u t r d
def Zea:Z6 U:=fun i=> match i with
 | 0=> ([(0,[]),(2,[]),(3,[]),(5,[])],[(.loc 5,[]),(.x 0,[])])
 | 1=> ([(0,[]),(3,[]),(5,[]),(9,[]),(10,[])],[(.loc 5,[]),(.loc 9,[]),(.x 0,[])])
 | 2=> ([(0,[]),(3,[]),(5,[]),(9,[]),(10,[]),(20,[])],[(.loc 5,[]),(.loc 9,[]),(.x 0,[])])
 | 3=> ([(8,[])],[(.x 0,[])])
 | 4=> ([(0,[]),(3,[]),(9,[]),(24,[])],[(.loc 9,[]),(.x 0,[])])
 | 5=> ([(8,[])],[(.x 0,[])])
 | 6=> ([(0,[]),(3,[]),(9,[]),(30,[]),(31,[])],[(.loc 9,[]),(.x 0,[])])
 | 7=> ([(0,[]),(3,[]),(9,[]),(30,[]),(31,[]),(32,[])],[(.loc 9,[]),(.x 0,[])])
 | 8=> ([(0,[]),(3,[]),(9,[]),(11,[]),(30,[]),(31,[])],[(.loc 9,[]),(.x 0,[])])
 | 9=> ([(0,[]),(3,[]),(9,[]),(12,[]),(30,[]),(31,[])],[(.loc 9,[]),(.x 0,[])])
 | 10=> ([(0,[]),(3,[]),(9,[]),(12,[]),(30,[]),(31,[]),(40,[])],[(.loc 9,[]),(.x 0,[])])
 | 11=> ([(8,[])],[(.x 0,[])])
 | 12=> ([(0,[]),(3,[]),(9,[]),(30,[]),(31,[])],[(.loc 9,[]),(.x 0,[])])
 | 13=> ([(8,[])],[(.x 0,[])])
 | _=> ([],[])
def Z0U(u t:Int)(r:Ref)(i d x31 mx0_0:Int):LSt U:=(L2 [(0,.ptr (.x 0) 0),pI 3 d,pL 9,(30,.c (ci (Zw (Ref.mk (Ref.a (Y0 (Ref.a (Ref.mk (Ref.a r) (Ref.kind r) (Ref.segment r) (Ref.at_ r) (Ref.data r) (Ref.kids r) (Ref.count r) (Ref.number r))) (Zc (Z2 (Ref.a (Ref.mk (Ref.a r) (Ref.kind r) (Ref.segment r) (Ref.at_ r) (Ref.data r) (Ref.kids r) (Ref.count r) (Ref.number r)))) (unX (Ref.mk (Ref.a r) (Ref.kind r) (Ref.segment r) (Ref.at_ r) (Ref.data r) (Ref.kids r) (Ref.count r) (Ref.number r))) i).1)) (Ref.kind (Y0 (Ref.a (Ref.mk (Ref.a r) (Ref.kind r) (Ref.segment r) (Ref.at_ r) (Ref.data r) (Ref.kids r) (Ref.count r) (Ref.number r))) (Zc (Z2 (Ref.a (Ref.mk (Ref.a r) (Ref.kind r) (Ref.segment r) (Ref.at_ r) (Ref.data r) (Ref.kids r) (Ref.count r) (Ref.number r)))) (unX (Ref.mk (Ref.a r) (Ref.kind r) (Ref.segment r) (Ref.at_ r) (Ref.data r) (Ref.kids r) (Ref.count r) (Ref.number r))) i).1)) (Ref.segment (Y0 (Ref.a (Ref.mk (Ref.a r) (Ref.kind r) (Ref.segment r) (Ref.at_ r) (Ref.data r) (Ref.kids r) (Ref.count r) (Ref.number r))) (Zc (Z2 (Ref.a (Ref.mk (Ref.a r) (Ref.kind r) (Ref.segment r) (Ref.at_ r) (Ref.data r) (Ref.kids r) (Ref.count r) (Ref.number r)))) (unX (Ref.mk (Ref.a r) (Ref.kind r) (Ref.segment r) (Ref.at_ r) (Ref.data r) (Ref.kids r) (Ref.count r) (Ref.number r))) i).1)) (Ref.at_ (Y0 (Ref.a (Ref.mk (Ref.a r) (Ref.kind r) (Ref.segment r) (Ref.at_ r) (Ref.data r) (Ref.kids r) (Ref.count r) (Ref.number r))) (Zc (Z2 (Ref.a (Ref.mk (Ref.a r) (Ref.kind r) (Ref.segment r) (Ref.at_ r) (Ref.data r) (Ref.kids r) (Ref.count r) (Ref.number r)))) (unX (Ref.mk (Ref.a r) (Ref.kind r) (Ref.segment r) (Ref.at_ r) (Ref.data r) (Ref.kids r) (Ref.count r) (Ref.number r))) i).1)) (Ref.data (Y0 (Ref.a (Ref.mk (Ref.a r) (Ref.kind r) (Ref.segment r) (Ref.at_ r) (Ref.data r) (Ref.kids r) (Ref.count r) (Ref.number r))) (Zc (Z2 (Ref.a (Ref.mk (Ref.a r) (Ref.kind r) (Ref.segment r) (Ref.at_ r) (Ref.data r) (Ref.kids r) (Ref.count r) (Ref.number r)))) (unX (Ref.mk (Ref.a r) (Ref.kind r) (Ref.segment r) (Ref.at_ r) (Ref.data r) (Ref.kids r) (Ref.count r) (Ref.number r))) i).1)) (Ref.kids (Y0 (Ref.a (Ref.mk (Ref.a r) (Ref.kind r) (Ref.segment r) (Ref.at_ r) (Ref.data r) (Ref.kids r) (Ref.count r) (Ref.number r))) (Zc (Z2 (Ref.a (Ref.mk (Ref.a r) (Ref.kind r) (Ref.segment r) (Ref.at_ r) (Ref.data r) (Ref.kids r) (Ref.count r) (Ref.number r)))) (unX (Ref.mk (Ref.a r) (Ref.kind r) (Ref.segment r) (Ref.at_ r) (Ref.data r) (Ref.kids r) (Ref.count r) (Ref.number r))) i).1)) (Ref.count (Y0 (Ref.a (Ref.mk (Ref.a r) (Ref.kind r) (Ref.segment r) (Ref.at_ r) (Ref.data r) (Ref.kids r) (Ref.count r) (Ref.number r))) (Zc (Z2 (Ref.a (Ref.mk (Ref.a r) (Ref.kind r) (Ref.segment r) (Ref.at_ r) (Ref.data r) (Ref.kids r) (Ref.count r) (Ref.number r)))) (unX (Ref.mk (Ref.a r) (Ref.kind r) (Ref.segment r) (Ref.at_ r) (Ref.data r) (Ref.kids r) (Ref.count r) (Ref.number r))) i).1)) (Ref.number (Y0 (Ref.a (Ref.mk (Ref.a r) (Ref.kind r) (Ref.segment r) (Ref.at_ r) (Ref.data r) (Ref.kids r) (Ref.count r) (Ref.number r))) (Zc (Z2 (Ref.a (Ref.mk (Ref.a r) (Ref.kind r) (Ref.segment r) (Ref.at_ r) (Ref.data r) (Ref.kids r) (Ref.count r) (Ref.number r)))) (unX (Ref.mk (Ref.a r) (Ref.kind r) (Ref.segment r) (Ref.at_ r) (Ref.data r) (Ref.kids r) (Ref.count r) (Ref.number r))) i).1)))))),pI 31 x31] [(.loc 9,(enc .ref (Y0 (Ref.a (Ref.mk (Ref.a r) (Ref.kind r) (Ref.segment r) (Ref.at_ r) (Ref.data r) (Ref.kids r) (Ref.count r) (Ref.number r))) (Zc (Z2 (Ref.a (Ref.mk (Ref.a r) (Ref.kind r) (Ref.segment r) (Ref.at_ r) (Ref.data r) (Ref.kids r) (Ref.count r) (Ref.number r)))) (unX (Ref.mk (Ref.a r) (Ref.kind r) (Ref.segment r) (Ref.at_ r) (Ref.data r) (Ref.kids r) (Ref.count r) (Ref.number r))) i).1))),(.x 0,[ci mx0_0,ci t])])
abbrev Zr1(N:Nat)(p:List Nat):=AW (Z1 (Z5i N)) Try.f108 Zea p
abbrev ZrW(N:Nat)(p:List Nat):=SW (Z1 (Z5i N)) Try.f108 Zea p
theorem Zrm(N:Nat)(u t:Int)(r:Ref)(i d:Int)(Q:QT)(h:∀ y_1,y_1=r->∀ y_2,y_2=(Y0 (Ref.a y_1) (Zc (Z2 (Ref.a y_1)) (unX y_1) i).1)->let z1:=Zl (Z2 (Ref.a y_2)) d.toNat (unX y_2) (t - u);let z0:=Zc (Z2 (Ref.a y_1)) (unX y_1) i;((Zhv (y_1,i,()))/\(((((z0.2):Int) !=0)=true->(Q .ret (L2 [(8,.c (ci (z0.2)))] [(.x 0,[ci u,ci t])])))/\((((z0.2):Int) !=0)=false->(Z41 (y_1,()))/\(((((Ref.kind y_1):Int) !=9)=true->(Z7G ((u,t,()),y_2,d,()))/\(ZhR ((u,t,()),y_2,d,()) < N)/\(Q .ret (L2 [(8,.c (ci (z1.2.2)))] [(.x 0,[ci (t - z1.2.1),ci t])])))/\((((Ref.kind y_1):Int) !=9)=false->(Z41 (y_2,()))/\(Zk (Zr1 N [1,1,1,1,0,1,0,0]) (Z0U u t r i d 0 u) (xB 0 (ZrW N [1,1,1,1,1] Q))))))))):
  Zr1 N [] (L2 [(0,.ptr (.x 0) 0),(1,.agg (enc .ref r)),pI 2 i,pI 3 d] [(.x 0,[ci u,ci t])]) Q:=
 Eq.mpr (by kernel_rfl) (h _ (Yp _) _ (Yp _))
theorem ZaM(N:Nat)(u t:Int)(r:Ref)(i d x31 mx0_0:Int)(N0:NT)(Q:QT)(h:∀ y_1,y_1=r->∀ y_2,y_2=(Y0 (Ref.a y_1) (Zc (Z2 (Ref.a y_1)) (unX y_1) i).1)->∀ y_3,y_3=(Z1p (Z2 (Ref.a y_2)) d.toNat (unX y_2) x31 (t - mx0_0))->(((decide (x31 < (Zw y_2)))=true->((Z3l ((mx0_0,t,()),y_2,x31,d,()))/\(Z9b ((mx0_0,t,()),y_2,x31,d,()) < N)/\(((((y_3.2):Int) !=0)=true->(Q .ret (L2 [pI 8 (y_3.2)] [(.x 0,[ci (t - y_3.1),ci t])])))/\((((y_3.2):Int) !=0)=false->(InR (x31+1))/\(N0 (Z0U u t r i d (x31+1) (t - y_3.1)))))))/\((decide (x31 < (Zw y_2)))=false->(Q .ret (L2 [pI 8 0] [(.x 0,[ci mx0_0,ci t])]))))):
  Zr1 N [1,1,1,1,0,1,0,0] (Z0U u t r i d x31 mx0_0) (xT N0 (xB 0 (ZrW N [1,1,1,1,1] Q))):=
 Eq.mpr (by kernel_rfl) (h _ (Yp _) _ (Yp _) _ rfl)
def Zms(N:Nat)(u t:Int)(r:Ref)(i d:Int):Prop:=AW (Z1 (Z5i N)) Try.f108 Zea [] (Zb (Z2N.can ((u,t,()),r,i,d,())) (Z2N.canX ((u,t,()),r,i,d,()))) (EQ Try.f108 (Z3j ((u,t,()),r,i,d,())) (Z1f ((u,t,()),r,i,d,())))
abbrev Znn:Prop:=∀ (N:Nat) (u:Int) (t:Int) (r:Ref) (i:Int) (d:Int) (_:Unit),Z3l ((u,t,()),r,i,d,())->Z9b ((u,t,()),r,i,d,()) < N+1->Zms N u t r i d
def ZiQ:List (FuncId × Fs U):=[(45,Z78),(21,Z1P),(77,Z4R)]
def Zpa:Z6 U:=lvl [([0,3],[3]),([0,3],[3]),([3,6,7],[3,6]),([3,6,7,18],[3,6]),([4,5],[]),([3,6,8],[3,6,23]),([8,9],[23]),([8,9,30],[23]),([4,5],[]),([4,5],[])]
abbrev A40(p:List Nat):=AW (Z1 ZiQ) Try.f40 Zpa p
theorem ZsY(a:Option Arena)(x:Limits)(Q:QT)(h:∀ y_1,y_1=x->∀ y_2,y_2=(Y0 a (Zp (Z2 a) 0 0).1)->∀ y_3,y_3=(Zl (Z2 (Ref.a y_2)) (Int.toNat (Limits.depth (Yf y_1))) (unX y_2) ((Limits.weight (Yf y_1)) - 0))->let z0:=(((Zp (Z2 a) 0 0).2):Int) !=0;((Zhs (y_1,()))/\((Zae (a,()))/\((z0=true->(Q .ret (L2 [pI 4 0,pI 5 ((Zp (Z2 a) 0 0).2)] [])))/\(z0=false->((Z7G ((0,(Limits.weight (Yf y_1)),()),y_2,(Limits.depth (Yf y_1)),()))/\(((((y_3.2.2):Int) !=0)=true->(Q .ret (L2 [pI 4 0,pI 5 (y_3.2.2)] [])))/\((((y_3.2.2):Int) !=0)=false->(Q .ret (L2 [pI 4 ((Limits.weight (Yf y_1)) - y_3.2.1),pI 5 0] [])))))))))):
  A40 [] (L2 [(0,.c (.po (U:=U) .arena a)),(1,.agg (enc .limits x))] []) Q:=
 Eq.mpr (by kernel_rfl) (h _ (J9 _) _ (Yp _) _ rfl)
def ZqH(a:Option Arena)(x:Limits):Prop:=AW (Z1 ZiQ) Try.f40 Zpa [] (Zb (ZjQ.can (a,x,())) []) (EQ Try.f40 (Zb6 (a,x,())) [])
theorem Zoo(c45:CT 45 Z78)(c21:CT 21 Z1P)(c77:CT 77 Z4R)(hb:∀ (a:Option Arena) (x:Limits) (_:Unit),ZdR (a,x,())->ZqH a x):CT 40 Z7b:=
 Z0 (l:=[(45,Z78),(21,Z1P),(77,Z4R)]) Z9 rfl (⟨c45,c21,c77,trivial⟩) Zpa Try.func40 rfl rfl 2 (fun _=> rfl) (by decide) (fun ⟨a,x,_⟩=> hb a x ())
theorem Zla(ZpE:CT 106 Z3N)(ZpF:CT 105 Z3O)(Zay:CT 107 Jn)(c22:CT 22 Z0a)(c23:CT 23 Jm)(c24:CT 24 Z1O)(b77:Zs4)(ZpM:Znn):
  CT 77 Z4R/\CT 108 Zde:=by
 have h77 : ∃ fn, Try.prog.funcs[(77 : FuncId)]? = some fn ∧ fn.body.isSome = true ∧ (fn.name == "runtime.NumGoroutine") = false := ⟨Try.f77, Try.func77, rfl, rfl⟩
 have h108 : ∃ fn, Try.prog.funcs[(108 : FuncId)]? = some fn ∧ fn.body.isSome = true ∧ (fn.name == "runtime.NumGoroutine") = false := ⟨Try.f108, Try.func108, rfl, rfl⟩
 have key:∀ N,CT 77 (fsX Z5v (fun a=> [Z7G a,ZhR a < N]) Z5D Z1X)/\CT 108 (fsX Z2N (fun a=> [Z3l a,Z9b a < N]) Z3j Z1f):=by
  intro N
  induction N with
  | zero=> exact ⟨ZbI h77,ZbI h108⟩
  | succ N ih=>
   have kn:=Jr (l:=Z5i N) ⟨ih.1,ih.2,ZpE,ZpF,Zay,c22,c23,c24,trivial⟩
   exact ⟨Z1u (Γ:=Z1 (Z5i N)) Z9 rfl kn ZlH Try.func77 rfl rfl (fun a=> by show 3<=_;decide) (fun ⟨⟨u,t,_⟩,r,d,_⟩ h=> b77 N u t r d () h.1 h.2.1),
    Z1u (Γ:=Z1 (Z5i N)) Z9 rfl kn Zea Try.func108 rfl rfl (fun a=> by show 4<=_;decide) (fun ⟨⟨u,t,_⟩,r,i,d,_⟩ h=> ZpM N u t r i d () h.1 h.2.1)⟩
 exact ⟨ZbJ h77 fun N=> (key N).1,ZbJ h108 fun N=> (key N).2⟩
end
noncomputable section
def ZaB:ArgL (List (List Int) × XRef × Int × Int × Unit):=(.cons (aSl .words) (.cons (aEl .xref) (.cons (Zr .i64) (.cons (Zr .i64) .nil))))
def Z7F(a:List (List Int) × XRef × Int × Int × Unit):Prop:=ZX a.1/\OkX a.1 a.2.1/\a.2.2.1<=64/\0<=a.2.2.2.1/\a.2.2.2.1<=65536
def ZfG(a:List (List Int) × XRef × Int × Int × Unit):Nat:=2*Int.toNat a.2.2.1+1
def Z2Z(a:List (List Int) × XRef × Int × Int × Unit):V U:= .tup [(true,(enc .tree ((Zl a.1 (Int.toNat a.2.2.1) a.2.1 a.2.2.2.1).1))),(false,[ci ((Zl a.1 (Int.toNat a.2.2.1) a.2.1 a.2.2.2.1).2.1)]),(false,[ci ((Zl a.1 (Int.toNat a.2.2.1) a.2.1 a.2.2.2.1).2.2)])]
def Z4Q:Fs U:=fs ZaB (fun a=> [Z7F a]) Z2Z
def Z7N(a:List (List Int) × XRef × Int × Int × Unit):Prop:=ZX a.1/\OkX a.1 a.2.1/\a.2.2.1<=64/\0<=a.2.2.2.1/\a.2.2.2.1<=65536/\0<=a.2.2.1/\XRef.kind a.2.1=1
def Zbx(a:List (List Int) × XRef × Int × Int × Unit):Nat:=2*Int.toNat a.2.2.1+2
def Z50(a:List (List Int) × XRef × Int × Int × Unit):V U:= .tup [(true,(enc .tree ((YG a.1 (Zl a.1 (Int.toNat a.2.2.1)) a.2.1 a.2.2.2.1).1))),(false,[ci ((YG a.1 (Zl a.1 (Int.toNat a.2.2.1)) a.2.1 a.2.2.2.1).2.1)]),(false,[ci ((YG a.1 (Zl a.1 (Int.toNat a.2.2.1)) a.2.1 a.2.2.2.1).2.2)])]
def Zdd:Fs U:=fs ZaB (fun a=> [Z7N a]) Z50
def ZjP:ArgL (List (List Int) × Limits × Unit):=(.cons (aSl .words) (.cons (aEl .limits) .nil))
def ZdQ(a:List (List Int) × Limits × Unit):Prop:=ZX a.1
def Zdx(a:List (List Int) × Limits × Unit):V U:= .tup [(true,(enc .tree ((ZV a.1 a.2.1).1))),(false,[ci ((ZV a.1 a.2.1).2.1)]),(false,[ci ((ZV a.1 a.2.1).2.2)])]
def Z7a:Fs U:=fs ZjP (fun a=> [ZdQ a]) Zdx
def ZcB(N:Nat):List (FuncId × Fs U):=(78,fs ZaB (fun a=> [Z7F a,ZfG a < N]) Z2Z) ::(109,fs ZaB (fun a=> [Z7N a,Zbx a < N]) Z50) ::[(67,Z4T),(29,Z18),(30,Z4U)]
def ZlG:Z6 U:=fun i=> match i with
 | 0=> ([(0,[]),(2,[]),(3,[]),(5,[]),(8,[])],[(.loc 5,[]),(.loc 8,[])])
 | 1=> ([(0,[]),(2,[]),(3,[]),(5,[]),(8,[]),(11,[])],[(.loc 5,[]),(.loc 8,[]),(.loc 11,[])])
 | 2=> ([(0,[]),(2,[]),(3,[]),(5,[]),(8,[]),(11,[]),(25,[])],[(.loc 5,[]),(.loc 8,[]),(.loc 11,[])])
 | 3=> ([(8,[]),(9,[]),(10,[])],[(.loc 8,[])])
 | 4=> ([(0,[]),(2,[]),(3,[]),(5,[]),(8,[]),(11,[]),(43,[])],[(.loc 5,[]),(.loc 8,[]),(.loc 11,[])])
 | 5=> ([(8,[]),(9,[]),(10,[])],[(.loc 8,[])])
 | 6=> ([(0,[]),(2,[]),(3,[]),(5,[]),(8,[]),(11,[]),(12,[])],[(.loc 5,[]),(.loc 8,[]),(.loc 11,[])])
 | 7=> ([(0,[]),(2,[]),(3,[]),(5,[]),(8,[]),(11,[]),(12,[]),(51,[])],[(.loc 5,[]),(.loc 8,[]),(.loc 11,[])])
 | 8=> ([(0,[]),(2,[]),(3,[]),(5,[]),(8,[]),(11,[]),(12,[]),(51,[])],[(.loc 5,[]),(.loc 8,[]),(.loc 11,[])])
 | 9=> ([(0,[]),(2,[]),(3,[]),(5,[]),(8,[]),(11,[]),(12,[]),(60,[])],[(.loc 5,[]),(.loc 8,[]),(.loc 11,[])])
 | 10=> ([(0,[]),(2,[]),(3,[]),(5,[]),(8,[]),(11,[]),(12,[]),(60,[])],[(.loc 5,[]),(.loc 8,[]),(.loc 11,[])])
 | 11=> ([(0,[]),(2,[]),(3,[]),(5,[]),(8,[]),(11,[]),(12,[]),(73,[])],[(.loc 5,[]),(.loc 8,[]),(.loc 11,[])])
 | 12=> ([(8,[]),(9,[]),(10,[])],[(.loc 8,[])])
 | 13=> ([(0,[]),(2,[]),(3,[]),(5,[]),(8,[]),(11,[])],[(.loc 5,[]),(.loc 8,[]),(.loc 11,[])])
 | 14=> ([(0,[]),(2,[]),(3,[]),(5,[]),(8,[]),(11,[]),(13,[])],[(.loc 5,[]),(.loc 8,[]),(.loc 11,[.any,.any,.own .tree])])
 | 15=> ([(0,[]),(2,[]),(3,[]),(5,[]),(8,[]),(11,[]),(13,[]),(82,[])],[(.loc 5,[]),(.loc 8,[]),(.loc 11,[])])
 | 16=> ([(0,[]),(2,[]),(3,[]),(5,[]),(8,[]),(11,[]),(13,[])],[(.loc 5,[]),(.loc 8,[]),(.loc 11,[.any,.any,.own .tree])])
 | 17=> ([(0,[]),(2,[]),(3,[]),(5,[]),(8,[]),(11,[]),(13,[]),(14,[]),(15,[])],[(.loc 5,[]),(.loc 8,[]),(.loc 11,[]),(.loc 14,[])])
 | 18=> ([(0,[]),(2,[]),(3,[]),(5,[]),(8,[]),(11,[]),(13,[]),(14,[]),(15,[]),(93,[])],[(.loc 5,[]),(.loc 8,[]),(.loc 11,[]),(.loc 14,[])])
 | 19=> ([(8,[]),(9,[]),(10,[])],[(.loc 8,[])])
 | 20=> ([(0,[]),(2,[]),(3,[]),(5,[]),(8,[]),(11,[]),(13,[]),(14,[]),(15,[]),(16,[])],[(.loc 5,[]),(.loc 8,[]),(.loc 11,[]),(.loc 14,[]),(.loc 16,[])])
 | 21=> ([(0,[]),(2,[]),(3,[]),(5,[]),(8,[]),(11,[]),(13,[]),(14,[]),(15,[]),(16,[]),(103,[])],[(.loc 5,[]),(.loc 8,[]),(.loc 11,[]),(.loc 14,[]),(.loc 16,[])])
 | 22=> ([(0,[]),(2,[]),(3,[]),(5,[]),(8,[]),(11,[]),(13,[]),(14,[]),(15,[]),(16,[]),(117,[])],[(.loc 5,[]),(.loc 8,[]),(.loc 11,[]),(.loc 14,[]),(.loc 16,[.any,.any,.unk .tree])])
 | 23=> ([(0,[]),(2,[]),(3,[]),(5,[]),(8,[]),(11,[]),(13,[]),(14,[]),(15,[]),(16,[]),(117,[])],[(.loc 5,[]),(.loc 8,[]),(.loc 11,[]),(.loc 14,[]),(.loc 16,[.any,.any,.unk .tree])])
 | 24=> ([(0,[]),(2,[]),(3,[]),(5,[]),(8,[]),(11,[]),(13,[]),(14,[]),(15,[]),(16,[]),(117,[])],[(.loc 5,[]),(.loc 8,[]),(.loc 11,[]),(.loc 14,[]),(.loc 16,[])])
 | 25=> ([(0,[]),(2,[]),(3,[]),(5,[]),(8,[]),(11,[]),(13,[]),(15,[]),(16,[]),(137,[])],[(.loc 5,[]),(.loc 8,[]),(.loc 11,[]),(.loc 16,[])])
 | 26=> ([(8,[]),(9,[]),(10,[])],[(.loc 8,[])])
 | 27=> ([(0,[]),(2,[]),(3,[]),(5,[]),(8,[]),(11,[]),(13,[])],[(.loc 5,[]),(.loc 8,[]),(.loc 11,[])])
 | 28=> ([(8,[]),(9,[]),(10,[])],[(.loc 8,[])])
 | _=> ([],[])
def Z4k(l:List (List Int))(x:XRef)(d left x12:Int):LSt U:=(L2 [(0,.c (sU .words l .unk)),pI 2 d,pI 3 left,pL 5,pL 8,pL 11,pI 12 x12,pB 51 (((XRef.kind x):Int)==1)] [(.loc 5,(enc .xref x)),(.loc 8,[ci 0,.nils,.nils]),(.loc 11,[ci (XRef.kind x),sU .u64 (Zg l (XRef.mk (XRef.kind x) (XRef.s x) (XRef.at_ x) (XRef.data x) (XRef.ptrs x) (XRef.count x) (XRef.n x))) .unk,.nils])])
def Z4j(l:List (List Int))(x:XRef)(d left x12_a:Int):LSt U:=(L2 [(0,.c (sU .words l .unk)),pI 2 d,pI 3 left,pL 5,pL 8,pL 11,pI 12 x12_a,pB 60 (((XRef.kind x):Int)==9)] [(.loc 5,(enc .xref x)),(.loc 8,[ci 0,.nils,.nils]),(.loc 11,[ci (XRef.kind x),sU .u64 (Zg l (XRef.mk (XRef.kind x) (XRef.s x) (XRef.at_ x) (XRef.data x) (XRef.ptrs x) (XRef.count x) (XRef.n x))) .unk,.nils])])
def Z2k(l:List (List Int))(x:XRef)(d left x3_b x13_b:Int)(ml11_2_b:List Tree):LSt U:=(L2 [(0,.c (sU .words l .unk)),pI 2 d,pI 3 x3_b,pL 5,pL 8,pL 11,pI 13 x13_b] [(.loc 5,(enc .xref x)),(.loc 8,[ci 0,.nils,.nils]),(.loc 11,[ci (XRef.kind x),sU .u64 (Zg l (XRef.mk (XRef.kind x) (XRef.s x) (XRef.at_ x) (XRef.data x) (XRef.ptrs x) (XRef.count x) (XRef.n x))) .unk,sU .tree ml11_2_b (.own (.l 11 2))])])
def Z2j(l:List (List Int))(x:XRef)(d left x13_b:Int)(ml11_2_b:List Tree)(x3_c x15_c ml16_0_c:Int)(ml16_1_c:List Int)(ml16_2_c:List Tree)(v117_c:V U):LSt U:=(L2 [(0,.c (sU .words l .unk)),pI 2 d,pI 3 x3_c,pL 5,pL 8,pL 11,pI 13 x13_b,pL 14,pI 15 x15_c,pL 16,(117,v117_c)] [(.loc 5,(enc .xref x)),(.loc 8,[ci 0,.nils,.nils]),(.loc 11,[ci (XRef.kind x),sU .u64 (Zg l (XRef.mk (XRef.kind x) (XRef.s x) (XRef.at_ x) (XRef.data x) (XRef.ptrs x) (XRef.count x) (XRef.n x))) .unk,sU .tree ml11_2_b (.own (.l 11 2))]),(.loc 14,(enc .xref ((Zc l (XRef.mk (XRef.kind x) (XRef.s x) (XRef.at_ x) (XRef.data x) (XRef.ptrs x) (XRef.count x) (XRef.n x)) x13_b).1))),(.loc 16,[ci ml16_0_c,sU .u64 ml16_1_c .unk,sU .tree ml16_2_c .unk])])
def ZbG(l:List (List Int))(x:XRef)(d left x13_b:Int)(ml11_2_b:List Tree)(x3_c ml16_0_c:Int)(ml16_1_c:List Int)(ml16_2_c:List Tree):LSt U:=(L2 [(0,.c (sU .words l .unk)),pI 2 d,pI 3 x3_c,pL 5,pL 8,pL 11,pI 13 x13_b] [(.loc 5,(enc .xref x)),(.loc 8,[ci 0,.nils,.nils]),(.loc 11,[ci (XRef.kind x),sU .u64 (Zg l (XRef.mk (XRef.kind x) (XRef.s x) (XRef.at_ x) (XRef.data x) (XRef.ptrs x) (XRef.count x) (XRef.n x))) .unk,sU .tree (ml11_2_b++([(Tree.mk ml16_0_c ml16_1_c ml16_2_c)])) (.own (.l 11 2))])])
abbrev A78(N:Nat)(p:List Nat):=AW (Z1 (ZcB N)) Try.f78 ZlG p
abbrev S78(N:Nat)(p:List Nat):=SW (Z1 (ZcB N)) Try.f78 ZlG p
theorem Zss(N:Nat)(l:List (List Int))(x:XRef)(d left:Int)(Q:QT)(h:∀ y_1,y_1=x->let z2:=((XRef.kind x):Int)==9;let z1:= !(decide (d < 1));let z0:=bif z2 then (decide ((0:Int) < (XRef.count x))) else false;let z3:=bif (decide (d < 1)) then true else (bif z0 then (decide (d < 2)) else false);((Zbj (y_1,l,()))/\(((((XRef.kind x):Int)==0)=true->(Q .ret (L2 [pL 8,pI 9 left,pI 10 0] [(.loc 8,[ci (XRef.kind x),sU .u64 (Zg l y_1) .unk,.nils])])))/\((((XRef.kind x):Int)==0)=false->(Tr (z1=true))/\(Tr (z1=true))/\(Tr (z1=true))/\(Tr ((z1 && z2)=true))/\(Tr ((z1 && z2)=true))/\(z1=true->(True->z1=true))/\(z1=true->(z2=true->(z1 && z2)=true))/\(Tr (z1=true))/\(Tr ((z1 && z0)=true))/\(z1=true->(True->z1=true))/\(z1=true->(z0=true->(z1 && z0)=true))/\((decide (d < 1))=false->z1=true)/\((z3=true->(Q .ret (L2 [pL 8,pI 9 left,pI 10 3] [(.loc 8,[ci (XRef.kind x),sU .u64 (Zg l y_1) .unk,.nils])])))/\(z3=false->(Zbn (y_1,()))/\(InR ((1:Int)+(Zf y_1)))/\(((((XRef.kind x):Int)==1)=true->(InR ((1:Int)+(XRef.data x)))/\(InR ((((1:Int)+(XRef.data x)):Int)+(XRef.ptrs x)))/\(A78 N [1,1,1,1,1,1] (Z4k l x d left ((((1:Int)+(XRef.data x)):Int)+(XRef.ptrs x))) Q))/\((((XRef.kind x):Int)==1)=false->A78 N [1,1,1,1,1,1] (Z4k l x d left ((1:Int)+(Zf y_1))) Q)))))))):
  A78 N [] (L2 [(0,.c (sU .words l .unk)),(1,.agg (enc .xref x)),pI 2 d,pI 3 left] []) Q:=
 Eq.mpr (by kernel_rfl) (h _ (JA _))
theorem Zkv(N:Nat)(l:List (List Int))(x:XRef)(d left x12:Int)(Q:QT)(h:(((((XRef.kind x):Int)==9)=true->(InR ((1:Int)+(XRef.data x)))/\(InR ((((1:Int)+(XRef.data x)):Int)+(XRef.ptrs x)))/\(InR (((XRef.count x):Int)*((((1:Int)+(XRef.data x)):Int)+(XRef.ptrs x))))/\(InR ((1:Int)+(((XRef.count x):Int)*((((1:Int)+(XRef.data x)):Int)+(XRef.ptrs x)))))/\(A78 N [1,1,1,1,1,1,1] (Z4j l x d left ((1:Int)+(((XRef.count x):Int)*((((1:Int)+(XRef.data x)):Int)+(XRef.ptrs x))))) Q))/\((((XRef.kind x):Int)==9)=false->A78 N [1,1,1,1,1,1,1] (Z4j l x d left x12) Q))):
  A78 N [1,1,1,1,1,1] (Z4k l x d left x12) Q:=
 Eq.mpr (by kernel_rfl) h
theorem Zku(N:Nat)(l:List (List Int))(x:XRef)(d left x12_a:Int)(Q:QT)(h:(((decide (left < x12_a))=true->(Q .ret (L2 [pL 8,pI 9 left,pI 10 3] [(.loc 8,[ci (XRef.kind x),sU .u64 (Zg l (XRef.mk (XRef.kind x) (XRef.s x) (XRef.at_ x) (XRef.data x) (XRef.ptrs x) (XRef.count x) (XRef.n x))) .unk,.nils])])))/\((decide (left < x12_a))=false->(InR (left - x12_a))/\(Zk (A78 N [1,1,1,1,1,1,1,1,1,0,1,0,0]) (Z2k l x d left (left - x12_a) 0 []) (xB 0 (S78 N [1,1,1,1,1,1,1,1,1,1] Q)))))):
  A78 N [1,1,1,1,1,1,1] (Z4j l x d left x12_a) Q:=
 Eq.mpr (by kernel_rfl) h
theorem Zkr(N:Nat)(l:List (List Int))(x:XRef)(d left x3_b x13_b:Int)(ml11_2_b:List Tree)(N2:NT)(Q:QT)(h:∀ y_1,y_1=x->∀ y_2,y_2=((Zc l y_1 x13_b).1)->let z6:=decide (x13_b < (Zf y_1));let z5:=Zc l y_1 x13_b;let z4:=((XRef.kind x):Int)==1;let z3:=Zl l (Int.toNat (d - 1)) y_2 x3_b;let z2:=YG l (Zl l (Int.toNat (d - 2))) y_2 x3_b;let z1:=bif z4 then true else (((XRef.kind x):Int)==8);let z0:=xB 1 (S78 N [1,1,1,1,1,1,1,1,1,0,1,0,0,1,1] (xT N2 (xB 0 (S78 N [1,1,1,1,1,1,1,1,1,1] Q))));(Zbn (y_1,()))/\((z6=true->(ZdT (y_1,l,x13_b,()))/\(((((z5.2):Int) !=0)=true->(Q .ret (L2 [pL 8,pI 9 x3_b,pI 10 (z5.2)] [(.loc 8,[ci (XRef.kind x),sU .u64 (Zg l y_1) .unk,sU .tree ml11_2_b (.own (.l 8 2))])])))/\((((z5.2):Int) !=0)=false->(Zbj (y_2,l,()))/\(((((XRef.kind x):Int)==9)=true->(InR (d - 2))/\(Z7N (l,y_2,(d - 2),x3_b,()))/\(Zbx (l,y_2,(d - 2),x3_b,()) < N)/\(A78 N [1,1,1,1,1,1,1,1,1,0,1,0,0,1,0,0,1,1,1,1] (Z2j l x d left x13_b ml11_2_b (z2.2.1) (z2.2.2) (Tree.kind (z2.1)) (Tree.words (z2.1)) (Tree.kids (z2.1)) .junk) z0))/\((((XRef.kind x):Int)==9)=false->(Tr ((!z4)=true))/\(Tr ((!z4)=true))/\(z4=false->(!z4)=true)/\((z1=true->(InR (d - 1))/\(Z7F (l,y_2,(d - 1),x3_b,()))/\(ZfG (l,y_2,(d - 1),x3_b,()) < N)/\(A78 N [1,1,1,1,1,1,1,1,1,0,1,0,0,1,0,0,1,1,1,1] (Z2j l x d left x13_b ml11_2_b (z3.2.1) (z3.2.2) (Tree.kind (z3.1)) (Tree.words (z3.1)) (Tree.kids (z3.1)) (.c (.bool z1))) z0))/\(z1=false->A78 N [1,1,1,1,1,1,1,1,1,0,1,0,0,1,0,0,1,1,1,1] (Z2j l x d left x13_b ml11_2_b x3_b (z5.2) (XRef.kind (z5.1)) (Zg l y_2) [] (.c (.bool z1))) z0)))))))/\(z6=false->(Q .ret (L2 [pL 8,pI 9 x3_b,pI 10 0] [(.loc 8,[ci (XRef.kind x),sU .u64 (Zg l y_1) .unk,sU .tree ml11_2_b (.own (.l 8 2))])]))))):
  A78 N [1,1,1,1,1,1,1,1,1,0,1,0,0] (Z2k l x d left x3_b x13_b ml11_2_b) (xT N2 (xB 0 (S78 N [1,1,1,1,1,1,1,1,1,1] Q))):=
 Eq.mpr (by kernel_rfl) (h _ (JA _) _ (JA _))
theorem Zkt(N:Nat)(l:List (List Int))(x:XRef)(d left x13_b:Int)(ml11_2_b:List Tree)(x3_c x15_c ml16_0_c:Int)(ml16_1_c:List Int)(ml16_2_c:List Tree)(v117_c:V U)(N2:NT)(Q:QT)(h:(((x15_c !=0)=true->(Q .ret (L2 [pL 8,pI 9 x3_c,pI 10 x15_c] [(.loc 8,[ci (XRef.kind x),sU .u64 (Zg l (XRef.mk (XRef.kind x) (XRef.s x) (XRef.at_ x) (XRef.data x) (XRef.ptrs x) (XRef.count x) (XRef.n x))) .unk,sU .tree ml11_2_b (.own (.l 8 2))])])))/\((x15_c !=0)=false->((ml11_2_b.length+([(Tree.mk ml16_0_c ml16_1_c ml16_2_c)]).length)*56<=140737488355328)/\(A78 N [1,1,1,1,1,1,1,1,1,0,1,0,0,1,1] (ZbG l x d left x13_b ml11_2_b x3_c ml16_0_c ml16_1_c ml16_2_c) (xT N2 (xB 0 (S78 N [1,1,1,1,1,1,1,1,1,1] Q))))))):
  A78 N [1,1,1,1,1,1,1,1,1,0,1,0,0,1,0,0,1,1,1,1] (Z2j l x d left x13_b ml11_2_b x3_c x15_c ml16_0_c ml16_1_c ml16_2_c v117_c) (xB 1 (S78 N [1,1,1,1,1,1,1,1,1,0,1,0,0,1,1] (xT N2 (xB 0 (S78 N [1,1,1,1,1,1,1,1,1,1] Q))))):=
 Eq.mpr (by kernel_rfl) h
theorem Zks(N:Nat)(l:List (List Int))(x:XRef)(d left x13_b:Int)(ml11_2_b:List Tree)(x3_c ml16_0_c:Int)(ml16_1_c:List Int)(ml16_2_c:List Tree)(N2:NT)(Q:QT)(h:(InR (x13_b+1))/\(N2 (Z2k l x d left x3_c (x13_b+1) (ml11_2_b++([(Tree.mk ml16_0_c ml16_1_c ml16_2_c)]))))):
  A78 N [1,1,1,1,1,1,1,1,1,0,1,0,0,1,1] (ZbG l x d left x13_b ml11_2_b x3_c ml16_0_c ml16_1_c ml16_2_c) (xT N2 (xB 0 (S78 N [1,1,1,1,1,1,1,1,1,1] Q))):=
 Eq.mpr (by kernel_rfl) h
def Zqb(N:Nat)(l:List (List Int))(x:XRef)(d left:Int):Prop:=AW (Z1 (ZcB N)) Try.f78 ZlG [] (Zb (ZaB.can (l,x,d,left,())) []) (EQ Try.f78 (Z2Z (l,x,d,left,())) [])
abbrev Zs3:Prop:=∀ (N:Nat) (l:List (List Int)) (x:XRef) (d:Int) (left:Int) (_:Unit),Z7F (l,x,d,left,())->ZfG (l,x,d,left,()) < N+1->Zqb N l x d left
def Ze9:Z6 U:=fun i=> match i with
 | 0=> ([(0,[]),(2,[]),(3,[]),(5,[]),(8,[])],[(.loc 5,[]),(.loc 8,[])])
 | 1=> ([(0,[]),(2,[]),(3,[]),(5,[]),(8,[]),(11,[])],[(.loc 5,[]),(.loc 8,[]),(.loc 11,[])])
 | 2=> ([(0,[]),(2,[]),(3,[]),(5,[]),(8,[]),(11,[]),(12,[])],[(.loc 5,[]),(.loc 8,[]),(.loc 11,[.any,.any,.own .tree])])
 | 3=> ([(0,[]),(2,[]),(3,[]),(5,[]),(8,[]),(11,[]),(12,[]),(25,[])],[(.loc 5,[]),(.loc 8,[]),(.loc 11,[])])
 | 4=> ([(0,[]),(2,[]),(3,[]),(5,[]),(8,[]),(11,[]),(12,[])],[(.loc 5,[]),(.loc 8,[]),(.loc 11,[.any,.any,.own .tree])])
 | 5=> ([(0,[]),(2,[]),(3,[]),(5,[]),(8,[]),(11,[]),(12,[]),(13,[]),(14,[])],[(.loc 5,[]),(.loc 8,[]),(.loc 11,[]),(.loc 13,[])])
 | 6=> ([(0,[]),(2,[]),(3,[]),(5,[]),(8,[]),(11,[]),(12,[]),(13,[]),(14,[]),(36,[])],[(.loc 5,[]),(.loc 8,[]),(.loc 11,[]),(.loc 13,[])])
 | 7=> ([(8,[]),(9,[]),(10,[])],[(.loc 8,[])])
 | 8=> ([(0,[]),(2,[]),(5,[]),(8,[]),(11,[]),(12,[]),(15,[]),(16,[]),(17,[])],[(.loc 5,[]),(.loc 8,[]),(.loc 11,[]),(.loc 15,[])])
 | 9=> ([(0,[]),(2,[]),(5,[]),(8,[]),(11,[]),(12,[]),(15,[]),(16,[]),(17,[]),(50,[])],[(.loc 5,[]),(.loc 8,[]),(.loc 11,[]),(.loc 15,[])])
 | 10=> ([(8,[]),(9,[]),(10,[])],[(.loc 8,[])])
 | 11=> ([(0,[]),(2,[]),(3,[]),(5,[]),(8,[]),(11,[]),(12,[]),(15,[])],[(.loc 5,[]),(.loc 8,[]),(.loc 11,[]),(.loc 15,[])])
 | 12=> ([(0,[]),(2,[]),(3,[]),(5,[]),(8,[]),(11,[]),(12,[])],[(.loc 5,[]),(.loc 8,[]),(.loc 11,[])])
 | 13=> ([(8,[]),(9,[]),(10,[])],[(.loc 8,[])])
 | _=> ([],[])
def Z2J(l:List (List Int))(x:XRef)(d left x3 x12:Int)(ml11_2:List Tree):LSt U:=(L2 [(0,.c (sU .words l .unk)),pI 2 d,pI 3 x3,pL 5,pL 8,pL 11,pI 12 x12] [(.loc 5,(enc .xref x)),(.loc 8,[ci 0,.nils,.nils]),(.loc 11,[ci 1,sU .u64 (Zg l (XRef.mk (XRef.kind x) (XRef.s x) (XRef.at_ x) (XRef.data x) (XRef.ptrs x) (XRef.count x) (XRef.n x))) .unk,sU .tree ml11_2 (.own (.l 11 2))])])
abbrev Zr0(N:Nat)(p:List Nat):=AW (Z1 (ZcB N)) Try.f109 Ze9 p
abbrev ZrV(N:Nat)(p:List Nat):=SW (Z1 (ZcB N)) Try.f109 Ze9 p
theorem Zrl(N:Nat)(l:List (List Int))(x:XRef)(d left:Int)(Q:QT)(h:((Zbj ((XRef.mk (XRef.kind x) (XRef.s x) (XRef.at_ x) (XRef.data x) (XRef.ptrs x) (XRef.count x) (XRef.n x)),l,()))/\(Zk (Zr0 N [1,1,0,1,0,0]) (Z2J l x d left left 0 []) (xB 0 (ZrV N [1,1,1] Q))))):
  Zr0 N [] (L2 [(0,.c (sU .words l .unk)),(1,.agg (enc .xref x)),pI 2 d,pI 3 left] []) Q:=
 Eq.mpr (by kernel_rfl) h
theorem Zgq(N:Nat)(l:List (List Int))(x:XRef)(d left x3 x12:Int)(ml11_2:List Tree)(N0:NT)(Q:QT)(h:∀ y_1,y_1=x->∀ y_2,y_2=((Zc l y_1 x12).1)->∀ y_3,y_3=((Zl l d.toNat y_2 x3).1)->let z2:=decide (x12 < (XRef.ptrs x));let z1:=(((Zc l y_1 x12).2):Int) !=0;let z0:=Zl l d.toNat y_2 x3;((z2=true->(ZdT (y_1,l,x12,()))/\((z1=true->(Q .ret (L2 [pL 8,pI 9 x3,pI 10 ((Zc l y_1 x12).2)] [(.loc 8,[ci 1,sU .u64 (Zg l y_1) .unk,sU .tree ml11_2 (.own (.l 8 2))])])))/\(z1=false->(Z7F (l,y_2,d,x3,()))/\(ZfG (l,y_2,d,x3,()) < N)/\(((((z0.2.2):Int) !=0)=true->(Q .ret (L2 [pL 8,pI 9 (z0.2.1),pI 10 (z0.2.2)] [(.loc 8,[ci 1,sU .u64 (Zg l y_1) .unk,sU .tree ml11_2 (.own (.l 8 2))])])))/\((((z0.2.2):Int) !=0)=false->(((ml11_2.length+([y_3]).length)*56<=140737488355328)/\((InR (x12+1))/\(N0 (Z2J l x d left (z0.2.1) (x12+1) (ml11_2++([y_3])))))))))))/\(z2=false->(Q .ret (L2 [pL 8,pI 9 x3,pI 10 0] [(.loc 8,[ci 1,sU .u64 (Zg l y_1) .unk,sU .tree ml11_2 (.own (.l 8 2))])]))))):
  Zr0 N [1,1,0,1,0,0] (Z2J l x d left x3 x12 ml11_2) (xT N0 (xB 0 (ZrV N [1,1,1] Q))):=
 Eq.mpr (by kernel_rfl) (h _ (JA _) _ (JA _) _ (Zu _))
def Zmr(N:Nat)(l:List (List Int))(x:XRef)(d left:Int):Prop:=AW (Z1 (ZcB N)) Try.f109 Ze9 [] (Zb (ZaB.can (l,x,d,left,())) []) (EQ Try.f109 (Z50 (l,x,d,left,())) [])
abbrev Znm:Prop:=∀ (N:Nat) (l:List (List Int)) (x:XRef) (d:Int) (left:Int) (_:Unit),Z7N (l,x,d,left,())->Zbx (l,x,d,left,()) < N+1->Zmr N l x d left
def ZiP:List (FuncId × Fs U):=[(47,Z78),(27,Z1M),(78,Z4Q)]
def Zp9:Z6 U:=lvl [([0,3,4],[3,4]),([0,3,4],[3,4]),([0,3,4,7,8],[3,4,7]),([0,3,4,7,8,20],[3,4,7]),([4,5,6],[4]),([3,4,9,10,11],[3,4,9]),([3,4,9,10,11,35],[3,4,9]),([4,5,6],[4]),([4,5,6],[4])]
abbrev A41(p:List Nat):=AW (Z1 ZiP) Try.f41 Zp9 p
theorem ZsX(l:List (List Int))(x:Limits)(Q:QT)(h:∀ y_1,y_1=x->∀ y_2,y_2=((Zp l 0 0).1)->∀ y_3,y_3=(Zl l (Int.toNat (Limits.depth (Yf y_1))) y_2 (Limits.weight (Yf y_1)))->let z1:=(((Zp l 0 0).2):Int) !=0;let z0:=Limits.weight (Yf y_1);((Zhs (y_1,()))/\((Z92 (l,0,0,()))/\((z1=true->(Q .ret (L2 [pL 4,pI 5 0,pI 6 ((Zp l 0 0).2)] [(.loc 4,[ci 0,.nils,.nils])])))/\(z1=false->(Z7F (l,y_2,(Limits.depth (Yf y_1)),z0,()))/\(((((y_3.2.2):Int) !=0)=true->(Q .ret (L2 [pL 4,pI 5 0,pI 6 (y_3.2.2)] [(.loc 4,[ci 0,.nils,.nils])])))/\((((y_3.2.2):Int) !=0)=false->(InR ((z0:Int) - (y_3.2.1)))/\(Q .ret (L2 [pL 4,(5,.c (ci ((z0:Int) - (y_3.2.1)))),pI 6 0] [(.loc 4,[ci (Tree.kind (y_3.1)),sU .u64 (Tree.words (y_3.1)) .unk,sU .tree (Tree.kids (y_3.1)) .unk])]))))))))):
  A41 [] (L2 [(0,.c (sU .words l .unk)),(1,.agg (enc .limits x))] []) Q:=
 Eq.mpr (by kernel_rfl) (h _ (J9 _) _ (JA _) _ rfl)
def ZqG(l:List (List Int))(x:Limits):Prop:=AW (Z1 ZiP) Try.f41 Zp9 [] (Zb (ZjP.can (l,x,())) []) (EQ Try.f41 (Zdx (l,x,())) [])
theorem Zon(c47:CT 47 Z78)(c27:CT 27 Z1M)(c78:CT 78 Z4Q)(hb:∀ (l:List (List Int)) (x:Limits) (_:Unit),ZdQ (l,x,())->ZqG l x):CT 41 Z7a:=
 Z0 (l:=[(47,Z78),(27,Z1M),(78,Z4Q)]) Z9 rfl (⟨c47,c27,c78,trivial⟩) Zp9 Try.func41 rfl rfl 2 (fun _=> rfl) (by decide) (fun ⟨l,x,_⟩=> hb l x ())
theorem Zcq(c67:CT 67 Z4T)(c29:CT 29 Z18)(c30:CT 30 Z4U)(ha:Zs3)(hb:Znm):CT 78 Z4Q/\CT 109 Zdd:=
 Z8B (μA:=ZfG) (μB:=Zbx) (l:=[(67,Z4T),(29,Z18),(30,Z4U)]) Z9 rfl (⟨c67,c29,c30,trivial⟩) ZlG Ze9 Try.func78 Try.func109 rfl rfl rfl rfl 4 4 (fun _=> rfl) (fun _=> rfl) (by decide) (by decide) (fun N ⟨l,x,d,left,_⟩=> ha N l x d left ()) (fun N ⟨l,x,d,left,_⟩=> hb N l x d left ())
end
theorem Z4E{n:Nat}{rs:List ResultVar}{r r':V U}{X X':List (List (C U))}{e:AExit}{s:LSt U}(hr:r=r')(hX:X=X')(h:Zx cfg n rs r' X' e s):Zx cfg n rs r X e s:=by rw [hr,hX];exact h
theorem Z2M(n t:Int)(ht:0<=t):(if t < (if n < 0 then 0 else n) then t else (if n < 0 then 0 else n))=Y2 n t:=by
 unfold Y2
 (repeat' split) <;> omega
theorem c79:Contract Try.prog cfg 79 Z6S:=by
 refine ZnU ?_
 intro n t _ _
 refine Zsr _ _ _ ?_
 (simp only [vcT,vcS])
 refine ⟨fun h=> Z7 rfl ?_,fun h=> ⟨fun h2=> Z7 rfl ?_,fun h2=> Z7 rfl ?_⟩⟩
 all_goals
  show _=Y2 n t
  unfold Y2
 ·rw [if_pos h]
 ·rw [if_neg h,if_pos h2]
 ·rw [if_neg h,if_neg h2]
theorem c45:Contract Try.prog cfg 45 Z78:=by
 refine Zol ?_
 intro x _ _
 refine ZsV _ _ ?_
 refine ZG (r':= .agg [.int .i64 (if (64:Int) < (if x.depth < 0 then 0 else x.depth) then 64 else (if x.depth < 0 then 0 else x.depth)),.int .i64 (if (65536:Int) < (if x.weight < 0 then 0 else x.weight) then 65536 else (if x.weight < 0 then 0 else x.weight)),.int .i64 (if (4096:Int) < (if x.maxD < 0 then 0 else x.maxD) then 4096 else (if x.maxD < 0 then 0 else x.maxD)),.int .i64 (if (131072:Int) < (if x.maxOut < 0 then 0 else x.maxOut) then 131072 else (if x.maxOut < 0 then 0 else x.maxOut))]) ?_ (by (repeat' (first | exact trivial | exact rfl | apply And.intro)))
 rw [Z2M _ _ (by decide),Z2M _ _ (by decide),Z2M _ _ (by decide),Z2M _ _ (by decide)]
 try rfl
theorem c47:Contract Try.prog cfg 47 Z78:=by
 refine Zok c79 ?_
 intro x _ _
 refine ZsU _ _ ?_
 refine ⟨trivial,trivial,trivial,trivial,?_⟩
 (repeat' (first | exact trivial | exact rfl | apply And.intro))
theorem c39:Contract Try.prog cfg 39 Z7c:=by
 refine Zop ?_
 intro x _ _
 refine ZsZ _ _ ?_
 (simp only [vcT,vcS])
 have hr:ZgT (x,())= .agg (enc .limits (Z3x x)):=rfl
 rw [hr]
 refine ⟨fun h=> ?_,fun h=> ?_⟩
 ·rw [show Z3x x=⟨x.depth,3000,x.maxD,x.maxOut⟩ by unfold Z3x;rw [if_pos h]];(repeat' (first | exact trivial | exact rfl | apply And.intro))
 ·rw [show Z3x x=x by unfold Z3x;rw [if_neg h]];(repeat' (first | exact trivial | exact rfl | apply And.intro))
theorem Zay:Contract Try.prog cfg 107 Jn:=by
 refine Zls ?_
 intro k _ _
 refine Zrn _ _ ?_
 (simp only [vcT,vcS])
 refine Zj rfl ?_
 rw [Qv]
 (simp only [vcT,vcS])
theorem ZpE:Contract Try.prog cfg 106 Z3N:=by
 refine Zlt c22 c59 c23 c68 ?_
 intro r _ hp
 obtain ⟨ha,hx⟩:=hp
 dsimp only at ha hx
 have hd:=hx.data
 have hq:=hx.ptrs
 have hc:=hx.count
 simp only [unX] at hd hq hc
 refine Zro _ _ ?_
 rintro y hy
 dsimp only at hy
 replace hy:=hy.symm
 subst hy
 (simp only [vcT,vcS])
 refine ⟨trivial,fun h1=> ?_,fun h1=> ⟨trivial,fun h9=> ?_,fun h9=> ?_⟩⟩
 ·have e1:Jh r=r.data:=by unfold Jh;rw [if_pos h1]
  have e2:Zw r=r.kids:=by unfold Zw;rw [if_pos h1]
  rw [e1,e2]
  refine ⟨trivial,by ((unfold InR;omega)),trivial,by ((unfold InR;omega)),Z7 rfl ?_⟩
  show _=ZC (unX r)
  unfold ZC
  rw [if_pos (show (unX r).kind=1 from h1)]
  try rfl
 ·have e2:Zw r=r.count:=by unfold Zw;rw [if_neg h1]
  rw [e2,if_pos h9,if_pos h9]
  have e3:=QE hc.1 (show 0<=1+r.data+r.kids by omega)
  have e4:=XW (QP hc.2) (show 1+r.data+r.kids<=131072 by omega) (by omega) (by decide:(0:Int)<=536870912)
  refine ⟨trivial,trivial,by ((unfold InR;omega)),by ((unfold InR;omega)),by ((unfold InR;omega)),by ((unfold InR;omega)),Z7 rfl ?_⟩
  show _=ZC (unX r)
  unfold ZC
  rw [if_neg (show ¬(unX r).kind=1 from h1),if_pos (show (unX r).kind=9 from h9)]
  try rfl
 ·have e2:Zw r=r.count:=by unfold Zw;rw [if_neg h1]
  rw [e2]
  refine ⟨trivial,by ((unfold InR;omega)),Z7 rfl ?_⟩
  show _=ZC (unX r)
  unfold ZC
  rw [if_neg (show ¬(unX r).kind=1 from h1),if_neg (show ¬(unX r).kind=9 from h9)]
  try rfl
theorem ZpF:Contract Try.prog cfg 105 Z3O:=by
 refine Zlu ?_
 intro u t n _ hp
 obtain ⟨h0,h1,h2,h3⟩:=hp
 dsimp only at h0 h1 h2 h3
 refine Zrp _ _ _ _ ?_
 (simp only [vcT,vcS])
 refine ⟨by ((unfold InR;omega)),fun h=> ?_,fun h=> ⟨by ((unfold InR;omega)),?_⟩⟩
 ·refine Z4E (r':= .c (.bool false)) (X':=[[.int .i64 u,.int .i64 t]]) ?_ ?_ (by (repeat' (first | exact trivial | exact rfl | apply And.intro)))
  ·simp only [Za0];rw [decide_eq_false (by omega)]
  ·simp only [Z6o];rw [if_neg (by omega)]
 ·refine Z4E (r':= .c (.bool true)) (X':=[[.int .i64 (u+n),.int .i64 t]]) ?_ ?_ (by (repeat' (first | exact trivial | exact rfl | apply And.intro)))
  ·simp only [Za0];rw [decide_eq_true (by omega)]
  ·simp only [Z6o];rw [if_pos (by omega)]
theorem Z9h(f:Int->Int->Tree × Int × Int):∀ (n:Nat) (i left:Int) (acc acc':List Tree),(Zz f n i left acc).2=(Zz f n i left acc').2
 | 0,_,_,_,_=> rfl
 | n+1,i,left,acc,acc'=> by
  simp only [Zz]
  split
  ·exact Z9h f n _ _ _ _
  ·try rfl
theorem Z1k(f:Int->Int->Tree × Int × Int){n:Int}{i left:Int}(hi:i < n):(Zz f (n - i).toNat i left []).2=if (f i left).2.2=0 then (Zz f (n - (i+1)).toNat (i+1) (f i left).2.1 []).2 else (f i left).2:=by
 rw [show (n - i).toNat=(n - (i+1)).toNat+1 by omega]
 simp only [Zz]
 split
 ·exact Z9h f _ _ _ _ _
 ·try rfl
theorem Z2E(l:List (List Int))(d:Nat)(left:Int):Zl l d xz left=(⟨0,[],[]⟩,left,0):=by
 match d with
 | 0=> rfl
 | 1=> rfl
 | d+2=> rfl
theorem Z9d{a:Option Arena}{x:XRef}(h:OkX (Z2 a) x)(d:Nat)(left:Int):Zl (Z2 (Y0 a x).a) d (unX (Y0 a x)) left=Zl (Z2 a) d x left:=by
 rw [Z3C h]
 by_cases h0:x.kind=0
 ·rw [h.null h0,Z2E,Z2E]
 ·rw [Z8o h0]
theorem Zez{l:List (List Int)}{d:Nat}{m':XRef->Int->Tree × Int × Int}{x:XRef}{i left:Int}(h:x.kind=1\/x.kind=8):(ZY l (Zl l d) m' x i left).2=Z1p l d x i left:=by
 unfold ZY Z1p
 split
 ·have h9:¬x.kind=9:=by omega
  simp [h9,h]
 ·try rfl
theorem Zpq{l:List (List Int)}{d:Nat}{m:XRef->Int->Tree × Int × Int}{x:XRef}{i left:Int}(h:x.kind=9):(ZY l m (Zl l d) x i left).2=Z1p l d x i left:=by
 unfold ZY Z1p
 split
 ·simp [h]
 ·try rfl
theorem ZfR{l:List (List Int)}{m m':XRef->Int->Tree × Int × Int}{x:XRef}{i left:Int}(h:2<=x.kind/\x.kind<=7\/x.kind=10):(ZY l m m' x i left).2=(left,0):=by
 have hk:(Zc l x i).2=0:=by
  unfold Zc
  split
  ·try rfl
  ·rw [if_neg (by omega),if_neg (by omega),if_neg (by omega)]
 unfold ZY
 rw [if_pos hk,if_neg (by omega),if_neg (by omega)]
theorem Z80{f:Int->Int->Tree × Int × Int}(hf:∀ i left,(f i left).2=(left,0)):∀ (n:Nat) (i left:Int) (acc:List Tree),(Zz f n i left acc).2=(left,0)
 | 0,_,_,_=> rfl
 | n+1,i,left,acc=> by
  simp only [Zz,hf]
  rw [if_pos trivial]
  exact Z80 hf n _ _ _
theorem Z9n{l:List (List Int)}(hl:ZX l){d:Nat}{x:XRef}(hx:OkX l x){i left:Int}(h:0<=left):0<=(Z1p l d x i left).1/\(Z1p l d x i left).1<=left:=by
 unfold Z1p
 split
 ·split
  ·exact Z85 hl (Jc hl d) (Yv hl hx i) left h
  ·exact Jc hl d _ _ (Yv hl hx i) h
 ·exact ⟨h,QQ _⟩
theorem b77:Zs4:=by
 intro N u t r d _ hp hN
 obtain ⟨⟨ha,hx⟩,h0,h1,h2,hd0,hd⟩:=hp
 dsimp only at ha hx h0 h1 h2 hd0 hd
 have hN':3*d.toNat < N+1:=hN
 have hok:okR r:=⟨ha,hx⟩
 have hkl:=Z4e hx
 have hop:=Z24 hx
 refine Zst _ _ _ _ _ _ ?_
 rintro y hy
 dsimp only at hy
 replace hy:=hy.symm
 subst hy
 have hr:∀ {e w:Int},(Zl (Z2 r.a) d.toNat (unX r) (t - u)).2=(w,e)->∀ {s:LSt U},Zx cfg Try.f77.ntmps Try.f77.results.toList (.c (.int .i64 e)) [[.int .i64 (t - w),.int .i64 t]] .ret s->
   Zx cfg Try.f77.ntmps Try.f77.results.toList (Z5D ((u,t,()),r,d,())) (Z1X ((u,t,()),r,d,())) .ret s:=by
  intro e w he s hs
  refine Z4E ?_ ?_ hs
  ·simp only [Z5D];rw [he]
  ·simp only [Z1X];rw [he]
 have cut:∀ x7:Int,(x7=d - 1/\(r.kind≠9\/Zw r<=0)\/x7=d - 2/\r.kind=9/\0 < Zw r)->r.kind≠0->
   A77 N [1,1,1,1] (Z4l u t r d x7) (Zx cfg Try.f77.ntmps Try.f77.results.toList (Z5D ((u,t,()),r,d,())) (Z1X ((u,t,()),r,d,()))):=by
  intro x7 hx7 hk0
  refine Zkw _ _ _ _ _ _ _ ?_
  rintro y hy
  replace hy:=hy.symm
  subst hy
  (simp only [vcT,vcS])
  have herr:∀ e:Int,(d < 1\/x7 < 0)\/¬ZC (unX r)<=t - u->(Zl (Z2 r.a) d.toNat (unX r) (t - u)).2=(t - u,3):=by
   intro e h
   by_cases h1:1<=d.toNat
   ·rw [JX h1]
    unfold Yy
    rw [if_neg (show ¬(unX r).kind=0 from hk0),if_pos]
    rcases h with (h | h) | h
    ·omega
    ·refine .inr (.inl ⟨?_,?_,by omega⟩)
     ·show r.kind=9;omega
     ·show 0 < r.count
      have:r.kind=9/\0 < Zw r:=by omega
      have hk:=this.2
      unfold Zw at hk
      rw [if_neg (by omega)] at hk
      exact hk
    ·exact .inr (.inr (by omega))
   ·rw [show d.toNat=0 by omega,Z9c,if_neg (show ¬(unX r).kind=0 from hk0)]
  refine ⟨fun _=> hok,fun _=> ⟨h0,h1,h2,by show 0<=ZC (unX r);omega⟩,fun h=> ?_,fun h=> ?_⟩
  ·refine hr (herr 0 h) ?_
   have e1:(bif !bif decide (d < 1) then true else decide (x7 < 0) then if ZC (unX r)<=t - u then u+ZC (unX r) else u else u)=t - (t - u):=by
    by_cases a1:d < 1
    ·simp [a1];omega
    ·by_cases a2:x7 < 0
     ·simp [a1,a2];omega
     ·rw [if_neg (by omega)];simp [a1,a2];omega
   have e2:(bif !bif decide (d < 1) then true else decide (x7 < 0) then t else t)=t:=by cases (!bif decide (d < 1) then true else decide (x7 < 0)) <;> rfl
   rw [e1,e2]
   (repeat' (first | exact trivial | exact rfl | apply And.intro))
  ·have e1:(bif !bif decide (d < 1) then true else decide (x7 < 0) then if ZC (unX r)<=t - u then u+ZC (unX r) else u else u)=u+ZC (unX r):=by
    rw [if_pos h.2];simp [h.1.1,h.1.2]
   have e2:(bif !bif decide (d < 1) then true else decide (x7 < 0) then t else t)=t:=by cases (!bif decide (d < 1) then true else decide (x7 < 0)) <;> rfl
   rw [e1,e2]
   have hD:1<=d.toNat:=by omega
   have hM:(Zl (Z2 r.a) d.toNat (unX r) (t - u)).2=(Zz (ZY (Z2 r.a) (Zl (Z2 r.a) (d.toNat - 1)) (Zl (Z2 r.a) (d.toNat - 2)) (unX r)) (Zf (unX r)).toNat 0 (t - u - ZC (unX r)) []).2:=by
    rw [JX hD]
    unfold Yy
    rw [if_neg (show ¬(unX r).kind=0 from hk0),if_neg]
    rintro (q | q | q)
    ·omega
    ·have q1:r.kind=9:=q.1
     have q2:0 < r.count:=q.2.1
     have:Zw r=r.count:=by unfold Zw;rw [if_neg (by omega)]
     have:=q.2.2
     omega
    ·omega
   refine ⟨trivial,trivial,fun hk=> ?_,fun hk=> ⟨trivial,?_⟩⟩
   ·refine hr (w:=t - u - ZC (unX r)) (e:=0) ?_ ?_
    ·rw [hM]
     exact Z80 (fun i left=> ZfR (.inl hk)) _ _ _ _
    ·rw [show t - (t - u - ZC (unX r))=u+ZC (unX r) by omega]
     (repeat' (first | exact trivial | exact rfl | apply And.intro))
   ·by_cases h10:r.kind=10
    ·have hc0:Zw r=0:=by
      unfold Zw
      rw [if_neg (by omega)]
      exact hx.zero (.inr h10)
     refine Za (ι:=Int) (fun i=> Z2l u t r d x7 i (u+ZC (unX r)) t) (fun i=> i=0) (fun _=> 0) 0 rfl rfl ?_
     rintro i rfl
     refine Zd6 _ _ _ _ _ _ _ _ _ _ _ ?_
     rintro y1 hy1 y2 hy2
     replace hy1:=hy1.symm
     subst hy1
     (simp only [vcT,vcS])
     refine ⟨fun hi=> by omega,fun _=> ?_⟩
     refine hr (w:=t - u - ZC (unX r)) (e:=0) ?_ ?_
     ·rw [hM,<-Z2f,hc0];try rfl
     ·rw [show t - (t - u - ZC (unX r))=u+ZC (unX r) by omega]
      (repeat' (first | exact trivial | exact rfl | apply And.intro))
    ·have hk9:r.kind=1\/r.kind=8\/r.kind=9:=by
      have:=hx.kind
      simp only [unX] at this
      omega
     have hf:∀ i left:Int,i < Zw r->(ZY (Z2 r.a) (Zl (Z2 r.a) (d.toNat - 1)) (Zl (Z2 r.a) (d.toNat - 2)) (unX r) i left).2=Z1p (Z2 r.a) x7.toNat (unX r) i left\/i < 0:=by
      intro i left hi
      by_cases hi0:i < 0
      ·exact .inr hi0
      left
      by_cases h9:r.kind=9
      ·rw [show x7.toNat=d.toNat - 2 by omega];exact Zpq h9
      ·rw [show x7.toNat=d.toNat - 1 by omega];exact Zez (by show r.kind=1\/r.kind=8;omega)
     refine Za (ι:=Int × Int) (fun p=> Z2l u t r d x7 p.1 p.2 t) (fun p=> 0<=p.1/\p.1<=Zw r/\0<=p.2/\p.2<=t/\(Zz (ZY (Z2 r.a) (Zl (Z2 r.a) (d.toNat - 1)) (Zl (Z2 r.a) (d.toNat - 2)) (unX r)) (Zw r - p.1).toNat p.1 (t - p.2) []).2=(Zl (Z2 r.a) d.toNat (unX r) (t - u)).2) (fun p=> (Zw r - p.1).toNat) (0,u+ZC (unX r)) rfl ⟨by simp,by rw [Z2f];exact hkl.1,by dsimp only;omega,by dsimp only;omega,?_⟩ ?_
     ·dsimp only
      rw [hM,Z2f,Int.sub_zero,show t - (u+ZC (unX r))=t - u - ZC (unX r) by omega]
     rintro ⟨i,w⟩ ⟨i0,i1,w0,w1,hL⟩
     dsimp only at i0 i1 w0 w1 hL
     refine Zd6 _ _ _ _ _ _ _ _ _ _ _ ?_
     rintro y1 hy1 y2 hy2
     replace hy1:=hy1.symm
     subst hy1
     (simp only [vcT,vcS])
     refine ⟨fun hi=> ⟨⟨hok,w0,w1,h2,by dsimp only;omega,by dsimp only;omega,hk9⟩,?_,fun he=> ?_,fun he=> ⟨?_,(i+1,t - y2.1),rfl,?_,by dsimp only;omega⟩⟩,fun hi=> ?_⟩
     ·show 3*x7.toNat+(if r.kind=9 then 2 else 1) < N
      split <;> omega
     ·rw [Z1k _ hi,(hf i (t - w) hi).resolve_right (by omega),<-hy2,if_neg he] at hL
      exact hr (w:=y2.1) (e:=y2.2) hL.symm (by (repeat' (first | exact trivial | exact rfl | apply And.intro)))
     ·have:=hx.ptrs
      have:=hx.count
      have:Zw r < 536870912:=by unfold Zw;split;exact Int.lt_trans hx.ptrs.2 (by decide);exact hx.count.2
      ((unfold InR;omega))
     ·have hfi:=Z9n ha hx (d:=x7.toNat) (i:=i) (left:=t - w) (by omega)
      rw [<-hy2] at hfi
      rw [Z1k _ hi,(hf i (t - w) hi).resolve_right (by omega),<-hy2,if_pos he] at hL
      refine ⟨by dsimp only;omega,by dsimp only;omega,by dsimp only;omega,by dsimp only;omega,?_⟩
      dsimp only
      rw [show t - (t - y2.1)=y2.1 by omega,<-hL]
     ·rw [show (Zw r - i).toNat=0 by omega] at hL
      refine hr (w:=t - w) (e:=0) hL.symm ?_
      rw [show t - (t - w)=w by omega]
      (repeat' (first | exact trivial | exact rfl | apply And.intro))
 (simp only [vcT,vcS])
 refine ⟨trivial,fun hk=> ?_,fun hk=> ⟨?_,trivial,fun _=> trivial,fun h9=> ⟨?_,?_⟩,fun h9=> ?_⟩⟩
 ·refine hr (w:=t - u) (e:=0) ?_ ?_
  ·rw [show unX r=xz from hx.null hk,Z2E]
  ·rw [show t - (t - u)=u by omega]
   (repeat' (first | exact trivial | exact rfl | apply And.intro))
 ·((unfold InR;omega))
 ·((unfold InR;omega))
 ·exact cut _ (.inr ⟨by omega,h9.1,h9.2⟩) hk
 ·exact cut _ (.inl ⟨rfl,by omega⟩) hk
theorem ZlT{l:List (List Int)}{d:Nat}{x:XRef}(hk:x.kind=1)(left:Int):(YG l (Zl l d) x left).2=(Zz (ZY l (Zl l d) (fun _ left=> (Tree.nil,left,3)) x) x.ptrs.toNat 0 left []).2:=by
 unfold YG
 have:(fun j left=> if (Zc l x j).2=0 then Zl l d (Zc l x j).1 left else (Tree.nil,left,(Zc l x j).2))=ZY l (Zl l d) (fun _ left=> (Tree.nil,left,3)) x:=by
  funext j left
  unfold ZY
  split
  ·rw [if_neg (by omega),if_pos (.inl hk)]
  ·try rfl
 rw [this]
theorem ZpM:Znn:=by
 intro N u t r i d _ hp hN
 obtain ⟨⟨ha,hx⟩,h0,h1,h2,hd0,hd,hk⟩:=hp
 dsimp only at ha hx h0 h1 h2 hd0 hd hk
 have hN':3*d.toNat+(if r.kind=9 then 2 else 1) < N+1:=hN
 have hok:okR r:=⟨ha,hx⟩
 have hkx:=Yv ha hx i
 refine Zrm _ _ _ _ _ _ _ ?_
 rintro y hy z hz
 dsimp only at hy hz
 replace hy:=hy.symm
 subst hy
 have ea:(Zc (Z2 r.a) (unX r) i).1=(Zc (Z2 r.a) (unX r) i).1:=rfl
 have hokz:okR z:=by rw [hz];exact Z44 ha hkx
 have hr:∀ {e w:Int},Z1p (Z2 r.a) d.toNat (unX r) i (t - u)=(w,e)->∀ {s:LSt U},Zx cfg Try.f108.ntmps Try.f108.results.toList (.c (.int .i64 e)) [[.int .i64 (t - w),.int .i64 t]] .ret s->
   Zx cfg Try.f108.ntmps Try.f108.results.toList (Z3j ((u,t,()),r,i,d,())) (Z1f ((u,t,()),r,i,d,())) .ret s:=by
  intro e w he s hs
  refine Z4E ?_ ?_ hs
  ·simp only [Z3j];rw [he]
  ·simp only [Z1f];rw [he]
 (simp only [vcT,vcS])
 refine ⟨hok,fun he=> ?_,fun he=> ⟨trivial,fun k9=> ⟨⟨hokz,h0,h1,h2,hd0,hd⟩,?_,?_⟩,fun k9=> ⟨trivial,?_⟩⟩⟩
 ·refine hr (w:=t - u) (e:=(Zc (Z2 r.a) (unX r) i).2) (by unfold Z1p;rw [if_neg he]) ?_
  rw [show t - (t - u)=u by omega]
  (repeat' (first | exact trivial | exact rfl | apply And.intro))
 ·show 3*d.toNat < N
  rw [if_neg k9] at hN'
  omega
 ·have hm:Zl (Z2 z.a) d.toNat (unX z) (t - u)=Zl (Z2 r.a) d.toNat (Zc (Z2 r.a) (unX r) i).1 (t - u):=by rw [hz];exact Z9d hkx _ _
  rw [hm]
  refine hr (w:=(Zl (Z2 r.a) d.toNat (Zc (Z2 r.a) (unX r) i).1 (t - u)).2.1) (e:=(Zl (Z2 r.a) d.toNat (Zc (Z2 r.a) (unX r) i).1 (t - u)).2.2) (by unfold Z1p;rw [if_pos he,if_neg (show ¬(unX r).kind=9 from k9)]) ?_
  (repeat' (first | exact trivial | exact rfl | apply And.intro))
 ·rw [if_pos k9] at hN'
  by_cases hki:i < 0\/Zf (unX r)<=i
  ·have hz0:(Zc (Z2 r.a) (unX r) i)=(xz,0):=by unfold Zc;rw [if_pos hki]
   have hzz:z=Zfo:=by rw [hz,hz0];try rfl
   refine Za (ι:=Int) (fun j=> Z0U u t r i d j u) (fun j=> j=0) (fun _=> 0) 0 rfl rfl ?_
   rintro j rfl
   refine ZaM _ _ _ _ _ _ _ _ _ _ ?_
   rintro y1 hy1 y2 hy2 y3 hy3
   replace hy1:=hy1.symm
   subst hy1
   have e2:y2=Zfo:=by rw [hy2,<-hz,hzz]
   rw [e2]
   (simp only [vcT,vcS])
   refine ⟨fun hi=> by have:Zw Zfo=0:=rfl;omega,fun _=> ?_⟩
   refine hr (w:=t - u) (e:=0) ?_ ?_
   ·unfold Z1p
    rw [if_pos he,if_pos (show (unX r).kind=9 from k9),hz0]
    try rfl
   ·rw [show t - (t - u)=u by omega]
    (repeat' (first | exact trivial | exact rfl | apply And.intro))
  ·have hzx:(Zc (Z2 r.a) (unX r) i).1.kind=1:=by
    unfold Zc
    rw [if_neg hki,if_neg (show ¬(unX r).kind=1 by show ¬r.kind=1;omega),if_neg (show ¬(unX r).kind=8 by show ¬r.kind=8;omega),if_pos (show (unX r).kind=9 from k9)]
   have hza:z.a=r.a:=by rw [hz];exact Z8o (x:=(Zc (Z2 r.a) (unX r) i).1) (by rw [hzx];decide)
   have hzu:unX z=(Zc (Z2 r.a) (unX r) i).1:=by rw [hz];exact Z3C hkx
   have hzk:z.kind=1:=(congrArg XRef.kind hzu).trans hzx
   have hkz:Zw z=(Zc (Z2 r.a) (unX r) i).1.ptrs:=by rw [Z2f,hzu];unfold Zf;rw [if_pos hzx]
   have hpz:=hkx.ptrs
   have hV:Z1p (Z2 r.a) d.toNat (unX r) i (t - u)=(Zz (ZY (Z2 r.a) (Zl (Z2 r.a) d.toNat) (fun _ left=> (Tree.nil,left,3)) (unX z)) (Zw z).toNat 0 (t - u) []).2:=by
    unfold Z1p
    rw [if_pos he,if_pos (show (unX r).kind=9 from k9),ZlT hzx,hzu,hkz]
   refine Za (ι:=Int × Int) (fun p=> Z0U u t r i d p.1 p.2) (fun p=> 0<=p.1/\p.1<=Zw z/\0<=p.2/\p.2<=t/\(Zz (ZY (Z2 r.a) (Zl (Z2 r.a) d.toNat) (fun _ left=> (Tree.nil,left,3)) (unX z)) (Zw z - p.1).toNat p.1 (t - p.2) []).2=Z1p (Z2 r.a) d.toNat (unX r) i (t - u)) (fun p=> (Zw z - p.1).toNat) (0,u) rfl ⟨by simp,by dsimp only;omega,by dsimp only;omega,by dsimp only;omega,?_⟩ ?_
   ·dsimp only
    rw [hV,Int.sub_zero]
   rintro ⟨j,w⟩ ⟨i0,i1,w0,w1,hL⟩
   dsimp only at i0 i1 w0 w1 hL
   refine ZaM _ _ _ _ _ _ _ _ _ _ ?_
   rintro y1 hy1 y2 hy2 y3 hy3
   replace hy1:=hy1.symm
   subst hy1
   rw [<-hz] at hy2
   subst hy2
   (simp only [vcT,vcS])
   rw [hza] at hy3
   have hf:=Zez (l:=Z2 r.a) (d:=d.toNat) (m':=fun _ left=> (Tree.nil,left,3)) (x:=unX y2) (i:=j) (left:=t - w) (.inl hzk)
   refine ⟨fun hi=> ⟨⟨hokz,w0,w1,h2,hd0,hd,.inl hzk⟩,?_,fun hn=> ?_,fun hn=> ⟨by ((unfold InR;omega)),(j+1,t - y3.1),rfl,?_,by dsimp only;omega⟩⟩,fun hi=> ?_⟩
   ·show 3*d.toNat+(if y2.kind=9 then 2 else 1) < N
    rw [if_neg (by omega)]
    omega
   ·rw [Z1k _ hi,hf,<-hy3,if_neg hn] at hL
    exact hr (w:=y3.1) (e:=y3.2) hL.symm (by (repeat' (first | exact trivial | exact rfl | apply And.intro)))
   ·have hfi:=Z9n ha (x:=unX y2) (by rw [hzu];exact hkx) (d:=d.toNat) (i:=j) (left:=t - w) (by omega)
    rw [<-hy3] at hfi
    rw [Z1k _ hi,hf,<-hy3,if_pos hn] at hL
    refine ⟨by dsimp only;omega,by dsimp only;omega,by dsimp only;omega,by dsimp only;omega,?_⟩
    dsimp only
    rw [show t - (t - y3.1)=y3.1 by omega,<-hL]
   ·rw [show (Zw y2 - j).toNat=0 by omega] at hL
    refine hr (w:=t - w) (e:=0) hL.symm ?_
    rw [show t - (t - w)=w by omega]
    (repeat' (first | exact trivial | exact rfl | apply And.intro))
theorem Ztk:Contract Try.prog cfg 77 Z4R/\Contract Try.prog cfg 108 Zde:=Zla ZpE ZpF Zay c22 c23 c24 b77 ZpM
theorem c77:Contract Try.prog cfg 77 Z4R:=Ztk.1
theorem Zeg(x:Limits):0<=(Yf x).depth/\(Yf x).depth<=64/\0<=(Yf x).weight/\(Yf x).weight<=65536:=by
 show 0<=Y2 x.depth 64/\Y2 x.depth 64<=64/\0<=Y2 x.weight 65536/\Y2 x.weight 65536<=65536
 unfold Y2
 refine ⟨?_,?_,?_,?_⟩ <;> (repeat' split) <;> omega
theorem c40:Contract Try.prog cfg 40 Z7b:=by
 refine Zoo c45 c21 c77 ?_
 intro a x _ ha
 simp only [ZdR] at ha
 refine ZsY _ _ _ ?_
 rintro y hy z hz m hm
 dsimp only at hy hz hm
 replace hy:=hy.symm
 subst hy
 have hx:=Z59 ha 0 0
 have hl:=Zeg x
 have hm':m=Zl (Z2 a) (Yf x).depth.toNat (Zp (Z2 a) 0 0).1 (Yf x).weight:=by rw [hm,hz,Int.sub_zero];exact Z9d hx _ _
 clear hm
 (simp only [vcT,vcS])
 refine ⟨trivial,ha,fun h=> ?_,fun h=> ⟨⟨by rw [hz];exact Z44 ha hx,?_⟩,fun h2=> ?_,fun h2=> ?_⟩⟩
 ·refine ZG (r':= .tup [(false,[.int .i64 0]),(false,[.int .i64 (Zp (Z2 a) 0 0).2])]) ?_ (by (repeat' (first | exact trivial | exact rfl | apply And.intro)))
  simp only [Zb6]
  rw [show ZV (Z2 a) x=(Tree.nil,0,(Zp (Z2 a) 0 0).2) by unfold ZV;rw [if_neg h]]
 ·dsimp only
  omega
 ·refine ZG (r':= .tup [(false,[.int .i64 0]),(false,[.int .i64 m.2.2])]) ?_ (by (repeat' (first | exact trivial | exact rfl | apply And.intro)))
  simp only [Zb6]
  rw [show ZV (Z2 a) x=(Tree.nil,0,m.2.2) by unfold ZV;rw [if_pos h,<-hm',if_neg h2]]
 ·refine ZG (r':= .tup [(false,[.int .i64 ((Yf x).weight - m.2.1)]),(false,[.int .i64 0])]) ?_ (by (repeat' (first | exact trivial | exact rfl | apply And.intro)))
  simp only [Zb6]
  rw [show ZV (Z2 a) x=(m.1,(Yf x).weight - m.2.1,0) by unfold ZV;rw [if_pos h,<-hm',if_pos h2]]
end Go.AM.Ythokdjgpdonhgaa
