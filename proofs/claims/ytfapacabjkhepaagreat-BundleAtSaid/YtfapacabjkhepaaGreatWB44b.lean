import Derived.Test.YtfapacabjkhepaaGreatWKG21a
import Derived.Test.YtfapacabjkhepaaGreatWCB25e
import Derived.Test.YtfapacabjkhepaaGreatWKL22m
import Derived.Test.YtfapacabjkhepaaGreatWKB22c
import Derived.Test.YtfapacabjkhepaaGreatWCL25g
import Derived.Test.YtfapacabjkhepaaGreatWKB23b
import Derived.Test.YtfapacabjkhepaaGreatWCL25l
import Derived.Test.YtfapacabjkhepaaGreatWKD22
set_option linter.unusedSimpArgs false
set_option linter.unusedVariables false
namespace Go.AM.YtfapacabjkhepaaGreat
open Go.AM Go.Proofs
noncomputable section
def ZuA(a:Edit × Edit × Unit):Prop:=refOk a.1/\refOk a.2.1
def ZoP(a:Edit × Edit × Unit):V U:= .tup [(true,(enc .edit ((Z3Y a.1 a.2.1).1))),(false,[.bool ((Z3Y a.1 a.2.1).2)])]
def Zex:Fs U:=fs Zo3 (fun a=> [ZuA a]) ZoP
def ZvX:List (FuncId × Fs U):=[(106,Z73),(44,Z2Z)]
abbrev A70(p:List Nat):=AW (Z1 ZvX) Tryz.f70 ZDZ p
theorem ZIQ(p q:Edit)(Q:QT)(h:∀ y_1,y_1=p->∀ y_2,y_2=q->∀ y_3,y_3=((YX y_1 y_2).1)->((Z2b (y_1,y_2,()))/\(iB (!((YX y_1 y_2).2)) ((Q .ret (L2 [pL 4,pB 5 false] [(.loc 4,zc1)]))) ((Z3H (y_3,()))/\(Q .ret (L2 [pL 4,pB 5 true] [(.loc 4,(enc .edit (Zz y_3)))])))))):
  A70 [] (L2 [(0,.agg (enc .edit p)),(1,.agg (enc .edit q))] []) Q:=
 Eq.mpr V4 (h _ (Z7 _) _ (Z7 _) _ (Z7 _))
def ZFI(p q:Edit):Prop:=AW (Z1 ZvX) Tryz.f70 ZDZ [] (Zg (Zo3.can (p,q,())) []) (EQ Tryz.f70 (ZoP (p,q,())) [])
theorem ZD8(ZEM:CT 106 Z73)(c44:CT 44 Z2Z)(hb:∀ (p:Edit) (q:Edit) (_:Unit),ZuA (p,q,())->ZFI p q):CT 70 Zex:=
 Z2 (l:=[(106,Z73),(44,Z2Z)]) Zi rfl (⟨ZEM,c44,trivial⟩) ZDZ Tryz.func70 rfl rfl 2 (fun _=> rfl) V2 (fun ⟨p,q,_⟩=> hb p q ())
end
theorem c70:Contract Tryz.prog cfg 70 Zex:=by
 refine ZD8 ZEM ZnP.1 ?_
 intro p q _ hp
 have r1:=hp.1.re
 have r2:=hp.2.re
 dsimp only at r1 r2
 refine ZIQ _ _ _ ?_
 intro y1 h1 y2 h2 y3 h3
 subst h1 h2
 (simp only [iB,vcT,vcS])
 refine ⟨⟨r1,r2⟩,fun hc=> ?_,fun hc=> ?_⟩
 .refine Y5 (r':= .tup [(true,enc .edit Edit.nil),(false,[.bool false])]) ?_ JR
  simp only [ZoP,Z3Y]
  rw [if_neg (by grind)]
  try rfl
 .have k1:=Yj r1
  have k2:=Yj r2
  obtain ⟨W,hu⟩:=Zun _ y1 y2 (Q8 _) YL (Z7g r1) (Z7g r2)
  have hu:=hu hc
  have wr:=(W.wk hc).r
  have m1:=Zas (YX y1 y2).1
  have m2:=Zgu _ (YX y1 y2).1 (Q8 _) ⟨_,wr⟩
  have e:JY (Z8 y1+Z8 y2) y1 y2=YX y1 y2:=rfl
  rw [e] at hu
  have u1:=hp.1.1
  have u2:=hp.2.1
  dsimp only at u1 u2
  refine ⟨by rw [h3];exact ⟨by grind,-1,wr⟩,Y5 (r':= .tup [(true,enc .edit (Zz y3)),(false,[.bool true])]) ?_ JR⟩
  simp only [ZoP,Z3Y]
  rw [if_pos hc,h3]
  try rfl
theorem Zwy{p q:Edit}(hp:refOk p)(hq:refOk q):Z1e p q=Z3Y p q:=by
 obtain ⟨d1,r1⟩:=hp.2.2
 obtain ⟨d2,r2⟩:=hq.2.2
 have m1:=Yj hp.re
 have m2:=Yj hq.re
 have A:=ZwB (p:=p) (q:=q) YL r1 r2
 unfold Z1e Z3Y
 rw [A.ok]
 by_cases h:(YX p q).2=true
 .rw [if_pos h,if_pos h,A.nrm (by rw [A.ok];exact h)]
 grind
instance decStep:DecidableEq PStep:=fun a b=> decidable_of_iff (a.kind=b.kind/\a.at_=b.at_) (by cases a;cases b;simp)
theorem ZwA{p q:Edit}(hp:Ym p)(hq:Ym q)(h:(Z1e p q).2=true):(Yy p q).2=true/\(Z1e p q).1=Zz (Yy p q).1:=by
 unfold Z1e at h ⊢
 grind
theorem Zwz{p q:Edit}(hp:Ym p)(hq:Ym q)(h:(Z1e p q).2=true)(hs:ctE p+ctE q<=9000000000):Ym (Z1e p q).1/\ctE (Z1e p q).1+18<=ctE p+ctE q:=by
 have F:=Zcp hp hq
 obtain ⟨c1,c2⟩:=ZwA hp hq h
 have w:=F.wk c1
 have c:=F.ct trivial c1
 have n:=Z49 (Yy p q).1
 rw [c2]
 exact ⟨⟨YL,Z0R _ _ w.r w.g,_,JG _ _ w.r⟩,YL⟩
theorem Zjv:∀ (a b:List Edit),ctL (a++b)=ctL a+ctL b
 | [],b=> by simp [ctL]
 | e ::r,b=> by rw [Qk,ctL,ctL,Zjv r b];omega
noncomputable section
def atF:List Edit->Tree->Option Tree
 | [],t=> some (Z5 t)
 | e ::r,t=> if Z9 e 64=true then (match doE false e t with
  | none=> none
  | some u=> if Ze (Z5 u) 64=true then atF r (Z5 u) else none) else none
def atG:List Edit->Tree->Option Tree
 | [],t=> some t
 | e ::r,t=> if Z9 e 64=true then (match doE true e t with
  | none=> none
  | some u=> if Ze u 64=true then atG r u else none) else none
def oT(o:Option Tree):Tree × Bool:=match o with
 | some t=> (t,true)
 | none=> (Tree.nil,false)
def atO(f:Tree)(l:List Edit)(n:Int):Prop:=Ze f 64=true/\f.kind≠10/\0<=n/\n<=l.length
instance (f:Tree) (l:List Edit) (n:Int):Decidable (atO f l n):=by unfold atO;infer_instance
def atN(f:Tree)(l:List Edit)(n:Int):Tree × Bool:=if atO f l n then oT (atF (l.take n.toNat) f) else (Tree.nil,false)
def atM(f:Tree)(l:List Edit)(n:Int):Tree × Bool:=if atO f l n then oT (atG (l.take n.toNat) (Z5 f)) else (Tree.nil,false)
def Zcr(l:List Edit)(a b:Int):Edit × Bool:=
 if a < 0\/b < 0\/l.length < a\/l.length < b then (Edit.nil,false)
 else if a<=b then JL ((l.take b.toNat).drop a.toNat)
 else (Zz (Zs (JL ((l.take a.toNat).drop b.toNat)).1),(JL ((l.take a.toNat).drop b.toNat)).2)
end
theorem ZC1:∀ (l:List Edit) (t:Tree),atF l t=atG l (Z5 t)
 | [],_=> rfl
 | e ::r,t=> by
  rw [atF,atG]
  by_cases hr:Z9 e 64=true
  .rw [if_pos hr,if_pos hr,Z0x,(Zjs e 64 (Z5 t) t hr (Zwm t)).normed]
   cases doE false e t with
   | none=> rfl
   | some u=>
    dsimp only [Option.map]
    rw [ZC1 r (Z5 u),Z0G]
  .rw [if_neg hr,if_neg hr]
theorem ZlY(f:Tree)(l:List Edit)(n:Int):atN f l n=atM f l n:=by unfold atN atM;rw [ZC1]
structure RowT (t:Tree):Prop where
 n:Z5 t=t
 r:Ze t 64=true
 g:rng t
theorem Zqt:∀ {l:List Edit} {t u:Tree},RowT t->(∀ e∈l,YI e)->atG l t=some u->RowT u/\(∀ e∈l,Z9 e 64=true)/\ZCF l t=some u
 | [],t,u,ht,_,h=> by
  injection h with h
  subst h
  exact ⟨ht,fun e he=> (by cases he),rfl⟩
 | e ::r,t,u,ht,hg,h=> by
  rw [atG] at h
  by_cases hr:Z9 e 64=true
  .rw [if_pos hr,Z0x] at h
   cases hd:doE false e t with
   | none=> rw [hd] at h;cases h
   | some v=>
    rw [hd] at h
    dsimp only [Option.map] at h
    by_cases hv:Ze (Z5 v) 64=true
    .rw [if_pos hv] at h
     have rv:RowT (Z5 v):=⟨Z0G v,hv,J9 _ (Z5j false _ _ _ (hg e Q3) ht.g hd)⟩
     obtain ⟨h1,h2,h3⟩:=Zqt rv (fun x hx=> hg x (Q0 _ hx)) h
     refine ⟨h1,fun x hx=> ?_,?_⟩
     .rcases Q9.1 hx with rfl | hx
      .exact hr
      .exact h2 x hx
     .rw [ZCF,hd];exact h3
    .rw [if_neg hv] at h;cases h
  .rw [if_neg hr] at h;cases h
theorem Zju:∀ {l:List Edit},(∀ e∈l,Z8 e<=10000)->ctL l<=l.length*660000000
 | [],_=> Q8 _
 | e ::r,h=> by
  have h1:=Zbk e
  have h2:=h e Q3
  have h3:=Zju (l:=r) fun x hx=> h x (Q0 _ hx)
  simp only [ctL,Q7,QB]
  omega
def utW(w:Wst):Nat:=JZ w.out+(34*w.gone.length+Zk w.gone)+(34*w.brought.length+Zk w.brought)
theorem Zee(w:Wst):JZ (Zl w).out=utW w:=by
 simp only [Zl,Z0M,utW,Z4c]
 by_cases h1:w.gone.length=0
 .rw [if_pos h1,Q1 h1]
  by_cases h2:w.brought.length=0
  .rw [if_pos h2,Q1 h2];simp [JZ,Zk]
  .rw [if_neg h2];simp only [JZ,Z8x,Zk,if_neg (show ¬(2:Int)=3 by decide)];simp <;> omega
 .rw [if_neg h1]
  by_cases h2:w.brought.length=0
  .rw [if_pos h2,Q1 h2];simp only [JZ,Z8x,Zk,if_neg (show ¬(1:Int)=3 by decide)];simp <;> omega
  .rw [if_neg h2];simp only [JZ,Z8x,if_neg (show ¬(1:Int)=3 by decide),if_neg (show ¬(2:Int)=3 by decide)];simp <;> omega
theorem Zog(w:Wst)(n:Int):utW (Yd w n)<=utW w+34*n.toNat:=by
 have h:=Zee w
 have e:utW (Yd w n)=JZ (Jx (Zl w).out n):=by simp [Yd,utW,Zk]
 rw [e,<-h]
 rcases Z0Y (Zl w).out n with e | ⟨a,q,e1,e2,e3⟩
 .rw [e,Z4c];simp only [JZ,Z8x,Zk,if_neg (show ¬(0:Int)=3 by decide)];simp
 .rw [e3,e1,Z4c,Z4c]
  simp only [JZ,Z8x,Z1N,e2,if_neg (show ¬(0:Int)=3 by decide)]
  omega
mutual
theorem Zmc:∀ (e:Edit),utE (Zz e)<=utE e
 | .mk k o n w ks l os=> by
  have h1:=Zk1 ks
  have h2:=Zk0 l os ⟨[],[],[]⟩
  have h3:=ZK o
  have h4:=ZK n
  have:=Zar o
  have:=Zar n
  have hf:=Zee (Zu l os ⟨[],[],[]⟩)
  have hz:utW ⟨[],[],[]⟩=0:=rfl
  rw [Zz]
  split
  .simp only [utE,Z5S,JZ,Qj];omega
  .split
   .simp only [utE,JZ,JP];omega
   .split
    .simp only [utE,Z5S,JP,Qj];omega
    .simp only [utE,Z5S,JZ,JP,Qj];omega
theorem Zk1:∀ (ks:List (KidOf Edit)),Z5S (Jd ks)<=Z5S ks
 | []=> Q8 _
 | k ::r=> by
  have h1:=Zrb k
  have h2:=Zk1 r
  simp only [Jd,Z5S]
  omega
theorem Zrb:∀ (k:KidOf Edit),Zef (Z2c k)<=Zef k
 | ⟨a,e⟩=> by
  have:=Zmc e
  simp only [Z2c,Zef]
  omega
theorem Zk0(list:Int):∀ (os:List (OpOf Edit)) (w:Wst),utW (Zu list os w)<=utW w+JZ os
 | [],w=> Q8 _
 | o ::r,w=> by
  have h1:=Ztv list o w
  have h2:=Zk0 list r (Z0r list o w)
  simp only [Zu,JZ]
  omega
theorem Ztv(list:Int):∀ (o:OpOf Edit) (w:Wst),utW (Z0r list o w)<=utW w+Z8x o
 | ⟨k,n,l,e⟩,w=> by
  have he:=Zmc e
  have h18:=Zig e
  have hl:=Z6w l
  have hll:(Zb l).length=l.length:=by simp [Zb]
  rw [Z0r]
  simp only [Z8x]
  split
  .rename_i k0
   rw [V0]
   have:=Zog w n;omega
  .split
   .rename_i k1
    rw [V0]
    have:=YY w.gone (Zb l)
    simp only [utW,Qd]
    omega
   .split
    .rename_i k2
     rw [V0]
     have:=YY w.brought (Zb l)
     simp only [utW,Qd]
     omega
    .split
     .rename_i k3
      split
      .have:=Zog w 1;simp at this;omega
      .have:=Zee w
       simp only [utW,Z4c,JZ,Z8x,if_true,Zk,Qj] at this ⊢
       omega
     .omega
end
def utL:List Edit->Nat
 | []=> 0
 | e ::r=> utE e+utL r
noncomputable def Zay:List Edit->Edit->Edit × Bool
 | [],x=> (x,true)
 | e ::r,x=> if (Z3Y x e).2=true then Zay r (Z3Y x e).1 else (Edit.nil,false)
noncomputable def YW(l:List Edit):Edit × Bool:=if (Zay l Edit.nil).2=true then (Zz (Zay l Edit.nil).1,true) else (Edit.nil,false)
theorem ZkC{p q:Edit}(hp:refOk p)(hq:refOk q)(h:(Z3Y p q).2=true)(hs:utE p+utE q<=9000000000):refOk (Z3Y p q).1/\utE (Z3Y p q).1+18<=utE p+utE q:=by
 have m1:=Yj hp.re
 have m2:=Yj hq.re
 obtain ⟨W,hu⟩:=Zun _ p q (Q8 _) YL (Z7g hp.re) (Z7g hq.re)
 have e:JY (Z8 p+Z8 q) p q=YX p q:=rfl
 rw [e] at hu W
 unfold Z3Y at h ⊢
 split at h
 .rename_i hc
  rw [if_pos hc]
  have hu:=hu hc
  have w:=W.wk hc
  have n:=Zmc (YX p q).1
  dsimp only
  exact ⟨⟨YL,Z0R _ _ w.r w.g,_,JG _ _ w.r⟩,YL⟩
 .cases h
theorem Zho:refOk Edit.nil:=⟨by simp [utE,Z5S,JZ,Edit.nil,Tree.nil,Zm,Zk],Z4n.2⟩
theorem Zoi:utE Edit.nil=18:=by simp [utE,Z5S,JZ,Edit.nil,Tree.nil,Zm,Zk]
theorem Zge:∀ (l:List Edit) (x:Edit),refOk x->(∀ e∈l,refOk e)->utE x+utL l<=8000000018->Z4E l x=Zay l x
 | [],x,_,_,_=> rfl
 | e ::r,x,hx,he,hc=> by
  have h1:=he e Q3
  rw [utL] at hc
  rw [Z4E,Zay,Zwy hx h1]
  split
  .rename_i h
   have:=ZkC hx h1 h YL
   exact Zge r _ this.1 (fun y hy=> he y (Q0 _ hy)) YL
  .try rfl
theorem Zlx{l:List Edit}(he:∀ e∈l,refOk e)(hc:utL l<=8000000000):JL l=YW l:=by
 unfold JL YW
 rw [Zge l Edit.nil Zho he (by rw [Zoi];omega)]
theorem Zoh:∀ l:List Edit,l.length<=utL l
 | []=> Q8 _
 | e ::r=> by have:=Zoh r;have:=Zig e;simp only [utL,Q7];omega
noncomputable section
def Zxa:ArgL (List Edit × Unit):=(.cons (aSl .edit) .nil)
def ZkR(a:List Edit × Unit):Prop:=(∀ x∈a.1,Ym x)/\ctL a.1<=8000000000
def ZoW(a:List Edit × Unit):V U:= .tup [(true,(enc .edit ((JL a.1).1))),(false,[.bool ((JL a.1).2)])]
def ZeI:Fs U:=fs Zxa (fun a=> [ZkR a]) ZoW
def Znu:List (FuncId × Fs U):=[(68,Zez),(42,Z2Z)]
def ZzL:Zd U:=lvk [([0,2],[2]),([0,2,4],[2,4]),([2,4,10,11,12],[2,((.loc 4),[.any,.any,.unk .u64,.unk .tree,.any,.unk .u64,.unk .tree,.unk .wedit,.unk .kid,.any,.unk .op])]),([2,4,10,11,12,13],[2,4]),([2,4,6,10,11,12],[2,4,6]),([2,4,7,8,10,11,12],[2,4,7]),([2,4,7,10,11,12,23],[2,4,7]),([2,3],[2]),([2,4,10,11,12],[2,4]),([2,4,10,11,12],[2,((.loc 4),[.any,.any,.unk .u64,.unk .tree,.any,.unk .u64,.unk .tree,.unk .wedit,.unk .kid,.any,.unk .op])]),([2,3],[2])]
def ZaZ(l:List Edit)(x12 ml4_0 ml4_1 ml4_4 ml4_9:Int)(ml4_2:List Int)(ml4_3:List Tree)(ml4_5:List Int)(ml4_6:List Tree)(ml4_7:List WEdit)(ml4_8:List Kid)(ml4_10:List Op):LSt U:=(L2 [pL 2,pL 4,(10,.c (sU .edit l .unk)),pI 11 (l.length:Int),pI 12 x12] [(.loc 2,zc1),(.loc 4,[ci ml4_0,ci ml4_1,sU .u64 ml4_2 .unk,sU .tree ml4_3 .unk,ci ml4_4,sU .u64 ml4_5 .unk,sU .tree ml4_6 .unk,sU .wedit ml4_7 .unk,sU .kid ml4_8 .unk,ci ml4_9,sU .op ml4_10 .unk])])
abbrev A36(p:List Nat):=AW (Z1 Znu) Tryz.f36 ZzL p
abbrev S36(p:List Nat):=SW (Z1 Znu) Tryz.f36 ZzL p
theorem ZJf(l:List Edit)(Q:QT)(h:(Zj (A36 [1,1,0,1,0,0]) (ZaZ l 0 0 0 0 0 [] [] [] [] [] [] []) (xB 0 (S36 [1,1,1] Q)))):
  A36 [] (L2 [(0,.c (sU .edit l .unk))] []) Q:=
 Eq.mpr V4 h
theorem Zyj(l:List Edit)(x12 ml4_0 ml4_1 ml4_4 ml4_9:Int)(ml4_2:List Int)(ml4_3:List Tree)(ml4_5:List Int)(ml4_6:List Tree)(ml4_7:List WEdit)(ml4_8:List Kid)(ml4_10:List Op)(N0:NT)(Q:QT)(h:∀ y_1,y_1=(l.getD x12.toNat Edit.nil)->∀ y_2,y_2=(Edit.mk ml4_0 (Tree.mk ml4_1 ml4_2 ml4_3) (Tree.mk ml4_4 ml4_5 ml4_6) ml4_7 ml4_8 ml4_9 ml4_10)->∀ y_3,y_3=y_1->let z1:=Edit.new ((Z1e y_2 y_3).1);let z0:=Edit.old ((Z1e y_2 y_3).1);(iB (decide (x12 < (l.length:Int))) (((0:Int)<=x12/\x12 < (l.length:Int))/\((Z2b (y_2,y_3,()))/\(iB (!((Z1e y_2 y_3).2)) ((Q .ret (L2 [pL 2,pB 3 false] [(.loc 2,zc1)]))) (((InR (x12+1))/\(N0 (ZaZ l (x12+1) (Edit.kind ((Z1e y_2 y_3).1)) (Tree.kind z0) (Tree.kind z1) (Edit.list ((Z1e y_2 y_3).1)) (Tree.words z0) (Tree.kids z0) (Tree.words z1) (Tree.kids z1) (Edit.words ((Z1e y_2 y_3).1)) (Edit.kids ((Z1e y_2 y_3).1)) (Edit.ops ((Z1e y_2 y_3).1))))))))) ((Z3H (y_2,()))/\(Q .ret (L2 [pL 2,pB 3 true] [(.loc 2,(enc .edit (Zz y_2)))]))))):
  A36 [1,1,0,1,0,0] (ZaZ l x12 ml4_0 ml4_1 ml4_4 ml4_9 ml4_2 ml4_3 ml4_5 ml4_6 ml4_7 ml4_8 ml4_10) (xT N0 (xB 0 (S36 [1,1,1] Q))):=
 Eq.mpr V4 (h _ rfl _ rfl _ (Z7 _))
def ZG7(l:List Edit):Prop:=AW (Z1 Znu) Tryz.f36 ZzL [] (Zg (Zxa.can (l,())) []) (EQ Tryz.f36 (ZoW (l,())) [])
theorem ZDp(c68:CT 68 Zez)(c42:CT 42 Z2Z)(hb:∀ (l:List Edit) (_:Unit),ZkR (l,())->ZG7 l):CT 36 ZeI:=
 Z2 (l:=[(68,Zez),(42,Z2Z)]) Zi rfl (⟨c68,c42,trivial⟩) ZzL Tryz.func36 rfl rfl 1 (fun _=> rfl) V2 (fun ⟨l,_⟩=> hb l ())
end
theorem Ze4:∀ l:List Edit,l.length<=ctL l
 | []=> Q8 _
 | e ::r=> by have:=Ze4 r;have:=Zco e;simp only [ctL,Q7];omega
theorem ZAa{p q:Edit}(hp:Ym p)(hq:Ym q)(h:(Z1e p q).2=true)(hs:ctE p+ctE q<=9000000000):Ym (Z1e p q).1/\ctE (Z1e p q).1+18<=ctE p+ctE q:=by
 have F:=Zcp hp hq
 unfold Z1e at h ⊢
 split at h
 .rename_i hc
  rw [if_pos hc]
  have w:=F.wk hc
  have c:=F.ct trivial hc
  have n:=Z49 (Yy p q).1
  dsimp only
  exact ⟨⟨YL,Z0R _ _ w.r w.g,_,JG _ _ w.r⟩,YL⟩
 .cases h
theorem c36:Contract Tryz.prog cfg 36 ZeI:=by
 refine ZDp c68 ZnQ.1 ?_
 intro l _ hp
 simp only [ZkR] at hp
 obtain ⟨hx,hc⟩:=hp
 have hll:=Ze4 l
 refine ZJf _ _ ?_
 (simp only [iB,vcT,vcS])
 refine Z4 (ι:=Int × Edit) (fun j=> ZaZ l j.1 j.2.kind j.2.old.kind j.2.new.kind j.2.list j.2.old.words j.2.old.kids j.2.new.words j.2.new.kids j.2.words j.2.kids j.2.ops) (fun j=> (0<=j.1/\j.1<=l.length)/\(Ym j.2/\ctE j.2+ctL (l.drop j.1.toNat)<=8000000018)/\Z4E (l.drop j.1.toNat) j.2=Z4E l Edit.nil) (fun j=> ((l.length:Int) - j.1).toNat) (0,Edit.nil) rfl ⟨⟨YL,YL⟩,⟨Z4n,by
   have:ctE Edit.nil=18:=rfl
   grind⟩,by simp⟩ ?_
 rintro ⟨i,x⟩ ⟨⟨i1,i2⟩,⟨x1,x2⟩,x3⟩
 dsimp only at i1 i2 x1 x2 x3
 refine Zyj _ _ _ _ _ _ _ _ _ _ _ _ _ _ _ ?_
 rintro y1 hy1 y2 hy2 y3 rfl
 dsimp only at hy2
 have e2:y2=x:=by rw [hy2];obtain ⟨k,⟨_,_,_⟩,⟨_,_,_⟩,w,ks,l,os⟩:=x;rfl
 subst e2
 (simp only [iB,vcT,vcS])
 refine ⟨fun hi=> ?_,fun hi=> ?_⟩
 .have hd:=ZH i1 hi Edit.nil
  rw [<-hy1] at hd
  have hm:y3∈l:=by rw [hy1];exact Zf YL _
  rw [hd,ctL] at x2
  rw [hd,Z4E] at x3
  refine ⟨⟨i1,hi⟩,⟨x1,hx _ hm⟩,fun hc=> ?_,fun hc=> ⟨V3,(i+1,(Z1e y2 y3).1),rfl,⟨⟨YL,YL⟩,?_,?_⟩,YL⟩⟩
  .rw [if_neg (by grind)] at x3
   have:JL l=(Edit.nil,false):=by rw [JL,if_neg];rw [<-x3];decide
   simp only [ZoW,this]
   exact JR
  .have:=ZAa x1 (hx _ hm) hc YL
   grind
  grind
 .rw [Q6 YL,Z4E] at x3
  have hm:=Yj x1
  refine ⟨⟨by grind,x1.2.2⟩,?_⟩
  have:JL l=(Zz y2,true):=by rw [JL,<-x3];try rfl
  simp only [ZoW,this]
  exact JR
noncomputable def ZdI(e:Edit):Bool:=decide (0<=Z0X e 80 3000) && (!Z9 e 64 || Z2d e)
noncomputable def Zsa(f:Tree)(l:List Edit):Bool:=(decide (0<=ZJ f 80 3000) && decide (l.length<=8)) && l.all ZdI
noncomputable def ZlW(l:List Edit)(a b:Int):Edit × Bool:=
 if a < 0\/b < 0\/l.length < a\/l.length < b then (Edit.nil,false)
 else if a<=b then YW ((l.take b.toNat).drop a.toNat)
 else (Zz (Zs (YW ((l.take a.toNat).drop b.toNat)).1),(YW ((l.take a.toNat).drop b.toNat)).2)
noncomputable section
def ZC3:ArgL (Bnd × Unit):=(.cons (aEl .rbundle) .nil)
def ZCO(a:Bnd × Unit):Prop:=True
def ZHA(a:Bnd × Unit):V U:= .agg (enc .bundle a.1)
def Zkb:Fs U:=fs ZC3 (fun a=> [ZCO a]) ZHA
def pre6(a:Bnd × Unit):Prop:=Z3z (Bnd.first a.1)/\rng (Bnd.first a.1)/\(∀ e∈Bnd.log a.1,Z3V e/\YI e)/\(Bnd.log a.1).length<=17592186044416
def ZHC(a:Bnd × Unit):V U:= .c (.bool (Zsa (Bnd.first a.1) (Bnd.log a.1)))
def Zkd:Fs U:=fs ZC3 (fun a=> [pre6 a]) ZHC
def Zxl:ArgL (Bnd × Int × Unit):=(.cons (aEl .rbundle) (.cons (Ya .i64) .nil))
def Zpd(a:Bnd × Int × Unit):Prop:=((Zm (Bnd.first a.1)<=1000000000/\rng (Bnd.first a.1))/\ctL (Bnd.log a.1)<=9000000000)/\∀ e∈Bnd.log a.1,Z8 e<=1000000000/\YI e
def Zum(a:Bnd × Int × Unit):V U:= .tup [(true,(enc .tree ((atM (Bnd.first a.1) (Bnd.log a.1) a.2.1).1))),(false,[.bool ((atM (Bnd.first a.1) (Bnd.log a.1) a.2.1).2)])]
def ZeS:Fs U:=fs Zxl (fun a=> [Zpd a]) Zum
def ZC2:ArgL (Bnd × Int × Unit):=(.cons (aEl .bundle) (.cons (Ya .i64) .nil))
def ZCH(a:Bnd × Int × Unit):V U:= .tup [(true,(enc .tree ((atN (Bnd.first a.1) (Bnd.log a.1) a.2.1).1))),(false,[.bool ((atN (Bnd.first a.1) (Bnd.log a.1) a.2.1).2)])]
def Z60:Fs U:=fs ZC2 (fun a=> [Zpd a]) ZCH
def Zxk:ArgL (Bnd × Unit):=(.cons (aEl .bundle) .nil)
def ZuG(a:Bnd × Unit):Prop:=((Zm (Bnd.first a.1)<=1000000000/\rng (Bnd.first a.1))/\ctL (Bnd.log a.1)<=9000000000)/\∀ e∈Bnd.log a.1,Z8 e<=1000000000/\YI e
def ZBH(a:Bnd × Unit):V U:= .c (.bool ((atN (Bnd.first a.1) (Bnd.log a.1) (Bnd.log a.1).length).2))
def ZeQ:Fs U:=fs Zxk (fun a=> [ZuG a]) ZBH
def Zxj:ArgL (Bnd × Int × Int × Unit):=(.cons (aEl .bundle) (.cons (Ya .i64) (.cons (Ya .i64) .nil)))
def Zpc(a:Bnd × Int × Int × Unit):Prop:=(∀ e∈Bnd.log a.1,Ym e)/\ctL (Bnd.log a.1)<=8000000000
def Zui(a:Bnd × Int × Int × Unit):V U:= .tup [(true,(enc .edit ((Zcr (Bnd.log a.1) a.2.1 a.2.2.1).1))),(false,[.bool ((Zcr (Bnd.log a.1) a.2.1 a.2.2.1).2)])]
def Z64:Fs U:=fs Zxj (fun a=> [Zpc a]) Zui
def ZkQ(a:List Edit × Unit):Prop:=(∀ x∈a.1,refOk x)/\utL a.1<=8000000000
def ZoV(a:List Edit × Unit):V U:= .tup [(true,(enc .edit ((YW a.1).1))),(false,[.bool ((YW a.1).2)])]
def ZeH:Fs U:=fs Zxa (fun a=> [ZkQ a]) ZoV
def Zxi:ArgL (Bnd × Int × Int × Unit):=(.cons (aEl .rbundle) (.cons (Ya .i64) (.cons (Ya .i64) .nil)))
def ZuF(a:Bnd × Int × Int × Unit):Prop:=(∀ e∈Bnd.log a.1,refOk e)/\utL (Bnd.log a.1)<=8000000000
def Zub(a:Bnd × Int × Int × Unit):V U:= .tup [(true,(enc .edit ((ZlW (Bnd.log a.1) a.2.1 a.2.2.1).1))),(false,[.bool ((ZlW (Bnd.log a.1) a.2.1 a.2.2.1).2)])]
def ZeP:Fs U:=fs Zxi (fun a=> [ZuF a]) Zub
abbrev A8(p:List Nat):=AW (Z1 Znz) Tryz.f8 ZDX p
theorem vc8(b:Bnd)(Q:QT)(h:(Q .ret (L2 [pL 2] [(.loc 2,(enc .bundle b))]))):
  A8 [] (L2 [(0,.agg (enc .bundle b))] []) Q:=
 (Eq.mpr V4 h:)
abbrev ZIw(b:Bnd):Prop:=AW (Z1 Znz) Tryz.f8 ZDX [] (Zg (ZC3.can (b,())) []) (EQ Tryz.f8 (ZHA (b,())) [])
theorem ZHL(hb:∀ (b:Bnd) (_:Unit),ZCO (b,())->ZIw b):CT 8 Zkb:=
 Z2 (l:=[]) Zi rfl trivial ZDX Tryz.func8 rfl rfl 1 (fun _=> rfl) V2 (fun ⟨b,_⟩=> hb b ())
def Zw0:List (FuncId × Fs U):=[(22,ZeN),(27,ZeL),(28,Z62),(29,ZeK)]
def lv6:Zd U:=lvl [([1],[1]),([1,13],[1]),([2],[]),([1,3],[1]),([1,3,18],[1]),([1,3],[1]),([1,3,44],[1]),([2],[]),([2],[])]
def Ze0(b:Bnd)(x3:Int):LSt U:=(L2 [pL 1,pI 3 x3] [(.loc 1,(enc .bundle b))])
abbrev A6(p:List Nat):=AW (Z1 Zw0) Tryz.f6 lv6 p
abbrev S6(p:List Nat):=SW (Z1 Zw0) Tryz.f6 lv6 p
theorem vc6(b:Bnd)(Q:QT)(h:let z1:=Tree.mk (Tree.kind (Bnd.first b)) (Tree.words (Bnd.first b)) (Tree.kids (Bnd.first b));let z0:= !(decide (0<=ZJ z1 80 3000));((ZuE (z1,()))/\(Tt (!z0))/\(Tt (!z0))/\(Tt (!z0))/\(z0=false->(!z0)=true)/\(iB (bif z0 then true else (decide ((8:Int) < ((Bnd.log b).length:Int)))) ((Q .ret (L2 [pB 2 false] []))) ((Zj (A6 [1,1,0,1,0,0]) (Ze0 b 0) (xB 0 (S6 [1,1,1] Q))))))):
  A6 [] (L2 [(0,.agg (enc .bundle b))] []) Q:=
 (Eq.mpr V4 h:)
theorem ZCu(b:Bnd)(x3:Int)(N0:NT)(Q:QT)(h:∀ y_1,y_1=(List.getD (Bnd.log b) x3.toNat Edit.nil)->∀ y_2,y_2=y_1->let z0:= !(decide (0<=Z0X y_2 80 3000));let z1:=(!z0) && (Z9 y_2 64);(iB (decide (x3 < ((Bnd.log b).length:Int))) (((0:Int)<=x3/\x3 < ((Bnd.log b).length:Int))/\(ZuD (y_2,()))/\(Tt (!z0))/\(Tt (!z0))/\(Tt (!z0))/\((!z0)=true->(0:Int)<=x3/\x3 < ((Bnd.log b).length:Int))/\(Tt (!z0))/\(Tt (!z0))/\((!z0)=true->Z9Z (y_2,64,()))/\(Tt (!z0))/\(Tt z1)/\(Tt z1)/\(Tt z1)/\(z1=true->(0:Int)<=x3/\x3 < ((Bnd.log b).length:Int))/\(Tt z1)/\(Tt z1)/\(z1=true->Zfr (y_2,()))/\(Tt z1)/\((!z0)=true->(True->(!z0)=true))/\((!z0)=true->((Z9 y_2 64)=true->z1=true))/\(z0=false->(!z0)=true)/\(iB (bif z0 then true else (bif (Z9 y_2 64) then (!(Z2d y_2)) else false)) ((Q .ret (L2 [pB 2 false] []))) ((InR (x3+1))/\(N0 (Ze0 b (x3+1)))))) ((Q .ret (L2 [pB 2 true] []))))):
  A6 [1,1,0,1,0,0] (Ze0 b x3) (xT N0 (xB 0 (S6 [1,1,1] Q))):=
 (Eq.mpr V4 (h _ rfl _ (Z7 _)):)
abbrev ZIy(b:Bnd):Prop:=AW (Z1 Zw0) Tryz.f6 lv6 [] (Zg (ZC3.can (b,())) []) (EQ Tryz.f6 (ZHC (b,())) [])
theorem ZHN(c22:CT 22 ZeN)(c27:CT 27 ZeL)(c28:CT 28 Z62)(c29:CT 29 ZeK)(hb:∀ (b:Bnd) (_:Unit),pre6 (b,())->ZIy b):CT 6 Zkd:=
 Z2 (l:=[(22,ZeN),(27,ZeL),(28,Z62),(29,ZeK)]) Zi rfl (⟨c22,c27,c28,c29,trivial⟩) lv6 Tryz.func6 rfl rfl 1 (fun _=> rfl) V2 (fun ⟨b,_⟩=> hb b ())
def ZnD:List (FuncId × Fs U):=[(28,Z62),(20,ZeD),(34,JF),(35,Z30)]
def ZzU:Zd U:=lvl [([1,2,4],[2,4]),([1,2,4,30],[2,4]),([4,5],[4]),([1,2,4,6],[2,4,6]),([1,2,4,6,7],[2,4,6]),([1,2,4,6,7,37],[2,4,6]),([1,2,4,6,7],[2,4,6]),([1,2,4,6,7,46],[2,4,6]),([4,5],[4]),([1,2,4,6,7,8,9],[2,4,6,8]),([1,2,4,6,7,8,64],[2,4,6,8]),([4,5],[4]),([1,2,4,6,7],[2,4,6]),([4,5],[4])]
def Zbe(b:Bnd)(n x7 ml6_0:Int)(ml6_1:List Int)(ml6_2:List Tree):LSt U:=(L2 [pI 1 n,pL 2,pL 4,pL 6,pI 7 x7] [(.loc 2,(enc .bundle b)),(.loc 4,[ci 0,.nils,.nils]),(.loc 6,[ci ml6_0,sU .u64 ml6_1 .unk,sU .tree ml6_2 .unk])])
abbrev A10(p:List Nat):=AW (Z1 ZnD) Tryz.f10 ZzU p
abbrev S10(p:List Nat):=SW (Z1 ZnD) Tryz.f10 ZzU p
theorem ZJy(b:Bnd)(n:Int)(Q:QT)(h:∀ y_1,y_1=(Bnd.first b)->let z2:= !(Ze y_1 64);let z0:=bif z2 then true else (((Tree.kind (Bnd.first b)):Int)==10);let z1:=bif z0 then true else (decide (n < 0));((ZcX (y_1,64,()))/\(Tt (!z2))/\(Tt (!z2))/\(Tt (!z2))/\(z2=false->(!z2)=true)/\(Tt (!z0))/\(z0=false->(!z0)=true)/\(Tt (!z1))/\(Tt (!z1))/\(Tt (!z1))/\(Tt (!z1))/\(z1=false->(!z1)=true)/\(iB (bif z1 then true else (decide ((((Bnd.log b).length:Int):Int) < n))) ((Q .ret (L2 [pL 4,pB 5 false] [(.loc 4,[ci 0,.nils,.nils])]))) ((JK (y_1,()))/\(Zj (A10 [1,1,1,0,1,0,0]) (Zbe b n 0 (Tree.kind (Z5 y_1)) (Tree.words (Z5 y_1)) (Tree.kids (Z5 y_1))) (xB 0 (S10 [1,1,1,1] Q))))))):
  A10 [] (L2 [(0,.agg (enc .bundle b)),pI 1 n] []) Q:=
 (Eq.mpr V4 (h _ (Za _)):)
theorem Zyz(b:Bnd)(n x7 ml6_0:Int)(ml6_1:List Int)(ml6_2:List Tree)(N0:NT)(Q:QT)(h:∀ y_1,y_1=(List.getD (Bnd.log b) x7.toNat Edit.nil)->∀ y_2,y_2=y_1->∀ y_3,y_3=(Yc (doE true y_2 (Tree.mk ml6_0 ml6_1 ml6_2)))->let z1:=(Q .ret (L2 [pL 4,pB 5 false] [(.loc 4,[ci 0,.nils,.nils])]));let z0:=doE true y_2 (Tree.mk ml6_0 ml6_1 ml6_2);(iB (decide (x7 < n)) (((0:Int)<=x7/\x7 < ((Bnd.log b).length:Int))/\(Z9Z (y_2,64,()))/\(iB (!(Z9 y_2 64)) z1 (((0:Int)<=x7/\x7 < ((Bnd.log b).length:Int))/\(Z4o (y_2,(Tree.mk ml6_0 ml6_1 ml6_2),()))/\((Tt (!(!(z0.isSome))))/\((!(!(z0.isSome)))=true->ZcX (y_3,64,()))/\(Tt (!(!(z0.isSome))))/\((!(z0.isSome))=false->(!(!(z0.isSome)))=true)/\(iB (bif (!(z0.isSome)) then true else (!(Ze y_3 64))) z1 (((InR (x7+1))/\(N0 (Zbe b n (x7+1) (Tree.kind (Yc z0)) (Tree.words (Yc z0)) (Tree.kids (Yc z0))))))))))) ((Q .ret (L2 [pL 4,pB 5 true] [(.loc 4,[ci ml6_0,sU .u64 ml6_1 .unk,sU .tree ml6_2 .unk])]))))):
  A10 [1,1,1,0,1,0,0] (Zbe b n x7 ml6_0 ml6_1 ml6_2) (xT N0 (xB 0 (S10 [1,1,1,1] Q))):=
 (Eq.mpr V4 (h _ rfl _ (Z7 _) _ (Za _)):)
abbrev ZGq(b:Bnd)(n:Int):Prop:=AW (Z1 ZnD) Tryz.f10 ZzU [] (Zg (Zxl.can (b,n,())) []) (EQ Tryz.f10 (Zum (b,n,())) [])
theorem ZDG(c28:CT 28 Z62)(c20:CT 20 ZeD)(c34:CT 34 JF)(c35:CT 35 Z30)(hb:∀ (b:Bnd) (n:Int) (_:Unit),Zpd (b,n,())->ZGq b n):CT 10 ZeS:=
 Z2 (l:=[(28,Z62),(20,ZeD),(34,JF),(35,Z30)]) Zi rfl (⟨c28,c20,c34,c35,trivial⟩) ZzU Tryz.func10 rfl rfl 2 (fun _=> rfl) V2 (fun ⟨b,n,_⟩=> hb b n ())
def ZvU:List (FuncId × Fs U):=[(32,Z26),(30,Z31),(31,ZeJ),(33,JF)]
def lv9:Zd U:=lvl [([1,2,4],[2,4]),([1,2,4,6],[2,4,6]),([1,2,4,6,31],[2,4,6]),([4,5],[4]),([4,6,36,37,38],[4,6]),([4,6,36,37,38,39],[4,6]),([4,6,8,36,37,38],[4,6,8]),([4,6,8,36,37,38,44],[4,6,8]),([4,5],[4]),([4,6,9,10,36,37,38],[4,6,9]),([4,6,9,36,37,38,58],[4,6,9]),([4,5],[4]),([4,6,36,37,38],[4,6]),([4,6,36,37,38],[4,6]),([4,5],[4])]
def ZdZ(b:Bnd)(n x38 ml6_0:Int)(ml6_1:List Int)(ml6_2:List Tree):LSt U:=(L2 [pL 4,pL 6,(36,.c (sU .edit (List.take n.toNat (Bnd.log b)) .unk)),pI 37 ((List.take n.toNat (Bnd.log b)).length:Int),pI 38 x38] [(.loc 4,[ci 0,.nils,.nils]),(.loc 6,[ci ml6_0,sU .u64 ml6_1 .unk,sU .tree ml6_2 .unk])])
abbrev A9(p:List Nat):=AW (Z1 ZvU) Tryz.f9 lv9 p
abbrev S9(p:List Nat):=SW (Z1 ZvU) Tryz.f9 lv9 p
theorem vc9(b:Bnd)(n:Int)(Q:QT)(h:∀ y_1,y_1=(Bnd.first b)->let z2:= !(Ze y_1 64);let z0:=bif z2 then true else (((Tree.kind (Bnd.first b)):Int)==10);let z1:=bif z0 then true else (decide (n < 0));((Zhu (y_1,()))/\(Tt (!z2))/\(Tt (!z2))/\(z2=false->(!z2)=true)/\(Tt (!z0))/\(z0=false->(!z0)=true)/\(Tt (!z1))/\(Tt (!z1))/\(Tt (!z1))/\(Tt (!z1))/\(z1=false->(!z1)=true)/\(iB (bif z1 then true else (decide ((((Bnd.log b).length:Int):Int) < n))) ((Q .ret (L2 [pL 4,pB 5 false] [(.loc 4,[ci 0,.nils,.nils])]))) (((0:Int)<=n/\n<=((Bnd.log b).length:Int))/\(Zj (A9 [1,1,1,0,1,0,0]) (ZdZ b n 0 (Tree.kind (Bnd.first b)) (Tree.words (Bnd.first b)) (Tree.kids (Bnd.first b))) (xB 0 (S9 [1,1,1,1] Q))))))):
  A9 [] (L2 [(0,.agg (enc .bundle b)),pI 1 n] []) Q:=
 (Eq.mpr V4 (h _ (Za _)):)
theorem ZCt(b:Bnd)(n x38 ml6_0:Int)(ml6_1:List Int)(ml6_2:List Tree)(N0:NT)(Q:QT)(h:∀ y_1,y_1=(List.getD (List.take n.toNat (Bnd.log b)) x38.toNat Edit.nil)->∀ y_2,y_2=y_1->∀ y_3,y_3=(Yc ((doE false y_2 (Tree.mk ml6_0 ml6_1 ml6_2)).map Z5))->∀ y_4,y_4=y_3->let z3:=List.take n.toNat (Bnd.log b);let z2:=(Q .ret (L2 [pL 4,pB 5 false] [(.loc 4,[ci 0,.nils,.nils])]));let z1:=Tree.mk ml6_0 ml6_1 ml6_2;let z0:= !((doE false y_2 z1).isSome);(iB (decide (x38 < (z3.length:Int))) (((0:Int)<=x38/\x38 < (z3.length:Int))/\((Zpb (y_2,()))/\(iB (!(Z9 y_2 64)) z2 ((Z4o (y_2,z1,()))/\((Tt (!z0))/\((!z0)=true->Zhu (y_4,()))/\(Tt (!z0))/\(z0=false->(!z0)=true)/\(iB (bif z0 then true else (!(Ze y_4 64))) z2 (((InR (x38+1))/\(N0 (ZdZ b n (x38+1) y_3.kind y_3.words y_3.kids)))))))))) ((JK (z1,()))/\(Q .ret (L2 [pL 4,pB 5 true] [(.loc 4,(enc .tree (Z5 z1)))]))))):
  A9 [1,1,1,0,1,0,0] (ZdZ b n x38 ml6_0 ml6_1 ml6_2) (xT N0 (xB 0 (S9 [1,1,1,1] Q))):=
 (Eq.mpr V4 (h _ rfl _ (Z7 _) _ rfl _ (Za _)):)
abbrev ZIv(b:Bnd)(n:Int):Prop:=AW (Z1 ZvU) Tryz.f9 lv9 [] (Zg (ZC2.can (b,n,())) []) (EQ Tryz.f9 (ZCH (b,n,())) [])
theorem ZHK(c32:CT 32 Z26)(c30:CT 30 Z31)(c31:CT 31 ZeJ)(c33:CT 33 JF)(hb:∀ (b:Bnd) (n:Int) (_:Unit),Zpd (b,n,())->ZIv b n):CT 9 Z60:=
 Z2 (l:=[(32,Z26),(30,Z31),(31,ZeJ),(33,JF)]) Zi rfl (⟨c32,c30,c31,c33,trivial⟩) lv9 Tryz.func9 rfl rfl 2 (fun _=> rfl) V2 (fun ⟨b,n,_⟩=> hb b n ())
def Zwe:List (FuncId × Fs U):=[(9,Z60)]
def ZE7:Zd U:=lvl [([1],[1]),([4],[]),([2],[])]
abbrev A12(p:List Nat):=AW (Z1 Zwe) Tryz.f12 ZE7 p
theorem ZJw(b:Bnd)(Q:QT)(h:let z0:=Bnd.mk (Tree.mk (Tree.kind (Bnd.first b)) (Tree.words (Bnd.first b)) (Tree.kids (Bnd.first b))) (Bnd.log b);((Zpd (z0,((Bnd.log b).length:Int),()))/\(Q .ret (L2 [(2,.c (.bool ((atN (Bnd.first z0) (Bnd.log z0) ((Bnd.log b).length:Int)).2)))] [])))):
  A12 [] (L2 [(0,.agg (enc .bundle b))] []) Q:=
 (Eq.mpr V4 h:)
abbrev ZGo(b:Bnd):Prop:=AW (Z1 Zwe) Tryz.f12 ZE7 [] (Zg (Zxk.can (b,())) []) (EQ Tryz.f12 (ZBH (b,())) [])
theorem ZDE(c9:CT 9 Z60)(hb:∀ (b:Bnd) (_:Unit),ZuG (b,())->ZGo b):CT 12 ZeQ:=
 Z2 (l:=[(9,Z60)]) Zi rfl (⟨c9,trivial⟩) ZE7 Tryz.func12 rfl rfl 1 (fun _=> rfl) V2 (fun ⟨b,_⟩=> hb b ())
def Zwd:List (FuncId × Fs U):=[(36,ZeI),(37,Z25)]
def ZE6:Zd U:=lvl [([1,2,3,6],[3,6]),([1,2,3,6,10],[3,6]),([6,7],[6]),([1,2,3,6,32],[3,6]),([6,7],[6]),([6,8,9],[6,8]),([6,7],[6])]
abbrev A13(p:List Nat):=AW (Z1 Zwd) Tryz.f13 ZE6 p
theorem ZJv(b:Bnd)(from_ to:Int)(Q:QT)(h:∀ y_1,y_1=(List.drop from_.toNat (List.take to.toNat (Bnd.log b)))->∀ y_2,y_2=(List.drop to.toNat (List.take from_.toNat (Bnd.log b)))->∀ y_3,y_3=((JL y_2).1)->let z2:=decide (from_ < 0);let z1:=bif z2 then true else (decide (to < 0));let z0:=bif z1 then true else (decide ((((Bnd.log b).length:Int):Int) < from_));((Tt (!z2))/\(z2=false->(!z2)=true)/\(Tt (!z1))/\(Tt (!z1))/\(Tt (!z1))/\(Tt (!z1))/\(z1=false->(!z1)=true)/\(Tt (!z0))/\(Tt (!z0))/\(Tt (!z0))/\(Tt (!z0))/\(z0=false->(!z0)=true)/\(iB (bif z0 then true else (decide ((((Bnd.log b).length:Int):Int) < to))) ((Q .ret (L2 [pL 6,pB 7 false] [(.loc 6,zc1)]))) ((iB (decide (from_<=to)) (((0:Int)<=from_/\from_<=to/\to<=((Bnd.log b).length:Int))/\(ZkR (y_1,()))/\(Q .ret (L2 [pL 6,pB 7 ((JL y_1).2)] [(.loc 6,(enc .edit ((JL y_1).1)))]))) (((0:Int)<=to/\to<=from_/\from_<=((Bnd.log b).length:Int))/\(ZkR (y_2,()))/\((Z3H (y_3,()))/\(Q .ret (L2 [pL 6,pB 7 ((JL y_2).2)] [(.loc 6,(enc .edit (Zz (Zs y_3))))]))))))))):
  A13 [] (L2 [(0,.agg (enc .bundle b)),pI 1 from_,pI 2 to] []) Q:=
 (Eq.mpr V4 (h _ rfl _ rfl _ (Z7 _)):)
abbrev ZGn(b:Bnd)(from_ to:Int):Prop:=AW (Z1 Zwd) Tryz.f13 ZE6 [] (Zg (Zxj.can (b,from_,to,())) []) (EQ Tryz.f13 (Zui (b,from_,to,())) [])
theorem ZDD(c36:CT 36 ZeI)(c37:CT 37 Z25)(hb:∀ (b:Bnd) (from_:Int) (to:Int) (_:Unit),Zpc (b,from_,to,())->ZGn b from_ to):CT 13 Z64:=
 Z2 (l:=[(36,ZeI),(37,Z25)]) Zi rfl (⟨c36,c37,trivial⟩) ZE6 Tryz.func13 rfl rfl 3 (fun _=> rfl) V2 (fun ⟨b,from_,to,_⟩=> hb b from_ to ())
def Znt:List (FuncId × Fs U):=[(44,Z2Z),(70,Zex)]
def ZzK:Zd U:=lvk [([0,2],[2]),([0,2,4],[2,4]),([0,2,4,5],[2,((.loc 4),[.any,.any,.unk .u64,.unk .tree,.any,.unk .u64,.unk .tree,.unk .wedit,.unk .kid,.any,.unk .op])]),([0,2,4,5,12],[2,4]),([0,2,4,5],[2,((.loc 4),[.any,.any,.unk .u64,.unk .tree,.any,.unk .u64,.unk .tree,.unk .wedit,.unk .kid,.any,.unk .op])]),([0,2,4,5,6,7],[2,4,6]),([0,2,4,5,6,25],[2,4,6]),([2,3],[2]),([0,2,4,5],[2,4]),([2,3],[2])]
def ZaY(l:List Edit)(x5 ml4_0 ml4_1 ml4_4 ml4_9:Int)(ml4_2:List Int)(ml4_3:List Tree)(ml4_5:List Int)(ml4_6:List Tree)(ml4_7:List WEdit)(ml4_8:List Kid)(ml4_10:List Op):LSt U:=(L2 [(0,.c (sU .edit l .unk)),pL 2,pL 4,pI 5 x5] [(.loc 2,zc1),(.loc 4,[ci ml4_0,ci ml4_1,sU .u64 ml4_2 .unk,sU .tree ml4_3 .unk,ci ml4_4,sU .u64 ml4_5 .unk,sU .tree ml4_6 .unk,sU .wedit ml4_7 .unk,sU .kid ml4_8 .unk,ci ml4_9,sU .op ml4_10 .unk])])
abbrev A38(p:List Nat):=AW (Z1 Znt) Tryz.f38 ZzK p
abbrev S38(p:List Nat):=SW (Z1 Znt) Tryz.f38 ZzK p
theorem ZJd(l:List Edit)(Q:QT)(h:(Zj (A38 [1,1,0,1,0,0]) (ZaY l 0 0 0 0 0 [] [] [] [] [] [] []) (xB 0 (S38 [1,1,1] Q)))):
  A38 [] (L2 [(0,.c (sU .edit l .unk))] []) Q:=
 (Eq.mpr V4 h:)
theorem Zyi(l:List Edit)(x5 ml4_0 ml4_1 ml4_4 ml4_9:Int)(ml4_2:List Int)(ml4_3:List Tree)(ml4_5:List Int)(ml4_6:List Tree)(ml4_7:List WEdit)(ml4_8:List Kid)(ml4_10:List Op)(N0:NT)(Q:QT)(h:∀ y_1,y_1=(l.getD x5.toNat Edit.nil)->∀ y_2,y_2=(Edit.mk ml4_0 (Tree.mk ml4_1 ml4_2 ml4_3) (Tree.mk ml4_4 ml4_5 ml4_6) ml4_7 ml4_8 ml4_9 ml4_10)->∀ y_3,y_3=y_1->let z1:=Edit.new ((Z3Y y_2 y_3).1);let z0:=Edit.old ((Z3Y y_2 y_3).1);(iB (decide (x5 < (l.length:Int))) (((0:Int)<=x5/\x5 < (l.length:Int))/\(ZuA (y_2,y_3,()))/\(iB (!((Z3Y y_2 y_3).2)) ((Q .ret (L2 [pL 2,pB 3 false] [(.loc 2,zc1)]))) (((InR (x5+1))/\(N0 (ZaY l (x5+1) (Edit.kind ((Z3Y y_2 y_3).1)) (Tree.kind z0) (Tree.kind z1) (Edit.list ((Z3Y y_2 y_3).1)) (Tree.words z0) (Tree.kids z0) (Tree.words z1) (Tree.kids z1) (Edit.words ((Z3Y y_2 y_3).1)) (Edit.kids ((Z3Y y_2 y_3).1)) (Edit.ops ((Z3Y y_2 y_3).1)))))))) ((Z3H (y_2,()))/\(Q .ret (L2 [pL 2,pB 3 true] [(.loc 2,(enc .edit (Zz y_2)))]))))):
  A38 [1,1,0,1,0,0] (ZaY l x5 ml4_0 ml4_1 ml4_4 ml4_9 ml4_2 ml4_3 ml4_5 ml4_6 ml4_7 ml4_8 ml4_10) (xT N0 (xB 0 (S38 [1,1,1] Q))):=
 (Eq.mpr V4 (h _ rfl _ rfl _ (Z7 _)):)
abbrev ZG5(l:List Edit):Prop:=AW (Z1 Znt) Tryz.f38 ZzK [] (Zg (Zxa.can (l,())) []) (EQ Tryz.f38 (ZoV (l,())) [])
theorem ZDn(c44:CT 44 Z2Z)(c70:CT 70 Zex)(hb:∀ (l:List Edit) (_:Unit),ZkQ (l,())->ZG5 l):CT 38 ZeH:=
 Z2 (l:=[(44,Z2Z),(70,Zex)]) Zi rfl (⟨c44,c70,trivial⟩) ZzK Tryz.func38 rfl rfl 1 (fun _=> rfl) V2 (fun ⟨l,_⟩=> hb l ())
def Zwc:List (FuncId × Fs U):=[(38,ZeH),(39,Z25)]
def ZE5:Zd U:=lvl [([1,2,3,6],[3,6]),([1,2,3,6,29],[3,6]),([6,7],[6]),([1,2,3,6,33],[3,6]),([6,7],[6]),([6,8,9],[6,8]),([6,7],[6])]
abbrev A14(p:List Nat):=AW (Z1 Zwc) Tryz.f14 ZE5 p
theorem ZJu(b:Bnd)(from_ to:Int)(Q:QT)(h:∀ y_1,y_1=(List.drop from_.toNat (List.take to.toNat (Bnd.log b)))->∀ y_2,y_2=(List.drop to.toNat (List.take from_.toNat (Bnd.log b)))->∀ y_3,y_3=((YW y_2).1)->let z2:=decide (from_ < 0);let z1:=bif z2 then true else (decide (to < 0));let z0:=bif z1 then true else (decide ((((Bnd.log b).length:Int):Int) < from_));((Tt (!z2))/\(z2=false->(!z2)=true)/\(Tt (!z1))/\(Tt (!z1))/\(Tt (!z1))/\(Tt (!z1))/\(z1=false->(!z1)=true)/\(Tt (!z0))/\(Tt (!z0))/\(Tt (!z0))/\(Tt (!z0))/\(z0=false->(!z0)=true)/\(iB (bif z0 then true else (decide ((((Bnd.log b).length:Int):Int) < to))) ((Q .ret (L2 [pL 6,pB 7 false] [(.loc 6,zc1)]))) ((iB (decide (from_<=to)) (((0:Int)<=from_/\from_<=to/\to<=((Bnd.log b).length:Int))/\(ZkQ (y_1,()))/\(Q .ret (L2 [pL 6,pB 7 ((YW y_1).2)] [(.loc 6,(enc .edit ((YW y_1).1)))]))) (((0:Int)<=to/\to<=from_/\from_<=((Bnd.log b).length:Int))/\(ZkQ (y_2,()))/\((Z3H (y_3,()))/\(Q .ret (L2 [pL 6,pB 7 ((YW y_2).2)] [(.loc 6,(enc .edit (Zz (Zs y_3))))]))))))))):
  A14 [] (L2 [(0,.agg (enc .bundle b)),pI 1 from_,pI 2 to] []) Q:=
 (Eq.mpr V4 (h _ rfl _ rfl _ (Z7 _)):)
abbrev ZGm(b:Bnd)(from_ to:Int):Prop:=AW (Z1 Zwc) Tryz.f14 ZE5 [] (Zg (Zxi.can (b,from_,to,())) []) (EQ Tryz.f14 (Zub (b,from_,to,())) [])
theorem ZDC(c38:CT 38 ZeH)(c39:CT 39 Z25)(hb:∀ (b:Bnd) (from_:Int) (to:Int) (_:Unit),ZuF (b,from_,to,())->ZGm b from_ to):CT 14 ZeP:=
 Z2 (l:=[(38,ZeH),(39,Z25)]) Zi rfl (⟨c38,c39,trivial⟩) ZE5 Tryz.func14 rfl rfl 3 (fun _=> rfl) V2 (fun ⟨b,from_,to,_⟩=> hb b from_ to ())
end
theorem c8:Contract Tryz.prog cfg 8 Zkb:=by
 refine ZHL ?_
 intro b _ _
 refine vc8 _ _ ?_
 exact JR
theorem Zwk(e:Edit)(r:List Edit):(e ::r).all ZdI=(ZdI e && r.all ZdI):=rfl
theorem c6:Contract Tryz.prog cfg 6 Zkd:=by
 refine ZHN c22 c27 ZwC.1 c29 ?_
 intro b _ hp
 obtain ⟨h1,h2,h3,h4⟩:=hp
 dsimp only at h1 h2 h3 h4
 refine vc6 _ _ ?_
 (simp only [Tree.eta,Edit.eta,Tree.kind_mk,Tree.words_mk,Tree.kids_mk])
 (simp only [iB,vcT,vcS])
 refine ⟨h1,fun hb=> ?_,fun hb=> ?_⟩
 .refine Z6 rfl ?_
  unfold Zsa
  rcases hb with h | h
  .rw [decide_eq_false h];try rfl
  .rw [decide_eq_false (show ¬b.log.length<=8 by omega),Bool.and_false];try rfl
 .have hb1:decide (0<=ZJ b.first 80 3000)=true:=by simpa using hb.1
  have hb2:b.log.length<=8:=YL
  refine Z4 (ι:=Int) (fun i=> Ze0 b i) (fun i=> (0<=i/\i<=b.log.length)/\b.log.all ZdI=(b.log.drop i.toNat).all ZdI) (fun i=> ((b.log.length:Int) - i).toNat) 0 rfl ⟨⟨YL,YL⟩,rfl⟩ ?_
  rintro i ⟨⟨i0,i1⟩,f3⟩
  refine ZCu _ _ _ _ ?_
  intro y1 e1 y2 e2
  subst e2
  (simp only [iB,vcT,vcS])
  refine ⟨fun hi=> ?_,fun hi=> ?_⟩
  .rw [ZH i0 hi Edit.nil,<-e1,Zwk] at f3
   have hm:y2∈b.log:=by rw [e1];exact Zf YL _
   have hs:=h3 y2 hm
   refine ⟨⟨i0,hi⟩,hs.1,fun _=> ⟨i0,hi⟩,fun h=> ⟨⟨by dsimp only;have:=Zcn h;omega,hs.2⟩,V5,V5⟩,fun _=> ⟨i0,hi⟩,fun h=> ⟨⟨by dsimp only;have:=Zcn h.1;omega,hs.2⟩,64,h.2⟩,fun h hr=> ⟨h,hr⟩,fun hx=> ?_,
    fun hx=> ⟨V3,i+1,rfl,⟨⟨YL,YL⟩,?_⟩,YL⟩⟩
   .have e:ZdI y2=false:=by
     unfold ZdI
     rcases hx with h | h
     .rw [decide_eq_false h];try rfl
     .rw [h.1,h.2];simp
    refine Z6 rfl ?_
    unfold Zsa
    rw [f3,e]
    simp
   .have e:ZdI y2=true:=by
     unfold ZdI
     rw [decide_eq_true hx.1]
     rcases hx.2 with h | h
     .rw [h];try rfl
     .rw [h];simp
    rw [f3,e,QX]
  .rw [Q6 YL] at f3
   refine Z6 rfl ?_
   unfold Zsa
   rw [hb1,decide_eq_true hb2,f3]
   try rfl
theorem Zqs{f:Tree}{l:List Edit}{n:Int}(h:((Ze f 64=false\/f.kind=10)\/n < 0)\/(l.length:Int) < n):¬atO f l n:=by
 rintro ⟨h1,h2,h3,h4⟩
 rcases h with ((h | h) | h) | h
 .rw [h1] at h;cases h
 .exact h2 h
 .omega
 .omega
theorem Zqr{f:Tree}{l:List Edit}{n:Int}(h:((Ze f 64=true/\¬f.kind=10)/\¬n < 0)/\¬(l.length:Int) < n):atO f l n:=⟨h.1.1.1,h.1.1.2,YL,YL⟩
theorem Zc2{e:Edit}{t u:Tree}(h:Z9 e 64=true)(hd:doE false e t=some u):Zm (Z5 u)<=Zm t+ctE e:=by
 have:=Z1O false _ 64 _ _ h hd
 have:=ZK u
 omega
theorem Z6R(l:List Edit)(a b:Nat):ctL ((l.take b).drop a)<=ctL l:=by
 have h1:=Zjv (l.take b) (l.drop b)
 have h2:=Zjv ((l.take b).take a) ((l.take b).drop a)
 rw [QH] at h1 h2
 omega
set_option maxHeartbeats 1000000 in
theorem c10:Contract Tryz.prog cfg 10 ZeS:=by
 refine ZDG ZwC.1 c20 c34 c35 ?_
 intro b n _ hp
 obtain ⟨⟨⟨hm,hg⟩,hc⟩,he⟩:=hp
 dsimp only at hm hg hc he
 have hl:=Ze4 b.log
 have hc0:=Z6R b.log 0 n.toNat
 have fin:∀ {X:Tree × Bool} {s:LSt U},atM b.first b.log n=X->Y2 cfg Tryz.f10.ntmps Tryz.f10.results.toList (.tup [(true,enc .tree X.1),(false,[.bool X.2])]) [] .ret s->Y2 cfg Tryz.f10.ntmps Tryz.f10.results.toList (Zum (b,n,())) [] .ret s:=by
  intro X s h hs
  subst h
  exact hs
 refine ZJy _ _ _ ?_
 intro y1 e1
 subst e1
 (simp only [iB,vcT,vcS])
 refine ⟨⟨V5,hg,V5,V5⟩,fun hb=> fin (X:=(Tree.nil,false)) (by unfold atM;rw [if_neg (Zqs hb)]) JR,fun hb=> ⟨by dsimp only [JK];omega,?_⟩⟩
 have hA:=Zqr hb
 have eA:atM b.first b.log n=oT (atG (b.log.take n.toNat) (Z5 b.first)):=by unfold atM;rw [if_pos hA]
 have hn:=hA.2.2
 have nm:=ZK b.first
 refine Z4 (ι:=Int × Tree) (fun s=> Zbe b n s.1 s.2.kind s.2.words s.2.kids) (fun s=> (0<=s.1/\s.1<=n)/\atG (b.log.take n.toNat) (Z5 b.first)=atG ((b.log.take n.toNat).drop s.1.toNat) s.2/\Zm s.2+ctL ((b.log.take n.toNat).drop s.1.toNat)<=10000000000/\rng s.2) (fun s=> (n - s.1).toNat) (0,Z5 b.first) rfl ⟨⟨V5,V5⟩,rfl,by dsimp only at hc0 ⊢;show Zm (Z5 b.first)+ctL ((b.log.take n.toNat).drop 0)<=_;omega,J9 _ hg⟩ ?_
 rintro ⟨i,t⟩ ⟨⟨i0,i1⟩,f3,mt,gt⟩
 dsimp only at i0 i1 f3 mt gt
 have ll:((b.log.take n.toNat).length:Int)=n:=by rw [Qn];omega
 refine Zyz _ _ _ _ _ _ _ _ ?_
 intro y1 e1 y2 e2 y3 e3
 subst e2
 (simp only [Tree.eta,Edit.eta,Tree.kind_mk,Tree.words_mk,Tree.kids_mk])
 rw [Tree.eta] at e3
 (simp only [iB,vcT,vcS])
 refine ⟨fun hi=> ?_,fun hi=> ?_⟩
 .have e1':y2=(b.log.take n.toNat).getD i.toNat Edit.nil:=by
   rw [e1,Qh,Qh,X8 YL]
  rw [ZH i0 YL Edit.nil,<-e1',ctL] at mt
  rw [ZH i0 YL Edit.nil,<-e1',atG] at f3
  have hmem:y2∈b.log:=by rw [e1];exact Zf YL _
  obtain ⟨me,ge⟩:=he y2 hmem
  have ce:=Zbk y2
  refine ⟨⟨i0,YL⟩,⟨⟨V5,ge⟩,V5,V5⟩,fun hr=> fin (X:=(Tree.nil,false)) (by rw [eA,f3,if_neg (by rw [hr];decide)];rfl) JR,fun hr=> ?_⟩
  rw [if_pos hr] at f3
  have p19:Z4o (y2,t,()):=⟨⟨V5,ge,64,hr⟩,V5,gt⟩
  cases hd:doE true y2 t with
  | none=>
   rw [hd] at f3
   exact ⟨⟨i0,YL⟩,p19,fun h=> (by cases h),fun _=> fin (X:=(Tree.nil,false)) (by rw [eA,f3];rfl) JR,fun h=> (by cases h.1)⟩
  | some u=>
   rw [hd] at f3
   dsimp only at f3
   have e3':y3=u:=by
    rw [e3]
    show Yc (doE true y2 t)=u
    rw [hd];try rfl
   obtain ⟨v,hv,rfl⟩:∃ v,doE false y2 t=some v/\u=Z5 v:=by
    rw [Z0x] at hd
    cases h:doE false y2 t with
    | none=> rw [h] at hd;cases hd
    | some v=> rw [h] at hd;injection hd with hd;exact ⟨v,rfl,hd.symm⟩
   have mu:=Zc2 hr hv
   have gu:=J9 _ (Z5j false _ _ _ ge gt hv)
   refine ⟨⟨i0,YL⟩,p19,fun _=> ⟨by rw [e3'];dsimp only;omega,by rw [e3'];exact gu,V5,V5⟩,fun h=> fin (X:=(Tree.nil,false)) (by rw [eA,f3,if_neg (by rcases h with h | h;cases h;rw [<-e3',h];decide)];rfl) JR,
    fun h=> ⟨V3,(i+1,Z5 v),rfl,⟨⟨V5,V5⟩,by rw [f3,if_pos (by rw [<-e3'];exact h.2)],V5,gu⟩,V5⟩⟩
 .rw [Q6 YL,atG] at f3
  exact fin (X:=(t,true)) (by rw [eA,f3];rfl) JR
set_option maxHeartbeats 1000000 in
theorem c9:Contract Tryz.prog cfg 9 Z60:=by
 refine ZHK c32 c30 c31 c33 ?_
 intro b n _ hp
 obtain ⟨⟨⟨hm,hg⟩,hc⟩,he⟩:=hp
 dsimp only at hm hg hc he
 have hl:=Ze4 b.log
 have hc0:=Z6R b.log 0 n.toNat
 have fin:∀ {X:Tree × Bool} {s:LSt U},atN b.first b.log n=X->Y2 cfg Tryz.f9.ntmps Tryz.f9.results.toList (.tup [(true,enc .tree X.1),(false,[.bool X.2])]) [] .ret s->Y2 cfg Tryz.f9.ntmps Tryz.f9.results.toList (ZCH (b,n,())) [] .ret s:=by
  intro X s h hs
  subst h
  exact hs
 refine vc9 _ _ _ ?_
 intro y1 e1
 subst e1
 (simp only [iB,vcT,vcS])
 refine ⟨⟨V5,hg⟩,fun hb=> fin (X:=(Tree.nil,false)) (by unfold atN;rw [if_neg (Zqs hb)]) JR,fun hb=> ⟨⟨YL,YL⟩,?_⟩⟩
 have hA:=Zqr hb
 have eA:atN b.first b.log n=oT (atF (b.log.take n.toNat) b.first):=by unfold atN;rw [if_pos hA]
 have hn:=hA.2.2
 have ll:((b.log.take n.toNat).length:Int)=n:=by rw [Qn];omega
 refine Z4 (ι:=Int × Tree) (fun s=> ZdZ b n s.1 s.2.kind s.2.words s.2.kids) (fun s=> (0<=s.1/\s.1<=n)/\atF (b.log.take n.toNat) b.first=atF ((b.log.take n.toNat).drop s.1.toNat) s.2/\Zm s.2+ctL ((b.log.take n.toNat).drop s.1.toNat)<=10000000000/\rng s.2) (fun s=> (n - s.1).toNat) (0,b.first) rfl ⟨⟨V5,V5⟩,rfl,by show Zm b.first+ctL ((b.log.take n.toNat).drop 0)<=_;omega,hg⟩ ?_
 rintro ⟨i,t⟩ ⟨⟨i0,i1⟩,f3,mt,gt⟩
 dsimp only at i0 i1 f3 mt gt
 refine ZCt _ _ _ _ _ _ _ _ ?_
 intro y1 e1 y2 e2 y3 e3 y4 e4
 subst e2 e4
 (simp only [Tree.eta,Edit.eta,Tree.kind_mk,Tree.words_mk,Tree.kids_mk])
 (simp only [iB,vcT,vcS])
 refine ⟨fun hi=> ?_,fun hi=> ?_⟩
 .have e1':y2=(b.log.take n.toNat).getD i.toNat Edit.nil:=e1
  rw [ZH i0 YL Edit.nil,<-e1',ctL] at mt
  rw [ZH i0 YL Edit.nil,<-e1',atF] at f3
  have hmem:y2∈b.log:=Xa (by rw [e1'];exact Zf YL _)
  obtain ⟨me,ge⟩:=he y2 hmem
  have ce:=Zbk y2
  refine ⟨⟨i0,YL⟩,⟨V5,ge⟩,fun hr=> fin (X:=(Tree.nil,false)) (by rw [eA,f3,if_neg (by rw [hr];decide)];rfl) JR,fun hr=> ?_⟩
  rw [if_pos hr] at f3
  have p12:Z4o (y2,t,()):=⟨⟨V5,ge,64,hr⟩,V5,gt⟩
  have e3:y4=Yc ((doE false y2 t).map Z5):=e3.trans (by rw [Tree.eta])
  cases hd:doE false y2 t with
  | none=>
   rw [hd] at f3
   exact ⟨p12,fun h=> (by cases h),fun _=> fin (X:=(Tree.nil,false)) (by rw [eA,f3];rfl) JR,fun h=> (by cases h.1)⟩
  | some v=>
   rw [hd] at f3 e3
   dsimp only at f3
   have e3':y4=Z5 v:=e3
   subst e3'
   have mu:=Zc2 hr hd
   have gu:=J9 _ (Z5j false _ _ _ ge gt hd)
   refine ⟨p12,fun _=> ⟨V5,gu⟩,fun h=> fin (X:=(Tree.nil,false)) (by rw [eA,f3,if_neg (by rcases h with h | h;cases h;rw [h];decide)];rfl) JR,
    fun h=> ⟨V3,(i+1,Z5 v),rfl,⟨⟨V5,V5⟩,by rw [f3,if_pos h.2],V5,gu⟩,V5⟩⟩
 .rw [Q6 YL,atF] at f3
  exact ⟨by dsimp only [JK];omega,fin (X:=(Z5 t,true)) (by rw [eA,f3];rfl) JR⟩
theorem Zly:∀ (l:List Edit) (x:Edit),Ym x->(∀ e∈l,Ym e)->ctE x+ctL l<=8000000018->Ym (Z4E l x).1
 | [],x,hx,_,_=> hx
 | e ::r,x,hx,he,hc=> by
  rw [Z4E]
  split
  .rename_i h
   rw [ctL] at hc
   have o:=Zwz hx (he e Q3) h YL
   exact Zly r _ o.1 (fun y hy=> he y (Q0 _ hy)) YL
  .exact Z4n
theorem Zgf{l:List Edit}(he:∀ e∈l,Ym e)(hc:ctL l<=8000000000):Ym (JL l).1:=by
 have h18:ctE Edit.nil=18:=by simp [ctE,Z0o,J2,Edit.nil,Tree.nil,Zm,Zk]
 unfold JL
 split
 .obtain ⟨c,g,d,r⟩:=Zly l Edit.nil Z4n he YL
  exact ⟨QJ (Z49 _) c,Z0R _ d r g,d,JG _ d r⟩
 .exact Z4n
theorem c13:Contract Tryz.prog cfg 13 Z64:=by
 refine ZDD c36 c37 ?_
 intro b i j _ hp
 obtain ⟨he,hc⟩:=hp
 dsimp only at he hc
 have fin:∀ {X:Edit × Bool} {s:LSt U},Zcr b.log i j=X->Y2 cfg Tryz.f13.ntmps Tryz.f13.results.toList (.tup [(true,enc .edit X.1),(false,[.bool X.2])]) [] .ret s->Y2 cfg Tryz.f13.ntmps Tryz.f13.results.toList (Zui (b,i,j,())) [] .ret s:=by
  intro X s h hs
  subst h
  exact hs
 have part:∀ a c:Nat,(∀ x∈(b.log.take c).drop a,Ym x)/\ctL ((b.log.take c).drop a)<=8000000000:=fun a c=> ⟨fun x hx=> he x (Xa (QS hx)),QJ (Z6R _ _ _) hc⟩
 have eB:=Zcr.eq_1 b.log i j
 refine ZJv _ _ _ _ ?_
 intro y1 e1 y2 e2 y3 e3
 have e1:y1=(b.log.take j.toNat).drop i.toNat:=e1
 have e2:y2=(b.log.take i.toNat).drop j.toNat:=e2
 rw [<-e1,<-e2] at eB
 (simp only [iB,vcT,vcS])
 refine ⟨fun h=> fin (X:=(Edit.nil,false)) (by rw [eB,V1]) JR,fun h=> ?_⟩
 rw [V0] at eB
 refine ⟨fun hij=> ⟨⟨YL,hij,YL⟩,by rw [e1];exact part _ _,fin (X:=JL y1) (by rw [eB,if_pos hij]) JR⟩,fun hij=> ⟨⟨YL,YL,YL⟩,by rw [e2];exact part _ _,?_,fin (X:=(Zz (Zs y3),(JL y2).2)) (by rw [eB,if_neg hij,<-e3]) JR⟩⟩
 have hr:Ym y3:=by rw [e3,e2];exact Zgf (part _ _).1 (part _ _).2
 have:=Yj hr
 have:=hr.1
 exact ⟨V5,hr.2.2⟩
theorem c38:Contract Tryz.prog cfg 38 ZeH:=by
 refine ZDn ZnP.1 c70 ?_
 intro l _ hp
 simp only [ZkQ] at hp
 obtain ⟨hx,hc⟩:=hp
 have hll:=Zoh l
 refine ZJd _ _ ?_
 (simp only [iB,vcT,vcS])
 refine Z4 (ι:=Int × Edit) (fun j=> ZaY l j.1 j.2.kind j.2.old.kind j.2.new.kind j.2.list j.2.old.words j.2.old.kids j.2.new.words j.2.new.kids j.2.words j.2.kids j.2.ops) (fun j=> (0<=j.1/\j.1<=l.length)/\(refOk j.2/\utE j.2+utL (l.drop j.1.toNat)<=8000000018)/\Zay (l.drop j.1.toNat) j.2=Zay l Edit.nil) (fun j=> ((l.length:Int) - j.1).toNat) (0,Edit.nil) rfl ⟨⟨V5,V5⟩,⟨Zho,by
   have:=Zoi
   simp only [Xb,Int.toNat_zero];omega⟩,by simp⟩ ?_
 rintro ⟨i,x⟩ ⟨⟨i1,i2⟩,⟨x1,x2⟩,x3⟩
 dsimp only at i1 i2 x1 x2 x3
 refine Zyi _ _ _ _ _ _ _ _ _ _ _ _ _ _ _ ?_
 rintro y1 hy1 y2 hy2 y3 rfl
 dsimp only at hy1 hy2
 (simp only [iB,vcT,vcS])
 have e2:y2=x:=by rw [hy2];obtain ⟨k,⟨_,_,_⟩,⟨_,_,_⟩,w,ks,l,os⟩:=x;rfl
 subst e2
 refine ⟨fun hi=> ?_,fun hi=> ?_⟩
 .have hd:=ZH i1 hi Edit.nil
  rw [<-hy1] at hd
  have hm:y3∈l:=by rw [hy1];exact Zf YL _
  rw [hd,utL] at x2
  rw [hd,Zay] at x3
  refine ⟨⟨i1,hi⟩,⟨x1,hx _ hm⟩,fun hc=> ?_,fun hc=> ⟨V3,(i+1,(Z3Y y2 y3).1),rfl,⟨⟨V5,V5⟩,?_,?_⟩,V5⟩⟩
  .rw [if_neg (by rw [hc];decide)] at x3
   have:YW l=(Edit.nil,false):=by rw [YW,if_neg];rw [<-x3];decide
   simp only [ZoV,this]
   exact JR
  .have:=ZkC x1 (hx _ hm) hc YL
   exact ⟨this.1,V5⟩
  .rw [if_pos hc] at x3
   exact x3
 .rw [Q6 YL,Zay] at x3
  have hm:=Yj x1.re
  refine ⟨⟨V5,x1.2.2⟩,?_⟩
  have:YW l=(Zz y2,true):=by rw [YW,<-x3];try rfl
  simp only [ZoV,this]
  exact JR
theorem c12:Contract Tryz.prog cfg 12 ZeQ:=by
 refine ZDE c9 ?_
 intro b _ hp
 refine ZJw _ _ ?_
 (simp only [Tree.eta,Edit.eta,Tree.kind_mk,Tree.words_mk,Tree.kids_mk])
 refine ⟨hp,?_⟩
 exact JR
theorem Zif:∀ a b:List Edit,utL (a++b)=utL a+utL b
 | [],b=> by simp [utL]
 | e ::r,b=> by rw [Qk,utL,utL,Zif r b];omega
theorem Zk2(l:List Edit)(a b:Nat):utL ((l.take b).drop a)<=utL l:=by
 have h1:=Zif (l.take b) (l.drop b)
 have h2:=Zif ((l.take b).take a) ((l.take b).drop a)
 rw [QH] at h1 h2
 omega
theorem Zwx:∀ {l:List Edit},(∀ e∈l,refOk e)->ctL l<=utL l
 | [],_=> Q8 _
 | e ::r,h=> by
  have h1:=Zgu _ e (Q8 _) (h e Q3).2.2
  have h2:=Zwx (l:=r) fun x hx=> h x (Q0 _ hx)
  simp only [ctL,utL];omega
theorem c14:Contract Tryz.prog cfg 14 ZeP:=by
 refine ZDC c38 c39 ?_
 intro b i j _ hp
 obtain ⟨he,hc⟩:=hp
 dsimp only at he hc
 have fin:∀ {X:Edit × Bool} {s:LSt U},ZlW b.log i j=X->Y2 cfg Tryz.f14.ntmps Tryz.f14.results.toList (.tup [(true,enc .edit X.1),(false,[.bool X.2])]) [] .ret s->Y2 cfg Tryz.f14.ntmps Tryz.f14.results.toList (Zub (b,i,j,())) [] .ret s:=by
  intro X s h hs
  subst h
  exact hs
 have part:∀ a c:Nat,(∀ x∈(b.log.take c).drop a,refOk x)/\utL ((b.log.take c).drop a)<=8000000000:=fun a c=> ⟨fun x hx=> he x (Xa (QS hx)),QJ (Zk2 _ _ _) hc⟩
 have eB:=ZlW.eq_1 b.log i j
 refine ZJu _ _ _ _ ?_
 intro y1 e1 y2 e2 y3 e3
 have e1:y1=(b.log.take j.toNat).drop i.toNat:=e1
 have e2:y2=(b.log.take i.toNat).drop j.toNat:=e2
 rw [<-e1,<-e2] at eB
 (simp only [iB,vcT,vcS])
 refine ⟨fun h=> fin (X:=(Edit.nil,false)) (by rw [eB,V1]) JR,fun h=> ?_⟩
 rw [V0] at eB
 refine ⟨fun hij=> ⟨⟨YL,hij,YL⟩,by rw [e1];exact part _ _,fin (X:=YW y1) (by rw [eB,if_pos hij]) JR⟩,fun hij=> ⟨⟨YL,YL,YL⟩,by rw [e2];exact part _ _,?_,fin (X:=(Zz (Zs y3),(YW y2).2)) (by rw [eB,if_neg hij,<-e3]) JR⟩⟩
 have hr:Ym y3:=by
  rw [e3,e2,<-Zlx (part _ _).1 (part _ _).2]
  exact Zgf (fun x hx=> ((part _ _).1 x hx).re) (QJ (Zwx (part _ _).1) (part _ _).2)
 have:=Yj hr
 have:=hr.1
 exact ⟨V5,hr.2.2⟩
theorem ZlV{l:List Edit}{i j:Int}(he:∀ x∈l,refOk x)(hc:utL l<=8000000000):Zcr l i j=ZlW l i j:=by
 have part:∀ a c:Nat,JL ((l.take c).drop a)=YW ((l.take c).drop a):=fun a c=> Zlx (fun x hx=> he x (Xa (QS hx))) (QJ (Zk2 _ _ _) hc)
 unfold Zcr ZlW
 rw [part,part]
noncomputable section
def ZC4:ArgL Unit:= .nil
def ZuB(a:Unit):Prop:=True
def ZHB(a:Unit):V U:= .c (.bool true)
def Zkc:Fs U:=fs ZC4 (fun a=> [ZuB a]) ZHB
def ZCP(a:Bnd × Int × Int × Unit):Prop:=Z3z (Bnd.first a.1)/\rng (Bnd.first a.1)/\(∀ e∈Bnd.log a.1,Z3V e/\YI e)/\(Bnd.log a.1).length<=17592186044416
def ZHD(a:Bnd × Int × Int × Unit):V U:= .c (.bool true)
def Zop:Fs U:=fs Zxi (fun a=> [ZCP a]) ZHD
def ZBO:List (FuncId × Fs U):=[(9,Z60),(13,Z64)]
def lv7:Zd U:=lvl [([],[]),([1],[1]),([1,2,3],[1,2]),([2,3,4,5],[2,4]),([0],[])]
abbrev A7(p:List Nat):=AW (Z1 ZBO) Tryz.f7 lv7 p
theorem vc7(Q:QT)(h:∀ y_1,y_1=(Edit.mk 2 (Tree.mk 0 [] []) (Tree.mk 0 [] []) ([(WEdit.mk 0 1 1 2)]) [] 0 [])->∀ y_2,y_2=(Zcr (Bnd.log (Bnd.mk (Tree.mk 1 ([1]) []) ([y_1]))) 1 0)->∀ y_3,y_3=(atN (Bnd.first (Bnd.mk (Tree.mk 1 ([1]) []) ([y_1]))) (Bnd.log (Bnd.mk (Tree.mk 1 ([1]) []) ([y_1]))) 1)->∀ y_4,y_4=(List.getD (Tree.words (y_3.1)) (Int.toNat 0) (0:Int))->∀ y_5,y_5=(List.getD (Edit.words (y_2.1)) (Int.toNat 0) (WEdit.mk 0 0 0 0))->let z6:=Bnd.mk (Tree.mk 1 ([1]) []) ([y_1]);let z5:=Edit.words (y_2.1);let z3:=bif (y_3.2) then (y_2.2) else false;let z1:=bif z3 then ((((Tree.words (y_3.1)).length:Int):Int)==1) else false;let z4:=bif z1 then (y_4==2) else false;let z0:=bif z4 then (((z5.length:Int):Int)==1) else false;let z2:=bif z0 then (y_5.old==2) else false;((Zpd (z6,1,()))/\((Zpc (z6,1,0,()))/\((Tt (y_3.2))/\(Tt z3)/\(Tt z3)/\(Tt z3)/\(Tt z3)/\(Tt z1)/\(Tt z1)/\(z1=true->(0:Int)<=0/\0 < ((Tree.words (y_3.1)).length:Int))/\(Tt z1)/\(Tt z1)/\(Tt z1)/\(Tt z4)/\(Tt z4)/\(Tt z4)/\(Tt z4)/\(Tt z0)/\(Tt z0)/\(z0=true->(0:Int)<=0/\0 < (z5.length:Int))/\(Tt z0)/\(Tt z0)/\(Tt z0)/\(Tt z0)/\(Tt z2)/\(Tt z2)/\(z2=true->(0:Int)<=0/\0 < (z5.length:Int))/\(Tt z2)/\(Tt z2)/\(Tt z2)/\(Tt z2)/\(Q .ret (L2 [(0,.c (.bool (bif z2 then (y_5.new==1) else false)))] [])))))):
  A7 [] (L2 [] []) Q:=
 (Eq.mpr V4 (h _ rfl _ rfl _ rfl _ rfl _ rfl):)
abbrev ZIx:Prop:=AW (Z1 ZBO) Tryz.f7 lv7 [] (Zg (ZC4.can ()) []) (EQ Tryz.f7 (ZHB ()) [])
theorem ZHM(c9:CT 9 Z60)(c13:CT 13 Z64)(hb:∀ (_:Unit),ZuB ()->ZIx):CT 7 Zkc:=
 Z2 (l:=[(9,Z60),(13,Z64)]) Zi rfl (⟨c9,c13,trivial⟩) lv7 Tryz.func7 rfl rfl 0 (fun _=> rfl) V2 (fun _=> hb ())
def ZBP:List (FuncId × Fs U):=[(6,Zkd),(7,Zkc),(8,Zkb),(9,Z60),(10,ZeS),(11,Z14),(12,ZeQ),(13,Z64),(14,ZeP),(15,ZeO)]
def lv3:Zd U:=lvl [([1,2,3],[3]),([1,2,3,20],[3]),([6],[]),([1,2,3,7],[3,7]),([1,2,3,7,8,9],[3,7,8]),([1,2,3,7,8,9,10,11],[3,7,8,10]),([1,2,3,7,8,9,10,11,13],[3,7,8,10]),([1,2,3,7,13,58],[3,7]),([6],[]),([1,2,3,7,60],[3,7]),([6],[]),([1,2,3,14,15],[3,14]),([14,15,16,17],[14,16]),([6],[])]
abbrev A3(p:List Nat):=AW (Z1 ZBP) Tryz.f3 lv3 p
theorem vc3(b:Bnd)(from_ to:Int)(Q:QT)(h:∀ y_1,y_1=b->∀ y_2,y_2=y_1->∀ y_3,y_3=((ZlW (Bnd.log y_1) from_ to).1)->∀ y_4,y_4=((atM (Bnd.first y_1) (Bnd.log y_1) from_).1)->∀ y_5,y_5=(atM (Bnd.first y_1) (Bnd.log y_1) ((Bnd.log b).length:Int))->∀ y_6,y_6=((Zcr (Bnd.log y_2) from_ to).1)->∀ y_7,y_7=((atN (Bnd.first y_2) (Bnd.log y_2) from_).1)->let z1:=((Zcr (Bnd.log y_2) from_ to).2)==((ZlW (Bnd.log y_1) from_ to).2);let z3:=bif z1 then (eqX y_6 y_3) else false;let z0:=((atN (Bnd.first y_2) (Bnd.log y_2) from_).2) !=((atM (Bnd.first y_1) (Bnd.log y_1) from_).2);let z2:=bif z0 then true else (!(YM y_7 y_4));((pre6 (y_1,()))/\(iB (!(Zsa (Bnd.first y_1) (Bnd.log y_1))) ((ZuB ())/\(Q .ret (L2 [pB 6 true] []))) ((ZCO (y_1,()))/\((Zpd (y_2,from_,()))/\((Zpd (y_1,from_,()))/\((Zpd (y_1,((Bnd.log b).length:Int),()))/\((Tt (!z0))/\(Tt (!z0))/\((!z0)=true->Z2i (y_7,y_4,()))/\(Tt (!z0))/\(z0=false->(!z0)=true)/\(Tt (!z2))/\((!z2)=true->ZuG (y_2,()))/\(Tt (!z2))/\(Tt (!z2))/\(z2=false->(!z2)=true)/\(iB (bif z2 then true else (((atN (Bnd.first y_2) (Bnd.log y_2) (Bnd.log y_2).length).2) !=(y_5.2))) ((Q .ret (L2 [pB 6 false] []))) ((iB (!(y_5.2)) ((ZuB ())/\(Q .ret (L2 [pB 6 true] []))) ((Zpc (y_2,from_,to,()))/\((ZuF (y_1,from_,to,()))/\((Tt z1)/\(Tt z1)/\(z1=true->Z8l (y_6,y_3,()))/\(Tt z1)/\(z3=true->ZuB ())/\(Tt z3)/\(Q .ret (L2 [(6,.c (.bool (bif z3 then true else false)))] [])))))))))))))))):
  A3 [] (L2 [(0,.agg (enc .bundle b)),pI 1 from_,pI 2 to] []) Q:=
 (Eq.mpr V4 (h _ (ZcV _) _ (ZcV _) _ (Z7 _) _ (Za _) _ rfl _ (Z7 _) _ (Za _)):)
abbrev ZIz(b:Bnd)(from_ to:Int):Prop:=AW (Z1 ZBP) Tryz.f3 lv3 [] (Zg (Zxi.can (b,from_,to,())) []) (EQ Tryz.f3 (ZHD (b,from_,to,())) [])
theorem ZHO(c6:CT 6 Zkd)(c7:CT 7 Zkc)(c8:CT 8 Zkb)(c9:CT 9 Z60)(c10:CT 10 ZeS)(c11:CT 11 Z14)(c12:CT 12 ZeQ)(c13:CT 13 Z64)(c14:CT 14 ZeP)(c15:CT 15 ZeO)(hb:∀ (b:Bnd) (from_:Int) (to:Int) (_:Unit),ZCP (b,from_,to,())->ZIz b from_ to):CT 3 Zop:=
 Z2 (l:=[(6,Zkd),(7,Zkc),(8,Zkb),(9,Z60),(10,ZeS),(11,Z14),(12,ZeQ),(13,Z64),(14,ZeP),(15,ZeO)]) Zi rfl (⟨c6,c7,c8,c9,c10,c11,c12,c13,c14,c15,trivial⟩) lv3 Tryz.func3 rfl rfl 3 (fun _=> rfl) V2 (fun ⟨b,from_,to,_⟩=> hb b from_ to ())
end
def atT(n:Int):Tree:= .mk 1 [n] []
def Z27(n m:Int):Edit:= .mk 2 Tree.nil Tree.nil [⟨0,1,n,m⟩] [] 0 []
theorem ZCD:doE false (Z27 1 2) (atT 1)=some (atT 2):=by
 unfold Z27 atT
 rw [ZHZ,if_pos (show (Tree.mk 1 [1] []).kind=1 from rfl)]
 try rfl
theorem Zio(n m:Int):Zz (Z27 n m)=Z27 n m:=by
 unfold Z27
 rw [Zz,if_neg V2,if_pos rfl]
 try rfl
theorem ZCC:Ym (Z27 1 2):=by
 have z:=J8
 have i0:InR 0:=J1 V2 V2
 refine ⟨V2,⟨J1 V2 V2,z,z,fun w hw=> ?_,i0,trivial,trivial⟩,64,rfl⟩
 rw [Qg.1 hw]
 exact ⟨J1 V2 V2,⟨V2,V2⟩,⟨V2,V2⟩,⟨V2,V2⟩⟩
theorem ZF6{n:Int}(h:isW n):rng (atT n):=⟨J1 V2 V2,fun x hx=> by rw [Qg.1 hx];exact h,trivial⟩
theorem ZCE:atN (atT 1) [Z27 1 2] 1=(atT 2,true):=by
 have h:atO (atT 1) [Z27 1 2] 1:=⟨rfl,V2,V2,V2⟩
 unfold atN
 rw [if_pos h]
 show oT (atF [Z27 1 2] (atT 1))=_
 rw [atF,if_pos (by rfl),ZCD]
 dsimp only
 rw [if_pos (by rfl),atF]
 try rfl
theorem ZyD:Zcr [Z27 1 2] 1 0=(Z27 2 1,true):=by
 have c:Yy Edit.nil (Z27 1 2)=(Z27 1 2,true):=by
  unfold Yy
  rw [show Z8 Edit.nil+Z8 (Z27 1 2)=6+1 by decide]
  show Ji (Z86 6) Edit.nil (Z27 1 2)=_
  unfold Ji
  exact if_pos rfl
 have n:Z1e Edit.nil (Z27 1 2)=(Z27 1 2,true):=by
  unfold Z1e
  rw [c,if_pos rfl]
  dsimp only
  rw [Zio]
 have j:JL [Z27 1 2]=(Z27 1 2,true):=by
  unfold JL
  rw [Z4E,n,if_pos rfl,Z4E,if_pos rfl]
  dsimp only
  rw [Zio]
 unfold Zcr
 rw [if_neg V2,if_neg V2]
 show (Zz (Zs (JL [Z27 1 2]).1),(JL [Z27 1 2]).2)=_
 rw [j]
 show (Zz (Z27 2 1),true)=_
 rw [Zio]
theorem c7:Contract Tryz.prog cfg 7 Zkc:=by
 refine ZHM c9 c13 ?_
 intro _ _
 refine vc7 _ ?_
 intro y1 e1 y2 e2 y3 e3 y4 e4 y5 e5
 have e1:y1=Z27 1 2:=e1
 subst e1
 have e2:y2=(Z27 2 1,true):=e2.trans ZyD
 have e3:y3=(atT 2,true):=e3.trans ZCE
 subst e2 e3 e4 e5
 have m:Z8 (Z27 1 2)<=1000000000:=V2
 have r:=ZCC
 refine ⟨⟨⟨⟨V2,ZF6 (n:=1) ⟨V2,V2⟩⟩,V2⟩,fun e he=> ?_⟩,⟨fun e he=> ?_,V2⟩,?_⟩
 .rw [Qg.1 he];exact ⟨m,r.2.1⟩
 .rw [Qg.1 he];exact r
 .simp only [Tr]
  repeat' (first | exact (fun x=> x) | exact (fun _=> ⟨V2,V2⟩) | exact Z6 rfl rfl | apply And.intro)
theorem ZlZ:∀ {l:List Edit} {t u:Tree},atG l t=some u->Zm u<=Zm t+ctL l
 | [],t,u,h=> by
  injection h with h
  subst h
  simp
 | e ::r,t,u,h=> by
  rw [atG] at h
  by_cases hr:Z9 e 64=true
  .rw [if_pos hr,Z0x] at h
   cases hd:doE false e t with
   | none=> rw [hd] at h;cases h
   | some v=>
    rw [hd] at h
    dsimp only [Option.map] at h
    by_cases hv:Ze (Z5 v) 64=true
    .rw [if_pos hv] at h
     have h1:=ZlZ h
     have h2:=Zc2 hr hd
     rw [ctL];omega
    .rw [if_neg hv] at h;cases h
  .rw [if_neg hr] at h;cases h
theorem ZwM{f:Tree}{l:List Edit}{n:Int}(he:∀ e∈l,Z8 e<=10000):Zm (atM f l n).1<=Zm f+3+l.length*660000000:=by
 have hc:=Zju he
 have hp:=Z6R l 0 n.toNat
 rw [Xb] at hp
 have nm:=ZK f
 have z:Zm Tree.nil<=3:=V2
 unfold atM
 split
 .cases h:atG (l.take n.toNat) (Z5 f) with
  | none=> show Zm Tree.nil<=_;omega
  | some u=>
   have:=ZlZ h
   show Zm u<=_;omega
 .show Zm Tree.nil<=_;omega
theorem Ztx:∀ {l:List Edit},(∀ e∈l,utE e<=660000000)->utL l<=l.length*660000000
 | [],_=> Q8 _
 | e ::r,h=> by
  have h1:=h e Q3
  have h2:=Ztx fun x hx=> h x (Q0 _ hx)
  rw [utL,Q7,QB];omega
theorem ZwI{l:List Edit}{i j:Int}(he:∀ e∈l,Ym e)(hc:ctL l<=8000000000):Z8 (Zcr l i j).1<=9000000000:=by
 have part:∀ a c:Nat,Ym (JL ((l.take c).drop a)).1:=fun a c=> Zgf (fun x hx=> he x (Xa (QS hx))) (QJ (Z6R _ _ _) hc)
 unfold Zcr
 split
 .decide
 .split
  .exact Yj (part _ _)
  .exact Yj (Z50 (part _ _)).2
theorem c3:Contract Tryz.prog cfg 3 Zop:=by
 refine ZHO c6 c7 c8 c9 c10 c11 c12 c13 c14 c15 ?_
 intro b fr to _ hp
 obtain ⟨h1,h2,h3,h4⟩:=hp
 dsimp only at h1 h2 h3 h4
 refine vc3 _ _ _ _ ?_
 intro y1 e1 y2 e2 y3 e3 y4 e4 y5 e5 y6 e6 y7 e7
 subst e1 e2
 (simp only [iB,vcT,vcS])
 refine ⟨⟨h1,h2,h3,h4⟩,fun _=> ⟨trivial,Z6 rfl rfl⟩,fun hfew=> ?_⟩
 unfold Zsa at hfew
 simp only [Q2,decide_eq_true_eq,Qz] at hfew
 obtain ⟨⟨w1,w2⟩,w3⟩:=hfew
 have mf:=Z2q y2.first 80 3000 w1
 have me:∀ e∈y2.log,Z8 e<=3000:=fun e he=> by
  have:=w3 e he
  unfold ZdI at this
  simp only [Q2,decide_eq_true_eq] at this
  exact Zcn this.1
 have hb:∀ e∈y2.log,YI e/\Z8 e<=10000:=fun e he=> ⟨(h3 e he).2,by have:=me e he;omega⟩
 have hcb:=Zju fun e he=> (hb e he).2
 have bok:((Zm y2.first<=1000000000/\rng y2.first)/\ctL y2.log<=9000000000)/\∀ e∈y2.log,Z8 e<=1000000000/\YI e:=⟨⟨⟨YL,h2⟩,YL⟩,fun e he=> ⟨by have:=me e he;omega,(hb e he).1⟩⟩
 have e74:y7=y4:=by rw [e7,e4,ZlY]
 subst e74
 rw [ZlY,ZlY]
 have my:Zm y7<=6000000000:=by
  have nm:=ZK y2.first
  have:=ZwM (f:=y2.first) (n:=fr) fun e he=> (hb e he).2
  rw [e4];dsimp only;omega
 refine ⟨trivial,bok,bok,bok,fun _=> by dsimp only [Z2i];omega,fun _=> bok,fun h=> ?_,fun h=> ⟨fun _=> ⟨trivial,Z6 rfl rfl⟩,fun hall=> ?_⟩⟩
 .rw [<-ZlY y2.first y2.log y2.log.length,ZlY,e5] at h
  exact absurd h (by simp [Yu])
 .have hall:(atM y2.first y2.log y2.log.length).2=true:=by rw [h.2];exact hall
  have hA:atO y2.first y2.log y2.log.length:=by
   unfold atM at hall
   by_cases c:atO y2.first y2.log y2.log.length
   .exact c
   .rw [if_neg c] at hall;cases hall
  obtain ⟨T,hT⟩:∃ T,atG y2.log (Z5 y2.first)=some T:=by
   unfold atM at hall
   rw [if_pos hA,X7,List.take_length] at hall
   cases h:atG y2.log (Z5 y2.first) with
   | none=> rw [h] at hall;cases hall
   | some T=> exact ⟨T,rfl⟩
  have rf:RowT (Z5 y2.first):=⟨Z0G _,Z1X _ _ hA.1,J9 _ h2⟩
  have all:=(Zqt rf (fun e he=> (hb e he).1) hT).2.1
  have re:∀ e∈y2.log,refOk e/\utE e<=660000000:=fun e he=> by
   have m:=me e he
   have w:=w3 e he
   unfold ZdI at w
   simp only [all e he,XW,XX,Q2] at w
   have u:=Ztw _ e (Q8 _) ⟨64,all e he⟩ w.2
   exact ⟨⟨YL,(hb e he).1,64,all e he⟩,YL⟩
  have ul:=Ztx fun e he=> (re e he).2
  have eb:y6=y3:=by rw [e6,e3];exact congrArg Prod.fst (ZlV (fun e he=> (re e he).1) YL)
  have mb:Z8 y6<=9000000000:=by rw [e6];exact ZwI (fun e he=> (re e he).1.re) YL
  rw [ZlV (fun e he=> (re e he).1) YL,<-eb]
  exact ⟨⟨fun e he=> (re e he).1.re,V5⟩,⟨fun e he=> (re e he).1,V5⟩,fun _=> by dsimp only [Z8l];omega,fun _=> trivial,Z6 rfl (by rw [Zwp,beq_self_eq_true];rfl)⟩
end Go.AM.YtfapacabjkhepaaGreat
