import Derived.Test.YtfapacabjkhepaaGreatWKB22c
import Derived.Test.YtfapacabjkhepaaGreatWKL22m
import Derived.Test.YtfapacabjkhepaaGreatWKD22
import Derived.Test.YtfapacabjkhepaaGreatWCL25g
set_option linter.unusedSimpArgs false
set_option linter.unusedVariables false
namespace Go.AM.YtfapacabjkhepaaGreat
open Go.AM Go.Proofs
noncomputable section
def Z3H(a:Edit × Unit):Prop:=Z8 a.1<=20000000000/\∃ d,Z9 a.1 d=true
def ZcQ(a:Edit × Unit):V U:= .agg (enc .edit (Zz a.1))
def Z2Z:Fs U:=fs ZwS (fun a=> [Z3H a]) ZcQ
def ZjA:ArgL (Int × List Op × Unit):=(.cons (Ya .i64) (.cons (aSl .op) .nil))
def Zfn(a:Int × List Op × Unit):Prop:=Zn a.2.1<=20000000000/\∀ o∈a.2.1,∃ d,Zc a.1 o d=true
def ZmT(a:Int × List Op × Unit):Nat:=2*Zn a.2.1+1
def Zky(a:Int × List Op × Unit):V U:= .c (sU .op ((Zl (Zu a.1 a.2.1 (Wst.mk [] [] []))).out) .unk)
def ZtE:Fs U:=fs ZjA (fun a=> [Zfn a]) Zky
def Zcb(N:Nat):List (FuncId × Fs U):=(42,fs ZwS (fun a=> [Z3H a,ZiX a < N]) ZcQ) ::(76,fs ZjA (fun a=> [Zfn a,ZmT a < N]) Zky) ::[(33,JF),(109,Z4h),(107,Z72),(110,Z2p),(108,Z63)]
def Zn6:Zd U:=lvk [([1,2],[1,2]),([1,2,3],[1,2,3]),([1,2,3,12],[1,2,3]),([1,2,3,12,13],[1,2,3]),([2,3],[2,3]),([1,2,3,12,23],[1,2,3]),([1,2,3],[1,2,3]),([2,3,32,33,34],[2,((.loc 3),(an 8 [.own .kid]))]),([2,3,32,33,34,35],[2,3]),([2,3,5,32,33,34],[2,3,5]),([2,3,32,33,34],[2,3]),([2,3,32,33,34],[2,((.loc 3),(an 8 [.own .kid]))]),([1,2,3,50],[1,2,3]),([2,3],[2,3]),([2],[2])]
def ZaW(e:Edit)(x34:Int)(ml3_8:List Kid):LSt U:=(L2 [pL 2,pL 3,(32,.c (sU .kid e.kids .unk)),pI 33 (e.kids.length:Int),pI 34 x34] [(.loc 2,zc1),(.loc 3,[ci e.kind,ci 0,.nils,.nils,ci 0,.nils,.nils,sU .wedit (([]:List WEdit)++e.words) (.own (.l 3 7)),sU .kid ml3_8 (.own (.l 3 8)),ci e.list,.nils])])
abbrev W42(N:Nat)(e:Edit)(Q:QT):=AW (Z1 (Zcb N)) Tryz.f42 Zn6 [] (L2 [(0,.agg (enc .edit e))] []) Q
theorem ZJa(N:Nat)(e:Edit)(Q:QT)(h:let z1:=Tree.mk e.new.kind e.new.words e.new.kids;let z0:=Tree.mk e.old.kind e.old.words e.old.kids;iB (e.kind==1) ((JK (z0,()))/\(JK (z1,()))/\(Q .ret (L2 [pL 2] [(.loc 2,([ci e.kind]++enc .tree (Z5 z0)++enc .tree (Z5 z1)++[.nils,.nils,ci e.list,.nils]))]))) (iB (e.kind==2) (((([]:List WEdit).length+e.words.length)*32<=140737488355328)/\(Zj (AW (Z1 (Zcb N)) Tryz.f42 Zn6 [1,1,0,1,0,1,1,1,0,1,1,0,0]) (ZaW e 0 []) (xB 1 (xB 0 (SW (Z1 (Zcb N)) Tryz.f42 Zn6 [1,1,1] Q))))) (iB (e.kind==3) ((Zfn (e.list,e.ops,()))/\(ZmT (e.list,e.ops,()) < N)/\(Q .ret (L2 [pL 2] [(.loc 2,[ci e.kind,ci 0,.nils,.nils,ci 0,.nils,.nils,.nils,.nils,ci e.list,sU .op ((Zl (Zu e.list e.ops (Wst.mk [] [] []))).out) .unk])]))) (Q .ret (L2 [pL 2] [(.loc 2,[ci e.kind,ci 0,.nils,.nils,ci 0,.nils,.nils,.nils,.nils,ci e.list,.nils])]))))):
  W42 N e Q:=
 Eq.mpr V4 h
abbrev ZFq(N:Nat)(e:Edit)(x34:Int)(ml3_8:List Kid)(N0:NT)(Q:QT):=AW (Z1 (Zcb N)) Tryz.f42 Zn6 [1,1,0,1,0,1,1,1,0,1,1,0,0] (ZaW e x34 ml3_8) (xT N0 (xB 1 (xB 0 (SW (Z1 (Zcb N)) Tryz.f42 Zn6 [1,1,1] Q))))
theorem Zyg(N:Nat)(e:Edit)(x34:Int)(ml3_8:List Kid)(N0:NT)(Q:QT)(h:∀ y_1,y_1=(e.kids.getD x34.toNat (KidOf.mk 0 Edit.nil))->∀ y_2,y_2=(y_1.e)->∀ y_3,y_3=(Zz y_2)->iB (decide (x34 < (e.kids.length:Int))) (((0:Int)<=x34/\x34 < (e.kids.length:Int))/\((Z3H (y_2,()))/\(ZiX (y_2,()) < N)/\((ml3_8.length+([(KidOf.mk y_1.at_ y_3:Kid)]).length)*208<=140737488355328)/\((InR (x34+1))/\(N0 (ZaW e (x34+1) (ml3_8++([(KidOf.mk y_1.at_ y_3:Kid)]))))))) (Q .ret (L2 [pL 2] [(.loc 2,[ci e.kind,ci 0,.nils,.nils,ci 0,.nils,.nils,sU .wedit (([]:List WEdit)++e.words) (.own (.l 2 7)),sU .kid ml3_8 (.own (.l 2 8)),ci e.list,.nils])]))):
  ZFq N e x34 ml3_8 N0 Q:=
 Eq.mpr V4 (h _ rfl _ (Z7 _) _ (Z7 _))
def ZG2(N:Nat)(e:Edit):Prop:=AW (Z1 (Zcb N)) Tryz.f42 Zn6 [] (Zg (ZwS.can (e,())) []) (EQ Tryz.f42 (ZcQ (e,())) [])
abbrev ZIs:Prop:=∀ (N:Nat) (e:Edit) (_:Unit),Z3H (e,())->ZiX (e,()) < N+1->ZG2 N e
def Zn5:Zd U:=lvk [([0,1],[]),([0,1,5],[((.loc 10),[.wr .op])]),([0,5,11,12,13],[((.loc 10),[.wr .op,.own .tree,.own .tree])]),([0,5,11,12,13,14],[((.loc 10),[.wr .op])]),([0,5,7,11,12,13],[7,((.loc 10),[.wr .op])]),([0,5,7,11,12,13,18],[7,((.loc 10),[.wr .op])]),([0,5,7,11,12,13,18,19],[7,((.loc 10),[.wr .op])]),([0,5,11,12,13],[((.loc 10),[.wr .op])]),([0,5,7,11,12,13,18,25],[7,((.loc 10),[.wr .op])]),([0,5,11,12,13],[((.loc 10),[.wr .op])]),([0,5,7,11,12,13,18,33],[7,((.loc 10),[.wr .op])]),([0,5,11,12,13],[((.loc 10),[.wr .op])]),([0,5,7,11,12,13,41],[7,((.loc 10),[.wr .op])]),([0,5,8,11,12,13],[8,((.loc 10),[.wr .op])]),([0,5,8,11,12,13,48],[8,((.loc 10),[.wr .op])]),([0,5,11,12,13],[((.loc 10),[.wr .op])]),([0,5,8,11,12,13],[8,((.loc 10),[.wr .op])]),([0,5,11,12,13],[((.loc 10),[.wr .op])]),([0,5,11,12,13],[((.loc 10),[.wr .op,.own .tree,.own .tree])]),([5],[((.loc 10),[.wr .op])]),([4],[])]
def Z08(list:Int)(l:List Op)(x13:Int)(rl_10_0:List Op)(ml10_1 ml10_2:List Tree):LSt U:=(⟨[pI 0 list,(5,.ptr (.loc 10) 0),(11,.c (sU .op l .unk)),pI 12 (l.length:Int),pI 13 x13],[(.loc 10,[.mref (.l 10 0),sU .tree ml10_1 (.own (.l 10 1)),sU .tree ml10_2 (.own (.l 10 2))])],[(.l 10 0,LC.mk (U:=U) .op rl_10_0 0)]⟩:LSt U)
abbrev W76(N:Nat)(list:Int)(l:List Op)(Q:QT):=AW (Z1 (Zcb N)) Tryz.f76 Zn5 [] (L2 [pI 0 list,(1,.c (sU .op l .unk))] []) Q
theorem ZIO(N:Nat)(list:Int)(l:List Op)(Q:QT)(h:Zj (AW (Z1 (Zcb N)) Tryz.f76 Zn5 [1,1,0,1,0,0]) (Z08 list l 0 [] [] []) (xB 0 (SW (Z1 (Zcb N)) Tryz.f76 Zn5 [1,1,1] Q))):
  W76 N list l Q:=
 Eq.mpr V4 h
abbrev ZFc(N:Nat)(list:Int)(l:List Op)(x13:Int)(rl_10_0:List Op)(ml10_1 ml10_2:List Tree)(N0:NT)(Q:QT):=AW (Z1 (Zcb N)) Tryz.f76 Zn5 [1,1,0,1,0,0] (Z08 list l x13 rl_10_0 ml10_1 ml10_2) (xT N0 (xB 0 (SW (Z1 (Zcb N)) Tryz.f76 Zn5 [1,1,1] Q)))
theorem ZxO(N:Nat)(list:Int)(l:List Op)(x13:Int)(rl_10_0:List Op)(ml10_1 ml10_2:List Tree)(N0:NT)(Q:QT)(h:∀ y_1,y_1=(l.getD x13.toNat Op.nil)->∀ y_2,y_2=(Edit.mk 0 (Tree.mk 0 [] []) (Tree.mk 0 [] []) [] [] 0 [])->∀ y_3,y_3=(Int.toNat (((Zl (Wst.mk rl_10_0 ml10_1 ml10_2)).out).length:Int))->∀ y_4,y_4=(y_1.e)->∀ y_5,y_5=(Zz y_4)->let z3:=Z6k ((rl_10_0,ml10_1,ml10_2,()),());let z2:=Wst.mk rl_10_0 ml10_1 (ml10_2++Zb y_1.l);let z1:=Wst.mk rl_10_0 (ml10_1++Zb y_1.l) ml10_2;let z0:=Wst.mk rl_10_0 ml10_1 ml10_2;iB (decide (x13 < (l.length:Int))) (((0:Int)<=x13/\x13 < (l.length:Int))/\(iB (y_1.kind==0) ((Z8T ((rl_10_0,ml10_1,ml10_2,()),y_1.n,()))/\((InR (x13+1))/\(N0 (Z08 list l (x13+1) ((Yd z0 y_1.n).out) ((Yd z0 y_1.n).gone) ((Yd z0 y_1.n).brought))))) (iB (y_1.kind==1) ((ZfC ((rl_10_0,ml10_1,ml10_2,()),y_1.l,()))/\((InR (x13+1))/\(N0 (Z08 list l (x13+1) (z1.out) (z1.gone) (z1.brought))))) (iB (y_1.kind==2) ((ZfC ((rl_10_0,ml10_1,ml10_2,()),y_1.l,()))/\((InR (x13+1))/\(N0 (Z08 list l (x13+1) (z2.out) (z2.gone) (z2.brought))))) (iB (y_1.kind==3) ((Z3H (y_4,()))/\(ZiX (y_4,()) < N)/\((Za0 (list,y_5,()))/\(iB (Zds list y_5) ((Z8T ((rl_10_0,ml10_1,ml10_2,()),1,()))/\((InR (x13+1))/\(N0 (Z08 list l (x13+1) ((Yd z0 1).out) ((Yd z0 1).gone) ((Yd z0 1).brought))))) (z3/\(((((Zl z0).out).length+([(OpOf.mk 0 0 [] y_2:Op)]).length)*240<=140737488355328)/\((0:Int)<=(((Zl z0).out).length:Int)/\(((Zl z0).out).length:Int) < ((((Zl z0).out)++([(OpOf.mk 0 0 [] y_2:Op)])).length:Int))/\((0:Nat)<=y_3)/\((InR (x13+1))/\(N0 (Z08 list l (x13+1) (List.set (((Zl z0).out)++([(OpOf.mk 0 0 [] y_2:Op)])) y_3 (OpOf.mk 3 0 [] y_5:Op)) ((Zl z0).gone) ((Zl z0).brought))))))))) ((InR (x13+1))/\(N0 (Z08 list l (x13+1) rl_10_0 ml10_1 ml10_2)))))))) (z3/\(Q .ret (L2 [(4,.c (sU .op ((Zl z0).out) (.own (.e 4 0))))] [])))):
  ZFc N list l x13 rl_10_0 ml10_1 ml10_2 N0 Q:=
 Eq.mpr V4 (h _ rfl _ rfl _ rfl _ (Z7 _) _ (Z7 _))
def ZFG(N:Nat)(list:Int)(l:List Op):Prop:=AW (Z1 (Zcb N)) Tryz.f76 Zn5 [] (Zg (ZjA.can (list,l,())) []) (EQ Tryz.f76 (Zky (list,l,())) [])
abbrev ZIk:Prop:=∀ (N:Nat) (list:Int) (l:List Op) (_:Unit),Zfn (list,l,())->ZmT (list,l,()) < N+1->ZFG N list l
theorem ZrU(c33:CT 33 JF)(ZwG:CT 109 Z4h)(ZEL:CT 107 Z72)(Zsp:CT 110 Z2p)(ZwD:CT 108 Z63)(ha:ZIs)(hb:ZIk):CT 42 Z2Z/\CT 76 ZtE:=
 Z1Q (μA:=ZiX) (μB:=ZmT) (l:=[(33,JF),(109,Z4h),(107,Z72),(110,Z2p),(108,Z63)]) Zi rfl (⟨c33,ZwG,ZEL,Zsp,ZwD,trivial⟩) Zn6 Zn5 Tryz.func42 Tryz.func76 rfl rfl rfl rfl 1 2 (fun _=> rfl) (fun _=> rfl) V2 V2 (fun N ⟨e,_⟩=> ha N e ()) (fun N ⟨list,l,_⟩=> hb N list l ())
end
theorem Zs2(s:Wst)(n:Int):(Yd s n).out.length<=s.out.length+3:=by
 have h:=Z7W s
 simp only [Yd]
 rw [Z6C]
 grind
theorem ZzZ{s:Wst}{n B K:Int}(hB:0<=B)(hn:0<=n/\n<=K)(h:∀ o∈s.out,0<=o.n/\o.n<=B):∀ o∈(Yd s n).out,0<=o.n/\o.n<=B+K:=by
 have hF:∀ o∈(Zl s).out,0<=o.n/\o.n<=B:=by
  intro o ho
  rcases Z7V s o ho with h1 | h1
  .exact h o h1
  .omega
 intro o ho
 simp only [Yd] at ho
 rw [Z6C] at ho
 grind
theorem ZfK:∀ (l:List Kid),(Jd l).length=l.length
 | []=> rfl
 | k ::r=> by simp [Jd,ZfK r]
theorem ZmQ(e:Edit):(Zz e).words.length<=e.words.length/\(Zz e).kids.length<=e.kids.length:=by
 rw [Zab]
 split
 .simp
 .split
  .simp [ZfK]
  .split <;> simp
theorem Z9N{list:Int}{o:Op}{d:Int}(h:Zc list o d=true)(hk:o.kind=0):1<=o.n/\o.n<=1048576:=by
 obtain ⟨k,n,l,e⟩:=o
 simp only at hk
 subst hk
 simp [Zc] at h
 grind
theorem Z9O{list:Int}{o:Op}{d:Int}(h:Zc list o d=true)(hk:o.kind=3):Z9 o.e d=true:=by
 obtain ⟨k,n,l,e⟩:=o
 simp only at hk
 subst hk
 simp [Zc] at h
 exact h.2.1.2
theorem ZhK{e:Edit}{d:Int}(h:Z9 e d=true)(hk:e.kind=2):∀ k∈e.kids,∃ d,Z9 k.e d=true:=by
 obtain ⟨k,o,n,w,ks,l,os⟩:=e
 change k=2 at hk
 subst hk
 have hks:∃ d last,Zx last ks d=true:=by
  unfold Z9 at h
  split at h
  .cases h
  .grind
 obtain ⟨d',last,hks⟩:=hks
 change ∀ k∈ks,_
 clear h
 induction ks generalizing last with
 | nil=> grind
 | cons a r ih=>
  simp only [Zx,Q2] at hks
  intro k hk
  rcases Q9.1 hk with rfl | hk
  .obtain ⟨a,e⟩:=k
   simp only [J0,Q2] at hks
   grind
  grind
theorem ZkW{e:Edit}{d:Int}(h:Z9 e d=true)(hk:e.kind=3):∀ o∈e.ops,∃ d,Zc e.list o d=true:=by
 obtain ⟨k,o,n,w,ks,l,os⟩:=e
 change k=3 at hk
 subst hk
 have hos:∃ d,Zw l os d=true:=by
  unfold Z9 at h
  split at h
  .cases h
  .grind
 obtain ⟨d',hos⟩:=hos
 change ∀ o∈os,∃ d,Zc l o d=true
 clear h
 induction os with
 | nil=> grind
 | cons a r ih=>
  simp only [Zw,Q2] at hos
  grind
theorem b76:ZIk:=by
 intro N list l _ hp hN
 simp only [Zfn,ZmT] at hp hN
 obtain ⟨p1,p3⟩:=hp
 have hl:=ZF l
 refine ZIO _ _ _ _ ?_
 refine Z4 (ι:=Int × Wst) (fun s=> Z08 list l s.1 s.2.out s.2.gone s.2.brought)
  (fun s=> 0<=s.1/\s.1<=l.length/\Zu list (l.drop s.1.toNat) s.2=Zu list l ⟨[],[],[]⟩/\s.2.out.length<=3*s.1/\s.2.gone.length+s.2.brought.length+Zn (l.drop s.1.toNat)<=Zn l/\∀ o∈s.2.out,0<=o.n/\o.n<=s.1*1048576)
  (fun s=> ((l.length:Int) - s.1).toNat) (0,⟨[],[],[]⟩) rfl ⟨by simp,by simp,by simp,by simp,by simp,by simp⟩ ?_
 rintro ⟨i,s⟩ ⟨g1,g2,g3,g4,g5,g6⟩
 dsimp only at g1 g2 g3 g4 g5 g6
 refine ZxO _ _ _ _ _ _ _ _ _ ?_
 rintro y1 hy1 y2 hy2 y3 hy3 y4 hy4 y5 hy5
 have hy:y2=Edit.nil:=hy2
 subst hy
 have es:Wst.mk s.out s.gone s.brought=s:=rfl
 simp only [es] at hy3 ⊢
 (simp only [iB,vcS])
 refine ⟨fun hi=> ?_,fun hi=> ?_⟩
 .have hmem:=Zf (l:=l) (i:=i.toNat) YL Op.nil
  have hm:=ZI hmem
  have hr:=p3 _ hmem
  rw [ZH g1 hi Op.nil] at g3 g5
  rw [<-hy1] at g3 g5 hm hr
  have hmo:=ZG y1
  simp only [Zu,Jc,Zn] at g3 g5
  rw [<-hy4,<-hy5] at g3
  obtain ⟨d,hr2⟩:=hr
  have hfl:=Z7W s
  have hP:∀ n:Int,0<=n/\n<=1048576->Z8T ((s.out,s.gone,s.brought,()),n,()):=by
   intro n hn
   simp only [Z8T]
   refine ⟨YL,YL,YL,fun o ho=> ?_,YL,YL⟩
   have:=g6 o ho
   constructor
   .omega
   .have:i*1048576<=20000000000*1048576:=YL
    omega
  have hK:∀ n:Int,0<=n/\n<=1048576->Zu list (l.drop (i+1).toNat) (Yd s n)=Zu list l ⟨[],[],[]⟩->
    (∃ j:Int × Wst,Z08 list l (i+1) (Yd s n).out (Yd s n).gone (Yd s n).brought=Z08 list l j.1 j.2.out j.2.gone j.2.brought/\(0<=j.1/\j.1<=l.length/\Zu list (l.drop j.1.toNat) j.2=Zu list l ⟨[],[],[]⟩/\j.2.out.length<=3*j.1/\j.2.gone.length+j.2.brought.length+Zn (l.drop j.1.toNat)<=Zn l/\∀ o∈j.2.out,0<=o.n/\o.n<=j.1*1048576)/\((l.length:Int) - j.1).toNat < ((l.length:Int) - i).toNat):=by
   intro n hn he
   have h1:=Zs2 s n
   have h2:=ZzZ (s:=s) (n:=n) (B:=i*1048576) (K:=1048576) YL hn g6
   refine ⟨(i+1,Yd s n),rfl,⟨YL,YL,he,by grind,by simp only [Yd,Qj];omega,fun o ho=> ?_⟩,YL⟩
   have:=h2 o ho
   dsimp only
   omega
  refine ⟨⟨g1,hi⟩,fun hk=> ?_,fun hk=> ⟨fun hk1=> ?_,fun hk1=> ⟨fun hk2=> ?_,fun hk2=> ⟨fun hk3=> ?_,fun hk3=> ?_⟩⟩⟩⟩
  .rw [if_pos hk] at g3
   have h1:=Z9N hr2 hk
   exact ⟨hP _ YL,V3,hK _ YL g3⟩
  .rw [if_neg hk,if_pos hk1] at g3
   refine ⟨by simp only [ZfC];omega,V3,(i+1,⟨s.out,s.gone++Zb y1.l,s.brought⟩),rfl,⟨YL,YL,g3,by grind,?_,fun o ho=> ?_⟩,YL⟩
   .have:=Zv y1.l
    simp only [Qd,Zb,QC];omega
   grind
  .rw [if_neg hk,if_neg hk1,if_pos hk2] at g3
   refine ⟨by simp only [ZfC];omega,V3,(i+1,⟨s.out,s.gone,s.brought++Zb y1.l⟩),rfl,⟨YL,YL,g3,by grind,?_,fun o ho=> ?_⟩,YL⟩
   .have:=Zv y1.l
    simp only [Qd,Zb,QC];omega
   .have:=g6 o ho
    dsimp only;omega
  .rw [if_neg hk,if_neg hk1,if_neg hk2,if_pos hk3] at g3
   have hre:=Z9O hr2 hk3
   rw [<-hy4] at hre
   have hw:=ZmQ y4
   rw [<-hy5] at hw
   have h1:=ZT y4
   have h2:=Y1 y4.kids
   have hmE:Z8 y4<=Zt y1:=by rw [hmo,hy4];omega
   refine ⟨by simp only [Z3H];grind,by simp only [ZiX];omega,by simp only [Za0];omega,fun hq=> ?_,fun hq=> ?_⟩
   .rw [if_pos hq] at g3
    exact ⟨hP 1 YL,V3,hK 1 YL g3⟩
   .rw [if_neg (by rw [hq];simp)] at g3
    rw [hy3,Z33]
    refine ⟨by simp only [Z6k];omega,by grind,by grind,YL,V3,(i+1,⟨(Zl s).out++[⟨3,0,[],y5⟩],[],[]⟩),rfl,⟨YL,YL,g3,by simp;omega,by simp;omega,fun o ho=> ?_⟩,YL⟩
    dsimp only at ho ⊢
    rcases Qi.1 ho with ho | ho
    .rcases Z7V s o ho with h5 | h5
     .grind
     .omega
    grind
  .rw [if_neg hk,if_neg hk1,if_neg hk2,if_neg hk3] at g3
   refine ⟨V3,(i+1,s),rfl,⟨YL,YL,g3,by grind,by grind,fun o ho=> ?_⟩,YL⟩
   grind
 .rw [Q6 YL] at g3
  simp only [Zu] at g3
  refine ⟨by simp only [Z6k];omega,?_⟩
  simp only [Zky]
  rw [<-g3]
  exact JR
theorem b42:ZIs:=by
 intro N e _ hp hN
 simp only [Z3H,ZiX] at hp hN
 obtain ⟨p1,d,p3⟩:=hp
 have h1:=ZT e
 have h2:=Y1 e.kids
 have h3:=ZF e.ops
 have ha:=Zab e
 refine ZJa _ _ _ ?_
 (simp only [iB,vcS])
 (simp only [Tree.eta,Edit.eta,Tree.kind_mk,Tree.words_mk,Tree.kids_mk])
 refine ⟨fun hk=> ⟨by simp only [JK];omega,by simp only [JK];omega,?_⟩,fun hk=> ⟨fun hk2=> ⟨by simp;omega,?_⟩,fun hk2=> ⟨fun hk3=> ⟨?_,by simp only [ZmT];omega,?_⟩,fun hk3=> ?_⟩⟩⟩
 .rw [if_pos hk] at ha
  simp only [ZcQ,ha]
  exact JR
 .rw [if_neg hk,if_pos hk2] at ha
  refine Z4 (ι:=Int × List Kid) (fun s=> ZaW e s.1 s.2) (fun s=> 0<=s.1/\s.1<=e.kids.length/\s.2.length=s.1/\s.2++Jd (e.kids.drop s.1.toNat)=Jd e.kids) (fun s=> ((e.kids.length:Int) - s.1).toNat) (0,[]) rfl ⟨by simp,by simp,by simp,by simp⟩ ?_
  rintro ⟨j,ks⟩ ⟨f1,f2,f3,f4⟩
  dsimp only at f1 f2 f3 f4
  refine Zyg _ _ _ _ _ _ ?_
  rintro y1 hy1 y2 hy2 y3 hy3
  (simp only [iB,vcS])
  refine ⟨fun hj=> ?_,fun hj=> ?_⟩
  .have hmem:=Zf (l:=e.kids) (i:=j.toNat) YL (KidOf.mk 0 Edit.nil)
   have hm:=Yw hmem
   have hr:=ZhK p3 hk2 _ hmem
   rw [ZH f1 hj (KidOf.mk 0 Edit.nil)] at f4
   rw [<-hy1] at f4 hm hr
   simp only [Jd,ZbX] at f4
   rw [<-hy2] at f4 hm hr
   rw [<-hy3] at f4
   refine ⟨⟨f1,hj⟩,by simp only [Z3H];grind,by simp only [ZiX];omega,by simp;omega,V3,(j+1,ks++[⟨y1.at_,y3⟩]),rfl,⟨YL,YL,by simp;omega,?_⟩,YL⟩
   grind
  .rw [Q6 YL] at f4
   simp only [Jd,Qs] at f4
   rw [f4]
   simp only [ZcQ,ha]
   exact JR
 .simp only [Zfn]
  exact ⟨YL,fun o ho=> ZkW p3 hk3 o ho⟩
 .rw [if_neg hk,if_neg hk2,if_pos hk3] at ha
  simp only [ZcQ,ha]
  exact JR
 .rw [if_neg hk,if_neg hk2,if_neg hk3] at ha
  simp only [ZcQ,ha]
  exact JR
theorem ZnQ:Contract Tryz.prog cfg 42 Z2Z/\Contract Tryz.prog cfg 76 ZtE:=ZrU c33 ZwG ZEL Zsp ZwD b42 b76
noncomputable section
def Z6B(N:Nat):List (FuncId × Fs U):=(44,fs ZwS (fun a=> [Z3H a,ZiX a < N]) ZcQ) ::(78,fs ZjA (fun a=> [Zfn a,ZmT a < N]) Zky) ::[(34,JF),(111,Z71),(112,Z4g)]
def Zj3:Zd U:=lvk [([1,2],[1,2]),([1,2,6],[1,2]),([1,2,6,7],[1,2]),([2],[2]),([1,2,6,16],[1,2]),([1,2,3],[1,2,3]),([1,2,3],[1,2,3]),([1,2,3,4],[1,2,((.loc 3),(an 8 [.own .kid]))]),([1,2,3,4,29],[1,2,3]),([1,2,3,4],[1,2,((.loc 3),(an 8 [.own .kid]))]),([1,2,3,4],[1,2,3]),([2],[2]),([1,2,52],[1,2]),([2],[2]),([2],[2])]
def ZaV(e:Edit)(x4:Int)(ml3_8:List Kid):LSt U:=(L2 [pL 1,pL 2,pL 3,pI 4 x4] [(.loc 1,(enc .edit e)),(.loc 2,zc1),(.loc 3,[ci 2,ci 0,.nils,.nils,ci 0,.nils,.nils,sU .wedit (([]:List WEdit)++e.words) (.own (.l 3 7)),sU .kid ml3_8 (.own (.l 3 8)),ci 0,.nils])])
abbrev W44(N:Nat)(e:Edit)(Q:QT):=AW (Z1 (Z6B N)) Tryz.f44 Zj3 [] (L2 [(0,.agg (enc .edit e))] []) Q
theorem ZJ9(N:Nat)(e:Edit)(Q:QT)(h:let z1:=Tree.mk e.new.kind e.new.words e.new.kids;let z0:=Tree.mk e.old.kind e.old.words e.old.kids;iB (e.kind==1) ((JK (z0,()))/\(JK (z1,()))/\(Q .ret (L2 [pL 2] [(.loc 2,([ci 1]++enc .tree (Z5 z0)++enc .tree (Z5 z1)++[.nils,.nils,ci 0,.nils]))]))) (iB (e.kind==2) (((([]:List WEdit).length+e.words.length)*32<=140737488355328)/\(Zj (AW (Z1 (Z6B N)) Tryz.f44 Zj3 [1,0,1,0,1,1,1,0,1,1,0,1,0,0]) (ZaV e 0 []) (xB 1 (SW (Z1 (Z6B N)) Tryz.f44 Zj3 [1,0,1,0,1,1,1,0,1,1,1] (xB 0 (SW (Z1 (Z6B N)) Tryz.f44 Zj3 [1,1] Q)))))) (iB (e.kind==3) ((Zfn (e.list,e.ops,()))/\(ZmT (e.list,e.ops,()) < N)/\(Q .ret (L2 [pL 2] [(.loc 2,[ci 3,ci 0,.nils,.nils,ci 0,.nils,.nils,.nils,.nils,ci e.list,sU .op ((Zl (Zu e.list e.ops (Wst.mk [] [] []))).out) .unk])]))) (Q .ret (L2 [pL 2] [(.loc 2,zc1)]))))):
  W44 N e Q:=
 Eq.mpr V4 h
abbrev ZFp(N:Nat)(e:Edit)(x4:Int)(ml3_8:List Kid)(N0:NT)(Q:QT):=AW (Z1 (Z6B N)) Tryz.f44 Zj3 [1,0,1,0,1,1,1,0,1,1,0,1,0,0] (ZaV e x4 ml3_8) (xT N0 (xB 1 (SW (Z1 (Z6B N)) Tryz.f44 Zj3 [1,0,1,0,1,1,1,0,1,1,1] (xB 0 (SW (Z1 (Z6B N)) Tryz.f44 Zj3 [1,1] Q)))))
theorem Zyf(N:Nat)(e:Edit)(x4:Int)(ml3_8:List Kid)(N0:NT)(Q:QT)(h:∀ y_1,y_1=(e.kids.getD x4.toNat (KidOf.mk 0 Edit.nil))->∀ y_2,y_2=(y_1.e)->∀ y_3,y_3=(Zz y_2)->iB (decide (x4 < (e.kids.length:Int))) (((0:Int)<=x4/\x4 < (e.kids.length:Int))/\((0:Int)<=x4/\x4 < (e.kids.length:Int))/\(Z3H (y_2,()))/\(ZiX (y_2,()) < N)/\((ml3_8.length+([(KidOf.mk y_1.at_ y_3:Kid)]).length)*208<=140737488355328)/\((InR (x4+1))/\(N0 (ZaV e (x4+1) (ml3_8++([(KidOf.mk y_1.at_ y_3:Kid)])))))) (Q .ret (L2 [pL 2] [(.loc 2,[ci 2,ci 0,.nils,.nils,ci 0,.nils,.nils,sU .wedit (([]:List WEdit)++e.words) (.own (.l 2 7)),sU .kid ml3_8 (.own (.l 2 8)),ci 0,.nils])]))):
  ZFp N e x4 ml3_8 N0 Q:=
 Eq.mpr V4 (h _ rfl _ (Z7 _) _ (Z7 _))
def ZG1(N:Nat)(e:Edit):Prop:=AW (Z1 (Z6B N)) Tryz.f44 Zj3 [] (Zg (ZwS.can (e,())) []) (EQ Tryz.f44 (ZcQ (e,())) [])
abbrev ZIr:Prop:=∀ (N:Nat) (e:Edit) (_:Unit),Z3H (e,())->ZiX (e,()) < N+1->ZG1 N e
def Z85:Zd U:=lvk [([0,1],[]),([0,1,(5,[.wr .op])],[]),([0,1,(5,[.wr .op]),6],[]),([0,1,(5,[.wr .op]),6,16],[]),([0,1,(5,[.wr .op]),6],[]),([0,1,(5,[.wr .op]),6,7,8],[]),([0,1,(5,[.wr .op]),7,8,9],[]),([0,1,(5,[.wr .op]),7,8,9,33],[]),([0,1,(5,[.wr .op]),8,9],[]),([0,1,(5,[.wr .op]),8,9,41],[]),([0,1,(5,[.wr .op]),8,9,41],[]),([0,1,(5,[.wr .op]),6],[]),([0,1,(5,[.wr .op]),6,51],[]),([4],[]),([0,1,(5,[.wr .op]),6,11],[11]),([0,1,(5,[.wr .op]),6,11,64],[11]),([0,1,(5,[.wr .op]),6,11],[11]),([0,1,(5,[.wr .op]),6,11,75],[11]),([0,1,(5,[.wr .op]),6,11],[11]),([0,1,(5,[.wr .op]),6,11,12],[11]),([0,1,(5,[.wr .op]),6,11,12,94],[11]),([0,1,(5,[.wr .op]),6],[]),([0,1,(5,[.wr .op]),6],[]),([4],[])]
def Jg(list:Int)(l:List Op)(x6:Int)(re_5_0:List Op):LSt U:=(⟨[pI 0 list,(1,.c (sU .op l .unk)),(5,.c (.mref (.e 5 0))),pI 6 x6],[],[(.e 5 0,LC.mk (U:=U) .op re_5_0 0)]⟩:LSt U)
def Z6E(list:Int)(l:List Op)(x6:Int)(re_5_0_a:List Op):LSt U:=(⟨[pI 0 list,(1,.c (sU .op l .unk)),(5,.c (.mref (.e 5 0))),pI 8 (x6+YU (l.drop x6.toNat)),(9,.c (sU .tree (Z1c 2 (l.drop x6.toNat)) .unk)),(41,.c (.bool (decide ((0:Int) < ((Z1c 2 (l.drop x6.toNat)).length:Int)))))],[],[(.e 5 0,LC.mk (U:=U) .op re_5_0_a 0)]⟩:LSt U)
abbrev W78(N:Nat)(list:Int)(l:List Op)(Q:QT):=AW (Z1 (Z6B N)) Tryz.f78 Z85 [] (L2 [pI 0 list,(1,.c (sU .op l .unk))] []) Q
theorem ZIN(N:Nat)(list:Int)(l:List Op)(Q:QT)(h:Zj (AW (Z1 (Z6B N)) Tryz.f78 Z85 [1,1,0,1,0,0]) (Jg list l 0 []) (xB 0 (SW (Z1 (Z6B N)) Tryz.f78 Z85 [1,1,1] Q))):
  W78 N list l Q:=
 Eq.mpr V4 h
abbrev ZFb(N:Nat)(list:Int)(l:List Op)(x6:Int)(re_5_0:List Op)(N0:NT)(Q:QT):=AW (Z1 (Z6B N)) Tryz.f78 Z85 [1,1,0,1,0,0] (Jg list l x6 re_5_0) (xT N0 (xB 0 (SW (Z1 (Z6B N)) Tryz.f78 Z85 [1,1,1] Q)))
theorem ZxM(N:Nat)(list:Int)(l:List Op)(x6:Int)(re_5_0:List Op)(N0:NT)(Q:QT)(h:∀ y_1,y_1=(Edit.mk 0 (Tree.mk 0 [] []) (Tree.mk 0 [] []) [] [] 0 [])->let z2:=Z1c 1 (l.drop x6.toNat);let z1:=Z1c 2 (l.drop x6.toNat);let z3:=decide ((0:Int) < (z1.length:Int));let z0:=xB 1 (SW (Z1 (Z6B N)) Tryz.f78 Z85 [1,1,0,1,0,0,1,1] (xT N0 (xB 0 (SW (Z1 (Z6B N)) Tryz.f78 Z85 [1,1,1] Q))));iB (decide (x6 < (l.length:Int))) ((Z8S (l,x6,1,()))/\((Z8S (l,x6,2,()))/\(iB (decide ((0:Int) < (z2.length:Int))) (((re_5_0.length+([(OpOf.mk 1 0 z2 y_1:Op)]).length)*240<=140737488355328)/\(iB z3 ((((re_5_0++([(OpOf.mk 1 0 z2 y_1:Op)])).length+([(OpOf.mk 2 0 z1 y_1:Op)]).length)*240<=140737488355328)/\(AW (Z1 (Z6B N)) Tryz.f78 Z85 [1,1,0,1,0,0,1,0,0,1,1,1,1] (Z6E list l x6 ((re_5_0++([(OpOf.mk 1 0 z2 y_1:Op)]))++([(OpOf.mk 2 0 z1 y_1:Op)]))) z0)) (AW (Z1 (Z6B N)) Tryz.f78 Z85 [1,1,0,1,0,0,1,0,0,1,1,1,1] (Z6E list l x6 (re_5_0++([(OpOf.mk 1 0 z2 y_1:Op)]))) z0))) (iB z3 (((re_5_0.length+([(OpOf.mk 2 0 z1 y_1:Op)]).length)*240<=140737488355328)/\(AW (Z1 (Z6B N)) Tryz.f78 Z85 [1,1,0,1,0,0,1,0,0,1,1,1,1] (Z6E list l x6 (re_5_0++([(OpOf.mk 2 0 z1 y_1:Op)]))) z0)) (AW (Z1 (Z6B N)) Tryz.f78 Z85 [1,1,0,1,0,0,1,0,0,1,1,1,1] (Z6E list l x6 re_5_0) z0))))) (Q .ret (L2 [(4,.c (sU .op re_5_0 (.own (.e 4 0))))] []))):
  ZFb N list l x6 re_5_0 N0 Q:=
 Eq.mpr V4 (h _ rfl)
abbrev Zxq(N:Nat)(list:Int)(l:List Op)(x6:Int)(re_5_0_a:List Op)(N0:NT)(Q:QT):=AW (Z1 (Z6B N)) Tryz.f78 Z85 [1,1,0,1,0,0,1,0,0,1,1,1,1] (Z6E list l x6 re_5_0_a) (xB 1 (SW (Z1 (Z6B N)) Tryz.f78 Z85 [1,1,0,1,0,0,1,1] (xT N0 (xB 0 (SW (Z1 (Z6B N)) Tryz.f78 Z85 [1,1,1] Q)))))
theorem ZxN(N:Nat)(list:Int)(l:List Op)(x6:Int)(re_5_0_a:List Op)(N0:NT)(Q:QT)(h:∀ y_1,y_1=(List.getD l (Int.toNat (x6+YU (l.drop x6.toNat))) Op.nil)->∀ y_2,y_2=(Edit.mk 0 (Tree.mk 0 [] []) (Tree.mk 0 [] []) [] [] 0 [])->∀ y_3,y_3=(List.getD re_5_0_a (Int.toNat (((re_5_0_a.length:Int):Int) - 1)) Op.nil)->∀ y_4,y_4=(y_1.e)->∀ y_5,y_5=(y_3.e)->∀ y_6,y_6=(Zz y_4)->let z4:=decide ((0:Int) < (re_5_0_a.length:Int));let z3:=InR (((re_5_0_a.length:Int):Int) - 1);let z2:=InR (((x6+YU (l.drop x6.toNat)):Int)+1);let z1:=bif ((3:Int)==0) then z4 else false;let z0:=bif ((0:Int)==0) then z4 else false;let z5:=bif z0 then (y_3.kind==0) else false;(iB (decide (((l.length:Int):Int)<=(x6+YU (l.drop x6.toNat)))) ((Q .ret (L2 [(4,.c (sU .op re_5_0_a (.own (.e 4 0))))] []))) (((0:Int)<=(x6+YU (l.drop x6.toNat))/\(x6+YU (l.drop x6.toNat)) < (l.length:Int))/\(((0:Int)<=(x6+YU (l.drop x6.toNat))/\(x6+YU (l.drop x6.toNat)) < (l.length:Int))/\(iB (y_1.kind==3) (((0:Int)<=(x6+YU (l.drop x6.toNat))/\(x6+YU (l.drop x6.toNat)) < (l.length:Int))/\(Z3H (y_4,()))/\(ZiX (y_4,()) < N)/\((ZmJ (list,y_6,()))/\(iB (Zds list y_6) (((Tt ((0:Int)==0))/\(Tt ((0:Int)==0))/\(Tt z0)/\(z0=true->InR (((re_5_0_a.length:Int):Int) - 1))/\(Tt z0)/\(Tt z0)/\(z0=true->(0:Int)<=(((re_5_0_a.length:Int):Int) - 1)/\(((re_5_0_a.length:Int):Int) - 1) < (re_5_0_a.length:Int))/\(Tt z0)/\(Tt z0)/\(Tt z0)/\(Tt z0)/\(iB z5 (z3/\z3/\((0:Int)<=(((re_5_0_a.length:Int):Int) - 1)/\(((re_5_0_a.length:Int):Int) - 1) < (re_5_0_a.length:Int))/\(InR (y_3.n+1))/\((0:Int)<=(((re_5_0_a.length:Int):Int) - 1)/\(((re_5_0_a.length:Int):Int) - 1) < (re_5_0_a.length:Int))/\((0:Nat)<=(Int.toNat (((re_5_0_a.length:Int):Int) - 1)))/\(z2/\(N0 (Jg list l (((x6+YU (l.drop x6.toNat)):Int)+1) (List.set re_5_0_a (Int.toNat (((re_5_0_a.length:Int):Int) - 1)) (OpOf.mk y_3.kind (y_3.n+1) y_3.l y_5:Op)))))) (((re_5_0_a.length+([(OpOf.mk 0 1 [] y_2:Op)]).length)*240<=140737488355328)/\(z2/\(N0 (Jg list l (((x6+YU (l.drop x6.toNat)):Int)+1) (re_5_0_a++([(OpOf.mk 0 1 [] y_2:Op)]))))))))) (((Tt ((3:Int)==0))/\(Tt ((3:Int)==0))/\(Tt z1)/\(z1=true->InR (((re_5_0_a.length:Int):Int) - 1))/\(Tt z1)/\(Tt z1)/\(z1=true->(0:Int)<=(((re_5_0_a.length:Int):Int) - 1)/\(((re_5_0_a.length:Int):Int) - 1) < (re_5_0_a.length:Int))/\(Tt z1)/\(Tt z1)/\(Tt z1)/\(Tt z1)/\(iB (bif z1 then (y_3.kind==0) else false) (z3/\z3/\((0:Int)<=(((re_5_0_a.length:Int):Int) - 1)/\(((re_5_0_a.length:Int):Int) - 1) < (re_5_0_a.length:Int))/\(InR (y_3.n+0))/\((0:Int)<=(((re_5_0_a.length:Int):Int) - 1)/\(((re_5_0_a.length:Int):Int) - 1) < (re_5_0_a.length:Int))/\((0:Nat)<=(Int.toNat (((re_5_0_a.length:Int):Int) - 1)))/\(z2/\(N0 (Jg list l (((x6+YU (l.drop x6.toNat)):Int)+1) (List.set re_5_0_a (Int.toNat (((re_5_0_a.length:Int):Int) - 1)) (OpOf.mk y_3.kind (y_3.n+0) y_3.l y_5:Op)))))) (((re_5_0_a.length+([(OpOf.mk 3 0 [] y_6:Op)]).length)*240<=140737488355328)/\(z2/\(N0 (Jg list l (((x6+YU (l.drop x6.toNat)):Int)+1) (re_5_0_a++([(OpOf.mk 3 0 [] y_6:Op)])))))))))))) (((Tt ((0:Int)==0))/\(Tt ((0:Int)==0))/\(Tt z0)/\(z0=true->InR (((re_5_0_a.length:Int):Int) - 1))/\(Tt z0)/\(Tt z0)/\(z0=true->(0:Int)<=(((re_5_0_a.length:Int):Int) - 1)/\(((re_5_0_a.length:Int):Int) - 1) < (re_5_0_a.length:Int))/\(Tt z0)/\(Tt z0)/\(Tt z0)/\(Tt z0)/\(iB z5 (z3/\z3/\((0:Int)<=(((re_5_0_a.length:Int):Int) - 1)/\(((re_5_0_a.length:Int):Int) - 1) < (re_5_0_a.length:Int))/\(InR (y_3.n+y_1.n))/\((0:Int)<=(((re_5_0_a.length:Int):Int) - 1)/\(((re_5_0_a.length:Int):Int) - 1) < (re_5_0_a.length:Int))/\((0:Nat)<=(Int.toNat (((re_5_0_a.length:Int):Int) - 1)))/\(z2/\(N0 (Jg list l (((x6+YU (l.drop x6.toNat)):Int)+1) (List.set re_5_0_a (Int.toNat (((re_5_0_a.length:Int):Int) - 1)) (OpOf.mk y_3.kind (y_3.n+y_1.n) y_3.l y_5:Op)))))) (((re_5_0_a.length+([(OpOf.mk 0 y_1.n [] y_2:Op)]).length)*240<=140737488355328)/\(z2/\(N0 (Jg list l (((x6+YU (l.drop x6.toNat)):Int)+1) (re_5_0_a++([(OpOf.mk 0 y_1.n [] y_2:Op)])))))))))))))):
  Zxq N list l x6 re_5_0_a N0 Q:=
 Eq.mpr V4 (h _ rfl _ rfl _ rfl _ (Z7 _) _ (Z7 _) _ (Z7 _))
def ZFF(N:Nat)(list:Int)(l:List Op):Prop:=AW (Z1 (Z6B N)) Tryz.f78 Z85 [] (Zg (ZjA.can (list,l,())) []) (EQ Tryz.f78 (Zky (list,l,())) [])
abbrev ZIj:Prop:=∀ (N:Nat) (list:Int) (l:List Op) (_:Unit),Zfn (list,l,())->ZmT (list,l,()) < N+1->ZFF N list l
theorem ZrT(c34:CT 34 JF)(ZEK:CT 111 Z71)(ZwF:CT 112 Z4g)(ha:ZIr)(hb:ZIj):CT 44 Z2Z/\CT 78 ZtE:=
 Z1Q (μA:=ZiX) (μB:=ZmT) (l:=[(34,JF),(111,Z71),(112,Z4g)]) Zi rfl (⟨c34,ZEK,ZwF,trivial⟩) Zj3 Z85 Tryz.func44 Tryz.func78 rfl rfl rfl rfl 1 2 (fun _=> rfl) (fun _=> rfl) V2 V2 (fun N ⟨e,_⟩=> ha N e ()) (fun N ⟨list,l,_⟩=> hb N list l ())
end
theorem ZhR:∀ (l:List Op),0<=YU l/\(YU l < l.length->(l.getD (YU l).toNat Op.nil).kind≠1/\(l.getD (YU l).toNat Op.nil).kind≠2)
 | []=> by simp [YU]
 | o ::r=> by
  obtain ⟨h1,h2⟩:=ZhR r
  rw [YU]
  grind
theorem Zqf:∀ (l:List Op),YU l<=l.length
 | []=> by simp [YU]
 | o ::r=> by
  have:=Zqf r
  rw [YU]
  grind
theorem ZnH(l:List Op)(i k:Nat):(l.drop i).getD k Op.nil=l.getD (i+k) Op.nil:=by
 grind
theorem Zit{list:Int}{o:Op}{d:Int}(h:Zc list o d=true):o.kind=0\/o.kind=1\/o.kind=2\/o.kind=3:=by
 obtain ⟨k,n,l,e⟩:=o
 show k=0\/k=1\/k=2\/k=3
 rw [Zc] at h
 grind
theorem b78:ZIj:=by
 intro N list l _ hp hN
 simp only [Zfn,ZmT] at hp hN
 obtain ⟨p1,p3⟩:=hp
 have hl:=ZF l
 refine ZIN _ _ _ _ ?_
 refine Z4 (ι:=Int × List Op) (fun s=> Jg list l s.1 s.2)
  (fun s=> 0<=s.1/\s.1<=l.length/\(Zl (Zu list (l.drop s.1.toNat) ⟨s.2,[],[]⟩)).out=(Zl (Zu list l ⟨[],[],[]⟩)).out/\s.2.length<=3*s.1/\∀ o∈s.2,0<=o.n/\o.n<=s.1*1048576)
  (fun s=> ((l.length:Int) - s.1).toNat) (0,[]) rfl ⟨by simp,by simp,by simp,by simp,by simp⟩ ?_
 rintro ⟨i,out⟩ ⟨g1,g2,g3,g4,g6⟩
 dsimp only at g1 g2 g3 g4 g6
 have key:i < l.length->∀ F,F=(Zl ⟨out,Z1c 1 (l.drop i.toNat),Z1c 2 (l.drop i.toNat)⟩).out->
   Zxq N list l i F (fun s2=> ∃ j:Int × List Op,s2=Jg list l j.1 j.2/\(0<=j.1/\j.1<=l.length/\(Zl (Zu list (l.drop j.1.toNat) ⟨j.2,[],[]⟩)).out=(Zl (Zu list l ⟨[],[],[]⟩)).out/\j.2.length<=3*j.1/\∀ o∈j.2,0<=o.n/\o.n<=j.1*1048576)/\((l.length:Int) - j.1).toNat < ((l.length:Int) - i).toNat) (Y2 cfg Tryz.f78.ntmps Tryz.f78.results.toList (Zky (list,l,())) []):=by
  intro hi F hF
  obtain ⟨q1,q2⟩:=ZhR (l.drop i.toNat)
  have q3:=Zqf (l.drop i.toNat)
  rw [QF] at q2 q3
  rw [ZnH,show i.toNat+(YU (l.drop i.toNat)).toNat=(i+YU (l.drop i.toNat)).toNat by omega] at q2
  rw [Zhy,XG,show i.toNat+(YU (l.drop i.toNat)).toNat=(i+YU (l.drop i.toNat)).toNat by omega] at g3
  simp only [Qq] at g3
  have hfl:=Z7W ⟨out,Z1c 1 (l.drop i.toNat),Z1c 2 (l.drop i.toNat)⟩
  have hfm:=Z7V ⟨out,Z1c 1 (l.drop i.toNat),Z1c 2 (l.drop i.toNat)⟩
  have hflush:Zl ⟨out,Z1c 1 (l.drop i.toNat),Z1c 2 (l.drop i.toNat)⟩=⟨F,[],[]⟩:=by rw [hF];try rfl
  have hkeep:∀ n,Yd ⟨out,Z1c 1 (l.drop i.toNat),Z1c 2 (l.drop i.toNat)⟩ n=⟨Jx F n,[],[]⟩:=by intro n;rw [hF];try rfl
  rw [<-hF] at hfl hfm
  simp only at hfl hfm
  refine ZxN _ _ _ _ _ _ _ ?_
  rintro y1 hy1 y2 hy2 y3 hy3 y4 hy4 y5 hy5 y6 hy6
  generalize hj:i+YU (l.drop i.toNat)=j at*
  have hy:y2=Edit.nil:=hy2
  subst hy
  have hFn:∀ o∈F,0<=o.n/\o.n<=i*1048576:=by
   intro o ho
   rcases hfm o ho with h1 | h1
   .exact g6 o h1
   .omega
  simp only [show ((0:Int)==0)=true from rfl,show ((3:Int)==0)=false from rfl,cond_true,cond_false]
  simp only [iB,vcT,vcS,aiT,true_and]
  refine ⟨fun hjl=> ?_,fun hjl=> ?_⟩
  .rw [Q6 YL] at g3
   simp only [Zu,hflush] at g3
   simp only [Zky]
   rw [<-g3]
   exact JR
  .have hmem:=Zf (l:=l) (i:=j.toNat) YL Op.nil
   have hm:=ZI hmem
   obtain ⟨d,hr2⟩:=p3 _ hmem
   have hq:=q2 YL
   rw [<-hy1] at hm hr2 hq
   have hkind:=Zit hr2
   rw [ZH YL YL Op.nil,<-hy1,Zu,Jc] at g3
   have hmo:=ZG y1
   have hlast:(F.length:Int) - 1=((F.length - 1:Nat):Int)\/F.length=0:=YL
   have e2:((F.length:Int) - 1).toNat=F.length - 1:=YL
   rw [e2] at hy3 ⊢
   have hk3:0 < F.length->0<=y3.n/\y3.n<=i*1048576:=fun h=> by
    rw [hy3];exact hFn _ (Zf YL _)
   have keeps:∀ n:Int,0<=n/\n<=1048576->(Zl (Zu list (l.drop (j+1).toNat) ⟨Jx F n,[],[]⟩)).out=(Zl (Zu list l ⟨[],[],[]⟩)).out->
     ((0 < F.length/\y3.kind=0->∃ q:Int × List Op,Jg list l (j+1) (F.set (F.length - 1) ⟨y3.kind,y3.n+n,y3.l,y5⟩)=Jg list l q.1 q.2/\(0<=q.1/\q.1<=l.length/\(Zl (Zu list (l.drop q.1.toNat) ⟨q.2,[],[]⟩)).out=(Zl (Zu list l ⟨[],[],[]⟩)).out/\q.2.length<=3*q.1/\∀ o∈q.2,0<=o.n/\o.n<=q.1*1048576)/\((l.length:Int) - q.1).toNat < ((l.length:Int) - i).toNat)/\
      (¬(0 < F.length/\y3.kind=0)->∃ q:Int × List Op,Jg list l (j+1) (F++[⟨0,n,[],Edit.nil⟩])=Jg list l q.1 q.2/\(0<=q.1/\q.1<=l.length/\(Zl (Zu list (l.drop q.1.toNat) ⟨q.2,[],[]⟩)).out=(Zl (Zu list l ⟨[],[],[]⟩)).out/\q.2.length<=3*q.1/\∀ o∈q.2,0<=o.n/\o.n<=q.1*1048576)/\((l.length:Int) - q.1).toNat < ((l.length:Int) - i).toNat)):=by
    intro n hn hg
    rw [Z6C,<-hy3,<-hy5] at hg
    refine ⟨fun hc=> ?_,fun hc=> ?_⟩
    .rw [if_pos ⟨YL,hc.2⟩] at hg
     refine ⟨(j+1,_),rfl,⟨V5,V5,hg,by dsimp only;rw [List.length_set];omega,fun o ho=> ?_⟩,V5⟩
     dsimp only at ho ⊢
     have hk4:=hk3 YL
     rcases List.mem_or_eq_of_mem_set ho with ho | rfl
     .have:=hFn o ho;omega
     .simp only;omega
    .rw [if_neg (fun h=> hc ⟨YL,h.2⟩)] at hg
     refine ⟨(j+1,_),rfl,⟨V5,V5,hg,by dsimp only;rw [List.length_append,List.length_singleton];omega,fun o ho=> ?_⟩,V5⟩
     dsimp only at ho ⊢
     rcases Qi.1 ho with ho | ho
     .have:=hFn o ho;omega
     .simp only [Qg] at ho
      subst ho
      simp only;omega
   refine ⟨YL,YL,fun hk=> ?_,fun hk=> ?_⟩
   .rw [V0,V0,V0,if_pos hk] at g3
    rw [<-hy4,<-hy6,hkeep,hflush] at g3
    have hre:=Z9O hr2 hk
    rw [<-hy4] at hre
    have hmE:Z8 y4<=Zt y1:=by rw [hmo,hy4];omega
    refine ⟨YL,by simp only [Z3H];exact ⟨YL,d,hre⟩,by simp only [ZiX];omega,by simp only [ZmJ],fun hq=> ?_,fun hq=> ?_⟩
    .rw [if_pos hq] at g3
     have hK:=keeps 1 YL g3
     refine ⟨V3,YL,fun hc=> ?_,fun hc=> ?_⟩
     .have hk4:=hk3 YL
      exact ⟨V3,V3,YL,V3,YL,YL,V3,hK.1 ⟨YL,hc.2⟩⟩
     .exact ⟨by simp only [Qw];omega,V3,hK.2 (fun h=> by omega)⟩
    .rw [if_neg (by rw [hq];simp)] at g3
     refine ⟨fun h=> (nomatch h),fun h=> (nomatch h),fun h=> (nomatch h),by simp only [Qw];omega,V3,(j+1,F++[⟨3,0,[],y6⟩]),rfl,⟨V5,V5,g3,by dsimp only;rw [List.length_append,List.length_singleton];omega,fun o ho=> ?_⟩,V5⟩
     dsimp only at ho ⊢
     rcases Qi.1 ho with ho | ho
     .have:=hFn o ho;omega
     .simp only [Qg] at ho
      subst ho
      simp only;omega
   .have hk0:y1.kind=0:=YL
    rw [if_pos hk0,hkeep] at g3
    have h1:=Z9N hr2 hk0
    have hK:=keeps y1.n YL g3
    refine ⟨V3,YL,fun hc=> ?_,fun hc=> ?_⟩
    .have hk4:=hk3 YL
     exact ⟨V3,V3,YL,V3,YL,YL,V3,hK.1 ⟨YL,hc.2⟩⟩
    .exact ⟨by simp only [Qw];omega,V3,hK.2 (fun h=> by omega)⟩
 refine ZxM _ _ _ _ _ _ _ ?_
 rintro y1 hy1
 have hy:y1=Edit.nil:=hy1
 subst hy
 (simp only [iB,vcS])
 refine ⟨fun hi=> ?_,fun hi=> ?_⟩
 .have kk:=key hi
  simp only [Zl,Z0M] at kk
  refine ⟨by simp only [Z8S];omega,by simp only [Z8S];omega,fun h1=> ⟨by simp only [Qw];omega,fun h2=> ⟨by simp only [Qd,Qw];omega,?_⟩,fun h2=> ?_⟩,fun h1=> ⟨fun h2=> ⟨by simp only [Qw];omega,?_⟩,fun h2=> ?_⟩⟩
  .refine kk _ ?_
   rw [V0,V0];simp
  .refine kk _ ?_
   rw [V0,V1];simp
  .refine kk _ ?_
   rw [V1,V0];simp
  .refine kk _ ?_
   rw [V1,V1];simp
 .rw [Q6 YL] at g3
  have:(Zl (Zu list [] ⟨out,[],[]⟩)).out=out:=by simp [Zu,Zl,Z0M]
  rw [this] at g3
  simp only [Zky]
  rw [<-g3]
  exact JR
theorem Zmm{e:Edit}{d:Int}(h:Z9 e d=true):(e.kind=0\/e.kind=1\/e.kind=2\/e.kind=3)/\(e.kind≠3->e.list=0):=by
 obtain ⟨k,o,n,w,ks,l,os⟩:=e
 show (k=0\/k=1\/k=2\/k=3)/\(k≠3->l=0)
 rw [Z9] at h
 grind
theorem b44:ZIr:=by
 intro N e _ hp hN
 simp only [Z3H,ZiX] at hp hN
 obtain ⟨p1,d,p3⟩:=hp
 have h1:=ZT e
 have h2:=Y1 e.kids
 have h3:=ZF e.ops
 have ha:=Zab e
 obtain ⟨hkd,hli⟩:=Zmm p3
 refine ZJ9 _ _ _ ?_
 (simp only [iB,vcS])
 (simp only [Tree.eta,Edit.eta,Tree.kind_mk,Tree.words_mk,Tree.kids_mk])
 refine ⟨fun hk=> ⟨by simp only [JK];omega,by simp only [JK];omega,?_⟩,fun hk=> ⟨fun hk2=> ⟨by simp;omega,?_⟩,fun hk2=> ⟨fun hk3=> ⟨?_,by simp only [ZmT];omega,?_⟩,fun hk3=> ?_⟩⟩⟩
 .rw [if_pos hk] at ha
  simp only [ZcQ,ha]
  (repeat' (first | exact trivial | exact rfl | apply And.intro))
  .exact hk.symm
  .exact (hli YL).symm
 .rw [if_neg hk,if_pos hk2] at ha
  refine Z4 (ι:=Int × List Kid) (fun s=> ZaV e s.1 s.2) (fun s=> 0<=s.1/\s.1<=e.kids.length/\s.2.length=s.1/\s.2++Jd (e.kids.drop s.1.toNat)=Jd e.kids) (fun s=> ((e.kids.length:Int) - s.1).toNat) (0,[]) rfl ⟨by simp,by simp,by simp,by simp⟩ ?_
  rintro ⟨j,ks⟩ ⟨f1,f2,f3,f4⟩
  dsimp only at f1 f2 f3 f4
  refine Zyf _ _ _ _ _ _ ?_
  rintro y1 hy1 y2 hy2 y3 hy3
  (simp only [iB,vcS])
  refine ⟨fun hj=> ?_,fun hj=> ?_⟩
  .have hmem:=Zf (l:=e.kids) (i:=j.toNat) YL (KidOf.mk 0 Edit.nil)
   have hm:=Yw hmem
   have hr:=ZhK p3 hk2 _ hmem
   rw [ZH f1 hj (KidOf.mk 0 Edit.nil)] at f4
   rw [<-hy1] at f4 hm hr
   simp only [Jd,ZbX] at f4
   rw [<-hy2] at f4 hm hr
   rw [<-hy3] at f4
   refine ⟨⟨f1,hj⟩,⟨f1,hj⟩,by simp only [Z3H];exact ⟨YL,hr⟩,by simp only [ZiX];omega,by simp;omega,V3,(j+1,ks++[⟨y1.at_,y3⟩]),rfl,⟨V5,V5,by simp;omega,?_⟩,V5⟩
   simp only [Qb,Qk,Qq]
   exact f4
  .rw [Q6 YL] at f4
   simp only [Jd,Qs] at f4
   rw [f4]
   simp only [ZcQ,ha]
   (repeat' (first | exact trivial | exact rfl | apply And.intro))
   .exact hk2.symm
   .exact (hli YL).symm
 .simp only [Zfn]
  exact ⟨YL,fun o ho=> ZkW p3 hk3 o ho⟩
 .rw [if_neg hk,if_neg hk2,if_pos hk3] at ha
  simp only [ZcQ,ha]
  (repeat' (first | exact trivial | exact rfl | apply And.intro))
  exact hk3.symm
 .rw [if_neg hk,if_neg hk2,if_neg hk3] at ha
  simp only [ZcQ,ha]
  (repeat' (first | exact trivial | exact rfl | apply And.intro))
  .show 0=e.kind
   omega
  .exact (hli hk3).symm
theorem ZnP:Contract Tryz.prog cfg 44 Z2Z/\Contract Tryz.prog cfg 78 ZtE:=ZrT c34 ZEK ZwF b44 b78
noncomputable section
def ZtT(a:Edit × Unit):V U:= .agg (enc .edit (Zz (Zs a.1)))
def Z25:Fs U:=fs ZwS (fun a=> [Z3H a]) ZtT
def Zw5:List (FuncId × Fs U):=[(42,Z2Z),(69,Zey)]
def ZDX:Zd U:=lvl [([1,2],[1,2]),([2],[2])]
abbrev W37(e:Edit)(Q:QT):=AW (Z1 Zw5) Tryz.f37 ZDX [] (L2 [(0,.agg (enc .edit e))] []) Q
theorem ZJe(e:Edit)(Q:QT)(h:∀ y_1,y_1=e->∀ y_2,y_2=(Zs y_1)->(Zfl (y_1,()))/\(Z3H (y_2,()))/\(Q .ret (L2 [pL 2] [(.loc 2,(enc .edit (Zz y_2)))]))):
  W37 e Q:=
 Eq.mpr V4 (h _ (Z7 _) _ (Z7 _))
def ZG6(e:Edit):Prop:=AW (Z1 Zw5) Tryz.f37 ZDX [] (Zg (ZwS.can (e,())) []) (EQ Tryz.f37 (ZtT (e,())) [])
theorem ZDo(c42:CT 42 Z2Z)(c69:CT 69 Zey)(hb:∀ (e:Edit) (_:Unit),Z3H (e,())->ZG6 e):CT 37 Z25:=
 Z2 (l:=[(42,Z2Z),(69,Zey)]) Zi rfl (⟨c42,c69,trivial⟩) ZDX Tryz.func37 rfl rfl 1 (fun _=> rfl) V2 (fun ⟨e,_⟩=> hb e ())
end
mutual
theorem Z5y:∀ (e:Edit),Z8 (Zs e)=Z8 e
 | .mk k o n w ks l os=> by
  have h1:=Zda ks
  have h2:=Zd9 os
  simp only [Zs,Z8,QC,Z8y,h1,h2]
  omega
theorem Zda:∀ (ks:List (KidOf Edit)),Zy (JQ ks)=Zy ks
 | []=> rfl
 | k ::r=> by
  have h1:=Zj2 k
  have h2:=Zda r
  simp only [JQ,Zy,h1,h2]
theorem Zj2:∀ (k:KidOf Edit),J4 (Z12 k)=J4 k
 | ⟨a,e⟩=> by
  have h:=Z5y e
  trivial
theorem Zd9:∀ (os:List (OpOf Edit)),Zn (Jm os)=Zn os
 | []=> rfl
 | o ::r=> by
  have h1:=Zle o
  have h2:=Zd9 r
  simp only [Jm,Zn,h1,h2]
theorem Zle:∀ (o:OpOf Edit),Zt (YO o)=Zt o
 | ⟨k,n,l,e⟩=> by
  have h:=Z5y e
  simp only [YO]
  split
  .try rfl
  .split
   .try rfl
   .split
    .simp only [Zt,h]
    .try rfl
end
theorem c37:Contract Tryz.prog cfg 37 Z25:=by
 refine ZDo ZnQ.1 ZAb.1 ?_
 intro e _ hp
 simp only [Z3H] at hp
 obtain ⟨hm,d,hr⟩:=hp
 refine ZJe _ _ ?_
 rintro y1 hy1 y2 hy2
 subst hy1
 have h1:=Z5y y1
 have h2:=JC _ _ hr
 rw [<-hy2] at h1 h2
 refine ⟨by simp only [Zfl];omega,by simp only [Z3H];grind,?_⟩
 simp only [ZtT]
 rw [<-hy2]
 exact JR
noncomputable section
def ZqF:ArgL (WEdit × WEdit × Unit):=(.cons (aEl .wedit) (.cons (aEl .wedit) .nil))
def ZmH(a:WEdit × WEdit × Unit):Prop:=Z28 a.1/\Z28 a.2.1
def ZiG(a:WEdit × WEdit × Unit):V U:= .tup [(true,(enc .wedit ((Jh a.1 a.2.1).1))),(false,[.bool ((Jh a.1 a.2.1).2)])]
def Z9w:Fs U:=fs ZqF (fun a=> [ZmH a]) ZiG
def ZqG:ArgL (WEdit × Unit):=(.cons (aEl .wedit) .nil)
def ZbQ(a:WEdit × Unit):Prop:=True
def Zu3(a:WEdit × Unit):V U:= .c (ci a.1.at_)
def Z9x:Fs U:=fs ZqG (fun a=> [ZbQ a]) Zu3
def ZqE:ArgL (Kid × Unit):=(.cons (aEl .kid) .nil)
def ZbP(a:Kid × Unit):Prop:=True
def Zu2(a:Kid × Unit):V U:= .c (ci a.1.at_)
def Z2n:Fs U:=fs ZqE (fun a=> [ZbP a]) Zu2
def ZqH:ArgL (List WEdit × List WEdit × Unit × Unit × Unit):=(.cons (aSl .wedit) (.cons (aSl .wedit) (.cons (aFn 163) (.cons (aFn 164) .nil))))
def ZmI(a:List WEdit × List WEdit × Unit × Unit × Unit):Prop:=((∀ x∈a.1,Z28 x)/\(a.1).length<=1000000)/\(∀ x∈a.2.1,Z28 x)/\(a.2.1).length<=1000000
def ZiH(a:List WEdit × List WEdit × Unit × Unit × Unit):V U:= .tup [(false,[sU .wedit (ofO (Zh WEdit.at_ Jh a.1 a.2.1)) .unk]),(false,[.bool ((Zh WEdit.at_ Jh a.1 a.2.1).isSome)])]
def Z9y:Fs U:=fs ZqH (fun a=> [ZmI a]) ZiH
def ZqN:ArgL (List WEdit × List WEdit × Unit):=(.cons (aSl .wedit) (.cons (aSl .wedit) .nil))
def ZmL(a:List WEdit × List WEdit × Unit):Prop:=((∀ x∈a.1,Z28 x)/\(a.1).length<=1000000)/\(∀ x∈a.2.1,Z28 x)/\(a.2.1).length<=1000000
def Zu9(a:List WEdit × List WEdit × Unit):V U:= .tup [(false,[sU .wedit (ofO (Zh WEdit.at_ Jh a.1 a.2.1)) .unk]),(false,[.bool ((Zh WEdit.at_ Jh a.1 a.2.1).isSome)])]
def Z2o:Fs U:=fs ZqN (fun a=> [ZmL a]) Zu9
def Zvi:Zd U:=lvl [([2,3,4],[2,3,4]),([2,3,4,6],[2,3,4]),([2,3,4,20],[2,3,4]),([4,5],[4]),([4,5],[4])]
abbrev ZKb(p:List Nat):=AW (Z1 Zc8) Tryz.f164 Zvi p
theorem ZGX(p q:WEdit)(Q:QT)(h:let z1:=IntKind.bits .u8;let z0:=IntKind.wrap .u8 (BitVec.ofInt z1 p.mask &&& BitVec.ofInt z1 q.mask).toNat;((ZcW (0,p.new,z0,()))/\(ZcW (0,q.old,z0,()))/\(iB (((mix 0 p.new z0):Int) !=(mix 0 q.old z0)) ((Q .ret (L2 [pL 4,pB 5 false] [(.loc 4,[ci 0,.int .u8 0,.int .u64 0,.int .u64 0])]))) ((ZcW (q.old,p.old,p.mask,()))/\(ZcW (p.new,q.new,q.mask,()))/\(Q .ret (L2 [pL 4,pB 5 true] [(.loc 4,[ci p.at_,.int .u8 (IntKind.wrap .u8 (BitVec.ofInt z1 p.mask ||| BitVec.ofInt z1 q.mask).toNat),.int .u64 (mix q.old p.old p.mask),.int .u64 (mix p.new q.new q.mask)])])))))):
  ZKb [] (L2 [(0,.agg (enc .wedit p)),(1,.agg (enc .wedit q))] []) Q:=
 Eq.mpr V4 h
def ZAL(p q:WEdit):Prop:=AW (Z1 Zc8) Tryz.f164 Zvi [] (Zg (ZqF.can (p,q,())) []) (EQ Tryz.f164 (ZiG (p,q,())) [])
theorem Zz7(Zjy:CT 136 Z53)(hb:∀ (p:WEdit) (q:WEdit) (_:Unit),ZmH (p,q,())->ZAL p q):CT 164 Z9w:=
 Z2 (l:=[(136,Z53)]) Zi rfl (⟨Zjy,trivial⟩) Zvi Tryz.func164 rfl rfl 2 (fun _=> rfl) V2 (fun ⟨p,q,_⟩=> hb p q ())
abbrev ZKc(p:List Nat):=AW (Z1 Znz) Tryz.f163 ZE4 p
theorem ZGY(w:WEdit)(Q:QT)(h:(Q .ret (L2 [pI 2 w.at_] []))):
  ZKc [] (L2 [(0,.agg (enc .wedit w))] []) Q:=
 Eq.mpr V4 h
def ZAM(w:WEdit):Prop:=AW (Z1 Znz) Tryz.f163 ZE4 [] (Zg (ZqG.can (w,())) []) (EQ Tryz.f163 (Zu3 (w,())) [])
theorem Zz8(hb:∀ (w:WEdit) (_:Unit),ZbQ (w,())->ZAM w):CT 163 Z9x:=
 Z2 (l:=[]) Zi rfl trivial ZE4 Tryz.func163 rfl rfl 1 (fun _=> rfl) V2 (fun ⟨w,_⟩=> hb w ())
abbrev ZKa(p:List Nat):=AW (Z1 Znz) Tryz.f166 ZE4 p
theorem ZGV(k:Kid)(Q:QT)(h:(Q .ret (L2 [pI 2 k.at_] []))):
  ZKa [] (L2 [(0,.agg (enc .kid k))] []) Q:=
 Eq.mpr V4 h
def ZAJ(k:Kid):Prop:=AW (Z1 Znz) Tryz.f166 ZE4 [] (Zg (ZqE.can (k,())) []) (EQ Tryz.f166 (Zu2 (k,())) [])
theorem Zz6(hb:∀ (k:Kid) (_:Unit),ZbP (k,())->ZAJ k):CT 166 Z2n:=
 Z2 (l:=[]) Zi rfl trivial ZE4 Tryz.func166 rfl rfl 1 (fun _=> rfl) V2 (fun ⟨k,_⟩=> hb k ())
def Zjf:List (FuncId × Fs U):=[(163,Z9x),(164,Z9w)]
def Zpw:Zd U:=lvk [([0,1,2,3],[]),([0,1,2,3,(10,[.own .wedit])],[]),([0,1,2,3,10,20],[]),([0,1,2,3,10,11,12],[11]),([0,1,2,3,10,11,33],[11]),([8,9],[]),([0,1,2,3,(10,[.own .wedit])],[]),([0,1,2,3,10,42],[]),([0,1,2,3,(10,[.own .wedit])],[]),([0,1,2,3,10,72],[]),([0,1,2,3,(10,[.own .wedit])],[]),([8,9],[])]
def Z2T(p q:List WEdit)(at_ one:Unit)(x0 x1 x10:List WEdit):LSt U:=(L2 [(0,.c (sU .wedit x0 .unk)),(1,.c (sU .wedit x1 .unk)),(2,.fn 163),(3,.fn 164),(10,.c (sU .wedit x10 (.own (.e 10 0))))] [])
abbrev ZGx(p:List Nat):=AW (Z1 Zjf) Tryz.f162 Zpw p
abbrev ZIc(p:List Nat):=SW (Z1 Zjf) Tryz.f162 Zpw p
theorem ZGZ(p q:List WEdit)(at_ one:Unit)(Q:QT)(h:(Zj (ZGx [1,1,0,0,0]) (Z2T p q at_ one p q []) (xB 0 (ZIc [1,1,1] Q)))):
  ZGx [] (L2 [(0,.c (sU .wedit p .unk)),(1,.c (sU .wedit q .unk)),(2,.fn 163),(3,.fn 164)] []) Q:=
 Eq.mpr V4 h
theorem Zt4(p q:List WEdit)(at_ one:Unit)(x0 x1 x10:List WEdit)(N0:NT)(Q:QT)(h:∀ y_1,y_1=(List.getD x0 (Int.toNat 0) (WEdit.mk 0 0 0 0))->∀ y_2,y_2=(List.getD x1 (Int.toNat 0) (WEdit.mk 0 0 0 0))->∀ y_3,y_3=y_1->∀ y_4,y_4=y_2->∀ y_5,y_5=((Jh y_3 y_4).1)->let z3:=decide ((0:Int) < (x0.length:Int));let z2:=((x1.length:Int):Int)==0;let z1:=((x0.length:Int):Int)==0;let z0:=(!z2) && z3;(Tt (!z3))/\(Tt (!z3))/\(z3=false->(!z3)=true)/\(iB (bif z3 then true else (decide ((0:Int) < (x1.length:Int)))) ((Tt (!z2))/\(Tt (!z2))/\(Tt (!z2))/\(Tt z0)/\(z0=true->(0:Int)<=0/\0 < (x0.length:Int))/\(Tt z0)/\(Tt z0)/\(Tt z0)/\(z0=true->ZbQ (y_3,()))/\(Tt z0)/\(z0=true->(0:Int)<=0/\0 < (x1.length:Int))/\(Tt z0)/\(Tt z0)/\(Tt z0)/\(z0=true->ZbQ (y_4,()))/\(Tt z0)/\(Tt z0)/\((!z2)=true->(True->(!z2)=true))/\((!z2)=true->(z3=true->z0=true))/\(z2=false->(!z2)=true)/\(iB (bif z2 then true else (bif z3 then (decide (y_3.at_ < y_4.at_)) else false)) (((0:Int)<=0/\0 < (x0.length:Int))/\((x10.length+([y_3]).length)*32<=140737488355328)/\((0:Int)<=1/\1<=(x0.length:Int))/\(N0 (Z2T p q at_ one (List.drop (Int.toNat 1) x0) x1 (x10++([y_3]))))) ((Tt (!z1))/\((!z1)=true->(0:Int)<=0/\0 < (x1.length:Int))/\(Tt (!z1))/\(Tt (!z1))/\(Tt (!z1))/\((!z1)=true->ZbQ (y_4,()))/\(Tt (!z1))/\((!z1)=true->(0:Int)<=0/\0 < (x0.length:Int))/\(Tt (!z1))/\(Tt (!z1))/\(Tt (!z1))/\((!z1)=true->ZbQ (y_3,()))/\(Tt (!z1))/\(Tt (!z1))/\(z1=false->(!z1)=true)/\(iB (bif z1 then true else (decide (y_4.at_ < y_3.at_))) (((0:Int)<=0/\0 < (x1.length:Int))/\((x10.length+([y_4]).length)*32<=140737488355328)/\((0:Int)<=1/\1<=(x1.length:Int))/\(N0 (Z2T p q at_ one x0 (List.drop (Int.toNat 1) x1) (x10++([y_4]))))) (((0:Int)<=0/\0 < (x0.length:Int))/\((0:Int)<=0/\0 < (x1.length:Int))/\(ZmH (y_3,y_4,()))/\(iB (!((Jh y_3 y_4).2)) ((Q .ret (L2 [(8,.c (.nils)),pB 9 false] []))) (((x10.length+([y_5]).length)*32<=140737488355328)/\((0:Int)<=1/\1<=(x0.length:Int))/\((0:Int)<=1/\1<=(x1.length:Int))/\(N0 (Z2T p q at_ one (List.drop (Int.toNat 1) x0) (List.drop (Int.toNat 1) x1) (x10++([y_5]))))))))))) ((Q .ret (L2 [(8,.c (sU .wedit x10 (.own (.e 8 0)))),pB 9 true] []))))):
  ZGx [1,1,0,0,0] (Z2T p q at_ one x0 x1 x10) (xT N0 (xB 0 (ZIc [1,1,1] Q))):=
 Eq.mpr V4 (h _ rfl _ rfl _ (Z1y _) _ (Z1y _) _ (Z1y _))
def ZAN(p q:List WEdit)(at_ one:Unit):Prop:=AW (Z1 Zjf) Tryz.f162 Zpw [] (Zg (ZqH.can (p,q,at_,one,())) []) (EQ Tryz.f162 (ZiH (p,q,at_,one,())) [])
theorem Zz9(ZEv:CT 163 Z9x)(ZEu:CT 164 Z9w)(hb:∀ (p:List WEdit) (q:List WEdit) (at_:Unit) (one:Unit) (_:Unit),ZmI (p,q,at_,one,())->ZAN p q at_ one):CT 162 Z9y:=
 Z2 (l:=[(163,Z9x),(164,Z9w)]) Zi rfl (⟨ZEv,ZEu,trivial⟩) Zpw Tryz.func162 rfl rfl 4 (fun _=> rfl) V2 (fun ⟨p,q,at_,one,_⟩=> hb p q at_ one ())
def Zq1:List (FuncId × Fs U):=[(162,Z9y)]
abbrev ZKf(p:List Nat):=AW (Z1 Zq1) Tryz.f141 Zvf p
theorem ZHb(p q:List WEdit)(Q:QT)(h:((ZmI (p,q,(),(),()))/\(Q .ret (L2 [(4,.c (sU .wedit (ofO (Zh WEdit.at_ Jh p q)) .unk)),pB 5 ((Zh WEdit.at_ Jh p q).isSome)] [])))):
  ZKf [] (L2 [(0,.c (sU .wedit p .unk)),(1,.c (sU .wedit q .unk))] []) Q:=
 Eq.mpr V4 h
def ZAZ(p q:List WEdit):Prop:=AW (Z1 Zq1) Tryz.f141 Zvf [] (Zg (ZqN.can (p,q,())) []) (EQ Tryz.f141 (Zu9 (p,q,())) [])
theorem Zzh(ZEw:CT 162 Z9y)(hb:∀ (p:List WEdit) (q:List WEdit) (_:Unit),ZmL (p,q,())->ZAZ p q):CT 141 Z2o:=
 Z2 (l:=[(162,Z9y)]) Zi rfl (⟨ZEw,trivial⟩) Zvf Tryz.func141 rfl rfl 2 (fun _=> rfl) V2 (fun ⟨p,q,_⟩=> hb p q ())
end
noncomputable section
def Z2b(a:Edit × Edit × Unit):Prop:=Ym a.1/\Ym a.2.1
def Z8o(a:Edit × Edit × Unit):Nat:=8*(Z8 a.1+Z8 a.2.1)
def Z38(a:Edit × Edit × Unit):V U:= .tup [(true,(enc .edit ((Yy a.1 a.2.1).1))),(false,[.bool ((Yy a.1 a.2.1).2)])]
def Z74:Fs U:=fs Zo3 (fun a=> [Z2b a]) Z38
def Z2G:ArgL (List Kid × List Kid × Unit):=(.cons (aSl .kid) (.cons (aSl .kid) .nil))
def Z44(a:List Kid × List Kid × Unit):Prop:=ZdC a.1/\ZdC a.2.1
def Zak(a:List Kid × List Kid × Unit):Nat:=8*(Zy a.1+Zy a.2.1)+4
def Z5o(a:List Kid × List Kid × Unit):V U:= .tup [(false,[sU .kid (ofO (Zh KidOf.at_ (JM Yy) a.1 a.2.1)) .unk]),(false,[.bool ((Zh KidOf.at_ (JM Yy) a.1 a.2.1).isSome)])]
def Zox:Fs U:=fs Z2G (fun a=> [Z44 a]) Z5o
def Z2E:ArgL (List Kid × List Kid × Unit × Unit × Unit):=(.cons (aSl .kid) (.cons (aSl .kid) (.cons (aFn 166) (.cons (aFn 167) .nil))))
def Z42(a:List Kid × List Kid × Unit × Unit × Unit):Prop:=ZdC a.1/\ZdC a.2.1
def Zai(a:List Kid × List Kid × Unit × Unit × Unit):Nat:=8*(Zy a.1+Zy a.2.1)+3
def Z37(a:List Kid × List Kid × Unit × Unit × Unit):V U:= .tup [(false,[sU .kid (ofO (Zh KidOf.at_ (JM Yy) a.1 a.2.1)) .unk]),(false,[.bool ((Zh KidOf.at_ (JM Yy) a.1 a.2.1).isSome)])]
def Zot:Fs U:=fs Z2E (fun a=> [Z42 a]) Z37
def Z2D:ArgL (Kid × Kid × Unit):=(.cons (aEl .kid) (.cons (aEl .kid) .nil))
def Z41(a:Kid × Kid × Unit):Prop:=Zwg a.1/\Zwg a.2.1
def Zah(a:Kid × Kid × Unit):Nat:=8*(J4 a.1+J4 a.2.1)+1
def Z3X(a:Kid × Kid × Unit):V U:= .tup [(true,(enc .kid ((JM Yy a.1 a.2.1).1))),(false,[.bool ((JM Yy a.1 a.2.1).2)])]
def Zos:Fs U:=fs Z2D (fun a=> [Z41 a]) Z3X
def Z43(a:List Op × List Op × Unit):Prop:=Zro a.1/\Zro a.2.1
def Zaj(a:List Op × List Op × Unit):Nat:=8*(Zn a.1+Zn a.2.1)+40
def Z29(a:List Op × List Op × Unit):V U:= .tup [(false,[sU .op (ofO (Z0y Yy a.1 a.2.1)) .unk]),(false,[.bool ((Z0y Yy a.1 a.2.1).isSome)])]
def Zow:Fs U:=fs ZqD (fun a=> [Z43 a]) Z29
def Z2C:ArgL (Piece × Unit):=(.cons (aEl .piece) .nil)
def Z40(a:Piece × Unit):Prop:=PcOk a.1
def Zag(a:Piece × Unit):Nat:=8*(Zt a.1.p+Zt a.1.q)+1
def Z36(a:Piece × Unit):V U:= .tup [(true,(enc .op ((ZM Yy a.1).op))),(false,[.bool ((ZM Yy a.1).is)]),(false,[.bool ((ZM Yy a.1).ok)])]
def Zor:Fs U:=fs Z2C (fun a=> [Z40 a]) Z36
def Z2y(N:Nat):List (FuncId × Fs U):=(104,fs Zo3 (fun a=> [Z2b a,Z8o a < N]) Z38) ::(142,fs Z2G (fun a=> [Z44 a,Zak a < N]) Z5o) ::(165,fs Z2E (fun a=> [Z42 a,Zai a < N]) Z37) ::(167,fs Z2D (fun a=> [Z41 a,Zah a < N]) Z3X) ::(143,fs ZqD (fun a=> [Z43 a,Zaj a < N]) Z29) ::(169,fs Z2C (fun a=> [Z40 a,Zag a < N]) Z36) ::[(32,Z26),(37,Z25),(47,Z0i),(141,Z2o),(166,Z2n),(168,Z2m)]
def ZvB:Zd U:=lvl [([2,3,4],[2,3,4]),([2,3,4,15],[2,3,4]),([4,5],[4]),([2,3,4,20],[2,3,4]),([4,5],[4]),([2,3,4,25],[2,3,4]),([2,4,6,7],[2,4,6]),([4,5],[4]),([2,3,4,41],[2,3,4]),([3,4,8,9],[3,4,8]),([4,5],[4]),([2,3,4,58],[2,3,4]),([4,5],[4]),([2,3,4,72],[2,3,4]),([2,3,4,10,11],[2,3,4]),([2,3,4,10,85],[2,3,4]),([4,5],[4]),([4,10,11,12],[4]),([4,5],[4]),([2,4,13,14],[2,4]),([4,5],[4])]
abbrev ZKk(N:Nat)(p:List Nat):=AW (Z1 (Z2y N)) Tryz.f104 ZvB p
theorem ZHt(N:Nat)(p q:Edit)(Q:QT)(h:∀ y_1,y_1=p->∀ y_2,y_2=q->∀ y_3,y_3=(p.new)->∀ y_4,y_4=(q.old)->∀ y_5,y_5=(Zz (Zs y_1))->let z3:=Zh WEdit.at_ Jh p.words q.words;let z2:=Zh KidOf.at_ (JM Yy) p.kids q.kids;let z1:=(Q .ret (L2 [pL 4,pB 5 false] [(.loc 4,zc1)]));let z0:=p.kind !=q.kind;(iB (p.kind==0) ((Q .ret (L2 [pL 4,pB 5 true] [(.loc 4,(enc .edit q))]))) ((iB (q.kind==0) ((Q .ret (L2 [pL 4,pB 5 true] [(.loc 4,(enc .edit p))]))) ((iB (p.kind==1) ((Z4o (y_2,y_3,()))/\(Q .ret (L2 [pL 4,pB 5 ((doE false y_2 y_3).isSome)] [(.loc 4,([ci 1]++enc .tree p.old++enc .tree (Yc ((doE false y_2 y_3).map Z5))++[.nils,.nils,ci 0,.nils]))]))) ((iB (q.kind==1) ((Z3H (y_1,()))/\(Z4o (y_5,y_4,()))/\(Q .ret (L2 [pL 4,pB 5 ((doE false y_5 y_4).isSome)] [(.loc 4,([ci 1]++enc .tree (Yc ((doE false y_5 y_4).map Z5))++enc .tree q.new++[.nils,.nils,ci 0,.nils]))]))) ((Tt (!z0))/\(Tt (!z0))/\(Tt (!z0))/\(Tt (!z0))/\(z0=false->(!z0)=true)/\(iB (bif z0 then true else (p.list !=q.list)) z1 ((iB (p.kind==2) ((ZmL (p.words,q.words,()))/\(iB (!(z3.isSome)) z1 ((Z44 (p.kids,q.kids,()))/\(Zak (p.kids,q.kids,()) < N)/\(Q .ret (L2 [pL 4,pB 5 (z2.isSome)] [(.loc 4,[ci 2,ci 0,.nils,.nils,ci 0,.nils,.nils,sU .wedit (ofO z3) .unk,sU .kid (ofO z2) .unk,ci 0,.nils])]))))) ((Z43 (p.ops,q.ops,()))/\(Zaj (p.ops,q.ops,()) < N)/\(Q .ret (L2 [pL 4,pB 5 ((Z0y Yy p.ops q.ops).isSome)] [(.loc 4,[ci 3,ci 0,.nils,.nils,ci 0,.nils,.nils,.nils,.nils,ci p.list,sU .op (ofO (Z0y Yy p.ops q.ops)) .unk])]))))))))))))))):
  ZKk N [] (L2 [(0,.agg (enc .edit p)),(1,.agg (enc .edit q))] []) Q:=
 Eq.mpr V4 (h _ (Z7 _) _ (Z7 _) _ (Za _) _ (Za _) _ (Z7 _))
def ZBh(N:Nat)(p q:Edit):Prop:=AW (Z1 (Z2y N)) Tryz.f104 ZvB [] (Zg (Zo3.can (p,q,())) []) (EQ Tryz.f104 (Z38 (p,q,())) [])
abbrev ZCo:Prop:=∀ (N:Nat) (p:Edit) (q:Edit) (_:Unit),Z2b (p,q,())->Z8o (p,q,()) < N+1->ZBh N p q
abbrev ZKe(N:Nat)(p:List Nat):=AW (Z1 (Z2y N)) Tryz.f142 Zvf p
theorem ZHa(N:Nat)(p q:List Kid)(Q:QT)(h:let z0:=Zh KidOf.at_ (JM Yy) p q;((Z42 (p,q,(),(),()))/\(Zai (p,q,(),(),()) < N)/\(Q .ret (L2 [(4,.c (sU .kid (ofO z0) .unk)),pB 5 (z0.isSome)] [])))):
  ZKe N [] (L2 [(0,.c (sU .kid p .unk)),(1,.c (sU .kid q .unk))] []) Q:=
 Eq.mpr V4 h
def ZAY(N:Nat)(p q:List Kid):Prop:=AW (Z1 (Z2y N)) Tryz.f142 Zvf [] (Zg (Z2G.can (p,q,())) []) (EQ Tryz.f142 (Z5o (p,q,())) [])
abbrev ZCk:Prop:=∀ (N:Nat) (p:List Kid) (q:List Kid) (_:Unit),Z44 (p,q,())->Zak (p,q,()) < N+1->ZAY N p q
def Zpv:Zd U:=lvk [([0,1,2,3],[]),([0,1,2,3,(10,[.own .kid])],[]),([0,1,2,3,10,20],[]),([0,1,2,3,10,11,12],[11]),([0,1,2,3,10,11,33],[11]),([8,9],[]),([0,1,2,3,(10,[.own .kid])],[]),([0,1,2,3,10,42],[]),([0,1,2,3,(10,[.own .kid])],[]),([0,1,2,3,10,72],[]),([0,1,2,3,(10,[.own .kid])],[]),([8,9],[])]
def Z2S(p q:List Kid)(at_ one:Unit)(x0 x1 x10:List Kid):LSt U:=(L2 [(0,.c (sU .kid x0 .unk)),(1,.c (sU .kid x1 .unk)),(2,.fn 166),(3,.fn 167),(10,.c (sU .kid x10 (.own (.e 10 0))))] [])
abbrev ZGw(N:Nat)(p:List Nat):=AW (Z1 (Z2y N)) Tryz.f165 Zpv p
abbrev ZIb(N:Nat)(p:List Nat):=SW (Z1 (Z2y N)) Tryz.f165 Zpv p
theorem ZGW(N:Nat)(p q:List Kid)(at_ one:Unit)(Q:QT)(h:(Zj (ZGw N [1,1,0,0,0]) (Z2S p q at_ one p q []) (xB 0 (ZIb N [1,1,1] Q)))):
  ZGw N [] (L2 [(0,.c (sU .kid p .unk)),(1,.c (sU .kid q .unk)),(2,.fn 166),(3,.fn 167)] []) Q:=
 Eq.mpr V4 h
theorem Zt3(N:Nat)(p q:List Kid)(at_ one:Unit)(x0 x1 x10:List Kid)(N0:NT)(Q:QT)(h:∀ y_1,y_1=(List.getD x0 (Int.toNat 0) (KidOf.mk 0 Edit.nil))->∀ y_2,y_2=(List.getD x1 (Int.toNat 0) (KidOf.mk 0 Edit.nil))->∀ y_3,y_3=y_1->∀ y_4,y_4=y_2->∀ y_5,y_5=((JM Yy y_3 y_4).1)->let z3:=decide ((0:Int) < (x0.length:Int));let z2:=((x1.length:Int):Int)==0;let z1:=((x0.length:Int):Int)==0;let z0:=(!z2) && z3;(Tt (!z3))/\(Tt (!z3))/\(z3=false->(!z3)=true)/\(iB (bif z3 then true else (decide ((0:Int) < (x1.length:Int)))) ((Tt (!z2))/\(Tt (!z2))/\(Tt (!z2))/\(Tt z0)/\(z0=true->(0:Int)<=0/\0 < (x0.length:Int))/\(Tt z0)/\(Tt z0)/\(Tt z0)/\(z0=true->ZbP (y_3,()))/\(Tt z0)/\(z0=true->(0:Int)<=0/\0 < (x1.length:Int))/\(Tt z0)/\(Tt z0)/\(Tt z0)/\(z0=true->ZbP (y_4,()))/\(Tt z0)/\(Tt z0)/\((!z2)=true->(True->(!z2)=true))/\((!z2)=true->(z3=true->z0=true))/\(z2=false->(!z2)=true)/\(iB (bif z2 then true else (bif z3 then (decide (y_3.at_ < y_4.at_)) else false)) (((0:Int)<=0/\0 < (x0.length:Int))/\((x10.length+([y_3]).length)*208<=140737488355328)/\((0:Int)<=1/\1<=(x0.length:Int))/\(N0 (Z2S p q at_ one (List.drop (Int.toNat 1) x0) x1 (x10++([y_3]))))) ((Tt (!z1))/\((!z1)=true->(0:Int)<=0/\0 < (x1.length:Int))/\(Tt (!z1))/\(Tt (!z1))/\(Tt (!z1))/\((!z1)=true->ZbP (y_4,()))/\(Tt (!z1))/\((!z1)=true->(0:Int)<=0/\0 < (x0.length:Int))/\(Tt (!z1))/\(Tt (!z1))/\(Tt (!z1))/\((!z1)=true->ZbP (y_3,()))/\(Tt (!z1))/\(Tt (!z1))/\(z1=false->(!z1)=true)/\(iB (bif z1 then true else (decide (y_4.at_ < y_3.at_))) (((0:Int)<=0/\0 < (x1.length:Int))/\((x10.length+([y_4]).length)*208<=140737488355328)/\((0:Int)<=1/\1<=(x1.length:Int))/\(N0 (Z2S p q at_ one x0 (List.drop (Int.toNat 1) x1) (x10++([y_4]))))) (((0:Int)<=0/\0 < (x0.length:Int))/\((0:Int)<=0/\0 < (x1.length:Int))/\(Z41 (y_3,y_4,()))/\(Zah (y_3,y_4,()) < N)/\(iB (!((JM Yy y_3 y_4).2)) ((Q .ret (L2 [(8,.c (.nils)),pB 9 false] []))) (((x10.length+([y_5]).length)*208<=140737488355328)/\((0:Int)<=1/\1<=(x0.length:Int))/\((0:Int)<=1/\1<=(x1.length:Int))/\(N0 (Z2S p q at_ one (List.drop (Int.toNat 1) x0) (List.drop (Int.toNat 1) x1) (x10++([y_5]))))))))))) ((Q .ret (L2 [(8,.c (sU .kid x10 (.own (.e 8 0)))),pB 9 true] []))))):
  ZGw N [1,1,0,0,0] (Z2S p q at_ one x0 x1 x10) (xT N0 (xB 0 (ZIb N [1,1,1] Q))):=
 Eq.mpr V4 (h _ rfl _ rfl _ (Zfg _) _ (Zfg _) _ (Zfg _))
def ZAK(N:Nat)(p q:List Kid)(at_ one:Unit):Prop:=AW (Z1 (Z2y N)) Tryz.f165 Zpv [] (Zg (Z2E.can (p,q,at_,one,())) []) (EQ Tryz.f165 (Z37 (p,q,at_,one,())) [])
abbrev ZCg:Prop:=∀ (N:Nat) (p:List Kid) (q:List Kid) (at_:Unit) (one:Unit) (_:Unit),Z42 (p,q,at_,one,())->Zai (p,q,at_,one,()) < N+1->ZAK N p q at_ one
def Zvg:Zd U:=lvl [([2,3,4],[2,3,4]),([2,4,6,7],[2,4,6]),([4,5],[4])]
abbrev ZK9(N:Nat)(p:List Nat):=AW (Z1 (Z2y N)) Tryz.f167 Zvg p
theorem ZGU(N:Nat)(a b:Kid)(Q:QT)(h:∀ y_1,y_1=(a.e)->∀ y_2,y_2=(b.e)->((Z2b (y_1,y_2,()))/\(Z8o (y_1,y_2,()) < N)/\(Q .ret (L2 [pL 4,pB 5 ((Yy y_1 y_2).2)] [(.loc 4,([ci a.at_]++enc .edit ((Yy y_1 y_2).1)))])))):
  ZK9 N [] (L2 [(0,.agg (enc .kid a)),(1,.agg (enc .kid b))] []) Q:=
 Eq.mpr V4 (h _ (Z7 _) _ (Z7 _))
def ZAI(N:Nat)(a b:Kid):Prop:=AW (Z1 (Z2y N)) Tryz.f167 Zvg [] (Zg (Z2D.can (a,b,())) []) (EQ Tryz.f167 (Z3X (a,b,())) [])
abbrev ZCf:Prop:=∀ (N:Nat) (a:Kid) (b:Kid) (_:Unit),Z41 (a,b,())->Zah (a,b,()) < N+1->ZAI N a b
def Zpz:Zd U:=lvk [([0,1],[]),([6,7],[]),([6,21],[]),([4,5],[]),([6,8],[]),([(8,[.own .op]),22,23,24],[]),([8,22,23,24,25],[]),([8,10,22,23,24],[10]),([8,11,12,13,22,23,24],[11]),([8,11,12,22,23,24,35],[11]),([4,5],[]),([8,11,22,23,24,36],[11]),([8,22,23,24],[]),([(8,[.own .op]),22,23,24],[]),([4,5],[])]
def Z4M(p q:List Op)(x24:Int)(x8:List Op):LSt U:=(L2 [(8,.c (sU .op x8 (.own (.e 8 0)))),(22,.c (sU .piece ((Y3 1 2 p q []).1) .unk)),pI 23 (((Y3 1 2 p q []).1).length:Int),pI 24 x24] [])
abbrev ZGy(N:Nat)(p:List Nat):=AW (Z1 (Z2y N)) Tryz.f143 Zpz p
abbrev ZId(N:Nat)(p:List Nat):=SW (Z1 (Z2y N)) Tryz.f143 Zpz p
theorem ZH9(N:Nat)(p q:List Op)(Q:QT)(h:((ZmG (p,q,()))/\(iB (!((Y3 1 2 p q []).2.1)) ((Q .ret (L2 [(4,.c (.nils)),pB 5 false] []))) ((Zj (ZGy N [1,1,1,1,0,1,0,0]) (Z4M p q 0 []) (xB 0 (ZId N [1,1,1,1,1] Q))))))):
  ZGy N [] (L2 [(0,.c (sU .op p .unk)),(1,.c (sU .op q .unk))] []) Q:=
 Eq.mpr V4 h
theorem Ztc(N:Nat)(p q:List Op)(x24:Int)(x8:List Op)(N0:NT)(Q:QT)(h:∀ y_1,y_1=(List.getD ((Y3 1 2 p q []).1) x24.toNat (Piece.mk 0 Op.nil Op.nil))->∀ y_2,y_2=y_1->∀ y_3,y_3=((ZM Yy y_2).op)->(iB (decide (x24 < (((Y3 1 2 p q []).1).length:Int))) (((0:Int)<=x24/\x24 < (((Y3 1 2 p q []).1).length:Int))/\((Z40 (y_2,()))/\(Zag (y_2,()) < N)/\(iB (!((ZM Yy y_2).ok)) ((Q .ret (L2 [(4,.c (.nils)),pB 5 false] []))) ((iB ((ZM Yy y_2).is) (((x8.length+([y_3]).length)*240<=140737488355328)/\((InR (x24+1))/\(N0 (Z4M p q (x24+1) (x8++([y_3])))))) ((InR (x24+1))/\(N0 (Z4M p q (x24+1) x8)))))))) ((Q .ret (L2 [(4,.c (sU .op x8 (.own (.e 4 0)))),pB 5 true] []))))):
  ZGy N [1,1,1,1,0,1,0,0] (Z4M p q x24 x8) (xT N0 (xB 0 (ZId N [1,1,1,1,1] Q))):=
 Eq.mpr V4 (h _ rfl _ (ZmB _) _ (YP _))
def ZAX(N:Nat)(p q:List Op):Prop:=AW (Z1 (Z2y N)) Tryz.f143 Zpz [] (Zg (ZqD.can (p,q,())) []) (EQ Tryz.f143 (Z29 (p,q,())) [])
abbrev ZCj:Prop:=∀ (N:Nat) (p:List Op) (q:List Op) (_:Unit),Z43 (p,q,())->Zaj (p,q,()) < N+1->ZAX N p q
def Zpu:Zd U:=lvl [([1,2],[1,2]),([1,2,13],[1,2]),([2,3,4],[2]),([1,2,30],[1,2]),([2,3,4],[2]),([1,2,42],[1,2]),([1,2,55,56,57],[1,2]),([1,2,55,56,57,58],[1,2]),([1,2,5,6,55,56,57],[1,2,6]),([1,2,55,56,57,70],[1,2]),([2,3,4],[2]),([1,2,55,56,57],[1,2]),([2,3,4],[2]),([1,2,74],[1,2]),([2,7,8],[2,7]),([2,3,4],[2]),([1,2,95],[1,2]),([2,9,10],[2,9]),([2,3,4],[2]),([2,11,12],[2,11]),([2,3,4],[2])]
def Z7J(x:Piece)(x57:Int):LSt U:=(L2 [pL 1,pL 2,(55,.c (sU .tree x.p.l .unk)),pI 56 (x.p.l.length:Int),pI 57 x57] [(.loc 1,(enc .piece x)),(.loc 2,zc2)])
abbrev ZGv(N:Nat)(p:List Nat):=AW (Z1 (Z2y N)) Tryz.f169 Zpu p
abbrev ZAp(N:Nat)(p:List Nat):=SW (Z1 (Z2y N)) Tryz.f169 Zpu p
theorem ZGS(N:Nat)(x:Piece)(Q:QT)(h:∀ y_1,y_1=(x.p.e)->∀ y_2,y_2=(x.q.e)->∀ y_3,y_3=(List.getD x.p.l (Int.toNat 0) Tree.nil)->∀ y_4,y_4=(List.getD x.q.l (Int.toNat 0) Tree.nil)->∀ y_5,y_5=y_3->∀ y_6,y_6=y_4->∀ y_7,y_7=(Zz (Zs y_1))->∀ y_8,y_8=(Yc ((doE false y_2 y_5).map Z5))->∀ y_9,y_9=(Yc ((doE false y_7 y_6).map Z5))->let z0:=(!(x.of==1)) && (x.of==0);((Tt (!(x.of==1)))/\(Tt (!(x.of==1)))/\(Tt (!(x.of==1)))/\(Tt z0)/\(Tt z0)/\(Tt z0)/\((!(x.of==1))=true->(True->(!(x.of==1))=true))/\((!(x.of==1))=true->((x.of==0)=true->z0=true))/\((x.of==1)=false->(!(x.of==1))=true)/\(iB (bif (x.of==1) then true else (bif (x.of==0) then (x.q.kind==0) else false)) ((Q .ret (L2 [pL 2,pB 3 true,pB 4 true] [(.loc 2,(enc .op x.p))]))) ((Tt (!(x.of==2)))/\(Tt (!(x.of==2)))/\(Tt (!(x.of==2)))/\((x.of==2)=false->(!(x.of==2))=true)/\(iB (bif (x.of==2) then true else (x.p.kind==0)) ((Q .ret (L2 [pL 2,pB 3 true,pB 4 true] [(.loc 2,(enc .op x.q))]))) ((Tt (x.p.kind==2))/\(Tt (x.p.kind==2))/\(Tt (x.p.kind==2))/\(Tt (x.p.kind==2))/\(iB (bif (x.p.kind==2) then (x.q.kind==1) else false) ((Zj (ZGv N [1,0,0,1,1,1,1,1,0,0,1,0,0]) (Z7J x 0) (xB 1 (ZAp N [1,0,0,1,1,1,1,1,0,1] (xB 0 (ZAp N [1,1] Q)))))) ((iB (x.p.kind==2) (((0:Int)<=0/\0 < (x.p.l.length:Int))/\(Z4o (y_2,y_5,()))/\(Q .ret (L2 [pL 2,pB 3 true,pB 4 ((doE false y_2 y_5).isSome)] [(.loc 2,[ci 2,ci 0,sU .tree ([y_8]) .full,ci 0,ci 0,.nils,.nils,ci 0,.nils,.nils,.nils,.nils,ci 0,.nils])]))) ((iB (x.q.kind==1) ((Z3H (y_1,()))/\((0:Int)<=0/\0 < (x.q.l.length:Int))/\(Z4o (y_7,y_6,()))/\(Q .ret (L2 [pL 2,pB 3 true,pB 4 ((doE false y_7 y_6).isSome)] [(.loc 2,[ci 1,ci 0,sU .tree ([y_9]) .full,ci 0,ci 0,.nils,.nils,ci 0,.nils,.nils,.nils,.nils,ci 0,.nils])]))) ((Z2b (y_1,y_2,()))/\(Z8o (y_1,y_2,()) < N)/\(Q .ret (L2 [pL 2,pB 3 true,pB 4 ((Yy y_1 y_2).2)] [(.loc 2,([ci 3,ci 0,.nils]++enc .edit ((Yy y_1 y_2).1)))])))))))))))))):
  ZGv N [] (L2 [(0,.agg (enc .piece x))] []) Q:=
 Eq.mpr V4 (h _ (Z7 _) _ (Z7 _) _ rfl _ rfl _ (Za _) _ (Za _) _ (Z7 _) _ (Za _) _ (Za _))
theorem Zt2(N:Nat)(x:Piece)(x57:Int)(N0:NT)(Q:QT)(h:∀ y_1,y_1=(x.p.l.getD x57.toNat Tree.nil)->∀ y_2,y_2=(x.q.l.getD x57.toNat Tree.nil)->∀ y_3,y_3=y_1->∀ y_4,y_4=y_2->(iB (decide (x57 < (x.p.l.length:Int))) (((0:Int)<=x57/\x57 < (x.p.l.length:Int))/\(((0:Int)<=x57/\x57 < (x.q.l.length:Int))/\(Z6e (y_3,y_4,()))/\(iB (!(YM (Z5 y_3) (Z5 y_4))) ((Q .ret (L2 [pL 2,pB 3 false,pB 4 false] [(.loc 2,zc2)]))) ((InR (x57+1))/\(N0 (Z7J x (x57+1))))))) ((Q .ret (L2 [pL 2,pB 3 false,pB 4 true] [(.loc 2,zc2)]))))):
  ZGv N [1,0,0,1,1,1,1,1,0,0,1,0,0] (Z7J x x57) (xT N0 (xB 1 (ZAp N [1,0,0,1,1,1,1,1,0,1] (xB 0 (ZAp N [1,1] Q))))):=
 Eq.mpr V4 (h _ rfl _ rfl _ (Za _) _ (Za _))
def ZAG(N:Nat)(x:Piece):Prop:=AW (Z1 (Z2y N)) Tryz.f169 Zpu [] (Zg (Z2C.can (x,())) []) (EQ Tryz.f169 (Z36 (x,())) [])
abbrev ZCe:Prop:=∀ (N:Nat) (x:Piece) (_:Unit),Z40 (x,())->Zag (x,()) < N+1->ZAG N x
theorem Zv7(c32:CT 32 Z26)(c37:CT 37 Z25)(c47:CT 47 Z0i)(ZEE:CT 141 Z2o)(ZEt:CT 166 Z2n)(ZEs:CT 168 Z2m)(ZF3:ZCo)(ZF0:ZCk)(ZEW:ZCg)(ZEV:ZCf)(ZEZ:ZCj)(ZEU:ZCe):
  CT 104 Z74/\CT 142 Zox/\CT 165 Zot/\CT 167 Zos/\CT 143 Zow/\CT 169 Zor:=by
 have h60 : ∃ fn, Tryz.prog.funcs[(104 : FuncId)]? = some fn ∧ fn.body.isSome = true ∧ (fn.name == "runtime.NumGoroutine") = false := ⟨Tryz.f104, Tryz.func104, rfl, rfl⟩
 have h97 : ∃ fn, Tryz.prog.funcs[(142 : FuncId)]? = some fn ∧ fn.body.isSome = true ∧ (fn.name == "runtime.NumGoroutine") = false := ⟨Tryz.f142, Tryz.func142, rfl, rfl⟩
 have h132 : ∃ fn, Tryz.prog.funcs[(165 : FuncId)]? = some fn ∧ fn.body.isSome = true ∧ (fn.name == "runtime.NumGoroutine") = false := ⟨Tryz.f165, Tryz.func165, rfl, rfl⟩
 have h134 : ∃ fn, Tryz.prog.funcs[(167 : FuncId)]? = some fn ∧ fn.body.isSome = true ∧ (fn.name == "runtime.NumGoroutine") = false := ⟨Tryz.f167, Tryz.func167, rfl, rfl⟩
 have h98 : ∃ fn, Tryz.prog.funcs[(143 : FuncId)]? = some fn ∧ fn.body.isSome = true ∧ (fn.name == "runtime.NumGoroutine") = false := ⟨Tryz.f143, Tryz.func143, rfl, rfl⟩
 have h136 : ∃ fn, Tryz.prog.funcs[(169 : FuncId)]? = some fn ∧ fn.body.isSome = true ∧ (fn.name == "runtime.NumGoroutine") = false := ⟨Tryz.f169, Tryz.func169, rfl, rfl⟩
 have key:∀ N,CT 104 (fs Zo3 (fun a=> [Z2b a,Z8o a < N]) Z38)/\CT 142 (fs Z2G (fun a=> [Z44 a,Zak a < N]) Z5o)/\CT 165 (fs Z2E (fun a=> [Z42 a,Zai a < N]) Z37)/\CT 167 (fs Z2D (fun a=> [Z41 a,Zah a < N]) Z3X)/\CT 143 (fs ZqD (fun a=> [Z43 a,Zaj a < N]) Z29)/\CT 169 (fs Z2C (fun a=> [Z40 a,Zag a < N]) Z36):=by
  intro N
  induction N with
  | zero=> exact ⟨Yo h60,Yo h97,Yo h132,Yo h134,Yo h98,Yo h136⟩
  | succ N ih=>
   have kn:=JV (l:=Z2y N) ⟨ih.1,ih.2.1,ih.2.2.1,ih.2.2.2.1,ih.2.2.2.2.1,ih.2.2.2.2.2,c32,c37,c47,ZEE,ZEt,ZEs,trivial⟩
   exact ⟨Zr (Γ:=Z1 (Z2y N)) Zi rfl kn ZvB Tryz.func104 rfl rfl (fun a=> by show 2<=_;decide) (fun ⟨p,q,_⟩ h=> ZF3 N p q () h.1 h.2.1),
    Zr (Γ:=Z1 (Z2y N)) Zi rfl kn Zvf Tryz.func142 rfl rfl (fun a=> by show 2<=_;decide) (fun ⟨p,q,_⟩ h=> ZF0 N p q () h.1 h.2.1),
    Zr (Γ:=Z1 (Z2y N)) Zi rfl kn Zpv Tryz.func165 rfl rfl (fun a=> by show 4<=_;decide) (fun ⟨p,q,at_,one,_⟩ h=> ZEW N p q at_ one () h.1 h.2.1),
    Zr (Γ:=Z1 (Z2y N)) Zi rfl kn Zvg Tryz.func167 rfl rfl (fun a=> by show 2<=_;decide) (fun ⟨a,b,_⟩ h=> ZEV N a b () h.1 h.2.1),
    Zr (Γ:=Z1 (Z2y N)) Zi rfl kn Zpz Tryz.func143 rfl rfl (fun a=> by show 2<=_;decide) (fun ⟨p,q,_⟩ h=> ZEZ N p q () h.1 h.2.1),
    Zr (Γ:=Z1 (Z2y N)) Zi rfl kn Zpu Tryz.func169 rfl rfl (fun a=> by show 1<=_;decide) (fun ⟨x,_⟩ h=> ZEU N x () h.1 h.2.1)⟩
 exact ⟨Yp h60 fun N=> (key N).1,Yp h97 fun N=> (key N).2.1,Yp h132 fun N=> (key N).2.2.1,Yp h134 fun N=> (key N).2.2.2.1,Yp h98 fun N=> (key N).2.2.2.2.1,Yp h136 fun N=> (key N).2.2.2.2.2⟩
end
theorem Y5{n:Nat}{rs:List ResultVar}{r r':V U}{X:List (List (C U))}{e:AExit}{s:LSt U}(hr:r=r')(h:Y2 cfg n rs r' X e s):Y2 cfg n rs r X e s:=by grind
theorem ZEu:Contract Tryz.prog cfg 164 Z9w:=by
 refine Zz7 Zjy ?_
 intro p q _ hp
 obtain ⟨rp,rq⟩:=hp
 dsimp only at rp rq
 have A:=(Zr1 rp.2.1 rq.2.1).1
 refine ZGX _ _ _ ?_
 (simp only [iB,vcT,vcS])
 have z0:(0:Int)<=0/\(0:Int) < 18446744073709551616:=V2
 refine ⟨⟨z0,rp.2.2.2,A⟩,⟨z0,rq.2.2.1,A⟩,fun h=> ?_,fun h=> ⟨⟨rq.2.2.1,rp.2.2.1,rp.2.1⟩,⟨rp.2.2.2,rq.2.2.2,rq.2.1⟩,?_⟩⟩
 .have hn:Z6T p q=false:=decide_eq_false h
  refine Y5 (r':= .tup [(true,enc .wedit (⟨0,0,0,0⟩:WEdit)),(false,[.bool false])]) ?_ JR
  simp only [ZiG,Jh]
  rw [hn]
  try rfl
 .have hn:Z6T p q=true:=decide_eq_true h
  refine Y5 (r':= .tup [(true,enc .wedit (⟨p.at_,orM p.mask q.mask,mix q.old p.old p.mask,mix p.new q.new q.mask⟩:WEdit)),(false,[.bool true])]) ?_ JR
  simp only [ZiG,Jh]
  rw [hn]
  try rfl
theorem ZEv:Contract Tryz.prog cfg 163 Z9x:=by
 refine Zz8 ?_
 intro w _ _
 exact ZGY _ _ (Ys rfl rfl)
theorem ZEt:Contract Tryz.prog cfg 166 Z2n:=by
 refine Zz6 ?_
 intro w _ _
 exact ZGV _ _ (Ys rfl rfl)
theorem ZfX{α:Type}{at_:α->Int}{one:α->α->α × Bool}{p q:List α}(h:Zh at_ one p q=none):(Zh at_ one p q).isSome=false/\ofO (Zh at_ one p q)=[]:=by rw [h];trivial
structure MInv {α:Type} (at_:α->Int) (one:α->α->α × Bool) (p q x0 x1 out:List α):Prop where
 eq:Zh at_ one p q=(Zh at_ one x0 x1).map (out++·)
 len:out.length+x0.length+x1.length<=p.length+q.length
theorem MInv.left{α:Type}{at_:α->Int}{one:α->α->α × Bool}{p q x1 out:List α}{a:α}{x0:List α}(h:MInv at_ one p q (a ::x0) x1 out)(hb:∀ b∈x1.head?,at_ a < at_ b):MInv at_ one p q x0 x1 (out++[a]):=by
 refine ⟨?_,by have:=h.len;grind⟩
 rw [h.eq]
 cases x1 with
 | nil=>
  rw [Zh]
  have:Zh at_ one x0 []=some x0:=by cases x0 <;> rw [Zh]
  grind
 | cons b r=>
  rw [Zh,if_pos (hb b (by simp))]
  cases Zh at_ one x0 (b ::r) <;> simp
theorem MInv.right{α:Type}{at_:α->Int}{one:α->α->α × Bool}{p q x0 out:List α}{b:α}{x1:List α}(h:MInv at_ one p q x0 (b ::x1) out)(hb:∀ a∈x0.head?,at_ b < at_ a):MInv at_ one p q x0 x1 (out++[b]):=by
 refine ⟨?_,by have:=h.len;grind⟩
 rw [h.eq]
 cases x0 with
 | nil=> rw [Zh,Zh];simp
 | cons a r=>
  have:=hb a (by simp)
  rw [Zh,V0,if_pos this]
  cases Zh at_ one (a ::r) x1 <;> simp
theorem MInv.both{α:Type}{at_:α->Int}{one:α->α->α × Bool}{p q x0 x1 out:List α}{a b:α}(h:MInv at_ one p q (a ::x0) (b ::x1) out)(e:at_ a=at_ b):
  ((one a b).2=true->MInv at_ one p q x0 x1 (out++[(one a b).1]))/\((one a b).2=false->Zh at_ one p q=none):=by
 refine ⟨fun hc=> ⟨?_,by have:=h.len;grind⟩,fun hc=> ?_⟩
 .rw [h.eq,Zh,V0,V0,if_pos hc]
  cases Zh at_ one x0 x1 <;> simp
 .rw [h.eq,Zh,V0,V0,if_neg (by grind)]
  try rfl
theorem MInv.done{α:Type}{at_:α->Int}{one:α->α->α × Bool}{p q out:List α}(h:MInv at_ one p q [] [] out):Zh at_ one p q=some out:=by
 rw [h.eq,Zh];simp
theorem MInv.left'{α:Type}{at_:α->Int}{one:α->α->α × Bool}{p q x0 x1 out:List α}(z:α)(h:MInv at_ one p q x0 x1 out)(hx:0 < x0.length)(hb:x1.length=0\/at_ (x0.getD 0 z) < at_ (x1.getD 0 z)):
  MInv at_ one p q (x0.drop 1) x1 (out++[x0.getD 0 z]):=by
 cases x0 with
 | nil=> simp at hx
 | cons a r=>
  refine h.left fun b hb'=> ?_
  cases x1 with
  | nil=> simp at hb'
  | cons c s=>
   grind
theorem MInv.right'{α:Type}{at_:α->Int}{one:α->α->α × Bool}{p q x0 x1 out:List α}(z:α)(h:MInv at_ one p q x0 x1 out)(hx:0 < x1.length)(hb:x0.length=0\/at_ (x1.getD 0 z) < at_ (x0.getD 0 z)):
  MInv at_ one p q x0 (x1.drop 1) (out++[x1.getD 0 z]):=by
 cases x1 with
 | nil=> simp at hx
 | cons a r=>
  refine h.right fun b hb'=> ?_
  cases x0 with
  | nil=> simp at hb'
  | cons c s=>
   grind
theorem MInv.both'{α:Type}{at_:α->Int}{one:α->α->α × Bool}{p q x0 x1 out:List α}(z:α)(h:MInv at_ one p q x0 x1 out)(h0:0 < x0.length)(h1:0 < x1.length)(e:at_ (x0.getD 0 z)=at_ (x1.getD 0 z)):
  ((one (x0.getD 0 z) (x1.getD 0 z)).2=true->MInv at_ one p q (x0.drop 1) (x1.drop 1) (out++[(one (x0.getD 0 z) (x1.getD 0 z)).1]))/\((one (x0.getD 0 z) (x1.getD 0 z)).2=false->Zh at_ one p q=none):=by
 cases x0 with
 | nil=> simp at h0
 | cons a r=>
  cases x1 with
  | nil=> simp at h1
  | cons b s=> exact h.both e
theorem ZEw:Contract Tryz.prog cfg 162 Z9y:=by
 refine Zz9 ZEv ZEu ?_
 rintro p q ⟨⟩ ⟨⟩ _ hp
 obtain ⟨⟨rp,lp⟩,rq,lq⟩:=hp
 dsimp only at rp lp rq lq
 refine ZGZ p q () () _ ?_
 refine Z4 (ι:=List WEdit × List WEdit × List WEdit) (fun x=> Z2T p q () () x.1 x.2.1 x.2.2) (fun x=> MInv WEdit.at_ Jh p q x.1 x.2.1 x.2.2/\(∀ w∈x.1,Z28 w)/\∀ w∈x.2.1,Z28 w) (fun x=> x.1.length+x.2.1.length) (p,q,[]) rfl
  ⟨⟨by simp_all,by simp⟩,rp,rq⟩ ?_
 rintro ⟨x0,x1,x10⟩ ⟨inv,r0,r1⟩
 dsimp only at inv r0 r1
 have hlen:=inv.len
 refine Zt4 p q () () _ _ _ _ _ ?_
 intro y1 h1 y2 h2 y3 h3 y4 h4 y5 h5
 subst h3 h4
 (simp only [iB,vcT,vcS])
 have h3:y3=x0.getD 0 ⟨0,0,0,0⟩:=h1
 have h4:y4=x1.getD 0 ⟨0,0,0,0⟩:=h2
 have d0:∀ w∈x0.drop 1,Z28 w:=fun w hw=> r0 w (QS hw)
 have d1:∀ w∈x1.drop 1,Z28 w:=fun w hw=> r1 w (QS hw)
 refine ⟨fun hne=> ⟨fun h=> ⟨YL,YL⟩,fun _=> trivial,fun h=> ⟨YL,YL⟩,fun _=> trivial,fun g1 g2=> ⟨g1,g2⟩,fun hA=> ?_,fun hB=> ?_⟩,fun hE=> ?_⟩
 .refine ⟨⟨YL,YL⟩,by grind,⟨YL,YL⟩,(x0.drop 1,x1,x10++[y3]),rfl,⟨?_,d0,r1⟩,by grind⟩
  rw [h3]
  exact inv.left' _ YL (by grind)
 .refine ⟨fun h=> ⟨YL,YL⟩,fun _=> trivial,fun h=> ⟨YL,YL⟩,fun _=> trivial,fun hC=> ?_,fun hD=> ?_⟩
  .refine ⟨⟨YL,YL⟩,by grind,⟨YL,YL⟩,(x0,x1.drop 1,x10++[y4]),rfl,⟨?_,r0,d1⟩,by grind⟩
   rw [h4]
   exact inv.right' _ YL (by grind)
  .have hb:=inv.both' ⟨0,0,0,0⟩ YL YL (by grind)
   rw [<-h3,<-h4] at hb
   have m3:Z28 y3:=by rw [h3];exact r0 _ (Zf YL _)
   have m4:Z28 y4:=by rw [h4];exact r1 _ (Zf YL _)
   refine ⟨⟨YL,YL⟩,⟨YL,YL⟩,⟨m3,m4⟩,fun hc=> ?_,fun hc=> ?_⟩
   .have e:=ZfX (hb.2 hc)
    refine Y5 (r':= .tup [(false,[.slice (U:=U) .wedit [] .unk]),(false,[.bool false])]) ?_ JR
    simp only [ZiH]
    rw [e.1,e.2]
   .refine ⟨by grind,⟨YL,YL⟩,⟨YL,YL⟩,(x0.drop 1,x1.drop 1,x10++[y5]),rfl,⟨?_,d0,d1⟩,by grind⟩
    grind
 .have e0:x0=[]:=Q1 YL
  have e1:x1=[]:=Q1 YL
  subst e0 e1
  have e:=inv.done
  refine Y5 (r':= .tup [(false,[.slice (U:=U) .wedit x10 .unk]),(false,[.bool true])]) ?_ JR
  simp only [ZiH]
  rw [e]
  try rfl
theorem ZEE:Contract Tryz.prog cfg 141 Z2o:=by
 refine Zzh ZEw ?_
 intro p q _ hp
 exact ZHb _ _ _ ⟨hp,JR⟩
end Go.AM.YtfapacabjkhepaaGreat
