import Derived.Test.YtpjenobkibfpcaaGreatZKG22d
import Derived.Test.YtpjenobkibfpcaaGreatZKL22m
import Derived.Test.YtpjenobkibfpcaaGreatZKB24
import Derived.Test.YtpjenobkibfpcaaGreatZCL25e
import Derived.Test.YtpjenobkibfpcaaGreatZCD25s
set_option linter.unusedSimpArgs false
set_option linter.unusedVariables false
namespace Go.AM.YtpjenobkibfpcaaGreat
open Go.AM Go.Proofs
theorem Zvj(s:Wst)(n:Int):(Y2 s n).out.length<=s.out.length+3:=by
 have h:=Z9T s
 simp only [Y2]
 rw [Z8a]
 grind
theorem ZCW{s:Wst}{n B K:Int}(hB:0<=B)(hn:0<=n/\n<=K)(h:∀ o∈s.out,0<=o.n/\o.n<=B):∀ o∈(Y2 s n).out,0<=o.n/\o.n<=B+K:=by
 have hF:∀ o∈(Zb s).out,0<=o.n/\o.n<=B:=by
  intro o d
  rcases Z9S s o d with h1 | h1
  .exact h o h1
  .omega
 intro o d
 simp only [Y2] at d
 rw [Z8a] at d
 grind
theorem ZhM:∀ (l:List Kid),(YR l).length=l.length
 | []=> rfl
 | k ::r=> by simp [YR,ZhM r]
theorem ZpO(e:Edit):(Zp e).words.length<=e.words.length/\(Zp e).kids.length<=e.kids.length:=by
 rw [Z4U]
 split
 .simp
 .split
  .simp [ZhM]
  .split <;> simp
theorem ZbU{list:Int}{o:Op}{d:Int}(h:Za list o d=true)(hk:o.kind=0):1<=o.n/\o.n<=1048576:=by
 obtain ⟨k,n,l,e⟩:=o
 simp only at hk
 subst hk
 simp [Za] at h
 grind
theorem ZbV{list:Int}{o:Op}{d:Int}(h:Za list o d=true)(hk:o.kind=3):Z1 o.e d=true:=by
 obtain ⟨k,n,l,e⟩:=o
 simp only at hk
 subst hk
 simp [Za] at h
 exact h.2.1.2
theorem Zka{e:Edit}{d:Int}(h:Z1 e d=true)(hk:e.kind=2):∀ k∈e.kids,∃ d,Z1 k.e d=true:=by
 obtain ⟨k,o,n,w,ks,l,os⟩:=e
 change k=2 at hk
 subst hk
 have aa:∃ d s,ZC s ks d=true:=by
  unfold Z1 at h
  split at h
  .cases h
  .grind
 obtain ⟨d',s,aa⟩:=aa
 change ∀ k∈ks,_
 clear h
 induction ks generalizing s with
 | nil=> grind
 | cons a r ih=>
  simp only [ZC,Q2] at aa
  intro k hk
  rcases Qa.1 hk with rfl | hk
  .obtain ⟨a,e⟩:=k
   simp only [JA,Q2] at aa
   grind
  grind
theorem ZnF{e:Edit}{d:Int}(h:Z1 e d=true)(hk:e.kind=3):∀ o∈e.ops,∃ d,Za e.list o d=true:=by
 obtain ⟨k,o,n,w,ks,l,os⟩:=e
 change k=3 at hk
 subst hk
 have s:∃ d,ZA l os d=true:=by
  unfold Z1 at h
  split at h
  .cases h
  .grind
 obtain ⟨d',s⟩:=s
 change ∀ o∈os,∃ d,Za l o d=true
 clear h
 induction os with
 | nil=> grind
 | cons a r ih=>
  simp only [ZA,Q2] at s
  grind
theorem ZLp:ZFJ:=by
 intro N list l _ hp hN
 simp only [ZaT,ZhY] at hp hN
 obtain ⟨p1,p3⟩:=hp
 have hl:=ZQ l
 refine ZJS _ _ _ _ ?_
 refine Z7 (ι:=Int × Wst) (fun s=> Z0u list l s.1 s.2.out s.2.gone s.2.brought)
  (fun s=> 0<=s.1/\s.1<=l.length/\Zv list (l.drop s.1.toNat) s.2=Zv list l ⟨[],[],[]⟩/\s.2.out.length<=3*s.1/\s.2.gone.length+s.2.brought.length+Zg (l.drop s.1.toNat)<=Zg l/\∀ o∈s.2.out,0<=o.n/\o.n<=s.1*1048576)
  (fun s=> ((l.length:Int) - s.1).toNat) (0,⟨[],[],[]⟩) rfl ⟨by simp,by simp,by simp,by simp,by simp,by simp⟩ ?_
 rintro ⟨i,s⟩ ⟨g1,g2,h,g4,g5,g6⟩
 dsimp only at g1 g2 h g4 g5 g6
 refine Zx9 _ _ _ _ _ _ _ _ _ ?_
 rintro y1 ax y2 au y3 al y4 aj y5 am
 have hy:y2=Edit.nil:=au
 subst hy
 have es:Wst.mk s.out s.gone s.brought=s:=rfl
 simp only [es] at al ⊢
 (simp only [iB,vcS])
 refine ⟨fun hi=> ?_,fun hi=> ?_⟩
 .have ah:=Zh (l:=l) (i:=i.toNat) V1 Op.nil
  have hm:=ZW ah
  have hr:=p3 _ ah
  rw [ZS g1 hi Op.nil] at h g5
  rw [<-ax] at h g5 hm hr
  have az:=ZR y1
  simp only [Zv,YV,Zg] at h g5
  rw [<-aj,<-am] at h
  obtain ⟨d,ak⟩:=hr
  have bg:=Z9T s
  have hP:∀ n:Int,0<=n/\n<=1048576->ZaQ ((s.out,s.gone,s.brought,()),n,()):=by
   intro n hn
   simp only [ZaQ]
   refine ⟨V1,V1,V1,fun o ho=> ?_,V1,V1⟩
   have:=g6 o ho
   constructor
   .omega
   .have:i*1048576<=20000000000*1048576:=V1
    omega
  have hK:∀ n:Int,0<=n/\n<=1048576->Zv list (l.drop (i+1).toNat) (Y2 s n)=Zv list l ⟨[],[],[]⟩->
    (∃ j:Int × Wst,Z0u list l (i+1) (Y2 s n).out (Y2 s n).gone (Y2 s n).brought=Z0u list l j.1 j.2.out j.2.gone j.2.brought/\(0<=j.1/\j.1<=l.length/\Zv list (l.drop j.1.toNat) j.2=Zv list l ⟨[],[],[]⟩/\j.2.out.length<=3*j.1/\j.2.gone.length+j.2.brought.length+Zg (l.drop j.1.toNat)<=Zg l/\∀ o∈j.2.out,0<=o.n/\o.n<=j.1*1048576)/\((l.length:Int) - j.1).toNat < ((l.length:Int) - i).toNat):=by
   intro n hn he
   have h1:=Zvj s n
   have h2:=ZCW (s:=s) (n:=n) (B:=i*1048576) (K:=1048576) V1 hn g6
   refine ⟨(i+1,Y2 s n),rfl,⟨V1,V1,he,by grind,by simp only [Y2,Qh];omega,fun o ho=> ?_⟩,V1⟩
   have:=h2 o ho
   dsimp only
   omega
  refine ⟨⟨g1,hi⟩,fun hk=> ?_,fun hk=> ⟨fun ab=> ?_,fun ab=> ⟨fun ae=> ?_,fun ae=> ⟨fun af=> ?_,fun af=> ?_⟩⟩⟩⟩
  .rw [if_pos hk] at h
   have h1:=ZbU ak hk
   exact ⟨hP _ V1,V5,hK _ V1 h⟩
  .rw [if_neg hk,if_pos ab] at h
   refine ⟨by simp only [Zhz];omega,V5,(i+1,⟨s.out,s.gone++Z8 y1.l,s.brought⟩),rfl,⟨V1,V1,h,by grind,?_,fun o ho=> ?_⟩,V1⟩
   .have:=ZD y1.l
    simp only [Q7,Z8,Qt];omega
   grind
  .rw [if_neg hk,if_neg ab,if_pos ae] at h
   refine ⟨by simp only [Zhz];omega,V5,(i+1,⟨s.out,s.gone,s.brought++Z8 y1.l⟩),rfl,⟨V1,V1,h,by grind,?_,fun o ho=> ?_⟩,V1⟩
   .have:=ZD y1.l
    simp only [Q7,Z8,Qt];omega
   .have:=g6 o ho
    dsimp only;omega
  .rw [if_neg hk,if_neg ab,if_neg ae,if_pos af] at h
   have ay:=ZbV ak af
   rw [<-aj] at ay
   have hw:=ZpO y4
   rw [<-am] at hw
   have h1:=Yq y4
   have h2:=Ym y4.kids
   have bc:Z0 y4<=Zs y1:=by rw [az,aj];omega
   refine ⟨by simp only [Z4f];grind,by simp only [Zcp];omega,by simp only [Zc3];omega,fun hq=> ?_,fun hq=> ?_⟩
   .rw [if_pos hq] at h
    exact ⟨hP 1 V1,V5,hK 1 V1 h⟩
   .rw [if_neg (by rw [hq];simp)] at h
    rw [al,Z46]
    refine ⟨by simp only [Z7P];omega,by grind,by grind,V1,V5,(i+1,⟨(Zb s).out++[⟨3,0,[],y5⟩],[],[]⟩),rfl,⟨V1,V1,h,by simp;omega,by simp;omega,fun o ho=> ?_⟩,V1⟩
    dsimp only at ho ⊢
    rcases Qg.1 ho with ho | ho
    .rcases Z9S s o ho with h5 | h5
     .grind
     .omega
    grind
  .rw [if_neg hk,if_neg ab,if_neg ae,if_neg af] at h
   refine ⟨V5,(i+1,s),rfl,⟨V1,V1,h,by grind,by grind,fun o ho=> ?_⟩,V1⟩
   grind
 .rw [Q6 V1] at h
  simp only [Zv] at h
  refine ⟨by simp only [Z7P];omega,?_⟩
  simp only [Zhe]
  rw [<-h]
  exact V2
theorem b67:ZKC:=by
 intro N e _ hp hN
 simp only [Z4f,Zcp] at hp hN
 obtain ⟨p1,d,p3⟩:=hp
 have h1:=Yq e
 have h2:=Ym e.kids
 have h3:=ZQ e.ops
 have ha:=Z4U e
 refine ZKW _ _ _ ?_
 (simp only [iB,vcS])
 (simp only [vE])
 refine ⟨fun hk=> ⟨by simp only [Z0W];omega,by simp only [Z0W];omega,?_⟩,fun hk=> ⟨fun h=> ⟨by simp;omega,?_⟩,fun h=> ⟨fun ab=> ⟨?_,by simp only [ZhY];omega,?_⟩,fun ab=> ?_⟩⟩⟩
 .rw [if_pos hk] at ha
  simp only [ZeS,ha]
  exact V2
 .rw [if_neg hk,if_pos h] at ha
  refine Z7 (ι:=Int × List Kid) (fun s=> ZcQ e s.1 s.2) (fun s=> 0<=s.1/\s.1<=e.kids.length/\s.2.length=s.1/\s.2++YR (e.kids.drop s.1.toNat)=YR e.kids) (fun s=> ((e.kids.length:Int) - s.1).toNat) (0,[]) rfl ⟨by simp,by simp,by simp,by simp⟩ ?_
  rintro ⟨j,ks⟩ ⟨f1,f2,f3,f4⟩
  dsimp only at f1 f2 f3 f4
  refine ZBi _ _ _ _ _ _ ?_
  rintro y1 al y2 ai y3 aj
  (simp only [iB,vcS])
  refine ⟨fun hj=> ?_,fun hj=> ?_⟩
  .have af:=Zh (l:=e.kids) (i:=j.toNat) V1 (KidOf.mk 0 Edit.nil)
   have hm:=Ja af
   have hr:=Zka p3 h _ af
   rw [ZS f1 hj (KidOf.mk 0 Edit.nil)] at f4
   rw [<-al] at f4 hm hr
   simp only [YR,Ze2] at f4
   rw [<-ai] at f4 hm hr
   rw [<-aj] at f4
   refine ⟨⟨f1,hj⟩,by simp only [Z4f];grind,by simp only [Zcp];omega,by simp;omega,V5,(j+1,ks++[⟨y1.at_,y3⟩]),rfl,⟨V1,V1,by simp;omega,?_⟩,V1⟩
   grind
  .rw [Q6 V1] at f4
   simp only [YR,Qi] at f4
   rw [f4]
   simp only [ZeS,ha]
   exact V2
 .simp only [ZaT]
  exact ⟨V1,fun o ho=> ZnF p3 ab o ho⟩
 .rw [if_neg hk,if_neg h,if_pos ab] at ha
  simp only [ZeS,ha]
  exact V2
 .rw [if_neg hk,if_neg h,if_neg ab] at ha
  simp only [ZeS,ha]
  exact V2
theorem Zmh:Contract Tryz.prog cfg 67 Z24/\Contract Tryz.prog cfg 107 Zrx:=Zva c75 ZAi ZHp ZvN ZAf b67 ZLp
noncomputable section
def Z89(N:Nat):List (FuncId × Fs U):=(29,fs Zu2 (fun a=> [Z4f a,Zcp a < N]) ZeS) ::(79,fs Zge (fun a=> [ZaT a,ZhY a < N]) Zhe) ::[(41,Z1g),(127,Z8J),(128,Z5x)]
def ZlD:Zj U:=lvk [([1,2],[1,2]),([1,2,6],[1,2]),([1,2,6,7],[1,2]),([2],[2]),([1,2,6,16],[1,2]),([1,2,3],[1,2,3]),([1,2,3],[1,2,3]),([1,2,3,4],[1,2,((.loc 3),(an 8 [.own .kid]))]),([1,2,3,4,29],[1,2,3]),([1,2,3,4],[1,2,((.loc 3),(an 8 [.own .kid]))]),([1,2,3,4],[1,2,3]),([2],[2]),([1,2,52],[1,2]),([2],[2]),([2],[2])]
def ZcX(e:Edit)(h:Int)(d:List Kid):LSt U:=(L2 [pL 1,pL 2,pL 3,pI 4 h] [(.loc 1,(enc .edit e)),(.loc 2,zc1),(.loc 3,[ci 2,ci 0,.nils,.nils,ci 0,.nils,.nils,sU .wedit (([]:List WEdit)++e.words) (.own (.l 3 7)),sU .kid d (.own (.l 3 8)),ci 0,.nils])])
abbrev W29(N:Nat)(e:Edit)(Q:QT):=AW (Z3 (Z89 N)) Tryz.f29 ZlD [] (L2 [(0,.agg (enc .edit e))] []) Q
theorem ZL3(N:Nat)(e:Edit)(Q:QT)(h:let z1:=Tree.mk e.new.kind e.new.words e.new.kids;let z0:=Tree.mk e.old.kind e.old.words e.old.kids;iB (e.kind==1) ((Z0W (z0,()))/\(Z0W (z1,()))/\(Q .ret (L2 [pL 2] [(.loc 2,([ci 1]++enc .tree (Z6 z0)++enc .tree (Z6 z1)++[.nils,.nils,ci 0,.nils]))]))) (iB (e.kind==2) (((([]:List WEdit).length+e.words.length)*32<=140737488355328)/\(Zi (AW (Z3 (Z89 N)) Tryz.f29 ZlD [1,0,1,0,1,1,1,0,1,1,0,1,0,0]) (ZcX e 0 []) (xB 1 (SW (Z3 (Z89 N)) Tryz.f29 ZlD [1,0,1,0,1,1,1,0,1,1,1] (xB 0 (SW (Z3 (Z89 N)) Tryz.f29 ZlD [1,1] Q)))))) (iB (e.kind==3) ((ZaT (e.list,e.ops,()))/\(ZhY (e.list,e.ops,()) < N)/\(Q .ret (L2 [pL 2] [(.loc 2,[ci 3,ci 0,.nils,.nils,ci 0,.nils,.nils,.nils,.nils,ci e.list,sU .op ((Zb (Zv e.list e.ops (Wst.mk [] [] []))).out) .unk])]))) (Q .ret (L2 [pL 2] [(.loc 2,zc1)]))))):
  W29 N e Q:=
 Eq.mpr V6 h
abbrev ZHU(N:Nat)(e:Edit)(h:Int)(d:List Kid)(N0:NT)(Q:QT):=AW (Z3 (Z89 N)) Tryz.f29 ZlD [1,0,1,0,1,1,1,0,1,1,0,1,0,0] (ZcX e h d) (xT N0 (xB 1 (SW (Z3 (Z89 N)) Tryz.f29 ZlD [1,0,1,0,1,1,1,0,1,1,1] (xB 0 (SW (Z3 (Z89 N)) Tryz.f29 ZlD [1,1] Q)))))
theorem ZBq(N:Nat)(e:Edit)(s:Int)(d:List Kid)(N0:NT)(Q:QT)(h:∀ aa,aa=(e.kids.getD s.toNat (KidOf.mk 0 Edit.nil))->∀ ab,ab=(aa.e)->∀ ae,ae=(Zp ab)->iB (decide (s < (e.kids.length:Int))) (((0:Int)<=s/\s < (e.kids.length:Int))/\((0:Int)<=s/\s < (e.kids.length:Int))/\(Z4f (ab,()))/\(Zcp (ab,()) < N)/\((d.length+([(KidOf.mk aa.at_ ae:Kid)]).length)*208<=140737488355328)/\((InR (s+1))/\(N0 (ZcX e (s+1) (d++([(KidOf.mk aa.at_ ae:Kid)])))))) (Q .ret (L2 [pL 2] [(.loc 2,[ci 2,ci 0,.nils,.nils,ci 0,.nils,.nils,sU .wedit (([]:List WEdit)++e.words) (.own (.l 2 7)),sU .kid d (.own (.l 2 8)),ci 0,.nils])]))):
  ZHU N e s d N0 Q:=
 Eq.mpr V6 (h _ rfl _ (Z5 _) _ (Z5 _))
def ZIm(N:Nat)(e:Edit):Prop:=AW (Z3 (Z89 N)) Tryz.f29 ZlD [] (Zm (Zu2.can (e,())) []) (EQ Tryz.f29 (ZeS (e,())) [])
abbrev ZKE:Prop:=∀ (N:Nat) (e:Edit) (_:Unit),Z4f (e,())->Zcp (e,()) < N+1->ZIm N e
def Za6:Zj U:=lvk [([0,1],[]),([0,1,(5,[.wr .op])],[]),([0,1,(5,[.wr .op]),6],[]),([0,1,(5,[.wr .op]),6,16],[]),([0,1,(5,[.wr .op]),6],[]),([0,1,(5,[.wr .op]),6,7,8],[]),([0,1,(5,[.wr .op]),7,8,9],[]),([0,1,(5,[.wr .op]),7,8,9,33],[]),([0,1,(5,[.wr .op]),8,9],[]),([0,1,(5,[.wr .op]),8,9,41],[]),([0,1,(5,[.wr .op]),8,9,41],[]),([0,1,(5,[.wr .op]),6],[]),([0,1,(5,[.wr .op]),6,51],[]),([4],[]),([0,1,(5,[.wr .op]),6,11],[11]),([0,1,(5,[.wr .op]),6,11,64],[11]),([0,1,(5,[.wr .op]),6,11],[11]),([0,1,(5,[.wr .op]),6,11,75],[11]),([0,1,(5,[.wr .op]),6,11],[11]),([0,1,(5,[.wr .op]),6,11,12],[11]),([0,1,(5,[.wr .op]),6,11,12,94],[11]),([0,1,(5,[.wr .op]),6],[]),([0,1,(5,[.wr .op]),6],[]),([4],[])]
def Z06(list:Int)(l:List Op)(d:Int)(re_5_0:List Op):LSt U:=(⟨[pI 0 list,(1,.c (sU .op l .unk)),(5,.c (.mref (.e 5 0))),pI 6 d],[],[(.e 5 0,LC.mk (U:=U) .op re_5_0 0)]⟩:LSt U)
def Z8e(list:Int)(l:List Op)(h:Int)(d:List Op):LSt U:=(⟨[pI 0 list,(1,.c (sU .op l .unk)),(5,.c (.mref (.e 5 0))),pI 8 (h+JG (l.drop h.toNat)),(9,.c (sU .tree (Z2h 2 (l.drop h.toNat)) .unk)),(41,.c (.bool (decide ((0:Int) < ((Z2h 2 (l.drop h.toNat)).length:Int)))))],[],[(.e 5 0,LC.mk (U:=U) .op d 0)]⟩:LSt U)
abbrev W79(N:Nat)(list:Int)(l:List Op)(Q:QT):=AW (Z3 (Z89 N)) Tryz.f79 Za6 [] (L2 [pI 0 list,(1,.c (sU .op l .unk))] []) Q
theorem ZKN(N:Nat)(list:Int)(l:List Op)(Q:QT)(h:Zi (AW (Z3 (Z89 N)) Tryz.f79 Za6 [1,1,0,1,0,0]) (Z06 list l 0 []) (xB 0 (SW (Z3 (Z89 N)) Tryz.f79 Za6 [1,1,1] Q))):
  W79 N list l Q:=
 Eq.mpr V6 h
abbrev ZHS(N:Nat)(list:Int)(l:List Op)(d:Int)(re_5_0:List Op)(N0:NT)(Q:QT):=AW (Z3 (Z89 N)) Tryz.f79 Za6 [1,1,0,1,0,0] (Z06 list l d re_5_0) (xT N0 (xB 0 (SW (Z3 (Z89 N)) Tryz.f79 Za6 [1,1,1] Q)))
theorem ZB8(N:Nat)(list:Int)(l:List Op)(s:Int)(re_5_0:List Op)(N0:NT)(Q:QT)(h:∀ d,d=(Edit.mk 0 (Tree.mk 0 [] []) (Tree.mk 0 [] []) [] [] 0 [])->let z2:=Z2h 1 (l.drop s.toNat);let z1:=Z2h 2 (l.drop s.toNat);let z3:=decide ((0:Int) < (z1.length:Int));let z0:=xB 1 (SW (Z3 (Z89 N)) Tryz.f79 Za6 [1,1,0,1,0,0,1,1] (xT N0 (xB 0 (SW (Z3 (Z89 N)) Tryz.f79 Za6 [1,1,1] Q))));iB (decide (s < (l.length:Int))) ((ZaS (l,s,1,()))/\((ZaS (l,s,2,()))/\(iB (decide ((0:Int) < (z2.length:Int))) (((re_5_0.length+([(OpOf.mk 1 0 z2 d:Op)]).length)*240<=140737488355328)/\(iB z3 ((((re_5_0++([(OpOf.mk 1 0 z2 d:Op)])).length+([(OpOf.mk 2 0 z1 d:Op)]).length)*240<=140737488355328)/\(AW (Z3 (Z89 N)) Tryz.f79 Za6 [1,1,0,1,0,0,1,0,0,1,1,1,1] (Z8e list l s ((re_5_0++([(OpOf.mk 1 0 z2 d:Op)]))++([(OpOf.mk 2 0 z1 d:Op)]))) z0)) (AW (Z3 (Z89 N)) Tryz.f79 Za6 [1,1,0,1,0,0,1,0,0,1,1,1,1] (Z8e list l s (re_5_0++([(OpOf.mk 1 0 z2 d:Op)]))) z0))) (iB z3 (((re_5_0.length+([(OpOf.mk 2 0 z1 d:Op)]).length)*240<=140737488355328)/\(AW (Z3 (Z89 N)) Tryz.f79 Za6 [1,1,0,1,0,0,1,0,0,1,1,1,1] (Z8e list l s (re_5_0++([(OpOf.mk 2 0 z1 d:Op)]))) z0)) (AW (Z3 (Z89 N)) Tryz.f79 Za6 [1,1,0,1,0,0,1,0,0,1,1,1,1] (Z8e list l s re_5_0) z0))))) (Q .ret (L2 [(4,.c (sU .op re_5_0 (.own (.e 4 0))))] []))):
  ZHS N list l s re_5_0 N0 Q:=
 Eq.mpr V6 (h _ rfl)
abbrev ZAL(N:Nat)(list:Int)(l:List Op)(h:Int)(d:List Op)(N0:NT)(Q:QT):=AW (Z3 (Z89 N)) Tryz.f79 Za6 [1,1,0,1,0,0,1,0,0,1,1,1,1] (Z8e list l h d) (xB 1 (SW (Z3 (Z89 N)) Tryz.f79 Za6 [1,1,0,1,0,0,1,1] (xT N0 (xB 0 (SW (Z3 (Z89 N)) Tryz.f79 Za6 [1,1,1] Q)))))
theorem ZB9(N:Nat)(list:Int)(l:List Op)(x6:Int)(d:List Op)(N0:NT)(Q:QT)(h:∀ ab,ab=(List.getD l (Int.toNat (x6+JG (l.drop x6.toNat))) Op.nil)->∀ af,af=(Edit.mk 0 (Tree.mk 0 [] []) (Tree.mk 0 [] []) [] [] 0 [])->∀ s,s=(List.getD d (Int.toNat (((d.length:Int):Int) - 1)) Op.nil)->∀ ah,ah=(ab.e)->∀ ai,ai=(s.e)->∀ ae,ae=(Zp ah)->let z4:=decide ((0:Int) < (d.length:Int));let z3:=InR (((d.length:Int):Int) - 1);let z2:=InR (((x6+JG (l.drop x6.toNat)):Int)+1);let z1:=bif ((3:Int)==0) then z4 else false;let z0:=bif ((0:Int)==0) then z4 else false;let z5:=bif z0 then (s.kind==0) else false;(iB (decide (((l.length:Int):Int)<=(x6+JG (l.drop x6.toNat)))) ((Q .ret (L2 [(4,.c (sU .op d (.own (.e 4 0))))] []))) (((0:Int)<=(x6+JG (l.drop x6.toNat))/\(x6+JG (l.drop x6.toNat)) < (l.length:Int))/\(((0:Int)<=(x6+JG (l.drop x6.toNat))/\(x6+JG (l.drop x6.toNat)) < (l.length:Int))/\(iB (ab.kind==3) (((0:Int)<=(x6+JG (l.drop x6.toNat))/\(x6+JG (l.drop x6.toNat)) < (l.length:Int))/\(Z4f (ah,()))/\(Zcp (ah,()) < N)/\((ZfZ (list,ae,()))/\(iB (Z8c list ae) (((Tt ((0:Int)==0))/\(Tt ((0:Int)==0))/\(Tt z0)/\(z0=true->InR (((d.length:Int):Int) - 1))/\(Tt z0)/\(Tt z0)/\(z0=true->(0:Int)<=(((d.length:Int):Int) - 1)/\(((d.length:Int):Int) - 1) < (d.length:Int))/\(Tt z0)/\(Tt z0)/\(Tt z0)/\(Tt z0)/\(iB z5 (z3/\z3/\((0:Int)<=(((d.length:Int):Int) - 1)/\(((d.length:Int):Int) - 1) < (d.length:Int))/\(InR (s.n+1))/\((0:Int)<=(((d.length:Int):Int) - 1)/\(((d.length:Int):Int) - 1) < (d.length:Int))/\((0:Nat)<=(Int.toNat (((d.length:Int):Int) - 1)))/\(z2/\(N0 (Z06 list l (((x6+JG (l.drop x6.toNat)):Int)+1) (List.set d (Int.toNat (((d.length:Int):Int) - 1)) (OpOf.mk s.kind (s.n+1) s.l ai:Op)))))) (((d.length+([(OpOf.mk 0 1 [] af:Op)]).length)*240<=140737488355328)/\(z2/\(N0 (Z06 list l (((x6+JG (l.drop x6.toNat)):Int)+1) (d++([(OpOf.mk 0 1 [] af:Op)]))))))))) (((Tt ((3:Int)==0))/\(Tt ((3:Int)==0))/\(Tt z1)/\(z1=true->InR (((d.length:Int):Int) - 1))/\(Tt z1)/\(Tt z1)/\(z1=true->(0:Int)<=(((d.length:Int):Int) - 1)/\(((d.length:Int):Int) - 1) < (d.length:Int))/\(Tt z1)/\(Tt z1)/\(Tt z1)/\(Tt z1)/\(iB (bif z1 then (s.kind==0) else false) (z3/\z3/\((0:Int)<=(((d.length:Int):Int) - 1)/\(((d.length:Int):Int) - 1) < (d.length:Int))/\(InR (s.n+0))/\((0:Int)<=(((d.length:Int):Int) - 1)/\(((d.length:Int):Int) - 1) < (d.length:Int))/\((0:Nat)<=(Int.toNat (((d.length:Int):Int) - 1)))/\(z2/\(N0 (Z06 list l (((x6+JG (l.drop x6.toNat)):Int)+1) (List.set d (Int.toNat (((d.length:Int):Int) - 1)) (OpOf.mk s.kind (s.n+0) s.l ai:Op)))))) (((d.length+([(OpOf.mk 3 0 [] ae:Op)]).length)*240<=140737488355328)/\(z2/\(N0 (Z06 list l (((x6+JG (l.drop x6.toNat)):Int)+1) (d++([(OpOf.mk 3 0 [] ae:Op)])))))))))))) (((Tt ((0:Int)==0))/\(Tt ((0:Int)==0))/\(Tt z0)/\(z0=true->InR (((d.length:Int):Int) - 1))/\(Tt z0)/\(Tt z0)/\(z0=true->(0:Int)<=(((d.length:Int):Int) - 1)/\(((d.length:Int):Int) - 1) < (d.length:Int))/\(Tt z0)/\(Tt z0)/\(Tt z0)/\(Tt z0)/\(iB z5 (z3/\z3/\((0:Int)<=(((d.length:Int):Int) - 1)/\(((d.length:Int):Int) - 1) < (d.length:Int))/\(InR (s.n+ab.n))/\((0:Int)<=(((d.length:Int):Int) - 1)/\(((d.length:Int):Int) - 1) < (d.length:Int))/\((0:Nat)<=(Int.toNat (((d.length:Int):Int) - 1)))/\(z2/\(N0 (Z06 list l (((x6+JG (l.drop x6.toNat)):Int)+1) (List.set d (Int.toNat (((d.length:Int):Int) - 1)) (OpOf.mk s.kind (s.n+ab.n) s.l ai:Op)))))) (((d.length+([(OpOf.mk 0 ab.n [] af:Op)]).length)*240<=140737488355328)/\(z2/\(N0 (Z06 list l (((x6+JG (l.drop x6.toNat)):Int)+1) (d++([(OpOf.mk 0 ab.n [] af:Op)])))))))))))))):
  ZAL N list l x6 d N0 Q:=
 Eq.mpr V6 (h _ rfl _ rfl _ rfl _ (Z5 _) _ (Z5 _) _ (Z5 _))
def ZI6(N:Nat)(list:Int)(l:List Op):Prop:=AW (Z3 (Z89 N)) Tryz.f79 Za6 [] (Zm (Zge.can (list,l,())) []) (EQ Tryz.f79 (Zhe (list,l,())) [])
abbrev ZKz:Prop:=∀ (N:Nat) (list:Int) (l:List Op) (_:Unit),ZaT (list,l,())->ZhY (list,l,()) < N+1->ZI6 N list l
theorem Zvc(c41:CT 41 Z1g)(ZHu:CT 127 Z8J)(ZAj:CT 128 Z5x)(ha:ZKE)(hb:ZKz):CT 29 Z24/\CT 79 Zrx:=
 Z1z (μA:=Zcp) (μB:=ZhY) (l:=[(41,Z1g),(127,Z8J),(128,Z5x)]) Zo rfl (⟨c41,ZHu,ZAj,trivial⟩) ZlD Za6 Tryz.func29 Tryz.func79 rfl rfl rfl rfl 1 2 (fun _=> rfl) (fun _=> rfl) V3 V3 (fun N ⟨e,_⟩=> ha N e ()) (fun N ⟨list,l,_⟩=> hb N list l ())
end
theorem Zkg:∀ (l:List Op),0<=JG l/\(JG l < l.length->(l.getD (JG l).toNat Op.nil).kind≠1/\(l.getD (JG l).toNat Op.nil).kind≠2)
 | []=> by simp [JG]
 | o ::r=> by
  obtain ⟨d,h⟩:=Zkg r
  rw [JG]
  grind
theorem Ztj:∀ (l:List Op),JG l<=l.length
 | []=> by simp [JG]
 | o ::r=> by
  have:=Ztj r
  rw [JG]
  grind
theorem Zqw(l:List Op)(i k:Nat):(l.drop i).getD k Op.nil=l.getD (i+k) Op.nil:=by
 grind
theorem Zl0{list:Int}{o:Op}{d:Int}(h:Za list o d=true):o.kind=0\/o.kind=1\/o.kind=2\/o.kind=3:=by
 obtain ⟨k,n,l,e⟩:=o
 show k=0\/k=1\/k=2\/k=3
 rw [Za] at h
 grind
theorem b79:ZKz:=by
 intro N list l _ hp hN
 simp only [ZaT,ZhY] at hp hN
 obtain ⟨p1,p3⟩:=hp
 have hl:=ZQ l
 refine ZKN _ _ _ _ ?_
 refine Z7 (ι:=Int × List Op) (fun s=> Z06 list l s.1 s.2)
  (fun s=> 0<=s.1/\s.1<=l.length/\(Zb (Zv list (l.drop s.1.toNat) ⟨s.2,[],[]⟩)).out=(Zb (Zv list l ⟨[],[],[]⟩)).out/\s.2.length<=3*s.1/\∀ o∈s.2,0<=o.n/\o.n<=s.1*1048576)
  (fun s=> ((l.length:Int) - s.1).toNat) (0,[]) rfl ⟨by simp,by simp,by simp,by simp,by simp⟩ ?_
 rintro ⟨i,out⟩ ⟨g1,g2,g3,g4,g6⟩
 dsimp only at g1 g2 g3 g4 g6
 have a7:i < l.length->∀ F,F=(Zb ⟨out,Z2h 1 (l.drop i.toNat),Z2h 2 (l.drop i.toNat)⟩).out->
   ZAL N list l i F (fun s2=> ∃ j:Int × List Op,s2=Z06 list l j.1 j.2/\(0<=j.1/\j.1<=l.length/\(Zb (Zv list (l.drop j.1.toNat) ⟨j.2,[],[]⟩)).out=(Zb (Zv list l ⟨[],[],[]⟩)).out/\j.2.length<=3*j.1/\∀ o∈j.2,0<=o.n/\o.n<=j.1*1048576)/\((l.length:Int) - j.1).toNat < ((l.length:Int) - i).toNat) (YZ cfg Tryz.f79.ntmps Tryz.f79.results.toList (Zhe (list,l,())) []):=by
  intro hi F hF
  obtain ⟨q1,q2⟩:=Zkg (l.drop i.toNat)
  have q3:=Ztj (l.drop i.toNat)
  rw [Qv] at q2 q3
  rw [Zqw,show i.toNat+(JG (l.drop i.toNat)).toNat=(i+JG (l.drop i.toNat)).toNat by omega] at q2
  rw [ZjT,Xu,show i.toNat+(JG (l.drop i.toNat)).toNat=(i+JG (l.drop i.toNat)).toNat by omega] at g3
  simp only [Qo] at g3
  have az:=Z9T ⟨out,Z2h 1 (l.drop i.toNat),Z2h 2 (l.drop i.toNat)⟩
  have ao:=Z9S ⟨out,Z2h 1 (l.drop i.toNat),Z2h 2 (l.drop i.toNat)⟩
  have ae:Zb ⟨out,Z2h 1 (l.drop i.toNat),Z2h 2 (l.drop i.toNat)⟩=⟨F,[],[]⟩:=by rw [hF];try rfl
  have ah:∀ n,Y2 ⟨out,Z2h 1 (l.drop i.toNat),Z2h 2 (l.drop i.toNat)⟩ n=⟨JK F n,[],[]⟩:=by intro n;rw [hF];try rfl
  rw [<-hF] at az ao
  simp only at az ao
  refine ZB9 _ _ _ _ _ _ _ ?_
  rintro y1 ak y2 a5 y3 aq y4 au y5 bh y6 a9
  generalize hj:i+JG (l.drop i.toNat)=j at*
  have hy:y2=Edit.nil:=a5
  subst hy
  have aj:∀ o∈F,0<=o.n/\o.n<=i*1048576:=by
   intro o ho
   rcases ao o ho with h1 | h1
   .exact g6 o h1
   .omega
  simp only [show ((0:Int)==0)=true from rfl,show ((3:Int)==0)=false from rfl,cond_true,cond_false]
  simp only [iB,vcT,vcS,aiT,true_and]
  refine ⟨fun a6=> ?_,fun a6=> ?_⟩
  .rw [Q6 V1] at g3
   simp only [Zv,ae] at g3
   simp only [Zhe]
   rw [<-g3]
   exact V2
  .have al:=Zh (l:=l) (i:=j.toNat) V1 Op.nil
   have hm:=ZW al
   obtain ⟨d,ai⟩:=p3 _ al
   have hq:=q2 V1
   rw [<-ak] at hm ai hq
   have bi:=Zl0 ai
   rw [ZS V1 V1 Op.nil,<-ak,Zv,YV] at g3
   have bd:=ZR y1
   have bb:(F.length:Int) - 1=((F.length - 1:Nat):Int)\/F.length=0:=V1
   have e2:((F.length:Int) - 1).toNat=F.length - 1:=V1
   rw [e2] at aq ⊢
   have ar:0 < F.length->0<=y3.n/\y3.n<=i*1048576:=fun h=> by
    rw [aq];exact aj _ (Zh V1 _)
   have af:∀ n:Int,0<=n/\n<=1048576->(Zb (Zv list (l.drop (j+1).toNat) ⟨JK F n,[],[]⟩)).out=(Zb (Zv list l ⟨[],[],[]⟩)).out->
     ((0 < F.length/\y3.kind=0->∃ q:Int × List Op,Z06 list l (j+1) (F.set (F.length - 1) ⟨y3.kind,y3.n+n,y3.l,y5⟩)=Z06 list l q.1 q.2/\(0<=q.1/\q.1<=l.length/\(Zb (Zv list (l.drop q.1.toNat) ⟨q.2,[],[]⟩)).out=(Zb (Zv list l ⟨[],[],[]⟩)).out/\q.2.length<=3*q.1/\∀ o∈q.2,0<=o.n/\o.n<=q.1*1048576)/\((l.length:Int) - q.1).toNat < ((l.length:Int) - i).toNat)/\
      (¬(0 < F.length/\y3.kind=0)->∃ q:Int × List Op,Z06 list l (j+1) (F++[⟨0,n,[],Edit.nil⟩])=Z06 list l q.1 q.2/\(0<=q.1/\q.1<=l.length/\(Zb (Zv list (l.drop q.1.toNat) ⟨q.2,[],[]⟩)).out=(Zb (Zv list l ⟨[],[],[]⟩)).out/\q.2.length<=3*q.1/\∀ o∈q.2,0<=o.n/\o.n<=q.1*1048576)/\((l.length:Int) - q.1).toNat < ((l.length:Int) - i).toNat)):=by
    intro n hn hg
    rw [Z8a,<-aq,<-bh] at hg
    refine ⟨fun hc=> ?_,fun hc=> ?_⟩
    .rw [if_pos ⟨V1,hc.2⟩] at hg
     refine ⟨(j+1,_),rfl,⟨V4,V4,hg,by dsimp only;rw [List.length_set];omega,fun o ho=> ?_⟩,V4⟩
     dsimp only at ho ⊢
     have a4:=ar V1
     rcases List.mem_or_eq_of_mem_set ho with ho | rfl
     .have:=aj o ho;omega
     .simp only;omega
    .rw [if_neg (fun h=> hc ⟨V1,h.2⟩)] at hg
     refine ⟨(j+1,_),rfl,⟨V4,V4,hg,by dsimp only;rw [List.length_append,List.length_singleton];omega,fun o ho=> ?_⟩,V4⟩
     dsimp only at ho ⊢
     rcases Qg.1 ho with ho | ho
     .have:=aj o ho;omega
     .simp only [Qe] at ho
      subst ho
      simp only;omega
   refine ⟨V1,V1,fun hk=> ?_,fun hk=> ?_⟩
   .rw [Jv,Jv,Jv,if_pos hk] at g3
    rw [<-au,<-a9,ah,ae] at g3
    have a1:=ZbV ai hk
    rw [<-au] at a1
    have bq:Z0 y4<=Zs y1:=by rw [bd,au];omega
    refine ⟨V1,by simp only [Z4f];exact ⟨V1,d,a1⟩,by simp only [Zcp];omega,by simp only [ZfZ],fun hq=> ?_,fun hq=> ?_⟩
    .rw [if_pos hq] at g3
     have hK:=af 1 V1 g3
     refine ⟨V5,V1,fun hc=> ?_,fun hc=> ?_⟩
     .have a4:=ar V1
      exact ⟨V5,V5,V1,V5,V1,V1,V5,hK.1 ⟨V1,hc.2⟩⟩
     .exact ⟨by simp only [Qs];omega,V5,hK.2 (fun h=> by omega)⟩
    .rw [if_neg (by rw [hq];simp)] at g3
     refine ⟨fun h=> (nomatch h),fun h=> (nomatch h),fun h=> (nomatch h),by simp only [Qs];omega,V5,(j+1,F++[⟨3,0,[],y6⟩]),rfl,⟨V4,V4,g3,by dsimp only;rw [List.length_append,List.length_singleton];omega,fun o ho=> ?_⟩,V4⟩
     dsimp only at ho ⊢
     rcases Qg.1 ho with ho | ho
     .have:=aj o ho;omega
     .simp only [Qe] at ho
      subst ho
      simp only;omega
   .have ay:y1.kind=0:=V1
    rw [if_pos ay,ah] at g3
    have h1:=ZbU ai ay
    have hK:=af y1.n V1 g3
    refine ⟨V5,V1,fun hc=> ?_,fun hc=> ?_⟩
    .have a4:=ar V1
     exact ⟨V5,V5,V1,V5,V1,V1,V5,hK.1 ⟨V1,hc.2⟩⟩
    .exact ⟨by simp only [Qs];omega,V5,hK.2 (fun h=> by omega)⟩
 refine ZB8 _ _ _ _ _ _ _ ?_
 rintro y1 ak
 have hy:y1=Edit.nil:=ak
 subst hy
 (simp only [iB,vcS])
 refine ⟨fun hi=> ?_,fun hi=> ?_⟩
 .have kk:=a7 hi
  simp only [Zb,JZ] at kk
  refine ⟨by simp only [ZaS];omega,by simp only [ZaS];omega,fun h1=> ⟨by simp only [Qs];omega,fun h2=> ⟨by simp only [Q7,Qs];omega,?_⟩,fun h2=> ?_⟩,fun h1=> ⟨fun h2=> ⟨by simp only [Qs];omega,?_⟩,fun h2=> ?_⟩⟩
  .refine kk _ ?_
   rw [Jv,Jv];simp
  .refine kk _ ?_
   rw [Jv,V0];simp
  .refine kk _ ?_
   rw [V0,Jv];simp
  .refine kk _ ?_
   rw [V0,V0];simp
 .rw [Q6 V1] at g3
  have:(Zb (Zv list [] ⟨out,[],[]⟩)).out=out:=by simp [Zv,Zb,JZ]
  rw [this] at g3
  simp only [Zhe]
  rw [<-g3]
  exact V2
theorem Zpf{e:Edit}{d:Int}(h:Z1 e d=true):(e.kind=0\/e.kind=1\/e.kind=2\/e.kind=3)/\(e.kind≠3->e.list=0):=by
 obtain ⟨k,o,n,w,ks,l,os⟩:=e
 show (k=0\/k=1\/k=2\/k=3)/\(k≠3->l=0)
 rw [Z1] at h
 grind
theorem b29:ZKE:=by
 intro N e _ hp hN
 simp only [Z4f,Zcp] at hp hN
 obtain ⟨p1,d,p3⟩:=hp
 have h1:=Yq e
 have h2:=Ym e.kids
 have h3:=ZQ e.ops
 have ha:=Z4U e
 obtain ⟨a1,ah⟩:=Zpf p3
 refine ZL3 _ _ _ ?_
 (simp only [iB,vcS])
 (simp only [vE])
 refine ⟨fun hk=> ⟨by simp only [Z0W];omega,by simp only [Z0W];omega,?_⟩,fun hk=> ⟨fun h=> ⟨by simp;omega,?_⟩,fun h=> ⟨fun aa=> ⟨?_,by simp only [ZhY];omega,?_⟩,fun aa=> ?_⟩⟩⟩
 .rw [if_pos hk] at ha
  simp only [ZeS,ha]
  (repeat' (first | exact trivial | exact rfl | apply And.intro))
  .exact hk.symm
  .exact (ah V1).symm
 .rw [if_neg hk,if_pos h] at ha
  refine Z7 (ι:=Int × List Kid) (fun s=> ZcX e s.1 s.2) (fun s=> 0<=s.1/\s.1<=e.kids.length/\s.2.length=s.1/\s.2++YR (e.kids.drop s.1.toNat)=YR e.kids) (fun s=> ((e.kids.length:Int) - s.1).toNat) (0,[]) rfl ⟨by simp,by simp,by simp,by simp⟩ ?_
  rintro ⟨j,ks⟩ ⟨f1,f2,f3,f4⟩
  dsimp only at f1 f2 f3 f4
  refine ZBq _ _ _ _ _ _ ?_
  rintro y1 ao y2 ak y3 am
  (simp only [iB,vcS])
  refine ⟨fun hj=> ?_,fun hj=> ?_⟩
  .have af:=Zh (l:=e.kids) (i:=j.toNat) V1 (KidOf.mk 0 Edit.nil)
   have hm:=Ja af
   have hr:=Zka p3 h _ af
   rw [ZS f1 hj (KidOf.mk 0 Edit.nil)] at f4
   rw [<-ao] at f4 hm hr
   simp only [YR,Ze2] at f4
   rw [<-ak] at f4 hm hr
   rw [<-am] at f4
   refine ⟨⟨f1,hj⟩,⟨f1,hj⟩,by simp only [Z4f];exact ⟨V1,hr⟩,by simp only [Zcp];omega,by simp;omega,V5,(j+1,ks++[⟨y1.at_,y3⟩]),rfl,⟨V4,V4,by simp;omega,?_⟩,V4⟩
   simp only [Qc,Qj,Qo]
   exact f4
  .rw [Q6 V1] at f4
   simp only [YR,Qi] at f4
   rw [f4]
   simp only [ZeS,ha]
   (repeat' (first | exact trivial | exact rfl | apply And.intro))
   .exact h.symm
   .exact (ah V1).symm
 .simp only [ZaT]
  exact ⟨V1,fun o ho=> ZnF p3 aa o ho⟩
 .rw [if_neg hk,if_neg h,if_pos aa] at ha
  simp only [ZeS,ha]
  (repeat' (first | exact trivial | exact rfl | apply And.intro))
  exact aa.symm
 .rw [if_neg hk,if_neg h,if_neg aa] at ha
  simp only [ZeS,ha]
  (repeat' (first | exact trivial | exact rfl | apply And.intro))
  .show 0=e.kind
   omega
  .exact (ah aa).symm
theorem ZqJ:Contract Tryz.prog cfg 29 Z24/\Contract Tryz.prog cfg 79 Zrx:=Zvc c41 ZHu ZAj b29 b79
noncomputable section
def ZxF(a:Edit × Unit):V U:= .agg (enc .edit (Zp (Zt a.1)))
def Z6n:Fs U:=fs Zu2 (fun a=> [Z4f a]) ZxF
def ZzC:List (FuncId × Fs U):=[(67,Z24),(131,ZbG)]
def ZGC:Zj U:=lvl [([1,2],[1,2]),([2],[2])]
abbrev W85(e:Edit)(Q:QT):=AW (Z3 ZzC) Tryz.f85 ZGC [] (L2 [(0,.agg (enc .edit e))] []) Q
theorem ZKK(e:Edit)(Q:QT)(h:∀ s,s=e->∀ d,d=(Zt s)->(ZaR (s,()))/\(Z4f (d,()))/\(Q .ret (L2 [pL 2] [(.loc 2,(enc .edit (Zp d)))]))):
  W85 e Q:=
 Eq.mpr V6 (h _ (Z5 _) _ (Z5 _))
def ZI3(e:Edit):Prop:=AW (Z3 ZzC) Tryz.f85 ZGC [] (Zm (Zu2.can (e,())) []) (EQ Tryz.f85 (ZxF (e,())) [])
theorem ZGd(c67:CT 67 Z24)(c131:CT 131 ZbG)(hb:∀ (e:Edit) (_:Unit),Z4f (e,())->ZI3 e):CT 85 Z6n:=
 Z9 (l:=[(67,Z24),(131,ZbG)]) Zo rfl (⟨c67,c131,trivial⟩) ZGC Tryz.func85 rfl rfl 1 (fun _=> rfl) V3 (fun ⟨e,_⟩=> hb e ())
end
mutual
theorem Z6W:∀ (e:Edit),Z0 (Zt e)=Z0 e
 | .mk k o n w ks l os=> by
  have d:=Zff ks
  have h:=Zfe os
  simp only [Zt,Z0,Qt,Zaq,d,h]
  omega
theorem Zff:∀ (ks:List (KidOf Edit)),Zw (Yv ks)=Zw ks
 | []=> rfl
 | k ::r=> by
  have d:=ZlC k
  have h:=Zff r
  simp only [Yv,Zw,d,h]
theorem ZlC:∀ (k:KidOf Edit),Yo (Jr k)=Yo k
 | ⟨a,e⟩=> by
  have h:=Z6W e
  trivial
theorem Zfe:∀ (os:List (OpOf Edit)),Zg (YC os)=Zg os
 | []=> rfl
 | o ::r=> by
  have d:=ZnV o
  have h:=Zfe r
  simp only [YC,Zg,d,h]
theorem ZnV:∀ (o:OpOf Edit),Zs (Yu o)=Zs o
 | ⟨k,n,l,e⟩=> by
  have h:=Z6W e
  simp only [Yu]
  split
  .try rfl
  .split
   .try rfl
   .split
    .simp only [Zs,h]
    .try rfl
end
theorem c85:Contract Tryz.prog cfg 85 Z6n:=by
 refine ZGd Zmh.1 ZAh.1 ?_
 intro e _ hp
 simp only [Z4f] at hp
 obtain ⟨hm,d,hr⟩:=hp
 refine ZKK _ _ ?_
 rintro y1 s y2 h
 subst s
 have h1:=Z6W y1
 have h2:=J1 _ _ hr
 rw [<-h] at h1 h2
 refine ⟨by simp only [ZaR];omega,by simp only [Z4f];grind,?_⟩
 simp only [ZxF]
 rw [<-h]
 exact V2
noncomputable section
def ZtG:ArgL (WEdit × WEdit × Unit):=(.cons (aEl .wedit) (.cons (aEl .wedit) .nil))
def ZpA(a:WEdit × WEdit × Unit):Prop:=Z2a a.1/\Z2a a.2.1
def Zla(a:WEdit × WEdit × Unit):V U:= .tup [(true,(enc .wedit ((YY a.1 a.2.1).1))),(false,[.bool ((YY a.1 a.2.1).2)])]
def Zby:Fs U:=fs ZtG (fun a=> [ZpA a]) Zla
def ZtH:ArgL (WEdit × Unit):=(.cons (aEl .wedit) .nil)
def ZdM(a:WEdit × Unit):Prop:=True
def ZxS(a:WEdit × Unit):V U:= .c (ci a.1.at_)
def Zbz:Fs U:=fs ZtH (fun a=> [ZdM a]) ZxS
def ZtF:ArgL (Kid × Unit):=(.cons (aEl .kid) .nil)
def ZdL(a:Kid × Unit):Prop:=True
def ZxR(a:Kid × Unit):V U:= .c (ci a.1.at_)
def Z3e:Fs U:=fs ZtF (fun a=> [ZdL a]) ZxR
def ZtI:ArgL (List WEdit × List WEdit × Unit × Unit × Unit):=(.cons (aSl .wedit) (.cons (aSl .wedit) (.cons (aFn 204) (.cons (aFn 205) .nil))))
def ZpB(a:List WEdit × List WEdit × Unit × Unit × Unit):Prop:=((∀ x∈a.1,Z2a x)/\(a.1).length<=1000000)/\(∀ x∈a.2.1,Z2a x)/\(a.2.1).length<=1000000
def Zlb(a:List WEdit × List WEdit × Unit × Unit × Unit):V U:= .tup [(false,[sU .wedit (ofO (Zf WEdit.at_ YY a.1 a.2.1)) .unk]),(false,[.bool ((Zf WEdit.at_ YY a.1 a.2.1).isSome)])]
def ZbA:Fs U:=fs ZtI (fun a=> [ZpB a]) Zlb
def ZtX:ArgL (List WEdit × List WEdit × Unit):=(.cons (aSl .wedit) (.cons (aSl .wedit) .nil))
def ZpC(a:List WEdit × List WEdit × Unit):Prop:=((∀ x∈a.1,Z2a x)/\(a.1).length<=1000000)/\(∀ x∈a.2.1,Z2a x)/\(a.2.1).length<=1000000
def Zy0(a:List WEdit × List WEdit × Unit):V U:= .tup [(false,[sU .wedit (ofO (Zf WEdit.at_ YY a.1 a.2.1)) .unk]),(false,[.bool ((Zf WEdit.at_ YY a.1 a.2.1).isSome)])]
def Z3i:Fs U:=fs ZtX (fun a=> [ZpC a]) Zy0
def ZsW:List (FuncId × Fs U):=[(176,Z3k)]
def Zz1:Zj U:=lvl [([2,3,4],[2,3,4]),([2,3,4,6],[2,3,4]),([2,3,4,20],[2,3,4]),([4,5],[4]),([4,5],[4])]
abbrev ZLQ(p:List Nat):=AW (Z3 ZsW) Tryz.f205 Zz1 p
theorem ZJ5(p q:WEdit)(Q:QT)(h:let z1:=IntKind.bits .u8;let z0:=IntKind.wrap .u8 (BitVec.ofInt z1 p.mask &&& BitVec.ofInt z1 q.mask).toNat;((Z7Q (0,p.new,z0,()))/\(Z7Q (0,q.old,z0,()))/\(iB (((mix 0 p.new z0):Int) !=(mix 0 q.old z0)) ((Q .ret (L2 [pL 4,pB 5 false] [(.loc 4,[ci 0,.int .u8 0,.int .u64 0,.int .u64 0])]))) ((Z7Q (q.old,p.old,p.mask,()))/\(Z7Q (p.new,q.new,q.mask,()))/\(Q .ret (L2 [pL 4,pB 5 true] [(.loc 4,[ci p.at_,.int .u8 (IntKind.wrap .u8 (BitVec.ofInt z1 p.mask ||| BitVec.ofInt z1 q.mask).toNat),.int .u64 (mix q.old p.old p.mask),.int .u64 (mix p.new q.new q.mask)])])))))):
  ZLQ [] (L2 [(0,.agg (enc .wedit p)),(1,.agg (enc .wedit q))] []) Q:=
 Eq.mpr V6 h
def ZDX(p q:WEdit):Prop:=AW (Z3 ZsW) Tryz.f205 Zz1 [] (Zm (ZtG.can (p,q,())) []) (EQ Tryz.f205 (Zla (p,q,())) [])
theorem ZC1(ZvJ:CT 176 Z3k)(hb:∀ (p:WEdit) (q:WEdit) (_:Unit),ZpA (p,q,())->ZDX p q):CT 205 Zby:=
 Z9 (l:=[(176,Z3k)]) Zo rfl (⟨ZvJ,trivial⟩) Zz1 Tryz.func205 rfl rfl 2 (fun _=> rfl) V3 (fun ⟨p,q,_⟩=> hb p q ())
abbrev ZLR(p:List Nat):=AW (Z3 Zqg) Tryz.f204 ZGI p
theorem ZJ6(w:WEdit)(Q:QT)(h:(Q .ret (L2 [pI 2 w.at_] []))):
  ZLR [] (L2 [(0,.agg (enc .wedit w))] []) Q:=
 Eq.mpr V6 h
def ZDY(w:WEdit):Prop:=AW (Z3 Zqg) Tryz.f204 ZGI [] (Zm (ZtH.can (w,())) []) (EQ Tryz.f204 (ZxS (w,())) [])
theorem ZC2(hb:∀ (w:WEdit) (_:Unit),ZdM (w,())->ZDY w):CT 204 Zbz:=
 Z9 (l:=[]) Zo rfl trivial ZGI Tryz.func204 rfl rfl 1 (fun _=> rfl) V3 (fun ⟨w,_⟩=> hb w ())
abbrev ZLP(p:List Nat):=AW (Z3 Zqg) Tryz.f207 ZGI p
theorem ZJ3(k:Kid)(Q:QT)(h:(Q .ret (L2 [pI 2 k.at_] []))):
  ZLP [] (L2 [(0,.agg (enc .kid k))] []) Q:=
 Eq.mpr V6 h
def ZDV(k:Kid):Prop:=AW (Z3 Zqg) Tryz.f207 ZGI [] (Zm (ZtF.can (k,())) []) (EQ Tryz.f207 (ZxR (k,())) [])
theorem ZC0(hb:∀ (k:Kid) (_:Unit),ZdL (k,())->ZDV k):CT 207 Z3e:=
 Z9 (l:=[]) Zo rfl trivial ZGI Tryz.func207 rfl rfl 1 (fun _=> rfl) V3 (fun ⟨k,_⟩=> hb k ())
def ZlL:List (FuncId × Fs U):=[(204,Zbz),(205,Zby)]
def Zso:Zj U:=lvk [([0,1,2,3],[]),([0,1,2,3,(10,[.own .wedit])],[]),([0,1,2,3,10,20],[]),([0,1,2,3,10,11,12],[11]),([0,1,2,3,10,11,33],[11]),([8,9],[]),([0,1,2,3,(10,[.own .wedit])],[]),([0,1,2,3,10,42],[]),([0,1,2,3,(10,[.own .wedit])],[]),([0,1,2,3,10,72],[]),([0,1,2,3,(10,[.own .wedit])],[]),([8,9],[])]
def Z3R(p q:List WEdit)(at_ one:Unit)(x0 h d:List WEdit):LSt U:=(L2 [(0,.c (sU .wedit x0 .unk)),(1,.c (sU .wedit h .unk)),(2,.fn 204),(3,.fn 205),(10,.c (sU .wedit d (.own (.e 10 0))))] [])
abbrev ZIB(p:List Nat):=AW (Z3 ZlL) Tryz.f203 Zso p
abbrev ZKr(p:List Nat):=SW (Z3 ZlL) Tryz.f203 Zso p
theorem ZJ7(p q:List WEdit)(at_ one:Unit)(Q:QT)(h:(Zi (ZIB [1,1,0,0,0]) (Z3R p q at_ one p q []) (xB 0 (ZKr [1,1,1] Q)))):
  ZIB [] (L2 [(0,.c (sU .wedit p .unk)),(1,.c (sU .wedit q .unk)),(2,.fn 204),(3,.fn 205)] []) Q:=
 Eq.mpr V6 h
theorem Zwj(p q:List WEdit)(at_ one:Unit)(x0 x1 aa:List WEdit)(N0:NT)(Q:QT)(h:∀ af,af=(List.getD x0 (Int.toNat 0) (WEdit.mk 0 0 0 0))->∀ ah,ah=(List.getD x1 (Int.toNat 0) (WEdit.mk 0 0 0 0))->∀ d,d=af->∀ s,s=ah->∀ ae,ae=((YY d s).1)->let z3:=decide ((0:Int) < (x0.length:Int));let z2:=((x1.length:Int):Int)==0;let z1:=((x0.length:Int):Int)==0;let z0:=(!z2) && z3;(Tt (!z3))/\(Tt (!z3))/\(z3=false->(!z3)=true)/\(iB (bif z3 then true else (decide ((0:Int) < (x1.length:Int)))) ((Tt (!z2))/\(Tt (!z2))/\(Tt (!z2))/\(Tt z0)/\(z0=true->(0:Int)<=0/\0 < (x0.length:Int))/\(Tt z0)/\(Tt z0)/\(Tt z0)/\(z0=true->ZdM (d,()))/\(Tt z0)/\(z0=true->(0:Int)<=0/\0 < (x1.length:Int))/\(Tt z0)/\(Tt z0)/\(Tt z0)/\(z0=true->ZdM (s,()))/\(Tt z0)/\(Tt z0)/\((!z2)=true->(True->(!z2)=true))/\((!z2)=true->(z3=true->z0=true))/\(z2=false->(!z2)=true)/\(iB (bif z2 then true else (bif z3 then (decide (d.at_ < s.at_)) else false)) (((0:Int)<=0/\0 < (x0.length:Int))/\((aa.length+([d]).length)*32<=140737488355328)/\((0:Int)<=1/\1<=(x0.length:Int))/\(N0 (Z3R p q at_ one (List.drop (Int.toNat 1) x0) x1 (aa++([d]))))) ((Tt (!z1))/\((!z1)=true->(0:Int)<=0/\0 < (x1.length:Int))/\(Tt (!z1))/\(Tt (!z1))/\(Tt (!z1))/\((!z1)=true->ZdM (s,()))/\(Tt (!z1))/\((!z1)=true->(0:Int)<=0/\0 < (x0.length:Int))/\(Tt (!z1))/\(Tt (!z1))/\(Tt (!z1))/\((!z1)=true->ZdM (d,()))/\(Tt (!z1))/\(Tt (!z1))/\(z1=false->(!z1)=true)/\(iB (bif z1 then true else (decide (s.at_ < d.at_))) (((0:Int)<=0/\0 < (x1.length:Int))/\((aa.length+([s]).length)*32<=140737488355328)/\((0:Int)<=1/\1<=(x1.length:Int))/\(N0 (Z3R p q at_ one x0 (List.drop (Int.toNat 1) x1) (aa++([s]))))) (((0:Int)<=0/\0 < (x0.length:Int))/\((0:Int)<=0/\0 < (x1.length:Int))/\(ZpA (d,s,()))/\(iB (!((YY d s).2)) ((Q .ret (L2 [(8,.c (.nils)),pB 9 false] []))) (((aa.length+([ae]).length)*32<=140737488355328)/\((0:Int)<=1/\1<=(x0.length:Int))/\((0:Int)<=1/\1<=(x1.length:Int))/\(N0 (Z3R p q at_ one (List.drop (Int.toNat 1) x0) (List.drop (Int.toNat 1) x1) (aa++([ae]))))))))))) ((Q .ret (L2 [(8,.c (sU .wedit aa (.own (.e 8 0)))),pB 9 true] []))))):
  ZIB [1,1,0,0,0] (Z3R p q at_ one x0 x1 aa) (xT N0 (xB 0 (ZKr [1,1,1] Q))):=
 Eq.mpr V6 (h _ rfl _ rfl _ (Z2z _) _ (Z2z _) _ (Z2z _))
def ZDZ(p q:List WEdit)(at_ one:Unit):Prop:=AW (Z3 ZlL) Tryz.f203 Zso [] (Zm (ZtI.can (p,q,at_,one,())) []) (EQ Tryz.f203 (Zlb (p,q,at_,one,())) [])
theorem ZC3(ZH9:CT 204 Zbz)(ZH8:CT 205 Zby)(hb:∀ (p:List WEdit) (q:List WEdit) (at_:Unit) (one:Unit) (_:Unit),ZpB (p,q,at_,one,())->ZDZ p q at_ one):CT 203 ZbA:=
 Z9 (l:=[(204,Zbz),(205,Zby)]) Zo rfl (⟨ZH9,ZH8,trivial⟩) Zso Tryz.func203 rfl rfl 4 (fun _=> rfl) V3 (fun ⟨p,q,at_,one,_⟩=> hb p q at_ one ())
def Zt8:List (FuncId × Fs U):=[(203,ZbA)]
abbrev ZLZ(p:List Nat):=AW (Z3 Zt8) Tryz.f164 ZyY p
theorem ZJw(p q:List WEdit)(Q:QT)(h:((ZpB (p,q,(),(),()))/\(Q .ret (L2 [(4,.c (sU .wedit (ofO (Zf WEdit.at_ YY p q)) .unk)),pB 5 ((Zf WEdit.at_ YY p q).isSome)] [])))):
  ZLZ [] (L2 [(0,.c (sU .wedit p .unk)),(1,.c (sU .wedit q .unk))] []) Q:=
 Eq.mpr V6 h
def ZEo(p q:List WEdit):Prop:=AW (Z3 Zt8) Tryz.f164 ZyY [] (Zm (ZtX.can (p,q,())) []) (EQ Tryz.f164 (Zy0 (p,q,())) [])
theorem ZCl(ZHa:CT 203 ZbA)(hb:∀ (p:List WEdit) (q:List WEdit) (_:Unit),ZpC (p,q,())->ZEo p q):CT 164 Z3i:=
 Z9 (l:=[(203,ZbA)]) Zo rfl (⟨ZHa,trivial⟩) ZyY Tryz.func164 rfl rfl 2 (fun _=> rfl) V3 (fun ⟨p,q,_⟩=> hb p q ())
end
noncomputable section
def Z34(a:Edit × Edit × Unit):Prop:=YT a.1/\YT a.2.1
def Zag(a:Edit × Edit × Unit):Nat:=8*(Z0 a.1+Z0 a.2.1)
def Z4c(a:Edit × Edit × Unit):V U:= .tup [(true,(enc .edit ((YA a.1 a.2.1).1))),(false,[.bool ((YA a.1 a.2.1).2)])]
def Z8L:Fs U:=fs ZqV (fun a=> [Z34 a]) Z4c
def Z3C:ArgL (List Kid × List Kid × Unit):=(.cons (aSl .kid) (.cons (aSl .kid) .nil))
def Z5h(a:List Kid × List Kid × Unit):Prop:=ZfJ a.1/\ZfJ a.2.1
def Zco(a:List Kid × List Kid × Unit):Nat:=8*(Zw a.1+Zw a.2.1)+4
def Z6I(a:List Kid × List Kid × Unit):V U:= .tup [(false,[sU .kid (ofO (Zf KidOf.at_ (Z0g YA) a.1 a.2.1)) .unk]),(false,[.bool ((Zf KidOf.at_ (Z0g YA) a.1 a.2.1).isSome)])]
def Zrt:Fs U:=fs Z3C (fun a=> [Z5h a]) Z6I
def Z3A:ArgL (List Kid × List Kid × Unit × Unit × Unit):=(.cons (aSl .kid) (.cons (aSl .kid) (.cons (aFn 207) (.cons (aFn 208) .nil))))
def Z5e(a:List Kid × List Kid × Unit × Unit × Unit):Prop:=ZfJ a.1/\ZfJ a.2.1
def Zcm(a:List Kid × List Kid × Unit × Unit × Unit):Nat:=8*(Zw a.1+Zw a.2.1)+3
def Z4b(a:List Kid × List Kid × Unit × Unit × Unit):V U:= .tup [(false,[sU .kid (ofO (Zf KidOf.at_ (Z0g YA) a.1 a.2.1)) .unk]),(false,[.bool ((Zf KidOf.at_ (Z0g YA) a.1 a.2.1).isSome)])]
def Zrm:Fs U:=fs Z3A (fun a=> [Z5e a]) Z4b
def Z3z:ArgL (Kid × Kid × Unit):=(.cons (aEl .kid) (.cons (aEl .kid) .nil))
def Z5d(a:Kid × Kid × Unit):Prop:=ZzP a.1/\ZzP a.2.1
def Zcl(a:Kid × Kid × Unit):Nat:=8*(Yo a.1+Yo a.2.1)+1
def Z57(a:Kid × Kid × Unit):V U:= .tup [(true,(enc .kid ((Z0g YA a.1 a.2.1).1))),(false,[.bool ((Z0g YA a.1 a.2.1).2)])]
def Zrl:Fs U:=fs Z3z (fun a=> [Z5d a]) Z57
def Z5g(a:List Op × List Op × Unit):Prop:=ZuB a.1/\ZuB a.2.1
def Zcn(a:List Op × List Op × Unit):Nat:=8*(Zg a.1+Zg a.2.1)+40
def Z33(a:List Op × List Op × Unit):V U:= .tup [(false,[sU .op (ofO (Z09 YA a.1 a.2.1)) .unk]),(false,[.bool ((Z09 YA a.1 a.2.1).isSome)])]
def Zrs:Fs U:=fs ZtE (fun a=> [Z5g a]) Z33
def Z3y:ArgL (Piece × Unit):=(.cons (aEl .piece) .nil)
def Z5c(a:Piece × Unit):Prop:=PcOk a.1
def Zck(a:Piece × Unit):Nat:=8*(Zs a.1.p+Zs a.1.q)+1
def Z4a(a:Piece × Unit):V U:= .tup [(true,(enc .op ((Zx YA a.1).op))),(false,[.bool ((Zx YA a.1).is)]),(false,[.bool ((Zx YA a.1).ok)])]
def Zrk:Fs U:=fs Z3y (fun a=> [Z5c a]) Z4a
def Z3v(N:Nat):List (FuncId × Fs U):=(111,fs ZqV (fun a=> [Z34 a,Zag a < N]) Z4c) ::(165,fs Z3C (fun a=> [Z5h a,Zco a < N]) Z6I) ::(206,fs Z3A (fun a=> [Z5e a,Zcm a < N]) Z4b) ::(208,fs Z3z (fun a=> [Z5d a,Zcl a < N]) Z57) ::(166,fs ZtE (fun a=> [Z5g a,Zcn a < N]) Z33) ::(210,fs Z3y (fun a=> [Z5c a,Zck a < N]) Z4a) ::[(25,Z32),(85,Z6n),(114,Z0i),(164,Z3i),(207,Z3e),(209,Z3d)]
def Zzn:Zj U:=lvl [([2,3,4],[2,3,4]),([2,3,4,15],[2,3,4]),([4,5],[4]),([2,3,4,20],[2,3,4]),([4,5],[4]),([2,3,4,25],[2,3,4]),([2,4,6,7],[2,4,6]),([4,5],[4]),([2,3,4,41],[2,3,4]),([3,4,8,9],[3,4,8]),([4,5],[4]),([2,3,4,58],[2,3,4]),([4,5],[4]),([2,3,4,72],[2,3,4]),([2,3,4,10,11],[2,3,4]),([2,3,4,10,85],[2,3,4]),([4,5],[4]),([4,10,11,12],[4]),([4,5],[4]),([2,4,13,14],[2,4]),([4,5],[4])]
abbrev ZM6(N:Nat)(p:List Nat):=AW (Z3 (Z3v N)) Tryz.f111 Zzn p
theorem ZJR(N:Nat)(p q:Edit)(Q:QT)(h:∀ ae,ae=p->∀ ab,ab=q->∀ aa,aa=(p.new)->∀ s,s=(q.old)->∀ d,d=(Zp (Zt ae))->let z3:=Zf WEdit.at_ YY p.words q.words;let z2:=Zf KidOf.at_ (Z0g YA) p.kids q.kids;let z1:=(Q .ret (L2 [pL 4,pB 5 false] [(.loc 4,zc1)]));let z0:=p.kind !=q.kind;(iB (p.kind==0) ((Q .ret (L2 [pL 4,pB 5 true] [(.loc 4,(enc .edit q))]))) ((iB (q.kind==0) ((Q .ret (L2 [pL 4,pB 5 true] [(.loc 4,(enc .edit p))]))) ((iB (p.kind==1) ((Z5F (ab,aa,()))/\(Q .ret (L2 [pL 4,pB 5 ((doE false ab aa).isSome)] [(.loc 4,([ci 1]++enc .tree p.old++enc .tree (YP ((doE false ab aa).map Z6))++[.nils,.nils,ci 0,.nils]))]))) ((iB (q.kind==1) ((Z4f (ae,()))/\(Z5F (d,s,()))/\(Q .ret (L2 [pL 4,pB 5 ((doE false d s).isSome)] [(.loc 4,([ci 1]++enc .tree (YP ((doE false d s).map Z6))++enc .tree q.new++[.nils,.nils,ci 0,.nils]))]))) ((Tt (!z0))/\(Tt (!z0))/\(Tt (!z0))/\(Tt (!z0))/\(z0=false->(!z0)=true)/\(iB (bif z0 then true else (p.list !=q.list)) z1 ((iB (p.kind==2) ((ZpC (p.words,q.words,()))/\(iB (!(z3.isSome)) z1 ((Z5h (p.kids,q.kids,()))/\(Zco (p.kids,q.kids,()) < N)/\(Q .ret (L2 [pL 4,pB 5 (z2.isSome)] [(.loc 4,[ci 2,ci 0,.nils,.nils,ci 0,.nils,.nils,sU .wedit (ofO z3) .unk,sU .kid (ofO z2) .unk,ci 0,.nils])]))))) ((Z5g (p.ops,q.ops,()))/\(Zcn (p.ops,q.ops,()) < N)/\(Q .ret (L2 [pL 4,pB 5 ((Z09 YA p.ops q.ops).isSome)] [(.loc 4,[ci 3,ci 0,.nils,.nils,ci 0,.nils,.nils,.nils,.nils,ci p.list,sU .op (ofO (Z09 YA p.ops q.ops)) .unk])]))))))))))))))):
  ZM6 N [] (L2 [(0,.agg (enc .edit p)),(1,.agg (enc .edit q))] []) Q:=
 Eq.mpr V6 (h _ (Z5 _) _ (Z5 _) _ (Zc _) _ (Zc _) _ (Z5 _))
def ZEJ(N:Nat)(p q:Edit):Prop:=AW (Z3 (Z3v N)) Tryz.f111 Zzn [] (Zm (ZqV.can (p,q,())) []) (EQ Tryz.f111 (Z4c (p,q,())) [])
abbrev ZFI:Prop:=∀ (N:Nat) (p:Edit) (q:Edit) (_:Unit),Z34 (p,q,())->Zag (p,q,()) < N+1->ZEJ N p q
abbrev ZLY(N:Nat)(p:List Nat):=AW (Z3 (Z3v N)) Tryz.f165 ZyY p
theorem ZJv(N:Nat)(p q:List Kid)(Q:QT)(h:let z0:=Zf KidOf.at_ (Z0g YA) p q;((Z5e (p,q,(),(),()))/\(Zcm (p,q,(),(),()) < N)/\(Q .ret (L2 [(4,.c (sU .kid (ofO z0) .unk)),pB 5 (z0.isSome)] [])))):
  ZLY N [] (L2 [(0,.c (sU .kid p .unk)),(1,.c (sU .kid q .unk))] []) Q:=
 Eq.mpr V6 h
def ZEn(N:Nat)(p q:List Kid):Prop:=AW (Z3 (Z3v N)) Tryz.f165 ZyY [] (Zm (Z3C.can (p,q,())) []) (EQ Tryz.f165 (Z6I (p,q,())) [])
abbrev ZFB:Prop:=∀ (N:Nat) (p:List Kid) (q:List Kid) (_:Unit),Z5h (p,q,())->Zco (p,q,()) < N+1->ZEn N p q
def Zsn:Zj U:=lvk [([0,1,2,3],[]),([0,1,2,3,(10,[.own .kid])],[]),([0,1,2,3,10,20],[]),([0,1,2,3,10,11,12],[11]),([0,1,2,3,10,11,33],[11]),([8,9],[]),([0,1,2,3,(10,[.own .kid])],[]),([0,1,2,3,10,42],[]),([0,1,2,3,(10,[.own .kid])],[]),([0,1,2,3,10,72],[]),([0,1,2,3,(10,[.own .kid])],[]),([8,9],[])]
def Z3Q(p q:List Kid)(at_ one:Unit)(x0 h d:List Kid):LSt U:=(L2 [(0,.c (sU .kid x0 .unk)),(1,.c (sU .kid h .unk)),(2,.fn 207),(3,.fn 208),(10,.c (sU .kid d (.own (.e 10 0))))] [])
abbrev ZIA(N:Nat)(p:List Nat):=AW (Z3 (Z3v N)) Tryz.f206 Zsn p
abbrev ZKq(N:Nat)(p:List Nat):=SW (Z3 (Z3v N)) Tryz.f206 Zsn p
theorem ZJ4(N:Nat)(p q:List Kid)(at_ one:Unit)(Q:QT)(h:(Zi (ZIA N [1,1,0,0,0]) (Z3Q p q at_ one p q []) (xB 0 (ZKq N [1,1,1] Q)))):
  ZIA N [] (L2 [(0,.c (sU .kid p .unk)),(1,.c (sU .kid q .unk)),(2,.fn 207),(3,.fn 208)] []) Q:=
 Eq.mpr V6 h
theorem Zwi(N:Nat)(p q:List Kid)(at_ one:Unit)(x0 x1 aa:List Kid)(N0:NT)(Q:QT)(h:∀ af,af=(List.getD x0 (Int.toNat 0) (KidOf.mk 0 Edit.nil))->∀ ah,ah=(List.getD x1 (Int.toNat 0) (KidOf.mk 0 Edit.nil))->∀ d,d=af->∀ s,s=ah->∀ ae,ae=((Z0g YA d s).1)->let z3:=decide ((0:Int) < (x0.length:Int));let z2:=((x1.length:Int):Int)==0;let z1:=((x0.length:Int):Int)==0;let z0:=(!z2) && z3;(Tt (!z3))/\(Tt (!z3))/\(z3=false->(!z3)=true)/\(iB (bif z3 then true else (decide ((0:Int) < (x1.length:Int)))) ((Tt (!z2))/\(Tt (!z2))/\(Tt (!z2))/\(Tt z0)/\(z0=true->(0:Int)<=0/\0 < (x0.length:Int))/\(Tt z0)/\(Tt z0)/\(Tt z0)/\(z0=true->ZdL (d,()))/\(Tt z0)/\(z0=true->(0:Int)<=0/\0 < (x1.length:Int))/\(Tt z0)/\(Tt z0)/\(Tt z0)/\(z0=true->ZdL (s,()))/\(Tt z0)/\(Tt z0)/\((!z2)=true->(True->(!z2)=true))/\((!z2)=true->(z3=true->z0=true))/\(z2=false->(!z2)=true)/\(iB (bif z2 then true else (bif z3 then (decide (d.at_ < s.at_)) else false)) (((0:Int)<=0/\0 < (x0.length:Int))/\((aa.length+([d]).length)*208<=140737488355328)/\((0:Int)<=1/\1<=(x0.length:Int))/\(N0 (Z3Q p q at_ one (List.drop (Int.toNat 1) x0) x1 (aa++([d]))))) ((Tt (!z1))/\((!z1)=true->(0:Int)<=0/\0 < (x1.length:Int))/\(Tt (!z1))/\(Tt (!z1))/\(Tt (!z1))/\((!z1)=true->ZdL (s,()))/\(Tt (!z1))/\((!z1)=true->(0:Int)<=0/\0 < (x0.length:Int))/\(Tt (!z1))/\(Tt (!z1))/\(Tt (!z1))/\((!z1)=true->ZdL (d,()))/\(Tt (!z1))/\(Tt (!z1))/\(z1=false->(!z1)=true)/\(iB (bif z1 then true else (decide (s.at_ < d.at_))) (((0:Int)<=0/\0 < (x1.length:Int))/\((aa.length+([s]).length)*208<=140737488355328)/\((0:Int)<=1/\1<=(x1.length:Int))/\(N0 (Z3Q p q at_ one x0 (List.drop (Int.toNat 1) x1) (aa++([s]))))) (((0:Int)<=0/\0 < (x0.length:Int))/\((0:Int)<=0/\0 < (x1.length:Int))/\(Z5d (d,s,()))/\(Zcl (d,s,()) < N)/\(iB (!((Z0g YA d s).2)) ((Q .ret (L2 [(8,.c (.nils)),pB 9 false] []))) (((aa.length+([ae]).length)*208<=140737488355328)/\((0:Int)<=1/\1<=(x0.length:Int))/\((0:Int)<=1/\1<=(x1.length:Int))/\(N0 (Z3Q p q at_ one (List.drop (Int.toNat 1) x0) (List.drop (Int.toNat 1) x1) (aa++([ae]))))))))))) ((Q .ret (L2 [(8,.c (sU .kid aa (.own (.e 8 0)))),pB 9 true] []))))):
  ZIA N [1,1,0,0,0] (Z3Q p q at_ one x0 x1 aa) (xT N0 (xB 0 (ZKq N [1,1,1] Q))):=
 Eq.mpr V6 (h _ rfl _ rfl _ (Zhk _) _ (Zhk _) _ (Zhk _))
def ZDW(N:Nat)(p q:List Kid)(at_ one:Unit):Prop:=AW (Z3 (Z3v N)) Tryz.f206 Zsn [] (Zm (Z3A.can (p,q,at_,one,())) []) (EQ Tryz.f206 (Z4b (p,q,at_,one,())) [])
abbrev ZFu:Prop:=∀ (N:Nat) (p:List Kid) (q:List Kid) (at_:Unit) (one:Unit) (_:Unit),Z5e (p,q,at_,one,())->Zcm (p,q,at_,one,()) < N+1->ZDW N p q at_ one
def ZyZ:Zj U:=lvl [([2,3,4],[2,3,4]),([2,4,6,7],[2,4,6]),([4,5],[4])]
abbrev ZLO(N:Nat)(p:List Nat):=AW (Z3 (Z3v N)) Tryz.f208 ZyZ p
theorem ZJ2(N:Nat)(a b:Kid)(Q:QT)(h:∀ s,s=(a.e)->∀ d,d=(b.e)->((Z34 (s,d,()))/\(Zag (s,d,()) < N)/\(Q .ret (L2 [pL 4,pB 5 ((YA s d).2)] [(.loc 4,([ci a.at_]++enc .edit ((YA s d).1)))])))):
  ZLO N [] (L2 [(0,.agg (enc .kid a)),(1,.agg (enc .kid b))] []) Q:=
 Eq.mpr V6 (h _ (Z5 _) _ (Z5 _))
def ZDU(N:Nat)(a b:Kid):Prop:=AW (Z3 (Z3v N)) Tryz.f208 ZyZ [] (Zm (Z3z.can (a,b,())) []) (EQ Tryz.f208 (Z57 (a,b,())) [])
abbrev ZFt:Prop:=∀ (N:Nat) (a:Kid) (b:Kid) (_:Unit),Z5d (a,b,())->Zcl (a,b,()) < N+1->ZDU N a b
def Zsy:Zj U:=lvk [([0,1],[]),([6,7],[]),([6,21],[]),([4,5],[]),([6,8],[]),([(8,[.own .op]),22,23,24],[]),([8,22,23,24,25],[]),([8,10,22,23,24],[10]),([8,11,12,13,22,23,24],[11]),([8,11,12,22,23,24,35],[11]),([4,5],[]),([8,11,22,23,24,36],[11]),([8,22,23,24],[]),([(8,[.own .op]),22,23,24],[]),([4,5],[])]
def Z61(p q:List Op)(d:Int)(h:List Op):LSt U:=(L2 [(8,.c (sU .op h (.own (.e 8 0)))),(22,.c (sU .piece ((Y7 1 2 p q []).1) .unk)),pI 23 (((Y7 1 2 p q []).1).length:Int),pI 24 d] [])
abbrev ZIH(N:Nat)(p:List Nat):=AW (Z3 (Z3v N)) Tryz.f166 Zsy p
abbrev ZKw(N:Nat)(p:List Nat):=SW (Z3 (Z3v N)) Tryz.f166 Zsy p
theorem ZJu(N:Nat)(p q:List Op)(Q:QT)(h:((Zpz (p,q,()))/\(iB (!((Y7 1 2 p q []).2.1)) ((Q .ret (L2 [(4,.c (.nils)),pB 5 false] []))) ((Zi (ZIH N [1,1,1,1,0,1,0,0]) (Z61 p q 0 []) (xB 0 (ZKw N [1,1,1,1,1] Q))))))):
  ZIH N [] (L2 [(0,.c (sU .op p .unk)),(1,.c (sU .op q .unk))] []) Q:=
 Eq.mpr V6 h
theorem ZwK(N:Nat)(p q:List Op)(d:Int)(x8:List Op)(N0:NT)(Q:QT)(h:∀ ab,ab=(List.getD ((Y7 1 2 p q []).1) d.toNat (Piece.mk 0 Op.nil Op.nil))->∀ s,s=ab->∀ aa,aa=((Zx YA s).op)->(iB (decide (d < (((Y7 1 2 p q []).1).length:Int))) (((0:Int)<=d/\d < (((Y7 1 2 p q []).1).length:Int))/\((Z5c (s,()))/\(Zck (s,()) < N)/\(iB (!((Zx YA s).ok)) ((Q .ret (L2 [(4,.c (.nils)),pB 5 false] []))) ((iB ((Zx YA s).is) (((x8.length+([aa]).length)*240<=140737488355328)/\((InR (d+1))/\(N0 (Z61 p q (d+1) (x8++([aa])))))) ((InR (d+1))/\(N0 (Z61 p q (d+1) x8)))))))) ((Q .ret (L2 [(4,.c (sU .op x8 (.own (.e 4 0)))),pB 5 true] []))))):
  ZIH N [1,1,1,1,0,1,0,0] (Z61 p q d x8) (xT N0 (xB 0 (ZKw N [1,1,1,1,1] Q))):=
 Eq.mpr V6 (h _ rfl _ (Zpw _) _ (Jt _))
def ZEm(N:Nat)(p q:List Op):Prop:=AW (Z3 (Z3v N)) Tryz.f166 Zsy [] (Zm (ZtE.can (p,q,())) []) (EQ Tryz.f166 (Z33 (p,q,())) [])
abbrev ZFA:Prop:=∀ (N:Nat) (p:List Op) (q:List Op) (_:Unit),Z5g (p,q,())->Zcn (p,q,()) < N+1->ZEm N p q
def Zsm:Zj U:=lvl [([1,2],[1,2]),([1,2,13],[1,2]),([2,3,4],[2]),([1,2,30],[1,2]),([2,3,4],[2]),([1,2,42],[1,2]),([1,2,55,56,57],[1,2]),([1,2,55,56,57,58],[1,2]),([1,2,5,6,55,56,57],[1,2,6]),([1,2,55,56,57,70],[1,2]),([2,3,4],[2]),([1,2,55,56,57],[1,2]),([2,3,4],[2]),([1,2,74],[1,2]),([2,7,8],[2,7]),([2,3,4],[2]),([1,2,95],[1,2]),([2,9,10],[2,9]),([2,3,4],[2]),([2,11,12],[2,11]),([2,3,4],[2])]
def Z9i(x:Piece)(d:Int):LSt U:=(L2 [pL 1,pL 2,(55,.c (sU .tree x.p.l .unk)),pI 56 (x.p.l.length:Int),pI 57 d] [(.loc 1,(enc .piece x)),(.loc 2,zc2)])
abbrev ZIz(N:Nat)(p:List Nat):=AW (Z3 (Z3v N)) Tryz.f210 Zsm p
abbrev ZDD(N:Nat)(p:List Nat):=SW (Z3 (Z3v N)) Tryz.f210 Zsm p
theorem ZJ0(N:Nat)(x:Piece)(Q:QT)(h:∀ s,s=(x.p.e)->∀ d,d=(x.q.e)->∀ ai,ai=(List.getD x.p.l (Int.toNat 0) Tree.nil)->∀ ah,ah=(List.getD x.q.l (Int.toNat 0) Tree.nil)->∀ ab,ab=ai->∀ aa,aa=ah->∀ ae,ae=(Zp (Zt s))->∀ af,af=(YP ((doE false d ab).map Z6))->∀ aj,aj=(YP ((doE false ae aa).map Z6))->let z0:=(!(x.of==1)) && (x.of==0);((Tt (!(x.of==1)))/\(Tt (!(x.of==1)))/\(Tt (!(x.of==1)))/\(Tt z0)/\(Tt z0)/\(Tt z0)/\((!(x.of==1))=true->(True->(!(x.of==1))=true))/\((!(x.of==1))=true->((x.of==0)=true->z0=true))/\((x.of==1)=false->(!(x.of==1))=true)/\(iB (bif (x.of==1) then true else (bif (x.of==0) then (x.q.kind==0) else false)) ((Q .ret (L2 [pL 2,pB 3 true,pB 4 true] [(.loc 2,(enc .op x.p))]))) ((Tt (!(x.of==2)))/\(Tt (!(x.of==2)))/\(Tt (!(x.of==2)))/\((x.of==2)=false->(!(x.of==2))=true)/\(iB (bif (x.of==2) then true else (x.p.kind==0)) ((Q .ret (L2 [pL 2,pB 3 true,pB 4 true] [(.loc 2,(enc .op x.q))]))) ((Tt (x.p.kind==2))/\(Tt (x.p.kind==2))/\(Tt (x.p.kind==2))/\(Tt (x.p.kind==2))/\(iB (bif (x.p.kind==2) then (x.q.kind==1) else false) ((Zi (ZIz N [1,0,0,1,1,1,1,1,0,0,1,0,0]) (Z9i x 0) (xB 1 (ZDD N [1,0,0,1,1,1,1,1,0,1] (xB 0 (ZDD N [1,1] Q)))))) ((iB (x.p.kind==2) (((0:Int)<=0/\0 < (x.p.l.length:Int))/\(Z5F (d,ab,()))/\(Q .ret (L2 [pL 2,pB 3 true,pB 4 ((doE false d ab).isSome)] [(.loc 2,[ci 2,ci 0,sU .tree ([af]) .full,ci 0,ci 0,.nils,.nils,ci 0,.nils,.nils,.nils,.nils,ci 0,.nils])]))) ((iB (x.q.kind==1) ((Z4f (s,()))/\((0:Int)<=0/\0 < (x.q.l.length:Int))/\(Z5F (ae,aa,()))/\(Q .ret (L2 [pL 2,pB 3 true,pB 4 ((doE false ae aa).isSome)] [(.loc 2,[ci 1,ci 0,sU .tree ([aj]) .full,ci 0,ci 0,.nils,.nils,ci 0,.nils,.nils,.nils,.nils,ci 0,.nils])]))) ((Z34 (s,d,()))/\(Zag (s,d,()) < N)/\(Q .ret (L2 [pL 2,pB 3 true,pB 4 ((YA s d).2)] [(.loc 2,([ci 3,ci 0,.nils]++enc .edit ((YA s d).1)))])))))))))))))):
  ZIz N [] (L2 [(0,.agg (enc .piece x))] []) Q:=
 Eq.mpr V6 (h _ (Z5 _) _ (Z5 _) _ rfl _ rfl _ (Zc _) _ (Zc _) _ (Z5 _) _ (Zc _) _ (Zc _))
theorem Zwh(N:Nat)(x:Piece)(d:Int)(N0:NT)(Q:QT)(h:∀ ab,ab=(x.p.l.getD d.toNat Tree.nil)->∀ ae,ae=(x.q.l.getD d.toNat Tree.nil)->∀ s,s=ab->∀ aa,aa=ae->(iB (decide (d < (x.p.l.length:Int))) (((0:Int)<=d/\d < (x.p.l.length:Int))/\(((0:Int)<=d/\d < (x.q.l.length:Int))/\(Z4j (s,aa,()))/\(iB (!(YM (Z6 s) (Z6 aa))) ((Q .ret (L2 [pL 2,pB 3 false,pB 4 false] [(.loc 2,zc2)]))) ((InR (d+1))/\(N0 (Z9i x (d+1))))))) ((Q .ret (L2 [pL 2,pB 3 false,pB 4 true] [(.loc 2,zc2)]))))):
  ZIz N [1,0,0,1,1,1,1,1,0,0,1,0,0] (Z9i x d) (xT N0 (xB 1 (ZDD N [1,0,0,1,1,1,1,1,0,1] (xB 0 (ZDD N [1,1] Q))))):=
 Eq.mpr V6 (h _ rfl _ rfl _ (Zc _) _ (Zc _))
def ZDS(N:Nat)(x:Piece):Prop:=AW (Z3 (Z3v N)) Tryz.f210 Zsm [] (Zm (Z3y.can (x,())) []) (EQ Tryz.f210 (Z4a (x,())) [])
abbrev ZFs:Prop:=∀ (N:Nat) (x:Piece) (_:Unit),Z5c (x,())->Zck (x,()) < N+1->ZDS N x
theorem ZyP(c25:CT 25 Z32)(c85:CT 85 Z6n)(Zmi:CT 114 Z0i)(ZHl:CT 164 Z3i)(ZH7:CT 207 Z3e)(ZH6:CT 209 Z3d)(ZHP:ZFI)(ZHK:ZFB)(ZHE:ZFu)(ZHD:ZFt)(ZHJ:ZFA)(ZHC:ZFs):
  CT 111 Z8L/\CT 165 Zrt/\CT 206 Zrm/\CT 208 Zrl/\CT 166 Zrs/\CT 210 Zrk:=by
 have af:FK 111:=⟨Tryz.f111,Tryz.func111,rfl,rfl⟩
 have ai:FK 165:=⟨Tryz.f165,Tryz.func165,rfl,rfl⟩
 have ab:FK 206:=⟨Tryz.f206,Tryz.func206,rfl,rfl⟩
 have s:FK 208:=⟨Tryz.f208,Tryz.func208,rfl,rfl⟩
 have ah:FK 166:=⟨Tryz.f166,Tryz.func166,rfl,rfl⟩
 have aa:FK 210:=⟨Tryz.f210,Tryz.func210,rfl,rfl⟩
 have d:∀ N,CT 111 (fs ZqV (fun a=> [Z34 a,Zag a < N]) Z4c)/\CT 165 (fs Z3C (fun a=> [Z5h a,Zco a < N]) Z6I)/\CT 206 (fs Z3A (fun a=> [Z5e a,Zcm a < N]) Z4b)/\CT 208 (fs Z3z (fun a=> [Z5d a,Zcl a < N]) Z57)/\CT 166 (fs ZtE (fun a=> [Z5g a,Zcn a < N]) Z33)/\CT 210 (fs Z3y (fun a=> [Z5c a,Zck a < N]) Z4a):=by
  intro N
  induction N with
  | zero=> exact ⟨JU af,JU ai,JU ab,JU s,JU ah,JU aa⟩
  | succ N ih=>
   have kn:=Z19 (l:=Z3v N) ⟨ih.1,ih.2.1,ih.2.2.1,ih.2.2.2.1,ih.2.2.2.2.1,ih.2.2.2.2.2,c25,c85,Zmi,ZHl,ZH7,ZH6,trivial⟩
   exact ⟨ZJ (Γ:=Z3 (Z3v N)) Zo rfl kn Zzn Tryz.func111 rfl rfl (fun a=> by show 2<=_;decide) (fun ⟨p,q,_⟩ h=> ZHP N p q () h.1 h.2.1),
    ZJ (Γ:=Z3 (Z3v N)) Zo rfl kn ZyY Tryz.func165 rfl rfl (fun a=> by show 2<=_;decide) (fun ⟨p,q,_⟩ h=> ZHK N p q () h.1 h.2.1),
    ZJ (Γ:=Z3 (Z3v N)) Zo rfl kn Zsn Tryz.func206 rfl rfl (fun a=> by show 4<=_;decide) (fun ⟨p,q,at_,one,_⟩ h=> ZHE N p q at_ one () h.1 h.2.1),
    ZJ (Γ:=Z3 (Z3v N)) Zo rfl kn ZyZ Tryz.func208 rfl rfl (fun a=> by show 2<=_;decide) (fun ⟨a,b,_⟩ h=> ZHD N a b () h.1 h.2.1),
    ZJ (Γ:=Z3 (Z3v N)) Zo rfl kn Zsy Tryz.func166 rfl rfl (fun a=> by show 2<=_;decide) (fun ⟨p,q,_⟩ h=> ZHJ N p q () h.1 h.2.1),
    ZJ (Γ:=Z3 (Z3v N)) Zo rfl kn Zsm Tryz.func210 rfl rfl (fun a=> by show 1<=_;decide) (fun ⟨x,_⟩ h=> ZHC N x () h.1 h.2.1)⟩
 exact ⟨JV af fun N=> (d N).1,JV ai fun N=> (d N).2.1,JV ab fun N=> (d N).2.2.1,JV s fun N=> (d N).2.2.2.1,JV ah fun N=> (d N).2.2.2.2.1,JV aa fun N=> (d N).2.2.2.2.2⟩
end
theorem Yz{n:Nat}{rs:List ResultVar}{r r':V U}{X:List (List (C U))}{e:AExit}{s:LSt U}(hr:r=r')(h:YZ cfg n rs r' X e s):YZ cfg n rs r X e s:=by grind
theorem ZH8:Contract Tryz.prog cfg 205 Zby:=by
 refine ZC1 ZvJ ?_
 intro p q _ hp
 obtain ⟨rp,d⟩:=hp
 dsimp only at rp d
 have A:=(Zmw rp.2.1 d.2.1).1
 refine ZJ5 _ _ _ ?_
 (simp only [iB,vcT,vcS])
 have z0:(0:Int)<=0/\(0:Int) < 18446744073709551616:=V3
 refine ⟨⟨z0,rp.2.2.2,A⟩,⟨z0,d.2.2.1,A⟩,fun h=> ?_,fun h=> ⟨⟨d.2.2.1,rp.2.2.1,rp.2.1⟩,⟨rp.2.2.2,d.2.2.2,d.2.1⟩,?_⟩⟩
 .have s:Z5o p q=false:=decide_eq_false h
  refine Yz (r':= .tup [(true,enc .wedit (⟨0,0,0,0⟩:WEdit)),(false,[.bool false])]) ?_ V2
  simp only [Zla,YY]
  rw [s]
  try rfl
 .have s:Z5o p q=true:=decide_eq_true h
  refine Yz (r':= .tup [(true,enc .wedit (⟨p.at_,orM p.mask q.mask,mix q.old p.old p.mask,mix p.new q.new q.mask⟩:WEdit)),(false,[.bool true])]) ?_ V2
  simp only [Zla,YY]
  rw [s]
  try rfl
theorem ZH9:Contract Tryz.prog cfg 204 Zbz:=by
 refine ZC2 ?_
 intro w _ _
 exact ZJ6 _ _ (YW rfl rfl)
theorem ZH7:Contract Tryz.prog cfg 207 Z3e:=by
 refine ZC0 ?_
 intro w _ _
 exact ZJ3 _ _ (YW rfl rfl)
theorem ZhZ{α:Type}{at_:α->Int}{one:α->α->α × Bool}{p q:List α}(h:Zf at_ one p q=none):(Zf at_ one p q).isSome=false/\ofO (Zf at_ one p q)=[]:=by rw [h];trivial
structure MInv {α:Type} (at_:α->Int) (one:α->α->α × Bool) (p q x0 x1 out:List α):Prop where
 eq:Zf at_ one p q=(Zf at_ one x0 x1).map (out++·)
 len:out.length+x0.length+x1.length<=p.length+q.length
theorem MInv.left{α:Type}{at_:α->Int}{one:α->α->α × Bool}{p q d out:List α}{a:α}{x0:List α}(h:MInv at_ one p q (a ::x0) d out)(hb:∀ b∈d.head?,at_ a < at_ b):MInv at_ one p q x0 d (out++[a]):=by
 refine ⟨?_,by have:=h.len;grind⟩
 rw [h.eq]
 cases d with
 | nil=>
  rw [Zf]
  have:Zf at_ one x0 []=some x0:=by cases x0 <;> rw [Zf]
  grind
 | cons b r=>
  rw [Zf,if_pos (hb b (by simp))]
  cases Zf at_ one x0 (b ::r) <;> simp
theorem MInv.right{α:Type}{at_:α->Int}{one:α->α->α × Bool}{p q x0 out:List α}{b:α}{d:List α}(h:MInv at_ one p q x0 (b ::d) out)(hb:∀ a∈x0.head?,at_ b < at_ a):MInv at_ one p q x0 d (out++[b]):=by
 refine ⟨?_,by have:=h.len;grind⟩
 rw [h.eq]
 cases x0 with
 | nil=> rw [Zf,Zf];simp
 | cons a r=>
  have:=hb a (by simp)
  rw [Zf,Jv,if_pos this]
  cases Zf at_ one (a ::r) d <;> simp
theorem MInv.both{α:Type}{at_:α->Int}{one:α->α->α × Bool}{p q x0 d out:List α}{a b:α}(h:MInv at_ one p q (a ::x0) (b ::d) out)(e:at_ a=at_ b):
  ((one a b).2=true->MInv at_ one p q x0 d (out++[(one a b).1]))/\((one a b).2=false->Zf at_ one p q=none):=by
 refine ⟨fun hc=> ⟨?_,by have:=h.len;grind⟩,fun hc=> ?_⟩
 .rw [h.eq,Zf,Jv,Jv,if_pos hc]
  cases Zf at_ one x0 d <;> simp
 .rw [h.eq,Zf,Jv,Jv,if_neg (by grind)]
  try rfl
theorem MInv.done{α:Type}{at_:α->Int}{one:α->α->α × Bool}{p q out:List α}(h:MInv at_ one p q [] [] out):Zf at_ one p q=some out:=by
 rw [h.eq,Zf];simp
theorem MInv.left'{α:Type}{at_:α->Int}{one:α->α->α × Bool}{p q x0 d out:List α}(z:α)(h:MInv at_ one p q x0 d out)(hx:0 < x0.length)(hb:d.length=0\/at_ (x0.getD 0 z) < at_ (d.getD 0 z)):
  MInv at_ one p q (x0.drop 1) d (out++[x0.getD 0 z]):=by
 cases x0 with
 | nil=> simp at hx
 | cons a r=>
  refine h.left fun b aa=> ?_
  cases d with
  | nil=> simp at aa
  | cons c s=>
   grind
theorem MInv.right'{α:Type}{at_:α->Int}{one:α->α->α × Bool}{p q x0 d out:List α}(z:α)(h:MInv at_ one p q x0 d out)(hx:0 < d.length)(hb:x0.length=0\/at_ (d.getD 0 z) < at_ (x0.getD 0 z)):
  MInv at_ one p q x0 (d.drop 1) (out++[d.getD 0 z]):=by
 cases d with
 | nil=> simp at hx
 | cons a r=>
  refine h.right fun b aa=> ?_
  cases x0 with
  | nil=> simp at aa
  | cons c s=>
   grind
theorem MInv.both'{α:Type}{at_:α->Int}{one:α->α->α × Bool}{p q x0 d out:List α}(z:α)(h:MInv at_ one p q x0 d out)(h0:0 < x0.length)(h1:0 < d.length)(e:at_ (x0.getD 0 z)=at_ (d.getD 0 z)):
  ((one (x0.getD 0 z) (d.getD 0 z)).2=true->MInv at_ one p q (x0.drop 1) (d.drop 1) (out++[(one (x0.getD 0 z) (d.getD 0 z)).1]))/\((one (x0.getD 0 z) (d.getD 0 z)).2=false->Zf at_ one p q=none):=by
 cases x0 with
 | nil=> simp at h0
 | cons a r=>
  cases d with
  | nil=> simp at h1
  | cons b s=> exact h.both e
theorem ZHa:Contract Tryz.prog cfg 203 ZbA:=by
 refine ZC3 ZH9 ZH8 ?_
 rintro p q ⟨⟩ ⟨⟩ _ hp
 obtain ⟨⟨rp,lp⟩,rq,lq⟩:=hp
 dsimp only at rp lp rq lq
 refine ZJ7 p q () () _ ?_
 refine Z7 (ι:=List WEdit × List WEdit × List WEdit) (fun x=> Z3R p q () () x.1 x.2.1 x.2.2) (fun x=> MInv WEdit.at_ YY p q x.1 x.2.1 x.2.2/\(∀ w∈x.1,Z2a w)/\∀ w∈x.2.1,Z2a w) (fun x=> x.1.length+x.2.1.length) (p,q,[]) rfl
  ⟨⟨by simp_all,by simp⟩,rp,rq⟩ ?_
 rintro ⟨x0,s,d⟩ ⟨inv,r0,r1⟩
 dsimp only at inv r0 r1
 have aj:=inv.len
 refine Zwj p q () () _ _ _ _ _ ?_
 intro y1 h1 y2 h2 y3 h3 y4 h4 y5 h5
 subst h3 h4
 (simp only [iB,vcT,vcS])
 have h3:y3=x0.getD 0 ⟨0,0,0,0⟩:=h1
 have h4:y4=s.getD 0 ⟨0,0,0,0⟩:=h2
 have d0:∀ w∈x0.drop 1,Z2a w:=fun w hw=> r0 w (QQ hw)
 have d1:∀ w∈s.drop 1,Z2a w:=fun w hw=> r1 w (QQ hw)
 refine ⟨fun aq=> ⟨fun h=> ⟨V1,V1⟩,fun _=> trivial,fun h=> ⟨V1,V1⟩,fun _=> trivial,fun g1 g2=> ⟨g1,g2⟩,fun hA=> ?_,fun hB=> ?_⟩,fun hE=> ?_⟩
 .refine ⟨⟨V1,V1⟩,by grind,⟨V1,V1⟩,(x0.drop 1,s,d++[y3]),rfl,⟨?_,d0,r1⟩,by grind⟩
  rw [h3]
  exact inv.left' _ V1 (by grind)
 .refine ⟨fun h=> ⟨V1,V1⟩,fun _=> trivial,fun h=> ⟨V1,V1⟩,fun _=> trivial,fun hC=> ?_,fun hD=> ?_⟩
  .refine ⟨⟨V1,V1⟩,by grind,⟨V1,V1⟩,(x0,s.drop 1,d++[y4]),rfl,⟨?_,r0,d1⟩,by grind⟩
   rw [h4]
   exact inv.right' _ V1 (by grind)
  .have hb:=inv.both' ⟨0,0,0,0⟩ V1 V1 (by grind)
   rw [<-h3,<-h4] at hb
   have m3:Z2a y3:=by rw [h3];exact r0 _ (Zh V1 _)
   have m4:Z2a y4:=by rw [h4];exact r1 _ (Zh V1 _)
   refine ⟨⟨V1,V1⟩,⟨V1,V1⟩,⟨m3,m4⟩,fun hc=> ?_,fun hc=> ?_⟩
   .have e:=ZhZ (hb.2 hc)
    refine Yz (r':= .tup [(false,[.slice (U:=U) .wedit [] .unk]),(false,[.bool false])]) ?_ V2
    simp only [Zlb]
    rw [e.1,e.2]
   .refine ⟨by grind,⟨V1,V1⟩,⟨V1,V1⟩,(x0.drop 1,s.drop 1,d++[y5]),rfl,⟨?_,d0,d1⟩,by grind⟩
    grind
 .have e0:x0=[]:=Q3 V1
  have e1:s=[]:=Q3 V1
  subst e0 e1
  have e:=inv.done
  refine Yz (r':= .tup [(false,[.slice (U:=U) .wedit d .unk]),(false,[.bool true])]) ?_ V2
  simp only [Zlb]
  rw [e]
  try rfl
theorem ZHl:Contract Tryz.prog cfg 164 Z3i:=by
 refine ZCl ZHa ?_
 intro p q _ d
 exact ZJw _ _ _ ⟨d,V2⟩
theorem ZF6(e:Edit):e.words.length+e.ops.length+Zw e.kids+Zg e.ops+Zq e.old+Zq e.new+1=Z0 e:=by obtain ⟨k,o,n,w,ks,l,os⟩:=e;simp only [Z0,Edit.words_mk,Edit.ops_mk,Edit.kids_mk,Edit.old_mk,Edit.new_mk];omega
theorem Zsi(t:Tree):1<=Zq t:=by obtain ⟨k,w,ks⟩:=t;simp only [Zq];omega
theorem Ju{e:Edit}(h:YT e):Z0 e<=9000000000:=QN (Zcv e) h.1
theorem Z8v{e:Edit}(h:YT e):Z4f (e,())/\YT (Zp (Zt e)):=by
 have hm:=Ju h
 obtain ⟨m,r,d,s⟩:=h
 refine ⟨⟨by grind,d,s⟩,?_,?_,d,Jy _ _ (J1 _ _ s)⟩
 .have:=Z5n (Zt e)
  rw [Z72] at this
  omega
 .exact Z16 _ d (J1 _ _ s) (Z5C e r)
theorem Zdi{e:Edit}{t:Tree}(h:YT e)(hm:Zq t<=100000000000)(ht:rng t):Z5F (e,t,()):=by
 have:=Ju h
 have:=h.1
 exact ⟨⟨by grind,h.2⟩,by grind,ht⟩
theorem Zs0{e:Edit}(h:YT e):ZfJ e.kids:=by
 obtain ⟨m,r,d,hr⟩:=h
 have:=Z0f e
 exact ⟨V1,(ZB r).2.2.2.1,fun k s=> ⟨_,(Zk (Zd hr).kids k s).2⟩⟩
theorem ZrZ{e:Edit}(h:YT e):ZuB e.ops:=by
 obtain ⟨m,r,d,s⟩:=h
 have:=Z0f e
 exact ⟨V1,(ZB r).2.2.2.2,fun o ho=> ⟨_,_,rightOs_mem (Zd s).ops ho⟩⟩
theorem ZHP:ZFI:=by
 intro N p q _ hp hN
 obtain ⟨op,oq⟩:=hp
 dsimp only at op oq
 have a1:8*(Z0 p+Z0 q) < N+1:=hN
 obtain ⟨dp,rp⟩:=op.2.2
 obtain ⟨dq,rq⟩:=oq.2.2
 have d:=Zkt rp rq
 unfold JW at d
 have lp:=ZF6 p
 have lq:=ZF6 q
 have mo:=Zsi p.old;have mn:=Zsi p.new;have ax:=Zsi q.old;have av:=Zsi q.new
 have gp:=ZB op.2.1
 have gq:=ZB oq.2.1
 have cp:=Z0f p;have cq:=Z0f q;have ar:=op.1;have aw:=oq.1
 have fin:∀ {X:Edit} {b:Bool} {s:LSt U},YA p q=(X,b)->YZ cfg Tryz.f111.ntmps Tryz.f111.results.toList (.tup [(true,enc .edit X),(false,[.bool b])]) [] .ret s->YZ cfg Tryz.f111.ntmps Tryz.f111.results.toList (Z4c (p,q,())) [] .ret s:=by
  intro X b s h hs
  refine Yz ?_ hs
  simp only [Z4c]
  rw [h]
  try rfl
 refine ZJR N p q _ ?_
 intro y1 h1 y2 h2 y3 h3 y4 h4 y5 h5
 replace h1:=h1.symm;replace h2:=h2.symm;replace h3:=h3.symm;replace h4:=h4.symm
 subst h1 h2 h3 h4
 (simp only [iB,vcT,vcS])
 try dsimp only at h5 ⊢
 refine ⟨fun p0=> fin (by rw [d,if_pos p0]) V2,fun p0=> ?_⟩
 rw [if_neg p0] at d
 refine ⟨fun q0=> fin (by rw [d,if_pos q0]) V2,fun q0=> ?_⟩
 rw [if_neg q0] at d
 refine ⟨fun p1=> ⟨Zdi oq V1 gp.2.1,fin (by rw [d,if_pos p1]) (by unfold doB;(repeat' (first | exact trivial | exact rfl | apply And.intro)))⟩,fun p1=> ?_⟩
 rw [if_neg p1] at d
 refine ⟨fun q1=> ⟨(Z8v op).1,by rw [h5];exact Zdi (Z8v op).2 V1 gq.1,fin (by rw [d,if_pos q1,<-h5]) (by unfold doB;(repeat' (first | exact trivial | exact rfl | apply And.intro)))⟩,fun q1=> ?_⟩
 rw [if_neg q1] at d
 refine ⟨fun hd=> fin (by rw [d,if_pos hd]) V2,fun hd=> ?_⟩
 rw [if_neg (by rintro (h | h);exact h hd.1;exact h hd.2)] at d
 refine ⟨fun p2=> ?_,fun p2=> ?_⟩
 .rw [if_pos p2] at d
  refine ⟨⟨⟨gp.2.2.1,V4⟩,gq.2.2.1,V4⟩,fun hw=> ?_,fun hw=> ⟨⟨Zs0 op,Zs0 oq⟩,by show 8*(Zw p.kids+Zw q.kids)+4 < N;omega,?_⟩⟩
  .exact fin (by rw [d,if_neg (by rw [hw];decide)]) V2
  .exact fin (by rw [d,if_pos hw]) V2
 .rw [if_neg p2] at d
  exact ⟨⟨ZrZ op,ZrZ oq⟩,by show 8*(Zg p.ops+Zg q.ops)+40 < N;omega,fin d V2⟩
theorem ZHK:ZFB:=by
 intro N a b _ d s
 have h:8*(Zw a+Zw b)+4 < N+1:=s
 refine ZJv N a b _ ?_
 exact ⟨d,by show 8*(Zw a+Zw b)+3 < N;omega,V2⟩
theorem Zne{k:Kid}(h:Z2b k):InR k.at_/\ZX k.e:=by cases k;exact h
theorem ZHD:ZFt:=by
 intro N a b _ s hN
 obtain ⟨h,d⟩:=s
 dsimp only at h d
 have ab:8*(Yo a+Yo b)+1 < N+1:=hN
 have ka:=Z5Q a
 have kb:=Z5Q b
 refine ZJ2 N a b _ ?_
 intro y1 h1 y2 h2
 replace h1:=h1.symm;replace h2:=h2.symm
 subst h1 h2
 try dsimp only
 have ra:YT a.e:=⟨by have:=h.1;rw [Z30] at this;omega,(Zne h.2.1).2,h.2.2⟩
 have rb:YT b.e:=⟨by have:=d.1;rw [Z30] at this;omega,(Zne d.2.1).2,d.2.2⟩
 exact ⟨⟨ra,rb⟩,by show 8*(Z0 a.e+Z0 b.e) < N;omega,by unfold Z57 Z0g;(repeat' (first | exact trivial | exact rfl | apply And.intro))⟩
theorem ZjA{l:List Kid}(h:ZfJ l):ZfJ (l.drop 1):=by
 cases l with
 | nil=> exact h
 | cons k r=>
  obtain ⟨h1,d,s⟩:=h
  simp only [Z08] at h1
  exact ⟨by grind,d.2,fun x hx=> s x (Q0 _ hx)⟩
theorem Zjz{l:List Kid}(h:ZfJ l)(hl:0 < l.length)(z:Kid):ZzP (l.getD 0 z)/\Yo (l.getD 0 z)+Zw (l.drop 1)=Zw l:=by
 cases l with
 | nil=> simp at hl
 | cons k r=>
  obtain ⟨d,s,h3⟩:=h
  simp only [Z08] at d
  exact ⟨⟨by grind,s.1,h3 k Q1⟩,rfl⟩
theorem Zfh:∀ l:List Kid,Zw (l.drop 1)<=Zw l
 | []=> Q9 _
 | k ::r=> by simp only [QC,QZ,Zw];omega
theorem ZHE:ZFu:=by
 rintro N p q ⟨⟩ ⟨⟩ _ hp hN
 obtain ⟨op,oq⟩:=hp
 dsimp only at op oq
 have a5:8*(Zw p+Zw q)+3 < N+1:=hN
 have lp:=Ym p
 have lq:=Ym q
 have bp:=QN (Z5P p) op.1;have bq:=QN (Z5P q) oq.1
 refine ZJ4 N p q () () _ ?_
 refine Z7 (ι:=List Kid × List Kid × List Kid) (fun x=> Z3Q p q () () x.1 x.2.1 x.2.2) (fun x=> MInv KidOf.at_ (Z0g YA) p q x.1 x.2.1 x.2.2/\(ZfJ x.1/\Zw x.1<=Zw p)/\ZfJ x.2.1/\Zw x.2.1<=Zw q) (fun x=> x.1.length+x.2.1.length) (p,q,[]) rfl
  ⟨⟨by simp_all,by simp⟩,⟨op,Q9 _⟩,oq,Q9 _⟩ ?_
 rintro ⟨x0,s,d⟩ ⟨inv,⟨r0,m0⟩,r1,m1⟩
 dsimp only at inv r0 r1 m0 m1
 have am:=inv.len
 refine Zwi N p q () () _ _ _ _ _ ?_
 intro y1 h1 y2 h2 y3 h3 y4 h4 y5 h5
 subst h3 h4
 (simp only [iB,vcT,vcS])
 have h3:y3=x0.getD 0 ⟨0,Edit.nil⟩:=h1
 have h4:y4=s.getD 0 ⟨0,Edit.nil⟩:=h2
 have d0:ZfJ (x0.drop 1)/\Zw (x0.drop 1)<=Zw p:=⟨ZjA r0,by have:=Zfh x0;omega⟩
 have d1:ZfJ (s.drop 1)/\Zw (s.drop 1)<=Zw q:=⟨ZjA r1,by have:=Zfh s;omega⟩
 refine ⟨fun ax=> ⟨fun h=> ⟨V1,V1⟩,fun _=> trivial,fun h=> ⟨V1,V1⟩,fun _=> trivial,fun g1 g2=> ⟨g1,g2⟩,fun hA=> ?_,fun hB=> ?_⟩,fun hE=> ?_⟩
 .refine ⟨⟨V1,V1⟩,by grind,⟨V1,V1⟩,(x0.drop 1,s,d++[y3]),rfl,⟨?_,d0,r1,m1⟩,by grind⟩
  rw [h3]
  exact inv.left' _ V1 (by grind)
 .refine ⟨fun h=> ⟨V1,V1⟩,fun _=> trivial,fun h=> ⟨V1,V1⟩,fun _=> trivial,fun hC=> ?_,fun hD=> ?_⟩
  .refine ⟨⟨V1,V1⟩,by grind,⟨V1,V1⟩,(x0,s.drop 1,d++[y4]),rfl,⟨?_,⟨r0,m0⟩,d1⟩,by grind⟩
   rw [h4]
   exact inv.right' _ V1 (by grind)
  .have hb:=inv.both' ⟨0,Edit.nil⟩ V1 V1 (by grind)
   rw [<-h3,<-h4] at hb
   obtain ⟨k3,n3⟩:=Zjz r0 V1 ⟨0,Edit.nil⟩
   obtain ⟨k4,n4⟩:=Zjz r1 V1 ⟨0,Edit.nil⟩
   rw [<-h3] at k3 n3
   rw [<-h4] at k4 n4
   refine ⟨⟨V1,V1⟩,⟨V1,V1⟩,⟨k3,k4⟩,by show 8*(Yo y3+Yo y4)+1 < N;omega,fun hc=> ?_,fun hc=> ?_⟩
   .have e:=ZhZ (hb.2 hc)
    refine Yz (r':= .tup [(false,[.slice (U:=U) .kid [] .unk]),(false,[.bool false])]) ?_ V2
    simp only [Z4b]
    rw [e.1,e.2]
   .refine ⟨by grind,⟨V1,V1⟩,⟨V1,V1⟩,(x0.drop 1,s.drop 1,d++[y5]),rfl,⟨?_,d0,d1⟩,by grind⟩
    grind
 .have e0:x0=[]:=Q3 V1
  have e1:s=[]:=Q3 V1
  subst e0 e1
  have e:=inv.done
  refine Yz (r':= .tup [(false,[.slice (U:=U) .kid d .unk]),(false,[.bool true])]) ?_ V2
  simp only [Z4b]
  rw [e]
  try rfl
theorem ZnC{l:List Op}{o:Op}(h:Part l o)(ho:ZZ o)(hl:Z0D l):YH o:=by
 obtain ⟨s,m,k,e1,_,lt⟩:=h
 have G:=Z0j (JL hl m)
 obtain ⟨kk,nn,ll,ee⟩:=o
 have k:kk=s.kind:=k
 have e1:ee=s.e:=e1
 have lt:∀ t∈ll,t∈s.l:=lt
 refine ⟨by grind,?_,Z6A fun t ht=> Jl G.2.2.1 (lt t ht),by grind⟩
 rcases ho with h | h | h
 .have:=h.2.2.1
  unfold InR
  grind
 .have d:nn=0:=h.2.1
  rw [d];trivial
 .have d:nn=0:=h.2.1
  rw [d];trivial
theorem Z8T{l:List Op}{o:Op}(h:Part l o):Z1x o<=YF l/\Zs o<=Zg l:=by
 obtain ⟨o',m,k,e1,s,_⟩:=h
 have h1:=Z8r m
 have d:=ZW m
 have a:=Z52 o
 rw [ZR,ZR,e1] at s
 rw [e1] at a
 rw [ZR] at d
 rw [ZR,e1]
 omega
theorem ZhI{l:List Op}{o:Op}(h:Part l o)(hl:∀ o∈l,∃ list d,Za list o d=true)(k3:o.kind=3):∃ d,Z1 o.e d=true:=by
 obtain ⟨o',m,k,e1,hm,_⟩:=h
 obtain ⟨list,d,s⟩:=hl o' m
 exact ⟨d,by rw [e1];exact Ye s V1⟩
theorem Zyq{p q:List Op}(hp:ZuB p)(hq:ZuB q){x:Piece}(h:POk p q x):PcOk x:=by
 refine ⟨h.of,fun e=> ?_,fun e=> ?_,h.both⟩
 .obtain ⟨a,b⟩:=h.pp e
  exact ⟨b,QN (Z8T a).1 hp.1,ZnC a b hp.2.1,ZhI a hp.2.2⟩
 .obtain ⟨a,b⟩:=h.qq e
  exact ⟨b,QN (Z8T a).1 hq.1,ZnC a b hq.2.1,ZhI a hq.2.2⟩
theorem ZER{p:List Op}(hp:ZuB p):Zce p:=by
 refine ⟨fun o d=> ?_,?_⟩
 .obtain ⟨_,_,h⟩:=hp.2.2 o d
  exact Yl h
 .have:=Z2B p
  have:=hp.1
  omega
theorem ZHJ:ZFA:=by
 intro N p q _ hp hN
 obtain ⟨op,oq⟩:=hp
 dsimp only at op oq
 have a5:8*(Zg p+Zg q)+40 < N+1:=hN
 have kp:=ZER op
 have kq:=ZER oq
 obtain ⟨i1,_⟩:=Z4m _ p q [] (Q9 _) kp.1 kq.1
 refine ZJu N p q _ ?_
 (simp only [iB,vcT,vcS])
 refine ⟨⟨kp,kq⟩,fun hb=> ?_,fun hb=> ?_⟩
 .have e:Z09 YA p q=none:=by unfold Z09;grind
  refine Yz (r':= .tup [(false,[.slice (U:=U) .op [] .unk]),(false,[.bool false])]) ?_ V2
  simp only [Z33]
  rw [e];try rfl
 .obtain ⟨ps,e,al,_,_⟩:=i1 hb
  obtain ⟨a2,e1,_,_,av⟩:=Zcc ZFo ZFn 1 _ p q [] (Q9 _) kp.1 kq.1 hb
  rw [e,Qo,Qo] at e1
  subst e1
  rw [Qo] at e
  have ae:Z09 YA p q=Jx YA ps:=by unfold Z09;grind
  refine Z7 (ι:=Int × List Op) (fun s=> Z61 p q s.1 s.2) (fun s=> 0<=s.1/\s.1<=ps.length/\Jx YA ps=(Jx YA (ps.drop s.1.toNat)).map (s.2++·)/\s.2.length+(ps.drop s.1.toNat).length<=ps.length) (fun s=> ((ps.length:Int) - s.1).toNat) (0,[]) rfl ⟨by simp,by simp,by simp,by simp⟩ ?_
  rintro ⟨i,out⟩ ⟨f1,f2,d,f4⟩
  dsimp only at f1 f2 d f4
  refine ZwK N p q _ _ _ _ ?_
  intro y1 h1 y2 h2 y3 h3
  rw [e] at h1 ⊢
  subst h2
  (simp only [iB,vcT,vcS])
  refine ⟨fun hi=> ?_,fun hi=> ?_⟩
  .have h1:y2=ps.getD i.toNat (Piece.mk 0 Op.nil Op.nil):=h1
   have ai:y2∈ps:=by rw [h1];exact Zh V1 _
   have hx:=al y2 ai
   have hd:ps.drop i.toNat=y2 ::ps.drop (i+1).toNat:=by rw [h1];exact ZS f1 hi _
   rw [hd,Jx] at d
   rw [hd,Q8] at f4
   have ar:8*(Zs y2.p+Zs y2.q)+1 < N:=by
    rcases hx.of with h | h | h
    .have:=(Z8T (hx.pp V1).1).2;have:=(Z8T (hx.qq V1).1).2;omega
    .have:=(Z8T (hx.pp V1).1).2;rw [hx.qn h,show Zs Op.nil=3 from rfl];omega
    .have:=(Z8T (hx.qq V1).1).2;rw [hx.pn h,show Zs Op.nil=3 from rfl];omega
   have c1:=Z2B p;have c2:=Z2B q;have c3:=op.1;have c4:=oq.1
   refine ⟨⟨f1,hi⟩,Zyq op oq hx,ar,fun hc=> ?_,fun hc=> ⟨fun ah=> ?_,fun ah=> ?_⟩⟩
   .rw [if_neg (by grind)] at d
    refine Yz (r':= .tup [(false,[.slice (U:=U) .op [] .unk]),(false,[.bool false])]) ?_ V2
    simp only [Z33]
    rw [ae,d];try rfl
   .rw [if_pos hc,if_pos ah] at d
    refine ⟨by grind,V5,(i+1,out++[y3]),rfl,⟨V1,V1,?_,?_⟩,V1⟩
    .rw [d,h3]
     cases Jx YA (ps.drop (i+1).toNat) <;> simp
    grind
   .rw [if_pos hc,if_neg (by grind)] at d
    refine ⟨V5,(i+1,out),rfl,⟨V1,V1,?_,by grind⟩,V1⟩
    simp_all
  .rw [Q6 V1,Jx] at d
   refine Yz (r':= .tup [(false,[.slice (U:=U) .op out .unk]),(false,[.bool true])]) ?_ V2
   simp only [Z33]
   rw [ae,d]
   simp [ofO]
theorem Zds{α:Type}{l:List α}{i:Nat}(h:i < l.length)(d:α):l.take (i+1)=l.take i++[l.getD i d]:=by
 simp_all
theorem ZzX{a b:List Tree}(h:Z8 a=Z8 b):Zeq a b=true:=Z07.2 h
theorem ZD0{a b:List Tree}(h:¬Z8 a=Z8 b):Zeq a b=false:=by rw [<-Xx];exact fun e=> h (Z07.1 e)
theorem ZnX(o:Op):Ze o.l<=Z1x o:=by rw [Z52];omega
theorem ZHC:ZFs:=by
 intro N x _ hp hN
 have hp:PcOk x:=hp
 have ak:8*(Zs x.p+Zs x.q)+1 < N+1:=hN
 have fin:∀ {o:Op} {i k:Bool} {s:LSt U},Zx YA x=⟨o,i,k⟩->YZ cfg Tryz.f210.ntmps Tryz.f210.results.toList (.tup [(true,enc .op o),(false,[.bool i]),(false,[.bool k])]) [] .ret s->YZ cfg Tryz.f210.ntmps Tryz.f210.results.toList (Z4a (x,())) [] .ret s:=by
  intro o i k s h hs
  refine Yz ?_ hs
  simp only [Z4a]
  rw [h];try rfl
 refine ZJ0 N x _ ?_
 intro y1 h1 y2 h2 y3 h3 y4 h4 y5 h5 y6 h6 y7 h7 y8 h8 y9 h9
 subst h1 h2 h5 h6
 (simp only [iB,vcT,vcS])
 have hc:=Zx.eq_1 YA x
 refine ⟨fun _ h=> ⟨V1,h⟩,fun c1=> fin (by rw [hc,if_pos c1]) V2,fun c1=> ?_⟩
 rw [Jv] at hc
 refine ⟨fun c2=> fin (by rw [hc,if_pos c2]) V2,fun c2=> ?_⟩
 rw [Jv] at hc
 have c0:x.of=0:=by rcases hp.of with h | h | h <;> omega
 obtain ⟨b1,b2,b3⟩:=hp.both c0
 obtain ⟨op,mp,gp,rp⟩:=hp.pp V1
 obtain ⟨oq,mq,gq,rq⟩:=hp.qq V1
 have ep:=Z52 x.p
 have eq:=Z52 x.q
 have aa:=Z0j gp
 have d:=Z0j gq
 have ap:=ZnX x.p
 have aq:=ZnX x.q
 refine ⟨fun c3=> ?_,fun c3=> ?_⟩
 .rw [if_pos c3] at hc
  have l1:=ZU op (.inr c3.1)
  have l2:=ZU oq (.inl c3.2)
  have k1:=ZD x.p.l
  rw [Qq V1] at hc
  refine Z7 (ι:=Int) (fun i=> Z9i x i) (fun i=> 0<=i/\i<=x.p.l.length/\Z8 (x.p.l.take i.toNat)=Z8 (x.q.l.take i.toNat)) (fun i=> ((x.p.l.length:Int) - i).toNat) 0 rfl ⟨V1,V1,by simp⟩ ?_
  rintro i ⟨f1,f2,f3⟩
  refine Zwh N x _ _ _ ?_
  intro z1 g1 z2 g2 z3 g3 z4 g4
  subst g1 g2
  (simp only [iB,vcT,vcS])
  have l3:x.p.l.length=x.q.l.length:=V1
  refine ⟨fun hi=> ?_,fun hi=> ?_⟩
  .have m1:z3∈x.p.l:=by rw [g3];exact Zh V1 _
   have m2:z4∈x.q.l:=by rw [g4];exact Zh V1 _
   have bj:=Jb m1
   have bf:=Jb m2
   have t1:x.p.l.take (i+1).toNat=x.p.l.take i.toNat++[z3]:=by rw [g3,show (i+1).toNat=i.toNat+1 by omega];exact Zds V1 _
   have t2:x.q.l.take (i+1).toNat=x.q.l.take i.toNat++[z4]:=by rw [g4,show (i+1).toNat=i.toNat+1 by omega];exact Zds V1 _
   refine ⟨⟨f1,hi⟩,⟨f1,V1⟩,⟨V4,V4⟩,fun ae=> fin (by rw [hc,ZD0];intro he;rw [Jk] at ae;apply ae;rw [g3,g4];exact Z8i he i.toNat) V2,fun aj=> ⟨V5,i+1,rfl,⟨V1,V1,?_⟩,V1⟩⟩
   rw [t1,t2]
   exact JN f3 (Z01.2 (Yk.1 aj))
  .rw [Qq V1,Qq V1] at f3
   exact fin (by rw [hc,ZzX f3]) V2
 rw [Jv] at hc
 have kp:x.p.kind=2\/x.p.kind=3:=by rcases Y8 op with k | k | k | k <;> omega
 have kq:x.q.kind=1\/x.q.kind=3:=by rcases Y8 oq with k | k | k | k <;> omega
 refine ⟨fun c4=> ?_,fun c4=> ?_⟩
 .rw [if_pos c4] at hc
  have l1:=ZU op (.inr c4)
  have l2:=JS (o:=x.q) V1
  have hl:0 < x.p.l.length:=V1
  have m3:y5∈x.p.l:=by rw [h3];exact Zh hl _
  have bw:=Jb m3
  refine ⟨⟨V1,V1⟩,Zdi ⟨V1,d.2.2.2,rq V1⟩ V1 (Jl aa.2.2.1 m3),fin hc ?_⟩
  rw [show x.p.l.getD 0 Tree.nil=y5 from h3.symm]
  unfold doB
  rw [<-h8]
  exact V2
 rw [if_neg c4] at hc
 have p3:x.p.kind=3:=V1
 refine ⟨fun c5=> ?_,fun c5=> ?_⟩
 .rw [if_pos c5] at hc
  have l1:=ZU oq (.inl c5)
  have l2:=JS (o:=x.p) p3
  have hl:0 < x.q.l.length:=V1
  have m4:y6∈x.q.l:=by rw [h4];exact Zh hl _
  have bd:=Jb m4
  have rk:YT x.p.e:=⟨V1,aa.2.2.2,rp p3⟩
  refine ⟨(Z8v rk).1,⟨V1,V1⟩,by rw [h7];exact Zdi (Z8v rk).2 V1 (Jl d.2.2.1 m4),fin hc ?_⟩
  rw [show x.q.l.getD 0 Tree.nil=y6 from h4.symm,<-h7]
  unfold doB
  rw [<-h9]
  exact V2
 .rw [if_neg c5] at hc
  have k1:YT x.p.e:=⟨V1,aa.2.2.2,rp p3⟩
  have k2:YT x.q.e:=⟨V1,d.2.2.2,rq V1⟩
  refine ⟨⟨k1,k2⟩,?_,fin hc V2⟩
  show 8*(Z0 x.p.e+Z0 x.q.e) < N
  rw [ZR,ZR] at ak
  omega
theorem ZKi:Contract Tryz.prog cfg 111 Z8L/\Contract Tryz.prog cfg 165 Zrt/\Contract Tryz.prog cfg 206 Zrm/\Contract Tryz.prog cfg 208 Zrl/\Contract Tryz.prog cfg 166 Zrs/\Contract Tryz.prog cfg 210 Zrk:=
 ZyP c25 c85 Zmi ZHl ZH7 (ZH6 ZAg) ZHP ZHK ZHE ZHD ZHJ ZHC
theorem ZHx:Contract Tryz.prog cfg 111 Z8L:=ZKi.1
noncomputable section
def Ztd:List (FuncId × Fs U):=[(29,Z24),(183,ZbC)]
abbrev ZLB(e:Edit)(Q:QT):=AW (Z3 Ztd) Tryz.f133 ZGC [] (L2 [(0,.agg (enc .edit e))] []) Q
theorem ZJH(e:Edit)(Q:QT)(h:∀ s,s=e->∀ d,d=(Z2y s)->(ZaR (s,()))/\(Z4f (d,()))/\(Q .ret (L2 [pL 2] [(.loc 2,(enc .edit (Zp d)))]))):
  ZLB e Q:=
 Eq.mpr V6 (h _ (Z5 _) _ (Z5 _))
def ZEz(e:Edit):Prop:=AW (Z3 Ztd) Tryz.f133 ZGC [] (Zm (Zu2.can (e,())) []) (EQ Tryz.f133 (ZxF (e,())) [])
theorem ZCv(c29:CT 29 Z24)(ZHd:CT 183 ZbC)(hb:∀ (e:Edit) (_:Unit),Z4f (e,())->ZEz e):CT 133 Z6n:=
 Z9 (l:=[(29,Z24),(183,ZbC)]) Zo rfl (⟨c29,ZHd,trivial⟩) ZGC Tryz.func133 rfl rfl 1 (fun _=> rfl) V3 (fun ⟨e,_⟩=> hb e ())
end
theorem ZHs:Contract Tryz.prog cfg 133 Z6n:=by
 refine ZCv ZqJ.1 ZHd ?_
 intro e _ hp
 simp only [Z4f] at hp
 obtain ⟨hm,d,hr⟩:=hp
 refine ZJH _ _ ?_
 rintro y1 s y2 h
 subst s
 have h1:=Z6W y1
 have h2:=J1 _ _ hr
 have e2:y2=Zt y1:=by rw [h,ZaB _ _ hr]
 rw [<-e2] at h1 h2
 refine ⟨by simp only [ZaR];omega,by simp only [Z4f];grind,?_⟩
 simp only [ZxF]
 rw [<-e2]
 exact V2
noncomputable section
def ZrQ(a:Edit × Edit × Unit):V U:= .tup [(true,(enc .edit ((Z1A a.1 a.2.1).1))),(false,[.bool ((Z1A a.1 a.2.1).2)])]
def ZgH:Fs U:=fs ZqV (fun a=> [Z34 a]) ZrQ
def Zpy(a:WEdit × WEdit × Unit):Prop:=wOk a.1/\wOk a.2.1
def Z6q:Fs U:=fs ZtG (fun a=> [Zpy a]) Zla
def ZtD:ArgL (List WEdit × Int × Unit):=(.cons (aSl .wedit) (.cons (Z0h .i64) .nil))
def Zln(a:List WEdit × Int × Unit):Prop:=(a.1).length<=1000000
def Zl9(a:List WEdit × Int × Unit):V U:= .tup [(true,(enc .wedit ((Z2C a.1 a.2.1).getD (WEdit.mk 0 0 0 0)))),(false,[.bool ((Z2C a.1 a.2.1).isSome)])]
def Z6r:Fs U:=fs ZtD (fun a=> [Zln a]) Zl9
def ZtB:ArgL (List Kid × Int × Unit):=(.cons (aSl .kid) (.cons (Z0h .i64) .nil))
def ZdK(a:List Kid × Int × Unit):Prop:=(a.1).length<=1000000
def Zl7(a:List Kid × Int × Unit):V U:= .agg (enc .edit (Z0x a.1 a.2.1))
def Z6p:Fs U:=fs ZtB (fun a=> [ZdK a]) Zl7
def ZtK:ArgL (List Int × List Int × Unit):=(.cons (aSl .int) (.cons (aSl .int) .nil))
def Zlo(a:List Int × List Int × Unit):Prop:=(a.1).length<=1000000/\(a.2.1).length<=1000000
def Zpk(a:List Int × List Int × Unit):V U:= .c (sU .int (YJ a.1 a.2.1) .unk)
def ZbB:Fs U:=fs ZtK (fun a=> [Zlo a]) Zpk
def ZpD(a:Edit × Edit × Unit):Prop:=((a.1).words.length<=1000000/\(a.1).kids.length<=1000000)/\(a.2.1).words.length<=1000000/\(a.2.1).kids.length<=1000000
def Zy2(a:Edit × Edit × Unit):V U:= .tup [(false,[sU .int (YJ ((a.1).words.map WEdit.at_) ((a.2.1).words.map WEdit.at_)) .unk]),(false,[sU .int (YJ ((a.1).kids.map KidOf.at_) ((a.2.1).kids.map KidOf.at_)) .unk])]
def Z6v:Fs U:=fs ZqV (fun a=> [ZpD a]) Zy2
def Zfc(a:Edit × Edit × Unit):Nat:=8*(Z0 a.1+Z0 a.2.1)+1
def Z6L(a:Edit × Edit × Unit):V U:= .tup [(true,(enc .edit ((JM a.1 a.2.1).1))),(false,[.bool ((JM a.1 a.2.1).2)])]
def Z8K:Fs U:=fs ZqV (fun a=> [Z34 a]) Z6L
def Z7N(a:Edit × Edit × Unit):Prop:=Edit.kind a.1=2/\Edit.kind a.2.1=2/\YT a.1/\YT a.2.1
def Z6H(a:Edit × Edit × Unit):V U:= .tup [(true,(enc .edit ((ZiX a.1 a.2.1).1))),(false,[.bool ((ZiX a.1 a.2.1).2)])]
def Zrr:Fs U:=fs ZqV (fun a=> [Z7N a]) Z6H
def Z7M(a:Edit × Edit × Unit):Prop:=Edit.kind a.1=3/\Edit.kind a.2.1=3/\YT a.1/\YT a.2.1
def Z6G(a:Edit × Edit × Unit):V U:= .tup [(true,(enc .edit ((ZiY a.1 a.2.1).1))),(false,[.bool ((ZiY a.1 a.2.1).2)])]
def Zrq:Fs U:=fs ZqV (fun a=> [Z7M a]) Z6G
def Z78:ArgL (AUnit × AUnit × Unit):=(.cons (aEl .unit) (.cons (aEl .unit) .nil))
def Z7L(a:AUnit × AUnit × Unit):Prop:=(uOk a.1/\uOk a.2.1)/\AUnit.kind a.1≠1/\AUnit.kind a.2.1≠2
def ZhT(a:AUnit × AUnit × Unit):Nat:=8*(Z0 a.1.e+Z0 a.2.1.e)+2
def Z6E(a:AUnit × AUnit × Unit):V U:= .tup [(false,[sU .op ((Z0E JM a.1 a.2.1).1) .unk]),(false,[.bool ((Z0E JM a.1 a.2.1).2)])]
def Zrj:Fs U:=fs Z78 (fun a=> [Z7L a]) Z6E
def ZzE:List (FuncId × Fs U):=[(111,Z8L),(67,Z24)]
abbrev A71(p:List Nat):=AW (Z3 ZzE) Tryz.f71 ZGJ p
theorem ZKT(p q:Edit)(Q:QT)(h:∀ s,s=p->∀ d,d=q->∀ aa,aa=((YA s d).1)->((Z34 (s,d,()))/\(iB (!((YA s d).2)) ((Q .ret (L2 [pL 4,pB 5 false] [(.loc 4,zc1)]))) ((Z4f (aa,()))/\(Q .ret (L2 [pL 4,pB 5 true] [(.loc 4,(enc .edit (Zp aa)))])))))):
  A71 [] (L2 [(0,.agg (enc .edit p)),(1,.agg (enc .edit q))] []) Q:=
 Eq.mpr V6 (h _ (Z5 _) _ (Z5 _) _ (Z5 _))
def ZIc(p q:Edit):Prop:=AW (Z3 ZzE) Tryz.f71 ZGJ [] (Zm (ZqV.can (p,q,())) []) (EQ Tryz.f71 (ZrQ (p,q,())) [])
theorem ZGj(ZHx:CT 111 Z8L)(c67:CT 67 Z24)(hb:∀ (p:Edit) (q:Edit) (_:Unit),Z34 (p,q,())->ZIc p q):CT 71 ZgH:=
 Z9 (l:=[(111,Z8L),(67,Z24)]) Zo rfl (⟨ZHx,c67,trivial⟩) ZGJ Tryz.func71 rfl rfl 2 (fun _=> rfl) V3 (fun ⟨p,q,_⟩=> hb p q ())
def Zsk:Zj U:=lvl [([2,3,4],[2,3,4]),([2,3,4,6],[2,3,4,6]),([2,3,4,6,7,8,9,10],[2,3,4,6,7,8,9,10]),([2,3,4,6,7,8,9,10,11],[2,3,4,6,7,8,9,10]),([2,3,4,6,7,8,9,10,11,12],[2,3,4,6,7,8,9,10]),([2,3,4,6,7,8,9,10,11,12,13,14],[2,3,4,6,7,8,9,10,13,14]),([2,3,4,6,7,8,9,10,11,12,13,14,15],[2,3,4,6,7,8,9,10,13,14]),([2,3,4,6,7,8,9,10,11,12,13,14,15,34],[2,3,4,6,7,8,9,10,13,14]),([2,3,4,6,7,8,9,10,11,12,13,14,15],[2,3,4,6,7,8,9,10,13,14]),([2,3,4,6,7,8,9,10,11,12,13,14,15,16,17],[2,3,4,6,7,8,9,10,13,14]),([2,3,4,6,7,8,9,10,11,12,13,14,15,16,17,57],[2,3,4,6,7,8,9,10,13,14]),([4,5],[4]),([2,3,4,6,7,8,9,10,11,12,13,14,15,16,17,62],[2,3,4,6,7,8,9,10,13,14]),([2,3,4,6,7,8,9,10,11,12,13,14,15,16,17,62],[2,3,4,6,7,8,9,10,13,14]),([2,3,4,6,7,8,9,10,11,12,13,14,15,16,17],[2,3,4,6,7,8,9,10,13,14]),([2,3,4,6,7,8,9,10,11,12,13,14,15,16,17,68],[2,3,4,6,7,8,9,10,13,14]),([2,3,4,6,7,8,9,10,11,12,13,14,15,16,17],[2,3,4,6,7,8,9,10,13,14]),([2,3,4,6,7,8,9,10,11,12,13,14,15,16,17,68],[2,3,4,6,7,8,9,10,13,14]),([2,3,4,6,7,8,9,10,11,12,13,14,15,16,17,79],[2,3,4,6,7,8,9,10,13,14]),([2,3,4,6,7,8,9,10,11,12,13,14,15,16,17,79],[2,3,4,6,7,8,9,10,13,14]),([2,3,4,6,7,8,9,10,11,12,13,14,15,89],[2,3,4,6,7,8,9,10,13,14]),([2,3,4,6,7,8,9,10,11,12,13,14,15,89],[2,3,4,6,7,8,9,10,13,14]),([4,6,13,14],[4,6,13,14]),([4,6,14],[4,6,14]),([4,6],[4,6]),([4,5],[4])]
def Z1X(p q:WEdit)(av aw au aa af ah ar ai ao ae al ak aj s ab am h d aq:Int):LSt U:=(L2 [pL 2,pL 3,pL 4,pL 6,pL 7,pL 8,pL 9,pL 10,pI 11 av,pI 12 aw,pL 13,pL 14,pI 15 au] [(.loc 2,(enc .wedit p)),(.loc 3,(enc .wedit q)),(.loc 4,[ci 0,.int .u8 0,.int .u64 0,.int .u64 0]),(.loc 6,[ci p.at_,.int .u8 0,.int .u64 0,.int .u64 0]),(.loc 7,(zb8 Z4 p.old)),(.loc 8,(zb8 Z4 p.new)),(.loc 9,(zb8 Z4 q.old)),(.loc 10,(zb8 Z4 q.new)),(.loc 13,(zi8 [aa,af,ah,ar,ai,ao,ae,al])),(.loc 14,(zi8 [ak,aj,s,ab,am,h,d,aq]))])
def Z9g(p q:WEdit)(aw d ab ah ai au aj aq af am al ak aa ae ao s h ar av:Int):LSt U:=(L2 [pL 2,pL 3,pL 4,pL 6,pL 7,pL 8,pL 9,pL 10,pI 11 aw,pI 12 av,pL 13,pL 14,pI 15 d,pB 16 (Zz p.mask d),pB 17 (Zz q.mask d),pB 62 (bif (Zz p.mask d) then true else (Zz q.mask d))] [(.loc 2,(enc .wedit p)),(.loc 3,(enc .wedit q)),(.loc 4,[ci 0,.int .u8 0,.int .u64 0,.int .u64 0]),(.loc 6,[ci p.at_,.int .u8 0,.int .u64 0,.int .u64 0]),(.loc 7,(zb8 Z4 p.old)),(.loc 8,(zb8 Z4 p.new)),(.loc 9,(zb8 Z4 q.old)),(.loc 10,(zb8 Z4 q.new)),(.loc 13,(zi8 [ab,ah,ai,au,aj,aq,af,am])),(.loc 14,(zi8 [al,ak,aa,ae,ao,s,h,ar]))])
def Zej(p q:WEdit)(ax au aw:Int)(av:V U)(ak ar ae d al ah aa af ab ao h aj aq ai s am:Int):LSt U:=(L2 [pL 2,pL 3,pL 4,pL 6,pL 7,pL 8,pL 9,pL 10,pI 11 ((2:Int)*ax),pI 12 aw,pL 13,pL 14,pI 15 au,pB 16 (Zz p.mask au),pB 17 (Zz q.mask au),(68,av)] [(.loc 2,(enc .wedit p)),(.loc 3,(enc .wedit q)),(.loc 4,[ci 0,.int .u8 0,.int .u64 0,.int .u64 0]),(.loc 6,[ci p.at_,.int .u8 0,.int .u64 0,.int .u64 0]),(.loc 7,(zb8 Z4 p.old)),(.loc 8,(zb8 Z4 p.new)),(.loc 9,(zb8 Z4 q.old)),(.loc 10,(zb8 Z4 q.new)),(.loc 13,(zi8 [ak,ar,ae,d,al,ah,aa,af])),(.loc 14,(zi8 [ab,ao,h,aj,aq,ai,s,am]))])
def Zei(p q:WEdit)(aw au av af ao h al aq ak aa am ah ai ae ab d ar s aj:Int):LSt U:=(L2 [pL 2,pL 3,pL 4,pL 6,pL 7,pL 8,pL 9,pL 10,pI 11 ((2:Int)*aw),pI 12 av,pL 13,pL 14,pI 15 au,pB 16 (Zz p.mask au),pB 17 (Zz q.mask au),pB 79 (Zz p.mask au)] [(.loc 2,(enc .wedit p)),(.loc 3,(enc .wedit q)),(.loc 4,[ci 0,.int .u8 0,.int .u64 0,.int .u64 0]),(.loc 6,[ci p.at_,.int .u8 0,.int .u64 0,.int .u64 0]),(.loc 7,(zb8 Z4 p.old)),(.loc 8,(zb8 Z4 p.new)),(.loc 9,(zb8 Z4 q.old)),(.loc 10,(zb8 Z4 q.new)),(.loc 13,(zi8 [ah,ai,ae,ab,d,ar,s,aj])),(.loc 14,(zi8 [af,ao,h,al,aq,ak,aa,am]))])
def Zeh(p q:WEdit)(aw au av ah ai af ae h ar aa aj ak d aq ao am ab al s:Int):LSt U:=(L2 [pL 2,pL 3,pL 4,pL 6,pL 7,pL 8,pL 9,pL 10,pI 11 ((2:Int)*aw),pI 12 av,pL 13,pL 14,pI 15 au,pB 89 (bif (Zz p.mask au) then (!(Zz q.mask au)) else false)] [(.loc 2,(enc .wedit p)),(.loc 3,(enc .wedit q)),(.loc 4,[ci 0,.int .u8 0,.int .u64 0,.int .u64 0]),(.loc 6,[ci p.at_,.int .u8 0,.int .u64 0,.int .u64 0]),(.loc 7,(zb8 Z4 p.old)),(.loc 8,(zb8 Z4 p.new)),(.loc 9,(zb8 Z4 q.old)),(.loc 10,(zb8 Z4 q.new)),(.loc 13,(zi8 [ah,ai,af,ae,h,ar,aa,aj])),(.loc 14,(zi8 [ak,d,aq,ao,am,ab,al,s]))])
abbrev Za8(p:List Nat):=AW (Z3 ZlZ) Tryz.f212 Zsk p
abbrev Z7l(p:List Nat):=SW (Z3 ZlZ) Tryz.f212 Zsk p
theorem ZIY(p q:WEdit)(Q:QT)(h:((Z6O (p.old,()))/\(Z6O (p.new,()))/\(Z6O (q.old,()))/\(Z6O (q.new,()))/\(Zi (Za8 [1,1,1,1,1,1,0,1,0,0]) (Z1X p q 1 0 0 0 0 0 0 0 0 0 0 0 0 0 0 0 0 0 0) (xB 0 (Z7l [1,1,1,1,1,1,1] Q))))):
  Za8 [] (L2 [(0,.agg (enc .wedit p)),(1,.agg (enc .wedit q))] []) Q:=
 Eq.mpr V6 h
theorem Zwe(p q:WEdit)(aw ax d ae ai aj av ak ar ah ao am al ab af aq aa s au:Int)(N0:NT)(Q:QT)(h:let z2:=Zz p.mask d;let z1:=xB 1 (Z7l [1,1,1,1,1,1,0,1,0,0,1,1] (xT N0 (xB 0 (Z7l [1,1,1,1,1,1,1] Q))));let z0:=bif z2 then (Zz q.mask d) else false;(iB (decide (d < 8)) ((ZdO (p.mask,d,()))/\(ZdO (q.mask,d,()))/\((Tt z2)/\(Tt z0)/\(z0=true->(0:Int)<=d/\d < ((8:Nat):Int))/\(Tt z0)/\(Tt z0)/\(z0=true->(0:Int)<=d/\d < ((8:Nat):Int))/\(Tt z0)/\(Tt z0)/\(Tt z0)/\(Tt z0)/\(iB (bif z0 then (((List.getD [Z4 p.new 0,Z4 p.new 1,Z4 p.new 2,Z4 p.new 3,Z4 p.new 4,Z4 p.new 5,Z4 p.new 6,Z4 p.new 7] d.toNat 0):Int) !=(List.getD [Z4 q.old 0,Z4 q.old 1,Z4 q.old 2,Z4 q.old 3,Z4 q.old 4,Z4 q.old 5,Z4 q.old 6,Z4 q.old 7] d.toNat 0)) else false) ((Q .ret (L2 [pL 4,pB 5 false] [(.loc 4,[ci 0,.int .u8 0,.int .u64 0,.int .u64 0])]))) ((z2=false->(!z2)=true)/\(iB (bif z2 then true else (Zz q.mask d)) ((InR (ax+aw))/\(Za8 [1,1,1,1,1,1,0,1,0,0,1,0,0,1,1,1] (Z9g p q aw d ae ai aj av ak ar ah ao am al ab af aq aa s au (ax+aw)) z1)) (Za8 [1,1,1,1,1,1,0,1,0,0,1,0,0,1,1,1] (Z9g p q aw d ae ai aj av ak ar ah ao am al ab af aq aa s au ax) z1)))))) (((Zht (([ae,ai,aj,av,ak,ar,ah,ao]),0,()))/\((Zht (([am,al,ab,af,aq,aa,s,au]),0,()))/\(Q .ret (L2 [pL 4,pB 5 true] [(.loc 4,[ci p.at_,.int .u8 (IntKind.wrap .u8 ax),.int .u64 (of8 (fun i=> ([ae,ai,aj,av,ak,ar,ah,ao]).getD i 0)),.int .u64 (of8 (fun i=> ([am,al,ab,af,aq,aa,s,au]).getD i 0))])]))))))):
  Za8 [1,1,1,1,1,1,0,1,0,0] (Z1X p q aw ax d ae ai aj av ak ar ah ao am al ab af aq aa s au) (xT N0 (xB 0 (Z7l [1,1,1,1,1,1,1] Q))):=
 Eq.mpr V6 h
theorem Zwf(p q:WEdit)(az d af aj al ax am av ai ar aq ao ae ah au ab aa aw ay:Int)(N0:NT)(Q:QT)(h:∀ s,s=(List.getD [Z4 q.new 0,Z4 q.new 1,Z4 q.new 2,Z4 q.new 3,Z4 q.new 4,Z4 q.new 5,Z4 q.new 6,Z4 q.new 7] d.toNat 0)->∀ ak,ak=(List.getD [Z4 q.old 0,Z4 q.old 1,Z4 q.old 2,Z4 q.old 3,Z4 q.old 4,Z4 q.old 5,Z4 q.old 6,Z4 q.old 7] d.toNat 0)->let z0:=xB 1 (Z7l [1,1,1,1,1,1,0,1,0,0,1,1] (xT N0 (xB 0 (Z7l [1,1,1,1,1,1,1] Q))));(InR ((2:Int)*az))/\(iB (Zz q.mask d) (((0:Int)<=d/\d < ((8:Nat):Int))/\((0:Int)<=d/\d < ((8:Nat):Int))/\(((0:Int)<=d/\d < ((8:Nat):Int))/\((0:Int)<=d/\d < ((8:Nat):Int))/\(Za8 [1,1,1,1,1,1,0,1,0,0,1,0,0,1,1,1,1,1] (Zej p q az d ay .junk (YK d 0 ak af) (YK d 1 ak aj) (YK d 2 ak al) (YK d 3 ak ax) (YK d 4 ak am) (YK d 5 ak av) (YK d 6 ak ai) (YK d 7 ak ar) (YK d 0 s aq) (YK d 1 s ao) (YK d 2 s ae) (YK d 3 s ah) (YK d 4 s au) (YK d 5 s ab) (YK d 6 s aa) (YK d 7 s aw)) z0))) (Za8 [1,1,1,1,1,1,0,1,0,0,1,0,0,1,1,1,1,1] (Zej p q az d ay (.c (.bool (Zz q.mask d))) af aj al ax am av ai ar aq ao ae ah au ab aa aw) z0))):
  Za8 [1,1,1,1,1,1,0,1,0,0,1,0,0,1,1,1] (Z9g p q az d af aj al ax am av ai ar aq ao ae ah au ab aa aw ay) (xB 1 (Z7l [1,1,1,1,1,1,0,1,0,0,1,1] (xT N0 (xB 0 (Z7l [1,1,1,1,1,1,1] Q))))):=
 Eq.mpr V6 (h _ rfl _ rfl)
theorem ZmI(p q:WEdit)(ay d ax:Int)(az:V U)(am av ah s ao aj ae ai af ar aa al au ak ab aq:Int)(N0:NT)(Q:QT)(h:∀ aw,aw=(List.getD [Z4 p.old 0,Z4 p.old 1,Z4 p.old 2,Z4 p.old 3,Z4 p.old 4,Z4 p.old 5,Z4 p.old 6,Z4 p.old 7] d.toNat 0)->let z0:=xB 1 (Z7l [1,1,1,1,1,1,0,1,0,0,1,1] (xT N0 (xB 0 (Z7l [1,1,1,1,1,1,1] Q))));(iB (Zz p.mask d) (((0:Int)<=d/\d < ((8:Nat):Int))/\((0:Int)<=d/\d < ((8:Nat):Int))/\(Za8 [1,1,1,1,1,1,0,1,0,0,1,0,0,1,1,1,1,1,1] (Zei p q ay d ax af ar aa al au ak ab aq (YK d 0 aw am) (YK d 1 aw av) (YK d 2 aw ah) (YK d 3 aw s) (YK d 4 aw ao) (YK d 5 aw aj) (YK d 6 aw ae) (YK d 7 aw ai)) z0)) (Za8 [1,1,1,1,1,1,0,1,0,0,1,0,0,1,1,1,1,1,1] (Zei p q ay d ax af ar aa al au ak ab aq am av ah s ao aj ae ai) z0))):
  Za8 [1,1,1,1,1,1,0,1,0,0,1,0,0,1,1,1,1,1] (Zej p q ay d ax az am av ah s ao aj ae ai af ar aa al au ak ab aq) (xB 1 (Z7l [1,1,1,1,1,1,0,1,0,0,1,1] (xT N0 (xB 0 (Z7l [1,1,1,1,1,1,1] Q))))):=
 Eq.mpr V6 (h _ rfl)
theorem Zbl(p q:WEdit)(ay d ax ai ar aa ao au am ae aq aj ak ah af s av ab al:Int)(N0:NT)(Q:QT)(h:∀ aw,aw=(List.getD [Z4 p.new 0,Z4 p.new 1,Z4 p.new 2,Z4 p.new 3,Z4 p.new 4,Z4 p.new 5,Z4 p.new 6,Z4 p.new 7] d.toNat 0)->let z1:=Zz p.mask d;let z0:=xT N0 (xB 0 (Z7l [1,1,1,1,1,1,1] Q));(Tt z1)/\(Tt z1)/\(iB (bif z1 then (!(Zz q.mask d)) else false) (((0:Int)<=d/\d < ((8:Nat):Int))/\((0:Int)<=d/\d < ((8:Nat):Int))/\(Za8 [1,1,1,1,1,1,0,1,0,0,1,1] (Zeh p q ay d ax aj ak ah af s av ab al (YK d 0 aw ai) (YK d 1 aw ar) (YK d 2 aw aa) (YK d 3 aw ao) (YK d 4 aw au) (YK d 5 aw am) (YK d 6 aw ae) (YK d 7 aw aq)) z0)) (Za8 [1,1,1,1,1,1,0,1,0,0,1,1] (Zeh p q ay d ax aj ak ah af s av ab al ai ar aa ao au am ae aq) z0))):
  Za8 [1,1,1,1,1,1,0,1,0,0,1,0,0,1,1,1,1,1,1] (Zei p q ay d ax ai ar aa ao au am ae aq aj ak ah af s av ab al) (xB 1 (Z7l [1,1,1,1,1,1,0,1,0,0,1,1] (xT N0 (xB 0 (Z7l [1,1,1,1,1,1,1] Q))))):=
 Eq.mpr V6 (h _ rfl)
theorem Zbk(p q:WEdit)(ax aw av ai aj ah af s au ab ak al d ar aq ao ae am aa:Int)(N0:NT)(Q:QT)(h:(InR (aw+1))/\(N0 (Z1X p q ((2:Int)*ax) av (aw+1) ai aj ah af s au ab ak al d ar aq ao ae am aa))):
  Za8 [1,1,1,1,1,1,0,1,0,0,1,1] (Zeh p q ax aw av ai aj ah af s au ab ak al d ar aq ao ae am aa) (xT N0 (xB 0 (Z7l [1,1,1,1,1,1,1] Q))):=
 Eq.mpr V6 h
def ZDQ(p q:WEdit):Prop:=AW (Z3 ZlZ) Tryz.f212 Zsk [] (Zm (ZtG.can (p,q,())) []) (EQ Tryz.f212 (Zla (p,q,())) [])
theorem ZBX(ZvI:CT 186 Z4G)(ZvH:CT 187 Z4F)(ZvG:CT 188 Z4E)(hb:∀ (p:WEdit) (q:WEdit) (_:Unit),Zpy (p,q,())->ZDQ p q):CT 212 Z6q:=
 Z9 (l:=[(186,Z4G),(187,Z4F),(188,Z4E)]) Zo rfl (⟨ZvI,ZvH,ZvG,trivial⟩) Zsk Tryz.func212 rfl rfl 2 (fun _=> rfl) V3 (fun ⟨p,q,_⟩=> hb p q ())
def Zsl:Zj U:=lvl [([0,1,4],[4]),([0,1,4,6],[4]),([0,1,4,6,10],[4]),([0,1,4,6],[4]),([0,1,4,6,19],[4]),([4,5],[4]),([4,5],[4])]
def Z9h(l:List WEdit)(at_ d:Int):LSt U:=(L2 [(0,.c (sU .wedit l .unk)),pI 1 at_,pL 4,pI 6 d] [(.loc 4,[ci 0,.int .u8 0,.int .u64 0,.int .u64 0])])
abbrev ZIy(p:List Nat):=AW (Z3 Zqg) Tryz.f211 Zsl p
abbrev ZKp(p:List Nat):=SW (Z3 Zqg) Tryz.f211 Zsl p
theorem ZIZ(l:List WEdit)(at_:Int)(Q:QT)(h:(Zi (ZIy [1,0,1,0,0]) (Z9h l at_ 0) (xB 0 (ZKp [1,1] Q)))):
  ZIy [] (L2 [(0,.c (sU .wedit l .unk)),pI 1 at_] []) Q:=
 Eq.mpr V6 h
theorem Zwg(l:List WEdit)(at_ d:Int)(N0:NT)(Q:QT)(h:let z0:=l.getD d.toNat (WEdit.mk 0 0 0 0);(iB (decide (d < (l.length:Int))) (((0:Int)<=d/\d < (l.length:Int))/\(iB (((WEdit.at_ z0):Int)==at_) (((0:Int)<=d/\d < (l.length:Int))/\(Q .ret (L2 [pL 4,pB 5 true] [(.loc 4,(enc .wedit z0))]))) ((InR (d+1))/\(N0 (Z9h l at_ (d+1)))))) ((Q .ret (L2 [pL 4,pB 5 false] [(.loc 4,[ci 0,.int .u8 0,.int .u64 0,.int .u64 0])]))))):
  ZIy [1,0,1,0,0] (Z9h l at_ d) (xT N0 (xB 0 (ZKp [1,1] Q))):=
 Eq.mpr V6 h
def ZDR(l:List WEdit)(at_:Int):Prop:=AW (Z3 Zqg) Tryz.f211 Zsl [] (Zm (ZtD.can (l,at_,())) []) (EQ Tryz.f211 (Zl9 (l,at_,())) [])
theorem ZBY(hb:∀ (l:List WEdit) (at_:Int) (_:Unit),Zln (l,at_,())->ZDR l at_):CT 211 Z6r:=
 Z9 (l:=[]) Zo rfl trivial Zsl Tryz.func211 rfl rfl 2 (fun _=> rfl) V3 (fun ⟨l,at_,_⟩=> hb l at_ ())
def Zsj:Zj U:=lvl [([0,1,4],[4]),([0,1,4,5],[4]),([0,1,4,5,9],[4]),([0,1,4,5],[4]),([0,1,4,5,18],[4]),([4],[4]),([4],[4])]
def Z9f(l:List Kid)(at_ d:Int):LSt U:=(L2 [(0,.c (sU .kid l .unk)),pI 1 at_,pL 4,pI 5 d] [(.loc 4,zc1)])
abbrev ZIx(p:List Nat):=AW (Z3 Zqg) Tryz.f213 Zsj p
abbrev ZKo(p:List Nat):=SW (Z3 Zqg) Tryz.f213 Zsj p
theorem ZIX(l:List Kid)(at_:Int)(Q:QT)(h:(Zi (ZIx [1,0,1,0,0]) (Z9f l at_ 0) (xB 0 (ZKo [1,1] Q)))):
  ZIx [] (L2 [(0,.c (sU .kid l .unk)),pI 1 at_] []) Q:=
 Eq.mpr V6 h
theorem Zwd(l:List Kid)(at_ d:Int)(N0:NT)(Q:QT)(h:let z0:=l.getD d.toNat (KidOf.mk 0 Edit.nil);(iB (decide (d < (l.length:Int))) (((0:Int)<=d/\d < (l.length:Int))/\(iB (((KidOf.at_ z0):Int)==at_) (((0:Int)<=d/\d < (l.length:Int))/\(Q .ret (L2 [pL 4] [(.loc 4,(enc .edit (KidOf.e z0)))]))) ((InR (d+1))/\(N0 (Z9f l at_ (d+1)))))) ((Q .ret (L2 [pL 4] [(.loc 4,zc1)]))))):
  ZIx [1,0,1,0,0] (Z9f l at_ d) (xT N0 (xB 0 (ZKo [1,1] Q))):=
 Eq.mpr V6 h
def ZDP(l:List Kid)(at_:Int):Prop:=AW (Z3 Zqg) Tryz.f213 Zsj [] (Zm (ZtB.can (l,at_,())) []) (EQ Tryz.f213 (Zl7 (l,at_,())) [])
theorem ZBW(hb:∀ (l:List Kid) (at_:Int) (_:Unit),ZdK (l,at_,())->ZDP l at_):CT 213 Z6p:=
 Z9 (l:=[]) Zo rfl trivial Zsj Tryz.func213 rfl rfl 2 (fun _=> rfl) V3 (fun ⟨l,at_,_⟩=> hb l at_ ())
def Zsp:Zj U:=lvk [([0,1],[]),([0,1,5],[]),([0,1,(5,[.own .int]),6,7],[]),([0,1,5,6,7,18],[]),([0,1,5,6,7],[]),([0,1,5,6,7,8],[]),([0,1,5,6,7,23],[]),([0,1,5,6,7,8],[]),([0,1,5,6,7,8,60],[]),([0,1,5,6,7,8,60],[]),([0,1,5,6,7,8,74],[]),([0,1,5,6,7,8,74],[]),([0,1,(5,[.own .int]),6,7],[]),([4],[])]
def Z2D(a b:List Int)(d s:Int)(h:List Int):LSt U:=(L2 [(0,.c (sU .int a .unk)),(1,.c (sU .int b .unk)),(5,.c (sU .int h (.own (.e 5 0)))),pI 6 d,pI 7 s] [])
def Z9l(a b:List Int)(h x7:Int)(s:List Int)(d:Int):LSt U:=(L2 [(0,.c (sU .int a .unk)),(1,.c (sU .int b .unk)),(5,.c (sU .int s (.own (.e 5 0)))),pI 6 h,pI 7 x7,pI 8 d] [])
def Z9k(a b:List Int)(s x7:Int)(x5:List Int)(d h:Int):LSt U:=(L2 [(0,.c (sU .int a .unk)),(1,.c (sU .int b .unk)),(5,.c (sU .int x5 (.own (.e 5 0)))),pI 6 h,pI 7 x7,pI 8 d,(60,.c (.bool (bif (decide ((s:Int) < (a.length:Int))) then (((a.getD s.toNat (0:Int)):Int)==d) else false)))] [])
def Z9j(a b:List Int)(x7:Int)(x5:List Int)(d h s:Int):LSt U:=(L2 [(0,.c (sU .int a .unk)),(1,.c (sU .int b .unk)),(5,.c (sU .int x5 (.own (.e 5 0)))),pI 6 h,pI 7 s,pI 8 d,(74,.c (.bool (bif (decide ((x7:Int) < (b.length:Int))) then (((b.getD x7.toNat (0:Int)):Int)==d) else false)))] [])
abbrev Zbh(p:List Nat):=AW (Z3 Zqg) Tryz.f200 Zsp p
abbrev ZiP(p:List Nat):=SW (Z3 Zqg) Tryz.f200 Zsp p
theorem ZJ9(a b:List Int)(Q:QT)(h:(Zi (Zbh [1,1,1,0,0,0]) (Z2D a b 0 0 []) (xB 0 (ZiP [1,1,1,1] Q)))):
  Zbh [] (L2 [(0,.c (sU .int a .unk)),(1,.c (sU .int b .unk))] []) Q:=
 Eq.mpr V6 h
theorem Zwk(a b:List Int)(s d:Int)(x5:List Int)(N0:NT)(Q:QT)(h:∀ aa,aa=(a.getD s.toNat (0:Int))->∀ ab,ab=(b.getD d.toNat (0:Int))->let z3:=xB 1 (xT N0 (xB 0 (ZiP [1,1,1,1] Q)));let z2:=decide (s < (a.length:Int));let z1:=decide (((b.length:Int):Int)<=d);let z0:=(!z1) && z2;(Tt (!z2))/\(Tt (!z2))/\(Tt (!z2))/\(z2=false->(!z2)=true)/\(iB (bif z2 then true else (decide (d < (b.length:Int)))) (((Tt (!z1))/\(Tt (!z1))/\(Tt (!z1))/\(Tt (!z1))/\(Tt z0)/\(Tt z0)/\(z0=true->(0:Int)<=s/\s < (a.length:Int))/\(Tt z0)/\(Tt z0)/\(Tt z0)/\(z0=true->(0:Int)<=d/\d < (b.length:Int))/\(Tt z0)/\(Tt z0)/\(Tt z0)/\((!z1)=true->(True->(!z1)=true))/\((!z1)=true->(z2=true->z0=true))/\(z1=false->(!z1)=true)/\(iB (bif z1 then true else (bif z2 then (decide (aa < ab)) else false)) (((0:Int)<=s/\s < (a.length:Int))/\(Zbh [1,1,1,0,0,0,1,0,1,1] (Z9l a b s d x5 aa) z3)) (((0:Int)<=d/\d < (b.length:Int))/\(Zbh [1,1,1,0,0,0,1,0,1,1] (Z9l a b s d x5 ab) z3))))) ((Q .ret (L2 [(4,.c (sU .int x5 (.own (.e 4 0))))] []))))):
  Zbh [1,1,1,0,0,0] (Z2D a b s d x5) (xT N0 (xB 0 (ZiP [1,1,1,1] Q))):=
 Eq.mpr V6 (h _ rfl _ rfl)
theorem Zwn(a b:List Int)(s x7:Int)(x5:List Int)(d:Int)(N0:NT)(Q:QT)(h:let z1:=xB 1 (xT N0 (xB 0 (ZiP [1,1,1,1] Q)));let z0:=decide (s < (a.length:Int));(Tt z0)/\(Tt z0)/\(z0=true->(0:Int)<=s/\s < (a.length:Int))/\(Tt z0)/\(Tt z0)/\(Tt z0)/\(Tt z0)/\(iB (bif z0 then (((a.getD s.toNat (0:Int)):Int)==d) else false) ((InR (s+1))/\(Zbh [1,1,1,0,0,0,1,0,1,1,1] (Z9k a b s x7 x5 d (s+1)) z1)) (Zbh [1,1,1,0,0,0,1,0,1,1,1] (Z9k a b s x7 x5 d s) z1))):
  Zbh [1,1,1,0,0,0,1,0,1,1] (Z9l a b s x7 x5 d) (xB 1 (xT N0 (xB 0 (ZiP [1,1,1,1] Q)))):=
 Eq.mpr V6 h
theorem Zwm(a b:List Int)(x6 x7:Int)(x5:List Int)(d s:Int)(N0:NT)(Q:QT)(h:let z1:=xB 1 (xT N0 (xB 0 (ZiP [1,1,1,1] Q)));let z0:=decide (x7 < (b.length:Int));(Tt z0)/\(Tt z0)/\(z0=true->(0:Int)<=x7/\x7 < (b.length:Int))/\(Tt z0)/\(Tt z0)/\(Tt z0)/\(Tt z0)/\(iB (bif z0 then (((b.getD x7.toNat (0:Int)):Int)==d) else false) ((InR (x7+1))/\(Zbh [1,1,1,0,0,0,1,0,1,1,1,1] (Z9j a b x7 x5 d s (x7+1)) z1)) (Zbh [1,1,1,0,0,0,1,0,1,1,1,1] (Z9j a b x7 x5 d s x7) z1))):
  Zbh [1,1,1,0,0,0,1,0,1,1,1] (Z9k a b x6 x7 x5 d s) (xB 1 (xT N0 (xB 0 (ZiP [1,1,1,1] Q)))):=
 Eq.mpr V6 h
theorem Zwl(a b:List Int)(x7:Int)(x5:List Int)(d s aa:Int)(N0:NT)(Q:QT)(h:((x5.length+([d]).length)*8<=140737488355328)/\(N0 (Z2D a b s aa (x5++([d]))))):
  Zbh [1,1,1,0,0,0,1,0,1,1,1,1] (Z9j a b x7 x5 d s aa) (xB 1 (xT N0 (xB 0 (ZiP [1,1,1,1] Q)))):=
 Eq.mpr V6 h
def ZE1(a b:List Int):Prop:=AW (Z3 Zqg) Tryz.f200 Zsp [] (Zm (ZtK.can (a,b,())) []) (EQ Tryz.f200 (Zpk (a,b,())) [])
theorem ZC5(hb:∀ (a:List Int) (b:List Int) (_:Unit),Zlo (a,b,())->ZE1 a b):CT 200 ZbB:=
 Z9 (l:=[]) Zo rfl trivial Zsp Tryz.func200 rfl rfl 2 (fun _=> rfl) V3 (fun ⟨a,b,_⟩=> hb a b ())
def ZlY:List (FuncId × Fs U):=[(200,ZbB)]
def ZsB:Zj U:=lvk [([2,3],[2,3]),([2,3,6,7,8,9],[2,3]),([2,3,(6,[.own .int]),7,8,9,10],[2,3]),([2,3,6,7,8,9,10,18],[2,3]),([2,3,(6,[.own .int]),7,8,9,10],[2,3]),([2,3,6,7,8,9,10],[2,3]),([2,3,6,(7,[.own .int]),8,9,11],[2,3]),([2,3,6,7,8,9,11,34],[2,3]),([2,3,6,(7,[.own .int]),8,9,11],[2,3]),([2,3,6,7,8,9,11],[2,3]),([2,3,6,7,(8,[.own .int]),9,12],[2,3]),([2,3,6,7,8,9,12,50],[2,3]),([2,3,6,7,(8,[.own .int]),9,12],[2,3]),([2,3,6,7,8,9,12],[2,3]),([3,6,7,8,(9,[.own .int]),13],[3]),([3,6,7,8,9,13,66],[3]),([3,6,7,8,(9,[.own .int]),13],[3]),([3,6,7,8,9,13],[3]),([4,5],[])]
def Z9z(p q:Edit)(d:Int)(h:List Int):LSt U:=(L2 [pL 2,pL 3,(6,.c (sU .int h (.own (.e 6 0)))),(7,.c (.nils)),(8,.c (.nils)),(9,.c (.nils)),pI 10 d] [(.loc 2,(enc .edit p)),(.loc 3,(enc .edit q))])
def Z9y(p q:Edit)(s:List Int)(d:Int)(h:List Int):LSt U:=(L2 [pL 2,pL 3,(6,.c (sU .int s (.own (.e 6 0)))),(7,.c (sU .int h (.own (.e 7 0)))),(8,.c (.nils)),(9,.c (.nils)),pI 11 d] [(.loc 2,(enc .edit p)),(.loc 3,(enc .edit q))])
def Z9x(p q:Edit)(x6 s:List Int)(d:Int)(h:List Int):LSt U:=(L2 [pL 2,pL 3,(6,.c (sU .int x6 (.own (.e 6 0)))),(7,.c (sU .int s (.own (.e 7 0)))),(8,.c (sU .int h (.own (.e 8 0)))),(9,.c (.nils)),pI 12 d] [(.loc 2,(enc .edit p)),(.loc 3,(enc .edit q))])
def Z9w(p q:Edit)(x6 s aa:List Int)(d:Int)(h:List Int):LSt U:=(L2 [pL 3,(6,.c (sU .int x6 (.own (.e 6 0)))),(7,.c (sU .int s (.own (.e 7 0)))),(8,.c (sU .int aa (.own (.e 8 0)))),(9,.c (sU .int h (.own (.e 9 0)))),pI 13 d] [(.loc 3,(enc .edit q))])
abbrev ZmE(p:List Nat):=AW (Z3 ZlY) Tryz.f152 ZsB p
abbrev ZoU(p:List Nat):=SW (Z3 ZlY) Tryz.f152 ZsB p
theorem ZJz(p q:Edit)(Q:QT)(h:(Zi (ZmE [1,1,0,1,0,0]) (Z9z p q 0 []) (xB 0 (ZoU [1,1,1] Q)))):
  ZmE [] (L2 [(0,.agg (enc .edit p)),(1,.agg (enc .edit q))] []) Q:=
 Eq.mpr V6 h
theorem ZwS(p q:Edit)(d:Int)(s:List Int)(N0:NT)(Q:QT)(h:let z0:=p.words.getD d.toNat (WEdit.mk 0 0 0 0);(iB (decide (d < (p.words.length:Int))) (((0:Int)<=d/\d < (p.words.length:Int))/\((s.length+([WEdit.at_ z0]).length)*8<=140737488355328)/\((InR (d+1))/\(N0 (Z9z p q (d+1) (s++([WEdit.at_ z0])))))) ((Zi (ZmE [1,1,1,0,1,0,0]) (Z9y p q s 0 []) (xB 2 (ZoU [1,1,1,1] Q)))))):
  ZmE [1,1,0,1,0,0] (Z9z p q d s) (xT N0 (xB 0 (ZoU [1,1,1] Q))):=
 Eq.mpr V6 h
theorem ZwR(p q:Edit)(x6:List Int)(d:Int)(s:List Int)(N1:NT)(Q:QT)(h:let z0:=q.words.getD d.toNat (WEdit.mk 0 0 0 0);(iB (decide (d < (q.words.length:Int))) (((0:Int)<=d/\d < (q.words.length:Int))/\((s.length+([WEdit.at_ z0]).length)*8<=140737488355328)/\((InR (d+1))/\(N1 (Z9y p q x6 (d+1) (s++([WEdit.at_ z0])))))) ((Zi (ZmE [1,1,1,1,0,1,0,0]) (Z9x p q x6 s 0 []) (xB 4 (ZoU [1,1,1,1,1] Q)))))):
  ZmE [1,1,1,0,1,0,0] (Z9y p q x6 d s) (xT N1 (xB 2 (ZoU [1,1,1,1] Q))):=
 Eq.mpr V6 h
theorem ZwQ(p q:Edit)(x6 aa:List Int)(d:Int)(s:List Int)(N2:NT)(Q:QT)(h:let z0:=p.kids.getD d.toNat (KidOf.mk 0 Edit.nil);(iB (decide (d < (p.kids.length:Int))) (((0:Int)<=d/\d < (p.kids.length:Int))/\((s.length+([KidOf.at_ z0]).length)*8<=140737488355328)/\((InR (d+1))/\(N2 (Z9x p q x6 aa (d+1) (s++([KidOf.at_ z0])))))) ((Zi (ZmE [1,1,1,1,1,0,1,0,0]) (Z9w p q x6 aa s 0 []) (xB 6 (ZoU [1,1,1,1,1,1] Q)))))):
  ZmE [1,1,1,1,0,1,0,0] (Z9x p q x6 aa d s) (xT N2 (xB 4 (ZoU [1,1,1,1,1] Q))):=
 Eq.mpr V6 h
theorem ZwP(p q:Edit)(x6 aa ab:List Int)(d:Int)(s:List Int)(N3:NT)(Q:QT)(h:let z0:=q.kids.getD d.toNat (KidOf.mk 0 Edit.nil);(iB (decide (d < (q.kids.length:Int))) (((0:Int)<=d/\d < (q.kids.length:Int))/\((s.length+([KidOf.at_ z0]).length)*8<=140737488355328)/\((InR (d+1))/\(N3 (Z9w p q x6 aa ab (d+1) (s++([KidOf.at_ z0])))))) ((Zlo (x6,aa,()))/\(Zlo (ab,s,()))/\(Q .ret (L2 [(4,.c (sU .int (YJ x6 aa) .unk)),(5,.c (sU .int (YJ ab s) .unk))] []))))):
  ZmE [1,1,1,1,1,0,1,0,0] (Z9w p q x6 aa ab d s) (xT N3 (xB 6 (ZoU [1,1,1,1,1,1] Q))):=
 Eq.mpr V6 h
def ZEr(p q:Edit):Prop:=AW (Z3 ZlY) Tryz.f152 ZsB [] (Zm (ZqV.can (p,q,())) []) (EQ Tryz.f152 (Zy2 (p,q,())) [])
theorem ZCo(ZHc:CT 200 ZbB)(hb:∀ (p:Edit) (q:Edit) (_:Unit),ZpD (p,q,())->ZEr p q):CT 152 Z6v:=
 Z9 (l:=[(200,ZbB)]) Zo rfl (⟨ZHc,trivial⟩) ZsB Tryz.func152 rfl rfl 2 (fun _=> rfl) V3 (fun ⟨p,q,_⟩=> hb p q ())
def Z6X(N:Nat):List (FuncId × Fs U):=(112,fs ZqV (fun a=> [Z34 a,Zfc a < N]) Z6L) ::(167,fs ZqV (fun a=> [Z7N a,Zag a < N]) Z6H) ::(168,fs ZqV (fun a=> [Z7M a,Zag a < N]) Z6G) ::(214,fs Z78 (fun a=> [Z7L a,ZhT a < N]) Z6E) ::[(135,Z4H),(133,Z6n),(152,Z6v),(211,Z6r),(213,Z6p),(212,Z6q),(157,Z6t),(156,Z6u),(201,Z6s),(151,Z0i)]
def Zzm:Zj U:=lvl [([2,3,4],[2,3,4]),([2,3,4,10],[2,3,4]),([4,5],[4]),([2,3,4,15],[2,3,4]),([4,5],[4]),([2,3,4,20],[2,3,4]),([2,4,6,7],[2,4,6]),([4,5],[4]),([2,3,4,36],[2,3,4]),([3,4,8,9],[3,4,8]),([4,5],[4]),([2,3,4,53],[2,3,4]),([4,5],[4]),([2,3,4,60],[2,3,4]),([4,5],[4]),([4,5],[4])]
abbrev ZM5(N:Nat)(p:List Nat):=AW (Z3 (Z6X N)) Tryz.f112 Zzm p
theorem ZJQ(N:Nat)(p q:Edit)(Q:QT)(h:∀ s,s=p->∀ d,d=q->∀ ae,ae=(p.new)->∀ ab,ab=(q.old)->∀ aa,aa=(Zp (Zt s))->(iB (p.kind==0) ((Q .ret (L2 [pL 4,pB 5 true] [(.loc 4,(enc .edit q))]))) ((iB (q.kind==0) ((Q .ret (L2 [pL 4,pB 5 true] [(.loc 4,(enc .edit p))]))) ((iB (p.kind==1) ((Z5F (d,ae,()))/\(Q .ret (L2 [pL 4,pB 5 ((doE true d ae).isSome)] [(.loc 4,([ci 1]++enc .tree p.old++enc .tree (YP (doE true d ae))++[.nils,.nils,ci 0,.nils]))]))) ((iB (q.kind==1) ((Z4f (s,()))/\(Z5F (aa,ab,()))/\(Q .ret (L2 [pL 4,pB 5 ((doE true aa ab).isSome)] [(.loc 4,([ci 1]++enc .tree (YP (doE true aa ab))++enc .tree q.new++[.nils,.nils,ci 0,.nils]))]))) ((iB (p.kind !=q.kind) ((Q .ret (L2 [pL 4,pB 5 false] [(.loc 4,zc1)]))) ((iB (p.kind==2) ((Z7N (s,d,()))/\(Zag (s,d,()) < N)/\(Q .ret (L2 [pL 4,pB 5 ((ZiX s d).2)] [(.loc 4,(enc .edit ((ZiX s d).1)))]))) ((Z7M (s,d,()))/\(Zag (s,d,()) < N)/\(Q .ret (L2 [pL 4,pB 5 ((ZiY s d).2)] [(.loc 4,(enc .edit ((ZiY s d).1)))]))))))))))))))):
  ZM5 N [] (L2 [(0,.agg (enc .edit p)),(1,.agg (enc .edit q))] []) Q:=
 Eq.mpr V6 (h _ (Z5 _) _ (Z5 _) _ (Zc _) _ (Zc _) _ (Z5 _))
def ZEI(N:Nat)(p q:Edit):Prop:=AW (Z3 (Z6X N)) Tryz.f112 Zzm [] (Zm (ZqV.can (p,q,())) []) (EQ Tryz.f112 (Z6L (p,q,())) [])
abbrev ZFH:Prop:=∀ (N:Nat) (p:Edit) (q:Edit) (_:Unit),Z34 (p,q,())->Zfc (p,q,()) < N+1->ZEI N p q
def Zsx:Zj U:=lvk [([2,3,4],[2,3,4]),([2,3,4,6],[2,3,4,6]),([2,3,4,6,7,8],[2,3,4,6]),([2,3,4,6,7,8,9],[2,3,4,((.loc 6),(an 7 [.own .wedit]))]),([2,3,4,6,7,8,9,29],[2,3,4,6]),([2,3,4,6,7,8,9],[2,3,4,((.loc 6),(an 7 [.own .wedit]))]),([2,3,4,6,7,8,9,10,11],[2,3,4,6,10]),([2,3,4,6,7,8,9,10,11,12,13],[2,3,4,6,10,12]),([2,3,4,6,7,8,9,14,15],[2,3,4,6,14]),([2,3,4,6,7,8,9,14,59],[2,3,4,6,14]),([4,5],[4]),([2,3,4,6,7,8,9],[2,3,4,6]),([2,3,4,6,7,8,9,10,11,12,67],[2,3,4,6,10,12]),([2,3,4,6,7,8,9],[2,3,4,6]),([2,3,4,6,7,8,9,10,12,76],[2,3,4,6,10,12]),([2,3,4,6,7,8,9],[2,3,4,6]),([2,3,4,6,8,16],[2,3,4,((.loc 6),(an 8 [.own .kid]))]),([2,3,4,6,8,16,88],[2,3,4,6]),([2,3,4,6,8,16],[2,3,4,((.loc 6),(an 8 [.own .kid]))]),([2,3,4,6,8,16,17,18],[2,3,4,6,17]),([2,3,4,6,8,16,17,110],[2,3,4,6,17]),([4,5],[4]),([2,3,4,6,8,16],[2,3,4,6]),([4,5],[4])]
def Z2I(p q:Edit)(h:Int)(d:List WEdit):LSt U:=(L2 [pL 2,pL 3,pL 4,pL 6,(7,.c (sU .int (YJ ((Edit.mk p.kind (Tree.mk p.old.kind p.old.words p.old.kids) (Tree.mk p.new.kind p.new.words p.new.kids) p.words p.kids p.list p.ops).words.map WEdit.at_) ((Edit.mk q.kind (Tree.mk q.old.kind q.old.words q.old.kids) (Tree.mk q.new.kind q.new.words q.new.kids) q.words q.kids q.list q.ops).words.map WEdit.at_)) .unk)),(8,.c (sU .int (YJ ((Edit.mk p.kind (Tree.mk p.old.kind p.old.words p.old.kids) (Tree.mk p.new.kind p.new.words p.new.kids) p.words p.kids p.list p.ops).kids.map KidOf.at_) ((Edit.mk q.kind (Tree.mk q.old.kind q.old.words q.old.kids) (Tree.mk q.new.kind q.new.words q.new.kids) q.words q.kids q.list q.ops).kids.map KidOf.at_)) .unk)),pI 9 h] [(.loc 2,(enc .edit p)),(.loc 3,(enc .edit q)),(.loc 4,zc1),(.loc 6,[ci 2,ci 0,.nils,.nils,ci 0,.nils,.nils,sU .wedit d (.own (.l 6 7)),.nils,ci 0,.nils])])
def Z60(p q:Edit)(h:Int)(d:List WEdit):LSt U:=(L2 [pL 2,pL 3,pL 4,pL 6,(7,.c (sU .int (YJ ((Edit.mk p.kind (Tree.mk p.old.kind p.old.words p.old.kids) (Tree.mk p.new.kind p.new.words p.new.kids) p.words p.kids p.list p.ops).words.map WEdit.at_) ((Edit.mk q.kind (Tree.mk q.old.kind q.old.words q.old.kids) (Tree.mk q.new.kind q.new.words q.new.kids) q.words q.kids q.list q.ops).words.map WEdit.at_)) .unk)),(8,.c (sU .int (YJ ((Edit.mk p.kind (Tree.mk p.old.kind p.old.words p.old.kids) (Tree.mk p.new.kind p.new.words p.new.kids) p.words p.kids p.list p.ops).kids.map KidOf.at_) ((Edit.mk q.kind (Tree.mk q.old.kind q.old.words q.old.kids) (Tree.mk q.new.kind q.new.words q.new.kids) q.words q.kids q.list q.ops).kids.map KidOf.at_)) .unk)),pI 9 h] [(.loc 2,(enc .edit p)),(.loc 3,(enc .edit q)),(.loc 4,zc1),(.loc 6,[ci 2,ci 0,.nils,.nils,ci 0,.nils,.nils,sU .wedit d (.own (.l 6 7)),.nils,ci 0,.nils])])
def Z9t(p q:Edit)(s:List WEdit)(h:Int)(d:List Kid):LSt U:=(L2 [pL 2,pL 3,pL 4,pL 6,(8,.c (sU .int (YJ ((Edit.mk p.kind (Tree.mk p.old.kind p.old.words p.old.kids) (Tree.mk p.new.kind p.new.words p.new.kids) p.words p.kids p.list p.ops).kids.map KidOf.at_) ((Edit.mk q.kind (Tree.mk q.old.kind q.old.words q.old.kids) (Tree.mk q.new.kind q.new.words q.new.kids) q.words q.kids q.list q.ops).kids.map KidOf.at_)) .unk)),pI 16 h] [(.loc 2,(enc .edit p)),(.loc 3,(enc .edit q)),(.loc 4,zc1),(.loc 6,[ci 2,ci 0,.nils,.nils,ci 0,.nils,.nils,sU .wedit s (.own (.l 6 7)),sU .kid d (.own (.l 6 8)),ci 0,.nils])])
abbrev Zjb(N:Nat)(p:List Nat):=AW (Z3 (Z6X N)) Tryz.f167 Zsx p
abbrev ZqX(N:Nat)(p:List Nat):=SW (Z3 (Z6X N)) Tryz.f167 Zsx p
theorem ZJt(N:Nat)(p q:Edit)(Q:QT)(h:((ZpD ((Edit.mk p.kind (Tree.mk p.old.kind p.old.words p.old.kids) (Tree.mk p.new.kind p.new.words p.new.kids) p.words p.kids p.list p.ops),(Edit.mk q.kind (Tree.mk q.old.kind q.old.words q.old.kids) (Tree.mk q.new.kind q.new.words q.new.kids) q.words q.kids q.list q.ops),()))/\(Zi (Zjb N [1,1,1,0,1,0,0]) (Z2I p q 0 []) (xB 0 (ZqX N [1,1,1,1] Q))))):
  Zjb N [] (L2 [(0,.agg (enc .edit p)),(1,.agg (enc .edit q))] []) Q:=
 Eq.mpr V6 h
theorem ZwI(N:Nat)(p q:Edit)(x9:Int)(d:List WEdit)(N0:NT)(Q:QT)(h:∀ ai,ai=p->∀ aj,aj=q->∀ ae,ae=(YJ (ai.words.map WEdit.at_) (aj.words.map WEdit.at_))->∀ s,s=(ae.getD x9.toNat (0:Int))->∀ ab,ab=((Z2C p.words s).getD (WEdit.mk 0 0 0 0))->∀ aa,aa=((Z2C q.words s).getD (WEdit.mk 0 0 0 0))->∀ ah,ah=((YY ab aa).1)->let z0:=xT N0 (xB 0 (ZqX N [1,1,1,1] Q));(iB (decide (x9 < (ae.length:Int))) (((0:Int)<=x9/\x9 < (ae.length:Int))/\(Zln (p.words,s,()))/\(((0:Int)<=x9/\x9 < (ae.length:Int))/\(Zln (q.words,s,()))/\(iB (!((Z2C q.words s).isSome)) (((d.length+([ab]).length)*32<=140737488355328)/\(Zjb N [1,1,1,0,1,0,0,1,1] (Z60 p q x9 (d++([ab]))) z0)) ((iB (!((Z2C p.words s).isSome)) (((d.length+([aa]).length)*32<=140737488355328)/\(Zjb N [1,1,1,0,1,0,0,1,1] (Z60 p q x9 (d++([aa]))) z0)) ((Zpy (ab,aa,()))/\(iB (!((YY ab aa).2)) ((Q .ret (L2 [pL 4,pB 5 false] [(.loc 4,zc1)]))) (((d.length+([ah]).length)*32<=140737488355328)/\(Zjb N [1,1,1,0,1,0,0,1,1] (Z60 p q x9 (d++([ah]))) z0))))))))) ((Zi (Zjb N [1,1,1,1,0,1,0,0]) (Z9t p q d 0 []) (xB 3 (ZqX N [1,1,1,1,1] Q)))))):
  Zjb N [1,1,1,0,1,0,0] (Z2I p q x9 d) (xT N0 (xB 0 (ZqX N [1,1,1,1] Q))):=
 Eq.mpr V6 (h _ (Z5 _) _ (Z5 _) _ rfl _ rfl _ (Z2z _) _ (Z2z _) _ (Z2z _))
theorem ZwJ(N:Nat)(p q:Edit)(s:Int)(d:List WEdit)(N0:NT)(Q:QT)(h:(InR (s+1))/\(N0 (Z2I p q (s+1) d))):
  Zjb N [1,1,1,0,1,0,0,1,1] (Z60 p q s d) (xT N0 (xB 0 (ZqX N [1,1,1,1] Q))):=
 Eq.mpr V6 h
theorem ZwH(N:Nat)(p q:Edit)(aa:List WEdit)(d:Int)(s:List Kid)(N2:NT)(Q:QT)(h:∀ aj,aj=p->∀ ak,ak=q->∀ ae,ae=(YJ (aj.kids.map KidOf.at_) (ak.kids.map KidOf.at_))->∀ ab,ab=(ae.getD d.toNat (0:Int))->∀ ah,ah=(Z0x p.kids ab)->∀ af,af=(Z0x q.kids ab)->∀ ai,ai=((JM ah af).1)->(iB (decide (d < (ae.length:Int))) (((0:Int)<=d/\d < (ae.length:Int))/\(ZdK (p.kids,ab,()))/\((0:Int)<=d/\d < (ae.length:Int))/\(ZdK (q.kids,ab,()))/\(Z34 (ah,af,()))/\(Zfc (ah,af,()) < N)/\(iB (!((JM ah af).2)) ((Q .ret (L2 [pL 4,pB 5 false] [(.loc 4,zc1)]))) (((0:Int)<=d/\d < (ae.length:Int))/\((s.length+([(KidOf.mk ab ai)]).length)*208<=140737488355328)/\((InR (d+1))/\(N2 (Z9t p q aa (d+1) (s++([(KidOf.mk ab ai)])))))))) ((Q .ret (L2 [pL 4,pB 5 true] [(.loc 4,[ci 2,ci 0,.nils,.nils,ci 0,.nils,.nils,sU .wedit aa (.own (.l 4 7)),sU .kid s (.own (.l 4 8)),ci 0,.nils])]))))):
  Zjb N [1,1,1,1,0,1,0,0] (Z9t p q aa d s) (xT N2 (xB 3 (ZqX N [1,1,1,1,1] Q))):=
 Eq.mpr V6 (h _ (Z5 _) _ (Z5 _) _ rfl _ rfl _ (Z5 _) _ (Z5 _) _ (Z5 _))
def ZEl(N:Nat)(p q:Edit):Prop:=AW (Z3 (Z6X N)) Tryz.f167 Zsx [] (Zm (ZqV.can (p,q,())) []) (EQ Tryz.f167 (Z6H (p,q,())) [])
abbrev ZFz:Prop:=∀ (N:Nat) (p:Edit) (q:Edit) (_:Unit),Z7N (p,q,())->Zag (p,q,()) < N+1->ZEl N p q
def Zsw:Zj U:=lvk [([2,3,4],[2,3,4]),([2,3,4,6,7],[2,3,4]),([2,4,6,30],[2,4]),([4,5],[4]),([4,6,8],[4,8]),([4,6,8,9],[4,((.loc 8),(an 10 [.own .op]))]),([4,6,8,9,38],[4,8]),([4,6,8,9],[4,((.loc 8),(an 10 [.own .op]))]),([4,6,8,9,45],[4,8]),([4,6,8,9,10,11],[4,8]),([4,6,8,9,10,61],[4,8]),([4,5],[4]),([4,6,8,9],[4,8]),([4,6,8,9,45,68],[4,8]),([4,6,8,9],[4,8]),([4,6,8,9,81],[4,8]),([4,6,8,9],[4,8]),([4,5],[4])]
def Z2H(p q:Edit)(h:Int)(d:List Op):LSt U:=(L2 [pL 4,(6,.c (sU .pair ((Yg (ZO 0 1 p.ops) (ZO 0 2 q.ops) []).1) .unk)),pL 8,pI 9 h] [(.loc 4,zc1),(.loc 8,[ci 3,ci 0,.nils,.nils,ci 0,.nils,.nils,.nils,.nils,ci p.list,sU .op d (.own (.l 8 10))])])
def Z5Z(p q:Edit)(h:Int)(d:List Op):LSt U:=(L2 [pL 4,(6,.c (sU .pair ((Yg (ZO 0 1 p.ops) (ZO 0 2 q.ops) []).1) .unk)),pL 8,pI 9 h] [(.loc 4,zc1),(.loc 8,[ci 3,ci 0,.nils,.nils,ci 0,.nils,.nils,.nils,.nils,ci p.list,sU .op d (.own (.l 8 10))])])
abbrev ZoW(N:Nat)(p:List Nat):=AW (Z3 (Z6X N)) Tryz.f168 Zsw p
abbrev ZAO(N:Nat)(p:List Nat):=SW (Z3 (Z6X N)) Tryz.f168 Zsw p
theorem ZJs(N:Nat)(p q:Edit)(Q:QT)(h:let z0:= !((Yg (ZO 0 1 p.ops) (ZO 0 2 q.ops) []).2);((Zhy (p.ops,1,()))/\(Zhy (q.ops,2,()))/\(Zls ((ZO 0 1 p.ops),(ZO 0 2 q.ops),()))/\((Tt (!z0))/\(Tt (!z0))/\(Tt (!z0))/\(Tt (!z0))/\(z0=false->(!z0)=true)/\(iB (bif z0 then true else (p.list !=q.list)) ((Q .ret (L2 [pL 4,pB 5 false] [(.loc 4,zc1)]))) ((Zi (ZoW N [1,1,1,1,0,1,0,0]) (Z2H p q 0 []) (xB 0 (ZAO N [1,1,1,1,1] Q)))))))):
  ZoW N [] (L2 [(0,.agg (enc .edit p)),(1,.agg (enc .edit q))] []) Q:=
 Eq.mpr V6 h
theorem ZwF(N:Nat)(p q:Edit)(x9:Int)(d:List Op)(N0:NT)(Q:QT)(h:∀ s,s=(Yg (ZO 0 1 p.ops) (ZO 0 2 q.ops) [])->∀ af,af=(List.getD (s.1) x9.toNat (APair.mk 0 AUnit.nil AUnit.nil))->∀ ab,ab=(af.p)->∀ ae,ae=(af.q)->∀ ai,ai=(opU ab)->∀ ah,ah=(opU ae)->let z1:=Z0E JM ab ae;let z0:=xT N0 (xB 0 (ZAO N [1,1,1,1,1] Q));(iB (decide (x9 < ((s.1).length:Int))) (((0:Int)<=x9/\x9 < ((s.1).length:Int))/\(iB (af.of==1) (((0:Int)<=x9/\x9 < ((s.1).length:Int))/\(ZdN (ab,()))/\((d.length+([ai]).length)*240<=140737488355328)/\(ZoW N [1,1,1,1,0,1,0,0,1,1] (Z5Z p q x9 (d++([ai]))) z0)) ((iB (af.of==2) (((0:Int)<=x9/\x9 < ((s.1).length:Int))/\(ZdN (ae,()))/\((d.length+([ah]).length)*240<=140737488355328)/\(ZoW N [1,1,1,1,0,1,0,0,1,1] (Z5Z p q x9 (d++([ah]))) z0)) (((0:Int)<=x9/\x9 < ((s.1).length:Int))/\((0:Int)<=x9/\x9 < ((s.1).length:Int))/\(Z7L (ab,ae,()))/\(ZhT (ab,ae,()) < N)/\(iB (!(z1.2)) ((Q .ret (L2 [pL 4,pB 5 false] [(.loc 4,zc1)]))) (((d.length+(z1.1).length)*240<=140737488355328)/\(ZoW N [1,1,1,1,0,1,0,0,1,1] (Z5Z p q x9 (d++(z1.1))) z0)))))))) ((Q .ret (L2 [pL 4,pB 5 true] [(.loc 4,[ci 3,ci 0,.nils,.nils,ci 0,.nils,.nils,.nils,.nils,ci p.list,sU .op d (.own (.l 4 10))])]))))):
  ZoW N [1,1,1,1,0,1,0,0] (Z2H p q x9 d) (xT N0 (xB 0 (ZAO N [1,1,1,1,1] Q))):=
 Eq.mpr V6 (h _ rfl _ rfl _ (Z1T _) _ (Z1T _) _ (Jt _) _ (Jt _))
theorem ZwG(N:Nat)(p q:Edit)(s:Int)(d:List Op)(N0:NT)(Q:QT)(h:(InR (s+1))/\(N0 (Z2H p q (s+1) d))):
  ZoW N [1,1,1,1,0,1,0,0,1,1] (Z5Z p q s d) (xT N0 (xB 0 (ZAO N [1,1,1,1,1] Q))):=
 Eq.mpr V6 h
def ZEk(N:Nat)(p q:Edit):Prop:=AW (Z3 (Z6X N)) Tryz.f168 Zsw [] (Zm (ZqV.can (p,q,())) []) (EQ Tryz.f168 (Z6G (p,q,())) [])
abbrev ZFy:Prop:=∀ (N:Nat) (p:Edit) (q:Edit) (_:Unit),Z7M (p,q,())->Zag (p,q,()) < N+1->ZEk N p q
def ZyX:Zj U:=lvl [([2,3],[2,3]),([2,3,14],[2,3]),([4,5],[]),([2,3,20],[2,3]),([4,5],[]),([2,3,31],[2,3]),([4,5],[]),([2,3,39],[2,3]),([6,7],[6]),([4,5],[]),([2,3,55],[2,3]),([8,9],[8]),([4,5],[]),([10,11],[10]),([4,5],[])]
abbrev ZLM(N:Nat)(p:List Nat):=AW (Z3 (Z6X N)) Tryz.f214 ZyX p
theorem ZIW(N:Nat)(p q:AUnit)(Q:QT)(h:∀ ai,ai=p->∀ aj,aj=q->∀ s,s=(p.e)->∀ d,d=(q.e)->∀ ae,ae=(p.t)->∀ ab,ab=(q.t)->∀ al,al=(opU ai)->∀ ak,ak=(opU aj)->∀ am,am=((JM s d).1)->∀ aa,aa=(Zp (Zt s))->∀ af,af=(YP (doE true d ae))->∀ ah,ah=(YP (doE true aa ab))->let z0:=Edit.mk 0 (Tree.mk 0 [] []) (Tree.mk 0 [] []) [] [] 0 [];(iB (q.kind==0) ((ZdN (ai,()))/\(Q .ret (L2 [(4,.c (sU .op ([al]) .full)),pB 5 true] []))) ((iB (p.kind==0) ((ZdN (aj,()))/\(Q .ret (L2 [(4,.c (sU .op ([ak]) .full)),pB 5 true] []))) ((Tt (p.kind==2))/\(Tt (p.kind==2))/\(Tt (p.kind==2))/\(iB (bif (p.kind==2) then (q.kind==1) else false) ((Z4j (ae,ab,()))/\(Q .ret (L2 [(4,.c (.nils)),pB 5 (YM (Z6 ae) (Z6 ab))] []))) ((iB (p.kind==2) ((Z5F (d,ae,()))/\(Q .ret (L2 [(4,.c (sU .op ([(OpOf.mk 2 0 ([af]) z0)]) .full)),pB 5 ((doE true d ae).isSome)] []))) ((iB (q.kind==1) ((Z4f (s,()))/\(Z5F (aa,ab,()))/\(Q .ret (L2 [(4,.c (sU .op ([(OpOf.mk 1 0 ([ah]) z0)]) .full)),pB 5 ((doE true aa ab).isSome)] []))) ((Z34 (s,d,()))/\(Zfc (s,d,()) < N)/\(Q .ret (L2 [(4,.c (sU .op ([(OpOf.mk 3 0 [] am)]) .full)),pB 5 ((JM s d).2)] []))))))))))))):
  ZLM N [] (L2 [(0,.agg (enc .unit p)),(1,.agg (enc .unit q))] []) Q:=
 Eq.mpr V6 (h _ (Z1T _) _ (Z1T _) _ (Z5 _) _ (Z5 _) _ (Zc _) _ (Zc _) _ (Jt _) _ (Jt _) _ (Z5 _) _ (Z5 _) _ (Zc _) _ (Zc _))
def ZDO(N:Nat)(p q:AUnit):Prop:=AW (Z3 (Z6X N)) Tryz.f214 ZyX [] (Zm (Z78.can (p,q,())) []) (EQ Tryz.f214 (Z6E (p,q,())) [])
abbrev ZFr:Prop:=∀ (N:Nat) (p:AUnit) (q:AUnit) (_:Unit),Z7L (p,q,())->ZhT (p,q,()) < N+1->ZDO N p q
theorem ZyN(ZHr:CT 135 Z4H)(ZHs:CT 133 Z6n)(ZHo:CT 152 Z6v)(ZH5:CT 211 Z6r)(ZH3:CT 213 Z6p)(ZH4:CT 212 Z6q)(ZHm:CT 157 Z6t)(ZHn:CT 156 Z6u)(ZHb:CT 201 Z6s)(ZvM:CT 151 Z0i)(ZHO:ZFH)(ZHI:ZFz)(ZHH:ZFy)(ZHB:ZFr):
  CT 112 Z8K/\CT 167 Zrr/\CT 168 Zrq/\CT 214 Zrj:=by
 have ae:FK 112:=⟨Tryz.f112,Tryz.func112,rfl,rfl⟩
 have aa:FK 167:=⟨Tryz.f167,Tryz.func167,rfl,rfl⟩
 have ab:FK 168:=⟨Tryz.f168,Tryz.func168,rfl,rfl⟩
 have s:FK 214:=⟨Tryz.f214,Tryz.func214,rfl,rfl⟩
 have d:∀ N,CT 112 (fs ZqV (fun a=> [Z34 a,Zfc a < N]) Z6L)/\CT 167 (fs ZqV (fun a=> [Z7N a,Zag a < N]) Z6H)/\CT 168 (fs ZqV (fun a=> [Z7M a,Zag a < N]) Z6G)/\CT 214 (fs Z78 (fun a=> [Z7L a,ZhT a < N]) Z6E):=by
  intro N
  induction N with
  | zero=> exact ⟨JU ae,JU aa,JU ab,JU s⟩
  | succ N ih=>
   have kn:=Z19 (l:=Z6X N) ⟨ih.1,ih.2.1,ih.2.2.1,ih.2.2.2,ZHr,ZHs,ZHo,ZH5,ZH3,ZH4,ZHm,ZHn,ZHb,ZvM,trivial⟩
   exact ⟨ZJ (Γ:=Z3 (Z6X N)) Zo rfl kn Zzm Tryz.func112 rfl rfl (fun a=> by show 2<=_;decide) (fun ⟨p,q,_⟩ h=> ZHO N p q () h.1 h.2.1),
    ZJ (Γ:=Z3 (Z6X N)) Zo rfl kn Zsx Tryz.func167 rfl rfl (fun a=> by show 2<=_;decide) (fun ⟨p,q,_⟩ h=> ZHI N p q () h.1 h.2.1),
    ZJ (Γ:=Z3 (Z6X N)) Zo rfl kn Zsw Tryz.func168 rfl rfl (fun a=> by show 2<=_;decide) (fun ⟨p,q,_⟩ h=> ZHH N p q () h.1 h.2.1),
    ZJ (Γ:=Z3 (Z6X N)) Zo rfl kn ZyX Tryz.func214 rfl rfl (fun a=> by show 2<=_;decide) (fun ⟨p,q,_⟩ h=> ZHB N p q () h.1 h.2.1)⟩
 exact ⟨JV ae fun N=> (d N).1,JV aa fun N=> (d N).2.1,JV ab fun N=> (d N).2.2.1,JV s fun N=> (d N).2.2.2⟩
end
end Go.AM.YtpjenobkibfpcaaGreat
