import Derived.Test.YtpjenobkibfpcaaGreatZKM07
import Derived.Test.YtpjenobkibfpcaaGreatZKL07
set_option linter.unusedSimpArgs false
set_option linter.unusedVariables false
namespace Go.AM.YtpjenobkibfpcaaGreat
open Go.AM Go.Proofs
noncomputable section
def Zb4(a:Edit × Unit):Nat:=2*Z8 a.1
def ZfN(a:Edit × Unit):V U:= .agg (enc .edit (Zn a.1))
def Zan:Fs U:=fs ZsH (fun a=> [Z9q a]) ZfN
def Z9m(a:Op × Unit):Prop:=Zu a.1<=20000000000
def ZgF(a:Op × Unit):Nat:=2*Zu a.1+1
def Z6O(a:Op × Unit):V U:= .agg (enc .op (Y8 a.1))
def Zpt:Fs U:=fs Zs6 (fun a=> [Z9m a]) Z6O
def Z0b(N:Nat):List (FuncId × Fs U):=(131,fs ZsH (fun a=> [Z9q a,Zb4 a < N]) ZfN) ::(182,fs Zs6 (fun a=> [Z9m a,ZgF a < N]) Z6O) ::[]
def Z3I:Za U:=lvk [([1,2],[1,2]),([1,2,3],[1,2,3]),([1,2,3,20,21,22],[1,2,((.loc 3),(an 7 [.own .wedit]))]),([1,2,3,20,21,22,23],[1,2,3]),([1,2,3,5,20,21,22],[1,2,3,5]),([1,2,3,20,21,22],[1,2,3]),([1,2,3,20,21,22],[1,2,((.loc 3),(an 7 [.own .wedit]))]),([1,2,3,42,43,44],[1,2,((.loc 3),(an 8 [.own .kid]))]),([1,2,3,42,43,44,45],[1,2,3]),([1,2,3,7,42,43,44],[1,2,3,7]),([1,2,3,42,43,44],[1,2,3]),([1,2,3,42,43,44],[1,2,((.loc 3),(an 8 [.own .kid]))]),([2,3,61,62,63],[2,((.loc 3),(an 10 [.own .op]))]),([2,3,61,62,63,64],[2,3]),([2,3,9,61,62,63],[2,3,9]),([2,3,61,62,63],[2,3]),([2,3,61,62,63],[2,((.loc 3),(an 10 [.own .op]))]),([2],[2])]
def Z8a(e:Edit)(s:Int)(h:List WEdit):LSt U:=(L2 [pL 1,pL 2,pL 3,(20,.c (sU .wedit e.words .unk)),pI 21 (e.words.length:Int),pI 22 s] [(.loc 1,(enc .edit e)),(.loc 2,zc1),(.loc 3,([ci e.kind]++enc .tree e.new++enc .tree e.old++[sU .wedit h (.own (.l 3 7)),.nils,ci e.list,.nils]))])
def Z89(e:Edit)(u:List WEdit)(s:Int)(h:List Kid):LSt U:=(L2 [pL 1,pL 2,pL 3,(42,.c (sU .kid e.kids .unk)),pI 43 (e.kids.length:Int),pI 44 s] [(.loc 1,(enc .edit e)),(.loc 2,zc1),(.loc 3,([ci e.kind]++enc .tree e.new++enc .tree e.old++[sU .wedit u (.own (.l 3 7)),sU .kid h (.own (.l 3 8)),ci e.list,.nils]))])
def Z88(e:Edit)(aa:List WEdit)(s:List Kid)(u:Int)(h:List Op):LSt U:=(L2 [pL 2,pL 3,(61,.c (sU .op e.ops .unk)),pI 62 (e.ops.length:Int),pI 63 u] [(.loc 2,zc1),(.loc 3,([ci e.kind]++enc .tree e.new++enc .tree e.old++[sU .wedit aa (.own (.l 3 7)),sU .kid s (.own (.l 3 8)),ci e.list,sU .op h (.own (.l 3 10))]))])
abbrev ZM6(N:Nat)(e:Edit)(Q:QT):=AW (Z2 (Z0b N)) Tryz.f131 Z3I [] (L2 [(0,.agg (enc .edit e))] []) Q
theorem ZJJ(N:Nat)(e:Edit)(Q:QT)(h:Zp (AW (Z2 (Z0b N)) Tryz.f131 Z3I [1,1,0,1,0,0]) (Z8a e 0 []) (xB 0 (SW (Z2 (Z0b N)) Tryz.f131 Z3I [1,1,1] Q))):
  ZM6 N e Q:=
 Eq.mpr V3 h
abbrev ZCB(N:Nat)(e:Edit)(s:Int)(h:List WEdit)(N0:NT)(Q:QT):=AW (Z2 (Z0b N)) Tryz.f131 Z3I [1,1,0,1,0,0] (Z8a e s h) (xT N0 (xB 0 (SW (Z2 (Z0b N)) Tryz.f131 Z3I [1,1,1] Q)))
theorem Zvc(N:Nat)(e:Edit)(u:Int)(s:List WEdit)(N0:NT)(Q:QT)(h:let z0:=e.words.getD u.toNat (WEdit.mk 0 0 0 0);let z1:=WEdit.mk (WEdit.at_ z0) (WEdit.mask z0) (WEdit.new z0) (WEdit.old z0);iB (decide (u < (e.words.length:Int))) (((0:Int)<=u/\u < (e.words.length:Int))/\(((s.length+([z1]).length)*32<=140737488355328)/\((InR (u+1))/\(N0 (Z8a e (u+1) (s++([z1]))))))) (Zp (AW (Z2 (Z0b N)) Tryz.f131 Z3I [1,1,1,0,1,0,0]) (Z89 e s 0 []) (xB 2 (SW (Z2 (Z0b N)) Tryz.f131 Z3I [1,1,1,1] Q)))):
  ZCB N e u s N0 Q:=
 Eq.mpr V3 h
abbrev ZCA(N:Nat)(e:Edit)(u:List WEdit)(s:Int)(h:List Kid)(N1:NT)(Q:QT):=AW (Z2 (Z0b N)) Tryz.f131 Z3I [1,1,1,0,1,0,0] (Z89 e u s h) (xT N1 (xB 2 (SW (Z2 (Z0b N)) Tryz.f131 Z3I [1,1,1,1] Q)))
theorem Zvb(N:Nat)(e:Edit)(aa:List WEdit)(s:Int)(u:List Kid)(N1:NT)(Q:QT)(h:∀ ae,ae=(e.kids.getD s.toNat (KidOf.mk 0 Edit.nil))->∀ ab,ab=(ae.e)->∀ af,af=(Zn ab)->iB (decide (s < (e.kids.length:Int))) (((0:Int)<=s/\s < (e.kids.length:Int))/\((Z9q (ab,()))/\(Zb4 (ab,()) < N)/\((u.length+([(KidOf.mk ae.at_ af:Kid)]).length)*208<=140737488355328)/\((InR (s+1))/\(N1 (Z89 e aa (s+1) (u++([(KidOf.mk ae.at_ af:Kid)]))))))) (Zp (AW (Z2 (Z0b N)) Tryz.f131 Z3I [1,1,1,1,0,1,0,0]) (Z88 e aa u 0 []) (xB 4 (SW (Z2 (Z0b N)) Tryz.f131 Z3I [1,1,1,1,1] Q)))):
  ZCA N e aa s u N1 Q:=
 Eq.mpr V3 (h _ rfl _ (Z7 _) _ (Z7 _))
abbrev ZCz(N:Nat)(e:Edit)(aa:List WEdit)(s:List Kid)(u:Int)(h:List Op)(N2:NT)(Q:QT):=AW (Z2 (Z0b N)) Tryz.f131 Z3I [1,1,1,1,0,1,0,0] (Z88 e aa s u h) (xT N2 (xB 4 (SW (Z2 (Z0b N)) Tryz.f131 Z3I [1,1,1,1,1] Q)))
theorem Zva(N:Nat)(e:Edit)(ab:List WEdit)(aa:List Kid)(u:Int)(s:List Op)(N2:NT)(Q:QT)(h:∀ ah,ah=(e.ops.getD u.toNat Op.nil)->∀ ae,ae=ah->∀ af,af=(Y8 ae)->iB (decide (u < (e.ops.length:Int))) (((0:Int)<=u/\u < (e.ops.length:Int))/\((Z9m (ae,()))/\(ZgF (ae,()) < N)/\((s.length+([af]).length)*240<=140737488355328)/\((InR (u+1))/\(N2 (Z88 e ab aa (u+1) (s++([af]))))))) (Q .ret (L2 [pL 2] [(.loc 2,([ci e.kind]++enc .tree e.new++enc .tree e.old++[sU .wedit ab (.own (.l 2 7)),sU .kid aa (.own (.l 2 8)),ci e.list,sU .op s (.own (.l 2 10))]))]))):
  ZCz N e ab aa u s N2 Q:=
 Eq.mpr V3 (h _ rfl _ (YB _) _ (YB _))
def ZDS(N:Nat)(e:Edit):Prop:=AW (Z2 (Z0b N)) Tryz.f131 Z3I [] (Zf (ZsH.can (e,())) []) (EQ Tryz.f131 (ZfN (e,())) [])
abbrev ZEV:Prop:=∀ (N:Nat) (e:Edit) (_:Unit),Z9q (e,())->Zb4 (e,()) < N+1->ZDS N e
def ZxM:Za U:=lvl [([1,2],[1,2]),([1,2,4],[1,2]),([1,2,4,5],[1,2]),([1,2],[1,2]),([1,2,4,8],[1,2]),([1,2],[1,2]),([1,2,11],[1,2]),([1,2],[1,2]),([2],[2])]
abbrev ZLX(N:Nat)(o:Op)(Q:QT):=AW (Z2 (Z0b N)) Tryz.f182 ZxM [] (L2 [(0,.agg (enc .op o))] []) Q
theorem ZJh(N:Nat)(o:Op)(Q:QT)(h:∀ s,s=(o.e)->iB (o.kind==1) (Q .ret (L2 [pL 2] [(.loc 2,([ci 2,ci o.n,sU .tree o.l .unk]++enc .edit o.e))])) (iB (o.kind==2) (Q .ret (L2 [pL 2] [(.loc 2,([ci 1,ci o.n,sU .tree o.l .unk]++enc .edit o.e))])) (iB (o.kind==3) ((Z9q (s,()))/\(Zb4 (s,()) < N)/\(Q .ret (L2 [pL 2] [(.loc 2,([ci o.kind,ci o.n,sU .tree o.l .unk]++enc .edit (Zn s)))]))) (Q .ret (L2 [pL 2] [(.loc 2,(enc .op o))]))))):
  ZLX N o Q:=
 Eq.mpr V3 (h _ (Z7 _))
def ZDq(N:Nat)(o:Op):Prop:=AW (Z2 (Z0b N)) Tryz.f182 ZxM [] (Zf (Zs6.can (o,())) []) (EQ Tryz.f182 (Z6O (o,())) [])
abbrev ZEQ:Prop:=∀ (N:Nat) (o:Op) (_:Unit),Z9m (o,())->ZgF (o,()) < N+1->ZDq N o
theorem Zmr(ha:ZEV)(hb:ZEQ):CT 131 Zan/\CT 182 Zpt:=
 Z4z (μA:=Zb4) (μB:=ZgF) (l:=[]) Ze rfl trivial Z3I ZxM Tryz.func131 Tryz.func182 rfl rfl rfl rfl 1 1 (fun _=> rfl) (fun _=> rfl) V2 V2 (fun N ⟨e,_⟩=> ha N e ()) (fun N ⟨o,_⟩=> hb N o ())
end
theorem Z04(o:Op):Y8 o=if o.kind=1 then ⟨2,o.n,o.l,o.e⟩ else if o.kind=2 then ⟨1,o.n,o.l,o.e⟩ else if o.kind=3 then ⟨o.kind,o.n,o.l,Zn o.e⟩ else ⟨o.kind,o.n,o.l,o.e⟩:=by cases o;rfl
theorem ZvE(e:Edit):Zn e= .mk e.kind e.new e.old (e.words.map Jk) (Y9 e.kids) e.list (Ye e.ops):=by cases e;rfl
theorem Zf0(k:Kid):YY k=⟨k.at_,Zn k.e⟩:=by cases k;rfl
theorem ZLN:ZEQ:=by
 intro N o _ hp hN
 simp only [Z9m,ZgF] at hp hN
 rw [Y5] at hp hN
 have ab:=Z3f o.e
 refine ZJh _ _ _ ?_
 rintro y u
 (simp only [iB,vcS])
 refine ⟨fun h=> ?_,fun h=> ⟨fun s=> ?_,fun s=> ⟨fun h3=> ⟨by simp only [Z9q,u];omega,by simp only [Zb4,u];omega,?_⟩,fun h3=> ?_⟩⟩⟩
 .have e:Y8 o=⟨2,o.n,o.l,o.e⟩:=by rw [Z04,if_pos h]
  simp only [Z6O,e]
  exact V0
 .have e:Y8 o=⟨1,o.n,o.l,o.e⟩:=by rw [Z04,if_neg h,if_pos s]
  simp only [Z6O,e]
  exact V0
 .have e:Y8 o=⟨o.kind,o.n,o.l,Zn o.e⟩:=by rw [Z04,if_neg h,if_neg s,if_pos h3]
  simp only [Z6O,e]
  rw [u]
  exact V0
 .have e:Y8 o=⟨o.kind,o.n,o.l,o.e⟩:=by rw [Z04,if_neg h,if_neg s,if_neg h3]
  simp only [Z6O,e]
  exact V0
theorem ZLO:ZEV:=by
 intro N e _ hp hN
 simp only [Z9q,Zb4] at hp hN
 have h1:=YK e
 have h2:=Yb e.kids
 have h3:=Yo e.ops
 have ha:=ZvE e
 refine ZJJ _ _ _ ?_
 refine Zc (ι:=Int × List WEdit) (fun s=> Z8a e s.1 s.2) (fun s=> 0<=s.1/\s.1<=e.words.length/\s.2.length=s.1/\s.2++(e.words.drop s.1.toNat).map Jk=e.words.map Jk) (fun s=> ((e.words.length:Int) - s.1).toNat) (0,[]) rfl ⟨by simp,by simp,by simp,by simp⟩ ?_
 rintro ⟨i,ws⟩ ⟨g1,g2,g3,g4⟩
 dsimp only at g1 g2 g3 g4
 refine Zvc _ _ _ _ _ _ ?_
 (simp only [iB,vcS])
 refine ⟨fun hi=> ?_,fun hi=> ?_⟩
 .rw [YE g1 hi (WEdit.mk 0 0 0 0)] at g4
  simp only [Xb] at g4
  refine ⟨⟨g1,hi⟩,by simp;omega,V1,(i+1,ws++[Jk (e.words.getD i.toNat (WEdit.mk 0 0 0 0))]),rfl,⟨JX,JX,by simp;omega,?_⟩,JX⟩
  grind
 .rw [Qc JX] at g4
  simp only [Kd,Ql] at g4
  refine Zc (ι:=Int × List Kid) (fun s=> Z89 e ws s.1 s.2) (fun s=> 0<=s.1/\s.1<=e.kids.length/\s.2.length=s.1/\s.2++Y9 (e.kids.drop s.1.toNat)=Y9 e.kids) (fun s=> ((e.kids.length:Int) - s.1).toNat) (0,[]) rfl ⟨by simp,by simp,by simp,by simp⟩ ?_
  rintro ⟨j,ks⟩ ⟨f1,f2,f3,h⟩
  dsimp only at f1 f2 f3 h
  refine Zvb _ _ _ _ _ _ _ ?_
  rintro y1 ak y2 aj y3 aq
  (simp only [iB,vcS])
  refine ⟨fun hj=> ?_,fun hj=> ?_⟩
  .have hm:=Z0n (Zk (l:=e.kids) (i:=j.toNat) JX (KidOf.mk 0 Edit.nil))
   rw [YE f1 hj (KidOf.mk 0 Edit.nil)] at h
   rw [<-ak] at h hm
   simp only [Y9,Zf0] at h
   rw [<-aj] at h hm
   rw [<-aq] at h
   refine ⟨⟨f1,hj⟩,by simp only [Z9q];omega,by simp only [Zb4];omega,by simp;omega,V1,(j+1,ks++[⟨y1.at_,y3⟩]),rfl,⟨JX,JX,by simp;omega,?_⟩,JX⟩
   grind
  .rw [Qc JX] at h
   simp only [Y9,Ql] at h
   refine Zc (ι:=Int × List Op) (fun s=> Z88 e ws ks s.1 s.2) (fun s=> 0<=s.1/\s.1<=e.ops.length/\s.2.length=s.1/\s.2++Ye (e.ops.drop s.1.toNat)=Ye e.ops) (fun s=> ((e.ops.length:Int) - s.1).toNat) (0,[]) rfl ⟨by simp,by simp,by simp,by simp⟩ ?_
   rintro ⟨k,os⟩ ⟨d1,d2,d3,u⟩
   dsimp only at d1 d2 d3 u
   refine Zva _ _ _ _ _ _ _ _ ?_
   rintro z1 am z2 ai z3 af
   (simp only [iB,vcS])
   refine ⟨fun hj=> ?_,fun hj=> ?_⟩
   .have hm:=YJ (Zk (l:=e.ops) (i:=k.toNat) JX Op.nil)
    rw [YE d1 hj Op.nil] at u
    rw [<-am,<-ai] at u hm
    simp only [Ye] at u
    rw [<-af] at u
    refine ⟨⟨d1,hj⟩,by simp only [Z9m];omega,by simp only [ZgF];omega,by simp;omega,V1,(k+1,os++[z3]),rfl,⟨JX,JX,by simp;omega,?_⟩,JX⟩
    grind
   .rw [Qc JX] at u
    simp only [Ye,Ql] at u
    rw [g4,h,u]
    simp only [ZfN,ha]
    exact V0
theorem Zzg:Contract Tryz.prog cfg 131 Zan/\Contract Tryz.prog cfg 182 Zpt:=Zmr ZLO ZLN
theorem JS:∀ (l:List Op) (n:Int),Z2u l n=l++[⟨0,n,[],Edit.nil⟩]\/∃ a o,l=a++[o]/\o.kind=0/\Z2u l n=a++[⟨o.kind,o.n+n,o.l,o.e⟩]
 | [],n=> Or.inl rfl
 | [o],n=> by
  by_cases h:o.kind=0
  .exact Or.inr ⟨[],o,rfl,h,by simp [Z2u,h]⟩
  .exact Or.inl (by simp [Z2u,h])
 | o ::p ::r,n=> by
  rcases JS (p ::r) n with h | ⟨a,q,h1,h2,h3⟩
  .exact Or.inl (by simp only [Z2u,h,QA])
  .exact Or.inr ⟨o ::a,q,by rw [h1];rfl,h2,by simp only [Z2u,h3,QA]⟩
def W0:Wst:=⟨[],[],[]⟩
theorem Zdg(l:List Tree):Z6 (Z6 l)=Z6 l:=by
 simp only [Z6,List.map_map]
 congr 1
 funext t
 exact ZI t
theorem Yu(a b:List Tree):Z6 (a++b)=Z6 a++Z6 b:=by simp [Z6]
end Go.AM.YtpjenobkibfpcaaGreat
namespace Go.AM
theorem ZaX{t:Tree}(h:YM t=true):t=Tree.nil:=by
 obtain ⟨k,w,ks⟩:=t
 simp only [YM,decide_eq_true_eq] at h
 obtain ⟨s,h2,u⟩:=h
 have s:k=0:=s
 rw [s,Q5 (l:=w) h2,Q5 (l:=ks) u]
 try rfl
theorem ZlE{e:Edit}(h:Z1M e=true):e=Edit.nil:=by
 obtain ⟨k,o,n,w,ks,l,os⟩:=e
 simp only [Z1M,Q6,decide_eq_true_eq] at h
 obtain ⟨⟨⟨s,h2⟩,h3⟩,h4,h5,h6,u⟩:=h
 have s:k=0:=s
 have u:l=0:=u
 rw [s,u,ZaX (t:=o) h2,ZaX (t:=n) h3,Q5 (l:=w) h4,Q5 (l:=ks) h5,Q5 (l:=os) h6]
 try rfl
structure RightE (e:Edit) (d:Int):Prop where
 d0:d≠0
 kind:0<=e.kind/\e.kind<=3
 none:e.kind≠1->e.old=Tree.nil/\e.new=Tree.nil
 words0:e.kind≠2->e.words=[]/\e.kids=[]
 ops0:e.kind≠3->e.list=0/\e.ops=[]
 rep:e.kind=1->Zd e.old (dT d)=true/\Zd e.new (dT d)=true/\e.old.kind≠10/\e.new.kind≠10
 words:ZL (-1) e.words=true
 kids:Zw (-1) e.kids (d - 1)=true
 list:e.kind=3->2<=e.list/\e.list<=9
 ops:Zz e.list e.ops (d - 1)=true
 len:Z1C e.ops 0 < 1048576/\Z1B e.ops 0 < 1048576
theorem Zh{e:Edit}{d:Int}(h:Z3 e d=true):RightE e d:=by
 obtain ⟨k,o,n,w,ks,l,os⟩:=e
 rw [Z3] at h
 split at h
 .cases h
 .rename_i a
  split at h
  .cases h
  .rename_i b
   have b1:k≠1->o=Tree.nil/\n=Tree.nil:=by
    intro s
    by_cases x:YM o=true/\YM n=true
    .exact ⟨ZaX x.1,ZaX x.2⟩
    .grind
   have u:k≠2->w=[]/\ks=[]:=by
    intro s
    by_cases x:w.length=0/\ks.length=0
    .exact ⟨Q5 x.1,Q5 x.2⟩
    .exact absurd (.inr (.inl ⟨s,x⟩)) b
   have b3:k≠3->l=0/\os=[]:=by
    intro s
    by_cases x:l≠0\/os.length≠0
    .exact absurd (.inr (.inr ⟨s,x⟩)) b
    .exact ⟨JX,Q5 JX⟩
   split at h
   .rename_i c
    simp only [Q6,decide_eq_true_eq] at h
    obtain ⟨⟨h1,h2⟩,h3,h4⟩:=h
    have c2:=u JX
    have c3:=b3 JX
    obtain ⟨rfl,rfl⟩:=c2
    obtain ⟨rfl,rfl⟩:=c3
    exact ⟨JX,⟨by simp_all,by simp_all⟩,b1,u,b3,fun _=> ⟨h1,h2,h3,h4⟩,rfl,rfl,fun e=> by simp_all,rfl,by show Z1C [] 0 < _/\Z1B [] 0 < _;trivial⟩
   .rename_i c
    simp only [Q6,decide_eq_true_eq] at h
    obtain ⟨⟨⟨⟨h1,h2⟩,h3⟩,h4⟩,h5⟩:=h
    exact ⟨JX,⟨by simp_all,by simp_all⟩,b1,u,b3,fun e=> absurd e c,h1,h2,fun e=> by simp_all,h4,h5⟩
theorem Zs:∀ {ks:List Kid} {last d:Int},Zw last ks d=true->∀ k∈ks,(last < k.at_/\k.at_<=65534/\k.e.kind≠0)/\Z3 k.e d=true
 | [],_,_,_,_,hk=> by cases hk
 | ⟨a,e⟩ ::r,last,d,h,k,hk=> by
  simp only [Zw,Jl,Q6,decide_eq_true_eq] at h
  obtain ⟨⟨h1,u⟩,s⟩:=h
  rcases Qa.1 hk with rfl | hk
  .grind
  .have:=Zs s k hk
   grind
theorem rightOs_mem{list:Int}:∀ {os:List Op} {d:Int},Zz list os d=true->∀ o∈os,Zb list o d=true
 | [],_,_,_,ho=> by cases ho
 | a ::r,d,h,o,ho=> by
  simp only [Zz,Q6] at h
  rcases Qa.1 ho with rfl | ho
  .exact h.1
  .exact rightOs_mem h.2 o ho
theorem YQ:∀ {ws:List WEdit} {last:Int},ZL last ws=true->∀ w∈ws,last < w.at_/\w.at_<=65534/\w.mask≠0/\ZG w.old w.mask=true/\ZG w.new w.mask=true
 | [],_,_,_,hw=> by cases hw
 | a ::r,last,h,w,hw=> by
  simp only [ZL,Q6,decide_eq_true_eq] at h
  obtain ⟨⟨⟨h1,h2⟩,u⟩,s⟩:=h
  rcases Qa.1 hw with rfl | hw
  .grind
  .have:=YQ s w hw
   grind
inductive RightOp (list:Int) (d:Int):Op->Prop
 | keep (n:Int):1<=n->n<=1048576->RightOp list d ⟨0,n,[],Edit.nil⟩
 | gone (l:List Tree):YF (dT d) list l=true->0 < l.length->RightOp list d ⟨1,0,l,Edit.nil⟩
 | come (l:List Tree):YF (dT d) list l=true->0 < l.length->RightOp list d ⟨2,0,l,Edit.nil⟩
 | into (e:Edit):Z3 e d=true->e.kind≠0->7 < list->(list=8\/e.kind=2\/e.kind=1/\e.old.kind=1/\e.new.kind=1)->RightOp list d ⟨3,0,[],e⟩
theorem ZN{list:Int}{o:Op}{d:Int}(h:Zb list o d=true):RightOp list d o:=by
 obtain ⟨k,n,l,e⟩:=o
 rw [Zb] at h
 split at h
 .rename_i hk
  simp only [Q6,decide_eq_true_eq] at h
  obtain ⟨⟨h1,h2,u⟩,s⟩:=h
  rw [hk,ZlE s,Q5 u]
  exact .keep n h1 h2
 .rename_i h0
  split at h
  .cases h
  .rename_i h1
   have hn:n=0:=JX
   subst hn
   split at h
   .rename_i h2
    simp only [Q6,decide_eq_true_eq] at h
    obtain ⟨⟨u,s⟩,h5⟩:=h
    rw [ZlE h5]
    by_cases hk:k=1
    .rw [hk];exact .gone l u s
    .rw [show k=2 by omega];exact .come l u s
   .rename_i h2
    simp only [Q6,decide_eq_true_eq] at h
    obtain ⟨⟨⟨u,s,h5⟩,h6⟩,h7⟩:=h
    rw [show k=3 by omega,Q5 u]
    exact .into e h6 s h5 h7
theorem Znv{e:Edit}{d:Int}(h:Z3 e d=true):(∀ k∈e.kids,∃ d,Z3 k.e d=true)/\(∀ o∈e.ops,∃ l d,Zb l o d=true)/\(e.kind=3->2<=e.list/\e.list<=9):=by
 have r:=Zh h
 exact ⟨fun k u=> ⟨_,(Zs r.kids k u).2⟩,fun o s=> ⟨_,_,rightOs_mem r.ops o s⟩,r.list⟩
theorem YH{l d:Int}{o:Op}(h:Zb l o d=true)(hk:o.kind=3):Z3 o.e d=true:=by
 have r:=ZN h
 cases r with
 | into e h1=> exact h1
 | keep | gone | come=> grind
end Go.AM
namespace Go.AM.YtpjenobkibfpcaaGreat
open Go.AM Go.Proofs
theorem Z8J{α:Type}(z:α)(l:List α)(i:Nat)(x:α):(YG z l i x).length=max l.length (i+1):=by
 simp only [YG,List.length_set,Qk,Xk];omega
theorem JP{α:Type}(z:α)(l:List α)(i:Nat)(x:α)(j:Nat):(YG z l i x).getD j z=if j=i then x else l.getD j z:=by
 simp only [YG,Qq,Kk,Qk,Xk]
 grind
theorem Znr{α β:Type}(f:α->β)(z:α)(l:List α)(i:Nat)(x:α):(YG z l i x).map f=YG (f z) (l.map f) i (f x):=by
 simp [YG,List.map_set]
theorem Z4S:∀ l:List Tree,Yz l=Z6 l
 | []=> rfl
 | t ::r=> by simp [Yz,Z6,Z4S r]
theorem ZgB(l:List Tree)(i:Nat)(x:Tree):Z6 (YG Tree.nil l i x)=YG Tree.nil (Z6 l) i (Z0 x):=by
 rw [Z6,Znr,Ziq];try rfl
theorem ZtF{a b:List Tree}{i:Nat}{x y:Tree}(h:Z6 a=Z6 b)(hx:Z0 x=Z0 y):Z6 (YG Tree.nil a i x)=Z6 (YG Tree.nil b i y):=by
 rw [ZgB,ZgB,h,hx]
theorem Z1U{a b c d:List Tree}(h:Z6 a=Z6 b)(hx:Z6 c=Z6 d):Z6 (a++c)=Z6 (b++d):=by
 rw [Yu,Yu,h,hx]
theorem Z71(k:Int)(w:List Int){a b:List Tree}(h:Z6 a=Z6 b):Z0 (.mk k w a)=Z0 (.mk k w b):=by
 simp only [Z0,Z4S,h]
theorem Z3d{a b:List Tree}(h:Z6 a=Z6 b):a.length=b.length:=by
 have:=congrArg List.length h
 simpa [Z6] using this
theorem JK{a b:Tree}:Z6 [a]=Z6 [b]↔Z0 a=Z0 b:=by simp [Z6]
def OptR{α β:Type}(R:α->β->Prop):Option α->Option β->Prop
 | none,none=> True
 | some a,some b=> R a b
 | _,_=> False
theorem OptR.rfl'{α:Type}(a:Option α):OptR Eq a a:=by cases a;exact trivial;exact rfl
theorem OptR.bind{α β γ δ:Type}{R:α->β->Prop}{S:γ->δ->Prop}{a:Option α}{b:Option β}{f:α->Option γ}{g:β->Option δ}(h:OptR R a b)(hf:∀ x y,R x y->OptR S (f x) (g y)):OptR S (a.bind f) (b.bind g):=by
 cases a <;> cases b <;> first | exact trivial | exact h.elim | exact hf _ _ h
theorem OptR.map{α β γ δ:Type}{R:α->β->Prop}{S:γ->δ->Prop}{a:Option α}{b:Option β}{f:α->γ}{g:β->δ}(h:OptR R a b)(hf:∀ x y,R x y->S (f x) (g y)):OptR S (a.map f) (b.map g):=by
 cases a <;> cases b <;> first | exact trivial | exact h.elim | exact hf _ _ h
theorem OptR.ite{α β:Type}{R:α->β->Prop}{p q:Prop} [Decidable p] [Decidable q] {a c:Option α}{b d:Option β}(h:p↔q)(h1:p->OptR R a b)(h2:¬p->OptR R c d):OptR R (if p then a else c) (if q then b else d):=by
 grind
theorem OptR.isSome{α β:Type}{R:α->β->Prop}{a:Option α}{b:Option β}(h:OptR R a b):a.isSome=b.isSome:=by
 cases a <;> cases b <;> first | rfl | exact h.elim
def Eqv(x y:Tree):Prop:=Z0 x=Z0 y
def EqvL(x y:List Tree):Prop:=Z6 x=Z6 y
theorem EqvL.take{x y:List Tree}(h:EqvL x y)(n:Nat):EqvL (x.take n) (y.take n):=by unfold EqvL Z6 at*;simp_all
theorem EqvL.drop{x y:List Tree}(h:EqvL x y)(n:Nat):EqvL (x.drop n) (y.drop n):=by unfold EqvL Z6 at*;simp_all
theorem EqvL.len{x y:List Tree}(h:EqvL x y):x.length=y.length:=Z3d h
theorem ZgA(l:List Tree)(i:Nat):(Z6 l).getD i Tree.nil=Z0 (l.getD i Tree.nil):=by rw [<-Z4S];exact Z14 l i
theorem EqvL.get{x y:List Tree}(h:EqvL x y)(i:Nat):Eqv (x.getD i Tree.nil) (y.getD i Tree.nil):=by
 unfold Eqv;rw [<-ZgA,<-ZgA,h]
theorem ZmT{a b:Option (List Tree × List Tree)}(h:OptR (fun x y=> EqvL x.1 y.1/\EqvL x.2 y.2) a b):OptR EqvL (Z22 a) (Z22 b):=by
 unfold Z22
 refine h.bind fun x y s=> ?_
 exact OptR.ite (by rw [s.2.len]) (fun _=> s.1) (fun _=> trivial)
def ZuH(a b:List Int):Prop:=∀ i:Nat,a.getD i 0=b.getD i 0
def Zpb(a b:List Tree):Prop:=∀ i:Nat,Eqv (a.getD i Tree.nil) (b.getD i Tree.nil)
theorem Z21{a b:Tree}(ha:a.kind=1)(hb:b.kind=1):Eqv a b↔ZuH a.words b.words/\Zpb a.kids b.kids:=by
 unfold Eqv ZuH Zpb
 rw [Jc,ha,hb]
 simp [Eqv]
theorem Zh8{a b:Tree}(h0:a.kind≠0)(h1:a.kind≠1):Eqv a b↔a.kind=b.kind/\a.words=b.words/\EqvL a.kids b.kids:=by
 unfold Eqv EqvL
 rw [Jc,if_neg h1,<-Z4S,<-Z4S,ZaW]
 grind
theorem Eqv.kind{a b:Tree}(h:Eqv a b):a.kind=b.kind:=((Jc a b).1 h).1
theorem Zpe{tw tv:List Int}(h:ZuH tw tv):∀ (ws:List WEdit) (a b:List Int),ZuH a b->OptR ZuH (wsD tw ws a) (wsD tv ws b)
 | [],_,_,hab=> hab
 | w ::r,a,b,hab=> by
  rw [wsD,wsD,h w.at_.toNat]
  refine OptR.ite QN (fun _=> Zpe h r _ _ fun i=> ?_) (fun _=> trivial)
  rw [JP,JP]
  split
  .try rfl
  .exact hab i
theorem Zu8(l:List Tree){a b:List Tree}(h:EqvL a b):JT l a=JT l b:=by
 unfold JT
 rw [h.len,show Z6 (a.take l.length)=Z6 (b.take l.length) from h.take _]
mutual
theorem Z30:∀ (e:Edit) (d:Int) (t s:Tree),Z3 e d=true->Eqv t s->OptR Eqv (doE false e t) (doE false e s)
 | .mk k o n w ks l os,d,t,s,hr,h=> by
  have h1:=ZmX ks t.kids s.kids
  have h2:=Zhc os t.kids s.kids [] []
  have hk:=h.kind
  have ab:=Znv hr
  rw [Z18,Z18,YA,YA]
  show OptR Eqv (if k=0 then _ else _) (if k=0 then _ else _)
  refine OptR.ite QN (fun _=> h) fun _=> OptR.ite QN (fun _=> ?_) fun _=> OptR.ite QN (fun k2=> ?_) fun _=> OptR.ite QN (fun k3=> ?_) (fun _=> trivial)
  .rw [show Z0 t=Z0 s from h]
   exact OptR.ite QN (fun _=> rfl) (fun _=> trivial)
  .refine OptR.ite (by rw [hk]) (fun ht=> ?_) (fun _=> trivial)
   have hs:s.kind=1:=by rw [<-hk];exact ht
   obtain ⟨hw,u⟩:=(Z21 ht hs).1 h
   refine (Zpe hw w t.words s.words hw).bind fun a b af=> ?_
   refine (h1 u ab.1 t.kids s.kids u).map fun x y aa=> ?_
   exact (Z21 rfl rfl).2 ⟨af,aa⟩
  .refine OptR.ite (by rw [hk]) (fun ht=> ?_) (fun _=> trivial)
   have hl:=ab.2.2
   have ah:=ab.2.1
   replace ht:t.kind=l:=ht
   replace hl:2<=l/\l<=9:=hl k3
   obtain ⟨_,_,u⟩:=(Zh8 JX JX).1 h
   exact (ZmT (h2 u rfl ah)).map fun x y aa=> Z71 _ _ aa
theorem ZmX:∀ (ks:List (KidOf Edit)) (tk sk:List Tree),Zpb tk sk->(∀ k∈ks,∃ d,Z3 k.e d=true)->∀ a b,Zpb a b->OptR Zpb (Jy false tk ks a) (Jy false sk ks b)
 | [],_,_,_,_,_,_,hab=> hab
 | k ::r,tk,sk,h,hr,a,b,hab=> by
  rw [Jy,Jy]
  obtain ⟨d,u⟩:=hr k Q7
  refine (Zug k d tk sk h u).bind fun x y s=> ZmX r tk sk h (fun q hq=> hr q (Q0 _ hq)) _ _ fun i=> ?_
  rw [JP,JP]
  split
  .exact s
  .exact hab i
theorem Zug:∀ (k:KidOf Edit) (d:Int) (tk sk:List Tree),Zpb tk sk->Z3 k.e d=true->OptR Eqv (Z2v false tk k) (Z2v false sk k)
 | ⟨a,e⟩,d,tk,sk,h,hr=> by rw [Z2v,Z2v];exact Z30 e d _ _ hr (h _)
theorem Zhc:∀ (os:List (OpOf Edit)) (rt rs a b:List Tree),EqvL rt rs->EqvL a b->(∀ o∈os,∃ l d,Zb l o d=true)->OptR (fun x y=> EqvL x.1 y.1/\EqvL x.2 y.2) (ZM false os rt a) (ZM false os rs b)
 | [],_,_,_,_,h,hab,_=> ⟨hab,h⟩
 | o ::r,rt,rs,a,b,h,hab,hr=> by
  rw [ZM,ZM]
  refine (Zz7 o rt rs a b h hab (hr o Q7)).bind fun x y s=> Zhc r _ _ _ _ s.2 s.1 (fun q u=> hr q (Q0 _ u))
theorem Zz7:∀ (o:OpOf Edit) (rt rs a b:List Tree),EqvL rt rs->EqvL a b->(∃ l d,Zb l o d=true)->OptR (fun x y=> EqvL x.1 y.1/\EqvL x.2 y.2) (Z2C false o rt a) (Z2C false o rs b)
 | ⟨k,n,l,e⟩,rt,rs,a,b,h,hab,u=> by
  obtain ⟨li,d,u⟩:=u
  have he:=fun h3=> Z30 e d (rt.getD 0 Tree.nil) (rs.getD 0 Tree.nil) (YH u h3) (h.get 0)
  have s:=h.len
  rw [Z2C,Z2C]
  refine OptR.ite QN (fun _=> OptR.ite (by rw [s]) (fun _=> ⟨Z1U hab (h.take _),h.drop _⟩) (fun _=> trivial)) fun k0=> OptR.ite QN (fun _=> ?_) fun k1=> OptR.ite QN (fun _=> ⟨Z1U hab rfl,h⟩) fun k2=> OptR.ite (by rw [s]) (fun _=> trivial) fun _=> ?_
  .rw [Zu8 l h]
   exact OptR.ite QN (fun _=> ⟨hab,h.drop _⟩) (fun _=> trivial)
  .have ae:k=0\/k=1\/k=2\/k=3:=by
    have r:=ZN u
    generalize ho:OpOf.mk k n l e=o at r
    cases r <;> (injection ho with h1;subst h1;decide)
   exact (he (by grind)).map fun x y h'=> ⟨Z1U hab (JK.2 h'),h.drop _⟩
end
theorem ZtR(l:List WEdit):(l.map Jk).map Jk=l:=by
 rw [List.map_map]
 have:Jk ∘ Jk=id:=rfl
 simp_all
theorem ZeZ:∀ (ks:List Kid),(Y9 ks).length=ks.length
 | []=> rfl
 | k ::r=> by simp only [Y9,Qm,ZeZ r]
theorem Zmo{α β:Type}{f:α->β}(d:α){a b:List α}(hl:a.length=b.length)(h:∀ i:Nat,i < a.length->f (a.getD i d)=f (b.getD i d)):a.map f=b.map f:=by
 apply List.ext_getElem (by simpa using hl)
 grind
theorem ZdF{α β:Type}{f:α->β}{d:α}{a b:List α}(h:a.map f=b.map f)(i:Nat):f (a.getD i d)=f (b.getD i d):=by
 have e:=congrArg (fun l=> l[i]?.getD (f d)) h
 grind
theorem Z3g(t:Tree):(Z0 t).kind=t.kind:=by
 obtain ⟨k,w,ks⟩:=t
 simp only [Z0]
 by_cases h0:k=0
 .rw [if_pos h0,h0];try rfl
 .rw [if_neg h0]
  by_cases h1:k=1
  .rw [if_pos h1,h1];try rfl
  .rw [if_neg h1];try rfl
theorem Zf1:∀ (l:List Int),∃ r,l=trim l++r
 | []=> ⟨[],rfl⟩
 | x ::r=> by
  obtain ⟨s,h⟩:=Zf1 r
  simp only [trim]
  split
  .rename_i e
   split
   .exact ⟨x ::r,rfl⟩
   .exact ⟨r,rfl⟩
  .rename_i y t e
   rw [e] at h
   exact ⟨s,by rw [h];rfl⟩
theorem ZbV:∀ (l:List Tree),∃ r,l=Yp l++r
 | []=> ⟨[],rfl⟩
 | x ::r=> by
  obtain ⟨s,h⟩:=ZbV r
  simp only [Yp]
  split
  .rename_i e
   split
   .exact ⟨x ::r,rfl⟩
   .exact ⟨r,rfl⟩
  .rename_i y t e
   rw [e] at h
   exact ⟨s,by rw [h];rfl⟩
theorem ZfH{list d:Int}:∀ (a b:List Tree),Yl list (a++b) d=true->Yl list a d=true
 | [],_,_=> rfl
 | t ::r,b,h=> by
  simp only [QA,Yl,Q6] at h ⊢
  exact ⟨h.1,ZfH r b h.2⟩
theorem Z2S:∀ (l:List Tree),(Yz l).length=l.length
 | []=> rfl
 | t ::r=> by simp only [Yz,Qm,Z2S r]
theorem Zu2{list:Int}{t:Tree}(h:Z0V list t=true):Z0V list (Z0 t)=true:=by
 unfold Z0V at h ⊢
 rw [Z3g]
 split at h
 .rename_i hl
  rw [if_pos hl]
  simp only [Q6,decide_eq_true_eq] at h ⊢
  obtain ⟨⟨s,u,h3⟩,h4⟩:=h
  obtain ⟨k,w,ks⟩:=t
  simp only [Tree.kind_mk,Tree.kids_mk,Tree.words_mk] at s u h3 h4
  have:ks=[]:=QW.1 u
  subst this
  subst s
  trivial
 grind
mutual
theorem Z2k:∀ (t:Tree) (d:Int),Zd t d=true->Zd (Z0 t) d=true
 | .mk k w ks,d,h=> by
  have ih:=fun (list:Int) (h:Yl list ks (d - 1)=true)=> Z6M ks list (d - 1) h
  simp only [Zd] at h
  simp only [Z0]
  by_cases h0:k=0
  .rw [if_pos h0];try rfl
  .rw [if_neg h0] at h ⊢
   by_cases h10:k=10
   .subst h10
    rw [if_pos rfl] at h
    rw [if_neg V2]
    simp only [decide_eq_true_eq] at h
    simp only [Zd]
    rw [if_neg V2,if_pos trivial,Z2S]
    simpa using h
   .rw [if_neg h10] at h
    by_cases hd:d=0
    .grind
    .rw [if_neg hd] at h
     by_cases h1:k=1
     .subst h1
      rw [if_pos rfl] at h
      rw [if_pos rfl]
      simp only [Q6,decide_eq_true_eq] at h
      simp only [Zd]
      rw [if_neg V2,if_neg V2,if_neg hd,if_pos trivial]
      simp only [Q6,decide_eq_true_eq]
      obtain ⟨r1,e1⟩:=Zf1 w
      obtain ⟨r2,e2⟩:=ZbV (Yz ks)
      have u:=congrArg List.length e1
      have s:=congrArg List.length e2
      rw [Z2S] at s
      simp only [Qk] at u s
      refine ⟨⟨JX,JX⟩,?_⟩
      have:=ih 1 h.2
      rw [e2] at this
      exact ZfH _ _ this
     .rw [if_neg h1] at h ⊢
      simp only [Q6,decide_eq_true_eq] at h
      simp only [Zd]
      rw [if_neg h0,if_neg h10,if_neg hd,if_neg h1,Z2S]
      grind
theorem Z6M:∀ (l:List Tree) (list d:Int),Yl list l d=true->Yl list (Yz l) d=true
 | [],_,_,_=> rfl
 | t ::r,list,d,h=> by
  simp only [Yl,Q6] at h
  have u:=Z2k t d h.1.2
  have s:=Z6M r list d h.2
  simp only [Yz,Yl,Q6]
  exact ⟨⟨Zu2 h.1.1,u⟩,s⟩
end
theorem Z1P(e:Edit):(Zn e).kind=e.kind:=by cases e;rfl
theorem ZhQ(e:Edit):(Zn e).old=e.new:=by cases e;rfl
theorem ZhR(e:Edit):(Zn e).new=e.old:=by cases e;rfl
theorem Z5n:∀ (l:List WEdit) (last:Int),ZL last (l.map Jk)=ZL last l
 | [],_=> rfl
 | w ::r,last=> by
  simp only [Xb,ZL,Z5n r]
  have h1:(Jk w).at_=w.at_:=rfl
  have s:(Jk w).mask=w.mask:=rfl
  have h:(Jk w).old=w.new:=rfl
  have u:(Jk w).new=w.old:=rfl
  grind
theorem Znl(o:Op):Z4 (Y8 o)=Z4 o/\((Y8 o).kind=2↔o.kind=1)/\((Y8 o).kind=1↔o.kind=2):=by
 rw [Z04]
 by_cases h1:o.kind=1
 .rw [if_pos h1];simp [Z4,h1]
 .rw [if_neg h1]
  by_cases h2:o.kind=2
  .rw [if_pos h2];simp [Z4,h2]
  .rw [if_neg h2]
   by_cases h3:o.kind=3
   .rw [if_pos h3];simp [Z4,h3]
   simp_all
theorem Zbd:∀ (l:List Op) (n:Int),Z1C (Ye l) n=Z1B l n/\Z1B (Ye l) n=Z1C l n
 | [],_=> ⟨rfl,rfl⟩
 | o ::r,n=> by
  obtain ⟨h,u,s⟩:=Znl o
  simp only [Ye,Z1C,Z1B]
  rw [h]
  constructor
  .rw [(Zbd r _).1]
   grind
  .rw [(Zbd r _).2]
   grind
theorem Z91:∀ (l:List Op),(Ye l).length=l.length
 | []=> rfl
 | o ::r=> by simp only [Ye,Qm,Z91 r]
theorem ZAD{list d:Int}{o:Op}(h:Zb list o d=true)(hi:Z3 o.e d=true->Z3 (Zn o.e) d=true):Zb list (Y8 o) d=true:=by
 have h':=h
 rw [JW] at h
 by_cases k0:o.kind=0
 .have e:Y8 o=o:=by rw [Z04,J3,J3,J3]
  grind
 .rw [if_neg k0] at h
  split at h
  .cases h
  .rename_i u
   by_cases k3:o.kind=3
   .rw [J3] at h
    have e:Y8 o=⟨o.kind,o.n,o.l,Zn o.e⟩:=by rw [Z04,J3,J3,if_pos k3]
    rw [e,JW]
    simp only
    rw [if_neg k0,if_neg u,J3,Z1P,ZhQ,ZhR]
    grind
   .rw [Jq] at h
    have s:o.kind=1\/o.kind=2:=JX
    rcases s with k | k
    .have e:Y8 o=⟨2,o.n,o.l,o.e⟩:=by rw [Z04,if_pos k]
     rw [e,JW]
     grind
    .have e:Y8 o=⟨1,o.n,o.l,o.e⟩:=by rw [Z04,J3,if_pos k]
     rw [e,JW]
     grind
mutual
theorem YT:∀ (e:Edit) (d:Int),Z3 e d=true->Z3 (Zn e) d=true
 | .mk k o n w ks l os,d,h=> by
  have u:=Z5F ks
  have h2:=Zaw l os
  simp only [Z3] at h
  simp only [Zn,Z3]
  split at h
  .cases h
  .rename_i a
   rw [if_neg a]
   split at h
   .cases h
   .rename_i b
    rw [if_neg (by rw [X3,ZeZ,Z91];grind)]
    split at h
    .grind
    .rename_i c
     rw [if_neg c]
     simp only [Q6,decide_eq_true_eq] at h ⊢
     obtain ⟨⟨⟨⟨x1,x2⟩,s⟩,x4⟩,x5⟩:=h
     refine ⟨⟨⟨⟨by rw [Z5n];exact x1,u _ _ x2⟩,s⟩,h2 _ x4⟩,?_⟩
     rw [(Zbd os 0).1,(Zbd os 0).2]
     omega
theorem Z5F:∀ (ks:List (KidOf Edit)) (last d:Int),Zw last ks d=true->Zw last (Y9 ks) d=true
 | [],_,_,_=> rfl
 | k ::r,last,d,h=> by
  simp only [Zw,Q6] at h
  have u:=Zhz k last d h.1
  have s:=Z5F r k.at_ d h.2
  simp only [Y9,Zw,Q6]
  exact ⟨u,by rw [Zf0];exact s⟩
theorem Zhz:∀ (k:KidOf Edit) (last d:Int),Jl last k d=true->Jl last (YY k) d=true
 | ⟨a,e⟩,last,d,h=> by
  simp only [Jl,Q6] at h
  have s:=YT e d h.2
  simp only [YY,Jl,Q6]
  rw [Z1P]
  grind
theorem Zaw(list:Int):∀ (os:List (OpOf Edit)) (d:Int),Zz list os d=true->Zz list (Ye os) d=true
 | [],_,_=> rfl
 | o ::r,d,h=> by
  simp only [Zz,Q6] at h
  have u:=Zjt list o d h.1
  have s:=Zaw list r d h.2
  simp only [Ye,Zz,Q6]
  grind
theorem Zjt(list:Int):∀ (o:OpOf Edit) (d:Int),Zb list o d=true->Zb list (Y8 o) d=true
 | ⟨k,n,l,e⟩,d,h=> ZAD (o:=⟨k,n,l,e⟩) h (fun s=> YT e d s)
end
theorem Z78:∀ (l:List Tree),Zg (Z6 l)<=Zg l
 | []=> by trivial
 | t ::r=> by
  have h:=Z78 r
  have s:=Ym t
  simp only [Z6] at h
  simp only [Z6,Xb,Zg]
  omega
theorem Z1k:Zo Tree.nil=1:=by rfl
theorem Ziw(t:Tree):1<=Zo t:=by cases t;simp only [Zo];omega
theorem Zmn:∀ (e:Edit),3<=Z8 e
 | .mk k o n w ks l os=> by
  have s:=Ziw o
  have h:=Ziw n
  simp only [Z8];omega
theorem Z4R(e:Edit):(Zj e).kind=e.kind:=by
 rw [ZaT]
 split
 .try rfl
 .split
  .try rfl
  .split <;> rfl
theorem ZaS(e:Edit)(h:e.kind=1):(Zj e).old=Z0 e.old/\(Zj e).new=Z0 e.new:=by
 rw [ZaT,if_pos h]
 simp_all
theorem Znw{D list:Int}{t:Tree}(hD:D≠0)(h:Zd (.mk list [] [t]) D=true):Zd (.mk list [] [Z0 t]) D=true:=by
 have s:=fun (k d:Int) (h:Yl k [t] d=true)=> Z6M [t] k d h
 simp only [Yz] at s
 simp only [Zd] at h ⊢
 grind
theorem Z4k{D list:Int}(hD:D≠0):∀ {l:List Tree},YF D list l=true->YF D list (Z6 l)=true
 | [],_=> rfl
 | t ::r,h=> by
  simp only [YF,Q6] at h
  have s:=Z4k hD h.2
  simp only [Z6] at s
  simp only [Z6,Xb,YF,Q6]
  exact ⟨Znw hD h.1,s⟩
theorem Z6n{D list:Int}:∀ {a b:List Tree},YF D list a=true->YF D list b=true->YF D list (a++b)=true
 | [],_,_,h=> h
 | t ::r,b,h,h2=> by
  simp only [YF,Q6] at h
  simp only [QA,YF,Q6]
  exact ⟨h.1,Z6n h.2 h2⟩
def rOp(list:Int)(d:Int)(o:Op):Prop:=(o.kind=0->1<=o.n/\o.l.length=0/\Z1M o.e=true)/\(o.kind≠0->Zb list o d=true)
theorem ZwI{list d:Int}{o:Op}(h:Zb list o d=true):rOp list d o:=by
 refine ⟨fun s=> ?_,fun _=> h⟩
 obtain ⟨k,n,l,e⟩:=o
 simp only at s
 subst s
 simp only [Zb,if_true,Q6,decide_eq_true_eq] at h
 grind
theorem ZFq{list d:Int}{o:Op}(h:rOp list d o)(hn:o.kind=0->o.n<=1048576):Zb list o d=true:=by
 by_cases hk:o.kind=0
 .have s:=h.1 hk
  have u:=hn hk
  obtain ⟨k,n,l,e⟩:=o
  simp only at hk s u
  subst hk
  simp only [Zb,if_true,Q6,decide_eq_true_eq]
  grind
 .exact h.2 hk
theorem Z6K{list:Int}:∀ {os:List Op} {d:Int},Zz list os d=true↔∀ o∈os,Zb list o d=true
 | [],d=> by simp [Zz]
 | o ::r,d=> by
  simp only [Zz,Q6,Qa,forall_eq_or_imp]
  rw [Z6K (os:=r)]
theorem Z3r:Z1M Edit.nil=true:=rfl
structure OkW (list d:Int) (w:Wst):Prop where
 out:∀ o∈w.out,rOp list d o
 gone:YF (dT d) list w.gone=true
 brought:YF (dT d) list w.brought=true
theorem Zcn{list d:Int}{w:Wst}(h:OkW list d w):OkW list d (Zi w):=by
 refine ⟨?_,rfl,rfl⟩
 simp only [Zi,Z0L]
 intro o s
 rcases Qj.1 s with s | s
 .exact h.out o s
 rcases Qj.1 s with s | s
 .split at s
  .cases s
  .rename_i hl
   simp only [Qg] at s
   subst s
   refine ⟨fun u=> (by cases u),fun _=> ?_⟩
   simp only [Zb]
   rw [if_neg V2,if_neg V2,if_pos V2,h.gone,Z3r]
   grind
 .split at s
  .cases s
  .rename_i hl
   simp only [Qg] at s
   subst s
   refine ⟨fun u=> (by cases u),fun _=> ?_⟩
   simp only [Zb]
   rw [if_neg V2,if_neg V2,if_pos V2,h.brought,Z3r]
   grind
theorem Zmd{list d:Int}{w:Wst}{n:Int}(h:OkW list d w)(hn:1<=n):OkW list d (Yr w n):=by
 have hf:=Zcn h
 refine ⟨?_,rfl,rfl⟩
 simp only [Yr]
 intro o s
 rcases JS (Zi w).out n with e | ⟨a,q,e1,e2,e3⟩
 .rw [e] at s
  rcases Qj.1 s with s | s
  .exact hf.out o s
  .simp only [Qg] at s
   subst s
   exact ⟨fun _=> ⟨hn,rfl,Z3r⟩,fun u=> absurd rfl u⟩
 .rw [e3] at s
  rcases Qj.1 s with s | s
  .exact hf.out o (by grind)
  .simp only [Qg] at s
   subst s
   have hq:=(hf.out q (by rw [e1];simp)).1 e2
   exact ⟨fun _=> ⟨by grind,hq.2⟩,fun u=> absurd e2 u⟩
theorem ZFu{list d:Int}{w:Wst}{o:Op}(h:OkW list d w)(hr:Zb list o d=true)(hi:Z3 o.e d=true->Z3 (Zj o.e) d=true):OkW list d (Z1i list o w):=by
 obtain ⟨k,n,l,e⟩:=o
 have ab:=hr
 rw [Zb] at hr
 rw [Z4Q]
 simp only at hi ⊢
 split at hr
 .rename_i u
  rw [if_pos u]
  simp only [Q6,decide_eq_true_eq] at hr
  exact Zmd h hr.1.1
 .rename_i u
  rw [if_neg u]
  split at hr
  .cases hr
  .rename_i hn
   split at hr
   .rename_i h3
    simp only [Q6,decide_eq_true_eq] at hr
    by_cases k1:k=1
    .rw [if_pos k1]
     exact ⟨h.out,Z6n h.gone (Z4k (ZEG d) hr.1.1),h.brought⟩
    .rw [if_neg k1,Jq]
     exact ⟨h.out,h.gone,Z6n h.brought (Z4k (ZEG d) hr.1.1)⟩
   .rename_i h3
    rw [J3,J3,Jq]
    split
    .exact Zmd h V2
    .have hf:=Zcn h
     refine ⟨?_,rfl,rfl⟩
     intro o s
     rcases Qj.1 s with s | s
     .exact hf.out o s
     .simp only [Qg] at s
      subst s
      refine ⟨fun u=> (by cases u),fun _=> ?_⟩
      simp only [Q6,decide_eq_true_eq] at hr
      simp only [Zb]
      rw [if_neg V2,if_neg V2,if_neg V2,Z4R,hi hr.1.2]
      simp only [K4,Q6,decide_eq_true_eq]
      refine ⟨⟨rfl,hr.1.1.2⟩,?_⟩
      rcases hr.2 with h | h | h
      .exact Or.inl h
      .omega
      .rw [(ZaS e h.1).1,(ZaS e h.1).2,Z3g,Z3g]
       omega
def Ju:List Op->Int
 | []=> 0
 | o ::r=> (if o.kind=2 then 0 else Z4 o)+Ju r
def J5:List Op->Int
 | []=> 0
 | o ::r=> (if o.kind=1 then 0 else Z4 o)+J5 r
theorem Z4E:∀ (a b:List Op),Ju (a++b)=Ju a+Ju b
 | [],b=> by simp [Ju]
 | o ::r,b=> by simp only [QA,Ju,Z4E r b];omega
theorem Z4D:∀ (a b:List Op),J5 (a++b)=J5 a+J5 b
 | [],b=> by simp [J5]
 | o ::r,b=> by simp only [QA,J5,Z4D r b];omega
theorem Z3M:∀ (l:List Op) (n:Int),(∀ o∈l,0<=Z4 o)->0<=n->n<=1048576->Z1C l n=min (n+Ju l) 1048576/\0<=Ju l
 | [],n,_,h1,h2=> by simp only [Z1C,Ju];omega
 | o ::r,n,h,h1,h2=> by
  have u:=h o (Q7 ..)
  simp only [Z1C,Ju]
  have s:0<=(if o.kind=2 then n else n+Z4 o)/\(if o.kind=2 then n else n+Z4 o)=n+(if o.kind=2 then 0 else Z4 o):=by split <;> omega
  have hy:0<=(if o.kind=2 then 0 else Z4 o):=by split <;> omega
  rw [s.2]
  rw [s.2] at s
  generalize (if o.kind=2 then 0 else Z4 o)=y at*
  obtain ⟨e1,e2⟩:=Z3M r (min (n+y) 1048576) (fun x s=> h x (Q0 _ s)) JX JX
  omega
theorem Z3K:∀ (l:List Op) (n:Int),(∀ o∈l,0<=Z4 o)->0<=n->n<=1048576->Z1B l n=min (n+J5 l) 1048576/\0<=J5 l
 | [],n,_,h1,h2=> by simp only [Z1B,J5];omega
 | o ::r,n,h,h1,h2=> by
  have u:=h o (Q7 ..)
  simp only [Z1B,J5]
  have s:0<=(if o.kind=1 then n else n+Z4 o)/\(if o.kind=1 then n else n+Z4 o)=n+(if o.kind=1 then 0 else Z4 o):=by split <;> omega
  have hy:0<=(if o.kind=1 then 0 else Z4 o):=by split <;> omega
  rw [s.2]
  rw [s.2] at s
  generalize (if o.kind=1 then 0 else Z4 o)=y at*
  obtain ⟨e1,e2⟩:=Z3K r (min (n+y) 1048576) (fun x s=> h x (Q0 _ s)) JX JX
  omega
theorem ZaF{list d:Int}{o:Op}(h:rOp list d o):0<=Z4 o:=by
 unfold Z4
 split
 .decide
 .by_cases hk:o.kind=0
  .have:=(h.1 hk).1;omega
  .have s:=h.2 hk
   obtain ⟨k,n,l,e⟩:=o
   simp only at hk ⊢
   rw [Zb,if_neg hk] at s
   grind
theorem ZlA:∀ {l:List Op} {o:Op},(∀ o∈l,0<=Z4 o)->o∈l->o.kind≠2->Z4 o<=Ju l
 | a ::r,o,h,ho,hk=> by
  have u:=(Z3M r 0 (fun x s=> h x (Q0 _ s)) V2 V2).2
  have ha:=h a (Q7 ..)
  simp only [Ju]
  rcases Qa.1 ho with rfl | ho
  .omega
  .have:=ZlA (fun x s=> h x (Q0 _ s)) ho hk
   omega
def sA(w:Wst):Int:=Ju w.out+w.gone.length
def sB(w:Wst):Int:=J5 w.out+w.brought.length
theorem ZbX(w:Wst):Ju (Zi w).out=sA w/\J5 (Zi w).out=sB w:=by
 simp only [Zi,Z0L,sA,sB,Z4E,Z4D]
 constructor
 .by_cases hg:w.gone.length=0
  .rw [if_pos hg]
   by_cases hb:w.brought.length=0
   .rw [if_pos hb];simp [Ju];omega
   .rw [if_neg hb];simp [Ju];omega
  .rw [if_neg hg]
   by_cases hb:w.brought.length=0
   .rw [if_pos hb];simp [Ju,Z4]
   .rw [if_neg hb];simp [Ju,Z4]
 .by_cases hg:w.gone.length=0
  .rw [if_pos hg]
   by_cases hb:w.brought.length=0
   .rw [if_pos hb];simp [J5];omega
   .rw [if_neg hb];simp [J5,Z4]
  .rw [if_neg hg]
   by_cases hb:w.brought.length=0
   .rw [if_pos hb];simp [J5];omega
   .rw [if_neg hb];simp [J5,Z4]
theorem Zlz(w:Wst)(n:Int):sA (Yr w n)=sA w+n/\sB (Yr w n)=sB w+n:=by
 have hf:=ZbX w
 simp only [Yr]
 have e1:∀ x,sA ⟨x,[],[]⟩=Ju x:=fun x=> by simp [sA]
 have e2:∀ x,sB ⟨x,[],[]⟩=J5 x:=fun x=> by simp [sB]
 rw [e1,e2,<-hf.1,<-hf.2]
 rcases JS (Zi w).out n with e | ⟨a,q,e1,e2,e3⟩
 .rw [e,Z4E,Z4D]
  simp [Ju,J5,Z4]
 .rw [e3,e1,Z4E,Z4D,Z4E,Z4D]
  simp only [Ju,J5,Z4,e2]
  simp
  omega
theorem ZFg{list d:Int}{w:Wst}{o:Op}(hr:Zb list o d=true):sA (Z1i list o w)=sA w+(if o.kind=2 then 0 else Z4 o)/\sB (Z1i list o w)=sB w+(if o.kind=1 then 0 else Z4 o):=by
 have hl:∀ l,((Z6 l).length:Int)=l.length:=fun l=> by simp [Z6]
 obtain ⟨k,n,l,e⟩:=o
 rw [Zb] at hr
 rw [Z4Q]
 simp only [Z4]
 split at hr
 .rename_i h
  subst h
  rw [if_pos rfl]
  simp only [Q6,decide_eq_true_eq] at hr
  have:=Zlz w n
  simp
  omega
 .rename_i h
  rw [if_neg h]
  split at hr
  .cases hr
  .rename_i hn
   split at hr
   .rename_i u
    by_cases k1:k=1
    .subst k1
     rw [if_pos rfl]
     simp only [sA,sB,Qk]
     grind
    .have k2:k=2:=JX
     subst k2
     rw [if_neg k1,if_pos rfl]
     simp only [sA,sB,Qk]
     grind
   .rename_i u
    have s:k=3:=JX
    subst s
    rw [J3,J3,if_pos rfl]
    split
    .have:=Zlz w 1
     omega
    .have:=ZbX w
     simp only [sA,sB,Z4E,Z4D,Ju,J5,Z4] at this ⊢
     grind
mutual
theorem Jm:∀ (e:Edit) (d:Int),Z3 e d=true->Z3 (Zj e) d=true
 | .mk k o n w ks l os,d,h=> by
  have h1:=Zd5 ks
  have h2:=Zqs l os
  have h4:=Zpo l os
  rw [Z3] at h
  split at h
  .cases h
  .rename_i a
   split at h
   .cases h
   .rename_i b
    have nn:YM Tree.nil=true:=rfl
    by_cases k1:k=1
    .subst k1
     rw [if_pos rfl] at h
     have hl:l=0:=by
      apply Xj
      intro hl
      exact b (.inr (.inr ⟨V2,.inl hl⟩))
     simp only [Q6,decide_eq_true_eq] at h
     rw [Zj,if_pos rfl,Z3,if_neg a,if_neg (by simp [hl]),if_pos rfl]
     simp only [Q6,decide_eq_true_eq]
     rw [Z3g,Z3g]
     exact ⟨⟨Z2k _ _ h.1.1,Z2k _ _ h.1.2⟩,h.2⟩
    .rw [if_neg k1] at h
     simp only [Q6,decide_eq_true_eq] at h
     obtain ⟨⟨⟨⟨x1,x2⟩,x3⟩,x4⟩,x5⟩:=h
     rw [Zj,if_neg k1]
     by_cases k2:k=2
     .have hl:l=0:=by
       apply Xj
       intro hl
       exact b (.inr (.inr ⟨JX,.inl hl⟩))
      rw [if_pos k2,Z3,if_neg a,if_neg (by grind),if_neg k1]
      grind
     .rw [if_neg k2]
      by_cases k3:k=3
      .rw [if_pos k3,Z3,if_neg a,if_neg (by simp [nn,k3]),if_neg k1]
       simp only [Q6,decide_eq_true_eq]
       have aa:=Z6K.1 x4
       obtain ⟨y1,y2⟩:=Z3M os 0 (fun o s=> ZaF (ZwI (aa o s))) V2 V2
       obtain ⟨z1,z2⟩:=Z3K os 0 (fun o s=> ZaF (ZwI (aa o s))) V2 V2
       have hw:=h2 (d - 1) W0 x4 ⟨fun o s=> (by cases s),rfl,rfl⟩
       have hs:=h4 (d - 1) W0 x4
       have u:=Zcn hw
       have ak:=ZbX (J1 l os W0)
       have e0:sA W0=0/\sB W0=0:=⟨rfl,rfl⟩
       have hA:=Z3M (Zi (J1 l os W0)).out 0 (fun o s=> ZaF (u.out o s)) V2 V2
       have hB:=Z3K (Zi (J1 l os W0)).out 0 (fun o s=> ZaF (u.out o s)) V2 V2
       refine ⟨⟨⟨⟨rfl,rfl⟩,x3⟩,Z6K.2 (fun o s=> ZFq (u.out o s) (fun hk=> ?_))⟩,?_,?_⟩
       .have hm:=ZlA (fun o s=> ZaF (u.out o s)) s JX
        unfold Z4 at hm
        omega
       .show Z1C (Zi (J1 l os W0)).out 0 < 1048576
        omega
       .show Z1B (Zi (J1 l os W0)).out 0 < 1048576
        omega
      .have hl:l=0:=by
        apply Xj
        intro hl
        exact b (.inr (.inr ⟨k3,.inl hl⟩))
       rw [if_neg k3,Z3,if_neg a,if_neg (by simp [nn,hl]),if_neg k1]
       grind
theorem Zd5:∀ (ks:List (KidOf Edit)) (last d:Int),Zw last ks d=true->Zw last (Z0R ks) d=true
 | [],_,_,_=> rfl
 | k ::r,last,d,h=> by
  simp only [Zw,Q6] at h
  have u:=Zjw k last d h.1
  have s:=Zd5 r k.at_ d h.2
  simp only [Z0R,Zw,Q6]
  exact ⟨u,by rw [Zio];exact s⟩
theorem Zjw:∀ (k:KidOf Edit) (last d:Int),Jl last k d=true->Jl last (Z1T k) d=true
 | ⟨a,e⟩,last,d,h=> by
  simp only [Jl,Q6] at h
  have s:=Jm e d h.2
  simp only [Z1T,Jl,Q6]
  rw [Z4R]
  grind
theorem Zqs(list:Int):∀ (os:List (OpOf Edit)) (d:Int) (w:Wst),Zz list os d=true->OkW list d w->OkW list d (J1 list os w)
 | [],_,_,_,hw=> hw
 | o ::r,d,w,h,hw=> by
  simp only [Zz,Q6] at h
  have s:=ZtC list o d w h.1 hw
  exact Zqs list r d _ h.2 s
theorem ZtC(list:Int):∀ (o:OpOf Edit) (d:Int) (w:Wst),Zb list o d=true->OkW list d w->OkW list d (Z1i list o w)
 | ⟨k,n,l,e⟩,d,w,h,hw=> ZFu (o:=⟨k,n,l,e⟩) hw h (fun s=> Jm e d s)
theorem Zpo(list:Int):∀ (os:List (OpOf Edit)) (d:Int) (w:Wst),Zz list os d=true->sA (J1 list os w)=sA w+Ju os/\sB (J1 list os w)=sB w+J5 os
 | [],_,_,_=> by simp [J1,Ju,J5]
 | o ::r,d,w,h=> by
  simp only [Zz,Q6] at h
  have u:=ZFg (w:=w) h.1
  have s:=Zpo list r d (Z1i list o w) h.2
  simp only [J1,Ju,J5]
  omega
end
theorem Z6I:∀ {a b:List Tree},Yx (a++b)↔Yx a/\Yx b
 | [],b=> by simp [Yx]
 | t ::r,b=> by simp only [QA,Yx];rw [Z6I (a:=r),and_assoc]
mutual
theorem Z0i:∀ (t:Tree),rng t->rng (Z0 t)
 | .mk k w ks,h=> by
  simp only [rng] at h
  obtain ⟨h1,h2,u⟩:=h
  have s:=Zi3 ks u
  simp only [Z0]
  split
  .trivial
  .split
   .obtain ⟨r1,e1⟩:=Zf1 w
    obtain ⟨r2,e2⟩:=ZbV (Yz ks)
    simp only [rng]
    refine ⟨V2,fun x hx=> h2 x (by grind),?_⟩
    rw [e2] at s
    exact (Z6I.1 s).1
   trivial
theorem Zi3:∀ (l:List Tree),Yx l->Yx (Yz l)
 | [],_=> trivial
 | t ::r,h=> by
  simp only [Yx] at h
  have u:=Z0i t h.1
  have s:=Zi3 r h.2
  trivial
end
theorem Z97:∀ {l:List Tree},Yx l->Yx (Z6 l)
 | [],_=> trivial
 | t ::r,h=> by
  simp only [Yx] at h
  have s:=Z97 h.2
  simp only [Z6] at s
  simp only [Z6,Xb,Yx]
  exact ⟨Z0i t h.1,s⟩
theorem Z4K:rng Tree.nil:=by
 trivial
mutual
theorem Z4L:∀ (e:Edit),ZZ e->ZZ (Zn e)
 | .mk k o n w ks l os,h=> by
  simp only [ZZ] at h
  obtain ⟨u,h2,h3,h4,h5,s,h7⟩:=h
  have i6:=ZfD ks s
  have i7:=ZfB os h7
  simp only [Zn,ZZ]
  refine ⟨u,h3,h2,fun x hx=> ?_,h5,i6,i7⟩
  obtain ⟨y,hy,rfl⟩:=X8.1 hx
  have:=h4 y hy
  simp only [Z0O,Jk] at this ⊢
  grind
theorem ZfD:∀ (ks:List (KidOf Edit)),Z0P ks->Z0P (Y9 ks)
 | [],_=> trivial
 | k ::r,h=> by
  simp only [Z0P] at h
  have u:=ZlN k h.1
  have s:=ZfD r h.2
  trivial
theorem ZlN:∀ (k:KidOf Edit),Z1v k->Z1v (YY k)
 | ⟨a,e⟩,h=> by
  simp only [Z1v] at h
  have s:=Z4L e h.2
  simp only [YY,Z1v]
  grind
theorem ZfB:∀ (os:List (OpOf Edit)),Z0j os->Z0j (Ye os)
 | [],_=> trivial
 | o ::r,h=> by
  simp only [Z0j] at h
  have u:=Znt o h.1
  have s:=ZfB r h.2
  trivial
theorem Znt:∀ (o:OpOf Edit),YZ o->YZ (Y8 o)
 | ⟨k,n,l,e⟩,h=> by
  simp only [YZ] at h
  have s:=Z4L e h.2.2.2
  simp only [Y8]
  split
  .simp only [YZ];exact ⟨by trivial,h.2⟩
  .split
   .simp only [YZ];exact ⟨by trivial,h.2⟩
   .split
    .simp only [YZ];grind
    trivial
end
structure RngW (w:Wst):Prop where
 out:∀ o∈w.out,Yx o.l/\ZZ o.e
 gone:Yx w.gone
 brought:Yx w.brought
theorem Z7A:ZZ Edit.nil:=by
 simp only [Edit.nil,ZZ,Z0P,Z0j]
 exact ⟨by trivial,Z4K,Z4K,by simp,by trivial,trivial,trivial⟩
theorem Z96{w:Wst}(h:RngW w):RngW (Zi w):=by
 refine ⟨?_,trivial,trivial⟩
 simp only [Zi,Z0L]
 intro o s
 rcases Qj.1 s with s | s
 .exact h.out o s
 rcases Qj.1 s with s | s
 .split at s
  .cases s
  .simp only [Qg] at s
   subst s
   exact ⟨h.gone,Z7A⟩
 .split at s
  .cases s
  .simp only [Qg] at s
   subst s
   exact ⟨h.brought,Z7A⟩
theorem Zi0{w:Wst}{n:Int}(h:RngW w):RngW (Yr w n):=by
 have hf:=Z96 h
 refine ⟨?_,trivial,trivial⟩
 simp only [Yr]
 intro o s
 rcases JS (Zi w).out n with e | ⟨a,q,e1,e2,e3⟩
 .rw [e] at s
  rcases Qj.1 s with s | s
  .exact hf.out o s
  .simp only [Qg] at s
   subst s
   exact ⟨trivial,Z7A⟩
 .rw [e3] at s
  rcases Qj.1 s with s | s
  .exact hf.out o (by grind)
  .simp only [Qg] at s
   subst s
   exact hf.out q (by rw [e1];simp)
theorem ZpP{list:Int}{w:Wst}{o:Op}(h:RngW w)(hl:Yx o.l)(he:ZZ (Zj o.e)):RngW (Z1i list o w):=by
 rw [Z4Q]
 split
 .exact Zi0 h
 .split
  .exact ⟨h.out,Z6I.2 ⟨h.gone,Z97 hl⟩,h.brought⟩
  .split
   .exact ⟨h.out,h.gone,Z6I.2 ⟨h.brought,Z97 hl⟩⟩
   .split
    .split
     .exact Zi0 h
     .refine ⟨?_,trivial,trivial⟩
      intro o s
      rcases Qj.1 s with s | s
      .exact (Z96 h).out o s
      .simp only [Qg] at s
       subst s
       trivial
    .exact h
theorem Zd3:∀ {os:List Op},(∀ o∈os,YZ o)->Z0j os
 | [],_=> trivial
 | o ::r,h=> by
  simp only [Z0j]
  exact ⟨h o (Q7 ..),Zd3 (fun x s=> h x (Q0 _ s))⟩
theorem ZlQ{list d:Int}{o:Op}(h:Zb list o d=true)(hl:Yx o.l)(he:ZZ o.e):YZ o:=by
 have s:=Z7B h
 obtain ⟨k,n,l,e⟩:=o
 simp only at s hl he
 simp only [YZ]
 refine ⟨?_,V1,hl,he⟩
 rw [Zb] at h
 unfold InR
 grind
mutual
theorem Z0A:∀ (e:Edit) (d:Int),Z3 e d=true->ZZ e->ZZ (Zj e)
 | .mk k o n w ks l os,d,hr,h=> by
  have u:=Zc5 hr
  have s:=Zc5 (Jm _ _ hr)
  simp only [Edit.kids_mk,Edit.ops_mk,Edit.list_mk] at u
  simp only [ZZ] at h
  obtain ⟨h1,h2,h3,h4,h5,h6,h7⟩:=h
  have i6:=Zi2 ks (d - 1) (fun k hk=> (u.1 k hk).1) h6
  have i7:=Zi1 l os (d - 1) u.2 h7 W0 ⟨fun o ho=> (by cases ho),trivial,trivial⟩
  rw [Zj] at s ⊢
  by_cases k1:k=1
  .rw [if_pos k1]
   simp only [ZZ]
   exact ⟨h1,Z0i o h2,Z0i n h3,by simp,h5,trivial,trivial⟩
  .rw [if_neg k1] at s ⊢
   by_cases k2:k=2
   .rw [if_pos k2]
    trivial
   .rw [if_neg k2] at s ⊢
    by_cases k3:k=3
    .rw [if_pos k3] at s ⊢
     simp only [ZZ]
     refine ⟨h1,Z4K,Z4K,by simp,h5,trivial,Zd3 (fun q hq=> ?_)⟩
     have hx:=s.2 q hq
     have hy:=(Z96 i7).out q hq
     exact ZlQ hx hy.1 hy.2
    .rw [if_neg k3]
     simp only [ZZ]
     exact ⟨h1,Z4K,Z4K,by simp,h5,trivial,trivial⟩
theorem Zi2:∀ (ks:List (KidOf Edit)) (d:Int),(∀ k∈ks,Z3 k.e d=true)->Z0P ks->Z0P (Z0R ks)
 | [],_,_,_=> trivial
 | k ::r,d,hr,h=> by
  simp only [Z0P] at h
  have h1:=Znu k d (hr k (Q7 ..)) h.1
  have u:=Zi2 r d (fun x s=> hr x (Q0 _ s)) h.2
  trivial
theorem Znu:∀ (k:KidOf Edit) (d:Int),Z3 k.e d=true->Z1v k->Z1v (Z1T k)
 | ⟨a,e⟩,d,hr,h=> by
  simp only [Z1v] at h
  have s:=Z0A e d hr h.2
  simp only [Z1T,Z1v]
  grind
theorem Zi1(list:Int):∀ (os:List (OpOf Edit)) (d:Int),(∀ o∈os,Zb list o d=true)->Z0j os->∀ (w:Wst),RngW w->RngW (J1 list os w)
 | [],_,_,_,w,hw=> hw
 | o ::r,d,hr,h,w,hw=> by
  simp only [Z0j] at h
  have u:=Zti list o d (hr o (Q7 ..)) h.1 w hw
  exact Zi1 list r d (fun x s=> hr x (Q0 _ s)) h.2 _ u
theorem Zti(list:Int):∀ (o:OpOf Edit) (d:Int),Zb list o d=true->YZ o->∀ (w:Wst),RngW w->RngW (Z1i list o w)
 | ⟨k,n,l,e⟩,d,hr,h,w,hw=> by
  simp only [YZ] at h
  by_cases k3:k=3
  .have s:Z3 e d=true:=by
    rw [Zb,J3,] at hr
    split at hr
    .cases hr
    .grind
   exact ZpP (o:=⟨k,n,l,e⟩) hw h.2.2.1 (Z0A e d s h.2.2.2)
  .have u:ZZ (Zj Edit.nil):=by
    show ZZ (.mk 0 Tree.nil Tree.nil [] [] 0 [])
    exact Z7A
   have e2:Z1i list ⟨k,n,l,e⟩ w=Z1i list ⟨k,n,l,Edit.nil⟩ w:=by
    simp only [Z1i]
    grind
   rw [e2]
   exact ZpP (o:=⟨k,n,l,Edit.nil⟩) hw h.2.2.1 u
end
theorem ZFy(t:Tree):t.words.length+Zg t.kids+1=Zo t:=by obtain ⟨k,w,ks⟩:=t;simp only [Zo,Tree.words_mk,Tree.kids_mk];omega
theorem Ziz:∀ (l:List Tree) (i:Nat) (x:Tree),i < l.length->Zg (l.set i x)+Zo (l.getD i Tree.nil)=Zg l+Zo x
 | [],i,x,h=> by simp at h
 | a ::r,0,x,_=> by simp only [List.set_cons_zero,Zg,Qh];omega
 | a ::r,i+1,x,h=> by
  have:=Ziz r i x (by simpa using h)
  simp only [List.set_cons_succ,Zg,Kh];omega
theorem Zoj(n:Nat):Zg (List.replicate n Tree.nil)=n:=by
 induction n with
 | zero=> rfl
 | succ n ih=> rw [Kg,Zg,ih];simp [Tree.nil,Zo,Zg];omega
theorem Jg:∀ (a b:List Tree),Zg (a++b)=Zg a+Zg b
 | [],b=> by simp [Zg]
 | t ::r,b=> by simp only [QA,Zg,Jg r b];omega
theorem ZtQ(l:List Tree)(i:Nat)(x:Tree):Zg (YG Tree.nil l i x)+Zo (l.getD i Tree.nil)<=Zg l+Zo x+(i+1):=by
 have h:=Ziz (l++List.replicate (i+1 - l.length) Tree.nil) i x (by simp;omega)
 have e:(l++List.replicate (i+1 - l.length) Tree.nil).getD i Tree.nil=l.getD i Tree.nil:=by
  by_cases hi:i < l.length
  .simp only [Qq];rw [QH hi]
  .simp only [Qq]
   rw [Qu JX,QQ (l:=l) JX,List.getElem?_replicate]
   split <;> rfl
 rw [e,Jg,Zoj] at h
 simp only [YG]
 omega
theorem Zj8{tw:List Int}:∀ {ws:List WEdit} {last:Int} {out a:List Int},ZL last ws=true->wsD tw ws out=some a->a.length<=max out.length 65535
 | [],_,out,a,_,h=> by rw [wsD] at h;cases h;omega
 | w ::r,last,out,a,hw,h=> by
  have s:=YQ hw w Q7
  simp only [ZL,Q6] at hw
  rw [wsD] at h
  split at h
  .have:=Zj8 hw.2 h
   rw [Z8J] at this
   omega
  .cases h
theorem Z5G{last d:Int}{k:Kid}{r:List Kid}(h:Zw last (k ::r) d=true):(last < k.at_/\k.at_<=65534)/\Z3 k.e d=true/\Zw k.at_ r d=true:=by
 have:=Zs h k Q7
 simp only [Zw,Q6] at h
 grind
theorem ZuL{tw:List Int}{ws:List WEdit}{last:Int}{out a:List Int}(hw:ZL last ws=true)(h:wsD tw ws out=some a):a.length<=out.length+65600*ws.length:=by
 cases ws with
 | nil=> rw [wsD] at h;cases h;omega
 | cons w r=>
  have:=Zj8 hw h
  grind
theorem Zgz(r:Bool)(v:Tree):Zo (nrD r v)<=Zo v:=by
 unfold nrD
 split
 .exact Ym v
 omega
mutual
theorem ZgL(r:Bool):∀ (e:Edit) (d:Int) (t v:Tree),Z3 e d=true->ZjV r e t=some v->Zo v+18<=Zo t+ctE e
 | .mk k o n w ks l os,d,t,v,hr,hv=> by
  have u:=Zh hr
  have h1:=Ziy r ks t.kids
  have h2:=Zix r l os
  have ht:=ZFy t
  have po:=Jp o
  have pn:=Jp n
  have pt:=Jp t
  unfold ZjV at hv
  simp only [ctE]
  split at hv
  .grind
  .split at hv
   .split at hv
    .cases hv
     show Zo n+18<=_
     omega
    .cases hv
   .split at hv
    .split at hv
     .obtain ⟨a,ha,h⟩:=Qd.1 hv
      obtain ⟨b,h,e⟩:=Q9.1 h
      have l1:=ZuL u.words ha
      simp only [Edit.words_mk] at l1
      have l2:=h1 t.kids b _ (-1) JX u.kids (fun j _=> rfl) h
      rw [<-e]
      simp only [Zo]
      omega
     .cases hv
    .split at hv
     .split at hv
      .obtain ⟨b,h,e⟩:=Q9.1 hv
       unfold Z22 at h
       obtain ⟨x,hx,s⟩:=Qd.1 h
       have l2:=h2 _ t.kids [] x (fun o ho=> Go.AM.rightOs_mem u.ops o ho) hx
       split at s
       .cases s
        rw [<-e]
        simp only [Zo,Qp]
        grind
       .cases s
      .cases hv
     .cases hv
theorem Ziy(r:Bool):∀ (ks:List (KidOf Edit)) (tk out b:List Tree) (d last:Int),-1<=last->Zw last ks d=true->(∀ j:Nat,last < (j:Int)->out.getD j Tree.nil=tk.getD j Tree.nil)->Jy r tk ks out=some b->Zg b<=Zg out+Z0W ks
 | [],tk,out,b,d,last,_,_,_,h=> by rw [Jy] at h;cases h;simp
 | k ::s,tk,out,b,d,last,hl,hr,hj,h=> by
  obtain ⟨h1,h2,h3⟩:=Z5G hr
  rw [Jy] at h
  obtain ⟨u,hu,hb⟩:=Qd.1 h
  have m1:=Zoh r k tk u d h2 hu
  have m2:=ZtQ out k.at_.toNat u
  rw [hj k.at_.toNat JX] at m2
  have m3:=Ziy r s tk _ b d k.at_ JX h3 (fun j af=> by
   rw [JP,J3]
   grind) hb
  have m4:k.at_.toNat+1<=65600:=JX
  have e1:Z0W (k ::s)=65600+ctE k.e+Z0W s:=by obtain ⟨a,e⟩:=k;rfl
  omega
theorem Zoh(r:Bool):∀ (k:KidOf Edit) (tk:List Tree) (u:Tree) (d:Int),Z3 k.e d=true->Z2v r tk k=some u->Zo u+18<=Zo (tk.getD k.at_.toNat Tree.nil)+ctE k.e
 | ⟨a,e⟩,tk,u,d,hr,h=> by
  rw [Z2v,Z63] at h
  obtain ⟨v,hv,hu⟩:=Q9.1 h
  have:=ZgL r e d (tk.getD a.toNat Tree.nil) v hr hv
  have s:=Zgz r v
  grind
theorem Zix(r:Bool)(l:Int):∀ (os:List (OpOf Edit)) (d:Int) (rest out:List Tree) (x:List Tree × List Tree),(∀ o∈os,Zb l o d=true)->ZM r os rest out=some x->Zg x.1+Zg x.2<=Zg out+Zg rest+Jh os
 | [],d,rest,out,x,_,h=> by rw [ZM] at h;cases h;simp
 | o ::s,d,rest,out,x,hr,h=> by
  rw [ZM] at h
  obtain ⟨y,u,hx⟩:=Qd.1 h
  have m1:=ZtN r l o d rest out y (hr o Q7) u
  have m2:=Zix r l s d _ _ x (fun q hq=> hr q (Q0 _ hq)) hx
  rw [Jh]
  omega
theorem ZtN(r:Bool)(l:Int):∀ (o:OpOf Edit) (d:Int) (rest out:List Tree) (x:List Tree × List Tree),Zb l o d=true->Z2C r o rest out=some x->Zg x.1+Zg x.2<=Zg out+Zg rest+Z3S o
 | ⟨k,n,L,e⟩,d,rest,out,x,hr,h=> by
  have he:=ZgL r e d (rest.getD 0 Tree.nil)
  rw [Z2C] at h
  simp only [Z3S]
  split at h
  .split at h
   .cases h
    have:=Jg (rest.take n.toNat) (rest.drop n.toNat)
    rw [Qx] at this
    dsimp only
    rw [Jg];omega
   .cases h
  .split at h
   .split at h
    .cases h
     have:=Z3G L.length rest
     grind
    .cases h
   .split at h
    .cases h
     dsimp only
     rw [Jg];omega
    .split at h
     .cases h
     .obtain ⟨u,s,e2⟩:=Q9.1 h
      cases e2
      have hk:k=3:=by
       have ra:=ZN hr
       generalize ho:OpOf.mk k n L e=o at ra
       cases ra <;> (injection ho with h1;try omega)
      rw [Z63] at s
      obtain ⟨v,hv,s⟩:=Q9.1 s
      have:=he v (YH hr hk) hv
      have aa:=Zgz r v
      rw [s] at aa
      cases rest with
      | nil=> contradiction
      | cons a q=>
       rw [Jg]
       simp only [Zg,Qw,QM,Qh] at this ⊢
       omega
end
theorem Z5S(r:Bool)(e:Edit)(d:Int)(t u:Tree)(hr:Z3 e d=true)(h:doE r e t=some u):Zo u+18<=Zo t+ctE e:=by
 rw [Z63] at h
 obtain ⟨v,hv,hu⟩:=Q9.1 h
 have:=ZgL r e d t v hr hv
 have s:=Zgz r v
 grind
theorem ZFv{f:Nat->Int}(h:∀ i,0<=f i/\f i < 256):isW (of8 f):=by
 have h0:=h 0;have u:=h 1;have h2:=h 2;have h3:=h 3;have h4:=h 4;have h5:=h 5;have s:=h 6;have h7:=h 7
 unfold isW of8
 omega
theorem J7(a b m:Int):isW (mix a b m):=ZFv (Z74 a b m)
theorem Z5D{l:List Tree}(h:∀ t∈l,rng t):Yx l:=by
 induction l with
 | nil=> exact trivial
 | cons a r ih=> exact ⟨h a Q7,ih fun t s=> h t (Q0 _ s)⟩
theorem Z06:rng Tree.nil:=⟨V2,by simp,trivial⟩
theorem Z94{α:Type}{z x y:α}{l:List α}{i:Nat}(h:y∈YG z l i x):y∈l\/y=z\/y=x:=by
 rcases List.mem_or_eq_of_mem_set h with h | h
 .rcases Qj.1 h with h | h
  .exact .inl h
  .exact .inr (.inl (List.eq_of_mem_replicate h))
 .exact .inr (.inr h)
theorem ZpO{ks:List Tree}(h:Yx ks)(i:Nat):rng (ks.getD i Tree.nil):=by
 by_cases hi:i < ks.length
 .exact YC h (Zk hi _)
 .rw [Qq,QQ JX]
  exact Z06
theorem Zj9{tw:List Int}:∀ {ws:List WEdit} {out a:List Int},(∀ x∈out,isW x)->wsD tw ws out=some a->∀ x∈a,isW x
 | [],out,a,h,hw=> by rw [wsD] at hw;grind
 | w ::r,out,a,h,hw=> by
  rw [wsD] at hw
  split at hw
  .refine Zj9 (fun x s=> ?_) hw
   rcases Z94 s with s | rfl | rfl
   .exact h x s
   .trivial
   .exact J7 _ _ _
  .cases hw
mutual
theorem Z6H(r:Bool):∀ (e:Edit) (t u:Tree),ZZ e->rng t->doE r e t=some u->rng u
 | .mk k o n w ks l os,t,u,hr,ht,h=> by
  have h1:=ZlM r ks
  have h2:=ZlL r os
  simp only [ZZ] at hr
  obtain ⟨r1,r2,r3,r4,r5,r6,r7⟩:=hr
  have aa:InR t.kind/\(∀ x∈t.words,isW x)/\Yx t.kids:=by obtain ⟨k,w,ks⟩:=t;exact ht
  rw [Z18] at h
  obtain ⟨v,s,hu⟩:=Q9.1 h
  suffices rng v by
   rw [<-hu];unfold nrD
   split
   .exact Z0i v this
   .exact this
  clear h hu
  split at s
  .grind
  .split at s
   .simp_all
   .split at s
    .split at s
     .obtain ⟨a,ha,hb⟩:=Qd.1 s
      obtain ⟨b,hb,e⟩:=Q9.1 hb
      rw [<-e]
      exact ⟨V2,Zj9 aa.2.1 ha,h1 _ _ _ r6 aa.2.2 aa.2.2 hb⟩
     .cases s
    .split at s
     .split at s
      .obtain ⟨b,hb,e⟩:=Q9.1 s
       unfold Z22 at hb
       obtain ⟨x,hx,hy⟩:=Qd.1 hb
       split at hy
       .cases hy
        rw [<-e]
        exact ⟨r5,by simp,(h2 _ [] _ r7 aa.2.2 trivial hx).1⟩
       .cases hy
      .cases s
     .cases s
theorem ZlM(r:Bool):∀ (ks:List (KidOf Edit)) (tk out b:List Tree),Z0P ks->Yx tk->Yx out->Jy r tk ks out=some b->Yx b
 | [],tk,out,b,_,_,ho,h=> by rw [Jy] at h;cases h;exact ho
 | k ::s,tk,out,b,hk,ht,ho,h=> by
  rw [Jy] at h
  obtain ⟨u,hu,hb⟩:=Qd.1 h
  have m1:=Zth r k tk u hk.1 ht hu
  refine ZlM r s tk _ b hk.2 ht (Z5D fun x hx=> ?_) hb
  rcases Z94 hx with hx | rfl | rfl
  .exact YC ho hx
  .exact Z06
  .exact m1
theorem Zth(r:Bool):∀ (k:KidOf Edit) (tk:List Tree) (u:Tree),Z1v k->Yx tk->Z2v r tk k=some u->rng u
 | ⟨a,e⟩,tk,u,hr,ht,h=> by
  rw [Z2v] at h
  exact Z6H r e _ u hr.2 (ZpO ht _) h
theorem ZlL(r:Bool):∀ (os:List (OpOf Edit)) (rest out:List Tree) (x:List Tree × List Tree),Z0j os->Yx rest->Yx out->ZM r os rest out=some x->Yx x.1/\Yx x.2
 | [],rest,out,x,_,hr,ho,h=> by rw [ZM] at h;grind
 | o ::s,rest,out,x,hs,hr,ho,h=> by
  rw [ZM] at h
  obtain ⟨y,hy,hx⟩:=Qd.1 h
  have u:=ZvQ r o rest out y hs.1 hr ho hy
  exact ZlL r s _ _ x hs.2 u.2 u.1 hx
theorem ZvQ(r:Bool):∀ (o:OpOf Edit) (rest out:List Tree) (x:List Tree × List Tree),YZ o->Yx rest->Yx out->Z2C r o rest out=some x->Yx x.1/\Yx x.2
 | ⟨k,n,L,e⟩,rest,out,x,hs,hr,ho,h=> by
  have he:=Z6H r e (rest.getD 0 Tree.nil)
  simp only [YZ] at hs
  have hd:∀ n,Yx (rest.drop n):=fun n=> Z5D fun t ht=> YC hr (Xf ht)
  have s:∀ l,Yx l->Yx (out++l):=fun l hl=> Z6I.2 ⟨ho,hl⟩
  rw [Z2C] at h
  split at h
  .split at h
   .cases h
    exact ⟨s _ (Z5D fun t ht=> YC hr (XK ht)),hd _⟩
   .cases h
  .split at h
   .grind
   .split at h
    .grind
    .split at h
     .cases h
     .obtain ⟨u,hu,e2⟩:=Q9.1 h
      cases e2
      exact ⟨s _ ⟨he u hs.2.2.2 (ZpO hr 0) hu,trivial⟩,hd _⟩
end
section
variable {α β:Type} (z:α) (f:β->Option α) (p:β->Int)
def mg:List β->List α->Option (List α)
 | [],out=> some out
 | w ::r,out=> (f w).bind fun v=> mg r (YG z out (p w).toNat v)
def asc(last:Int):List β->Prop
 | []=> True
 | w ::r=> last < p w/\asc (p w) r
variable {z f p} {l0:List α} {ws:List β} {n a i:Int} {out:List α}
theorem ZcO{last:Int}:∀ {l:List β},asc p last l->∀ w∈l,last < p w
 | [],_,_,hw=> by cases hw
 | b ::r,h,w,hw=> by
  rcases Qa.1 hw with rfl | hw
  .exact h.1
  .have:=ZcO h.2 w hw
   have:=h.1
   omega
theorem Zuy{m last:Int}(h:m<=last):∀ {l:List β},asc p last l->asc p m l
 | [],_=> trivial
 | _ ::_,g=> ⟨by have:=g.1;omega,g.2⟩
end
theorem Zj7(tw:List Int):∀ (ws:List WEdit) (out:List Int),wsD tw ws out=mg 0 (fun w=> if mix 0 (tw.getD w.at_.toNat 0) w.mask=w.old then some (mix (tw.getD w.at_.toNat 0) w.new w.mask) else none) WEdit.at_ ws out
 | [],_=> rfl
 | w ::r,out=> by
  rw [wsD,mg]
  split
  .rw [Qn];exact Zj7 tw r _
  .try rfl
theorem ZeK(r:Bool)(tk:List Tree):∀ (ks:List Kid) (out:List Tree),Jy r tk ks out=mg Tree.nil (Z2v r tk) KidOf.at_ ks out
 | [],_=> by rfl
 | k ::s,out=> by
  rw [Jy,mg]
  congr 1
  funext u
  exact ZeK r tk s _
theorem Z03:∀ {ws:List WEdit} {last:Int},ZL last ws=true->asc WEdit.at_ last ws
 | [],_,_=> trivial
 | w ::r,last,h=> by
  have s:=YQ h w Q7
  simp only [ZL,Q6] at h
  exact ⟨s.1,Z03 h.2⟩
theorem Z0U:∀ {ks:List Kid} {last d:Int},Zw last ks d=true->asc KidOf.at_ last ks
 | [],_,_,_=> trivial
 | k ::r,last,d,h=> by
  obtain ⟨u,_,s⟩:=Z5G h
  exact ⟨u.1,Z0U s⟩
end Go.AM.YtpjenobkibfpcaaGreat
namespace Go.AM.YtpjenobkibfpcaaGreat
open Go.AM Go.Proofs
theorem ZAF{f g:Nat->Int}(hf:∀ i,0<=f i/\f i < 256)(hg:∀ i,0<=g i/\g i < 256)(h:of8 f=of8 g):∀ i,i < 8->f i=g i:=by
 unfold of8 at h
 grind
theorem Zcp{a:Int}(h:isW a):of8 (Zl a)=a:=by
 obtain ⟨s,u⟩:=h
 simp only [of8,Zl]
 omega
theorem Z02{a b:Int}(ha:isW a)(hb:isW b)(h:∀ i,i < 8->Zl a i=Zl b i):a=b:=by
 rw [<-Zcp ha,<-Zcp hb]
 unfold of8
 grind
theorem Z2o{a b m:Int}{i:Nat}(h:i < 8):Zl (mix a b m) i=Jf a b m i:=
 ZAF (fun i=> Z1J _ i) (Z74 a b m) (by rw [Zcp (J7 a b m)];rfl) i h
section
variable {α β:Type} {z:α} {f:β->Option α} {p:β->Int}
theorem JF:∀ {ws:List β} {last:Int} {out r:List α},-1<=last->asc p last ws->mg z f p ws out=some r->
  (∀ w∈ws,∃ v,f w=some v/\r.getD (p w).toNat z=v)/\(∀ i:Nat,(∀ w∈ws,(p w).toNat≠i)->r.getD i z=out.getD i z)
 | [],_,out,r,_,_,h=> by
  rw [mg] at h;grind
 | w ::s,last,out,r,hl,ha,h=> by
  rw [mg] at h
  obtain ⟨v,hv,hr⟩:=Qd.1 h
  have h1:=ha.1
  obtain ⟨i1,i2⟩:=JF JX ha.2 hr
  have hn:∀ x∈s,(p x).toNat≠(p w).toNat:=fun x u=> by have:=ZcO ha.2 x u;omega
  refine ⟨fun x u=> ?_,fun i hi=> ?_⟩
  .rcases Qa.1 u with rfl | u
   .refine ⟨v,hv,?_⟩
    rw [i2 _ hn,JP,if_pos rfl]
   grind
  .rw [i2 i (fun x u=> hi x (Q0 _ u)),JP,if_neg (fun e=> hi w Q7 e.symm)]
end
theorem Z9c{list d:Int}:∀ {l:List Tree},Yl list l d=true->∀ t∈l,Zd t d=true
 | [],_,_,ht=> by cases ht
 | a ::r,h,t,ht=> by
  simp only [Yl,Q6] at h
  rcases Qa.1 ht with rfl | ht
  .exact h.1.2
  .exact Z9c h.2 t ht
def RT_(t:Tree):Prop:=(∃ d,Zd t d=true)/\rng t
theorem RT_.kids{t:Tree}(h:RT_ t):(∀ k∈t.kids,RT_ k)/\(t.kind≠0->t.kind≠1->t.kind≠10->t.words=[]):=by
 obtain ⟨⟨d,h⟩,hr⟩:=h
 obtain ⟨k,w,ks⟩:=t
 have u:∀ x∈ks,rng x:=fun x s=> YC hr.2.2 s
 show (∀ x∈ks,RT_ x)/\(k≠0->k≠1->k≠10->w=[])
 rw [Zd] at h
 split at h
 .grind
 .split at h
  .grind
  .split at h
   .cases h
   .split at h
    .simp only [Q6] at h
     exact ⟨fun x s=> ⟨⟨_,Z9c h.2 x s⟩,u x s⟩,fun _ h1=> absurd ‹_› h1⟩
    .simp only [Q6,decide_eq_true_eq] at h
     exact ⟨fun x s=> ⟨⟨_,Z9c h.2 x s⟩,u x s⟩,fun _ _ _=> Q5 h.1.2.2.1⟩
theorem ZHM:RT_ Tree.nil:=⟨⟨1,rfl⟩,Z06⟩
theorem Z7s{l:List Tree}(h:∀ t∈l,RT_ t)(i:Nat):RT_ (l.getD i Tree.nil):=by
 by_cases hi:i < l.length
 .grind
 .rw [Qq,QQ JX];exact ZHM
theorem Zeh{t:Tree}(h:rng t):InR t.kind/\(∀ x∈t.words,isW x)/\Yx t.kids:=by obtain ⟨k,w,ks⟩:=t;exact h
theorem Z6L{list:Int}{o:Op}{d:Int}(h:Zb list o d=true):o.kind=0\/o.kind=1\/o.kind=2\/o.kind=3:=by
 have r:=ZN h
 cases r with
 | keep=> simp
 | gone=> grind
 | come=> grind
 | into=> grind
end Go.AM.YtpjenobkibfpcaaGreat
namespace Go.AM.YtpjenobkibfpcaaGreat
open Go.AM Go.Proofs
def Rx(x y:List Tree × List Tree):Prop:=EqvL x.1 y.1/\EqvL x.2 y.2
theorem Rx.rfl'(a:Option (List Tree × List Tree)):OptR Rx a a:=by cases a;exact trivial;exact ⟨rfl,rfl⟩
theorem Rx.of{a b:Option (List Tree × List Tree)}(h:a=b):OptR Rx a b:=by rw [h];exact Rx.rfl' b
theorem OptR.trans'{α:Type}{R:α->α->Prop}(ht:∀ x y z,R x y->R y z->R x z){a b c:Option α}(h1:OptR R a b)(h2:OptR R b c):OptR R a c:=by
 cases a <;> cases b <;> cases c <;> first | exact trivial | exact h1.elim | exact h2.elim | exact ht _ _ _ h1 h2
theorem Rx.trans{a b c:Option (List Tree × List Tree)}(h1:OptR Rx a b)(h2:OptR Rx b c):OptR Rx a c:=
 OptR.trans' (fun _ _ _ p q=> ⟨Eq.trans p.1 q.1,Eq.trans p.2 q.2⟩) h1 h2
theorem Z59(r:Bool):∀ (a b:List Op) (rest out:List Tree),ZM r (a++b) rest out=(ZM r a rest out).bind fun x=> ZM r b x.2 x.1
 | [],b,rest,out=> by rfl
 | o ::s,b,rest,out=> by
  rw [QA,ZM,ZM]
  cases h:Z2C r o rest out with
  | none=> rfl
  | some x=> rw [Qn,Qn];exact Z59 r s b _ _
theorem ZbJ(r:Bool)(o:Op)(rest out:List Tree):ZM r [o] rest out=Z2C r o rest out:=by
 rw [ZM]
 cases Z2C r o rest out with
 | none=> rfl
 | some x=> rfl
theorem Z7j(r:Bool)(a:List Op)(o:Op)(rest out:List Tree):ZM r (a++[o]) rest out=(ZM r a rest out).bind fun x=> Z2C r o x.2 x.1:=by
 rw [Z59]
 congr 1
 funext x
 exact ZbJ r o _ _
theorem Z4h{r:Bool}:∀ {os:List Op} {rest out:List Tree} {x:List Tree × List Tree},ZM r os rest out=some x->∃ n,x.2=rest.drop n
 | [],rest,out,x,h=> by rw [ZM] at h;cases h;exact ⟨0,by simp⟩
 | o ::s,rest,out,x,h=> by
  rw [ZM] at h
  obtain ⟨y,hy,hx⟩:=Qd.1 h
  obtain ⟨n,hn⟩:=Z4h hx
  have:∃ m,y.2=rest.drop m:=by
   rw [YP] at hy
   split at hy
   .grind
   .split at hy
    .grind
    .split at hy
     .cases hy;exact ⟨0,by simp⟩
     .split at hy
      .cases hy
      .obtain ⟨u,_,e⟩:=Q9.1 hy
       grind
  obtain ⟨m,hm⟩:=this
  exact ⟨m+n,by simp_all⟩
theorem Zu7(rest:List Tree):JT [] rest=true:=by unfold JT;simp_all
theorem ZmM(l rest:List Tree):JT (Z6 l) rest=JT l rest:=by
 unfold JT
 rw [Zdg,show (Z6 l).length=l.length by simp [Z6]]
theorem Z1Z(l rest:List Tree):JT l rest=true↔l.length<=rest.length/\Z6 l=Z6 (rest.take l.length):=by
 unfold JT
 rw [Q6,decide_eq_true_eq,Z0c]
theorem Zu9(a b rest:List Tree):JT (a++b) rest=(JT a rest && JT b (rest.drop a.length)):=by
 rw [Qs,Q6,Z1Z,Z1Z,Z1Z]
 simp only [Qk,X9]
 constructor
 .rintro ⟨h1,h⟩
  rw [Yu,List.take_add,Yu] at h
  obtain ⟨u,s⟩:=XP h (by simp [Z6];omega)
  grind
 .rintro ⟨⟨h1,h⟩,u,s⟩
  refine ⟨JX,?_⟩
  rw [Yu,List.take_add,Yu,h,s]
theorem ZbH(s:Wst)(rest out:List Tree):ZM false (Zi s).out rest out=(ZM false s.out rest out).bind fun x=> if JT s.gone x.2=true then some (x.1++s.brought,x.2.drop s.gone.length) else none:=by
 simp only [Zi,Z0L]
 rw [Z59]
 congr 1
 funext x
 rw [Z59]
 have u:ZM false (if s.gone.length=0 then [] else [⟨1,0,s.gone,Edit.nil⟩]) x.2 x.1=if JT s.gone x.2=true then some (x.1,x.2.drop s.gone.length) else none:=by
  split
  .rename_i h
   rw [Q5 h,Zu7,if_pos rfl,ZM]
   try rfl
  .rw [ZbJ,YP]
   rw [if_neg (by show ¬(1:Int)=0;omega),if_pos rfl]
 have h2:∀ y:List Tree × List Tree,ZM false (if s.brought.length=0 then [] else [⟨2,0,s.brought,Edit.nil⟩]) y.2 y.1=some (y.1++s.brought,y.2):=by
  intro y
  split
  .rename_i h
   rw [Q5 h,Ql,ZM]
  .rw [ZbJ,YP]
   rw [if_neg (by show ¬(2:Int)=0;omega),if_neg (by show ¬(2:Int)=1;omega),if_pos rfl]
 rw [u]
 split
 .rw [Qn,h2]
 .try rfl
theorem ZC6{F:List Op}{n:Int}(hF:∀ o∈F,0<=o.n)(hn:0<=n)(rest out:List Tree):ZM false (Z2u F n) rest out=ZM false (F++[⟨0,n,[],Edit.nil⟩]) rest out:=by
 rcases JS F n with h | ⟨a,o,h1,h2,h3⟩
 .rw [h]
 .rw [h3,h1,Z7j,Z7j,Z7j]
  cases hx:ZM false a rest out with
  | none=> rfl
  | some x=>
   have s:=hF o (by rw [h1];simp)
   simp only [Qn]
   rw [YP,YP,if_pos h2,if_pos h2]
   simp only
   have e:(o.n+n).toNat=o.n.toNat+n.toNat:=JX
   rw [e]
   by_cases c:o.n.toNat<=x.2.length
   .rw [if_pos c,Qn,YP,if_pos rfl]
    simp only [X9]
    by_cases c2:n.toNat<=x.2.length - o.n.toNat
    .rw [if_pos c2,Jq,XT,Qo,<-List.take_add]
    grind
   .rw [if_neg c,J3]
    try rfl
def N0s(s:Wst):Prop:=∀ o∈s.out,0<=o.n
theorem N0s.flush{s:Wst}(h:N0s s):∀ o∈(Zi s).out,0<=o.n:=by
 intro o u
 simp only [Zi,Z0L,Qj] at u
 rcases u with u | u | u
 .exact h o u
 .split at u
  .cases u
  .simp only [Qg] at u;subst u;exact Xa 0
 .split at u
  .cases u
  .simp only [Qg] at u;subst u;exact Xa 0
theorem N0s.keep{s:Wst}(h:N0s s){n:Int}(hn:0<=n):N0s (Yr s n):=by
 intro o u
 simp only [Yr] at u
 rcases JS (Zi s).out n with e | ⟨a,p,h1,h2,h3⟩
 .rw [e] at u
  rcases Qj.1 u with u | u
  .exact h.flush o u
  grind
 .rw [h3] at u
  rcases Qj.1 u with u | u
  .exact h.flush o (by grind)
  .simp only [Qg] at u;subst u
   have:=h.flush p (by rw [h1];simp)
   grind
theorem ZpQ{list d:Int}{o:Op}(h:Zb list o d=true):0<=o.n:=by
 have r:=ZN h
 cases r with
 | keep n h1=> grind
 | gone | come | into=> grind
theorem N0s.op{list d:Int}{s:Wst}{o:Op}(h:N0s s)(hr:Zb list o d=true):N0s (Z1i list o s):=by
 rw [Z4Q]
 split
 .exact h.keep (ZpQ hr)
 .split
  .exact h
  .split
   .exact h
   .split
    .split
     .exact h.keep JX
     .intro p u
      rcases Qj.1 u with u | u
      .exact h.flush p u
      grind
    .exact h
def K9(list:Int)(l:List Tree):Prop:=(∀ t∈l,RT_ t)/\(list=9->∀ t∈l,t.kind=1)
theorem K9.drop{list:Int}{l:List Tree}(h:K9 list l)(n:Nat):K9 list (l.drop n):=⟨fun t s=> h.1 t (Xf s),fun e t s=> h.2 e t (Xf s)⟩
theorem ZpR{d:Int}:∀ {l:List Tree},Yl 9 l d=true->∀ t∈l,t.kind=1
 | [],_,t,ht=> by cases ht
 | a ::r,h,t,ht=> by
  simp only [Yl,Q6] at h
  rcases Qa.1 ht with rfl | ht
  .have:=h.1.1
   simpa [Z0V] using this
  .exact ZpR h.2 t ht
theorem RT_.k9{t:Tree}(h:RT_ t):K9 t.kind t.kids:=by
 refine ⟨h.kids.1,fun e=> ?_⟩
 obtain ⟨⟨d,h⟩,_⟩:=h
 obtain ⟨k,w,ks⟩:=t
 have e:k=9:=e
 subst e
 rw [Zd,J3,J3] at h
 split at h
 .cases h
 .rw [J3] at h
  simp only [Q6] at h
  exact ZpR h.2
theorem ZAk {list d:Int} {s:Wst} {o:Op} (hs:N0s s) (hr:Zb list o d=true) {rest:List Tree} (hk:K9 list rest) (out:List Tree)
  (ih:∀ y,RT_ y->Z3 o.e d=true->OptR Eqv (doE false (Zj o.e) y) (doE false o.e y)):
  OptR Rx (ZM false (Zi (Z1i list o s)).out rest out) ((ZM false (Zi s).out rest out).bind fun x=> Z2C false o x.2 x.1):=by
 have keep:∀ n:Int,0<=n->ZM false (Zi (Yr s n)).out rest out=(ZM false (Zi s).out rest out).bind fun x=> Z2C false ⟨0,n,[],Edit.nil⟩ x.2 x.1:=by
  intro n hn
  have e:(Zi (Yr s n)).out=Z2u (Zi s).out n:=by simp [Zi,Z0L,Yr]
  rw [e,ZC6 hs.flush hn,Z7j]
 rw [Z4Q]
 have r1:=Z6L hr
 by_cases h0:o.kind=0
 .rw [if_pos h0,keep _ (ZpQ hr)]
  refine Rx.of ?_
  congr 1
  funext x
  rw [YP,YP,if_pos rfl,if_pos h0]
 .rw [if_neg h0]
  by_cases h1:o.kind=1
  .rw [if_pos h1,ZbH,ZbH]
   refine Rx.of ?_
   rw [Kj]
   congr 1
   funext x
   simp only
   rw [Zu9,ZmM]
   by_cases c:JT s.gone x.2=true
   .rw [if_pos c,c,QL,Qn,YP,if_neg h0,if_pos h1]
    simp only
    rw [XT,show (s.gone++Z6 o.l).length=s.gone.length+o.l.length by simp [Z6]]
   grind
  .rw [if_neg h1]
   by_cases h2:o.kind=2
   .rw [if_pos h2,ZbH,ZbH,Kj]
    refine OptR.bind (R:=Eq) (OptR.rfl' _) ?_
    rintro x _ rfl
    simp only
    split
    .rw [Qn,YP,if_neg h0,if_neg h1,if_pos h2]
     refine ⟨?_,rfl⟩
     show Z6 (x.1++(s.brought++Z6 o.l))=Z6 (x.1++s.brought++o.l)
     simp only [Yu,Zdg,Qo]
    .exact trivial
   .have h3:o.kind=3:=by rcases r1 with h | h | h | h <;> first | exact absurd h h0 | exact absurd h h1 | exact absurd h h2 | exact h
    rw [if_neg h2,if_pos h3]
    have ah:=YH hr h3
    have ra:=ZN hr
    by_cases hi:Zh6 list (Zj o.e)=true
    .rw [if_pos hi,keep 1 JX]
     cases hx:ZM false (Zi s).out rest out with
     | none=> exact trivial
     | some x=>
      obtain ⟨m,hm⟩:=Z4h hx
      have aa:=hk.drop m
      rw [<-hm] at aa
      simp only [Qn]
      rw [YP,YP,if_pos rfl,if_neg h0,if_neg h1,if_neg h2]
      cases hx2:x.2 with
      | nil=> exact trivial
      | cons y q=>
       rw [hx2] at aa
       have ae:o.e.kind≠0:=by
        cases ra with
        | into e _ h=> exact h
        | keep | gone | come=> grind
       simp only [Zh6,decide_eq_true_eq,Z4R] at hi
       rcases hi with hi | ⟨hl9,he2,hw,hks⟩
       .omega
       .have hy:=aa.2 hl9 y Q7
        have hn:=ZaT o.e
        rw [J3,if_pos he2] at hn
        have e1:o.e.words=[]:=by rw [hn] at hw;exact Q5 hw
        have e2:o.e.kids=[]:=by
         rw [hn] at hks
         have:(Z0R o.e.kids).length=0:=hks
         cases hh:o.e.kids with
         | nil=> rfl
         | cons a b=> rw [hh] at this;trivial
        have hd:doE false o.e y=some (.mk 1 y.words y.kids):=by
         rw [Z18,if_neg ae,J3,if_pos he2,if_pos hy,e1,e2,wsD,Qn,Jy]
         try rfl
        rw [if_neg (show ¬(y ::q).length=0 by simp),Qh,hd,if_pos (show Int.toNat 1<=(y ::q).length by simp)]
        refine ⟨?_,rfl⟩
        show Z6 (x.1++[y])=Z6 (x.1++[Tree.mk 1 y.words y.kids])
        rw [show Tree.mk 1 y.words y.kids=y by rw [<-hy];exact Tree.eta y]
    .rw [if_neg hi]
     have e:(Zi ⟨(Zi s).out++[⟨3,0,[],Zj o.e⟩],[],[]⟩).out=(Zi s).out++[⟨3,0,[],Zj o.e⟩]:=by simp [Zi,Z0L]
     rw [e,Z7j]
     cases hx:ZM false (Zi s).out rest out with
     | none=> exact trivial
     | some x=>
      obtain ⟨m,hm⟩:=Z4h hx
      have aa:=hk.drop m
      rw [<-hm] at aa
      simp only [Qn]
      rw [YP,YP,if_neg h0,if_neg h1,if_neg h2,if_neg (by grind),if_neg (by grind),if_neg (by grind)]
      refine OptR.ite QN (fun _=> trivial) fun _=> ?_
      exact (ih _ (Z7s aa.1 0) ah).map fun u v h=> ⟨Z1U rfl (JK.2 h),rfl⟩
mutual
theorem Z3E:∀ (e:Edit) (d:Int) (t:Tree),Z3 e d=true->RT_ t->OptR Eqv (doE false (Zj e) t) (doE false e t)
 | .mk k o n w ks l os,d,t,hr,ht=> by
  have ri:=Zh hr
  have h1:=Zmf ks
  have h2:=Zme l os
  have u:=ht.kids.1
  have s:Zj (.mk k o n w ks l os)=if k=1 then .mk k (Z0 o) (Z0 n) [] [] l [] else if k=2 then .mk k Tree.nil Tree.nil w (Z0R ks) l [] else if k=3 then .mk k Tree.nil Tree.nil [] [] l (Zi (J1 l os ⟨[],[],[]⟩)).out else .mk k Tree.nil Tree.nil [] [] l []:=by rw [Zj]
  rw [Z63,Z63,YA,YA]
  by_cases c1:k=1
  .subst c1
   rw [if_pos rfl] at s
   unfold ZjV
   rw [s]
   refine OptR.ite QN (fun _=> rfl) fun _=> OptR.ite QN (fun _=> ?_) (fun h=> absurd rfl h)
   show OptR Eqv (if Yf (Z0 (Z0 o)) (Z0 t)=true then some (Z0 n) else none) (if Yf (Z0 o) (Z0 t)=true then some n else none)
   rw [ZI]
   exact OptR.ite QN (fun _=> ZI n) (fun _=> trivial)
  .by_cases c2:k=2
   .subst c2
    rw [if_neg c1,if_pos rfl] at s
    unfold ZjV
    rw [s]
    refine OptR.ite QN (fun _=> rfl) fun _=> OptR.ite QN (fun h=> absurd h c1) fun _=> OptR.ite QN (fun _=> ?_) (fun h=> absurd rfl h)
    refine OptR.ite QN (fun ab=> ?_) (fun _=> trivial)
    refine OptR.bind (R:=Eq) (OptR.rfl' _) ?_
    rintro a _ rfl
    exact (h1 (d - 1) t.kids t.kids t.kids (fun k hk=> (Zs ri.kids k hk).2) u rfl).map fun x y h=> Z71 _ _ h
   .by_cases c3:k=3
    .subst c3
     rw [if_neg c1,if_neg c2,if_pos rfl] at s
     unfold ZjV
     rw [s]
     refine OptR.ite QN (fun _=> rfl) fun _=> OptR.ite QN (fun h=> absurd h c1) fun _=> OptR.ite QN (fun h=> absurd h c2) fun _=> OptR.ite QN (fun _=> ?_) (fun h=> absurd rfl h)
     refine OptR.ite QN (fun ab=> ?_) (fun _=> trivial)
     have aa:=ht.k9
     rw [ab] at aa
     have:=h2 (d - 1) ⟨[],[],[]⟩ t.kids [] (fun o ho=> Go.AM.rightOs_mem ri.ops o ho) (fun o ho=> by cases ho) aa
     exact (ZmT this).map fun x y h=> Z71 _ _ h
    .have e0:k=0:=by have:=ri.kind;have:0<=k/\k<=3:=this;omega
     subst e0
     try rfl
theorem Zmf:∀ (ks:List (KidOf Edit)) (d:Int) (tk a b:List Tree),(∀ k∈ks,Z3 k.e d=true)->(∀ t∈tk,RT_ t)->EqvL a b->OptR EqvL (Jy false tk (Z0R ks) a) (Jy false tk ks b)
 | [],d,tk,a,b,_,_,h=> by trivial
 | k ::r,d,tk,a,b,hr,ht,h=> by
  rw [Z0R,Jy,Jy]
  have e:(Z1T k).at_=k.at_:=by cases k;rfl
  rw [e]
  refine (ZtE k d tk (hr k Q7) ht).bind fun x y s=> Zmf r d tk _ _ (fun q u=> hr q (Q0 _ u)) ht (ZtF h s)
theorem ZtE:∀ (k:KidOf Edit) (d:Int) (tk:List Tree),Z3 k.e d=true->(∀ t∈tk,RT_ t)->OptR Eqv (Z2v false tk (Z1T k)) (Z2v false tk k)
 | ⟨a,e⟩,d,tk,hr,ht=> by rw [Z1T,Z2v,Z2v];exact Z3E e d _ hr (Z7s ht _)
theorem Zme(list:Int):∀ (os:List (OpOf Edit)) (d:Int) (s:Wst) (rest out:List Tree),(∀ o∈os,Zb list o d=true)->N0s s->K9 list rest->OptR Rx (ZM false (Zi (J1 list os s)).out rest out) (ZM false ((Zi s).out++os) rest out)
 | [],d,s,rest,out,_,_,_=> by rw [J1,Ql];exact Rx.rfl' _
 | o ::r,d,s,rest,out,hr,hs,hk=> by
  have ho:=hr o Q7
  have st:=ZAk hs ho hk out (Zx4 o d)
  rw [J1]
  refine Rx.trans (Zme list r d _ rest out (fun q u=> hr q (Q0 _ u)) (hs.op ho) hk) ?_
  rw [Z59,Z59]
  have e:∀ x:List Tree × List Tree,ZM false (o ::r) x.2 x.1=(Z2C false o x.2 x.1).bind fun y=> ZM false r y.2 y.1:=fun x=> by rw [ZM]
  rw [show (fun x:List Tree × List Tree=> ZM false (o ::r) x.2 x.1)=fun x=> (Z2C false o x.2 x.1).bind fun y=> ZM false r y.2 y.1 from funext e,<-Kj]
  exact st.bind fun x y h=> Zhc r _ _ _ _ h.2 h.1 (fun q u=> ⟨_,_,hr q (Q0 _ u)⟩)
theorem Zx4:∀ (o:OpOf Edit) (d:Int),∀ y,RT_ y->Z3 o.e d=true->OptR Eqv (doE false (Zj o.e) y) (doE false o.e y)
 | ⟨_,_,_,e⟩,d,y,hy,hr=> Z3E e d y hr hy
end
mutual
theorem ZbU:∀ e:Edit,Zn (Zn e)=e
 | .mk k o n w ks l os=> by
  simp only [Zn]
  rw [ZtR,ZcV ks,ZcU os]
theorem ZcV:∀ ks:List (KidOf Edit),Y9 (Y9 ks)=ks
 | []=> rfl
 | k ::r=> by simp only [Y9];rw [Zjf k,ZcV r]
theorem Zjf:∀ k:KidOf Edit,YY (YY k)=k
 | ⟨a,e⟩=> by simp only [YY];rw [ZbU e]
theorem ZcU:∀ os:List (OpOf Edit),Ye (Ye os)=os
 | []=> rfl
 | o ::r=> by simp only [Ye];rw [Zlu o,ZcU r]
theorem Zlu:∀ o:OpOf Edit,Y8 (Y8 o)=o
 | ⟨k,n,l,e⟩=> by
  have h:=ZbU e
  simp only [Y8]
  split
  .rename_i c;subst c;rfl
  .split
   .rename_i c;subst c;rfl
   .split
    .rename_i c;subst c;simp only [Y8];rw [h];try rfl
    .rename_i c1 u s;simp only [Y8];grind
end
theorem ZtM{a n m:Int}(hn:isW n)(s:ZG n m=true):mix 0 (mix a n m) m=n:=by
 unfold ZG at s
 have s:mix n 0 m=0:=of_decide_eq_true s
 refine Z02 (J7 _ _ _) hn fun i u=> ?_
 have e:=congrArg (fun x=> Zl x i) s
 simp only [Z2o u,Jf] at e
 rw [Z2o u,Jf]
 by_cases h:Ys m i=true
 .rw [if_pos h,Z2o u,Jf,if_pos h]
 grind
theorem ZtL{a n o m:Int}(ha:isW a)(ho:mix 0 a m=o):mix (mix a n m) o m=a:=by
 refine Z02 (J7 _ _ _) ha fun i s=> ?_
 rw [Z2o s,Jf]
 by_cases h:Ys m i=true
 .rw [if_pos h,<-ho,Z2o s,Jf,if_pos h]
 .rw [if_neg h,Z2o s,Jf,if_neg h]
theorem Z5Q{α β:Type}{z:α}{f:β->Option α}{p:β->Int}:∀ {ws:List β} {out:List α},(∀ w∈ws,∃ v,f w=some v)->∃ r,mg z f p ws out=some r
 | [],out,_=> ⟨out,rfl⟩
 | w ::s,out,h=> by
  obtain ⟨v,u⟩:=h w Q7
  rw [mg,u,Qn]
  exact Z5Q fun x hx=> h x (Q0 _ hx)
theorem Z9N{l:List Int}(h:∀ x∈l,isW x)(i:Nat):isW (l.getD i 0):=by
 by_cases hi:i < l.length
 .grind
 .rw [Qq,QQ JX];trivial
theorem Zni{tw:List Int}{ws:List WEdit}{r:List Int}(hw:ZL (-1) ws=true)(it:∀ x∈tw,isW x)(iw:∀ w∈ws,Z0O w)(h:wsD tw ws tw=some r):∃ v,wsD r (ws.map Jk) r=some v/\ZuH v tw:=by
 rw [Zj7] at h
 obtain ⟨a1,a2⟩:=JF JX (Z03 hw) h
 have aa:∀ w∈ws,(if mix 0 (r.getD (Jk w).at_.toNat 0) (Jk w).mask=(Jk w).old then some (mix (r.getD (Jk w).at_.toNat 0) (Jk w).new (Jk w).mask) else none)=some (tw.getD w.at_.toNat 0):=by
  intro w s
  obtain ⟨v,u,hr⟩:=a1 w s
  split at u
  .rename_i c
   cases u
   have ok:=YQ hw w s
   show (if mix 0 (r.getD w.at_.toNat 0) w.mask=w.new then some (mix (r.getD w.at_.toNat 0) w.old w.mask) else none)=_
   rw [hr,ZtM (iw w s).2.2.2 ok.2.2.2.2,if_pos rfl,ZtL (Z9N it _) c]
  .cases u
 have ab:ZL (-1) (ws.map Jk)=true:=by rw [Z5n];exact hw
 obtain ⟨v,u⟩:=Z5Q (z:=0) (p:=WEdit.at_) (out:=r) (f:=fun w=> if mix 0 (r.getD w.at_.toNat 0) w.mask=w.old then some (mix (r.getD w.at_.toNat 0) w.new w.mask) else none) (ws:=ws.map Jk) (fun w s=> by
  grind)
 obtain ⟨b1,b2⟩:=JF JX (Z03 ab) u
 refine ⟨v,by rw [Zj7];exact u,fun i=> ?_⟩
 by_cases hi:∃ w∈ws,w.at_.toNat=i
 .obtain ⟨w,s,rfl⟩:=hi
  obtain ⟨y,hy,hr⟩:=b1 (Jk w) (List.mem_map_of_mem s)
  have:=aa w s
  rw [this] at hy
  cases hy
  exact hr
 .have h1:∀ w∈ws,w.at_.toNat≠i:=fun w s e=> hi ⟨w,s,e⟩
  rw [b2 i (fun w s=> by obtain ⟨x,hx,rfl⟩:=X8.1 s;exact h1 x hx),a2 i h1]
theorem Z92:∀ {ks:List Kid} {k:Kid},k∈Y9 ks->∃ q∈ks,k=YY q
 | [],k,h=> by cases h
 | a ::r,k,h=> by
  rw [Y9] at h
  rcases Qa.1 h with rfl | h
  .grind
  .obtain ⟨q,s,e⟩:=Z92 h
   grind
theorem ZgI:∀ {ks:List Kid} {k:Kid},k∈ks->YY k∈Y9 ks
 | [],k,h=> by cases h
 | a ::r,k,h=> by
  rw [Y9]
  rcases Qa.1 h with rfl | h
  .grind
  .exact Q0 _ (ZgI h)
theorem Z29(k:Kid):(YY k).at_=k.at_/\(YY k).e=Zn k.e:=by cases k;trivial
theorem Zu0 {tk:List Tree} {ks:List Kid} {r:List Tree} {d:Int} (hk:Zw (-1) ks d=true) (h:Jy false tk ks tk=some r)
  (ih:∀ k∈ks,∀ u,doE false k.e (tk.getD k.at_.toNat Tree.nil)=some u->∃ v,doE false (Zn k.e) u=some v/\Eqv v (tk.getD k.at_.toNat Tree.nil)):∃ v,Jy false r (Y9 ks) r=some v/\Zpb v tk:=by
 rw [ZeK] at h
 obtain ⟨a1,a2⟩:=JF JX (Z0U hk) h
 have ab:∀ k∈ks,∃ v,Z2v false r (YY k)=some v/\Eqv v (tk.getD k.at_.toNat Tree.nil):=by
  intro k s
  obtain ⟨u,hu,hr⟩:=a1 k s
  rw [Z5a] at hu
  obtain ⟨v,hv,he⟩:=ih k s u hu
  refine ⟨v,?_,he⟩
  rw [Z5a,(Z29 k).1,(Z29 k).2,hr]
  exact hv
 have ae:=Z5F ks _ _ hk
 obtain ⟨v,hv⟩:=Z5Q (z:=Tree.nil) (p:=KidOf.at_) (out:=r) (f:=Z2v false r) (ws:=Y9 ks) (fun k s=> by
  obtain ⟨q,hq,rfl⟩:=Z92 s
  grind)
 obtain ⟨b1,b2⟩:=JF JX (Z0U ae) hv
 refine ⟨v,by rw [ZeK];exact hv,fun i=> ?_⟩
 by_cases hi:∃ k∈ks,k.at_.toNat=i
 .obtain ⟨k,s,rfl⟩:=hi
  obtain ⟨y,hy,hr⟩:=b1 (YY k) (ZgI s)
  obtain ⟨x,hx,he⟩:=ab k s
  rw [hx] at hy
  cases hy
  rw [(Z29 k).1] at hr
  grind
 .have h1:∀ k∈ks,k.at_.toNat≠i:=fun k s e=> hi ⟨k,s,e⟩
  rw [b2 i (fun k s=> by obtain ⟨q,hq,rfl⟩:=Z92 s;rw [(Z29 q).1];exact h1 q hq),a2 i h1]
  exact rfl
theorem ZvD(n:Int)(l:List Tree)(e:Edit):Y8 ⟨0,n,l,e⟩=⟨0,n,l,e⟩:=rfl
theorem ZvC(n:Int)(l:List Tree)(e:Edit):Y8 ⟨2,n,l,e⟩=⟨1,n,l,e⟩:=rfl
theorem ZvB(n:Int)(l:List Tree)(e:Edit):Y8 ⟨3,n,l,e⟩=⟨3,n,l,Zn e⟩:=rfl
mutual
theorem Ze1:∀ (e:Edit) (d:Int) (t u:Tree),Z3 e d=true->ZZ e->RT_ t->doE false e t=some u->∃ v,doE false (Zn e) u=some v/\Eqv v t
 | .mk k o n w ks l os,d,t,u,hr,he,ht,h=> by
  have ri:=Zh hr
  have h1:=ZhP ks
  have h2:=ZhO os
  have aa:=ht.kids
  have av:=Zeh ht.2
  have ab:(∀ x∈w,Z0O x)/\Z0P ks/\Z0j os:=by simp only [ZZ] at he;exact ⟨he.2.2.2.1,he.2.2.2.2.2.1,he.2.2.2.2.2.2⟩
  rw [Z63,YA] at h
  unfold ZjV at h
  simp only [Zn]
  have s:∀ u:Tree,ZjV false (.mk k n o (w.map Jk) (Y9 ks) l (Ye os)) u=if k=0 then some u else if k=1 then (if Yf (Z0 n) (Z0 u)=true then some o else none) else if k=2 then (if u.kind=1 then (wsD u.words (w.map Jk) u.words).bind fun a=> (Jy false u.kids (Y9 ks) u.kids).map fun b=> .mk 1 a b else none) else if k=3 then (if u.kind=l then (Z22 (ZM false (Ye os) u.kids [])).map fun b=> .mk l [] b else none) else none:=fun _=> rfl
  have fin:∀ x v,x=some v->Eqv v t->ZjV false (.mk k n o (w.map Jk) (Y9 ks) l (Ye os)) u=x->∃ v,doE false (.mk k n o (w.map Jk) (Y9 ks) l (Ye os)) u=some v/\Eqv v t:=by
   rintro x v rfl hv hx
   exact ⟨v,by rw [Z63,YA];exact hx,hv⟩
  split at h
  .rename_i c
   cases h
   refine fin _ t rfl rfl ?_
   replace c:k=0:=c
   grind
  .rename_i c0
   replace c0:¬k=0:=c0
   split at h
   .rename_i c1
    replace c1:k=1:=c1
    split at h
    .rename_i c
     cases h
     refine fin _ o rfl (J6.1 c) ?_
     rw [s,if_neg c0,if_pos c1]
     show (if Yf (Z0 n) (Z0 n)=true then some o else none)=some o
     rw [Zfy]
     try rfl
    .cases h
   .rename_i c1
    replace c1:¬k=1:=c1
    split at h
    .rename_i c2
     replace c2:k=2:=c2
     split at h
     .rename_i c
      obtain ⟨a,ha,hb⟩:=Qd.1 h
      obtain ⟨b,al,e⟩:=Q9.1 hb
      obtain ⟨va,aq,ea⟩:=Zni ri.words av.2.1 ab.1 ha
      obtain ⟨vb,ar,eb⟩:=Zu0 ri.kids al (fun q hq x hx=> h1 (d - 1) q hq _ x (Zs ri.kids q hq).2 ab.2.1 (Z7s aa.1 _) hx)
      subst e
      refine fin _ (.mk 1 va vb) rfl ((Z21 rfl c).2 ⟨ea,eb⟩) ?_
      rw [s,if_neg c0,if_neg c1,if_pos c2,if_pos (show (Tree.mk 1 a b).kind=1 from rfl)]
      have q1:wsD a (w.map Jk) a=some va:=aq
      have q2:Jy false b (Y9 ks) b=some vb:=ar
      show ((wsD a (w.map Jk) a).bind fun ao=> (Jy false b (Y9 ks) b).map fun am=> Tree.mk 1 ao am)=_
      grind
     .cases h
    .rename_i c2
     replace c2:¬k=2:=c2
     split at h
     .rename_i c3
      replace c3:k=3:=c3
      split at h
      .rename_i c
       obtain ⟨b,hb,e⟩:=Q9.1 h
       unfold Z22 at hb
       obtain ⟨x,hx,hy⟩:=Qd.1 hb
       split at hy
       .rename_i z0
        cases hy
        subst e
        obtain ⟨X,e1,hX⟩:=h2 (d - 1) t.kids [] x (fun q hq=> ⟨_,Go.AM.rightOs_mem ri.ops q hq⟩) ab.2.2 aa.1 hx
        obtain ⟨Y,hY,e2⟩:=hX [] []
        have hl:2<=l/\l<=9:=ri.list c3
        have c:t.kind=l:=c
        rw [Qt] at e1
        rw [Ql,<-e1,Qt] at hY
        rw [Q5 z0] at e2
        refine fin _ (.mk l [] Y) rfl ((Zh8 (a:= .mk l [] Y) (by show l≠0;omega) (by show l≠1;omega)).2 ⟨c.symm,(aa.2 JX JX JX).symm,by show Z6 Y=Z6 t.kids;rw [<-e2];simp [Z6]⟩) ?_
        rw [s,if_neg c0,if_neg c1,if_neg c2,if_pos c3,if_pos (show (Tree.mk (Edit.mk k o n w ks l os).list [] x.1).kind=l from rfl)]
        show (Z22 (ZM false (Ye os) x.1 [])).map (fun b=> Tree.mk l [] b)=_
        rw [hY]
        try rfl
       .cases hy
      .cases h
     .cases h
theorem ZhP:∀ (ks:List (KidOf Edit)) (d:Int),∀ k∈ks,∀ (t u:Tree),Z3 k.e d=true->Z0P ks->RT_ t->doE false k.e t=some u->∃ v,doE false (Zn k.e) u=some v/\Eqv v t
 | [],d,k,hk=> by cases hk
 | ⟨a,e⟩ ::r,d,k,hk=> by
  have h1:=Ze1 e d
  have h2:=ZhP r d
  intro t u hr s ht h
  simp only [Z0P,Z1v] at s
  grind
theorem ZhO:∀ (os:List (OpOf Edit)) (d:Int) (rest out:List Tree) (x:List Tree × List Tree),(∀ o∈os,∃ l,Zb l o d=true)->Z0j os->(∀ t∈rest,RT_ t)->ZM false os rest out=some x->
  ∃ X,x.1=out++X/\∀ z u,∃ Y,ZM false (Ye os) (X++z) u=some (u++Y,z)/\Z6 Y++Z6 x.2=Z6 rest
 | [],d,rest,out,x,_,_,_,h=> by
  rw [ZM] at h
  cases h
  exact ⟨[],by simp,fun z u=> ⟨[],by rw [Ye,ZM];simp,by rfl⟩⟩
 | o ::s,d,rest,out,x,hr,hg,ht,h=> by
  rw [ZM] at h
  obtain ⟨y,hy,hx⟩:=Qd.1 h
  simp only [Z0j] at hg
  obtain ⟨X0,e0,h0⟩:=Zt4 o d rest out y (hr o Q7) hg.1 ht hy
  have aa:∀ t∈y.2,RT_ t:=by
   obtain ⟨m,hm⟩:=Z4h (os:=[o]) (by rw [ZbJ];exact hy)
   rw [hm]
   exact fun t h=> ht t (Xf h)
  obtain ⟨X1,e1,h1⟩:=ZhO s d y.2 y.1 x (fun q hq=> hr q (Q0 _ hq)) hg.2 aa hx
  refine ⟨X0++X1,by grind,fun z u=> ?_⟩
  obtain ⟨Y0,p0,q0⟩:=h0 (X1++z) u
  obtain ⟨Y1,p1,q1⟩:=h1 z (u++Y0)
  refine ⟨Y0++Y1,?_,?_⟩
  .rw [Ye,ZM,Qo,p0,Qn,p1,Qo]
  .rw [Yu,Qo,q1,q0]
theorem Zt4:∀ (o:OpOf Edit) (d:Int) (rest out:List Tree) (y:List Tree × List Tree),(∃ l,Zb l o d=true)->YZ o->(∀ t∈rest,RT_ t)->Z2C false o rest out=some y->
  ∃ X,y.1=out++X/\∀ z s,∃ Y,Z2C false (Y8 o) (X++z) s=some (s++Y,z)/\Z6 Y++Z6 y.2=Z6 rest
 | ⟨k,n,l,e⟩,d,rest,out,y,⟨li,hr⟩,hg,ht,h=> by
  have ie:=Ze1 e d (rest.getD 0 Tree.nil)
  have r1:=Z6L hr
  simp only [YZ] at hg
  rw [Z2C] at h
  split at h
  .rename_i c
   subst c
   split at h
   .rename_i c
    cases h
    refine ⟨rest.take n.toNat,rfl,fun z s=> ⟨rest.take n.toNat,?_,?_⟩⟩
    .have hl:(rest.take n.toNat).length=n.toNat:=by rw [Qr];omega
     rw [ZvD,Z2C,if_pos rfl,if_pos (by rw [Qk];omega),List.take_left' hl,List.drop_left' hl]
    .rw [<-Yu,Qx]
   .cases h
  .rename_i c0
   split at h
   .rename_i c
    subst c
    split at h
    .rename_i c
     cases h
     refine ⟨[],by simp,fun z s=> ⟨l,?_,?_⟩⟩
     .try rfl
     .rw [((Z1Z l rest).1 c).2,<-Yu,Qx]
    .cases h
   .rename_i c1
    split at h
    .rename_i c
     subst c
     cases h
     refine ⟨l,rfl,fun z s=> ⟨[],?_,by rfl⟩⟩
     have ab:JT l (l++z)=true:=by rw [Z1Z];exact ⟨by simp,by grind⟩
     rw [ZvC,Z2C,J3,if_pos rfl,if_pos ab,List.drop_left' rfl,Ql]
    .rename_i c2
     split at h
     .cases h
     .rename_i z0
      have hk:k=3:=by rcases r1 with h | h | h | h <;> first | exact absurd h c0 | exact absurd h c1 | exact absurd h c2 | exact h
      subst hk
      obtain ⟨u,hu,ey⟩:=Q9.1 h
      cases ey
      obtain ⟨v,hv,aa⟩:=ie u (YH hr rfl) hg.2.2.2 (Z7s ht 0) hu
      refine ⟨[u],rfl,fun z s=> ⟨[v],?_,?_⟩⟩
      .rw [ZvB,Z2C,J3,J3,J3,if_neg (by simp)]
       grind
      .cases rest with
       | nil=> grind
       | cons a q=>
        show Z6 ([v]++q)=Z6 (a ::q)
        simp only [Z6,QA,Qt,Xb]
        rw [show Z0 v=Z0 a from aa]
end
theorem Zdq:∀ {ks:List Kid} {k:Kid},k∈ks->Z8 k.e<=Zx ks
 | ⟨_,_⟩ ::r,k,h=> by
  rcases Qa.1 h with rfl | h
  .simp only [Zx,YO];omega
  .have:=Zdq h;simp only [Zx];omega
theorem Zdo:∀ {os:List Op} {o:Op},o∈os->Zu o<=Zt os
 | a ::r,o,h=> by
  rcases Qa.1 h with rfl | h
  .simp only [Zt];omega
  .have:=Zdo h;simp only [Zt];omega
theorem ZtP(o:Op):Z8 o.e<=Zu o:=by obtain ⟨k,n,l,e⟩:=o;simp only [Zu];omega
theorem Yd{e:Edit}{k:Kid}(h:k∈e.kids):Z8 k.e < Z8 e:=by
 obtain ⟨s,o,n,w,ks,l,os⟩:=e
 have:=Zdq (ks:=ks) h
 simp only [Z8];omega
theorem YV{e:Edit}{o:Op}(h:o∈e.ops):Z8 o.e < Z8 e:=by
 obtain ⟨s,u,n,w,ks,l,os⟩:=e
 have:=Zdo (os:=os) h
 have:=ZtP o
 simp only [Z8];omega
mutual
theorem JJ:∀ (t:Tree) (d m:Int),m < 0->Zd t d=true->Zd t m=true
 | .mk k w ks,d,m,hm,h=> by
  rw [Zd] at h ⊢
  by_cases h0:k=0
  .grind
  .rw [if_neg h0] at h ⊢
   by_cases h1:k=10
   .grind
   .rw [if_neg h1] at h ⊢
    by_cases h2:d=0
    .grind
    .rw [if_neg h2] at h
     rw [J3]
     by_cases h3:k=1
     .rw [if_pos h3,Q6] at h ⊢
      exact ⟨h.1,Z9b 1 ks (d - 1) (m - 1) JX h.2⟩
     .rw [if_neg h3,Q6] at h ⊢
      exact ⟨h.1,Z9b k ks (d - 1) (m - 1) JX h.2⟩
theorem Z9b(list:Int):∀ (ks:List Tree) (d m:Int),m < 0->Yl list ks d=true->Yl list ks m=true
 | [],_,_,_,_=> rfl
 | t ::r,d,m,hm,h=> by
  simp only [Yl,Q6] at h ⊢
  exact ⟨⟨h.1.1,JJ t d m hm h.1.2⟩,Z9b list r d m hm h.2⟩
end
theorem RT_.neg{t:Tree}(h:RT_ t):Zd t (-1)=true:=by
 obtain ⟨⟨d,h⟩,_⟩:=h
 exact JJ t d (-1) V2 h
theorem Z3s{list d:Int}:∀ {ks:List Tree},Yl list ks d=true↔∀ t∈ks,Z0V list t=true/\Zd t d=true
 | []=> by simp [Yl]
 | t ::r=> by
  simp only [Yl,Q6,Z3s (ks:=r),Qa,forall_eq_or_imp]
theorem Z6J{t:Tree}(h:Zd t (-1)=true):t.kind≠0->t.kind≠10->
  (t.kind=1->t.words.length < 65536/\t.kids.length < 65536)/\(t.kind≠1->(2<=t.kind/\t.kind<=9)/\t.words=[]/\t.kids.length < 1048576)/\∀ k∈t.kids,Z0V t.kind k=true/\Zd k (-1)=true:=by
 obtain ⟨k,w,ks⟩:=t
 intro h0 u
 have h0:k≠0:=h0
 have u:k≠10:=u
 rw [Zd,if_neg h0,if_neg u,if_neg V2] at h
 by_cases h3:k=1
 .rw [if_pos h3,Q6,decide_eq_true_eq,Z3s] at h
  subst h3
  exact ⟨fun _=> h.1,fun e=> absurd rfl e,fun x s=> ⟨(h.2 x s).1,JJ _ _ _ V2 (h.2 x s).2⟩⟩
 .rw [if_neg h3,Q6,decide_eq_true_eq,Z3s] at h
  exact ⟨fun e=> absurd e h3,fun _=> ⟨⟨h.1.1,h.1.2.1⟩,Q5 h.1.2.2.1,h.1.2.2.2⟩,fun x s=> ⟨(h.2 x s).1,JJ _ _ _ V2 (h.2 x s).2⟩⟩
theorem Zjs{w:List Int}{ks:List Tree}(h1:w.length < 65536)(h2:ks.length < 65536)(h:∀ k∈ks,Z0V 1 k=true/\Zd k (-1)=true):Zd (.mk 1 w ks) (-1)=true:=by
 rw [Zd,if_neg V2,if_neg V2,if_neg V2,if_pos rfl,Q6,decide_eq_true_eq,Z3s]
 exact ⟨⟨h1,h2⟩,fun x s=> ⟨(h x s).1,JJ _ _ _ V2 (h x s).2⟩⟩
theorem ZfG{l:Int}{ks:List Tree}(hl:2<=l/\l<=9)(h2:ks.length < 1048576)(h:∀ k∈ks,Z0V l k=true/\Zd k (-1)=true):Zd (.mk l [] ks) (-1)=true:=by
 rw [Zd,J3,J3,if_neg V2,J3,Q6,decide_eq_true_eq,Z3s]
 exact ⟨⟨hl.1,hl.2,rfl,h2⟩,fun x s=> ⟨(h x s).1,JJ _ _ _ V2 (h x s).2⟩⟩
theorem JO{D list:Int}:∀ {l:List Tree},YF D list l=true->∀ t∈l,Zd (.mk list [] [t]) D=true
 | a ::r,h,t,ht=> by
  simp only [YF,Q6] at h
  rcases Qa.1 ht with rfl | ht
  .exact h.1
  .exact JO h.2 t ht
theorem JC{D list:Int}(hl:2<=list/\list<=9){l:List Tree}(h:YF D list l=true):∀ t∈l,Z0V list t=true/\Zd t (-1)=true:=by
 intro t s
 have:=Z6J (JJ _ _ (-1) V2 (JO h t s)) (by show list≠0;omega) (by show list≠10;omega)
 simp_all
inductive Run:List Op->List Tree->List Tree->Prop
 | nil:Run [] [] []
 | keep {o r a s d}:o.kind=0->(a.length:Int)=o.n->Run r s d->Run (o ::r) (a++s) (a++d)
 | gone {o r a s d}:o.kind=1->Z6 o.l=Z6 a->Run r s d->Run (o ::r) (a++s) d
 | come {o r s d}:o.kind=2->Run r s d->Run (o ::r) s (o.l++d)
 | into {o r x y s d}:o.kind=3->doE false o.e x=some y->Run r s d->Run (o ::r) (x ::s) (y ::d)
def kOk(o:Op):Prop:=(o.kind=0/\0<=o.n)\/o.kind=1\/o.kind=2\/o.kind=3
theorem Zns:∀ {os:List Op} {s d:List Tree},Run os s d->∀ out,ZM false os s out=some (out++d,[]):=by
 intro os s d h
 induction h with
 | nil=> intro out;simp [ZM]
 | keep h0 hn hr0 ih=>
  rename_i o r a s d
  intro out
  rw [ZM,YP,if_pos h0,if_pos (by grind),show o.n.toNat=a.length by omega]
  grind
 | gone h1 hn hr0 ih=>
  rename_i o r a s d
  intro out
  have hl:=Z3d hn
  rw [ZM,YP,J3,if_pos h1,if_pos]
  .grind
  .rw [Z1Z,hl,List.take_left]
   grind
 | come h2 hr0 ih=>
  intro out
  rw [ZM,YP,J3,J3,if_pos h2]
  grind
 | into h3 he hr0 ih=>
  intro out
  rw [ZM,YP,J3,J3,J3,if_neg (by simp)]
  grind
theorem Zha:∀ {os:List Op} {s out:List Tree} {x:List Tree × List Tree},(∀ o∈os,kOk o)->ZM false os s out=some x->x.2=[]->∃ d,x.1=out++d/\Run os s d
 | [],s,out,x,_,h,u=> by
  rw [ZM] at h
  cases h
  have u:s=[]:=u
  subst u
  exact ⟨[],by simp,.nil⟩
 | o ::r,s,out,x,hk,h,u=> by
  rw [ZM,YP] at h
  have hr:∀ o∈r,kOk o:=fun o ho=> hk o (Q0 _ ho)
  rcases hk o Q7 with h0 | h1 | h2 | h3
  .rw [if_pos h0.1] at h
   split at h
   .rename_i hl
    simp only [Qn] at h
    obtain ⟨d,e,hd⟩:=Zha hr h u
    refine ⟨s.take o.n.toNat++d,by grind,?_⟩
    have:=Run.keep (a:=s.take o.n.toNat) h0.1 (by grind) hd
    simp_all
   .cases h
  .rw [J3,if_pos h1] at h
   split at h
   .rename_i hg
    obtain ⟨g1,g2⟩:=(Z1Z _ _).1 hg
    simp only [Qn] at h
    obtain ⟨d,e,hd⟩:=Zha hr h u
    refine ⟨d,e,?_⟩
    have:=Run.gone (a:=s.take o.l.length) h1 g2 hd
    simp_all
   .cases h
  .rw [J3,J3,if_pos h2] at h
   simp only [Qn] at h
   obtain ⟨d,e,hd⟩:=Zha hr h u
   exact ⟨o.l++d,by grind,.come h2 hd⟩
  .rw [J3,J3,J3] at h
   split at h
   .cases h
   .rename_i hl
    obtain ⟨y,hy,h⟩:=Qd.1 h
    obtain ⟨z,hz,rfl⟩:=Q9.1 hy
    obtain ⟨d,e,hd⟩:=Zha hr h u
    cases s with
    | nil=> simp at hl
    | cons x0 s=>
     refine ⟨z ::d,by rw [e];simp,.into h3 (by simpa using hz) (by simpa using hd)⟩
theorem Z4f{os:List Op}{s d:List Tree}(hk:∀ o∈os,kOk o):Z22 (ZM false os s [])=some d↔Run os s d:=by
 constructor
 .intro h
  unfold Z22 at h
  obtain ⟨x,u,h⟩:=Qd.1 h
  split at h
  .rename_i hl
   cases h
   obtain ⟨d,e,hd⟩:=Zha hk u (Q5 hl)
   grind
  .cases h
 .intro h
  have:=Zns h []
  unfold Z22
  grind
theorem Zu5{list d:Int}{o:Op}(h:Zb list o d=true):kOk o:=by
 have:=ZN h
 cases this with
 | keep n h1=> exact .inl ⟨rfl,by grind⟩
 | gone=> exact .inr (.inl rfl)
 | come=> exact .inr (.inr (.inl rfl))
 | into=> exact .inr (.inr (.inr rfl))
theorem Zjq:∀ {os:List Op} {s d:List Tree},Run os s d->(∀ o∈os,ZX o)->(s.length:Int)=Ju os/\(d.length:Int)=J5 os:=by
 intro os s d h
 induction h with
 | nil=> intro _;simp [Ju,J5]
 | keep h0 hn hr0 ih=>
  rename_i o r a s d
  intro hk
  obtain ⟨i1,i2⟩:=ih fun o u=> hk o (Q0 _ u)
  have u:=hk o Q7
  have hl:Z4 o=o.n:=by
   rcases u with h | h | h
   .unfold Z4;rw [J3,h.2.1];simp
   .omega
   .omega
  simp only [Ju,J5,Qk]
  rw [J3,J3,hl]
  omega
 | gone h1 hn hr0 ih=>
  rename_i o r a s d
  intro hk
  obtain ⟨i1,i2⟩:=ih fun o u=> hk o (Q0 _ u)
  have u:=hk o Q7
  have hl:Z4 o=a.length:=by
   have:=Z3d hn
   rcases u with h | h | h
   .omega
   .unfold Z4;rw [J3,h.2.1];omega
   .omega
  simp only [Ju,J5,Qk]
  rw [J3,if_pos h1,hl]
  omega
 | come h2 hr0 ih=>
  rename_i o r s d
  intro hk
  obtain ⟨i1,i2⟩:=ih fun o u=> hk o (Q0 _ u)
  have u:=hk o Q7
  have hl:Z4 o=o.l.length:=by
   rcases u with h | h | h
   .omega
   .unfold Z4;rw [J3,h.2.1];omega
   .omega
  simp only [Ju,J5,Qk]
  rw [if_pos h2,J3,hl]
  omega
 | into h3 he hr0 ih=>
  rename_i o r x y s d
  intro hk
  obtain ⟨i1,i2⟩:=ih fun o u=> hk o (Q0 _ u)
  have hl:Z4 o=1:=by unfold Z4;rw [if_pos h3]
  simp only [Ju,J5,Qm]
  rw [J3,J3,hl]
  omega
theorem ZmW{r:Bool}{tk:List Tree}:∀ {ks:List Kid} {out b:List Tree},Jy r tk ks out=some b->(∀ k∈ks,k.at_<=65534)->
  b.length<=max out.length 65535/\∀ y∈b,y∈out\/y=Tree.nil\/∃ k∈ks,doE r k.e (tk.getD k.at_.toNat Tree.nil)=some y
 | [],out,b,h,_=> by
  rw [Jy] at h
  cases h
  exact ⟨JX,fun y u=> .inl u⟩
 | k ::s,out,b,h,ha=> by
  rw [Jy,Z5a] at h
  obtain ⟨v,hv,hb⟩:=Qd.1 h
  obtain ⟨i1,i2⟩:=ZmW hb fun x hx=> ha x (Q0 _ hx)
  have:=ha k Q7
  rw [Z8J] at i1
  refine ⟨JX,fun y u=> ?_⟩
  rcases i2 y u with h1 | h1 | ⟨q,hq,h1⟩
  .rcases Z94 h1 with h1 | h1 | h1
   .exact .inl h1
   .exact .inr (.inl h1)
   .subst h1
    exact .inr (.inr ⟨k,Q7,hv⟩)
  .exact .inr (.inl h1)
  .exact .inr (.inr ⟨q,Q0 _ hq,h1⟩)
theorem ZAn:∀ {os:List Op} {s d:List Tree},Run os s d->∀ y∈d,y∈s\/(∃ o∈os,o.kind=2/\y∈o.l)\/∃ o∈os,o.kind=3/\∃ x∈s,doE false o.e x=some y:=by
 intro os s d h
 induction h with
 | nil=> grind
 | keep h0 hn hr0 ih=>
  grind
 | gone h1 hn hr0 ih=>
  grind
 | come h2 hr0 ih=>
  grind
 | into h3 he hr0 ih=>
  grind
theorem ZGt{y:Tree}(h:y.kind≠10):Z0V 1 y=true:=by
 unfold Z0V
 grind
theorem Z9x{list d:Int}{os:List Op}(h:Zz list os d=true):∀ o∈os,ZX o:=fun o s=> Z99 (rightOs_mem h s)
theorem Z2R{o:Op}(h:ZX o):0<=Z4 o:=by have:=ZJ h;omega
theorem Z2Z{e:Edit}{d:Int}{t u:Tree}(hr:Z3 e d=true)(h:doE false e t=some u):(e.kind=1->u=e.new)/\(e.kind=2->u.kind=1/\t.kind=1)/\(e.kind=3->u.kind=e.list/\t.kind=e.list)/\(e.kind=0->u=t):=by
 rw [Z18,YA] at h
 refine ⟨fun s=> ?_,fun s=> ?_,fun s=> ?_,fun s=> ?_⟩
 .grind
 .rw [J3,J3,if_pos s] at h
  split at h
  .rename_i ht
   obtain ⟨a,ha,h⟩:=Qd.1 h
   obtain ⟨b,hb,rfl⟩:=Q9.1 h
   simp_all
  .cases h
 .rw [J3,J3,J3,if_pos s] at h
  split at h
  .rename_i ht
   obtain ⟨b,hb,rfl⟩:=Q9.1 h
   simp_all
  .cases h
 grind
theorem Z3n:∀ (n:Nat) (e:Edit) (d:Int) (t u:Tree),Z8 e<=n->Z3 e d=true->Zd t (-1)=true->doE false e t=some u->Zd u (-1)=true/\(e.kind≠0->u.kind≠10):=by
 intro n
 induction n with
 | zero=> intro e d t u hm;obtain ⟨k,o,nw,w,ks,l,os⟩:=e;simp only [Z8] at hm;omega
 | succ n ih=>
  intro e d t u hm hr ht h
  have R:=Zh hr
  obtain ⟨k1,k2,k3,k0⟩:=Z2Z hr h
  have hk:=R.kind
  by_cases h0:e.kind=0
  .grind
  by_cases h1:e.kind=1
  .rw [k1 h1]
   obtain ⟨r1,r2,r3,r4⟩:=R.rep h1
   exact ⟨JJ _ _ _ V2 r2,fun _=> r4⟩
  by_cases h2:e.kind=2
  .obtain ⟨u1,t1⟩:=k2 h2
   refine ⟨?_,fun _=> by omega⟩
   rw [Z18,YA,if_neg h0,if_neg h1,if_pos h2,if_pos t1] at h
   obtain ⟨a,ha,h⟩:=Qd.1 h
   obtain ⟨b,hb,rfl⟩:=Q9.1 h
   obtain ⟨p1,_,p3⟩:=Z6J ht JX JX
   have p1:=p1 t1
   rw [t1] at p3
   have hl:=Zj8 R.words ha
   have aa:=Zs R.kids
   obtain ⟨m1,m2⟩:=ZmW hb fun k hk=> (aa k hk).1.2.1
   refine Zjs JX JX fun y hy=> ?_
   rcases m2 y hy with h | rfl | ⟨k,hk,h⟩
   .exact p3 y h
   .trivial
   .have hx:Zd (t.kids.getD k.at_.toNat Tree.nil) (-1)=true:=by
     by_cases hi:k.at_.toNat < t.kids.length
     .grind
     .rw [Qq,QQ JX];try rfl
    obtain ⟨g1,g2⟩:=ih k.e _ _ y (by have:=Yd hk;omega) (aa k hk).2 hx h
    exact ⟨ZGt (g2 (aa k hk).1.2.2),g1⟩
  .have h3:e.kind=3:=JX
   obtain ⟨u1,t1⟩:=k3 h3
   have ah:=R.list h3
   refine ⟨?_,fun _=> by omega⟩
   rw [Z18,YA,if_neg h0,if_neg h1,if_neg h2,if_pos h3,if_pos t1] at h
   obtain ⟨b,hb,rfl⟩:=Q9.1 h
   have ho:∀ o∈e.ops,Zb e.list o (d - 1)=true:=fun o h=> rightOs_mem R.ops h
   have s:=(Z4f (fun o h=> Zu5 (ho o h))).1 hb
   obtain ⟨_,q2⟩:=Zjq s (Z9x R.ops)
   obtain ⟨q3,q4⟩:=Z3K e.ops 0 (fun o h=> Z2R (Z9x R.ops o h)) V2 V2
   have q5:=R.len.2
   obtain ⟨_,_,p3⟩:=Z6J ht JX JX
   rw [t1] at p3
   refine ZfG ah JX fun y hy=> ?_
   rcases ZAn s y hy with h | ⟨o,hoo,hk2,hyl⟩ | ⟨o,hoo,hk3,x,hx,h⟩
   .exact p3 y h
   .have:=ZN (ho o hoo)
    cases this with
    | come l h1 h2=> exact JC ah h1 y hyl
    | keep | gone | into=> grind
   .have:=ZN (ho o hoo)
    cases this with
    | into e' g1 g2 g3 g4=>
     obtain ⟨f1,f2⟩:=ih e' _ x y (by have:=YV hoo;grind) g1 (p3 x hx).2 h
     refine ⟨?_,f1⟩
     obtain ⟨j1,j2,_,_⟩:=Z2Z g1 h
     unfold Z0V
     grind
    | keep | gone | come=> grind
theorem Zhb{e:Edit}{d:Int}{t u:Tree}(hr:Z3 e d=true)(ht:RT_ t)(he:ZZ e)(h:doE false e t=some u):RT_ u:=
 ⟨⟨-1,(Z3n _ e d t u (Qb _) hr ht.neg h).1⟩,Z6H false e t u he ht.2 h⟩
end Go.AM.YtpjenobkibfpcaaGreat
namespace Go.AM
def Z1L(m:Nat):Nat->Nat
 | 0=> 0
 | i+1=> Z1L m i+if m / 2 ^ i % 2=1 then 255*2 ^ (8*i) else 0
def Zhw:Nat->Nat->Nat
 | 0,_=> 0
 | k+1,m=> (if m % 2=1 then 255 else 0)+256*Zhw k (m / 2)
def Zdd:Nat->Nat->Nat->Nat
 | 0,_,_=> 0
 | k+1,a,m=> (if m % 2=1 then a % 256 else 0)+256*Zdd k (a / 256) (m / 2)
def Zmk:Nat->Nat->Nat->Nat->Nat
 | 0,_,_,_=> 0
 | k+1,a,b,m=> (if m % 2=1 then b % 256 else a % 256)+256*Zmk k (a / 256) (b / 256) (m / 2)
theorem ZuB(x y u v:Nat)(hu:u < 256)(hv:v < 256):(u+256*x) &&& (v+256*y)=(u &&& v)+256*(x &&& y):=by
 have h:u &&& v < 256:=Nat.and_lt_two_pow (n:=8) u hv
 apply Nat.eq_of_testBit_eq
 intro j
 rw [XH u,XH v,XH (u &&& v),Nat.testBit_and]
 rw [show (256:Nat)=2 ^ 8 from rfl,Xc _ hu,Xc _ hv,Xc _ h]
 grind
theorem ZwY(x y u v:Nat)(hu:u < 256)(hv:v < 256):(u+256*x) ||| (v+256*y)=(u ||| v)+256*(x ||| y):=by
 have h:u ||| v < 256:=Nat.or_lt_two_pow (n:=8) hu hv
 apply Nat.eq_of_testBit_eq
 intro j
 rw [XH u,XH v,XH (u ||| v),Nat.testBit_or]
 rw [show (256:Nat)=2 ^ 8 from rfl,Xc _ hu,Xc _ hv,Xc _ h]
 grind
theorem Zht:∀ (k a m:Nat),a &&& Zhw k m=Zdd k a m
 | 0,a,m=> by simp [Zhw,Zdd]
 | k+1,a,m=> by
  have e:a=a % 256+256*(a / 256):=JX
  simp only [Zhw,Zdd]
  rw [<-Zht k (a / 256) (m / 2)]
  have h:a &&& ((if m % 2=1 then 255 else 0)+256*Zhw k (m / 2))=(a % 256+256*(a / 256)) &&& ((if m % 2=1 then 255 else 0)+256*Zhw k (m / 2)):=by rw [<-e]
  rw [h,ZuB _ _ _ _ JX (by grind)]
  congr 1
  split
  .have:=Nat.and_two_pow_sub_one_eq_mod (a % 256) 8
   grind
  .simp
theorem Zqr:∀ (k a b m n:Nat),(∀ i < k,m / 2 ^ i % 2+n / 2 ^ i % 2=1)->Zdd k a n ||| Zdd k b m=Zmk k a b m
 | 0,a,b,m,n,_=> by simp [Zdd,Zmk]
 | k+1,a,b,m,n,h=> by
  simp only [Zdd,Zmk]
  have s:=h 0 JX
  simp only [Nat.pow_zero,Nat.div_one] at s
  rw [ZwY _ _ _ _ (by grind) (by grind),Zqr k (a / 256) (b / 256) (m / 2) (n / 2) (fun i u=> by
   have:=h (i+1) JX
   rw [Xr,Xr]
   grind)]
  grind
theorem Zpg:∀ m:Fin 256,Z1L m.1 8=Zhw 8 m.1:=by decide+kernel
theorem ZuN:∀ m:Fin 256,2 ^ 64 - 1 - Zhw 8 m.1=Zhw 8 (255 - m.1):=by decide+kernel
theorem Zzk:∀ m:Fin 256,∀ i:Fin 8,m.1 / 2 ^ i.1 % 2+(255 - m.1) / 2 ^ i.1 % 2=1:=by decide+kernel
theorem ZzX:∀ m:Fin 256,Zhw 8 m.1 < 2 ^ 64:=by decide+kernel
theorem Zxe(a b m:Nat)(hm:m < 256):(a &&& (2 ^ 64 - 1 - Z1L m 8)) ||| (b &&& Z1L m 8)=Zmk 8 a b m:=by
 have s:=Zpg ⟨m,hm⟩
 have h:=ZuN ⟨m,hm⟩
 simp only at s h
 rw [s,h,Zht,Zht]
 exact Zqr 8 a b m (255 - m) (fun i u=> Zzk ⟨m,hm⟩ ⟨i,u⟩)
def ofK:Nat->(Nat->Nat)->Nat
 | 0,_=> 0
 | k+1,f=> f 0+256*ofK k (fun i=> f (i+1))
theorem Zin:∀ (k:Nat) {f g:Nat->Nat},(∀ i,f i=g i)->ofK k f=ofK k g
 | 0,_,_,_=> rfl
 | k+1,f,g,h=> by simp only [ofK,h 0,Zin k (fun i=> h (i+1))]
theorem Zqy:∀ (k a b m:Nat),Zmk k a b m=ofK k (fun i=> if m / 2 ^ i % 2=1 then b / 256 ^ i % 256 else a / 256 ^ i % 256)
 | 0,_,_,_=> rfl
 | k+1,a,b,m=> by
  simp only [Zmk,ofK,Nat.pow_zero,Nat.div_one]
  rw [Zqy k,Zin k (g:=fun i=> if m / 2 ^ (i+1) % 2=1 then b / 256 ^ (i+1) % 256 else a / 256 ^ (i+1) % 256) (fun i=> ?_)]
  rw [Xr,Xr,Xr,Nat.pow_succ',Nat.pow_succ']
theorem Zxf(a b m:Nat):((Zmk 8 a b m:Nat):Int)=mix a b m:=by
 have nm:∀ i:Nat,Ys (m:Int) (i:Int)=decide (m / 2 ^ i % 2=1):=by
  intro i
  unfold Ys
  rw [decide_eq_decide,Xh]
  have:((m:Int) / 2 ^ i % 2:Int)=((m / 2 ^ i % 2:Nat):Int):=by rw [Int.natCast_emod,Int.natCast_ediv,Int.natCast_pow];try rfl
  rw [this];omega
 have s:∀ (x i:Nat),Zl (x:Int) i=((x / 256 ^ i % 256:Nat):Int):=by
  intro x i
  unfold Zl
  rw [Int.natCast_emod,Int.natCast_ediv,Int.natCast_pow]
  try rfl
 have u:∀ i:Nat,Jf (a:Int) (b:Int) (m:Int) i=((if m / 2 ^ i % 2=1 then b / 256 ^ i % 256 else a / 256 ^ i % 256:Nat):Int):=by
  intro i
  unfold Jf
  rw [nm,s,s]
  by_cases h:m / 2 ^ i % 2=1
  .grind
  .grind
 rw [Zqy]
 generalize hf:(fun i=> if m / 2 ^ i % 2=1 then b / 256 ^ i % 256 else a / 256 ^ i % 256)=f
 have hx:∀ i,Jf (a:Int) (b:Int) (m:Int) i=(f i:Int):=by intro i;rw [u,<-hf]
 have e:ofK 8 f=f 0+256*(f 1+256*(f 2+256*(f 3+256*(f 4+256*(f 5+256*(f 6+256*(f 7+256*0))))))):=rfl
 rw [e]
 simp only [mix,of8,hx]
 omega
def Z28(list:Int)(e:Edit):Bool:=
 if (2<=list/\list<=7)\/e.kind=0 then false else if list=8\/e.kind=2 then true else decide (e.kind=1/\e.old.kind=1/\e.new.kind=1)
def Z0Y(a b:Int):Int:=IntKind.wrap .u8 (BitVec.ofInt (IntKind.bits .u8) a &&& BitVec.ofInt (IntKind.bits .u8) b).toNat
def orM(a b:Int):Int:=IntKind.wrap .u8 (BitVec.ofInt (IntKind.bits .u8) a ||| BitVec.ofInt (IntKind.bits .u8) b).toNat
def ZcL(p q:WEdit):Bool:=decide (mix 0 p.new (Z0Y p.mask q.mask)=mix 0 q.old (Z0Y p.mask q.mask))
def Ji(p q:WEdit):WEdit × Bool:=
 if ZcL p q then (⟨p.at_,orM p.mask q.mask,mix q.old p.old p.mask,mix p.new q.new q.mask⟩,true) else (⟨0,0,0,0⟩,false)
def Zm{α:Type}(at_:α->Int)(one:α->α->α × Bool):List α->List α->Option (List α)
 | [],q=> some q
 | a ::p,[]=> some (a ::p)
 | a ::p,b ::q=>
  if at_ a < at_ b then (Zm at_ one p (b ::q)).map (a ::·)
  else if at_ b < at_ a then (Zm at_ one (a ::p) q).map (b ::·)
  else if (one a b).2 then (Zm at_ one p q).map ((one a b).1 ::·) else none
termination_by p q=> p.length+q.length
def ofO{α:Type}(o:Option (List α)):List α:=o.getD []
structure PRes where
 op:Op
 is:Bool
 ok:Bool
noncomputable def doB(e:Edit)(t:Tree):Tree × Bool:=(Z1h ((doE false e t).map Z0),(doE false e t).isSome)
noncomputable def Z2Y(a b:List Tree):Bool:=eqX (Z6 a) (Z6 b)
noncomputable def ZQ(f:Edit->Edit->Edit × Bool)(x:Piece):PRes:=
 if x.of=1\/(x.of=0/\x.q.kind=0) then ⟨x.p,true,true⟩
 else if x.of=2\/x.p.kind=0 then ⟨x.q,true,true⟩
 else if x.p.kind=2/\x.q.kind=1 then ⟨Op.nil,false,Z2Y x.p.l (x.q.l.take x.p.l.length)⟩
 else if x.p.kind=2 then ⟨⟨2,0,[(doB x.q.e (x.p.l.getD 0 Tree.nil)).1],Edit.nil⟩,true,(doB x.q.e (x.p.l.getD 0 Tree.nil)).2⟩
 else if x.q.kind=1 then ⟨⟨1,0,[(doB (Zj (Zn x.p.e)) (x.q.l.getD 0 Tree.nil)).1],Edit.nil⟩,true,(doB (Zj (Zn x.p.e)) (x.q.l.getD 0 Tree.nil)).2⟩
 else ⟨⟨3,0,[],(f x.p.e x.q.e).1⟩,true,(f x.p.e x.q.e).2⟩
noncomputable def Z1m(f:Edit->Edit->Edit × Bool):List Piece->Option (List Op)
 | []=> some []
 | x ::r=> if (ZQ f x).ok then (Z1m f r).map ((if (ZQ f x).is then [(ZQ f x).op] else [])++·) else none
noncomputable def Z1n(f:Edit->Edit->Edit × Bool)(p q:List Op):Option (List Op):=
 if (ZA 1 2 p q []).2.1 then Z1m f (ZA 1 2 p q []).1 else none
def Z1I(f:Edit->Edit->Edit × Bool)(a b:Kid):Kid × Bool:=(⟨a.at_,(f a.e b.e).1⟩,(f a.e b.e).2)
noncomputable def Z0e(f:Edit->Edit->Edit × Bool)(p q:Edit):Edit × Bool:=
 if p.kind=0 then (q,true)
 else if q.kind=0 then (p,true)
 else if p.kind=1 then (.mk 1 p.old (doB q p.new).1 [] [] 0 [],(doB q p.new).2)
 else if q.kind=1 then (.mk 1 (doB (Zj (Zn p)) q.old).1 q.new [] [] 0 [],(doB (Zj (Zn p)) q.old).2)
 else if p.kind≠q.kind\/p.list≠q.list then (Edit.nil,false)
 else if p.kind=2 then
  if (Zm WEdit.at_ Ji p.words q.words).isSome then
   (.mk 2 Tree.nil Tree.nil (ofO (Zm WEdit.at_ Ji p.words q.words)) (ofO (Zm KidOf.at_ (Z1I f) p.kids q.kids)) 0 [],(Zm KidOf.at_ (Z1I f) p.kids q.kids).isSome)
  else (Edit.nil,false)
 else (.mk 3 Tree.nil Tree.nil [] [] p.list (ofO (Z1n f p.ops q.ops)),(Z1n f p.ops q.ops).isSome)
noncomputable def ZdY:Nat->Edit->Edit->Edit × Bool
 | 0,_,_=> (Edit.nil,false)
 | n+1,p,q=> Z0e (ZdY n) p q
noncomputable def Yt(p q:Edit):Edit × Bool:=ZdY (Z8 p+Z8 q) p q
noncomputable def ZLG(f:Edit->Edit->Edit × Bool)(p q:AUnit):List Op × Bool:=
 if q.kind=0 then ([opU p],true)
 else if p.kind=0 then ([opU q],true)
 else if p.kind=2/\q.kind=1 then ([],Yf (Z0 p.t) (Z0 q.t))
 else if p.kind=2 then ([⟨2,0,[Z1h (doE true q.e p.t)],Edit.nil⟩],(doE true q.e p.t).isSome)
 else if q.kind=1 then ([⟨1,0,[Z1h (doE true (Zj (Zn p.e)) q.t)],Edit.nil⟩],(doE true (Zj (Zn p.e)) q.t).isSome)
 else ([⟨3,0,[],(f p.e q.e).1⟩],(f p.e q.e).2)
def Y4(e:Edit):Prop:=ctE e<=9000000000/\ZZ e/\∃ d,Z3 e d=true
def ZyT(k:Kid):Prop:=Z3U k<=9000000000/\Z1v k/\∃ d,Z3 k.e d=true
def ZdR(l:List Kid):Prop:=Z0W l<=9000000000/\Z0P l/\∀ k∈l,∃ d,Z3 k.e d=true
def ZlJ(l:List Op):Prop:=Jh l<=9000000000/\Z0j l/\∀ o∈l,∃ list d,Zb list o d=true
def Zc2(o:Op):Prop:=ZX o/\Z3S o<=9000000000/\YZ o/\(o.kind=3->∃ d,Z3 o.e d=true)
structure PcOk (x:Piece):Prop where
 of:x.of=0\/x.of=1\/x.of=2
 pp:x.of≠2->Zc2 x.p
 qq:x.of≠1->Zc2 x.q
 both:x.of=0->x.p.kind≠1/\x.q.kind≠2/\Z4 x.p=Z4 x.q
end Go.AM
