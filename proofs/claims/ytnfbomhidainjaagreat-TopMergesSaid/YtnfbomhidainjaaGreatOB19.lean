import Derived.Test.YtnfbomhidainjaaGreatOB9
set_option linter.unusedSimpArgs false
set_option linter.unusedVariables false
namespace Go.AM.YtnfbomhidainjaaGreat
open Go.AM Go.Proofs
noncomputable section
def Zag(a:Edit×Tree×Unit):Prop:=Zr3 a.1 a.2.1
def Zwp(a:Edit×Tree×Unit):V U:=.agg (enc .tree (YX a.1 a.2.1))
def ZjI:Fs U:=fs Zd2 (λa=>[Zag a]) Zwp
def ZzP:ArgL (List Kid×Int×Unit):=(.cons (aSl .kid) (.cons (ZR .i64) .nil))
def ZfR(a:List Kid×Int×Unit):Prop:=(a.1).length<=1000000000
def ZrE(a:List Kid×Int×Unit):V U:=.agg (enc .edit (YW a.1 a.2.1))
def ZjE:Fs U:=fs ZzP (λa=>[ZfR a]) ZrE
def ZqN:ArgM ((Unit×List PStep×Int×List Int×List Tree×Int×List Tree×List Tree×List Tree×Unit)×(List Conflict×Unit)×Unit):=(.obj 0 (.cons (cXp 1) (.cons (cSl .step) (.cons (Zed .i64) (.cons (cSl .u64) (.cons (cSl .tree) (.cons (Zed .i64) (.cons (Z2B .tree 0 6) (.cons (Z2B .tree 0 7) (.cons (Z2B .tree 0 8) .nil))))))))) (.hid (.cons (Z2B .conflict 1 0) .nil) .nil))
def Zio(a:(Unit×List PStep×Int×List Int×List Tree×Int×List Tree×List Tree×List Tree×Unit)×(List Conflict×Unit)×Unit):Prop:=((a.1.2.1).length<=30000000000/\(a.2.1.1).length<=30000000000)/\((a.1.2.2.2.2.2.2.1).length<=100000000000/\Z5 a.1.2.2.2.2.2.2.2.1<=100000000000/\Z5 a.1.2.2.2.2.2.2.2.2.1<=100000000000)
def Zmd(a:(Unit×List PStep×Int×List Int×List Tree×Int×List Tree×List Tree×List Tree×Unit)×(List Conflict×Unit)×Unit):V U:=.tup []
def ZfI(a:(Unit×List PStep×Int×List Int×List Tree×Int×List Tree×List Tree×List Tree×Unit)×(List Conflict×Unit)×Unit):List (List (C U)):=[[.xp 1,sU .step a.1.2.1 .unk,ci a.1.2.2.1,sU .u64 a.1.2.2.2.1 .unk,sU .tree a.1.2.2.2.2.1 .unk,ci ((JW a.1.2.1 (Tree.mk a.1.2.2.1 a.1.2.2.2.1 a.1.2.2.2.2.1) (Sd.mk a.1.2.2.2.2.2.1 a.1.2.2.2.2.2.2.1 a.1.2.2.2.2.2.2.2.1 a.1.2.2.2.2.2.2.2.2.1 a.2.1.1)).next),sU .tree ((JW a.1.2.1 (Tree.mk a.1.2.2.1 a.1.2.2.2.1 a.1.2.2.2.2.1) (Sd.mk a.1.2.2.2.2.2.1 a.1.2.2.2.2.2.2.1 a.1.2.2.2.2.2.2.2.1 a.1.2.2.2.2.2.2.2.2.1 a.2.1.1)).out) (.own (.x 0 6)),sU .tree ((JW a.1.2.1 (Tree.mk a.1.2.2.1 a.1.2.2.2.1 a.1.2.2.2.2.1) (Sd.mk a.1.2.2.2.2.2.1 a.1.2.2.2.2.2.2.1 a.1.2.2.2.2.2.2.2.1 a.1.2.2.2.2.2.2.2.2.1 a.2.1.1)).mine) (.own (.x 0 7)),sU .tree ((JW a.1.2.1 (Tree.mk a.1.2.2.1 a.1.2.2.2.1 a.1.2.2.2.2.1) (Sd.mk a.1.2.2.2.2.2.1 a.1.2.2.2.2.2.2.1 a.1.2.2.2.2.2.2.2.1 a.1.2.2.2.2.2.2.2.2.1 a.2.1.1)).hers) (.own (.x 0 8))],[sU .conflict ((JW a.1.2.1 (Tree.mk a.1.2.2.1 a.1.2.2.2.1 a.1.2.2.2.2.1) (Sd.mk a.1.2.2.2.2.2.1 a.1.2.2.2.2.2.2.1 a.1.2.2.2.2.2.2.2.1 a.1.2.2.2.2.2.2.2.2.1 a.2.1.1)).cs) (.own (.x 1 0))]]
def ZjC:Fs U:=fsX ZqN (λa=>[Zio a]) Zmd ZfI
def ZyK:List (FuncId×Fs U):=[(10,Jt)]
def ZHQ:Za U:=lvl [([2,3,4],[2,3,4]),([4,5],[4,5]),([4],[4])]
abbrev A73(p:List Nat):=AW (Z2 ZyK) Tryz.f73 ZHQ p
theorem ZN7(e:Edit)(t:Tree)(Q:QT)(h:let z1:=Tree.mk t.kind t.words t.kids;let z0:=Edit.mk e.kind (Tree.mk e.old.kind e.old.words e.old.kids) (Tree.mk e.new.kind e.new.words e.new.kids) e.words e.kids e.list e.ops;((Z4s (z0,z1,()))/\(Q .ret (L2 [pL 4] [(.loc 4,(enc .tree (Z1m ((doE false z0 z1).map Z0))))])))):A73 [] (L2 [(0,.agg (enc .edit e)),(1,.agg (enc .tree t))] []) Q:=(Eq.mpr V3 h:)
abbrev ZJN(e:Edit)(t:Tree):Prop:=AW (Z2 ZyK) Tryz.f73 ZHQ [] (Zg (Zd2.can (e,t,())) []) (EQ Tryz.f73 (Zwp (e,t,())) [])
theorem ZGX(c10:CT 10 Jt)(hb:∀(e:Edit)(t:Tree)(_:Unit),Zag (e,t,())->ZJN e t):CT 73 ZjI:=Z1 (l:=[(10,Jt)]) Zf rfl (⟨c10,trivial⟩) ZHQ Tryz.func73 rfl rfl 2 (λ_=>rfl) V0 (λ⟨e,t,_⟩=>hb e t ())
def ZDe:Za U:=lvl [([0,1,4],[4]),([1,4,7,8,9],[4]),([1,4,7,8,9,10],[4]),([1,4,6,7,8,9],[4,6]),([1,4,6,7,8,9,16],[4,6]),([4],[4]),([1,4,7,8,9],[4]),([4],[4])]
def ZaL(l:List Kid)(n d:Int):LSt U:=(L2 [pI 1 n,pL 4,(7,.c (sU .kid l .unk)),pI 8 (l.length:Int),pI 9 d] [(.loc 4,zc1)])
abbrev A92(p:List Nat):=AW (Z2 Zqj) Tryz.f92 ZDe p
abbrev S92(p:List Nat):=SW (Z2 Zqj) Tryz.f92 ZDe p
theorem ZMQ(l:List Kid)(n:Int)(Q:QT)(h:(Zk (A92 [1,0,1,0,0]) (ZaL l n 0) (xB 0 (S92 [1,1] Q)))):A92 [] (L2 [(0,.c (sU .kid l .unk)),pI 1 n] []) Q:=(Eq.mpr V3 h:)
theorem ZB5(l:List Kid)(n d:Int)(N0:NT)(Q:QT)(h:let z0:=l.getD d.toNat (KidOf.mk 0 Edit.nil);(iB (decide (d<(l.length:Int))) (((0:Int)<=d/\d<(l.length:Int))/\(iB (((KidOf.at_ z0):Int)==n) ((Q .ret (L2 [pL 4] [(.loc 4,(enc .edit (KidOf.e z0)))]))) ((InR (d+1))/\(N0 (ZaL l n (d+1)))))) ((Q .ret (L2 [pL 4] [(.loc 4,zc1)]))))):A92 [1,0,1,0,0] (ZaL l n d) (xT N0 (xB 0 (S92 [1,1] Q))):=(Eq.mpr V3 h:)
abbrev ZJw(l:List Kid)(n:Int):Prop:=AW (Z2 Zqj) Tryz.f92 ZDe [] (Zg (ZzP.can (l,n,())) []) (EQ Tryz.f92 (ZrE (l,n,())) [])
theorem ZGH(hb:∀(l:List Kid)(n:Int)(_:Unit),ZfR (l,n,())->ZJw l n):CT 92 ZjE:=Z1 (l:=[]) Zf rfl trivial ZDe Tryz.func92 rfl rfl 2 (λ_=>rfl) V0 (λ⟨l,n,_⟩=>hb l n ())
end
theorem c73:Contract Tryz.prog cfg 73 ZjI:=by refine ZGX c10 ?_;intro e t _ d;simp only[Zag]at d;refine ZN7 _ _ _ ?_;(simp only[vE]);refine⟨d,?_⟩;simp only[Zwp,YX];exact YH
theorem c92:Contract Tryz.prog cfg 92 ZjE:=by
 refine ZGH ?_;intro l n _ hp;simp only[ZfR]at hp;refine ZMQ _ _ _ ?_;refine Z6 (ι:=Int) (λi=>ZaL l n i) (λi=>0<=i/\i<=l.length/\YW (l.drop i.toNat) n=YW l n) (λi=>((l.length:Int)-i).toNat) 0 rfl ⟨V0,Yp,rfl⟩ ?_;rintro i⟨h1,h2,d⟩;refine ZB5 _ _ _ _ _ ?_;(simp only[iB,vcT,vcS]);refine⟨λhi=>⟨⟨h1,hi⟩,λhk=>?_,λhk=>⟨V2,i+1,rfl,⟨Yp,Yp,?_⟩,Yp⟩⟩,λhi=>?_⟩;.rw[Yu h1 hi (KidOf.mk 0 Edit.nil),YW,if_pos hk]at d;simp only[ZrE,<-d];exact YH
 .rw[Yu h1 hi (KidOf.mk 0 Edit.nil),YW,if_neg hk]at d;exact d
 .rw[Qb Yp]at d;simp only[ZrE,<-d,YW];exact YH
noncomputable section
def Z7p:ArgM ((List Conflict×Unit)×List PStep×Tree×Edit×Edit×Unit):=(.obj 0 (.cons (Z2B .conflict 0 0) .nil) (.cons (aSl .step) (.cons (aEl .tree) (.cons (aEl .edit) (.cons (aEl .edit) .nil)))))
def Z3M(a:(List Conflict×Unit)×List PStep×Tree×Edit×Edit×Unit):Prop:=(OkB a.2.2.1 a.2.2.2.1 a.2.2.2.2.1/\(a.2.1).length+Y8 a.2.2.1 a.2.2.2.1 a.2.2.2.2.1<=10000000000/\(a.1.1).length+Y8 a.2.2.1 a.2.2.2.1 a.2.2.2.2.1<=10000000000)
def Z6J(a:(List Conflict×Unit)×List PStep×Tree×Edit×Edit×Unit):Nat:=4*(muM a.2.2.2.1+muM a.2.2.2.2.1)+3
def Zae(a:(List Conflict×Unit)×List PStep×Tree×Edit×Edit×Unit):V U:=.agg (enc .tree ((ZY a.2.1 a.2.2.1 a.2.2.2.1 a.2.2.2.2.1 a.1.1).1))
def Z6t(a:(List Conflict×Unit)×List PStep×Tree×Edit×Edit×Unit):List (List (C U)):=[[sU .conflict ((ZY a.2.1 a.2.2.1 a.2.2.2.1 a.2.2.2.2.1 a.1.1).2) (.own (.x 0 0))]]
def Z6f:Fs U:=fsX Z7p (λa=>[Z3M a]) Zae Z6t
def Z7w(a:(List Conflict×Unit)×List PStep×Tree×Edit×Edit×Unit):Prop:=(OkB a.2.2.1 a.2.2.2.1 a.2.2.2.2.1/\(a.2.1).length+Y8 a.2.2.1 a.2.2.2.1 a.2.2.2.2.1<=10000000000/\(a.1.1).length+Y8 a.2.2.1 a.2.2.2.1 a.2.2.2.2.1<=10000000000)/\Edit.kind a.2.2.2.1=2/\Edit.kind a.2.2.2.2.1=2
def Zcy(a:(List Conflict×Unit)×List PStep×Tree×Edit×Edit×Unit):Nat:=4*(muM a.2.2.2.1+muM a.2.2.2.2.1)+2
def Zad(a:(List Conflict×Unit)×List PStep×Tree×Edit×Edit×Unit):V U:=.agg (enc .tree ((Z9s ZY a.2.1 a.2.2.1 a.2.2.2.1 a.2.2.2.2.1 a.1.1).1))
def Z6s(a:(List Conflict×Unit)×List PStep×Tree×Edit×Edit×Unit):List (List (C U)):=[[sU .conflict ((Z9s ZY a.2.1 a.2.2.1 a.2.2.2.1 a.2.2.2.2.1 a.1.1).2) (.own (.x 0 0))]]
def Zw7:Fs U:=fsX Z7p (λa=>[Z7w a]) Zad Z6s
def Z7v(a:(List Conflict×Unit)×List PStep×Tree×Edit×Edit×Unit):Prop:=(OkB a.2.2.1 a.2.2.2.1 a.2.2.2.2.1/\(a.2.1).length+Y8 a.2.2.1 a.2.2.2.1 a.2.2.2.2.1<=10000000000/\(a.1.1).length+Y8 a.2.2.1 a.2.2.2.1 a.2.2.2.2.1<=10000000000)/\Edit.kind a.2.2.2.1=3/\Edit.kind a.2.2.2.2.1=3
def Zac(a:(List Conflict×Unit)×List PStep×Tree×Edit×Edit×Unit):V U:=.agg (enc .tree ((ZaE ZY a.2.1 a.2.2.1 a.2.2.2.1 a.2.2.2.2.1 a.1.1).1))
def Z6r(a:(List Conflict×Unit)×List PStep×Tree×Edit×Edit×Unit):List (List (C U)):=[[sU .conflict ((ZaE ZY a.2.1 a.2.2.1 a.2.2.2.1 a.2.2.2.2.1 a.1.1).2) (.own (.x 0 0))]]
def Zw6:Fs U:=fsX Z7p (λa=>[Z7v a]) Zac Z6r
def Z7m:ArgM ((Unit×List PStep×Int×List Int×List Tree×Int×List Tree×List Tree×List Tree×Unit)×Op×Op×(List Conflict×Unit)×Unit):=(.obj 0 (.cons (cXp 1) (.cons (cSl .step) (.cons (Zed .i64) (.cons (cSl .u64) (.cons (cSl .tree) (.cons (Zed .i64) (.cons (Z2B .tree 0 6) (.cons (Z2B .tree 0 7) (.cons (Z2B .tree 0 8) .nil))))))))) (.cons (aEl .op) (.cons (aEl .op) (.hid (.cons (Z2B .conflict 1 0) .nil) .nil))))
def Z5m(a:(Unit×List PStep×Int×List Int×List Tree×Int×List Tree×List Tree×List Tree×Unit)×Op×Op×(List Conflict×Unit)×Unit):Prop:=((0<=a.1.2.2.2.2.2.1/\a.1.2.2.2.2.2.1<((a.1.2.2.2.2.1).length:Int)/\a.1.2.2.2.2.2.1<=1000000000000)/\OkK (List.getD a.1.2.2.2.2.1 (Int.toNat a.1.2.2.2.2.2.1) Tree.nil) a.2.1 a.2.2.1)/\(a.1.2.2.2.2.2.2.1).length<=100000000000/\(a.1.2.1).length+1+Y8 (List.getD a.1.2.2.2.2.1 (Int.toNat a.1.2.2.2.2.2.1) Tree.nil) a.2.1.e a.2.2.1.e<=10000000000/\(a.2.2.2.1.1).length+Y8 (List.getD a.1.2.2.2.2.1 (Int.toNat a.1.2.2.2.2.2.1) Tree.nil) a.2.1.e a.2.2.1.e<=10000000000
def Zcw(a:(Unit×List PStep×Int×List Int×List Tree×Int×List Tree×List Tree×List Tree×Unit)×Op×Op×(List Conflict×Unit)×Unit):Nat:=4*(muM a.2.1.e+muM a.2.2.1.e)+4
def Z3J(a:(Unit×List PStep×Int×List Int×List Tree×Int×List Tree×List Tree×List Tree×Unit)×Op×Op×(List Conflict×Unit)×Unit):V U:=.tup []
def Z2q(a:(Unit×List PStep×Int×List Int×List Tree×Int×List Tree×List Tree×List Tree×Unit)×Op×Op×(List Conflict×Unit)×Unit):List (List (C U)):=[[.xp 1,sU .step a.1.2.1 .unk,ci a.1.2.2.1,sU .u64 a.1.2.2.2.1 .unk,sU .tree a.1.2.2.2.2.1 .unk,ci ((J2 ZY a.1.2.1 (Tree.mk a.1.2.2.1 a.1.2.2.2.1 a.1.2.2.2.2.1) a.2.1 a.2.2.1 (Sd.mk a.1.2.2.2.2.2.1 a.1.2.2.2.2.2.2.1 a.1.2.2.2.2.2.2.2.1 a.1.2.2.2.2.2.2.2.2.1 a.2.2.2.1.1)).next),sU .tree ((J2 ZY a.1.2.1 (Tree.mk a.1.2.2.1 a.1.2.2.2.1 a.1.2.2.2.2.1) a.2.1 a.2.2.1 (Sd.mk a.1.2.2.2.2.2.1 a.1.2.2.2.2.2.2.1 a.1.2.2.2.2.2.2.2.1 a.1.2.2.2.2.2.2.2.2.1 a.2.2.2.1.1)).out) (.own (.x 0 6)),sU .tree ((J2 ZY a.1.2.1 (Tree.mk a.1.2.2.1 a.1.2.2.2.1 a.1.2.2.2.2.1) a.2.1 a.2.2.1 (Sd.mk a.1.2.2.2.2.2.1 a.1.2.2.2.2.2.2.1 a.1.2.2.2.2.2.2.2.1 a.1.2.2.2.2.2.2.2.2.1 a.2.2.2.1.1)).mine) (.own (.x 0 7)),sU .tree ((J2 ZY a.1.2.1 (Tree.mk a.1.2.2.1 a.1.2.2.2.1 a.1.2.2.2.2.1) a.2.1 a.2.2.1 (Sd.mk a.1.2.2.2.2.2.1 a.1.2.2.2.2.2.2.1 a.1.2.2.2.2.2.2.2.1 a.1.2.2.2.2.2.2.2.2.1 a.2.2.2.1.1)).hers) (.own (.x 0 8))],[sU .conflict ((J2 ZY a.1.2.1 (Tree.mk a.1.2.2.1 a.1.2.2.2.1 a.1.2.2.2.2.1) a.2.1 a.2.2.1 (Sd.mk a.1.2.2.2.2.2.1 a.1.2.2.2.2.2.2.1 a.1.2.2.2.2.2.2.2.1 a.1.2.2.2.2.2.2.2.2.1 a.2.2.2.1.1)).cs) (.own (.x 1 0))]]
def Zw5:Fs U:=fsX Z7m (λa=>[Z5m a]) Z3J Z2q
def Z10(N:Nat):List (FuncId×Fs U):=(45,fsX Z7p (λa=>[Z3M a,Z6J a<N]) Zae Z6t)::(74,fsX Z7p (λa=>[Z7w a,Zcy a<N]) Zad Z6s)::(75,fsX Z7p (λa=>[Z7v a,Zcy a<N]) Zac Z6r)::(95,fsX Z7m (λa=>[Z5m a,Zcw a<N]) Z3J Z2q)::[(73,ZjI),(92,ZjE),(93,ZjD),(94,ZjC),(90,ZjF),(91,Z46),(64,Z1X),(38,Ys),(76,Z48)]
def ZpE:Za U:=lvk [([0,1,7,8,9,10],[7,8,9,10,((.x 0),[])]),([0,1,7,8,9,10,13],[7,8,9,10,((.x 0),[])]),([10],[10,((.x 0),[])]),([0,1,7,8,9,10,20],[7,8,9,10,((.x 0),[])]),([10],[10,((.x 0),[])]),([0,1,7,8,9,10,27],[7,8,9,10,((.x 0),[])]),([10],[10,((.x 0),[])]),([0,1,7,8,9,10,42],[7,8,9,10,((.x 0),[])]),([10],[10,((.x 0),[])]),([0,1,7,10,11,12],[7,10,11,12,((.x 0),[])]),([0,1,7,10,11,12,65],[7,10,11,12,((.x 0),[])]),([10],[10,((.x 0),[])]),([10],[10,((.x 0),[])])]
abbrev ZMD(N:Nat)(p:List Nat):=AW (Z2 (Z10 N)) Tryz.f45 ZpE p
theorem ZFY(N:Nat)(cs:List Conflict)(at_:List PStep)(o:Tree)(p q:Edit)(Q:QT)(h:∀aa,aa=p->∀ab,ab=q->∀d,d=o->∀af,af=(YX aa d)->∀ae,ae=(YX ab d)->let z2:=ZaE ZY at_ d aa ab cs;let z1:=Z9s ZY at_ d aa ab cs;let z0:=Q .ret (L2 [pL 10] [(.loc 10,(enc .tree (YX aa d))),(.x 0,[sU .conflict cs (.own (.x 0 0))])]);(iB (p.kind==0) ((Zag (ab,d,()))/\(Q .ret (L2 [pL 10] [(.loc 10,(enc .tree (YX ab d))),(.x 0,[sU .conflict cs (.own (.x 0 0))])]))) ((iB (q.kind==0) ((Zag (aa,d,()))/\z0) ((Tt (p.kind==2))/\(Tt (p.kind==2))/\(Tt (p.kind==2))/\(iB (bif(p.kind==2)then(q.kind==2)else false) ((Z7w ((cs,()),at_,d,aa,ab,()))/\(Zcy ((cs,()),at_,d,aa,ab,())<N)/\(Q .ret (L2 [pL 10] [(.loc 10,(enc .tree (z1.1))),(.x 0,[sU .conflict (z1.2) (.own (.x 0 0))])]))) ((Tt (p.kind==3))/\(Tt (p.kind==3))/\(Tt (p.kind==3))/\(iB (bif(p.kind==3)then(q.kind==3)else false) ((Z7v ((cs,()),at_,d,aa,ab,()))/\(Zcy ((cs,()),at_,d,aa,ab,())<N)/\(Q .ret (L2 [pL 10] [(.loc 10,(enc .tree (z2.1))),(.x 0,[sU .conflict (z2.2) (.own (.x 0 0))])]))) ((Zag (aa,d,()))/\(Zag (ab,d,()))/\((Z2J (af,ae,()))/\(iB (ZN (Z0 af) (Z0 ae)) (z0) ((Z3K ((cs,()),at_,d,af,ae,()))/\(Q .ret (L2 [pL 10] [(.loc 10,(enc .tree d)),(.x 0,[sU .conflict (cs++[Conflict.mk at_ (Z0 d) (Z0 af) (Z0 ae)]) (.own (.x 0 0))])])))))))))))))):ZMD N [] (L2 [(0,.ptr (.x 0) 0),(1,.c (sU .step at_ .unk)),(2,.agg (enc .tree o)),(3,.agg (enc .edit p)),(4,.agg (enc .edit q))] [(.x 0,[sU .conflict cs (.own (.x 0 0))])]) Q:=(Eq.mpr V3 (h _ (Zj _) _ (Zj _) _ (Z3 _) _ (Z3 _) _ (Z3 _)):)
abbrev ZAN(N:Nat)(cs:List Conflict)(at_:List PStep)(o:Tree)(p q:Edit):Prop:=AW (Z2 (Z10 N)) Tryz.f45 ZpE [] (Zg (Z7p.can ((cs,()),at_,o,p,q,())) (Z7p.canX ((cs,()),at_,o,p,q,()))) (EQ Tryz.f45 (Zae ((cs,()),at_,o,p,q,())) (Z6t ((cs,()),at_,o,p,q,())))
abbrev ZAG:Prop:=∀(N:Nat)(cs:List Conflict)(at_:List PStep)(o:Tree)(p:Edit)(q:Edit)(_:Unit),Z3M ((cs,()),at_,o,p,q,())->Z6J ((cs,()),at_,o,p,q,())<N+1->ZAN N cs at_ o p q
def Zgt(N:Nat):List (FuncId×Fs U):=Z10 N
def Zkz:Za U:=lvk [([0,1,7,8,9,10],[7,8,9,10,((.x 0),[])]),([0,1,7,8,9,10,11],[7,8,9,10,11,((.x 0),[])]),([0,1,7,8,9,10,11,12],[7,8,9,10,11,((.x 0),[])]),([0,1,7,8,9,10,11,12,33,34,35],[7,8,9,10,11,((.x 0),[])]),([0,1,7,8,9,10,11,12,33,34,35,36],[7,8,9,10,11,((.x 0),[])]),([0,1,7,8,9,10,11,12,14,33,34,35],[7,8,9,10,11,((.x 0),[])]),([0,1,7,8,9,10,11,12,14,15,33,34,35],[7,8,9,10,11,((.x 0),[])]),([0,1,7,8,9,10,11,12,14,15,33,34,35,42],[7,8,9,10,11,((.x 0),[])]),([0,1,7,8,9,10,11,12,33,34,35],[7,8,9,10,11,((.x 0),[])]),([0,1,7,8,9,10,11,12,33,34,35],[7,8,9,10,11,((.x 0),[])]),([0,1,7,8,9,10,11,53,54],[7,8,9,10,((.loc 11),[.any,.any,.own .tree]),((.x 0),[])]),([0,1,7,8,9,10,11,53,54,55],[7,8,9,10,11,((.x 0),[])]),([0,1,7,8,9,10,11,16,53,54],[7,8,9,10,11,((.x 0),[])]),([0,1,7,8,9,10,11,53,54],[7,8,9,10,11,((.x 0),[])]),([0,1,7,8,9,10,11,53,54],[7,8,9,10,((.loc 11),[.any,.any,.own .tree]),((.x 0),[])]),([10],[10,((.x 0),[])])]
def Z3j(cs:List Conflict)(at_:List PStep)(o:Tree)(p q:Edit)(d aa:Int):LSt U:=(L2 [(0,.ptr (.x 0) 0),(1,.c (sU .step at_ .unk)),pL 7,pL 8,pL 9,pL 10,pL 11,pI 12 d,(33,.c (sU .krow ([Edit.kids p,Edit.kids q]) .full)),pI 34 (([Edit.kids p,Edit.kids q]).length:Int),pI 35 aa] [(.loc 7,(enc .tree o)),(.loc 8,(enc .edit p)),(.loc 9,(enc .edit q)),(.loc 10,[ci 0,.nils,.nils]),(.loc 11,[ci 1,sU .u64 ((ZC (Tree.mk o.kind o.words o.kids) at_ ((p.words).length+(q.words).length) p.words q.words (Tree.words (Tree.mk o.kind o.words o.kids),cs)).1) .unk,.nils]),(.x 0,[sU .conflict ((ZC (Tree.mk o.kind o.words o.kids) at_ ((p.words).length+(q.words).length) p.words q.words (Tree.words (Tree.mk o.kind o.words o.kids),cs)).2) (.own (.x 0 0))])])
def Z5D(cs:List Conflict)(at_:List PStep)(o:Tree)(p q:Edit)(ab aa:Int)(mx0_0_a:List Conflict)(d:List Tree):LSt U:=(L2 [(0,.ptr (.x 0) 0),(1,.c (sU .step at_ .unk)),pL 7,pL 8,pL 9,pL 10,pL 11,pI 53 ab,pI 54 aa] [(.loc 7,(enc .tree o)),(.loc 8,(enc .edit p)),(.loc 9,(enc .edit q)),(.loc 10,[ci 0,.nils,.nils]),(.loc 11,[ci 1,sU .u64 ((ZC (Tree.mk o.kind o.words o.kids) at_ ((p.words).length+(q.words).length) p.words q.words (Tree.words (Tree.mk o.kind o.words o.kids),cs)).1) .unk,sU .tree d (.own (.l 11 2))]),(.x 0,[sU .conflict mx0_0_a (.own (.x 0 0))])])
abbrev Zoh(N:Nat)(p:List Nat):=AW (Z2 (Zgt N)) Tryz.f74 Zkz p
abbrev ZtC(N:Nat)(p:List Nat):=SW (Z2 (Zgt N)) Tryz.f74 Zkz p
theorem ZFX(N:Nat)(cs:List Conflict)(at_:List PStep)(o:Tree)(p q:Edit)(Q:QT)(h:((Zmx ((cs,()),at_,(Tree.mk o.kind o.words o.kids),p.words,q.words,()))/\(Zk (Zoh N [1,1,1,0,1,0,0]) (Z3j cs at_ o p q (o.kids.length:Int) 0) (xB 0 (ZtC N [1,1,1,1] Q))))):Zoh N [] (L2 [(0,.ptr (.x 0) 0),(1,.c (sU .step at_ .unk)),(2,.agg (enc .tree o)),(3,.agg (enc .edit p)),(4,.agg (enc .edit q))] [(.x 0,[sU .conflict cs (.own (.x 0 0))])]) Q:=(Eq.mpr V3 h:)
theorem ZtK(N:Nat)(cs:List Conflict)(at_:List PStep)(o:Tree)(p q:Edit)(ab d:Int)(N0:NT)(Q:QT)(h:∀af,af=o->∀aa,aa=(List.getD ([Edit.kids p,Edit.kids q]) d.toNat ([]:List Kid))->∀ae,ae=(List.getD aa (Int.toNat (((aa.length:Int):Int)-1)) (KidOf.mk 0 Edit.nil))->(iB (decide (d<(([Edit.kids p,Edit.kids q]).length:Int))) (((0:Int)<=d/\d<(([Edit.kids p,Edit.kids q]).length:Int))/\(iB (decide ((0:Int)<(aa.length:Int))) ((InR (((aa.length:Int):Int)-1))/\((0:Int)<=(((aa.length:Int):Int)-1)/\(((aa.length:Int):Int)-1)<(aa.length:Int))/\(InR (ae.at_+1))/\((InR (d+1))/\(N0 (Z3j cs at_ o p q (if ab<(ae.at_+1)then(ae.at_+1)else ab) (d+1))))) ((InR (d+1))/\(N0 (Z3j cs at_ o p q ab (d+1)))))) ((Zk (Zoh N [1,1,1,1,0,1,0,0]) (Z5D cs at_ o p q ab 0 ((ZC af at_ ((p.words).length+(q.words).length) p.words q.words (Tree.words af,cs)).2) []) (xB 2 (ZtC N [1,1,1,1,1] Q)))))):Zoh N [1,1,1,0,1,0,0] (Z3j cs at_ o p q ab d) (xT N0 (xB 0 (ZtC N [1,1,1,1] Q))):=(Eq.mpr V3 (h _ (Z3 _) _ rfl _ rfl):)
theorem ZtJ(N:Nat)(cs:List Conflict)(at_:List PStep)(o:Tree)(p q:Edit)(aj d:Int)(mx0_0_a:List Conflict)(aa:List Tree)(N1:NT)(Q:QT)(h:∀ab,ab=o->∀ah,ah=(YW p.kids d)->∀af,af=(YW q.kids d)->∀ae,ae=(Zo ab d)->∀ai,ai=((ZY (at_++[PStep.mk 0 d]) ae ah af mx0_0_a).1)->(iB (decide (d<aj)) (((Z5Y (at_,0,d,()))/\(Z6A (ab,d,()))/\(ZfR (p.kids,d,()))/\(ZfR (q.kids,d,()))/\(Z3M ((mx0_0_a,()),(at_++[PStep.mk 0 d]),ae,ah,af,()))/\(Z6J ((mx0_0_a,()),(at_++[PStep.mk 0 d]),ae,ah,af,())<N)/\((aa.length+([ai]).length)*56<=140737488355328)/\((InR (d+1))/\(N1 (Z5D cs at_ o p q aj (d+1) ((ZY (at_++[PStep.mk 0 d]) ae ah af mx0_0_a).2) (aa++([ai]))))))) ((Q .ret (L2 [pL 10] [(.loc 10,[ci 1,sU .u64 ((ZC ab at_ ((p.words).length+(q.words).length) p.words q.words (Tree.words ab,cs)).1) .unk,sU .tree aa (.own (.l 10 2))]),(.x 0,[sU .conflict mx0_0_a (.own (.x 0 0))])]))))):Zoh N [1,1,1,1,0,1,0,0] (Z5D cs at_ o p q aj d mx0_0_a aa) (xT N1 (xB 2 (ZtC N [1,1,1,1,1] Q))):=(Eq.mpr V3 (h _ (Z3 _) _ (Zj _) _ (Zj _) _ (Z3 _) _ (Z3 _)):)
abbrev ZAM(N:Nat)(cs:List Conflict)(at_:List PStep)(o:Tree)(p q:Edit):Prop:=AW (Z2 (Zgt N)) Tryz.f74 Zkz [] (Zg (Z7p.can ((cs,()),at_,o,p,q,())) (Z7p.canX ((cs,()),at_,o,p,q,()))) (EQ Tryz.f74 (Zad ((cs,()),at_,o,p,q,())) (Z6s ((cs,()),at_,o,p,q,())))
abbrev ZAF:Prop:=∀(N:Nat)(cs:List Conflict)(at_:List PStep)(o:Tree)(p:Edit)(q:Edit)(_:Unit),Z7w ((cs,()),at_,o,p,q,())->Zcy ((cs,()),at_,o,p,q,())<N+1->ZAM N cs at_ o p q
def Zky:Za U:=lvk [([0,1,7,8,9,10],[7,8,9,10,((.x 0),[])]),([7,8,9,10,11],[7,8,9,10,20,((.x 0),[])]),([7,10,11,12],[7,10,20,((.x 0),[])]),([7,10,11,29,30,31],[7,10,((.loc 20),(an 6 [.own .tree,.own .tree,.own .tree])),((.x 0),[])]),([7,10,11,29,30,31,32],[7,10,20,((.x 0),[])]),([7,10,11,15,29,30,31],[7,10,15,20,((.x 0),[])]),([7,10,11,15,29,30,31,36],[7,10,15,20,((.x 0),[])]),([7,10,11,15,29,30,31],[7,10,15,20,((.x 0),[])]),([7,10,11,15,29,30,31,47,48],[7,10,15,20,((.x 0),[])]),([7,10,11,15,29,30,31,47,48,49],[7,10,15,20,((.x 0),[])]),([7,10,11,15,29,30,31,47,48],[7,10,15,20,((.x 0),[])]),([7,10,11,15,29,30,31,47,48],[7,10,15,20,((.x 0),[])]),([7,10,11,15,29,30,31,36,57],[7,10,15,20,((.x 0),[])]),([7,10,11,29,30,31],[7,10,20,((.x 0),[])]),([7,10,11,15,29,30,31,70],[7,10,15,20,((.x 0),[])]),([7,10,11,29,30,31],[7,10,20,((.x 0),[])]),([7,10,11,29,30,31],[7,10,((.loc 20),(an 6 [.own .tree,.own .tree,.own .tree])),((.x 0),[])]),([7,10,11],[7,10,20,((.x 0),[])]),([10],[10,((.x 0),[])])]
def Z2a(cs:List Conflict)(at_:List PStep)(o:Tree)(p q:Edit)(aj ae:Int)(ai:List Int)(af:List Tree)(d:Int)(mx0_0:List Conflict)(ah ab aa:List Tree):LSt U:=(L2 [pL 7,pL 10,(11,.ptr (.loc 20) 0),(29,.c (sU .piece ((Zl 2 2 p.ops q.ops []).1) .unk)),pI 30 (((Zl 2 2 p.ops q.ops []).1).length:Int),pI 31 aj] [(.loc 7,(enc .tree o)),(.loc 10,[ci 0,.nils,.nils]),(.loc 20,[.xp 0,sU .step at_ .unk,ci ae,sU .u64 ai .unk,sU .tree af .unk,ci d,sU .tree aa (.own (.l 20 6)),sU .tree ah (.own (.l 20 7)),sU .tree ab (.own (.l 20 8))]),(.x 0,[sU .conflict mx0_0 (.own (.x 0 0))])])
def Z5C(cs:List Conflict)(at_:List PStep)(o:Tree)(p q:Edit)(af ah:Int)(aj:List Int)(ai:List Tree)(ak ab:Int)(aa d ae:List Tree)(mx0_0_a:List Conflict):LSt U:=(L2 [pL 7,pL 10,(11,.ptr (.loc 20) 0),pL 15,(29,.c (sU .piece ((Zl 2 2 p.ops q.ops []).1) .unk)),pI 30 (((Zl 2 2 p.ops q.ops []).1).length:Int),pI 31 af,(47,.c (ci (if((((OpOf.n (Piece.p (List.getD ((Zl 2 2 p.ops q.ops []).1) af.toNat (Piece.mk 0 Op.nil Op.nil)))):Int)+((OpOf.l (Piece.p (List.getD ((Zl 2 2 p.ops q.ops []).1) af.toNat (Piece.mk 0 Op.nil Op.nil)))).length:Int)):Int)<1 then 1 else(((OpOf.n (Piece.p (List.getD ((Zl 2 2 p.ops q.ops []).1) af.toNat (Piece.mk 0 Op.nil Op.nil)))):Int)+((OpOf.l (Piece.p (List.getD ((Zl 2 2 p.ops q.ops []).1) af.toNat (Piece.mk 0 Op.nil Op.nil)))).length:Int))))),pI 48 ak] [(.loc 7,(enc .tree o)),(.loc 10,[ci 0,.nils,.nils]),(.loc 15,(enc .piece (List.getD ((Zl 2 2 p.ops q.ops []).1) af.toNat (Piece.mk 0 Op.nil Op.nil)))),(.loc 20,[.xp 0,sU .step at_ .unk,ci ah,sU .u64 aj .unk,sU .tree ai .unk,ci ab,sU .tree aa (.own (.l 20 6)),sU .tree d (.own (.l 20 7)),sU .tree ae (.own (.l 20 8))]),(.x 0,[sU .conflict mx0_0_a (.own (.x 0 0))])])
abbrev Zog(N:Nat)(p:List Nat):=AW (Z2 (Zgt N)) Tryz.f75 Zky p
abbrev Zjm(N:Nat)(p:List Nat):=SW (Z2 (Zgt N)) Tryz.f75 Zky p
theorem ZFW(N:Nat)(cs:List Conflict)(at_:List PStep)(o:Tree)(p q:Edit)(Q:QT)(h:((Zx6 (p.ops,q.ops,()))/\(Zk (Zog N [1,1,1,0,1,0,0]) (Z2a cs at_ o p q 0 o.kind o.words o.kids 0 cs [] [] []) (xB 0 (Zjm N [1,1,1,1] Q))))):Zog N [] (L2 [(0,.ptr (.x 0) 0),(1,.c (sU .step at_ .unk)),(2,.agg (enc .tree o)),(3,.agg (enc .edit p)),(4,.agg (enc .edit q))] [(.x 0,[sU .conflict cs (.own (.x 0 0))])]) Q:=(Eq.mpr V3 h:)
theorem ZtI(N:Nat)(cs:List Conflict)(at_:List PStep)(o:Tree)(p q:Edit)(aj aa:Int)(af:List Int)(ab:List Tree)(ah:Int)(mx0_0:List Conflict)(ae d ai:List Tree)(N0:NT)(Q:QT)(h:∀al,al=(JW at_ (Tree.mk aa af ab) (Sd.mk ah ai ae d mx0_0))->∀ak,ak=(List.getD ((Zl 2 2 p.ops q.ops []).1) aj.toNat (Piece.mk 0 Op.nil Op.nil))->let z0:=Zio (((),at_,aa,af,ab,ah,ai,ae,d,()),(mx0_0,()),());(iB (decide (aj<(((Zl 2 2 p.ops q.ops []).1).length:Int))) (((0:Int)<=aj/\aj<(((Zl 2 2 p.ops q.ops []).1).length:Int))/\(iB (ak.of==1) (((ae.length+ak.p.l.length)*56<=140737488355328)/\((InR (aj+1))/\(N0 (Z2a cs at_ o p q (aj+1) aa af ab ah mx0_0 (ae++ak.p.l) d ai)))) ((iB (ak.of==2) (((d.length+ak.q.l.length)*56<=140737488355328)/\((InR (aj+1))/\(N0 (Z2a cs at_ o p q (aj+1) aa af ab ah mx0_0 ae (d++ak.q.l) ai)))) (z0/\((InR (ak.p.n+(ak.p.l.length:Int)))/\(Zk (Zog N [1,1,1,0,1,0,0,1,1,0,0,1,1,0,1,1,1,1,1,1,0,0]) (Z5C cs at_ o p q aj aa af ab 0 (al.next) (al.out) (al.mine) (al.hers) (al.cs)) (xB 3 (xB 2 (xB 1 (Zjm N [1,1,1,0,1,0,0,1,1,1] (xT N0 (xB 0 (Zjm N [1,1,1,1] Q)))))))))))))) (z0/\(Q .ret (L2 [pL 10] [(.loc 10,[ci o.kind,.nils,sU .tree (al.out) (.own (.l 10 2))]),(.x 0,[sU .conflict (al.cs) (.own (.x 0 0))])]))))):Zog N [1,1,1,0,1,0,0] (Z2a cs at_ o p q aj aa af ab ah mx0_0 ae d ai) (xT N0 (xB 0 (Zjm N [1,1,1,1] Q))):=(Eq.mpr V3 (h _ rfl _ rfl):)
theorem ZtH(N:Nat)(cs:List Conflict)(at_:List PStep)(o:Tree)(p q:Edit)(am af:Int)(ai:List Int)(ah:List Tree)(aj ab:Int)(aa d ae:List Tree)(mx0_0_a:List Conflict)(N1 N0:NT)(Q:QT)(h:∀ak,ak=(List.getD ((Zl 2 2 p.ops q.ops []).1) am.toNat (Piece.mk 0 Op.nil Op.nil))->∀aq,aq=(ak.p)->∀ao,ao=(ak.q)->∀al,al=(J2 ZY at_ (Tree.mk af ai ah) aq ao (Sd.mk ab aa d ae mx0_0_a))->(iB (decide (aj<(if((ak.p.n+(ak.p.l.length:Int)):Int)<1 then 1 else(ak.p.n+(ak.p.l.length:Int))))) ((Z5m (((),at_,af,ai,ah,ab,aa,d,ae,()),aq,ao,(mx0_0_a,()),()))/\(Zcw (((),at_,af,ai,ah,ab,aa,d,ae,()),aq,ao,(mx0_0_a,()),())<N)/\((InR (aj+1))/\(N1 (Z5C cs at_ o p q am af ai ah (aj+1) (al.next) (al.out) (al.mine) (al.hers) (al.cs))))) ((InR (am+1))/\(N0 (Z2a cs at_ o p q (am+1) af ai ah ab mx0_0_a d ae aa))))):Zog N [1,1,1,0,1,0,0,1,1,0,0,1,1,0,1,1,1,1,1,1,0,0] (Z5C cs at_ o p q am af ai ah aj ab aa d ae mx0_0_a) (xT N1 (xB 3 (xB 2 (xB 1 (Zjm N [1,1,1,0,1,0,0,1,1,1] (xT N0 (xB 0 (Zjm N [1,1,1,1] Q)))))))):=(Eq.mpr V3 (h _ rfl _ (JA _) _ (JA _) _ rfl):)
abbrev ZAL(N:Nat)(cs:List Conflict)(at_:List PStep)(o:Tree)(p q:Edit):Prop:=AW (Z2 (Zgt N)) Tryz.f75 Zky [] (Zg (Z7p.can ((cs,()),at_,o,p,q,())) (Z7p.canX ((cs,()),at_,o,p,q,()))) (EQ Tryz.f75 (Zac ((cs,()),at_,o,p,q,())) (Z6r ((cs,()),at_,o,p,q,())))
abbrev ZAE:Prop:=∀(N:Nat)(cs:List Conflict)(at_:List PStep)(o:Tree)(p:Edit)(q:Edit)(_:Unit),Z7v ((cs,()),at_,o,p,q,())->Zcy ((cs,()),at_,o,p,q,())<N+1->ZAL N cs at_ o p q
def ZpD:Za U:=lvk [([0,4,5],[4,5,((.x 0),[]),((.x 1),[])]),([0,4,5,6],[4,5,6,((.x 0),[]),((.x 1),[])]),([0,4,5,6,7],[4,5,6,((.x 0),[]),((.x 1),[])]),([0,4,5,6,7],[4,5,6,((.x 0),[]),((.x 1),[])]),([],[((.x 0),[]),((.x 1),[])]),([0,4,5,6,7,56],[4,5,6,((.x 0),[]),((.x 1),[])]),([],[((.x 0),[]),((.x 1),[])]),([0,4,5,6,7,87],[4,5,6,((.x 0),[]),((.x 1),[])]),([],[((.x 0),[]),((.x 1),[])]),([0,4,5,6,7,118],[4,5,6,((.x 0),[]),((.x 1),[])])]
abbrev ZMC(N:Nat)(p:List Nat):=AW (Z2 (Zgt N)) Tryz.f95 ZpD p
theorem ZFV(N:Nat)(sm_:Unit)(at_:List PStep)(ok:Int)(ow:List Int)(oks:List Tree)(next:Int)(out mine hers:List Tree)(p q:Op)(cs:List Conflict)(Q:QT)(h:∀aa,aa=(p.e)->∀ab,ab=(q.e)->∀ah,ah=(oks.getD next.toNat Tree.nil)->∀d,d=ah->∀aj,aj=d->∀ae,ae=(YX aa d)->∀af,af=(YX ab d)->∀ai,ai=((ZY (at_++[PStep.mk 0 next]) d aa ab cs).1)->let z1:=bif(p.kind==1)then true else(q.kind==1);let z0:=List.set (out++([(Tree.mk 0 [] [])])) (Int.toNat (out.length:Int)) aj;(((0:Int)<=next/\next<(oks.length:Int))/\((Z5Y (at_,0,next,()))/\((InR (next+1))/\((Tt (p.kind==1))/\(Tt (p.kind==1))/\(Tt (p.kind==1))/\(iB (bif(p.kind==1)then(q.kind==3)else false) ((Zag (ab,d,()))/\(Z3K ((cs,()),(at_++[PStep.mk 0 next]),d,(Tree.mk 0 [] []),af,()))/\((out.length+([(Tree.mk 0 [] [])]).length)*56<=140737488355328)/\((0:Int)<=(out.length:Int)/\(out.length:Int)<((out++([(Tree.mk 0 [] [])])).length:Int))/\(out.length<=(Int.toNat (out.length:Int)))/\(Q .normal (L2 [] [(.x 0,[.xp 1,sU .step at_ .unk,ci ok,sU .u64 ow .unk,sU .tree oks .unk,ci (next+1),sU .tree z0 (.own (.x 0 6)),sU .tree mine (.own (.x 0 7)),sU .tree hers (.own (.x 0 8))]),(.x 1,[sU .conflict (cs++[Conflict.mk (at_++[PStep.mk 0 next]) (Z0 d) (Z0 (Tree.mk 0 [] [])) (Z0 af)]) (.own (.x 1 0))])]))) ((Tt (p.kind==3))/\(Tt (p.kind==3))/\(Tt (p.kind==3))/\(iB (bif(p.kind==3)then(q.kind==1)else false) ((Zag (aa,d,()))/\(Z3K ((cs,()),(at_++[PStep.mk 0 next]),d,ae,(Tree.mk 0 [] []),()))/\((out.length+([(Tree.mk 0 [] [])]).length)*56<=140737488355328)/\((0:Int)<=(out.length:Int)/\(out.length:Int)<((out++([(Tree.mk 0 [] [])])).length:Int))/\(out.length<=(Int.toNat (out.length:Int)))/\(Q .normal (L2 [] [(.x 0,[.xp 1,sU .step at_ .unk,ci ok,sU .u64 ow .unk,sU .tree oks .unk,ci (next+1),sU .tree z0 (.own (.x 0 6)),sU .tree mine (.own (.x 0 7)),sU .tree hers (.own (.x 0 8))]),(.x 1,[sU .conflict (cs++[Conflict.mk (at_++[PStep.mk 0 next]) (Z0 d) (Z0 ae) (Z0 (Tree.mk 0 [] []))]) (.own (.x 1 0))])]))) ((Tt (!(p.kind==1)))/\(Tt (!(p.kind==1)))/\((p.kind==1)=false->(!(p.kind==1))=true)/\(iB z1 (Q .normal (L2 [(0,.ptr (.x 0) 0),pL 4,pL 5,pL 6,(7,.c (sU .step (at_++[PStep.mk 0 next]) (.own (.e 7 0)))),pB 118 z1] [(.loc 4,(enc .op p)),(.loc 5,(enc .op q)),(.loc 6,(enc .tree ah)),(.x 0,[.xp 1,sU .step at_ .unk,ci ok,sU .u64 ow .unk,sU .tree oks .unk,ci (next+1),sU .tree out (.own (.x 0 6)),sU .tree mine (.own (.x 0 7)),sU .tree hers (.own (.x 0 8))]),(.x 1,[sU .conflict cs (.own (.x 1 0))])])) ((Z3M ((cs,()),(at_++[PStep.mk 0 next]),d,aa,ab,()))/\(Z6J ((cs,()),(at_++[PStep.mk 0 next]),d,aa,ab,())<N)/\((out.length+([(Tree.mk 0 [] [])]).length)*56<=140737488355328)/\((0:Int)<=(out.length:Int)/\(out.length:Int)<((out++([(Tree.mk 0 [] [])])).length:Int))/\(out.length<=(Int.toNat (out.length:Int)))/\(Q .normal (L2 [] [(.x 0,[.xp 1,sU .step at_ .unk,ci ok,sU .u64 ow .unk,sU .tree oks .unk,ci (next+1),sU .tree (List.set (out++([(Tree.mk 0 [] [])])) (Int.toNat (out.length:Int)) ai) (.own (.x 0 6)),sU .tree mine (.own (.x 0 7)),sU .tree hers (.own (.x 0 8))]),(.x 1,[sU .conflict ((ZY (at_++[PStep.mk 0 next]) d aa ab cs).2) (.own (.x 1 0))])]))))))))))))):ZMC N [] (L2 [(0,.ptr (.x 0) 0),(1,.agg (enc .op p)),(2,.agg (enc .op q))] [(.x 0,[.xp 1,sU .step at_ .unk,ci ok,sU .u64 ow .unk,sU .tree oks .unk,ci next,sU .tree out (.own (.x 0 6)),sU .tree mine (.own (.x 0 7)),sU .tree hers (.own (.x 0 8))]),(.x 1,[sU .conflict cs (.own (.x 1 0))])]) Q:=(Eq.mpr V3 (h _ (Zj _) _ (Zj _) _ rfl _ (Z3 _) _ (Z3 _) _ (Z3 _) _ (Z3 _) _ (Z3 _)):)
abbrev ZAK(N:Nat)(sm_:Unit)(at_:List PStep)(ok:Int)(ow:List Int)(oks:List Tree)(next:Int)(out mine hers:List Tree)(p q:Op)(cs:List Conflict):Prop:=AW (Z2 (Zgt N)) Tryz.f95 ZpD [] (Zg (Z7m.can ((sm_,at_,ok,ow,oks,next,out,mine,hers,()),p,q,(cs,()),())) (Z7m.canX ((sm_,at_,ok,ow,oks,next,out,mine,hers,()),p,q,(cs,()),()))) (EQ Tryz.f95 (Z3J ((sm_,at_,ok,ow,oks,next,out,mine,hers,()),p,q,(cs,()),())) (Z2q ((sm_,at_,ok,ow,oks,next,out,mine,hers,()),p,q,(cs,()),())))
abbrev ZAD:Prop:=∀(N:Nat)(sm_:Unit)(at_:List PStep)(ok:Int)(ow:List Int)(oks:List Tree)(next:Int)(out:List Tree)(mine:List Tree)(hers:List Tree)(p:Op)(q:Op)(cs:List Conflict)(_:Unit),Z5m ((sm_,at_,ok,ow,oks,next,out,mine,hers,()),p,q,(cs,()),())->Zcw ((sm_,at_,ok,ow,oks,next,out,mine,hers,()),p,q,(cs,()),())<N+1->ZAK N sm_ at_ ok ow oks next out mine hers p q cs
theorem Zuy(c73:CT 73 ZjI)(c92:CT 92 ZjE)(c93:CT 93 ZjD)(c94:CT 94 ZjC)(c90:CT 90 ZjF)(c91:CT 91 Z46)(c64:CT 64 Z1X)(c38:CT 38 Ys)(c76:CT 76 Z48)(ZzL:ZAG)(ZzK:ZAF)(ZzJ:ZAE)(ZzI:ZAD):CT 45 Z6f/\CT 74 Zw7/\CT 75 Zw6/\CT 95 Zw5:=by
 have d:FK 45:=⟨Tryz.f45,Tryz.func45,rfl,rfl⟩;have ab:FK 74:=⟨Tryz.f74,Tryz.func74,rfl,rfl⟩;have aa:FK 75:=⟨Tryz.f75,Tryz.func75,rfl,rfl⟩;have ae:FK 95:=⟨Tryz.f95,Tryz.func95,rfl,rfl⟩;have af:∀N,CT 45 (fsX Z7p (λa=>[Z3M a,Z6J a<N]) Zae Z6t)/\CT 74 (fsX Z7p (λa=>[Z7w a,Zcy a<N]) Zad Z6s)/\CT 75 (fsX Z7p (λa=>[Z7v a,Zcy a<N]) Zac Z6r)/\CT 95 (fsX Z7m (λa=>[Z5m a,Zcw a<N]) Z3J Z2q):=by intro N;induction N with|zero=>exact⟨Zbw d,Zbw ab,Zbw aa,Zbw ae⟩|succ N ih=>have kn:=Z0j (l:=Z10 N) ⟨ih.1,ih.2.1,ih.2.2.1,ih.2.2.2,c73,c92,c93,c94,c90,c91,c64,c38,c76,trivial⟩;exact⟨Z0I (Γ:=Z2 (Z10 N)) Zf rfl kn ZpE Tryz.func45 rfl rfl (λa=>by show 5<=_;decide) (λ⟨⟨cs,_⟩,at_,o,p,q,_⟩h=>ZzL N cs at_ o p q () h.1 h.2.1),Z0I (Γ:=Z2 (Z10 N)) Zf rfl kn Zkz Tryz.func74 rfl rfl (λa=>by show 5<=_;decide) (λ⟨⟨cs,_⟩,at_,o,p,q,_⟩h=>ZzK N cs at_ o p q () h.1 h.2.1),Z0I (Γ:=Z2 (Z10 N)) Zf rfl kn Zky Tryz.func75 rfl rfl (λa=>by show 5<=_;decide) (λ⟨⟨cs,_⟩,at_,o,p,q,_⟩h=>ZzJ N cs at_ o p q () h.1 h.2.1),Z0I (Γ:=Z2 (Z10 N)) Zf rfl kn ZpD Tryz.func95 rfl rfl (λa=>by show 3<=_;decide) (λ⟨⟨ai,at_,ok,ow,aj,next,out,mine,hers,_⟩,p,q,⟨cs,_⟩,_⟩h=>ZzI N ai at_ ok ow aj next out mine hers p q cs () h.1 h.2.1)⟩
 exact⟨Zbx d λN=>(af N).1,Zbx ab λN=>(af N).2.1,Zbx aa λN=>(af N).2.2.1,Zbx ae λN=>(af N).2.2.2⟩
end
theorem Z5K{e:Edit}{t:Tree}(h:Zr3 e t):mass (YX e t)<=1000000000000:=Zpv h.1.2.2 h.2.1
theorem ZC8{f:Bo}{at_:List PStep}{o:Tree}{p q:Edit}{cs:List Conflict}(h:p.kind=0):Z0e f at_ o p q cs=(YX q o,cs):=if_pos h
theorem ZC7{f:Bo}{at_:List PStep}{o:Tree}{p q:Edit}{cs:List Conflict}(h:¬p.kind=0)(k:q.kind=0):Z0e f at_ o p q cs=(YX p o,cs):=by unfold Z0e;rw[if_neg h,if_pos k]
theorem ZCa{f:Bo}{at_:List PStep}{o:Tree}{p q:Edit}{cs:List Conflict}(h:p.kind=2/\q.kind=2):Z0e f at_ o p q cs=Z9s f at_ o p q cs:=by unfold Z0e;rw[JH,JH,if_pos h]
theorem ZC9{f:Bo}{at_:List PStep}{o:Tree}{p q:Edit}{cs:List Conflict}(h:p.kind=3/\q.kind=3):Z0e f at_ o p q cs=ZaE f at_ o p q cs:=by unfold Z0e;rw[JH,JH,JH,if_pos h]
theorem Zrg{f:Bo}{at_:List PStep}{o:Tree}{p q:Edit}{cs:List Conflict}(h:¬p.kind=0)(k:¬q.kind=0)(h2:¬p.kind=2\/¬q.kind=2)(h3:¬p.kind=3\/¬q.kind=3):Z0e f at_ o p q cs=if ZN (Z0 (YX p o)) (Z0 (YX q o))=true then(YX p o,cs)else(o,cs++[Conflict.mk at_ (Z0 o) (Z0 (YX p o)) (Z0 (YX q o))]):=by unfold Z0e;rw[if_neg h,if_neg k,JH,JH]
theorem ZzL:ZAG:=by
 intro N cs at_ o p q _ hp hN;simp only[Z3M,Z6J]at hp hN;have aa:=hp;obtain⟨h,ha,hc⟩:=hp;have hm:Y8 o p q<=10000000000:=Yp;have e:=ZnY h hm at_ cs;have dp:=h.p hm;have dq:=h.q hm;have mo:mass o<=Y8 o p q:=by unfold Y8;omega
 have xp:=Z5K dp;have xq:=Z5K dq;refine ZFY _ _ _ _ _ _ _ ?_;intro y1 h1 y2 h2 y3 h3 y4 h4 y5 h5;replace h1:p=y1:=h1.symm;replace h2:q=y2:=h2.symm;replace h3:o=y3:=h3.symm;subst h1 h2 h3 h4 h5;(simp only[iB,vcT,vcS]);simp only[Zae,Z6t,e];refine⟨λk=>⟨dq,by rw[ZC8 k];(repeat'(first|exact trivial|exact rfl|apply And.intro))⟩,λk=>⟨λk'=>⟨dp,by rw[ZC7 k k'];(repeat'(first|exact trivial|exact rfl|apply And.intro))⟩,λk'=>⟨λd=>⟨⟨aa,d⟩,by simp only[Zcy];omega,by rw[ZCa d];(repeat'(first|exact trivial|exact rfl|apply And.intro))⟩,λd=>⟨λk3=>⟨⟨aa,k3⟩,by simp only[Zcy];omega,by rw[ZC9 k3];(repeat'(first|exact trivial|exact rfl|apply And.intro))⟩,λk3=>⟨dp,dq,by simp only[Z2J];omega,λhs=>?_,λhs=>⟨by simp only[Z3K];omega,?_⟩⟩⟩⟩⟩⟩;.rw[Zrg k k' d k3,if_pos hs];(repeat'(first|exact trivial|exact rfl|apply And.intro))
 .rw[Zrg k k' d k3,if_neg (by rw[hs];decide)];(repeat'(first|exact trivial|exact rfl|apply And.intro))
theorem ZzI:ZAD:=by
 intro N am at_ ok ow d next out mine hers p q cs _ hp hN;simp only[Z5m,Zcw]at hp hN;obtain⟨⟨⟨n0,n1,n2⟩,hk⟩,ho,ha,hc⟩:=hp;refine ZFV _ am _ _ _ _ _ _ _ _ _ _ _ _ ?_;intro y1 h1 y2 h2 y3 h3 y4 h4 y5 h5 y6 h6 y7 h7 y8 h8;replace h1:y1=p.e:=h1;replace h2:y2=q.e:=h2;replace h3:y3=d.getD next.toNat Tree.nil:=h3;rw[<-h3]at hk ha hc;replace h4:y3=y4:=h4.symm;replace h5:y4=y5:=h5.symm;subst h1 h2 h4 h5 h6 h7 h8;have mt:mass y3<=Y8 y3 p.e q.e:=by unfold Y8;omega
 have eP:Y8 y3 p.e q.e=mass y3+cE p.e+cE q.e:=rfl;have dp:p.kind=3->Zr3 p.e y3:=λk=>Zey (n:=Y8 y3 p.e q.e) (hk.pk k).1 (hk.pk k).2.1 hk.rt.2 Yp hk.m;have dq:q.kind=3->Zr3 q.e y3:=λk=>Zey (n:=Y8 y3 p.e q.e) (hk.qk k).1 (hk.qk k).2.1 hk.rt.2 Yp hk.m;have m0:mass (Tree.mk 0 [] [])=1:=rfl;have la:(at_++[PStep.mk 0 next]).length=at_.length+1:=by simp
 have kt:∀s:Sd,s.next=next->(Tree.mk ok ow d).kids.getD s.next.toNat Tree.nil=y3:=λs e=>by rw[e,h3];try rfl
 (simp only[iB,vcT,vcS]);have lo:(out++[Tree.mk 0 [] []]).length=out.length+1:=by simp
 simp only[Z1A,lo];simp only[Qp];have K1:p.kind=1/\q.kind=3->J2 ZY at_ (Tree.mk ok ow d) p q ⟨next,out,mine,hers,cs⟩=⟨next+1,out++[y3],mine,hers,cs++[Conflict.mk (at_++[PStep.mk 0 next]) (Z0 y3) (Z0 Tree.nil) (Z0 (YX q.e y3))]⟩:=λk=>by unfold J2;rw[if_pos k,kt ⟨next,out,mine,hers,cs⟩ rfl]
 have K2:¬(p.kind=1/\q.kind=3)->p.kind=3/\q.kind=1->J2 ZY at_ (Tree.mk ok ow d) p q ⟨next,out,mine,hers,cs⟩=⟨next+1,out++[y3],mine,hers,cs++[Conflict.mk (at_++[PStep.mk 0 next]) (Z0 y3) (Z0 (YX p.e y3)) (Z0 Tree.nil)]⟩:=λk k'=>by unfold J2;rw[if_neg k,if_pos k',kt ⟨next,out,mine,hers,cs⟩ rfl]
 have K3:¬(p.kind=1/\q.kind=3)->¬(p.kind=3/\q.kind=1)->(p.kind=1\/q.kind=1)->J2 ZY at_ (Tree.mk ok ow d) p q ⟨next,out,mine,hers,cs⟩=⟨next+1,out,mine,hers,cs⟩:=λk k' k2=>by unfold J2;rw[if_neg k,if_neg k',if_pos k2]
 have K4:¬(p.kind=1\/q.kind=1)->J2 ZY at_ (Tree.mk ok ow d) p q ⟨next,out,mine,hers,cs⟩=⟨next+1,out++[(ZY (at_++[PStep.mk 0 next]) y3 p.e q.e cs).1],mine,hers,(ZY (at_++[PStep.mk 0 next]) y3 p.e q.e cs).2⟩:=λk=>by unfold J2;rw[JH,JH,if_neg k,kt ⟨next,out,mine,hers,cs⟩ rfl]
 refine⟨⟨n0,n1⟩,by simp only[Z5Y];omega,V2,λk=>⟨dq k.2,?_,Yp,Yp,Yp,?_⟩,λk=>⟨λk'=>⟨dp k'.1,?_,Yp,Yp,Yp,?_⟩,λk'=>⟨λk2=>?_,λk2=>⟨?_,by simp only[Z6J];omega,Yp,Yp,Yp,?_⟩⟩⟩⟩;.have:=Z5K (dq k.2);simp only[Z3K];omega
 .simp only[Z3J,Z2q];rw[K1 k];exact YH
 .have:=Z5K (dp k'.1);simp only[Z3K];omega
 .simp only[Z3J,Z2q];rw[K2 Yp k'];exact YH
 .simp only[Z3J,Z2q];rw[K3 Yp Yp k2];exact YH
 .exact⟨hk.b Yp Yp,by show(at_++[PStep.mk 0 next]).length+Y8 y3 p.e q.e<=_;omega,hc⟩
 .simp only[Z3J,Z2q];rw[K4 Yp];exact YH
theorem ZtV{o:Tree}{p q:Edit}(h:OkB o p q)(kp:p.kind=2)(kq:q.kind=2)(at_:List PStep)(cs:List Conflict):(ZC o at_ (p.words.length+q.words.length) p.words q.words (o.words,cs)).2.length+kMs o (Yd o p.kids q.kids).toNat 0+kCs p.kids (Yd o p.kids q.kids).toNat 0+kCs q.kids (Yd o p.kids q.kids).toNat 0<=Y8 o p q+cs.length:=by
 have Rp:=Zt h.rp;have Rq:=Zt h.rq;have wp:=λw d=>(Yw Rp.words w d).2.1;have wq:=λw d=>(Yw Rq.words w d).2.1;have aa:=λk hk=>(ZD Rp.kids k hk).1.2.1;have ae:=λk hk=>(ZD Rq.kids k hk).1.2.1;have W:=(Z1t o at_ (p.words.length+q.words.length) p.words q.words (o.words,cs) wp wq (Z8I h.t.2)).1;have M:=Zqq o (Yd o p.kids q.kids).toNat 0 V0;have C1:=Zgz p.kids (Yd o p.kids q.kids).toNat 0;have C2:=Zgz q.kids (Yd o p.kids q.kids).toNat 0;have D1:=Z9j p.kids;have D2:=Z9j q.kids;have L1:=Z2x (l:=p.kids) (n:=o.kids.length) Yp aa;have L2:=Z2x (l:=q.kids) (n:=Jn p.kids o.kids.length) Yp ae;have eC:Yd o p.kids q.kids=Jn q.kids (Jn p.kids o.kids.length):=rfl;have cp:cE p=2*ctE p:=JH;have cq:cE q=2*ctE q:=JH;have c1:=Z0d p;have c2:=Z0d q;have eo:mass o=1+o.words.length+Z5 o.kids:=by cases o;rfl
 unfold Y8;simp only[QC,XE]at M;dsimp only at W;omega
theorem ZcS{o:Tree}{p:Edit}(hd:(doE false p o).isSome=true)(kp:p.kind=2):o.kind=1:=by
 rw[Jj,Y1,JH,JH,if_pos kp]at hd;split at hd;.assumption
 .cases hd
theorem ZlE{e:Edit}(hr:Z8 e (-1)=true)(hg:YF e):(∀w∈e.words,JT w/\0<=w.at_/\w.at_<=65534)/\e.words.length<=65535:=by
 have R:=Zt hr;refine⟨λw d=>?_,?_⟩
 .have:=Yw R.words w d;have g:JT w:=by cases e;exact hg.2.2.2.1 w d
  exact⟨g,Yp,this.2.1⟩
 .exact words_len R.words where
 words_len:∀{l:List WEdit},Ye (-1) l=true->l.length<=65535:=λh=>by
  have:∀(l:List WEdit)(last:Int),last<=65534->Ye last l=true->(l.length:Int)<=65534-last:=by intro l;induction l with|nil=>intro last h0 _;simp;omega|cons w r ih=>intro last h0 h;simp only[Ye,Q2,decide_eq_true_eq]at h;have:=ih w.at_ h.1.1.1.2.1 h.2;simp only[Qa];omega
  have:=this _ (-1) V0 h;omega
theorem ZzK:ZAF:=by
 intro N cs at_ o p q _ hp hN;simp only[Z7w,Zcy]at hp hN;obtain⟨⟨h,ha,hc⟩,kp,kq⟩:=hp;have hm:Y8 o p q<=10000000000:=Yp;have R:=(J4 h.t.neg (by rw[ZcS h.dp kp];decide) (by rw[ZcS h.dp kp];decide)).1 (ZcS h.dp kp);have B:=ZtV h kp kq at_ cs;have Rp:=Zt h.rp;have Rq:=Zt h.rq;have ao:=λk hk=>(ZD Rp.kids k hk).1;have aq:=λk hk=>(ZD Rq.kids k hk).1;have L1:=Z2x (l:=p.kids) (n:=o.kids.length) Yp λk hk=>(ao k hk).2.1;have L2:=Z2x (l:=q.kids) (n:=Jn p.kids o.kids.length) Yp λk hk=>(aq k hk).2.1;have eC:Yd o p.kids q.kids=Jn q.kids (Jn p.kids o.kids.length):=rfl;have cp:cE p=2*ctE p:=JH;have cq:cE q=2*ctE q:=JH;have c1:=Z0d p;have c2:=Z0d q;have D1:=Z9j p.kids;have D2:=Z9j q.kids;have eP:Y8 o p q=mass o+cE p+cE q:=rfl;refine ZFX _ _ _ _ _ _ _ ⟨?_,?_⟩;.simp only[Zmx];exact⟨⟨⟨Yp,Yp⟩,by cases o;exact h.t.2,by cases o;exact(Nat.le_of_lt_succ R.1)⟩,ZlE h.rp h.gp,ZlE h.rq h.gq⟩
 refine Z6 (ι:=Int×Int) (λs=>Z3j cs at_ o p q s.1 s.2) (λs=>0<=s.2/\s.2<=2/\s.1=if s.2=0 then(o.kids.length:Int)else if s.2=1 then Jn p.kids o.kids.length else Yd o p.kids q.kids) (λs=>(2-s.2).toNat) ((o.kids.length:Int),0) rfl ⟨QY 0,V1,by rw[if_pos rfl]⟩ ?_;rintro⟨n,i⟩⟨i0,i2,hn⟩;dsimp only at i0 i2 hn;refine ZtK _ _ _ _ _ _ _ _ _ _ ?_;intro y1 h1 y2 h2 y3 h3;have e3:(([p.kids,q.kids].length:Nat):Int)=2:=rfl;(simp only[iB,vcT,vcS]);rw[e3];have hy:i<2->(i=0/\y2=p.kids/\n=o.kids.length)\/(i=1/\y2=q.kids/\n=Jn p.kids o.kids.length):=λhi=>by
  have:i=0\/i=1:=Yp;rcases this with e|e;.subst e;exact .inl ⟨rfl,h2,by rw[if_pos rfl]at hn;exact hn⟩
  .subst e;exact .inr ⟨rfl,h2,by rw[if_neg V0,if_pos rfl]at hn;exact hn⟩
 have aa:i<2->∀m:Int,m=Jn y2 n->m=if i+1=0 then(o.kids.length:Int)else if i+1=1 then Jn p.kids o.kids.length else Yd o p.kids q.kids:=λhi m e=>by
  rw[e,JH];rcases hy hi with⟨e1,e2,e3⟩|⟨e1,e2,e3⟩;.rw[Y3,e2,e3]
  .rw[JH,e2,e3];try rfl
 refine⟨λhi=>⟨⟨i0,hi⟩,λhl=>?_,λhl=>?_⟩,λhi=>?_⟩
 .have be:0<=y3.at_/\y3.at_<=65534:=by
   rw[h3];rcases hy hi with⟨_,e2,_⟩|⟨_,e2,_⟩;.have:=ao _ (by rw[<-e2];exact Ze (l:=y2) (i:=((y2.length:Int)-1).toNat) Yp (KidOf.mk 0 Edit.nil));omega
   .have:=aq _ (by rw[<-e2];exact Ze (l:=y2) (i:=((y2.length:Int)-1).toNat) Yp (KidOf.mk 0 Edit.nil));omega
  have a8:y2.length<=1000000000000:=by
   rcases hy hi with⟨_,e2,_⟩|⟨_,e2,_⟩;.rw[e2];omega
   .rw[e2];omega
  have d:(if n<y3.at_+1 then y3.at_+1 else n)=Jn y2 n:=by
   have e:Jn y2 n=max n (y3.at_+1):=by
    unfold Jn;rw[Y3,<-(show((y2.length:Int)-1).toNat=y2.length-1 by omega),<-h3]
   rw[e];omega
  refine⟨V2,Yp,V2,V2,(Jn y2 n,i+1),by rw[d],⟨V1,V1,aa hi _ rfl⟩,V1⟩
 .have d:n=Jn y2 n:=by unfold Jn;rw[JH]
  exact⟨V2,(n,i+1),rfl,⟨V1,V1,aa hi _ d⟩,V1⟩
 have a2:n=Yd o p.kids q.kids:=by rw[hn,JH,JH]
 subst a2;replace h1:o=y1:=h1.symm;subst h1;clear h2 h3 hy aa hn;generalize hw:ZC o at_ (p.words.length+q.words.length) p.words q.words (o.words,cs)=w at B⊢;refine Z6 (ι:=Int×List Conflict×List Tree) (λs=>Z5D cs at_ o p q (Yd o p.kids q.kids) s.1 s.2.1 s.2.2) (λs=>0<=s.1/\s.1<=Yd o p.kids q.kids/\Z0z ZY at_ o p.kids q.kids (Yd o p.kids q.kids-s.1).toNat s.1 s.2.2 s.2.1=Z0z ZY at_ o p.kids q.kids (Yd o p.kids q.kids).toNat 0 [] w.2/\Z5 s.2.2+s.2.1.length+kMs o (Yd o p.kids q.kids-s.1).toNat s.1+kCs p.kids (Yd o p.kids q.kids-s.1).toNat s.1+kCs q.kids (Yd o p.kids q.kids-s.1).toNat s.1<=Y8 o p q+cs.length) (λs=>(Yd o p.kids q.kids-s.1).toNat) (0,w.2,[]) rfl ⟨QY 0,V1,by dsimp only;rw[Int.sub_zero],by dsimp only;rw[Int.sub_zero];simp only[Z5];omega⟩ ?_;rintro⟨j,ds,out⟩⟨j0,j1,j2,j3⟩;dsimp only at j0 j1 j2 j3;refine ZtJ _ _ _ _ _ _ _ _ _ _ _ _ ?_;intro z1 ai z2 aw z3 ay z4 az z5 a1;replace ai:o=z1:=ai.symm;subst ai aw ay az a1;(simp only[iB,vcT,vcS]);refine⟨λhj=>?_,λhj=>?_⟩
 .obtain⟨k1,k2,k3⟩:=h.kid kp kq j0;have el:(Yd o p.kids q.kids-j).toNat=(Yd o p.kids q.kids-(j+1)).toNat+1:=Yp;rw[el,Z0z]at j2;rw[el,kMs,kCs,kCs]at j3;have eK:Y8 (Zo o j) (YW p.kids j) (YW q.kids j)=mass (Zo o j)+cE (YW p.kids j)+cE (YW q.kids j):=rfl;have F:=Z3Z (muM (YW p.kids j)+muM (YW q.kids j)+1) (Zo o j) (YW p.kids j) (YW q.kids j) k1 Yp Yp (at_++[PStep.mk 0 j]) ds;have lo:=Yl out;have la:(at_++[PStep.mk 0 j]).length=at_.length+1:=by simp
  generalize ZY (at_++[PStep.mk 0 j]) (Zo o j) (YW p.kids j) (YW q.kids j) ds=r at F j2⊢;obtain⟨rt,rc⟩:=r;dsimp only at F j2⊢;refine⟨by simp only[Z5Y];omega,trivial,by simp only[ZfR];omega,by simp only[ZfR];omega,⟨k1,V1,V1⟩,by simp only[Z6J];omega,by rw[List.length_singleton];omega,V2,(j+1,_,_),rfl,⟨V1,V1,j2,?_⟩,V1⟩;dsimp only;rw[Ja,Z4z];omega
 .have ej:(Yd o p.kids q.kids-j).toNat=0:=Yp;rw[ej,Z0z]at j2;simp only[Zad,Z6s,Z9s];rw[hw,<-j2];exact YH
theorem Zxr:∀(k:Nat)(p q:List Op)(out:List Piece),p.length+q.length<=k->(Zl 2 2 p q out).1.length<=out.length+p.length+q.length:=by
 intro k;induction k with
 |zero=>
  intro p q out hk;have e1:p=[]:=Q0 Yp;have e2:q=[]:=Q0 Yp;subst e1 e2;have e:Zl 2 2 [] [] out=(out,true,[],[]):=by rw[Zl,dif_neg (by simp[sgl]),dif_neg (by simp[sgl]),dif_pos (by simp)];try rfl
  rw[e];exact Qc _|succ k ih=>
  intro p q out hk;rw[Zl];by_cases h1:sgl 2 p=true
  .rw[dif_pos h1];obtain⟨g1,d⟩:=Yn.1 h1;have l1:(p.drop 1).length=p.length-1:=Qt;have:=ih (p.drop 1) q (out++[⟨1,p.getD 0 Op.nil,Op.nil⟩]) (by grind);simp only[Q8,Qp]at this;have:p.length≠0:=by grind
   omega
  .rw[dif_neg h1];by_cases h2:sgl 2 q=true
   .rw[dif_pos h2];obtain⟨g1,d⟩:=Yn.1 h2;have l1:(q.drop 1).length=q.length-1:=Qt;have:=ih p (q.drop 1) (out++[⟨2,Op.nil,q.getD 0 Op.nil⟩]) (by grind);simp only[Q8,Qp]at this;have:q.length≠0:=by grind
    omega
   .rw[dif_neg h2];by_cases h3:p.length=0\/q.length=0
    .rw[dif_pos h3];split;.dsimp only;omega
     .dsimp only;simp
    .rw[dif_neg h3];generalize hn:min (Z4 (p.getD 0 Op.nil)) (Z4 (q.getD 0 Op.nil))=n;have ae:(ZB p n).length+(ZB q n).length+1<=p.length+q.length:=by
      have x1:=Y5 p n Yp;have x2:=Y5 q n Yp;rcases Kd (Z4 (p.getD 0 Op.nil)) (Z4 (q.getD 0 Op.nil))with h|h;.have:=Y4 p n Yp Yp;omega
      .have:=Y4 q n Yp Yp;omega
     have:=ih (ZB p n) (ZB q n) (out++[⟨0,Zx (p.getD 0 Op.nil) n,Zx (q.getD 0 Op.nil) n⟩]) Yp;simp only[Q8,Qp]at this;omega
structure StM(o:Tree)(p q:Edit)(at_:List PStep)(cs:List Conflict)(i:Int)(s:Sd):Prop where
 i0:0<=i
 i1:i<=(Zl 2 2 p.ops q.ops []).1.length
 n:0<=s.next
 fit:Zd3 o (muM p+muM q) ((Zl 2 2 p.ops q.ops []).1.drop i.toNat) s.next
 eq:((Zl 2 2 p.ops q.ops []).1.drop i.toNat).foldl (Zm ZY at_ o) s=(Zl 2 2 p.ops q.ops []).1.foldl (Zm ZY at_ o) ⟨0,[],[],[],cs⟩pot:pot s+Z5 (o.kids.drop s.next.toNat)+WP (ZG ((Zl 2 2 p.ops q.ops []).1.drop i.toNat))+WP (ZF ((Zl 2 2 p.ops q.ops []).1.drop i.toNat))+60<=Y8 o p q+cs.length
 r:SdR s
theorem ZtB:∀(n:Nat)(ps:List Piece),WP (ZG (ps.drop n))<=WP (ZG ps)/\WP (ZF (ps.drop n))<=WP (ZF ps)|0,ps=>by rw[QC];exact⟨Qc _,Qc _⟩|n+1,[]=>⟨Qc _,Qc _⟩|n+1,x::r=>by have h:=ZtB n r;rw[Qw,ZG,ZF];split<;>split<;>simp only[Qh,Qo,WP]<;>omega
theorem Zwb(s:Sd):Sd.mk s.next s.out s.mine s.hers s.cs=s:=rfl
theorem ZzJ:ZAE:=by
 intro N cs at_ o p q _ hp hN;simp only[Z7v,Zcy]at hp hN;obtain⟨⟨h,ha,hc⟩,kp,kq⟩:=hp;have hm:Y8 o p q<=10000000000:=Yp;have L:=h.list kp kq hm;have al:=Zxr _ p.ops q.ops [] (Qc _);have mp:=Z2u p;have mq:=Z2u q;have ep:=(ZxG h.rp).2.1;have eq:=(ZxG h.rq).2.1;have eP:Y8 o p q=mass o+cE p+cE q:=rfl;have mo:=YU o;have lk:=Yl o.kids;have ow:o=Tree.mk o.kind o.words o.kids:=by cases o;rfl
 simp only[Qm]at al;refine ZFW _ _ _ _ _ _ _ ⟨⟨L.op,L.oq⟩,?_⟩;refine Z6 (ι:=Int×Sd) (λs=>Z2a cs at_ o p q s.1 o.kind o.words o.kids s.2.next s.2.cs s.2.mine s.2.hers s.2.out) (λs=>StM o p q at_ cs s.1 s.2) (λs=>(((Zl 2 2 p.ops q.ops []).1.length:Int)-s.1).toNat) (0,⟨0,[],[],[],cs⟩) rfl ⟨QY 0,V1,Int.le_refl 0,L.fit,rfl,?_,⟨trivial,trivial,trivial⟩⟩ ?_;.have:=L.w;simp only[pot,Z5,XE,QC];omega
 rintro⟨i,s⟩hs;obtain⟨i0,i1,n0,hf,he,d,hr⟩:=hs;dsimp only at i0 i1 n0 hf he d hr;refine ZtI _ _ _ _ _ _ _ _ _ _ _ _ _ _ _ _ _ ?_;intro y1 aa y2 ai;rw[Zwb,<-ow]at aa;have br:s.cs.length<=pot s/\Z5 s.out<=pot s/\Z5 s.mine<=pot s/\Z5 s.hers<=pot s:=by unfold pot;omega
 have lo:=Yl s.out;have lm:=Yl s.mine;have lh:=Yl s.hers;have P94:Zio (((),at_,o.kind,o.words,o.kids,s.next,s.out,s.mine,s.hers,()),(s.cs,()),()):=by
  simp only[Zio];omega
 (simp only[iB,vcT,vcS]);refine⟨λhi=>⟨⟨i0,hi⟩,?_⟩,λhi=>⟨P94,?_⟩⟩
 .have hd:(Zl 2 2 p.ops q.ops []).1.drop i.toNat=y2::(Zl 2 2 p.ops q.ops []).1.drop (i+1).toNat:=by rw[ai];exact Yu i0 hi _
  rw[hd]at hf he d;rw[QV]at he;have af:y2∈(Zl 2 2 p.ops q.ops []).1:=by rw[ai];exact Ze Yp _
  refine⟨λk1=>?_,λk1=>⟨λk2=>?_,λk2=>⟨P94,?_,?_⟩⟩⟩
  .rcases hf with⟨h1,hk,h2⟩|⟨h1,_⟩|⟨h1,_⟩;rotate_left;.omega
   .omega
   have e:Zm ZY at_ o s y2=⟨s.next,s.out,s.mine++y2.p.l,s.hers,s.cs⟩:=by unfold Zm;rw[if_pos h1]
   have e1:∀r,ZG (y2::r)=y2.p::ZG r:=λr=>by rw[ZG,JH];try rfl
   have e2:∀r,ZF (y2::r)=ZF r:=λr=>by rw[ZF,if_pos h1];try rfl
   have ew:2*Z5 y2.p.l<=wP y2.p:=by unfold wP;rw[if_pos hk];omega
   have ll:=Yl y2.p.l;rw[e1,e2,WP]at d;rw[e]at he;refine⟨Yp,V2,(i+1,⟨s.next,s.out,s.mine++y2.p.l,s.hers,s.cs⟩),rfl,⟨V1,V1,n0,h2,he,?_,⟨hr.o,Z2i hr.m (L.gp _ af),hr.h⟩⟩,V1⟩;have:pot ⟨s.next,s.out,s.mine++y2.p.l,s.hers,s.cs⟩=pot s+2*Z5 y2.p.l:=by unfold pot;dsimp only;rw[Ja];omega
   dsimp only;omega
  .rcases hf with⟨h1,_⟩|⟨h1,hk,h2⟩|⟨h1,_⟩;.omega
   rotate_left;.omega
   have e:Zm ZY at_ o s y2=⟨s.next,s.out,s.mine,s.hers++y2.q.l,s.cs⟩:=by unfold Zm;rw[JH,if_pos h1]
   have e1:∀r,ZG (y2::r)=ZG r:=λr=>by rw[ZG,if_pos h1];try rfl
   have e2:∀r,ZF (y2::r)=y2.q::ZF r:=λr=>by rw[ZF,JH];try rfl
   have ew:2*Z5 y2.q.l<=wP y2.q:=by unfold wP;rw[if_pos hk];omega
   have ll:=Yl y2.q.l;rw[e1,e2,WP]at d;rw[e]at he;refine⟨Yp,V2,(i+1,⟨s.next,s.out,s.mine,s.hers++y2.q.l,s.cs⟩),rfl,⟨V1,V1,n0,h2,he,?_,⟨hr.o,hr.m,Z2i hr.h (L.gq _ af)⟩⟩,V1⟩;have:pot ⟨s.next,s.out,s.mine,s.hers++y2.q.l,s.cs⟩=pot s+Z5 y2.q.l:=by unfold pot;dsimp only;rw[Ja];omega
   dsimp only;omega
  .rcases hf with⟨h1,_⟩|⟨h1,_⟩|⟨k0,⟨_,_,pn⟩,hl,_⟩;.omega
   .omega
   have:y2.p.n+y2.p.l.length<=cnt y2:=by unfold cnt;omega
   unfold InR;omega
  .rcases hf with⟨h1,_⟩|⟨h1,_⟩|⟨k0,⟨_,_,pn⟩,hl,hO,hMu,hc1,hpn,hqn,h3⟩;.omega
   .omega
   have wd:=ZtB i.toNat (Zl 2 2 p.ops q.ops []).1;have a1:∀r,ZG (y2::r)=y2.p::ZG r:=λr=>by rw[ZG,JH];try rfl
   have a6:∀r,ZF (y2::r)=y2.q::ZF r:=λr=>by rw[ZF,JH];try rfl
   rw[hd,a1,a6,WP,WP]at wd;have wo:cO y2.p<=wP y2.p/\cO y2.q<=wP y2.q:=by unfold wP;omega
   have Lw:=L.w;have cp:=ZbJ y2;have aq:(if y2.p.n+(y2.p.l.length:Int)<1 then 1 else y2.p.n+(y2.p.l.length:Int))=cnt y2:=by unfold cnt;omega
   have e:Zm ZY at_ o s y2=Z0F (J2 ZY at_ o y2.p y2.q) (cnt y2).toNat y1:=by unfold Zm;rw[JH,JH,aa];try rfl
   have gn:y1.next=s.next:=by rw[aa,Z7X]
   have gp:pot y1<=pot s:=by rw[aa];exact ZgJ at_ o s
   have gr:SdR y1:=by rw[aa];exact ZgI at_ o hr
   have e1:∀r,ZG (y2::r)=y2.p::ZG r:=λr=>by rw[ZG,JH];try rfl
   have e2:∀r,ZF (y2::r)=y2.q::ZF r:=λr=>by rw[ZF,JH];try rfl
   rw[e1,e2,WP,WP]at d;rw[e]at he;have ew:(cnt y2).toNat*(cO y2.p+cO y2.q)<=wP y2.p+wP y2.q:=by
    unfold wP;by_cases k:y2.p.kind=3\/y2.q.kind=3;.rw[hc1 k];show 1*_<=_;omega
    .have z1:cO y2.p=0:=if_neg (λe=>k (.inl e));have z2:cO y2.q=0:=if_neg (λe=>k (.inr e));rw[z1,z2];exact QI _
   have c1:cE y2.p.e=cO y2.p:=by
    unfold cO;split;.try rfl
    .rename_i k;rw[hpn k];try rfl
   have c2:cE y2.q.e=cO y2.q:=by
    unfold cO;split;.try rfl
    .rename_i k;rw[hqn k];try rfl
   refine Z6 (ι:=Int×Sd) (λt=>Z5C cs at_ o p q i o.kind o.words o.kids t.1 t.2.next t.2.out t.2.mine t.2.hers t.2.cs) (λt=>(0<=t.1/\t.1<=cnt y2)/\t.2.next=s.next+t.1/\Z0F (J2 ZY at_ o y2.p y2.q) (cnt y2-t.1).toNat t.2=Z0F (J2 ZY at_ o y2.p y2.q) (cnt y2).toNat y1/\pot t.2+Z5 (o.kids.drop t.2.next.toNat)+(cnt y2-t.1).toNat*(cO y2.p+cO y2.q)<=pot s+Z5 (o.kids.drop s.next.toNat)+wP y2.p+wP y2.q/\SdR t.2) (λt=>(cnt y2-t.1).toNat) (0,y1) rfl ⟨⟨QY 0,V1⟩,V1,by dsimp only;rw[Int.sub_zero],by dsimp only;rw[Int.sub_zero,gn];omega,gr⟩ ?_;rintro⟨k,t⟩⟨⟨t0,t1⟩,tn,te,tp,tr⟩;dsimp only at t0 t1 tn te tp tr;refine ZtH _ _ _ _ _ _ _ _ _ _ _ _ _ _ _ _ _ _ _ ?_;intro z1 am z2 az z3 aw z4 ao;rw[<-ai]at am;subst am;subst az aw;rw[Zwb,<-ow]at ao;(simp only[iB,vcT,vcS]);rw[aq];refine⟨λhk=>?_,λhk=>⟨V2,(i+1,t),rfl,?_,V1⟩⟩
   .have el:(cnt z1-k).toNat=(cnt z1-(k+1)).toNat+1:=Yp;have aj:t.next.toNat<o.kids.length:=Yp;have eK:Z5 (o.kids.drop t.next.toNat)=mass (o.kids.getD t.next.toNat Tree.nil)+Z5 (o.kids.drop (t.next.toNat+1)):=by rw[QD aj,Z5,Q6,Q1 aj];try rfl
    have ok:=hO t.next Yp Yp;have KP:=Znq (Z3Z (muM p+muM q)) (at_:=at_) ok hMu hpn hqn tr;have kn:=Z7N ZY at_ o z1.p z1.q t;rw[el,Z0F]at te;rw[el,QL,Nat.one_mul,eK]at tp;rw[<-ao]at te KP kn;have bz:Y8 (o.kids.getD t.next.toNat Tree.nil) z1.p.e z1.q.e=mass (o.kids.getD t.next.toNat Tree.nil)+cE z1.p.e+cE z1.q.e:=rfl;have bq:t.cs.length<=pot t/\Z5 t.out<=pot t:=by unfold pot;omega
    have bw:=Yl t.out;have mk:=ZS (Ze (l:=o.kids) aj Tree.nil);refine⟨?_,by simp only[Zcw];omega,V2,(k+1,z4),rfl,⟨⟨V1,V1⟩,V1,te,?_,KP.2⟩,V1⟩;.simp only[Z5m];exact⟨⟨⟨Yp,Yp,Yp⟩,ok⟩,Yp,Yp,Yp⟩
    .dsimp only;rw[kn,show(t.next+1).toNat=t.next.toNat+1 by omega];omega
   .have ek:(cnt z1-k).toNat=0:=Yp;rw[ek,Z0F]at te;rw[ek,Nat.zero_mul]at tp;rw[<-te]at he;refine⟨V1,V1,V1,?_,he,?_,tr⟩;.dsimp only;rw[tn,show k=cnt z1 by omega];exact h3
    .dsimp only;omega
 .have ei:(Zl 2 2 p.ops q.ops []).1.drop i.toNat=[]:=Qb Yp;rw[ei]at he;have he:s=(Zl 2 2 p.ops q.ops []).1.foldl (Zm ZY at_ o) ⟨0,[],[],[],cs⟩:=he;rw[he]at aa;have e:y1=Zhp ZY at_ o p q cs:=aa;subst e;simp only[Zac,Z6r,ZaE];exact YH
end Go.AM.YtnfbomhidainjaaGreat
namespace Go.Proofs
open Go.Shelf Go.RowKit Go.Lib Go.Sort Go.AM
theorem Tryz.look111(w:World)(a b:Addr)(z:Int)(p:Option Addr)(n c:Nat)(h1:w.cell? a=some (.pointer (some b)))(h2:w.cell? (b.add 2)=some (.int .i64 z)):Calls Tryz.prog 111 #[.slice p n c,.pointer (some a)] w λe d=>e=.returned (.agg #[.int .i64 z,.slice none 0 0,.slice p n c])/\Evo w d λ_=>False:=by have hA:∀o,(w.alloc o).cell? a=some (.pointer (some b)):=λo=>(World.cell?_alloc_lt w o a (World.block_lt_of_cell? w a h1)).trans h1;have hB:∀o,(w.alloc o).cell? ⟨b.block,b.off+2,none⟩=some (.int .i64 z):=λo=>(World.cell?_alloc_lt w o _ (World.block_lt_of_cell? w _ h2)).trans h2;go_enter Tryz.func111,Tryz.ntmps111;go_wp2;refine bodyPost_ret (results_cell_row rfl _ _ w.heap.size _ _ _ _ rfl (heap_alloc_new _ _) Tryz.underlying25 rfl V3) rfl ?_;exact⟨rfl,Evo.alloc w _ _⟩
end Go.Proofs
namespace Go.AM.YtnfbomhidainjaaGreat
open Go.AM Go.Proofs
def Z9M:Fs U:={inp:=some ⟨0,.u64,id,some 2⟩,fn:=λ_ _=>none}
theorem ZIX:Contract Tryz.prog cfg 111 Z9M:=by
 refine⟨⟨_,Tryz.func111,rfl,rfl⟩,λargs X L ps r X' L' d=>?_,λi hi=>?_⟩;.simp only[Z9M,ZbF]at d;split at d<;>cases d
 .cases hi;refine⟨λh=>(nomatch h),λk hk=>?_⟩;cases hk;exact λw a b z p n c h1 h2=>Tryz.look111 w a b z p n c h1 h2
noncomputable section
def ZyA:List (FuncId×Fs U):=[(72,Z5c),(38,Ys),(91,Z46),(76,Z48),(111,Z9M)]
def ZHG:Za U:=lvk [([1],[1,((.x 0),[]),((.x 1),[])]),([1,2],[1,((.x 0),[]),((.x 1),[])]),([1],[1,((.x 0),[]),((.x 1),[])]),([1,32],[1,((.x 0),[]),((.x 1),[])]),([1],[1,((.x 0),[]),((.x 1),[])]),([1,62],[1,((.x 0),[]),((.x 1),[])]),([1],[1,((.x 0),[]),((.x 1),[])]),([],[((.x 0),[]),((.x 1),[])])]
abbrev A94(p:List Nat):=AW (Z2 ZyA) Tryz.f94 ZHG p
theorem ZMO(sm_:Unit)(at_:List PStep)(ok:Int)(ow:List Int)(oks:List Tree)(next:Int)(out mine hers:List Tree)(cs:List Conflict)(Q:QT)(h:let z0:=((mine.length:Int):Int)==0;((Tt (!z0))/\(Tt (!z0))/\(Tt (!z0))/\(Tt (!z0))/\(Tt (!z0))/\(Tt (!z0))/\(Tt (!z0))/\(Tt (!z0))/\((!z0)=true->ZfS (mine,hers,(),()))/\(z0=false->(!z0)=true)/\(iB (bif z0 then true else(eqX (Z7 mine) (Z7 hers))) (((out.length+hers.length)*56<=140737488355328)/\(Q .normal (L2 [] [(.x 0,[.xp 1,sU .step at_ .unk,ci ok,sU .u64 ow .unk,sU .tree oks .unk,ci next,sU .tree (out++hers) (.own (.x 0 6)),.nils,.nils]),(.x 1,[sU .conflict cs (.own (.x 1 0))])]))) ((iB (((hers.length:Int):Int)==0) (((out.length+mine.length)*56<=140737488355328)/\(Q .normal (L2 [] [(.x 0,[.xp 1,sU .step at_ .unk,ci ok,sU .u64 ow .unk,sU .tree oks .unk,ci next,sU .tree (out++mine) (.own (.x 0 6)),.nils,.nils]),(.x 1,[sU .conflict cs (.own (.x 1 0))])]))) (((Z5Y (at_,2,next,()))/\(Z3K ((cs,()),(at_++[PStep.mk 2 next]),(Tree.mk ok [] []),(Tree.mk ok [] mine),(Tree.mk ok [] hers),()))/\(Q .normal (L2 [] [(.x 0,[.xp 1,sU .step at_ .unk,ci ok,sU .u64 ow .unk,sU .tree oks .unk,ci next,sU .tree out (.own (.x 0 6)),.nils,.nils]),(.x 1,[sU .conflict (cs++[Conflict.mk (at_++[PStep.mk 2 next]) (Z0 (Tree.mk ok [] [])) (Z0 (Tree.mk ok [] mine)) (Z0 (Tree.mk ok [] hers))]) (.own (.x 1 0))])]))))))))):A94 [] (L2 [(0,.ptr (.x 0) 0)] [(.x 0,[.xp 1,sU .step at_ .unk,ci ok,sU .u64 ow .unk,sU .tree oks .unk,ci next,sU .tree out (.own (.x 0 6)),sU .tree mine (.own (.x 0 7)),sU .tree hers (.own (.x 0 8))]),(.x 1,[sU .conflict cs (.own (.x 1 0))])]) Q:=(Eq.mpr V3 h:)
abbrev ZJu(sm_:Unit)(at_:List PStep)(ok:Int)(ow:List Int)(oks:List Tree)(next:Int)(out mine hers:List Tree)(cs:List Conflict):Prop:=AW (Z2 ZyA) Tryz.f94 ZHG [] (Zg (ZqN.can ((sm_,at_,ok,ow,oks,next,out,mine,hers,()),(cs,()),())) (ZqN.canX ((sm_,at_,ok,ow,oks,next,out,mine,hers,()),(cs,()),()))) (EQ Tryz.f94 (Zmd ((sm_,at_,ok,ow,oks,next,out,mine,hers,()),(cs,()),())) (ZfI ((sm_,at_,ok,ow,oks,next,out,mine,hers,()),(cs,()),())))
theorem ZGF(c72:CT 72 Z5c)(c38:CT 38 Ys)(c91:CT 91 Z46)(c76:CT 76 Z48)(ZIX:CT 111 Z9M)(hb:∀(aa:Unit)(at_:List PStep)(ok:Int)(ow:List Int)(d:List Tree)(next:Int)(out:List Tree)(mine:List Tree)(hers:List Tree)(cs:List Conflict)(_:Unit),Zio ((aa,at_,ok,ow,d,next,out,mine,hers,()),(cs,()),())->ZJu aa at_ ok ow d next out mine hers cs):CT 94 ZjC:=Y9 (l:=[(72,Z5c),(38,Ys),(91,Z46),(76,Z48),(111,Z9M)]) Zf rfl (⟨c72,c38,c91,c76,ZIX,trivial⟩) ZHG Tryz.func94 rfl rfl 1 (λ_=>rfl) V0 (λ⟨⟨aa,at_,ok,ow,d,next,out,mine,hers,_⟩,⟨cs,_⟩,_⟩=>hb aa at_ ok ow d next out mine hers cs ())
end
theorem c94:Contract Tryz.prog cfg 94 ZjC:=by
 refine ZGF c72 c38 c91 c76 ZIX ?_;intro sm at_ ok ow d next out mine hers cs _ hp;simp only[Zio]at hp;obtain⟨⟨b1,b2⟩,b3,b4,b5⟩:=hp;refine ZMO sm _ _ _ _ _ _ _ _ _ _ ?_;have lo:=Yl mine;have lh:=Yl hers;have m0:Z5 []=0:=rfl;have m2:∀l,mass (Tree.mk ok [] l)=1+Z5 l:=λl=>by simp[mass]
 have la:(at_++[PStep.mk 2 next]).length=at_.length+1:=by simp
 (simp only[iB,vcT,vcS]);refine⟨λh=>by simp only[ZfS];omega,λh=>⟨Yp,?_⟩,λh=>⟨λh2=>⟨Yp,?_⟩,λh2=>⟨by simp only[Z5Y];omega,by simp only[Z3K,m2];omega,?_⟩⟩⟩;.have e:JW at_ (Tree.mk ok ow d) ⟨next,out,mine,hers,cs⟩=⟨next,out++hers,[],[],cs⟩:=if_pos (h.imp (λx=>by dsimp only;omega) id);simp only[Zmd,ZfI,e];exact YH
 .have e:JW at_ (Tree.mk ok ow d) ⟨next,out,mine,hers,cs⟩=⟨next,out++mine,[],[],cs⟩:=by unfold JW;exact(if_neg (λx=>x.elim (λy=>h.1 (by dsimp only at y;omega)) (λy=>by dsimp only at y;rw[h.2]at y;cases y))).trans (if_pos V1)
  simp only[Zmd,ZfI,e];exact YH
 .have e:JW at_ (Tree.mk ok ow d) ⟨next,out,mine,hers,cs⟩=⟨next,out,[],[],cs++[Conflict.mk (at_++[PStep.mk 2 next]) (Z0 (Tree.mk ok [] [])) (Z0 (Tree.mk ok [] mine)) (Z0 (Tree.mk ok [] hers))]⟩:=by unfold JW;exact(if_neg (λx=>x.elim (λy=>h.1 (by dsimp only at y;omega)) (λy=>by dsimp only at y;rw[h.2]at y;cases y))).trans (if_neg V1)
  simp only[Zmd,ZfI,e];exact YH
def Zr1(N:Nat)(f:Bo):Prop:=∀t a,OkB t a a->Y8 t a a<=10000000000->muM a+muM a<N->∀at_ cs,(f at_ t a a cs).2=cs/\∃u,doE false a t=some u/\Eqv (f at_ t a a cs).1 u
theorem ZjN{α:Type}{x:Option α}(h:x.isSome=true):∃u,x=some u:=by cases x with|none=>cases h|some u=>exact⟨u,rfl⟩
theorem ZiY{e:Edit}{t u:Tree}(h:doE false e t=some u):Eqv (YX e t) u:=by unfold YX;rw[h];exact Z19 u
theorem Zuq{t n m:Int}:mix (mix t n m) n m=mix t n m:=by refine Zh2 (Z25 _ _ _) (Z25 _ _ _) λi d=>?_;rw[Z97 d,Z97 d];split<;>rfl
theorem ZeM(o:Tree)(at_:List PStep)(cs:List Conflict):∀(ws:List WEdit)(out r:List Int)(n:Nat),(∀w∈ws,0<=w.at_)->ws.length+ws.length<=n->wsD o.words ws out=some r->ZC o at_ n ws ws (out,cs)=(r,cs)
 |[],out,r,n,_,_,h=>by rw[wordsM_0' o at_ n,Option.some.inj h]|w::s,out,r,0,_,h,_=>by simp at h|w::s,out,r,n+1,hw,hn,h=>by
  rw[wsD]at h;split at h
  .have d:=hw w Q5;simp only[Qa]at hn;rw[ZC,if_neg (by simp),if_neg (by simp),if_neg (by simp)];simp only[Qj,Qw,QC];have e:JD o at_ w w w.at_ (out,cs)=(ZK 0 out w.at_.toNat (mix (o.words.getD w.at_.toNat 0) w.new w.mask),cs):=by unfold JD;rw[if_pos rfl,Zuq,Z1R o d]
   rw[e];exact ZeM o at_ cs s _ r n (λx hx=>hw x (Q3 _ hx)) Yp h
  .cases h where wordsM_0'(o:Tree)(at_:List PStep)(n:Nat){s:List Int×List Conflict}:ZC o at_ n [] [] s=s:=by cases n with|zero=>rfl|succ n=>rw[ZC,if_pos ⟨rfl,rfl⟩]
theorem ZiK:∀{l:List Kid}{i:Int},(∀k∈l,k.at_≠i)->YW l i=Edit.nil|[],_,_=>rfl|k::r,i,h=>by rw[YW,if_neg (h k Q5)];exact ZiK λx d=>h x (Q3 _ d)
theorem ZsV:∀{l:List Kid}{last:Int},asc KidOf.at_ last l->∀k∈l,YW l k.at_=k.e
 |a::r,last,h,k,hk=>by
  rcases Q9.1 hk with rfl|hk;.rw[YW,if_pos rfl]
  .have:=Z9k h.2 k hk;rw[YW,JH];exact ZsV h.2 k hk
theorem ZiI{f:Bo}{N:Nat}(F:Zr1 N f){at_:List PStep}{o:Tree}{p:Edit}{b:List Tree}(h:OkB o p p)(hm:Y8 o p p<=10000000000)(kp:p.kind=2)(hN:muM p+muM p<=N)(hb:Z0c false o.kids p.kids o.kids=some b):∀(n:Nat)(i:Int)(out:List Tree)(cs:List Conflict),0<=i->(out.length:Int)=i->(∀j:Nat,(j:Int)<i->Eqv (out.getD j Tree.nil) (b.getD j Tree.nil))->(Z0z f at_ o p.kids p.kids n i out cs).2=cs/\((Z0z f at_ o p.kids p.kids n i out cs).1.length:Int)=i+n/\∀j:Nat,(j:Int)<i+n->Eqv ((Z0z f at_ o p.kids p.kids n i out cs).1.getD j Tree.nil) (b.getD j Tree.nil)
 |0,i,out,cs,_,hl,ho=>⟨rfl,by rw[Z0z];dsimp only;omega,λj hj=>by rw[Z0z];exact ho j Yp⟩|n+1,i,out,cs,h0,hl,ho=>by
  obtain⟨k1,k2,k3⟩:=h.kid kp kp h0;obtain⟨c1,u,hu,hq⟩:=F _ _ k1 Yp Yp (at_++[PStep.mk 0 i]) cs;have ah:Eqv u (b.getD i.toNat Tree.nil):=by
   rw[ZkX]at hb;have A:=Z6U (Zt h.rp).kids;obtain⟨m1,m2⟩:=Zpr Yp A hb;by_cases hk:∃k∈p.kids,k.at_=i
   .obtain⟨k,hk,rfl⟩:=hk;obtain⟨v,hv,hr⟩:=m1 k hk;rw[ZsV A k hk]at hu;rw[Z7e,<-Jl o h0,hu]at hv;cases hv;rw[hr];exact rfl
   .have ab:∀k∈p.kids,k.at_≠i:=λk d e=>hk ⟨k,d,e⟩;have af:∀k∈p.kids,0<=k.at_:=λk d=>by have:=Z9k A k d;omega
    rw[ZiK ab]at hu;have hu:Zo o i=u:=Option.some.inj hu;rw[<-hu,m2 i.toNat (λk d e=>by have h1:=ab k d;have h2:=af k d;omega),Jl o h0];exact rfl
  have R:=ZiI F (at_:=at_) h hm kp hN hb n (i+1) (out++[(f (at_++[PStep.mk 0 i]) (Zo o i) (YW p.kids i) (YW p.kids i) cs).1]) cs Yp (by simp;omega) (λj hj=>by
   by_cases hlt:(j:Int)<i;.rw[Q6,QB Yp,<-Q6];exact ho j hlt
   .have ej:j=i.toNat:=Yp;have el:out.length=j:=Yp;rw[Q6,Qv Yp,el,Kq];rw[ej];exact Xm hq ah);rw[Z0z,c1];exact⟨R.1,Yp,λj hj=>R.2.2 j Yp⟩
theorem ZtW{f:Bo}{N:Nat}(F:Zr1 N f){at_:List PStep}{o:Tree}{p:Edit}(h:OkB o p p)(hm:Y8 o p p<=10000000000)(kp:p.kind=2)(hN:muM p+muM p<=N)(cs:List Conflict):(Z9s f at_ o p p cs).2=cs/\∃u,doE false p o=some u/\Eqv (Z9s f at_ o p p cs).1 u:=by
 have R:=Zt h.rp;obtain⟨u,hu⟩:=ZjN h.dp;have ah:=hu;rw[Jj,Y1,JH,JH,if_pos kp]at hu;split at hu;.rename_i ko;cases hw:wsD o.words p.words o.words with
  |none=>rw[hw]at hu;cases hu|some w=>
   rw[hw,Qr]at hu;cases hb:Z0c false o.kids p.kids o.kids with
   |none=>rw[hb]at hu;cases hu|some b=>
    rw[hb]at hu;have hu:Tree.mk 1 w b=u:=Option.some.inj hu;have W:=ZeM o at_ cs p.words o.words w (p.words.length+p.words.length) (λx hx=>by have:=(Yw R.words x hx).1;omega) (Qc _) hw;have kk:=λk d=>(ZD R.kids k d).1.2.1;have L1:=Z2x (l:=p.kids) (n:=o.kids.length) Yp kk;have L2:=Z2x (l:=p.kids) (n:=Jn p.kids o.kids.length) Yp kk;have eC:Yd o p.kids p.kids=Jn p.kids (Jn p.kids o.kids.length):=rfl;have K:=ZiI F (at_:=at_) h hm kp hN hb (Yd o p.kids p.kids).toNat 0 [] cs V0 rfl (λj hj=>by omega);unfold Z9s;rw[W];dsimp only;refine⟨K.1,u,ah,?_⟩;rw[<-hu];refine(Z5H rfl rfl).2 ⟨λ_=>rfl,λj=>?_⟩;by_cases hj:(j:Int)<0+((Yd o p.kids p.kids).toNat:Int);.exact K.2.2 j hj
    .have A:=Z6U R.kids;rw[ZkX]at hb;obtain⟨m1,m2⟩:=Zpr Yp A hb;have e1:(Z0z f at_ o p.kids p.kids (Yd o p.kids p.kids).toNat 0 [] cs).1.getD j Tree.nil=Tree.nil:=by rw[Q6,Qq Yp];try rfl
     have e2:b.getD j Tree.nil=Tree.nil:=by rw[m2 j (λk d e=>by have h1:=lastM_mem (l:=p.kids) (n:=o.kids.length) d A;have:=Z9k A k d;omega)];rw[Q6,Qq Yp];try rfl
     show Eqv _ _;dsimp only[Tree.kids];rw[e1,e2];exact rfl
 .cases hu where
 lastM_mem:∀{l:List Kid}{n:Int}{k:Kid},k∈l->asc KidOf.at_ (-1) l->k.at_+1<=Jn l n:=by
  intro l n k d A;have af:∀(l:List Kid)(ab:Int),asc KidOf.at_ ab l->∀k∈l,k.at_<=(l.getD (l.length-1) (KidOf.mk 0 Edit.nil)).at_:=by intro l;induction l with|nil=>intro _ _ k d;cases d|cons a r ih=>
    intro ab A k d;cases r with
    |nil=>rw[Qd]at d;rw[d];exact QY _|cons c s=>
     have h1:=ih a.at_ A.2;have e:(a::c::s).getD ((a::c::s).length-1) (KidOf.mk 0 Edit.nil)=(c::s).getD ((c::s).length-1) (KidOf.mk 0 Edit.nil):=rfl;rw[e];rcases Q9.1 d with rfl|d;.have:=h1 c Q5;have:=A.2.1;omega
     .exact h1 k d
  have:=af l _ A k d;unfold Jn;rw[if_pos (List.length_pos_of_mem d)];omega
def Ls:List Op->List Tree|[]=>[]|o::r=>o.l++Ls r
theorem ZEe(l:List Op)(o:Op):Ls (l++[o])=Ls l++o.l:=by induction l with|nil=>rw[Qh,Ls,Ls,Ls,Qh,Qi]|cons a r ih=>rw[Qo,Ls,Ls,ih,Q7]
theorem ZcP(at_:List PStep)(o:Tree){s:Sd}(h:s.mine=s.hers):JW at_ o s=⟨s.next,s.out++s.hers,[],[],s.cs⟩:=by unfold JW;rw[if_pos (.inr (by rw[h];exact Zzm _))]
theorem Z5I(l:List Tree):EqvL l l:=rfl
theorem ZnI{a b:Tree}(h:Eqv a b):EqvL [a] [b]:=Z22.2 h
theorem Zmn{f:Bo}{N:Nat}(F:Zr1 N f){at_:List PStep}{o:Tree}{a:Op}(ka:a.kind=0)(ea:a.e=Edit.nil)(hN:0<N):∀(n:Nat)(s:Sd),0<=s.next->s.next+n<=o.kids.length->(∀i,s.next<=i->i<s.next+n->OkK (o.kids.getD i.toNat Tree.nil) a a)->(Z0F (J2 f at_ o a a) n s).cs=s.cs/\(Z0F (J2 f at_ o a a) n s).mine=s.mine/\(Z0F (J2 f at_ o a a) n s).hers=s.hers/\EqvL (Z0F (J2 f at_ o a a) n s).out (s.out++(o.kids.drop s.next.toNat).take n)
 |0,s,_,_,_=>by
  rw[Z0F,List.take_zero,Qi];exact⟨rfl,rfl,rfl,rfl⟩|n+1,s,h0,hl,h=>by
  have ok:=h s.next Yp Yp;have d:=ok.b Yp Yp;have hm:=ok.m;rw[ea]at d hm;obtain⟨c1,u,hu,hq⟩:=F _ _ d hm (by rw[Zsd];omega) (at_++[PStep.mk 0 s.next]) s.cs;have hu:o.kids.getD s.next.toNat Tree.nil=u:=Option.some.inj hu;have e:J2 f at_ o a a s=⟨s.next+1,s.out++[(f (at_++[PStep.mk 0 s.next]) (o.kids.getD s.next.toNat Tree.nil) Edit.nil Edit.nil s.cs).1],s.mine,s.hers,s.cs⟩:=by unfold J2;rw[JH,JH,JH,ea,c1]
  have R:=Zmn F (at_:=at_) (o:=o) ka ea hN n (J2 f at_ o a a s) (by rw[e];dsimp only;omega) (by rw[e];dsimp only;omega) (λi i1 i2=>h i (by rw[e]at i1;dsimp only at i1;omega) (by rw[e]at i2;dsimp only at i2;omega));rw[Z0F];rw[e]at R⊢;dsimp only at R⊢;refine⟨R.1,R.2.1,R.2.2.1,?_⟩;have hk:s.next.toNat<o.kids.length:=Yp;have ed:o.kids.drop s.next.toNat=u::o.kids.drop (s.next+1).toNat:=by rw[QD hk,<-hu,Q6,Q1 hk,show(s.next+1).toNat=s.next.toNat+1 by omega];try rfl
  rw[ed,Kf];refine Xm R.2.2.2 ?_;rw[Q7];exact EqvL.app (Z5I _) (EqvL.app (ZnI hq) (Z5I _))
theorem Zmo{f:Bo}{at_:List PStep}{o:Tree}{a:Op}(ka:a.kind=1):∀(n:Nat)(s:Sd),(Z0F (J2 f at_ o a a) n s).cs=s.cs/\(Z0F (J2 f at_ o a a) n s).mine=s.mine/\(Z0F (J2 f at_ o a a) n s).hers=s.hers/\(Z0F (J2 f at_ o a a) n s).out=s.out
 |0,s=>⟨rfl,rfl,rfl,rfl⟩|n+1,s=>by
  have e:J2 f at_ o a a s=⟨s.next+1,s.out,s.mine,s.hers,s.cs⟩:=by unfold J2;rw[JH,JH,if_pos (.inl ka)]
  have R:=Zmo (f:=f) (at_:=at_) (o:=o) ka n (J2 f at_ o a a s);rw[Z0F];rw[e]at R⊢;exact R
theorem ZuB{f:Bo}{N:Nat}(F:Zr1 N f)(hN:0<N)(at_:List PStep)(o:Tree):∀(k:Nat)(J K R:List Op)(s:Sd)(out ps:List Piece)(d:List Tree),(J++R).length+(K++R).length<=k->(∀x∈J,x.kind=2)->(∀x∈K,x.kind=2)->(∀x∈J++R,YD x)->(∀x∈K++R,YD x)->s.mine++Ls J=s.hers++Ls K->0<=s.next->Run R (o.kids.drop s.next.toNat) d->(Zl 2 2 (J++R) (K++R) out).2.1=true->(Zl 2 2 (J++R) (K++R) out).1=out++ps->Zd3 o N ps s.next->(JW at_ o (ps.foldl (Zm f at_ o) s)).cs=s.cs/\EqvL (JW at_ o (ps.foldl (Zm f at_ o) s)).out (s.out++(s.mine++(Ls J++d))):=by
 intro k;induction k with
 |zero=>
  intro J K R s out ps d hk hJ hK oJ oK hg h0 hR hb h hf;have e1:J++R=[]:=Q0 Yp;have e2:K++R=[]:=Q0 Yp;have j0:=(XW.1 e1).1;have r0:=(XW.1 e1).2;have k0:=(XW.1 e2).1;subst j0 r0 k0;have e:Zl 2 2 ([]++[]) ([]++[]) out=(out,true,[],[]):=by
   rw[Qi,Zl,dif_neg (by simp[sgl]),dif_neg (by simp[sgl]),dif_pos (by simp)];try rfl
  rw[e]at h;have hp:ps=[]:=by simpa using h
  subst hp;obtain⟨_,rfl⟩:=Z0E hR;simp only[Ls,Qi]at hg⊢;show(JW at_ o s).cs=_/\EqvL (JW at_ o s).out _;rw[ZcP at_ o hg];exact⟨rfl,by rw[hg];exact Z5I _⟩|succ k ih=>
  intro J K R s out ps d hk hJ hK oJ oK hg h0 hR hb h hf;rw[Zl]at h hb;cases J with
  |cons a J'=>
   have h1:sgl 2 (a::J'++R)=true:=Yn.2 ⟨by simp,by simpa using hJ a List.mem_cons_self⟩;rw[dif_pos h1]at h hb;simp only[Qo,Qj,Qw,QC]at h hb hk oJ;obtain⟨i1,_⟩:=Z1l k (J'++R) (K++R) (out++[⟨1,a,Op.nil⟩]) (by simp only[Qa]at hk;omega) (λx hx=>oJ x (Q3 _ hx)) oK;obtain⟨qs,e,_⟩:=i1 hb;rw[e,Q7]at h;have hs:=Xd h;subst hs;have aj:Zd3 o N qs s.next:=by
    rcases hf with⟨_,_,h2⟩|⟨h1,_⟩|⟨h1,_⟩;.exact h2
    .exact absurd (show(1:Int)=2 from h1) V0
    .exact absurd (show(1:Int)=0 from h1) V0
   have ep:Zm f at_ o s ⟨1,a,Op.nil⟩=⟨s.next,s.out,s.mine++a.l,s.hers,s.cs⟩:=by unfold Zm;rw[if_pos rfl]
   have R1:=ih J' K R ⟨s.next,s.out,s.mine++a.l,s.hers,s.cs⟩ (out++[⟨1,a,Op.nil⟩]) qs d (by simp only[Qa]at hk;omega) (λx hx=>hJ x (Q3 _ hx)) hK (λx hx=>oJ x (Q3 _ hx)) oK (by dsimp only;rw[<-hg,Ls,List.append_assoc]) h0 hR hb e aj;show(JW at_ o (List.foldl (Zm f at_ o) (Zm f at_ o s ⟨1,a,Op.nil⟩) qs)).cs=_/\EqvL (JW at_ o (List.foldl (Zm f at_ o) (Zm f at_ o s ⟨1,a,Op.nil⟩) qs)).out _;rw[ep];refine⟨R1.1,Xm R1.2 ?_⟩;dsimp only;rw[Ls,Q7,Q7]|nil=>
   rw[Qh]at h hb hk oJ;by_cases hins:∃a R',R=a::R'/\a.kind=2
   .obtain⟨a,R',rfl,ka⟩:=hins;have h1:sgl 2 (a::R')=true:=Yn.2 ⟨by simp,by simpa using ka⟩;rw[dif_pos h1]at h hb;simp only[Qj,Qw,QC]at h hb;have eK:K++a::R'=(K++[a])++R':=by simp
    rw[eK]at h hb hk oK;simp only[Qa]at hk;obtain⟨i1,_⟩:=Z1l k R' ((K++[a])++R') (out++[⟨1,a,Op.nil⟩]) Yp (λx hx=>oJ x (Q3 _ hx)) oK;obtain⟨qs,e,_⟩:=i1 hb;rw[e,Q7]at h;have hs:=Xd h;subst hs;have aj:Zd3 o N qs s.next:=by
     rcases hf with⟨_,_,h2⟩|⟨h1,_⟩|⟨h1,_⟩;.exact h2
     .exact absurd (show(1:Int)=2 from h1) V0
     .exact absurd (show(1:Int)=0 from h1) V0
    obtain⟨d',rfl,bd⟩:=(YV ka).1 hR;have ep:Zm f at_ o s ⟨1,a,Op.nil⟩=⟨s.next,s.out,s.mine++a.l,s.hers,s.cs⟩:=by unfold Zm;rw[if_pos rfl]
    have R1:=ih [] (K++[a]) R' ⟨s.next,s.out,s.mine++a.l,s.hers,s.cs⟩ (out++[⟨1,a,Op.nil⟩]) qs d' (by rw[Qh];omega) (λx hx=>by cases hx) (λx hx=>by
      rcases Qf.1 hx with hx|hx;.exact hK x hx
      .rw[Qd]at hx;rw[hx];exact ka) (λx hx=>oJ x (Q3 _ hx)) oK (by dsimp only;rw[ZEe,<-List.append_assoc,<-hg,Ls,List.append_nil,List.append_nil]) h0 bd (by rw[List.nil_append];exact hb) (by rw[List.nil_append];exact e) aj;show(JW at_ o (List.foldl (Zm f at_ o) (Zm f at_ o s ⟨1,a,Op.nil⟩) qs)).cs=_/\EqvL (JW at_ o (List.foldl (Zm f at_ o) (Zm f at_ o s ⟨1,a,Op.nil⟩) qs)).out _;rw[ep];refine⟨R1.1,Xm R1.2 ?_⟩;dsimp only;rw[Ls,Qh,Qh,Q7]
   .have h1:¬sgl 2 R=true:=λe=>by
     obtain⟨g1,g2⟩:=Yn.1 e;cases R with
     |nil=>simp at g1|cons a R'=>exact hins ⟨a,R',rfl,by simpa using g2⟩
    rw[dif_neg h1]at h hb;cases K with
    |cons a K'=>
     have h2:sgl 2 (a::K'++R)=true:=Yn.2 ⟨by simp,by simpa using hK a List.mem_cons_self⟩;rw[dif_pos h2]at h hb;simp only[Qo,Qj,Qw,QC]at h hb hk oK;obtain⟨i1,_⟩:=Z1l k R (K'++R) (out++[⟨2,Op.nil,a⟩]) (by simp only[Qa]at hk;omega) oJ (λx hx=>oK x (Q3 _ hx));obtain⟨qs,e,_⟩:=i1 hb;rw[e,Q7]at h;have hs:=Xd h;subst hs;have aj:Zd3 o N qs s.next:=by
      rcases hf with⟨h1,_⟩|⟨_,_,h2⟩|⟨h1,_⟩;.exact absurd (show(2:Int)=1 from h1) V0
      .exact h2
      .exact absurd (show(2:Int)=0 from h1) V0
     have ep:Zm f at_ o s ⟨2,Op.nil,a⟩=⟨s.next,s.out,s.mine,s.hers++a.l,s.cs⟩:=by unfold Zm;rw[if_neg (show¬(2:Int)=1 by decide),if_pos rfl]
     have R1:=ih [] K' R ⟨s.next,s.out,s.mine,s.hers++a.l,s.cs⟩ (out++[⟨2,Op.nil,a⟩]) qs d (by rw[Qh];simp only[Qa]at hk;omega) (λx hx=>by cases hx) (λx hx=>hK x (Q3 _ hx)) oJ (λx hx=>oK x (Q3 _ hx)) (by dsimp only;rw[hg,Ls,List.append_assoc]) h0 hR (by rw[List.nil_append];exact hb) (by rw[List.nil_append];exact e) aj;show(JW at_ o (List.foldl (Zm f at_ o) (Zm f at_ o s ⟨2,Op.nil,a⟩) qs)).cs=_/\EqvL (JW at_ o (List.foldl (Zm f at_ o) (Zm f at_ o s ⟨2,Op.nil,a⟩) qs)).out _;rw[ep];exact R1|nil=>
     rw[Qh]at h hb hk oK;have ao:s.mine=s.hers:=by simpa[Ls]using hg
     have h2:=h1;rw[dif_neg h2]at h hb;cases R with
     |nil=>
      rw[dif_pos (by simp)]at h;have hp:ps=[]:=by simpa using h
      subst hp;obtain⟨_,rfl⟩:=Z0E hR;show(JW at_ o s).cs=_/\EqvL (JW at_ o s).out _;rw[ZcP at_ o ao];exact⟨rfl,by simp only[Ls,Qi,Qh];rw[ao];exact Z5I _⟩|cons a R'=>
      have ha:=oJ a Q5;have ka:a.kind≠2:=λe=>hins ⟨a,R',rfl,e⟩;rw[dif_neg (by simp)]at h hb;simp only[Qj]at h hb;have en:min (Z4 a) (Z4 a)=Z4 a:=Yp;have et:Zx a (Z4 a)=a:=by unfold Zx;rw[if_pos (Int.le_refl _)]
      have er:ZB (a::R') (Z4 a)=R':=by unfold ZB;simp only[Qj,Qw,QC];rw[if_pos (QY _)]
      rw[en,et,er]at h hb;simp only[Qa]at hk;obtain⟨i1,_⟩:=Z1l k R' R' (out++[⟨0,a,a⟩]) Yp (λx hx=>oJ x (Q3 _ hx)) (λx hx=>oJ x (Q3 _ hx));obtain⟨qs,e,_⟩:=i1 hb;rw[e,Q7]at h;have hs:=Xd h;subst hs;rcases hf with⟨h1,_⟩|⟨h1,_⟩|⟨_,_,hl,hO,hMu,hc1,hpn,hqn,h3⟩;.exact absurd (show(0:Int)=1 from h1) V0
      .exact absurd (show(0:Int)=2 from h1) V0
      dsimp only at hl hO hMu hc1 hpn hqn h3;have cp:=ZbJ ⟨0,a,a⟩;have ep:Zm f at_ o s ⟨0,a,a⟩=Z0F (J2 f at_ o a a) (cnt ⟨0,a,a⟩).toNat ⟨s.next,s.out++s.hers,[],[],s.cs⟩:=by unfold Zm;rw[if_neg (show¬(0:Int)=1 by decide),if_neg (show¬(0:Int)=2 by decide),ZcP at_ o ao];try rfl
      have hn:=Z6D f at_ o s ⟨0,a,a⟩;rw[if_neg (show¬((0:Int)=1\/(0:Int)=2)by decide)]at hn;have step:∀A S' d',o.kids.drop s.next.toNat=A++S'->(A.length:Int)=cnt ⟨0,a,a⟩->Run R' S' d'->(Zm f at_ o s ⟨0,a,a⟩).cs=s.cs->(Zm f at_ o s ⟨0,a,a⟩).mine=[]->(Zm f at_ o s ⟨0,a,a⟩).hers=[]->∀D,EqvL (Zm f at_ o s ⟨0,a,a⟩).out (s.out++s.hers++D)->d=D++d'->(JW at_ o (List.foldl (Zm f at_ o) (Zm f at_ o s ⟨0,a,a⟩) qs)).cs=s.cs/\EqvL (JW at_ o (List.foldl (Zm f at_ o) (Zm f at_ o s ⟨0,a,a⟩) qs)).out (s.out++(s.mine++(Ls []++d))):=by
       intro A S' d' eA lA rR c m hh D hD ed;have eS:S'=o.kids.drop (Zm f at_ o s ⟨0,a,a⟩).next.toNat:=by rw[hn,show(s.next+cnt ⟨0,a,a⟩).toNat=s.next.toNat+A.length by omega,<-XR,eA,List.drop_left]
       have R1:=ih [] [] R' (Zm f at_ o s ⟨0,a,a⟩) (out++[⟨0,a,a⟩]) qs d' (by rw[Qh];omega) (λx hx=>by cases hx) (λx hx=>by cases hx) (λx hx=>oJ x (Q3 _ hx)) (λx hx=>oJ x (Q3 _ hx)) (by rw[m,hh]) (by rw[hn];omega) (by rw[<-eS];exact rR) (by rw[Qh];exact hb) (by rw[Qh];exact e) (by rw[hn];exact h3);refine⟨R1.1.trans c,Xm R1.2 ?_⟩;rw[m,ed];simp only[Ls,Qh];rw[ao,<-Q7,<-Q7];exact EqvL.app hD (Z5I _)
      show(JW at_ o (List.foldl (Zm f at_ o) (Zm f at_ o s ⟨0,a,a⟩) qs)).cs=_/\EqvL (JW at_ o (List.foldl (Zm f at_ o) (Zm f at_ o s ⟨0,a,a⟩) qs)).out _;have bh:Z4 a=cnt ⟨0,a,a⟩:=by
       have lp:=Ya ha;by_cases k3:a.kind=3
       .have e1:Z4 a=1:=by unfold Z4;rw[if_pos k3]
        rw[e1,hc1 (.inl k3)]
       .unfold cnt Z4 at*;rw[if_neg k3]at lp⊢;dsimp only;omega
      rcases Jf ha with⟨k0,_⟩|k1|k2|k3
      .obtain⟨A,S',d',eA,ed,lA,rR⟩:=(Z01 k0).1 hR;have be:=Zes ha k0;have K1:=Zmn F (at_:=at_) (o:=o) k0 (hpn Yp) hN (cnt ⟨0,a,a⟩).toNat ⟨s.next,s.out++s.hers,[],[],s.cs⟩ h0 V1 (λi i1 i2=>hO i (by dsimp only at i1;omega) (by dsimp only at i2;omega));rw[<-ep]at K1;have eT:(o.kids.drop s.next.toNat).take (cnt ⟨0,a,a⟩).toNat=A:=by rw[eA,show(cnt ⟨0,a,a⟩).toNat=A.length by omega,List.take_left]
       dsimp only at K1;rw[eT]at K1;exact step A S' d' eA Yp rR K1.1 K1.2.1 K1.2.2.1 A K1.2.2.2 ed
      .obtain⟨A,S',eA,bg,rR⟩:=(Z02 k1).1 hR;have be:Z4 a=A.length:=by rw[Z1D ha (.inl k1),Z2W bg]
       have K1:=Zmo (f:=f) (at_:=at_) (o:=o) k1 (cnt ⟨0,a,a⟩).toNat ⟨s.next,s.out++s.hers,[],[],s.cs⟩;rw[<-ep]at K1;refine step A S' d eA Yp rR K1.1 K1.2.1 K1.2.2.1 [] ?_ rfl;rw[K1.2.2.2,Qi];exact Z5I _
      .exact absurd k2 ka
      .obtain⟨x,S',y,d',eA,ed,hd,rR⟩:=(Z37 k3).1 hR;have c1:=hc1 (.inl k3);have hx:o.kids.getD s.next.toNat Tree.nil=x:=by
        have:(o.kids.drop s.next.toNat).getD 0 Tree.nil=x:=by rw[eA];try rfl
        rw[<-this,Q6,Q6,Qy,Xx]
       have ok:=hO s.next Yp Yp;obtain⟨cc,u,hu,hq⟩:=F _ _ (ok.b Yp Yp) ok.m hMu (at_++[PStep.mk 0 s.next]) s.cs;rw[hx,hd]at hu;have hu:y=u:=Option.some.inj hu;have e1:Zm f at_ o s ⟨0,a,a⟩=⟨s.next+1,s.out++s.hers++[(f (at_++[PStep.mk 0 s.next]) (o.kids.getD s.next.toNat Tree.nil) a.e a.e s.cs).1],[],[],s.cs⟩:=by
        rw[ep,c1];show Z0F _ 1 _=_;rw[Z0F,Z0F];unfold J2;dsimp only;rw[JH,JH,JH,cc]
       refine step [x] S' d' eA (by rw[c1];rfl) rR (by rw[e1]) (by rw[e1]) (by rw[e1]) [y] ?_ ed;rw[e1,hu];exact EqvL.app (Z5I _) (ZnI hq)
theorem ZuC{f:Bo}{N:Nat}(F:Zr1 N f){at_:List PStep}{o:Tree}{p:Edit}(h:OkB o p p)(hm:Y8 o p p<=10000000000)(kp:p.kind=3)(hN:muM p+muM p<=N)(cs:List Conflict):(ZaE f at_ o p p cs).2=cs/\∃u,doE false p o=some u/\Eqv (ZaE f at_ o p p cs).1 u:=by
 have L:=h.list kp kp hm;obtain⟨k1,d,hR⟩:=ZkW h.rp h.dp kp;have op:=Z18 (Zt h.rp).ops;have ab:0<muM p+muM p:=by have:=(Zl4 (e:=p) Yp).2;omega
 have S:=ZuB (λt a h1 h2 h3=>F t a h1 h2 Yp) ab at_ o _ [] [] p.ops ⟨0,[],[],[],cs⟩ [] (Zl 2 2 p.ops p.ops []).1 d (Qc _) (λx hx=>by cases hx) (λx hx=>by cases hx) op op rfl (QY 0) (by exact hR) (by exact L.b) (by rfl) L.fit;have hu:doE false p o=some (.mk p.list [] d):=by rw[Jj,Y1,JH,JH,JH,if_pos kp,if_pos k1,(ZkB λo ho=>Jf (op o ho)).2 hR];try rfl
 have k:=L.k;unfold ZaE;refine⟨S.1,_,hu,(ZgQ (by show o.kind≠0;omega) (by show o.kind≠1;omega)).2 ⟨k1,rfl,?_⟩⟩;have:=S.2;show EqvL (Zhp f at_ o p p cs).out d;unfold Zhp;simpa[Ls]using this
theorem Zov{f:Bo}{N:Nat}(F:Zr1 N f){at_:List PStep}{o:Tree}{p:Edit}(h:OkB o p p)(hm:Y8 o p p<=10000000000)(hN:muM p+muM p<=N)(cs:List Conflict):(Z0e f at_ o p p cs).2=cs/\∃u,doE false p o=some u/\Eqv (Z0e f at_ o p p cs).1 u:=by
 obtain⟨u,d⟩:=ZjN h.dp;have hd:=ZiY d;unfold Z0e;by_cases k0:p.kind=0;.rw[if_pos k0];exact⟨rfl,u,d,hd⟩
 .rw[if_neg k0,if_neg k0];by_cases k2:p.kind=2;.rw[if_pos ⟨k2,k2⟩];exact ZtW F h hm k2 hN cs
  .rw[JH];by_cases k3:p.kind=3;.rw[if_pos ⟨k3,k3⟩];exact ZuC F h hm k3 hN cs
   .rw[JH,if_pos (by simp[ZN])];exact⟨rfl,u,d,hd⟩
theorem Zh4:∀n:Nat,Zr1 n (ZbL n)|0,_,_,_,_,h,_,_=>by omega|n+1,t,a,h,hm,hN,at_,cs=>Zov (Zh4 n) h hm Yp cs
theorem ZqH{o:Tree}{p:Edit}(h:OkB o p p)(hm:Y8 o p p<=10000000000)(at_:List PStep)(cs:List Conflict):(ZY at_ o p p cs).2=cs/\∃u,doE false p o=some u/\Eqv (ZY at_ o p p cs).1 u:=Zh4 _ o p h hm Yp at_ cs
noncomputable def Jh(most:Int)(o x y:Tree):Tree×List Conflict:=ZY [] (Z0 o) (Jb most o x) (Jb most o y) []
theorem Zar(most:Int){o x y:Tree}(ho:TreeOk o)(hx:TreeOk x)(hy:TreeOk y):OkB (Z0 o) (Jb most o x) (Jb most o y):=by have p:=Z3p most ho hx;have q:=Z3p most ho hy;obtain⟨u,hu,_⟩:=p.do_;obtain⟨v,hv,_⟩:=q.do_;obtain⟨u',aa,_⟩:=Z4u (Z84 _ _ _ _ p.r (ZgP o)) hu;obtain⟨v',d,_⟩:=Z4u (Z84 _ _ _ _ q.r (ZgP o)) hv;exact⟨ho.norm.rt,p.r,p.g,by rw[aa];rfl,q.r,q.g,by rw[d];rfl⟩
theorem Zam(most:Int){o x y:Tree}(ho:TreeOk o)(hx:TreeOk x)(hy:TreeOk y)(mo:mass o<=1000)(mx:mass x<=1000)(my:mass y<=1000):Y8 (Z0 o) (Jb most o x) (Jb most o y)<=3000000000:=by
 have p:=(Z3p most ho hx).ct;have q:=(Z3p most ho hy).ct;have n:=ZI o;have a:∀e,cE e<=2*ctE e:=λe=>by unfold cE;split<;>omega
 have a1:=a (Jb most o x);have d:=a (Jb most o y);unfold Y8;omega
theorem Zn5(most:Int){o x y:Tree}(ho:TreeOk o)(hx:TreeOk x)(hy:TreeOk y)(mo:mass o<=1000)(mx:mass x<=1000)(my:mass y<=1000):mass (Jh most o x y).1<=3000000000/\rng (Jh most o x y).1:=by have h:=Zam most ho hx hy mo mx my;have L:=Z3Z (muM (Jb most o x)+muM (Jb most o y)+1) _ _ _ (Zar most ho hx hy) Yp Yp [] [];simp only[Qm]at L;exact⟨by show mass (ZY [] _ _ _ []).1<=_;omega,L.2⟩
theorem Zj2(most:Int){o x:Tree}(ho:TreeOk o)(hx:TreeOk x){u:Tree}(hu:doE false (Jb most o x) (Z0 o)=some u):Eqv u x:=by have p:=Z3p most ho hx;obtain⟨v,hv,e⟩:=p.do_;obtain⟨w,d,e2⟩:=Z4u (Z84 _ _ _ _ p.r (ZgP o)) hv;rw[hu]at d;rw[Option.some.inj d];exact Xm e2 e
theorem Zps(most:Int){o t:Tree}(ho:TreeOk o)(ht:TreeOk t)(mo:mass o<=1000)(mt:mass t<=1000):(Jh most o t t).2=[]/\Z0 (Jh most o t t).1=Z0 t:=by have h:=Zam most ho ht ht mo mt mt;obtain⟨c,u,d,e⟩:=ZqH (Zar most ho ht ht) Yp [] [];exact⟨c,Xm e (Zj2 most ho ht d)⟩
theorem Zpt(most:Int){t x:Tree}(ht:TreeOk t)(hx:TreeOk x)(mt:mass t<=1000)(mx:mass x<=1000):(Jh most t t x).2=[]/\Z0 (Jh most t t x).1=Z0 x:=by
 have h:=Zam most ht ht hx mt mt mx;have ok:=Zar most ht ht hx;have k0:(Jb most t t).kind=0:=by
  unfold Jb;rw[Zaq,if_pos (by simp[ZN])];try rfl
 have e:Jh most t t x=(YX (Jb most t x) (Z0 t),[]):=by unfold Jh;rw[ZnY ok Yp];exact if_pos k0
 obtain⟨u,d⟩:=ZjN ok.dq;rw[e];exact⟨rfl,Xm (ZiY d) (Zj2 most ht hx d)⟩
theorem ZqC(most:Int){o t:Tree}(ho:TreeOk o)(ht:TreeOk t):(doE false (Jb most o t) o).map Z0=some (Z0 t):=by obtain⟨u,d,e⟩:=(Z3p most ho ht).do_;rw[d];exact congrArg some e
mutual theorem Zda:∀t:Tree,mass t<=17592186044416->Z3E t|.mk k w ks,h=>by have d:=Z9T ks;have h2:=Yl ks;rw[mass]at h;rw[Z3E];exact⟨Yp,Yp,d Yp⟩theorem Z9T:∀l:List Tree,Z5 l<=17592186044416->Z8E l|[],_=>trivial|t::r,h=>by have d:=Zda t;have h2:=Z9T r;rw[Z5]at h;exact⟨d Yp,h2 Yp⟩end
inductive OkD:Int->Edit->Prop|mk{D:Int}{e:Edit}:D≠0->(e.kind=1->Zb e.old (dT D)=true/\Zb e.new (dT D)=true)->(∀k∈e.kids,OkD (D-1) k.e)->(∀o∈e.ops,∀t∈o.l,Zb (.mk e.list [] [t]) (dT (D-1))=true)->(∀o∈e.ops,o.kind=3->OkD (D-1) o.e)->OkD D e
mutual theorem Z8N:∀(e:Edit)(D m:Int),Z8 e m=true->OkD D e->Z8 e D=true|.mk k o n w ks l os,D,m,h,hD=>by have h1:=Za5 ks;have h2:=Za1 l os;cases hD with|mk d0 t1 hk ho1 ho2=>
   rw[Z8]at h⊢;split at h;.cases h
   .rename_i a;rw[JH];split at h;.cases h
    .rename_i b;rw[if_neg b];split at h;.rename_i c;rw[if_pos c];have d:=t1 c;simp only[Q2]at h⊢;exact⟨⟨d.1,d.2⟩,h.2⟩
     .rename_i c;rw[if_neg c];simp only[Q2]at h⊢;obtain⟨⟨⟨⟨a1,a2⟩,a3⟩,a4⟩,a5⟩:=h;exact⟨⟨⟨⟨a1,h1 (-1) (D-1) (m-1) a2 hk⟩,a3⟩,h2 (D-1) (m-1) a4 λo h=>⟨ho1 o h,ho2 o h⟩⟩,a5⟩theorem Za5:∀(ks:List (KidOf Edit))(last D m:Int),ZA last ks m=true->(∀k∈ks,OkD D k.e)->ZA last ks D=true|[],_,_,_,_,_=>rfl|k::r,last,D,m,h,hk=>by simp only[ZA,Q2]at h⊢;exact⟨Zhj k last D m h.1 (hk k Q5),Za5 r k.at_ D m h.2 λx d=>hk x (Q3 _ d)⟩theorem Zhj:∀(k:KidOf Edit)(last D m:Int),YB last k m=true->OkD D k.e->YB last k D=true
 |⟨a,e⟩,last,D,m,h,hk=>by
  simp only[YB,Q2]at h⊢;exact⟨h.1,Z8N e D m h.2 hk⟩theorem Za1(list:Int):∀(os:List (OpOf Edit))(D m:Int),Zz list os m=true->(∀o∈os,(∀t∈o.l,Zb (.mk list [] [t]) (dT D)=true)/\(o.kind=3->OkD D o.e))->Zz list os D=true
 |[],_,_,_,_=>rfl|o::r,D,m,h,ho=>by
  simp only[Zz,Q2]at h⊢;exact⟨ZjW list o D m h.1 (ho o Q5),Za1 list r D m h.2 λx d=>ho x (Q3 _ d)⟩theorem ZjW(list:Int):∀(o:OpOf Edit)(D m:Int),Z9 list o m=true->((∀t∈o.l,Zb (.mk list [] [t]) (dT D)=true)/\(o.kind=3->OkD D o.e))->Z9 list o D=true
 |⟨k,n,l,e⟩,D,m,h,ho=>by
  have he:=Z8N e D m;obtain⟨o1,o2⟩:=ho;rw[Z9]at h⊢;split at h;.rename_i d;rw[if_pos d];exact h
  .rename_i d;rw[if_neg d];split at h;.cases h
   .rename_i h1;rw[if_neg h1];split at h;.rename_i h2;rw[if_pos h2];simp only[Q2]at h⊢;exact⟨⟨Z1U o1,h.1.2⟩,h.2⟩
    .rename_i h2;rw[if_neg h2];simp only[Q2]at h⊢;exact⟨⟨h.1.1,he h.1.2 (o2 (show k=3 by omega))⟩,h.2⟩end
def OpIn(mk:Tree->Tree->Op)(old now:List Tree)(o:Op):Prop:=(o.kind≠3/\∀t∈o.l,t∈old\/t∈now)\/∃x∈old,∃y∈now,0<JE x y/\o=mk x y
theorem OpIn.mono{mk:Tree->Tree->Op}{old now old' now':List Tree}{o:Op}(h:OpIn mk old now o)(h1:∀t∈old,t∈old')(h2:∀t∈now,t∈now'):OpIn mk old' now' o:=by
 rcases h with⟨k,h⟩|⟨x,hx,y,hy,h⟩;.exact .inl ⟨k,λt d=>(h t d).imp (h1 t) (h2 t)⟩
 .exact .inr ⟨x,h1 x hx,y,h2 y hy,h⟩
theorem Z2n{mk:Tree->Tree->Op}{old now l:List Tree}{k:Int}(hk:k≠3)(h:∀t∈l,t∈old\/t∈now):∀o∈ZW k l,OpIn mk old now o:=by
 intro o d;unfold ZW at d;split at d;.cases d
 .rw[Qd]at d;subst d;exact .inl ⟨hk,h⟩
theorem ZmP{mk:Tree->Tree->Op}{old now:List Tree}:∀(l:List Two)(i j:Int),(∀p∈l,Zjo old now p)->∀o∈YY mk old now l i j,OpIn mk old now o
 |[],i,j,_,o,ho=>by
  rw[YY]at ho;rcases Qf.1 ho with ho|ho;.exact Z2n V0 (λt d=>.inl (Ql d)) o ho
  .exact Z2n V0 (λt d=>.inr (Ql d)) o ho|p::r,i,j,hp,o,ho=>by
  rw[YY]at ho;rcases Qf.1 ho with ho|ho
  .rcases Qf.1 ho with ho|ho;.exact Z2n V0 (λt d=>.inl (Zez t d)) o ho
   .exact Z2n V0 (λt d=>.inr (Zez t d)) o ho
  .rcases Q9.1 ho with rfl|ho;.have h:=hp p Q5;exact .inr ⟨_,Ze (by have:=h.1;omega) _,_,Ze (by have:=h.2.1;omega) _,h.2.2,rfl⟩
   .exact ZmP r _ _ (λq hq=>hp q (Q3 _ hq)) o ho
theorem ZIs{mk:Tree->Tree->Op}(old now:List Tree):∀o∈Z3k mk old now,OpIn mk old now o:=ZmP _ 0 0 (Zal old now).1
theorem ZGp{mk:Tree->Tree->Op}:∀(n:Nat)(l:List SStep)(old ab:List Tree),l.length=n->∀o∈YM (Z3k mk) l old ab,OpIn mk old ab o:=by intro n;induction n using Nat.strongRecOn with|ind n ih=>
  intro l old ab hn o d;have dr:∀(l:List Tree)(k:Nat),∀t∈l.drop k,t∈l:=λl k t ht=>Ql ht;have tk:∀(l:List Tree)(k:Nat),∀t∈l.take k,t∈l:=λl k t ht=>QR ht;match l,hn with
  |[],_=>rw[YM]at d;cases d|[s],_=>
   rw[Z0x]at d;split at d
   .rw[Qd]at d;subst d;exact .inl ⟨by show(0:Int)≠3;decide,λt ht=>by cases ht⟩
   .split at d;.rw[Qi]at d;exact Z2n V0 (λt ht=>.inr (tk _ _ t ht)) o d
    .exact Z2n V0 (λt ht=>.inl (tk _ _ t ht)) o d|s::t::r,hn=>
   simp only[Qa]at hn;rw[JI]at d;split at d
   .rcases Q9.1 d with rfl|d;.exact .inl ⟨by show(0:Int)≠3;decide,λt ht=>by cases ht⟩
    .exact(ih (t::r).length (by simp;omega) (t::r) _ _ rfl o d).mono (dr _ _) (dr _ _)
   .split at d
    .rcases Qf.1 d with d|d;.exact Z2n V0 (λt ht=>.inr (tk _ _ t ht)) o d
     .exact(ih (t::r).length (by simp;omega) (t::r) _ _ rfl o d).mono (λ_ h=>h) (dr _ _)
    .split at d
     .rcases Qf.1 d with d|d;.exact(ZIs _ _ o d).mono (tk _ _) (tk _ _)
      .exact(ih _ Yp r _ _ rfl o d).mono (dr _ _) (dr _ _)
     .rcases Qf.1 d with d|d;.exact Z2n V0 (λt ht=>.inl (tk _ _ t ht)) o d
      .exact(ih (t::r).length (by simp;omega) (t::r) _ _ rfl o d).mono (dr _ _) (λ_ h=>h)
mutual theorem Z3I:∀(t:Tree)(d f:Int),0<=d->d<=f->Zb t d=true->Zb t f=true
 |.mk k w ks,d,f,h0,hf,h=>by
  have h1:=Za7 ks;rw[Zb]at h⊢;split at h;.rename_i a;rw[if_pos a];exact h
  .rename_i a;rw[if_neg a];split at h;.rename_i b;rw[if_pos b];exact h
   .rename_i b;rw[if_neg b];split at h;.cases h
    .rename_i c;rw[JH];split at h
     .rename_i e;rw[if_pos e];simp only[Q2]at h⊢;exact⟨h.1,h1 1 (d-1) (f-1) Yp Yp h.2⟩
     .rename_i e;rw[if_neg e];simp only[Q2]at h⊢;exact⟨h.1,h1 k (d-1) (f-1) Yp Yp h.2⟩theorem Za7:∀(l:List Tree)(list d f:Int),0<=d->d<=f->Yj list l d=true->Yj list l f=true|[],_,_,_,_,_,_=>rfl|t::r,list,d,f,h0,hf,h=>by simp only[Yj,Q2]at h⊢;exact⟨⟨h.1.1,Z3I t d f h0 hf h.1.2⟩,Za7 r list d f h0 hf h.2⟩end
theorem ZGz{t:Tree}{d:Int}(h0:0<=d)(h1:d<=63)(h:Zb t d=true):Zb t 63=true:=Z3I t d 63 h0 h1 h
theorem Z4K{t:Tree}{d:Int}(h:Zb t d=true)(k0:t.kind≠0)(aa:t.kind≠10):d≠0/\∀x∈t.kids,Z0P t.kind x=true/\Zb x (d-1)=true:=by
 obtain⟨k,w,ks⟩:=t;have k0:k≠0:=k0;have aa:k≠10:=aa;rw[Zb,if_neg k0,if_neg aa]at h;split at h;.cases h
 .rename_i hd;refine⟨hd,?_⟩;split at h;.rename_i k1;rw[Q2]at h;subst k1;exact Z0u.1 h.2
  .rw[Q2]at h;exact Z0u.1 h.2
theorem Zue(most:Int):∀(n:Nat)(a b:Tree)(D:Int),mass a+mass b<=n->0<=D->D<=64->Zb a D=true->Zb b D=true->a.kind≠10->b.kind≠10->(Z4e Jd most a b).kind≠0->OkD D (Z4e Jd most a b):=by
 intro n;induction n with
 |zero=>intro a b D h;have:=Zv a;omega|succ n ih=>
  intro a b D hm d0 ao ra rb ka kb hk;rw[Zkm]at hk⊢;split at hk;.exact absurd rfl hk
  .rename_i hs;rw[if_neg hs];have hD:∀t:Tree,Zb t D=true->t.kind≠0->t.kind≠10->D≠0:=λt h h1 h2=>(Z4K h h1 h2).1;split at hk
   .rename_i h;rw[if_pos h];have ae:=hD a ra Yp ka;have A:=(Z4K ra Yp ka).2;have B:=(Z4K rb Yp kb).2;refine .mk ae (λe=>absurd (show(2:Int)=1 from e) V0) (λk hk=>?_) (λo d=>by cases d) (λo d=>by cases d);obtain⟨j,j0,j1,rfl,kn⟩:=ZcJ hk;have at_:∀(t:Tree),t.kind=1->(∀x∈t.kids,Z0P t.kind x=true/\Zb x (D-1)=true)->Zb (Zo t j) (D-1)=true/\(Zo t j).kind≠10:=by
     intro t kt H;have z:Zb Tree.nil (D-1)=true/\Tree.nil.kind≠10:=⟨rfl,V0⟩;rw[Jl t j0];by_cases hj:j.toNat<t.kids.length;.have h1:=H _ (Ze (l:=t.kids) hj Tree.nil);refine⟨h1.2,λe=>?_⟩;have h2:=h1.1;rw[kt]at h2;unfold Z0P at h2;rw[if_neg V0,if_neg V0,decide_eq_true_eq]at h2;exact h2 e
     .rw[Q6,Qq Yp];exact z
    have qa:=at_ a h.1 A;have qb:=at_ b h.2 B;have hj:j<a.kids.length\/j<b.kids.length:=Yp;have h1:=Z4J j0 hj;exact ih _ _ (D-1) Yp Yp Yp qa.1 qb.1 qa.2 qb.2 kn
   .rename_i h1;rw[if_neg h1];split at hk
    .rename_i h;rw[if_pos h];have ae:=hD a ra Yp ka;have A:=(Z4K ra Yp ka).2;have B:=(Z4K rb Yp kb).2;have aq:∀o∈(Z2v (λx y=>Jd (Z4e Jd most x y)) most a b).ops,OpIn (λx y=>Jd (Z4e Jd most x y)) a.kids b.kids o:=λo d=>ZGp _ _ _ _ rfl o d;refine .mk ae (λe=>absurd (show(3:Int)=1 from e) V0) (λk hk=>by cases hk) (λo d t ht=>?_) (λo d k3=>?_)
     .have one:∀x,Z0P a.kind x=true->Zb x (D-1)=true->Zb (.mk a.kind [] [x]) (dT (D-1))=true:=by
       intro x x1 x2;have e:dT (D-1)=64:=Zt7 Yp;rw[e,Zb,JH,JH,if_neg V0,JH,Q2,decide_eq_true_eq,Z0u];refine⟨⟨h.2.1,h.2.2,rfl,by show 1<1048576;decide⟩,λy hy=>?_⟩;rw[Qd]at hy;subst hy;exact⟨x1,ZGz Yp Yp x2⟩
      rcases aq o d with⟨_,h2⟩|⟨x,hx,y,hy,_,e⟩
      .rcases h2 t ht with h3|h3;.exact one t (A t h3).1 (A t h3).2
       .have:=B t h3;rw[<-h.1]at this;exact one t this.1 this.2
      .have z:(Jd (Z4e Jd most x y)).l=[]:=by generalize Z4e Jd most x y=q;unfold Jd;split<;>rfl
       rw[e]at ht;dsimp only at ht;rw[z]at ht;cases ht
     .rcases aq o d with⟨h2,_⟩|⟨x,hx,y,hy,sc,e⟩;.exact absurd k3 h2
      .obtain⟨s1,s2,s3⟩:=Zfx sc;have e2:o=⟨3,0,[],Z4e Jd most x y⟩/\(Z4e Jd most x y).kind≠0:=by
        rw[e]at k3⊢;dsimp only at k3⊢;generalize Z4e Jd most x y=q at k3⊢;unfold Jd at k3⊢;split at k3;.exact absurd (show(0:Int)=3 from k3) V0
        .rename_i af;rw[if_neg af];exact⟨rfl,af⟩
       rw[e2.1];have m1:=Z6V hx;have m2:=Z6V hy;exact ih x y (D-1) Yp Yp Yp (A x hx).2 (B y hy).2 s3 Yp e2.2
    .rename_i h2;rw[if_neg h2];have af:a.kind≠0\/b.kind≠0:=by
      by_cases x:a.kind=0
      .by_cases y:b.kind=0
       .exfalso;apply hs;have z:∀t:Tree,t.kind=0->Z0 t=Tree.nil:=by intro t ht;obtain⟨k,w,ks⟩:=t;have ht:k=0:=ht;rw[Z0,if_pos ht]
        rw[z a x,z b y];simp[ZN]
       .exact .inr y
      .exact .inl x
     have ae:D≠0:=af.elim (λx=>hD a ra x ka) (λx=>hD b rb x kb);have e:dT D=64:=Zt7 d0;exact .mk ae (λ_=>by rw[e];exact⟨Z3I a D 64 d0 ao ra,Z3I b D 64 d0 ao rb⟩) (λk hk=>by cases hk) (λo d=>by cases d) (λo d=>by cases d)
theorem Zzt(most:Int){a b:Tree}(ha:TreeOk a)(hb:TreeOk b)(ra:Zb a 64=true)(rb:Zb b 64=true):Z8 (Jb most a b) 64=true:=by
 have h:=Zkl most ha.norm hb.norm;rw[ZnQ];refine Z17 _ _ ?_;by_cases hk:(Z4e Jd most (Z0 a) (Z0 b)).kind=0;.rw[h.s hk];try rfl
 .exact Z8N _ 64 _ h.r (Zue most _ _ _ 64 (Qc _) V0 V0 (Z0t a 64 ra) (Z0t b 64 rb) ha.norm.k hb.norm.k hk)
noncomputable section
noncomputable section
def Z13(a:Edit×Unit):Prop:=Zi a.1<=20000000000/\∃d,Z8 (Z1J a.1) d=true
def Z6h:Fs U:=fs ZAg (λa=>[Z13 a]) Zdk
def Z5n(a:Int×List Op×Unit):Prop:=Zh a.2.1<=20000000000/\∀o∈a.2.1,∃d,Z9 a.1 (Z0l o) d=true
def ZlR:Fs U:=fs Zlh (λa=>[Z5n a]) Zmj
def Z0y(N:Nat):List (FuncId×Fs U):=(20,fs ZAg (λa=>[Z13 a,Zkt a<N]) Zdk)::(37,fs Zlh (λa=>[Z5n a,Zpo a<N]) Zmj)::[(22,Zfs),(60,Z1y),(58,Z5d),(61,Z2D),(59,Z2l)]
abbrev ZFR(N:Nat)(e:Edit)(Q:QT):=AW (Z2 (Z0y N)) Tryz.f20 ZpI [] (L2 [(0,.agg (enc .edit e))] []) Q
abbrev ZEa(N:Nat):=awp cfg (Z2 (Z0y N)) (Jw cfg (Z2 (Z0y N))) Tryz.f20.ntmps ZpI
abbrev ZCf(N:Nat):=ZGa cfg (Z2 (Z0y N)) (Jw cfg (Z2 (Z0y N))) Tryz.f20.ntmps ZpI
theorem ZG1(N:Nat)(e:Edit)(Q:QT)(h:((e.kind==1)=true->(ZfY ((Tree.mk e.old.kind e.old.words e.old.kids),()))/\(ZfY ((Tree.mk e.new.kind e.new.words e.new.kids),()))/\(Q .ret (L2 [pL 2] [(.loc 2,([ci e.kind]++enc .tree (Z0 (Tree.mk e.old.kind e.old.words e.old.kids))++enc .tree (Z0 (Tree.mk e.new.kind e.new.words e.new.kids))++[.nils,.nils,ci e.list,.nils]))])))/\((e.kind==1)=false->((e.kind==2)=true->((([]:List WEdit).length+e.words.length)*32<=140737488355328)/\(Zk (AW (Z2 (Z0y N)) Tryz.f20 ZpI [1,1,0,1,0,1,1,1,0,1,1,0,0]) (Zbm e 0 []) (xB 1 (xB 0 (SW (Z2 (Z0y N)) Tryz.f20 ZpI [1,1,1] Q)))))/\((e.kind==2)=false->((e.kind==3)=true->(Z5n (e.list,e.ops,()))/\(Zpo (e.list,e.ops,())<N)/\(Q .ret (L2 [pL 2] [(.loc 2,[ci e.kind,ci 0,.nils,.nils,ci 0,.nils,.nils,.nils,.nils,ci e.list,sU .op ((Zc (ZP e.list e.ops (Wst.mk [] [] []))).out) .unk])])))/\((e.kind==3)=false->Q .ret (L2 [pL 2] [(.loc 2,[ci e.kind,ci 0,.nils,.nils,ci 0,.nils,.nils,.nils,.nils,ci e.list,.nils])]))))):ZFR N e Q:=by have e_:(ZFR N e Q)=(((e.kind==1)=true->(ZfY ((Tree.mk e.old.kind e.old.words e.old.kids),()))/\(ZfY ((Tree.mk e.new.kind e.new.words e.new.kids),()))/\(Q .ret (L2 [pL 2] [(.loc 2,([ci e.kind]++enc .tree (Z0 (Tree.mk e.old.kind e.old.words e.old.kids))++enc .tree (Z0 (Tree.mk e.new.kind e.new.words e.new.kids))++[.nils,.nils,ci e.list,.nils]))])))/\((e.kind==1)=false->(((e.kind==2)=true->((([]:List WEdit).length+e.words.length)*32<=140737488355328)/\(Zk (ZEa N (cd Tryz.f20 [1,1,0,1,0,1,1,1,0,1,1,0,0])) (Zbm e 0 []) (xB 1 (xB 0 (ZCf N (cd Tryz.f20 [1,1,1]) Q)))))/\((e.kind==2)=false->(((e.kind==3)=true->(Z5n (e.list,e.ops,()))/\(Zpo (e.list,e.ops,())<N)/\(Q .ret (L2 [pL 2] [(.loc 2,[ci e.kind,ci 0,.nils,.nils,ci 0,.nils,.nils,.nils,.nils,ci e.list,sU .op ((Zc (ZP e.list e.ops (Wst.mk [] [] []))).out) .unk])])))/\((e.kind==3)=false->(Q .ret (L2 [pL 2] [(.loc 2,[ci e.kind,ci 0,.nils,.nils,ci 0,.nils,.nils,.nils,.nils,ci e.list,.nils])])))))))):=V3;exact e_.mpr ⟨λd=>⟨(h.1 d).1,(h.1 d).2.1,(h.1 d).2.2⟩,λd=>⟨λaa=>⟨((h.2 d).1 aa).1,((h.2 d).1 aa).2⟩,λaa=>⟨λab=>⟨(((h.2 d).2 aa).1 ab).1,(((h.2 d).2 aa).1 ab).2.1,(((h.2 d).2 aa).1 ab).2.2⟩,λab=>(((h.2 d).2 aa).2 ab)⟩⟩⟩
abbrev Zoc(N:Nat)(e:Edit)(aa:Int)(d:List Kid)(N0:NT)(Q:QT):=AW (Z2 (Z0y N)) Tryz.f20 ZpI [1,1,0,1,0,1,1,1,0,1,1,0,0] (Zbm e aa d) (xT N0 (xB 1 (xB 0 (SW (Z2 (Z0y N)) Tryz.f20 ZpI [1,1,1] Q))))
theorem ZtM(N:Nat)(e:Edit)(aa:Int)(d:List Kid)(N0:NT)(Q:QT)(h:∀ab,ab=(e.kids.getD aa.toNat (KidOf.mk 0 Edit.nil))->∀ae,ae=(ab.e)->∀af,af=(ZM ae)->((decide (aa<(e.kids.length:Int)))=true->((0:Int)<=aa/\aa<(e.kids.length:Int))/\((Z13 (ae,()))/\(Zkt (ae,())<N)/\((d.length+([(KidOf.mk ab.at_ af)]).length)*208<=140737488355328)/\((InR (aa+1))/\(N0 (Zbm e (aa+1) (d++([(KidOf.mk ab.at_ af)])))))))/\((decide (aa<(e.kids.length:Int)))=false->Q .ret (L2 [pL 2] [(.loc 2,[ci e.kind,ci 0,.nils,.nils,ci 0,.nils,.nils,sU .wedit (([]:List WEdit)++e.words) (.own (.l 2 7)),sU .kid d (.own (.l 2 8)),ci e.list,.nils])]))):Zoc N e aa d N0 Q:=by have e_:(Zoc N e aa d N0 Q)=(let ab:=(e.kids.getD aa.toNat (KidOf.mk 0 Edit.nil));let ae:=(Z6y ab.e);let af:=(Z6y (ZM ae));(((decide ((aa:Int)<(e.kids.length:Int)))=true->((0:Int)<=aa/\aa<(e.kids.length:Int))/\((Z13 (ae,()))/\(Zkt (ae,())<N)/\((d.length+([(KidOf.mk ab.at_ af)]).length)*208<=140737488355328)/\((InR ((aa:Int)+1))/\(N0 (Zbm e ((aa:Int)+1) (d++([(KidOf.mk ab.at_ af)])))))))/\((decide ((aa:Int)<(e.kids.length:Int)))=false->(Q .ret (L2 [pL 2] [(.loc 2,[ci e.kind,ci 0,.nils,.nils,ci 0,.nils,.nils,sU .wedit (([]:List WEdit)++e.words) (.own (.l 2 7)),sU .kid d (.own (.l 2 8)),ci e.list,.nils])]))))):=V3;exact e_.mpr (by intro ab ae af;have hh:=h ab rfl ae (Zj _) af (Zj _);exact⟨λah=>⟨(hh.1 ah).1,⟨(hh.1 ah).2.1,(hh.1 ah).2.2.1,(hh.1 ah).2.2.2.1,⟨(hh.1 ah).2.2.2.2.1,(hh.1 ah).2.2.2.2.2⟩⟩⟩,λah=>(hh.2 ah)⟩)
abbrev ZAQ(N:Nat)(e:Edit):Prop:=AW (Z2 (Z0y N)) Tryz.f20 ZpI [] (Zg (ZAg.can (e,())) []) (EQ Tryz.f20 (Zdk (e,())) [])
abbrev ZAI:Prop:=∀(N:Nat)(e:Edit)(_:Unit),Z13 (e,())->Zkt (e,())<N+1->ZAQ N e
def Z11(N:Nat):List (FuncId×Fs U):=Z0y N
abbrev ZFQ(N:Nat)(list:Int)(l:List Op)(Q:QT):=AW (Z2 (Z11 N)) Tryz.f37 ZpC [] (L2 [pI 0 list,(1,.c (sU .op l .unk))] []) Q
abbrev ZE9(N:Nat):=awp cfg (Z2 (Z11 N)) (Jw cfg (Z2 (Z11 N))) Tryz.f37.ntmps ZpC
abbrev ZCe(N:Nat):=ZGa cfg (Z2 (Z11 N)) (Jw cfg (Z2 (Z11 N))) Tryz.f37.ntmps ZpC
theorem ZFZ(N:Nat)(list:Int)(l:List Op)(Q:QT)(h:Zk (AW (Z2 (Z11 N)) Tryz.f37 ZpC [1,1,0,1,0,0]) (Z0B list l 0 [] [] []) (xB 0 (SW (Z2 (Z11 N)) Tryz.f37 ZpC [1,1,1] Q))):ZFQ N list l Q:=by have d:(ZFQ N list l Q)=(Zk (ZE9 N (cd Tryz.f37 [1,1,0,1,0,0])) (Z0B list l 0 [] [] []) (xB 0 (ZCe N (cd Tryz.f37 [1,1,1]) Q))):=V3;exact d.mpr h
abbrev Zob(N:Nat)(list:Int)(l:List Op)(ae:Int)(d:List Op)(aa ab:List Tree)(N0:NT)(Q:QT):=AW (Z2 (Z11 N)) Tryz.f37 ZpC [1,1,0,1,0,0] (Z0B list l ae d aa ab) (xT N0 (xB 0 (SW (Z2 (Z11 N)) Tryz.f37 ZpC [1,1,1] Q)))
theorem ZtL(N:Nat)(list:Int)(l:List Op)(af:Int)(d:List Op)(ab aa:List Tree)(N0:NT)(Q:QT)(h:∀ae,ae=(l.getD af.toNat Op.nil)->∀au,au=(Edit.mk 0 (Tree.mk 0 [] []) (Tree.mk 0 [] []) [] [] 0 [])->∀av,av=(Int.toNat (((Zc (Wst.mk d ab aa)).out).length:Int))->∀ar,ar=(ae.e)->∀aq,aq=(ZM ar)->((decide (af<(l.length:Int)))=true->((0:Int)<=af/\af<(l.length:Int))/\(((ae.kind==0)=true->(Z4r ((d,ab,aa,()),ae.n,()))/\((InR (af+1))/\(N0 (Z0B list l (af+1) ((ZH (Wst.mk d ab aa) ae.n).out) ((ZH (Wst.mk d ab aa) ae.n).gone) ((ZH (Wst.mk d ab aa) ae.n).brought)))))/\((ae.kind==0)=false->((ae.kind==1)=true->(Zdn ((d,ab,aa,()),ae.l,()))/\((InR (af+1))/\(N0 (Z0B list l (af+1) ((Wst.mk d (ab++Z7 ae.l) aa).out) ((Wst.mk d (ab++Z7 ae.l) aa).gone) ((Wst.mk d (ab++Z7 ae.l) aa).brought)))))/\((ae.kind==1)=false->((ae.kind==2)=true->(Zdn ((d,ab,aa,()),ae.l,()))/\((InR (af+1))/\(N0 (Z0B list l (af+1) ((Wst.mk d ab (aa++Z7 ae.l)).out) ((Wst.mk d ab (aa++Z7 ae.l)).gone) ((Wst.mk d ab (aa++Z7 ae.l)).brought)))))/\((ae.kind==2)=false->((ae.kind==3)=true->(Z13 (ar,()))/\(Zkt (ar,())<N)/\((Z3N (list,aq,()))/\(((Z4M list aq)=true->(Z4r ((d,ab,aa,()),1,()))/\((InR (af+1))/\(N0 (Z0B list l (af+1) ((ZH (Wst.mk d ab aa) 1).out) ((ZH (Wst.mk d ab aa) 1).gone) ((ZH (Wst.mk d ab aa) 1).brought)))))/\((Z4M list aq)=false->(Z3L ((d,ab,aa,()),()))/\(((((Zc (Wst.mk d ab aa)).out).length+([(OpOf.mk 0 0 [] au)]).length)*240<=140737488355328)/\((0:Int)<=(((Zc (Wst.mk d ab aa)).out).length:Int)/\(((Zc (Wst.mk d ab aa)).out).length:Int)<((((Zc (Wst.mk d ab aa)).out)++([(OpOf.mk 0 0 [] au)])).length:Int))/\((0:Nat)<=av)/\((InR (af+1))/\(N0 (Z0B list l (af+1) (List.set (((Zc (Wst.mk d ab aa)).out)++([(OpOf.mk 0 0 [] au)])) av (OpOf.mk 3 0 [] aq)) ((Zc (Wst.mk d ab aa)).gone) ((Zc (Wst.mk d ab aa)).brought)))))))))/\((ae.kind==3)=false->(InR (af+1))/\(N0 (Z0B list l (af+1) d ab aa))))))))/\((decide (af<(l.length:Int)))=false->(Z3L ((d,ab,aa,()),()))/\(Q .ret (L2 [(4,.c (sU .op ((Zc (Wst.mk d ab aa)).out) (.own (.e 4 0))))] [])))):Zob N list l af d ab aa N0 Q:=by have e_:(Zob N list l af d ab aa N0 Q)=(let ae:=(l.getD af.toNat Op.nil);let au:=(Edit.mk 0 (Tree.mk 0 [] []) (Tree.mk 0 [] []) [] [] 0 []);let av:=(Int.toNat (((Zc (Wst.mk d ab aa)).out).length:Int));let ar:=(Z6y ae.e);let aq:=(Z6y (ZM ar));(((decide ((af:Int)<(l.length:Int)))=true->((0:Int)<=af/\af<(l.length:Int))/\(((ae.kind==0)=true->(Z4r ((d,ab,aa,()),ae.n,()))/\((InR ((af:Int)+1))/\(N0 (Z0B list l ((af:Int)+1) ((ZH (Wst.mk d ab aa) ae.n).out) ((ZH (Wst.mk d ab aa) ae.n).gone) ((ZH (Wst.mk d ab aa) ae.n).brought)))))/\((ae.kind==0)=false->(((ae.kind==1)=true->(Zdn ((d,ab,aa,()),ae.l,()))/\((InR ((af:Int)+1))/\(N0 (Z0B list l ((af:Int)+1) ((Wst.mk d (ab++Z7 ae.l) aa).out) ((Wst.mk d (ab++Z7 ae.l) aa).gone) ((Wst.mk d (ab++Z7 ae.l) aa).brought)))))/\((ae.kind==1)=false->(((ae.kind==2)=true->(Zdn ((d,ab,aa,()),ae.l,()))/\((InR ((af:Int)+1))/\(N0 (Z0B list l ((af:Int)+1) ((Wst.mk d ab (aa++Z7 ae.l)).out) ((Wst.mk d ab (aa++Z7 ae.l)).gone) ((Wst.mk d ab (aa++Z7 ae.l)).brought)))))/\((ae.kind==2)=false->(((ae.kind==3)=true->(Z13 (ar,()))/\(Zkt (ar,())<N)/\((Z3N (list,aq,()))/\(((Z4M list aq)=true->(Z4r ((d,ab,aa,()),1,()))/\((InR ((af:Int)+1))/\(N0 (Z0B list l ((af:Int)+1) ((ZH (Wst.mk d ab aa) 1).out) ((ZH (Wst.mk d ab aa) 1).gone) ((ZH (Wst.mk d ab aa) 1).brought)))))/\((Z4M list aq)=false->(Z3L ((d,ab,aa,()),()))/\(((((Zc (Wst.mk d ab aa)).out).length+([(OpOf.mk 0 0 [] au)]).length)*240<=140737488355328)/\((0:Int)<=(((Zc (Wst.mk d ab aa)).out).length:Int)/\(((Zc (Wst.mk d ab aa)).out).length:Int)<((((Zc (Wst.mk d ab aa)).out)++([(OpOf.mk 0 0 [] au)])).length:Int))/\((0:Nat)<=av)/\((InR ((af:Int)+1))/\(N0 (Z0B list l ((af:Int)+1) (List.set (((Zc (Wst.mk d ab aa)).out)++([(OpOf.mk 0 0 [] au)])) av (OpOf.mk 3 0 [] aq)) ((Zc (Wst.mk d ab aa)).gone) ((Zc (Wst.mk d ab aa)).brought)))))))))/\((ae.kind==3)=false->(InR ((af:Int)+1))/\(N0 (Z0B list l ((af:Int)+1) d ab aa)))))))))))/\((decide ((af:Int)<(l.length:Int)))=false->(Z3L ((d,ab,aa,()),()))/\(Q .ret (L2 [(4,.c (sU .op ((Zc (Wst.mk d ab aa)).out) (.own (.e 4 0))))] []))))):=V3;exact e_.mpr (by intro ae au av ar aq;have hh:=h ae rfl au rfl av rfl ar (Zj _) aq (Zj _);exact⟨λah=>⟨(hh.1 ah).1,⟨λai=>⟨((hh.1 ah).2.1 ai).1,⟨((hh.1 ah).2.1 ai).2.1,((hh.1 ah).2.1 ai).2.2⟩⟩,λai=>⟨λaj=>⟨(((hh.1 ah).2.2 ai).1 aj).1,⟨(((hh.1 ah).2.2 ai).1 aj).2.1,(((hh.1 ah).2.2 ai).1 aj).2.2⟩⟩,λaj=>⟨λak=>⟨((((hh.1 ah).2.2 ai).2 aj).1 ak).1,⟨((((hh.1 ah).2.2 ai).2 aj).1 ak).2.1,((((hh.1 ah).2.2 ai).2 aj).1 ak).2.2⟩⟩,λak=>⟨λam=>⟨(((((hh.1 ah).2.2 ai).2 aj).2 ak).1 am).1,(((((hh.1 ah).2.2 ai).2 aj).2 ak).1 am).2.1,⟨(((((hh.1 ah).2.2 ai).2 aj).2 ak).1 am).2.2.1,⟨λal=>⟨((((((hh.1 ah).2.2 ai).2 aj).2 ak).1 am).2.2.2.1 al).1,⟨((((((hh.1 ah).2.2 ai).2 aj).2 ak).1 am).2.2.2.1 al).2.1,((((((hh.1 ah).2.2 ai).2 aj).2 ak).1 am).2.2.2.1 al).2.2⟩⟩,λal=>⟨((((((hh.1 ah).2.2 ai).2 aj).2 ak).1 am).2.2.2.2 al).1,⟨((((((hh.1 ah).2.2 ai).2 aj).2 ak).1 am).2.2.2.2 al).2.1,((((((hh.1 ah).2.2 ai).2 aj).2 ak).1 am).2.2.2.2 al).2.2.1,((((((hh.1 ah).2.2 ai).2 aj).2 ak).1 am).2.2.2.2 al).2.2.2.1,⟨((((((hh.1 ah).2.2 ai).2 aj).2 ak).1 am).2.2.2.2 al).2.2.2.2.1,((((((hh.1 ah).2.2 ai).2 aj).2 ak).1 am).2.2.2.2 al).2.2.2.2.2⟩⟩⟩⟩⟩⟩,λam=>⟨(((((hh.1 ah).2.2 ai).2 aj).2 ak).2 am).1,(((((hh.1 ah).2.2 ai).2 aj).2 ak).2 am).2⟩⟩⟩⟩⟩⟩,λah=>⟨(hh.2 ah).1,(hh.2 ah).2⟩⟩)
abbrev ZAO(N:Nat)(list:Int)(l:List Op):Prop:=AW (Z2 (Z11 N)) Tryz.f37 ZpC [] (Zg (Zlh.can (list,l,())) []) (EQ Tryz.f37 (Zmj (list,l,())) [])
abbrev ZAH:Prop:=∀(N:Nat)(list:Int)(l:List Op)(_:Unit),Z5n (list,l,())->Zpo (list,l,())<N+1->ZAO N list l
theorem Zho(c22:CT 22 Zfs)(Zje:CT 60 Z1y)(c58:CT 58 Z5d)(c61:CT 61 Z2D)(Zjc:CT 59 Z2l)(ha:ZAI)(hb:ZAH):CT 20 Z6h/\CT 37 ZlR:=Z2j (μA:=Zkt) (μB:=Zpo) (l:=[(22,Zfs),(60,Z1y),(58,Z5d),(61,Z2D),(59,Z2l)]) Zf rfl (⟨c22,Zje,c58,c61,Zjc,trivial⟩) ZpI ZpC Tryz.func20 Tryz.func37 rfl rfl rfl rfl 1 2 (λ_=>rfl) (λ_=>rfl) V0 V0 (λN⟨e,_⟩=>ha N e ()) (λN⟨list,l,_⟩=>hb N list l ())
end
end
theorem Zqz{list:Int}{o:Op}{d:Int}(h:Z9 list (Z0l o) d=true)(hk:o.kind=0):1<=o.n/\o.n<=1048576:=by rw[Z78,JH]at h;exact Za2 (o:=⟨o.kind,o.n,o.l,Z1J o.e⟩) h hk
theorem ZqA{list:Int}{o:Op}{d:Int}(h:Z9 list (Z0l o) d=true)(hk:o.kind=3):∃d,Z8 (Z1J o.e) d=true:=by
 rw[Z78]at h;by_cases h0:o.e.kind=0
 .rw[if_pos ⟨hk,h0⟩,Z9,if_pos rfl,Q2]at h;rw[Zfy h.2];exact⟨1,rfl⟩
 .rw[if_neg (λx=>h0 x.2)]at h;exact⟨d,Za3 (o:=⟨o.kind,o.n,o.l,Z1J o.e⟩) h hk⟩
theorem ZkT{e:Edit}{d:Int}(h:Z8 (Z1J e) d=true)(hk:e.kind=2):∀k∈e.kids,∃d,Z8 (Z1J k.e) d=true:=by intro k hm;have h1:=ZiJ h (by rw[Z80];exact hk) (Z4i k) (by rw[Z3X];show Z4i k∈Z3W e.kids;rw[Z2d];exact List.mem_map_of_mem hm);rw[ZiT]at h1;exact h1
theorem ZkS{e:Edit}{d:Int}(h:Z8 (Z1J e) d=true)(hk:e.kind=3):∀o∈e.ops,∃d,Z9 e.list (Z0l o) d=true:=by intro o hm;have h1:=ZmR h (by rw[Z80];exact hk) (Z0l o) (by rw[Z3X];show Z0l o∈Z3V e.ops;rw[Z32];exact List.mem_map_of_mem hm);rw[Z3X]at h1;exact h1
theorem ZLY:ZAH:=by
 intro N list l _ hp hN;simp only[Z5n,Zpo]at hp hN;obtain⟨p1,p3⟩:=hp;have hl:=YG l;refine ZFZ _ _ _ _ ?_;refine Z6 (ι:=Int×Wst) (λs=>Z0B list l s.1 s.2.out s.2.gone s.2.brought) (λs=>0<=s.1/\s.1<=l.length/\ZP list (l.drop s.1.toNat) s.2=ZP list l ⟨[],[],[]⟩/\s.2.out.length<=3*s.1/\s.2.gone.length+s.2.brought.length+Zh (l.drop s.1.toNat)<=Zh l/\∀o∈s.2.out,0<=o.n/\o.n<=s.1*1048576) (λs=>((l.length:Int)-s.1).toNat) (0,⟨[],[],[]⟩) rfl ⟨by simp,by simp,by simp,by simp,by simp,by simp⟩ ?_;rintro⟨i,s⟩⟨g1,g2,g3,g4,g5,g6⟩;dsimp only at g1 g2 g3 g4 g5 g6;refine ZtL _ _ _ _ _ _ _ _ _ ?_;rintro y1 ax y2 av y3 al y4 ak y5 ao;have hy:y2=Edit.nil:=av;subst hy;have es:Wst.mk s.out s.gone s.brought=s:=rfl;simp only[es]at al⊢;(simp only[iB,vcS]);refine⟨λhi=>?_,λhi=>?_⟩
 .have ai:=Ze (l:=l) (i:=i.toNat) Yp Op.nil;have hm:=Jv ai;have hr:=p3 _ ai;rw[Yu g1 hi Op.nil]at g3 g5;rw[<-ax]at g3 g5 hm hr;have aw:=YE y1;simp only[ZP,Z2s,Zh]at g3 g5;rw[<-ak,<-ao]at g3;obtain⟨d,am⟩:=hr;have bf:=Z7Z s;have hP:∀n:Int,0<=n/\n<=1048576->Z4r ((s.out,s.gone,s.brought,()),n,()):=by
   intro n hn;simp only[Z4r];refine⟨Yp,Yp,Yp,λo ho=>?_,Yp,Yp⟩;have:=g6 o ho;constructor;.omega
   .have:i*1048576<=20000000000*1048576:=Yp;omega
  have hK:∀n:Int,0<=n/\n<=1048576->ZP list (l.drop (i+1).toNat) (ZH s n)=ZP list l ⟨[],[],[]⟩->(∃j:Int×Wst,Z0B list l (i+1) (ZH s n).out (ZH s n).gone (ZH s n).brought=Z0B list l j.1 j.2.out j.2.gone j.2.brought/\(0<=j.1/\j.1<=l.length/\ZP list (l.drop j.1.toNat) j.2=ZP list l ⟨[],[],[]⟩/\j.2.out.length<=3*j.1/\j.2.gone.length+j.2.brought.length+Zh (l.drop j.1.toNat)<=Zh l/\∀o∈j.2.out,0<=o.n/\o.n<=j.1*1048576)/\((l.length:Int)-j.1).toNat<((l.length:Int)-i).toNat):=by intro n hn he;have h1:=ZiL s n;have h2:=ZsX (s:=s) (n:=n) (B:=i*1048576) (K:=1048576) Yp hn g6;refine⟨(i+1,ZH s n),rfl,⟨Yp,Yp,he,by grind,by simp only[ZH,Qm];omega,λo ho=>?_⟩,Yp⟩;have:=h2 o ho;dsimp only;omega
  refine⟨⟨g1,hi⟩,λhk=>?_,λhk=>⟨λae=>?_,λae=>⟨λaf=>?_,λaf=>⟨λah=>?_,λah=>?_⟩⟩⟩⟩;.rw[if_pos hk]at g3;have h1:=Zqz am hk;exact⟨hP _ Yp,V2,hK _ Yp g3⟩
  .rw[if_neg hk,if_pos ae]at g3;refine⟨by simp only[Zdn];omega,V2,(i+1,⟨s.out,s.gone++Z7 y1.l,s.brought⟩),rfl,⟨Yp,Yp,g3,by grind,?_,λo ho=>?_⟩,Yp⟩;.have:=ZT y1.l;simp only[Q8,Z7,X6];omega
   grind
  .rw[if_neg hk,if_neg ae,if_pos af]at g3;refine⟨by simp only[Zdn];omega,V2,(i+1,⟨s.out,s.gone,s.brought++Z7 y1.l⟩),rfl,⟨Yp,Yp,g3,by grind,?_,λo ho=>?_⟩,Yp⟩;.have:=ZT y1.l;simp only[Q8,Z7,X6];omega
   .have:=g6 o ho;dsimp only;omega
  .rw[if_neg hk,if_neg ae,if_neg af,if_pos ah]at g3;have az:=ZqA am ah;rw[<-ak]at az;have hw:=Zga y4;rw[<-ao]at hw;have h1:=JL y4;have h2:=J8 y4.kids;have be:Zi y4<=Zu y1:=by rw[aw,ak];omega
   refine⟨by simp only[Z13];grind,by simp only[Zkt];omega,by simp only[Z3N];omega,λhq=>?_,λhq=>?_⟩;.rw[if_pos hq]at g3;exact⟨hP 1 Yp,V2,hK 1 Yp g3⟩
   .rw[if_neg (by rw[hq];simp)]at g3;rw[al,Z1A];refine⟨by simp only[Z3L];omega,by grind,by grind,Yp,V2,(i+1,⟨(Zc s).out++[⟨3,0,[],y5⟩],[],[]⟩),rfl,⟨Yp,Yp,g3,by simp;omega,by simp;omega,λo ho=>?_⟩,Yp⟩;dsimp only at ho⊢;rcases Qf.1 ho with ho|ho
    .rcases Z7Y s o ho with h5|h5;.grind
     .omega
    grind
  .rw[if_neg hk,if_neg ae,if_neg af,if_neg ah]at g3;refine⟨V2,(i+1,s),rfl,⟨Yp,Yp,g3,by grind,by grind,λo ho=>?_⟩,Yp⟩;grind
 .rw[Qb Yp]at g3;simp only[ZP]at g3;refine⟨by simp only[Z3L];omega,?_⟩;simp only[Zmj];rw[<-g3];exact YH
theorem ZLZ:ZAI:=by
 intro N e _ hp hN;simp only[Z13,Zkt]at hp hN;obtain⟨p1,d,p3⟩:=hp;have h1:=JL e;have h2:=J8 e.kids;have h3:=YG e.ops;have ha:=Z5r e;refine ZG1 _ _ _ ?_;(simp only[iB,vcS]);(simp only[vE]);refine⟨λhk=>⟨by simp only[ZfY];omega,by simp only[ZfY];omega,?_⟩,λhk=>⟨λaa=>⟨by simp;omega,?_⟩,λaa=>⟨λae=>⟨?_,by simp only[Zpo];omega,?_⟩,λae=>?_⟩⟩⟩;.rw[if_pos hk]at ha;simp only[Zdk,ha];exact YH
 .rw[if_neg hk,if_pos aa]at ha;refine Z6 (ι:=Int×List Kid) (λs=>Zbm e s.1 s.2) (λs=>0<=s.1/\s.1<=e.kids.length/\s.2.length=s.1/\s.2++Jx (e.kids.drop s.1.toNat)=Jx e.kids) (λs=>((e.kids.length:Int)-s.1).toNat) (0,[]) rfl ⟨by simp,by simp,by simp,by simp⟩ ?_;rintro⟨j,ks⟩⟨f1,f2,f3,f4⟩;dsimp only at f1 f2 f3 f4;refine ZtM _ _ _ _ _ _ ?_;rintro y1 ak y2 aj y3 al;(simp only[iB,vcS]);refine⟨λhj=>?_,λhj=>?_⟩;.have af:=Ze (l:=e.kids) (i:=j.toNat) Yp (KidOf.mk 0 Edit.nil);have hm:=Z27 af;have hr:=ZkT p3 aa _ af;rw[Yu f1 hj (KidOf.mk 0 Edit.nil)]at f4;rw[<-ak]at f4 hm hr;simp only[Jx,Zcs]at f4;rw[<-aj]at f4 hm hr;rw[<-al]at f4;refine⟨⟨f1,hj⟩,by simp only[Z13];grind,by simp only[Zkt];omega,by simp;omega,V2,(j+1,ks++[⟨y1.at_,y3⟩]),rfl,⟨Yp,Yp,by simp;omega,?_⟩,Yp⟩;grind
  .rw[Qb Yp]at f4;simp only[Jx,Qi]at f4;rw[f4];simp only[Zdk,ha];exact YH
 .simp only[Z5n];exact⟨Yp,λo ho=>ZkS p3 ae o ho⟩
 .rw[if_neg hk,if_neg aa,if_pos ae]at ha;simp only[Zdk,ha];exact YH
 .rw[if_neg hk,if_neg aa,if_neg ae]at ha;simp only[Zdk,ha];exact YH
theorem ZzA:Contract Tryz.prog cfg 20 Z6h/\Contract Tryz.prog cfg 37 ZlR:=Zho c22 Zje c58 c61 Zjc ZLZ ZLY
noncomputable section
def ZoY(a:Tree×Tree×Int×Unit):Prop:=TreeOk a.1/\TreeOk a.2.1/\mass a.1+mass a.2.1<=100000
def ZGc(a:Tree×Tree×Int×Unit):V U:=.agg (enc .edit (Jb a.2.2.1 a.1 a.2.1))
def Z6e:Fs U:=fs Zlk (λa=>[ZoY a]) ZGc
def ZFv:List (FuncId×Fs U):=[(20,Z6h),(21,Zc7),(22,Zfs)]
def lv9:Za U:=lvl [([2,3,4,6],[3,4,6]),([6],[6])]
abbrev A9(p:List Nat):=AW (Z2 ZFv) Tryz.f9 lv9 p
theorem vc9(a b:Tree)(most:Int)(Q:QT)(h:∀d,d=a->∀af,af=b->∀ae,ae=(Z0 d)->∀ab,ab=(Z0 af)->∀aa,aa=(Z1s most ae ab)->((ZfY (d,()))/\(ZfY (af,()))/\(Zdo (ae,ab,most,()))/\(Z13 (aa,()))/\(Q .ret (L2 [pL 6] [(.loc 6,(enc .edit (ZM aa)))])))):A9 [] (L2 [(0,.agg (enc .tree a)),(1,.agg (enc .tree b)),pI 2 most] []) Q:=(Eq.mpr V3 (h _ (Z3 _) _ (Z3 _) _ (Z3 _) _ (Z3 _) _ (Zj _)):)
abbrev ZMx(a b:Tree)(most:Int):Prop:=AW (Z2 ZFv) Tryz.f9 lv9 [] (Zg (Zlk.can (a,b,most,())) []) (EQ Tryz.f9 (ZGc (a,b,most,())) [])
theorem ZLC(c2020:CT 20 Z6h)(c21:CT 21 Zc7)(c22:CT 22 Zfs)(hb:∀(a:Tree)(b:Tree)(d:Int)(_:Unit),ZoY (a,b,d,())->ZMx a b d):CT 9 Z6e:=Z1 (l:=[(20,Z6h),(21,Zc7),(22,Zfs)]) Zf rfl (⟨c2020,c21,c22,trivial⟩) lv9 Tryz.func9 rfl rfl 3 (λ_=>rfl) V0 (λ⟨a,b,d,_⟩=>hb a b d ())
end
theorem c9:Contract Tryz.prog cfg 9 Z6e:=by refine ZLC ZzA.1 c21 c22 ?_;intro a b d _ hp;simp only[ZoY]at hp;obtain⟨ha,hb,hm⟩:=hp;have h:=ZCw d ha.norm hb.norm;have m1:=ZI a;have m2:=ZI b;refine vc9 _ _ _ _ ?_;rintro y1 rfl y2 rfl y3 rfl y4 rfl y5 rfl;refine⟨by simp only[ZfY];omega,by simp only[ZfY];omega,by simp only[Zdo];exact⟨Yp,ha.norm.g,hb.norm.g⟩,by simp only[Z13];exact⟨Yp,_,h.2⟩,?_⟩;simp only[ZGc,Jb];exact YH
noncomputable section
def Zo2:ArgL (Tree×Edit×Edit×Unit):=(.cons (aEl .tree) (.cons (aEl .edit) (.cons (aEl .edit) .nil)))
def Zer(a:Tree×Edit×Edit×Unit):Prop:=OkB a.1 a.2.1 a.2.2.1/\Y8 a.1 a.2.1 a.2.2.1<=10000000000
def Zk4(a:Tree×Edit×Edit×Unit):V U:=.tup [(true,(enc .tree (Z0 (ZY [] a.1 a.2.1 a.2.2.1 []).1))),(false,[sU .conflict ((ZY [] a.1 a.2.1 a.2.2.1 []).2) .unk]),(false,[.bool true])]
def Z6g:Fs U:=fs Zo2 (λa=>[Zer a]) Zk4
def Zo3:ArgL (Tree×Tree×Tree×Int×Unit):=(.cons (aEl .tree) (.cons (aEl .tree) (.cons (aEl .tree) (.cons (ZR .i64) .nil))))
def Z5o(a:Tree×Tree×Tree×Int×Unit):Prop:=(TreeOk a.1/\TreeOk a.2.1/\TreeOk a.2.2.1)/\mass a.1<=1000/\mass a.2.1<=1000/\mass a.2.2.1<=1000
def Zk5(a:Tree×Tree×Tree×Int×Unit):V U:=.tup [(true,(enc .tree (Z0 (Jh a.2.2.2.1 a.1 a.2.1 a.2.2.1).1))),(false,[sU .conflict ((Jh a.2.2.2.1 a.1 a.2.1 a.2.2.1).2) .unk])]
def Z2m:Fs U:=fs Zo3 (λa=>[Z5o a]) Zk5
def Znk:List (FuncId×Fs U):=[(10,Jt),(45,Z6f),(22,Zfs)]
def ZpF:Za U:=lvl [([3,4,5,6],[3,4,5,6]),([3,4,5,6,10],[3,4,5,6]),([3,4,5,6,10,12],[3,4,5,6]),([3,4,5,6,32],[3,4,5,6]),([6,7,8],[6]),([3,4,5,6,13],[3,4,5,6,35]),([6,13,14],[6,14,35]),([6,7,8],[6])]
abbrev ZME(p:List Nat):=AW (Z2 Znk) Tryz.f26 ZpF p
theorem ZG0(o:Tree)(p q:Edit)(Q:QT)(h:∀ab,ab=p->∀aa,aa=q->∀d,d=o->∀ae,ae=((ZY ([]:List PStep) d ab aa ([]:List Conflict)).1)->let z0:=!((doE false ab d).isSome);((Z4s (ab,d,()))/\((Z4s (aa,d,()))/\((Tt (!z0))/\(z0=false->(!z0)=true)/\(iB (bif z0 then true else(!((doE false aa d).isSome))) ((Q .ret (L2 [pL 6,(7,.c (.nils)),pB 8 false] [(.loc 6,[ci 0,.nils,.nils])]))) (((Z3M ((([]:List Conflict),()),([]:List PStep),d,ab,aa,()))/\((ZfY (ae,()))/\(Q .ret (L2 [pL 6,(7,.c (sU .conflict ((ZY ([]:List PStep) d ab aa ([]:List Conflict)).2) (.own (.e 7 0)))),pB 8 true] [(.loc 6,(enc .tree (Z0 ae)))])))))))))):ZME [] (L2 [(0,.agg (enc .tree o)),(1,.agg (enc .edit p)),(2,.agg (enc .edit q))] []) Q:=(Eq.mpr V3 (h _ (Zj _) _ (Zj _) _ (Z3 _) _ (Z3 _)):)
abbrev ZAP(o:Tree)(p q:Edit):Prop:=AW (Z2 Znk) Tryz.f26 ZpF [] (Zg (Zo2.can (o,p,q,())) []) (EQ Tryz.f26 (Zk4 (o,p,q,())) [])
theorem ZxQ(c10:CT 10 Jt)(Zzy:CT 45 Z6f)(c22:CT 22 Zfs)(hb:∀(o:Tree)(p:Edit)(q:Edit)(_:Unit),Zer (o,p,q,())->ZAP o p q):CT 26 Z6g:=Z1 (l:=[(10,Jt),(45,Z6f),(22,Zfs)]) Zf rfl (⟨c10,Zzy,c22,trivial⟩) ZpF Tryz.func26 rfl rfl 3 (λ_=>rfl) V0 (λ⟨o,p,q,_⟩=>hb o p q ())
def Znl:List (FuncId×Fs U):=[(22,Zfs),(9,Z6e),(26,Z6g)]
def ZpG:Za U:=lvl [([3,4,5,6,8],[4,5,6,8]),([8,10,11],[8,10]),([8,9],[8])]
abbrev ZMF(p:List Nat):=AW (Z2 Znl) Tryz.f13 ZpG p
theorem ZG2(o x y:Tree)(most:Int)(Q:QT)(h:∀d,d=o->∀ah,ah=x->∀af,af=y->∀ab,ab=(Z0 d)->∀aa,aa=(Jb most d ah)->∀ae,ae=(Jb most d af)->((ZfY (d,()))/\(ZoY (d,ah,most,()))/\(ZoY (d,af,most,()))/\(Zer (ab,aa,ae,()))/\(Q .ret (L2 [pL 8,(9,.c (sU .conflict ((ZY [] ab aa ae []).2) .unk))] [(.loc 8,(enc .tree (Z0 (ZY [] ab aa ae []).1)))])))):ZMF [] (L2 [(0,.agg (enc .tree o)),(1,.agg (enc .tree x)),(2,.agg (enc .tree y)),pI 3 most] []) Q:=(Eq.mpr V3 (h _ (Z3 _) _ (Z3 _) _ (Z3 _) _ (Z3 _) _ (Zj _) _ (Zj _)):)
abbrev ZAR(o x y:Tree)(most:Int):Prop:=AW (Z2 Znl) Tryz.f13 ZpG [] (Zg (Zo3.can (o,x,y,most,())) []) (EQ Tryz.f13 (Zk5 (o,x,y,most,())) [])
theorem ZxR(c22:CT 22 Zfs)(c9:CT 9 Z6e)(Zzz:CT 26 Z6g)(hb:∀(o:Tree)(x:Tree)(y:Tree)(d:Int)(_:Unit),Z5o (o,x,y,d,())->ZAR o x y d):CT 13 Z2m:=Z1 (l:=[(22,Zfs),(9,Z6e),(26,Z6g)]) Zf rfl (⟨c22,c9,Zzz,trivial⟩) ZpG Tryz.func13 rfl rfl 4 (λ_=>rfl) V0 (λ⟨o,x,y,d,_⟩=>hb o x y d ())
end
theorem Zzy:Contract Tryz.prog cfg 45 Z6f:=(Zuy c73 c92 (c93 c80) c94 c90 c91 c64 c38 c76 ZzL ZzK ZzJ ZzI).1
theorem Zzz:Contract Tryz.prog cfg 26 Z6g:=by
 refine ZxQ c10 Zzy c22 ?_;intro o p q _ hp;simp only[Zer]at hp;obtain⟨ok,d⟩:=hp;have L:=Z3Z (muM p+muM q+1) _ _ _ ok d Yp [] [];simp only[Qm]at L;refine ZG0 _ _ _ _ ?_;rintro y1 rfl y2 rfl y3 rfl y4 rfl;(simp only[iB,vcT,vcS]);refine⟨ok.p d,ok.q d,λh=>?_,λh=>⟨⟨ok,by simp only[Qm];omega,by simp only[Qm];omega⟩,by simp only[ZfY];omega,?_⟩⟩;.rw[ok.dp,ok.dq]at h;rcases h with h|h<;>cases h
 .simp only[Zk4];exact YH
theorem Zjd:Contract Tryz.prog cfg 13 Z2m:=by refine ZxR c22 c9 Zzz ?_;intro o x y d _ hp;simp only[Z5o]at hp;obtain⟨⟨t1,t2,t3⟩,m1,m2,m3⟩:=hp;have n1:=ZI o;have h1:=Zar d t1 t2 t3;have h2:=Zam d t1 t2 t3 m1 m2 m3;refine ZG2 _ _ _ _ _ ?_;rintro y1 rfl y2 rfl y3 rfl y4 rfl y5 rfl y6 rfl;refine⟨by simp only[ZfY];omega,⟨t1,t2,by show mass y1+mass y2<=_;omega⟩,⟨t1,t3,by show mass y1+mass y3<=_;omega⟩,⟨h1,V1⟩,?_⟩;simp only[Zk5,Jh];exact YH
end Go.AM.YtnfbomhidainjaaGreat
