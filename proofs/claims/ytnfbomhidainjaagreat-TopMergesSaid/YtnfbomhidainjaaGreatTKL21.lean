import Derived.Test.YtnfbomhidainjaaGreatTKG20a
set_option linter.unusedSimpArgs false
set_option linter.unusedVariables false
namespace Go.AM.YtnfbomhidainjaaGreat
open Go.AM Go.Proofs
noncomputable section
def Zlm:ArgL (Edit×Int×Unit):=(.cons (aEl .edit) (.cons (ZR .i64) .nil))
def Zdq(a:Edit×Int×Unit):Prop:=(Zi a.1<=20000000000/\YF a.1)/\0<=a.2.1/\a.2.1<=1000
def Zkv(a:Edit×Int×Unit):Nat:=2*Zi a.1
def ZrO(a:Edit×Int×Unit):V U:=.c (.bool (Z8 a.1 a.2.1))
def Zfr:Fs U:=fs Zlm (λa=>[Zdq a]) ZrO
def Zlj:ArgL (Int×Op×Int×Unit):=(.cons (ZR .i64) (.cons (aEl .op) (.cons (ZR .i64) .nil)))
def Ziu(a:Int×Op×Int×Unit):Prop:=(Zu a.2.1<=20000000000/\Yt a.2.1/\InR a.1)/\0<=a.2.2.1/\a.2.2.1<=1000
def Zum(a:Int×Op×Int×Unit):Nat:=2*Zu a.2.1+1
def ZrM(a:Int×Op×Int×Unit):V U:=.c (.bool (Z9 a.1 a.2.1 a.2.2.1))
def Zw4:Fs U:=fs Zlj (λa=>[Ziu a]) ZrM
def Zqm(N:Nat):List (FuncId×Fs U):=(14,fs Zlm (λa=>[Zdq a,Zkv a<N]) ZrO)::(29,fs Zlj (λa=>[Ziu a,Zum a<N]) ZrM)::[(27,Z5h),(28,Zc5),(47,Zc3),(15,Z2F),(30,Zc4)]
def ZDH:Za U:=lvl [([1,2],[2]),([1,2,24],[2]),([4],[]),([1,2,69],[2]),([4],[]),([1,2,72],[2]),([4],[]),([1,2,5],[2]),([1,2,5,6],[2]),([1,2,5,6,97],[2]),([1,2,5,6],[2]),([1,2,5,6,7],[2,7]),([1,2,6,7,134],[2,7]),([4],[]),([1,2,5,6],[2]),([1,2,5],[2]),([1,2,5,8],[2]),([1,2,5,8,141],[2]),([1,2,5,8],[2]),([1,2,5,8,9],[2,9]),([1,2,8,9,171],[2,9]),([4],[]),([1,2,5,8],[2]),([1,2,186],[2]),([4],[]),([1,2,10],[2]),([1,2,10,191],[2]),([1,2,10],[2]),([1,2,10,204],[2]),([4],[]),([11,12],[]),([4],[])]
def Zbq(e:Edit)(d x5 x6:Int):LSt U:=(L2 [pI 1 d,pL 2,pI 5 x5,pI 6 x6] [(.loc 2,(enc .edit e))])
def Zbp(e:Edit)(d aa ab:Int):LSt U:=(L2 [pI 1 d,pL 2,pI 5 aa,pI 8 ab] [(.loc 2,(enc .edit e))])
def Zbo(e:Edit)(d aa:Int):LSt U:=(L2 [pI 1 d,pL 2,pI 10 aa] [(.loc 2,(enc .edit e))])
abbrev A14(N:Nat)(p:List Nat):=AW (Z2 (Zqm N)) Tryz.f14 ZDH p
abbrev S14(N:Nat)(p:List Nat):=SW (Z2 (Zqm N)) Tryz.f14 ZDH p
theorem ZO1(N:Nat)(e:Edit)(d:Int)(Q:QT)(h:∀ab,ab=(e.new)->∀aa,aa=(e.old)->let z9:=(Q .ret (L2 [pB 4 false] []));let z7:=(e.kind !=1)&&(Z0i aa);let z4:=bif(d==0)then true else(decide (e.kind<0));let z2:=bif(Zb aa 64)then(Zb ab 64)else false;let z6:=bif z2 then(e.old.kind !=10)else false;let z1:=bif(e.kind !=1)then(!(bif(Z0i aa)then(Z0i ab)else false))else false;let z5:=(!z1)&&(e.kind !=2);let z0:=bif z1 then true else(bif(e.kind !=2)then(decide ((0:Int)<(((e.words.length:Int):Int)+(e.kids.length:Int))))else false);let z3:=(!z0)&&(e.kind !=3);let z8:=z3&&(!(e.list !=0));((Tt (!(d==0)))/\(Tt (!(d==0)))/\((d==0)=false->(!(d==0))=true)/\(Tt (!z4))/\(Tt (!z4))/\(z4=false->(!z4)=true)/\(iB (bif z4 then true else(decide ((3:Int)<e.kind))) z9 ((Tt (e.kind !=1))/\(Tt (e.kind !=1))/\((e.kind !=1)=true->Z6C (aa,()))/\(Tt (e.kind !=1))/\(Tt z7)/\(Tt z7)/\(z7=true->Z6C (ab,()))/\((e.kind !=1)=true->(True->(e.kind !=1)=true))/\((e.kind !=1)=true->((Z0i aa)=true->z7=true))/\(Tt (e.kind !=1))/\(Tt (e.kind !=1))/\(Tt (!z1))/\(Tt (!z1))/\(Tt (!z1))/\(Tt z5)/\(Tt z5)/\(Tt z5)/\(Tt z5)/\(Tt z5)/\(Tt z5)/\(z5=true->InR (((e.words.length:Int):Int)+(e.kids.length:Int)))/\(Tt z5)/\((!z1)=true->(True->(!z1)=true))/\((!z1)=true->((e.kind !=2)=true->z5=true))/\(z1=false->(!z1)=true)/\(Tt (!z0))/\(Tt (!z0))/\(Tt (!z0))/\(Tt z3)/\(Tt z3)/\(Tt z3)/\(Tt z8)/\(Tt z8)/\(Tt z8)/\(z3=true->(True->z3=true))/\(z3=true->((e.list !=0)=false->z8=true))/\((!z0)=true->(True->(!z0)=true))/\((!z0)=true->((e.kind !=3)=true->z3=true))/\(z0=false->(!z0)=true)/\(iB (bif z0 then true else(bif(e.kind !=3)then(bif(e.list !=0)then true else(decide ((0:Int)<(e.ops.length:Int))))else false)) z9 ((iB (e.kind==1) ((Z60 (aa,64,()))/\(Tt (Zb aa 64))/\(Tt (Zb aa 64))/\((Zb aa 64)=true->Z60 (ab,64,()))/\(Tt (Zb aa 64))/\(Tt z2)/\(Tt z2)/\(Tt z2)/\(Tt z2)/\(Tt z6)/\(Tt z6)/\(Tt z6)/\(Tt z6)/\(Q .ret (L2 [(4,.c (.bool (bif z6 then(e.new.kind !=10)else false)))] []))) ((Zk (A14 N [1,1,1,1,1,0,1,0,0]) (Zbq e d (-1) 0) (xB 0 (S14 N [1,1,1,1,1,1] Q))))))))))):A14 N [] (L2 [(0,.agg (enc .edit e)),pI 1 d] []) Q:=Eq.mpr V3 (h _ (Z3 _) _ (Z3 _))
theorem ZC1(N:Nat)(e:Edit)(d x5 x6:Int)(N0:NT)(Q:QT)(h:∀aa,aa=(e.words.getD x6.toNat (WEdit.mk 0 0 0 0))->let z3:=decide (aa.at_<=x5);let z2:=bif z3 then true else(decide ((65534:Int)<aa.at_));let z0:=bif z2 then true else(aa.mask==0);let z1:=bif z0 then true else(!(Yr aa.old aa.mask));(iB (decide (x6<(e.words.length:Int))) (((0:Int)<=x6/\x6<(e.words.length:Int))/\((Tt (!z3))/\(Tt (!z3))/\(z3=false->(!z3)=true)/\(Tt (!z2))/\(Tt (!z2))/\(z2=false->(!z2)=true)/\(Tt (!z0))/\(Tt (!z0))/\(Tt (!z0))/\(Tt (!z0))/\((!z0)=true->Zs4 (aa.old,aa.mask,()))/\(Tt (!z0))/\(z0=false->(!z0)=true)/\(Tt (!z1))/\(Tt (!z1))/\(Tt (!z1))/\(Tt (!z1))/\((!z1)=true->Zs4 (aa.new,aa.mask,()))/\(Tt (!z1))/\(z1=false->(!z1)=true)/\(iB (bif z1 then true else(!(Yr aa.new aa.mask))) ((Q .ret (L2 [pB 4 false] []))) (((InR (x6+1))/\(N0 (Zbq e d aa.at_ (x6+1)))))))) ((Zk (A14 N [1,1,1,1,1,1,1,0,1,0,0]) (Zbp e d (-1) 0) (xB 2 (S14 N [1,1,1,1,1,1,1,1] Q)))))):A14 N [1,1,1,1,1,0,1,0,0] (Zbq e d x5 x6) (xT N0 (xB 0 (S14 N [1,1,1,1,1,1] Q))):=Eq.mpr V3 (h _ rfl)
theorem ZC0(N:Nat)(e:Edit)(d af aa:Int)(N1:NT)(Q:QT)(h:∀ab,ab=(e.kids.getD aa.toNat (KidOf.mk 0 Edit.nil))->∀ae,ae=(ab.e)->let z5:=(Q .ret (L2 [pB 4 false] []));let z4:=decide (e.list<2);let z3:=(e.kind==3)&&(!z4);let z2:=decide (ab.at_<=af);let z0:=bif z2 then true else(decide ((65534:Int)<ab.at_));let z1:=bif z0 then true else(ab.e.kind==0);(iB (decide (aa<(e.kids.length:Int))) (((0:Int)<=aa/\aa<(e.kids.length:Int))/\((Tt (!z2))/\(Tt (!z2))/\(z2=false->(!z2)=true)/\(Tt (!z0))/\(Tt (!z0))/\(Tt (!z0))/\(z0=false->(!z0)=true)/\(Tt (!z1))/\(Tt (!z1))/\((!z1)=true->InR (d-1))/\(Tt (!z1))/\(Tt (!z1))/\((!z1)=true->Zdq (ae,(d-1),()))/\((!z1)=true->Zkv (ae,(d-1),())<N)/\(Tt (!z1))/\(z1=false->(!z1)=true)/\(iB (bif z1 then true else(!(Z8 ae (d-1)))) z5 (((InR (aa+1))/\(N1 (Zbp e d ab.at_ (aa+1)))))))) ((Tt (e.kind==3))/\(Tt (e.kind==3))/\(Tt (e.kind==3))/\(Tt z3)/\(Tt z3)/\((e.kind==3)=true->(True->(e.kind==3)=true))/\((e.kind==3)=true->(z4=false->z3=true))/\(Tt (e.kind==3))/\(iB (bif(e.kind==3)then(bif z4 then true else(decide ((9:Int)<e.list)))else false) z5 ((Zk (A14 N [1,1,1,1,1,1,1,1,1,0,1,0,0]) (Zbo e d 0) (xB 4 (S14 N [1,1,1,1,1,1,1,1,1,1] Q)))))))):A14 N [1,1,1,1,1,1,1,0,1,0,0] (Zbp e d af aa) (xT N1 (xB 2 (S14 N [1,1,1,1,1,1,1,1] Q))):=Eq.mpr V3 (h _ rfl _ (Zj _))
theorem ZBZ(N:Nat)(e:Edit)(d aa:Int)(N2:NT)(Q:QT)(h:∀ab,ab=e->∀af,af=(e.ops.getD aa.toNat Op.nil)->∀ae,ae=af->let z0:=decide (((Z1H ab.ops 0):Int)<1048576);(iB (decide (aa<(e.ops.length:Int))) (((0:Int)<=aa/\aa<(e.ops.length:Int))/\(InR (d-1))/\(Ziu (e.list,ae,(d-1),()))/\(Zum (e.list,ae,(d-1),())<N)/\(iB (!(Z9 e.list ae (d-1))) ((Q .ret (L2 [pB 4 false] []))) ((InR (aa+1))/\(N2 (Zbo e d (aa+1)))))) ((Zs3 (ab,()))/\((Tt z0)/\(Tt z0)/\(Q .ret (L2 [(4,.c (.bool (bif z0 then(decide (((Z1G ab.ops 0):Int)<1048576))else false)))] [])))))):A14 N [1,1,1,1,1,1,1,1,1,0,1,0,0] (Zbo e d aa) (xT N2 (xB 4 (S14 N [1,1,1,1,1,1,1,1,1,1] Q))):=Eq.mpr V3 (h _ (Zj _) _ rfl _ (JA _))
def ZKH(N:Nat)(e:Edit)(d:Int):Prop:=AW (Z2 (Zqm N)) Tryz.f14 ZDH [] (Zg (Zlm.can (e,d,())) []) (EQ Tryz.f14 (ZrO (e,d,())) [])
abbrev ZMw:Prop:=∀(N:Nat)(e:Edit)(d:Int)(_:Unit),Zdq (e,d,())->Zkv (e,d,())<N+1->ZKH N e d
def ZDC:Za U:=lvl [([0,2,4],[4]),([0,2,4,10],[4]),([6],[]),([0,2,4,42],[4]),([6],[]),([0,2,4,45],[4]),([0,4,7],[4]),([0,4,7,50],[4]),([0,4,7],[4]),([0,4,7,62],[4]),([6],[]),([6],[]),([0,4,92],[4]),([6],[]),([6],[])]
def Zbg(list:Int)(o:Op)(d x7:Int):LSt U:=(L2 [pI 0 list,pL 4,pI 7 x7] [(.loc 4,(enc .op o))])
abbrev A29(N:Nat)(p:List Nat):=AW (Z2 (Zqm N)) Tryz.f29 ZDC p
abbrev S29(N:Nat)(p:List Nat):=SW (Z2 (Zqm N)) Tryz.f29 ZDC p
theorem ZNN(N:Nat)(list:Int)(o:Op)(d:Int)(Q:QT)(h:∀aa,aa=(o.e)->let z10:=(Q .ret (L2 [pB 6 false] []));let z9:=decide ((1:Int)<=o.n);let z6:=bif(o.n !=0)then true else(decide (o.kind<0));let z4:=decide ((0:Int)<(o.l.length:Int));let z7:=bif z4 then true else(o.e.kind==0);let z3:=bif(o.e.kind==1)then(o.e.old.kind==1)else false;let z2:=bif z9 then(decide (o.n<=1048576))else false;let z5:=bif z2 then(((o.l.length:Int):Int)==0)else false;let z1:=bif z7 then true else(decide (list<=7));let z0:=bif(list==8)then true else(o.e.kind==2);let z8:=(!z0)&&(o.e.kind==1);(iB (o.kind==0) ((Tt z9)/\(Tt z9)/\(Tt z9)/\(Tt z2)/\(Tt z2)/\(Tt z2)/\(Tt z2)/\(Tt z5)/\(Tt z5)/\(z5=true->ZfU (aa,()))/\(Tt z5)/\(Q .ret (L2 [(6,.c (.bool (bif z5 then(Z36 aa)else false)))] []))) ((Tt (!(o.n !=0)))/\(Tt (!(o.n !=0)))/\((o.n !=0)=false->(!(o.n !=0))=true)/\(Tt (!z6))/\(Tt (!z6))/\(z6=false->(!z6)=true)/\(iB (bif z6 then true else(decide ((3:Int)<o.kind))) z10 ((iB (decide (o.kind<3)) ((Zk (A29 N [1,1,1,0,1,0,0,1,0,0]) (Zbg list o d 0) (xB 0 (S29 N [1,1,1,0,1,0,1] (S29 N [1,1,1,1] Q))))) ((Tt (!z4))/\(Tt (!z4))/\(Tt (!z4))/\(z4=false->(!z4)=true)/\(Tt (!z7))/\(z7=false->(!z7)=true)/\(Tt (!z1))/\(Tt (!z1))/\(Tt (!z1))/\((!z1)=true->Zdq (aa,d,()))/\((!z1)=true->Zkv (aa,d,())<N)/\(Tt (!z1))/\(z1=false->(!z1)=true)/\(iB (bif z1 then true else(!(Z8 aa d))) z10 ((Tt (!(list==8)))/\(Tt (!(list==8)))/\(Tt (!(list==8)))/\((list==8)=false->(!(list==8))=true)/\(Tt (!z0))/\(Tt (!z0))/\(Tt (!z0))/\(Tt (!z0))/\(Tt z8)/\(Tt z8)/\(Tt z8)/\(Tt z8)/\((!z0)=true->(True->(!z0)=true))/\((!z0)=true->((o.e.kind==1)=true->z8=true))/\(Tt (!z0))/\(Tt ((!z0)&&z3))/\(Tt ((!z0)&&z3))/\(Tt ((!z0)&&z3))/\(Tt ((!z0)&&z3))/\((!z0)=true->(True->(!z0)=true))/\((!z0)=true->(z3=true->((!z0)&&z3)=true))/\(z0=false->(!z0)=true)/\(Q .ret (L2 [(6,.c (.bool (bif z0 then true else(bif z3 then(o.e.new.kind==1)else false))))] []))))))))))):A29 N [] (L2 [pI 0 list,(1,.agg (enc .op o)),pI 2 d] []) Q:=Eq.mpr V3 (h _ (Zj _))
theorem ZBR(N:Nat)(list:Int)(o:Op)(d x7:Int)(N0:NT)(Q:QT)(h:let z2:=Tree.mk list [] (List.drop x7.toNat (List.take (Int.toNat (x7+1)) o.l));let z1:=Edit.mk o.e.kind (Tree.mk o.e.old.kind o.e.old.words o.e.old.kids) (Tree.mk o.e.new.kind o.e.new.words o.e.new.kids) o.e.words o.e.kids o.e.list o.e.ops;let z0:=decide ((0:Int)<(o.l.length:Int));(iB (decide (x7<(o.l.length:Int))) ((InR (x7+1))/\((0:Int)<=x7/\x7<=(x7+1)/\(x7+1)<=(o.l.length:Int))/\(Z60 (z2,64,()))/\(iB (!(Zb z2 64)) ((Q .ret (L2 [pB 6 false] []))) ((InR (x7+1))/\(N0 (Zbg list o d (x7+1)))))) ((Tt z0)/\(Tt z0)/\(z0=true->ZfU (z1,()))/\(Tt z0)/\(Q .ret (L2 [(6,.c (.bool (bif z0 then(Z36 z1)else false)))] []))))):A29 N [1,1,1,0,1,0,0,1,0,0] (Zbg list o d x7) (xT N0 (xB 0 (S29 N [1,1,1,0,1,0,1] (S29 N [1,1,1,1] Q)))):=Eq.mpr V3 h
def ZKt(N:Nat)(list:Int)(o:Op)(d:Int):Prop:=AW (Z2 (Zqm N)) Tryz.f29 ZDC [] (Zg (Zlj.can (list,o,d,())) []) (EQ Tryz.f29 (ZrM (list,o,d,())) [])
abbrev ZMr:Prop:=∀(N:Nat)(list:Int)(o:Op)(d:Int)(_:Unit),Ziu (list,o,d,())->Zum (list,o,d,())<N+1->ZKt N list o d
theorem Zuz(c27:CT 27 Z5h)(c28:CT 28 Zc5)(c47:CT 47 Zc3)(c15:CT 15 Z2F)(c30:CT 30 Zc4)(ha:ZMw)(hb:ZMr):CT 14 Zfr/\CT 29 Zw4:=Z2j (μA:=Zkv) (μB:=Zum) (l:=[(27,Z5h),(28,Zc5),(47,Zc3),(15,Z2F),(30,Zc4)]) Zf rfl (⟨c27,c28,c47,c15,c30,trivial⟩) ZDH ZDC Tryz.func14 Tryz.func29 rfl rfl rfl rfl 2 3 (λ_=>rfl) (λ_=>rfl) V0 V0 (λN⟨e,d,_⟩=>ha N e d ()) (λN⟨list,o,d,_⟩=>hb N list o d ())
end
theorem Z69{n:Int}(h0:0<=n)(h1:n<18446744073709551616):IntKind.wrap .u64 n=n:=by simp[IntKind.wrap,IntKind.signed,IntKind.bits];omega
theorem Zeg{n:Int}(h0:0<=n)(h1:n<256):IntKind.wrap .u8 n=n:=by simp[IntKind.wrap,IntKind.signed,IntKind.bits];omega
theorem Zlu{i:Int}{j:Nat}{v:Int}{F G:Nat->Int}(hi:0<=i)(hv:v=F i.toNat):Yv i j v (if(j:Int)<i then F j else G j)=if(j:Int)<i+1 then F j else G j:=by unfold Yv;grind
theorem Z1L(w:Int)(i:Nat):0<=Zd w i/\Zd w i<256:=by unfold Zd;omega
theorem Z7f{w:Int}(h:0<=w)(i:Nat):0<=w/256^i:=Kz h (XP (Xp Yp))
theorem ZgU{w:Int}(h:0<=w)(i:Nat):w/256^i<=w:=Kv _ h
theorem ZkZ(w:Int)(i:Nat):w/256^i/256=w/256^(i+1):=by rw[Int.ediv_ediv_of_nonneg (XP (Xp Yp)),XO]
theorem c77:Contract Tryz.prog cfg 77 Zfc:=by
 refine ZGV ?_;intro w _ d;simp only[ZmE]at d;refine ZN5 _ _ ?_;(try simp only[iB,vcT,forall_eq]);refine Z6 (ι:=Int) (λi=>Z6Z w (w/256^i.toNat) i (if((0:Nat):Int)<i then Zd w 0 else 0) (if((1:Nat):Int)<i then Zd w 1 else 0) (if((2:Nat):Int)<i then Zd w 2 else 0) (if((3:Nat):Int)<i then Zd w 3 else 0) (if((4:Nat):Int)<i then Zd w 4 else 0) (if((5:Nat):Int)<i then Zd w 5 else 0) (if((6:Nat):Int)<i then Zd w 6 else 0) (if((7:Nat):Int)<i then Zd w 7 else 0)) (λi=>0<=i/\i<=8) (λi=>(8-i).toNat) 0 ?_ ⟨Yp,Yp⟩ ?_;.simp[Z6Z]
 .rintro i⟨h1,h2⟩;refine ZBj _ _ _ _ _ _ _ _ _ _ _ _ _ ?_;(try simp only[iB,vcT,forall_eq]);(simp only[iB,vcS]);(try simp only[iB,vcT]);refine⟨λhc=>⟨Yp,⟨h1,Yp⟩,Yp,V2,i+1,?_,⟨Yp,Yp⟩,Yp⟩,λhc=>?_⟩
  .have hd:=Z7f d.1 i.toNat;have hl:=ZgU d.1 i.toNat;have e1:IntKind.wrap .u64 (Int.tdiv (w/256^i.toNat) 256)=w/256^(i+1).toNat:=by rw[X8 hd,ZkZ,show i.toNat+1=(i+1).toNat by omega];exact Z69 (Z7f d.1 _) (Int.lt_of_le_of_lt (ZgU d.1 _) d.2)
   have e2:IntKind.wrap .u8 (Int.tmod (w/256^i.toNat) 256)=Zd w i.toNat:=by rw[Int.tmod_eq_emod_of_nonneg hd];exact Zeg (Z1L w _).1 (Z1L w _).2
   rw[e1];have st:∀j:Nat,Yv i j (IntKind.wrap .u8 (Int.tmod (w/256^i.toNat) 256)) (if(j:Int)<i then Zd w j else 0)=if(j:Int)<i+1 then Zd w j else 0:=λj=>Zlu (F:=Zd w) (G:=λ_=>0) h1 e2;grind
  .have:i=8:=Yp;subst this;simp only[Zwo];exact⟨⟨rfl,⟨⟨rfl,rfl⟩,⟨rfl,rfl⟩,⟨rfl,rfl⟩,⟨rfl,rfl⟩,⟨rfl,rfl⟩,⟨rfl,rfl⟩,⟨rfl,rfl⟩,⟨rfl,rfl⟩,trivial⟩,trivial⟩,trivial⟩
theorem c78:Contract Tryz.prog cfg 78 Zfb:=by
 refine ZGU ?_;intro m i _ d;simp only[ZrY]at d;refine ZN4 _ _ _ ?_;(try simp only[iB,vcT,forall_eq]);refine Z6 (ι:=Int) (λk=>ZaT m i (m/2^k.toNat) k) (λk=>0<=k/\k<=i) (λk=>(i-k).toNat) 0 ?_ ⟨Yp,Yp⟩ ?_;.simp
 .rintro k⟨h1,h2⟩;refine ZBi _ _ _ _ _ _ ?_;(try simp only[iB,vcT,forall_eq]);have hd:0<=m/2^k.toNat:=Kz d.1.1 (XP (Xp Yp));have hl:m/2^k.toNat<=m:=Kv _ d.1.1;(simp only[iB,vcS]);refine⟨λhc=>⟨Yp,V2,k+1,?_,⟨Yp,Yp⟩,Yp⟩,λhc=>⟨Yp,Zn rfl ?_⟩⟩
  .have e:IntKind.wrap .u8 (Int.tdiv (m/2^k.toNat) 2)=m/2^(k+1).toNat:=by rw[X8 hd,Int.ediv_ediv_of_nonneg (XP (Xp Yp)),show(2:Int)^k.toNat*2=2^(k+1).toNat by rw[<-XO];congr 1;omega];refine Zeg (Kz d.1.1 (XP (Xp Yp))) (Int.lt_of_le_of_lt (Kv _ d.1.1) d.1.2)
   rw[e]
  .have:k=i:=Yp;subst this;rw[Int.tmod_eq_emod_of_nonneg hd];try rfl
def Ze5(f:Nat->Int):Nat->Int|0=>0|k+1=>f (7-k)+256*Ze5 f k
theorem ZeW{f:Nat->Int}(h:∀i,0<=f i/\f i<256):∀k,0<=Ze5 f k/\Ze5 f k<256^k|0=>by simp[Ze5]|k+1=>by have:=ZeW h k;have d:=h (7-k);simp only[Ze5,XO];omega
theorem ZG8(f:Nat->Int):Ze5 f 8=of8 f:=by simp[Ze5,of8]
theorem c79:Contract Tryz.prog cfg 79 Zfa:=by
 refine ZGT ?_;intro b z _ d;obtain⟨rfl,hl,hb⟩:=d;dsimp only at hl hb;refine ZN3 _ _ _ ?_;(try simp only[iB,vcT,forall_eq]);have hf:∀i,0<=b.getD i 0/\b.getD i 0<256:=by
  intro i;by_cases hi:i<b.length;.simp_all
  .grind
 refine Z6 (ι:=Int) (λi=>ZaS b 0 (Ze5 (λi=>b.getD i 0) (7-i).toNat) i) (λi=>-1<=i/\i<=7) (λi=>(i+1).toNat) 7 rfl ⟨Yp,Yp⟩ ?_;rintro i⟨h1,h2⟩;refine ZBh _ _ _ _ _ _ ?_;(try simp only[iB,vcT,forall_eq]);(simp only[iB,vcS]);(try simp only[iB,vcT]);have hr:=ZeW (f:=λi=>b.getD i 0) hf (7-i).toNat;refine⟨λhc=>⟨V2,Yp,V2,i-1,?_,⟨Yp,Yp⟩,Yp⟩,λhc=>ZJ rfl ?_⟩
 .have aa:(256:Int)^(7-i).toNat<=256^7:=by
   have:(256:Int)^(7-i).toNat=((256^(7-i).toNat:Nat):Int):=by simp
   rw[this];have h7:(256:Nat)^(7-i).toNat<=256^7:=Nat.pow_le_pow_right Yp Yp;have:((256:Nat)^7:Nat)=72057594037927936:=V0;omega
  have e7:(256:Int)^7=72057594037927936:=V0;have ab:=hf i.toNat;have e:Ze5 (λi=>b.getD i 0) (7-(i-1)).toNat=b.getD i.toNat 0+256*Ze5 (λi=>b.getD i 0) (7-i).toNat:=by rw[show(7-(i-1)).toNat=(7-i).toNat+1 by omega];simp only[Ze5];grind
  rw[e,show(0+i).toNat=i.toNat by omega,Z69 (n:=Ze5 (λi=>b.getD i 0) (7-i).toNat*256) Yp Yp,Z69 (n:=b.getD i.toNat 0) Yp Yp,Z69 Yp Yp];grind
 .have:i=-1:=Yp;subst this;exact ZG8 _
theorem ZLO(f:Nat->Int){i:Nat}(h:i<8):List.getD [f 0,f 1,f 2,f 3,f 4,f 5,f 6,f 7] i 0=f i:=by match i,h with|0,_=>rfl|1,_=>rfl|2,_=>rfl|3,_=>rfl|4,_=>rfl|5,_=>rfl|6,_=>rfl|7,_=>rfl
theorem Z6K(a b m:Int)(i:Nat):0<=JP a b m i/\JP a b m i<256:=by
 unfold JP;split;.exact Z1L _ _
 .exact Z1L _ _
theorem c46:Contract Tryz.prog cfg 46 Zfi:=by
 refine ZHi c77 c78 c79 ?_;intro a b m _ d;simp only[Zs1]at d;refine ZNx _ _ _ _ ?_;(try simp only[iB,vcT,forall_eq]);refine⟨d.1,d.2.1,?_⟩;refine Z6 (ι:=Int) (λi=>Z4Q a b m i (if((0:Nat):Int)<i then JP a b m 0 else Zd a 0) (if((1:Nat):Int)<i then JP a b m 1 else Zd a 1) (if((2:Nat):Int)<i then JP a b m 2 else Zd a 2) (if((3:Nat):Int)<i then JP a b m 3 else Zd a 3) (if((4:Nat):Int)<i then JP a b m 4 else Zd a 4) (if((5:Nat):Int)<i then JP a b m 5 else Zd a 5) (if((6:Nat):Int)<i then JP a b m 6 else Zd a 6) (if((7:Nat):Int)<i then JP a b m 7 else Zd a 7)) (λi=>0<=i/\i<=8) (λi=>(8-i).toNat) 0 ?_ ⟨Yp,Yp⟩ ?_;.simp[Z4Q]
 .rintro i⟨h1,h2⟩;refine ZBu _ _ _ _ _ _ _ _ _ _ _ _ _ _ ?_;(try simp only[iB,vcT,forall_eq]);(simp only[iB,vcS]);(try simp only[iB,vcT]);refine⟨λhc=>⟨⟨d.2.2,h1,Yp⟩,λhn=>⟨⟨h1,Yp⟩,⟨h1,Yp⟩,V2,i+1,?_,⟨Yp,Yp⟩,Yp⟩,λhn=>⟨V2,i+1,?_,⟨Yp,Yp⟩,Yp⟩⟩,λhc=>?_⟩
  .rw[ZLO (Zd b) Yp];have hv:Zd b i.toNat=JP a b m i.toNat:=by
    unfold JP;rw[show((i.toNat:Nat):Int)=i by omega,hn];try rfl
   have st:∀j:Nat,Yv i j (Zd b i.toNat) (if(j:Int)<i then JP a b m j else Zd a j)=if(j:Int)<i+1 then JP a b m j else Zd a j:=λj=>Zlu (F:=JP a b m) (G:=Zd a) h1 hv;grind
  .have hv:JP a b m i.toNat=Zd a i.toNat:=by unfold JP;rw[show((i.toNat:Nat):Int)=i by omega,hn];try rfl
   grind
  .have:i=8:=Yp;subst this;refine⟨⟨rfl,rfl,?_⟩,ZJ rfl ?_⟩;.intro x hx;simp at hx;rcases hx with rfl|rfl|rfl|rfl|rfl|rfl|rfl|rfl<;>exact Z6K _ _ _ _
   .try rfl
theorem Z50{α:Type}{l:List α}{i:Nat}(h:i<l.length)(d:α):l.drop i=l.getD i d::l.drop (i+1):=by simp_all
theorem Yu{α:Type}{l:List α}{i:Int}(h0:0<=i)(h:i<l.length)(d:α):l.drop i.toNat=l.getD i.toNat d::l.drop (i+1).toNat:=by rw[Z50 Yp d,show i.toNat+1=(i+1).toNat by omega]
theorem Ze{α:Type}{l:List α}{i:Nat}(h:i<l.length)(d:α):l.getD i d∈l:=by grind
theorem Zv(t:Tree):1<=mass t:=by cases t;simp only[mass];omega
theorem Z7J(e:Edit):1<=Zi e:=by cases e;simp only[Zi];omega
theorem Z7I(k:Kid):Yg k=Zi k.e:=by cases k;rfl
theorem YE(o:Op):Zu o=Z5 o.l+Zi o.e:=by cases o;rfl
theorem ZS:∀{ks:List Tree}{t:Tree},t∈ks->mass t<=Z5 ks
 |x::r,t,h=>by
  simp only[Z5];rcases Q9.1 h with rfl|h;.omega
  .have:=ZS h;omega
theorem Z27:∀{ks:List Kid}{k:Kid},k∈ks->Zi k.e<=Zr ks
 |x::r,k,h=>by
  simp only[Zr,Z7I];rcases Q9.1 h with rfl|h;.omega
  .have:=Z27 h;omega
theorem Jv:∀{os:List Op}{o:Op},o∈os->Zu o<=Zh os
 |x::r,o,h=>by
  simp only[Zh];rcases Q9.1 h with rfl|h;.omega
  .have:=Jv h;omega
theorem J8:∀(ks:List Kid),ks.length<=Zr ks|[]=>by simp[Zr]|k::r=>by have:=J8 r;have:=Z7J k.e;simp only[Zr,Z7I,Qa];omega
theorem YG:∀(os:List Op),os.length<=Zh os|[]=>by simp[Zh]|o::r=>by have:=YG r;have:=Z7J o.e;simp only[Zh,YE,Qa];omega
theorem J7:∀{ks:List Tree}{t:Tree},ZV ks->t∈ks->rng t
 |x::r,t,hs,h=>by
  simp only[ZV]at hs;rcases Q9.1 h with rfl|h;.exact hs.1
  .exact J7 hs.2 h
theorem Z1j:∀{ks:List Kid}{k:Kid},Z2p ks->k∈ks->InR k.at_/\YF k.e
 |x::r,k,hs,h=>by
  simp only[Z2p]at hs;rcases Q9.1 h with rfl|h;.have:=hs.1;obtain⟨a,e⟩:=k;exact this
  .exact Z1j hs.2 h
theorem Z4p:∀{os:List Op}{o:Op},Z0W os->o∈os->Yt o
 |x::r,o,hs,h=>by
  simp only[Z0W]at hs;rcases Q9.1 h with rfl|h;.exact hs.1
  .exact Z4p hs.2 h
theorem Z2h{o:Op}(h:Yt o):InR o.kind/\InR o.n/\ZV o.l/\YF o.e:=by obtain⟨a,b,c,e⟩:=o;exact h
theorem Zyp(t:Tree):t.words.length+t.kids.length<mass t:=by obtain⟨k,w,ks⟩:=t;have:=ZT ks;simp only[mass,Tree.words_mk,Tree.kids_mk];omega
theorem JL(e:Edit):mass e.old+mass e.new+e.words.length+e.ops.length+Zr e.kids+Zh e.ops<Zi e:=by obtain⟨k,o,n,w,ks,l,os⟩:=e;simp only[Zi,Edit.old_mk,Edit.new_mk,Edit.words_mk,Edit.ops_mk,Edit.kids_mk];omega
theorem c27:Contract Tryz.prog cfg 27 Z5h:=by refine ZHr ?_;intro t _ d;simp only[Z6C]at d;have:=Zyp t;refine ZNP t _ ?_;(try simp only[iB,vcT,forall_eq]);refine⟨λ_=>by unfold InR;omega,Zn rfl ?_⟩;rw[QP];simp only[Z0i];grind
theorem c28:Contract Tryz.prog cfg 28 Zc5:=by refine ZHq c46 ?_;intro w m _ d;refine ZNO _ _ _ ?_;(try simp only[iB,vcT,forall_eq]);refine⟨⟨d.1,by grind,d.2⟩,Zn rfl ?_⟩;try rfl
theorem c47:Contract Tryz.prog cfg 47 Zc3:=by
 refine ZHh c27 ?_;intro e _ d;simp only[ZfU]at d;have h1:=JL e;have h2:=J8 e.kids;refine ZNw e _ ?_;(try simp only[iB,vcT,forall_eq]);try(simp only[vE])
 refine⟨λ_=>by simp only[Z6C];omega,λ_=>by simp only[Z6C];omega,λ_=>by unfold InR;omega,λ_=>by unfold InR;omega,Zn rfl ?_⟩;rw[QP];simp only[Z36];grind
theorem ZIl(e:Edit)(x4 x5 i:Int)(N0:LSt U->Prop)(Q:AExit->LSt U->Prop)(h1:0<=x4/\x4<=1048576)(h2:0<=x5/\x5<=1048576)(hi:0<=i)(hlen:e.ops.length<=20000000000)(ho:∀o∈e.ops,(0<=o.n/\o.n<=1048576)/\o.l.length<=20000000000)(h:i<e.ops.length->N0 (Z3i e (min (if(e.ops.getD i.toNat Op.nil).kind=2 then x4 else x4+Z4 (e.ops.getD i.toNat Op.nil)) 1048576) (min (if(e.ops.getD i.toNat Op.nil).kind=1 then x5 else x5+Z4 (e.ops.getD i.toNat Op.nil)) 1048576) (i+1)))(h':¬i<e.ops.length->Q .ret (⟨[(2,.c (.int .i64 x4)),(3,.c (.int .i64 x5))],[],[]⟩:LSt U)):ZJg e x4 x5 i N0 Q:=by
 refine ZBM _ _ _ _ _ _ ?_;(try simp only[iB,vcT,forall_eq]);(simp only[iB,vcS]);(try simp only[iB,vcT]);refine⟨λhc=>?_,h'⟩;have hn:=h hc;have hm:=ho _ (Ze (l:=e.ops) (i:=i.toNat) Yp Op.nil);have k1:∀k,k=Z4 (e.ops.getD i.toNat Op.nil)->ZJk e x4 x5 i k N0 Q:=by
  intro k hk;have au:0<=k/\k<=60000000000:=by rw[hk];unfold Z4;split<;>omega
  have k2:∀y,y=(if(e.ops.getD i.toNat Op.nil).kind=2 then x4 else x4+k)->ZJj e x5 i k y N0 Q:=by
   intro y hy;have ar:0<=y/\y<=100000000000:=by rw[hy];split<;>omega
   have k3:∀z,z=(if(e.ops.getD i.toNat Op.nil).kind=1 then x5 else x5+k)->ZJi e i k y z N0 Q:=by
    intro z hz;have aq:0<=z/\z<=100000000000:=by rw[hz];split<;>omega
    have k4:∀u,u=min y 1048576->ZJh e i y z u N0 Q:=by
     intro u hu;refine ZBN _ _ _ _ _ _ _ ?_;(try simp only[iB,vcT,forall_eq]);(simp only[iB,vcS]);(try simp only[iB,vcT]);rw[<-hk,<-hy,<-hz,<-hu]at hn;refine⟨λd=>⟨V2,?_⟩,λd=>⟨V2,?_⟩⟩;.rw[show min z 1048576=1048576 by omega]at hn;exact hn
     .rw[show min z 1048576=z by omega]at hn;exact hn
    refine ZBO _ _ _ _ _ _ _ ?_;(try simp only[iB,vcT,forall_eq]);(simp only[iB,vcS]);(try simp only[iB,vcT]);exact⟨λd=>k4 _ Yp,λd=>k4 _ Yp⟩
   refine ZBP _ _ _ _ _ _ _ ?_;(try simp only[iB,vcT,forall_eq]);(simp only[iB,vcS]);(try simp only[iB,vcT]);exact⟨λd=>⟨V2,k3 _ (by rw[if_neg d])⟩,λd=>k3 _ (by rw[if_pos d])⟩
  refine ZBQ _ _ _ _ _ _ _ ?_;(try simp only[iB,vcT,forall_eq]);(simp only[iB,vcS]);(try simp only[iB,vcT]);exact⟨λd=>⟨V2,k2 _ (by rw[if_neg d])⟩,λd=>k2 _ (by rw[if_pos d])⟩
 exact⟨⟨hi,hc⟩,V2,λd=>k1 _ (by unfold Z4;rw[if_pos d]),λd=>k1 _ (by unfold Z4;rw[if_neg d])⟩
theorem c30:Contract Tryz.prog cfg 30 Zc4:=by
 refine ZHp ?_;intro e _ hp;simp only[Zs3]at hp;have h1:=JL e;refine ZNM e _ ?_;(try simp only[iB,vcT,forall_eq]);refine Z6 (ι:=Int×Int×Int) (λp=>Z3i e p.1 p.2.1 p.2.2) (λp=>0<=p.2.2/\p.2.2<=e.ops.length/\(0<=p.1/\p.1<=1048576)/\(0<=p.2.1/\p.2.1<=1048576)/\Z1H (e.ops.drop p.2.2.toNat) p.1=Z1H e.ops 0/\Z1G (e.ops.drop p.2.2.toNat) p.2.1=Z1G e.ops 0) (λp=>((e.ops.length:Int)-p.2.2).toNat) (0,0,0) rfl ⟨by grind,by grind,Yp,by grind,by simp,by simp⟩ ?_;rintro⟨x4,x5,i⟩⟨h2,h3,h4,h5,d,h7⟩;dsimp only at*;have ho:∀o∈e.ops,(0<=o.n/\o.n<=1048576)/\o.l.length<=20000000000:=by
  intro o hm;refine⟨hp.2 o hm,?_⟩;have a1:=Jv hm;have a2:=ZT o.l;rw[YE]at a1;omega
 refine ZIl e x4 x5 i _ _ h4 h5 h2 Yp ho (λhc=>⟨(_,_,i+1),rfl,⟨by grind,by grind,?_,?_,?_,?_⟩,by grind⟩) (λhc=>?_);.have hm:=ho _ (Ze (l:=e.ops) (i:=i.toNat) Yp Op.nil);dsimp only;unfold Z4;omega
 .have hm:=ho _ (Ze (l:=e.ops) (i:=i.toNat) Yp Op.nil);dsimp only;unfold Z4;omega
 .rw[Yu h2 hc Op.nil]at d;exact d
 .rw[Yu h2 hc Op.nil]at h7;exact h7
 .rw[Qb Yp]at d h7;simp only[Z1H,Z1G]at d h7;simp only[Zws,<-d,<-h7];exact⟨⟨rfl,⟨⟨rfl,rfl⟩,trivial⟩,rfl,⟨⟨rfl,rfl⟩,trivial⟩,trivial⟩,trivial⟩
theorem Zi9(e:Edit)(d:Int):Z8 e d=if d=0\/e.kind<0\/3<e.kind then false else if(e.kind≠1/\¬(Z0i e.old=true/\Z0i e.new=true))\/(e.kind≠2/\¬(e.words.length=0/\e.kids.length=0))\/(e.kind≠3/\(e.list≠0\/e.ops.length≠0))then false else if e.kind=1 then Zb e.old (dT d)&&Zb e.new (dT d)&&decide (e.old.kind≠10/\e.new.kind≠10)else Ye (-1) e.words&&ZA (-1) e.kids (d-1)&&decide (¬(e.kind=3/\(e.list<2\/9<e.list)))&&Zz e.list e.ops (d-1)&&decide (Z1H e.ops 0<1048576/\Z1G e.ops 0<1048576):=by obtain⟨k,o,nw,w,ks,l,os⟩:=e;rfl
theorem Z6p(last:Int)(k:Kid)(d:Int):YB last k d=(decide (last<k.at_/\k.at_<=65534/\k.e.kind≠0)&&Z8 k.e d):=by cases k;rfl
theorem Z16(list:Int)(o:Op)(d:Int):Z9 list o d=if o.kind=0 then decide (1<=o.n/\o.n<=1048576/\o.l.length=0)&&Z36 o.e else if o.n≠0\/o.kind<0\/3<o.kind then false else if o.kind<3 then Yy (dT d) list o.l&&decide (0<o.l.length)&&Z36 o.e else decide (o.l.length=0/\o.e.kind≠0/\7<list)&&Z8 o.e d&&decide (list=8\/o.e.kind=2\/o.e.kind=1/\o.e.old.kind=1/\o.e.new.kind=1):=by cases o;rfl
theorem Zi7{list:Int}{o:Op}{d:Int}(h:Z9 list o d=true):0<=o.n/\o.n<=1048576:=by rw[Z16]at h;grind
theorem rightOs_mem{list d:Int}:∀{os:List Op}{o:Op},Zz list os d=true->o∈os->Z9 list o d=true
 |x::r,o,h,hm=>by
  simp only[Zz,Q2]at h;rcases Q9.1 hm with rfl|hm;.exact h.1
  .exact rightOs_mem h.2 hm
theorem Zdh{d:Int}:∀{ks:List Kid}{last:Int}{k:Kid},ZA last ks d=true->k∈ks->Z8 k.e d=true/\k.e.kind≠0
 |x::r,last,k,h,hm=>by
  simp only[ZA,Q2]at h;rcases Q9.1 hm with rfl|hm;.have:=h.1;rw[Z6p]at this;grind
  .exact Zdh h.2 hm
theorem Zel{e:Edit}(h:YF e):InR e.kind/\rng e.old/\rng e.new/\(∀x∈e.words,JT x)/\InR e.list/\Z2p e.kids/\Z0W e.ops:=by obtain⟨k,o,n,w,ks,l,os⟩:=e;exact h
theorem b14:ZMw:=by
 intro N e d _ hp hN;simp only[Zdq,Zkv]at hp hN;obtain⟨⟨hm,hr⟩,aw,bh⟩:=hp;obtain⟨ik,ro,rn,ay,il,rk,az⟩:=Zel hr;have bd:=JL e;have be:=J8 e.kids;have ba:=YG e.ops;have aa:=Zi9 e d;rw[Zt7 aw]at aa;refine ZO1 N e d _ ?_;(try simp only[iB,vcT,forall_eq]);(simp only[iB,vcS]);(try simp only[iB,vcT]);(try simp only[vcU]);try(simp only[vE])
 refine⟨λhc=>Zn rfl (by rw[aa,Y3]),λhc=>?_⟩;rw[JH]at aa;refine⟨λ_=>by simp only[Z6C];omega,λ_=>by simp only[Z6C];omega,λ_=>by unfold InR;omega,λhf=>Zn rfl ?_,λhf=>⟨λh1=>⟨⟨V1,ro,V1,V1⟩,λ_=>⟨V1,rn,V1,V1⟩,Zn rfl ?_⟩,λh1=>?_⟩⟩
 .rw[aa,if_pos];rcases hf with(hf|hf)|hf
  .left;refine⟨hf.1,λh=>?_⟩;rcases hf.2 with h2|h2;.rw[h.1]at h2;cases h2
   .rw[h.2]at h2;cases h2
  .right;left;omega
  .right;right;omega
 .rw[aa,if_neg,if_pos h1,QP]
  ·(simp only[iB,vcS]);constructor;.rintro⟨⟨⟨h2,h3⟩,h4⟩,h5⟩;exact⟨⟨h2,h3⟩,h4,h5⟩
   .rintro⟨⟨h2,h3⟩,h4,h5⟩;exact⟨⟨⟨h2,h3⟩,h4⟩,h5⟩
  .intro h;rcases h with h|h|h;.exact h.1 h1
   .omega
   .omega
 .rw[if_neg,if_neg h1]at aa
  .refine Z6 (ι:=Int×Int) (λp=>Zbq e d p.1 p.2) (λp=>0<=p.2/\p.2<=e.words.length/\Ye p.1 (e.words.drop p.2.toNat)=Ye (-1) e.words) (λp=>((e.words.length:Int)-p.2).toNat) (-1,0) rfl ⟨V1,V1,by simp⟩ ?_;rintro⟨ai,i⟩⟨h2,h3,h4⟩;dsimp only at*;refine ZC1 N e d ai i _ _ ?_;(try simp only[iB,vcT,forall_eq]);(simp only[iB,vcS]);(try simp only[iB,vcT]);(try simp only[vcU]);try(simp only[vE])
   refine⟨λhi=>?_,λhi=>?_⟩
   .have ab:=Ze (l:=e.words) (i:=i.toNat) Yp (WEdit.mk 0 0 0 0);have aj:=ay _ ab;rw[Yu h2 hi (WEdit.mk 0 0 0 0)]at h4;simp only[Ye]at h4;generalize e.words.getD i.toNat (WEdit.mk 0 0 0 0)=w at*;obtain⟨_,ar,a1,a7⟩:=aj;refine⟨⟨h2,hi⟩,λ_=>⟨a1,ar⟩,λ_=>⟨a7,ar⟩,λhq=>Zn rfl ?_,λhq=>⟨V2,(_,i+1),rfl,⟨V1,V1,?_⟩,V1⟩⟩
    .rw[aa,<-h4];rcases hq with(hq|hq)|hq;.rw[decide_eq_false Yp];try rfl
     .rw[hq];simp
     .rw[hq];simp
    .dsimp only;rw[<-h4,decide_eq_true Yp,hq.1.2,hq.2];try rfl
   .have hw:Ye (-1) e.words=true:=by rw[<-h4,Qb Yp];try rfl
    rw[hw,Xu]at aa;refine Z6 (ι:=Int×Int) (λp=>Zbp e d p.1 p.2) (λp=>0<=p.2/\p.2<=e.kids.length/\ZA p.1 (e.kids.drop p.2.toNat) (d-1)=ZA (-1) e.kids (d-1)) (λp=>((e.kids.length:Int)-p.2).toNat) (-1,0) rfl ⟨V1,V1,by simp⟩ ?_;rintro⟨ai,i⟩⟨h2,h3,h4⟩;dsimp only at*;refine ZC0 N e d ai i _ _ ?_;(try simp only[iB,vcT,forall_eq]);(simp only[iB,vcS]);(try simp only[iB,vcT]);(try simp only[vcU]);try(simp only[vE])
    refine⟨λhi=>?_,λhi=>?_⟩
    .have ab:=Ze (l:=e.kids) (i:=i.toNat) Yp (KidOf.mk 0 Edit.nil);have aj:=Z1j rk ab;have ax:=Z27 ab;rw[Yu h2 hi (KidOf.mk 0 Edit.nil)]at h4;simp only[ZA,Z6p]at h4;generalize e.kids.getD i.toNat (KidOf.mk 0 Edit.nil)=w at*;refine⟨⟨h2,hi⟩,λ_=>by unfold InR;omega,λ_=>⟨⟨V1,aj.2⟩,V1,V1⟩,λ_=>by simp only[Zkv];omega,λhq=>Zn rfl ?_,λhq=>⟨V2,(_,i+1),rfl,⟨V1,V1,?_⟩,V1⟩⟩
     .rw[aa,<-h4];rcases hq with hq|hq;.rw[decide_eq_false Yp];try rfl
      .rw[hq];simp
     .dsimp only;rw[<-h4,decide_eq_true Yp,hq.2];try rfl
    .have hw:ZA (-1) e.kids (d-1)=true:=by rw[<-h4,Qb Yp];try rfl
     rw[hw,Xu]at aa;refine⟨λhq=>Zn rfl (by rw[aa,decide_eq_false Yp];rfl),λhq=>?_⟩;rw[decide_eq_true Yp,Xu]at aa;refine Z6 (ι:=Int) (λp=>Zbo e d p) (λp=>0<=p/\p<=e.ops.length/\Zz e.list (e.ops.drop p.toNat) (d-1)=Zz e.list e.ops (d-1)) (λp=>((e.ops.length:Int)-p).toNat) 0 rfl ⟨Yp,Yp,by simp⟩ ?_;rintro j⟨h5,h6,h7⟩;refine ZBZ N e d j _ _ ?_;(try simp only[iB,vcT,forall_eq]);(simp only[iB,vcS]);(try simp only[iB,vcT]);(try simp only[vcU]);try(simp only[vE])
     refine⟨λhj=>?_,λhj=>?_⟩
     .have ab:=Ze (l:=e.ops) (i:=j.toNat) Yp Op.nil;have a6:=Z4p az ab;have ax:=Jv ab;rw[Yu h5 hj Op.nil]at h7;simp only[Zz]at h7;generalize e.ops.getD j.toNat Op.nil=o at*;refine⟨⟨h5,hj⟩,V2,⟨⟨by show Zu o<=20000000000;omega,a6,il⟩,V1,V1⟩,?_,λhq=>Zn rfl ?_,λhq=>⟨V2,j+1,rfl,⟨Yp,Yp,?_⟩,Yp⟩⟩;.show 2*Zu o+1<N;omega
      .have ak:Z9 e.list o (d-1)=false:=hq;rw[aa,<-h7,ak];try rfl
      .have ak:Z9 e.list o (d-1)=true:=hq;rw[<-h7,ak];try rfl
     .have hw:Zz e.list e.ops (d-1)=true:=by rw[<-h7,Qb Yp];try rfl
      rw[hw,Xu]at aa;refine⟨⟨hm,λo ho=>Zi7 (rightOs_mem hw ho)⟩,Zn rfl ?_⟩;rw[aa,QP];(simp only[iB,vcS])
  .intro h;rcases h with h|h|h
   .rcases hf.1.1 with h2|h2;.exact h1 h2
    .exact h.2 h2
   .omega
   .omega
theorem Zhs{l:List Tree}{i:Int}(h0:0<=i)(h:i<l.length):List.drop i.toNat (l.take (i+1).toNat)=[l.getD i.toNat Tree.nil]:=by rw[List.drop_take,show(i+1).toNat-i.toNat=1 by omega,Yu h0 h Tree.nil];try rfl
theorem b29:ZMr:=by
 intro N list o d _ hp hN;simp only[Ziu,Zum]at hp hN;obtain⟨⟨hm,hr,al⟩,ah,am⟩:=hp;obtain⟨ik,a6,rl,re⟩:=Z2h hr;rw[YE]at hm hN;have a8:=ZT o.l;have a2:=Z7J o.e;have aa:=Z16 list o d;rw[Zt7 ah,ZhH]at aa;refine ZNN N list o d _ ?_;(try simp only[iB,vcT,forall_eq]);(simp only[iB,vcS]);(try simp only[iB,vcT]);(try simp only[vcU]);try(simp only[vE])
 refine⟨λh0=>⟨λ_=>by simp only[ZfU];omega,Zn rfl ?_⟩,λh0=>⟨λhc=>Zn rfl ?_,λhc=>⟨λh3=>?_,λh3=>⟨λ_=>⟨⟨V1,re⟩,ah,am⟩,λ_=>by simp only[Zkv];omega,λhq=>Zn rfl ?_,λhq=>Zn rfl ?_⟩⟩⟩⟩
 .rw[aa,if_pos h0,QP];(simp only[iB,vcS]);constructor;.rintro⟨h1,h2⟩;exact⟨Yp,h2⟩
  .rintro⟨h1,h2⟩;exact⟨Yp,h2⟩
 .rw[aa,if_neg h0,Y3]
 .rw[if_neg h0,JH,if_pos h3]at aa;refine Z6 (ι:=Int) (λp=>Zbg list o d p) (λp=>0<=p/\p<=o.l.length/\Z5b list (o.l.drop p.toNat)=Z5b list o.l) (λp=>((o.l.length:Int)-p).toNat) 0 rfl ⟨Yp,Yp,by simp⟩ ?_;rintro i⟨h4,h5,h6⟩;refine ZBR N list o d i _ _ ?_;(try simp only[iB,vcT,forall_eq]);(simp only[iB,vcS]);(try simp only[iB,vcT]);(try simp only[vcU]);try(simp only[vE])
  refine⟨λhi=>?_,λhi=>?_⟩
  .have ae:=Ze (l:=o.l) (i:=i.toNat) Yp Tree.nil;have ao:=J7 rl ae;have ax:=ZS ae;rw[Zhs h4 hi];rw[Yu h4 hi Tree.nil]at h6;simp only[Z5b]at h6;generalize o.l.getD i.toNat Tree.nil=t at*;refine⟨V2,Yp,⟨by simp only[mass,Z5,List.length_nil];omega,⟨al,λx hx=>(by cases hx),ao,trivial⟩,V1,V1⟩,λhq=>Zn rfl ?_,λhq=>⟨V2,i+1,rfl,⟨Yp,Yp,?_⟩,Yp⟩⟩;.rw[aa,<-h6,hq];try rfl
   .rw[<-h6,hq];try rfl
  .have hw:Z5b list o.l=true:=by rw[<-h6,Qb Yp];try rfl
   rw[hw,Xu]at aa;refine⟨λ_=>by simp only[ZfU];omega,Zn rfl ?_⟩;rw[aa,QP];(simp only[iB,vcS]);simp only[Int.natCast_pos]
 .rw[aa,if_neg h0,JH,if_neg h3];rcases hq with hq|hq;.have:¬(o.l.length=0/\o.e.kind≠0/\7<list):=Yp;rw[decide_eq_false this];try rfl
  .rw[hq];simp
 .rw[aa,if_neg h0,JH,if_neg h3,hq.2];have:o.l.length=0/\o.e.kind≠0/\7<list:=Yp;rw[decide_eq_true this,QP];(simp only[iB,vcS]);simp only[true_and,Kn,decide_eq_true_eq,and_assoc,or_assoc]
theorem ZIH:Contract Tryz.prog cfg 14 Zfr/\Contract Tryz.prog cfg 29 Zw4:=Zuz c27 c28 c47 c15 c30 b14 b29
theorem Zi8{e:Edit}{d:Int}(h:Z8 e d=true):(∀k∈e.kids,Z8 k.e (d-1)=true/\k.e.kind≠0)/\∀o∈e.ops,Z9 e.list o (d-1)=true:=by
 rw[Zi9]at h;split at h;.cases h
 .split at h;.cases h
  .rename_i h1 h2;split at h;.grind
   .simp only[Q2]at h;exact⟨λk hk=>Zdh h.1.1.1.2 hk,λo ho=>rightOs_mem h.1.2 ho⟩
theorem Zwc{e:Edit}(h:Z36 e=true):e.kind=0/\Z0i e.old=true/\Z0i e.new=true/\e.words=[]/\e.kids=[]/\e.ops=[]/\e.list=0:=by simp only[Z36,Q2,decide_eq_true_eq]at h;grind
end Go.AM.YtnfbomhidainjaaGreat
namespace Go.AM
noncomputable def eqX{α:Type}(a b:α):Bool:=@decide (a=b) (Classical.propDecidable _)
theorem Z82{α:Type}{a b:α}:eqX a b=true↔a=b:=by unfold eqX;grind
@[simp]theorem Zzm{α:Type}(a:α):eqX a a=true:=Z82.2 rfl
def Zx(o:Op)(n:Int):Op:=if Z4 o<=n then o else if o.kind=0 then⟨o.kind,n,o.l,o.e⟩else⟨o.kind,o.n,o.l.take n.toNat,o.e⟩
def JR(o:Op)(n:Int):Op:=if o.kind=0 then⟨o.kind,o.n-n,o.l,o.e⟩else⟨o.kind,o.n,o.l.drop n.toNat,o.e⟩
def ZB(l:List Op)(n:Int):List Op:=if Z4 (l.getD 0 Op.nil)<=n then l.drop 1 else JR (l.getD 0 Op.nil) n::l.drop 1
def sgl(a:Int)(l:List Op):Bool:=decide (l.length≠0/\(l.getD 0 Op.nil).kind=a)
def YD(o:Op):Prop:=(o.kind=0/\o.l=[]/\(1<=o.n/\o.n<=1048576)/\o.e=Edit.nil)\/((o.kind=1\/o.kind=2)/\o.n=0/\o.l≠[]/\o.e=Edit.nil)\/(o.kind=3/\o.n=0/\o.l=[])
def Z6H(l:List Op):Prop:=(∀o∈l,YD o)/\Zh l<=20000000000
theorem Y5(l:List Op)(n:Int)(h:l.length≠0):(ZB l n).length<=l.length:=by unfold ZB;grind
theorem Y4(l:List Op)(n:Int)(h:l.length≠0)(hn:Z4 (l.getD 0 Op.nil)<=n):(ZB l n).length<l.length:=by unfold ZB;grind
def Zl(ap aq:Int)(p q:List Op)(out:List Piece):List Piece×Bool×List Op×List Op:=if h:sgl ap p=true then Zl ap aq (p.drop 1) q (out++[⟨1,p.getD 0 Op.nil,Op.nil⟩])else if h2:sgl aq q=true then Zl ap aq p (q.drop 1) (out++[⟨2,Op.nil,q.getD 0 Op.nil⟩])else if h3:p.length=0\/q.length=0 then if decide (p.length=0)=decide (q.length=0)then(out,true,p,q)else([],false,p,q)else Zl ap aq (ZB p (min (Z4 (p.getD 0 Op.nil)) (Z4 (q.getD 0 Op.nil)))) (ZB q (min (Z4 (p.getD 0 Op.nil)) (Z4 (q.getD 0 Op.nil)))) (out++[⟨0,Zx (p.getD 0 Op.nil) (min (Z4 (p.getD 0 Op.nil)) (Z4 (q.getD 0 Op.nil))),Zx (q.getD 0 Op.nil) (min (Z4 (p.getD 0 Op.nil)) (Z4 (q.getD 0 Op.nil)))⟩])termination_by p.length+q.length decreasing_by
 .have:=(of_decide_eq_true h).1;grind
 .have:=(of_decide_eq_true h2).1;grind
 .rcases Kd (Z4 (p.getD 0 Op.nil)) (Z4 (q.getD 0 Op.nil))with hm|hm;.have a:=Y4 p _ Yp (QY (Z4 (p.getD 0 Op.nil)));have b:=Y5 q (Z4 (p.getD 0 Op.nil)) Yp;grind
  .have a:=Y4 q _ Yp (QY (Z4 (q.getD 0 Op.nil)));have b:=Y5 p (Z4 (q.getD 0 Op.nil)) Yp;grind
def Zjx(i alone:Int)(o:Op):List AUnit:=(if o.kind=0 then List.replicate o.n.toNat ⟨i,0,Tree.nil,Edit.nil,false⟩else[])++(o.l.map (λt=>⟨i,o.kind,t,Edit.nil,decide (o.kind=alone)⟩)++(if o.kind=3 then[⟨i,3,Tree.nil,o.e,false⟩]else[]))
def opU(u:AUnit):Op:=if u.kind=0 then⟨0,1,[],Edit.nil⟩else if u.kind=3 then⟨3,0,[],u.e⟩else⟨u.kind,0,[u.t],Edit.nil⟩
end Go.AM
namespace Go.AM.YtnfbomhidainjaaGreat
open Go.AM Go.Proofs
noncomputable section
def ZzM:ArgL (Op×Unit):=(.cons (aEl .op) .nil)
def Zdm(a:Op×Unit):Prop:=Zu a.1<=20000000000/\0<=OpOf.n a.1/\OpOf.n a.1<=1048576
def ZES(a:Op×Unit):V U:=.c (ci (Z4 a.1))
def Z6d:Fs U:=fs ZzM (λa=>[Zdm a]) ZES
def Zlp:ArgM ((List Op×Int×Unit)×Unit):=(.obj 0 (.cons (cSl .op) (.cons (Zed .i64) .nil)) .nil)
def Z4d(a:(List Op×Int×Unit)×Unit):Prop:=(a.1.1).length<=120000000000
def ZwW(a:(List Op×Int×Unit)×Unit):V U:=.c (.bool (decide ((a.1.1).length=0)))
def Zry(a:(List Op×Int×Unit)×Unit):List (List (C U)):=[[sU .op a.1.1 .unk,ci a.1.2.1]]
def Z3D:Fs U:=fsX Zlp (λa=>[Z4d a]) ZwW Zry
def ZET(a:(List Op×Int×Unit)×Unit):V U:=.c (.bool (sgl a.1.2.1 a.1.1))
def Zf2:Fs U:=fsX Zlp (λa=>[Z4d a]) ZET Zry
def ZqL:ArgM ((List Op×Int×Unit)×Int×Unit):=(.obj 0 (.cons (cSl .op) (.cons (Zed .i64) .nil)) (.cons (ZR .i64) .nil))
def ZfQ(a:(List Op×Int×Unit)×Int×Unit):Prop:=Z6H a.1.1/\(a.1.1).length≠0/\1<=a.2.1/\a.2.1<=120000000000
def Zmc(a:(List Op×Int×Unit)×Int×Unit):V U:=.agg (enc .op (Zx ((a.1.1).getD 0 Op.nil) a.2.1))
def ZfH(a:(List Op×Int×Unit)×Int×Unit):List (List (C U)):=[[sU .op (ZB a.1.1 a.2.1) .unk,ci a.1.2.1]]
def Zf1:Fs U:=fsX ZqL (λa=>[ZfQ a]) Zmc ZfH
def ZqQ:ArgM ((List Op×Int×Unit)×(List Op×Int×Unit)×Unit):=(.obj 0 (.cons (cSl .op) (.cons (Zed .i64) .nil)) (.obj 1 (.cons (cSl .op) (.cons (Zed .i64) .nil)) .nil))
def ZmD(a:(List Op×Int×Unit)×(List Op×Int×Unit)×Unit):Prop:=Z6H a.1.1/\Z6H a.2.1.1
def ZrF(a:(List Op×Int×Unit)×(List Op×Int×Unit)×Unit):V U:=.tup [(false,[sU .piece ((Zl a.1.2.1 a.2.1.2.1 a.1.1 a.2.1.1 []).1) .unk]),(false,[.bool ((Zl a.1.2.1 a.2.1.2.1 a.1.1 a.2.1.1 []).2.1)])]
def ZjZ(a:(List Op×Int×Unit)×(List Op×Int×Unit)×Unit):List (List (C U)):=[[sU .op ((Zl a.1.2.1 a.2.1.2.1 a.1.1 a.2.1.1 []).2.2.1) .unk,ci a.1.2.1],[sU .op ((Zl a.1.2.1 a.2.1.2.1 a.1.1 a.2.1.1 []).2.2.2) .unk,ci a.2.1.2.1]]
def Z47:Fs U:=fsX ZqQ (λa=>[ZmD a]) ZrF ZjZ
def ZzO:ArgL (List Op×List Op×Unit):=(.cons (aSl .op) (.cons (aSl .op) .nil))
def Zx6(a:List Op×List Op×Unit):Prop:=Z6H a.1/\Z6H a.2.1
def ZEV(a:List Op×List Op×Unit):V U:=.tup [(false,[sU .piece ((Zl 2 2 a.1 a.2.1 []).1) .unk]),(false,[.bool ((Zl 2 2 a.1 a.2.1 []).2.1)])]
def ZjD:Fs U:=fs ZzO (λa=>[Zx6 a]) ZEV
def ZFa(a:List Op×List Op×Unit):V U:=.tup [(false,[sU .piece ((Zl 1 2 a.1 a.2.1 []).1) .unk]),(false,[.bool ((Zl 1 2 a.1 a.2.1 []).2.1)])]
def Z5e:Fs U:=fs ZzO (λa=>[Zx6 a]) ZFa
def ZHC:Za U:=lvl [([1],[1]),([1,5],[1]),([2],[]),([2],[])]
abbrev A99(p:List Nat):=AW (Z2 Zqj) Tryz.f99 ZHC p
theorem ZMK(o:Op)(Q:QT)(h:(iB (o.kind==3) ((Q .ret (L2 [pI 2 1] []))) ((InR (o.n+(o.l.length:Int)))/\(Q .ret (L2 [pI 2 (o.n+(o.l.length:Int))] []))))):A99 [] (L2 [(0,.agg (enc .op o))] []) Q:=Eq.mpr V3 h
def ZJq(o:Op):Prop:=AW (Z2 Zqj) Tryz.f99 ZHC [] (Zg (ZzM.can (o,())) []) (EQ Tryz.f99 (ZES (o,())) [])
theorem ZGB(hb:∀(o:Op)(_:Unit),Zdm (o,())->ZJq o):CT 99 Z6d:=Z1 (l:=[]) Zf rfl trivial ZHC Tryz.func99 rfl rfl 1 (λ_=>rfl) V0 (λ⟨o,_⟩=>hb o ())
def Zyh:Za U:=lvk [([0],[((.x 0),[])]),([2],[((.x 0),[])])]
abbrev ZOs(p:List Nat):=AW (Z2 Zqj) Tryz.f100 Zyh p
theorem ZLq(l:List Op)(alone:Int)(Q:QT)(h:(Q .ret (L2 [pB 2 (((l.length:Int):Int)==0)] [(.x 0,[sU .op l .unk,ci alone])]))):ZOs [] (L2 [(0,.ptr (.x 0) 0)] [(.x 0,[sU .op l .unk,ci alone])]) Q:=Eq.mpr V3 h
def ZEK(l:List Op)(alone:Int):Prop:=AW (Z2 Zqj) Tryz.f100 Zyh [] (Zg (Zlp.can ((l,alone,()),())) (Zlp.canX ((l,alone,()),()))) (EQ Tryz.f100 (ZwW ((l,alone,()),())) (Zry ((l,alone,()),())))
theorem ZDd(hb:∀(l:List Op)(alone:Int)(_:Unit),Z4d ((l,alone,()),())->ZEK l alone):CT 100 Z3D:=Y9 (l:=[]) Zf rfl trivial Zyh Tryz.func100 rfl rfl 1 (λ_=>rfl) V0 (λ⟨⟨l,alone,_⟩,_⟩=>hb l alone ())
def Zyy:List (FuncId×Fs U):=[(100,Z3D)]
abbrev A97(p:List Nat):=AW (Z2 Zyy) Tryz.f97 Zyh p
theorem ZMM(l:List Op)(alone:Int)(Q:QT)(h:let z0:=!(decide (l.length=0));((Z4d ((l,alone,()),()))/\(Tt z0)/\(Tt z0)/\(Tt z0)/\(Tt z0)/\(z0=true->(0:Int)<=0/\0<(l.length:Int))/\(Tt z0)/\(Tt z0)/\(Tt z0)/\(Tt z0)/\(Tt z0)/\(Tt z0)/\(Tt z0)/\(Tt z0)/\(Q .ret (L2 [(2,.c (.bool (bif z0 then(((OpOf.kind (List.getD l (Int.toNat 0) Op.nil)):Int)==alone)else false)))] [(.x 0,[sU .op l .unk,ci alone])])))):A97 [] (L2 [(0,.ptr (.x 0) 0)] [(.x 0,[sU .op l .unk,ci alone])]) Q:=Eq.mpr V3 h
def ZJs(l:List Op)(alone:Int):Prop:=AW (Z2 Zyy) Tryz.f97 Zyh [] (Zg (Zlp.can ((l,alone,()),())) (Zlp.canX ((l,alone,()),()))) (EQ Tryz.f97 (ZET ((l,alone,()),())) (Zry ((l,alone,()),())))
theorem ZGD(Zv6:CT 100 Z3D)(hb:∀(l:List Op)(alone:Int)(_:Unit),Z4d ((l,alone,()),())->ZJs l alone):CT 97 Zf2:=Y9 (l:=[(100,Z3D)]) Zf rfl (⟨Zv6,trivial⟩) Zyh Tryz.func97 rfl rfl 1 (λ_=>rfl) V0 (λ⟨⟨l,alone,_⟩,_⟩=>hb l alone ())
def Zyx:List (FuncId×Fs U):=[(99,Z6d)]
def ZHD:Za U:=lvk [([0,1,4],[4,((.x 0),[])]),([0,1,4,5],[4,5,((.x 0),[])]),([0,1,4,5,17],[4,5,((.x 0),[])]),([4,5],[4,5,((.x 0),[])]),([4],[4,((.x 0),[])]),([0,1,4,5,6,7],[4,5,6,7,((.x 0),[])]),([0,1,4,5,6,7,31],[4,5,6,7,((.x 0),[])]),([0,4,6,7],[4,6,7,((.x 0),[])]),([0,4,6,7],[4,6,7,((.x 0),[])]),([4,6],[4,6,((.x 0),[])]),([4],[4,((.x 0),[])])]
abbrev A98(p:List Nat):=AW (Z2 Zyx) Tryz.f98 ZHD p
theorem ZML(l:List Op)(alone n:Int)(Q:QT)(h:∀d,d=(List.getD l (Int.toNat 0) Op.nil)->∀ab,ab=d->∀aa,aa=(d.e)->let z0:=List.drop (Int.toNat 1) l;(((0:Int)<=0/\0<(l.length:Int))/\((Zdm (ab,()))/\(iB (decide (((Z4 ab):Int)<=n)) (((0:Int)<=1/\1<=(l.length:Int))/\(Q .ret (L2 [pL 4] [(.loc 4,(enc .op d)),(.x 0,[sU .op z0 .unk,ci alone])]))) ((iB (d.kind==0) ((InR (d.n-n))/\(((0:Int)<=1/\1<=(l.length:Int))/\((([(OpOf.mk d.kind (d.n-n) d.l aa)]).length+z0.length)*240<=140737488355328)/\(Q .ret (L2 [pL 4] [(.loc 4,([ci d.kind,ci n,sU .tree d.l .unk]++enc .edit d.e)),(.x 0,[sU .op (([(OpOf.mk d.kind (d.n-n) d.l aa)])++z0) (.own (.x 0 0)),ci alone])])))) (((0:Int)<=n/\n<=(d.l.length:Int))/\(n=n)/\((0:Int)<=n/\n<=(d.l.length:Int))/\(((0:Int)<=1/\1<=(l.length:Int))/\((([(OpOf.mk d.kind d.n (List.drop n.toNat d.l) aa)]).length+z0.length)*240<=140737488355328)/\(Q .ret (L2 [pL 4] [(.loc 4,([ci d.kind,ci d.n,sU .tree (List.take n.toNat d.l) .full]++enc .edit d.e)),(.x 0,[sU .op (([(OpOf.mk d.kind d.n (List.drop n.toNat d.l) aa)])++z0) (.own (.x 0 0)),ci alone])])))))))))):A98 [] (L2 [(0,.ptr (.x 0) 0),pI 1 n] [(.x 0,[sU .op l .unk,ci alone])]) Q:=Eq.mpr V3 (h _ rfl _ (JA _) _ (Zj _))
def ZJr(l:List Op)(alone n:Int):Prop:=AW (Z2 Zyx) Tryz.f98 ZHD [] (Zg (ZqL.can ((l,alone,()),n,())) (ZqL.canX ((l,alone,()),n,()))) (EQ Tryz.f98 (Zmc ((l,alone,()),n,())) (ZfH ((l,alone,()),n,())))
theorem ZGC(c99:CT 99 Z6d)(hb:∀(l:List Op)(alone:Int)(n:Int)(_:Unit),ZfQ ((l,alone,()),n,())->ZJr l alone n):CT 98 Zf1:=Y9 (l:=[(99,Z6d)]) Zf rfl (⟨c99,trivial⟩) ZHD Tryz.func98 rfl rfl 2 (λ_=>rfl) V0 (λ⟨⟨l,alone,_⟩,n,_⟩=>hb l alone n ())
def ZyI:List (FuncId×Fs U):=[(97,Zf2),(98,Zf1),(99,Z6d),(100,Z3D)]
def ZHO:Za U:=lvk [([0,1],[((.x 0),[]),((.x 1),[])]),([0,1,(6,[.own .piece])],[((.x 0),[]),((.x 1),[])]),([0,1,6,7],[((.x 0),[]),((.x 1),[])]),([0,1,(6,[.own .piece])],[((.x 0),[]),((.x 1),[])]),([0,1,6,33],[((.x 0),[]),((.x 1),[])]),([0,1,(6,[.own .piece])],[((.x 0),[]),((.x 1),[])]),([0,1,6,49],[((.x 0),[]),((.x 1),[])]),([0,1,(6,[.own .piece])],[((.x 0),[]),((.x 1),[])]),([0,1,6,65],[((.x 0),[]),((.x 1),[])]),([6,76],[((.x 0),[]),((.x 1),[])]),([4,5],[((.x 0),[]),((.x 1),[])]),([4,5],[((.x 0),[]),((.x 1),[])])]
def Z4N(pl:List Op)(pa:Int)(ql:List Op)(qa:Int)(mx0_0 mx1_0:List Op)(mx1_1:Int)(d:List Piece):LSt U:=(L2 [(0,.ptr (.x 0) 0),(1,.ptr (.x 1) 0),(6,.c (sU .piece d (.own (.e 6 0))))] [(.x 0,[sU .op mx0_0 .unk,ci pa]),(.x 1,[sU .op mx1_0 .unk,ci mx1_1])])
abbrev A80(p:List Nat):=AW (Z2 ZyI) Tryz.f80 ZHO p
theorem ZN2(pl:List Op)(pa:Int)(ql:List Op)(qa:Int)(Q:QT)(h:(Zk (A80 [1,1,0,0]) (Z4N pl pa ql qa pl ql qa []) (xB 0 Q))):A80 [] (L2 [(0,.ptr (.x 0) 0),(1,.ptr (.x 1) 0)] [(.x 0,[sU .op pl .unk,ci pa]),(.x 1,[sU .op ql .unk,ci qa])]) Q:=Eq.mpr V3 h
theorem ZBg(pl:List Op)(pa:Int)(ql:List Op)(qa:Int)(mx0_0 mx1_0:List Op)(mx1_1:Int)(x6:List Piece)(N0:NT)(Q:QT)(h:∀al,al=(List.getD mx0_0 (Int.toNat 0) Op.nil)->∀ao,ao=(List.getD mx1_0 (Int.toNat 0) Op.nil)->∀ai,ai=(Edit.mk 0 (Tree.mk 0 [] []) (Tree.mk 0 [] []) [] [] 0 [])->∀am,am=(List.getD (bif(!(decide (mx0_0.length=0)))then mx1_0 else mx1_0) (Int.toNat 0) Op.nil)->∀d,d=al->∀ae,ae=ao->∀aa,aa=am->∀ak,ak=(Zx (mx0_0.getD 0 Op.nil) (Z4 d))->∀aj,aj=(Zx (mx1_0.getD 0 Op.nil) (Z4 ae))->∀af,af=(Zx (mx0_0.getD 0 Op.nil) (if((Z4 aa):Int)<(Z4 d)then(Z4 aa)else(Z4 d)))->∀ab,ab=(Zx ((bif(!(decide (mx0_0.length=0)))then mx1_0 else mx1_0).getD 0 Op.nil) (if((Z4 aa):Int)<(Z4 d)then(Z4 aa)else(Z4 d)))->let z5:=Z4d ((mx0_0,pa,()),());let z4:=Piece.mk 2 (OpOf.mk 0 0 [] ai) aj;let z3:=Piece.mk 1 ak (OpOf.mk 0 0 [] ai);let z0:=decide (mx0_0.length=0);let z2:=bif(!z0)then mx1_1 else mx1_1;let z1:=bif(!z0)then mx1_0 else mx1_0;(Z4d ((mx0_0,pa,()),()))/\(iB (sgl pa mx0_0) (((0:Int)<=0/\0<(mx0_0.length:Int))/\(Zdm (d,()))/\(ZfQ ((mx0_0,pa,()),(Z4 d),()))/\((x6.length+([z3]).length)*488<=140737488355328)/\(N0 (Z4N pl pa ql qa (ZB mx0_0 (Z4 d)) mx1_0 mx1_1 (x6++([z3]))))) ((Z4d ((mx1_0,mx1_1,()),()))/\(iB (sgl mx1_1 mx1_0) (((0:Int)<=0/\0<(mx1_0.length:Int))/\(Zdm (ae,()))/\(ZfQ ((mx1_0,mx1_1,()),(Z4 ae),()))/\((x6.length+([z4]).length)*488<=140737488355328)/\(N0 (Z4N pl pa ql qa mx0_0 (ZB mx1_0 (Z4 ae)) mx1_1 (x6++([z4]))))) (z5/\(Tt (!z0))/\((!z0)=true->Z4d ((mx1_0,mx1_1,()),()))/\(z0=false->(!z0)=true)/\(iB (bif z0 then true else(decide (mx1_0.length=0))) (z5/\(Z4d ((z1,z2,()),()))/\(iB (z0 !=(decide (z1.length=0))) ((Q .ret (L2 [(4,.c (.nils)),pB 5 false] [(.x 0,[sU .op mx0_0 .unk,ci pa]),(.x 1,[sU .op z1 .unk,ci z2])]))) ((Q .ret (L2 [(4,.c (sU .piece x6 (.own (.e 4 0)))),pB 5 true] [(.x 0,[sU .op mx0_0 .unk,ci pa]),(.x 1,[sU .op z1 .unk,ci z2])]))))) (((0:Int)<=0/\0<(mx0_0.length:Int))/\(Zdm (d,()))/\((0:Int)<=0/\0<(z1.length:Int))/\(Zdm (aa,()))/\((ZfQ ((mx0_0,pa,()),(if((Z4 aa):Int)<(Z4 d)then(Z4 aa)else(Z4 d)),()))/\(ZfQ ((z1,z2,()),(if((Z4 aa):Int)<(Z4 d)then(Z4 aa)else(Z4 d)),()))/\((x6.length+([(Piece.mk 0 af ab)]).length)*488<=140737488355328)/\(N0 (Z4N pl pa ql qa (ZB mx0_0 (if((Z4 aa):Int)<(Z4 d)then(Z4 aa)else(Z4 d))) (ZB z1 (if((Z4 aa):Int)<(Z4 d)then(Z4 aa)else(Z4 d))) z2 (x6++([(Piece.mk 0 af ab)])))))))))))):A80 [1,1,0,0] (Z4N pl pa ql qa mx0_0 mx1_0 mx1_1 x6) (xT N0 (xB 0 Q)):=Eq.mpr V3 (h _ rfl _ rfl _ rfl _ rfl _ (JA _) _ (JA _) _ (JA _) _ (JA _) _ (JA _) _ (JA _) _ (JA _))
def ZJI(pl:List Op)(pa:Int)(ql:List Op)(qa:Int):Prop:=AW (Z2 ZyI) Tryz.f80 ZHO [] (Zg (ZqQ.can ((pl,pa,()),(ql,qa,()),())) (ZqQ.canX ((pl,pa,()),(ql,qa,()),()))) (EQ Tryz.f80 (ZrF ((pl,pa,()),(ql,qa,()),())) (ZjZ ((pl,pa,()),(ql,qa,()),())))
theorem ZGS(c97:CT 97 Zf2)(c98:CT 98 Zf1)(c99:CT 99 Z6d)(Zv6:CT 100 Z3D)(hb:∀(pl:List Op)(d:Int)(ql:List Op)(qa:Int)(_:Unit),ZmD ((pl,d,()),(ql,qa,()),())->ZJI pl d ql qa):CT 80 Z47:=Y9 (l:=[(97,Zf2),(98,Zf1),(99,Z6d),(100,Z3D)]) Zf rfl (⟨c97,c98,c99,Zv6,trivial⟩) ZHO Tryz.func80 rfl rfl 2 (λ_=>rfl) V0 (λ⟨⟨pl,d,_⟩,⟨ql,qa,_⟩,_⟩=>hb pl d ql qa ())
def ZyB:List (FuncId×Fs U):=[(80,Z47)]
def ZHH:Za U:=lvl [([0,1],[]),([4,5],[])]
abbrev A93(p:List Nat):=AW (Z2 ZyB) Tryz.f93 ZHH p
theorem ZMP(p q:List Op)(Q:QT)(h:((ZmD ((p,2,()),(q,2,()),()))/\(Q .ret (L2 [(4,.c (sU .piece ((Zl 2 2 p q []).1) .unk)),pB 5 ((Zl 2 2 p q []).2.1)] [])))):A93 [] (L2 [(0,.c (sU .op p .unk)),(1,.c (sU .op q .unk))] []) Q:=Eq.mpr V3 h
def ZJv(p q:List Op):Prop:=AW (Z2 ZyB) Tryz.f93 ZHH [] (Zg (ZzO.can (p,q,())) []) (EQ Tryz.f93 (ZEV (p,q,())) [])
theorem ZGG(c80:CT 80 Z47)(hb:∀(p:List Op)(q:List Op)(_:Unit),Zx6 (p,q,())->ZJv p q):CT 93 ZjD:=Z1 (l:=[(80,Z47)]) Zf rfl (⟨c80,trivial⟩) ZHH Tryz.func93 rfl rfl 2 (λ_=>rfl) V0 (λ⟨p,q,_⟩=>hb p q ())
abbrev A56(p:List Nat):=AW (Z2 ZyB) Tryz.f56 ZHH p
theorem ZNn(p q:List Op)(Q:QT)(h:((ZmD ((p,1,()),(q,2,()),()))/\(Q .ret (L2 [(4,.c (sU .piece ((Zl 1 2 p q []).1) .unk)),pB 5 ((Zl 1 2 p q []).2.1)] [])))):A56 [] (L2 [(0,.c (sU .op p .unk)),(1,.c (sU .op q .unk))] []) Q:=Eq.mpr V3 h
def ZK3(p q:List Op):Prop:=AW (Z2 ZyB) Tryz.f56 ZHH [] (Zg (ZzO.can (p,q,())) []) (EQ Tryz.f56 (ZFa (p,q,())) [])
theorem ZHb(c80:CT 80 Z47)(hb:∀(p:List Op)(q:List Op)(_:Unit),Zx6 (p,q,())->ZK3 p q):CT 56 Z5e:=Z1 (l:=[(80,Z47)]) Zf rfl (⟨c80,trivial⟩) ZHH Tryz.func56 rfl rfl 2 (λ_=>rfl) V0 (λ⟨p,q,_⟩=>hb p q ())
end
theorem Zxv{o:Op}(h:Zu o<=20000000000):o.l.length<=20000000000:=by have:=ZT o.l;rw[YE]at h;omega
theorem Z92{o:Op}(h:YD o):0<=o.n/\o.n<=1048576:=by unfold YD at h;omega
theorem JJ(o:Op):Z4 o=if o.kind=3 then 1 else o.n+o.l.length:=rfl
theorem c99:Contract Tryz.prog cfg 99 Z6d:=by refine ZGB ?_;intro o _ hp;simp only[Zdm]at hp;have hl:=Zxv hp.1;refine ZMK _ _ ?_;(try simp only[iB,vcT,forall_eq]);(simp only[iB,vcS]);(try simp only[iB,vcT]);exact⟨λd=>ZJ rfl (by rw[JJ,if_pos d]),λd=>⟨V2,ZJ rfl (by rw[JJ,if_neg d])⟩⟩
theorem Zv6:Contract Tryz.prog cfg 100 Z3D:=by
 refine ZDd ?_;intro l al _ d;refine ZLq _ _ _ ?_;(try simp only[iB,vcT,forall_eq]);have e:((l.length:Int)==0)=decide (l.length=0):=by rw[QP];(simp only[iB,vcS]);omega
 rw[e];exact YH
theorem c97:Contract Tryz.prog cfg 97 Zf2:=by
 refine ZGD Zv6 ?_;intro l d _ hp;refine ZMM _ _ _ ?_;(try simp only[iB,vcT,forall_eq]);have e:(bif(!(decide (l.length=0)))then((OpOf.kind (List.getD l (Int.toNat 0) Op.nil))==d)else false)=sgl d l:=by
  rw[QP];simp only[sgl];(simp only[iB,vcS]);try rfl
 rw[e];refine⟨hp,λh=>⟨Yp,?_⟩,YH⟩;grind
theorem c93(c80:Contract Tryz.prog cfg 80 Z47):Contract Tryz.prog cfg 93 ZjD:=by refine ZGG c80 ?_;intro p q _ d;refine ZMP _ _ _ ?_;(try simp only[iB,vcT,forall_eq]);refine⟨d,?_⟩;exact YH
theorem c56(c80:Contract Tryz.prog cfg 80 Z47):Contract Tryz.prog cfg 56 Z5e:=by refine ZHb c80 ?_;intro p q _ d;refine ZNn _ _ _ ?_;(try simp only[iB,vcT,forall_eq]);refine⟨d,?_⟩;exact YH
theorem c98:Contract Tryz.prog cfg 98 Zf1:=by
 refine ZGC c99 ?_;intro l al n _ hp;simp only[ZfQ]at hp;obtain⟨⟨ho,hm⟩,hl,h1,h2⟩:=hp;have d:=Ze (l:=l) (i:=0) Yp Op.nil;have ae:=ho _ d;have am:=Jv d;have aj:=YG l;refine ZML _ _ _ _ ?_;(try simp only[iB,vcT]);rintro y rfl _ rfl _ rfl;have e0:(Int.toNat 0)=0:=rfl;have e1:(Int.toNat 1)=1:=rfl;simp only[e0,e1];have hT:∀o r,Zx (l.getD 0 Op.nil) n=o->ZB l n=r->True:=λ_ _ _ _=>trivial;have ah:=Z92 ae;have ao:=JJ (l.getD 0 Op.nil);(simp only[iB,vcS]);generalize hy:l.getD 0 Op.nil=y at*;refine⟨⟨Yp,Yp⟩,⟨by grind,ah⟩,λhc=>⟨⟨Yp,Yp⟩,?_⟩,λhc=>⟨λhk=>⟨V2,⟨Yp,Yp⟩,by simp;omega,?_⟩,λhk=>?_⟩⟩
 .have t1:Zx y n=y:=by rw[Zx,if_pos hc]
  have t2:ZB l n=l.drop 1:=by rw[ZB,hy,if_pos hc]
  simp only[Zmc,ZfH,hy,t1,t2];exact YH
 .have t1:Zx y n=⟨y.kind,n,y.l,y.e⟩:=by rw[Zx,if_neg hc,if_pos hk]
  have t2:ZB l n=⟨y.kind,y.n-n,y.l,y.e⟩::l.drop 1:=by rw[ZB,hy,if_neg hc,JR,if_pos hk]
  simp only[Zmc,ZfH,hy,t1,t2];exact YH
 .have t1:Zx y n=⟨y.kind,y.n,y.l.take n.toNat,y.e⟩:=by rw[Zx,if_neg hc,if_neg hk]
  have t2:ZB l n=⟨y.kind,y.n,y.l.drop n.toNat,y.e⟩::l.drop 1:=by rw[ZB,hy,if_neg hc,JR,if_neg hk]
  simp only[Zmc,ZfH,hy,t1,t2];unfold YD at ae;refine⟨?_,?_,⟨Yp,Yp⟩,by simp;omega,?_⟩;.omega
  .omega
  ·exact YH
theorem J9(n:Nat):∀(l:List Tree),Z5 (l.drop n)<=Z5 l:=by induction n with|zero=>intro l;simp|succ n ih=>intro l;cases l with|nil=>simp|cons t r=>simp only[Qw,Z5];grind
theorem Z5v(n:Nat):∀(l:List Tree),Z5 (l.take n)<=Z5 l:=by induction n with|zero=>intro l;simp[Z5]|succ n ih=>intro l;cases l with|nil=>simp|cons t r=>simp only[Kf,Z5];grind
theorem Ya{o:Op}(h:YD o):1<=Z4 o:=by have:=JJ o;unfold YD at h;have hl:o.l≠[]->0<o.l.length:=XH.2;grind
theorem Zap{o:Op}(h:YD o)(hm:Zu o<=20000000000):Z4 o<=20000000000:=by have:=JJ o;have:=Zxv hm;have:=Z92 h;unfold YD at h;grind
theorem Z6N(o:Op)(r:List Op):Zh (o::r)=Zu o+Zh r:=rfl
theorem Z7A{l:List Op}(h:Z6H l):Z6H (l.drop 1):=by cases l with|nil=>exact h|cons o r=>obtain⟨d,h2⟩:=h;rw[Z6N]at h2;exact⟨λx hx=>d x (Q3 _ hx),by grind⟩
theorem Zcq{l:List Op}(h:Z6H l)(hl:l.length≠0):YD (l.getD 0 Op.nil)/\Zu (l.getD 0 Op.nil)<=20000000000/\Zu (l.getD 0 Op.nil)<=Zh l:=by have d:=Ze (l:=l) (i:=0) Yp Op.nil;have:=Jv d;exact⟨h.1 _ d,by have:=h.2;omega,this⟩
theorem Zh6{o:Op}{n:Int}(h:YD o)(h1:1<=n)(h2:¬Z4 o<=n):YD (JR o n)/\Zu (JR o n)<=Zu o:=by
 have hl:=JJ o;unfold JR;unfold YD at*;by_cases hk:o.kind=0
 .rw[if_pos hk];refine⟨Or.inl ?_,by simp only[YE];omega⟩;grind
 .rw[if_neg hk];have:=J9 n.toNat o.l;refine⟨Or.inr ?_,by simp only[YE];omega⟩;rcases h with h|h|h;.omega
  .obtain⟨a,b,c,d⟩:=h;rw[JH]at hl;refine Or.inl ⟨a,b,?_,d⟩;intro he;have:=congrArg List.length he;grind
  omega
theorem Zg7{l:List Op}{n:Int}(h:Z6H l)(hl:l.length≠0)(h1:1<=n):Z6H (ZB l n):=by
 unfold ZB;split;.exact Z7A h
 .rename_i hc;obtain⟨a,b,c⟩:=Zcq h hl;obtain⟨d,e⟩:=Zh6 a h1 hc;have hd:=Z7A h;refine⟨λx hx=>?_,?_⟩
  .rcases Q9.1 hx with rfl|hx;.exact d
   .exact hd.1 _ hx
  .rw[Z6N];obtain _|⟨o,r⟩:=l;.simp at hl
   .have:=h.2;rw[Z6N]at this;grind
theorem ZhK(l:List Op):ZB l (Z4 (l.getD 0 Op.nil))=l.drop 1:=by rw[ZB,if_pos (QY _)]
theorem ZhM(o:Op):Zx o (Z4 o)=o:=by rw[Zx,if_pos (QY _)]
theorem Zrj{a:Int}{l:List Op}(h:sgl a l=true):l.length≠0:=(of_decide_eq_true h).1
theorem Zhw{α:Type}(b:Bool)(x:α):(bif b then x else x)=x:=by grind
theorem c80:Contract Tryz.prog cfg 80 Z47:=by
 refine ZGS c97 c98 c99 Zv6 ?_;intro pl pa ql qa _ hp;simp only[ZmD]at hp;have bi:=YG pl;have bo:=YG ql;have hP:=hp.1.2;have hQ:=hp.2.2;refine ZN2 _ _ _ _ _ ?_;(try simp only[iB,vcT,forall_eq]);refine Z6 (ι:=List Op×List Op×List Piece) (λs=>Z4N pl pa ql qa s.1 s.2.1 qa s.2.2) (λs=>Z6H s.1/\Z6H s.2.1/\s.2.2.length+s.1.length+s.2.1.length<=40000000000/\Zl pa qa s.1 s.2.1 s.2.2=Zl pa qa pl ql []) (λs=>s.1.length+s.2.1.length) (pl,ql,[]) rfl ⟨hp.1,hp.2,by simp;omega,rfl⟩ ?_;rintro⟨p,q,out⟩⟨h1,h2,h3,d⟩;refine ZBg _ _ _ _ _ _ _ _ _ _ ?_;(try simp only[iB,vcT]);have e0:(Int.toNat 0)=0:=rfl;simp only[e0,Zhw];dsimp only at h1 h2 h3 d;rintro z1 ak z2 ae y3 be z4 a8 y1 rfl y2 rfl y4 rfl y8 av y9 aw a7 af ba aj;have ey:y4=y2:=a8.trans ae.symm;rw[ey]at af aj⊢;have e3:(OpOf.mk 0 0 [] y3:Op)=Op.nil:=by rw[be];try rfl
 rw[<-ak,ZhM]at av;rw[<-ae,ZhM]at aw;have ah:∀a b:Int,(if a<b then a else b)=min b a:=by intro a b;omega
 rw[<-ak,ah]at af;rw[<-ae,ah]at aj;simp only[ah,e3,av,aw];(simp only[iB,vcS]);have o1:p.length≠0->YD y1/\Zu y1<=20000000000:=λh=>by have:=Zcq h1 h;grind
 have o2:q.length≠0->YD y2/\Zu y2<=20000000000:=λh=>by have:=Zcq h2 h;grind
 have tp:ZB p (Z4 y1)=p.drop 1:=by rw[ak];exact ZhK p
 have tq:ZB q (Z4 y2)=q.drop 1:=by rw[ae];exact ZhK q
 have bk:=YG p;have bq:=YG q;have bn:=h1.2;have bu:=h2.2;rw[Zl]at d;rw[<-ak,<-ae]at d;refine⟨by simp only[Z4d];omega,λhs=>?_,λhs=>?_⟩
 .have hl:=Zrj hs;obtain⟨oa,ob⟩:=o1 hl;have oc:=Ya oa;have od:=Zap oa ob;rw[dif_pos hs]at d;refine⟨⟨Yp,Yp⟩,⟨ob,Z92 oa⟩,⟨h1,hl,oc,by grind⟩,by simp;omega,(p.drop 1,q,out++[⟨1,y1,Op.nil⟩]),by rw[tp],⟨Z7A h1,h2,by simp;omega,d⟩,by simp;omega⟩
 .rw[dif_neg (by grind)]at d;refine⟨by simp only[Z4d];omega,λar=>?_,λar=>?_⟩;.have hl:=Zrj ar;obtain⟨oa,ob⟩:=o2 hl;have oc:=Ya oa;have od:=Zap oa ob;rw[dif_pos ar]at d;refine⟨⟨Yp,Yp⟩,⟨ob,Z92 oa⟩,⟨h2,hl,oc,by grind⟩,by simp;omega,(p,q.drop 1,out++[⟨2,Op.nil,y2⟩]),by rw[tq],⟨h1,Z7A h2,by simp;omega,d⟩,by simp;omega⟩
  .rw[dif_neg (by grind)]at d;refine⟨by simp only[Z4d];omega,λ_=>by simp only[Z4d];omega,λh=>h,λhd=>⟨by simp only[Z4d];omega,by simp only[Z4d];omega,λhe=>?_,λhe=>?_⟩,λhd=>?_⟩;.rw[dif_pos hd,if_neg he]at d;simp only[ZrF,ZjZ,<-d];exact YH
   .rw[dif_pos hd,if_pos he]at d;simp only[ZrF,ZjZ,<-d];exact YH
   .obtain⟨oa,ob⟩:=o1 hd.1;obtain⟨oc,od⟩:=o2 hd.2;have a1:=Ya oa;have a2:=Zap oa ob;have a3:=Ya oc;have a4:=Zap oc od;rw[dif_neg Yp,<-af,<-aj]at d;have c1:=Y5 p (min (Z4 y1) (Z4 y2)) hd.1;have c2:=Y5 q (min (Z4 y1) (Z4 y2)) hd.2;have c3:Z4 y1<=min (Z4 y1) (Z4 y2)->(ZB p (min (Z4 y1) (Z4 y2))).length<p.length:=λh=>Y4 p _ hd.1 (by grind);have c4:Z4 y2<=min (Z4 y1) (Z4 y2)->(ZB q (min (Z4 y1) (Z4 y2))).length<q.length:=λh=>Y4 q _ hd.2 (by grind);refine⟨⟨Yp,Yp⟩,⟨ob,Z92 oa⟩,⟨Yp,Yp⟩,⟨od,Z92 oc⟩,⟨h1,hd.1,by grind,by grind⟩,⟨h2,hd.2,by grind,by grind⟩,by simp;omega,(ZB p (min (Z4 y1) (Z4 y2)),ZB q (min (Z4 y1) (Z4 y2)),out++[⟨0,a7,ba⟩]),rfl,⟨Zg7 h1 hd.1 Yp,Zg7 h2 hd.2 Yp,by simp;omega,d⟩,by grind⟩
theorem Zzn{α:Type}{a b:α}(h:¬a=b):eqX a b=false:=by rw[<-Kw,Z82];exact h
def vu(u:AUnit):Op×Bool:=(opU u,u.alone)
def vs(a:Int)(o:Op):List (Op×Bool):=(Zjx 0 a o).map vu
theorem Z9n{a n:Int}{o:Op}(h:YD o)(h1:1<=n)(hn:¬Z4 o<=n):vs a o=vs a (Zx o n)++vs a (JR o n)/\YD (Zx o n)/\Z4 (Zx o n)=n/\Zu (Zx o n)<=Zu o:=by
 have hl:=JJ o;rcases h with⟨k0,k1,k2,k3⟩|⟨k0,k1,k2,k3⟩|⟨k0,k1,k2⟩
 .have d:Zx o n=⟨o.kind,n,o.l,o.e⟩:=by rw[Zx,if_neg hn,if_pos k0]
  have e2:JR o n=⟨o.kind,o.n-n,o.l,o.e⟩:=by rw[JR,if_pos k0]
  rw[JH,k1]at hl;simp only[Qm]at hl;rw[d,e2];refine⟨?_,Or.inl ⟨k0,k1,by grind,k3⟩,?_,by simp[YE]⟩
  .simp only[vs,Zjx,k0,k1];simp only[if_true,Ka,Qh,Xb,List.map_replicate];rw[if_neg V0];simp only[Ka,Qi];rw[List.replicate_append_replicate];grind
  .rw[JJ];grind
 .have d:Zx o n=⟨o.kind,o.n,o.l.take n.toNat,o.e⟩:=by rw[Zx,if_neg hn,JH]
  have e2:JR o n=⟨o.kind,o.n,o.l.drop n.toNat,o.e⟩:=by rw[JR,JH]
  rw[JH]at hl;have hm:=Z5v n.toNat o.l;rw[d,e2];refine⟨?_,Or.inr (Or.inl ⟨k0,k1,?_,k3⟩),?_,by simp only[YE];omega⟩;.simp only[vs,Zjx];rw[JH,JH];simp_all
  .intro he;have:=congrArg List.length he;grind
  .rw[JJ];grind
 omega
theorem Yn{a:Int}{l:List Op}:sgl a l=true↔(l.length≠0/\(l.getD 0 Op.nil).kind=a):=by unfold sgl;grind
theorem Z33(o:Op)(n:Int):(Zx o n).kind=o.kind:=by unfold Zx;grind
theorem ZmZ{t:Tree}(h:Z0i t=true):t=Tree.nil:=by obtain⟨k,w,ks⟩:=t;have:=of_decide_eq_true h;simp at this;obtain⟨rfl,rfl,rfl⟩:=this;try rfl
theorem ZhR{e:Edit}(h:Z36 e=true):e=Edit.nil:=by obtain⟨d,h2,h3,h4,h5,h6,h7⟩:=Zwc h;obtain⟨k,o,n,w,ks,l,os⟩:=e;simp at d h2 h3 h4 h5 h6 h7;subst d h4 h5 h6 h7;rw[ZmZ h2,ZmZ h3];try rfl
theorem Z8P{list:Int}{o:Op}{d:Int}(h:Z9 list o d=true):YD o:=by
 rw[Z16]at h;unfold YD;split at h
 .rename_i h0;simp only[Q2,decide_eq_true_eq]at h;exact Or.inl ⟨h0,Xk.1 h.1.2.2,⟨h.1.1,h.1.2.1⟩,ZhR h.2⟩
 .split at h;.cases h
  .rename_i h0 h1;split at h;.simp only[Q2,decide_eq_true_eq]at h;refine Or.inr (Or.inl ⟨Yp,Yp,?_,ZhR h.2⟩);grind
   grind
end Go.AM.YtnfbomhidainjaaGreat
namespace Go.AM
def Z4M(list:Int)(e:Edit):Bool:=decide (e.kind=0\/(list=9/\e.kind=2/\e.words.length=0/\e.kids.length=0))
def Z7(l:List Tree):List Tree:=l.map Z0
def Z6a(w:WEdit):WEdit:=⟨w.at_,w.mask,w.new,w.old⟩
mutual def Y2:Edit->Edit|.mk k o n w ks l os=>.mk k n o (w.map Z6a) (Z0L ks) l (JS os)def Z0L:List (KidOf Edit)->List (KidOf Edit)|[]=>[]|k::r=>Z2O k::Z0L r def Z2O:KidOf Edit->KidOf Edit|⟨a,e⟩=>⟨a,Y2 e⟩def JS:List (OpOf Edit)->List (OpOf Edit)|[]=>[]|o::r=>Je o::JS r def Je:OpOf Edit->OpOf Edit|⟨k,n,l,e⟩=>if k=1 then⟨2,n,l,e⟩else if k=2 then⟨1,n,l,e⟩else if k=3 then⟨k,n,l,Y2 e⟩else⟨k,n,l,e⟩end
def ZK{α:Type}(z:α)(l:List α)(i:Nat)(x:α):List α:=(l++List.replicate (i+1-l.length) z).set i x
def wsD(tw:List Int):List WEdit->List Int->Option (List Int)|[],out=>some out|w::r,out=>if mix 0 (tw.getD w.at_.toNat 0) w.mask=w.old then wsD tw r (ZK 0 out w.at_.toNat (mix (tw.getD w.at_.toNat 0) w.new w.mask))else none
noncomputable def Z05(l rest:List Tree):Bool:=decide (l.length<=rest.length)&&eqX (Z7 l) (Z7 (rest.take l.length))
def Z5J(r:Option (List Tree×List Tree)):Option (List Tree):=r.bind λx=>if x.2.length=0 then some x.1 else none
def nrD(r:Bool)(t:Tree):Tree:=if r then Z0 t else t
mutual noncomputable def doE(r:Bool):Edit->Tree->Option Tree|.mk k o n w ks l os,t=>(if k=0 then some t else if k=1 then(if ZN (Z0 o) (Z0 t)=true then some n else none)else if k=2 then(if t.kind=1 then(wsD t.words w t.words).bind λa=>(Z0c r t.kids ks t.kids).map λb=>.mk 1 a b else none)else if k=3 then(if t.kind=l then(Z5J (Y6 r os t.kids [])).map λb=>.mk l [] b else none)else none).map (nrD r)noncomputable def Z0c(r:Bool)(tk:List Tree):List (KidOf Edit)->List Tree->Option (List Tree)|[],out=>some out|k::s,out=>(Z3o r tk k).bind λu=>Z0c r tk s (ZK Tree.nil out k.at_.toNat u)noncomputable def Z3o(r:Bool)(tk:List Tree):KidOf Edit->Option Tree|⟨a,e⟩=>doE r e (tk.getD a.toNat Tree.nil)noncomputable def Y6(r:Bool):List (OpOf Edit)->List Tree->List Tree->Option (List Tree×List Tree)|[],rest,out=>some (out,rest)|o::s,rest,out=>(Z5L r o rest out).bind λx=>Y6 r s x.2 x.1 noncomputable def Z5L(r:Bool):OpOf Edit->List Tree->List Tree->Option (List Tree×List Tree)|⟨k,n,l,e⟩,rest,out=>if k=0 then(if n.toNat<=rest.length then some (out++rest.take n.toNat,rest.drop n.toNat)else none)else if k=1 then(if Z05 l rest=true then some (out,rest.drop l.length)else none)else if k=2 then some (out++l,rest)else if rest.length=0 then none else(doE r e (rest.getD 0 Tree.nil)).map λu=>(out++[u],rest.drop 1)end
theorem Jj(r:Bool)(e:Edit)(t:Tree):doE r e t=(if e.kind=0 then some t else if e.kind=1 then(if ZN (Z0 e.old) (Z0 t)=true then some e.new else none)else if e.kind=2 then(if t.kind=1 then(wsD t.words e.words t.words).bind λa=>(Z0c r t.kids e.kids t.kids).map λb=>.mk 1 a b else none)else if e.kind=3 then(if t.kind=e.list then(Z5J (Y6 r e.ops t.kids [])).map λb=>.mk e.list [] b else none)else none).map (nrD r):=by cases e;rfl
noncomputable def Zu7(r:Bool)(e:Edit)(t:Tree):Option Tree:=if e.kind=0 then some t else if e.kind=1 then(if ZN (Z0 e.old) (Z0 t)=true then some e.new else none)else if e.kind=2 then(if t.kind=1 then(wsD t.words e.words t.words).bind λa=>(Z0c r t.kids e.kids t.kids).map λb=>.mk 1 a b else none)else if e.kind=3 then(if t.kind=e.list then(Z5J (Y6 r e.ops t.kids [])).map λb=>.mk e.list [] b else none)else none
theorem ZbE(r:Bool)(e:Edit)(t:Tree):doE r e t=(Zu7 r e t).map (nrD r):=Jj r e t
theorem Z7e(r:Bool)(tk:List Tree)(k:Kid):Z3o r tk k=doE r k.e (tk.getD k.at_.toNat Tree.nil):=by cases k;rfl
theorem Yo(r:Bool)(o:Op)(rest out:List Tree):Z5L r o rest out=if o.kind=0 then(if o.n.toNat<=rest.length then some (out++rest.take o.n.toNat,rest.drop o.n.toNat)else none)else if o.kind=1 then(if Z05 o.l rest=true then some (out,rest.drop o.l.length)else none)else if o.kind=2 then some (out++o.l,rest)else if rest.length=0 then none else(doE r o.e (rest.getD 0 Tree.nil)).map λu=>(out++[u],rest.drop 1):=by cases o;rfl
noncomputable def Ze6(r:Bool)(e:Edit)(t:Tree):Option Tree:=if t.kind=1 then(wsD t.words e.words t.words).bind λa=>(Z0c r t.kids e.kids t.kids).map λb=>.mk 1 a b else none
noncomputable def Z8c(r:Bool)(e:Edit)(t:Tree):Option (List Tree×List Tree):=if t.kind=e.list then Y6 r e.ops t.kids []else none
def Z1m(o:Option Tree):Tree:=o.getD Tree.nil
def Zyi(e:Edit)(o:Option (List Tree×List Tree)):Tree:=match o with|some x=>.mk e.list [] x.1|none=>Tree.nil
noncomputable def Ze8(e:Edit)(t:Tree):Tree:=if e.kind=0 then t else if e.kind=1 then e.new else if e.kind=2 then Z1m (Ze6 false e t)else if e.kind=3 then Zyi e (Z8c false e t)else Tree.nil
theorem Y1(o:Option Tree):o.map (nrD false)=o:=by cases o<;>rfl
theorem Zco{e:Edit}{t u:Tree}(h:doE false e t=some u):Ze8 e t=u:=by
 rw[Jj,Y1]at h;unfold Ze8;split;.grind
 .rename_i h0;rw[if_neg h0]at h;split;.grind
  .rename_i h1;rw[if_neg h1]at h;split;.rename_i d;rw[if_pos d]at h;unfold Z1m Ze6;rw[h];try rfl
   .rename_i d;rw[if_neg d]at h;split
    .rename_i h3;rw[if_pos h3]at h;unfold Zyi Z8c;split at h;.rename_i h4;rw[if_pos h4];revert h;cases Y6 false e.ops t.kids []with|none=>intro h;cases h|some x=>intro h;simp only[Z5J,Qr]at h;grind
     .cases h
    grind
def Z1O(m:Nat):Nat->Nat|0=>0|i+1=>Z1O m i+if m/2^i%2=1 then 255*2^(8*i)else 0
def Zhg:Nat->Nat->Nat|0,_=>0|k+1,m=>(if m%2=1 then 255 else 0)+256*Zhg k (m/2)
def Zds:Nat->Nat->Nat->Nat|0,_,_=>0|k+1,a,m=>(if m%2=1 then a%256 else 0)+256*Zds k (a/256) (m/2)
def Zn4:Nat->Nat->Nat->Nat->Nat|0,_,_,_=>0|k+1,a,b,m=>(if m%2=1 then b%256 else a%256)+256*Zn4 k (a/256) (b/256) (m/2)
theorem Zvb(x y u v:Nat)(hu:u<256)(hv:v<256):(u+256*x)&&&(v+256*y)=(u&&&v)+256*(x&&&y):=by have h:u&&&v<256:=Nat.and_lt_two_pow (n:=8) u hv;apply Nat.eq_of_testBit_eq;intro j;rw[XD u,XD v,XD (u&&&v),Nat.testBit_and];rw[show(256:Nat)=2^8 from rfl,Xc _ hu,Xc _ hv,Xc _ h];grind
theorem Zxu(x y u v:Nat)(hu:u<256)(hv:v<256):(u+256*x)|||(v+256*y)=(u|||v)+256*(x|||y):=by have h:u|||v<256:=Nat.or_lt_two_pow (n:=8) hu hv;apply Nat.eq_of_testBit_eq;intro j;rw[XD u,XD v,XD (u|||v),Nat.testBit_or];rw[show(256:Nat)=2^8 from rfl,Xc _ hu,Xc _ hv,Xc _ h];grind
theorem Zhc:∀(k a m:Nat),a&&&Zhg k m=Zds k a m
 |0,a,m=>by simp[Zhg,Zds]|k+1,a,m=>by
  have e:a=a%256+256*(a/256):=Yp;simp only[Zhg,Zds];rw[<-Zhc k (a/256) (m/2)];have h:a&&&((if m%2=1 then 255 else 0)+256*Zhg k (m/2))=(a%256+256*(a/256))&&&((if m%2=1 then 255 else 0)+256*Zhg k (m/2)):=by rw[<-e]
  rw[h,Zvb _ _ _ _ Yp (by grind)];congr 1;split;.have:=Nat.and_two_pow_sub_one_eq_mod (a%256) 8;grind
  .simp
theorem Zs9:∀(k a b m n:Nat),(∀i<k,m/2^i%2+n/2^i%2=1)->Zds k a n|||Zds k b m=Zn4 k a b m|0,a,b,m,n,_=>by simp[Zds,Zn4]|k+1,a,b,m,n,h=>by simp only[Zds,Zn4];have d:=h 0 Yp;simp only[Nat.pow_zero,Nat.div_one]at d;rw[Zxu _ _ _ _ (by grind) (by grind),Zs9 k (a/256) (b/256) (m/2) (n/2) (λi hi=>by have:=h (i+1) Yp;rw[Xo,Xo];grind)];grind
theorem Zr6:∀m:Fin 256,Z1O m.1 8=Zhg 8 m.1:=by decide+kernel
theorem Zvt:∀m:Fin 256,2^64-1-Zhg 8 m.1=Zhg 8 (255-m.1):=by decide+kernel
theorem ZzD:∀m:Fin 256,∀i:Fin 8,m.1/2^i.1%2+(255-m.1)/2^i.1%2=1:=by decide+kernel
theorem ZB4:∀m:Fin 256,Zhg 8 m.1<2^64:=by decide+kernel
theorem ZxM(a b m:Nat)(hm:m<256):(a&&&(2^64-1-Z1O m 8))|||(b&&&Z1O m 8)=Zn4 8 a b m:=by have d:=Zr6 ⟨m,hm⟩;have h2:=Zvt ⟨m,hm⟩;simp only at d h2;rw[d,h2,Zhc,Zhc];exact Zs9 8 a b m (255-m) (λi hi=>ZzD ⟨m,hm⟩ ⟨i,hi⟩)
def ofK:Nat->(Nat->Nat)->Nat|0,_=>0|k+1,f=>f 0+256*ofK k (λi=>f (i+1))
theorem Ziy:∀(k:Nat){f g:Nat->Nat},(∀i,f i=g i)->ofK k f=ofK k g|0,_,_,_=>rfl|k+1,f,g,h=>by simp only[ofK,h 0,Ziy k (λi=>h (i+1))]
theorem Zsf:∀(k a b m:Nat),Zn4 k a b m=ofK k (λi=>if m/2^i%2=1 then b/256^i%256 else a/256^i%256)|0,_,_,_=>rfl|k+1,a,b,m=>by simp only[Zn4,ofK,Nat.pow_zero,Nat.div_one];rw[Zsf k,Ziy k (g:=λi=>if m/2^(i+1)%2=1 then b/256^(i+1)%256 else a/256^(i+1)%256) (λi=>?_)];rw[Xo,Xo,Xo,Nat.pow_succ',Nat.pow_succ']
theorem ZxN(a b m:Nat):((Zn4 8 a b m:Nat):Int)=mix a b m:=by
 have nm:∀i:Nat,Z04 (m:Int) (i:Int)=decide (m/2^i%2=1):=by
  intro i;unfold Z04;rw[decide_eq_decide,X3];have:((m:Int)/2^i%2:Int)=((m/2^i%2:Nat):Int):=by rw[Kt,Ku,Kx];try rfl
  rw[this];omega
 have d:∀(x i:Nat),Zd (x:Int) i=((x/256^i%256:Nat):Int):=by intro x i;unfold Zd;rw[Kt,Ku,Kx];try rfl
 have mx:∀i:Nat,JP (a:Int) (b:Int) (m:Int) i=((if m/2^i%2=1 then b/256^i%256 else a/256^i%256:Nat):Int):=by
  intro i;unfold JP;rw[nm,d,d];by_cases h:m/2^i%2=1;.grind
  .grind
 rw[Zsf];generalize hf:(λi=>if m/2^i%2=1 then b/256^i%256 else a/256^i%256)=f;have hx:∀i,JP (a:Int) (b:Int) (m:Int) i=(f i:Int):=by intro i;rw[mx,<-hf]
 have e:ofK 8 f=f 0+256*(f 1+256*(f 2+256*(f 3+256*(f 4+256*(f 5+256*(f 6+256*(f 7+256*0))))))):=rfl;rw[e];simp only[mix,of8,hx];omega
structure Wst where
 out:List Op
 gone:List Tree
 brought:List Tree
def Z0R(out:List Op)(g b:List Tree):List Op:=out++((if g.length=0 then[]else[⟨1,0,g,Edit.nil⟩])++(if b.length=0 then[]else[⟨2,0,b,Edit.nil⟩]))
def Z1Q:List Op->Int->List Op|[],n=>[⟨0,n,[],Edit.nil⟩]|[o],n=>if o.kind=0 then[⟨o.kind,o.n+n,o.l,o.e⟩]else[o,⟨0,n,[],Edit.nil⟩]|o::p::r,n=>o::Z1Q (p::r) n
def Zc(w:Wst):Wst:=⟨Z0R w.out w.gone w.brought,[],[]⟩
def ZH(w:Wst)(n:Int):Wst:=⟨Z1Q (Zc w).out n,[],[]⟩
mutual def ZM:Edit->Edit|.mk k o n w ks l os=>if k=1 then .mk k (Z0 o) (Z0 n) [] [] l []else if k=2 then .mk k Tree.nil Tree.nil w (Jx ks) l []else if k=3 then .mk k Tree.nil Tree.nil [] [] l (Zc (ZP l os ⟨[],[],[]⟩)).out else .mk k Tree.nil Tree.nil [] [] l []def Jx:List (KidOf Edit)->List (KidOf Edit)|[]=>[]|k::r=>Z0O k::Jx r def Z0O:KidOf Edit->KidOf Edit|⟨a,e⟩=>⟨a,ZM e⟩def ZP(list:Int):List (OpOf Edit)->Wst->Wst|[],s=>s|o::r,s=>ZP list r (JO list o s)def JO(list:Int):OpOf Edit->Wst->Wst|⟨k,n,l,e⟩,s=>if k=0 then ZH s n else if k=1 then⟨s.out,s.gone++Z7 l,s.brought⟩else if k=2 then⟨s.out,s.gone,s.brought++Z7 l⟩else if k=3 then(if Z4M list (ZM e)=true then ZH s 1 else⟨(Zc s).out++[⟨3,0,[],ZM e⟩],[],[]⟩)else s end
theorem Z5r(e:Edit):ZM e=if e.kind=1 then .mk e.kind (Z0 e.old) (Z0 e.new) [] [] e.list []else if e.kind=2 then .mk e.kind Tree.nil Tree.nil e.words (Jx e.kids) e.list []else if e.kind=3 then .mk e.kind Tree.nil Tree.nil [] [] e.list (Zc (ZP e.list e.ops ⟨[],[],[]⟩)).out else .mk e.kind Tree.nil Tree.nil [] [] e.list []:=by cases e;rfl
theorem Zcs(k:Kid):Z0O k=⟨k.at_,ZM k.e⟩:=by cases k;rfl
theorem Z2s(list:Int)(o:Op)(s:Wst):JO list o s=if o.kind=0 then ZH s o.n else if o.kind=1 then⟨s.out,s.gone++Z7 o.l,s.brought⟩else if o.kind=2 then⟨s.out,s.gone,s.brought++Z7 o.l⟩else if o.kind=3 then(if Z4M list (ZM o.e)=true then ZH s 1 else⟨(Zc s).out++[⟨3,0,[],ZM o.e⟩],[],[]⟩)else s:=by cases o;rfl
def ZhB(a b:Int):Int:=IntKind.wrap .u8 (BitVec.ofInt (IntKind.bits .u8) a&&&BitVec.ofInt (IntKind.bits .u8) b).toNat
def orM(a b:Int):Int:=IntKind.wrap .u8 (BitVec.ofInt (IntKind.bits .u8) a|||BitVec.ofInt (IntKind.bits .u8) b).toNat
def Zl0(p q:WEdit):Bool:=decide (mix 0 p.new (ZhB p.mask q.mask)=mix 0 q.old (ZhB p.mask q.mask))
def Z0T(p q:WEdit):WEdit×Bool:=if Zl0 p q then(⟨p.at_,orM p.mask q.mask,mix q.old p.old p.mask,mix p.new q.new q.mask⟩,true)else(⟨0,0,0,0⟩,false)
def Zq{α:Type}(at_:α->Int)(one:α->α->α×Bool):List α->List α->Option (List α)|[],q=>some q|a::p,[]=>some (a::p)|a::p,b::q=>if at_ a<at_ b then(Zq at_ one p (b::q)).map (a::·)else if at_ b<at_ a then(Zq at_ one (a::p) q).map (b::·)else if(one a b).2 then(Zq at_ one p q).map ((one a b).1::·)else none termination_by p q=>p.length+q.length
def ofO{α:Type}(o:Option (List α)):List α:=o.getD []
structure PRes where
 op:Op
 is:Bool
 ok:Bool
noncomputable def doB(e:Edit)(t:Tree):Tree×Bool:=(Z1m ((doE false e t).map Z0),(doE false e t).isSome)
noncomputable def ZIv(a b:List Tree):Bool:=eqX (Z7 a) (Z7 b)
noncomputable def JY(f:Edit->Edit->Edit×Bool)(x:Piece):PRes:=if x.of=1\/(x.of=0/\x.q.kind=0)then⟨x.p,true,true⟩else if x.of=2\/x.p.kind=0 then⟨x.q,true,true⟩else if x.p.kind=2/\x.q.kind=1 then⟨Op.nil,false,ZIv x.p.l (x.q.l.take x.p.l.length)⟩else if x.p.kind=2 then⟨⟨2,0,[(doB x.q.e (x.p.l.getD 0 Tree.nil)).1],Edit.nil⟩,true,(doB x.q.e (x.p.l.getD 0 Tree.nil)).2⟩else if x.q.kind=1 then⟨⟨1,0,[(doB (ZM (Y2 x.p.e)) (x.q.l.getD 0 Tree.nil)).1],Edit.nil⟩,true,(doB (ZM (Y2 x.p.e)) (x.q.l.getD 0 Tree.nil)).2⟩else⟨⟨3,0,[],(f x.p.e x.q.e).1⟩,true,(f x.p.e x.q.e).2⟩
noncomputable def Z2A(f:Edit->Edit->Edit×Bool):List Piece->Option (List Op)|[]=>some []|x::r=>if(JY f x).ok then(Z2A f r).map ((if(JY f x).is then[(JY f x).op]else[])++·)else none
noncomputable def Z2L(f:Edit->Edit->Edit×Bool)(p q:List Op):Option (List Op):=if(Zl 1 2 p q []).2.1 then Z2A f (Zl 1 2 p q []).1 else none
def Z2S(f:Edit->Edit->Edit×Bool)(a b:Kid):Kid×Bool:=(⟨a.at_,(f a.e b.e).1⟩,(f a.e b.e).2)
noncomputable def Z0J(f:Edit->Edit->Edit×Bool)(p q:Edit):Edit×Bool:=if p.kind=0 then(q,true)else if q.kind=0 then(p,true)else if p.kind=1 then(.mk 1 p.old (doB q p.new).1 [] [] 0 [],(doB q p.new).2)else if q.kind=1 then(.mk 1 (doB (ZM (Y2 p)) q.old).1 q.new [] [] 0 [],(doB (ZM (Y2 p)) q.old).2)else if p.kind≠q.kind\/p.list≠q.list then(Edit.nil,false)else if p.kind=2 then if(Zq WEdit.at_ Z0T p.words q.words).isSome then(.mk 2 Tree.nil Tree.nil (ofO (Zq WEdit.at_ Z0T p.words q.words)) (ofO (Zq KidOf.at_ (Z2S f) p.kids q.kids)) 0 [],(Zq KidOf.at_ (Z2S f) p.kids q.kids).isSome)else(Edit.nil,false)else(.mk 3 Tree.nil Tree.nil [] [] p.list (ofO (Z2L f p.ops q.ops)),(Z2L f p.ops q.ops).isSome)
noncomputable def Zl1:Nat->Edit->Edit->Edit×Bool|0,_,_=>(Edit.nil,false)|n+1,p,q=>Z0J (Zl1 n) p q
noncomputable def YP(p q:Edit):Edit×Bool:=Zl1 (Zi p+Zi q) p q
noncomputable def ZO7(f:Edit->Edit->Edit×Bool)(p q:AUnit):List Op×Bool:=if q.kind=0 then([opU p],true)else if p.kind=0 then([opU q],true)else if p.kind=2/\q.kind=1 then([],ZN (Z0 p.t) (Z0 q.t))else if p.kind=2 then([⟨2,0,[Z1m (doE true q.e p.t)],Edit.nil⟩],(doE true q.e p.t).isSome)else if q.kind=1 then([⟨1,0,[Z1m (doE true (ZM (Y2 p.e)) q.t)],Edit.nil⟩],(doE true (ZM (Y2 p.e)) q.t).isSome)else([⟨3,0,[],(f p.e q.e).1⟩],(f p.e q.e).2)
def Z4c(e:Edit):Prop:=ctE e<=9000000000/\YF e/\∃d,Z8 e d=true
def Zzc(k:Kid):Prop:=Z2z k<=9000000000/\Z2G k/\∃d,Z8 k.e d=true
def Ze7(l:List Kid):Prop:=Z0S l<=9000000000/\Z2p l/\∀k∈l,∃d,Z8 k.e d=true
def Zu1(l:List Op):Prop:=YI l<=9000000000/\Z0W l/\∀o∈l,∃list d,Z9 list o d=true
def Zw8(o:Op):Prop:=YD o/\Z2y o<=9000000000/\Yt o/\(o.kind=3->∃d,Z8 o.e d=true)
structure PcOk(x:Piece):Prop where
 of:x.of=0\/x.of=1\/x.of=2
 pp:x.of≠2->Zw8 x.p
 qq:x.of≠1->Zw8 x.q
 both:x.of=0->x.p.kind≠1/\x.q.kind≠2/\Z4 x.p=Z4 x.q
noncomputable def ZcU(p q:Edit):Edit×Bool:=if(YP p q).2=true then(ZM (YP p q).1,true)else(Edit.nil,false)
end Go.AM
namespace Go.AM.YtnfbomhidainjaaGreat
open Go.AM Go.Proofs
noncomputable section
def Zkt(a:Edit×Unit):Nat:=2*Zi a.1
def Zmk(a:Edit×Unit):V U:=.agg (enc .edit (Y2 a.1))
def Zfk:Fs U:=fs ZAg (λa=>[ZfU a]) Zmk
def ZfT(a:Op×Unit):Prop:=Zu a.1<=20000000000
def Zpn(a:Op×Unit):Nat:=2*Zu a.1+1
def Zdi(a:Op×Unit):V U:=.agg (enc .op (Je a.1))
def ZvW:Fs U:=fs ZzM (λa=>[ZfT a]) Zdi
def Z1I(N:Nat):List (FuncId×Fs U):=(33,fs ZAg (λa=>[ZfU a,Zkt a<N]) Zmk)::(49,fs ZzM (λa=>[ZfT a,Zpn a<N]) Zdi)::[]
def Z99:Za U:=lvk [([1,2],[1,2]),([1,2,3],[1,2,3]),([1,2,3,20,21,22],[1,2,((.loc 3),(an 7 [.own .wedit]))]),([1,2,3,20,21,22,23],[1,2,3]),([1,2,3,5,20,21,22],[1,2,3,5]),([1,2,3,20,21,22],[1,2,3]),([1,2,3,20,21,22],[1,2,((.loc 3),(an 7 [.own .wedit]))]),([1,2,3,42,43,44],[1,2,((.loc 3),(an 8 [.own .kid]))]),([1,2,3,42,43,44,45],[1,2,3]),([1,2,3,7,42,43,44],[1,2,3,7]),([1,2,3,42,43,44],[1,2,3]),([1,2,3,42,43,44],[1,2,((.loc 3),(an 8 [.own .kid]))]),([2,3,61,62,63],[2,((.loc 3),(an 10 [.own .op]))]),([2,3,61,62,63,64],[2,3]),([2,3,9,61,62,63],[2,3,9]),([2,3,61,62,63],[2,3]),([2,3,61,62,63],[2,((.loc 3),(an 10 [.own .op]))]),([2],[2])]
def Zb9(e:Edit)(aa:Int)(d:List WEdit):LSt U:=(L2 [pL 1,pL 2,pL 3,(20,.c (sU .wedit e.words .unk)),pI 21 (e.words.length:Int),pI 22 aa] [(.loc 1,(enc .edit e)),(.loc 2,zc1),(.loc 3,([ci e.kind]++enc .tree e.new++enc .tree e.old++[sU .wedit d (.own (.l 3 7)),.nils,ci e.list,.nils]))])
def Zb8(e:Edit)(ab:List WEdit)(aa:Int)(d:List Kid):LSt U:=(L2 [pL 1,pL 2,pL 3,(42,.c (sU .kid e.kids .unk)),pI 43 (e.kids.length:Int),pI 44 aa] [(.loc 1,(enc .edit e)),(.loc 2,zc1),(.loc 3,([ci e.kind]++enc .tree e.new++enc .tree e.old++[sU .wedit ab (.own (.l 3 7)),sU .kid d (.own (.l 3 8)),ci e.list,.nils]))])
def Zb7(e:Edit)(ae:List WEdit)(aa:List Kid)(ab:Int)(d:List Op):LSt U:=(L2 [pL 2,pL 3,(61,.c (sU .op e.ops .unk)),pI 62 (e.ops.length:Int),pI 63 ab] [(.loc 2,zc1),(.loc 3,([ci e.kind]++enc .tree e.new++enc .tree e.old++[sU .wedit ae (.own (.l 3 7)),sU .kid aa (.own (.l 3 8)),ci e.list,sU .op d (.own (.l 3 10))]))])
abbrev W33(N:Nat)(e:Edit)(Q:QT):=AW (Z2 (Z1I N)) Tryz.f33 Z99 [] (L2 [(0,.agg (enc .edit e))] []) Q
theorem ZNJ(N:Nat)(e:Edit)(Q:QT)(h:Zk (AW (Z2 (Z1I N)) Tryz.f33 Z99 [1,1,0,1,0,0]) (Zb9 e 0 []) (xB 0 (SW (Z2 (Z1I N)) Tryz.f33 Z99 [1,1,1] Q))):W33 N e Q:=Eq.mpr V3 h
abbrev ZJf(N:Nat)(e:Edit)(aa:Int)(d:List WEdit)(N0:NT)(Q:QT):=AW (Z2 (Z1I N)) Tryz.f33 Z99 [1,1,0,1,0,0] (Zb9 e aa d) (xT N0 (xB 0 (SW (Z2 (Z1I N)) Tryz.f33 Z99 [1,1,1] Q)))
theorem ZBJ(N:Nat)(e:Edit)(aa:Int)(d:List WEdit)(N0:NT)(Q:QT)(h:let z0:=e.words.getD aa.toNat (WEdit.mk 0 0 0 0);let z1:=WEdit.mk (WEdit.at_ z0) (WEdit.mask z0) (WEdit.new z0) (WEdit.old z0);iB (decide (aa<(e.words.length:Int))) (((0:Int)<=aa/\aa<(e.words.length:Int))/\(((d.length+([z1]).length)*32<=140737488355328)/\((InR (aa+1))/\(N0 (Zb9 e (aa+1) (d++([z1]))))))) (Zk (AW (Z2 (Z1I N)) Tryz.f33 Z99 [1,1,1,0,1,0,0]) (Zb8 e d 0 []) (xB 2 (SW (Z2 (Z1I N)) Tryz.f33 Z99 [1,1,1,1] Q)))):ZJf N e aa d N0 Q:=Eq.mpr V3 h
abbrev ZJe(N:Nat)(e:Edit)(ab:List WEdit)(aa:Int)(d:List Kid)(N1:NT)(Q:QT):=AW (Z2 (Z1I N)) Tryz.f33 Z99 [1,1,1,0,1,0,0] (Zb8 e ab aa d) (xT N1 (xB 2 (SW (Z2 (Z1I N)) Tryz.f33 Z99 [1,1,1,1] Q)))
theorem ZBI(N:Nat)(e:Edit)(ab:List WEdit)(d:Int)(aa:List Kid)(N1:NT)(Q:QT)(h:∀ae,ae=(e.kids.getD d.toNat (KidOf.mk 0 Edit.nil))->∀af,af=(ae.e)->∀ah,ah=(Y2 af)->iB (decide (d<(e.kids.length:Int))) (((0:Int)<=d/\d<(e.kids.length:Int))/\((ZfU (af,()))/\(Zkt (af,())<N)/\((aa.length+([(KidOf.mk ae.at_ ah:Kid)]).length)*208<=140737488355328)/\((InR (d+1))/\(N1 (Zb8 e ab (d+1) (aa++([(KidOf.mk ae.at_ ah:Kid)]))))))) (Zk (AW (Z2 (Z1I N)) Tryz.f33 Z99 [1,1,1,1,0,1,0,0]) (Zb7 e ab aa 0 []) (xB 4 (SW (Z2 (Z1I N)) Tryz.f33 Z99 [1,1,1,1,1] Q)))):ZJe N e ab d aa N1 Q:=Eq.mpr V3 (h _ rfl _ (Zj _) _ (Zj _))
abbrev ZJd(N:Nat)(e:Edit)(ae:List WEdit)(aa:List Kid)(ab:Int)(d:List Op)(N2:NT)(Q:QT):=AW (Z2 (Z1I N)) Tryz.f33 Z99 [1,1,1,1,0,1,0,0] (Zb7 e ae aa ab d) (xT N2 (xB 4 (SW (Z2 (Z1I N)) Tryz.f33 Z99 [1,1,1,1,1] Q)))
theorem ZBH(N:Nat)(e:Edit)(ae:List WEdit)(ab:List Kid)(aa:Int)(d:List Op)(N2:NT)(Q:QT)(h:∀ai,ai=(e.ops.getD aa.toNat Op.nil)->∀af,af=ai->∀ah,ah=(Je af)->iB (decide (aa<(e.ops.length:Int))) (((0:Int)<=aa/\aa<(e.ops.length:Int))/\((ZfT (af,()))/\(Zpn (af,())<N)/\((d.length+([ah]).length)*240<=140737488355328)/\((InR (aa+1))/\(N2 (Zb7 e ae ab (aa+1) (d++([ah]))))))) (Q .ret (L2 [pL 2] [(.loc 2,([ci e.kind]++enc .tree e.new++enc .tree e.old++[sU .wedit ae (.own (.l 2 7)),sU .kid ab (.own (.l 2 8)),ci e.list,sU .op d (.own (.l 2 10))]))]))):ZJd N e ae ab aa d N2 Q:=Eq.mpr V3 (h _ rfl _ (JA _) _ (JA _))
def ZKp(N:Nat)(e:Edit):Prop:=AW (Z2 (Z1I N)) Tryz.f33 Z99 [] (Zg (ZAg.can (e,())) []) (EQ Tryz.f33 (Zmk (e,())) [])
abbrev ZMq:Prop:=∀(N:Nat)(e:Edit)(_:Unit),ZfU (e,())->Zkt (e,())<N+1->ZKp N e
def ZI4:Za U:=lvl [([1,2],[1,2]),([1,2,4],[1,2]),([1,2,4,5],[1,2]),([1,2],[1,2]),([1,2,4,8],[1,2]),([1,2],[1,2]),([1,2,11],[1,2]),([1,2],[1,2]),([2],[2])]
abbrev W49(N:Nat)(o:Op)(Q:QT):=AW (Z2 (Z1I N)) Tryz.f49 ZI4 [] (L2 [(0,.agg (enc .op o))] []) Q
theorem ZNu(N:Nat)(o:Op)(Q:QT)(h:∀d,d=(o.e)->iB (o.kind==1) (Q .ret (L2 [pL 2] [(.loc 2,([ci 2,ci o.n,sU .tree o.l .unk]++enc .edit o.e))])) (iB (o.kind==2) (Q .ret (L2 [pL 2] [(.loc 2,([ci 1,ci o.n,sU .tree o.l .unk]++enc .edit o.e))])) (iB (o.kind==3) ((ZfU (d,()))/\(Zkt (d,())<N)/\(Q .ret (L2 [pL 2] [(.loc 2,([ci o.kind,ci o.n,sU .tree o.l .unk]++enc .edit (Y2 d)))]))) (Q .ret (L2 [pL 2] [(.loc 2,(enc .op o))]))))):W49 N o Q:=Eq.mpr V3 (h _ (Zj _))
def ZKa(N:Nat)(o:Op):Prop:=AW (Z2 (Z1I N)) Tryz.f49 ZI4 [] (Zg (ZzM.can (o,())) []) (EQ Tryz.f49 (Zdi (o,())) [])
abbrev ZMi:Prop:=∀(N:Nat)(o:Op)(_:Unit),ZfT (o,())->Zpn (o,())<N+1->ZKa N o
theorem Zpz(ha:ZMq)(hb:ZMi):CT 33 Zfk/\CT 49 ZvW:=Z2j (μA:=Zkt) (μB:=Zpn) (l:=[]) Zf rfl trivial Z99 ZI4 Tryz.func33 Tryz.func49 rfl rfl rfl rfl 1 1 (λ_=>rfl) (λ_=>rfl) V0 V0 (λN⟨e,_⟩=>ha N e ()) (λN⟨o,_⟩=>hb N o ())
end
theorem Z07(o:Op):Je o=if o.kind=1 then⟨2,o.n,o.l,o.e⟩else if o.kind=2 then⟨1,o.n,o.l,o.e⟩else if o.kind=3 then⟨o.kind,o.n,o.l,Y2 o.e⟩else⟨o.kind,o.n,o.l,o.e⟩:=by cases o;rfl
theorem ZvO(e:Edit):Y2 e=.mk e.kind e.new e.old (e.words.map Z6a) (Z0L e.kids) e.list (JS e.ops):=by cases e;rfl
theorem ZeR(k:Kid):Z2O k=⟨k.at_,Y2 k.e⟩:=by cases k;rfl
theorem b49:ZMi:=by
 intro N o _ hp hN;simp only[ZfT,Zpn]at hp hN;rw[YE]at hp hN;have ah:=Z7J o.e;refine ZNu _ _ _ ?_;rintro y hy;(simp only[iB,vcS]);refine⟨λh=>?_,λh=>⟨λd=>?_,λd=>⟨λh3=>⟨by simp only[ZfU,hy];omega,by simp only[Zkt,hy];omega,?_⟩,λh3=>?_⟩⟩⟩
 .have e:Je o=⟨2,o.n,o.l,o.e⟩:=by rw[Z07,if_pos h]
  simp only[Zdi,e];exact YH
 .have e:Je o=⟨1,o.n,o.l,o.e⟩:=by rw[Z07,if_neg h,if_pos d]
  simp only[Zdi,e];exact YH
 .have e:Je o=⟨o.kind,o.n,o.l,Y2 o.e⟩:=by rw[Z07,if_neg h,if_neg d,if_pos h3]
  simp only[Zdi,e];rw[hy];exact YH
 .have e:Je o=⟨o.kind,o.n,o.l,o.e⟩:=by rw[Z07,if_neg h,if_neg d,if_neg h3]
  simp only[Zdi,e];exact YH
theorem b33:ZMq:=by
 intro N e _ hp hN;simp only[ZfU,Zkt]at hp hN;have h1:=JL e;have h2:=J8 e.kids;have h3:=YG e.ops;have ha:=ZvO e;refine ZNJ _ _ _ ?_;refine Z6 (ι:=Int×List WEdit) (λs=>Zb9 e s.1 s.2) (λs=>0<=s.1/\s.1<=e.words.length/\s.2.length=s.1/\s.2++(e.words.drop s.1.toNat).map Z6a=e.words.map Z6a) (λs=>((e.words.length:Int)-s.1).toNat) (0,[]) rfl ⟨by simp,by simp,by simp,by simp⟩ ?_;rintro⟨i,ws⟩⟨g1,g2,g3,g4⟩;dsimp only at g1 g2 g3 g4;refine ZBJ _ _ _ _ _ _ ?_;(simp only[iB,vcS]);refine⟨λhi=>?_,λhi=>?_⟩
 .rw[Yu g1 hi (WEdit.mk 0 0 0 0)]at g4;simp only[Xa]at g4;refine⟨⟨g1,hi⟩,by simp;omega,V2,(i+1,ws++[Z6a (e.words.getD i.toNat (WEdit.mk 0 0 0 0))]),rfl,⟨Yp,Yp,by simp;omega,?_⟩,Yp⟩;grind
 .rw[Qb Yp]at g4;simp only[Ka,Qi]at g4;refine Z6 (ι:=Int×List Kid) (λs=>Zb8 e ws s.1 s.2) (λs=>0<=s.1/\s.1<=e.kids.length/\s.2.length=s.1/\s.2++Z0L (e.kids.drop s.1.toNat)=Z0L e.kids) (λs=>((e.kids.length:Int)-s.1).toNat) (0,[]) rfl ⟨by simp,by simp,by simp,by simp⟩ ?_;rintro⟨j,ks⟩⟨f1,f2,f3,d⟩;dsimp only at f1 f2 f3 d;refine ZBI _ _ _ _ _ _ _ ?_;rintro y1 am y2 ai y3 ar;(simp only[iB,vcS]);refine⟨λhj=>?_,λhj=>?_⟩
  .have hm:=Z27 (Ze (l:=e.kids) (i:=j.toNat) Yp (KidOf.mk 0 Edit.nil));rw[Yu f1 hj (KidOf.mk 0 Edit.nil)]at d;rw[<-am]at d hm;simp only[Z0L,ZeR]at d;rw[<-ai]at d hm;rw[<-ar]at d;refine⟨⟨f1,hj⟩,by simp only[ZfU];omega,by simp only[Zkt];omega,by simp;omega,V2,(j+1,ks++[⟨y1.at_,y3⟩]),rfl,⟨Yp,Yp,by simp;omega,?_⟩,Yp⟩;grind
  .rw[Qb Yp]at d;simp only[Z0L,Qi]at d;refine Z6 (ι:=Int×List Op) (λs=>Zb7 e ws ks s.1 s.2) (λs=>0<=s.1/\s.1<=e.ops.length/\s.2.length=s.1/\s.2++JS (e.ops.drop s.1.toNat)=JS e.ops) (λs=>((e.ops.length:Int)-s.1).toNat) (0,[]) rfl ⟨by simp,by simp,by simp,by simp⟩ ?_;rintro⟨k,os⟩⟨d1,d2,d3,d4⟩;dsimp only at d1 d2 d3 d4;refine ZBH _ _ _ _ _ _ _ _ ?_;rintro z1 ak z2 aj z3 al;(simp only[iB,vcS]);refine⟨λhj=>?_,λhj=>?_⟩;.have hm:=Jv (Ze (l:=e.ops) (i:=k.toNat) Yp Op.nil);rw[Yu d1 hj Op.nil]at d4;rw[<-ak,<-aj]at d4 hm;simp only[JS]at d4;rw[<-al]at d4;refine⟨⟨d1,hj⟩,by simp only[ZfT];omega,by simp only[Zpn];omega,by simp;omega,V2,(k+1,os++[z3]),rfl,⟨Yp,Yp,by simp;omega,?_⟩,Yp⟩;grind
   .rw[Qb Yp]at d4;simp only[JS,Qi]at d4;rw[g4,d,d4];simp only[Zmk,ha];exact YH
theorem ZE3:Contract Tryz.prog cfg 33 Zfk/\Contract Tryz.prog cfg 49 ZvW:=Zpz b33 b49
theorem Znc{α β:Type}{f:α->β}(d:α){a b:List α}(hl:a.length=b.length)(h:∀i:Nat,i<a.length->f (a.getD i d)=f (b.getD i d)):a.map f=b.map f:=by apply List.ext_getElem (by simpa using hl);grind
theorem ZdU{α β:Type}{f:α->β}{d:α}{a b:List α}(h:a.map f=b.map f)(i:Nat):f (a.getD i d)=f (b.getD i d):=by have e:=congrArg (λl=>l[i]?.getD (f d)) h;grind
noncomputable section
def ZzR:ArgL (Int×Unit):=(.cons (ZR .u8) .nil)
def Zmy(a:Int×Unit):Prop:=0<=a.1/\a.1<256
def ZEX(a:Int×Unit):V U:=.c (.int .u64 ((Z1O (a.1).toNat 8:Nat):Int))
def Zf4:Fs U:=fs ZzR (λa=>[Zmy a]) ZEX
def ZpA:Za U:=lvl [([0],[]),([0,3],[]),([0,3,5],[]),([0,3,5,6],[]),([0,3,4,5],[]),([0,3,4,5,12],[]),([0,3,5],[]),([0,3,5],[]),([2],[])]
def Z6W(m x3 d:Int):LSt U:=(L2 [(0,.c (.int .u8 m)),(3,.c (.int .u64 x3)),pI 5 d] [])
abbrev W89(m:Int)(Q:QT):=AW (Z2 Zqj) Tryz.f89 ZpA [] (L2 [(0,.c (.int .u8 m))] []) Q
theorem ZMT(m:Int)(Q:QT)(h:Zk (AW (Z2 Zqj) Tryz.f89 ZpA [1,1,0,1,0,0]) (Z6W m 0 0) (xB 0 (SW (Z2 Zqj) Tryz.f89 ZpA [1,1,1] Q))):W89 m Q:=Eq.mpr V3 h
abbrev ZJ9(m x3 d:Int)(N0:NT)(Q:QT):=AW (Z2 Zqj) Tryz.f89 ZpA [1,1,0,1,0,0] (Z6W m x3 d) (xT N0 (xB 0 (SW (Z2 Zqj) Tryz.f89 ZpA [1,1,1] Q)))
theorem ZB7(m x3 d:Int)(N0:NT)(Q:QT)(h:let z1:=IntKind.bits .u8;let z0:=IntKind.bits .u64;iB (decide (d<8)) (((0:Int)<=d)/\(iB (((IntKind.wrap .u8 (BitVec.ofInt z1 (Int.fdiv m (2^(min d.toNat z1)))&&&BitVec.ofInt z1 1).toNat):Int)==1) ((InR ((8:Int)*d))/\((0:Int)<=((8:Int)*d))/\((InR (d+1))/\(N0 (Z6W m (IntKind.wrap .u64 (BitVec.ofInt z0 x3|||BitVec.ofInt z0 (IntKind.wrap .u64 ((255:Int)*2^(min (Int.toNat ((8:Int)*d)) z0)))).toNat) (d+1))))) ((InR (d+1))/\(N0 (Z6W m x3 (d+1)))))) (Q .ret (L2 [(2,.c (.int .u64 x3))] []))):ZJ9 m x3 d N0 Q:=Eq.mpr V3 h
def ZJz(m:Int):Prop:=AW (Z2 Zqj) Tryz.f89 ZpA [] (Zg (ZzR.can (m,())) []) (EQ Tryz.f89 (ZEX (m,())) [])
theorem ZGK(hb:∀(m:Int)(_:Unit),Zmy (m,())->ZJz m):CT 89 Zf4:=Z1 (l:=[]) Zf rfl trivial ZpA Tryz.func89 rfl rfl 1 (λ_=>rfl) V0 (λ⟨m,_⟩=>hb m ())
def ZyL:List (FuncId×Fs U):=[(89,Zf4)]
def ZHR:Za U:=lvl [([0,1,2],[]),([6],[])]
abbrev W71(a b m:Int)(Q:QT):=AW (Z2 ZyL) Tryz.f71 ZHR [] (L2 [(0,.c (.int .u64 a)),(1,.c (.int .u64 b)),(2,.c (.int .u8 m))] []) Q
theorem ZN9(a b m:Int)(Q:QT)(h:let z0:=IntKind.bits .u64;(Zmy (m,()))/\(Zmy (m,()))/\(Q .ret (L2 [(6,.c (.int .u64 (IntKind.wrap .u64 (BitVec.ofInt z0 (IntKind.wrap .u64 (BitVec.ofInt z0 a&&&~~~(BitVec.ofInt z0 ((Z1O m.toNat 8:Nat):Int))).toNat)|||BitVec.ofInt z0 (IntKind.wrap .u64 (BitVec.ofInt z0 b&&&BitVec.ofInt z0 ((Z1O m.toNat 8:Nat):Int)).toNat)).toNat)))] []))):W71 a b m Q:=Eq.mpr V3 h
def ZJP(a b m:Int):Prop:=AW (Z2 ZyL) Tryz.f71 ZHR [] (Zg (ZAh.can (a,b,m,())) []) (EQ Tryz.f71 (ZFf (a,b,m,())) [])
theorem ZGZ(c89:CT 89 Zf4)(hb:∀(a:Int)(b:Int)(m:Int)(_:Unit),Zs1 (a,b,m,())->ZJP a b m):CT 71 Zfi:=Z1 (l:=[(89,Zf4)]) Zf rfl (⟨c89,trivial⟩) ZHR Tryz.func71 rfl rfl 3 (λ_=>rfl) V0 (λ⟨a,b,m,_⟩=>hb a b m ())
end
theorem ZzE:∀n:Fin 256,∀i:Fin 8,IntKind.wrap .u8 (BitVec.ofInt (IntKind.bits .u8) (Int.fdiv (n.1:Int) (2^(min (Int.toNat (i.1:Int)) (IntKind.bits .u8))))&&&BitVec.ofInt (IntKind.bits .u8) 1).toNat=((n.1/2^i.1%2:Nat):Int):=by decide+kernel
theorem ZCs:∀n:Fin 256,∀i:Fin 8,IntKind.wrap .u64 (BitVec.ofInt (IntKind.bits .u64) ((Z1O n.1 i.1:Nat):Int)|||BitVec.ofInt (IntKind.bits .u64) (IntKind.wrap .u64 (255*2^(min (Int.toNat (8*(i.1:Int))) (IntKind.bits .u64))))).toNat=((Z1O n.1 i.1+255*2^(8*i.1):Nat):Int):=by decide+kernel
theorem c89:Contract Tryz.prog cfg 89 Zf4:=by
 refine ZGK ?_;intro m _ hp;simp only[Zmy]at hp;obtain⟨n,rfl⟩:=QH hp.1;have hn:n<256:=Yp;refine ZMT _ _ ?_;refine Z6 (ι:=Nat) (λi=>Z6W n ((Z1O n i:Nat):Int) i) (λi=>i<=8) (λi=>8-i) 0 rfl Yp ?_;intro i hi;refine ZB7 _ _ _ _ _ ?_;(simp only[iB,vcS]);refine⟨λhc=>⟨Yp,λhq=>⟨V2,Yp,V2,i+1,?_,Yp,Yp⟩,λhq=>⟨V2,i+1,?_,Yp,Yp⟩⟩,λhc=>?_⟩
 .have d:=ZzE ⟨n,hn⟩ ⟨i,Yp⟩;have h2:=ZCs ⟨n,hn⟩ ⟨i,Yp⟩;simp only at d h2;rw[d]at hq;rw[h2];have e:Z1O n (i+1)=Z1O n i+255*2^(8*i):=by simp only[Z1O];grind
  rw[e];try rfl
 .have d:=ZzE ⟨n,hn⟩ ⟨i,Yp⟩;simp only at d;rw[d]at hq;have e:Z1O n (i+1)=Z1O n i:=by simp only[Z1O];rw[JH];omega
  rw[e];try rfl
 .have:i=8:=Yp;subst this;trivial
theorem Z7B(a:Nat)(h:a<2^64):(BitVec.ofInt 64 (a:Int)).toNat=a:=by grind
theorem c71:Contract Tryz.prog cfg 71 Zfi:=by
 refine ZGZ c89 ?_;intro a b m _ hp;simp only[Zs1]at hp;obtain⟨⟨a0,a1⟩,⟨b0,b1⟩,m0,m1⟩:=hp;obtain⟨x,rfl⟩:=QH a0;obtain⟨y,rfl⟩:=QH b0;obtain⟨n,rfl⟩:=QH m0;have hn:n<256:=Yp;have hx:x<2^64:=Yp;have hy:y<2^64:=Yp;have hw:=ZB4 ⟨n,hn⟩;have d:=Zr6 ⟨n,hn⟩;simp only at hw d;rw[<-d]at hw;refine ZN9 _ _ _ _ ?_;refine⟨⟨m0,m1⟩,⟨m0,m1⟩,ZJ rfl ?_⟩;have em:mix x y n=(((x&&&(2^64-1-Z1O n 8))|||(y&&&Z1O n 8):Nat):Int):=by rw[<-ZxN,<-ZxM x y n hn]
 have e1:(BitVec.ofInt 64 (x:Int)&&&~~~(BitVec.ofInt 64 ((Z1O n 8:Nat):Int))).toNat=x&&&(2^64-1-Z1O n 8):=by rw[BitVec.toNat_and,BitVec.toNat_not,Z7B x hx,Z7B _ hw]
 have e2:(BitVec.ofInt 64 (y:Int)&&&BitVec.ofInt 64 ((Z1O n 8:Nat):Int)).toNat=y&&&Z1O n 8:=by rw[BitVec.toNat_and,Z7B y hy,Z7B _ hw]
 have l1:x&&&(2^64-1-Z1O n 8)<2^64:=Nat.lt_of_le_of_lt Nat.and_le_left hx;have l2:y&&&Z1O n 8<2^64:=Nat.lt_of_le_of_lt Nat.and_le_left hy;have l3:(x&&&(2^64-1-Z1O n 8))|||(y&&&Z1O n 8)<2^64:=Nat.or_lt_two_pow l1 l2;have ab:IntKind.wrap .u64 ((BitVec.ofInt 64 (IntKind.wrap .u64 ((BitVec.ofInt 64 (x:Int)&&&~~~(BitVec.ofInt 64 ((Z1O n 8:Nat):Int))).toNat:Int))|||BitVec.ofInt 64 (IntKind.wrap .u64 ((BitVec.ofInt 64 (y:Int)&&&BitVec.ofInt 64 ((Z1O n 8:Nat):Int)).toNat:Int))).toNat:Int)=mix x y n:=by have w1:∀k:Nat,k<2^64->IntKind.wrap .u64 (k:Int)=k:=λk hk=>Z69 Yp Yp;grind
 exact ab
end Go.AM.YtnfbomhidainjaaGreat
namespace Go.AM
def wr(n:Int):Int:=IntKind.wrap .i64 n
end Go.AM
namespace Go.AM.YtnfbomhidainjaaGreat
open Go.AM Go.Proofs
noncomputable section
def ZA1:ArgL (List Tree×List Tree×Unit×Unit):=(.cons (aSl .tree) (.cons (aSl .tree) (.cons (aFn 38) .nil)))
def ZfS(a:List Tree×List Tree×Unit×Unit):Prop:=Z5 a.1<=1000000000000/\Z5 a.2.1<=1000000000000
def ZF6(a:List Tree×List Tree×Unit×Unit):V U:=.c (.bool (eqX (Z7 a.1) (Z7 a.2.1)))
def Z5c:Fs U:=fs ZA1 (λa=>[ZfS a]) ZF6
def ZcF:List (FuncId×Fs U):=[(38,Ys)]
def ZpB:Za U:=lvl [([0,1,2],[]),([0,1,2,14],[]),([6],[]),([1,2,15,16,17],[]),([1,2,15,16,17,18],[]),([1,2,7,8,15,16,17],[8]),([1,2,8,9,15,16,17],[8,9]),([1,2,15,16,17,30],[]),([6],[]),([1,2,15,16,17],[]),([6],[])]
def ZaU(a b:List Tree)(f:Unit)(d:Int):LSt U:=(L2 [(1,.c (sU .tree b .unk)),(2,.fn 38),(15,.c (sU .tree a .unk)),pI 16 (a.length:Int),pI 17 d] [])
abbrev W72(a b:List Tree)(f:Unit)(Q:QT):=AW (Z2 ZcF) Tryz.f72 ZpB [] (L2 [(0,.c (sU .tree a .unk)),(1,.c (sU .tree b .unk)),(2,.fn 38)] []) Q
theorem ZN8(a b:List Tree)(f:Unit)(Q:QT)(h:iB (((a.length:Int):Int)!=(b.length:Int)) (Q .ret (L2 [pB 6 false] [])) (Zk (AW (Z2 ZcF) Tryz.f72 ZpB [1,1,0,1,0,0]) (ZaU a b f 0) (xB 0 (SW (Z2 ZcF) Tryz.f72 ZpB [1,1,1] Q)))):W72 a b f Q:=Eq.mpr V3 h
abbrev ZJa(a b:List Tree)(f:Unit)(d:Int)(N0:NT)(Q:QT):=AW (Z2 ZcF) Tryz.f72 ZpB [1,1,0,1,0,0] (ZaU a b f d) (xT N0 (xB 0 (SW (Z2 ZcF) Tryz.f72 ZpB [1,1,1] Q)))
theorem ZBk(a b:List Tree)(f:Unit)(d:Int)(N0:NT)(Q:QT)(h:let z3:=a.getD d.toNat Tree.nil;let z2:=b.getD d.toNat Tree.nil;let z1:=Tree.mk (Tree.kind z2) (Tree.words z2) (Tree.kids z2);let z0:=Tree.mk (Tree.kind z3) (Tree.words z3) (Tree.kids z3);iB (decide (d<(a.length:Int))) (((0:Int)<=d/\d<(a.length:Int))/\(((0:Int)<=d/\d<(b.length:Int))/\((Z2J (z0,z1,()))/\(iB (!(ZN (Z0 z0) (Z0 z1))) (Q .ret (L2 [pB 6 false] [])) ((InR (d+1))/\(N0 (ZaU a b f (d+1)))))))) (Q .ret (L2 [pB 6 true] []))):ZJa a b f d N0 Q:=Eq.mpr V3 h
def ZJO(a b:List Tree)(f:Unit):Prop:=AW (Z2 ZcF) Tryz.f72 ZpB [] (Zg (ZA1.can (a,b,f,())) []) (EQ Tryz.f72 (ZF6 (a,b,f,())) [])
theorem ZGY(c38:CT 38 Ys)(hb:∀(a:List Tree)(b:List Tree)(f:Unit)(_:Unit),ZfS (a,b,f,())->ZJO a b f):CT 72 Z5c:=Z1 (l:=[(38,Ys)]) Zf rfl (⟨c38,trivial⟩) ZpB Tryz.func72 rfl rfl 3 (λ_=>rfl) V0 (λ⟨a,b,f,_⟩=>hb a b f ())
end
theorem c72:Contract Tryz.prog cfg 72 Z5c:=by
 refine ZGY c38 ?_;intro a b f _ hp;simp only[ZfS]at hp;refine ZN8 a b f _ ?_;(simp only[iB,vcS]);refine⟨λhc=>Zn rfl (Zzn (a:=Z7 a) (b:=Z7 b) (λh=>hc (by have:=congrArg List.length h;simp[Z7]at this;omega))).symm,λhc=>?_⟩;have hl:a.length=b.length:=Yp;have ai:=ZT a;refine Z6 (ι:=Int) (λi=>ZaU a b f i) (λi=>0<=i/\i<=a.length/\∀j:Nat,(j:Int)<i->Z0 (a.getD j Tree.nil)=Z0 (b.getD j Tree.nil)) (λi=>((a.length:Int)-i).toNat) 0 rfl ⟨Yp,Yp,Yp⟩ ?_;rintro i⟨h1,h2,h3⟩;refine ZBk a b f _ _ _ ?_;(simp only[iB,vcS]);(simp only[vE]);refine⟨λhi=>⟨⟨h1,hi⟩,⟨h1,Yp⟩,?_,λhq=>?_,λhq=>⟨V2,i+1,rfl,⟨Yp,Yp,?_⟩,Yp⟩⟩,λhi=>?_⟩;.have:=ZS (Ze (l:=a) (i:=i.toNat) Yp Tree.nil);have:=ZS (Ze (l:=b) (i:=i.toNat) Yp Tree.nil);simp only[Z2J];omega
 .refine Zn rfl (Zzn (a:=Z7 a) (b:=Z7 b) (λh=>?_)).symm;have h5:=ZdU (d:=Tree.nil) h i.toNat;rw[JN]at hq;exact hq h5
 .intro j hj;by_cases hj2:(j:Int)<i;.exact h3 j hj2
  .rw[YS,show i.toNat=j by omega]at hq;exact hq
 .exact Zn rfl (Z82 (a:=Z7 a) (b:=Z7 b).2 (Znc Tree.nil hl (λj hj=>h3 j Yp))).symm
theorem ZtQ(l:List Int):trim (trim l)=trim l:=by induction l with|nil=>rfl|cons x r ih=>
  rw[Z2U];split;.try rfl
  .rename_i h;rw[Z2U,ih,if_neg h]
theorem Zoo(l:List Tree):Yq (Yq l)=Yq l:=by induction l with|nil=>rfl|cons x r ih=>
  rw[Z0p];split;.try rfl
  .rename_i h;rw[Z0p,ih,if_neg h]
def Normed:List Tree->Prop|[]=>True|t::r=>Z0 t=t/\Normed r
theorem Normed.eq:∀{l:List Tree},Normed l->Yx l=l|[],_=>rfl|t::r,h=>by simp only[Yx,h.1,Normed.eq h.2]
theorem Normed.trim:∀{l:List Tree},Normed l->Normed (Yq l)
 |[],_=>trivial|t::r,h=>by
  rw[Z0p];split;.trivial
  .exact⟨h.1,Normed.trim h.2⟩
mutual theorem Z19:∀(t:Tree),Z0 (Z0 t)=Z0 t
 |.mk k w ks=>by
  have h:=Zaw ks;by_cases h0:k=0;.simp[Z0,h0,Tree.nil]
  .by_cases h1:k=1;.subst h1;simp only[Z0,if_neg h0,if_true,ZtQ,h.trim.eq,Zoo]
   .simp only[Z0,if_neg h0,if_neg h1,h.eq]theorem Zaw:∀(ks:List Tree),Normed (Yx ks)|[]=>trivial|t::r=>⟨Z19 t,Zaw r⟩end
theorem JQ:∀(l:List Op)(n:Int),Z1Q l n=l++[⟨0,n,[],Edit.nil⟩]\/∃a o,l=a++[o]/\o.kind=0/\Z1Q l n=a++[⟨o.kind,o.n+n,o.l,o.e⟩]
 |[],n=>Or.inl rfl|[o],n=>by
  by_cases h:o.kind=0;.exact Or.inr ⟨[],o,rfl,h,by simp[Z1Q,h]⟩
  .exact Or.inl (by simp[Z1Q,h])|o::p::r,n=>by
  rcases JQ (p::r) n with h|⟨a,q,h1,h2,h3⟩;.exact Or.inl (by simp only[Z1Q,h,Qo])
  .exact Or.inr ⟨o::a,q,by rw[h1];rfl,h2,by simp only[Z1Q,h3,Qo]⟩
def W0:Wst:=⟨[],[],[]⟩
theorem Zdv(l:List Tree):Z7 (Z7 l)=Z7 l:=by simp only[Z7,List.map_map];congr 1;funext t;exact Z19 t
theorem Ju(a b:List Tree):Z7 (a++b)=Z7 a++Z7 b:=by simp[Z7]
end Go.AM.YtnfbomhidainjaaGreat
namespace Go.AM
theorem Zay{t:Tree}(h:Z0i t=true):t=Tree.nil:=by obtain⟨k,w,ks⟩:=t;simp only[Z0i,decide_eq_true_eq]at h;obtain⟨d,h2,h3⟩:=h;have d:k=0:=d;rw[d,Q0 (l:=w) h2,Q0 (l:=ks) h3];try rfl
theorem Zfy{e:Edit}(h:Z36 e=true):e=Edit.nil:=by obtain⟨k,o,n,w,ks,l,os⟩:=e;simp only[Z36,Q2,decide_eq_true_eq]at h;obtain⟨⟨⟨d,h2⟩,h3⟩,h4,h5,h6,h7⟩:=h;have d:k=0:=d;have h7:l=0:=h7;rw[d,h7,Zay (t:=o) h2,Zay (t:=n) h3,Q0 (l:=w) h4,Q0 (l:=ks) h5,Q0 (l:=os) h6];try rfl
structure RightE(e:Edit)(d:Int):Prop where
 d0:d≠0
 kind:0<=e.kind/\e.kind<=3
 none:e.kind≠1->e.old=Tree.nil/\e.new=Tree.nil
 words0:e.kind≠2->e.words=[]/\e.kids=[]ops0:e.kind≠3->e.list=0/\e.ops=[]rep:e.kind=1->Zb e.old (dT d)=true/\Zb e.new (dT d)=true/\e.old.kind≠10/\e.new.kind≠10
 words:Ye (-1) e.words=true
 kids:ZA (-1) e.kids (d-1)=true
 list:e.kind=3->2<=e.list/\e.list<=9
 ops:Zz e.list e.ops (d-1)=true
 len:Z1H e.ops 0<1048576/\Z1G e.ops 0<1048576
theorem Zt{e:Edit}{d:Int}(h:Z8 e d=true):RightE e d:=by
 obtain⟨k,o,n,w,ks,l,os⟩:=e;rw[Z8]at h;split at h;.cases h
 .rename_i a;split at h;.cases h
  .rename_i b;have b1:k≠1->o=Tree.nil/\n=Tree.nil:=by
    intro hk;by_cases x:Z0i o=true/\Z0i n=true;.exact⟨Zay x.1,Zay x.2⟩
    .grind
   have b2:k≠2->w=[]/\ks=[]:=by
    intro hk;by_cases x:w.length=0/\ks.length=0;.exact⟨Q0 x.1,Q0 x.2⟩
    .exact absurd (.inr (.inl ⟨hk,x⟩)) b
   have b3:k≠3->l=0/\os=[]:=by
    intro hk;by_cases x:l≠0\/os.length≠0;.exact absurd (.inr (.inr ⟨hk,x⟩)) b
    .exact⟨Yp,Q0 Yp⟩
   split at h
   .rename_i c;simp only[Q2,decide_eq_true_eq]at h;obtain⟨⟨h1,h2⟩,h3,h4⟩:=h;have c2:=b2 Yp;have c3:=b3 Yp;obtain⟨rfl,rfl⟩:=c2;obtain⟨rfl,rfl⟩:=c3;exact⟨Yp,⟨by simp_all,by simp_all⟩,b1,b2,b3,λ_=>⟨h1,h2,h3,h4⟩,rfl,rfl,λe=>by simp_all,rfl,by show Z1H [] 0<_/\Z1G [] 0<_;trivial⟩
   .rename_i c;simp only[Q2,decide_eq_true_eq]at h;obtain⟨⟨⟨⟨h1,h2⟩,h3⟩,h4⟩,h5⟩:=h;exact⟨Yp,⟨by simp_all,by simp_all⟩,b1,b2,b3,λe=>absurd e c,h1,h2,λe=>by simp_all,h4,h5⟩
theorem ZD:∀{ks:List Kid}{last d:Int},ZA last ks d=true->∀k∈ks,(last<k.at_/\k.at_<=65534/\k.e.kind≠0)/\Z8 k.e d=true
 |[],_,_,_,_,hk=>by cases hk|⟨a,e⟩::r,last,d,h,k,hk=>by
  simp only[ZA,YB,Q2,decide_eq_true_eq]at h;obtain⟨⟨h1,h2⟩,h3⟩:=h;rcases Q9.1 hk with rfl|hk;.grind
  .have:=ZD h3 k hk;grind
theorem rightOs_mem{list:Int}:∀{os:List Op}{d:Int},Zz list os d=true->∀o∈os,Z9 list o d=true
 |[],_,_,_,ho=>by cases ho|a::r,d,h,o,ho=>by
  simp only[Zz,Q2]at h;rcases Q9.1 ho with rfl|ho;.exact h.1
  .exact rightOs_mem h.2 o ho
theorem Yw:∀{ws:List WEdit}{last:Int},Ye last ws=true->∀w∈ws,last<w.at_/\w.at_<=65534/\w.mask≠0/\Yr w.old w.mask=true/\Yr w.new w.mask=true
 |[],_,_,_,hw=>by cases hw|a::r,last,h,w,hw=>by
  simp only[Ye,Q2,decide_eq_true_eq]at h;obtain⟨⟨⟨h1,h2⟩,h3⟩,d⟩:=h;rcases Q9.1 hw with rfl|hw;.grind
  .have:=Yw d w hw;grind
inductive RightOp(list:Int)(d:Int):Op->Prop|keep(n:Int):1<=n->n<=1048576->RightOp list d ⟨0,n,[],Edit.nil⟩|gone(l:List Tree):Yy (dT d) list l=true->0<l.length->RightOp list d ⟨1,0,l,Edit.nil⟩|come(l:List Tree):Yy (dT d) list l=true->0<l.length->RightOp list d ⟨2,0,l,Edit.nil⟩|into(e:Edit):Z8 e d=true->e.kind≠0->7<list->(list=8\/e.kind=2\/e.kind=1/\e.old.kind=1/\e.new.kind=1)->RightOp list d ⟨3,0,[],e⟩
theorem Yf{list:Int}{o:Op}{d:Int}(h:Z9 list o d=true):RightOp list d o:=by
 obtain⟨k,n,l,e⟩:=o;rw[Z9]at h;split at h
 .rename_i hk;simp only[Q2,decide_eq_true_eq]at h;obtain⟨⟨h1,h2,h3⟩,h4⟩:=h;rw[hk,Zfy h4,Q0 h3];exact .keep n h1 h2
 .rename_i h0;split at h;.cases h
  .rename_i h1;have hn:n=0:=Yp;subst hn;split at h
   .rename_i h2;simp only[Q2,decide_eq_true_eq]at h;obtain⟨⟨h3,h4⟩,h5⟩:=h;rw[Zfy h5];by_cases hk:k=1;.rw[hk];exact .gone l h3 h4
    .rw[show k=2 by omega];exact .come l h3 h4
   .rename_i h2;simp only[Q2,decide_eq_true_eq]at h;obtain⟨⟨⟨h3,h4,h5⟩,h6⟩,h7⟩:=h;rw[show k=3 by omega,Q0 h3];exact .into e h6 h4 h5 h7
theorem ZoH{e:Edit}{d:Int}(h:Z8 e d=true):(∀k∈e.kids,∃d,Z8 k.e d=true)/\(∀o∈e.ops,∃l d,Z9 l o d=true)/\(e.kind=3->2<=e.list/\e.list<=9):=by have r:=Zt h;exact⟨λk hk=>⟨_,(ZD r.kids k hk).2⟩,λo ho=>⟨_,_,rightOs_mem r.ops o ho⟩,r.list⟩
theorem Z15{l d:Int}{o:Op}(h:Z9 l o d=true)(hk:o.kind=3):Z8 o.e d=true:=by have r:=Yf h;cases r with|into e h1=>exact h1|keep|gone|come=>grind
end Go.AM
namespace Go.AM.YtnfbomhidainjaaGreat
open Go.AM Go.Proofs
theorem Z2g{α:Type}(z:α)(l:List α)(i:Nat)(x:α):(ZK z l i x).length=max l.length (i+1):=by simp only[ZK,List.length_set,Q8,Xt];omega
theorem YJ{α:Type}(z:α)(l:List α)(i:Nat)(x:α)(j:Nat):(ZK z l i x).getD j z=if j=i then x else l.getD j z:=by simp only[ZK,Q6,Kp,Q8,Xt];grind
theorem Zoy{α β:Type}(f:α->β)(z:α)(l:List α)(i:Nat)(x:α):(ZK z l i x).map f=ZK (f z) (l.map f) i (f x):=by simp[ZK,List.map_set]
theorem Z4x:∀l:List Tree,Yx l=Z7 l|[]=>rfl|t::r=>by simp[Yx,Z7,Z4x r]
theorem Zgd(l:List Tree)(i:Nat)(x:Tree):Z7 (ZK Tree.nil l i x)=ZK Tree.nil (Z7 l) i (Z0 x):=by rw[Z7,Zoy,Ziz];try rfl
theorem Zui{a b:List Tree}{i:Nat}{x y:Tree}(h:Z7 a=Z7 b)(hx:Z0 x=Z0 y):Z7 (ZK Tree.nil a i x)=Z7 (ZK Tree.nil b i y):=by rw[Zgd,Zgd,h,hx]
theorem Z23{a b c d:List Tree}(h:Z7 a=Z7 b)(hx:Z7 c=Z7 d):Z7 (a++c)=Z7 (b++d):=by rw[Ju,Ju,h,hx]
theorem Zge(k:Int)(w:List Int){a b:List Tree}(h:Z7 a=Z7 b):Z0 (.mk k w a)=Z0 (.mk k w b):=by simp only[Z0,Z4x,h]
theorem Z2W{a b:List Tree}(h:Z7 a=Z7 b):a.length=b.length:=by have:=congrArg List.length h;simpa[Z7]using this
theorem Z22{a b:Tree}:Z7 [a]=Z7 [b]↔Z0 a=Z0 b:=by simp[Z7]
def OptR{α β:Type}(R:α->β->Prop):Option α->Option β->Prop|none,none=>True|some a,some b=>R a b|_,_=>False
theorem OptR.rfl'{α:Type}(a:Option α):OptR Eq a a:=by cases a;exact trivial;exact rfl
theorem OptR.bind{α β γ δ:Type}{R:α->β->Prop}{S:γ->δ->Prop}{a:Option α}{b:Option β}{f:α->Option γ}{g:β->Option δ}(h:OptR R a b)(hf:∀x y,R x y->OptR S (f x) (g y)):OptR S (a.bind f) (b.bind g):=by cases a<;>cases b<;>first|exact trivial|exact h.elim|exact hf _ _ h
theorem OptR.map{α β γ δ:Type}{R:α->β->Prop}{S:γ->δ->Prop}{a:Option α}{b:Option β}{f:α->γ}{g:β->δ}(h:OptR R a b)(hf:∀x y,R x y->S (f x) (g y)):OptR S (a.map f) (b.map g):=by cases a<;>cases b<;>first|exact trivial|exact h.elim|exact hf _ _ h
theorem OptR.ite{α β:Type}{R:α->β->Prop}{p q:Prop}[Decidable p][Decidable q]{a c:Option α}{b d:Option β}(h:p↔q)(h1:p->OptR R a b)(h2:¬p->OptR R c d):OptR R (if p then a else c) (if q then b else d):=by grind
def Eqv(x y:Tree):Prop:=Z0 x=Z0 y
def EqvL(x y:List Tree):Prop:=Z7 x=Z7 y
theorem EqvL.take{x y:List Tree}(h:EqvL x y)(n:Nat):EqvL (x.take n) (y.take n):=by unfold EqvL Z7 at*;simp_all
theorem EqvL.drop{x y:List Tree}(h:EqvL x y)(n:Nat):EqvL (x.drop n) (y.drop n):=by unfold EqvL Z7 at*;simp_all
theorem EqvL.len{x y:List Tree}(h:EqvL x y):x.length=y.length:=Z2W h
theorem Zgc(l:List Tree)(i:Nat):(Z7 l).getD i Tree.nil=Z0 (l.getD i Tree.nil):=by rw[<-Z4x];exact Z1a l i
theorem EqvL.get{x y:List Tree}(h:EqvL x y)(i:Nat):Eqv (x.getD i Tree.nil) (y.getD i Tree.nil):=by unfold Eqv;rw[<-Zgc,<-Zgc,h]
theorem ZnJ{a b:Option (List Tree×List Tree)}(h:OptR (λx y=>EqvL x.1 y.1/\EqvL x.2 y.2) a b):OptR EqvL (Z5J a) (Z5J b):=by unfold Z5J;refine h.bind λx y d=>?_;exact OptR.ite (by rw[d.2.len]) (λ_=>d.1) (λ_=>trivial)
def Zvk(a b:List Int):Prop:=∀i:Nat,a.getD i 0=b.getD i 0
def Zr2(a b:List Tree):Prop:=∀i:Nat,Eqv (a.getD i Tree.nil) (b.getD i Tree.nil)
theorem Z5H{a b:Tree}(ha:a.kind=1)(hb:b.kind=1):Eqv a b↔Zvk a.words b.words/\Zr2 a.kids b.kids:=by unfold Eqv Zvk Zr2;rw[YZ,ha,hb];simp[Eqv]
theorem ZgQ{a b:Tree}(h0:a.kind≠0)(h1:a.kind≠1):Eqv a b↔a.kind=b.kind/\a.words=b.words/\EqvL a.kids b.kids:=by unfold Eqv EqvL;rw[YZ,if_neg h1,<-Z4x,<-Z4x,Zax];grind
theorem Eqv.kind{a b:Tree}(h:Eqv a b):a.kind=b.kind:=((YZ a b).1 h).1
theorem Zr5{tw tv:List Int}(h:Zvk tw tv):∀(ws:List WEdit)(a b:List Int),Zvk a b->OptR Zvk (wsD tw ws a) (wsD tv ws b)
 |[],_,_,hab=>hab|w::r,a,b,hab=>by
  rw[wsD,wsD,h w.at_.toNat];refine OptR.ite QM (λ_=>Zr5 h r _ _ λi=>?_) (λ_=>trivial);rw[YJ,YJ];split;.try rfl
  .exact hab i
theorem ZuO(l:List Tree){a b:List Tree}(h:EqvL a b):Z05 l a=Z05 l b:=by unfold Z05;rw[h.len,show Z7 (a.take l.length)=Z7 (b.take l.length)from h.take _]
mutual theorem Z84:∀(e:Edit)(d:Int)(t s:Tree),Z8 e d=true->Eqv t s->OptR Eqv (doE false e t) (doE false e s)
 |.mk k o n w ks l os,d,t,s,hr,h=>by
  have h1:=ZnN ks t.kids s.kids;have h2:=ZgT os t.kids s.kids [] [];have hk:=h.kind;have ab:=ZoH hr;rw[Jj,Jj,Y1,Y1];show OptR Eqv (if k=0 then _ else _) (if k=0 then _ else _);refine OptR.ite QM (λ_=>h) λ_=>OptR.ite QM (λ_=>?_) λ_=>OptR.ite QM (λk2=>?_) λ_=>OptR.ite QM (λk3=>?_) (λ_=>trivial);.rw[show Z0 t=Z0 s from h];exact OptR.ite QM (λ_=>rfl) (λ_=>trivial)
  .refine OptR.ite (by rw[hk]) (λht=>?_) (λ_=>trivial);have hs:s.kind=1:=by rw[<-hk];exact ht
   obtain⟨hw,aa⟩:=(Z5H ht hs).1 h;refine(Zr5 hw w t.words s.words hw).bind λa b ah=>?_;refine(h1 aa ab.1 t.kids s.kids aa).map λx y ae=>?_;exact(Z5H rfl rfl).2 ⟨ah,ae⟩
  .refine OptR.ite (by rw[hk]) (λht=>?_) (λ_=>trivial);have hl:=ab.2.2;have ai:=ab.2.1;replace ht:t.kind=l:=ht;replace hl:2<=l/\l<=9:=hl k3;obtain⟨_,_,aa⟩:=(ZgQ Yp Yp).1 h;exact(ZnJ (h2 aa rfl ai)).map λx y ae=>Zge _ _ ae theorem ZnN:∀(ks:List (KidOf Edit))(tk sk:List Tree),Zr2 tk sk->(∀k∈ks,∃d,Z8 k.e d=true)->∀a b,Zr2 a b->OptR Zr2 (Z0c false tk ks a) (Z0c false sk ks b)
 |[],_,_,_,_,_,_,hab=>hab|k::r,tk,sk,h,hr,a,b,hab=>by
  rw[Z0c,Z0c];obtain⟨d,hd⟩:=hr k Q5;refine(ZuW k d tk sk h hd).bind λx y aa=>ZnN r tk sk h (λq hq=>hr q (Q3 _ hq)) _ _ λi=>?_;rw[YJ,YJ];split;.exact aa
  .exact hab i theorem ZuW:∀(k:KidOf Edit)(d:Int)(tk sk:List Tree),Zr2 tk sk->Z8 k.e d=true->OptR Eqv (Z3o false tk k) (Z3o false sk k)|⟨a,e⟩,d,tk,sk,h,hr=>by rw[Z3o,Z3o];exact Z84 e d _ _ hr (h _)theorem ZgT:∀(os:List (OpOf Edit))(rt rs a b:List Tree),EqvL rt rs->EqvL a b->(∀o∈os,∃l d,Z9 l o d=true)->OptR (λx y=>EqvL x.1 y.1/\EqvL x.2 y.2) (Y6 false os rt a) (Y6 false os rs b)
 |[],_,_,_,_,h,hab,_=>⟨hab,h⟩|o::r,rt,rs,a,b,h,hab,hr=>by rw[Y6,Y6];refine(Zzs o rt rs a b h hab (hr o Q5)).bind λx y aa=>ZgT r _ _ _ _ aa.2 aa.1 (λq hq=>hr q (Q3 _ hq))theorem Zzs:∀(o:OpOf Edit)(rt rs a b:List Tree),EqvL rt rs->EqvL a b->(∃l d,Z9 l o d=true)->OptR (λx y=>EqvL x.1 y.1/\EqvL x.2 y.2) (Z5L false o rt a) (Z5L false o rs b)
 |⟨k,n,l,e⟩,rt,rs,a,b,h,hab,hr=>by
  obtain⟨li,d,hr⟩:=hr;have he:=λh3=>Z84 e d (rt.getD 0 Tree.nil) (rs.getD 0 Tree.nil) (Z15 hr h3) (h.get 0);have aa:=h.len;rw[Z5L,Z5L];refine OptR.ite QM (λ_=>OptR.ite (by rw[aa]) (λ_=>⟨Z23 hab (h.take _),h.drop _⟩) (λ_=>trivial)) λk0=>OptR.ite QM (λ_=>?_) λk1=>OptR.ite QM (λ_=>⟨Z23 hab rfl,h⟩) λk2=>OptR.ite (by rw[aa]) (λ_=>trivial) λ_=>?_;.rw[ZuO l h];exact OptR.ite QM (λ_=>⟨hab,h.drop _⟩) (λ_=>trivial)
  .have ae:k=0\/k=1\/k=2\/k=3:=by have r:=Yf hr;generalize ho:OpOf.mk k n l e=o at r;cases r<;>(injection ho with h1;subst h1;decide)
   exact(he (by grind)).map λx y h'=>⟨Z23 hab (Z22.2 h'),h.drop _⟩end
end Go.AM.YtnfbomhidainjaaGreat
