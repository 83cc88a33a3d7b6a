import Derived.Test.YtpjenobkibfpcaaGreatZCG30b
import Derived.Test.YtpjenobkibfpcaaGreatZCD40
import Derived.Test.YtpjenobkibfpcaaGreatZKL21t
import Derived.Test.YtpjenobkibfpcaaGreatZKG21b
set_option linter.all false
open Option renaming some->A,none->aT
open Bool renaming true->Y,false->I
open List renaming length->J,getD->aR
open Int renaming toNat->G
namespace Go.AM.YtpjenobkibfpcaaGreat
open Go.AM Go.Proofs
noncomputable section
def mV:cO ph:=.dU 0 (.cons qm (.cons qm .nil)) (.cons (fe .aY) (.cons (fe .aY) .nil))
def xJ(a:ph):Prop:=ZR a.2.1/\ZR a.2.2.1
def Cy(a:ph):Nat:=8*(Z1 a.2.1+Z1 a.2.2.1)+1
def Ef(a:ph):aA U:=.tup [(Y,enc .aY (dK a.2.1 a.2.2.1).x),(Y,enc .aY (dK a.2.1 a.2.2.1).y)]
def EH(a:ph):List (List (C U)):=[[.bool (a.1.1||(dK a.2.1 a.2.2.1).c),.bool (a.1.2.1||(dK a.2.1 a.2.2.1).a)]]
def IB:Fs U:=fo mV (λa=>[xJ a]) Ef EH
def E_(a:ph):Prop:=ZR a.2.1/\ZR a.2.2.1/\W.D a.2.1=2/\W.D a.2.2.1=2
def uM(a:ph):Nat:=8*(Z1 a.2.1+Z1 a.2.2.1)
def D3(a:ph):aA U:=.tup [(Y,enc .aY (jx dK a.2.1 a.2.2.1).x),(Y,enc .aY (jx dK a.2.1 a.2.2.1).y)]
def Fb(a:ph):List (List (C U)):=[[.bool (a.1.1||(jx dK a.2.1 a.2.2.1).c),.bool (a.1.2.1||(jx dK a.2.1 a.2.2.1).a)]]
def ZxI:Fs U:=fo mV (λa=>[E_ a]) D3 Fb
def CZ(a:ph):Prop:=ZR a.2.1/\ZR a.2.2.1/\W.D a.2.1=3/\W.D a.2.2.1=3
def Cu(a:ph):aA U:=.tup [(Y,enc .aY (k8 dK a.2.1 a.2.2.1).x),(Y,enc .aY (k8 dK a.2.1 a.2.2.1).y)]
def Cq(a:ph):List (List (C U)):=[[.bool (a.1.1||(k8 dK a.2.1 a.2.2.1).c),.bool (a.1.2.1||(k8 dK a.2.1 a.2.2.1).a)]]
def ZxH:Fs U:=fo mV (λa=>[CZ a]) Cu Cq
def Ei:cO E6:=.dU 0 (.cons (S8 1) (.cons (iJ .op 0 1) (.cons (iJ .op 0 2) (.cons (iJ .aX 0 3) (.cons (iJ .aX 0 4) .nil))))) (.cons (fe .op) (.cons (fe .op) (.Tm (.cons qm (.cons qm .nil)) .nil)))
def B8(a:E6):Prop:=(zM a.2.1/\zM a.2.2.1/\Z4 a.2.1=Z4 a.2.2.1/\bI.D a.2.1≠2/\bI.D a.2.2.1≠2)/\J a.1.2.1<=10000000000/\J a.1.2.2.1<=10000000000
def NF(a:E6):Nat:=8*(Zy a.2.1+Zy a.2.2.1)+2
def CS(a:E6):aA U:=.tup []
def DD(a:E6):List (List (C U)):=[[.xp 1,sU .op (a.1.2.1++(ZS dK a.2.1 a.2.2.1).x) (.bF (.x 0 1)),sU .op (a.1.2.2.1++(ZS dK a.2.1 a.2.2.1).y) (.bF (.x 0 2)),sU .aX a.1.2.2.2.1 (.bF (.x 0 3)),sU .aX a.1.2.2.2.2.1 (.bF (.x 0 4))],[.bool (a.2.2.2.1.1||(ZS dK a.2.1 a.2.2.1).c),.bool (a.2.2.2.1.2.1||(ZS dK a.2.1 a.2.2.1).a)]]
def Zxy:Fs U:=fo Ei (λa=>[B8 a]) CS DD
def yC(N:Nat):List (FuncId×Fs U):=(66,fo mV (λa=>[xJ a,Cy a<N]) Ef EH)::(105,fo mV (λa=>[E_ a,uM a<N]) D3 Fb)::(106,fo mV (λa=>[CZ a,uM a<N]) Cu Cq)::(145,fo Ei (λa=>[B8 a,NF a<N]) CS DD)::[(114,l4),(103,S4),(104,Ug),(177,Ar),(138,TV),(139,Sm),(140,R7),(141,Zou),(142,Pg),(143,TB),(144,Zor),(146,AI),(196,RU),(197,zO)]
def ZUc:Zb U:=cI [[0,4,5,6,7,504,505,506,507,900],[8],[0,4,5,8,504,505],[0,4,5,19,504,505],[0,4,5,19,504,505],[],[0,4,5,33,504,505],[0,4,5,33,504,505],[],[0,4,5,47,504,505],[0,4,5,47,504,505],[],[0,4,5,66,504,505],[0,4,5,66,504,505],[]]
def ZTi(N:Nat)(s h:Bool)(p q:W):Prop:=AW (Za (yC N)) Tryz.f66 ZUc [] (Y5 (mV.cK ((s,h,()),p,q,())) (mV.eV ((s,h,()),p,q,()))) (EQ Tryz.f66 (Ef ((s,h,()),p,q,())) (EH ((s,h,()),p,q,())))
abbrev ZW9:Prop:=∀N(s:Bool)h(p:W)q(_:Unit),xJ ((s,h,()),p,q,())->Cy ((s,h,()),p,q,())<N+1->ZTi N s h p q
def yp(N:Nat):List (FuncId×Fs U):=yC N
def IU:Zb U:=cI [[0,4,5,6,7,504,505,506,507,900],[8,9,508,509],[(508,an 7 [.wr .bD]),(509,an 7 [.wr .bD])],[29,30,31],[32],[10,11,32,511],[37,38,39],[40],[12,13,40,513],[48],[48],[],[48],[12,13,48,513],[10,11,37,38,39,511],[29,30,31,(508,an 7 [.wr .bD,.wr .cJ]),(509,an 7 [.wr .bD,.wr .cJ])],[4,88,89,90,504],[91],[14,15,91,515],[96,97,98],[99],[16,17,99,517],[107],[],[16,17,107,517],[14,15,96,97,98,515],[0,5,8,9,88,89,90,505,508,509]]
def Nn(mc ma:Bool)(p q:W)(ae:Int)(ab aa:Bool)(h s:List aV):bT U:=(⟨[(0,.ptr (.x 0) 0),pL 4,pL 5,pL 6,pL 7,pL 8,pL 9,(29,.c (sU .bD p.aS .bA)),pI 30 ( J p.aS:Int),pI 31 ae],[(.bE 4,enc .aY p),(.bE 5,enc .aY q),(.bE 6,eI),(.bE 7,eI),(.bE 8,[ci 2,ci 0,.nils,.nils,ci 0,.nils,.nils,.mref (.l 8 7),.nils,ci 0,.nils]),(.bE 9,[ci 2,ci 0,.nils,.nils,ci 0,.nils,.nils,.mref (.l 9 7),.nils,ci 0,.nils]),(.x 0,[.bool ab,.bool aa])],[(.l 8 7,LC.mk (U:=U) .bD h 0),(.l 9 7,LC.mk (U:=U) .bD s 0)]⟩)
def ML(mc ma:Bool)(p q:W)(ae af:Int)(aa ab:Bool)(s h:List aV):bT U:=(⟨[(0,.ptr (.x 0) 0),pL 4,pL 5,pL 6,pL 7,pL 8,pL 9,pI 10 ae,pL 11,(29,.c (sU .bD p.aS .bA)),pI 30 ( J p.aS:Int),pI 31 ae,(37,.c (sU .bD q.aS .bA)),pI 38 ( J q.aS:Int),pI 39 af],[(.bE 4,enc .aY p),(.bE 5,enc .aY q),(.bE 6,eI),(.bE 7,eI),(.bE 8,[ci 2,ci 0,.nils,.nils,ci 0,.nils,.nils,.mref (.l 8 7),.nils,ci 0,.nils]),(.bE 9,[ci 2,ci 0,.nils,.nils,ci 0,.nils,.nils,.mref (.l 9 7),.nils,ci 0,.nils]),(.bE 11,enc .bD (aR p.aS (G ae) (aV.mk 0 0 0 0))),(.x 0,[.bool aa,.bool ab])],[(.l 8 7,LC.mk (U:=U) .bD s 0),(.l 9 7,LC.mk (U:=U) .bD h 0)]⟩)
def LV(mc ma:Bool)(p q:W)(ae af:List aV)(ah:Int)(aa ab:Bool)(s h:List bP):bT U:=(⟨[(0,.ptr (.x 0) 0),pL 5,pL 6,pL 7,pL 8,pL 9,(88,.c (sU .cJ p.X .bA)),pI 89 ( J p.X:Int),pI 90 ah],[(.bE 5,enc .aY q),(.bE 6,eI),(.bE 7,eI),(.bE 8,[ci 2,ci 0,.nils,.nils,ci 0,.nils,.nils,.mref (.l 8 7),.mref (.l 8 8),ci 0,.nils]),(.bE 9,[ci 2,ci 0,.nils,.nils,ci 0,.nils,.nils,.mref (.l 9 7),.mref (.l 9 8),ci 0,.nils]),(.x 0,[.bool aa,.bool ab])],[(.l 8 7,LC.mk (U:=U) .bD ae 0),(.l 8 8,LC.mk (U:=U) .cJ s 0),(.l 9 7,LC.mk (U:=U) .bD af 0),(.l 9 8,LC.mk (U:=U) .cJ h 0)]⟩)
def U7(mc ma:Bool)(p q:W)(ah h:Int)(af:aA U)(ab ae:Bool)(s aa:List aV):bT U:=(⟨[(0,.ptr (.x 0) 0),pL 4,pL 5,pL 6,pL 7,pL 8,pL 9,pI 10 ah,pL 11,pI 12 h,pL 13,(29,.c (sU .bD p.aS .bA)),pI 30 ( J p.aS:Int),pI 31 ah,(37,.c (sU .bD q.aS .bA)),pI 38 ( J q.aS:Int),pI 39 h,(48,af)],[(.bE 4,enc .aY p),(.bE 5,enc .aY q),(.bE 6,eI),(.bE 7,eI),(.bE 8,[ci 2,ci 0,.nils,.nils,ci 0,.nils,.nils,.mref (.l 8 7),.nils,ci 0,.nils]),(.bE 9,[ci 2,ci 0,.nils,.nils,ci 0,.nils,.nils,.mref (.l 9 7),.nils,ci 0,.nils]),(.bE 11,enc .bD (aR p.aS (G ah) (aV.mk 0 0 0 0))),(.bE 13,enc .bD (aR q.aS (G h) (aV.mk 0 0 0 0))),(.x 0,[.bool ab,.bool ae])],[(.l 8 7,LC.mk (U:=U) .bD s 0),(.l 9 7,LC.mk (U:=U) .bD aa 0)]⟩)
def Ik(mc ma:Bool)(p q:W)(af ah:List aV)(h ai:Int)(ab ae:Bool)(s aa:List bP):bT U:=(⟨[(0,.ptr (.x 0) 0),pL 5,pL 6,pL 7,pL 8,pL 9,pI 14 h,pL 15,(88,.c (sU .cJ p.X .bA)),pI 89 ( J p.X:Int),pI 90 h,(96,.c (sU .cJ q.X .bA)),pI 97 ( J q.X:Int),pI 98 ai],[(.bE 5,enc .aY q),(.bE 6,eI),(.bE 7,eI),(.bE 8,[ci 2,ci 0,.nils,.nils,ci 0,.nils,.nils,.mref (.l 8 7),.mref (.l 8 8),ci 0,.nils]),(.bE 9,[ci 2,ci 0,.nils,.nils,ci 0,.nils,.nils,.mref (.l 9 7),.mref (.l 9 8),ci 0,.nils]),(.bE 15,enc .cJ (aR p.X (G h) (aW.mk 0 W.nil))),(.x 0,[.bool ab,.bool ae])],[(.l 8 7,LC.mk (U:=U) .bD af 0),(.l 8 8,LC.mk (U:=U) .cJ s 0),(.l 9 7,LC.mk (U:=U) .bD ah 0),(.l 9 8,LC.mk (U:=U) .cJ aa 0)]⟩)
def Uu(mc ma:Bool)(p q:W)(ah ai:List aV)(s h:Int)(ae af:Bool)(ab aa:List bP):bT U:=(⟨[(0,.ptr (.x 0) 0),pL 5,pL 6,pL 7,pL 8,pL 9,pI 14 s,pL 15,pI 16 h,pL 17,(88,.c (sU .cJ p.X .bA)),pI 89 ( J p.X:Int),pI 90 s,(96,.c (sU .cJ q.X .bA)),pI 97 ( J q.X:Int),pI 98 h,(107,.c (.bool (( aW.S (aR p.X (G s) (aW.mk 0 W.nil)):Int)==aW.S (aR q.X (G h) (aW.mk 0 W.nil)))))],[(.bE 5,enc .aY q),(.bE 6,eI),(.bE 7,eI),(.bE 8,[ci 2,ci 0,.nils,.nils,ci 0,.nils,.nils,.mref (.l 8 7),.mref (.l 8 8),ci 0,.nils]),(.bE 9,[ci 2,ci 0,.nils,.nils,ci 0,.nils,.nils,.mref (.l 9 7),.mref (.l 9 8),ci 0,.nils]),(.bE 15,enc .cJ (aR p.X (G s) (aW.mk 0 W.nil))),(.bE 17,enc .cJ (aR q.X (G h) (aW.mk 0 W.nil))),(.x 0,[.bool ae,.bool af])],[(.l 8 7,LC.mk (U:=U) .bD ah 0),(.l 8 8,LC.mk (U:=U) .cJ ab 0),(.l 9 7,LC.mk (U:=U) .bD ai 0),(.l 9 8,LC.mk (U:=U) .cJ aa 0)]⟩)
abbrev nH(N)(p):=AW (qW (yp N)) Tryz.f105 IU p
abbrev kR(N)(p):=SW (qW (yp N)) Tryz.f105 IU p
theorem ZD3(N)(mc ma)(p q)(af)(ae ab)(s aa)(N0:NT)(Q:QT)(h:iB (decide (af<( J p.aS:Int))) ((0<=af/\af<(J p.aS))/\Zi (nH N [1,1,1,0,1,0,0,1,1,0,0,1,1,0,0]) (ML mc ma p q af 0 ae ab s aa) (xB 2 (xB 1 (kR N [1,1,1,0,1,0,0,1,1,1] (xT N0 (xB 0 (kR N [1,1,1,1] Q))))))) ( IM (p.X,())/\IM (q.X,())/\Zi (nH N [1,1,1,1,1,0,1,0,0]) (LV mc ma p q s aa 0 ae ab p.X q.X) (xB 4 (kR N [1,1,1,1,1,1] Q)))):nH N [1,1,1,0,1,0,0] (Nn mc ma p q af ae ab s aa) (xT N0 (xB 0 (kR N [1,1,1,1] Q))):=Eq.mpr V4 h
theorem ZD2(N)(mc ma)(p q)(ah s)(af ae)(ab aa)(N1 N0:NT)(Q:QT)(h:∀al,al=aR p.aS ah.toNat (aV.mk 0 0 0 0)->∀ak,ak=aR q.aS s.toNat (aV.mk 0 0 0 0)->∀ai,ai=al->∀aj,aj=ak->∀ao,ao=(oA ai (IntKind.wrap .u8 (BitVec.ofInt (IntKind.bits .u8) 255^^^BitVec.ofInt (IntKind.bits .u8) ak.a_).toNat)).1->∀am,am=(oA aj (IntKind.wrap .u8 (BitVec.ofInt (IntKind.bits .u8) 255^^^BitVec.ofInt (IntKind.bits .u8) al.a_).toNat)).1->let z1:=IntKind.bits .u8;let z0:=xT N1 (xB 2 (xB 1 (kR N [1,1,1,0,1,0,0,1,1,1] (xT N0 (xB 0 (kR N [1,1,1,1] Q))))));iB (decide (s<( J q.aS:Int))) ((0<=s/\s<(J q.aS))/\iB (al.S==ak.S) ( Sn ((af,ae,()),ai,aj,())/\L_ (ai,IntKind.wrap .u8 (BitVec.ofInt z1 255^^^BitVec.ofInt z1 ak.a_).toNat,())/\(0<=ah/\ah<( J ab:Int))/\0<=ah.toNat/\L_ (aj,IntKind.wrap .u8 (BitVec.ofInt z1 255^^^BitVec.ofInt z1 al.a_).toNat,())/\(0<=s/\s<(J aa))/\0<=s.toNat/\nH N [1,1,1,0,1,0,0,1,1,0,0,1,1,0,0,1,1,1] (U7 mc ma p q ah s .cY (af||! YB ai aj&&jH ai aj) (ae||YB ai aj) (List.set ab ah.toNat ao) (List.set aa s.toNat am)) z0) (nH N [1,1,1,0,1,0,0,1,1,0,0,1,1,0,0,1,1,1] (U7 mc ma p q ah s (.c (.bool (al.S==ak.S))) af ae ab aa) z0)) ( bQ (ah+1)/\N0 (Nn mc ma p q (ah+1) af ae ab aa))):nH N [1,1,1,0,1,0,0,1,1,0,0,1,1,0,0] (ML mc ma p q ah s af ae ab aa) (xT N1 (xB 2 (xB 1 (kR N [1,1,1,0,1,0,0,1,1,1] (xT N0 (xB 0 (kR N [1,1,1,1] Q))))))):=Eq.mpr V4 (h _ rfl _ rfl _ (JB _) _ (JB _) _ (JB _) _ (JB _))
theorem ZD1(N)(mc ma)(p q)(ab ae)(ai)(af ah)(aa s:List bP)(N2:NT)(Q:QT)(h:∀ak,ak=W.mk 2 (H.mk 0 ([]) ([])) (H.mk 0 ([]) ([])) ab aa 0 ([]:List Op)->∀aj,aj=W.mk 2 (H.mk 0 ([]) ([])) (H.mk 0 ([]) ([])) ae s 0 ([]:List Op)->iB (decide (ai<( J p.X:Int))) ((0<=ai/\ai<(J p.X))/\Zi (nH N [1,1,1,1,1,0,1,0,0,1,1,0,0,1,1,0,0]) (Ik mc ma p q ab ae ai 0 af ah aa s) (xB 6 (xB 5 (kR N [1,1,1,1,1,0,1,0,0,1,1,1] (xT N2 (xB 4 (kR N [1,1,1,1,1,1] Q))))))) ( Hd ((2,0,([]),([]),0,([]),([]),ab,aa,0,([]),()),())/\Hd ((2,0,([]),([]),0,([]),([]),ae,s,0,([]),()),())/\Q .ret (L2 [pL 6,pL 7] [(.bE 6,enc .aY (oR ak)),(.bE 7,enc .aY (oR aj)),(.x 0,[.bool af,.bool ah])]))):nH N [1,1,1,1,1,0,1,0,0] (LV mc ma p q ab ae ai af ah aa s) (xT N2 (xB 4 (kR N [1,1,1,1,1,1] Q))):=Eq.mpr V4 (h _ rfl _ rfl)
theorem Zre(N)(mc ma)(p q)(ai af)(ah)(ab ae)(s aa)(N1 N0:NT)(Q:QT)(h:bQ (af+1)/\N1 (ML mc ma p q ai (af+1) ab ae s aa)):nH N [1,1,1,0,1,0,0,1,1,0,0,1,1,0,0,1,1,1] (U7 mc ma p q ai af ah ab ae s aa) (xT N1 (xB 2 (xB 1 (kR N [1,1,1,0,1,0,0,1,1,1] (xT N0 (xB 0 (kR N [1,1,1,1] Q))))))):=Eq.mpr V4 h
theorem ZD0(N)(mc ma)(p q:W)(ai aj)(ae s)(af ah)(aa ab)(N4 N2:NT)(Q:QT)(h:∀ao,ao=aR p.X (G ae) (aW.mk 0 W.nil)->∀am,am=aR q.X (G s) (aW.mk 0 W.nil)->∀ak,ak=ao.e->∀al,al=am.e->∀ar,ar=(dK ak al).x->∀aq,aq=(dK ak al).y->let z0:=xT N4 (xB 6 (xB 5 (kR N [1,1,1,1,1,0,1,0,0,1,1,1] (xT N2 (xB 4 (kR N [1,1,1,1,1,1] Q))))));iB (decide (s<(J q.X))) ((0<=s/\s<(J q.X))/\iB (ao.S==am.S) ( xJ ((af,ah,()),ak,al,())/\Cy ((af,ah,()),ak,al,())<N/\(0<=ae/\ae<(J aa))/\0<=G ae/\(0<=s/\s<(J ab))/\0<=G s/\nH N [1,1,1,1,1,0,1,0,0,1,1,0,0,1,1,0,0,1,1,1] (Uu mc ma p q ai aj ae s (af||(dK ak al).c) (ah||(dK ak al).a) (List.set aa (G ae) (aW.mk (aW.S (aR aa (G ae) (aW.mk 0 W.nil))) ar)) (List.set ab (G s) (aW.mk (aW.S (aR ab (G s) (aW.mk 0 W.nil))) aq))) z0) (nH N [1,1,1,1,1,0,1,0,0,1,1,0,0,1,1,0,0,1,1,1] (Uu mc ma p q ai aj ae s af ah aa ab) z0)) ( bQ (ae+1)/\N2 (LV mc ma p q ai aj (ae+1) af ah aa ab))):nH N [1,1,1,1,1,0,1,0,0,1,1,0,0,1,1,0,0] (Ik mc ma p q ai aj ae s af ah aa ab) (xT N4 (xB 6 (xB 5 (kR N [1,1,1,1,1,0,1,0,0,1,1,1] (xT N2 (xB 4 (kR N [1,1,1,1,1,1] Q))))))):=Eq.mpr V4 (h _ rfl _ rfl _ (Z0 _) _ (Z0 _) _ (Z0 _) _ (Z0 _))
theorem Zrd(N)(mc ma)(p q)(ah ai)(aj af)(ab ae)(aa s)(N4 N2:NT)(Q:QT)(h:bQ (af+1)/\N4 (Ik mc ma p q ah ai aj (af+1) ab ae aa s)):nH N [1,1,1,1,1,0,1,0,0,1,1,0,0,1,1,0,0,1,1,1] (Uu mc ma p q ah ai aj af ab ae aa s) (xT N4 (xB 6 (xB 5 (kR N [1,1,1,1,1,0,1,0,0,1,1,1] (xT N2 (xB 4 (kR N [1,1,1,1,1,1] Q))))))):=Eq.mpr V4 h
def ZNj(N:Nat)(s h:Bool)(p q:W):Prop:=AW (qW (yp N)) Tryz.f105 IU [] (Y5 (mV.cK ((s,h,()),p,q,())) (mV.eV ((s,h,()),p,q,()))) (EQ Tryz.f105 (D3 ((s,h,()),p,q,())) (Fb ((s,h,()),p,q,())))
abbrev ZPc:Prop:=∀N(s:Bool)h(p:W)q(_:Unit),E_ ((s,h,()),p,q,())->uM ((s,h,()),p,q,())<N+1->ZNj N s h p q
def N7:Zb U:=cI [[0,4,5,6,7,504,505,506,507,900],[5,8,9,505],[9,22],[0,4,8,22,504],[],[4,8,10,504,531],[8,32,33,34,(531,[.any,.bF .op,.bF .op,.bF .aX,.bF .aX])],[35,531,531],[12,35,512],[39],[39],[12,512],[12,39,48,512],[12,39,48,512],[12,61,512],[12,61,512],[(531,[.any,.bF .op,.bF .op,.bF .aX,.bF .aX])],[32,33,34,531,531],[4,10,504,531]]
def Ab(mc ma:Bool)(p q:W)(ah:Int)(af ae:Bool)(ab h:List H)(aa s:List Op):bT U:=L2 [pL 4,pL 6,pL 7,(10,.ptr (.bE 31) 0),(32,.c (sU .dO (ZC 2 2 p.ops q.ops []).1 .bA)),pI 33 (J (ZC 2 2 p.ops q.ops []).1),pI 34 ah] [(.bE 4,enc .aY p),(.bE 6,eI),(.bE 7,eI),(.bE 31,[.xp 0,sU .op aa (.bF (.l 31 1)),sU .op s (.bF (.l 31 2)),sU .aX ab (.bF (.l 31 3)),sU .aX h (.bF (.l 31 4))]),(.x 0,[.bool af,.bool ae])]
abbrev ZWw(N)(p):=AW (Za (yp N)) Tryz.f106 N7 p
abbrev ZW2(N)(p):=SW (Za (yp N)) Tryz.f106 N7 p
theorem ZCZ(N)(mc ma)(p q)(ai)(ah af)(ae ab)(aa s)(N0:NT)(Q:QT)(h:∀ao,ao=W.new (J9 p.V (aa++(Jd ae ab).x))->∀am,am=W.new (J9 p.V (s++(Jd ae ab).y))->∀aq,aq=W.bH (J9 p.V (aa++(Jd ae ab).x))->∀ar,ar=W.bH (J9 p.V (s++(Jd ae ab).y))->∀aj,aj=List.getD (ZC 2 2 p.ops q.ops []).1 (G ai) (cm.mk 0 Op.nil Op.nil)->∀ak,ak=aj.p->∀al,al=aj.q->let z4:=ZS dK ak al;let z3:=VC (((),aa,s,ae,ab,()),(ah,af,()),());let z0:=Jd ae ab;let z2:=J9 p.V (s++z0.y);let z1:=J9 p.V (aa++z0.x);iB (decide (ai<(J (ZC 2 2 p.ops q.ops []).1))) ((0<=ai/\ai<(J (ZC 2 2 p.ops q.ops []).1))/\iB (aj.of==1) ( ( J ae+J aj.p.l)*56<=140737488355328/\bQ (ai+1)/\N0 (Ab mc ma p q (ai+1) ah af (ae++aj.p.l) ab aa s)) (iB (aj.of==2) ( ( J ab+J aj.q.l)*56<=140737488355328/\bQ (ai+1)/\N0 (Ab mc ma p q (ai+1) ah af ae (ab++aj.q.l) aa s)) (z3/\B8 (((),aa++z0.x,s++z0.y,([]),([]),()),ak,al,( ah||z0.c,af,()),())/\NF (((),aa++z0.x,s++z0.y,([]),([]),()),ak,al,( ah||z0.c,af,()),())<N/\bQ (ai+1)/\N0 (Ab mc ma p q (ai+1) ( ah||z0.c||z4.c) (af||z4.a) ([]) ([]) ( aa++z0.x++z4.x) ( s++z0.y++z4.y))))) (z3/\vA (p.V,aa++z0.x,())/\vA (p.V,s++z0.y,())/\Q .ret (L2 [pL 6,pL 7] [(.bE 6,[ci (W.D z1)]++enc .aX aq++enc .aX ao++[sU .bD (W.aS z1) .bA,sU .cJ (W.X z1) .bA,ci (W.V z1),sU .op (W.ops z1) .bA]),(.bE 7,[ci (W.D z2)]++enc .aX ar++enc .aX am++[sU .bD (W.aS z2) .bA,sU .cJ (W.X z2) .bA,ci (W.V z2),sU .op (W.ops z2) .bA]),(.x 0,[.bool (ah||z0.c),.bool af])]))):ZWw N [1,1,1,1,0,1,0,0] (Ab mc ma p q ai ah af ae ab aa s) (xT N0 (xB 0 (ZW2 N [1,1,1,1,1] Q))):=Eq.mpr V4 (h _ rfl _ rfl _ rfl _ rfl _ rfl _ (Yp _) _ (Yp _))
def ZNi(N:Nat)(s h:Bool)(p q:W):Prop:=AW (Za (yp N)) Tryz.f106 N7 [] (Y5 (mV.cK ((s,h,()),p,q,())) (mV.eV ((s,h,()),p,q,()))) (EQ Tryz.f106 (Cu ((s,h,()),p,q,())) (Cq ((s,h,()),p,q,())))
abbrev ZPb:Prop:=∀N(s:Bool)h(p:W)q(_:Unit),CZ ((s,h,()),p,q,())->uM ((s,h,()),p,q,())<N+1->ZNi N s h p q
def ZOj:Zb U:=cI [[0,4,5,504,505,900,901],[4,5,6,7,504,505,506,507],[0,6,7,506,507],[0,4,5,42,504,505],[0,4,5,42,504,505],[0,4,5,62,504,505],[0,4,5,62,504,505],[0,4,5,82,504,505],[0,4,5,82,504,505],[0,4,5,109,504,505],[0,4,5,109,504,505],[0,4,5,133,504,505],[4,5,133,147,504,505],[0,147],[0,4,5,154,504,505],[0,4,5,154,504,505],[0,4,5,166,504,505],[0,4,5,166,504,505]]
def ZN4(N:Nat)(h:Unit)(sx sy:List Op)(s sh:List H)(p q:Op)(mc ma:Bool):Prop:=AW (Za (yp N)) Tryz.f145 ZOj [] (Y5 (Ei.cK ((h,sx,sy,s,sh,()),p,q,(mc,ma,()),())) (Ei.eV ((h,sx,sy,s,sh,()),p,q,(mc,ma,()),()))) (EQ Tryz.f145 (CS ((h,sx,sy,s,sh,()),p,q,(mc,ma,()),())) (DD ((h,sx,sy,s,sh,()),p,q,(mc,ma,()),())))
abbrev ZOZ:Prop:=∀N(h:Unit)(sx:List Op)(sy:List Op)(si:List H)(sh:List H)p(q:Op)s(ma:Bool)(_:Unit),B8 ((h,sx,sy,si,sh,()),p,q,(s,ma,()),())->NF ((h,sx,sy,si,sh,()),p,q,(s,ma,()),())<N+1->ZN4 N h sx sy si sh p q s ma
theorem ZJd(qE:CT 114 l4)(PJ:CT 103 S4)(VK:CT 104 Ug)(yc:CT 177 Ar)(Wn:CT 138 TV)(Ph:CT 139 Sm)(Rg:CT 140 R7)(TX:CT 141 Zou)(ZRO:CT 142 Pg)(PX:CT 143 TB)(Uc:CT 144 Zor)(OU:CT 146 AI)(Wp:CT 196 RU)(ZRv:CT 197 zO)(R9:ZW9)(T9:ZPc)(O_:ZPb)(So:ZOZ):CT 66 IB/\CT 105 ZxI/\CT 106 ZxH/\CT 145 Zxy:=by
 have ai:FK 66:=⟨Tryz.f66,Tryz.func66,rfl,rfl⟩;have ab:FK 105:=⟨Tryz.f105,Tryz.func105,rfl,rfl⟩;have aa:FK 106:=⟨Tryz.f106,Tryz.func106,rfl,rfl⟩;have ae:FK 145:=⟨Tryz.f145,Tryz.func145,rfl,rfl⟩;have s:∀N,CT 66 (fo mV (λa=>[xJ a,Cy a<N]) Ef EH)/\CT 105 (fo mV (λa=>[E_ a,uM a<N]) D3 Fb)/\CT 106 (fo mV (λa=>[CZ a,uM a<N]) Cu Cq)/\CT 145 (fo Ei (λa=>[B8 a,NF a<N]) CS DD):=by intro N;induction N with|zero=>exact⟨NL ai,NL ab,NL aa,NL ae⟩|succ N ih=>have kn:=mD (l:=yC N) ⟨ih.1,ih.2.1,ih.2.2.1,ih.2.2.2,qE,PJ,VK,yc,Wn,Ph,Rg,TX,ZRO,PX,Uc,OU,Wp,ZRv,trivial⟩;exact⟨EP (Γ:=Za (yC N)) ZN rfl kn ZUc Tryz.func66 rfl rfl λa=>by show 3<=_;decide λ⟨⟨mc,ma,_⟩,p,q,_⟩h=>R9 N mc ma p q () h.1 h.2.1,EP (Γ:=qW (yC N)) ZN rfl kn IU Tryz.func105 rfl rfl λa=>by show 3<=_;decide λ⟨⟨mc,ma,_⟩,p,q,_⟩h=>T9 N mc ma p q () h.1 h.2.1,EP (Γ:=Za (yC N)) ZN rfl kn N7 Tryz.func106 rfl rfl λa=>by show 3<=_;decide λ⟨⟨mc,ma,_⟩,p,q,_⟩h=>O_ N mc ma p q () h.1 h.2.1,EP (Γ:=Za (yC N)) ZN rfl kn ZOj Tryz.func145 rfl rfl λa=>by show 3<=_;decide λ⟨⟨ak,sx,sy,si,sh,_⟩,p,q,⟨mc,ma,_⟩,_⟩h=>So N ak sx sy si sh p q mc ma () h.1 h.2.1⟩
 exact⟨HT ai λN=>(s N).1,HT ab λN=>(s N).2.1,HT aa λN=>(s N).2.2.1,HT ae λN=>(s N).2.2.2⟩
end
noncomputable section
def Hl:cF tA:=.cons (fY .aY) .nil
def SN(a:tA):Prop:=(∀x∈a.1,ZR x)/\oW a.1<=8000000000
def Ur(a:tA):aA U:=.tup [(Y,enc .aY (nY a.1).1),(I,[.bool (nY a.1).2])]
def ZDS:Fs U:=fs Hl (λa=>[SN a]) Ur
def UC:List (FuncId×Fs U):=[(71,ZDG),(67,oe)]
def Pq:Zb U:=cI [[0,2,502],[4,504],[0,10,11,12,(504,[.any,.any,.bA .u64,.bA .aX,.any,.bA .u64,.bA .aX,.bA .bD,.bA .cJ,.any,.bA .op])],[13,504,504],[6,13,506],[6,7,8,506,507],[8,23],[3,4,7,10,11,12,23,504,507],[3,4,10,11,12,504],[(504,[.any,.any,.bA .u64,.bA .aX,.any,.bA .u64,.bA .aX,.bA .bD,.bA .cJ,.any,.bA .op])],[3,4,10,11,12,504]]
def Ga(l:List W)(am aj s ah ak:Int)(ai:List Int)(af:List H)(ae:List Int)(aa:List H)(al:List aV)(ab:List bP)(h:List Op):bT U:=L2 [pL 2,pL 4,(10,.c (sU .aY l .bA)),pI 11 (J l),pI 12 am] [(.bE 2,eI),(.bE 4,[ci aj,ci s,sU .u64 ai .bA,sU .aX af .bA,ci ah,sU .u64 ae .bA,sU .aX aa .bA,sU .bD al .bA,sU .cJ ab .bA,ci ak,sU .op h .bA])]
abbrev A20(p):=AW (Za UC) Tryz.f20 Pq p
abbrev S20(p):=SW (Za UC) Tryz.f20 Pq p
theorem ZIt(l)(ab am af ak ar)(al)(aj)(ai)(aq)(ao)(ah:List bP)(ae:List Op)(N0:NT)(Q:QT)(h:∀au,au=aR l (G ab) W.nil->∀s,s=W.mk am (H.mk af al aj) (H.mk ak ai aq) ao ah ar ae->∀aa,aa=au->let z1:=W.new (iV s aa).1;let z0:=W.bH (iV s aa).1;iB (decide (ab<(J l))) ((0<=ab/\ab<(J l))/\jI (s,aa,())/\iB (!(iV s aa).2) (Q .ret (L2 [pL 2,pB 3 I] [(.bE 2,eI)])) ( bQ (ab+1)/\N0 (Ga l (ab+1) (W.D (iV s aa).1) (H.D z0) (H.D z1) (W.V (iV s aa).1) (H.aS z0) (H.X z0) (H.aS z1) (H.X z1) (W.aS (iV s aa).1) (W.X (iV s aa).1) (W.ops (iV s aa).1)))) ( fg (s,())/\Q .ret (L2 [pL 2,pB 3 Y] [(.bE 2,enc .aY (Zd s))]))):A20 [1,1,0,1,0,0] (Ga l ab am af ak ar al aj ai aq ao ah ae) (xT N0 (xB 0 (S20 [1,1,1] Q))):=Eq.mpr V4 (h _ rfl _ rfl _ (Z0 _))
end
theorem Zzr:∀l,J l<=oW l|[]=>Qa _|e::r=>by have:=Zzr r;have:=xg e;simp only[oW,Qd];omega
theorem ZKH{p q}(s:ZR p)(hq:ZR q)(h:(iV p q).2=Y)(hs:dZ p+dZ q<=9000000000):ZR (iV p q).1/\dZ (iV p q).1+18<=dZ p+dZ q:=by
 have F:=HH s hq;unfold iV at h⊢;split at h
 .rename_i L;rw[Q5 L];have w:=F.wk L;have c:=F.ct trivial L;have n:=qJ (Jc p q).1;dsimp only;exact⟨⟨O,rE _ _ w.r w.g,_,Jz _ _ w.r⟩,O⟩
 .cases h
theorem c20:aU Tryz.prog M 20 ZDS:=by
 refine kF (l:=UC) ⟨c71,Ct.1,trivial⟩ Pq Tryz.func20 1 λ⟨l,_⟩hp=>?_;simp only[SN]at hp;obtain⟨hx,L⟩:=hp;have au:=Zzr l;refine wV (λQ=>Zi (A20 [1,1,0,1,0,0]) (Ga l 0 0 0 0 0 [] [] [] [] [] [] []) (xB 0 (S20 [1,1,1] Q))) ?_ λ_ h=>Eq.mpr V4 h;try(simp only[iB,bR,bW])
 refine Z5 (ι:=Int×W) (λj=>Ga l j.1 j.2.D j.2.bH.D j.2.new.D j.2.V j.2.bH.aS j.2.bH.X j.2.new.aS j.2.new.X j.2.aS j.2.X j.2.ops) (λj=>(0<=j.1/\j.1<=J l)/\(ZR j.2/\dZ j.2+oW (l.drop (G j.1))<=8000000018)/\o8 (l.drop (G j.1)) j.2=o8 l W.nil) (λj=>G (( J l:Int)-j.1)) (0,W.nil) rfl ⟨⟨O,O⟩,⟨Dd,by have:dZ W.nil=18:=rfl;grind⟩,by simp⟩ ?_;rintro⟨i,x⟩⟨⟨i1,i2⟩,⟨x1,x2⟩,s⟩;dsimp only at i1 i2 x1 x2 s;refine ZIt _ _ _ _ _ _ _ _ _ _ _ _ _ _ _ ?_;rintro y1 aa y2 ae y3 rfl;dsimp only at ae;have e2:y2=x:=by rw[ae];obtain⟨k,⟨_,_,_⟩,⟨_,_,_⟩,w,ks,l,os⟩:=x;rfl
 subst e2;(simp only[iB,bR,bW]);refine⟨λhi=>?_,λhi=>?_⟩
 .have hd:=ZO i1 hi W.nil;rw[<-aa]at hd;have hm:y3∈l:=by rw[aa];exact Zh O _
  rw[hd,oW]at x2;rw[hd,o8]at s;refine⟨⟨i1,hi⟩,⟨x1,hx _ hm⟩,λL=>?_,λL=>⟨V3,(i+1,(iV y2 y3).1),rfl,⟨⟨O,O⟩,?_,?_⟩,O⟩⟩
  .rw[Q0 (by grind)]at s;have:nY l=(W.nil,I):=by rw[nY,Q0];rw[<-s];decide
   simp only[Ur,this];exact V0
  .have:=ZKH x1 (hx _ hm) L O;grind
  grind
 .rw[Qb O,o8]at s;have hm:=ZL x1;refine⟨⟨by grind,x1.2.2⟩,?_⟩;have:nY l=(Zd y2,Y):=by rw[nY,<-s];try rfl
  simp only[Ur,this];exact V0
def at1(n:Int):H:=.mk 10 [n] []
theorem ZDW{o:Option H}(h:o.isSome=Y):∃v,o=A v:=by cases o with|none=>cases h|some v=>grind
theorem ZVv:aU Tryz.prog M 190 PZ:=by refine kF (l:=cQ) trivial n8 Tryz.func190 1 λ⟨w,_⟩_=>?_;refine wV (λQ=>Q .ret (L2 [pB 2 (w.a_==0)] [])) ?_ λ_ h=>Eq.mpr V4 h;simp only[ZEC];exact V0
theorem ZVu:aU Tryz.prog M 192 WG:=by refine kF (l:=cQ) trivial n8 Tryz.func192 1 λ⟨w,_⟩_=>?_;refine wV (λQ=>Q .ret (L2 [pB 2 (w.e.D==0)] [])) ?_ λ_ h=>Eq.mpr V4 h;simp only[ZEB];exact V0
theorem ZXt:aU Tryz.prog M 199 Zxf:=by refine kF (l:=cQ) trivial n8 Tryz.func199 1 λ⟨w,_⟩_=>?_;refine wV (λQ=>Q .ret (L2 [pB 2 (w.D !=0)] [])) ?_ λ_ h=>Eq.mpr V4 h;simp only[ZEz];exact V0
theorem DF{α}(f):∀(l:List α)i,(Jw f l i=-1/\∀a∈l,f a=I)\/i<=Jw f l i/\Jw f l i<i+J l/\(∀a∈l.take (G (Jw f l i-i)),f a=I)/\∀z,f (aR l (G (Jw f l i-i)) z)=Y
 |[],i=>.inl ⟨rfl,λa h=>by cases h⟩|a::r,i=>by
  by_cases h:f a=Y;.rw[Jw,Q5 h];grind
  .rw[Jw,Q0 h];rcases DF f r (i+1)with⟨h1,h2⟩|⟨h1,h2,h3,h4⟩;.grind
   .have e:G (Jw f r (i+1)-i)=G (Jw f r (i+1)-(i+1))+1:=O;rw[e];refine .inr ⟨O,by grind,λx s=>?_,λz=>by simpa using h4 z⟩;grind
theorem ZGT{α}(f)(l:List α):decide (0<=Jw f l 0)=l.any f:=by
 rcases DF f l 0 with⟨h1,h2⟩|⟨h1,h2,_,h4⟩;.grind
 .rw[QD h1,Ky.2];cases l with|nil=>grind|cons a r=>exact⟨_,Zh O a,h4 a⟩
theorem ZXm:aU Tryz.prog M 224 Zx5:=by
 refine kF (l:=Zq1) ⟨ZVv,trivial⟩ tK Tryz.func224 2 λ⟨l,f,_⟩hp=>?_;simp only[Bz]at hp;refine wV (λQ=>Zi (ZWd [1,0,1,0,0]) (GL l f 0) (xB 0 (ZVJ [1,1] Q))) ?_ λ_ h=>Eq.mpr V4 h;refine Z5 (ι:=Int) (λi=>GL l f i) (λi=>0<=i/\i<=J l/\Jw (λw:aV=>decide (aV.a_ w=0)) (l.drop (G i)) i=Jw (λw:aV=>decide (aV.a_ w=0)) l 0) (λi=>G (( J l:Int)-i)) 0 rfl ⟨O,O,rfl⟩ ?_;rintro i⟨h1,h2,s⟩;refine ZBM l f _ _ _ ?_;(simp only[iB,bR,bW]);refine⟨λhi=>⟨⟨h1,hi⟩,trivial,λhe=>?_,λhe=>⟨V3,i+1,rfl,⟨O,O,?_⟩,O⟩⟩,λhi=>?_⟩;.rw[ZO h1 hi ⟨0,0,0,0⟩,Jw,Q5 (QD he)]at s;simp only[Sd,<-s];exact V0
 .rw[ZO h1 hi ⟨0,0,0,0⟩,Jw,Q0 λe=>he (X7 e)]at s;exact s
 .rw[Qb O,Jw]at s;simp only[Sd,<-s];exact V0
theorem ZVB:aU Tryz.prog M 225 Zrz:=by
 refine kF (l:=Ue) ⟨ZVu,trivial⟩ tK Tryz.func225 2 λ⟨l,f,_⟩hp=>?_;simp only[B_]at hp;refine wV (λQ=>Zi (ZPe [1,0,1,0,0]) (I3 l f 0) (xB 0 (ZOJ [1,1] Q))) ?_ λ_ h=>Eq.mpr V4 h;refine Z5 (ι:=Int) (λi=>I3 l f i) (λi=>0<=i/\i<=J l/\Jw (λk:bP=>decide (W.D (aW.e k)=0)) (l.drop (G i)) i=Jw (λk:bP=>decide (W.D (aW.e k)=0)) l 0) (λi=>G (( J l:Int)-i)) 0 rfl ⟨O,O,rfl⟩ ?_;rintro i⟨h1,h2,s⟩;refine ZzJ l f _ _ _ ?_;intro y1 e1 y2 e2;(simp only[iB,bR,bW]);subst_vars;refine⟨λhi=>⟨⟨h1,hi⟩,trivial,λhe=>?_,λhe=>⟨V3,i+1,rfl,⟨O,O,?_⟩,O⟩⟩,λhi=>?_⟩;.rw[ZO h1 hi ⟨0,W.nil⟩,Jw,Q5 (QD he)]at s;simp only[Us,<-s];exact V0
 .rw[ZO h1 hi ⟨0,W.nil⟩,Jw,Q0 λe=>he (X7 e)]at s;exact s
 .rw[Qb O,Jw]at s;simp only[Us,<-s];exact V0
theorem ZXj:aU Tryz.prog M 230 Zx2:=by
 refine kF (l:=PD) ⟨ZXt,trivial⟩ tK Tryz.func230 2 λ⟨l,f,_⟩hp=>?_;simp only[B4]at hp;refine wV (λQ=>Zi (ZWc [1,0,1,0,0]) (NI l f 0) (xB 0 (ZVI [1,1] Q))) ?_ λ_ h=>Eq.mpr V4 h;refine Z5 (ι:=Int) (λi=>NI l f i) (λi=>0<=i/\i<=J l/\Jw (λo:Op=>!decide (bI.D o=0)) (l.drop (G i)) i=Jw (λo:Op=>!decide (bI.D o=0)) l 0) (λi=>G (( J l:Int)-i)) 0 rfl ⟨O,O,rfl⟩ ?_;rintro i⟨h1,h2,s⟩;refine ZBL l f _ _ _ ?_;intro y1 e1 y2 e2;(simp only[iB,bR,bW]);subst_vars;refine⟨λhi=>⟨⟨h1,hi⟩,trivial,λhe=>?_,λhe=>⟨V3,i+1,rfl,⟨O,O,?_⟩,O⟩⟩,λhi=>?_⟩;.rw[ZO h1 hi Op.nil,Jw,Q5 (by simpa using he)]at s;simp only[WT,<-s];exact V0
 .rw[ZO h1 hi Op.nil,Jw,Q0 (by simpa using he)]at s;exact s
 .rw[Qb O,Jw]at s;simp only[WT,<-s];exact V0
theorem ZXu:aU Tryz.prog M 198 Zxg:=by refine kF (l:=Zz0) ⟨ZXj,trivial⟩ VP Tryz.func198 2 λ⟨l,f,_⟩h=>?_;simp only[B4]at h;refine ZTA l f _ ⟨h,?_⟩;simp only[ZEA];rw[ZGT];exact V0
theorem ZXw:aU Tryz.prog M 194 Zxi:=by
 refine kF (l:=cQ) trivial FI Tryz.func194 1 λ⟨n,_⟩_=>?_;refine wV (λQ=>iB (n==0) (Q .ret (L2 [(2,.c .nils)] [])) (Q .ret (L2 [(2,.c (sU .op [bI.mk 0 n [] (W.mk 0 (H.mk 0 [] []) (H.mk 0 [] []) [] [] 0 [])] .cU))] []))) ?_ λ_ h=>Eq.mpr V4 h;(simp only[iB,bR,bW]);refine⟨λh=>?_,λh=>?_⟩;.simp only[Ps,Jb,Q5 h];exact V0
 .simp only[Ps,Jb,Q0 h];exact V0
theorem Wn:aU Tryz.prog M 138 TV:=by
 refine Hw (l:=cQ) ZN rfl trivial ZOl Tryz.func138 rfl rfl 1 (λ_=>rfl) V1 λ⟨l,_⟩s=>?_;simp only[J_]at s;refine ZTH _ _ ⟨λh=>?_,λ_=>⟨by simp only[Ql];omega,?_⟩⟩;.subst h;simp only[SG];exact V0
 .simp only[SG];exact V0
theorem TX:aU Tryz.prog M 141 Zou:=by
 refine Hw (l:=cQ) ZN rfl trivial ZOk Tryz.func141 rfl rfl 1 (λ_=>rfl) V1 λ⟨l,_⟩s=>?_;simp only[IM]at s;refine ZTG _ _ ⟨λh=>?_,λ_=>⟨by simp only[Ql];omega,?_⟩⟩;.subst h;simp only[SD];exact V0
 .simp only[SD];exact V0
structure iA{α:Type}(g:α->Bool)(l aB:List α)(i j:Int):Prop where
 i0:0<=i
 ij:i<j
 jl:j<=l.length
 len:aB.length=l.length
 tk:aB.take i.toNat=(l.take j.toNat).filter g
 dr:aB.drop j.toNat=l.drop j.toNat
theorem iA.cE{α f}{l:List α}{k}(e:Jw f l 0=k)(s:k≠-1):iA (λa=>!f a) l l k (k+1):=by
 subst e;rcases DF f l 0 with⟨h1,_⟩|⟨h1,h2,h3,h4⟩;.omega
 .rw[Int.sub_zero]at h3 h4;refine⟨h1,O,O,rfl,?_,rfl⟩;cases l with
  |nil=>grind|cons a r=>rw[show G (Jw f (a::r) 0+1)=G (Jw f (a::r) 0)+1 by omega,BB O a,List.filter_append,KP,h4 a,List.filter_eq_self.2 λx h=>by grind];simp
theorem iA.get{α g l aB i j}(h:iA g l aB i j)(z:α):aB.getD (G j) z=aR l (G j) z:=by have:=congrArg (λx=>aR x 0 z) h.dr;grind
theorem iA.next{α g l aB i j}(h:iA g l aB i j)(hj:j<J l)(z:α):(g (aB.getD (G j) z)=Y->iA g l (aB.set (G i) (aB.getD (G j) z)) (i+1) (j+1))/\(g (aB.getD (G j) z)=I->iA g l aB i (j+1)):=by
 obtain⟨i0,ij,jl,len,tk,dr⟩:=h;have e:=iA.get ⟨i0,ij,jl,len,tk,dr⟩ z;have t1:l.take (G (j+1))=l.take (G j)++[aR l (G j) z]:=by rw[show G (j+1)=G j+1 by omega];exact BB O z
 have s:aB.drop (G (j+1))=l.drop (G (j+1)):=by have:=congrArg (List.drop 1) dr;rw[Xt,Xt]at this;rw[show G (j+1)=G j+1 by omega];exact this
 refine⟨λhg=>⟨O,O,O,by grind,?_,?_⟩,λhg=>⟨i0,O,O,len,?_,s⟩⟩;.have ae:G i<J aB:=O;rw[show G (i+1)=G i+1 by omega,BB (by grind) z,t1,List.filter_append,<-tk,List.take_set_of_le O];grind
 .rw[List.drop_set,Q5 O];exact s
 grind
theorem iA.cC{α g l aB i j}(h:iA g l aB i j)(s:¬j<J l)(r:List α):List.take (G i) (List.take (G i) aB++r)=l.filter g:=by have h1:=h.ij;have h2:=h.jl;have h3:=h.len;have h4:=h.i0;rw[KD (by rw[QB];omega),List.take_take,Nat.min_self,h.tk,Qy O]
theorem ZXy:aU Tryz.prog M 189 Zxk:=by
 refine aU.ef<|J0 (l:=RZ) ZN rfl ⟨ZVv,ZXm.eO,trivial⟩ Oa Tryz.func189 rfl rfl 2 (λ_=>rfl) V1 λ⟨l,f,_⟩hp=>?_;simp only[Bz]at hp;refine wV (λQ=>Bz (l,(),())/\iB (( Jw (λw:aV=>decide (aV.a_ w=0)) l 0:Int)==-1) (Q .ret (L2 [(4,.c (sU .bD l (.bF (.e 4 0))))] [])) ( bQ (( Jw (λw:aV=>decide (aV.a_ w=0)) l 0:Int)+1)/\Zi (ZWk [1,1,1,0,1,0,0]) (Cj l f (Jw (λw:aV=>decide (aV.a_ w=0)) l 0) (( Jw (λw:aV=>decide (aV.a_ w=0)) l 0:Int)+1) l) (xB 0 (ZVP [1,1,1,1] Q)))) ?_ λ_ h=>Eq.mpr V4 h;(simp only[iB,bR,bW]);refine⟨hp,λh=>?_,λh=>?_⟩
 .have e:l.filter (λw=>!decide (aV.a_ w=0))=l:=by
   rcases DF (λw:aV=>decide (aV.a_ w=0)) l 0 with⟨_,h2⟩|⟨h1,_⟩;.simp_all
   .omega
  simp only[W2,WS,Zp1,e];exact V0
 .have aK:=iA.cE (f:=λw:aV=>decide (aV.a_ w=0)) (l:=l) rfl h;have:=aK.jl;have:=aK.i0;refine⟨V3,?_⟩;refine Z5 (ι:=List aV×Int×Int) (λs=>Cj l f s.2.1 s.2.2 s.1) (λs=>iA (λw:aV=>!decide (aV.a_ w=0)) l s.1 s.2.1 s.2.2) (λs=>G (( J l:Int)-s.2.2)) (l,_,_) rfl aK ?_;rintro⟨aB,i,j⟩aK;dsimp only at aK;have hl:=aK.len;have h0:=aK.i0;have h1:=aK.ij;have h2:=aK.jl;refine ZC1 l f _ _ _ _ _ ?_;intro y1 aa y2 ae;subst ae;(simp only[iB,bR,bW]);refine⟨λhj=>?_,λhj=>?_⟩;.have hn:=aK.next O ⟨0,0,0,0⟩;rw[<-aa]at hn;refine⟨⟨O,hj⟩,trivial,λhe=>⟨⟨h0,O⟩,X3 _,V3,V3,(_,i+1,j+1),rfl,hn.1 (by simpa using he),V2⟩,λhe=>⟨V3,(aB,i,j+1),rfl,hn.2 (by simpa using he),V2⟩⟩
  .refine⟨⟨h0,O⟩,X3 _,⟨h0,by simp only[Qi,QB,K6];omega⟩,?_⟩;rw[aK.cC O];simp only[W2,WS,Zp1];exact V0
theorem ZXx:aU Tryz.prog M 191 Zxj:=by
 refine aU.ef<|J0 (l:=Vv) ZN rfl ⟨ZVu,ZVB.eO,trivial⟩ UM Tryz.func191 rfl rfl 2 (λ_=>rfl) V1 λ⟨l,f,_⟩hp=>?_;simp only[B_]at hp;refine wV (λQ=>B_ (l,(),())/\iB (( Jw (λk:bP=>decide (W.D k.e=0)) l 0:Int)==-1) (Q .ret (L2 [(4,.c (sU .cJ l (.bF (.e 4 0))))] [])) ( bQ (( Jw (λk:bP=>decide (W.D k.e=0)) l 0:Int)+1)/\Zi (ZWj [1,1,1,0,1,0,0]) (E9 l f (Jw (λk:bP=>decide (W.D k.e=0)) l 0) (( Jw (λk:bP=>decide (W.D k.e=0)) l 0:Int)+1) l) (xB 0 (ZVO [1,1,1,1] Q)))) ?_ λ_ h=>Eq.mpr V4 h;(simp only[iB,bR,bW]);refine⟨hp,λh=>?_,λh=>?_⟩
 .have e:l.filter (λk=>!decide (W.D (aW.e k)=0))=l:=by
   rcases DF (λk:bP=>decide (W.D (aW.e k)=0)) l 0 with⟨_,h2⟩|⟨h1,_⟩;.simp_all
   .omega
  simp only[OD,Pj,Zp0,e];exact V0
 .have aK:=iA.cE (f:=λk:bP=>decide (W.D (aW.e k)=0)) (l:=l) rfl h;have:=aK.jl;have:=aK.i0;refine⟨V3,?_⟩;refine Z5 (ι:=List bP×Int×Int) (λs=>E9 l f s.2.1 s.2.2 s.1) (λs=>iA (λk:bP=>!decide (W.D (aW.e k)=0)) l s.1 s.2.1 s.2.2) (λs=>G (( J l:Int)-s.2.2)) (l,_,_) rfl aK ?_;rintro⟨aB,i,j⟩aK;dsimp only at aK;have hl:=aK.len;have h0:=aK.i0;have h1:=aK.ij;have h2:=aK.jl;refine ZC0 l f _ _ _ _ _ ?_;intro y1 aa y2 ae;subst ae;(simp only[iB,bR,bW]);refine⟨λhj=>?_,λhj=>?_⟩;.have hn:=aK.next O ⟨0,W.nil⟩;rw[<-aa]at hn;refine⟨⟨O,hj⟩,trivial,λhe=>⟨⟨h0,O⟩,X3 _,V3,V3,(_,i+1,j+1),rfl,hn.1 (by simpa using he),V2⟩,λhe=>⟨V3,(aB,i,j+1),rfl,hn.2 (by simpa using he),V2⟩⟩
  .refine⟨⟨h0,O⟩,X3 _,⟨h0,by simp only[Qi,QB,K6];omega⟩,?_⟩;rw[aK.cC O];simp only[OD,Pj,Zp0];exact V0
theorem ZPo{a b n m:Nat}(h1:a<=n)(h2:b<=m)(h:n<=10000000000)(s:m<=10000000000):bQ (a+b):=V3
theorem ZTP{a b:Nat}(h:a+(b:Int)=0):a+b=0:=O
theorem ZTO{a b:Nat}(h:¬a+(b:Int)=0):¬a+b=0:=O
set_option maxHeartbeats 2000000 in theorem ZRO:aU Tryz.prog M 142 Pg:=by
 refine aU.ef<|J0 (l:=ZKa) ZN rfl ⟨ZXy,ZXx,trivial⟩ ZUS Tryz.func142 rfl rfl 1 (λ_=>rfl) V1 λ⟨⟨ek,eo,ah,ab,en,aa,ae,s,ec,li,af,_⟩,_⟩hp=>?_;simp only[Hd]at hp;refine wV (λQ=>Bz (s,(),())/\B_ (ec,(),())/\bQ ((( J (s.filter λw=>!decide (aV.a_ w=0)):Int):Int)+( J (ec.filter λk=>!decide (W.D k.e=0)):Int))/\iB (( (( J (s.filter λw=>!decide (aV.a_ w=0)):Int):Int)+( J (ec.filter λk=>!decide (W.D k.e=0)):Int):Int)==0) (Q .ret (L2 [pL 2] [(.bE 2,eI)])) (Q .ret (L2 [pL 2] [(.bE 2,[ci ek,ci eo,sU .u64 ah .bA,sU .aX ab .bA,ci en,sU .u64 aa .bA,sU .aX ae .bA,sU .bD (s.filter λw=>!decide (aV.a_ w=0)) .bA,sU .cJ (ec.filter λk=>!decide (W.D k.e=0)) .bA,ci li,sU .op af .bA])]))) ?_ λ_ h=>Eq.mpr V4 h;(simp only[iB,bR,bW]);refine⟨by show J s<=_;omega,by show J ec<=_;omega,ZPo (KA _ _) (KA _ _) hp.1 hp.2,λh=>?_,λh=>?_⟩;.simp only[W9,ZoZ,Ss];rw[show oR (W.mk ek (H.mk eo ah ab) (H.mk en aa ae) s ec li af)=W.nil from Q5 (show J (s.filter λw=>!decide (aV.a_ w=0))+J (ec.filter λk=>!decide (W.D (aW.e k)=0))=0 from ZTP h)];exact V0
 .simp only[W9,ZoZ,Ss];rw[show oR (W.mk ek (H.mk eo ah ab) (H.mk en aa ae) s ec li af)=W.mk ek (H.mk eo ah ab) (H.mk en aa ae) (s.filter λw=>!decide (aV.a_ w=0)) (ec.filter λk=>!decide (W.D (aW.e k)=0)) li af from Q0 (show¬J (s.filter λw=>!decide (aV.a_ w=0))+J (ec.filter λk=>!decide (W.D (aW.e k)=0))=0 from ZTO h)];exact V0
theorem OU:aU Tryz.prog M 146 AI:=by
 refine kF (l:=Zz5) ⟨ZXu,trivial⟩ ZOi Tryz.func146 2 λ⟨V,l,_⟩s=>?_;simp only[vA]at s;refine ZTF _ _ _ ⟨s,λh=>?_,λh=>?_⟩
 .simp only[Xs]at h;simp only[Cr,J9];rw[Q0 (by rw[h];decide)];exact V0
 .simp only[K2]at h;simp only[Cr,J9];rw[Q5 h];exact V0
theorem PJ:aU Tryz.prog M 103 S4:=by
 refine kX (l:=ZKn) ⟨Ay,qE,trivial⟩ ZV5 Tryz.func103 4 λ⟨⟨mc,ma,_⟩,e,o,n,_⟩hp=>?_;simp only[E2]at hp;obtain⟨he,ho,hn⟩:=hp;refine wV (λQ=>∀s,s=e->∀ab,ab=n->∀aa,aa=o->∀ae,ae=YH ((bX I s aa).map Z2)->let z0:=! ZW (Z2 ae) (Z2 ab);gg (s,aa,())/\iB (!(bX I s aa).isSome) (Q .normal (L2 [] [(.x 0,[.bool mc,.bool Y])])) ( kM (ae,ab,())/\iB z0 (Q .normal (L2 [] [(.x 0,[.bool Y,.bool ma])])) (Q .normal (L2 [(0,.ptr (.x 0) 0),pB 22 z0] [(.x 0,[.bool mc,.bool ma])])))) ?_ λ_ h=>Eq.mpr V4 (h _ (Z0 _) _ (Z7 _) _ (Z7 _) _ (Z7 _));intro y1 h1 y2 h2 y3 h3 y4 h4;subst h1 h2 h3;(simp only[iB,bR,bW]);have ed:dX y1 y3=(y4,(bX I y1 y3).isSome):=by rw[h4];try rfl
 refine⟨⟨he,ho⟩,λh=>?_,λh=>⟨⟨?_,by grind⟩,λh2=>?_,λh2=>?_⟩⟩;.simp only[Gn,Mx,m9,ed,h,Kl,XV,QV,XC];exact V0
 .show Zo y4<=_;rw[h4];exact ZkR he.2.2 ho.1
 .simp only[Gn,Mx,m9,ed,h,h2,X6,XR,XV,QV,XC];exact V0
 .simp only[Gn,Mx,m9,ed,h,h2,X6,XR,QV];exact V0
theorem Hg(l):J (gS l)<=1:=by unfold gS;split<;>simp
theorem Uc:aU Tryz.prog M 144 Zor:=by
 refine kX (l:=ZK8) ⟨yc,ZXw,ZXv,trivial⟩ ZUQ Tryz.func144 1 λ⟨⟨ak,sx,sy,s,sh,_⟩,⟨mc,ma,_⟩,_⟩hp=>?_;simp only[VC]at hp;obtain⟨⟨h1,h2⟩,h3,h4⟩:=hp;have k1:=Ny (J s);have k2:=Ny (J sh);have k3:=Hg s;have k4:=Hg sh;refine wV (λQ=>let z4:=decide ((0:Int)<( J s:Int));let z3:=p8 (( J s:Int),());let z2:=p8 (( J sh:Int),());let z1:=Jb ( J sh:Int);let z0:=Jb ( J s:Int);Tk 6 z4 (iB (bif z4 then decide ((0:Int)<( J sh:Int))else I) ( Av (s,sh,(),())/\iB (! kf (Z6 s) (Z6 sh)) (z2/\( J sx+J z1)*240<=140737488355328/\z3/\( J sy+J z0)*240<=140737488355328/\Q .normal (L2 [] [(.x 0,[.xp 1,sU .op (sx++z1) (.bF (.x 0 1)),sU .op (sy++z0) (.bF (.x 0 2)),.nils,.nils]),(.x 1,[.bool Y,.bool ma])])) (z2/\( J sx+J z1)*240<=140737488355328/\z3/\( J sy+J z0)*240<=140737488355328/\Q .normal (L2 [] [(.x 0,[.xp 1,sU .op (sx++z1) (.bF (.x 0 1)),sU .op (sy++z0) (.bF (.x 0 2)),.nils,.nils]),(.x 1,[.bool mc,.bool ma])]))) ( ZuR (s,())/\( J sx+J (gS s))*240<=140737488355328/\z2/\( J (sx++gS s)+J z1)*240<=140737488355328/\z3/\( J sy+J z0)*240<=140737488355328/\ZuR (sh,())/\( J (sy++z0)+J (gS sh))*240<=140737488355328/\Q .normal (L2 [] [(.x 0,[.xp 1,sU .op ( sx++gS s++z1) (.bF (.x 0 1)),sU .op ( sy++z0++gS sh) (.bF (.x 0 2)),.nils,.nils]),(.x 1,[.bool mc,.bool ma])])))) ?_ λ_ h=>Eq.mpr V4 h;(simp only[iB,bR,bW]);refine⟨λhb=>⟨⟨by grind,by grind⟩,λhe=>?_,λhe=>?_⟩,λhb=>?_⟩
 .have e:Jd s sh=⟨Jb (J sh),Jb (J s),Y,I⟩:=by rw[Jd,Q5 ⟨λe=>by grind,λe=>by grind⟩,gw,he];try rfl
  refine⟨trivial,O,trivial,O,?_⟩;simp only[G_,e,XC];exact V0
 .have e:Jd s sh=⟨Jb (J sh),Jb (J s),I,I⟩:=by rw[Jd,Q5 ⟨λe=>by grind,λe=>by grind⟩,gw,he];try rfl
  refine⟨trivial,O,trivial,O,?_⟩;simp only[G_,e,QV];exact V0
 .have e:Jd s sh=⟨gS s++Jb (J sh),Jb (J s)++gS sh,I,I⟩:=by rw[Jd,Q0];rintro⟨a,b⟩;have:=XK.2 a;have:=XK.2 b;omega
  refine⟨trivial,O,trivial,by grind,trivial,O,trivial,by grind,?_⟩;simp only[G_,e,QV,<-Qg];exact V0
theorem Zys(m):0<=j7 m/\j7 m<256:=by unfold j7;have h:=(BitVec.ofInt (IntKind.bits .u8) 255^^^BitVec.ofInt (IntKind.bits .u8) m).isLt;have e:(2:Nat)^IntKind.bits .u8=256:=rfl;rw[qR O O];omega
theorem R9:ZW9:=by
 intro N mc ma p q _ hp hN;obtain⟨op,oq⟩:=hp;dsimp only at op oq;have a1:8*(Z1 p+Z1 q)+1<N+1:=hN;obtain⟨dp,rp⟩:=op.2.2;obtain⟨dq,rq⟩:=oq.2.2;have aa:=ZGy rp rq;unfold Jp at aa;have lp:=vm p;have lq:=vm q;have gp:=Zp op.2.1;have gq:=Zp oq.2.1;have cp:=Ji p;have cq:=Ji q;have a5:=op.1;have a4:=oq.1;have cC:∀{aB:dv}{s:bT U},dK p q=aB->ZB M Tryz.f66.ntmps Tryz.f66.results.toList (.tup [(Y,enc .aY aB.x),(Y,enc .aY aB.y)]) [[.bool (mc||aB.c),.bool (ma||aB.a)]] .ret s->ZB M Tryz.f66.ntmps Tryz.f66.results.toList (Ef ((mc,ma,()),p,q,())) (EH ((mc,ma,()),p,q,())) .ret s:=by
  intro aB s h hs;subst h;exact hs
 have wh:∀{e:W}{o n:H},ZR e->Zo o<=10000000000->ei o->Zo n<=10000000000->E2 ((mc,ma,()),e,o,n,()):=by intro e o n he ho hr hn;have:=ZL he;have:=he.1;exact⟨⟨V2,he.2⟩,⟨V2,hr⟩,V2⟩
 refine wV (λQ=>∀ae,ae=p->∀ab,ab=q->∀ak,ak=p.new->∀al,al=q.new->∀ai,ai=p.bH->∀aj,aj=q.bH->let z3:=k8 dK ae ab;let z2:=jx dK ae ab;let z1:=p.D !=q.D;let z0:=enc .aY W.nil;Tk 2 (! p.D==0) (((p.D==0)=I->! p.D==0=Y)/\iB (bif p.D==0 then Y else q.D==0) (Q .ret (L2 [pL 6,pL 7] [(.bE 6,enc .aY p),(.bE 7,enc .aY q),(.x 0,[.bool mc,.bool ma])])) (iB (p.D==1) ( E2 ((mc,ma,()),ab,ai,ak,())/\pz ()/\Q .ret (L2 [pL 6,pL 7] [(.bE 6,z0),(.bE 7,z0),(.x 0,[.bool (mc||(m9 ab ai ak).c),.bool (ma||(m9 ab ai ak).a)])])) (iB (q.D==1) ( E2 ((mc,ma,()),ae,aj,al,())/\pz ()/\Q .ret (L2 [pL 6,pL 7] [(.bE 6,z0),(.bE 7,z0),(.x 0,[.bool (mc||(m9 ae aj al).c),.bool (ma||(m9 ae aj al).a)])])) (Tk 4 (!z1) ((z1=I->(!z1)=Y)/\iB (bif z1 then Y else p.V !=q.V) ( pz ()/\Q .ret (L2 [pL 6,pL 7] [(.bE 6,z0),(.bE 7,z0),(.x 0,[.bool mc,.bool Y])])) (iB (p.D==2) ( E_ ((mc,ma,()),ae,ab,())/\uM ((mc,ma,()),ae,ab,())<N/\Q .ret (L2 [pL 6,pL 7] [(.bE 6,enc .aY z2.x),(.bE 7,enc .aY z2.y),(.x 0,[.bool (mc||z2.c),.bool (ma||z2.a)])])) ( CZ ((mc,ma,()),ae,ab,())/\uM ((mc,ma,()),ae,ab,())<N/\Q .ret (L2 [pL 6,pL 7] [(.bE 6,enc .aY z3.x),(.bE 7,enc .aY z3.y),(.x 0,[.bool (mc||z3.c),.bool (ma||z3.a)])]))))))))) ?_ λ_ h=>Eq.mpr V4 (h _ (Z0 _) _ (Z0 _) _ (Z7 _) _ (Z7 _) _ (Z7 _) _ (Z7 _));intro y1 h1 y2 h2 y3 h3 y4 h4 y5 h5 y6 h6;replace h1:=h1.symm;replace h2:=h2.symm;replace h3:=h3.symm;replace h4:=h4.symm;replace h5:=h5.symm;replace h6:=h6.symm;subst h1 h2 h3 h4 h5 h6;(simp only[iB,bR,bW]);refine⟨λh0=>?_,λh0=>?_⟩;.exact cC (by rw[aa,Q5 h0]) (by simp only[QV];(repeat'(first|exact trivial|exact rfl|apply And.intro)))
 rw[Q0 (by rintro(h|h);exact h0.1 h;exact h0.2 h)]at aa;refine⟨λp1=>?_,λp1=>?_⟩;.rw[Q5 p1]at aa;exact⟨wh oq O gp.1 O,trivial,cC aa V0⟩
 rw[Q0 p1]at aa;refine⟨λq1=>?_,λq1=>?_⟩;.rw[Q5 q1]at aa;exact⟨wh op O gq.1 O,trivial,cC aa V0⟩
 rw[Q0 q1]at aa;refine⟨λhd=>?_,λhd=>?_⟩;.rw[Q5 O]at aa;exact⟨trivial,cC aa (by simp only[QV,XC];(repeat'(first|exact trivial|exact rfl|apply And.intro)))⟩
 rw[Q0 O]at aa;refine⟨λp2=>?_,λp2=>?_⟩;.rw[Q5 p2]at aa;exact⟨⟨op,oq,V2,V2⟩,by show 8*(Z1 p+Z1 q)<N;omega,cC aa V0⟩
 .rw[Q0 p2]at aa;have kp:=(Zc rp).D;exact⟨⟨op,oq,V2,V2⟩,by show 8*(Z1 p+Z1 q)<N;omega,cC aa V0⟩
theorem Zt7(m h):(Jd m h).x.length<=2/\(Jd m h).y.length<=2:=by unfold Jd;have:=Ny (J m);have:=Ny (J h);have:=Hg m;have:=Hg h;grind
theorem Zv8(f)(p q):(ZS f p q).x.length<=1/\(ZS f p q).y.length<=1:=by unfold ZS;grind
structure oz(f:W->W->dv)(mc ma:Bool)(ps:List cm)(i:Int)(c a:Bool)(m h:List H)(x y:List Op):Prop where
 i0:0<=i
 il:i<=ps.length
 ec:(mc||(j6 f ps [] []).c)=(c||(j6 f (ps.drop i.toNat) m h).c)ea:(ma||(j6 f ps [] []).a)=(a||(j6 f (ps.drop i.toNat) m h).a)ex:(j6 f ps [] []).x=x++(j6 f (ps.drop i.toNat) m h).x
 ey:(j6 f ps [] []).y=y++(j6 f (ps.drop i.toNat) m h).y
 lx:(x.length:Int)<=3*i
 ly:(y.length:Int)<=3*i
 km:((Ze m:Nat):Int)+ZG φC (jF (ps.drop i.toNat))<=ZG φC (jF ps)kh:((Ze h:Nat):Int)+ZG φC (jZ (ps.drop i.toNat))<=ZG φC (jZ ps)
theorem tj(o):((Ze o.l:Nat))<=φC o:=by unfold φC;have:=xg o.e;omega
theorem VX:∀l,0<=ZG φC l|[]=>Qz _|o::r=>by have:=VX r;have:=tj o;simp only[ZG];omega
theorem oz.step{f s ma ps i c a m h x y}(aF:oz f s ma ps i c a m h x y)(hi:i<J ps)(z)(aC)(hX:aC=aR ps (G i) z):(aC.of=1->oz f s ma ps (i+1) c a (m++aC.p.l) h x y)/\(¬aC.of=1->aC.of=2->oz f s ma ps (i+1) c a m (h++aC.q.l) x y)/\(¬aC.of=1->¬aC.of=2->oz f s ma ps (i+1) ( c||(Jd m h).c||(ZS f aC.p aC.q).c) (a||(ZS f aC.p aC.q).a) [] [] ( x++(Jd m h).x++(ZS f aC.p aC.q).x) ( y++(Jd m h).y++(ZS f aC.p aC.q).y)):=by
 have hd:=ZO aF.i0 hi z;rw[<-hX]at hd;have h0:=aF.i0;obtain⟨_,_,ec,ea,ex,ey,lx,ly,km,kh⟩:=aF;rw[hd]at ec ea ex ey km kh;simp only[j6]at ec ea ex ey;simp only[jF,jZ]at km kh;have np:=tj aC.p;have nq:=tj aC.q;refine⟨λe=>?_,λe1 e2=>?_,λe1 e2=>?_⟩
 .rw[Q5 e]at ec ea ex ey;rw[Q0 O,XF,ZG]at km;rw[Q5 e,Qn]at kh;exact⟨O,O,ec,ea,ex,ey,O,O,by rw[Jl];omega,kh⟩
 .rw[Q0 e1,Q5 e2]at ec ea ex ey;rw[Q5 e2,Qn]at km;rw[Q0 e1,XF,ZG]at kh;exact⟨O,O,ec,ea,ex,ey,O,O,km,by rw[Jl];omega⟩
 .rw[Q0 e1,Q0 e2]at ec ea ex ey;rw[Q0 e2,XF,ZG]at km;rw[Q0 e1,XF,ZG]at kh;simp only[PL.dw]at ec ea ex ey;obtain⟨g1,g2⟩:=Zt7 m h;obtain⟨g3,g4⟩:=Zv8 f aC.p aC.q;have ga:(Jd m h).a=I:=by unfold Jd;split<;>rfl
  rw[ga,Kt]at ea;refine⟨O,O,?_,?_,?_,?_,?_,?_,?_,?_⟩;.grind
  .grind
  .grind
  .grind
  .grind
  .grind
  .simp only[Ze];omega
  .simp only[Ze];omega
theorem ZAd{p q}(s:uX p)(hq:uX q){x}(h:my p q x):(x.of≠2->zM x.p)/\(x.of≠1->zM x.q):=by
 refine⟨λe=>?_,λe=>?_⟩;.obtain⟨a,b⟩:=h.pp e;exact⟨b,QS (sE a).1 s.1,O4 a b s.2.1,Mz a s.2.2⟩
 .obtain⟨a,b⟩:=h.qq e;exact⟨b,QS (sE a).1 hq.1,O4 a b hq.2.1,Mz a hq.2.2⟩
theorem O_:ZPb:=by
 intro N mc ma p q _ hp hN;obtain⟨op,oq,au,aq⟩:=hp;dsimp only at op oq au aq;have bd:8*(Z1 p+Z1 q)<N+1:=hN;have ai:=I1 op;have ah:=I1 oq;have kp:=HL ai;have kq:=HL ah;have lp:=vm p;have lq:=vm q;obtain⟨i1,_⟩:=Pr _ p.ops q.ops [] (Qa _) kp.1 kq.1;have cC:∀{aB:dv}{s:bT U},k8 dK p q=aB->ZB M Tryz.f106.ntmps Tryz.f106.results.toList (.tup [(Y,enc .aY aB.x),(Y,enc .aY aB.y)]) [[.bool (mc||aB.c),.bool (ma||aB.a)]] .ret s->ZB M Tryz.f106.ntmps Tryz.f106.results.toList (Cu ((mc,ma,()),p,q,())) (Cq ((mc,ma,()),p,q,())) .ret s:=by
  intro aB s h hs;subst h;exact hs
 refine wV (λQ=>Il (p.ops,q.ops,())/\iB (!(ZC 2 2 p.ops q.ops []).2.1) ( pz ()/\Q .ret (L2 [pL 6,pL 7] [(.bE 6,enc .aY W.nil),(.bE 7,enc .aY W.nil),(.x 0,[.bool mc,.bool Y])])) (Zi (ZWw N [1,1,1,1,0,1,0,0]) (Ab mc ma p q 0 mc ma [] [] [] []) (xB 0 (ZW2 N [1,1,1,1,1] Q)))) ?_ λ_ h=>Eq.mpr V4 h;(simp only[iB,bR,bW]);refine⟨⟨kp,kq⟩,λhb=>⟨trivial,cC (by rw[k8,Q0 (by rw[hb];decide)]) (by simp only[QV,XC];(repeat'(first|exact trivial|exact rfl|apply And.intro)))⟩,λhb=>?_⟩;obtain⟨ps,e,ao,_,_⟩:=i1 hb;obtain⟨bg,e1,sp,sq,ax⟩:=D6 H0 H0 2 _ p.ops q.ops [] (Qa _) kp.1 kq.1 hb;rw[e,Qn,Qn]at e1;subst e1;rw[Qn]at e;have hL:k8 dK p q=⟨J9 p.V (j6 dK ps [] []).x,J9 p.V (j6 dK ps [] []).y,(j6 dK ps [] []).c,(j6 dK ps [] []).a⟩:=by rw[k8,Q5 hb,e]
 have c1:=AH p.ops;have c2:=AH q.ops;have c3:=ai.1;have c4:=ah.1;refine Z5 (ι:=Int×Bool×Bool×List H×List H×List Op×List Op) (λs=>Ab mc ma p q s.1 s.2.1 s.2.2.1 s.2.2.2.1 s.2.2.2.2.1 s.2.2.2.2.2.1 s.2.2.2.2.2.2) (λs=>oz dK mc ma ps s.1 s.2.1 s.2.2.1 s.2.2.2.1 s.2.2.2.2.1 s.2.2.2.2.2.1 s.2.2.2.2.2.2) (λs=>G (( J ps:Int)-s.1)) (0,mc,ma,[],[],[],[]) rfl ⟨by simp,by simp,by simp,by simp,by simp,by simp,by simp,by simp,by simp[Ze],by simp[Ze]⟩ ?_;rintro⟨i,c,a,m,h,x,y⟩aF;dsimp only at aF;refine ZCZ N mc ma p q _ _ _ _ _ _ _ _ _ ?_;intro y1 h1 y2 h2 y3 h3 y4 h4 y5 h5 y6 h6 y7 h7;rw[e]at h5⊢;replace h6:=h6.symm;replace h7:=h7.symm;have i0:=aF.i0;have il:=aF.il;have lx:=aF.lx;have ly:=aF.ly;have km:=aF.km;have kh:=aF.kh;have n1:=VX (jF (ps.drop (G i)));have n2:=VX (jZ (ps.drop (G i)));obtain⟨g1,g2⟩:=Zt7 m h;(simp only[iB,bR,bW]);refine⟨λhi=>?_,λhi=>?_⟩
 .obtain⟨s1,s2,s3⟩:=aF.step hi _ y5 h5;have aj:y5∈ps:=by rw[h5];exact Zh O _
  have hx:=ao y5 aj;obtain⟨o1,o2⟩:=ZAd ai ah hx;have a7:(Ze y5.p.l:Int)<=9000000000:=by
   rcases hx.of with h|h|h;.have:=vR y5.p;have:=(o1 O).2.1;omega
   .have:=vR y5.p;have:=(o1 O).2.1;omega
   .rw[hx.pn h];simp[Op.nil,Ze]
  have a4:(Ze y5.q.l:Int)<=9000000000:=by
   rcases hx.of with h|h|h;.have:=vR y5.q;have:=(o2 O).2.1;omega
   .rw[hx.qn h];simp[Op.nil,Ze]
   .have:=vR y5.q;have:=(o2 O).2.1;omega
  have q1:=Zs m;have q2:=Zs h;have q3:=Zs y5.p.l;have q4:=Zs y5.q.l;refine⟨⟨i0,hi⟩,λf1=>⟨O,V3,(i+1,c,a,m++y5.p.l,h,x,y),rfl,s1 f1,V2⟩,λf1=>⟨λf2=>⟨O,V3,(i+1,c,a,m,h++y5.q.l,x,y),rfl,s2 f1 f2,V2⟩,λf2=>?_⟩⟩;have f0:y5.of=0:=by rcases hx.of with h|h|h<;>omega
  obtain⟨b1,b2,b3⟩:=hx.dF f0;have mp:=(sE (hx.pp f2).1).2;have mq:=(sE (hx.qq f1).1).2;rw[<-h6,<-h7];refine⟨⟨⟨V2,V2⟩,V2,V2⟩,⟨⟨o1 f2,o2 f1,b3,b1,b2⟩,by simp only[List.length_append];omega,by simp only[List.length_append];omega⟩,by show 8*(Zy y5.p+Zy y5.q)+2<N;omega,V3,(i+1,_,_,[],[],_,_),rfl,s3 f1 f2,V2⟩
 .have hd:ps.drop (G i)=[]:=Qb O;have ec:=aF.ec;have ea:=aF.ea;have ex:=aF.ex;have ey:=aF.ey;rw[hd]at ec ea ex ey;simp only[j6]at ec ea ex ey;have ga:(Jd m h).a=I:=by unfold Jd;split<;>rfl
  rw[ga,QV]at ea;refine⟨⟨⟨V2,V2⟩,V2,V2⟩,by show J (x++_)<=_;rw[List.length_append];omega,by show J (y++_)<=_;rw[List.length_append];omega,cC hL ?_⟩;dsimp only;rw[ec,ea,ex,ey];subst h1 h2 h3 h4;exact V0
theorem So:ZOZ:=by
 intro N a6 sx sy si sh p q mc ma _ hp hN;simp only[B8]at hp;obtain⟨⟨⟨op,mp,gp,rp⟩,⟨oq,mq,gq,rq⟩,hl,p2,q2⟩,lx,ly⟩:=hp;have bh:8*(Zy p+Zy q)+2<N+1:=hN;have ep:=rU p;have eq:=rU q;have a1:=Jr gp;have ay:=Jr gq;have ap:=vR p;have aq:=vR q;have kp:=Zx op;have kq:=Zx oq;have cC:∀{aB:PL}{s:bT U},ZS dK p q=aB->ZB M Tryz.f145.ntmps Tryz.f145.results.toList (.tup []) [[.xp 1,.slice (U:=U) .op (sx++aB.x) (.bF (.x 0 1)),.slice (U:=U) .op (sy++aB.y) (.bF (.x 0 2)),.slice (U:=U) .aX si (.bF (.x 0 3)),.slice (U:=U) .aX sh (.bF (.x 0 4))],[.bool (mc||aB.c),.bool (ma||aB.a)]] .normal s->ZB M Tryz.f145.ntmps Tryz.f145.results.toList (CS ((a6,sx,sy,si,sh,()),p,q,(mc,ma,()),())) (DD ((a6,sx,sy,si,sh,()),p,q,(mc,ma,()),())) .normal s:=by intro aB s h hs;subst h;exact hs
 have L:=ZS.eq_1 dK p q;refine wV (λQ=>∀au,au=p->∀ar,ar=q->∀af,af=p.e->∀ah,ah=q.e->∀ax,ax=List.getD p.l (Int.toNat 0) H.nil->∀a2,a2=List.getD q.l (Int.toNat 0) H.nil->∀ae,ae=W.mk 0 (H.mk 0 [] []) (H.mk 0 [] []) [] [] 0 []->∀az,az=(dK af ah).x->∀aw,aw=(dK af ah).y->∀ao,ao=jP az->∀am,am=jP aw->let z0:=! kf (Z6 p.l) (Z6 q.l);Tk 3 (p.D==0) (iB (bif p.D==0 then q.D==1 else I) ( ( J sy+J [bI.mk 0 0 [] ae])*240<=140737488355328/\((0:Int)<=( J sy:Int)/\( J sy:Int)<( J (sy++[bI.mk 0 0 [] ae]):Int))/\J sy<=Int.toNat ( J sy:Int)/\Q .normal (L2 [] [(.x 0,[.xp 1,sU .op sx (.bF (.x 0 1)),sU .op (List.set (sy++[bI.mk 0 0 [] ae]) (Int.toNat ( J sy:Int)) ar) (.bF (.x 0 2)),sU .aX si (.bF (.x 0 3)),sU .aX sh (.bF (.x 0 4))]),(.x 1,[.bool mc,.bool ma])])) (Tk 3 (p.D==1) (iB (bif p.D==1 then q.D==0 else I) ( ( J sx+J [bI.mk 0 0 [] ae])*240<=140737488355328/\((0:Int)<=( J sx:Int)/\( J sx:Int)<( J (sx++[bI.mk 0 0 [] ae]):Int))/\J sx<=Int.toNat ( J sx:Int)/\Q .normal (L2 [] [(.x 0,[.xp 1,sU .op (List.set (sx++[bI.mk 0 0 [] ae]) (Int.toNat ( J sx:Int)) au) (.bF (.x 0 1)),sU .op sy (.bF (.x 0 2)),sU .aX si (.bF (.x 0 3)),sU .aX sh (.bF (.x 0 4))]),(.x 1,[.bool mc,.bool ma])])) (iB (p.D==0) ( ( J sx+J [bI.mk 0 (if q.n<1 then 1 else q.n) [] ae])*240<=140737488355328/\( J sy+J [ar])*240<=140737488355328/\Q .normal (L2 [] [(.x 0,[.xp 1,sU .op (sx++[bI.mk 0 (if q.n<1 then 1 else q.n) [] ae]) (.bF (.x 0 1)),sU .op (sy++[ar]) (.bF (.x 0 2)),sU .aX si (.bF (.x 0 3)),sU .aX sh (.bF (.x 0 4))]),(.x 1,[.bool mc,.bool ma])])) (iB (q.D==0) ( ( J sx+J [au])*240<=140737488355328/\( J sy+J [bI.mk 0 1 [] ae])*240<=140737488355328/\Q .normal (L2 [] [(.x 0,[.xp 1,sU .op (sx++[au]) (.bF (.x 0 1)),sU .op (sy++[bI.mk 0 1 [] ae]) (.bF (.x 0 2)),sU .aX si (.bF (.x 0 3)),sU .aX sh (.bF (.x 0 4))]),(.x 1,[.bool mc,.bool ma])])) (Tk 3 (p.D==1) (iB (bif p.D==1 then q.D==1 else I) ( Av (p.l,q.l,(),())/\iB z0 (Q .normal (L2 [] [(.x 0,[.xp 1,sU .op sx (.bF (.x 0 1)),sU .op sy (.bF (.x 0 2)),sU .aX si (.bF (.x 0 3)),sU .aX sh (.bF (.x 0 4))]),(.x 1,[.bool mc,.bool Y])])) (Q .normal (L2 [(0,.ptr (.x 0) 0),pB 147 z0] [(.x 0,[.xp 1,sU .op sx (.bF (.x 0 1)),sU .op sy (.bF (.x 0 2)),sU .aX si (.bF (.x 0 3)),sU .aX sh (.bF (.x 0 4))]),(.x 1,[.bool mc,.bool ma])]))) (iB (p.D==1) (((0:Int)<=0/\0<( J p.l:Int))/\Gi (((),sx,sy,si,sh,()),ah,ax,(mc,ma,()),())/\Q .normal (L2 [] [(.x 0,[.xp 1,sU .op sx (.bF (.x 0 1)),sU .op sy (.bF (.x 0 2)),sU .aX si (.bF (.x 0 3)),sU .aX sh (.bF (.x 0 4))]),(.x 1,[.bool Y,.bool (ma||!(bX I ah ax).isSome)])])) (iB (q.D==1) (((0:Int)<=0/\0<( J q.l:Int))/\Gi (((),sx,sy,si,sh,()),af,a2,(mc,ma,()),())/\Q .normal (L2 [] [(.x 0,[.xp 1,sU .op sx (.bF (.x 0 1)),sU .op sy (.bF (.x 0 2)),sU .aX si (.bF (.x 0 3)),sU .aX sh (.bF (.x 0 4))]),(.x 1,[.bool Y,.bool (ma||!(bX I af a2).isSome)])])) ( xJ ((mc,ma,()),af,ah,())/\Cy ((mc,ma,()),af,ah,())<N/\Df (az,())/\( J sx+J [ao])*240<=140737488355328/\Df (aw,())/\( J sy+J [am])*240<=140737488355328/\Q .normal (L2 [] [(.x 0,[.xp 1,sU .op (sx++[ao]) (.bF (.x 0 1)),sU .op (sy++[am]) (.bF (.x 0 2)),sU .aX si (.bF (.x 0 3)),sU .aX sh (.bF (.x 0 4))]),(.x 1,[.bool (mc||(dK af ah).c),.bool (ma||(dK af ah).a)])])))))))))))) ?_ λ_ h=>Eq.mpr V4 (h _ (Yp _) _ (Yp _) _ (Z0 _) _ (Z0 _) _ (Z7 _) _ (Z7 _) _ rfl _ (Z0 _) _ (Z0 _) _ (Yp _) _ (Yp _));intro y1 h1 y2 h2 y3 h3 y4 h4 y5 h5 y6 h6 y7 h7 y8 h8 y9 h9 bx bf bw ba;replace h3:=h3.symm;replace h4:=h4.symm;subst h1 h2 h3 h4 h7 h8 h9 bf ba;simp only[vF];(simp only[iB,bR,bW]);refine⟨λc1=>?_,λc1=>?_⟩;.rw[Q5 c1]at L;exact⟨by grind,⟨O,by grind⟩,O,cC L (by simp only[QV,Qj];(repeat'(first|exact trivial|exact rfl|apply And.intro)))⟩
 rw[Q0 O]at L;refine⟨λc2=>?_,λc2=>?_⟩;.rw[Q5 c2]at L;exact⟨by grind,⟨O,by grind⟩,O,cC L (by simp only[QV,Qj];(repeat'(first|exact trivial|exact rfl|apply And.intro)))⟩
 rw[Q0 O]at L;refine⟨λc3=>?_,λc3=>?_⟩;.rw[Q5 c3]at L;exact⟨by grind,by grind,cC L (by simp only[QV];(repeat'(first|exact trivial|exact rfl|apply And.intro)))⟩
 rw[Q0 c3]at L;refine⟨λc4=>?_,λc4=>?_⟩;.rw[Q5 c4]at L;exact⟨by grind,by grind,cC L (by simp only[QV];(repeat'(first|exact trivial|exact rfl|apply And.intro)))⟩
 rw[Q0 c4]at L;refine⟨λc5=>⟨⟨by grind,by grind⟩,λhe=>?_,λhe=>?_⟩,λc5=>?_⟩;.rw[Q5 c5,gw,he]at L;exact cC L (by simp only[XV,QV,XC,Qj];(repeat'(first|exact trivial|exact rfl|apply And.intro)))
 .rw[Q5 c5,gw,he]at L;exact cC L (by simp only[XR,QV,Qj];(repeat'(first|exact trivial|exact rfl|apply And.intro)))
 rw[Q0 O]at L;refine⟨λc6=>?_,λc6=>?_⟩
 .rw[Q5 c6]at L;have l1:=Yn op (.inl c6);have l2:=Yk (o:=y2) (by unfold j8 at kq;omega);have a4:0<J y1.l:=O;have m3:y5∈y1.l:=by rw[h5];exact Zh a4 _
  have bc:=YM m3;have rk:ZR y2.e:=⟨O,ay.2.2.2,rq (by unfold j8 at kq;omega)⟩;have:=ZL rk;rw[show aR y1.l 0 H.nil=y5 from h5.symm]at L;exact⟨⟨O,O⟩,⟨⟨by grind,rk.2⟩,by grind,YW a1.2.2.1 m3⟩,cC L (by simp only[XC,Qj];(repeat'(first|exact trivial|exact rfl|apply And.intro)))⟩
 rw[Q0 c6]at L;have a5:y1.D=3:=by unfold j8 at kp;omega
 refine⟨λc7=>?_,λc7=>?_⟩
 .rw[Q5 c7]at L;have l1:=Yn oq (.inl c7);have l2:=Yk (o:=y1) a5;have a4:0<J y2.l:=O;have m3:y6∈y2.l:=by rw[h6];exact Zh a4 _
  have bc:=YM m3;have rk:ZR y1.e:=⟨O,a1.2.2.2,rp a5⟩;have:=ZL rk;rw[show aR y2.l 0 H.nil=y6 from h6.symm]at L;exact⟨⟨O,O⟩,⟨⟨by grind,rk.2⟩,by grind,YW ay.2.2.1 m3⟩,cC L (by simp only[XC,Qj];(repeat'(first|exact trivial|exact rfl|apply And.intro)))⟩
 rw[Q0 c7]at L;have k1:ZR y1.e:=⟨O,a1.2.2.2,rp a5⟩;have k2:ZR y2.e:=⟨O,ay.2.2.2,rq (by unfold j8 at kq;omega)⟩;refine⟨⟨k1,k2⟩,?_,trivial,by grind,trivial,by grind,cC L V0⟩;show 8*(Z1 y1.e+Z1 y2.e)+1<N;rw[ZZ,ZZ]at bh;omega
set_option maxHeartbeats 1000000 in theorem T9:ZPc:=by
 intro N mc ma p q _ hp hN;obtain⟨op,oq,av,a6⟩:=hp;dsimp only at op oq av a6;have be:8*(Z1 p+Z1 q)<N+1:=hN;have lp:=vm p;have lq:=vm q;have mp:=ZL op;have mq:=ZL oq;have wk:∀{e:W},ZR e->∀w∈e.aS,xQ w:=by intro e h w hw;obtain⟨d,hr⟩:=h.2.2;have a:=Yd (Zc hr).aS w hw;exact⟨(Zp h.2.1).2.2.1 w hw,a.2.2.2.1,a.2.2.2.2⟩
 have kk:∀{e:W},ZR e->∀k∈e.X,ZR k.e/\Z1 k.e<Z1 e:=by intro e h k hk;obtain⟨d,hr⟩:=h.2.2;have c:=Dw hk;have:=Ji e;have:=h.1;exact⟨⟨O,(Y6 (Zp h.2.1).2.2.2.1 hk).2,_,(Zl (Zc hr).X k hk).2⟩,ZA hk⟩
 have bg:=Yl p.X;have ba:=Yl q.X;have cC:∀{aB:dv}{s:bT U},jx dK p q=aB->ZB M Tryz.f105.ntmps Tryz.f105.results.toList (.tup [(Y,enc .aY aB.x),(Y,enc .aY aB.y)]) [[.bool (mc||aB.c),.bool (ma||aB.a)]] .ret s->ZB M Tryz.f105.ntmps Tryz.f105.results.toList (D3 ((mc,ma,()),p,q,())) (Fb ((mc,ma,()),p,q,())) .ret s:=by intro aB s h hs;subst h;exact hs
 refine wV (λQ=>J_ (p.aS,())/\J_ (q.aS,())/\Zi (nH N [1,1,1,0,1,0,0]) (Nn mc ma p q 0 mc ma p.aS q.aS) (xB 0 (kR N [1,1,1,1] Q))) ?_ λ_ h=>Eq.mpr V4 h;refine⟨by show J p.aS<=_;omega,by show J q.aS<=_;omega,?_⟩;let WI:=fH aV.S jy jy (λa b=>!YB a b&&jH a b) YB mc ma p.aS q.aS;refine Z5 (ι:=Int×Bool×Bool×List aV×List aV) (λs=>Nn mc ma p q s.1 s.2.1 s.2.2.1 s.2.2.2.1 s.2.2.2.2) (λs=>(0<=s.1/\s.1<=J p.aS)/\WI (G s.1) 0 s.2.1 s.2.2.1 s.2.2.2.1 s.2.2.2.2) (λs=>G (( J p.aS:Int)-s.1)) (0,mc,ma,p.aS,q.aS) rfl ⟨⟨O,O⟩,fH.qH⟩ ?_;rintro⟨i,c,a,aC,aH⟩⟨⟨i0,il⟩,aF⟩;dsimp only at i0 il aF;refine ZD3 N mc ma p q _ _ _ _ _ _ _ ?_;dsimp only;refine⟨λhi=>?_,λhi=>?_⟩
 .replace hi:=X7 hi;refine⟨⟨i0,hi⟩,?_⟩;refine Z5 (ι:=Int×Bool×Bool×List aV×List aV) (λs=>ML mc ma p q i s.1 s.2.1 s.2.2.1 s.2.2.2.1 s.2.2.2.2) (λs=>(0<=s.1/\s.1<=J q.aS)/\WI (G i) (G s.1) s.2.1 s.2.2.1 s.2.2.2.1 s.2.2.2.2) (λs=>G (( J q.aS:Int)-s.1)) (0,c,a,aC,aH) rfl ⟨⟨O,O⟩,aF⟩ ?_;clear aF;clear c a aC aH;rintro⟨j,c,a,aC,aH⟩⟨⟨j0,jl⟩,aF⟩;dsimp only at j0 jl aF;have lx:=aF.lx;have ly:=aF.ly;refine ZD2 N mc ma p q _ _ _ _ _ _ _ _ _ ?_;intro y1 h1 y2 h2 y3 h3 y4 h4 y5 h5 y6 h6;replace h3:=h3.symm;replace h4:=h4.symm;subst h3 h4;(simp only[iB,bR,bW]);try dsimp only at*
  refine⟨λhj=>⟨⟨j0,hj⟩,λhe=>?_,λhe=>?_⟩,λhj=>?_⟩
  .have E:=(aF.step O O ⟨0,0,0,0⟩).1 (by grind);rw[<-h1,<-h2]at E;have m1:y1∈p.aS:=by rw[h1];exact Zh O _
   have m2:y2∈q.aS:=by rw[h2];exact Zh O _
   subst h5 h6;refine⟨⟨wk op _ m1,wk oq _ m2⟩,⟨wk op _ m1,Zys _⟩,⟨i0,O⟩,X3 _,⟨wk oq _ m2,Zys _⟩,⟨j0,O⟩,X3 _,?_⟩;refine Zre N mc ma p q _ _ _ _ _ _ _ _ _ _ ⟨V3,(j+1,_,_,_,_),rfl,⟨⟨V2,V2⟩,?_⟩,V2⟩;rw[show G (j+1)=G j+1 by omega];exact E
  .have E:=(aF.step O O ⟨0,0,0,0⟩).2 (by grind);refine Zre N mc ma p q _ _ _ _ _ _ _ _ _ _ ⟨V3,(j+1,_,_,_,_),rfl,⟨⟨V2,V2⟩,?_⟩,V2⟩;rw[show G (j+1)=G j+1 by omega];exact E
  .refine⟨V3,(i+1,_,_,_,_),rfl,⟨⟨V2,V2⟩,?_⟩,V2⟩;rw[show G (i+1)=G i+1 by omega];rw[show G j=J q.aS by omega]at aF;exact aF.next O
 replace hi:=KG hi;rw[show G i=J p.aS by omega]at aF;obtain⟨ec,ea,eX,eY⟩:=aF.cC;refine⟨by show J p.X<=_;omega,by show J q.X<=_;omega,?_⟩;let KI:=fH aW.S (λa b:bP=>⟨a.S,(dK a.e b.e).x⟩) (λb a:bP=>⟨b.S,(dK a.e b.e).y⟩) (λa b=>(dK a.e b.e).c) (λa b=>(dK a.e b.e).a) c a p.X q.X;refine Z5 (ι:=Int×Bool×Bool×List bP×List bP) (λs=>LV mc ma p q aC aH s.1 s.2.1 s.2.2.1 s.2.2.2.1 s.2.2.2.2) (λs=>(0<=s.1/\s.1<=J p.X)/\KI (G s.1) 0 s.2.1 s.2.2.1 s.2.2.2.1 s.2.2.2.2) (λs=>G (( J p.X:Int)-s.1)) (0,c,a,p.X,q.X) rfl ⟨⟨O,O⟩,fH.qH⟩ ?_;clear aF hi il i0;rintro⟨i,c1,a1,X1,Y1⟩⟨⟨i0,il⟩,aF⟩;dsimp only at i0 il aF;refine ZD1 N mc ma p q _ _ _ _ _ _ _ _ _ ?_;intro z1 ah z2 af;dsimp only at ah af⊢;refine⟨λhi=>?_,λhi=>?_⟩
 .replace hi:=X7 hi;refine⟨⟨i0,hi⟩,?_⟩;refine Z5 (ι:=Int×Bool×Bool×List bP×List bP) (λs=>Ik mc ma p q aC aH i s.1 s.2.1 s.2.2.1 s.2.2.2.1 s.2.2.2.2) (λs=>(0<=s.1/\s.1<=J q.X)/\KI (G i) (G s.1) s.2.1 s.2.2.1 s.2.2.2.1 s.2.2.2.2) (λs=>G (( J q.X:Int)-s.1)) (0,c1,a1,X1,Y1) rfl ⟨⟨O,O⟩,aF⟩ ?_;clear aF ah af;clear c1 a1 X1 Y1;rintro⟨j,c1,a1,X1,Y1⟩⟨⟨j0,jl⟩,aF⟩;dsimp only at j0 jl aF;have lx:=aF.lx;have ly:=aF.ly;refine ZD0 N mc ma p q _ _ _ _ _ _ _ _ _ _ _ ?_;intro y1 h1 y2 h2 y3 h3 y4 h4 y5 h5 y6 h6;(simp only[iB,bR,bW]);try dsimp only at*
  refine⟨λhj=>⟨⟨j0,hj⟩,λhe=>?_,λhe=>?_⟩,λhj=>?_⟩;.have E:=(aF.step O O ⟨0,W.nil⟩).1 (by grind);have e1:=aF.TH (λa b=>rfl) O ⟨0,W.nil⟩;have e2:=aF.OV (λa b=>rfl) O ⟨0,W.nil⟩;rw[<-h1]at e1;rw[<-h2]at e2;rw[<-h1,<-h2]at E;have m1:=kk op y1 (by grind);have m2:=kk oq y2 (by grind);subst h3 h4 h5 h6;refine⟨⟨m1.1,m2.1⟩,by show 8*(Z1 y1.e+Z1 y2.e)+1<N;omega,⟨i0,O⟩,X3 _,⟨j0,O⟩,X3 _,?_⟩;refine Zrd N mc ma p q _ _ _ _ _ _ _ _ _ _ _ ⟨V3,(j+1,_,_,_,_),rfl,⟨⟨V2,V2⟩,?_⟩,V2⟩;rw[show G (j+1)=G j+1 by omega];grind
  .have E:=(aF.step O O ⟨0,W.nil⟩).2 (by grind);refine Zrd N mc ma p q _ _ _ _ _ _ _ _ _ _ _ ⟨V3,(j+1,_,_,_,_),rfl,⟨⟨V2,V2⟩,?_⟩,V2⟩;rw[show G (j+1)=G j+1 by omega];exact E
  .refine⟨V3,(i+1,_,_,_,_),rfl,⟨⟨V2,V2⟩,?_⟩,V2⟩;rw[show G (i+1)=G i+1 by omega];rw[show G j=J q.X by omega]at aF;exact aF.next O
 replace hi:=KG hi;rw[show G i=J p.X by omega]at aF;have lx:=aF.lx;have ly:=aF.ly;obtain⟨ay,ax,a3,a2⟩:=aF.cC;have lX:J aC=J p.aS:=by rw[eX,QF]
 have lY:J aH=J q.aS:=by rw[eY,QF]
 refine⟨⟨by grind,by grind⟩,⟨by grind,by grind⟩,cC rfl ?_⟩;have e1:(jx dK p q).x=oR z1:=by rw[ah,eX,a3];try rfl
 have e2:(jx dK p q).y=oR z2:=by rw[af,eY,a2];try rfl
 have e3:(mc||(jx dK p q).c)=c1:=by rw[ay,ec,XQ];try rfl
 have e4:(ma||(jx dK p q).a)=a1:=by rw[ax,ea,XQ];try rfl
 rw[e1,e2,e3,e4];exact V0
theorem ZXg:aU Tryz.prog M 66 IB/\aU Tryz.prog M 105 ZxI/\aU Tryz.prog M 106 ZxH/\aU Tryz.prog M 145 Zxy:=ZJd qE PJ VK yc Wn Ph Rg TX ZRO (PX A6) Uc OU Wp ZRv R9 T9 O_ So
theorem c66:aU Tryz.prog M 66 IB:=ZXg.1
noncomputable section
def ZO3(a:YC):Prop:=yP a.1 a.2.1
def Px(a:YC):aA U:=.tup [(Y,enc .aY (gz a.1 a.2.1).1),(Y,enc .aY (gz a.1 a.2.1).2.1),(I,[ci (gz a.1 a.2.1).2.2])]
def ZDV:Fs U:=fs gM (λa=>[ZO3 a]) Px
def ZRa:List (FuncId×Fs U):=[(67,oe),(66,IB)]
def ZXb:Zb U:=cI [[2,3,4,5,502,503,504,505],[7,511],[2,3,8,9,502,503,508,509],[21],[6,7,8,9,21,508,509,511],[6,8,9,28,508,509],[6,8,9,28,508,509],[]]
end
theorem ZHe{p q}(s:ZR p)(hq:ZR q)(h:(iV p q).2=Y):(Jc p q).2=Y/\(iV p q).1=Zd (Jc p q).1:=by unfold iV at h⊢;grind
theorem Hj{e}(h:ZR e):fg (e,()):=by have:=ZL h;exact⟨by grind,h.2.2⟩
set_option maxHeartbeats 1000000 in theorem c16:aU Tryz.prog M 16 ZDV:=by
 refine kF (l:=ZRa) ⟨Ct.1,c66,trivial⟩ ZXb Tryz.func16 2 λ⟨p,q,_⟩hp=>?_;have hp:yP p q:=hp;obtain⟨⟨h1,h2⟩,h3⟩:=Oe hp;have cC:∀{aC aH:W}{n:Int}{s:bT U},gz p q=(aC,aH,n)->ZB M Tryz.f16.ntmps Tryz.f16.results.toList (.tup [(Y,enc .aY aC),(Y,enc .aY aH),(I,[.int .i64 n])]) [] .ret s->ZB M Tryz.f16.ntmps Tryz.f16.results.toList (Px (p,q,())) [] .ret s:=by intro aC aH n s h hs;refine Y8 ?_ hs;simp only[Px];rw[h];try rfl
 have eN:=gz.eq_1 p q;refine wV (λQ=>∀ai,ai=p->∀af,af=q->∀aa,aa=Zd ai->∀ab,ab=Zd af->∀ae,ae=(dK aa ab).x->∀ah,ah=(dK aa ab).y->fg (ai,())/\fg (af,())/\xJ ((I,I,()),aa,ab,())/\iB (I||(dK aa ab).a) (Q .ret (L2 [pL 4,pL 5,pI 6 14] [(.bE 4,eI),(.bE 5,eI)])) (iB (I||(dK aa ab).c) (Q .ret (L2 [pL 4,pL 5,pI 6 13] [(.bE 4,eI),(.bE 5,eI)])) ( fg (ae,())/\fg (ah,())/\Q .ret (L2 [pL 4,pL 5,pI 6 0] [(.bE 4,enc .aY (Zd ae)),(.bE 5,enc .aY (Zd ah))])))) ?_ λ_ h=>Eq.mpr V4 (h _ (Z0 _) _ (Z0 _) _ (Z0 _) _ (Z0 _) _ (Z0 _) _ (Z0 _));intro y1 e1 y2 e2 y3 e3 y4 e4 y5 e5 y6 e6;subst e1 e2;rw[<-e3]at h1;rw[<-e4]at h2;rw[<-e3,<-e4]at h3 eN;generalize hL:dK y3 y4=aB at h3 eN e5 e6⊢;simp only[Kt];refine⟨Hj hp.1,Hj hp.2.1,⟨h1,h2⟩,λha=>cC (by rw[eN,Q5 ha]) V0,λha=>⟨λL=>cC (by rw[eN,Q0 (by rw[ha];decide),Q5 L]) V0,λL=>⟨by rw[e5];exact Hj (h3 ha L).1,by rw[e6];exact Hj (h3 ha L).2,?_⟩⟩⟩;exact cC (by rw[eN,Q0 (by rw[ha];decide),Q0 (by rw[L];decide),<-e5,<-e6]) V0
noncomputable section
structure bG where
 cX:H
 done:List W
 gone:List W
def Yx(e:W)(t:H):H×Int:=match bX I e t with|none=>(t,13)|some u=>if Zf (Z2 u) 64=Y then(Z2 u,0)else(t,3)
def n9(e:W)(t:H):Prop:=(Z1 e<=20000000000/\Ye e/\∃d,Z3 e d=Y)/\Zo t+dZ e<=20000000000/\ei t
def jc(e:W)(h:bG):bG×Int:=if Z3 e 64=Y then if(Yx (Zd e) h.cX).2=0 then(⟨(Yx (Zd e) h.cX).1,h.done++[Zd e],[]⟩,0)else(h,(Yx (Zd e) h.cX).2)else(h,2)
def iD(l:List W):W:=aR l ( J l-1) W.nil
def JQ(h:bG):bG×Bool:=if J h.done=0 then(h,I)else if(Yx (Zd (Zm (iD h.done))) h.cX).2=0 then(⟨(Yx (Zd (Zm (iD h.done))) h.cX).1,h.done.take ( J h.done-1),h.gone++[iD h.done]⟩,Y)else(h,I)
def JM(h:bG):bG×Bool:=if J h.gone=0 then(h,I)else if(Yx (iD h.gone) h.cX).2=0 then(⟨(Yx (iD h.gone) h.cX).1,h.done++[iD h.gone],h.gone.take ( J h.gone-1)⟩,Y)else(h,I)
end
structure kH(s:H):Prop where
 r:Zf s 64=true
 g:ei s
 n:Z2 s=s
 m:Zo s<=10000000000
theorem kH.rt{s}(h:kH s):eL s:=⟨⟨64,h.r⟩,h.g⟩
inductive ia:H->List W->H->Prop|nil{s}:kH s->ia s [] s|cons{s e u fs w}:kH s->ZR e->bX false e s=some u->ia (Z2 u) fs w->ia s (e::fs) w
theorem ia.E{s w es}(h:ia s es w):kH s/\kH w:=by induction h with|nil h=>exact⟨h,h⟩|cons h _ _ _ ih=>exact⟨h,ih.2⟩
theorem ZFs{es fs s w}:ia s (es++fs) w↔∃m,ia s es m/\ia m fs w:=by
 constructor;.induction es generalizing s with
  |nil=>intro h;exact⟨s,.nil h.E.1,h⟩|cons e es ih=>intro h;cases h with|cons a b c d=>obtain⟨m,h1,h2⟩:=ih d;exact⟨m,.cons a b c h1,h2⟩
 .rintro⟨m,h1,h2⟩;induction h1 with|nil _=>exact h2|cons a b c _ ih=>exact .cons a b c (ih h2)
theorem ZFr{e s w}(h:ia s [e] w):∃u,ZR e/\bX I e s=A u/\w=Z2 u:=by cases h with|cons a b c d=>cases d with|nil _=>exact⟨_,b,c,rfl⟩
theorem We{e s}(h:ZR e)(hs:kH s):n9 e s:=by have:=ZL h;have:=h.1;have:=hs.m;exact⟨⟨O,h.2⟩,O,hs.g⟩
theorem Uq{e}(h:ZR e):ZR (Zd (Zm e)):=(xP h).2
theorem Du{e s u}(h:bX I e s=A u)(hr:Zf (Z2 u) 64=Y):Yx e s=(Z2 u,0):=by unfold Yx;rw[h];exact Q5 hr
theorem ZPt{e s}(h:(Yx e s).2=0):∃u,bX I e s=A u/\Zf (Z2 u) 64=Y/\(Yx e s).1=Z2 u:=by
 unfold Yx at h⊢;split at h;.cases h
 .rename_i u hu;split at h;.rename_i hr;refine⟨u,hu,hr,?_⟩;rw[Q5 hr]
  .cases h
theorem uT{e s}(h:(Yx e s).2≠0):(Yx e s).1=s:=by
 unfold Yx at h⊢;split;.try rfl
 .rename_i u hu;rw[hu]at h;dsimp only at h;split;.rename_i hr;rw[Q5 hr]at h;exact absurd rfl h
  .try rfl
theorem ZDx{e s u}(he:ZR e)(hs:kH s)(hw:kH (Z2 u))(h:bX I e s=A u):Yx (Zd (Zm e)) (Z2 u)=(s,0):=by obtain⟨_,g,d,r⟩:=he;obtain⟨z,h1,h2⟩:=Hc r g hs.rt hw.rt h (show dG u (Z2 u)from(ZY u).symm);have h2:Z2 z=Z2 s:=h2;rw[hs.n]at h2;rw[Du h1 (by rw[h2];exact hs.r),h2]
theorem ZzM{t m es gs e}(h:ia t (es++[e]) m):∃s,ia t es s/\ia s [e] m/\JQ ⟨m,es++[e],gs⟩=(⟨s,es,gs++[e]⟩,Y):=by
 obtain⟨s,h1,h2⟩:=ZFs.1 h;obtain⟨u,he,hu,rfl⟩:=ZFr h2;refine⟨s,h1,h2,?_⟩;have hl:iD (es++[e])=e:=by simp[iD]
 have hb:=ZDx he h1.E.2 h.E.2 hu;unfold JQ;rw[Q0 (by simp)];dsimp only;rw[hl,hb,Q5 rfl];simp
theorem ZA7{s w es fs gs e}(h:ia s (e::fs) w):∃m,ia s [e] m/\ia m fs w/\JM ⟨s,es,gs++[e]⟩=(⟨m,es++[e],gs⟩,Y):=by cases h with|cons a b c d=>
  rename_i u;refine⟨Z2 u,.cons a b c (.nil d.E.1),d,?_⟩;have hl:iD (gs++[e])=e:=by simp[iD]
  have hf:=Du c d.E.1.r;unfold JM;rw[Q0 (by simp)];dsimp only;rw[hl,hf,Q5 rfl];simp
theorem Zkt{a b c}(s:bZ dG a b)(h:bZ dG b c):bZ dG a c:=by cases a<;>cases b<;>cases c<;>first|exact trivial|exact absurd s id|exact absurd h id|exact Eq.trans s h
theorem ZAn{a b}(h:bZ dG a b):bZ dG b a:=by cases a<;>cases b<;>first|exact trivial|exact absurd h id|exact Eq.symm h
theorem Hv:∀{l a b},(∀e∈l,∃d,Z3 e d=Y)->dG a b->bZ dG (nz l a) (nz l b)|[],a,b,_,h=>h|e::r,a,b,hr,h=>by obtain⟨d,hd⟩:=hr e Q6;rw[nz,nz];exact(tM e d a b hd h).bind λx y s=>Hv (λx hx=>hr x (Q4 _ hx)) s
theorem ZKE{p q d d'}(hp:Z3 p d=Y)(hq:Z3 q d'=Y)(gp:Ye p)(gq:Ye q)(L:(Jc p q).2=Y){t}(ht:eL t):bZ dG (bX I (Jc p q).1 t) ((bX I p t).bind (bX I q)):=by
 have C:=ZHa hp hq gp gq;cases h1:bX I (Jc p q).1 t with
 |none=>cases h:bX I p t with
  |none=>exact trivial|some u=>
   rw[Qp];cases s:bX I q u with
   |none=>exact trivial|some v=>obtain⟨_,w,hw,_⟩:=C.Iu ht h s;rw[h1]at hw;cases hw
 |some w=>
  obtain⟨u,v,h,s,h4⟩:=C.W4 ht L h1;rw[h,Qp,s];exact h4
theorem ZHd{p q}(hp:ZR p)(s:ZR q)(h:(iV p q).2=Y)(hs:dZ p+dZ q<=9000000000):ZR (iV p q).1/\dZ (iV p q).1+18<=dZ p+dZ q:=by have F:=HH hp s;obtain⟨c1,c2⟩:=ZHe hp s h;have w:=F.wk c1;have c:=F.ct trivial c1;have n:=qJ (Jc p q).1;rw[c2];exact⟨⟨O,rE _ _ w.r w.g,_,Jz _ _ w.r⟩,O⟩
theorem Zt2:∀l(x:W)t0,ZR x->(∀e∈l,ZR e)->dZ x+oW l<=8000000018->eL t0->((bX I x t0).bind (nz l)).isSome=Y->(o8 l x).2=Y/\ZR (o8 l x).1/\dZ (o8 l x).1<=dZ x+oW l/\∀t,eL t->bZ dG (bX I (o8 l x).1 t) ((bX I x t).bind (nz l))
 |[],x,t0,hx,_,L,ht,h=>by
  refine⟨rfl,hx,KO _ _,λt _=>?_⟩;have:(bX I x t).bind (nz [])=bX I x t:=by cases bX I x t<;>rfl
  rw[this];exact ZAo _|e::r,x,t0,hx,he,L,ht,h=>by
  have h1:=he e Q6;have hr:∀y∈r,ZR y:=λy hy=>he y (Q4 _ hy);have ai:∀y∈r,∃d,Z3 y d=Y:=λy hy=>(hr y hy).2.2;obtain⟨dx,rx⟩:=hx.2.2;obtain⟨de,re⟩:=h1.2.2;rw[oW]at L;have s:(Jc x e).2=Y:=by cases a:bX I x t0 with
   |none=>rw[a]at h;cases h|some u=>rw[a,Qp,nz]at h;cases b:bX I e u with|none=>rw[b]at h;cases h|some v=>exact((ZHa rx re hx.2.1 h1.2.1).Iu ht a b).1
  have af:iV x e=(Zd (Jc x e).1,Y):=by rw[iV,Q5 s]
  have aJ:=HH hx h1;have w:=aJ.wk s;have hy:=ZHd hx h1 (by rw[af]) O;rw[af]at hy;have aj:∀t,eL t->bZ dG ((bX I (Zd (Jc x e).1) t).bind (nz r)) ((bX I x t).bind (nz (e::r))):=by intro t ht;have k1:=Zkt (oH (Jc x e).1 _ t w.r ht) (ZKE rx re hx.2.1 h1.2.1 s ht);have k2:=k1.bind (f:=nz r) (g:=nz r) λa b ah=>Hv ai ah;refine ZJ4 k2 ?_;cases bX I x t<;>rfl
  obtain⟨i1,i2,i3,i4⟩:=Zt2 r _ t0 hy.1 hr (by grind) ht (by rw[(aj t0 ht).isSome];exact h);grind[o8,Zkt,oW]
def nS(w:dA):Nat:=gA w.bB+(34*J w.gone+Ze w.gone)+(34*J w.bO+Ze w.bO)
theorem VH(w):gA (Zj w).bB=nS w:=by
 simp only[Zj,kU,nS,zA];by_cases h1:J w.gone=0
 .rw[Q5 h1,Q7 h1];by_cases h2:J w.bO=0;.rw[Q5 h2,Q7 h2];simp[gA,Ze]
  .rw[Q0 h2];simp only[gA,mU,Ze,Q0 (show¬(2:Int)=3 by decide)];simp<;>omega
 .rw[Q0 h1];by_cases h2:J w.bO=0;.rw[Q5 h2,Q7 h2];simp only[gA,mU,Ze,Q0 (show¬(1:Int)=3 by decide)];simp<;>omega
  .rw[Q0 h2];simp only[gA,mU,Q0 (show¬(1:Int)=3 by decide),Q0 (show¬(2:Int)=3 by decide)];simp<;>omega
theorem Zwz(w)(n):nS (Yt w n)<=nS w+34*G n:=by
 have h:=VH w;have e:nS (Yt w n)=gA (iE (Zj w).bB n):=by simp[Yt,nS,Ze]
 rw[e,<-h];rcases tm (Zj w).bB n with e|⟨a,q,e1,e2,e3⟩;.rw[e,zA];simp only[gA,mU,Ze,Q0 (show¬(0:Int)=3 by decide)];simp
 .rw[e3,e1,zA,zA];simp only[gA,mU,sf,e2,Q0 (show¬(0:Int)=3 by decide)];omega
mutual theorem I4:∀(e:W),fv (Zd e)<=fv e
 |.mk k o n w ks l os=>by
  have h:=Zrh ks;have s:=Zrg l os ⟨[],[],[]⟩;have h3:=ZX o;have h4:=ZX n;have:=wF o;have:=wF n;have hf:=VH (Zz l os ⟨[],[],[]⟩);have hz:nS ⟨[],[],[]⟩=0:=rfl;rw[Zd];split;.simp only[fv,kS,gA,Ql];omega
  .split;.simp only[fv,gA,oM];omega
   .split;.simp only[fv,kS,oM,Ql];omega
    .simp only[fv,kS,gA,oM,Ql];omega theorem Zrh:∀(ks:List (aW W)),kS (Jo ks)<=kS ks
 |[]=>Qa _|k::r=>by have s:=ZzL k;have h:=Zrh r;simp only[Jo,kS];omega theorem ZzL:∀(k:aW W),xv (lF k)<=xv k|⟨a,e⟩=>by have:=I4 e;simp only[lF,xv];omega theorem Zrg(V:Int):∀(os:List (bI W))(w:dA),nS (Zz V os w)<=nS w+gA os
 |[],w=>Qa _|o::r,w=>by
  have s:=ZDb V o w;have h:=Zrg V r (j9 V o w);simp only[Zz,gA];omega theorem ZDb(V:Int):∀(o:bI W)(w:dA),nS (j9 V o w)<=nS w+mU o
 |⟨k,n,l,e⟩,w=>by
  have he:=I4 e;have s:=Hu e;have hl:=G8 l;have h:J (Z6 l)=J l:=by simp[Z6]
  rw[j9];simp only[mU];split
  .rename_i k0;rw[Q0 O];have:=Zwz w n;omega
  .split
   .rename_i k1;rw[Q0 O];have:=Jl w.gone (Z6 l);simp only[nS,Qi];omega
   .split
    .rename_i k2;rw[Q0 O];have:=Jl w.bO (Z6 l);simp only[nS,Qi];omega
    .split
     .rename_i k3;split;.have:=Zwz w 1;simp at this;omega
      .have:=VH w;simp only[nS,zA,gA,mU,Xa,Ze,Ql]at this⊢;omega
     .omega end
def p_:List W->Nat|[]=>0|e::r=>fv e+p_ r
noncomputable def ug:List W->W->W×Bool|[],x=>(x,Y)|e::r,x=>if(kI x e).2=Y then ug r (kI x e).1 else(W.nil,I)
noncomputable def js(l:List W):W×Bool:=if(ug l W.nil).2=Y then(Zd (ug l W.nil).1,Y)else(W.nil,I)
theorem Zs0{p q}(hp:eJ p)(hq:eJ q)(h:(kI p q).2=Y)(hs:fv p+fv q<=9000000000):eJ (kI p q).1/\fv (kI p q).1+18<=fv p+fv q:=by
 have m1:=ZL hp.re;have m2:=ZL hq.re;obtain⟨aJ,s⟩:=ZEP _ p q (Qa _) O (wu hp.re) (wu hq.re);have e:gF (Z1 p+Z1 q) p q=fC p q:=rfl;rw[e]at s aJ;unfold kI at h⊢;split at h;.rename_i L;rw[Q5 L];have s:=s L;have w:=aJ.wk L;have n:=I4 (fC p q).1;dsimp only;exact⟨⟨O,rE _ _ w.r w.g,_,Jz _ _ w.r⟩,O⟩
 .cases h
theorem Zmz:eJ W.nil:=⟨by simp[fv,kS,gA,W.nil,H.nil,Zo,Ze],Dd.2⟩
theorem ZwB:fv W.nil=18:=by simp[fv,kS,gA,W.nil,H.nil,Zo,Ze]
theorem Zl4:∀l(x:W),eJ x->(∀e∈l,eJ e)->fv x+p_ l<=8000000018->o8 l x=ug l x
 |[],x,_,_,_=>rfl|e::r,x,hx,he,L=>by
  have s:=he e Q6;rw[p_]at L;rw[o8,ug,ZHc hx s];split;.rename_i h;have:=Zs0 hx s h O;exact Zl4 r _ this.1 (λy hy=>he y (Q4 _ hy)) O
  .try rfl
theorem ZGR{l}(h:∀e∈l,eJ e)(L:p_ l<=8000000000):nY l=js l:=by unfold nY js;rw[Zl4 l W.nil Zmz h (by rw[ZwB];omega)]
theorem ZwA:∀l,J l<=p_ l|[]=>Qa _|e::r=>by have:=ZwA r;have:=Hu e;simp only[p_,Qd];omega
noncomputable section
def Mi(a b:aV):List aV:=if(jy a b).a_=0 then[]else[jy a b]
def YX(p q:List aV):List Int->List aV×List aV×Bool×Bool|[]=>([],[],I,I)|n::r=>match JZ p n,JZ q n with|some a,aT=>(a::(YX p q r).1,(YX p q r).2.1,(YX p q r).2.2.1,(YX p q r).2.2.2)|none,A b=>((YX p q r).1,b::(YX p q r).2.1,(YX p q r).2.2.1,(YX p q r).2.2.2)|some a,A b=>(Mi a b++(YX p q r).1,Mi b a++(YX p q r).2.1,jH a b||(YX p q r).2.2.1,YB a b||(YX p q r).2.2.2)|none,aT=>YX p q r
def iX(n:Int)(e:W):List bP:=if e.D=0 then[]else[⟨n,e⟩]
def JA(f:W->W->dv)(p q:List bP):List Int->List bP×List bP×Bool×Bool|[]=>([],[],I,I)|n::r=>(iX n (f (Yc p n) (Yc q n)).x++(JA f p q r).1,iX n (f (Yc p n) (Yc q n)).y++(JA f p q r).2.1,(f (Yc p n) (Yc q n)).c||(JA f p q r).2.2.1,(f (Yc p n) (Yc q n)).a||(JA f p q r).2.2.2)
def lS(w:List aV)(k:List bP):W:=if J w+J k=0 then W.nil else .mk 2 H.nil H.nil w k 0 []
def l6(f:W->W->dv)(p q:W):dv:=let w:=YX p.aS q.aS (Y7 (p.aS.map aV.S) (q.aS.map aV.S))
 let k:=JA f p.X q.X (Y7 (p.X.map aW.S) (q.X.map aW.S))
 ⟨lS w.1 k.1,lS w.2.1 k.2.1,w.2.2.1||k.2.2.1,w.2.2.2||k.2.2.2⟩
def J6(f:W->W->dv)(p q:bJ):PL:=if p.D=0/\q.D=1 then⟨[],[cP q],I,I⟩else if p.D=1/\q.D=0 then⟨[cP p],[],I,I⟩else if p.D=0 then⟨[⟨0,1,[],W.nil⟩],[cP q],I,I⟩else if q.D=0 then⟨[cP p],[⟨0,1,[],W.nil⟩],I,I⟩else if p.D=1/\q.D=1 then⟨[],[],I,!ZW (Z2 p.t) (Z2 q.t)⟩else if p.D=1 then⟨[],[],Y,!(bX Y q.e p.t).isSome⟩else if q.D=1 then⟨[],[],Y,!(bX Y p.e q.t).isSome⟩else⟨[jP (f p.e q.e).x],[jP (f p.e q.e).y],(f p.e q.e).c,(f p.e q.e).a⟩
def g9(f:W->W->dv):List bK->List H->List H->PL|[],m,h=>Jd m h|x::r,m,h=>if x.of=1 then g9 f r (m++[x.p.t]) h else if x.of=2 then g9 f r m (h++[x.q.t])else((Jd m h).dw (J6 f x.p x.q)).dw (g9 f r [] [])
def n6(f:W->W->dv)(p q:W):dv:=let m:=ZI (Zn 0 2 p.ops) (Zn 0 2 q.ops) []
 if m.2=Y/\p.V=q.V then⟨J9 p.V (g9 f m.1 [] []).x,J9 p.V (g9 f m.1 [] []).y,(g9 f m.1 [] []).c,(g9 f m.1 [] []).a⟩else⟨W.nil,W.nil,I,Y⟩
def qd(e:W)(o n:H):dv:=⟨W.nil,W.nil,(bX Y e o).isSome&&!ZW (Z2 (YH (bX Y e o))) (Z2 n),!(bX Y e o).isSome⟩
def nh(f:W->W->dv)(p q:W):dv:=if p.D=0\/q.D=0 then⟨p,q,I,I⟩else if p.D=1 then qd q p.bH p.new else if q.D=1 then qd p q.bH q.new else if p.D≠q.D then⟨W.nil,W.nil,I,Y⟩else if p.D=2 then l6 f p q else n6 f p q
def kQ:Nat->W->W->dv|0,_,_=>⟨W.nil,W.nil,I,I⟩|n+1,p,q=>nh (kQ n) p q
def dN(p q:W):dv:=kQ (Z1 p+Z1 q) p q
def l7(p q:W):W×W×Int:=if(dN (Zd p) (Zd q)).a=Y then(W.nil,W.nil,14)else if(dN (Zd p) (Zd q)).c=Y then(W.nil,W.nil,13)else(Zd (dN (Zd p) (Zd q)).x,Zd (dN (Zd p) (Zd q)).y,0)
structure fQ(s t:dv):Prop where
 a:s.a=t.a
 c:s.a=false->s.c=t.c
 x:s.a=false->s.c=false->Zd s.x=Zd t.x/\(s.x.D=0↔t.x.D=0)y:s.a=false->s.c=false->Zd s.y=Zd t.y/\(s.y.D=0↔t.y.D=0)
end
theorem ZiS(e)(o n):m9 e o n=qd e o n:=by unfold m9 qd dX;rw[pr];grind
def C_(l:List Op):Bool:=l.any λo=>!decide (o.D=0)
def eZ(a b:List Op):Prop:=(∀V w,Zz V a w=Zz V b w)/\C_ a=C_ b
theorem eZ.refl(a):eZ a a:=⟨λ_ _=>rfl,rfl⟩
theorem eZ.dw{a b c d}(h:eZ a b)(k:eZ c d):eZ (a++c) (b++d):=⟨λV w=>by rw[Iv,Iv,h.1,k.1],by unfold C_;rw[List.any_append,List.any_append];exact congr (congrArg _ h.2) k.2⟩
structure fW(s t:PL):Prop where
 a:s.a=t.a
 c:s.a=false->s.c=t.c
 x:s.a=false->s.c=false->eZ s.x t.x
 y:s.a=false->s.c=false->eZ s.y t.y
theorem fW.refl(s):fW s s:=⟨rfl,λ_=>rfl,λ_ _=>.refl _,λ_ _=>.refl _⟩
theorem fW.dw{s t u v}(h:fW s t)(k:fW u v):fW (s.dw u) (t.dw v):=by
 have ha:∀{p q:Bool},(p||q)=I->p=I/\q=I:=λ{p q}=>by grind
 refine⟨?_,λe=>?_,λe e2=>?_,λe e2=>?_⟩
 .show(s.a||u.a)=(t.a||v.a);rw[h.a,k.a]
 .obtain⟨e1,e2⟩:=ha e;show(s.c||u.c)=(t.c||v.c);rw[h.c e1,k.c e2]
 .exact(h.x (ha e).1 (ha e2).1).dw (k.x (ha e).2 (ha e2).2)
 .exact(h.y (ha e).1 (ha e2).1).dw (k.y (ha e).2 (ha e2).2)
theorem Zmu{V a b}(h:eZ a b):Zd (J9 V a)=Zd (J9 V b)/\((J9 V a).D=0↔(J9 V b).D=0):=by
 have s:=h.2;unfold C_ at s;unfold J9;rw[s];split;.refine⟨?_,QH⟩;simp only[Zd,h.1]
 grind
theorem ZGk{V s t}(h:fW s t):fQ ⟨J9 V s.x,J9 V s.y,s.c,s.a⟩ ⟨J9 V t.x,J9 V t.y,t.c,t.a⟩:=⟨h.a,h.c,λe e2=>Zmu (h.x e e2),λe e2=>Zmu (h.y e e2)⟩
def B7:PL:=⟨[],[],I,I⟩
theorem PL.og(s):B7.dw s=s:=by cases s;rfl
theorem PL.jD(s:PL):s.dw B7=s:=by cases s;simp[PL.dw,B7]
theorem PL.ja(s t u:PL):(s.dw t).dw u=s.dw (t.dw u):=by simp[PL.dw,XQ]
theorem ZKu:Jd [] []=B7:=by rfl
noncomputable def oQ(g:W->W->dv):List bK->PL|[]=>B7|x::r=>(J6 g x.p x.q).dw (oQ g r)
theorem Zyb(g):∀m1 s(a b:List H),(∀y∈m1,y.of=0)->m1≠[]->g9 g (m1++s) a b=((Jd a b).dw (oQ g m1)).dw (g9 g s [] [])|[],_,_,_,_,h=>absurd rfl h|[x],s,a,b,h,_=>by have h0:=h x Q6;rw[Qw,Qn,g9,Q0 O,Q0 O,oQ,oQ,PL.jD]|x::y::r,s,a,b,h,_=>by have h0:=h x Q6;rw[Qw,g9,Q0 O,Q0 O,Zyb g (y::r) s [] [] (λz hz=>h z (Q4 _ hz)) (by simp),ZKu,PL.og,show oQ g (x::y::r)=(J6 g x.p x.q).dw (oQ g (y::r))from rfl,PL.ja,PL.ja,PL.ja]
theorem Ch(g)(aC aH)(bx s):∀m,(∀y∈m,J6 g y.p y.q=⟨if bx=Y then[aC y]else[],if s=Y then[aH y]else[],I,I⟩)->oQ g m=⟨if bx=Y then m.map aC else[],if s=Y then m.map aH else[],I,I⟩|[],_=>by cases bx<;>cases s<;>rfl|x::r,h=>by rw[oQ,h x Q6,Ch g aC aH bx s r λz hz=>h z (Q4 _ hz)];cases bx<;>cases s<;>rfl
theorem Dt{o}(h:ZH o):eZ [o] (ux o):=by
 refine⟨λV w=>?_,?_⟩;.rw[ZDa V h];try rfl
 .have s:ux o≠[]:=by
   rcases Zx h with k|k|k|k
   .obtain⟨e,hn⟩:=tR h k.1;rw[e];obtain⟨m,hm⟩:∃m:Nat,G o.n=m+1:=⟨G o.n-1,O⟩;grind
   .rw[iP (.inl k)];have:o.l≠[]:=by rcases h with h|h|h<;>first|exact h.2.2|exact h.2.1|omega|simp_all
    simpa using this
   .rw[iP (.inr k)];have:o.l≠[]:=by rcases h with h|h|h<;>first|exact h.2.2|exact h.2.1|omega|simp_all
    simpa using this
   .rw[(nd h k).1];simp
  unfold C_;obtain⟨x,r,e⟩:=List.exists_cons_of_ne_nil s;have hk:∀y∈ux o,y.D=o.D:=λy hy=>yB hy;grind
theorem Zjf{a b}(h:Zd a=Zd b)(k:a.D=0↔b.D=0):eZ [jP a] [jP b]:=by
 unfold jP;by_cases ka:a.D=0;.rw[Q5 ka,Q5 (k.1 ka)];exact .refl _
 .rw[Q0 ka,Q0 λx=>ka (k.2 x)];refine⟨λV w=>?_,rfl⟩;show j9 V _ w=j9 V _ w;exact Zst h w
theorem ZrJ(g):∀m,(∀y∈m,y.p.D=1/\y.q.D=1)->oQ g m=⟨[],[],I,!kf (Z6 (m.map λy=>y.p.t)) (Z6 (m.map λy=>y.q.t))⟩
 |[],_=>by rw[(Yz (a:=Z6 ([].map λy:bK=>y.p.t)) (b:=Z6 ([].map λy:bK=>y.q.t))).2 rfl];try rfl|x::r,h=>by
  have h0:=h x Q6;rw[oQ,ZrJ g r λz s=>h z (Q4 _ s)];have e:J6 g x.p x.q=⟨[],[],I,!ZW (Z2 x.p.t) (Z2 x.q.t)⟩:=by unfold J6;grind
  rw[e];have L:kf (Z6 ((x::r).map λy=>y.p.t)) (Z6 ((x::r).map λy=>y.q.t))=(ZW (Z2 x.p.t) (Z2 x.q.t)&&kf (Z6 (r.map λy=>y.p.t)) (Z6 (r.map λy=>y.q.t))):=by rw[QA,Q9,Yz,Yz,Yh];simp[Z6]
  rw[L,Bool.not_and];try rfl
theorem ZAj{f g}{x:cm}{m}(hm:m≠[])(p1:ZH x.p)(p2:Z4 x.p=J m)(p3:o9 x.p 2 (m.map bK.p))(q1:ZH x.q)(q2:Z4 x.q=J m)(q3:o9 x.q 2 (m.map bK.q))(b1:x.p.D≠2)(b2:x.q.D≠2)(hf:x.p.D=3->x.q.D=3->fQ (f x.p.e x.q.e) (g x.p.e x.q.e)):fW (ZS f x.p x.q) (oQ g m):=by
 have up:=pD p3;have uq:=pD q3;rw[QP]at up uq;have kp:∀y∈m,y.p.D=x.p.D:=λy s=>by
  have:cP y.p∈ux x.p:=by rw[<-up];exact Xd (f:=cP∘bK.p) s
  rw[<-Ju];exact yB this
 have kq:∀y∈m,y.q.D=x.q.D:=λy s=>by
  have:cP y.q∈ux x.q:=by rw[<-uq];exact Xd (f:=cP∘bK.q) s
  rw[<-Ju];exact yB this
 have au:1<=J m:=by cases m with|nil=>exact absurd rfl hm|cons _ _=>simp
 have ht:Y=Y:=rfl;have af:J m<=1048576->eZ [⟨0,( J m:Int),[],W.nil⟩] (m.map λ_=>(⟨0,1,[],W.nil⟩:Op)):=by
  intro hb;have hk:ZH (⟨0,( J m:Int),[],W.nil⟩:Op):=.inl ⟨rfl,rfl,by grind⟩;have:=Dt hk;rw[(tR hk rfl).1]at this;rw[List.map_const'];simpa using this
 by_cases c1:x.p.D=0/\x.q.D=1
 .rw[Ch g (λy=>cP y.p) (λy=>cP y.q) I Y m λy s=>?_]
  .unfold ZS;rw[Q5 c1];refine⟨rfl,λ_=>rfl,λ_ _=>.refl _,λ_ _=>?_⟩;dsimp only;rw[Q5 rfl,show(m.map λy=>cP y.q)=ux x.q from uq];exact Dt q1
  .unfold J6;grind
 by_cases c2:x.p.D=1/\x.q.D=0
 .rw[Ch g (λy=>cP y.p) (λy=>cP y.q) Y I m λy s=>?_]
  .unfold ZS;rw[Q0 c1,Q5 c2];refine⟨rfl,λ_=>rfl,λ_ _=>?_,λ_ _=>.refl _⟩;dsimp only;rw[Q5 rfl,show(m.map λy=>cP y.p)=ux x.p from up];exact Dt p1
  .have h1:=kp y s;have h2:=kq y s;unfold J6;grind
 by_cases c3:x.p.D=0
 .rw[Ch g (λ_=>⟨0,1,[],W.nil⟩) (λy=>cP y.q) Y Y m λy s=>?_]
  .have hl:(if x.q.n<1 then 1 else x.q.n)=( J m:Int):=by
    rcases Zx q1 with k|k|k|k;.have:=rL q1 k.1;omega
    .omega
    .omega
    .have:=Yk k;have hn:x.q.n=0:=by rcases q1 with h|h|h<;>first|exact h.2.1|omega
     omega
   unfold ZS;rw[Q0 c1,Q0 c2,Q5 c3,hl];refine⟨rfl,λ_=>rfl,λ_ _=>?_,λ_ _=>?_⟩;.refine af ?_;have:=rL p1 c3;rcases p1 with h|h|h<;>omega
   .dsimp only;rw[Q5 rfl,show(m.map λy=>cP y.q)=ux x.q from uq];exact Dt q1
  .have h1:=kp y s;have h2:=kq y s;unfold J6;grind
 have a3:x.p.D=1\/x.p.D=3:=by rcases Zx p1 with k|k|k|k<;>omega
 by_cases c4:x.q.D=0
 .have am:x.p.D=3:=O;have h1:J m=1:=by have:=Yk am;omega
  rw[Ch g (λy=>cP y.p) (λ_=>⟨0,1,[],W.nil⟩) Y Y m λy s=>?_]
  .unfold ZS;rw[Q0 c1,Q0 c2,Q0 c3,Q5 c4];refine⟨rfl,λ_=>rfl,λ_ _=>?_,λ_ _=>?_⟩;.dsimp only;rw[Q5 rfl,show(m.map λy=>cP y.p)=ux x.p from up];exact Dt p1
   grind
  .have h1:=kp y s;have h2:=kq y s;unfold J6;grind
 have a4:x.q.D=1\/x.q.D=3:=by rcases Zx q1 with k|k|k|k<;>omega
 by_cases c5:x.p.D=1/\x.q.D=1
 .have t1:=(nW (k:=1) (.inl rfl) (l:=x.p.l) (m:=m.map bK.p) (by rw[QP,up,iP (.inl c5.1),c5.1])).1;have t2:=(nW (k:=1) (.inl rfl) (l:=x.q.l) (m:=m.map bK.q) (by rw[QP,uq,iP (.inl c5.2),c5.2])).1;rw[QP]at t1 t2;rw[ZrJ g m λy s=>⟨by grind,by grind⟩];unfold ZS gw;rw[Q0 c1,Q0 c2,Q0 c3,Q0 c4,Q5 c5,t1,t2];exact .refl _
 have ao:J m=1:=by
  have:Z4 x.p=1\/Z4 x.q=1:=by
   by_cases h:x.p.D=3;.exact .inl (Yk h)
   .exact .inr (Yk O)
  omega
 obtain⟨y,rfl⟩:∃y,m=[y]:=by match m,ao with|[y],_=>grind
 have ky:=kp y Q6;have kz:=kq y Q6;have er:∀{z:bJ}{o:Op},ZH o->o.D=3->[cP z]=ux o->z.e=o.e:=by
  intro z o ho hk he;rw[(nd ho hk).1]at he;have hz:z.D=3:=by rw[<-Ju,(List.cons.inj he).1]
  have h:=(List.cons.inj he).1;unfold cP at h;rw[Q0 O,Q5 hz]at h;injection h
 have tr:∀{z:bJ}{o:Op},o.D=1->[cP z]=ux o->o.l=[z.t]:=by intro z o hk he;rw[iP (.inl hk),hk]at he;simpa using(nW (k:=1) (.inl rfl) (l:=o.l) (m:=[z]) (by simpa using he)).1
 rw[oQ,oQ,PL.jD];simp only[Qu,QG,Function.comp]at up uq;have hu:J6 g y.p y.q=if x.p.D=1 then⟨[],[],Y,!(bX Y y.q.e y.p.t).isSome⟩else if x.q.D=1 then⟨[],[],Y,!(bX Y y.p.e y.q.t).isSome⟩else⟨[jP (g y.p.e y.q.e).x],[jP (g y.p.e y.q.e).y],(g y.p.e y.q.e).c,(g y.p.e y.q.e).a⟩:=by unfold J6;grind
 rw[hu];unfold ZS;rw[Q0 c1,Q0 c2,Q0 c3,Q0 c4,Q0 c5];by_cases c6:x.p.D=1;.rw[Q5 c6,Q5 c6,tr c6 up,er q1 O uq,pr,XD];exact .refl _
 by_cases c7:x.q.D=1;.rw[Q0 c6,Q5 c7,Q0 c6,Q5 c7,tr c7 uq,er p1 O up,pr,XD];exact .refl _
 .rw[Q0 c6,Q0 c7,Q0 c6,Q0 c7,er p1 O up,er q1 O uq];have h:=hf O O;exact⟨h.a,h.c,λe e2=>Zjf (h.x e e2).1 (h.x e e2).2,λe e2=>Zjf (h.y e e2).1 (h.y e e2).2⟩
theorem ZNN(g):∀m1 s(a b:List H),(∀y∈m1,y.of=1)->g9 g (m1++s) a b=g9 g s (a++m1.map λy=>y.p.t) b|[],s,a,b,_=>by simp|x::r,s,a,b,h=>by rw[Qw,g9,Q5 (h x Q6),ZNN g r s _ b λy hy=>h y (Q4 _ hy)];simp
theorem ZNM(g):∀m1 s(a b:List H),(∀y∈m1,y.of=2)->g9 g (m1++s) a b=g9 g s a (b++m1.map λy=>y.q.t)|[],s,a,b,_=>by simp|x::r,s,a,b,h=>by have h0:=h x Q6;rw[Qw,g9,Q0 O,Q5 h0,ZNM g r s a _ λy hy=>h y (Q4 _ hy)];simp
theorem Zsg{f g p0 q0}:∀{ps m},xb 2 ps m->(∀x∈ps,my p0 q0 x)->(∀x∈ps,x.of=0->x.p.D=3->x.q.D=3->fQ (f x.p.e x.q.e) (g x.p.e x.q.e))->∀a b,fW (j6 f ps a b) (g9 g m a b)
 |[],m,h,_,_,a,b=>by have h:m=[]:=h;subst h;exact .refl _|x::r,m,h,hok,hf,a,b=>by
  rw[zc]at h;obtain⟨m1,m2,rfl,hm,⟨az,_,ha,hp,hq⟩,hr⟩:=h;have ih:=Zsg hr (λy s=>hok y (Q4 _ s)) λy s=>hf y (Q4 _ s);have hx:=hok x Q6;rw[j6];by_cases c1:x.of=1
  .have k:=hx.cE c1;have up:=pD (hp O).2.2.2;have t1:=(nW (k:=2) (.inr rfl) (l:=x.p.l) (m:=m1.map bK.p) (by rw[up,iP (.inr k),k])).1;rw[QP]at t1;rw[Q5 c1,ZNN g m1 m2 a b λy s=>by grind,t1];exact ih _ _
  by_cases c2:x.of=2;.have k:=hx.qP c2;have uq:=pD (hq O).2.2.2;have t1:=(nW (k:=2) (.inr rfl) (l:=x.q.l) (m:=m1.map bK.q) (by rw[uq,iP (.inr k),k])).1;rw[QP]at t1;rw[Q0 c1,Q5 c2,ZNM g m1 m2 a b λy s=>by grind,t1];exact ih _ _
  have c0:x.of=0:=O;rw[Q0 c1,Q0 c2,Zyb g m1 m2 a b λy s=>by grind hm];obtain⟨p1,_,p2,p3⟩:=hp O;obtain⟨q1,_,q2,q3⟩:=hq O;exact((fW.refl _).dw (ZAj hm p1 p2 p3 q1 q2 q3 (hx.dF c0).1 (hx.dF c0).2.1 (hf x Q6 c0))).dw (ih _ _)
theorem Zvw{f g p q}(hl:p.V=q.V)(hp:lR p.ops)(hq:lR q.ops)(hf:∀a b,dB p.ops a->dB q.ops b->a.D=3->b.D=3->fQ (f a.e b.e) (g a.e b.e)):fQ (k8 f p q) (n6 g p q):=by obtain⟨ok,l,m,e1,e2,e3,e4⟩:=Zko 2 (.inr rfl) _ p.ops q.ops [] (Zn 0 2 p.ops) (Zn 0 2 q.ops) [] (Qa _) hp hq (xr 2 p.ops 0) (xr 2 q.ops 0);obtain⟨i1,_⟩:=Pr _ p.ops q.ops [] (Qa _) (λo ho=>(hp o ho).1) λo ho=>(hq o ho).1;unfold k8 n6;dsimp only;rw[e2,e3];cases ok with|false=>rw[Q0 V1,Q0 (by simp)];exact⟨rfl,λh=>(by cases h),λh=>(by cases h),λh=>by cases h⟩|true=>obtain⟨ps,e,s,_,_⟩:=i1 e2;rw[e1,Q5 rfl]at e;simp only[Qn]at e;subst e;rw[Q5 rfl,Q5 ⟨rfl,hl⟩,e1];simp only[Xa,Qn];exact ZGk (Zsg (e4 rfl).1 s (λx hx h0 h1 h2=>hf x.p x.q ((s x hx).pp O).1 ((s x hx).qq O).1 h1 h2) [] [])
section
variable{α:Type}{S:α->Int}
theorem ZvH{q n}(h:∀b∈q,S b≠n):jU S q n=aT:=by
 unfold jU;have:∀(l:List α)(o:Option α),(∀b∈l,S b≠n)->l.foldl (λo b=>if S b=n then A b else o) o=o:=by intro l;induction l with|nil=>simp|cons x r ih=>grind
 grind
theorem ZvG{b q n}(h:S b≠n):jU S (b::q) n=jU S q n:=by unfold jU;grind
theorem ZvI{b q}(h:∀c∈q,S c≠S b):jU S (b::q) (S b)=A b:=by
 unfold jU;rw[K0,Q5 rfl];have:∀(l:List α)(o:Option α),(∀c∈l,S c≠S b)->l.foldl (λo c=>if S c=S b then A c else o) o=o:=by intro l;induction l with|nil=>simp|cons x r ih=>grind
 grind
theorem uS{f q a}(h:∀b∈q,S b≠S a):YP S f q a=a:=by unfold YP;rw[ZvH h]
theorem Ztk{f b q a}(h:S b≠S a):YP S f (b::q) a=YP S f q a:=by unfold YP;rw[ZvG h]
theorem Ia{f b q a}(e:S a=S b)(h:∀c∈q,S c≠S b):YP S f (b::q) a=f a b:=by unfold YP;rw[e,ZvI h]
theorem w9{g a p q}(h:∀b∈q,S a≠S b):YS S g (a::p) q=YS S g p q:=by unfold YS;grind
theorem E7{g b p q}(h:∀a∈p,S a≠S b):YS S g p (b::q)=YS S g p q:=by unfold YS;grind
theorem MI{g a b p q}(e:S a=S b)(s:∀c∈q,S a≠S c)(h:∀c∈p,S c≠S b):YS S g (a::p) (b::q)=(g a b||YS S g p q):=by have h1:YS S g (a::p) (b::q)=((b::q).any (λb=>decide (S a=S b)&&g a b)||YS S g p (b::q)):=rfl;rw[h1,E7 h,List.any_cons,List.any_eq_false.2 λc L=>by simp[s c L],QV];simp[e]
end
theorem AA{p q p' q'}:∀{l},(∀n∈l,JZ p n=JZ p' n/\JZ q n=JZ q' n)->YX p q l=YX p' q' l|[],_=>rfl|n::r,h=>by rw[YX,YX,(h n Q6).1,(h n Q6).2,AA λm s=>h m (Q4 _ s)]
theorem u_{α S s}{l:List α}(h:dM S s l){n}(hn:n<=s):∀b∈l,S b≠n:=λb hb=>by have:=lf h b hb;omega
noncomputable def p9(p q:List aV):List aV:=(p.map (YP aV.S jy q)).filter λw=>!decide (w.a_=0)
theorem Ag(a)(p q):p9 (a::p) q=(if(YP aV.S jy q a).a_=0 then[]else[YP aV.S jy q a])++p9 p q:=by unfold p9;grind
theorem I2{p q b}(h:∀a∈p,a.S≠b.S):p9 p (b::q)=p9 p q:=by unfold p9;rw[Xz λa s=>Ztk (S:=aV.S) (f:=jy) (b:=b) (q:=q) (a:=a) (Ne.symm (h a s))]
theorem Zuy:∀k(p q:List aV)s,J p+J q<=k->dM aV.S s p->dM aV.S s q->(∀w∈p,w.a_≠0)->(∀w∈q,w.a_≠0)->YX p q (Y7 (p.map aV.S) (q.map aV.S))=(p9 p q,p9 q p,YS aV.S jH p q,YS aV.S YB p q):=by
 intro k;induction k with
 |zero=>intro p q s hk hp hq _ _;have e1:p=[]:=Q7 O;have e2:q=[]:=Q7 O;subst e1 e2;rw[QG,Y7];try rfl|succ k ih=>
  intro p q s hk hp hq mp mq;match p,q with
  |[],[]=>rw[QG,Y7];try rfl|[],b::q=>
   have hb:dM aV.S b.S q:=hq.2;simp only[Qd]at hk;rw[QG,Y7,Qu,YX,qt,show JZ [] b.S=aT from rfl];dsimp only;rw[AA (p':=[]) (q':=q) λn h=>⟨rfl,pQ (lf (Yb hb) n h) q⟩];have:=ih [] q b.S (by simp only[Ql];omega) trivial hb mp λw hw=>mq w (Q4 _ hw);rw[QG,Y7]at this;rw[this,Ag,uS (λc L=>by cases L),Q0 (mq b Q6)];try rfl|a::p,[]=>
   have ha:dM aV.S a.S p:=hp.2;simp only[Qd]at hk;rw[QG,qv,Qu,YX,qt,show JZ [] a.S=aT from rfl];dsimp only;rw[AA (p':=p) (q':=[]) λn h=>⟨pQ (lf (Yb ha) n h) p,rfl⟩];have:=ih p [] a.S (by simp only[Ql];omega) ha trivial (λw hw=>mp w (Q4 _ hw)) mq;rw[QG,qv]at this;rw[this,Ag,uS (λc L=>by cases L),Q0 (mp a Q6),w9 (λc L=>by cases L),w9 λc L=>by cases L];try rfl|a::p,b::q=>
   simp only[Qd]at hk;have al:=λw hw=>mp w (Q4 _ hw);have aj:=λw hw=>mq w (Q4 _ hw);rw[Qu,Qu,Y7];by_cases h1:a.S<b.S
   .rw[Q5 h1,YX,qt,Nz (Qz _) (l:=b::q) ⟨h1,hq.2⟩];dsimp only;have hb:dM aV.S a.S (b::q):=⟨h1,hq.2⟩;rw[show b.S::q.map aV.S=(b::q).map aV.S from rfl];rw[AA (p':=p) (q':=b::q) λn h=>⟨pQ (qx _ _ _ a.S (Qa _) (Yb hp.2) (Yb hb) n h) p,rfl⟩];have h:=u_ hb (Qz _);rw[ih p (b::q) a.S (by simp only[Qd];omega) hp.2 hb al mq,Ag a,uS h,Q0 (mp a Q6),w9 λc L=>(h c L).symm,w9 λc L=>(h c L).symm,I2 h];try rfl
   .rw[Q0 h1];by_cases h2:b.S<a.S;.rw[Q5 h2,YX,qt,Nz (Qz _) (l:=a::p) ⟨h2,hp.2⟩];dsimp only;have ha:dM aV.S b.S (a::p):=⟨h2,hp.2⟩;rw[show a.S::p.map aV.S=(a::p).map aV.S from rfl];rw[AA (p':=a::p) (q':=q) λn h=>⟨rfl,pQ (qx _ _ _ b.S (Qa _) (Yb ha) (Yb hq.2) n h) q⟩];have h:=u_ ha (Qz _);rw[ih (a::p) q b.S (by simp only[Qd];omega) ha hq.2 mp aj,Ag b,uS h,Q0 (mq b Q6),E7 h,E7 h,I2 h];try rfl
    .rw[Q0 h2,YX];have e:a.S=b.S:=O;have ak:dM aV.S a.S q:=by rw[e];exact hq.2
     have np:=u_ hp.2 (Qz _);have nq:=u_ hq.2 (Qz _);have e1:=qt b q;rw[<-e]at e1;rw[qt,e1];dsimp only;rw[AA (p':=p) (q':=q) λn h=>by have:=qx _ _ _ a.S (Qa _) (Yb hp.2) (Yb ak) n h;exact⟨pQ this p,pQ O q⟩];rw[ih p q a.S O hp.2 ak al aj,Ag a,Ag b,Ia e nq,Ia e.symm np,MI e (λc L=>by rw[e];exact(nq c L).symm) λc L=>by rw[<-e];exact np c L,MI e (λc L=>by rw[e];exact(nq c L).symm) λc L=>by rw[<-e];exact np c L,I2 λc L=>by rw[<-e];exact np c L,I2 λc L=>by rw[e];exact nq c L];try rfl
end Go.AM.YtpjenobkibfpcaaGreat
namespace Go.AM.YtpjenobkibfpcaaGreat
open Go.AM Go.Proofs
theorem C1{g p q p' q'}:∀{l},(∀n∈l,Yc p n=Yc p' n/\Yc q n=Yc q' n)->JA g p q l=JA g p' q' l|[],_=>rfl|n::r,h=>by rw[JA,JA,(h n Q6).1,(h n Q6).2,C1 λm s=>h m (Q4 _ s)]
noncomputable def YZ(h:W->W->W)(p q:List bP):List bP:=(p.map (YP aW.S (λa b=>⟨a.S,h a.e b.e⟩) q)).filter λk=>!decide (k.e.D=0)
theorem uQ(h)(a)(p q):YZ h (a::p) q=iX a.S (YP aW.S (λa b=>⟨a.S,h a.e b.e⟩) q a).e++YZ h p q:=by
 have s:(YP aW.S (λa b=>(⟨a.S,h a.e b.e⟩:bP)) q a).S=a.S:=by unfold YP;split<;>rfl
 unfold YZ iX;rw[Qu,KP];generalize YP aW.S (λa b=>(⟨a.S,h a.e b.e⟩:bP)) q a=k at s;obtain⟨x,y⟩:=k;grind
theorem LF{h p q b}(s:∀a∈p,a.S≠b.S):YZ h p (b::q)=YZ h p q:=by unfold YZ;rw[Xz λa ha=>Ztk (S:=aW.S) (f:=λa b=>(⟨a.S,h a.e b.e⟩:bP)) (b:=b) (q:=q) (a:=a) (Ne.symm (s a ha))]
theorem BD{n e}(h:e.D≠0):iX n e=[⟨n,e⟩]:=by unfold iX;rw[if_neg h]
theorem Br(n):iX n W.nil=[]:=by rfl
theorem Zuz{g}(gl:∀e,g e W.nil=⟨e,W.nil,I,I⟩)(gr:∀e,g W.nil e=⟨W.nil,e,I,I⟩):∀k(p q:List bP)s,J p+J q<=k->dM aW.S s p->dM aW.S s q->JA g p q (Y7 (p.map aW.S) (q.map aW.S))=(YZ (λx y=>(g x y).x) p q,YZ (λx y=>(g y x).y) q p,YS aW.S (λa b=>(g a.e b.e).c) p q,YS aW.S (λa b=>(g a.e b.e).a) p q):=by intro k;induction k with
 |zero=>
  intro p q s hk hp hq;have e1:p=[]:=Q7 O;have e2:q=[]:=Q7 O;subst e1 e2;rw[QG,Y7];try rfl|succ k ih=>
  intro p q s hk hp hq;match p,q with
  |[],[]=>rw[QG,Y7];try rfl|[],b::q=>
   have hb:dM aW.S b.S q:=hq.2;simp only[Qd]at hk;rw[QG,Y7,Qu,JA,pe,show Yc [] b.S=W.nil from rfl,gr];dsimp only;rw[C1 (p':=[]) (q':=q) λn h=>⟨rfl,pH (lf (Yb hb) n h) q⟩];have:=ih [] q b.S (by simp only[Ql];omega) trivial hb;rw[QG,Y7]at this;rw[this,uQ,uS (λc L=>by cases L),Br];try rfl|a::p,[]=>
   have ha:dM aW.S a.S p:=hp.2;simp only[Qd]at hk;rw[QG,qv,Qu,JA,pe,show Yc [] a.S=W.nil from rfl,gl];dsimp only;rw[C1 (p':=p) (q':=[]) λn h=>⟨pH (lf (Yb ha) n h) p,rfl⟩];have:=ih p [] a.S (by simp only[Ql];omega) ha trivial;rw[QG,qv]at this;rw[this,uQ,uS (λc L=>by cases L),w9 (λc L=>by cases L),w9 (λc L=>by cases L),Br];try rfl|a::p,b::q=>
   simp only[Qd]at hk;rw[Qu,Qu,Y7];by_cases h1:a.S<b.S
   .rw[Q5 h1,JA,pe,Fy (Qz _) (l:=b::q) ⟨h1,hq.2⟩,gl];dsimp only;have hb:dM aW.S a.S (b::q):=⟨h1,hq.2⟩;rw[show b.S::q.map aW.S=(b::q).map aW.S from rfl];rw[C1 (p':=p) (q':=b::q) λn h=>⟨pH (qx _ _ _ a.S (Qa _) (Yb hp.2) (Yb hb) n h) p,rfl⟩];have h:=u_ hb (Qz _);rw[ih p (b::q) a.S (by simp only[Qd];omega) hp.2 hb,uQ _ a,uS h,w9 λc L=>(h c L).symm,w9 λc L=>(h c L).symm,LF h,Br];try rfl
   .rw[Q0 h1];by_cases h2:b.S<a.S;.rw[Q5 h2,JA,pe,Fy (Qz _) (l:=a::p) ⟨h2,hp.2⟩,gr];dsimp only;have ha:dM aW.S b.S (a::p):=⟨h2,hp.2⟩;rw[show a.S::p.map aW.S=(a::p).map aW.S from rfl];rw[C1 (p':=a::p) (q':=q) λn h=>⟨rfl,pH (qx _ _ _ b.S (Qa _) (Yb ha) (Yb hq.2) n h) q⟩];have h:=u_ ha (Qz _);rw[ih (a::p) q b.S (by simp only[Qd];omega) ha hq.2,uQ _ b,uS h,E7 h,E7 h,LF h,Br];try rfl
    .rw[Q0 h2,JA];have e:a.S=b.S:=O;have ah:dM aW.S a.S q:=by rw[e];exact hq.2
     have np:=u_ hp.2 (Qz _);have nq:=u_ hq.2 (Qz _);have e1:=pe b q;rw[<-e]at e1;rw[pe,e1];rw[C1 (p':=p) (q':=q) λn h=>by have:=qx _ _ _ a.S (Qa _) (Yb hp.2) (Yb ah) n h;exact⟨pH this p,pH O q⟩];rw[ih p q a.S O hp.2 ah,uQ _ a,uQ _ b,Ia e nq,Ia e.symm np,MI e (λc L=>by rw[e];exact(nq c L).symm) λc L=>by rw[<-e];exact np c L,MI e (λc L=>by rw[e];exact(nq c L).symm) λc L=>by rw[<-e];exact np c L,LF λc L=>by rw[<-e];exact np c L,LF λc L=>by rw[e];exact nq c L,<-e]
theorem ZPr(f)(p q):(jx f p q).x=lS (p9 p.aS q.aS) (YZ (λx y=>(f x y).x) p.X q.X):=rfl
theorem ZPq(f)(p q):(jx f p q).y=lS (p9 q.aS p.aS) (YZ (λx y=>(f y x).y) q.X p.X):=rfl
theorem Zrw{g}(gl:∀e,g e W.nil=⟨e,W.nil,I,I⟩)(gr:∀e,g W.nil e=⟨W.nil,e,I,I⟩){p q u v}(hp:dM aV.S u p.aS)(hq:dM aV.S u q.aS)(mp:∀w∈p.aS,w.a_≠0)(s:∀w∈q.aS,w.a_≠0)(h:dM aW.S v p.X)(kq:dM aW.S v q.X):l6 g p q=⟨lS (p9 p.aS q.aS) (YZ (λx y=>(g x y).x) p.X q.X),lS (p9 q.aS p.aS) (YZ (λx y=>(g y x).y) q.X p.X),YS aV.S jH p.aS q.aS||YS aW.S (λa b=>(g a.e b.e).c) p.X q.X,YS aV.S YB p.aS q.aS||YS aW.S (λa b=>(g a.e b.e).a) p.X q.X⟩:=by unfold l6;dsimp only;rw[Zuy _ _ _ _ (Qa _) hp hq mp s,Zuz gl gr _ _ _ _ (Qa _) h kq]
inductive dV:List bP->List bP->Prop|nil:dV [] []|cons{n:Int}{a b:W}{p q:List bP}:Zd a=Zd b->dV p q->dV (⟨n,a⟩::p) (⟨n,b⟩::q)
theorem dV.len{p q}(h:dV p q):J p=J q:=by induction h with|nil=>rfl|cons _ _ ih=>simp[ih]
theorem dV.Wb{p q}(h:dV p q):Jo p=Jo q:=by induction h with|nil=>rfl|cons h _ ih=>simp only[Jo,lF,h,ih]
theorem Zjd{w a b}(h:dV a b):Zd (lS w a)=Zd (lS w b)/\((lS w a).D=0↔(lS w b).D=0):=by
 unfold lS;rw[h.len];split;.grind
 .exact⟨by simp only[Zd,h.Wb],QH⟩
theorem dV.refl:∀p,dV p p|[]=>.nil|⟨_,_⟩::r=>.cons rfl (.refl r)
theorem dV.dw{a b c d}(h:dV a b)(k:dV c d):dV (a++c) (b++d):=by induction h with|nil=>exact k|cons h _ ih=>exact .cons h ih
theorem ZrB{n a b}(h:Zd a=Zd b)(k:a.D=0↔b.D=0):dV (iX n a) (iX n b):=by
 by_cases c:a.D=0;.rw[show iX n a=[]from Q5 c,show iX n b=[]from Q5 (k.1 c)];exact .nil
 .rw[show iX n a=[⟨n,a⟩]from Q0 c,show iX n b=[⟨n,b⟩]from Q0 λx=>c (k.2 x)];exact .cons h .nil
theorem ZsX{α:Type}{S:α->Int}{n}:∀{q:List α}{o b},q.foldl (λo b=>if S b=n then A b else o) o=A b->b∈q/\S b=n\/o=A b
 |[],o,b,h=>.inr h|x::r,o,b,h=>by
  rw[K0]at h;rcases ZsX h with h|h;.exact .inl ⟨Q4 _ h.1,h.2⟩
  .by_cases c:S x=n;.rw[Q5 c]at h;injection h with h;subst h;exact .inl ⟨Q6,c⟩
   .rw[Q0 c]at h;exact .inr h
theorem TN{h s q}:∀{p},(∀a∈p,∀b∈q,b.S=a.S->Zd (h a.e b.e)=Zd (s a.e b.e)/\((h a.e b.e).D=0↔(s a.e b.e).D=0))->dV (YZ h p q) (YZ s p q)
 |[],_=>.nil|a::p,hh=>by
  rw[uQ,uQ];refine dV.dw ?_ (TN λx hx=>hh x (Q4 _ hx));unfold YP;cases hl:jU aW.S q a.S with
  |none=>exact .refl _|some b=>
   rcases ZsX hl with hb|hb;.have:=hh a Q6 b hb.1 hb.2;exact ZrB this.1 this.2
   .cases hb
theorem TQ{α S g g'}{p q:List α}(h:∀a∈p,∀b∈q,S a=S b->g a b=g' a b):YS S g p q=YS S g' p q:=by unfold YS;grind
theorem PF{α S g p q}(h:YS S g p q=I){a b:α}(s:a∈p)(hb:b∈q)(e:S a=S b):g a b=I:=by unfold YS at h;grind
theorem ZDw{f g}(gl:∀e,g e W.nil=⟨e,W.nil,I,I⟩)(gr:∀e,g W.nil e=⟨W.nil,e,I,I⟩){p q u v}(hp:dM aV.S u p.aS)(hq:dM aV.S u q.aS)(mp:∀w∈p.aS,w.a_≠0)(mq:∀w∈q.aS,w.a_≠0)(kp:dM aW.S v p.X)(kq:dM aW.S v q.X)(hf:∀a∈p.X,∀b∈q.X,a.S=b.S->fQ (f a.e b.e) (g a.e b.e)):fQ (jx f p q) (l6 g p q):=by
 rw[Zrw gl gr hp hq mp mq kp kq];have ea:(jx f p q).a=(YS aV.S YB p.aS q.aS||YS aW.S (λa b=>(g a.e b.e).a) p.X q.X):=by
  show(_||_)=_;rw[TQ (g':=λa b=>(g a.e b.e).a) λa s b hb e=>(hf a s b hb e).a]
 have sp:(jx f p q).a=I->YS aV.S YB p.aS q.aS=I/\∀a∈p.X,∀b∈q.X,a.S=b.S->(f a.e b.e).a=I:=by intro h;have h:(YS aV.S YB p.aS q.aS||YS aW.S (λa b=>(f a.e b.e).a) p.X q.X)=I:=h;rw[QJ]at h;exact⟨h.1,λa s b hb e=>PF h.2 s hb e⟩
 have sc:(jx f p q).c=I->∀a∈p.X,∀b∈q.X,a.S=b.S->(f a.e b.e).c=I:=by intro h;have h:(YS aV.S (λa b=>!YB a b&&jH a b) p.aS q.aS||YS aW.S (λa b=>(f a.e b.e).c) p.X q.X)=I:=h;rw[QJ]at h;exact λa s b hb e=>PF h.2 s hb e
 refine⟨ea,λh=>?_,λh h2=>?_,λh h2=>?_⟩;.obtain⟨h1,h3⟩:=sp h;show(YS aV.S (λa b=>!YB a b&&jH a b) p.aS q.aS||YS aW.S (λa b=>(f a.e b.e).c) p.X q.X)=_;rw[TQ (S:=aV.S) (g':=jH) λa s b hb e=>by rw[PF h1 s hb e];rfl,TQ (S:=aW.S) (g':=λa b=>(g a.e b.e).c) λa s b hb e=>(hf a s b hb e).c (h3 a s b hb e)]
 .rw[ZPr];exact Zjd (TN λa s b hb e=>(hf a s b hb e.symm).x ((sp h).2 a s b hb e.symm) (sc h2 a s b hb e.symm))
 .rw[ZPq];exact Zjd (TN λb hb a s e=>(hf a s b hb e).y ((sp h).2 a s b hb e) (sc h2 a s b hb e))
theorem PO(n)(e):kQ (n+1) e W.nil=⟨e,W.nil,I,I⟩:=by show nh (kQ n) e W.nil=_;unfold nh;exact Q5 (.inr rfl)
theorem Ts(n)(e):kQ (n+1) W.nil e=⟨W.nil,e,I,I⟩:=by try rfl
theorem fQ.refl(s):fQ s s:=⟨rfl,λ_=>rfl,λ_ _=>⟨rfl,QH⟩,λ_ _=>⟨rfl,QH⟩⟩
theorem ZtO{f g p q}(s:p.X=[])(h:q.X=[]):l6 f p q=l6 g p q:=by unfold l6;rw[s,h,QG,Y7];try rfl
theorem ZyW:∀n(p q:W)d d',Z1 p+Z1 q<=n->n<=18000000000->Z3 p d=Y->Z3 q d'=Y->fQ (kP n p q) (kQ n p q):=by intro n;induction n with
 |zero=>intro p q d d' h;obtain⟨k,o,nw,w,ks,l,os⟩:=p;simp only[Z1]at h;omega|succ n ih=>
  intro p q d d' hn hN hp hq;have rp:=Zc hp;have s:=Zc hq;show fQ (Jp (kP n) p q) (nh (kQ n) p q);unfold Jp nh;by_cases h0:p.D=0\/q.D=0;.rw[Q5 h0,Q5 h0];exact .refl _
  rw[Q0 h0,Q0 h0];by_cases p1:p.D=1;.rw[Q5 p1,Q5 p1,ZiS];exact .refl _
  rw[Q0 p1,Q0 p1];by_cases q1:q.D=1;.rw[Q5 q1,Q5 q1,ZiS];exact .refl _
  rw[Q0 q1,Q0 q1];by_cases hk:p.D=q.D
  .by_cases p2:p.D=2
   .have l1:=(rp.iy O).1;have l2:=(s.iy O).1;rw[Q0 O,Q0 (show¬p.D≠q.D by omega),Q5 p2,Q5 p2];have ai:∀a∈p.X,∀b∈q.X,a.S=b.S->fQ (kP n a.e b.e) (kQ n a.e b.e):=λa ha b hb _=>by have:=ZA ha;have:=ZA hb;exact ih a.e b.e _ _ O O (Zl rp.X a ha).2 (Zl s.X b hb).2
    have am:∀m:Nat,(∀a∈p.X,∀b∈q.X,a.S=b.S->fQ (kP n a.e b.e) (kQ (m+1) a.e b.e))->fQ (jx (kP n) p q) (l6 (kQ (m+1)) p q):=λm hh=>ZDw (PO m) (Ts m) (YJ rp.aS) (YJ s.aS) (λw hw=>(Yd rp.aS w hw).2.2.1) (λw hw=>(Yd s.aS w hw).2.2.1) (Jh rp.X) (Jh s.X) hh;cases n with
    |succ m=>grind|zero=>
     have aT:∀(e:W),Z1 e<=1->e.X=[]:=λe he=>by cases hks:e.X with|nil=>rfl|cons k r=>have:=ZA (e:=e) (k:=k) (by grind);obtain⟨_,⟨k,o,nw,w,ks,l,os⟩⟩:=k;simp only[Z1]at this;omega
     have e1:=aT p O;have e2:=aT q O;rw[ZtO (g:=kQ 1) e1 e2];grind
   .have au:p.D=3:=by have:=rp.D;omega
    have ar:q.D=3:=O;rw[Q0 (show¬p.D≠q.D by omega),Q0 p2];have ok:∀(e:W)(d:Int),Z3 e d=Y->Z1 e<=18000000000->lR e.ops:=λe d h hm o ho=>by refine⟨Zr h o ho,?_⟩;obtain⟨kk,ol,nn,w,ks,l,os⟩:=e;have:=Dr (os:=os) ho;simp only[Z1]at hm;omega
    by_cases hl:p.V=q.V;.rw[Q0 O,Q0 p2];exact Zvw hl (ok p d hp O) (ok q d' hq O) λa b ha hb h1 h2=>by obtain⟨o1,m1,k1,e1,_⟩:=ha;obtain⟨o2,m2,k2,e2,_⟩:=hb;have:=Yf m1;have:=Yf m2;rw[e1,e2];exact ih _ _ _ _ O O (Yi (bM rp.ops m1) O) (Yi (bM s.ops m2) O)
    .rw[Q5 (.inr hl),Q0 p2];unfold n6;dsimp only;rw[Q0 λh=>hl h.2];exact .refl _
  .rw[Q5 (.inl hk),Q5 hk];exact .refl _
theorem ZJr{p q d d'}(hm:Z1 (Zd p)+Z1 (Zd q)<=18000000000)(hp:Z3 (Zd p) d=Y)(hq:Z3 (Zd q) d'=Y):gz p q=l7 p q:=by
 have h:=ZyW _ (Zd p) (Zd q) d d' (Qa _) hm hp hq;unfold gz l7 dK dN;rw[<-h.a];by_cases ha:(kP (Z1 (Zd p)+Z1 (Zd q)) (Zd p) (Zd q)).a=Y;.grind
 .have s:=Xx _▸ha;rw[Q0 ha,Q0 ha,<-h.c s];by_cases L:(kP (Z1 (Zd p)+Z1 (Zd q)) (Zd p) (Zd q)).c=Y;.grind
  .have aa:=Xx _▸L;rw[Q0 L,Q0 L,(h.x s aa).1,(h.y s aa).1]
