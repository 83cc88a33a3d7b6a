import Derived.Test.YtpjenobkibfpcaaGreatZmXE
import Derived.Test.YtpjenobkibfpcaaGreatZKRB07
set_option linter.all false
open Bool renaming true->Y,false->I
open List renaming length->J,getD->aR
open Int renaming toNat->G
namespace Go.AM.YtpjenobkibfpcaaGreat
open Go.AM Go.Proofs
noncomputable section
def ZLt:cF oZ:=.cons (J1 .u64) .nil
def wH(a:oZ):Prop:=0<=a.1/\a.1<18446744073709551616
def ZED(a:oZ):aA U:=.agg (kc Z8 a.1)
def Zoh:Fs U:=fs ZLt (λa=>[wH a]) ZED
def ZLs:cF um:=.cons (J1 .u8) (.cons (J1 .i64) .nil)
def Eo(a:um):Prop:=(0<=a.1/\a.1<256)/\0<=a.2.1/\a.2.1<=8
def ZPJ(a:um):aA U:=.c (.bool (Zu a.1 a.2.1))
def Zog:Fs U:=fs ZLs (λa=>[Eo a]) ZPJ
def ZLr:cF PN:=.cons (fY .u8) (.cons (J1 .i64) .nil)
def Ho(a:PN):Prop:=a.2.1=0/\J a.1=8/\∀x∈a.1,0<=x/\x<256
def ZPI(a:PN):aA U:=.c (.int .u64 (ki λi=>aR a.1 i 0))
def Zof:Fs U:=fs ZLr (λa=>[Ho a]) ZPI
def ZM3:cF SP:=.cons (J1 .u64) (.cons (J1 .u64) (.cons (J1 .u8) .nil))
def iK(a:SP):Prop:=(0<=a.1/\a.1<18446744073709551616)/\(0<=a.2.1/\a.2.1<18446744073709551616)/\0<=a.2.2.1/\a.2.2.1<256
def ZQ2(a:SP):aA U:=.c (.int .u64 (cS a.1 a.2.1 a.2.2.1))
def sT:Fs U:=fs ZM3 (λa=>[iK a]) ZQ2
def mW(a:lV):Prop:=Zo a.1<=20000000000
def ZTT(a:lV):aA U:=.c (.bool (JF a.1))
def xx:Fs U:=fs ov (λa=>[mW a]) ZTT
def ZMi:cF um:=.cons (J1 .u64) (.cons (J1 .u8) .nil)
def R0(a:um):Prop:=(0<=a.1/\a.1<18446744073709551616)/\0<=a.2.1/\a.2.1<256
def ZQa(a:um):aA U:=.c (.bool (Y2 a.1 a.2.1))
def LU:Fs U:=fs ZMi (λa=>[R0 a]) ZQa
def kV:cF Ys:=.cons (fe .aY) .nil
def hH(a:Ys):Prop:=Z1 a.1<=20000000000
def ZQ1(a:Ys):aA U:=.c (.bool (lE a.1))
def MM:Fs U:=fs kV (λa=>[hH a]) ZQ1
def FF(a:Ys):Prop:=Z1 a.1<=20000000000/\∀o∈W.ops a.1,0<=o.n/\o.n<=1048576
def ZEO(a:Ys):aA U:=.tup [(I,[ci (iT a.1.ops 0)]),(I,[ci (iR a.1.ops 0)])]
def Ai:Fs U:=fs kV (λa=>[FF a]) ZEO
def VF:cF IA:=.cons (fe .aY) (.cons (J1 .i64) (.cons (J1 .i64) .nil))
def xA(a:IA):Prop:=pO a.1/\0<=a.2.1/\a.2.1<=4611686018427387904/\-1<=a.2.2.1/\a.2.2.1<=4611686018427387904
def uP(a:IA):Nat:=Z1 a.1
def FD(a:IA):aA U:=.c (ci (kD a.1 a.2.1 a.2.2.1))
def SZ:Fs U:=fs VF (λa=>[xA a]) FD
def ZNW(a:Ys):Prop:=pO a.1
def ZTX(a:Ys):aA U:=.c (.bool (decide (0<=kD a.1 80 3000)))
def ZDJ:Fs U:=fs kV (λa=>[ZNW a]) ZTX
def Vf:Zb U:=cI [[0,2,502],[3,503],[4],[7],[7],[],[],[0,3,4,503]]
def Dp(w x0 x4 ae ai h ab ah s af aa:Int):bT U:=L2 [(0,.c (.int .u64 x0)),pL 2,pL 3,pI 4 x4] [(.bE 2,zc0),(.bE 3,oI [ae,ai,h,ab,ah,s,af,aa])]
abbrev ZWm(p):=AW (Za cQ) Tryz.f186 Vf p
abbrev ZVS(p):=SW (Za cQ) Tryz.f186 Vf p
theorem ZC4(w x0 x4 af aj s ae ai aa ah ab:Int)(N0:NT)(Q:QT)(h:let z0:=IntKind.wrap .u8 (Int.tmod x0 256);iB (decide (x4<8)) ( (256:Int)≠0/\(0<=x4/\x4<((8:Nat)))/\(256:Int)≠0/\bQ (x4+1)/\N0 (Dp w (IntKind.wrap .u64 (Int.tdiv x0 256)) (x4+1) (J8 x4 0 z0 af) (J8 x4 1 z0 aj) (J8 x4 2 z0 s) (J8 x4 3 z0 ae) (J8 x4 4 z0 ai) (J8 x4 5 z0 aa) (J8 x4 6 z0 ah) (J8 x4 7 z0 ab))) (Q .ret (L2 [pL 2] [(.bE 2,oI [af,aj,s,ae,ai,aa,ah,ab])]))):ZWm [1,1,0,1,0,0] (Dp w x0 x4 af aj s ae ai aa ah ab) (xT N0 (xB 0 (ZVS [1,1,1] Q))):=Eq.mpr V4 h
def Rk:Zb U:=cI [[0,1],[5],[8],[8],[],[0,1,4,5]]
def Lg(m i x0 h:Int):bT U:=L2 [(0,.c (.int .u8 x0)),pI 1 i,pI 5 h] []
abbrev ZWl(p):=AW (Za cQ) Tryz.f187 Rk p
abbrev ZVR(p):=SW (Za cQ) Tryz.f187 Rk p
theorem ZC3(m i x0 s:Int)(N0:NT)(Q:QT)(h:iB (decide (s<i)) ( (2:Int)≠0/\bQ (s+1)/\N0 (Lg m i (IntKind.wrap .u8 (Int.tdiv x0 2)) (s+1))) ( (2:Int)≠0/\Q .ret (L2 [pB 4 ((Int.tmod x0 2)==1)] []))):ZWl [1,0,1,0,0] (Lg m i x0 s) (xT N0 (xB 0 (ZVR [1,1] Q))):=Eq.mpr V4 h
def Po:Zb U:=cI [[0,1],[5],[6],[8],[8],[],[0,1,4,5,6]]
def Mf(b:List Int)(h s x6:Int):bT U:=L2 [(0,.c (sU .u8 b .bA)),pI 1 h,(5,.c (.int .u64 s)),pI 6 x6] []
abbrev Vy(p):=AW (Za cQ) Tryz.f188 Po p
abbrev ZVQ(p):=SW (Za cQ) Tryz.f188 Po p
theorem ZTB(b)(s)(Q:QT)(h:Zi (Vy [1,1,0,1,0,0]) (Mf b s 0 7) (xB 0 (ZVQ [1,1,1] Q))):Vy [] (L2 [(0,.c (sU .u8 b .bA)),pI 1 s] []) Q:=Eq.mpr V4 h
theorem ZC2(b)(s x5 x6)(N0:NT)(Q:QT)(h:iB (decide (0<=x6)) ( bQ (s+x6)/\(0<=s+x6/\s+x6<(J b))/\bQ (x6-1)/\N0 (Mf b s (IntKind.wrap .u64 ((IntKind.wrap .u64 (x5*256))+IntKind.wrap .u64 (List.getD b (Int.toNat (s+x6)) 0))) (x6-1))) (Q .ret (L2 [(4,.c (.int .u64 x5))] []))):Vy [1,1,0,1,0,0] (Mf b s x5 x6) (xT N0 (xB 0 (ZVQ [1,1,1] Q))):=Eq.mpr V4 h
def Bp:List (FuncId×Fs U):=[(186,Zoh),(187,Zog),(188,Zof)]
def Ud:Zb U:=cI [[0,1,2],[0,1,7,8,507,508],[9],[15],[15],[20],[20],[2,6,7,8,9,507,508]]
def zY(a b m x9 ai ab ae s af ah h aa:Int):bT U:=L2 [(2,.c (.int .u8 m)),pL 7,pL 8,pI 9 x9] [(.bE 7,oI [ai,ab,ae,s,af,ah,h,aa]),(.bE 8,kc Z8 b)]
abbrev ZWu(p):=AW (Za Bp) Tryz.f136 Ud p
abbrev ZW0(p):=SW (Za Bp) Tryz.f136 Ud p
theorem ZCD(a b m x9 ae af ah aa s ai aj ab)(N0:NT)(Q:QT)(h:let z0:=List.getD [Z8 b 0,Z8 b 1,Z8 b 2,Z8 b 3,Z8 b 4,Z8 b 5,Z8 b 6,Z8 b 7] (G x9) 0;iB (decide (x9<8)) ( Eo (m,x9,())/\iB (Zu m x9) ((0<=x9/\x9<((8:Nat)))/\(0<=x9/\x9<((8:Nat)))/\bQ (x9+1)/\N0 (zY a b m (x9+1) (J8 x9 0 z0 ae) (J8 x9 1 z0 af) (J8 x9 2 z0 ah) (J8 x9 3 z0 aa) (J8 x9 4 z0 s) (J8 x9 5 z0 ai) (J8 x9 6 z0 aj) (J8 x9 7 z0 ab))) ( bQ (x9+1)/\N0 (zY a b m (x9+1) ae af ah aa s ai aj ab))) ( Ho ( [ae,af,ah,aa,s,ai,aj,ab],0,())/\Q .ret (L2 [(6,.c (.int .u64 (ki λi=>[ae,af,ah,aa,s,ai,aj,ab].getD i 0)))] []))):ZWu [1,1,0,1,0,0] (zY a b m x9 ae af ah aa s ai aj ab) (xT N0 (xB 0 (ZW0 [1,1,1] Q))):=Eq.mpr V4 h
def ZKo:List (FuncId×Fs U):=[(136,sT)]
def VP:Zb U:=cI [[0,1],[0,1,4]]
def ZKd:List (FuncId×Fs U):=[(99,xx)]
def TU:Zb U:=cI [[1,501],[4,5],[6],[13],[13],[7,507],[8],[29],[],[29,32],[],[7,32,38,507],[],[8,38,43],[],[43,45],[45],[1,2,3,4,5,6,501]]
def yY(e:W)(h s x6:Int):bT U:=L2 [pL 1,pI 4 h,pI 5 s,pI 6 x6] [(.bE 1,enc .aY e)]
def L8(e:W)(x4 x5 s h:Int):bT U:=L2 [pL 1,pI 4 x4,pI 5 x5,pI 6 s,pL 7,pI 8 h,(29,.c (.bool ((bI.D (aR e.ops (G s) Op.nil))==3)))] [(.bE 1,enc .aY e),(.bE 7,enc .op (aR e.ops (G s) Op.nil))]
def It(e:W)(x5 x6 h s:Int):bT U:=L2 [pL 1,pI 4 s,pI 5 x5,pI 6 x6,pL 7,pI 8 h,(32,.c (.bool ((bI.D (aR e.ops (G x6) Op.nil))!=2)))] [(.bE 1,enc .aY e),(.bE 7,enc .op (aR e.ops (G x6) Op.nil))]
def GP(e:W)(x6 h s aa:Int):bT U:=L2 [pL 1,pI 4 s,pI 5 aa,pI 6 x6,pI 8 h,(38,.c (.bool ((bI.D (aR e.ops (G x6) Op.nil))!=1)))] [(.bE 1,enc .aY e)]
def LG(e:W)(x6 s aa h:Int):bT U:=L2 [pL 1,pI 4 h,pI 5 aa,pI 6 x6,pB 43 (decide (1048576<s))] [(.bE 1,enc .aY e)]
abbrev lu(p):=AW (Za cQ) Tryz.f102 TU p
abbrev jf(p):=SW (Za cQ) Tryz.f102 TU p
abbrev ZMG(e:W)(h s x6:Int)(N0:NT)(Q:QT):Prop:=lu [1,1,0,1,0,0] (yY e h s x6) (xT N0 (xB 0 (jf [1,1,1] Q)))
theorem ZD4(e)(x4 x5 s)(N0:NT)(Q:QT)(h:let z1:=xB 1 (jf [1,1,0,1,0,0,1,1] (xT N0 (xB 0 (jf [1,1,1] Q))));let z0:=aR e.ops (G s) Op.nil;iB (decide (s<(J e.ops))) ((0<=s/\s<(J e.ops))/\bQ ((bI.n z0)+(J (bI.l z0)))/\iB ((bI.D z0)==3) (lu [1,1,0,1,0,0,1,0,0,1,1,1] (L8 e x4 x5 s 1) z1) (lu [1,1,0,1,0,0,1,0,0,1,1,1] (L8 e x4 x5 s ((bI.n z0)+(J (bI.l z0)))) z1)) (Q .ret (L2 [pI 2 x4,pI 3 x5] []))):lu [1,1,0,1,0,0] (yY e x4 x5 s) (xT N0 (xB 0 (jf [1,1,1] Q))):=Eq.mpr V4 h
abbrev ZMK(e:W)(s x5 x6 h:Int)(N0:NT)(Q:QT):Prop:=lu [1,1,0,1,0,0,1,0,0,1,1,1] (L8 e s x5 x6 h) (xB 1 (jf [1,1,0,1,0,0,1,1] (xT N0 (xB 0 (jf [1,1,1] Q)))))
theorem ZD8(e)(x4 x5 x6 s)(N0:NT)(Q:QT)(h:let z0:=xB 1 (jf [1,1,0,1,0,0,1,1] (xT N0 (xB 0 (jf [1,1,1] Q))));iB ((bI.D (aR e.ops (G x6) Op.nil))!=2) ( bQ (x4+s)/\lu [1,1,0,1,0,0,1,0,0,1,1,1,1] (It e x5 x6 s (x4+s)) z0) (lu [1,1,0,1,0,0,1,0,0,1,1,1,1] (It e x5 x6 s x4) z0)):lu [1,1,0,1,0,0,1,0,0,1,1,1] (L8 e x4 x5 x6 s) (xB 1 (jf [1,1,0,1,0,0,1,1] (xT N0 (xB 0 (jf [1,1,1] Q))))):=Eq.mpr V4 h
abbrev ZMJ(e:W)(x5 x6 h s:Int)(N0:NT)(Q:QT):Prop:=lu [1,1,0,1,0,0,1,0,0,1,1,1,1] (It e x5 x6 h s) (xB 1 (jf [1,1,0,1,0,0,1,1] (xT N0 (xB 0 (jf [1,1,1] Q)))))
theorem ZD7(e)(x5 x6 s aa)(N0:NT)(Q:QT)(h:let z0:=xB 1 (jf [1,1,0,1,0,0,1,1] (xT N0 (xB 0 (jf [1,1,1] Q))));iB ((bI.D (aR e.ops (G x6) Op.nil))!=1) ( bQ (x5+s)/\lu [1,1,0,1,0,0,1,0,0,1,1,1,1,1] (GP e x6 s aa (x5+s)) z0) (lu [1,1,0,1,0,0,1,0,0,1,1,1,1,1] (GP e x6 s aa x5) z0)):lu [1,1,0,1,0,0,1,0,0,1,1,1,1] (It e x5 x6 s aa) (xB 1 (jf [1,1,0,1,0,0,1,1] (xT N0 (xB 0 (jf [1,1,1] Q))))):=Eq.mpr V4 h
abbrev ZMI(e:W)(x6 h s aa:Int)(N0:NT)(Q:QT):Prop:=lu [1,1,0,1,0,0,1,0,0,1,1,1,1,1] (GP e x6 h s aa) (xB 1 (jf [1,1,0,1,0,0,1,1] (xT N0 (xB 0 (jf [1,1,1] Q)))))
theorem ZD6(e)(x6 ab s aa)(N0:NT)(Q:QT)(h:let z0:=xB 1 (jf [1,1,0,1,0,0,1,1] (xT N0 (xB 0 (jf [1,1,1] Q))));iB (decide (1048576<s)) (lu [1,1,0,1,0,0,1,0,0,1,1,1,1,1,1] (LG e x6 s aa 1048576) z0) (lu [1,1,0,1,0,0,1,0,0,1,1,1,1,1,1] (LG e x6 s aa s) z0)):lu [1,1,0,1,0,0,1,0,0,1,1,1,1,1] (GP e x6 ab s aa) (xB 1 (jf [1,1,0,1,0,0,1,1] (xT N0 (xB 0 (jf [1,1,1] Q))))):=Eq.mpr V4 h
abbrev ZMH(e:W)(x6 s aa h:Int)(N0:NT)(Q:QT):Prop:=lu [1,1,0,1,0,0,1,0,0,1,1,1,1,1,1] (LG e x6 s aa h) (xB 1 (jf [1,1,0,1,0,0,1,1] (xT N0 (xB 0 (jf [1,1,1] Q)))))
theorem ZD5(e)(x6 ab aa s)(N0:NT)(Q:QT)(h:iB (decide (1048576<aa)) ( bQ (x6+1)/\N0 (yY e s 1048576 (x6+1))) ( bQ (x6+1)/\N0 (yY e s aa (x6+1)))):lu [1,1,0,1,0,0,1,0,0,1,1,1,1,1,1] (LG e x6 ab aa s) (xB 1 (jf [1,1,0,1,0,0,1,1] (xT N0 (xB 0 (jf [1,1,1] Q))))):=Eq.mpr V4 h
def RC(N:Nat):List (FuncId×Fs U):=(91,fs VF (λa=>[xA a,uP a<N]) FD)::[(80,BW)]
def Ls:Zb U:=cI [[1,2,3,503],[],[25],[1,2,3,6,25,503],[1,2,3,6,503],[31],[],[7,31],[44],[44],[],[7,8],[65],[65],[9],[80],[80],[],[9,95],[95],[1,2,3,6,8,503]]
def Li(e:W)(d n h:Int):bT U:=L2 [pI 1 d,pI 2 h,pL 3,(31,.c (.bool (decide (0<=Y3 (H.mk e.bH.D e.bH.aS e.bH.X) 80 ((( (n:Int)-1:Int)-( J e.aS:Int))-(J e.ops))))))] [(.bE 3,enc .aY e)]
def L3(e:W)(d n s h:Int):bT U:=L2 [pI 1 d,pI 2 s,pL 3,pI 7 h] [(.bE 3,enc .aY e)]
def Cp(e:W)(d n s h:Int):bT U:=L2 [pI 1 d,pI 2 s,pL 3,pI 8 h] [(.bE 3,enc .aY e)]
def Mq(e:W)(d n s h aa:Int):bT U:=L2 [pI 1 d,pI 2 h,pL 3,pI 8 s,pI 9 aa] [(.bE 3,enc .aY e)]
abbrev rz(N)(p):=AW (Za (RC N)) Tryz.f91 Ls p
abbrev sK(N)(p):=SW (Za (RC N)) Tryz.f91 Ls p
theorem ZWy(N)(e)(d n)(Q:QT)(h:∀aa,aa=e.new->∀ab,ab=e.bH->∀s,s=Y3 ab 80 ((( n-1:Int)-( J e.aS:Int))-(J e.ops))->bQ (n-1)/\bQ ((n-1)-(J e.aS))/\bQ ((( n-1:Int)-( J e.aS:Int))-(J e.ops))/\Tt ! d==0/\((d==0)=I->! d==0=Y)/\iB (bif d==0 then Y else decide ((( ( n-1:Int)-( J e.aS:Int):Int)-( J e.ops:Int))<0)) (Q .ret (L2 [pI 6 (-1)] [])) ( ub (ab,80,(( n-1:Int)-( J e.aS:Int))-(J e.ops),())/\iB (decide (0<=s)) ( ub (aa,80,s,())/\rz N [1,1,1,1,1] (Li e d n (Y3 aa 80 s)) Q) (rz N [1,1,1,1,1] (Li e d n s) Q))):rz N [] (L2 [(0,.agg (enc .aY e)),pI 1 d,pI 2 n] []) Q:=Eq.mpr V4 (h _ (Z7 _) _ (Z7 _) _ rfl)
abbrev ZT3(N:Nat)(e:W)(d n h:Int)(Q:QT):Prop:=rz N [1,1,1,1,1] (Li e d n h) Q
theorem ZI2(N)(e)(d n s)(Q:QT)(h:Zi (rz N [1,1,1,1,1,0,1,0,0]) (L3 e d n s 0) (xB 0 (sK N [1,1,1,1,1,1] Q))):rz N [1,1,1,1,1] (Li e d n s) Q:=Eq.mpr V4 h
theorem ZI1(N)(e:W)(d n aa s)(N1:NT)(Q:QT)(h:∀ae,ae=aR e.X (G s) (aW.mk 0 W.nil)->∀ab,ab=ae.e->let z0:=decide (s<(J e.X));Tk 2 z0 (iB (bif z0 then decide (0<=aa)else I) ((0<=s/\s<(J e.X))/\bQ (d-1)/\xA (ab,d-1,aa,())/\uP (ab,d-1,aa,())<N/\bQ (s+1)/\N1 (L3 e d n (kD ab (d-1) aa) (s+1))) (Zi (rz N [1,1,1,1,1,1,0,1,0,0]) (Cp e d n aa 0) (xB 2 (sK N [1,1,1,1,1,1,1] Q))))):rz N [1,1,1,1,1,0,1,0,0] (L3 e d n aa s) (xT N1 (xB 0 (sK N [1,1,1,1,1,1] Q))):=Eq.mpr V4 (h _ rfl _ (Z0 _))
theorem ZI0(N)(e)(d n s aa)(N2:NT)(Q:QT)(h:let z0:=decide (aa<( J e.ops:Int));Tk 2 z0 (iB (bif z0 then decide (0<=s)else I) (Zi (rz N [1,1,1,1,1,1,0,1,0,0,1,0,0,0,1,0,0]) (Mq e d n aa s 0) (xB 4 (sK N [1,1,1,1,1,1,0,1,0,0,1,0,0,1] (xB 3 (sK N [1,1,1,1,1,1,0,1,0,0,1,1] (xT N2 (xB 2 (sK N [1,1,1,1,1,1,1] Q)))))))) (Q .ret (L2 [pI 6 s] [])))):rz N [1,1,1,1,1,1,0,1,0,0] (Cp e d n s aa) (xT N2 (xB 2 (sK N [1,1,1,1,1,1,1] Q))):=Eq.mpr V4 h
theorem ZHZ(N)(e)(d n s aa ab)(N3 N2:NT)(Q:QT)(h:∀ae,ae=aR e.ops (G s) Op.nil->∀af,af=ae.e->∀ah,ah=aR ae.l (G ab) H.nil->let z0:=decide (ab<(J ae.l));(0<=s/\s<(J e.ops))/\Tk 2 z0 (iB (bif z0 then decide (0<=aa)else I) ((0<=s/\s<(J e.ops))/\(0<=ab/\ab<(J ae.l))/\ub (ah,80,aa,())/\bQ (ab+1)/\N3 (Mq e d n s (Y3 ah 80 aa) (ab+1))) (iB (decide (0<=aa)) ((0<=s/\s<(J e.ops))/\bQ (d-1)/\xA (af,d-1,aa,())/\uP (af,d-1,aa,())<N/\bQ (s+1)/\N2 (Cp e d n (kD af (d-1) aa) (s+1))) ( bQ (s+1)/\N2 (Cp e d n aa (s+1)))))):rz N [1,1,1,1,1,1,0,1,0,0,1,0,0,0,1,0,0] (Mq e d n s aa ab) (xT N3 (xB 4 (sK N [1,1,1,1,1,1,0,1,0,0,1,0,0,1] (xB 3 (sK N [1,1,1,1,1,1,0,1,0,0,1,1] (xT N2 (xB 2 (sK N [1,1,1,1,1,1,1] Q)))))))):=Eq.mpr V4 (h _ rfl _ (Z0 _) _ (Z7 _))
def ZTa(N:Nat)(e:W)(d n:Int):Prop:=AW (Za (RC N)) Tryz.f91 Ls [] (Y5 (VF.cK (e,d,n,())) []) (EQ Tryz.f91 (FD (e,d,n,())) [])
theorem ZQr(Fu:CT 80 BW)(h:∀N(e:W)d(n:Int)(_:Unit),xA (e,d,n,())->uP (e,d,n,())<N+1->ZTa N e d n):CT 91 SZ:=Jj (μ:=uP) (l:=[(80,BW)]) ZN rfl ⟨Fu,trivial⟩ Ls Tryz.func91 rfl rfl 3 (λ_=>rfl) V1 λN⟨e,d,n,_⟩=>h N e d n ()
def ZR0:List (FuncId×Fs U):=[(91,SZ)]
end
noncomputable section
def qB:cF tU:=.cons (fe .aY) (.cons (J1 .i64) .nil)
def vJ(a:tU):Prop:=(Z1 a.1<=20000000000/\Ye a.1)/\0<=a.2.1/\a.2.1<=1000
def v9(a:tU):Nat:=2*Z1 a.1
def yS(a:tU):aA U:=.c (.bool (Z3 a.1 a.2.1))
def Nw:Fs U:=fs qB (λa=>[vJ a]) yS
def xd:cF AT:=.cons (J1 .i64) (.cons (fe .op) (.cons (J1 .i64) .nil))
def EC(a:AT):Prop:=(Zy a.2.1<=20000000000/\Jt a.2.1/\bQ a.1)/\0<=a.2.2.1/\a.2.2.1<=1000
def Cc(a:AT):Nat:=2*Zy a.2.1+1
def ye(a:AT):aA U:=.c (.bool (Zg a.1 a.2.1 a.2.2.1))
def ZxJ:Fs U:=fs xd (λa=>[EC a]) ye
def Bu(a:Ys):Prop:=(Z1 a.1<=20000000000/\Ye a.1)/\∃d,Z3 a.1 d=Y
def oh(a:Ys):Nat:=Z1 a.1
def ZNv(a:Ys):aA U:=.c (.bool (pJ a.1))
def ZDH:Fs U:=fs kV (λa=>[Bu a]) ZNv
def BR(N:Nat):List (FuncId×Fs U):=(64,fs qB (λa=>[vJ a,v9 a<N]) yS)::(101,fs xd (λa=>[EC a,Cc a<N]) ye)::[(99,xx),(100,LU),(137,MM),(31,v7),(102,Ai)]
def LW:Zb U:=cI [[1,2,502],[24],[1,2,4,24,502],[1,2,4,69,502],[1,2,4,69,502],[1,2,4,72,502],[1,2,4,72,502],[1,2,4,5,502],[6],[97],[97],[7,507],[5,134],[1,2,4,6,7,134,502,507],[1,2,4,5,6,502],[6],[8],[141],[141],[9,509],[5,171],[1,2,4,8,9,171,502,509],[1,2,4,5,8,502],[5,8,186],[1,2,4,186,502],[1,2,4,10,502],[191],[191],[204],[1,2,4,10,204,502],[4,11,12],[4,11,12]]
def Lq(e:W)(d h s:Int):bT U:=L2 [pI 1 d,pL 2,pI 5 h,pI 6 s] [(.bE 2,enc .aY e)]
def Nt(e:W)(d h s:Int):bT U:=L2 [pI 1 d,pL 2,pI 5 h,pI 8 s] [(.bE 2,enc .aY e)]
def L7(e:W)(d h:Int):bT U:=L2 [pI 1 d,pL 2,pI 10 h] [(.bE 2,enc .aY e)]
abbrev Ah(N)(p):=AW (Za (BR N)) Tryz.f64 LW p
abbrev BE(N)(p):=SW (Za (BR N)) Tryz.f64 LW p
theorem ZIj(N)(e)(d x5 x6)(N0:NT)(Q:QT)(h:∀s,s=aR e.aS (G x6) (aV.mk 0 0 0 0)->let z3:=decide (s.S<=x5);let z2:=bif z3 then Y else decide (65534<s.S);let z0:=bif z2 then Y else s.a_==0;let z1:=bif z0 then Y else ! Y2 s.bH s.a_;iB (decide (x6<(J e.aS))) ((0<=x6/\x6<(J e.aS))/\Tk 2 (!z3) ((z3=I->(!z3)=Y)/\Tk 2 (!z2) ((z2=I->(!z2)=Y)/\Tk 4 (!z0) (((!z0)=Y->R0 (s.bH,s.a_,()))/\Tt !z0/\(z0=I->(!z0)=Y)/\Tk 4 (!z1) (((!z1)=Y->R0 (s.new,s.a_,()))/\Tt !z1/\(z1=I->(!z1)=Y)/\iB (bif z1 then Y else ! Y2 s.new s.a_) (Q .ret (L2 [pB 4 I] [])) ( bQ (x6+1)/\N0 (Lq e d s.S (x6+1)))))))) (Zi (Ah N [1,1,1,1,1,1,1,0,1,0,0]) (Nt e d (-1) 0) (xB 2 (BE N [1,1,1,1,1,1,1,1] Q)))):Ah N [1,1,1,1,1,0,1,0,0] (Lq e d x5 x6) (xT N0 (xB 0 (BE N [1,1,1,1,1,1] Q))):=Eq.mpr V4 (h _ rfl)
theorem ZIi(N)(e:W)(d ae s)(N1:NT)(Q:QT)(h:∀aa,aa=aR e.X (G s) (aW.mk 0 W.nil)->∀ab,ab=aa.e->let z4:=Q .ret (L2 [pB 4 I] []);let z3:=decide (e.V<2);let z2:=decide (aa.S<=ae);let z1:=bif z2 then Y else decide (65534<aa.S);let z0:=bif z1 then Y else aa.e.D==0;iB (decide (s<(J e.X))) ((0<=s/\s<(J e.X))/\Tk 2 (!z2) ((z2=I->(!z2)=Y)/\Tk 3 (!z1) ((z1=I->(!z1)=Y)/\Tk 2 (!z0) (((!z0)=Y->bQ (d-1))/\Tk 2 (!z0) (((!z0)=Y->vJ (ab,d-1,()))/\((!z0)=Y->v9 (ab,d-1,())<N)/\Tt !z0/\(z0=I->(!z0)=Y)/\iB (bif z0 then Y else ! Z3 ab (d-1)) z4 ( bQ (s+1)/\N1 (Nt e d aa.S (s+1)))))))) (Tk 3 (e.D==3) (Tk 2 ( e.D==3&&!z3) (((e.D==3)=Y->True->(e.D==3)=Y)/\((e.D==3)=Y->z3=I->( e.D==3&&!z3)=Y)/\Tt (e.D==3)/\iB (bif e.D==3 then bif z3 then Y else decide (9<e.V)else I) z4 (Zi (Ah N [1,1,1,1,1,1,1,1,1,0,1,0,0]) (L7 e d 0) (xB 4 (BE N [1,1,1,1,1,1,1,1,1,1] Q))))))):Ah N [1,1,1,1,1,1,1,0,1,0,0] (Nt e d ae s) (xT N1 (xB 2 (BE N [1,1,1,1,1,1,1,1] Q))):=Eq.mpr V4 (h _ rfl _ (Z0 _))
theorem ZIh(N)(e)(d s)(N2:NT)(Q:QT)(h:∀aa,aa=e->∀ae,ae=aR e.ops (G s) Op.nil->∀ab,ab=ae->let z0:=decide ((iT aa.ops 0)<1048576);iB (decide (s<(J e.ops))) ((0<=s/\s<(J e.ops))/\bQ (d-1)/\EC (e.V,ab,d-1,())/\Cc (e.V,ab,d-1,())<N/\iB (! Zg e.V ab (d-1)) (Q .ret (L2 [pB 4 I] [])) ( bQ (s+1)/\N2 (L7 e d (s+1)))) ( FF (aa,())/\Tk 2 z0 (Q .ret (L2 [(4,.c (.bool (bif z0 then decide ((iR aa.ops 0)<1048576)else I)))] [])))):Ah N [1,1,1,1,1,1,1,1,1,0,1,0,0] (L7 e d s) (xT N2 (xB 4 (BE N [1,1,1,1,1,1,1,1,1,1] Q))):=Eq.mpr V4 (h _ (Z0 _) _ rfl _ (Yp _))
def ZTj(N:Nat)(e:W)(d:Int):Prop:=AW (Za (BR N)) Tryz.f64 LW [] (Y5 (qB.cK (e,d,())) []) (EQ Tryz.f64 (yS (e,d,())) [])
abbrev ZWa:Prop:=∀N(e:W)d(_:Unit),vJ (e,d,())->v9 (e,d,())<N+1->ZTj N e d
def N8:Zb U:=cI [[0,2,4,504],[10],[0,2,4,6,10,504],[0,2,4,6,42,504],[0,2,4,6,42,504],[0,2,4,6,45,504],[2,7,45],[50],[50],[62],[0,4,6,7,62,504],[],[0,4,6,92,504],[0,4,6,92,504],[]]
def FJ(V:Int)(o:Op)(d h:Int):bT U:=L2 [pI 0 V,pL 4,pI 7 h] [(.bE 4,enc .op o)]
abbrev ZWx(N)(p):=AW (Za (BR N)) Tryz.f101 N8 p
abbrev GN(N)(p):=SW (Za (BR N)) Tryz.f101 N8 p
theorem ZD9(N)(V)(o)(d s)(N0:NT)(Q:QT)(h:let z2:=H.mk V [] (List.drop (G s) (List.take (Int.toNat (s+1)) o.l));let z1:=decide (0<( J o.l:Int));let z0:=W.mk o.e.D (H.mk o.e.bH.D o.e.bH.aS o.e.bH.X) (H.mk o.e.new.D o.e.new.aS o.e.new.X) o.e.aS o.e.X o.e.V o.e.ops;iB (decide (s<(J o.l))) ( bQ (s+1)/\(0<=s/\s<=s+1/\s+1<=(J o.l))/\pd (z2,64,())/\iB (! Zf z2 64) (Q .ret (L2 [pB 6 I] [])) ( bQ (s+1)/\N0 (FJ V o d (s+1)))) (Tk 2 z1 ((z1=Y->hH (z0,()))/\Tt z1/\Q .ret (L2 [(6,.c (.bool (bif z1 then lE z0 else I)))] [])))):ZWx N [1,1,1,0,1,0,0,1,0,0] (FJ V o d s) (xT N0 (xB 0 (GN N [1,1,1,0,1,0,1] (GN N [1,1,1,1] Q)))):=Eq.mpr V4 h
def ZNk(N:Nat)(V:Int)(o:Op)(d:Int):Prop:=AW (Za (BR N)) Tryz.f101 N8 [] (Y5 (xd.cK (V,o,d,())) []) (EQ Tryz.f101 (ye (V,o,d,())) [])
abbrev ZPd:Prop:=∀N(V:Int)o(d:Int)(_:Unit),EC (V,o,d,())->Cc (V,o,d,())<N+1->ZNk N V o d
def ZGE(N:Nat):List (FuncId×Fs U):=(65,fs kV (λa=>[Bu a,oh a<N]) ZNv)::[(102,Ai)]
def Ot:Zb U:=cI [[1,501],[3,4],[3,4,17],[1,2,17,501],[1,2,5,501],[22],[22],[32],[1,2,5,32,501],[1,2,6,501],[37],[37],[47],[1,2,6,47,501],[]]
def GO(e:W)(h:Int):bT U:=L2 [pL 1,pI 5 h] [(.bE 1,enc .aY e)]
def Ig(e:W)(h:Int):bT U:=L2 [pL 1,pI 6 h] [(.bE 1,enc .aY e)]
abbrev LS(N)(p):=AW (Za (ZGE N)) Tryz.f65 Ot p
abbrev Ha(N)(p):=SW (Za (ZGE N)) Tryz.f65 Ot p
theorem ZIg(N)(e:W)(x5)(N0:NT)(Q:QT)(h:∀ab,ab=aR e.X (G x5) (aW.mk 0 W.nil)->∀s,s=ab.e->iB (decide (x5<(J e.X))) ((0<=x5/\x5<(J e.X))/\Bu (s,())/\oh (s,())<N/\iB (! pJ s) (Q .ret (L2 [pB 2 I] [])) ( bQ (x5+1)/\N0 (GO e (x5+1)))) (Zi (LS N [1,1,1,1,0,1,0,0]) (Ig e 0) (xB 2 (Ha N [1,1,1,1,1] Q)))):LS N [1,1,1,0,1,0,0] (GO e x5) (xT N0 (xB 0 (Ha N [1,1,1,1] Q))):=Eq.mpr V4 (h _ rfl _ (Z0 _))
theorem ZIf(N)(e)(s)(N1:NT)(Q:QT)(h:∀ab,ab=aR e.ops (G s) Op.nil->∀aa,aa=ab.e->iB (decide (s<(J e.ops))) ((0<=s/\s<(J e.ops))/\Bu (aa,())/\oh (aa,())<N/\iB (! pJ aa) (Q .ret (L2 [pB 2 I] [])) ( bQ (s+1)/\N1 (Ig e (s+1)))) (Q .ret (L2 [pB 2 Y] []))):LS N [1,1,1,1,0,1,0,0] (Ig e s) (xT N1 (xB 2 (Ha N [1,1,1,1,1] Q))):=Eq.mpr V4 (h _ rfl _ (Z0 _))
theorem ZAG(M3:CT 99 xx)(PW:CT 100 LU)(UO:CT 137 MM)(Aj:CT 31 v7)(GA:CT 102 Ai)(h:ZWa)(s:ZPd):CT 64 Nw/\CT 101 ZxJ:=M9 (μA:=v9) (μB:=Cc) (l:=[(99,xx),(100,LU),(137,MM),(31,v7),(102,Ai)]) ZN rfl ⟨M3,PW,UO,Aj,GA,trivial⟩ LW N8 Tryz.func64 Tryz.func101 rfl rfl rfl rfl 2 3 (λ_=>rfl) (λ_=>rfl) V1 V1 (λN⟨e,d,_⟩=>h N e d ()) λN⟨V,o,d,_⟩=>s N V o d ()
end
theorem DM{n}(h:0<=n)(s:n<18446744073709551616):IntKind.wrap .u64 n=n:=by simp[IntKind.wrap,IntKind.signed,IntKind.bits];omega
theorem qR{n}(h:0<=n)(s:n<256):IntKind.wrap .u8 n=n:=by simp[IntKind.wrap,IntKind.signed,IntKind.bits];omega
theorem O5{i j v}{F aG:Nat->Int}(h:0<=i)(s:v=F (G i)):J8 i j v (if j<i then F j else aG j)=if j<i+1 then F j else aG j:=by unfold J8;grind
theorem ZKt{i}{j:Nat}{F aG:Nat->Int}(h:F (G i)=aG (G i))(s:0<=i):(if j<i then F j else aG j)=if j<i+1 then F j else aG j:=by grind
theorem B3(w)(i):0<=Z8 w i/\Z8 w i<256:=by unfold Z8;omega
theorem Z9W{w:Int}(h:0<=w)(i):0<=w/256^i:=KV h (Kj (Kq O))
theorem Zlj{w:Int}(h:0<=w)(i):w/256^i<=w:=KT _ h
theorem ZqJ(w:Int)(i):w/256^i/256=w/256^(i+1):=by rw[Int.ediv_ediv_of_nonneg (Kj (Kq O)),KR]
theorem ZVy:aU Tryz.prog M 186 Zoh:=by
 refine kF (l:=cQ) trivial Vf Tryz.func186 1 λ⟨w,_⟩s=>?_;simp only[wH]at s;refine wV (λQ=>Zi (ZWm [1,1,0,1,0,0]) (Dp w w 0 0 0 0 0 0 0 0 0) (xB 0 (ZVS [1,1,1] Q))) ?_ λ_ h=>Eq.mpr V4 h;(try simp only[iB,bR,Qk]);refine Z5 (ι:=Int) (λi=>Dp w (w/256^G i) i (if((0:Nat):Int)<i then Z8 w 0 else 0) (if((1:Nat):Int)<i then Z8 w 1 else 0) (if((2:Nat):Int)<i then Z8 w 2 else 0) (if((3:Nat):Int)<i then Z8 w 3 else 0) (if((4:Nat):Int)<i then Z8 w 4 else 0) (if((5:Nat):Int)<i then Z8 w 5 else 0) (if((6:Nat):Int)<i then Z8 w 6 else 0) (if((7:Nat):Int)<i then Z8 w 7 else 0)) (λi=>0<=i/\i<=8) (λi=>G (8-i)) 0 ?_ ⟨O,O⟩ ?_;.simp[Dp]
 .rintro i⟨h1,h2⟩;refine ZC4 _ _ _ _ _ _ _ _ _ _ _ _ _ ?_;(try simp only[iB,bR,Qk]);(simp only[iB,bW]);(try simp only[iB,bR]);refine⟨λL=>⟨O,⟨h1,O⟩,O,V3,i+1,?_,⟨O,O⟩,O⟩,λL=>?_⟩
  .have hd:=Z9W s.1 (G i);have hl:=Zlj s.1 (G i);have e1:IntKind.wrap .u64 (Int.tdiv (w/256^G i) 256)=w/256^G (i+1):=by rw[Ka hd,ZqJ,show G i+1=G (i+1)by omega];exact DM (Z9W s.1 _) (Int.lt_of_le_of_lt (Zlj s.1 _) s.2)
   have e2:IntKind.wrap .u8 (Int.tmod (w/256^G i) 256)=Z8 w (G i):=by rw[Int.tmod_eq_emod_of_nonneg hd];exact qR (B3 w _).1 (B3 w _).2
   rw[e1];have E:∀j:Nat,J8 i j (IntKind.wrap .u8 (Int.tmod (w/256^G i) 256)) (if(j:Int)<i then Z8 w j else 0)=if(j:Int)<i+1 then Z8 w j else 0:=λj=>O5 (F:=Z8 w) (aG:=λ_=>0) h1 e2;grind
  .have:i=8:=O;subst this;simp only[ZED];exact⟨⟨rfl,⟨⟨rfl,rfl⟩,⟨rfl,rfl⟩,⟨rfl,rfl⟩,⟨rfl,rfl⟩,⟨rfl,rfl⟩,⟨rfl,rfl⟩,⟨rfl,rfl⟩,⟨rfl,rfl⟩,trivial⟩,trivial⟩,trivial⟩
theorem ZVx:aU Tryz.prog M 187 Zog:=by
 refine kF (l:=cQ) trivial Rk Tryz.func187 2 λ⟨m,i,_⟩s=>?_;simp only[Eo]at s;refine wV (λQ=>Zi (ZWl [1,0,1,0,0]) (Lg m i m 0) (xB 0 (ZVR [1,1] Q))) ?_ λ_ h=>Eq.mpr V4 h;(try simp only[iB,bR,Qk]);refine Z5 (ι:=Int) (λk=>Lg m i (m/2^G k) k) (λk=>0<=k/\k<=i) (λk=>G (i-k)) 0 ?_ ⟨O,O⟩ ?_;.simp
 .rintro k⟨h1,h2⟩;refine ZC3 _ _ _ _ _ _ ?_;(try simp only[iB,bR,Qk]);have hd:0<=m/2^G k:=KV s.1.1 (Kj (Kq O));have hl:m/2^G k<=m:=KT _ s.1.1;(simp only[iB,bW]);refine⟨λL=>⟨O,V3,k+1,?_,⟨O,O⟩,O⟩,λL=>⟨O,Z9 rfl ?_⟩⟩
  .have e:IntKind.wrap .u8 (Int.tdiv (m/2^G k) 2)=m/2^G (k+1):=by rw[Ka hd,Int.ediv_ediv_of_nonneg (Kj (Kq O)),show(2:Int)^G k*2=2^G (k+1)by rw[<-KR];congr 1;omega];refine qR (KV s.1.1 (Kj (Kq O))) (Int.lt_of_le_of_lt (KT _ s.1.1) s.1.2)
   rw[e]
  .have:k=i:=O;subst this;rw[Int.tmod_eq_emod_of_nonneg hd];try rfl
def pA(f:Nat->Int):Nat->Int|0=>0|k+1=>f (7-k)+256*pA f k
theorem Zj7{f}(h:∀i,0<=f i/\f i<256):∀k,0<=pA f k/\pA f k<256^k|0=>by simp[pA]|k+1=>by have:=Zj7 h k;have s:=h (7-k);simp only[pA,KR];omega
theorem ZPm(f):pA f 8=ki f:=by simp[pA,ki]
theorem ZVw:aU Tryz.prog M 188 Zof:=by
 refine kF (l:=cQ) trivial Po Tryz.func188 2 λ⟨b,z,_⟩hp=>?_;obtain⟨rfl,hl,s⟩:=hp;dsimp only at hl s;refine ZTB _ _ _ ?_;(try simp only[iB,bR,Qk]);have hf:∀i,0<=aR b i 0/\aR b i 0<256:=by
  intro i;by_cases hi:i<J b;.simp_all
  .grind
 refine Z5 (ι:=Int) (λi=>Mf b 0 (pA (λi=>aR b i 0) (G (7-i))) i) (λi=>-1<=i/\i<=7) (λi=>G (i+1)) 7 rfl ⟨O,O⟩ ?_;rintro i⟨h1,h2⟩;refine ZC2 _ _ _ _ _ _ ?_;(try simp only[iB,bR,Qk]);(simp only[iB,bW]);(try simp only[iB,bR]);have hr:=Zj7 (f:=λi=>aR b i 0) hf (G (7-i));refine⟨λL=>⟨V3,O,V3,i-1,?_,⟨O,O⟩,O⟩,λL=>YO rfl ?_⟩
 .have h:(256:Int)^G (7-i)<=256^7:=by
   have:(256:Int)^G (7-i)=((256^G (7-i):Nat):Int):=by simp
   rw[this];have h7:(256:Nat)^G (7-i)<=256^7:=Nat.pow_le_pow_right O O;have:((256:Nat)^7:Nat)=72057594037927936:=V1;omega
  have e7:(256:Int)^7=72057594037927936:=V1;have aa:=hf (G i);have e:pA (λi=>aR b i 0) (G (7-(i-1)))=aR b (G i) 0+256*pA (λi=>aR b i 0) (G (7-i)):=by rw[show G (7-(i-1))=G (7-i)+1 by omega];simp only[pA];grind
  rw[e,show G (0+i)=G i by omega,DM (n:=pA (λi=>aR b i 0) (G (7-i))*256) O O,DM (n:=aR b (G i) 0) O O,DM O O];grind
 .have:i=-1:=O;subst this;exact ZPm _
theorem Hk(f:Nat->Int){i}(h:i<8):List.getD [f 0,f 1,f 2,f 3,f 4,f 5,f 6,f 7] i 0=f i:=by match i,h with|0,_=>rfl|1,_=>rfl|2,_=>rfl|3,_=>rfl|4,_=>rfl|5,_=>rfl|6,_=>rfl|7,_=>rfl
theorem Oo(a b m)(i):0<=JR a b m i/\JR a b m i<256:=by
 unfold JR;split;.exact B3 _ _
 .exact B3 _ _
theorem vC:aU Tryz.prog M 136 sT:=by
 refine kF (l:=Bp) ⟨ZVy,ZVx,ZVw,trivial⟩ Ud Tryz.func136 3 λ⟨a,b,m,_⟩hp=>?_;simp only[iK]at hp;refine wV (λQ=>wH (a,())/\wH (b,())/\Zi (ZWu [1,1,0,1,0,0]) (zY a b m 0 (Z8 a 0) (Z8 a 1) (Z8 a 2) (Z8 a 3) (Z8 a 4) (Z8 a 5) (Z8 a 6) (Z8 a 7)) (xB 0 (ZW0 [1,1,1] Q))) ?_ λ_ h=>Eq.mpr V4 h;(try simp only[iB,bR,Qk]);refine⟨hp.1,hp.2.1,?_⟩;refine Z5 (ι:=Int) (λi=>zY a b m i (if((0:Nat):Int)<i then JR a b m 0 else Z8 a 0) (if((1:Nat):Int)<i then JR a b m 1 else Z8 a 1) (if((2:Nat):Int)<i then JR a b m 2 else Z8 a 2) (if((3:Nat):Int)<i then JR a b m 3 else Z8 a 3) (if((4:Nat):Int)<i then JR a b m 4 else Z8 a 4) (if((5:Nat):Int)<i then JR a b m 5 else Z8 a 5) (if((6:Nat):Int)<i then JR a b m 6 else Z8 a 6) (if((7:Nat):Int)<i then JR a b m 7 else Z8 a 7)) (λi=>0<=i/\i<=8) (λi=>G (8-i)) 0 ?_ ⟨O,O⟩ ?_;.simp[zY]
 .rintro i⟨s,h2⟩;refine ZCD _ _ _ _ _ _ _ _ _ _ _ _ _ _ ?_;(try simp only[iB,bR,Qk]);(simp only[iB,bW]);(try simp only[iB,bR]);refine⟨λL=>⟨⟨hp.2.2,s,O⟩,λhn=>⟨⟨s,O⟩,⟨s,O⟩,V3,i+1,?_,⟨O,O⟩,O⟩,λhn=>⟨V3,i+1,?_,⟨O,O⟩,O⟩⟩,λL=>?_⟩
  .rw[Hk (Z8 b) O];have hv:Z8 b (G i)=JR a b m (G i):=by unfold JR;rw[show(( G i:Nat):Int)=i by omega,hn];try rfl
   have E:∀j:Nat,J8 i j (Z8 b (G i)) (if(j:Int)<i then JR a b m j else Z8 a j)=if(j:Int)<i+1 then JR a b m j else Z8 a j:=λj=>O5 (F:=JR a b m) (aG:=Z8 a) s hv;grind
  .have hv:JR a b m (G i)=Z8 a (G i):=by unfold JR;rw[show(( G i:Nat):Int)=i by omega,hn];try rfl
   grind
  .have:i=8:=O;subst this;refine⟨⟨rfl,rfl,?_⟩,YO rfl ?_⟩;.intro x hx;simp at hx;rcases hx with rfl|rfl|rfl|rfl|rfl|rfl|rfl|rfl<;>exact Oo _ _ _ _
   .try rfl
theorem ZB5{α:Type}{l i}(h:i<J l)(d:α):l.drop i=aR l i d::l.drop (i+1):=by simp_all
theorem ZO{α:Type}{l}{i:Int}(s:0<=i)(h:i<J l)(d:α):l.drop (G i)=aR l (G i) d::l.drop (G (i+1)):=by rw[ZB5 O d,show G i+1=G (i+1)by omega]
theorem Zh{α:Type}{l i}(h:i<J l)(d:α):aR l i d∈l:=by grind
theorem Jg(t):1<=Zo t:=by cases t;simp only[Zo];omega
theorem AU(e):1<=Z1 e:=by cases e;simp only[Z1];omega
theorem Lx(k:bP):JS k=Z1 k.e:=by cases k;rfl
theorem ZZ(o:Op):Zy o=Ze o.l+Z1 o.e:=by cases o;rfl
theorem YM:∀{ks t},t∈ks->Zo t<=Ze ks
 |x::r,t,h=>by
  simp only[Ze];rcases Qe.1 h with rfl|h;.omega
  .have:=YM h;omega
theorem JC:∀{ks:List bP}{k},k∈ks->Z1 k.e<=ZM ks
 |x::r,k,h=>by
  simp only[ZM,Lx];rcases Qe.1 h with rfl|h;.omega
  .have:=JC h;omega
theorem Y9:∀{os:List Op}{o},o∈os->Zy o<=Zq os
 |x::r,o,h=>by
  simp only[Zq];rcases Qe.1 h with rfl|h;.omega
  .have:=Y9 h;omega
theorem Yl:∀(ks:List bP),J ks<=ZM ks|[]=>by simp[ZM]|k::r=>by have:=Yl r;have:=AU k.e;simp only[ZM,Lx,Qd];omega
theorem Y4:∀(os:List Op),J os<=Zq os|[]=>by simp[Zq]|o::r=>by have:=Y4 r;have:=AU o.e;simp only[Zq,ZZ,Qd];omega
theorem Zjj:∀{ks t},rD ks->t∈ks->kg t
 |x::r,t,hs,h=>by
  simp only[rD]at hs;rcases Qe.1 h with rfl|h;.exact hs.1
  .exact Zjj hs.2 h
theorem ZgW:∀{ks:List bP}{k},Bx ks->k∈ks->pO k.e
 |x::r,k,hs,h=>by
  simp only[Bx]at hs;rcases Qe.1 h with rfl|h;.have:=hs.1;obtain⟨a,e⟩:=k;exact this
  .exact ZgW hs.2 h
theorem ZgV:∀{os:List Op}{o},A9 os->o∈os->J o.l<=17592186044416/\rD o.l/\pO o.e
 |x::r,o,hs,h=>by
  simp only[A9]at hs;rcases Qe.1 h with rfl|h;.have:=hs.1;obtain⟨a,b,c,e⟩:=o;exact this
  .exact ZgV hs.2 h
theorem YW:∀{ks t},Jf ks->t∈ks->ei t
 |x::r,t,hs,h=>by
  simp only[Jf]at hs;rcases Qe.1 h with rfl|h;.exact hs.1
  .exact YW hs.2 h
theorem Y6:∀{ks:List bP}{k},kG ks->k∈ks->bQ k.S/\Ye k.e
 |x::r,k,hs,h=>by
  simp only[kG]at hs;rcases Qe.1 h with rfl|h;.have:=hs.1;obtain⟨a,e⟩:=k;exact this
  .exact Y6 hs.2 h
theorem qe:∀{os:List Op}{o},jQ os->o∈os->Jt o
 |x::r,o,hs,h=>by
  simp only[jQ]at hs;rcases Qe.1 h with rfl|h;.exact hs.1
  .exact qe hs.2 h
theorem Jr{o:Op}(h:Jt o):bQ o.D/\bQ o.n/\Jf o.l/\Ye o.e:=by obtain⟨a,b,c,e⟩:=o;exact h
theorem ZAN(k:bP)(d n):uF k d n=kD k.e d n:=by cases k;rfl
theorem ZGs(o:Op)(d n):wA o d n=if ZT o.l 80 n<0 then ZT o.l 80 n else kD o.e d (ZT o.l 80 n):=by cases o;rfl
theorem Wo(t)(n)(h:-1<=n):-1<=qh t n/\qh t n<=n:=by
 unfold qh;split;.omega
 .have:=vK t 80 n;omega
mutual theorem CI:∀(e:W)(d n:Int),-1<=kD e d n/\kD e d n<=max n (-1)
 |.mk _ o nw w ks _ os,d,n=>by
  simp only[kD];split;.omega
  .have h1:=vK o 80 (n-1-J w-J os);have s:=Wo nw _ h1.1;have h:=Nd ks (d-1) _ s.1;have h4:=Gp os (d-1) _ h.1;omega theorem Nd:∀(ks:List (aW W))(d n:Int),-1<=n->-1<=YZ ks d n/\YZ ks d n<=n
 |[],d,n,h=>by simp only[YZ];omega|k::r,d,n,h=>by
  simp only[YZ];split;.omega
  .have s:=Zcg k d n;have h2:=Nd r d _ s.1;omega theorem Zcg:∀(k:aW W)(d n:Int),-1<=uF k d n/\uF k d n<=max n (-1)
 |⟨_,e⟩,d,n=>by
  simp only[uF];exact CI e d n theorem Gp:∀(os:List (bI W))(d n:Int),-1<=n->-1<=mP os d n/\mP os d n<=n
 |[],d,n,h=>by simp only[mP];omega|o::r,d,n,h=>by
  simp only[mP];split;.omega
  .have s:=Zev o d n h;have h2:=Gp r d _ s.1;omega theorem Zev:∀(o:bI W)(d n:Int),-1<=n->-1<=wA o d n/\wA o d n<=n
 |⟨_,_,l,e⟩,d,n,h=>by
  simp only[wA];have h1:=Lh l 80 n h;split;.omega
  .have s:=CI e d (ZT l 80 n);omega end
theorem ZDY{t n}(h:0<=qh t n):(Zo t)+qh t n<=n:=by
 unfold qh at*;split at h;.omega
 .rename_i s;rw[Q0 s];exact Bn t 80 n h
mutual theorem TE:∀(e:W)(d n:Int),0<=kD e d n->(Z1 e:Int)+kD e d n<=n
 |.mk _ o nw w ks _ os,d,n,h=>by
  simp only[kD]at h⊢;split at h;.omega
  .rename_i L;rw[Q0 L];have r1:=vK o 80 (n-1-J w-J os);have s:=Wo nw _ r1.1;have r3:=Nd ks (d-1) _ s.1;have r4:=Gp os (d-1) _ r3.1;have m4:=ZhC os (d-1) _ h;have m3:=ZhD ks (d-1) (qh nw (Y3 o 80 (n-1-J w-J os))) O;have m2:=ZDY (t:=nw) (n:=Y3 o 80 (n-1-J w-J os)) O;have m1:=Bn o 80 (n-1-J w-J os) O;simp only[Z1];omega theorem ZhD:∀(ks:List (aW W))(d n:Int),0<=YZ ks d n->(ZM ks:Int)+YZ ks d n<=n
 |[],d,n,h=>by simp only[YZ,ZM];omega|k::r,d,n,h=>by
  simp only[YZ]at h⊢;split at h;.omega
  .rename_i L;rw[Q0 L];have s:=Zcg k d n;have r2:=Nd r d _ s.1;have m2:=ZhD r d _ h;have m1:=ZpY k d n O;simp only[ZM];omega theorem ZpY:∀(k:aW W)(d n:Int),0<=uF k d n->(JS k:Int)+uF k d n<=n|⟨_,e⟩,d,n,h=>by simp only[uF,JS]at h⊢;exact TE e d n h theorem ZhC:∀(os:List (bI W))(d n:Int),0<=mP os d n->(Zq os:Int)+mP os d n<=n
 |[],d,n,h=>by simp only[mP,Zq];omega|o::r,d,n,h=>by
  simp only[mP]at h⊢;split at h;.omega
  .rename_i L;rw[Q0 L];have s:=Zev o d n O;have r2:=Gp r d _ s.1;have m2:=ZhC r d _ h;have m1:=ZsS o d n O;simp only[Zq];omega theorem ZsS:∀(o:bI W)(d n:Int),0<=wA o d n->(Zy o:Int)+wA o d n<=n
 |⟨_,_,l,e⟩,d,n,h=>by
  simp only[wA,Zy]at h⊢;split at h;.omega
  .rename_i L;rw[Q0 L];have m2:=TE e d _ h;have s:=CI e d (ZT l 80 n);have m1:=Rz l 80 n O;omega end
theorem Vl{e}(h:0<=kD e 80 3000):Z1 e<=3000:=by have:=TE e 80 3000 h;omega
theorem ZsP(t):J t.aS+J t.X<Zo t:=by obtain⟨k,w,ks⟩:=t;have:=Zs ks;simp only[Zo,H.dz,H.dt];omega
theorem Yr(e):Zo e.bH+Zo e.new+J e.aS+J e.ops+ZM e.X+Zq e.ops<Z1 e:=by obtain⟨k,o,n,w,ks,l,os⟩:=e;simp only[Z1,W.qS,W.qN,W.dz,W.jK,W.dt];omega
theorem M3:aU Tryz.prog M 99 xx:=by refine kF (l:=cQ) trivial n8 Tryz.func99 1 λ⟨t,_⟩s=>?_;simp only[mW]at s;have:=ZsP t;refine wV (λQ=>Tk 6 (t.D==0) (((t.D==0)=Y->bQ ((( J t.aS:Int):Int)+( J t.X:Int)))/\Tk 2 (t.D==0) (Q .ret (L2 [(2,.c (.bool (bif t.D==0 then( (( J t.aS:Int):Int)+( J t.X:Int):Int)==0 else I)))] [])))) ?_ λ_ h=>Eq.mpr V4 h;(try simp only[iB,bR,Qk]);refine⟨λ_=>by unfold bQ;omega,Z9 rfl ?_⟩;rw[QA];simp only[JF];grind
theorem PW:aU Tryz.prog M 100 LU:=by refine kF (l:=ZKo) ⟨vC,trivial⟩ VP Tryz.func100 2 λ⟨w,m,_⟩s=>?_;refine wV (λQ=>iK (w,0,m,())/\Q .ret (L2 [pB 4 (( cS w 0 m:Int)==0)] [])) ?_ λ_ h=>Eq.mpr V4 h;(try simp only[iB,bR,Qk]);refine⟨⟨s.1,by grind,s.2⟩,Z9 rfl ?_⟩;try rfl
theorem UO:aU Tryz.prog M 137 MM:=by
 refine kF (l:=ZKd) ⟨M3,trivial⟩ n8 Tryz.func137 1 λ⟨e,_⟩hp=>?_;simp only[hH]at hp;have h1:=Yr e;have h2:=Yl e.X;refine wV (λQ=>∀aa,aa=e.new->∀s,s=e.bH->let z1:=bif e.D==0 then JF s else I;let z0:=bif z1 then JF aa else I;let z2:=bif z0 then( ( (( J e.aS:Int):Int)+( J e.X:Int):Int)+( J e.ops:Int):Int)==0 else I;Tk 2 (e.D==0) (((e.D==0)=Y->mW (s,()))/\Tt (e.D==0)/\Tk 2 z1 ((z1=Y->mW (aa,()))/\Tt z1/\Tk 6 z0 ((z0=Y->bQ ((( J e.aS:Int):Int)+( J e.X:Int)))/\Tk 4 z0 ((z0=Y->bQ (( (( J e.aS:Int):Int)+( J e.X:Int):Int)+( J e.ops:Int)))/\Tk 2 z0 (Tk 3 z2 (Q .ret (L2 [(2,.c (.bool (bif z2 then e.V==0 else I)))] [])))))))) ?_ λ_ h=>Eq.mpr V4 (h _ (Z7 _) _ (Z7 _));(try simp only[iB,bR,Qk]);try(simp only[vE])
 refine⟨λ_=>by simp only[mW];omega,λ_=>by simp only[mW];omega,λ_=>by unfold bQ;omega,λ_=>by unfold bQ;omega,Z9 rfl ?_⟩;rw[QA];simp only[lE];grind
theorem ZQN(e)(x4 x5 i:Int)(N0:bT U->Prop)(Q:c9->bT U->Prop)(h1:0<=x4/\x4<=1048576)(h2:0<=x5/\x5<=1048576)(hi:0<=i)(am:J e.ops<=20000000000)(ho:∀o∈e.ops,(0<=o.n/\o.n<=1048576)/\J o.l<=20000000000)(h:i<J e.ops->N0 (yY e (min (if(aR e.ops (G i) Op.nil).D=2 then x4 else x4+Z4 (aR e.ops (G i) Op.nil)) 1048576) (min (if(aR e.ops (G i) Op.nil).D=1 then x5 else x5+Z4 (aR e.ops (G i) Op.nil)) 1048576) (i+1)))(h':¬i<J e.ops->Q .ret (⟨[(2,.c (.int .i64 x4)),(3,.c (.int .i64 x5))],[],[]⟩)):ZMG e x4 x5 i N0 Q:=by
 refine ZD4 _ _ _ _ _ _ ?_;(try simp only[iB,bR,Qk]);(simp only[iB,bW]);(try simp only[iB,bR]);refine⟨λL=>?_,h'⟩;have hn:=h L;have hm:=ho _ (Zh (l:=e.ops) (i:=G i) O Op.nil);have k1:∀k,k=Z4 (aR e.ops (G i) Op.nil)->ZMK e x4 x5 i k N0 Q:=by
  intro k hk;have ax:0<=k/\k<=60000000000:=by rw[hk];unfold Z4;split<;>omega
  have k2:∀y,y=(if(aR e.ops (G i) Op.nil).D=2 then x4 else x4+k)->ZMJ e x5 i k y N0 Q:=by
   intro y hy;have aw:0<=y/\y<=100000000000:=by rw[hy];split<;>omega
   have k3:∀z,z=(if(aR e.ops (G i) Op.nil).D=1 then x5 else x5+k)->ZMI e i k y z N0 Q:=by
    intro z hz;have aq:0<=z/\z<=100000000000:=by rw[hz];split<;>omega
    have k4:∀u,u=min y 1048576->ZMH e i y z u N0 Q:=by
     intro u hu;refine ZD5 _ _ _ _ _ _ _ ?_;(try simp only[iB,bR,Qk]);(simp only[iB,bW]);(try simp only[iB,bR]);rw[<-hk,<-hy,<-hz,<-hu]at hn;refine⟨λs=>⟨V3,?_⟩,λs=>⟨V3,?_⟩⟩;.rw[show min z 1048576=1048576 by omega]at hn;exact hn
     .rw[show min z 1048576=z by omega]at hn;exact hn
    refine ZD6 _ _ _ _ _ _ _ ?_;(try simp only[iB,bR,Qk]);(simp only[iB,bW]);(try simp only[iB,bR]);exact⟨λs=>k4 _ O,λs=>k4 _ O⟩
   refine ZD7 _ _ _ _ _ _ _ ?_;(try simp only[iB,bR,Qk]);(simp only[iB,bW]);(try simp only[iB,bR]);exact⟨λs=>⟨V3,k3 _ (by rw[if_neg s])⟩,λs=>k3 _ (by rw[if_pos s])⟩
  refine ZD8 _ _ _ _ _ _ _ ?_;(try simp only[iB,bR,Qk]);(simp only[iB,bW]);(try simp only[iB,bR]);exact⟨λs=>⟨V3,k2 _ (by rw[if_neg s])⟩,λs=>k2 _ (by rw[if_pos s])⟩
 exact⟨⟨hi,L⟩,V3,λs=>k1 _ (by unfold Z4;rw[if_pos s]),λs=>k1 _ (by unfold Z4;rw[if_neg s])⟩
theorem GA:aU Tryz.prog M 102 Ai:=by
 refine kF (l:=cQ) trivial TU Tryz.func102 1 λ⟨e,_⟩hp=>?_;simp only[FF]at hp;have h1:=Yr e;refine wV (λQ=>Zi (lu [1,1,0,1,0,0]) (yY e 0 0 0) (xB 0 (jf [1,1,1] Q))) ?_ λ_ h=>Eq.mpr V4 h;(try simp only[iB,bR,Qk]);refine Z5 (ι:=Int×Int×Int) (λp=>yY e p.1 p.2.1 p.2.2) (λp=>0<=p.2.2/\p.2.2<=J e.ops/\(0<=p.1/\p.1<=1048576)/\(0<=p.2.1/\p.2.1<=1048576)/\iT (e.ops.drop (G p.2.2)) p.1=iT e.ops 0/\iR (e.ops.drop (G p.2.2)) p.2.1=iR e.ops 0) (λp=>G (( J e.ops:Int)-p.2.2)) (0,0,0) rfl ⟨by grind,by grind,O,by grind,by simp,by simp⟩ ?_;rintro⟨x4,x5,i⟩⟨h2,h3,h4,h5,s,h7⟩;dsimp only at*;have ho:∀o∈e.ops,(0<=o.n/\o.n<=1048576)/\J o.l<=20000000000:=by intro o hm;refine⟨hp.2 o hm,?_⟩;have a1:=Y9 hm;have a2:=Zs o.l;rw[ZZ]at a1;omega
 refine ZQN e x4 x5 i _ _ h4 h5 h2 O ho (λL=>⟨(_,_,i+1),rfl,⟨by grind,by grind,?_,?_,?_,?_⟩,by grind⟩) λL=>?_;.have hm:=ho _ (Zh (l:=e.ops) (i:=G i) O Op.nil);dsimp only;unfold Z4;omega
 .have hm:=ho _ (Zh (l:=e.ops) (i:=G i) O Op.nil);dsimp only;unfold Z4;omega
 .rw[ZO h2 L Op.nil]at s;exact s
 .rw[ZO h2 L Op.nil]at h7;exact h7
 .rw[Qb O]at s h7;simp only[iT,iR]at s h7;simp only[ZEO,<-s,<-h7];exact⟨⟨rfl,⟨⟨rfl,rfl⟩,trivial⟩,rfl,⟨⟨rfl,rfl⟩,trivial⟩,trivial⟩,trivial⟩
theorem ZvE{l:List bP}{d n}(h:n<0):YZ l d n=n:=by cases l<;>simp[YZ,h]
theorem ZvD{l:List Op}{d n}(h:n<0):mP l d n=n:=by cases l<;>simp[mP,h]
theorem ZoG{l d n}(h:n<0):ZT l d n=n:=by cases l<;>simp[ZT,h]
theorem ZzU{e}(h:pO e):kg e.bH/\kg e.new/\J e.aS<=17592186044416/\J e.X<=17592186044416/\J e.ops<=17592186044416/\Bx e.X/\A9 e.ops:=by obtain⟨k,o,n,w,ks,l,os⟩:=e;exact h
theorem ZGt(e)(d n):kD e d n=if d=0\/n-1-J e.aS-J e.ops<0 then-1 else mP e.ops (d-1) (YZ e.X (d-1) (qh e.new (Y3 e.bH 80 (n-1-J e.aS-J e.ops)))):=by obtain⟨k,o,h,w,ks,l,os⟩:=e;rfl
theorem c91:aU Tryz.prog M 91 SZ:=by
 refine ZQr Fu ?_;rintro N e d n _ hp hN;simp only[xA,uP]at hp hN;obtain⟨hs,bh,bj,a5,bb⟩:=hp;obtain⟨so,sn,lw,lk,lo,sk,aq⟩:=ZzU hs;have a8:=Yr e;have s:=ZGt e d n;refine ZWy N e d n _ ?_;(try simp only[iB,bR,Qk]);(simp only[iB,bW]);(try simp only[iB,bR]);try(simp only[vE])
 refine⟨V3,V3,V3,λL=>YO rfl (by rw[s,if_pos L]),λL=>?_⟩;rw[Q0 O]at s;have r1:=vK e.bH 80 (n-1-J e.aS-J e.ops);have ae:∀t m,kg t->-1<=m->m<=4611686018427387904->ub (t,80,m,()):=λt m h1 h2 h3=>⟨h1,V2,V2,h2,h3⟩;have k0:∀x,x=qh e.new (Y3 e.bH 80 (n-1-J e.aS-J e.ops))->ZT3 N e d n x (ZB M Tryz.f91.ntmps Tryz.f91.results.toList (FD (e,d,n,())) []):=by
  intro x hx;have rx:=Wo e.new _ r1.1;rw[<-hx]at rx s;refine ZI2 N e d n x _ ?_;(try simp only[iB,bR,Qk]);refine Z5 (ι:=Int×Int) (λp=>L3 e d n p.1 p.2) (λp=>0<=p.2/\p.2<=J e.X/\-1<=p.1/\p.1<=4611686018427387904/\YZ (e.X.drop (G p.2)) (d-1) p.1=YZ e.X (d-1) x) (λp=>G (( J e.X:Int)-p.2)) (x,0) rfl ⟨V2,V2,V2,V2,by simp⟩ ?_;rintro⟨y,i⟩⟨h1,h2,h3,h4,h5⟩;dsimp only at*;refine ZI1 N e d n y i _ _ ?_;(try simp only[iB,bR,Qk]);(simp only[iB,bW]);(try simp only[iB,bR]);try(simp only[vE])
  refine⟨λhi=>?_,λhi=>?_⟩
  .have aa:=Zh (l:=e.X) (i:=G i) O (aW.mk 0 W.nil);have ab:=ZgW sk aa;have ah:=JC aa;rw[ZO h1 hi.1 (aW.mk 0 W.nil)]at h5;simp only[YZ]at h5;rw[Q0 O,ZAN]at h5;have rr:=CI (aR e.X (G i) (aW.mk 0 W.nil)).e (d-1) y;exact⟨⟨h1,hi.1⟩,V3,⟨ab,V2,V2,h3,h4⟩,by simp only[uP];omega,V3,(_,i+1),rfl,⟨V2,V2,V2,V2,h5⟩,V2⟩
  .have hy:YZ e.X (d-1) x=y:=by
    rw[<-h5];by_cases hlt:i<J e.X;.exact ZvE O
    .rw[Qb O];try rfl
   rw[hy]at s;refine Z5 (ι:=Int×Int) (λp=>Cp e d n p.1 p.2) (λp=>0<=p.2/\p.2<=J e.ops/\-1<=p.1/\p.1<=4611686018427387904/\mP (e.ops.drop (G p.2)) (d-1) p.1=mP e.ops (d-1) y) (λp=>G (( J e.ops:Int)-p.2)) (y,0) rfl ⟨V2,V2,h3,h4,by simp⟩ ?_;rintro⟨z,j⟩⟨h6,h7,h8,h9,h⟩;dsimp only at*;refine ZI0 N e d n z j _ _ ?_;(try simp only[iB,bR,Qk]);(simp only[iB,bW]);(try simp only[iB,bR]);refine⟨λhj=>?_,λhj=>?_⟩
   .have aa:=Zh (l:=e.ops) (i:=G j) O Op.nil;have ab:=ZgV aq aa;have ah:=Y9 aa;rw[ZZ]at ah;rw[ZO h6 hj.1 Op.nil]at h;simp only[mP]at h;rw[Q0 O,ZGs]at h;refine Z5 (ι:=Int×Int) (λp=>Mq e d n j p.1 p.2) (λp=>0<=p.2/\p.2<=(aR e.ops (G j) Op.nil).l.length/\-1<=p.1/\p.1<=4611686018427387904/\ZT ((aR e.ops (G j) Op.nil).l.drop (G p.2)) 80 p.1=ZT (aR e.ops (G j) Op.nil).l 80 z) (λp=>G (((aR e.ops (G j) Op.nil).l.length:Int)-p.2)) (z,0) rfl ⟨V2,V2,h8,h9,by simp⟩ ?_;rintro⟨u,k⟩⟨g1,g2,g3,g4,g5⟩;dsimp only at*;refine ZHZ N e d n j u k _ _ _ ?_;(try simp only[iB,bR,Qk]);(simp only[iB,bW]);(try simp only[iB,bR]);try(simp only[vE])
    refine⟨⟨h6,hj.1⟩,λhk=>?_,λhk=>?_⟩
    .have av:=Zh (l:=(aR e.ops (G j) Op.nil).l) (i:=G k) O H.nil;rw[ZO g1 hk.1 H.nil]at g5;simp only[ZT]at g5;rw[Q0 O]at g5;have rr:=vK ((aR e.ops (G j) Op.nil).l.getD (G k) H.nil) 80 u;exact⟨⟨h6,hj.1⟩,⟨g1,hk.1⟩,ae _ _ (Zjj ab.2.1 av) g3 g4,V3,(_,k+1),rfl,⟨V2,V2,V2,V2,g5⟩,V2⟩
    .have hu:ZT (aR e.ops (G j) Op.nil).l 80 z=u:=by
      rw[<-g5];by_cases hlt:k<(aR e.ops (G j) Op.nil).l.length;.exact ZoG O
      .rw[Qb O];try rfl
     rw[hu]at h;have rr:=CI (aR e.ops (G j) Op.nil).e (d-1) u;refine⟨λhq=>⟨⟨h6,hj.1⟩,V3,⟨ab.2.2,V2,V2,g3,g4⟩,by simp only[uP];omega,V3,(_,j+1),rfl,⟨V2,V2,V2,V2,?_⟩,V2⟩,λhq=>⟨V3,(_,j+1),rfl,⟨V2,V2,V2,V2,?_⟩,V2⟩⟩;.rw[Q0 O]at h;exact h
     .rw[Q5 O]at h;exact h
   .refine YO rfl ?_;rw[s,<-h];by_cases hlt:j<J e.ops;.exact(ZvD O).symm
    .rw[Qb O];try rfl
 refine⟨ae _ _ so O O,λhq=>⟨ae _ _ sn r1.1 O,k0 _ ?_⟩,λhq=>k0 _ ?_⟩;.unfold qh;rw[V5]
 .unfold qh;rw[V6]
theorem c45:aU Tryz.prog M 45 ZDJ:=by
 refine kF (l:=ZR0) ⟨c91,trivial⟩ n8 Tryz.func45 1 λ⟨e,_⟩s=>?_;refine wV (λQ=>let z0:=W.mk e.D (H.mk e.bH.D e.bH.aS e.bH.X) (H.mk e.new.D e.new.aS e.new.X) e.aS e.X e.V e.ops;xA (z0,80,3000,())/\Q .ret (L2 [(2,.c (.bool (decide ((0:Int)<=kD z0 80 3000))))] [])) ?_ λ_ h=>Eq.mpr V4 h;(try simp only[iB,bR,Qk]);try(simp only[vE])
 exact⟨⟨s,by grind,by grind,by grind,by grind⟩,Z9 rfl rfl⟩
theorem D7(e)(d):Z3 e d=if d=0\/e.D<0\/3<e.D then I else if e.D≠1/\¬(JF e.bH=Y/\JF e.new=Y)\/e.D≠2/\¬( J e.aS=0/\J e.X=0)\/e.D≠3/\(e.V≠0\/J e.ops≠0)then I else if e.D=1 then Zf e.bH (dT d)&&Zf e.new (dT d)&&decide (e.bH.D≠10/\e.new.D≠10)else Ya (-1) e.aS&&ZJ (-1) e.X (d-1)&&decide ¬(e.D=3/\(e.V<2\/9<e.V))&&ZK e.V e.ops (d-1)&&decide (iT e.ops 0<1048576/\iR e.ops 0<1048576):=by obtain⟨k,o,h,w,ks,l,os⟩:=e;rfl
theorem FT(h)(k:bP)(d):n7 h k d=(decide (h<k.S/\k.S<=65534/\k.e.D≠0)&&Z3 k.e d):=by cases k;rfl
theorem rI(V)(o:Op)(d):Zg V o d=if o.D=0 then decide (1<=o.n/\o.n<=1048576/\J o.l=0)&&lE o.e else if o.n≠0\/o.D<0\/3<o.D then I else if o.D<3 then Jx (dT d) V o.l&&decide (0<J o.l)&&lE o.e else decide ( J o.l=0/\o.e.D≠0/\7<V)&&Z3 o.e d&&decide (V=8\/o.e.D=2\/o.e.D=1/\o.e.bH.D=1/\o.e.new.D=1):=by cases o;rfl
theorem Hq{V}{o:Op}{d}(h:Zg V o d=Y):0<=o.n/\o.n<=1048576:=by rw[rI]at h;grind
theorem bM{V d}:∀{os:List Op}{o},ZK V os d=Y->o∈os->Zg V o d=Y
 |x::r,o,h,hm=>by
  simp only[ZK,Q9]at h;rcases Qe.1 hm with rfl|hm;.exact h.1
  .exact bM h.2 hm
theorem Zh4{d}:∀{ks:List bP}{s k},ZJ s ks d=Y->k∈ks->Z3 k.e d=Y/\k.e.D≠0
 |x::r,s,k,h,hm=>by
  simp only[ZJ,Q9]at h;rcases Qe.1 hm with rfl|hm;.have:=h.1;rw[FT]at this;grind
  .exact Zh4 h.2 hm
theorem uo{e}(h:Ye e):bQ e.D/\ei e.bH/\ei e.new/\(∀x∈e.aS,gN x)/\bQ e.V/\kG e.X/\jQ e.ops:=by obtain⟨k,o,n,w,ks,l,os⟩:=e;exact h
theorem b64:ZWa:=by
 intro N e d _ hp hN;simp only[vJ,v9]at hp hN;obtain⟨⟨hm,hr⟩,a4,bg⟩:=hp;obtain⟨ik,ro,rn,a3,il,rk,az⟩:=uo hr;have a8:=Yr e;have bh:=Yl e.X;have bd:=Y4 e.ops;have s:=D7 e d;rw[NZ a4]at s;refine wV (λQ=>∀aj,aj=e.new->∀ae,ae=e.bH->let z8:=Q .ret (L2 [pB 4 I] []);let z6:=e.D !=1&&JF ae;let z4:=bif Zf ae 64 then Zf aj 64 else I;let z7:=bif z4 then e.bH.D !=10 else I;let z2:=bif d==0 then Y else decide (e.D<0);let z1:=bif e.D !=1 then ! bif JF ae then JF aj else I else I;let z5:=!z1&&e.D !=2;let z0:=bif z1 then Y else bif e.D !=2 then decide ((0:Int)<(( J e.aS:Int):Int)+( J e.X:Int))else I;let z3:=!z0&&e.D !=3;Tk 2 (! d==0) (((d==0)=I->(! d==0)=Y)/\Tk 2 (!z2) ((z2=I->(!z2)=Y)/\iB (bif z2 then Y else decide ((3:Int)<e.D)) z8 (Tk 2 (e.D !=1) (((e.D !=1)=Y->mW (ae,()))/\Tt (e.D !=1)/\Tk 2 z6 ((z6=Y->mW (aj,()))/\((e.D !=1)=Y->True->(e.D !=1)=Y)/\((e.D !=1)=Y->JF ae=Y->z6=Y)/\Tk 2 (e.D !=1) (Tk 3 (!z1) (Tk 6 z5 ((z5=Y->bQ ((( J e.aS:Int):Int)+( J e.X:Int)))/\Tt z5/\((!z1)=Y->True->(!z1)=Y)/\((!z1)=Y->(e.D !=2)=Y->z5=Y)/\(z1=I->(!z1)=Y)/\Tk 3 (!z0) (Tk 3 z3 (Tk 3 (z3&&! e.V !=0) ((z3=Y->True->z3=Y)/\(z3=Y->(e.V !=0)=I->(z3&&! e.V !=0)=Y)/\((!z0)=Y->True->(!z0)=Y)/\((!z0)=Y->(e.D !=3)=Y->z3=Y)/\(z0=I->(!z0)=Y)/\iB (bif z0 then Y else bif e.D !=3 then bif e.V !=0 then Y else decide ((0:Int)<( J e.ops:Int))else I) z8 (iB (e.D==1) ( pd (ae,64,())/\Tk 2 (Zf ae 64) (( Zf ae 64=Y->pd (aj,64,()))/\Tt (Zf ae 64)/\Tk 4 z4 (Tk 4 z7 (Q .ret (L2 [(4,.c (.bool (bif z7 then e.new.D !=10 else I)))] []))))) (Zi (Ah N [1,1,1,1,1,0,1,0,0]) (Lq e d (-1) 0) (xB 0 (BE N [1,1,1,1,1,1] Q)))))))))))))))) ?_ λ_ h=>Eq.mpr V4 (h _ (Z7 _) _ (Z7 _));(try simp only[iB,bR,Qk]);(simp only[iB,bW]);(try simp only[iB,bR]);(try simp only[uy]);try(simp only[vE])
 refine⟨λL=>Z9 rfl (by rw[s,Q5 O]),λL=>?_⟩;rw[Q0 O]at s;refine⟨λ_=>by simp only[mW];omega,λ_=>by simp only[mW];omega,λ_=>by unfold bQ;omega,λhf=>Z9 rfl ?_,λhf=>⟨λh1=>⟨⟨V2,ro,V2,V2⟩,λ_=>⟨V2,rn,V2,V2⟩,Z9 rfl ?_⟩,λh1=>?_⟩⟩
 .rw[s,Q5];rcases hf with(hf|hf)|hf
  .left;refine⟨hf.1,λh=>?_⟩;rcases hf.2 with h2|h2;.rw[h.1]at h2;cases h2
   .rw[h.2]at h2;cases h2
  .right;left;omega
  .right;right;omega
 .rw[s,Q0,Q5 h1,QA]
  ·(simp only[iB,bW]);constructor;.rintro⟨⟨⟨h2,h3⟩,h4⟩,h5⟩;exact⟨⟨h2,h3⟩,h4,h5⟩
   .rintro⟨⟨h2,h3⟩,h4,h5⟩;exact⟨⟨⟨h2,h3⟩,h4⟩,h5⟩
  .intro h;rcases h with h|h|h;.exact h.1 h1
   .omega
   .omega
 .rw[Q0,Q0 h1]at s
  .refine Z5 (ι:=Int×Int) (λp=>Lq e d p.1 p.2) (λp=>0<=p.2/\p.2<=J e.aS/\Ya p.1 (e.aS.drop (G p.2))=Ya (-1) e.aS) (λp=>G (( J e.aS:Int)-p.2)) (-1,0) rfl ⟨V2,V2,by simp⟩ ?_;rintro⟨ai,i⟩⟨h2,h3,h4⟩;dsimp only at*;refine ZIj N e d ai i _ _ ?_;(try simp only[iB,bR,Qk]);(simp only[iB,bW]);(try simp only[iB,bR]);(try simp only[uy]);try(simp only[vE])
   refine⟨λhi=>?_,λhi=>?_⟩
   .have aa:=Zh (l:=e.aS) (i:=G i) O (aV.mk 0 0 0 0);have am:=a3 _ aa;rw[ZO h2 hi (aV.mk 0 0 0 0)]at h4;simp only[Ya]at h4;generalize aR e.aS (G i) (aV.mk 0 0 0 0)=w at*;obtain⟨_,av,ax,a1⟩:=am;refine⟨⟨h2,hi⟩,λ_=>⟨ax,av⟩,λ_=>⟨a1,av⟩,λhq=>Z9 rfl ?_,λhq=>⟨V3,(_,i+1),rfl,⟨V2,V2,?_⟩,V2⟩⟩
    .rw[s,<-h4];rcases hq with(hq|hq)|hq;.rw[Xe O];try rfl
     .rw[hq];simp
     .rw[hq];simp
    .dsimp only;rw[<-h4,QD O,hq.1.2,hq.2];try rfl
   .have hw:Ya (-1) e.aS=Y:=by rw[<-h4,Qb O];try rfl
    rw[hw,X6]at s;refine Z5 (ι:=Int×Int) (λp=>Nt e d p.1 p.2) (λp=>0<=p.2/\p.2<=J e.X/\ZJ p.1 (e.X.drop (G p.2)) (d-1)=ZJ (-1) e.X (d-1)) (λp=>G (( J e.X:Int)-p.2)) (-1,0) rfl ⟨V2,V2,by simp⟩ ?_;rintro⟨ai,i⟩⟨h2,h3,h4⟩;dsimp only at*;refine ZIi N e d ai i _ _ ?_;(try simp only[iB,bR,Qk]);(simp only[iB,bW]);(try simp only[iB,bR]);(try simp only[uy]);try(simp only[vE])
    refine⟨λhi=>?_,λhi=>?_⟩
    .have aa:=Zh (l:=e.X) (i:=G i) O (aW.mk 0 W.nil);have am:=Y6 rk aa;have a2:=JC aa;rw[ZO h2 hi (aW.mk 0 W.nil)]at h4;simp only[ZJ,FT]at h4;generalize aR e.X (G i) (aW.mk 0 W.nil)=w at*;refine⟨⟨h2,hi⟩,λ_=>by unfold bQ;omega,λ_=>⟨⟨V2,am.2⟩,V2,V2⟩,λ_=>by simp only[v9];omega,λhq=>Z9 rfl ?_,λhq=>⟨V3,(_,i+1),rfl,⟨V2,V2,?_⟩,V2⟩⟩
     .rw[s,<-h4];rcases hq with hq|hq;.rw[Xe O];try rfl
      .rw[hq];simp
     .dsimp only;rw[<-h4,QD O,hq.2];try rfl
    .have hw:ZJ (-1) e.X (d-1)=Y:=by rw[<-h4,Qb O];try rfl
     rw[hw,X6]at s;refine⟨λhq=>Z9 rfl (by rw[s,Xe O];rfl),λhq=>?_⟩;rw[QD O,X6]at s;refine Z5 (ι:=Int) (λp=>L7 e d p) (λp=>0<=p/\p<=J e.ops/\ZK e.V (e.ops.drop (G p)) (d-1)=ZK e.V e.ops (d-1)) (λp=>G (( J e.ops:Int)-p)) 0 rfl ⟨O,O,by simp⟩ ?_;rintro j⟨h5,h6,h7⟩;refine ZIh N e d j _ _ ?_;(try simp only[iB,bR,Qk]);(simp only[iB,bW]);(try simp only[iB,bR]);(try simp only[uy]);try(simp only[vE])
     refine⟨λhj=>?_,λhj=>?_⟩
     .have aa:=Zh (l:=e.ops) (i:=G j) O Op.nil;have ay:=qe az aa;have a2:=Y9 aa;rw[ZO h5 hj Op.nil]at h7;simp only[ZK]at h7;generalize aR e.ops (G j) Op.nil=o at*;refine⟨⟨h5,hj⟩,V3,⟨⟨by show Zy o<=20000000000;omega,ay,il⟩,V2,V2⟩,?_,λhq=>Z9 rfl ?_,λhq=>⟨V3,j+1,rfl,⟨O,O,?_⟩,O⟩⟩;.show 2*Zy o+1<N;omega
      .have al:Zg e.V o (d-1)=I:=hq;rw[s,<-h7,al];try rfl
      .have al:Zg e.V o (d-1)=Y:=hq;rw[<-h7,al];try rfl
     .have hw:ZK e.V e.ops (d-1)=Y:=by rw[<-h7,Qb O];try rfl
      rw[hw,X6]at s;refine⟨⟨hm,λo ho=>Hq (bM hw ho)⟩,Z9 rfl ?_⟩;rw[s,QA];(simp only[iB,bW])
  .intro h;rcases h with h|h|h
   .rcases hf.1.1 with h2|h2;.exact h1 h2
    .exact h.2 h2
   .omega
   .omega
theorem ZlT{l}{i:Int}(s:0<=i)(h:i<J l):List.drop (G i) (l.take (G (i+1)))=[aR l (G i) H.nil]:=by rw[List.drop_take,show G (i+1)-G i=1 by omega,ZO s h H.nil];try rfl
theorem ZXK:ZPd:=by
 intro N V o d _ hp hN;simp only[EC,Cc]at hp hN;obtain⟨⟨hm,hr,ak⟩,ai,ao⟩:=hp;obtain⟨ik,a3,rl,re⟩:=Jr hr;rw[ZZ]at hm hN;have a2:=Zs o.l;have a6:=AU o.e;have s:=rI V o d;rw[NZ ai,ZfA]at s;refine wV (λQ=>∀aa,aa=o.e->let z8:=Q .ret (L2 [pB 6 I] []);let z7:=bif decide ((1:Int)<=o.n)then decide (o.n<=1048576)else I;let z5:=bif o.n !=0 then Y else decide (o.D<0);let z4:=bif o.e.D==1 then o.e.bH.D==1 else I;let z3:=decide ((0:Int)<( J o.l:Int));let z6:=bif z3 then Y else o.e.D==0;let z2:=bif z7 then(( J o.l:Int):Int)==0 else I;let z1:=bif V==8 then Y else o.e.D==2;let z0:=bif z6 then Y else decide (V<=7);iB (o.D==0) (Tk 3 (decide ((1:Int)<=o.n)) (Tk 4 z7 (Tk 2 z2 ((z2=Y->hH (aa,()))/\Tt z2/\Q .ret (L2 [(6,.c (.bool (bif z2 then lE aa else I)))] []))))) (Tk 2 (! o.n !=0) (((o.n !=0)=I->(! o.n !=0)=Y)/\Tk 2 (!z5) ((z5=I->(!z5)=Y)/\iB (bif z5 then Y else decide ((3:Int)<o.D)) z8 (iB (decide (o.D<3)) (Zi (ZWx N [1,1,1,0,1,0,0,1,0,0]) (FJ V o d 0) (xB 0 (GN N [1,1,1,0,1,0,1] (GN N [1,1,1,1] Q)))) (Tk 3 (!z3) ((z3=I->(!z3)=Y)/\Tt !z6/\(z6=I->(!z6)=Y)/\Tk 3 (!z0) (((!z0)=Y->vJ (aa,d,()))/\((!z0)=Y->v9 (aa,d,())<N)/\Tt !z0/\(z0=I->(!z0)=Y)/\iB (bif z0 then Y else ! Z3 aa d) z8 (Tk 3 (! V==8) (((V==8)=I->! V==8=Y)/\Tk 4 (!z1) (Tk 4 ( !z1&&o.e.D==1) (((!z1)=Y->True->(!z1)=Y)/\((!z1)=Y->(o.e.D==1)=Y->( !z1&&o.e.D==1)=Y)/\Tt !z1/\Tk 4 ( !z1&&z4) (((!z1)=Y->True->(!z1)=Y)/\((!z1)=Y->z4=Y->( !z1&&z4)=Y)/\(z1=I->(!z1)=Y)/\Q .ret (L2 [(6,.c (.bool (bif z1 then Y else bif z4 then o.e.new.D==1 else I)))] [])))))))))))))) ?_ λ_ h=>Eq.mpr V4 (h _ (Z0 _));(try simp only[iB,bR,Qk]);(simp only[iB,bW]);(try simp only[iB,bR]);(try simp only[uy]);try(simp only[vE])
 refine⟨λh0=>⟨λ_=>by simp only[hH];omega,Z9 rfl ?_⟩,λh0=>⟨λL=>Z9 rfl ?_,λL=>⟨λh3=>?_,λh3=>⟨λ_=>⟨⟨V2,re⟩,ai,ao⟩,λ_=>by simp only[v9];omega,λhq=>Z9 rfl ?_,λhq=>Z9 rfl ?_⟩⟩⟩⟩
 .rw[s,Q5 h0,QA];(simp only[iB,bW]);constructor;.rintro⟨h1,h2⟩;exact⟨O,h2⟩
  .rintro⟨h1,h2⟩;exact⟨O,h2⟩
 .rw[s,Q0 h0,Q5 O]
 .rw[Q0 h0,Q0 O,Q5 h3]at s;refine Z5 (ι:=Int) (λp=>FJ V o d p) (λp=>0<=p/\p<=J o.l/\nT V (o.l.drop (G p))=nT V o.l) (λp=>G (( J o.l:Int)-p)) 0 rfl ⟨O,O,by simp⟩ ?_;rintro i⟨h4,h5,h6⟩;refine ZD9 N V o d i _ _ ?_;(try simp only[iB,bR,Qk]);(simp only[iB,bW]);(try simp only[iB,bR]);(try simp only[uy]);try(simp only[vE])
  refine⟨λhi=>?_,λhi=>?_⟩
  .have ae:=Zh (l:=o.l) (i:=G i) O H.nil;have aq:=YW rl ae;have a5:=YM ae;rw[ZlT h4 hi];rw[ZO h4 hi H.nil]at h6;simp only[nT]at h6;generalize aR o.l (G i) H.nil=t at*;refine⟨V3,O,⟨by simp only[Zo,Ze,List.length_nil];omega,⟨ak,λx hx=>(by cases hx),aq,trivial⟩,V2,V2⟩,λhq=>Z9 rfl ?_,λhq=>⟨V3,i+1,rfl,⟨O,O,?_⟩,O⟩⟩;.rw[s,<-h6,hq];try rfl
   .rw[<-h6,hq];try rfl
  .have hw:nT V o.l=Y:=by rw[<-h6,Qb O];try rfl
   rw[hw,X6]at s;refine⟨λ_=>by simp only[hH];omega,Z9 rfl ?_⟩;rw[s,QA];(simp only[iB,bW]);simp only[Int.natCast_pos]
 .rw[s,Q0 h0,Q0 O,Q0 h3];rcases hq with hq|hq;.have:¬( J o.l=0/\o.e.D≠0/\7<V):=O;rw[Xe this];try rfl
  .rw[hq];simp
 .rw[s,Q0 h0,Q0 O,Q0 h3,hq.2];have:J o.l=0/\o.e.D≠0/\7<V:=O;rw[QD this,QA];(simp only[iB,bW]);simp only[Xw,Bool.and_true,Qh,and_assoc,or_assoc]
theorem ZHg:aU Tryz.prog M 64 Nw/\aU Tryz.prog M 101 ZxJ:=ZAG M3 PW UO Aj GA b64 ZXK
theorem ZAL(e):pJ e=(decide (iT e.ops 0<=2000/\iR e.ops 0<=2000)&&yb e.X&&Ac e.ops):=by obtain⟨k,o,h,w,ks,l,os⟩:=e;rfl
theorem ZsN(k:bP):ZsO k=pJ k.e:=by cases k;rfl
theorem Zvx(o:Op):ZyV o=pJ o.e:=by cases o;rfl
theorem Nu{e d}(h:Z3 e d=Y):(∀k∈e.X,Z3 k.e (d-1)=Y/\k.e.D≠0)/\∀o∈e.ops,Zg e.V o (d-1)=Y:=by
 rw[D7]at h;split at h;.cases h
 .split at h;.cases h
  .rename_i h1 h2;split at h;.grind
   .simp only[Q9]at h;exact⟨λk s=>Zh4 h.1.1.1.2 s,λo ho=>bM h.1.2 ho⟩
theorem ZrG{e}(h:lE e=Y):e.D=0/\JF e.bH=Y/\JF e.new=Y/\e.aS=[]/\e.X=[]/\e.ops=[]/\e.V=0:=by simp only[lE,Q9,Qh]at h;grind
theorem ZgY{e}(h:lE e=Y)(d)(hd:d≠0):Z3 e d=Y:=by obtain⟨s,h2,h3,h4,h5,h6,h7⟩:=ZrG h;rw[D7,s,h2,h3,h4,h5,h6,h7,Q0 O,Q0 (by simp),Q0 O];try rfl
theorem ZlJ{V}{o:Op}{d}(h:Zg V o d=Y):∃s,Z3 o.e s=Y:=by
 rw[rI]at h;split at h
 .simp only[Q9]at h;exact⟨1,ZgY h.2 1 O⟩
 .split at h;.cases h
  .split at h;.simp only[Q9]at h;exact⟨1,ZgY h.2 1 O⟩
   grind
theorem c65:aU Tryz.prog M 65 ZDH:=by
 refine Jj (μ:=oh) (l:=[(102,Ai)]) ZN rfl ⟨GA,trivial⟩ Ot Tryz.func65 rfl rfl 1 (λ_=>rfl) V1 λN⟨e,_⟩hp hN=>?_;simp only[Bu,oh]at hp hN;obtain⟨⟨hm,hr⟩,dd,aq⟩:=hp;obtain⟨ik,ro,rn,a3,il,rk,al⟩:=uo hr;have az:=Yr e;have a7:=Yl e.X;have a4:=Y4 e.ops;have ae:=ZAL e;obtain⟨am,ai⟩:=Nu aq;refine wV (λQ=>∀aa,aa=e->let z0:=decide ((2000:Int)<iT aa.ops 0);FF (aa,())/\Tt !z0/\(z0=I->(!z0)=Y)/\iB (bif z0 then Y else decide ((2000:Int)<iR aa.ops 0)) (Q .ret (L2 [pB 2 I] [])) (Zi (LS N [1,1,1,0,1,0,0]) (GO e 0) (xB 0 (Ha N [1,1,1,1] Q)))) ?_ λ_ h=>Eq.mpr V4 (h _ (Z0 _));(try simp only[iB,bR,Qk]);(simp only[iB,bW]);(try simp only[iB,bR]);(try simp only[uy]);try(simp only[vE])
 refine⟨⟨hm,λo ho=>Hq (ai o ho)⟩,λhq=>Z9 rfl (by grind),λhq=>?_⟩;rw[QD O,X6]at ae;refine Z5 (ι:=Int) (λp=>GO e p) (λp=>0<=p/\p<=J e.X/\yb (e.X.drop (G p))=yb e.X) (λp=>G (( J e.X:Int)-p)) 0 rfl ⟨O,O,by simp⟩ ?_;rintro i⟨h4,h5,h6⟩;refine ZIg N e i _ _ ?_;(try simp only[iB,bR,Qk]);(simp only[iB,bW]);(try simp only[iB,bR]);(try simp only[uy]);try(simp only[vE])
 refine⟨λhi=>?_,λhi=>?_⟩;.have s:=Zh (l:=e.X) (i:=G i) O (aW.mk 0 W.nil);have af:=Y6 rk s;have aj:=JC s;have ah:=am _ s;rw[ZO h4 hi (aW.mk 0 W.nil)]at h6;simp only[yb,ZsN]at h6;generalize aR e.X (G i) (aW.mk 0 W.nil)=k at*;refine⟨⟨h4,hi⟩,⟨⟨by grind,af.2⟩,_,ah.1⟩,by simp only[oh];omega,λhq=>Z9 rfl (by grind),λhq=>⟨V3,i+1,rfl,⟨O,O,by grind⟩,O⟩⟩
 .have hw:yb e.X=Y:=by rw[<-h6,Qb O];try rfl
  rw[hw,X6]at ae;refine Z5 (ι:=Int) (λp=>Ig e p) (λp=>0<=p/\p<=J e.ops/\Ac (e.ops.drop (G p))=Ac e.ops) (λp=>G (( J e.ops:Int)-p)) 0 rfl ⟨O,O,by simp⟩ ?_;rintro j⟨g4,g5,g6⟩;refine ZIf N e j _ _ ?_;(try simp only[iB,bR,Qk]);(simp only[iB,bW]);(try simp only[iB,bR]);(try simp only[uy]);try(simp only[vE])
  refine⟨λhi=>?_,λhi=>?_⟩;.have s:=Zh (l:=e.ops) (i:=G j) O Op.nil;have af:=Jr (qe al s);have aj:=Y9 s;have ah:=ZlJ (ai _ s);rw[ZZ]at aj;rw[ZO g4 hi Op.nil]at g6;simp only[Ac,Zvx]at g6;generalize aR e.ops (G j) Op.nil=o at*;refine⟨⟨g4,hi⟩,⟨⟨by grind,af.2.2.2⟩,ah⟩,by simp only[oh];omega,λhq=>Z9 rfl (by grind),λhq=>⟨V3,j+1,rfl,⟨O,O,by grind⟩,O⟩⟩
  .refine Z9 rfl ?_;rw[ae,<-g6,Qb O];try rfl
end Go.AM.YtpjenobkibfpcaaGreat
namespace Go.AM
noncomputable def kf{α:Type}(a b:α):Bool:=@decide (a=b) (Classical.propDecidable _)
theorem Yz{α}{a b:α}:kf a b=Y↔a=b:=by unfold kf;grind
@[simp]theorem ZVm{α}(a:α):kf a a=true:=Yz.2 rfl
def ZD(o:Op)(n:Int):Op:=if Z4 o<=n then o else if o.D=0 then⟨o.D,n,o.l,o.e⟩else⟨o.D,o.n,o.l.take (G n),o.e⟩
def iN(o:Op)(n:Int):Op:=if o.D=0 then⟨o.D,o.n-n,o.l,o.e⟩else⟨o.D,o.n,o.l.drop (G n),o.e⟩
def ZP(l:List Op)(n:Int):List Op:=if Z4 (aR l 0 Op.nil)<=n then l.drop 1 else iN (aR l 0 Op.nil) n::l.drop 1
def gL(a:Int)(l:List Op):Bool:=decide ( J l≠0/\(aR l 0 Op.nil).D=a)
def ZH(o:Op):Prop:=o.D=0/\o.l=[]/\(1<=o.n/\o.n<=1048576)/\o.e=W.nil\/(o.D=1\/o.D=2)/\o.n=0/\o.l≠[]/\o.e=W.nil\/o.D=3/\o.n=0/\o.l=[]
def o4(l:List Op):Prop:=(∀o∈l,ZH o)/\Zq l<=20000000000
theorem Yw(l)(n)(h:J l≠0):J (ZP l n)<=J l:=by unfold ZP;grind
theorem Yv(l)(n)(h:J l≠0)(s:Z4 (aR l 0 Op.nil)<=n):J (ZP l n)<J l:=by unfold ZP;grind
def ZC(ap s:Int)(p q:List Op)(bB:List cm):List cm×Bool×List Op×List Op:=if h:gL ap p=Y then ZC ap s (p.drop 1) q (bB++[⟨1,aR p 0 Op.nil,Op.nil⟩])else if h2:gL s q=Y then ZC ap s p (q.drop 1) (bB++[⟨2,Op.nil,aR q 0 Op.nil⟩])else if h3:J p=0\/J q=0 then if decide ( J p=0)=decide ( J q=0)then(bB,Y,p,q)else([],I,p,q)else ZC ap s (ZP p (min (Z4 (aR p 0 Op.nil)) (Z4 (aR q 0 Op.nil)))) (ZP q (min (Z4 (aR p 0 Op.nil)) (Z4 (aR q 0 Op.nil)))) (bB++[⟨0,ZD (aR p 0 Op.nil) (min (Z4 (aR p 0 Op.nil)) (Z4 (aR q 0 Op.nil))),ZD (aR q 0 Op.nil) (min (Z4 (aR p 0 Op.nil)) (Z4 (aR q 0 Op.nil)))⟩])termination_by J p+J q decreasing_by
 .have:=(X7 h).1;grind
 .have:=(X7 h2).1;grind
 .rcases KS (Z4 (aR p 0 Op.nil)) (Z4 (aR q 0 Op.nil))with hm|hm;.have a:=Yv p _ O (Qz (Z4 (aR p 0 Op.nil)));have b:=Yw q (Z4 (aR p 0 Op.nil)) O;grind
  .have a:=Yv q _ O (Qz (Z4 (aR q 0 Op.nil)));have b:=Yw p (Z4 (aR q 0 Op.nil)) O;grind
def Je(i bV:Int)(o:Op):List bJ:=(if o.D=0 then List.replicate (G o.n) ⟨i,0,H.nil,W.nil,I⟩else[])++(o.l.map (λt=>⟨i,o.D,t,W.nil,decide (o.D=bV)⟩)++if o.D=3 then[⟨i,3,H.nil,o.e,I⟩]else[])
def Zn(i bV:Int):List Op->List bJ|[]=>[]|o::r=>Je i bV o++Zn (i+1) bV r
def zl:List Op->Int|[]=>0|o::r=>Z4 o+zl r
def k7(l:List bJ):Bool:=decide ( J l≠0/\(aR l 0 bJ.nil).bV=Y)
def ZI(p q:List bJ)(bB:List bK):List bK×Bool:=if h:k7 p=Y then ZI (p.drop 1) q (bB++[⟨1,aR p 0 bJ.nil,bJ.nil⟩])else if h2:k7 q=Y then ZI p (q.drop 1) (bB++[⟨2,bJ.nil,aR q 0 bJ.nil⟩])else if h3:J p=0\/J q=0 then if decide ( J p=0)=decide ( J q=0)then(bB,Y)else([],I)else ZI (p.drop 1) (q.drop 1) (bB++[⟨0,aR p 0 bJ.nil,aR q 0 bJ.nil⟩])termination_by J p+J q decreasing_by
 .have:=(X7 h).1;grind
 .have:=(X7 h2).1;grind
 grind
def cP(u:bJ):Op:=if u.D=0 then⟨0,1,[],W.nil⟩else if u.D=3 then⟨3,0,[],u.e⟩else⟨u.D,0,[u.t],W.nil⟩
def o9(o:Op)(bV:Int)(l:List bJ):Prop:=(Zn 0 bV [o]).map cP=l.map cP
def xb(bV:Int):List cm->List bK->Prop|[],m=>m=[]|x::r,m=>∃h s,m=h++s/\h≠[]/\((x.of=0\/x.of=1\/x.of=2)/\(x.of=2->x.p=Op.nil)/\(∀y∈h,y.of=x.of)/\(x.of≠2->ZH x.p/\Zy x.p<=18000000000/\Z4 x.p=J h/\o9 x.p bV (h.map bK.p))/\(x.of≠1->ZH x.q/\Zy x.q<=18000000000/\Z4 x.q=J h/\o9 x.q 2 (h.map bK.q)))/\xb bV r s
end Go.AM
namespace Go.AM.YtpjenobkibfpcaaGreat
open Go.AM Go.Proofs
noncomputable section
def CD:cF wj:=.cons (fe .op) .nil
def yK(a:wj):Prop:=Zy a.1<=20000000000/\0<=bI.n a.1/\bI.n a.1<=1048576
def ZPw(a:wj):aA U:=.c (ci (Z4 a.1))
def Of:Fs U:=fs CD (λa=>[yK a]) ZPw
def ZKS:cO CK:=.dU 0 (.cons (ff .op) (.cons (jv .i64) .nil)) .nil
def nR(a:CK):Prop:=J a.1.1<=120000000000
def ZPv(a:CK):aA U:=.c (.bool (decide ( J a.1.1=0)))
def ZIE(a:CK):List (List (C U)):=[[sU .op a.1.1 .bA,ci a.1.2.1]]
def W_:Fs U:=fo ZKS (λa=>[nR a]) ZPv ZIE
def ZPx(a:CK):aA U:=.c (.bool (gL a.1.2.1 a.1.1))
def Zx4:Fs U:=fo ZKS (λa=>[nR a]) ZPx ZIE
def ZKU:cO G4:=.dU 0 (.cons (ff .op) (.cons (jv .i64) .nil)) (.cons (J1 .i64) .nil)
def AO(a:G4):Prop:=o4 a.1.1/\J a.1.1≠0/\1<=a.2.1/\a.2.1<=120000000000
def Ix(a:G4):aA U:=.agg (enc .op (ZD (a.1.1.getD 0 Op.nil) a.2.1))
def LO(a:G4):List (List (C U)):=[[sU .op (ZP a.1.1 a.2.1) .bA,ci a.1.2.1]]
def Zx3:Fs U:=fo ZKU (λa=>[AO a]) Ix LO
def ZLm:cO Iq:=.dU 0 (.cons (ff .op) (.cons (jv .i64) .nil)) (.dU 1 (.cons (ff .op) (.cons (jv .i64) .nil)) .nil)
def HZ(a:Iq):Prop:=o4 a.1.1/\o4 a.2.1.1
def U3(a:Iq):aA U:=.tup [(I,[sU .dO (ZC a.1.2.1 a.2.1.2.1 a.1.1 a.2.1.1 []).1 .bA]),(I,[.bool (ZC a.1.2.1 a.2.1.2.1 a.1.1 a.2.1.1 []).2.1])]
def PV(a:Iq):List (List (C U)):=[[sU .op (ZC a.1.2.1 a.2.1.2.1 a.1.1 a.2.1.1 []).2.2.1 .bA,ci a.1.2.1],[sU .op (ZC a.1.2.1 a.2.1.2.1 a.1.1 a.2.1.1 []).2.2.2 .bA,ci a.2.1.2.1]]
def IL:Fs U:=fo ZLm (λa=>[HZ a]) U3 PV
def Af:cF xU:=.cons (fY .op) (.cons (fY .op) .nil)
def Il(a:xU):Prop:=o4 a.1/\o4 a.2.1
def ZPZ(a:xU):aA U:=.tup [(I,[sU .dO (ZC 2 2 a.1 a.2.1 []).1 .bA]),(I,[.bool (ZC 2 2 a.1 a.2.1 []).2.1])]
def TB:Fs U:=fs Af (λa=>[Il a]) ZPZ
def ZPE(a:xU):aA U:=.tup [(I,[sU .dO (ZC 1 2 a.1 a.2.1 []).1 .bA]),(I,[.bool (ZC 1 2 a.1 a.2.1 []).2.1])]
def Tc:Fs U:=fs Af (λa=>[Il a]) ZPE
def ZLK:cF vp:=.cons (fY .op) (.cons (J1 .i64) .nil)
def Bb(a:vp):Prop:=o4 a.1/\zl a.1<=120000000000
def ZPS(a:vp):aA U:=.c (sU .unit (Zn 0 a.2.1 a.1) .bA)
def Dy:Fs U:=fs ZLK (λa=>[Bb a]) ZPS
def ZLL:cF RV:=.cons (fY .unit) (.cons (fY .unit) .nil)
def GG(a:RV):Prop:=J a.1<=120000000000/\J a.2.1<=120000000000
def Vo(a:RV):aA U:=.tup [(I,[sU .eW (ZI a.1 a.2.1 []).1 .bA]),(I,[.bool (ZI a.1 a.2.1 []).2])]
def DE:Fs U:=fs ZLL (λa=>[GG a]) Vo
def ZLe:cF (bJ×Unit):=.cons (fe .unit) .nil
def uv(a:bJ×Unit):Prop:=True
def H7(a:bJ×Unit):aA U:=.agg (enc .op (cP a.1))
def Eu:Fs U:=fs ZLe (λa=>[uv a]) H7
def ZSI:cF DL:=.cons (fY .aX) (.cons (fY .aX) .nil)
def Ma(a:DL):Prop:=Ze a.1<=20000000000
def ZTW(a:DL):aA U:=.c (.bool (kf a.1 a.2.1))
def RN:Fs U:=fs ZSI (λa=>[Ma a]) ZTW
def gM:cF YC:=.cons (fe .aY) (.cons (fe .aY) .nil)
def tI(a:YC):Prop:=Z1 a.1<=20000000000
def w_(a:YC):Nat:=Z1 a.1
def ZNH(a:YC):aA U:=.c (.bool (kf a.1 a.2.1))
def ZDT:Fs U:=fs gM (λa=>[tI a]) ZNH
def ZUj:Zb U:=cI [[1,501],[5],[1,2,5,501],[]]
def ZUi:Zb U:=cI [[0,900],[0,2]]
def ZJx:List (FuncId×Fs U):=[(229,W_)]
def ZJw:List (FuncId×Fs U):=[(228,Of)]
def ZUk:Zb U:=cI [[0,1,4,504,900],[5,505],[17],[0,1,17],[5,505],[0,1,5,6,7,505,506,507],[31],[1,5,31,505],[],[0,7,507],[6,506]]
def Zz1:List (FuncId×Fs U):=[(226,Zx4),(227,Zx3),(228,Of),(229,W_)]
def ZOa:Zb U:=cI [[0,1,900,901],[(6,[.bF .dO])],[6,6,7],[(6,[.bF .dO]),7],[6,6,33],[(6,[.bF .dO]),33],[6,6,49],[(6,[.bF .dO]),49],[6,6,65],[0,1,65,76],[4,5,6,76],[]]
def B6(pl:List Op)(pa:Int)(ql:List Op)(qa:Int)(aa h:List Op)(s:Int)(x6:List cm):bT U:=L2 [(0,.ptr (.x 0) 0),(1,.ptr (.x 1) 0),(6,.c (sU .dO x6 (.bF (.e 6 0))))] [(.x 0,[sU .op aa .bA,ci pa]),(.x 1,[sU .op h .bA,ci s])]
abbrev ZWi(p):=AW (Za Zz1) Tryz.f193 ZOa p
theorem ZBZ(pl)(pa)(ql)(qa)(s aa)(ab)(x6:List cm)(N0:NT)(Q:QT)(h:∀ar,ar=List.getD s (Int.toNat 0) Op.nil->∀aq,aq=List.getD aa (Int.toNat 0) Op.nil->∀am,am=W.mk 0 (H.mk 0 [] []) (H.mk 0 [] []) [] [] 0 []->∀av,av=List.getD (bif ! decide ( J s=0)then aa else aa) (Int.toNat 0) Op.nil->∀ae,ae=ar->∀ah,ah=aq->∀af,af=av->∀au,au=ZD (aR s 0 Op.nil) (Z4 ae)->∀ao,ao=ZD (aR aa 0 Op.nil) (Z4 ah)->∀aj,aj=ZD (aR s 0 Op.nil) (if(Z4 af)<Z4 ae then Z4 af else Z4 ae)->∀ak,ak=ZD ((bif ! decide ( J s=0)then aa else aa).getD 0 Op.nil) (if(Z4 af)<Z4 ae then Z4 af else Z4 ae)->let z5:=nR ((s,pa,()),());let z4:=cm.mk 2 (bI.mk 0 0 [] am) ao;let z3:=cm.mk 1 au (bI.mk 0 0 [] am);let z0:=decide ( J s=0);let z2:=bif !z0 then ab else ab;let z1:=bif !z0 then aa else aa;nR ((s,pa,()),())/\iB (gL pa s) (((0:Int)<=0/\0<( J s:Int))/\yK (ae,())/\AO ((s,pa,()),Z4 ae,())/\( J x6+J [z3])*488<=140737488355328/\N0 (B6 pl pa ql qa (ZP s (Z4 ae)) aa ab (x6++[z3]))) ( nR ((aa,ab,()),())/\iB (gL ab aa) (((0:Int)<=0/\0<( J aa:Int))/\yK (ah,())/\AO ((aa,ab,()),Z4 ah,())/\( J x6+J [z4])*488<=140737488355328/\N0 (B6 pl pa ql qa s (ZP aa (Z4 ah)) ab (x6++[z4]))) (z5/\Tt !z0/\((!z0)=Y->nR ((aa,ab,()),()))/\(z0=I->(!z0)=Y)/\iB (bif z0 then Y else decide ( J aa=0)) (z5/\nR ((z1,z2,()),())/\iB (z0 !=decide ( J z1=0)) (Q .ret (L2 [(4,.c .nils),pB 5 I] [(.x 0,[sU .op s .bA,ci pa]),(.x 1,[sU .op z1 .bA,ci z2])])) (Q .ret (L2 [(4,.c (sU .dO x6 (.bF (.e 4 0)))),pB 5 Y] [(.x 0,[sU .op s .bA,ci pa]),(.x 1,[sU .op z1 .bA,ci z2])]))) (((0:Int)<=0/\0<( J s:Int))/\yK (ae,())/\((0:Int)<=0/\0<( J z1:Int))/\yK (af,())/\AO ((s,pa,()),if(Z4 af)<Z4 ae then Z4 af else Z4 ae,())/\AO ((z1,z2,()),if(Z4 af)<Z4 ae then Z4 af else Z4 ae,())/\( J x6+J [cm.mk 0 aj ak])*488<=140737488355328/\N0 (B6 pl pa ql qa (ZP s (if(Z4 af)<Z4 ae then Z4 af else Z4 ae)) (ZP z1 (if(Z4 af)<Z4 ae then Z4 af else Z4 ae)) z2 (x6++[cm.mk 0 aj ak])))))):ZWi [1,1,0,0] (B6 pl pa ql qa s aa ab x6) (xT N0 (xB 0 Q)):=Eq.mpr V4 (h _ rfl _ rfl _ rfl _ rfl _ (Yp _) _ (Yp _) _ (Yp _) _ (Yp _) _ (Yp _) _ (Yp _) _ (Yp _))
def ZK9:List (FuncId×Fs U):=[(193,IL)]
def C5:Zb U:=cI [[0,1],[0,1,4,5]]
def ZGa:Zb U:=cI [[0,1],[5],[(5,[.bF .unit]),6],[5,5,13],[(5,[.bF .unit]),13],[5,5,7,507],[(5,[.bF .unit]),8],[5,5,28],[(5,[.bF .unit]),28],[5,5],[(5,[.bF .unit]),8,9],[5,5,40],[(5,[.bF .unit]),40],[5,5],[9,61],[7,61,507],[0,1,4,5,6]]
def Cs(l:List Op)(bV s:Int)(h:List bJ):bT U:=L2 [(0,.c (sU .op l .bA)),pI 1 bV,(5,.c (sU .unit h (.bF (.e 5 0)))),pI 6 s] []
def MS(l:List Op)(bV x6 s:Int)(h:List bJ):bT U:=L2 [(0,.c (sU .op l .bA)),pI 1 bV,(5,.c (sU .unit h (.bF (.e 5 0)))),pI 6 x6,pL 7,pI 8 s] [(.bE 7,enc .op (aR l (G x6) Op.nil))]
def Gw(l:List Op)(bV x6 s:Int)(h:List bJ):bT U:=L2 [(0,.c (sU .op l .bA)),pI 1 bV,(5,.c (sU .unit h (.bF (.e 5 0)))),pI 6 x6,pL 7,pI 9 s] [(.bE 7,enc .op (aR l (G x6) Op.nil))]
abbrev Bw(p):=AW (Za cQ) Tryz.f157 ZGa p
abbrev nU(p):=SW (Za cQ) Tryz.f157 ZGa p
theorem ZCu(l)(bV s)(x5)(N0:NT)(Q:QT)(h:iB (decide (s<( J l:Int))) ((0<=s/\s<(J l))/\Zi (Bw [1,1,0,1,0,0,1,0,0,1,0,1,0,0]) (MS l bV s 0 x5) (xB 2 (nU [1,1,0,1,0,0,1,0,0,1,1] (xB 1 (nU [1,1,0,1,0,0,1,1] (xT N0 (xB 0 (nU [1,1,1] Q)))))))) (Q .ret (L2 [(4,.c (sU .unit x5 (.bF (.e 4 0))))] []))):Bw [1,1,0,1,0,0] (Cs l bV s x5) (xT N0 (xB 0 (nU [1,1,1] Q))):=Eq.mpr V4 h
theorem ZCt(l:List Op)(bV x6 aa)(s)(N1 N0:NT)(Q:QT)(h:let z1:=decide (aa<bI.n (aR l (G x6) Op.nil));let z0:=bJ.mk x6 0 (H.mk 0 [] []) (W.mk 0 (H.mk 0 [] []) (H.mk 0 [] []) [] [] 0 []) I;Tk 3 z1 (iB (bif z1 then(bI.D (aR l (G x6) Op.nil))==0 else I) ( ( J s+J [z0])*280<=140737488355328/\bQ (aa+1)/\N1 (MS l bV x6 (aa+1) (s++[z0]))) (Zi (Bw [1,1,0,1,0,0,1,0,0,1,1,0,1,0,0]) (Gw l bV x6 0 s) (xB 4 (nU [1,1,0,1,0,0,1,0,0,1,1,1] (xB 1 (nU [1,1,0,1,0,0,1,1] (xT N0 (xB 0 (nU [1,1,1] Q)))))))))):Bw [1,1,0,1,0,0,1,0,0,1,0,1,0,0] (MS l bV x6 aa s) (xT N1 (xB 2 (nU [1,1,0,1,0,0,1,0,0,1,1] (xB 1 (nU [1,1,0,1,0,0,1,1] (xT N0 (xB 0 (nU [1,1,1] Q)))))))):=Eq.mpr V4 h
theorem ZCs(l)(bV x6 s)(aa)(N2 N0:NT)(Q:QT)(h:∀ab,ab=aR l (G x6) Op.nil->∀af,af=ab.e->∀ah,ah=aR ab.l (G s) H.nil->let z1:=bJ.mk x6 3 (H.mk 0 [] []) af I;let z0:=bJ.mk x6 ab.D ah (W.mk 0 (H.mk 0 [] []) (H.mk 0 [] []) [] [] 0 []) (ab.D==bV);iB (decide (s<(J ab.l))) ((0<=s/\s<(J ab.l))/\( J aa+J [z0])*280<=140737488355328/\bQ (s+1)/\N2 (Gw l bV x6 (s+1) (aa++[z0]))) (iB (ab.D==3) ( ( J aa+J [z1])*280<=140737488355328/\bQ (x6+1)/\N0 (Cs l bV (x6+1) (aa++[z1]))) ( bQ (x6+1)/\N0 (Cs l bV (x6+1) aa)))):Bw [1,1,0,1,0,0,1,0,0,1,1,0,1,0,0] (Gw l bV x6 s aa) (xT N2 (xB 4 (nU [1,1,0,1,0,0,1,0,0,1,1,1] (xB 1 (nU [1,1,0,1,0,0,1,1] (xT N0 (xB 0 (nU [1,1,1] Q)))))))):=Eq.mpr V4 (h _ rfl _ (Z0 _) _ (Z7 _))
def Rq:Zb U:=cI [[0,1],[6],[(6,[.bF .eW]),7,8],[6,6,18],[18,29],[29],[(6,[.bF .eW])],[6,6,50],[50],[(6,[.bF .eW])],[6,6,70],[0,1,4,5,6,7,8,70],[0,1,4,5,6,7,8],[],[(6,[.bF .eW])],[0,1,4,5,6,7,8]]
def Bt(p q:List bJ)(h s:Int)(x6:List bK):bT U:=L2 [(0,.c (sU .unit p .bA)),(1,.c (sU .unit q .bA)),(6,.c (sU .eW x6 (.bF (.e 6 0)))),pI 7 h,pI 8 s] []
abbrev ZWr(p):=AW (Za cQ) Tryz.f156 Rq p
abbrev ZVX(p):=SW (Za cQ) Tryz.f156 Rq p
theorem ZCv(p q)(x7 s)(x6:List bK)(N0:NT)(Q:QT)(h:∀ai,ai=aR p (G x7) bJ.nil->∀ah,ah=aR q (G s) bJ.nil->∀aj,aj=W.mk 0 (H.mk 0 [] []) (H.mk 0 [] []) [] [] 0 []->∀ab,ab=ai->∀ae,ae=ah->let z3:=decide (s<(J q));let z2:=decide ((( J p:Int))<=x7);let z1:=bJ.mk 0 0 (H.mk 0 [] []) aj I;let z0:=decide (x7<(J p));Tk 3 (!z0) ((z0=I->(!z0)=Y)/\iB (bif z0 then Y else z3) (Tk 2 z0 ((z0=Y->0<=x7/\x7<(J p))/\Tk 3 z0 (iB (bif z0 then ai.bV else I) ((0<=x7/\x7<(J p))/\( J x6+J [bK.mk 1 ab z1])*568<=140737488355328/\bQ (x7+1)/\N0 (Bt p q (x7+1) s (x6++[bK.mk 1 ab z1]))) (Tk 2 z3 ((z3=Y->0<=s/\s<(J q))/\Tk 3 z3 (iB (bif z3 then ah.bV else I) ((0<=s/\s<(J q))/\( J x6+J [bK.mk 2 z1 ae])*568<=140737488355328/\bQ (s+1)/\N0 (Bt p q x7 (s+1) (x6++[bK.mk 2 z1 ae]))) (Tk 3 (!z2) ((z2=I->(!z2)=Y)/\iB (bif z2 then Y else decide ((( J q:Int))<=s)) (Q .ret (L2 [(4,.c .nils),pB 5 I] [])) ((0<=x7/\x7<(J p))/\(0<=s/\s<(J q))/\( J x6+J [bK.mk 0 ab ae])*568<=140737488355328/\bQ (x7+1)/\bQ (s+1)/\N0 (Bt p q (x7+1) (s+1) (x6++[bK.mk 0 ab ae]))))))))))) (Q .ret (L2 [(4,.c (sU .eW x6 (.bF (.e 4 0)))),pB 5 Y] [])))):ZWr [1,1,1,0,0,0] (Bt p q x7 s x6) (xT N0 (xB 0 (ZVX [1,1,1,1] Q))):=Eq.mpr V4 (h _ rfl _ rfl _ rfl _ (qp _) _ (qp _))
def ZUx:Zb U:=cI [[1,2,501,502],[4],[5],[1,4,5,501],[1,8,501],[1,8,501],[]]
def ZvQ:List (FuncId×Fs U):=[(26,yJ)]
def zb:Zb U:=cI [[0,1],[10],[0,1,4,10],[0,1,4,5],[14],[14],[26],[0,1,4,5,26],[]]
def uK(a b:List H)(h:Int):bT U:=L2 [(0,.c (sU .aX a .bA)),(1,.c (sU .aX b .bA)),pI 5 h] []
abbrev A69(p):=AW (Za ZvQ) Tryz.f69 zb p
abbrev S69(p):=SW (Za ZvQ) Tryz.f69 zb p
theorem ZId(a b)(s)(N0:NT)(Q:QT)(h:let z3:=aR a (G s) H.nil;let z2:=aR b (G s) H.nil;let z1:=H.mk (H.D z2) (H.aS z2) (H.X z2);let z0:=H.mk (H.D z3) (H.aS z3) (H.X z3);iB (decide (s<(J a))) ((0<=s/\s<(J a))/\(0<=s/\s<(J b))/\mT (z0,z1,())/\iB (! ZW z0 z1) (Q .ret (L2 [pB 4 I] [])) ( bQ (s+1)/\N0 (uK a b (s+1)))) (Q .ret (L2 [pB 4 Y] []))):A69 [1,1,0,1,0,0] (uK a b s) (xT N0 (xB 0 (S69 [1,1,1] Q))):=Eq.mpr V4 h
def ZGL(N:Nat):List (FuncId×Fs U):=(18,fs gM (λa=>[tI a,w_ a<N]) ZNH)::[(26,yJ),(69,RN)]
def WR:Zb U:=cI [[2,3,502,503],[64],[2,3,4,64,502,503],[2,3,4,5,502,503],[69],[69],[82],[2,3,4,5,82,502,503],[2,3,4,6,502,503],[87],[87],[118],[2,3,4,6,118,502,503],[2,3,4,7,502,503],[123],[123],[8,9,508,509],[8,9,163,508,509],[2,3,4,7,163,502,503],[]]
def Mb(a b:W)(h:Int):bT U:=L2 [pL 2,pL 3,pI 5 h] [(.bE 2,enc .aY a),(.bE 3,enc .aY b)]
def Nk(a b:W)(h:Int):bT U:=L2 [pL 2,pL 3,pI 6 h] [(.bE 2,enc .aY a),(.bE 3,enc .aY b)]
def NG(a b:W)(h:Int):bT U:=L2 [pL 2,pL 3,pI 7 h] [(.bE 2,enc .aY a),(.bE 3,enc .aY b)]
abbrev zz(N)(p):=AW (Za (ZGL N)) Tryz.f18 WR p
abbrev zE(N)(p):=SW (Za (ZGL N)) Tryz.f18 WR p
theorem ZIw(N)(a b)(s)(N0:NT)(Q:QT)(h:let z1:=aR b.aS (G s) (aV.mk 0 0 0 0);let z0:=aR a.aS (G s) (aV.mk 0 0 0 0);iB (decide (s<(J a.aS))) ((0<=s/\s<(J a.aS))/\(0<=s/\s<(J b.aS))/\iB (!( (aV.S z0)==aV.S z1&&( (aV.a_ z0)==aV.a_ z1&&( (aV.bH z0)==aV.bH z1&&( (aV.new z0)==aV.new z1&&Y))))) (Q .ret (L2 [pB 4 I] [])) ( bQ (s+1)/\N0 (Mb a b (s+1)))) (Zi (zz N [1,1,1,0,1,0,0]) (Nk a b 0) (xB 2 (zE N [1,1,1,1] Q)))):zz N [1,1,0,1,0,0] (Mb a b s) (xT N0 (xB 0 (zE N [1,1,1] Q))):=Eq.mpr V4 h
theorem ZIv(N)(a b:W)(s)(N1:NT)(Q:QT)(h:∀af,af=aR a.X (G s) (aW.mk 0 W.nil)->∀ae,ae=aR b.X (G s) (aW.mk 0 W.nil)->∀aa,aa=af.e->∀ab,ab=ae.e->let z0:=af.S !=ae.S;iB (decide (s<(J a.X))) ((0<=s/\s<(J a.X))/\(0<=s/\s<(J b.X))/\Tk 3 (!z0) (((!z0)=Y->0<=s/\s<(J a.X))/\Tk 5 (!z0) (((!z0)=Y->0<=s/\s<(J b.X))/\Tk 4 (!z0) (((!z0)=Y->tI (aa,ab,()))/\((!z0)=Y->w_ (aa,ab,())<N)/\Tt !z0/\(z0=I->(!z0)=Y)/\iB (bif z0 then Y else ! kf aa ab) (Q .ret (L2 [pB 4 I] [])) ( bQ (s+1)/\N1 (Nk a b (s+1))))))) (Zi (zz N [1,1,1,1,0,1,0,0]) (NG a b 0) (xB 4 (zE N [1,1,1,1,1] Q)))):zz N [1,1,1,0,1,0,0] (Nk a b s) (xT N1 (xB 2 (zE N [1,1,1,1] Q))):=Eq.mpr V4 (h _ rfl _ rfl _ (Z0 _) _ (Z0 _))
theorem ZIu(N)(a b)(s)(N2:NT)(Q:QT)(h:∀ab,ab=aR a.ops (G s) Op.nil->∀aa,aa=aR b.ops (G s) Op.nil->∀ae,ae=ab.e->∀af,af=aa.e->let z2:=ab.D !=aa.D;let z0:=bif z2 then Y else ab.n !=aa.n;let z1:=bif z0 then Y else ! kf ab.l aa.l;iB (decide (s<(J a.ops))) ((0<=s/\s<(J a.ops))/\(0<=s/\s<(J b.ops))/\Tk 4 (!z2) ((z2=I->(!z2)=Y)/\Tk 4 (!z0) (((!z0)=Y->Ma (ab.l,aa.l,()))/\Tt !z0/\(z0=I->(!z0)=Y)/\Tk 4 (!z1) (((!z1)=Y->tI (ae,af,()))/\((!z1)=Y->w_ (ae,af,())<N)/\Tt !z1/\(z1=I->(!z1)=Y)/\iB (bif z1 then Y else ! kf ae af) (Q .ret (L2 [pB 4 I] [])) ( bQ (s+1)/\N2 (NG a b (s+1))))))) (Q .ret (L2 [pB 4 Y] []))):zz N [1,1,1,1,0,1,0,0] (NG a b s) (xT N2 (xB 4 (zE N [1,1,1,1,1] Q))):=Eq.mpr V4 (h _ rfl _ rfl _ (Z0 _) _ (Z0 _))
end
theorem RD{o:Op}(h:Zy o<=20000000000):J o.l<=20000000000:=by have:=Zs o.l;rw[ZZ]at h;omega
theorem y_{o}(h:ZH o):0<=o.n/\o.n<=1048576:=by unfold ZH at h;omega
theorem YN(o):Z4 o=if o.D=3 then 1 else o.n+J o.l:=rfl
theorem ZVp:aU Tryz.prog M 228 Of:=by refine kF (l:=cQ) trivial ZUj Tryz.func228 1 λ⟨o,_⟩hp=>?_;simp only[yK]at hp;have hl:=RD hp.1;refine wV (λQ=>iB (o.D==3) (Q .ret (L2 [pI 2 1] [])) ( bQ (o.n+( J o.l:Int))/\Q .ret (L2 [pI 2 (o.n+( J o.l:Int))] []))) ?_ λ_ h=>Eq.mpr V4 h;(try simp only[iB,bR,Qk]);(simp only[iB,bW]);(try simp only[iB,bR]);exact⟨λs=>YO rfl (by rw[YN,Q5 s]),λs=>⟨V3,YO rfl (by rw[YN,if_neg s])⟩⟩
theorem ZVo:aU Tryz.prog M 229 W_:=by
 refine kX (l:=cQ) trivial ZUi Tryz.func229 1 λ⟨⟨l,s,_⟩,_⟩hp=>?_;refine wV (λQ=>Q .ret (L2 [pB 2 ((( J l:Int):Int)==0)] [(.x 0,[sU .op l .bA,ci s])])) ?_ λ_ h=>Eq.mpr V4 h;(try simp only[iB,bR,Qk]);have e:(( J l:Int)==0)=decide ( J l=0):=by rw[QA];(simp only[iB,bW]);omega
 rw[e];exact V0
theorem ZXl:aU Tryz.prog M 226 Zx4:=by
 refine kX (l:=ZJx) ⟨ZVo,trivial⟩ ZUi Tryz.func226 1 λ⟨⟨l,s,_⟩,_⟩hp=>?_;refine wV (λQ=>let z0:=! decide ( J l=0);nR ((l,s,()),())/\Tk 4 z0 ((z0=Y->(0:Int)<=0/\0<( J l:Int))/\Tk 8 z0 (Q .ret (L2 [(2,.c (.bool (bif z0 then( bI.D (List.getD l (Int.toNat 0) Op.nil):Int)==s else I)))] [(.x 0,[sU .op l .bA,ci s])])))) ?_ λ_ h=>Eq.mpr V4 h;(try simp only[iB,bR,Qk]);have e:(bif ! decide ( J l=0)then bI.D (List.getD l (Int.toNat 0) Op.nil)==s else I)=gL s l:=by rw[QA];simp only[gL];(simp only[iB,bW]);try rfl
 rw[e];refine⟨hp,λh=>⟨O,?_⟩,V0⟩;grind
theorem PX(A6:aU Tryz.prog M 193 IL):aU Tryz.prog M 143 TB:=by refine kF (l:=ZK9) ⟨A6,trivial⟩ C5 Tryz.func143 2 λ⟨p,q,_⟩s=>?_;refine wV (λQ=>HZ ((p,2,()),(q,2,()),())/\Q .ret (L2 [(4,.c (sU .dO (ZC 2 2 p q []).1 .bA)),pB 5 (ZC 2 2 p q []).2.1] [])) ?_ λ_ h=>Eq.mpr V4 h;(try simp only[iB,bR,Qk]);refine⟨s,?_⟩;exact V0
theorem T6(A6:aU Tryz.prog M 193 IL):aU Tryz.prog M 209 Tc:=by refine kF (l:=ZK9) ⟨A6,trivial⟩ C5 Tryz.func209 2 λ⟨p,q,_⟩s=>?_;refine wV (λQ=>HZ ((p,1,()),(q,2,()),())/\Q .ret (L2 [(4,.c (sU .dO (ZC 1 2 p q []).1 .bA)),pB 5 (ZC 1 2 p q []).2.1] [])) ?_ λ_ h=>Eq.mpr V4 h;(try simp only[iB,bR,Qk]);refine⟨s,?_⟩;exact V0
theorem ZXk:aU Tryz.prog M 227 Zx3:=by
 refine kX (l:=ZJw) ⟨ZVp,trivial⟩ ZUk Tryz.func227 2 λ⟨⟨l,al,_⟩,n,_⟩hp=>?_;simp only[AO]at hp;obtain⟨⟨ho,hm⟩,hl,h1,h2⟩:=hp;have ab:=Zh (l:=l) (i:=0) O Op.nil;have ai:=ho _ ab;have ar:=Y9 ab;have aq:=Y4 l;refine wV (λQ=>∀s,s=List.getD l (Int.toNat 0) Op.nil->∀ae,ae=s->∀aa,aa=s.e->let z0:=List.drop (Int.toNat 1) l;((0:Int)<=0/\0<( J l:Int))/\yK (ae,())/\iB (decide (( Z4 ae:Int)<=n)) (((0:Int)<=1/\1<=( J l:Int))/\Q .ret (L2 [pL 4] [(.bE 4,enc .op s),(.x 0,[sU .op z0 .bA,ci al])])) (iB (s.D==0) ( bQ (s.n-n)/\((0:Int)<=1/\1<=( J l:Int))/\( J [bI.mk s.D (s.n-n) s.l aa]+J z0)*240<=140737488355328/\Q .ret (L2 [pL 4] [(.bE 4,[ci s.D,ci n,sU .aX s.l .bA]++enc .aY s.e),(.x 0,[sU .op ( [bI.mk s.D (s.n-n) s.l aa]++z0) (.bF (.x 0 0)),ci al])])) (((0:Int)<=n/\n<=( J s.l:Int))/\n=n/\((0:Int)<=n/\n<=( J s.l:Int))/\((0:Int)<=1/\1<=( J l:Int))/\( J [bI.mk s.D s.n (List.drop (G n) s.l) aa]+J z0)*240<=140737488355328/\Q .ret (L2 [pL 4] [(.bE 4,[ci s.D,ci s.n,sU .aX (List.take (G n) s.l) .cU]++enc .aY s.e),(.x 0,[sU .op ( [bI.mk s.D s.n (List.drop (G n) s.l) aa]++z0) (.bF (.x 0 0)),ci al])])))) ?_ λ_ h=>Eq.mpr V4 (h _ rfl _ (Yp _) _ (Z0 _));(try simp only[iB,bR]);rintro y rfl _ rfl _ rfl;have e0:Int.toNat 0=0:=rfl;have e1:Int.toNat 1=1:=rfl;simp only[e0,e1];have hT:∀o r,ZD (aR l 0 Op.nil) n=o->ZP l n=r->True:=λ_ _ _ _=>trivial;have ak:=y_ ai;have av:=YN (aR l 0 Op.nil);(simp only[iB,bW]);generalize hy:aR l 0 Op.nil=y at*;refine⟨⟨O,O⟩,⟨by grind,ak⟩,λL=>⟨⟨O,O⟩,?_⟩,λL=>⟨λhk=>⟨V3,⟨O,O⟩,by simp;omega,?_⟩,λhk=>?_⟩⟩
 .have t1:ZD y n=y:=by rw[ZD,Q5 L]
  have t2:ZP l n=l.drop 1:=by rw[ZP,hy,Q5 L]
  simp only[Ix,LO,hy,t1,t2];exact V0
 .have t1:ZD y n=⟨y.D,n,y.l,y.e⟩:=by rw[ZD,Q0 L,Q5 hk]
  have t2:ZP l n=⟨y.D,y.n-n,y.l,y.e⟩::l.drop 1:=by rw[ZP,hy,Q0 L,iN,Q5 hk]
  simp only[Ix,LO,hy,t1,t2];exact V0
 .have t1:ZD y n=⟨y.D,y.n,y.l.take (G n),y.e⟩:=by rw[ZD,Q0 L,Q0 hk]
  have t2:ZP l n=⟨y.D,y.n,y.l.drop (G n),y.e⟩::l.drop 1:=by rw[ZP,hy,Q0 L,iN,Q0 hk]
  simp only[Ix,LO,hy,t1,t2];unfold ZH at ai;refine⟨?_,?_,⟨O,O⟩,by simp;omega,?_⟩;.omega
  .omega
  ·exact V0
theorem D_(n):∀l,Ze (l.drop n)<=Ze l:=by induction n with|zero=>intro l;simp|succ n ih=>intro l;cases l with|nil=>simp|cons t r=>simp only[QE,Ze];grind
theorem ZkS(n):∀l,Ze (l.take n)<=Ze l:=by induction n with|zero=>intro l;simp[Ze]|succ n ih=>intro l;cases l with|nil=>simp|cons t r=>simp only[List.take_succ_cons,Ze];grind
theorem ZE{o}(h:ZH o):1<=Z4 o:=by have:=YN o;unfold ZH at h;have hl:o.l≠[]->0<J o.l:=XK.2;grind
theorem DB{o}(h:ZH o)(s:Zy o<=20000000000):Z4 o<=20000000000:=by have:=YN o;have:=RD s;have:=y_ h;unfold ZH at h;grind
theorem LN(o:Op)(r:List Op):Zq (o::r)=Zy o+Zq r:=rfl
theorem IZ{l}(h:o4 l):o4 (l.drop 1):=by cases l with|nil=>exact h|cons o r=>obtain⟨h1,h2⟩:=h;rw[LN]at h2;exact⟨λx s=>h1 x (Q4 _ s),by grind⟩
theorem Zg8{l}(h:o4 l)(hl:J l≠0):ZH (aR l 0 Op.nil)/\Zy (aR l 0 Op.nil)<=20000000000/\Zy (aR l 0 Op.nil)<=Zq l:=by have s:=Zh (l:=l) (i:=0) O Op.nil;have:=Y9 s;exact⟨h.1 _ s,by have:=h.2;omega,this⟩
theorem Dq{o n}(h:ZH o)(h1:1<=n)(h2:¬Z4 o<=n):ZH (iN o n)/\Zy (iN o n)<=Zy o:=by
 have hl:=YN o;unfold iN;unfold ZH at*;by_cases hk:o.D=0
 .rw[Q5 hk];refine⟨Or.inl ?_,by simp only[ZZ];omega⟩;grind
 .rw[Q0 hk];have:=D_ (G n) o.l;refine⟨Or.inr ?_,by simp only[ZZ];omega⟩;rcases h with h|h|h;.omega
  .obtain⟨a,b,c,d⟩:=h;rw[Q0 O]at hl;refine Or.inl ⟨a,b,?_,d⟩;intro s;have:=congrArg List.length s;grind
  omega
theorem Zku{l n}(h:o4 l)(hl:J l≠0)(h1:1<=n):o4 (ZP l n):=by
 unfold ZP;split;.exact IZ h
 .rename_i L;obtain⟨a,b,c⟩:=Zg8 h hl;obtain⟨d,e⟩:=Dq a h1 L;have hd:=IZ h;refine⟨λx s=>?_,?_⟩
  .rcases Qe.1 s with rfl|s;.exact d
   .exact hd.1 _ s
  .rw[LN];obtain _|⟨o,r⟩:=l;.simp at hl
   .have:=h.2;rw[LN]at this;grind
theorem HE(l):ZP l (Z4 (aR l 0 Op.nil))=l.drop 1:=by rw[ZP,Q5 (Qz _)]
theorem FV(o):ZD o (Z4 o)=o:=by rw[ZD,Q5 (Qz _)]
theorem ZxN{a l}(h:gL a l=Y):J l≠0:=(X7 h).1
theorem ZlV{α:Type}(b)(x:α):(bif b then x else x)=x:=by grind
theorem A6:aU Tryz.prog M 193 IL:=by
 refine kX (l:=Zz1) ⟨ZXl,ZXk,ZVp,ZVo,trivial⟩ ZOa Tryz.func193 2 λ⟨⟨pl,pa,_⟩,⟨ql,qa,_⟩,_⟩hp=>?_;simp only[HZ]at hp;have bk:=Y4 pl;have bf:=Y4 ql;have hP:=hp.1.2;have hQ:=hp.2.2;refine wV (λQ=>Zi (ZWi [1,1,0,0]) (B6 pl pa ql qa pl ql qa []) (xB 0 Q)) ?_ λ_ h=>Eq.mpr V4 h;(try simp only[iB,bR,Qk]);refine Z5 (ι:=List Op×List Op×List cm) (λs=>B6 pl pa ql qa s.1 s.2.1 qa s.2.2) (λs=>o4 s.1/\o4 s.2.1/\J s.2.2+J s.1+J s.2.1<=40000000000/\ZC pa qa s.1 s.2.1 s.2.2=ZC pa qa pl ql []) (λs=>J s.1+J s.2.1) (pl,ql,[]) rfl ⟨hp.1,hp.2,by simp;omega,rfl⟩ ?_;rintro⟨p,q,bB⟩⟨h1,h2,h3,h4⟩;refine ZBZ _ _ _ _ _ _ _ _ _ _ ?_;(try simp only[iB,bR]);have e0:Int.toNat 0=0:=rfl;simp only[e0,ZlV];dsimp only at h1 h2 h3 h4;rintro z1 al z2 ai y3 bd z4 bb y1 rfl y2 rfl y4 rfl y8 a5 y9 az ba af a8 ak;have ey:y4=y2:=bb.trans ai.symm;rw[ey]at af ak⊢;have e3:(bI.mk 0 0 [] y3:Op)=Op.nil:=by rw[bd];try rfl
 rw[<-al,FV]at a5;rw[<-ai,FV]at az;have aj:∀a b:Int,(if a<b then a else b)=min b a:=by intro a b;omega
 rw[<-al,aj]at af;rw[<-ai,aj]at ak;simp only[aj,e3,a5,az];(simp only[iB,bW]);have o1:J p≠0->ZH y1/\Zy y1<=20000000000:=λh=>by have:=Zg8 h1 h;grind
 have o2:J q≠0->ZH y2/\Zy y2<=20000000000:=λh=>by have:=Zg8 h2 h;grind
 have tp:ZP p (Z4 y1)=p.drop 1:=by rw[al];exact HE p
 have tq:ZP q (Z4 y2)=q.drop 1:=by rw[ai];exact HE q
 have bi:=Y4 p;have bh:=Y4 q;have bn:=h1.2;have be:=h2.2;rw[ZC]at h4;rw[<-al,<-ai]at h4;refine⟨by simp only[nR];omega,λhs=>?_,λhs=>?_⟩;.have hl:=ZxN hs;obtain⟨oa,ob⟩:=o1 hl;have oc:=ZE oa;have od:=DB oa ob;rw[QW hs]at h4;refine⟨⟨O,O⟩,⟨ob,y_ oa⟩,⟨h1,hl,oc,by grind⟩,by simp;omega,(p.drop 1,q,bB++[⟨1,y1,Op.nil⟩]),by rw[tp],⟨IZ h1,h2,by simp;omega,h4⟩,by simp;omega⟩
 .rw[QC (by grind)]at h4;refine⟨by simp only[nR];omega,λar=>?_,λar=>?_⟩;.have hl:=ZxN ar;obtain⟨oa,ob⟩:=o2 hl;have oc:=ZE oa;have od:=DB oa ob;rw[QW ar]at h4;refine⟨⟨O,O⟩,⟨ob,y_ oa⟩,⟨h2,hl,oc,by grind⟩,by simp;omega,(p,q.drop 1,bB++[⟨2,Op.nil,y2⟩]),by rw[tq],⟨h1,IZ h2,by simp;omega,h4⟩,by simp;omega⟩
  .rw[QC (by grind)]at h4;refine⟨by simp only[nR];omega,λ_=>by simp only[nR];omega,λh=>h,λhd=>⟨by simp only[nR];omega,by simp only[nR];omega,λhe=>?_,λhe=>?_⟩,λhd=>?_⟩;.rw[QW hd,Q0 he]at h4;simp only[U3,PV,<-h4];exact V0
   .rw[QW hd,Q5 he]at h4;simp only[U3,PV,<-h4];exact V0
   .obtain⟨oa,ob⟩:=o1 hd.1;obtain⟨oc,od⟩:=o2 hd.2;have a1:=ZE oa;have a2:=DB oa ob;have a3:=ZE oc;have a4:=DB oc od;rw[QC O,<-af,<-ak]at h4;have c1:=Yw p (min (Z4 y1) (Z4 y2)) hd.1;have c2:=Yw q (min (Z4 y1) (Z4 y2)) hd.2;have c3:Z4 y1<=min (Z4 y1) (Z4 y2)->J (ZP p (min (Z4 y1) (Z4 y2)))<J p:=λh=>Yv p _ hd.1 (by grind);have c4:Z4 y2<=min (Z4 y1) (Z4 y2)->J (ZP q (min (Z4 y1) (Z4 y2)))<J q:=λh=>Yv q _ hd.2 (by grind);refine⟨⟨O,O⟩,⟨ob,y_ oa⟩,⟨O,O⟩,⟨od,y_ oc⟩,⟨h1,hd.1,by grind,by grind⟩,⟨h2,hd.2,by grind,by grind⟩,by simp;omega,(ZP p (min (Z4 y1) (Z4 y2)),ZP q (min (Z4 y1) (Z4 y2)),bB++[⟨0,ba,a8⟩]),rfl,⟨Zku h1 hd.1 O,Zku h2 hd.2 O,by simp;omega,h4⟩,by grind⟩
theorem SK{o}(h:ZH o)(i a):(J (Je i a o))=Z4 o:=by have hl:=YN o;unfold ZH at h;simp only[Je,Qi,QF];grind
theorem BQ(a):∀l(i:Int),(∀o∈l,ZH o)->(J (Zn i a l))=zl l|[],_,_=>rfl|o::r,i,h=>by have h1:=SK (h o (Q6 ..)) i a;have h2:=BQ a r (i+1) λx s=>h x (Q4 _ s);simp only[Zn,Qi,zl];omega
theorem BZ:aU Tryz.prog M 157 Dy:=by
 refine kF (l:=cQ) trivial ZGa Tryz.func157 2 λ⟨l,al,_⟩hp=>?_;simp only[Bb]at hp;obtain⟨⟨af,a7⟩,hk⟩:=hp;have a5:=Y4 l;have aw:=BQ al l 0 af;refine wV (λQ=>Zi (Bw [1,1,0,1,0,0]) (Cs l al 0 []) (xB 0 (nU [1,1,1] Q))) ?_ λ_ h=>Eq.mpr V4 h;(try simp only[iB,bR,Qk]);refine Z5 (ι:=Int×List bJ) (λs=>Cs l al s.1 s.2) (λs=>0<=s.1/\s.1<=J l/\s.2++Zn s.1 al (l.drop (G s.1))=Zn 0 al l) (λs=>G (( J l:Int)-s.1)) (0,[]) rfl ⟨by simp,by simp,by simp⟩ ?_;rintro⟨i,bB⟩⟨h1,h2,h3⟩;dsimp only at h1 h2 h3;refine ZCu _ _ _ _ _ _ ?_;(try simp only[iB,bR,Qk]);(simp only[iB,bW]);(try simp only[iB,bR]);refine⟨λhi=>⟨⟨h1,hi⟩,?_⟩,λhi=>?_⟩
 .have ab:=Zh (l:=l) (i:=G i) O Op.nil;have ho:=af _ ab;have ay:=Y9 ab;rw[ZO h1 hi Op.nil]at h3;simp only[Zn]at h3;have ah:=congrArg List.length h3;have a1:=SK ho i al;generalize hy:aR l (G i) Op.nil=o at*;have a6:=y_ ho;have a8:=RD (o:=o) O;have ax:=DB ho O;simp only[Qi]at ah;let u:bJ:=⟨i,0,H.nil,W.nil,I⟩;let aD:List bJ:=if o.D=0 then List.replicate (G o.n) u else[];have hA:J aD<=40000000000:=by simp only[aD];split<;>simp;omega
  refine Z5 (ι:=Int) (λk=>MS l al i k (bB++List.replicate (G k) u)) (λk=>0<=k/\k<=if o.D=0 then o.n else 0) (λk=>G (o.n-k)) 0 (by simp) ⟨O,O⟩ ?_;rintro k⟨k1,k2⟩;refine ZCt _ _ _ _ _ _ _ _ ?_;(try simp only[iB,bR,Qk]);simp only[hy];(simp only[iB,bW]);(try simp only[iB,bR]);refine⟨λL=>?_,λL=>?_⟩
  .rw[Q5 L.2]at k2;refine⟨by simp;omega,V3,k+1,?_,⟨O,O⟩,O⟩;rw[show G (k+1)=G k+1 by omega,List.replicate_succ',<-Qg];try rfl
  .have aq:List.replicate (G k) u=aD:=by
    simp only[aD];by_cases hk0:o.D=0;.grind
    .simp_all
   rw[aq];refine Z5 (ι:=Int) (λj=>Gw l al i j (bB++(aD++(o.l.take (G j)).map λt=>(⟨i,o.D,t,W.nil,decide (o.D=al)⟩:bJ)))) (λj=>0<=j/\j<=J o.l) (λj=>G (( J o.l:Int)-j)) 0 (by simp) ⟨O,O⟩ ?_;rintro j⟨j1,j2⟩;refine ZCs _ _ _ _ _ _ _ _ ?_;(try simp only[iB,bR]);rw[hy];rintro y1 aj y3 ar y5 am;obtain rfl:=aj.symm;have a2:J (o.l.take (G j))<=20000000000:=by simp;omega
   (simp only[iB,bW]);refine⟨λL=>⟨⟨j1,L⟩,by simp;omega,V3,j+1,?_,⟨O,O⟩,O⟩,λL=>?_⟩
   .rw[show G (j+1)=G j+1 by omega,Xn O,XP,<-Qg,<-Qg,<-Qg];congr 2;have e:aR o.l (G j) H.nil=o.l[G j]:=by rw[Qr,Q8 O];try rfl
    rw[am,e];try rfl
   .rw[Qy O];have e4:∀B:List bJ,bB++(aD++o.l.map λt=>(⟨i,o.D,t,W.nil,decide (o.D=al)⟩:bJ))++B=bB++(aD++(o.l.map (λt=>(⟨i,o.D,t,W.nil,decide (o.D=al)⟩:bJ))++B)):=by intro B;simp
    refine⟨λhq=>⟨by simp;omega,V3,(i+1,bB++Je i al o),?_,⟨O,O,?_⟩,O⟩,λhq=>⟨V3,(i+1,bB++Je i al o),?_,⟨O,O,?_⟩,O⟩⟩;.rw[e4];simp only[Je];rw[Q5 hq,ar];try rfl
    .grind
    .simp only[Je];grind
    grind
 .rw[Qb O]at h3;simp only[Zn,Qj]at h3;rw[h3];exact V0
theorem Zl9{α:Type}(l)(i)(d:α):(l.drop i).getD 0 d=aR l i d:=by grind
theorem Ztu{l}{i:Int}(h:0<=i):k7 (l.drop (G i))=Y↔i<J l/\(aR l (G i) bJ.nil).bV=Y:=by unfold k7;grind
theorem Zlf{α:Type}(l:List α){i}(h:0<=i):(l.drop (G i)).drop 1=l.drop (G (i+1)):=by rw[Xt];congr 1;omega
theorem BL:aU Tryz.prog M 156 DE:=by
 refine kF (l:=cQ) trivial Rq Tryz.func156 2 λ⟨p,q,_⟩hp=>?_;simp only[GG]at hp;refine wV (λQ=>Zi (ZWr [1,1,1,0,0,0]) (Bt p q 0 0 []) (xB 0 (ZVX [1,1,1,1] Q))) ?_ λ_ h=>Eq.mpr V4 h;(try simp only[iB,bR]);refine Z5 (ι:=Int×Int×List bK) (λs=>Bt p q s.1 s.2.1 s.2.2) (λs=>(0<=s.1/\s.1<=J p)/\(0<=s.2.1/\s.2.1<=J q)/\J s.2.2<=s.1+s.2.1/\ZI (p.drop (G s.1)) (q.drop (G s.2.1)) s.2.2=ZI p q []) (λs=>G (( J p:Int)-s.1)+G (( J q:Int)-s.2.1)) (0,0,[]) rfl ⟨by simp,by simp,by simp,by simp⟩ ?_;rintro⟨i,j,bB⟩⟨⟨h1,h2⟩,⟨h3,h4⟩,h5,h6⟩;dsimp only at h1 h2 h3 h4 h5 h6;refine ZCv _ _ _ _ _ _ _ ?_;(try simp only[iB,bR]);rintro y1 ah y2 ai y3 al y4 au y5 ar;obtain rfl:=au.symm;obtain rfl:=ar.symm;obtain⟨y6,aj⟩:∃y,y=bK.mk 1 y1 (bJ.mk 0 0 (H.mk 0 [] []) y3 I):=⟨_,rfl⟩;obtain⟨y7,ak⟩:∃y,y=bK.mk 2 (bJ.mk 0 0 (H.mk 0 [] []) y3 I) y2:=⟨_,rfl⟩;rw[<-aj,<-ak];have e1:y6=⟨1,y1,bJ.nil⟩:=by rw[aj,al];try rfl
 have e2:y7=⟨2,bJ.nil,y2⟩:=by rw[ak,al];try rfl
 rw[ZI,Zl9,Zl9,<-ah,<-ai,Zlf _ h1,Zlf _ h3]at h6;have ap:=Ztu (l:=p) h1;have aq:=Ztu (l:=q) h3;rw[<-ah]at ap;rw[<-ai]at aq;(simp only[iB,bW]);try simp only[iB,bR]
 refine⟨λL=>⟨λ_=>⟨h1,O⟩,λha=>⟨⟨h1,ha.1⟩,by simp;omega,V3,(i+1,j,bB++[y6]),rfl,⟨⟨O,V2⟩,⟨h3,h4⟩,by simp;omega,?_⟩,V2⟩,λha=>⟨λ_=>⟨h3,O⟩,λhb=>⟨⟨h3,hb.1⟩,by simp;omega,V3,(i,j+1,bB++[y7]),rfl,⟨⟨h1,h2⟩,⟨V2,V2⟩,by simp;omega,?_⟩,V2⟩,λhb=>⟨λhe=>?_,λhe=>?_⟩⟩⟩,λL=>?_⟩;.rw[QW (ap.2 ha),<-e1]at h6;exact h6
 .rw[QC λh=>?_,QW (aq.2 hb),<-e2]at h6;.exact h6
  .have:=ap.1 h;simp_all
 .rw[QC λh=>?_,QC λh=>?_,QW (by simp only[QI];omega),Q0]at h6;.simp only[Vo,<-h6];exact V0
  .simp only[QI,KM];omega
  .have:=aq.1 h;simp_all
  .have:=ap.1 h;simp_all
 .rw[QC λh=>?_,QC λh=>?_,QC (by simp only[QI];omega)]at h6;.refine⟨⟨h1,O⟩,⟨h3,O⟩,by simp;omega,V3,V3,(i+1,j+1,bB++[⟨0,y1,y2⟩]),rfl,⟨⟨V2,V2⟩,⟨V2,V2⟩,by simp;omega,h6⟩,V2⟩
  .have:=aq.1 h;simp_all
  .have:=ap.1 h;simp_all
 .rw[QC λh=>?_,QC λh=>?_,QW (by simp only[QI];omega),Q5]at h6;.simp only[Vo,<-h6];exact V0
  .simp only[QI,KM];omega
  .have:=aq.1 h;omega
  .have:=ap.1 h;omega
theorem BA:aU Tryz.prog M 201 Eu:=by
 refine kF (l:=cQ) trivial ZUx Tryz.func201 1 λ⟨u,_⟩hp=>?_;refine wV (λQ=>iB (u.D==0) (Q .ret (L2 [pL 2] [(.bE 2,[ci 0,ci 1,.nils,ci 0,ci 0,.nils,.nils,ci 0,.nils,.nils,.nils,.nils,ci 0,.nils])])) (iB (u.D==3) (Q .ret (L2 [pL 2] [(.bE 2,[ci 3,ci 0,.nils]++enc .aY u.e)])) (Q .ret (L2 [pL 2] [(.bE 2,[ci u.D,ci 0,sU .aX [H.mk u.t.D u.t.aS u.t.X] .cU,ci 0,ci 0,.nils,.nils,ci 0,.nils,.nils,.nils,.nils,ci 0,.nils])])))) ?_ λ_ h=>Eq.mpr V4 h;(try simp only[iB,bR,Qk]);(simp only[iB,bW]);(try simp only[iB,bR]);refine⟨λh=>?_,λh=>⟨λs=>?_,λs=>?_⟩⟩
 .have e:cP u=⟨0,1,[],W.nil⟩:=by rw[cP,Q5 h]
  simp only[H7,e];exact V0
 .have e:cP u=⟨3,0,[],u.e⟩:=by rw[cP,Q0 h,Q5 s]
  simp only[H7,e];exact V0
 .have e:cP u=⟨u.D,0,[u.t],W.nil⟩:=by rw[cP,Q0 h,Q0 s]
  try(simp only[vE])
  simp only[H7,e];exact V0
theorem rW{α}{a b:α}(h:¬a=b):kf a b=I:=by rw[<-Xx,Yz];exact h
theorem NK{α:Type}(d){a b:List α}(hl:J a=J b)(h:∀i,i<J a->aR a i d=aR b i d):a=b:=by apply KQ hl;grind
theorem c69:aU Tryz.prog M 69 RN:=by
 refine kF (l:=ZvQ) ⟨Ij,trivial⟩ zb Tryz.func69 2 λ⟨a,b,_⟩hp=>?_;simp only[Ma]at hp;refine wV (λQ=>iB ((( J a:Int):Int)!=( J b:Int)) (Q .ret (L2 [pB 4 I] [])) (Zi (A69 [1,1,0,1,0,0]) (uK a b 0) (xB 0 (S69 [1,1,1] Q)))) ?_ λ_ h=>Eq.mpr V4 h;(try simp only[iB,bR,Qk]);(simp only[iB,bW]);(try simp only[iB,bR]);refine⟨λL=>Z9 rfl (rW (a:=a) (b:=b) λh=>L (by rw[h])).symm,λL=>?_⟩;have hl:J a=J b:=O;have ai:=Zs a;refine Z5 (ι:=Int) (λi=>uK a b i) (λi=>0<=i/\i<=J a/\∀j:Nat,(j:Int)<i->aR a j H.nil=aR b j H.nil) (λi=>G (( J a:Int)-i)) 0 rfl ⟨O,O,O⟩ ?_;rintro i⟨h1,h2,h3⟩;refine ZId _ _ _ _ _ ?_;(try simp only[iB,bR,Qk]);(simp only[iB,bW]);(try simp only[iB,bR]);try(simp only[vE])
 refine⟨λhi=>⟨⟨h1,hi⟩,⟨h1,O⟩,?_,λs=>?_,λs=>⟨V3,i+1,rfl,⟨O,O,?_⟩,O⟩⟩,λhi=>?_⟩;.have:=YM (Zh (l:=a) (i:=G i) O H.nil);simp only[mT];omega
 .refine Z9 rfl (rW (a:=a) (b:=b) λh=>?_).symm;rw[h,JL]at s;exact s rfl
 .intro j hj;by_cases hj2:(j:Int)<i;.exact h3 j hj2
  .rw[Yh,show G i=j by omega]at s;exact s
 .refine Z9 rfl (Yz (a:=a) (b:=b).2 (NK H.nil hl λj hj=>h3 j O)).symm
theorem ZGZ{a b:W}(h1:a.D=b.D)(s:a.bH=b.bH)(h3:a.new=b.new)(h4:a.aS=b.aS)(h5:a.X=b.X)(h6:a.V=b.V)(h:a.ops=b.ops):a=b:=by cases a;cases b;simp_all
theorem ZKp{a b:bP}(s:a.S=b.S)(h:a.e=b.e):a=b:=by cases a;cases b;simp_all
theorem ZQk{a b:Op}(h1:a.D=b.D)(s:a.n=b.n)(h:a.l=b.l)(h4:a.e=b.e):a=b:=by cases a;cases b;simp_all
theorem ZzI{a b:aV}(h1:a.S=b.S)(s:a.a_=b.a_)(h:a.bH=b.bH)(h4:a.new=b.new):a=b:=by cases a;cases b;simp_all
theorem c18:aU Tryz.prog M 18 ZDT:=by
 refine Jj (μ:=w_) (l:=[(26,yJ),(69,RN)]) ZN rfl ⟨Ij,c69,trivial⟩ WR Tryz.func18 rfl rfl 2 (λ_=>rfl) V1 λN⟨a,b,_⟩hp hN=>?_;simp only[tI,w_]at hp hN;have a3:=Yr a;have bd:=Yl a.X;have a8:=Y4 a.ops;have bc:∀{P:Prop},(a=b->P)->¬P->kf a b=I:=λh1 h2=>rW λh=>h2 (h1 h);refine wV (λQ=>∀ak,ak=a.new->∀aj,aj=b.new->∀al,al=a.bH->∀ao,ao=b.bH->let z5:=a.D !=b.D;let z2:=bif z5 then Y else a.V !=b.V;let z0:=bif z2 then Y else ! ZW al ao;let z4:=bif z0 then Y else ! ZW ak aj;let z1:=bif z4 then Y else(( J a.aS:Int):Int)!=( J b.aS:Int);let z3:=bif z1 then Y else(( J a.X:Int):Int)!=( J b.X:Int);Tk 4 (!z5) ((z5=I->(!z5)=Y)/\Tk 4 (!z2) (((!z2)=Y->mT (al,ao,()))/\Tt !z2/\(z2=I->(!z2)=Y)/\Tk 4 (!z0) (((!z0)=Y->mT (ak,aj,()))/\Tt !z0/\(z0=I->(!z0)=Y)/\Tk 6 (!z4) ((z4=I->(!z4)=Y)/\Tk 6 (!z1) ((z1=I->(!z1)=Y)/\Tk 6 (!z3) ((z3=I->(!z3)=Y)/\iB (bif z3 then Y else(( J a.ops:Int):Int)!=( J b.ops:Int)) (Q .ret (L2 [pB 4 I] [])) (Zi (zz N [1,1,0,1,0,0]) (Mb a b 0) (xB 0 (zE N [1,1,1] Q)))))))))) ?_ λ_ h=>Eq.mpr V4 (h _ (Z7 _) _ (Z7 _) _ (Z7 _) _ (Z7 _));(try simp only[iB,bR]);rintro y1 rfl y2 rfl y3 rfl y4 rfl;(simp only[iB,bW]);(try simp only[iB,bR]);refine⟨λ_=>?_,λ_=>?_,λL=>?_,λL=>?_⟩;.simp only[mT];omega
 .simp only[mT];omega
 .refine Z9 rfl (rW (a:=a) (b:=b) λh=>?_).symm;rw[h]at L;simp only[JL]at L;simp at L
 .simp only[Yh,KL]at L;obtain⟨⟨⟨⟨⟨⟨h1,h2⟩,h3⟩,h4⟩,h5⟩,h6⟩,h7⟩:=L;refine Z5 (ι:=Int) (λi=>Mb a b i) (λi=>0<=i/\i<=J a.aS/\∀j:Nat,(j:Int)<i->aR a.aS j (aV.mk 0 0 0 0)=aR b.aS j (aV.mk 0 0 0 0)) (λi=>G (( J a.aS:Int)-i)) 0 rfl ⟨O,O,O⟩ ?_;rintro i⟨g1,g2,g3⟩;refine ZIw _ _ _ _ _ _ ?_;(try simp only[iB,bR,Qk]);(simp only[iB,bW]);(try simp only[iB,bR]);try simp only[and_true]
  refine⟨λhi=>⟨⟨g1,hi⟩,⟨g1,O⟩,λhq=>?_,λhq=>⟨V3,i+1,rfl,⟨O,O,?_⟩,O⟩⟩,λhi=>?_⟩;.refine Z9 rfl (rW (a:=a) (b:=b) λh=>?_).symm;grind
  .intro j hj;by_cases hj2:(j:Int)<i;.exact g3 j hj2
   .rw[show G i=j by omega]at hq;exact ZzI hq.1 hq.2.1 hq.2.2.1 hq.2.2.2
  .have hw:a.aS=b.aS:=NK (aV.mk 0 0 0 0) O λj hj=>g3 j O;refine Z5 (ι:=Int) (λi=>Nk a b i) (λi=>0<=i/\i<=J a.X/\∀j:Nat,(j:Int)<i->aR a.X j (aW.mk 0 W.nil)=aR b.X j (aW.mk 0 W.nil)) (λi=>G (( J a.X:Int)-i)) 0 rfl ⟨O,O,O⟩ ?_;rintro i⟨g1,g2,g3⟩;refine ZIv _ _ _ _ _ _ ?_;(try simp only[iB,bR]);rintro y1 s y2 ai y3 aa y4 am;(simp only[iB,bW]);(try simp only[iB,bR]);refine⟨λhi=>⟨⟨g1,hi⟩,⟨g1,O⟩,λ_=>⟨g1,hi⟩,λ_=>⟨g1,O⟩,λ_=>?_,λ_=>?_,λhq=>?_,λhq=>⟨V3,i+1,rfl,⟨O,O,?_⟩,O⟩⟩,λhi=>?_⟩;.have:=JC (Zh (l:=a.X) (i:=G i) O (aW.mk 0 W.nil));rw[<-s,<-aa]at this;simp only[tI];omega
   .have:=JC (Zh (l:=a.X) (i:=G i) O (aW.mk 0 W.nil));rw[<-s,<-aa]at this;simp only[w_];omega
   .refine Z9 rfl (rW (a:=a) (b:=b) λh=>?_).symm;simp_all
   .intro j hj;by_cases hj2:(j:Int)<i;.exact g3 j hj2
    .rw[Yz,aa,am,s,ai,show G i=j by omega]at hq;exact ZKp O hq.2
   .have hk:a.X=b.X:=NK (aW.mk 0 W.nil) O λj hj=>g3 j O;refine Z5 (ι:=Int) (λi=>NG a b i) (λi=>0<=i/\i<=J a.ops/\∀j:Nat,(j:Int)<i->aR a.ops j Op.nil=aR b.ops j Op.nil) (λi=>G (( J a.ops:Int)-i)) 0 rfl ⟨O,O,O⟩ ?_;rintro i⟨g1,g2,g3⟩;refine ZIu _ _ _ _ _ _ ?_;(try simp only[iB,bR]);rintro y1 s y2 ai y3 aa y4 am;(simp only[iB,bW]);(try simp only[iB,bR]);refine⟨λhi=>⟨⟨g1,hi⟩,⟨g1,O⟩,λ_=>?_,λ_=>?_,λ_=>?_,λhq=>?_,λhq=>⟨V3,i+1,rfl,⟨O,O,?_⟩,O⟩⟩,λhi=>?_⟩;.have:=Y9 (Zh (l:=a.ops) (i:=G i) O Op.nil);rw[<-s,ZZ]at this;simp only[Ma];omega
    .have:=Y9 (Zh (l:=a.ops) (i:=G i) O Op.nil);rw[<-s,ZZ,<-aa]at this;simp only[tI];omega
    .have:=Y9 (Zh (l:=a.ops) (i:=G i) O Op.nil);rw[<-s,ZZ,<-aa]at this;simp only[w_];omega
    .refine Z9 rfl (rW (a:=a) (b:=b) λh=>?_).symm;simp_all
    .intro j hj;by_cases hj2:(j:Int)<i;.exact g3 j hj2
     .rw[Yz,Yz,aa,am,s,ai,show G i=j by omega]at hq;obtain⟨⟨⟨q1,q2⟩,q3⟩,q4⟩:=hq;exact ZQk (by simpa using q1) (by simpa using q2) q3 q4
    .have ho:a.ops=b.ops:=NK Op.nil O λj hj=>g3 j O;exact Z9 rfl (Yz (a:=a) (b:=b).2 (ZGZ h1 h3 h4 hw hk h2 ho)).symm
theorem ZiY(a)(o):Zn 0 a [o]=Je 0 a o:=by simp[Zn]
theorem zc{bV x r m}:xb bV (x::r) m=∃h m2,m=h++m2/\h≠[]/\((x.of=0\/x.of=1\/x.of=2)/\(x.of=2->x.p=Op.nil)/\(∀y∈h,y.of=x.of)/\(x.of≠2->ZH x.p/\Zy x.p<=18000000000/\Z4 x.p=J h/\o9 x.p bV (h.map bK.p))/\(x.of≠1->ZH x.q/\Zy x.q<=18000000000/\Z4 x.q=J h/\o9 x.q 2 (h.map bK.q)))/\xb bV r m2:=rfl
def vu(u:bJ):Op×Bool:=(cP u,u.bV)
def vs(a:Int)(o:Op):List (Op×Bool):=(Je 0 a o).map vu
def rA(a:Int)(l:List Op):List (Op×Bool):=l.flatMap (vs a)
theorem ZHY(i a)(o):(Je i a o).map vu=vs a o:=by
 simp only[vs,Je,XP,QP];congr 1;.split<;>simp[vu,cP]
 .congr 1;split<;>simp[vu,cP]
theorem xr(a):∀l(i:Int),(Zn i a l).map vu=rA a l|[],_=>rfl|o::r,i=>by simp only[Zn,XP,ZHY,xr a r];try rfl
theorem ZBJ{a o}(h:ZH o):(J (vs a o))=Z4 o:=by grind[vs,SK]
theorem Zwx{a o}(h:ZH o)(s:a=1\/a=2):∀x∈vs a o,x.2=decide (o.D=a):=by intro x hx;grind[vs,Je,vu]
theorem D4{a n o}(h:ZH o)(h1:1<=n)(s:¬Z4 o<=n):vs a o=vs a (ZD o n)++vs a (iN o n)/\ZH (ZD o n)/\Z4 (ZD o n)=n/\Zy (ZD o n)<=Zy o:=by
 have hl:=YN o;rcases h with⟨k0,k1,k2,k3⟩|⟨k0,k1,k2,k3⟩|⟨k0,k1,k2⟩
 .have e1:ZD o n=⟨o.D,n,o.l,o.e⟩:=by rw[ZD,Q0 s,Q5 k0]
  have e2:iN o n=⟨o.D,o.n-n,o.l,o.e⟩:=by rw[iN,Q5 k0]
  rw[Q0 O,k1]at hl;simp only[Ql]at hl;rw[e1,e2];refine⟨?_,Or.inl ⟨k0,k1,by grind,k3⟩,?_,by simp[ZZ]⟩
  .simp only[vs,Je,k0,k1];simp only[Xa,QG,Qn,XP,List.map_replicate];rw[Q0 V1];grind[List.replicate_append_replicate]
  .rw[YN];grind
 .have e1:ZD o n=⟨o.D,o.n,o.l.take (G n),o.e⟩:=by rw[ZD,Q0 s,Q0 O]
  have e2:iN o n=⟨o.D,o.n,o.l.drop (G n),o.e⟩:=by rw[iN,Q0 O]
  rw[Q0 O]at hl;have hm:=ZkS (G n) o.l;rw[e1,e2];refine⟨?_,Or.inr (Or.inl ⟨k0,k1,?_,k3⟩),?_,by simp only[ZZ];omega⟩;.simp only[vs,Je];rw[Q0 O,Q0 O];simp_all
  .intro he;have:=congrArg List.length he;grind
  .rw[YN];grind
 omega
def lR(l:List Op):Prop:=∀o∈l,ZH o/\Zy o<=18000000000
theorem Zsr{l}(h:lR l):lR (l.drop 1):=λo s=>h o (Xb s)
theorem Eb{l}(h:lR l)(hl:J l≠0):ZH (aR l 0 Op.nil)/\Zy (aR l 0 Op.nil)<=18000000000:=h _ (Zh (l:=l) (i:=0) O Op.nil)
theorem LX{a n p}(h:lR p)(hl:J p≠0)(h1:1<=n)(hn:n<=Z4 (aR p 0 Op.nil)):rA a p=vs a (ZD (aR p 0 Op.nil) n)++rA a (ZP p n)/\ZH (ZD (aR p 0 Op.nil) n)/\Z4 (ZD (aR p 0 Op.nil) n)=n/\Zy (ZD (aR p 0 Op.nil) n)<=18000000000/\lR (ZP p n):=by
 obtain⟨s,hb⟩:=Eb h hl;obtain _|⟨o,r⟩:=p;.simp at hl
 have e:(o::r).getD 0 Op.nil=o:=rfl;unfold ZP;simp only[e]at s hb hn⊢;by_cases L:Z4 o<=n
 .have t:ZD o n=o:=by rw[ZD,Q5 L]
  rw[Q5 L,t];exact⟨rfl,s,O,hb,Zsr h⟩
 .rw[Q0 L];obtain⟨g1,g2,g3,g4⟩:=D4 (a:=a) s h1 L;obtain⟨b1,b2⟩:=Dq s h1 L;refine⟨?_,g2,g3,O,?_⟩;.grind[rA]
  .intro x hx;rcases Qe.1 hx with rfl|hx;.grind
   .exact Zsr h x hx
theorem tE(u)(P):k7 (u::P)=u.bV:=by grind[k7]
theorem Zhg:∀aD P Q(bB:List bK),(∀u∈aD,u.bV=Y)->ZI (aD++P) Q bB=ZI P Q (bB++aD.map λu=>⟨1,u,bJ.nil⟩)|[],P,Q,bB,_=>by simp|u::aD,P,Q,bB,h=>by have hu:=h u (Q6 ..);rw[Qw,ZI,QW (by rw[tE];exact hu)];have:=Zhg aD P Q (bB++[⟨1,u,bJ.nil⟩]) λx s=>h x (Q4 _ s);grind
theorem Ze6:∀B P Q(bB:List bK),k7 P=I->(∀u∈B,u.bV=Y)->ZI P (B++Q) bB=ZI P Q (bB++B.map λu=>⟨2,bJ.nil,u⟩)|[],P,Q,bB,_,_=>by simp|u::B,P,Q,bB,hp,h=>by have hu:=h u (Q6 ..);rw[Qw,ZI,QC (by grind),QW (by rw[tE];exact hu)];have:=Ze6 B P Q (bB++[⟨2,bJ.nil,u⟩]) hp λx s=>h x (Q4 _ s);grind
theorem Zkn:∀aD B P Q(bB:List bK),J aD=J B->(∀u∈aD,u.bV=I)->(∀u∈B,u.bV=I)->ZI (aD++P) (B++Q) bB=ZI P Q (bB++List.zipWith (λu w=>⟨0,u,w⟩) aD B)|[],[],P,Q,bB,_,_,_=>by simp|[],_::_,_,_,_,h,_,_=>by simp at h|_::_,[],_,_,_,h,_,_=>by simp at h|u::aD,w::B,P,Q,bB,hl,ha,hb=>by have hu:=ha u (Q6 ..);have hw:=hb w (Q6 ..);rw[Qw,Qw,ZI,QC (by rw[tE,hu];grind),QC (by rw[tE,hw];grind),QC (by simp)];have:=Zkn aD B P Q (bB++[⟨0,u,w⟩]) (by simpa using hl) (λx s=>ha x (List.mem_cons_of_mem _ s)) λx s=>hb x (List.mem_cons_of_mem _ s);simp_all
theorem ZHH{a p P}(h:lR p)(ha:a=1\/a=2)(e:P.map vu=rA a p):k7 P=gL a p/\( J P=0↔J p=0):=by
 obtain _|⟨o,r⟩:=p
 .have:P=[]:=by simpa[rA]using e
  rw[this];trivial
 .have s:=(h o (Q6 ..)).1;have hl:=ZBJ (a:=a) s;have hp:=ZE s;have hf:=Zwx s ha;simp only[rA,XH]at e;obtain _|⟨u,P⟩:=P;.have:=congrArg List.length e;grind
  .cases hv:vs a o<;>grind[vs,vu,tE,gL]
theorem Nr{a o aD}(h:ZH o)(s:a=1\/a=2)(e:aD.map vu=vs a o):(∀u∈aD,u.bV=decide (o.D=a))/\(J aD)=Z4 o/\o9 o a aD:=by
 refine⟨λu hu=>?_,?_,?_⟩;.exact Zwx h s (vu u) (by grind)
 .grind[ZBJ]
 .have:=congrArg (List.map Prod.fst) e;simp only[vs,QP]at this;unfold o9;rw[ZiY];exact this.symm
theorem YL{a l}:gL a l=Y↔J l≠0/\(aR l 0 Op.nil).D=a:=by unfold gL;grind
theorem Jy(o)(n):(ZD o n).D=o.D:=by unfold ZD;grind
theorem ZHU{aD B}(h:J aD=J B):(List.zipWith (λu w=>(⟨0,u,w⟩)) aD B).map bK.p=aD/\(List.zipWith (λu w=>(⟨0,u,w⟩)) aD B).map bK.q=B:=by induction aD generalizing B with
 |nil=>cases B with
  |nil=>simp_all|cons=>simp at h
 |cons u aD ih=>cases B with|nil=>simp at h|cons w B=>simp_all
theorem ZPf{aD B}:∀y∈List.zipWith (λu w=>(⟨0,u,w⟩:bK)) aD B,y.of=0:=by induction aD generalizing B with|nil=>intro y h;simp at h|cons u aD ih=>cases B with|nil=>intro y h;simp at h|cons w B=>intro y h;rcases Qe.1 h with rfl|h<;>grind
theorem Zko(a)(ha:a=1\/a=2):∀k(p q:List Op)bB(P Q:List bJ)s,J p+J q<=k->lR p->lR q->P.map vu=rA a p->Q.map vu=rA 2 q->∃(ok:Bool)(l:List cm)(m:List bK),(ZC a 2 p q bB).1=(if ok=Y then bB++l else[])/\(ZC a 2 p q bB).2.1=ok/\ZI P Q s=(if ok=Y then s++m else[],ok)/\(ok=Y->xb a l m/\J l<=J p+J q/\J m<=J P+J Q):=by
 intro k;induction k with
 |zero=>
  intro p q bB P Q s hk hp hq eP eQ;have h1:p=[]:=X4.1 O;have h2:q=[]:=X4.1 O;subst h1 h2;have h3:P=[]:=by simpa[rA]using eP
  have h4:Q=[]:=by simpa[rA]using eQ
  subst h3 h4;refine⟨Y,[],[],?_,?_,?_,λ_=>⟨rfl,by simp,by simp⟩⟩;.rw[ZC];simp[gL]
  .rw[ZC];simp[gL]
  .rw[ZI];simp[k7]|succ k ih=>
  intro p q bB P Q s hk hp hq eP eQ;obtain⟨aP,lP⟩:=ZHH hp ha eP;obtain⟨aQ,lQ⟩:=ZHH hq (Or.inr rfl) eQ;rw[ZC];by_cases h1:gL a p=Y
  .rw[QW h1];obtain⟨hl,aa⟩:=YL.1 h1;obtain⟨oa,ob⟩:=Eb hp hl;obtain⟨s1,s2,s3,s4,s5⟩:=LX (a:=a) hp hl (ZE oa) (Qz _);rw[HE]at s1 s5;rw[FV]at s1 s2 s3 s4;rw[s1]at eP;obtain⟨aD,P',rfl,eA,ar⟩:=K3.1 eP;obtain⟨f1,f2,f3⟩:=Nr oa ha eA;rw[QD aa]at f1;rw[Zhg aD P' Q s f1];obtain⟨ok,l,m,e1,e2,e3,e4⟩:=ih (p.drop 1) q (bB++[⟨1,aR p 0 Op.nil,Op.nil⟩]) P' Q (s++aD.map λu=>⟨1,u,bJ.nil⟩) (by simp;omega) s5 hq ar eQ;refine⟨ok,⟨1,aR p 0 Op.nil,Op.nil⟩::l,aD.map (λu=>⟨1,u,bJ.nil⟩)++m,by rw[e1,Qg];rfl,e2,by rw[e3,Qg],λab=>?_⟩;obtain⟨g1,g2,g3⟩:=e4 ab;have ay:=ZE oa;refine⟨?_,by simp only[Qd,QI]at g2⊢;omega,by simp only[Qi,QF]at g3⊢;omega⟩;rw[zc];refine⟨aD.map λu=>⟨1,u,bJ.nil⟩,m,rfl,?_,⟨Or.inr (Or.inl rfl),λh=>by simp at h,?_,λ_=>⟨oa,ob,?_,?_⟩,λh=>absurd rfl h⟩,g1⟩;.intro he;have:=congrArg List.length he;simp only[QF,Ql]at this;omega
   .intro y hy;obtain⟨u,_,rfl⟩:=QU.1 hy;rfl
   .rw[QF];exact f2.symm
   .rw[QP];have:(bK.p∘λu=>(⟨1,u,bJ.nil⟩:bK))=id:=rfl;rw[this,KZ];exact f3
  .rw[QC h1];have nP:k7 P=I:=by rw[aP];exact Xx _▸h1
   by_cases h2:gL 2 q=Y
   .rw[QW h2];obtain⟨hl,aa⟩:=YL.1 h2;obtain⟨oa,ob⟩:=Eb hq hl;obtain⟨s1,s2,s3,s4,s5⟩:=LX (a:=2) hq hl (ZE oa) (Qz _);rw[HE]at s1 s5;rw[FV]at s1 s2 s3 s4;rw[s1]at eQ;obtain⟨B,Q',rfl,eB,ao⟩:=K3.1 eQ;obtain⟨f1,f2,f3⟩:=Nr oa (Or.inr rfl) eB;rw[QD aa]at f1;rw[Ze6 B P Q' s nP f1];obtain⟨ok,l,m,e1,e2,e3,e4⟩:=ih p (q.drop 1) (bB++[⟨2,Op.nil,aR q 0 Op.nil⟩]) P Q' (s++B.map λu=>⟨2,bJ.nil,u⟩) (by simp;omega) hp s5 eP ao;refine⟨ok,⟨2,Op.nil,aR q 0 Op.nil⟩::l,B.map (λu=>⟨2,bJ.nil,u⟩)++m,by rw[e1,Qg];rfl,e2,by rw[e3,Qg],λab=>?_⟩;obtain⟨g1,g2,g3⟩:=e4 ab;have ay:=ZE oa;refine⟨?_,by simp only[Qd,QI]at g2⊢;omega,by simp only[Qi,QF]at g3⊢;omega⟩;rw[zc];refine⟨B.map λu=>⟨2,bJ.nil,u⟩,m,rfl,?_,⟨Or.inr (Or.inr rfl),λ_=>rfl,?_,λh=>absurd rfl h,λ_=>⟨oa,ob,?_,?_⟩⟩,g1⟩;.intro he;have:=congrArg List.length he;simp only[QF,Ql]at this;omega
    .intro y hy;obtain⟨u,_,rfl⟩:=QU.1 hy;rfl
    .rw[QF];exact f2.symm
    .rw[QP];have:(bK.q∘λu=>(⟨2,bJ.nil,u⟩:bK))=id:=rfl;rw[this,KZ];exact f3
   .rw[QC h2];have nQ:k7 Q=I:=by rw[aQ];exact Xx _▸h2
    by_cases h3:J p=0\/J q=0
    .rw[QW h3];have e0:ZI P Q s=if decide ( J P=0)=decide ( J Q=0)then(s,Y)else([],I):=by rw[ZI,QC (by rw[nP];exact Bool.false_ne_true),QC (by rw[nQ];exact Bool.false_ne_true),QW (by rw[lP,lQ];exact h3)]
     have e5:decide ( J P=0)=decide ( J p=0):=decide_eq_decide.2 lP;have e6:decide ( J Q=0)=decide ( J q=0):=decide_eq_decide.2 lQ;rw[e5,e6]at e0;by_cases h4:decide ( J p=0)=decide ( J q=0);.rw[Q5 h4]at e0⊢;exact⟨Y,[],[],by simp,rfl,by rw[e0];simp,λ_=>⟨rfl,by simp,by simp⟩⟩
     .rw[Q0 h4]at e0⊢;exact⟨I,[],[],rfl,rfl,e0,λh=>by cases h⟩
    .rw[QC h3];have l1:J p≠0:=O;have l2:J q≠0:=O;obtain⟨oa,ob⟩:=Eb hp l1;obtain⟨oc,od⟩:=Eb hq l2;have p1:=ZE oa;have p2:=ZE oc;generalize hn:min (Z4 (aR p 0 Op.nil)) (Z4 (aR q 0 Op.nil))=n;obtain⟨s1,s2,s3,s4,s5⟩:=LX (a:=a) (n:=n) hp l1 O O;obtain⟨t1,t2,t3,t4,t5⟩:=LX (a:=2) (n:=n) hq l2 O O;have k1:(ZD (aR p 0 Op.nil) n).D≠a:=by rw[Jy];intro h;exact h1 (YL.2 ⟨l1,h⟩)
     have k2:(ZD (aR q 0 Op.nil) n).D≠2:=by rw[Jy];intro h;exact h2 (YL.2 ⟨l2,h⟩)
     have c1:=Yw p n l1;have c2:=Yw q n l2;have c3:Z4 (aR p 0 Op.nil)<=n->J (ZP p n)<J p:=λh=>Yv p _ l1 h;have c4:Z4 (aR q 0 Op.nil)<=n->J (ZP q n)<J q:=λh=>Yv q _ l2 h;rw[s1]at eP;rw[t1]at eQ;obtain⟨aD,P',rfl,eA,ar⟩:=K3.1 eP;obtain⟨B,Q',rfl,eB,ao⟩:=K3.1 eQ;obtain⟨f1,f2,f3⟩:=Nr s2 ha eA;obtain⟨g1,g2,g3⟩:=Nr t2 (Or.inr rfl) eB;rw[Xe k1]at f1;rw[Xe k2]at g1;have af:J aD=J B:=O;rw[Zkn aD B P' Q' s af f1 g1];obtain⟨ok,l,m,e1,e2,e3,e4⟩:=ih (ZP p n) (ZP q n) (bB++[⟨0,ZD (aR p 0 Op.nil) n,ZD (aR q 0 Op.nil) n⟩]) P' Q' (s++List.zipWith (λu w=>⟨0,u,w⟩) aD B) O s5 t5 ar ao;refine⟨ok,⟨0,ZD (aR p 0 Op.nil) n,ZD (aR q 0 Op.nil) n⟩::l,List.zipWith (λu w=>⟨0,u,w⟩) aD B++m,by rw[e1,Qg];rfl,e2,by rw[e3,Qg],λab=>?_⟩;obtain⟨i1,i2,i3⟩:=e4 ab;have ah:J (List.zipWith (λu w=>(⟨0,u,w⟩:bK)) aD B)=J aD:=by rw[List.length_zipWith,af,Nat.min_self]
     obtain⟨z1,z2⟩:=ZHU af;refine⟨?_,by simp only[Qd];omega,by simp only[Qi,ah];omega⟩;rw[zc];refine⟨List.zipWith (λu w=>⟨0,u,w⟩) aD B,m,rfl,?_,⟨Or.inl rfl,λh=>by simp at h,ZPf,λ_=>⟨s2,s4,?_,?_⟩,λ_=>⟨t2,t4,?_,?_⟩⟩,i1⟩;.intro he;have:=congrArg List.length he;rw[ah,Ql]at this;omega
     .rw[ah];exact f2.symm
     .rw[z1];exact f3
     .rw[ah,af];exact g2.symm
     .rw[z2];exact g3
