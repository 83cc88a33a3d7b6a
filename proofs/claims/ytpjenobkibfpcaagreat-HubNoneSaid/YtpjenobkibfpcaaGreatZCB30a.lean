import Derived.Test.YtpjenobkibfpcaaGreatZKB20g
import Derived.Test.YtpjenobkibfpcaaGreatZCL25j
set_option linter.unusedSimpArgs false
set_option linter.unusedVariables false
namespace Go.AM.YtpjenobkibfpcaaGreat
open Go.AM Go.Proofs
noncomputable section
def Z6l:ArgL (Edit × Int × Unit):=(.cons (aEl .edit) (.cons (YR .i64) .nil))
def JS(a:Edit × Int × Unit):Prop:=(Z8 a.1<=18000000000/\Yh a.1)/\0<=a.2.1/\a.2.1<=1000
def Z5u(a:Edit × Int × Unit):Nat:=4*Z8 a.1
def Zbv(a:Edit × Int × Unit):V U:= .c (.bool (Z4 a.1 a.2.1))
def Zb0:Fs U:=fs Z6l (fun a=> [JS a]) Zbv
def Z3k:ArgL (List Kid × Int × Unit):=(.cons (aSl .kid) (.cons (YR .i64) .nil))
def Z24(a:List Kid × Int × Unit):Prop:=(ZV a.1<=18000000000/\Z1Q a.1)/\0<=a.2.1/\a.2.1<=1000
def Z7n(a:List Kid × Int × Unit):Nat:=4*ZV a.1+2
def Z3T(a:List Kid × Int × Unit):V U:= .c (.bool (Zs (-1) a.1 a.2.1))
def Zku:Fs U:=fs Z3k (fun a=> [Z24 a]) Z3T
def Z23(a:Edit × Int × Unit):Prop:=(Z8 a.1<=18000000000/\Yh a.1/\2<=Edit.list a.1/\Edit.list a.1<=9)/\0<=a.2.1/\a.2.1<=1000
def Z7m(a:Edit × Int × Unit):Nat:=4*Zj a.1.ops+2
def Z5V(a:Edit × Int × Unit):V U:= .c (.bool (Zu a.1.list a.1.ops a.2.1 && decide (Z1D a.1.ops 0 < 1048576/\Z1C a.1.ops 0 < 1048576)))
def Zkt:Fs U:=fs Z6l (fun a=> [Z23 a]) Z5V
def Z3i:ArgL (Int × Op × Int × Unit):=(.cons (YR .i64) (.cons (aEl .op) (.cons (YR .i64) .nil)))
def Z22(a:Int × Op × Int × Unit):Prop:=(Zx a.2.1<=18000000000/\Z0I a.2.1/\2<=a.1/\a.1<=9)/\0<=a.2.2.1/\a.2.2.1<=1000
def Z7l(a:Int × Op × Int × Unit):Nat:=4*Zx a.2.1+1
def Z5U(a:Int × Op × Int × Unit):V U:= .c (.bool (Zg a.1 a.2.1 a.2.2.1))
def Zkr:Fs U:=fs Z3i (fun a=> [Z22 a]) Z5U
def ZdQ(a:Edit × Unit):Prop:=Z8 a.1<=18000000000/\Yh a.1
def ZwW(a:Edit × Unit):V U:= .c (.bool (Z4 a.1 64))
def Z3F:Fs U:=fs Zt6 (fun a=> [ZdQ a]) ZwW
def Z6i(N:Nat):List (FuncId × Fs U):=(78,fs Z6l (fun a=> [JS a,Z5u a < N]) Zbv) ::(124,fs Z3k (fun a=> [Z24 a,Z7n a < N]) Z3T) ::(126,fs Z6l (fun a=> [Z23 a,Z7m a < N]) Z5V) ::(179,fs Z3i (fun a=> [Z22 a,Z7l a < N]) Z5U) ::[(121,Z2S),(122,Z2R),(123,Z2Q),(125,Z0m),(216,Z2O),(219,Z2N),(169,Z2P)]
def ZyV:Z6 U:=lvl [([1,2],[2]),([1,2,11],[2]),([4],[]),([1,2,13],[2]),([1,2,13,14],[2]),([4],[]),([1,2,13,16],[2]),([4],[]),([1,2,13,26],[2]),([4],[]),([1,2,38],[2]),([4],[]),([4],[])]
abbrev W78(N:Nat)(e:Edit)(d:Int)(Q:QT):=AW (Z1 (Z6i N)) Tryz.f78 ZyV [] (L2 [(0,.agg (enc .edit e)),pI 1 d] []) Q
theorem ZDf(N:Nat)(e:Edit)(d:Int)(Q:QT)(h:∀ b,b=e->∀ s,s=(e.new)->∀ u,u=(e.old)->let z3:=(Q .ret (L2 [pB 4 false] []));let z2:=ZL (-1) e.words;let z1:=decide (Tree.kind u≠10) && Zi u 64;let z0:=decide (2<=e.list/\e.list<=9);((ZbO (b,()))/\(Tt (!(!(Z2E b))))/\((!(Z2E b))=false->(!(!(Z2E b)))=true)/\(iB (bif (!(Z2E b)) then true else (d==0)) z3 ((iB (e.kind==0) ((Q .ret (L2 [pB 4 true] []))) ((iB (e.kind==1) ((ZdO (u,()))/\(Tt z1)/\(Tt z1)/\(z1=true->ZdO (s,()))/\(Tt z1)/\(Q .ret (L2 [pB 4 (bif z1 then (decide (Tree.kind s≠10) && Zi s 64) else false)] []))) ((iB (e.kind==2) ((ZbV (e.words,()))/\(Tt z2)/\(Tt z2)/\(z2=true->InR (d - 1))/\(Tt z2)/\(Tt z2)/\(z2=true->Z24 (e.kids,(d - 1),()))/\(z2=true->Z7n (e.kids,(d - 1),()) < N)/\(Tt z2)/\(Q .ret (L2 [pB 4 (bif z2 then (Zs (-1) e.kids (d - 1)) else false)] []))) ((iB (e.kind==3) ((Zjh (e.list,()))/\(Tt z0)/\(z0=true->InR (d - 1))/\(Tt z0)/\(Tt z0)/\(z0=true->Z23 (b,(d - 1),()))/\(z0=true->Z7m (b,(d - 1),()) < N)/\(Tt z0)/\(Q .ret (L2 [pB 4 (bif z0 then (Zu b.list b.ops (d - 1) && decide (Z1D b.ops 0 < 1048576/\Z1C b.ops 0 < 1048576)) else false)] []))) z3))))))))))):
  W78 N e d Q:=
 Eq.mpr V6 (h _ (Z3 _) _ (Z7 _) _ (Z7 _))
def ZAl(N:Nat)(e:Edit)(d:Int):Prop:=AW (Z1 (Z6i N)) Tryz.f78 ZyV [] (Zb (Z6l.can (e,d,())) []) (EQ Tryz.f78 (Zbv (e,d,())) [])
abbrev ZD1:Prop:=∀ (N:Nat) (e:Edit) (d:Int) (_:Unit),JS (e,d,())->Z5u (e,d,()) < N+1->ZAl N e d
def Zcp:Z6 U:=lvl [([0,1],[]),([0,1,7,8,9],[]),([0,1,7,8,9,10],[]),([0,1,5,6,7,8,9],[6]),([0,1,7,8,9,49],[]),([4],[]),([0,1,7,8,9],[]),([4],[])]
def Z57(l:List Kid)(d b:Int):LSt U:=(L2 [(0,.c (sU .kid l .unk)),pI 1 d,(7,.c (sU .kid l .unk)),pI 8 (l.length:Int),pI 9 b] [])
abbrev ZDY(N:Nat)(l:List Kid)(d:Int)(Q:QT):=AW (Z1 (Z6i N)) Tryz.f124 Zcp [] (L2 [(0,.c (sU .kid l .unk)),pI 1 d] []) Q
theorem ZBH(N:Nat)(l:List Kid)(d:Int)(Q:QT)(h:Zp (AW (Z1 (Z6i N)) Tryz.f124 Zcp [1,0,1,0,0]) (Z57 l d 0) (xB 0 (SW (Z1 (Z6i N)) Tryz.f124 Zcp [1,1] Q))):
  ZDY N l d Q:=
 Eq.mpr V6 h
abbrev ZvH(N:Nat)(l:List Kid)(d b:Int)(N0:NT)(Q:QT):=AW (Z1 (Z6i N)) Tryz.f124 Zcp [1,0,1,0,0] (Z57 l d b) (xT N0 (xB 0 (SW (Z1 (Z6i N)) Tryz.f124 Zcp [1,1] Q)))
theorem ZoY(N:Nat)(l:List Kid)(d s:Int)(N0:NT)(Q:QT)(h:∀ b,b=(l.getD s.toNat (KidOf.mk 0 Edit.nil))->∀ aa,aa=(List.getD l (Int.toNat (s - 1)) (KidOf.mk 0 Edit.nil))->∀ u,u=(b.e)->let z5:=decide ((0:Int) < s);let z4:=decide (b.at_ < 0);let z0:=bif z4 then true else (decide ((65535:Int)<=b.at_));let z2:=(!z0) && z5;let z1:=bif z0 then true else (bif z5 then (decide (b.at_<=aa.at_)) else false);let z3:=bif z1 then true else (b.e.kind==0);(iB (decide (s < (l.length:Int))) (((0:Int)<=s/\s < (l.length:Int))/\((Tt (!z4))/\(Tt (!z4))/\(z4=false->(!z4)=true)/\(Tt (!z0))/\(Tt (!z0))/\(Tt z2)/\(z2=true->InR (s - 1))/\(Tt z2)/\(Tt z2)/\(z2=true->(0:Int)<=(s - 1)/\(s - 1) < (l.length:Int))/\(Tt z2)/\(Tt z2)/\(Tt z2)/\(Tt z2)/\(Tt z2)/\((!z0)=true->(True->(!z0)=true))/\((!z0)=true->(z5=true->z2=true))/\(z0=false->(!z0)=true)/\(Tt (!z1))/\(Tt (!z1))/\(Tt (!z1))/\(z1=false->(!z1)=true)/\(Tt (!z3))/\(Tt (!z3))/\(Tt (!z3))/\((!z3)=true->JS (u,d,()))/\((!z3)=true->Z5u (u,d,()) < N)/\(Tt (!z3))/\(z3=false->(!z3)=true)/\(iB (bif z3 then true else (!(Z4 u d))) ((Q .ret (L2 [pB 4 false] []))) ((InR (s+1))/\(N0 (Z57 l d (s+1))))))) ((Q .ret (L2 [pB 4 true] []))))):
  ZvH N l d s N0 Q:=
 Eq.mpr V6 (h _ rfl _ rfl _ (Z3 _))
def ZwB(N:Nat)(l:List Kid)(d:Int):Prop:=AW (Z1 (Z6i N)) Tryz.f124 Zcp [] (Zb (Z3k.can (l,d,())) []) (EQ Tryz.f124 (Z3T (l,d,())) [])
abbrev Zxr:Prop:=∀ (N:Nat) (l:List Kid) (d:Int) (_:Unit),Z24 (l,d,())->Z7n (l,d,()) < N+1->ZwB N l d
def Zco:Z6 U:=lvl [([1,2],[2]),([1,2,10,11,12],[2]),([1,2,10,11,12,13],[2]),([1,2,6,10,11,12],[2,6]),([1,2,10,11,12,21],[2]),([4],[]),([1,2,10,11,12],[2]),([7,8],[]),([4],[])]
def Z56(e:Edit)(d b:Int):LSt U:=(L2 [pI 1 d,pL 2,(10,.c (sU .op e.ops .unk)),pI 11 (e.ops.length:Int),pI 12 b] [(.loc 2,(enc .edit e))])
abbrev ZDX(N:Nat)(e:Edit)(d:Int)(Q:QT):=AW (Z1 (Z6i N)) Tryz.f126 Zco [] (L2 [(0,.agg (enc .edit e)),pI 1 d] []) Q
theorem ZBF(N:Nat)(e:Edit)(d:Int)(Q:QT)(h:Zp (AW (Z1 (Z6i N)) Tryz.f126 Zco [1,0,1,0,0]) (Z56 e d 0) (xB 0 (SW (Z1 (Z6i N)) Tryz.f126 Zco [1,1] Q))):
  ZDX N e d Q:=
 Eq.mpr V6 h
abbrev ZvG(N:Nat)(e:Edit)(d b:Int)(N0:NT)(Q:QT):=AW (Z1 (Z6i N)) Tryz.f126 Zco [1,0,1,0,0] (Z56 e d b) (xT N0 (xB 0 (SW (Z1 (Z6i N)) Tryz.f126 Zco [1,1] Q)))
theorem ZoX(N:Nat)(e:Edit)(d b:Int)(N0:NT)(Q:QT)(h:∀ u,u=e->∀ aa,aa=(e.ops.getD b.toNat Op.nil)->∀ s,s=aa->let z0:=decide (((Z1x u.ops 0):Int) < 1048576);(iB (decide (b < (e.ops.length:Int))) (((0:Int)<=b/\b < (e.ops.length:Int))/\((Z22 (e.list,s,d,()))/\(Z7l (e.list,s,d,()) < N)/\(iB (!(Zg e.list s d)) ((Q .ret (L2 [pB 4 false] []))) ((InR (b+1))/\(N0 (Z56 e d (b+1))))))) ((ZbO (u,()))/\((Tt z0)/\(Tt z0)/\(Q .ret (L2 [(4,.c (.bool (bif z0 then (decide (((Z1w u.ops 0):Int) < 1048576)) else false)))] [])))))):
  ZvG N e d b N0 Q:=
 Eq.mpr V6 (h _ (Z3 _) _ rfl _ (Ym _))
def Zwz(N:Nat)(e:Edit)(d:Int):Prop:=AW (Z1 (Z6i N)) Tryz.f126 Zco [] (Zb (Z6l.can (e,d,())) []) (EQ Tryz.f126 (Z5V (e,d,())) [])
abbrev Zxq:Prop:=∀ (N:Nat) (e:Edit) (d:Int) (_:Unit),Z23 (e,d,())->Z7m (e,d,()) < N+1->Zwz N e d
def Zri:Z6 U:=lvl [([2,3,4],[3,4]),([2,3,4,8],[3,4]),([2,3,4,8,9],[3,4]),([2,3,4,8,11],[3,4]),([2,3,4,8,13],[3,4]),([2,3,4,15],[3,4]),([6],[]),([6],[]),([6],[]),([6],[])]
abbrev ZDP(N:Nat)(list:Int)(o:Op)(d:Int)(Q:QT):=AW (Z1 (Z6i N)) Tryz.f179 Zri [] (L2 [pI 0 list,(1,.agg (enc .op o)),pI 2 d] []) Q
theorem ZBj(N:Nat)(list:Int)(o:Op)(d:Int)(Q:QT)(h:∀ b,b=(o.e)->∀ s,s=(.bool (bif (bif (bif (bif (o.n==0) then (decide ((0:Int) < (o.l.length:Int))) else false) then (Z4 b 1) else false) then (o.e.kind==0) else false) then (!(!(Z0l list o.l))) else false))->let z10:=Q .ret (L2 [(6,.c s)] []);let z9:=((o.l.length:Int):Int)==0;let z8:=decide ((1:Int)<=o.n);let z4:=bif z8 then (decide (o.n<=1048576)) else false;let z3:=bif (o.n==0) then z9 else false;let z6:=bif z3 then (Z0k list b) else false;let z1:=bif z4 then z9 else false;let z7:=bif z1 then (Z4 b 1) else false;let z0:=bif (o.n==0) then (decide ((0:Int) < (o.l.length:Int))) else false;let z5:=bif z0 then (Z4 b 1) else false;let z2:=bif z5 then (o.e.kind==0) else false;(iB (o.kind==0) ((Tt z8)/\(Tt z8)/\(Tt z8)/\(Tt z4)/\(Tt z4)/\(Tt z4)/\(Tt z4)/\(Tt z1)/\(Tt z1)/\(z1=true->JS (b,1,()))/\(z1=true->Z5u (b,1,()) < N)/\(Tt z1)/\(Tt z7)/\(Tt z7)/\(Tt z7)/\(Tt z7)/\(Q .ret (L2 [(6,.c (.bool (bif z7 then (o.e.kind==0) else false)))] []))) ((iB (o.kind==1) ((Tt (o.n==0))/\(Tt (o.n==0))/\(Tt (o.n==0))/\(Tt (o.n==0))/\(Tt z0)/\(Tt z0)/\(z0=true->JS (b,1,()))/\(z0=true->Z5u (b,1,()) < N)/\(Tt z0)/\(Tt z5)/\(Tt z5)/\(Tt z5)/\(Tt z5)/\(Tt z2)/\(Tt z2)/\(Tt z2)/\(z2=true->ZbH (o.l,(list,()),()))/\(Tt z2)/\(Tt z2)/\z10) ((iB (o.kind==2) ((Tt (o.n==0))/\(Tt (o.n==0))/\(Tt (o.n==0))/\(Tt (o.n==0))/\(Tt z0)/\(Tt z0)/\(z0=true->JS (b,1,()))/\(z0=true->Z5u (b,1,()) < N)/\(Tt z0)/\(Tt z5)/\(Tt z5)/\(Tt z5)/\(Tt z5)/\(Tt z2)/\(Tt z2)/\(Tt z2)/\(z2=true->ZbH (o.l,(list,()),()))/\(Tt z2)/\(Tt z2)/\z10) ((iB (o.kind==3) ((Tt (o.n==0))/\(Tt (o.n==0))/\(Tt (o.n==0))/\(Tt (o.n==0))/\(Tt z3)/\(Tt z3)/\(Tt z3)/\(z3=true->Zji (list,b,()))/\(Tt z3)/\(Tt z6)/\(Tt z6)/\(Tt z6)/\(z6=true->JS (b,d,()))/\(z6=true->Z5u (b,d,()) < N)/\(Tt z6)/\(Q .ret (L2 [(6,.c (.bool (bif z6 then (Z4 b d) else false)))] []))) ((Q .ret (L2 [pB 6 false] []))))))))))):
  ZDP N list o d Q:=
 Eq.mpr V6 (h _ (Z3 _) _ rfl)
def Zwd(N:Nat)(list:Int)(o:Op)(d:Int):Prop:=AW (Z1 (Z6i N)) Tryz.f179 Zri [] (Zb (Z3i.can (list,o,d,())) []) (EQ Tryz.f179 (Z5U (list,o,d,())) [])
abbrev Zxo:Prop:=∀ (N:Nat) (list:Int) (o:Op) (d:Int) (_:Unit),Z22 (list,o,d,())->Z7l (list,o,d,()) < N+1->Zwd N list o d
def Zsa:List (FuncId × Fs U):=[(78,Zb0)]
abbrev W28(e:Edit)(Q:QT):=AW (Z1 Zsa) Tryz.f28 ZyU [] (L2 [(0,.agg (enc .edit e))] []) Q
theorem ZDv(e:Edit)(Q:QT)(h:let z0:=Edit.mk e.kind (Tree.mk e.old.kind e.old.words e.old.kids) (Tree.mk e.new.kind e.new.words e.new.kids) e.words e.kids e.list e.ops;(JS (z0,64,()))/\(Q .ret (L2 [pB 2 (Z4 z0 64)] []))):
  W28 e Q:=
 Eq.mpr V6 h
def ZAB(e:Edit):Prop:=AW (Z1 Zsa) Tryz.f28 ZyU [] (Zb (Zt6.can (e,())) []) (EQ Tryz.f28 (ZwW (e,())) [])
theorem ZyM(c78:CT 78 Zb0)(hb:∀ (e:Edit) (_:Unit),ZdQ (e,())->ZAB e):CT 28 Z3F:=
 Z0 (l:=[(78,Zb0)]) Za rfl (⟨c78,trivial⟩) ZyU Tryz.func28 rfl rfl 1 (fun _=> rfl) V5 (fun ⟨e,_⟩=> hb e ())
theorem Zuf(ZzT:CT 121 Z2S)(ZzS:CT 122 Z2R)(ZzR:CT 123 Z2Q)(Zoo:CT 125 Z0m)(Zzs:CT 216 Z2O)(Zzp:CT 219 Z2N)(ZzG:CT 169 Z2P)(b78:ZD1)(ZA4:Zxr)(ZA3:Zxq)(ZA1:Zxo):
  CT 78 Zb0/\CT 124 Zku/\CT 126 Zkt/\CT 179 Zkr:=by
 have ab:FK 78:=⟨Tryz.f78,Tryz.func78,rfl,rfl⟩
 have aa:FK 124:=⟨Tryz.f124,Tryz.func124,rfl,rfl⟩
 have u:FK 126:=⟨Tryz.f126,Tryz.func126,rfl,rfl⟩
 have s:FK 179:=⟨Tryz.f179,Tryz.func179,rfl,rfl⟩
 have b:∀ N,CT 78 (fs Z6l (fun a=> [JS a,Z5u a < N]) Zbv)/\CT 124 (fs Z3k (fun a=> [Z24 a,Z7n a < N]) Z3T)/\CT 126 (fs Z6l (fun a=> [Z23 a,Z7m a < N]) Z5V)/\CT 179 (fs Z3i (fun a=> [Z22 a,Z7l a < N]) Z5U):=by
  intro N
  induction N with
  | zero=> exact ⟨Z0Z ab,Z0Z aa,Z0Z u,Z0Z s⟩
  | succ N ih=>
   have kn:=YP (l:=Z6i N) ⟨ih.1,ih.2.1,ih.2.2.1,ih.2.2.2,ZzT,ZzS,ZzR,Zoo,Zzs,Zzp,ZzG,trivial⟩
   exact ⟨ZQ (Γ:=Z1 (Z6i N)) Za rfl kn ZyV Tryz.func78 rfl rfl (fun a=> by show 2<=_;decide) (fun ⟨e,d,_⟩ h=> b78 N e d () h.1 h.2.1),
    ZQ (Γ:=Z1 (Z6i N)) Za rfl kn Zcp Tryz.func124 rfl rfl (fun a=> by show 2<=_;decide) (fun ⟨l,d,_⟩ h=> ZA4 N l d () h.1 h.2.1),
    ZQ (Γ:=Z1 (Z6i N)) Za rfl kn Zco Tryz.func126 rfl rfl (fun a=> by show 2<=_;decide) (fun ⟨e,d,_⟩ h=> ZA3 N e d () h.1 h.2.1),
    ZQ (Γ:=Z1 (Z6i N)) Za rfl kn Zri Tryz.func179 rfl rfl (fun a=> by show 3<=_;decide) (fun ⟨list,o,d,_⟩ h=> ZA1 N list o d () h.1 h.2.1)⟩
 exact ⟨Z10 ab fun N=> (b N).1,Z10 aa fun N=> (b N).2.1,Z10 u fun N=> (b N).2.2.1,Z10 s fun N=> (b N).2.2.2⟩
end
theorem Znq{e:Edit}:(Z4 e 1=true/\e.kind=0)↔Z2d e=true:=by
 rw [Z89]
 simp only [Z2d,Q1,decide_eq_true_eq]
 by_cases hk:e.kind=0
 .rw [Y7]
  by_cases hb:Yz e.old=true/\Yz e.new=true
  .by_cases hw:e.words.length=0/\e.kids.length=0
   .by_cases hl:e.list=0/\e.ops.length=0
    .have s:e.words=[]:=Qp.1 hw.1
     have b:e.kids=[]:=Qp.1 hw.2
     have u:e.ops=[]:=Qp.1 hl.2
     rw [if_neg (fun h=> by grind),Y7,s,b,u]
     simp only [ZL,Zs,Zu,Z1D,Z1C,QS,Xm,Q1,decide_eq_true_eq]
     grind
    grind
   grind
  grind
 omega
theorem b78:ZD1:=by
 intro N e d _ hp hN
 simp only [JS,Z5u] at hp hN
 obtain ⟨⟨hm,hr⟩,al,au⟩:=hp
 obtain ⟨ik,ro,rn,ay,il,rk,ax⟩:=Z71 hr
 have a1:=YU e
 have az:=YN e.kids
 have aw:=Y8 e.ops
 have s:=Z89 e d
 rw [Zxg al] at s
 refine ZDf N e d _ ?_
 rintro b aj y2 aq y3 ai
 subst aj aq ai
 simp only [iB,vcT,vcS,aiT,true_and]
 have aa:Z2E b=true↔¬((b.kind≠1/\¬(Yz b.old=true/\Yz b.new=true))\/(b.kind≠2/\¬(b.words.length=0/\b.kids.length=0))\/(b.kind≠3/\(b.list≠0\/b.ops.length≠0))):=by
  unfold Z2E
  split
  .grind
  .grind
 refine ⟨by simp only [ZbO];omega,fun hc=> Zc rfl ?_,fun hc=> ?_⟩
 .grind
 have hb:=aa.1 hc.1
 have ak:¬(b.kind=0\/b.kind=1\/b.kind=2\/b.kind=3)->Z4 b d=false:=fun h=> by grind
 by_cases hk:b.kind=0\/b.kind=1\/b.kind=2\/b.kind=3
 .rw [Y7,if_neg hb] at s
  have hw:b.kind≠2->b.words=[]/\b.kids=[]:=by
   intro h
   have:b.words.length=0/\b.kids.length=0:=X4 fun u=> hb (Or.inr (Or.inl ⟨h,u⟩))
   exact ⟨Qp.1 this.1,Qp.1 this.2⟩
  have ho:b.kind≠3->b.list=0/\b.ops=[]:=by
   intro h
   have:b.list=0/\b.ops.length=0:=by
    constructor
    .exact X4 fun u=> hb (Or.inr (Or.inr ⟨h,Or.inl u⟩))
    .exact X4 fun u=> hb (Or.inr (Or.inr ⟨h,Or.inr u⟩))
   exact ⟨this.1,Qp.1 this.2⟩
  refine ⟨fun h0=> Zc rfl ?_,fun h0=> ⟨fun h1=> ⟨by simp only [ZdO];grind,fun _=> by simp only [ZdO];grind,Zc rfl ?_⟩,fun h1=> ⟨fun u=> ⟨by simp only [ZbV];grind,fun _=> by unfold InR;omega,fun _=> by simp only [Z24];grind,fun _=> by simp only [Z7n];omega,Zc rfl ?_⟩,fun u=> ⟨fun h3=> ⟨trivial,fun _=> by unfold InR;omega,fun hl=> by simp only [Z23];grind,fun _=> by simp only [Z7m];omega,Zc rfl ?_⟩,fun h3=> ?_⟩⟩⟩⟩
  .rw [s,Y7,(hw V1).1,(hw V1).2,(ho V1).1,(ho V1).2]
   simp [ZL,Zs,Zu,Z1D,Z1C]
   omega
  .rw [s,if_pos h1,QC]
   grind
  .rw [s,if_neg h1,(ho V1).1,(ho V1).2,QC]
   simp only [Zu,Z1D,Z1C]
   grind
  .rw [s,if_neg h1,(hw V1).1,(hw V1).2,QC]
   simp only [ZL,Zs]
   grind
  .omega
 .have he:=ak hk
  refine ⟨fun h0=> by omega,fun h0=> ⟨fun h1=> by omega,fun h1=> ⟨fun u=> by omega,fun u=> ⟨fun h3=> by omega,fun h3=> Zc rfl ?_⟩⟩⟩⟩
  rw [he]
theorem ZA4:Zxr:=by
 intro N l d _ hp hN
 simp only [Z24,Z7n] at hp hN
 obtain ⟨⟨hm,hr⟩,aw,aq⟩:=hp
 have hl:=YN l
 refine ZBH N l d _ ?_
 refine Zf (ι:=Int) (fun i=> Z57 l d i) (fun i=> 0<=i/\i<=l.length/\∃ b,-1<=b/\(i=0->b= -1)/\(0 < i->b=(l.getD (i - 1).toNat (KidOf.mk 0 Edit.nil)).at_)/\Zs b (l.drop i.toNat) d=Zs (-1) l d) (fun i=> ((l.length:Int) - i).toNat) 0 rfl ⟨V1,V1,-1,V1,fun _=> rfl,fun h=> by omega,by simp⟩ ?_
 rintro i ⟨g1,g2,b,g3,g4,g5,g6⟩
 refine ZoY N l d i _ _ ?_
 rintro u ah y2 ai y3 aa
 simp only [iB,vcT,vcS,aiT,true_and]
 refine ⟨fun hi=> ?_,fun hi=> ?_⟩
 .have s:=Zq (l:=l) (i:=i.toNat) V1 (KidOf.mk 0 Edit.nil)
  have af:=Z1r s
  have ae:=YT hr s
  rw [Jd g1 hi (KidOf.mk 0 Edit.nil)] at g6
  rw [<-ah] at g6 af ae
  rw [<-ai] at g5
  rw [<-aa] at af ae
  simp only [Zs,Z3Q] at g6
  rw [<-aa] at g6
  have hk:u.e.kind=y3.kind:=by rw [aa]
  rw [hk]
  have gl:(¬0 < i\/¬u.at_<=y2.at_)/\¬u.at_ < 0↔b < u.at_/\¬u.at_ < 0:=by
   by_cases h0:0 < i
   .have:=g5 h0;omega
   .have:=g4 V1;omega
  refine ⟨⟨g1,hi⟩,fun _=> by unfold InR;omega,fun _=> by omega,fun _=> ?_,fun _=> by simp only [Z5u];omega,fun hc=> Zc rfl ?_,fun hc=> ⟨V4,i+1,rfl,⟨V1,V1,u.at_,V1,fun h=> by omega,fun _=> by grind,?_⟩,V1⟩⟩
  .simp only [JS]
   grind
  .grind
  .rw [<-g6,hc.2,decide_eq_true (show b < u.at_/\u.at_<=65534/\y3.kind≠0 by
    omega)]
   try rfl
 .rw [Qd V1] at g6
  simp only [Z3T]
  rw [<-g6]
  exact Zc rfl rfl
theorem Z5D{list d:Int}:∀ {os:List Op},(∀ o∈os,Zg list o d=true)->Zu list os d=true
 | [],_=> rfl
 | o ::r,h=> by
  simp only [Zu,Q1]
  exact ⟨h o (Q5 ..),Z5D (fun x b=> h x (Q4 _ b))⟩
theorem ZA3:Zxq:=by
 intro N e d _ hp hN
 simp only [Z23,Z7m] at hp hN
 obtain ⟨⟨hm,hr,hl⟩,aw,aq⟩:=hp
 obtain ⟨ik,ro,rn,ay,il,rk,ah⟩:=Z71 hr
 have a0:=YU e
 have av:=Y8 e.ops
 refine ZBF N e d _ ?_
 refine Zf (ι:=Int) (fun i=> Z56 e d i) (fun i=> 0<=i/\i<=e.ops.length/\∀ o∈e.ops.take i.toNat,Zg e.list o d=true) (fun i=> ((e.ops.length:Int) - i).toNat) 0 rfl ⟨V1,V1,by simp⟩ ?_
 rintro i ⟨g1,g2,g3⟩
 refine ZoX N e d i _ _ ?_
 rintro s af y2 aj y3 ab
 subst af ab
 simp only [iB,vcT,vcS,aiT,true_and]
 refine ⟨fun hi=> ?_,fun hi=> ?_⟩
 .have b:=Zq (l:=s.ops) (i:=i.toNat) V1 Op.nil
  have ai:=YM b
  have ak:=Z2i ah b
  rw [<-aj] at b ai ak
  refine ⟨⟨g1,hi⟩,?_,by simp only [Z7l];omega,fun hc=> Zc rfl ?_,fun hc=> ⟨V4,i+1,rfl,⟨V1,V1,fun o ho=> ?_⟩,V1⟩⟩
  .simp only [Z22]
   grind
  .have:Zu s.list s.ops d=false:=by
    rw [<-Bool.not_eq_true]
    intro h
    have:=rightOs_mem h b
    rw [hc] at this;cases this
   grind
  .rw [show (i+1).toNat=i.toNat+1 by omega,XI] at ho
   grind
 .rw [QK V1] at g3
  have u:Zu s.list s.ops d=true:=Z5D g3
  have hb:∀ o∈s.ops,(0<=o.n/\o.n<=1048576)/\o.l.length<=20000000000:=by
   intro o ho
   refine ⟨ZdE (g3 o ho),?_⟩
   have h1:=YM ho
   rw [Y4] at h1
   have h2:=Zt o.l
   omega
  refine ⟨by simp only [ZbO];omega,Zc rfl ?_⟩
  rw [ZhW _ _ hb V5 V5,ZhV _ _ hb V5 V5,u,QS]
  grind
theorem ZA1:Zxo:=by
 intro N list o d _ hp hN
 simp only [Z22,Z7l] at hp hN
 obtain ⟨⟨hm,hr,a4⟩,ak,av⟩:=hp
 obtain ⟨ik,a0,rl,re⟩:=Z1P hr
 rw [Y4] at hm hN
 have aw:=Zt o.l
 have a5:=Z8w o.e
 have aa:=Z5R list o d
 rw [Zxg ak,Zds] at aa
 have hs:=Znq (e:=o.e)
 refine ZBj N list o d _ ?_
 rintro y1 ai y2 am
 subst ai
 simp only [iB,vcT,vcS,aiT,true_and]
 have u:JS (o.e,1,()):=by simp only [JS];exact ⟨⟨V1,re⟩,V1,V1⟩
 have b:Z5u (o.e,1,()) < N:=by simp only [Z5u];omega
 have s:ZbH (o.l,(list,()),()):=by simp only [ZbH];exact ⟨V1,rl,V4⟩
 have af:o.kind=1\/o.kind=2->y2= .bool (Zg list o d):=by
  intro hk
  rw [am,aa,Y7]
  congr 1
  rw [QC]
  (simp only [iB,vcS])
  by_cases hn:o.n=0
  .rw [Y7,V0]
   (simp only [iB,vcS])
   constructor
   .rintro ⟨⟨⟨⟨h1,h2⟩,h3⟩,h4⟩,h5⟩
    exact ⟨⟨h5,V1⟩,hs.1 ⟨h3,h4⟩⟩
   .rintro ⟨⟨h5,h2⟩,h3⟩
    have:=hs.2 h3
    exact ⟨⟨⟨⟨hn,V1⟩,this.1⟩,this.2⟩,h5⟩
  .rw [V0]
   exact ⟨fun h=> absurd h.1.1.1.1 hn,fun h=> (nomatch h)⟩
 refine ⟨fun hk=> ⟨fun _=> u,fun _=> b,Zc rfl ?_⟩,fun hk=> ⟨fun ab=> ⟨fun _=> u,fun _=> b,fun _=> s,?_⟩,fun ab=> ⟨fun ae=> ⟨fun _=> u,fun _=> b,fun _=> s,?_⟩,fun ae=> ⟨fun ao=> ⟨fun _=> trivial,fun _=> ?_,fun _=> by simp only [Z5u];omega,Zc rfl ?_⟩,fun ao=> Zc rfl ?_⟩⟩⟩⟩
 .grind
 .rw [af (Or.inl ab)]
  trivial
 .rw [af (Or.inr ae)]
  trivial
 .simp only [JS];grind
 .rw [aa,if_neg hk,QC]
  by_cases hn:o.n=0
  .rw [Y7,Y7]
   have hw:Z0k list o.e=true↔(o.e.kind≠0/\7 < list)/\(list=8\/o.e.kind=2\/o.e.kind=1/\o.e.old.kind=1/\o.e.new.kind=1):=by
    unfold Z0k
    split
    .grind
    .grind
   grind
  grind
 grind
theorem ZDE:Contract Tryz.prog cfg 78 Zb0/\Contract Tryz.prog cfg 124 Zku/\Contract Tryz.prog cfg 126 Zkt/\Contract Tryz.prog cfg 179 Zkr:=
 Zuf ZzT ZzS ZzR Zoo Zzs Zzp ZzG b78 ZA4 ZA3 ZA1
theorem c28:Contract Tryz.prog cfg 28 Z3F:=by
 refine ZyM ZDE.1 ?_
 intro e _ b
 simp only [ZdQ] at b
 refine ZDv _ _ ?_
 (simp only [vE])
 refine ⟨by simp only [JS];grind,?_⟩
 trivial
theorem Zl1{e:Edit}(h:Yr e):Wk e:=by obtain ⟨d,b⟩:=h.2.2;exact .of b h.2.1
theorem Z2j:Yr Edit.nil:=by
 refine ⟨V5,?_,1,ZnO⟩
 exact ⟨Jb V5 V5,Z2g,Z2g,by grind,Jb V5 V5,trivial,trivial⟩
theorem Zjo{r:Bool}{e:Edit}{t:Tree}(hr:∃ d,Z4 e d=true)(ht:Zk t+ctE e<=200000000000):Zk (Z0x (doE r e t))<=1000000000000:=by
 cases h:doE r e t with
 | none=> trivial
 | some u=> exact Zii hr ht h
theorem Zjn(o:Option Tree):Z0x (o.map Z5)=Z5 (Z0x o):=by cases o;exact ZnN.symm;rfl
theorem Zju{e:Edit}{t:Tree}(hr:∃ d,Z4 e d=true)(ht:Zk t+ctE e<=200000000000):Zk (Z0x ((doE false e t).map Z5))<=1000000000000:=by
 rw [Zjn]
 exact X3 (YL _) (Zjo hr ht)
noncomputable section
def Zea(w:WEdit)(m:Int):WEdit × Bool:=
 (⟨w.at_,Z3r m w.mask,mix 0 w.old (Z3r m w.mask),mix 0 w.new (Z3r m w.mask)⟩,decide (Z3r m w.mask≠0))
def Yv(p q:WEdit):Bool:=decide (mix 0 p.old (Z3r p.mask q.mask)≠mix 0 q.old (Z3r p.mask q.mask))
def Z05(p q:WEdit):Bool:=decide (mix 0 p.new (Z3r p.mask q.mask)≠mix 0 q.new (Z3r p.mask q.mask))
def Z4g(l:List Tree):List Op:=if l=[] then [] else [⟨2,0,l,Edit.nil⟩]
def Z5y(e:Edit):Op:=if e.kind=0 then ⟨0,1,[],Edit.nil⟩ else ⟨3,0,[],e⟩
end
end Go.AM.YtpjenobkibfpcaaGreat
namespace Go.AM
instance:Inhabited PStep:=⟨⟨0,0⟩⟩
def JK(n:Int):List Op:=if n=0 then [] else [⟨0,n,[],Edit.nil⟩]
def Zx7(s:PStep)(t:Tree):Prop:=s.kind=0/\0<=s.at_/\(t.kind=1/\s.at_ < 65535\/(2<=t.kind/\t.kind<=9)/\s.at_ < t.kids.length)
instance (s:PStep) (t:Tree):Decidable (Zx7 s t):=by unfold Zx7;infer_instance
end Go.AM
namespace Go.AM.YtpjenobkibfpcaaGreat
open Go.AM Go.Proofs
noncomputable section
structure Lft where
 x:Edit
 y:Edit
 c:Bool
 a:Bool
def ZnL(m:Int):Int:=IntKind.wrap .u8 (BitVec.ofInt (IntKind.bits .u8) 255 ^^^ BitVec.ofInt (IntKind.bits .u8) m).toNat
def Z7y{α:Type}(at_:α->Int)(l:List α)(n:Int):Option α:=l.foldl (fun o b=> if at_ b=n then some b else o) none
def Je{α:Type}(at_:α->Int)(f:α->α->α)(q:List α)(a:α):α:=match Z7y at_ q (at_ a) with
 | some b=> f a b
 | none=> a
def Z00{α:Type}(at_:α->Int)(g:α->α->Bool)(p q:List α):Bool:=p.any fun a=> q.any fun b=> decide (at_ a=at_ b) && g a b
def Z4e(a b:WEdit):WEdit:=(Zea a (ZnL b.mask)).1
def Z3L(e:Edit):Edit:=
 if (e.words.filter fun w=> !decide (w.mask=0)).length+(e.kids.filter fun k=> !decide (k.e.kind=0)).length=0 then Edit.nil
 else .mk e.kind e.old e.new (e.words.filter fun w=> !decide (w.mask=0)) (e.kids.filter fun k=> !decide (k.e.kind=0)) e.list e.ops
def JM(e:Edit)(o n:Tree):Lft:=⟨Edit.nil,Edit.nil,(doB e o).2 && !ZW (Z5 (doB e o).1) (Z5 n),!(doB e o).2⟩
def Z3x(f:Edit->Edit->Lft)(p q:Edit):Lft:=
 ⟨Z3L (.mk 2 Tree.nil Tree.nil (p.words.map (Je WEdit.at_ Z4e q.words)) (p.kids.map (Je KidOf.at_ (fun a b=> ⟨a.at_,(f a.e b.e).x⟩) q.kids)) 0 []),
  Z3L (.mk 2 Tree.nil Tree.nil (q.words.map (Je WEdit.at_ Z4e p.words)) (q.kids.map (Je KidOf.at_ (fun b a=> ⟨b.at_,(f a.e b.e).y⟩) p.kids)) 0 []),
  Z00 WEdit.at_ (fun a b=> !Yv a b && Z05 a b) p.words q.words || Z00 KidOf.at_ (fun a b=> (f a.e b.e).c) p.kids q.kids,
  Z00 WEdit.at_ Yv p.words q.words || Z00 KidOf.at_ (fun a b=> (f a.e b.e).a) p.kids q.kids⟩
structure PL where
 x:List Op
 y:List Op
 c:Bool
 a:Bool
def PL.app(s t:PL):PL:=⟨s.x++t.x,s.y++t.y,s.c || t.c,s.a || t.a⟩
def Jp(m h:List Tree):PL:=
 if m≠[]/\h≠[] then ⟨JK h.length,JK m.length,!Z8N m h,false⟩
 else ⟨Z4g m++JK h.length,JK m.length++Z4g h,false,false⟩
def ZC(f:Edit->Edit->Lft)(p q:Op):PL:=
 if p.kind=0/\q.kind=1 then ⟨[],[q],false,false⟩
 else if p.kind=1/\q.kind=0 then ⟨[p],[],false,false⟩
 else if p.kind=0 then ⟨[⟨0,if q.n < 1 then 1 else q.n,[],Edit.nil⟩],[q],false,false⟩
 else if q.kind=0 then ⟨[p],[⟨0,1,[],Edit.nil⟩],false,false⟩
 else if p.kind=1/\q.kind=1 then ⟨[],[],false,!Z8N p.l q.l⟩
 else if p.kind=1 then ⟨[],[],true,!(doE false q.e (p.l.getD 0 Tree.nil)).isSome⟩
 else if q.kind=1 then ⟨[],[],true,!(doE false p.e (q.l.getD 0 Tree.nil)).isSome⟩
 else ⟨[Z5y (f p.e q.e).x],[Z5y (f p.e q.e).y],(f p.e q.e).c,(f p.e q.e).a⟩
def Z0w(f:Edit->Edit->Lft):List Piece->List Tree->List Tree->PL
 | [],m,h=> Jp m h
 | x ::r,m,h=>
  if x.of=1 then Z0w f r (m++x.p.l) h
  else if x.of=2 then Z0w f r m (h++x.q.l)
  else ((Jp m h).app (ZC f x.p x.q)).app (Z0w f r [] [])
def Z1j(list:Int)(l:List Op):Edit:=if (l.any fun o=> !decide (o.kind=0))=true then .mk 3 Tree.nil Tree.nil [] [] list l else Edit.nil
def Z4a(f:Edit->Edit->Lft)(p q:Edit):Lft:=
 if (ZE 2 2 p.ops q.ops []).2.1=true then
  ⟨Z1j p.list (Z0w f (ZE 2 2 p.ops q.ops []).1 [] []).x,Z1j p.list (Z0w f (ZE 2 2 p.ops q.ops []).1 [] []).y,(Z0w f (ZE 2 2 p.ops q.ops []).1 [] []).c,(Z0w f (ZE 2 2 p.ops q.ops []).1 [] []).a⟩
 else ⟨Edit.nil,Edit.nil,false,true⟩
def Y9(f:Edit->Edit->Lft)(p q:Edit):Lft:=
 if p.kind=0\/q.kind=0 then ⟨p,q,false,false⟩
 else if p.kind=1 then JM q p.old p.new
 else if q.kind=1 then JM p q.old q.new
 else if p.kind≠q.kind\/p.list≠q.list then ⟨Edit.nil,Edit.nil,false,true⟩
 else if p.kind=2 then Z3x f p q
 else Z4a f p q
def lbF:Nat->Edit->Edit->Lft
 | 0,_,_=> ⟨Edit.nil,Edit.nil,false,false⟩
 | n+1,p,q=> Y9 (lbF n) p q
def lbE(p q:Edit):Lft:=lbF (Z8 p+Z8 q) p q
def lbN(p q:Edit):Edit × Edit × Int:=
 if (lbE (Zm p) (Zm q)).a=true then (Edit.nil,Edit.nil,14)
 else if (lbE (Zm p) (Zm q)).c=true then (Edit.nil,Edit.nil,13)
 else (Zm (lbE (Zm p) (Zm q)).x,Zm (lbE (Zm p) (Zm q)).y,0)
def YD{α:Type}(f:α->Bool):List α->Int->Int
 | [],_=> -1
 | a ::r,i=> if f a=true then i else YD f r (i+1)
end
structure POk2 (p q:List Op) (x:Piece):Prop where
 of:x.of=0\/x.of=1\/x.of=2
 pp:x.of≠2->Part p x.p/\ZO x.p
 qq:x.of≠1->Part q x.q/\ZO x.q
 one:x.of=1->x.p.kind=2
 two:x.of=2->x.q.kind=2
 both:x.of=0->x.p.kind≠2/\x.q.kind≠2/\Z2 x.p=Z2 x.q
 pn:x.of=2->x.p=Op.nil
 qn:x.of=1->x.q=Op.nil
theorem POk2.mono{p q p' q':List Op}{x:Piece}(h:POk2 p q x)(hp:∀ x∈p,Part p' x)(hq:∀ x∈q,Part q' x):POk2 p' q' x:=
 ⟨h.of,fun e=> ⟨(h.pp e).1.mono hp,(h.pp e).2⟩,fun e=> ⟨(h.qq e).1.mono hq,(h.qq e).2⟩,h.one,h.two,h.both,h.pn,h.qn⟩
theorem ZdR:∀ (k:Nat) (p q:List Op) (out:List Piece),p.length+q.length<=k->(∀ o∈p,ZO o)->(∀ o∈q,ZO o)->
  ((ZE 2 2 p q out).2.1=true->∃ ps,(ZE 2 2 p q out).1=out++ps/\(∀ x∈ps,POk2 p q x)/\(∀ s m,Run p s m↔Run (Z5A ps) s m)/\∀ s m,Run q s m↔Run (Z5z ps) s m)/\
  ((ZE 2 2 p q out).2.1=false->∀ s u v,Run p s u->Run q s v->False):=by
 intro k
 induction k with
 | zero=>
  intro p q out hk hp hq
  have e1:p=[]:=Q3 V1
  have e2:q=[]:=Q3 V1
  subst e1 e2
  have e:ZE 2 2 [] [] out=(out,true,[],[]):=by
   rw [ZE,dif_neg (by simp [sgl]),dif_neg (by simp [sgl]),dif_pos (by simp)]
   try rfl
  rw [e]
  exact ⟨fun _=> ⟨[],by simp,fun x hx=> (by cases hx),fun s m=> XQ,fun s m=> XQ⟩,fun h=> by cases h⟩
 | succ k ih=>
  intro p q out hk hp hq
  rw [ZE]
  by_cases h1:sgl 2 p=true
  .rw [dif_pos h1]
   obtain ⟨g1,g2⟩:=Yq.1 h1
   cases p with
   | nil=> grind
   | cons a p'=>
    simp only [Qf] at g2
    simp only [Qf,Qw,QU]
    have ha:=hp a Q5
    obtain ⟨i1,i2⟩:=ih p' q (out++[⟨1,a,Op.nil⟩]) (by grind) (fun o ho=> hp o (Q4 _ ho)) hq
    refine ⟨fun h=> ?_,fun h s u v r1 r2=> ?_⟩
    .obtain ⟨ps,e,af,hP,hQ⟩:=i1 h
     refine ⟨⟨1,a,Op.nil⟩ ::ps,by grind,fun x hx=> ?_,fun s m=> ?_,fun s m=> hQ s m⟩
     .rcases Q8.1 hx with rfl | hx
      .exact ⟨.inr (.inl rfl),fun _=> ⟨Part.self Q5,ha⟩,fun e=> absurd rfl e,fun _=> g2,fun e=> (by cases e),fun e=> (by cases e),fun e=> (by cases e),fun _=> rfl⟩
      .exact (af x hx).mono (fun x hx=> Part.self (Q4 _ hx)) (fun x hx=> Part.self hx)
     .show _↔Run (a ::Z5A ps) s m
      exact Z4B hP (JT ha) s m
    .obtain ⟨d',_,hr⟩:=(Z0t g2).1 r1
     grind
  .rw [dif_neg h1]
   by_cases h2:sgl 2 q=true
   .rw [dif_pos h2]
    obtain ⟨g1,g2⟩:=Yq.1 h2
    cases q with
    | nil=> grind
    | cons a q'=>
     simp only [Qf] at g2
     simp only [Qf,Qw,QU]
     have ha:=hq a Q5
     obtain ⟨i1,i2⟩:=ih p q' (out++[⟨2,Op.nil,a⟩]) (by grind) hp (fun o ho=> hq o (Q4 _ ho))
     refine ⟨fun h=> ?_,fun h s u v r1 r2=> ?_⟩
     .obtain ⟨ps,e,af,hP,hQ⟩:=i1 h
      refine ⟨⟨2,Op.nil,a⟩ ::ps,by grind,fun x hx=> ?_,fun s m=> hP s m,fun s m=> ?_⟩
      .rcases Q8.1 hx with rfl | hx
       .exact ⟨.inr (.inr rfl),fun e=> absurd rfl e,fun _=> ⟨Part.self Q5,ha⟩,fun e=> (by cases e),fun _=> g2,fun e=> (by cases e),fun _=> rfl,fun e=> (by cases e)⟩
       .exact (af x hx).mono (fun x hx=> Part.self hx) (fun x hx=> Part.self (Q4 _ hx))
      .show _↔Run (a ::Z5z ps) s m
       exact Z4B hQ (JT ha) s m
     .obtain ⟨d',_,hr⟩:=(Z0t g2).1 r2
      grind
   .rw [dif_neg h2]
    by_cases h3:p.length=0\/q.length=0
    .rw [dif_pos h3]
     by_cases h4:p.length=0
     .have e1:p=[]:=Q3 h4
      subst e1
      by_cases h5:q.length=0
      .have e2:q=[]:=Q3 h5
       subst e2
       rw [if_pos rfl]
       exact ⟨fun _=> ⟨[],by simp,fun x hx=> (by cases hx),fun s m=> XQ,fun m d=> XQ⟩,fun h=> by cases h⟩
      .rw [if_neg (by grind)]
       refine ⟨fun h=> (by cases h),fun _ s u v r1 r2=> ?_⟩
       cases q with
       | nil=> exact h5 rfl
       | cons a q'=>
        have ha:=hq a Q5
        obtain ⟨rfl,_⟩:=ZkD r1
        obtain ⟨m1,m',d',e,hl,_⟩:=ZeR ha (fun e=> h2 (Yq.2 ⟨by simp,by simpa using e⟩)) r2
        have:=ZH ha
        have e:=congrArg List.length e
        grind
     .have h5:q.length=0:=V1
      have e2:q=[]:=Q3 h5
      subst e2
      rw [if_neg (by grind)]
      refine ⟨fun h=> (by cases h),fun _ s u v r1 r2=> ?_⟩
      cases p with
      | nil=> exact h4 rfl
      | cons a p'=>
       have ha:=hp a Q5
       obtain ⟨rfl,_⟩:=ZkD r2
       obtain ⟨m1,m',d',e,hl,_⟩:=ZeR ha (fun e=> h1 (Yq.2 ⟨by simp,by simpa using e⟩)) r1
       have:=ZH ha
       have e:=congrArg List.length e
       grind
    .rw [dif_neg h3]
     cases p with
     | nil=> simp at h3
     | cons a p'=>
      cases q with
      | nil=> simp at h3
      | cons b q'=>
       have ha:=hp a Q5
       have hb:=hq b Q5
       have ka:a.kind≠2:=fun e=> h1 (Yq.2 ⟨by simp,by simpa using e⟩)
       have kb:b.kind≠2:=fun e=> h2 (Yq.2 ⟨by simp,by simpa using e⟩)
       have la:=ZH ha
       have lb:=ZH hb
       simp only [Qf]
       generalize hn:min (Z2 a) (Z2 b)=n
       have aq:1<=n:=V1
       have a7:n<=Z2 a:=V1
       have ax:n<=Z2 b:=V1
       obtain ⟨a1,a2,a3,a4,a5,a6⟩:=Z6r hp aq a7
       obtain ⟨b1,b2,b3,b4,b5,b6⟩:=Z6r hq aq ax
       have ay:(Zv (a ::p') n).length+(Zv (b ::q') n).length<=k:=by
        have x1:=ZY (a ::p') n (by simp)
        have x2:=ZY (b ::q') n (by simp)
        simp only [Qm] at hk x1 x2
        rcases Int.le_total (Z2 a) (Z2 b) with h | h
        .have:=ZX (a ::p') n (by simp) (by grind)
         grind
        .have:=ZX (b ::q') n (by simp) (by grind)
         grind
       obtain ⟨i1,i2⟩:=ih (Zv (a ::p') n) (Zv (b ::q') n) (out++[⟨0,Zo a n,Zo b n⟩]) ay (fun o ho=> (a5 o ho).1) (fun o ho=> (b5 o ho).1)
       refine ⟨fun h=> ?_,fun h s u v r1 r2=> ?_⟩
       .obtain ⟨ps,e,af,hP,hQ⟩:=i1 h
        refine ⟨⟨0,Zo a n,Zo b n⟩ ::ps,by grind,fun x hx=> ?_,fun s m=> ?_,fun s m=> ?_⟩
        .rcases Q8.1 hx with rfl | hx
         .exact ⟨.inl rfl,fun _=> ⟨a4,a1⟩,fun _=> ⟨b4,b1⟩,fun e=> (by cases e),fun e=> (by cases e),fun _=> ⟨by grind,by grind,by grind⟩,fun e=> (by cases e),fun e=> (by cases e)⟩
         .exact (af x hx).mono (fun x hx=> (a5 x hx).2) (fun x hx=> (b5 x hx).2)
        .rw [a6 s m]
         exact Z4B hP (JT a1) s m
        .rw [b6 s m]
         exact Z4B hQ (JT b1) s m
       .rw [a6] at r1
        rw [b6] at r2
        obtain ⟨m1,s1,d1,e,hl,r3⟩:=ZeR a1 V1 r1
        obtain ⟨m2,s2,d2,e',bn,r4⟩:=ZeR b1 V1 r2
        obtain ⟨_,e2⟩:=List.append_inj (e.symm.trans e') V1
        grind
theorem Z6h{α:Type}(at_:α->Int)(n:Int):∀ (l:List α) (o:Option α),l.foldl (fun o b=> if at_ b=n then some b else o) o=match Z7y at_ l n with
  | some b=> some b
  | none=> o
 | [],o=> rfl
 | a ::r,o=> by
  unfold Z7y
  simp only [K6]
  rw [Z6h at_ n r,Z6h at_ n r (if at_ a=n then some a else none)]
  grind
theorem Z8A{α:Type}(at_:α->Int)(n:Int):∀ (l:List α) (b:α),Z7y at_ l n=some b->b∈l/\at_ b=n
 | [],b,h=> by cases h
 | a ::r,b,h=> by
  unfold Z7y at h
  rw [K6,Z6h] at h
  cases hr:Z7y at_ r n with
  | some c=>
   rw [hr] at h;cases h
   obtain ⟨u,s⟩:=Z8A at_ n r b hr
   grind
  | none=>
   grind
theorem Z3c{α:Type}{at_:α->Int}{f g:α->α->α}{q:List α}{a:α}(h:∀ b∈q,f a b=g a b):Je at_ f q a=Je at_ g q a:=by
 unfold Je
 cases hb:Z7y at_ q (at_ a) with
 | none=> rfl
 | some b=> exact h b (Z8A at_ _ q b hb).1
theorem Zd5{α:Type}{at_:α->Int}{f g:α->α->Bool}{p q:List α}(h:∀ a∈p,∀ b∈q,f a b=g a b):Z00 at_ f p q=Z00 at_ g p q:=by
 unfold Z00
 grind
theorem Zo6{p q:List Op}{x:Piece}(hx:POk2 p q x)(h0:x.of=0)(kp:x.p.kind=3)(kq:x.q.kind=3):∃ a∈p,∃ b∈q,a.kind=3/\b.kind=3/\x.p.e=a.e/\x.q.e=b.e:=by
 obtain ⟨⟨a,ma,u,ea,_⟩,_⟩:=hx.pp V1
 obtain ⟨⟨b,h,kb,s,_⟩,_⟩:=hx.qq V1
 grind
theorem ZfQ{f g:Edit->Edit->Lft}{p q:Op}(h:p.kind=3->q.kind=3->f p.e q.e=g p.e q.e)(hp:kOk p)(hq:kOk q)(p2:p.kind≠2)(q2:q.kind≠2):ZC f p q=ZC g p q:=by
 unfold ZC
 by_cases h1:p.kind=0/\q.kind=1
 .grind
 by_cases h2:p.kind=1/\q.kind=0
 .grind
 by_cases h3:p.kind=0
 .grind
 by_cases h4:q.kind=0
 .grind
 rw [if_neg h1,if_neg h1,if_neg h2,if_neg h2,if_neg h3,if_neg h3,if_neg h4,if_neg h4]
 by_cases h5:p.kind=1/\q.kind=1
 .grind
 by_cases h6:p.kind=1
 .grind
 by_cases h7:q.kind=1
 .grind
 have s:p.kind=3:=by unfold kOk at hp;omega
 have b:q.kind=3:=by unfold kOk at hq;omega
 rw [h s b]
theorem Zc0{f g:Edit->Edit->Lft}{p q:List Op}(h:∀ a∈p,∀ b∈q,a.kind=3->b.kind=3->f a.e b.e=g a.e b.e):∀ {ps:List Piece},(∀ x∈ps,POk2 p q x)->∀ m n,Z0w f ps m n=Z0w g ps m n
 | [],_,_,_=> rfl
 | x ::r,hps,m,n=> by
  have ih:=fun m n=> Zc0 h (fun y hy=> hps y (Q4 _ hy)) (ps:=r) m n
  have s:=hps x Q5
  simp only [Z0w,ih]
  by_cases h1:x.of=1
  .grind
  by_cases h2:x.of=2
  .grind
  have u:x.of=0:=by rcases s.of with h | h | h <;> omega
  obtain ⟨b1,b2,_⟩:=s.both u
  rw [if_neg h1,if_neg h1,if_neg h2,if_neg h2,ZfQ (f:=f) (g:=g) (fun kp kq=> ?_) (JT (s.pp h2).2) (JT (s.qq h1).2) b1 b2]
  obtain ⟨a,ma,b,mb,ka,kb,ea,eb⟩:=Zo6 s u kp kq
  grind
theorem Z7x {f g:Edit->Edit->Lft} {p q:Edit} {d d':Int} (hp:Z4 p d=true) (hq:Z4 q d'=true)
  (h:∀ a b,Z8 a+Z8 b < Z8 p+Z8 q->(∃ d,Z4 a d=true)->(∃ d,Z4 b d=true)->f a b=g a b):Y9 f p q=Y9 g p q:=by
 have rp:=Zr hp
 have rq:=Zr hq
 have hk:∀ a∈p.kids,∀ b∈q.kids,f a.e b.e=g a.e b.e:=by
  intro a u b s
  have:=YC u
  have:=YC s
  exact h _ _ V1 ⟨_,(ZG rp.kids a u).2⟩ ⟨_,(ZG rq.kids b s).2⟩
 have hs:Z3x f p q=Z3x g p q:=by
  unfold Z3x
  rw [Zd5 (at_:=KidOf.at_) (f:=fun a b:Kid=> (f a.e b.e).c) (g:=fun a b=> (g a.e b.e).c) fun a u b s=> by rw [hk a u b s],
   Zd5 (at_:=KidOf.at_) (f:=fun a b:Kid=> (f a.e b.e).a) (g:=fun a b=> (g a.e b.e).a) fun a u b s=> by rw [hk a u b s],
   Xq (f:=Je KidOf.at_ (fun a b:Kid=> ⟨a.at_,(f a.e b.e).x⟩) q.kids) (g:=Je KidOf.at_ (fun a b:Kid=> ⟨a.at_,(g a.e b.e).x⟩) q.kids) fun a u=> Z3c fun b s=> by rw [hk a u b s],
   Xq (f:=Je KidOf.at_ (fun b a:Kid=> ⟨b.at_,(f a.e b.e).y⟩) p.kids) (g:=Je KidOf.at_ (fun b a:Kid=> ⟨b.at_,(g a.e b.e).y⟩) p.kids) fun b s=> Z3c fun a u=> by rw [hk a u b s]]
 have ho:Z4a f p q=Z4a g p q:=by
  unfold Z4a
  obtain ⟨i1,_⟩:=ZdR _ p.ops q.ops [] (Qb _) (Jz hp) (Jz hq)
  by_cases s:(ZE 2 2 p.ops q.ops []).2.1=true
  .rw [if_pos s,if_pos s]
   obtain ⟨ps,e,ab,_,_⟩:=i1 s
   rw [e,QL,Zc0 (f:=f) (g:=g) (fun a u b s ka kb=> ?_) ab]
   have:=Jv u
   have:=Jv s
   exact h _ _ V1 ⟨_,J4 (rightOs_mem rp.ops u) ka⟩ ⟨_,J4 (rightOs_mem rq.ops s) kb⟩
  .grind
 unfold Y9
 rw [hs,ho]
theorem ZhZ:∀ (n m:Nat) (p q:Edit) (d s:Int),Z4 p d=true->Z4 q s=true->Z8 p+Z8 q<=n->n<=m->lbF m p q=lbF n p q:=by
 intro n
 induction n with
 | zero=> intro m p q d s _ _ h;obtain ⟨k,o,nw,w,ks,l,os⟩:=p;simp only [Z8] at h;omega
 | succ n ih=>
  intro m p q d s hp hq h hm
  obtain ⟨m,rfl⟩:∃ k,m=k+1:=⟨m - 1,V1⟩
  show Y9 (lbF m) p q=Y9 (lbF n) p q
  exact Z7x hp hq fun a b u ⟨d1,h1⟩ ⟨d2,h2⟩=> ih m a b d1 d2 h1 h2 V1 V1
theorem ZrU{p q:Edit}{d d':Int}(hp:Z4 p d=true)(hq:Z4 q d'=true):lbE p q=Y9 lbE p q:=by
 have e:lbE p q=lbF (Z8 p+Z8 q+1) p q:=(ZhZ _ _ p q d d' hp hq (Qb _) V1).symm
 rw [e]
 show Y9 (lbF (Z8 p+Z8 q)) p q=Y9 lbE p q
 exact Z7x hp hq fun a b h ⟨d1,h1⟩ ⟨u,s⟩=> ZhZ _ _ a b d1 u h1 s (Qb _) V1
section
variable {α:Type} {at_:α->Int}
theorem Zck{β:Type}{F G:Nat->α->β}{l:List α}{i:Nat}{v:β}(hF:∀ k a,k≠i->l[k]?=some a->F k a=G k a)(hv:∀ a,l[i]?=some a->G i a=v):(l.mapIdx F).set i v=l.mapIdx G:=by
 apply Xs
 grind
theorem YI{β:Type}{F G:Nat->α->β}{l:List α}(hF:∀ k a,l[k]?=some a->F k a=G k a):l.mapIdx F=l.mapIdx G:=by
 apply Xs
 grind
theorem Z34{β:Type}(F:α->β)(l:List α):l.mapIdx (fun _ a=> F a)=l.map F:=by
 apply Xs
 grind
def Zvu(at_:α->Int)(f:α->α->α)(p q:List α)(i j:Nat):List α:=p.mapIdx fun k a=> if k < i then Je at_ f q a else if k=i then Je at_ f (q.take j) a else a
def Zvt(at_:α->Int)(f:α->α->α)(p q:List α)(i j:Nat):List α:=q.mapIdx fun k b=> Je at_ f (p.take (if k < j then i+1 else i)) b
def Z9W(at_:α->Int)(g:α->α->Bool)(p q:List α)(i j:Nat):Bool:=Z00 at_ g (p.take i) q || Z00 at_ g ((p.drop i).take 1) (q.take j)
theorem Z5k(f:α->α->α)(q:List α)(b a:α):Je at_ f (q++[b]) a=if at_ b=at_ a then f a b else Je at_ f q a:=by
 unfold Je Z7y
 grind
theorem Zav{f:α->α->α}(hf:∀ a b,at_ (f a b)=at_ a)(q:List α)(a:α):at_ (Je at_ f q a)=at_ a:=by
 unfold Je
 grind
theorem getD_some{l:List α}{i:Nat}{a:α}(h:l[i]?=some a)(z:α):l.getD i z=a:=by grind
structure SInv (at_:α->Int) (f fy:α->α->α) (gc ga:α->α->Bool) (mc ma:Bool) (p q:List α) (i j:Nat) (c a:Bool) (X Y:List α):Prop where
 ec:c=(mc || Z9W at_ gc p q i j)
 ea:a=(ma || Z9W at_ ga p q i j)
 eX:X=Zvu at_ f p q i j
 eY:Y=Zvt at_ fy p q i j
variable {f fy:α->α->α} {gc ga:α->α->Bool} {mc ma:Bool} {p q:List α} {i j:Nat} {c a:Bool} {X Y:List α}
theorem SInv.lx(h:SInv at_ f fy gc ga mc ma p q i j c a X Y):X.length=p.length:=by rw [h.eX];exact List.length_mapIdx
theorem SInv.ly(h:SInv at_ f fy gc ga mc ma p q i j c a X Y):Y.length=q.length:=by rw [h.eY];exact List.length_mapIdx
theorem SInv.init:SInv at_ f fy gc ga mc ma p q 0 0 mc ma p q:=by
 refine ⟨?_,?_,?_,?_⟩
 .cases p <;> simp [Z9W,Z00]
 .cases p <;> simp [Z9W,Z00]
 .unfold Zvu
  rw [YI (G:=fun _ a=> id a) fun k a b=> ?_,Z34,List.map_id]
  .rw [Y7];split <;> rfl
 .unfold Zvt
  rw [YI (G:=fun _ a=> id a) fun k a b=> ?_,Z34,List.map_id]
  try rfl
theorem Ztd(g:α->α->Bool)(p:List α)(q:List α)(b:α):Z00 at_ g p (q++[b])=(Z00 at_ g p q || Z00 at_ g p [b]):=by
 rw [QC]
 simp only [Z00,XN,XD,Qc,Qh,Q1,decide_eq_true_eq]
 grind
theorem Zvy(g:α->α->Bool)(p p' q:List α):Z00 at_ g (p++p') q=(Z00 at_ g p q || Z00 at_ g p' q):=by unfold Z00;grind
theorem ZaR{l:List α}{i:Nat}(h:i < l.length):(l.drop i).take 1=[l[i]]:=by rw [Qx h];try rfl
theorem Z5o(g:α->α->Bool){p q:List α}{i j:Nat}(hi:i < p.length)(hj:j < q.length):Z9W at_ g p q i (j+1)=(Z9W at_ g p q i j || decide (at_ p[i]=at_ q[j]) && g p[i] q[j]):=by
 unfold Z9W
 rw [QY hj,Ztd,ZaR hi,<-XK]
 congr 1
 simp [Z00]
theorem SInv.step(h:SInv at_ f fy gc ga mc ma p q i j c a X Y)(hi:i < p.length)(hj:j < q.length)(z:α):
  (at_ (p.getD i z)=at_ (q.getD j z)->SInv at_ f fy gc ga mc ma p q i (j+1) (c || gc (p.getD i z) (q.getD j z)) (a || ga (p.getD i z) (q.getD j z)) (X.set i (f (p.getD i z) (q.getD j z))) (Y.set j (fy (q.getD j z) (p.getD i z))))/\
  (¬at_ (p.getD i z)=at_ (q.getD j z)->SInv at_ f fy gc ga mc ma p q i (j+1) c a X Y):=by
 have ep:p.getD i z=p[i]:=getD_some (Q0 hi) z
 have eq:q.getD j z=q[j]:=getD_some (Q0 hj) z
 rw [ep,eq]
 obtain ⟨ec,ea,eX,eY⟩:=h
 have tp:p.take (i+1)=p.take i++[p[i]]:=QY hi
 have u:q.take (j+1)=q.take j++[q[j]]:=QY hj
 refine ⟨fun e=> ⟨?_,?_,?_,?_⟩,fun e=> ⟨?_,?_,?_,?_⟩⟩
 .rw [Z5o gc hi hj,ec,decide_eq_true e,QS,XK]
 .rw [Z5o ga hi hj,ea,decide_eq_true e,QS,XK]
 .rw [eX]
  refine Zck (fun k b hk _=> ?_) fun b s=> ?_
  .grind
  .rw [Q0 hi] at s
   cases s
   rw [Y7,if_pos rfl,u,Z5k,if_pos e.symm]
 .rw [eY]
  refine Zck (fun k b hk _=> ?_) fun b s=> ?_
  .grind
  .rw [Q0 hj] at s
   cases s
   rw [V0,tp,Z5k,if_pos e]
 .rw [Z5o gc hi hj,ec,decide_eq_false e,XF,Qn]
 .rw [Z5o ga hi hj,ea,decide_eq_false e,XF,Qn]
 .rw [eX]
  refine YI fun k b s=> ?_
  by_cases h:k=i
  .subst h
   rw [Q0 hi] at s
   cases s
   rw [Y7,if_pos rfl,Y7,if_pos rfl,u,Z5k,if_neg (fun x=> e x.symm)]
  grind
 .rw [eY]
  refine YI fun k b s=> ?_
  by_cases h:k=j
  .subst h
   rw [Q0 hj] at s
   cases s
   rw [Y7,V0,tp,Z5k,if_neg e]
  grind
theorem SInv.next(h:SInv at_ f fy gc ga mc ma p q i q.length c a X Y)(hi:i < p.length):SInv at_ f fy gc ga mc ma p q (i+1) 0 c a X Y:=by
 obtain ⟨ec,ea,eX,eY⟩:=h
 have s:∀ g:α->α->Bool,Z9W at_ g p q i q.length=Z9W at_ g p q (i+1) 0:=by
  intro g
  unfold Z9W
  rw [K3,List.take_zero,QY hi,Zvy,ZaR hi]
  have:Z00 at_ g ((p.drop (i+1)).take 1) []=false:=by simp [Z00]
  grind
 refine ⟨by rw [ec,s],by rw [ea,s],?_,?_⟩
 .rw [eX]
  refine YI fun k b u=> ?_
  by_cases h:k < i
  .grind
  .by_cases h2:k=i
   .grind
   .rw [if_neg h,if_neg h2,Y7]
    split <;> rfl
 .rw [eY]
  refine YI fun k b u=> ?_
  grind
theorem SInv.fin(h:SInv at_ f fy gc ga mc ma p q p.length 0 c a X Y):c=(mc || Z00 at_ gc p q)/\a=(ma || Z00 at_ ga p q)/\X=p.map (Je at_ f q)/\Y=q.map (Je at_ fy p):=by
 obtain ⟨ec,ea,eX,eY⟩:=h
 have s:∀ g:α->α->Bool,Z9W at_ g p q p.length 0=Z00 at_ g p q:=by
  intro g
  unfold Z9W
  rw [K3,List.drop_length]
  simp [Z00]
 refine ⟨by rw [ec,s],by rw [ea,s],?_,?_⟩
 .rw [eX]
  unfold Zvu
  rw [YI (G:=fun _ a=> Je at_ f q a) fun k b u=> by rw [if_pos (Q2.1 u).1],Z34]
 .rw [eY]
  unfold Zvt
  rw [YI (G:=fun _ a=> Je at_ fy p a) fun k b u=> by rw [Y7,K3],Z34]
theorem SInv.at_x(h:SInv at_ f fy gc ga mc ma p q i j c a X Y)(hf:∀ a b,at_ (f a b)=at_ a)(hi:i < p.length)(z:α):at_ (X.getD i z)=at_ (p.getD i z):=by
 rw [h.eX,getD_some (a:=Je at_ f (q.take j) p[i]) (by rw [Zvu,List.getElem?_mapIdx,Q0 hi,Q9,Y7,if_pos rfl]),getD_some (Q0 hi),Zav hf]
theorem SInv.at_y(h:SInv at_ f fy gc ga mc ma p q i j c a X Y)(hf:∀ a b,at_ (fy a b)=at_ a)(hj:j < q.length)(z:α):at_ (Y.getD j z)=at_ (q.getD j z):=by
 rw [h.eY,getD_some (a:=Je at_ fy (p.take i) q[j]) (by rw [Zvt,List.getElem?_mapIdx,Q0 hj,Q9,Y7]),getD_some (Q0 hj),Zav hf]
end
end Go.AM.YtpjenobkibfpcaaGreat
namespace Go.AM.YtpjenobkibfpcaaGreat
open Go.AM Go.Proofs
def Lft.swap(L:Lft):Lft:=⟨L.y,L.x,L.c,L.a⟩
def PL.swap(L:PL):PL:=⟨L.y,L.x,L.c,L.a⟩
inductive Lay (f:Edit->Edit->Lft):List Op->List Op->List Tree->List Tree->PL->Prop
 | nil (m h):Lay f [] [] m h (Jp m h)
 | left {a p q m h S}:a.kind=2->Lay f p q (m++a.l) h S->Lay f (a ::p) q m h S
 | right {p b q m h S}:(∀ a∈p.head?,a.kind≠2)->b.kind=2->Lay f p q m (h++b.l) S->Lay f p (b ::q) m h S
 | both {a p b q m h S n}:a.kind≠2->b.kind≠2->n=min (Z2 a) (Z2 b)->Lay f (Zv (a ::p) n) (Zv (b ::q) n) [] [] S->
   Lay f (a ::p) (b ::q) m h (((Jp m h).app (ZC f (Zo a n) (Zo b n))).app S)
section
variable {f:Edit->Edit->Lft}
theorem Zdu{p:List Op}{n:Int}(h:∀ x∈p,ZO x)(hl:p.length≠0)(h1:1<=n):∀ o∈Zv p n,ZO o:=by
 cases p with
 | nil=> grind
 | cons o r=>
  unfold Zv
  simp only [Qf,Qw,QU]
  split
  .grind
  .rename_i s
   intro x b
   rcases Q8.1 b with rfl | b
   .exact (Z7Y (h o Q5) h1 s).1
   grind
theorem Z27{a:Op}{p:List Op}{n:Int}{o:Op}(h:o∈Zv (a ::p) n):o∈p\/o=Yo a n:=by
 unfold Zv at h
 grind
theorem Z7Z(a:Op)(n:Int):(Yo a n).e=a.e:=by unfold Yo;split <;> rfl
theorem Z6s(a:Op)(n:Int):(Zo a n).e=a.e:=by unfold Zo;grind
theorem ZtT{a b:Op}{p q:List Op}{n:Int}(hn:n=min (Z2 a) (Z2 b)):(Zv (a ::p) n).length+(Zv (b ::q) n).length < (a ::p).length+(b ::q).length:=by
 have u:=ZY (a ::p) n (by simp)
 have s:=ZY (b ::q) n (by simp)
 rcases Int.le_total (Z2 a) (Z2 b) with h | h
 .have:=ZX (a ::p) n (by simp) (by grind)
  omega
 .have:=ZX (b ::q) n (by simp) (by grind)
  omega
theorem Zcv:∀ (k:Nat) (p q:List Op) (out:List Piece),p.length+q.length<=k->(ZE 2 2 p q out).2.1=true->∃ u,(ZE 2 2 p q out).1=out++u/\∀ m h,Lay f p q m h (Z0w f u m h):=by
 intro k
 induction k with
 | zero=>
  intro p q out hk s
  have e1:p=[]:=Q3 V1
  have e2:q=[]:=Q3 V1
  subst e1 e2
  rw [ZE,dif_neg (by simp [sgl]),dif_neg (by simp [sgl]),dif_pos (by simp)]
  exact ⟨[],by simp,fun m h=> .nil m h⟩
 | succ k ih=>
  intro p q out hk s
  rw [ZE] at s ⊢
  by_cases h1:sgl 2 p=true
  .rw [dif_pos h1] at s ⊢
   obtain ⟨g1,g2⟩:=Yq.1 h1
   cases p with
   | nil=> grind
   | cons a p'=>
    simp only [Qf,Qw,QU] at g2 s ⊢
    obtain ⟨u,e,hL⟩:=ih p' q _ (by grind) s
    exact ⟨⟨1,a,Op.nil⟩ ::u,by grind,fun m h=> .left g2 (hL _ _)⟩
  .rw [dif_neg h1] at s ⊢
   have np:∀ a∈p.head?,a.kind≠2:=by
    intro a ha e
    cases p with
    | nil=> cases ha
    | cons a' p'=> cases ha;exact h1 (Yq.2 ⟨by simp,by simpa using e⟩)
   by_cases h2:sgl 2 q=true
   .rw [dif_pos h2] at s ⊢
    obtain ⟨g1,g2⟩:=Yq.1 h2
    cases q with
    | nil=> grind
    | cons b q'=>
     simp only [Qf,Qw,QU] at g2 s ⊢
     obtain ⟨u,e,hL⟩:=ih p q' _ (by grind) s
     exact ⟨⟨2,Op.nil,b⟩ ::u,by grind,fun m h=> .right np g2 (hL _ _)⟩
   .rw [dif_neg h2] at s ⊢
    by_cases h3:p.length=0\/q.length=0
    .rw [dif_pos h3] at s ⊢
     by_cases h4:decide (p.length=0)=decide (q.length=0)
     .rw [if_pos h4]
      have h5:p.length=0/\q.length=0:=by
       have:=decide_eq_decide.1 h4
       omega
      rw [Q3 h5.1,Q3 h5.2]
      exact ⟨[],by simp,fun m h=> .nil m h⟩
     grind
    .rw [dif_neg h3] at s ⊢
     cases p with
     | nil=> simp at h3
     | cons a p'=>
      cases q with
      | nil=> simp at h3
      | cons b q'=>
       simp only [Qf] at s ⊢
       have ak:=ZtT (a:=a) (b:=b) (p:=p') (q:=q') rfl
       obtain ⟨u,e,hL⟩:=ih _ _ _ V1 s
       exact ⟨⟨0,_,_⟩ ::u,by rw [e,Ql];rfl,fun m h=> .both (np a rfl) (fun e=> h2 (Yq.2 ⟨by simp,by simpa using e⟩)) rfl (hL [] [])⟩
theorem ZrV{p q:List Op}{m h:List Tree}{S:PL}(H:Lay f p q m h S):∀ out,(ZE 2 2 p q out).2.1=true/\∃ s,(ZE 2 2 p q out).1=out++s/\S=Z0w f s m h:=by
 induction H with
 | nil m h=>
  intro out
  rw [ZE,dif_neg (by simp [sgl]),dif_neg (by simp [sgl]),dif_pos (by simp)]
  exact ⟨rfl,[],by simp,rfl⟩
 | left k2 _ ih=>
  intro out
  rw [ZE,dif_pos (Yq.2 ⟨by simp,by simpa using k2⟩)]
  simp only [Qf,Qw,QU]
  obtain ⟨h1,s,h2,u⟩:=ih (out++[⟨1,_,Op.nil⟩])
  exact ⟨h1,⟨1,_,Op.nil⟩ ::s,by grind,u⟩
 | right np k2 _ ih=>
  rename_i p b q m h S _
  intro out
  have n1:¬sgl 2 p=true:=by
   intro e
   obtain ⟨g1,g2⟩:=Yq.1 e
   cases p with
   | nil=> exact g1 rfl
   | cons a p'=> grind
  rw [ZE,dif_neg n1,dif_pos (Yq.2 ⟨by simp,by simpa using k2⟩)]
  simp only [Qf,Qw,QU]
  obtain ⟨h1,s,h2,u⟩:=ih (out++[⟨2,Op.nil,_⟩])
  exact ⟨h1,⟨2,Op.nil,_⟩ ::s,by grind,u⟩
 | both ka kb hn _ ih=>
  intro out
  subst hn
  rw [ZE,dif_neg (fun e=> ka (by simpa using (Yq.1 e).2)),dif_neg (fun e=> kb (by simpa using (Yq.1 e).2)),dif_neg (by simp)]
  simp only [Qf]
  obtain ⟨h1,s,h2,u⟩:=ih (out++[⟨0,_,_⟩])
  exact ⟨h1,⟨0,_,_⟩ ::s,by rw [h2,Ql];rfl,by rw [u];rfl⟩
theorem Lay.right'{b:Op}{q:List Op}(k2:b.kind=2):∀ {p:List Op} {m h:List Tree} {S:PL},Lay f p q m (h++b.l) S->Lay f p (b ::q) m h S
 | [],m,h,S,H=> .right (fun a s=> by cases s) k2 H
 | a ::p,m,h,S,H=> by
  by_cases ka:a.kind=2
  .cases H with
   | left _ H'=> exact .left ka (H'.right' k2)
   | right np _ _=> grind
   | both k _ _ _=> omega
  .exact .right (fun x u=> by grind) k2 H
theorem Zee(m h:List Tree):Jp h m=(Jp m h).swap:=by
 unfold Jp PL.swap
 by_cases e:m≠[]/\h≠[]
 .rw [if_pos e,if_pos e.symm]
  have:Z8N h m=Z8N m h:=by unfold Z8N;rw [Bool.eq_iff_iff,Z3b,Z3b,eq_comm]
  rw [this]
 .rw [if_neg e,if_neg (fun x=> e x.symm)]
  have:m=[]\/h=[]:=by
   by_cases hm:m=[]
   .exact .inl hm
   .by_cases hh:h=[]
    .exact .inr hh
    .exact absurd ⟨hm,hh⟩ e
  rcases this with rfl | rfl <;> simp [Z4g,JK]
theorem Z2m{o:Op}(h:ZO o)(k:o.kind=0):o=⟨0,o.n,[],Edit.nil⟩/\1<=o.n/\Z2 o=o.n:=by
 have:=ZfU h k
 rcases h with h | h | h
 .obtain ⟨kk,nn,l,e⟩:=o
  obtain ⟨u,b,h3,s⟩:=h
  dsimp only at u b s
  subst u b s
  exact ⟨rfl,h3.1,this⟩
 .omega
 .omega
theorem Zyk{p q:Op}(a:p.kind=0)(b:q.kind=1):ZC f p q=⟨[],[q],false,false⟩:=by unfold ZC;grind
theorem Zyj{p q:Op}(a:p.kind=1)(b:q.kind=0):ZC f p q=⟨[p],[],false,false⟩:=by unfold ZC;grind
theorem pL0{p q:Op}(a:p.kind=0)(b:q.kind≠1):ZC f p q=⟨[⟨0,if q.n < 1 then 1 else q.n,[],Edit.nil⟩],[q],false,false⟩:=by unfold ZC;grind
theorem Zyg{p q:Op}(a:p.kind≠0)(a1:p.kind≠1)(b:q.kind=0):ZC f p q=⟨[p],[⟨0,1,[],Edit.nil⟩],false,false⟩:=by unfold ZC;grind
theorem Zyi{p q:Op}(a:p.kind=1)(b:q.kind=1):ZC f p q=⟨[],[],false,!Z8N p.l q.l⟩:=by unfold ZC;grind
theorem pL1{p q:Op}(a:p.kind=1)(b:q.kind≠0)(b1:q.kind≠1):ZC f p q=⟨[],[],true,!(doE false q.e (p.l.getD 0 Tree.nil)).isSome⟩:=by unfold ZC;grind
theorem Zyf{p q:Op}(a:p.kind≠0)(a1:p.kind≠1)(b:q.kind=1):ZC f p q=⟨[],[],true,!(doE false p.e (q.l.getD 0 Tree.nil)).isSome⟩:=by unfold ZC;grind
theorem Zyh{p q:Op}(a:p.kind≠0)(a1:p.kind≠1)(b:q.kind≠0)(b1:q.kind≠1):ZC f p q=⟨[Z5y (f p.e q.e).x],[Z5y (f p.e q.e).y],(f p.e q.e).c,(f p.e q.e).a⟩:=by
 unfold ZC;grind
theorem ZfT{o:Op}(h:ZO o)(k:o.kind≠0):o.n=0:=by
 rcases h with h | h | h
 .exact absurd h.1 k
 .exact h.2.1
 .exact h.2.1
theorem Zoa(a b:List Tree):Z8N a b=Z8N b a:=by unfold Z8N;rw [Bool.eq_iff_iff,Z3b,Z3b,eq_comm]
theorem Zqs{p q:Op}(op:ZO p)(oq:ZO q)(hl:Z2 p=Z2 q)(a:p.kind=0)(b:q.kind=0):p=q/\1<=p.n:=by
 obtain ⟨ep,h,u⟩:=Z2m op a
 obtain ⟨eq,nq,s⟩:=Z2m oq b
 grind
theorem Zhz{g:Edit->Edit->Lft}{p q:Op}(hf:p.kind=3->q.kind=3->g q.e p.e=(f p.e q.e).swap)(op:ZO p)(oq:ZO q)(hl:Z2 p=Z2 q)(p2:p.kind≠2)(q2:q.kind≠2):ZC g q p=(ZC f p q).swap:=by
 have h:=JT op
 have b:=JT oq
 unfold kOk at h b
 by_cases a0:p.kind=0
 .by_cases b0:q.kind=0
  .obtain ⟨e,s⟩:=Zqs op oq hl a0 b0
   subst e
   rw [pL0 a0 V1,pL0 a0 V1,if_neg (show ¬p.n < 1 by omega),<-(Z2m op a0).1]
   try rfl
  .by_cases b1:q.kind=1
   .rw [Zyj b1 a0,Zyk a0 b1];try rfl
   .rw [Zyg b0 b1 a0,pL0 a0 b1,ZfT oq b0];try rfl
 .by_cases b0:q.kind=0
  .by_cases a1:p.kind=1
   .rw [Zyk b0 a1,Zyj a1 b0];try rfl
   .rw [pL0 b0 a1,Zyg a0 a1 b0,ZfT op a0];try rfl
  .by_cases a1:p.kind=1
   .by_cases b1:q.kind=1
    .rw [Zyi b1 a1,Zyi a1 b1,Zoa];try rfl
    .rw [Zyf b0 b1 a1,pL1 a1 b0 b1];try rfl
   .by_cases b1:q.kind=1
    .rw [pL1 b1 a0 a1,Zyf a0 a1 b1];try rfl
    .rw [Zyh b0 b1 a0 a1,Zyh a0 a1 b0 b1,hf V1 V1];try rfl
theorem PL.app_swap(a b:PL):(a.app b).swap=a.swap.app b.swap:=rfl
theorem Zkq{a:Op}{p:List Op}{n:Int}(h:∀ x∈a ::p,ZO x)(h1:1<=n)(hn:n<=Z2 a):ZO (Zo a n)/\Z2 (Zo a n)=n:=by
 obtain ⟨s,b,_⟩:=Z6r h h1 hn
 grind
theorem Lay.swap{g:Edit->Edit->Lft}{p q:List Op}{m h:List Tree}{S:PL}(H:Lay f p q m h S):(∀ o∈p,ZO o)->(∀ o∈q,ZO o)->(∀ a∈p,∀ b∈q,a.kind=3->b.kind=3->g b.e a.e=(f a.e b.e).swap)->
  Lay g q p h m S.swap:=by
 induction H with
 | nil m h=> intro _ _ _;rw [<-Zee];exact .nil h m
 | left k2 _ s=>
  intro op u hf
  exact (s (fun o ho=> op o (Q4 _ ho)) u fun a ha b hb=> hf a (Q4 _ ha) b hb).right' k2
 | right np k2 _ s=>
  intro op u hf
  exact .left k2 (s op (fun o ho=> u o (Q4 _ ho)) fun a ha b hb=> hf a ha b (Q4 _ hb))
 | both ka kb hn _ s=>
  rename_i a p b q m h S n _
  intro op u hf
  have la:=ZH (op a Q5)
  have lb:=ZH (u b Q5)
  have h1:1<=n:=V1
  obtain ⟨t1,t2⟩:=Zkq op h1 V1
  obtain ⟨t3,t4⟩:=Zkq u h1 V1
  have s:=s (Zdu op (by simp) h1) (Zdu u (by simp) h1) fun x hx y hy kx ky=> by
   rcases Z27 hx with hx | rfl
   .rcases Z27 hy with hy | rfl
    .grind
    .rw [Z7Z];rw [Z0i] at ky;grind
   .rw [Z7Z];rw [Z0i] at kx
    rcases Z27 hy with hy | rfl
    .grind
    .rw [Z7Z];rw [Z0i] at ky;grind
  rw [PL.app_swap,PL.app_swap,<-Zee,<-Zhz (f:=f) (g:=g) (fun kx ky=> ?_) t1 t3 V1 (by rw [J1];exact ka) (by rw [J1];exact kb)]
  .exact .both kb ka (by rw [hn];omega) s
  .rw [J1] at kx ky
   rw [Z6s,Z6s]
   grind
end
theorem Zet(a b:Int):Z3r a b=Z3r b a:=by unfold Z3r;grind
theorem Z8X(p q:WEdit):Yv p q=Yv q p:=by
 unfold Yv
 rw [Zet,decide_eq_decide,ne_comm]
theorem ZgU(p q:WEdit):Z05 p q=Z05 q p:=by
 unfold Z05
 rw [Zet,decide_eq_decide,ne_comm]
theorem Z5p{α:Type}{at_:α->Int}{f g:α->α->Bool}{p q:List α}(h:∀ a∈p,∀ b∈q,g b a=f a b):Z00 at_ g q p=Z00 at_ f p q:=by
 unfold Z00
 grind
section
variable {f:Edit->Edit->Lft} {p q:Edit}
theorem lb0(h:p.kind=0\/q.kind=0):Y9 f p q=⟨p,q,false,false⟩:=by unfold Y9;rw [if_pos h]
theorem lb1(p1:p.kind=1)(q0:q.kind≠0):Y9 f p q=JM q p.old p.new:=by unfold Y9;grind
theorem Zzc(p0:p.kind≠0)(p1:p.kind≠1)(q1:q.kind=1):Y9 f p q=JM p q.old q.new:=by unfold Y9;grind
theorem lbd(p0:p.kind≠0)(p1:p.kind≠1)(q0:q.kind≠0)(q1:q.kind≠1)(h:p.kind≠q.kind\/p.list≠q.list):Y9 f p q=⟨Edit.nil,Edit.nil,false,true⟩:=by
 unfold Y9;grind
theorem lb2(p2:p.kind=2)(q2:q.kind=2)(h:p.list=q.list):Y9 f p q=Z3x f p q:=by unfold Y9;grind
theorem lb3(p2:p.kind=q.kind)(p0:p.kind≠0)(p1:p.kind≠1)(q2:p.kind≠2)(h:p.list=q.list):Y9 f p q=Z4a f p q:=by unfold Y9;grind
end
theorem ZhY {f g:Edit->Edit->Lft} {p q:Edit} {d d':Int} (hp:Z4 p d=true) (hq:Z4 q d'=true)
  (h:∀ a b,Z8 a+Z8 b < Z8 p+Z8 q->(∃ d,Z4 a d=true)->(∃ d,Z4 b d=true)->g b a=(f a b).swap):Y9 g q p=(Y9 f p q).swap:=by
 have rp:=Zr hp
 have rq:=Zr hq
 by_cases p0:p.kind=0
 .rw [lb0 (.inl p0),lb0 (.inr p0)];try rfl
 by_cases q0:q.kind=0
 .rw [lb0 (.inr q0),lb0 (.inl q0)];try rfl
 by_cases p1:p.kind=1
 .by_cases q1:q.kind=1
  .rw [lb1 p1 q0,lb1 q1 p0]
   unfold JM doB
   rw [ZCw p1,ZCw q1,Zbm (Z5 p.old)]
   by_cases e:ZW (Z5 q.old) (Z5 p.old)=true
   .rw [if_pos e,if_pos e]
    show (⟨_,_,true && !ZW (Z5 (Z5 p.new)) (Z5 q.new),_⟩:Lft)=⟨_,_,true && !ZW (Z5 (Z5 q.new)) (Z5 p.new),_⟩
    rw [Z6d,Z6d,Zbm]
    try rfl
   .rw [if_neg e,if_neg e]
    try rfl
  .rw [lb1 p1 q0,Zzc q0 q1 p1];try rfl
 by_cases q1:q.kind=1
 .rw [Zzc p0 p1 q1,lb1 q1 p0];try rfl
 by_cases c2:p.kind≠q.kind\/p.list≠q.list
 .rw [lbd p0 p1 q0 q1 c2,lbd q0 q1 p0 p1 (c2.imp Ne.symm Ne.symm)];try rfl
 have hk:q.kind=p.kind:=V1
 have aa:q.list=p.list:=V1
 by_cases p2:p.kind=2
 .rw [lb2 p2 V1 aa.symm,lb2 V1 p2 aa]
  have ab:∀ a∈p.kids,∀ b∈q.kids,g b.e a.e=(f a.e b.e).swap:=by
   intro a u b s
   have:=YC u
   have:=YC s
   exact h _ _ V1 ⟨_,(ZG rp.kids a u).2⟩ ⟨_,(ZG rq.kids b s).2⟩
  unfold Z3x Lft.swap
  rw [Z5p (at_:=WEdit.at_) (f:=fun a b=> !Yv a b && Z05 a b) (g:=fun a b=> !Yv a b && Z05 a b) fun a _ b _=> by rw [Z8X,ZgU],
   Z5p (at_:=WEdit.at_) (f:=Yv) (g:=Yv) fun a _ b _=> Z8X b a,
   Z5p (at_:=KidOf.at_) (f:=fun a b:Kid=> (f a.e b.e).c) (g:=fun a b=> (g a.e b.e).c) fun a u b s=> by rw [ab a u b s];rfl,
   Z5p (at_:=KidOf.at_) (f:=fun a b:Kid=> (f a.e b.e).a) (g:=fun a b=> (g a.e b.e).a) fun a u b s=> by rw [ab a u b s];rfl,
   Xq (f:=Je KidOf.at_ (fun a b:Kid=> ⟨a.at_,(g a.e b.e).x⟩) p.kids) (g:=Je KidOf.at_ (fun b a:Kid=> ⟨b.at_,(f a.e b.e).y⟩) p.kids) fun b s=> Z3c fun a u=> by rw [ab a u b s];rfl,
   Xq (f:=Je KidOf.at_ (fun b a:Kid=> ⟨b.at_,(g a.e b.e).y⟩) q.kids) (g:=Je KidOf.at_ (fun a b:Kid=> ⟨a.at_,(f a.e b.e).x⟩) q.kids) fun a u=> Z3c fun b s=> by rw [ab a u b s];rfl]
 .rw [lb3 hk.symm p0 p1 p2 aa.symm,lb3 hk q0 q1 V1 aa]
  have hf:∀ a∈p.ops,∀ b∈q.ops,a.kind=3->b.kind=3->g b.e a.e=(f a.e b.e).swap:=by
   intro a u b s ka kb
   have:=Jv u
   have:=Jv s
   exact h _ _ V1 ⟨_,J4 (rightOs_mem rp.ops u) ka⟩ ⟨_,J4 (rightOs_mem rq.ops s) kb⟩
  have af:∀ b∈q.ops,∀ a∈p.ops,b.kind=3->a.kind=3->f a.e b.e=(g b.e a.e).swap:=fun b s a u kb ka=> by rw [hf a u b s ka kb];try rfl
  unfold Z4a
  by_cases s:(ZE 2 2 p.ops q.ops []).2.1=true
  .obtain ⟨ps,e,hL⟩:=Zcv (f:=f) _ p.ops q.ops [] (Qb _) s
   obtain ⟨b1,am,e',hS⟩:=ZrV ((hL [] []).swap (g:=g) (Jz hp) (Jz hq) hf) []
   rw [if_pos s,if_pos b1,e,e',QL,QL,<-hS,aa]
   try rfl
  .rw [if_neg s,if_neg]
   .try rfl
   .intro b1
    obtain ⟨ps,e,hL⟩:=Zcv (f:=g) _ q.ops p.ops [] (Qb _) b1
    exact s (ZrV ((hL [] []).swap (g:=f) (Jz hq) (Jz hp) af) []).1
theorem Zvi:∀ (n:Nat) (p q:Edit) (d s:Int),Z8 p+Z8 q<=n->Z4 p d=true->Z4 q s=true->lbF n q p=(lbF n p q).swap:=by
 intro n
 induction n with
 | zero=> intro p q d s h;obtain ⟨k,o,nw,w,ks,l,os⟩:=p;simp only [Z8] at h;omega
 | succ n ih=>
  intro p q d s h hp hq
  exact ZhY hp hq fun a b u ⟨d1,h1⟩ ⟨d2,h2⟩=> ih a b d1 d2 V1 h1 h2
theorem ZrT{p q:Edit}{d d':Int}(hp:Z4 p d=true)(hq:Z4 q d'=true):lbE q p=(lbE p q).swap:=by
 unfold lbE
 rw [Xv]
 exact Zvi _ p q d d' (Qb _) hp hq
end Go.AM.YtpjenobkibfpcaaGreat
namespace Go.AM.YtpjenobkibfpcaaGreat
open Go.AM Go.Proofs
mutual
def Yb(k:Int):Edit->Prop
 | .mk _ _ _ _ ks _ os=> (J2 os<=k/\Yw os<=k)/\ZaQ k ks/\ZaO k os
def ZaQ(k:Int):List (KidOf Edit)->Prop
 | []=> True
 | x ::r=> Zkp k x/\ZaQ k r
def Zkp(k:Int):KidOf Edit->Prop
 | ⟨_,e⟩=> Yb k e
def ZaO(k:Int):List (OpOf Edit)->Prop
 | []=> True
 | x ::r=> Zph k x/\ZaO k r
def Zph(k:Int):OpOf Edit->Prop
 | ⟨_,_,_,e⟩=> Yb k e
end
theorem ZaP{k:Int}:∀ {l:List Kid},ZaQ k l↔∀ x∈l,Yb k x.e
 | []=> by simp [ZaQ]
 | ⟨a,e⟩ ::r=> by simp only [ZaQ,Zkp,ZaP (l:=r),Q8,forall_eq_or_imp]
theorem ZaN{k:Int}:∀ {l:List Op},ZaO k l↔∀ x∈l,Yb k x.e
 | []=> by simp [ZaO]
 | ⟨a,n,l,e⟩ ::r=> by simp only [ZaO,Zph,ZaN (l:=r),Q8,forall_eq_or_imp]
theorem JN{k:Int}{e:Edit}:Yb k e↔(J2 e.ops<=k/\Yw e.ops<=k)/\(∀ x∈e.kids,Yb k x.e)/\∀ o∈e.ops,Yb k o.e:=by
 obtain ⟨b,o,n,w,ks,l,os⟩:=e
 simp only [Yb,ZaP,ZaN]
 try rfl
theorem Z2L:∀ (n:Nat) {k m:Int} (e:Edit),Z8 e<=n->k<=m->Yb k e->Yb m e:=by
 intro n
 induction n with
 | zero=> intro k m e h;obtain ⟨k,o,nw,w,ks,l,os⟩:=e;simp only [Z8] at h;omega
 | succ n ih=>
  intro k m e hn b h
  rw [JN] at h ⊢
  exact ⟨⟨V1,V1⟩,fun x u=> ih x.e (by have:=YC u;omega) b (h.2.1 x u),fun o s=> ih o.e (by have:=Jv s;omega) b (h.2.2 o s)⟩
theorem Z3u{k:Int}(h:0<=k):Yb k Edit.nil:=by
 trivial
structure Wt where
 k:Nat
 c:Nat
 d:Nat
def owL(K:Wt)(l:List Tree):Nat:=K.d*l.length+Z9 l
mutual
def owE(K:Wt):Edit->Nat
 | .mk _ o n w ks _ os=> K.k+Zk o+Zk n+K.c*w.length+Z3q K ks+Z31 K os
def Z3q(K:Wt):List (KidOf Edit)->Nat
 | []=> 0
 | k ::r=> Zqo K k+Z3q K r
def Zqo(K:Wt):KidOf Edit->Nat
 | ⟨_,e⟩=> K.c+owE K e
def Z31(K:Wt):List (OpOf Edit)->Nat
 | []=> 0
 | o ::r=> Zjm K o+Z31 K r
def Zjm(K:Wt):OpOf Edit->Nat
 | ⟨k,_,l,e⟩=> owL K l+if k=3 then K.d+owE K e else 0
end
section
variable {K:Wt}
theorem ZfS(e:Edit):owE K e=K.k+Zk e.old+Zk e.new+K.c*e.words.length+Z3q K e.kids+Z31 K e.ops:=by cases e;rfl
theorem ZhE(k:Kid):Zqo K k=K.c+owE K k.e:=by cases k;rfl
theorem Z0W(o:Op):Zjm K o=owL K o.l+if o.kind=3 then K.d+owE K o.e else 0:=by cases o;rfl
theorem Zua:owE K Edit.nil=K.k+2:=by rfl
theorem Zu9(e:Edit):K.k+2<=owE K e:=by rw [ZfS];have:=Ze4 e.old;have:=Ze4 e.new;omega
theorem Zlj(a b:List Tree):owL K (a++b)=owL K a+owL K b:=by unfold owL;rw [List.length_append,Yf,Nat.mul_add];omega
theorem ZhD:∀ a b:List Op,Z31 K (a++b)=Z31 K a+Z31 K b
 | [],b=> by simp [Z31]
 | o ::r,b=> by simp only [Qq,Z31,ZhD r b];omega
def OkO(list:Int)(o:Op):Prop:=ZO o/\Zg list o (-2)=true/\Z0I o
theorem ZhC{list:Int}{l:List Op}{o:Op}(hl:∀ b∈l,OkO list b)(hp:Part l o)(ho:ZO o):OkO list o:=by
 obtain ⟨b,m,k,e1,_,lt⟩:=hp
 obtain ⟨_,hr,hg⟩:=hl b m
 refine ⟨ho,?_⟩
 have R:=JI hr
 have G:=Z1P hg
 obtain ⟨s,nn,ll,u⟩:=o
 have k:s=b.kind:=k
 have e1:u=b.e:=e1
 have lt:∀ t∈ll,t∈b.l:=lt
 have gl:ZR ll:=Z4C fun t ht=> YQ G.2.2.1 (lt t ht)
 cases R with
 | keep n1 a1 a2=>
  have k:s=0:=k
  have e1:u=Edit.nil:=e1
  subst k e1
  rcases ho with h | h | h
  .have hl:ll=[]:=h.2.1
   subst hl
   have h3:1<=nn/\nn<=1048576:=h.2.2.1
   exact ⟨Zll h3.1 h3.2 _,Jb V5 V5,V4,trivial,G.2.2.2⟩
  .have:=h.1;omega
  .have:=h.1;omega
 | gone l1 a1 a2=>
  have k:s=1:=k
  have e1:u=Edit.nil:=e1
  subst k e1
  rcases ho with h | h | h
  .have:=h.1;omega
  .have hn:nn=0:=h.2.1
   subst hn
   exact ⟨Zc3 (.inl rfl) (Z4u fun t ht=> Z0p a1 t (lt t ht)) h.2.2.1,Jb V5 V5,Jb V5 V5,gl,G.2.2.2⟩
  .have:=h.1;omega
 | come l1 a1 a2=>
  have k:s=2:=k
  have e1:u=Edit.nil:=e1
  subst k e1
  rcases ho with h | h | h
  .have:=h.1;omega
  .have hn:nn=0:=h.2.1
   subst hn
   exact ⟨Zc3 (.inr rfl) (Z4u fun t ht=> Z0p a1 t (lt t ht)) h.2.2.1,Jb V5 V5,Jb V5 V5,gl,G.2.2.2⟩
  .have:=h.1;omega
 | into e2 a1 a2 a3 a4=>
  have k:s=3:=k
  have e1:u=e2:=e1
  subst k e1
  rcases ho with h | h | h
  .have:=h.1;omega
  .have:=h.1;omega
  .have hn:nn=0:=h.2.1
   have hl:ll=[]:=h.2.2
   subst hn hl
   exact ⟨Zlm a1 a2 a3 a4,Jb V5 V5,Jb V5 V5,trivial,G.2.2.2⟩
theorem Zh0{list:Int}{a:Op}{p:List Op}{n:Int}(h:∀ x∈a ::p,OkO list x)(h1:1<=n)(hn:n<=Z2 a):OkO list (Zo a n)/\(Zo a n).kind=a.kind/\Z2 (Zo a n)=n/\∀ o∈Zv (a ::p) n,OkO list o:=by
 obtain ⟨g1,g2,u,g4,s,_⟩:=Z6r (fun x hx=> (h x hx).1) h1 hn
 exact ⟨ZhC h g4 g1,u,g2,fun o b=> ZhC h (s o b).2 (s o b).1⟩
theorem ZCH:ZoB fun o=> ((Zjm K o:Nat):Int):=by
 intro o n h u b
 have hl:=ZT o
 rcases h with ⟨k0,k1,k2,k3⟩ | ⟨k0,k1,k2,k3⟩ | ⟨k0,k1,k2⟩
 .have e1:Zo o n=⟨o.kind,n,o.l,o.e⟩:=by rw [Zo,if_neg b,if_pos k0]
  have e2:Yo o n=⟨o.kind,o.n - n,o.l,o.e⟩:=by rw [Yo,if_pos k0]
  simp only [Z0W,e1,e2]
  rw [Y7,k1]
  try rfl
 .have e1:Zo o n=⟨o.kind,o.n,o.l.take n.toNat,o.e⟩:=by rw [Zo,if_neg b,Y7]
  have e2:Yo o n=⟨o.kind,o.n,o.l.drop n.toNat,o.e⟩:=by rw [Yo,Y7]
  have s:¬o.kind=3:=V1
  have:=Zlj (K:=K) (o.l.take n.toNat) (o.l.drop n.toNat)
  rw [QO] at this
  simp only [Z0W,e1,e2]
  grind
 omega
end
end Go.AM.YtpjenobkibfpcaaGreat
namespace Go.AM.YtpjenobkibfpcaaGreat
open Go.AM Go.Proofs
variable {K:Wt}
structure LbX (K:Wt) (T:Int) (X p:Edit):Prop where
 wk:Wk X
 th:Yb T X
 ow:owE K X<=owE K p
 kx:X.kind=0\/X=p\/(X.kind=p.kind/\(p.kind=2\/p.kind=3))
theorem ZiK:Wk Edit.nil:=by
 obtain ⟨_,h,d,b⟩:=Z2j
 exact .of b h
theorem LbX.nil{T:Int}(hT:0<=T)(p:Edit):LbX K T Edit.nil p:=⟨ZiK,Z3u hT,by rw [Zua];exact Zu9 p,.inl rfl⟩
theorem LbX.self{T:Int}{p:Edit}(h:Wk p)(ht:Yb T p):LbX K T p p:=⟨h,ht,Qb _,.inr (.inl rfl)⟩
theorem Z2n(n:Int):Z2 ⟨0,n,[],Edit.nil⟩=n:=by rw [ZT];simp
theorem ZnG(l:List Tree):Z2 ⟨2,0,l,Edit.nil⟩=l.length:=by rw [ZT];simp
theorem φB_nn{o:Op}(h:ZO o):0<=φB o:=by unfold φB;have:=ZH h;omega
theorem ZeI:∀ {l:List Op},(∀ o∈l,ZO o)->0<=Yw l
 | [],_=> Xb _
 | o ::r,h=> by
  have u:=φB_nn (h o Q5)
  have b:=ZeI (l:=r) fun x s=> h x (Q4 _ s)
  rw [<-Z0C] at b ⊢
  simp only [Yp];omega
def Ztf(list:Int)(l:List Tree):Prop:=∀ t∈l,Zi (.mk list [] [t]) (-1)=true/\rng t
theorem Zc5{list n:Int}(h1:1<=n)(h2:n<=1048576):OkO list ⟨0,n,[],Edit.nil⟩:=by
 refine ⟨.inl ⟨rfl,rfl,⟨h1,h2⟩,rfl⟩,Zll h1 h2 _,Jb V5 V5,V4,trivial,?_⟩
 exact ZiK.g
theorem Zuc{list:Int}{l:List Tree}(h:Ztf list l)(hl:l≠[]):OkO list ⟨2,0,l,Edit.nil⟩:=by
 refine ⟨.inr (.inl ⟨.inr rfl,rfl,hl,rfl⟩),Zc3 (.inr rfl) ?_ hl,Jb V5 V5,Jb V5 V5,Z4C fun t b=> (h t b).2,ZiK.g⟩
 rw [ZcP V5]
 exact Z4u fun t b=> (h t b).1
theorem ZnJ{list:Int}{o:Op}(h:OkO list o)(k:o.kind=1\/o.kind=2):Ztf list o.l:=by
 have R:=JI h.2.1
 have G:=(Z1P h.2.2).2.2.1
 intro t b
 refine ⟨?_,YQ G b⟩
 cases R with
 | keep=> grind
 | into=> grind
 | gone l a1=> rw [ZcP V5] at a1;exact Z0p a1 t b
 | come l a1=> rw [ZcP V5] at a1;exact Z0p a1 t b
theorem Z43{list:Int}{o:Op}(h:OkO list o)(k:o.kind=3):(7 < list/\o.e.kind≠0/\Wl list o.e/\Wk o.e)/\o.l=[]:=by
 have R:=JI h.2.1
 cases R with
 | keep | gone | come=> grind
 | into e a1 a2 a3 a4=> exact ⟨⟨a3,a2,a4,⟨Yi _ _ _ V5 a1,(Z1P h.2.2).2.2.2⟩⟩,rfl⟩
structure OpsX (K:Wt) (list T:Int) (l:List Op) (A B:Int) (W:Nat):Prop where
 ok:∀ o∈l,OkO list o/\Yb T o.e
 la:J2 l<=A
 lb:Yw l<=B
 ow:Z31 K l<=W
theorem OpsX.app{list T:Int}{l l':List Op}{A B A' B':Int}{W W':Nat}(h:OpsX K list T l A B W)(h':OpsX K list T l' A' B' W'):OpsX K list T (l++l') (A+A') (B+B') (W+W'):=by
 refine ⟨fun o b=> (Qc.1 b).elim (h.ok o) (h'.ok o),?_,?_,?_⟩
 .rw [<-ZaU,ZaT,ZaU,ZaU];have:=h.la;have:=h'.la;omega
 .rw [<-Z0C,ZaT,Z0C,Z0C];have:=h.lb;have:=h'.lb;omega
 .rw [ZhD];have:=h.ow;have:=h'.ow;omega
theorem OpsX.none{list T A B:Int}{W:Nat}(ha:0<=A)(hb:0<=B):OpsX K list T [] A B W:=⟨fun o b=> (by cases b),ha,hb,QI _⟩
theorem OpsX.mono{list T:Int}{l:List Op}{A B A' B':Int}{W W':Nat}(h:OpsX K list T l A B W)(ha:A<=A')(hb:B<=B')(hw:W<=W'):OpsX K list T l A' B' W':=
 ⟨h.ok,Int.le_trans h.la ha,Int.le_trans h.lb hb,X3 h.ow hw⟩
theorem OpsX.one{list T:Int}{o:Op}(h:OkO list o)(ht:Yb T o.e):OpsX K list T [o] (φA o) (φB o) (Zjm K o):=by
 refine ⟨fun x b=> by grind,?_,?_,?_⟩
 .rw [<-ZaU];simp [Yp]
 .rw [<-Z0C];simp [Yp]
 .simp [Z31]
theorem Zse{list T:Int}(hT:0<=T){n:Nat}(hn:n<=1048576):OpsX K list T (JK n) n n 0:=by
 unfold JK
 split
 .exact .none V1 V1
 .refine (OpsX.one (Zc5 V1 V1) (Z3u hT)).mono ?_ ?_ ?_
  .unfold φA;rw [if_neg (by simp),Z2n];omega
  .unfold φB;rw [if_neg (by simp),Z2n];omega
  .simp [Z0W,owL,Z9]
theorem ZCo{list T:Int}(hT:0<=T){l:List Tree}(h:Ztf list l):OpsX K list T (Z4g l) 0 l.length (owL K l):=by
 unfold Z4g
 split
 .exact .none V1 V1
 .rename_i hl
  refine (OpsX.one (Zuc h hl) (Z3u hT)).mono ?_ ?_ ?_
  .unfold φA;grind
  .unfold φB;rw [if_neg (by simp),ZnG];omega
  .simp [Z0W]
theorem Zx6{list T:Int}(hT:0<=T){m h:List Tree}(hm:Ztf list m)(hh:h.length<=1048576):OpsX K list T (Jp m h).x h.length (m.length+h.length) (owL K m):=by
 unfold Jp
 split
 .exact (Zse hT hh).mono V1 V1 (QI _)
 .exact ((ZCo hT hm).app (Zse hT hh)).mono V1 V1 V1
theorem Zu8 {f:Edit->Edit->Lft} {list a b:Int} (hli:2<=list/\list<=9) (ha:0<=a) (hb:0<=b) {p q:Op} (op:OkO list p) (oq:OkO list q) (tp:Yb a p.e) (hl:Z2 p=Z2 q) (p2:p.kind≠2) (q2:q.kind≠2)
  (hf:p.kind=3->q.kind=3->LbX K (a+b) (f p.e q.e).x p.e):OpsX K list (a+b) (ZC f p q).x (φB q) (φB p) (Zjm K p):=by
 have kp:=JT op.1
 have kq:=JT oq.1
 unfold kOk at kp kq
 have np:=φB_nn op.1
 have nq:=φB_nn oq.1
 have lp:=ZH op.1
 have s:=Z2L _ p.e (Qb _) (show a<=a+b by omega) tp
 by_cases a0:p.kind=0
 .by_cases b1:q.kind=1
  .rw [Zyk a0 b1];exact .none nq np
  .rw [pL0 a0 b1]
   have e:(if q.n < 1 then 1 else q.n)=Z2 q:=by
    by_cases b0:q.kind=0
    .obtain ⟨_,h1,h2⟩:=Z2m oq.1 b0
     rw [Y7,h2]
    .rw [ZfT oq.1 b0,if_pos V5,Z1S V1]
   have h1:=Z2m op.1 a0
   rw [e,<-hl]
   refine (OpsX.one (Zc5 lp ?_) (Z3u V1)).mono ?_ ?_ (by simp [Z0W,owL,Z9])
   .rw [h1.2.2]
    rcases op.1 with h | h | h
    .exact h.2.2.1.2
    .omega
    .omega
   .unfold φA φB;rw [if_neg (by simp),if_neg b1,Z2n];omega
   .unfold φB;rw [if_neg (by simp),Y7,Z2n];omega
 .by_cases b0:q.kind=0
  .by_cases a1:p.kind=1
   .rw [Zyj a1 b0]
    refine (OpsX.one op s).mono ?_ (Xb _) (Qb _)
    unfold φA φB;rw [if_neg p2,Y7];omega
   .rw [Zyg a0 a1 b0]
    refine (OpsX.one op s).mono ?_ (Xb _) (Qb _)
    unfold φA φB;rw [if_neg p2,Y7];omega
  .by_cases a1:p.kind=1
   .by_cases b1:q.kind=1
    .rw [Zyi a1 b1];exact .none nq np
    .rw [pL1 a1 b0 b1];exact .none nq np
   .by_cases b1:q.kind=1
    .rw [Zyf a0 a1 b1];exact .none nq np
    .rw [Zyh a0 a1 b0 b1]
     have p3:p.kind=3:=V1
     obtain ⟨hw,ht,am,hk⟩:=hf p3 V1
     obtain ⟨⟨e1,e2,e3,e4⟩,e5⟩:=Z43 op p3
     have l1:=Z1S p3
     have hB:φB q=1:=by unfold φB;rw [if_neg b1];omega
     have ah:φB p=1:=by unfold φB;rw [if_neg a1];omega
     rw [hB,ah]
     dsimp only
     unfold Z5y
     split
     .refine (OpsX.one (Zc5 V5 V5) (Z3u V1)).mono ?_ ?_ (by simp [Z0W,owL,Z9])
      .unfold φA;rw [if_neg (by simp),Z2n];omega
      .unfold φB;rw [if_neg (by simp),Z2n];omega
     .rename_i u
      have af:Wl list (f p.e q.e).x:=by
       rcases hk with h | h | ⟨h,h'⟩
       .exact absurd h u
       .rw [h];exact e3
       .rcases h' with h' | h'
        .exact .inr (.inl V1)
        .rcases e3 with g | g | g
         .exact .inl g
         .omega
         .omega
      refine (OpsX.one ⟨.inr (.inr ⟨rfl,rfl,rfl⟩),Zlm (Yi _ _ _ V5 hw.r) u e1 af,Jb V5 V5,Jb V5 V5,trivial,hw.g⟩ ht).mono ?_ ?_ ?_
      .unfold φA;rw [if_neg (show ¬(3:Int)=2 by decide),Z1S rfl];omega
      .unfold φB;rw [if_neg (show ¬(3:Int)=1 by decide),Z1S rfl];omega
      .simp only [Z0W,if_true];rw [if_pos p3,e5];simp only [owL,Z9,Qe,K1];omega
theorem ZCk{f:Edit->Edit->Lft}{list a b:Int}(hli:2<=list/\list<=9)(ha:0<=a)(hb:0<=b){p q:List Op}{m h:List Tree}{S:PL}(H:Lay f p q m h S):
  (∀ o∈p,OkO list o/\Yb a o.e)->(∀ o∈q,OkO list o)->(∀ x∈p,∀ y∈q,x.kind=3->y.kind=3->LbX K (a+b) (f x.e y.e).x x.e)->Ztf list m->(h.length:Int)+Yw q<=1048576->
  OpsX K list (a+b) S.x (h.length+Yw q) (m.length+h.length+Yw p+Yw q) (owL K m+Z31 K p):=by
 induction H with
 | nil m h=>
  intro _ _ _ hm hh
  simp only [Yw] at hh
  exact (Zx6 V1 hm V1).mono (by simp only [Yw];omega) (by simp only [Yw];omega) V1
 | left k2 _ ih=>
  rename_i x p q m h S _
  intro op oq hf hm hh
  have o1:=op _ Q5
  have e:=ih (fun o s=> op o (Q4 _ s)) oq (fun x hx=> hf x (Q4 _ hx)) (fun t ht=> (Qc.1 ht).elim (hm t) (ZnJ o1.1 (.inr k2) t)) hh
  have l2:=Z2o o1.1.1 (.inr k2)
  refine e.mono (Xb _) ?_ ?_
  .rw [<-Z0C (_ ::_)]
   simp only [Yp,Z0C,φB]
   grind
  .rw [Zlj]
   simp only [Z31,Z0W]
   omega
 | right np k2 _ ih=>
  intro op oq hf hm hh
  have o1:=oq _ Q5
  have l2:=Z2o o1.1 (.inr k2)
  have e1:∀ (b:Op) (q:List Op),b.kind=2->Yw (b ::q)=Z2 b+Yw q:=by
   intro b q hb
   rw [<-Z0C (_ ::_)]
   simp only [Yp,Z0C,φB]
   omega
  rw [e1 _ _ k2] at hh
  have e:=ih op (fun o s=> oq o (Q4 _ s)) (fun x hx y hy=> hf x hx y (Q4 _ hy)) hm (by grind)
  grind
 | both ka kb hn _ ih=>
  rename_i x p y q m h S n _
  intro op oq hf hm hh
  have ab:∀ o∈x ::p,OkO list o:=fun o s=> (op o s).1
  have lx:=ZH (ab x Q5).1
  have ly:=ZH (oq y Q5).1
  have h1:1<=n:=V1
  obtain ⟨t1,t2,t3,t4⟩:=Zh0 ab h1 V1
  obtain ⟨u1,u2,u3,u4⟩:=Zh0 oq h1 V1
  obtain ⟨s1,_⟩:=Z3v Zxk (p:=x ::p) (fun o s=> (ab o s).1) (by simp) h1
  obtain ⟨s2,_⟩:=Z3v Zxk (p:=y ::q) (fun o s=> (oq o s).1) (by simp) h1
  obtain ⟨s3,_⟩:=Z3v ZCH (p:=x ::p) (fun o s=> (ab o s).1) (by simp) h1
  have so:∀ l:List Op,Yp (fun o=> ((Zjm K o:Nat):Int)) l=Z31 K l:=by
   intro l
   induction l with
   | nil=> rfl
   | cons o r ih=> simp only [Yp,Z31,ih];omega
  rw [so,so,Qf] at s3
  rw [Z0C,Z0C,Qf] at s1 s2
  have nq:=ZeI (l:=Zv (y ::q) n) fun o s=> (u4 o s).1
  have np:=ZeI (l:=Zv (x ::p) n) fun o s=> (t4 o s).1
  have fq:=φB_nn u1.1
  have ee:∀ o∈Zv (x ::p) n,o.e=x.e/\o.kind=x.kind\/o∈p:=fun o s=> (Z27 s).symm.imp (fun h=> by rw [h];exact ⟨Z7Z _ _,Z0i _ _⟩) id
  have aj:∀ o∈Zv (y ::q) n,o.e=y.e/\o.kind=y.kind\/o∈q:=fun o s=> (Z27 s).symm.imp (fun h=> by rw [h];exact ⟨Z7Z _ _,Z0i _ _⟩) id
  have ae:∀ o∈x ::p,∀ o'∈y ::q,∀ r u:Op,r.e=o.e->u.e=o'.e->r.kind=o.kind->u.kind=o'.kind->r.kind=3->u.kind=3->LbX K (a+b) (f r.e u.e).x r.e:=by
   intro o s o' ar r u e1 e2 k1 k2 k3 k4
   rw [e1,e2]
   exact hf o s o' ar V1 V1
  have e:=ih (fun o s=> ⟨t4 o s,by rcases ee o s with ⟨h,_⟩ | h;rw [h];exact (op x Q5).2;exact (op o (Q4 _ h)).2⟩) u4
   (fun r hr u ao k3 k4=> by
    rcases ee r hr with ⟨e1,k1⟩ | e1
    .rcases aj u ao with ⟨e2,k2⟩ | e2
     .exact ae x Q5 y Q5 r u e1 e2 k1 k2 k3 k4
     .exact ae x Q5 u (Q4 _ e2) r u e1 rfl k1 rfl k3 k4
    .rcases aj u ao with ⟨e2,k2⟩ | e2
     .exact ae r (Q4 _ e1) y Q5 r u rfl e2 rfl k2 k3 k4
     .exact hf r (Q4 _ e1) u (Q4 _ e2) k3 k4)
   (fun t ht=> by cases ht) (by grind)
  have g:=Zx6 (K:=K) (T:=a+b) V1 hm (h:=h) V1
  have pc:=Zu8 (f:=f) hli ha hb t1 u1 (by rw [Z6s];grind) V1 V1 V1 (ae x Q5 y Q5 _ _ (Z6s _ _) (Z6s _ _) (J1 _ _) (J1 _ _))
  refine ((g.app pc).app e).mono ?_ ?_ ?_
  .grind
  .grind
  .simp only [owL,Z9,Qe,K1] at s3 ⊢;omega
end Go.AM.YtpjenobkibfpcaaGreat
namespace Go.AM.YtpjenobkibfpcaaGreat
open Go.AM Go.Proofs
variable {K:Wt}
theorem Z70:rng Tree.nil:=by trivial
theorem Z6k{α:Type}{at_:α->Int}{f:α->α}(hf:∀ a,at_ (f a)=at_ a):∀ {l:List α} {last:Int},asc at_ last l->asc at_ last (l.map f)
 | [],_,_=> trivial
 | a ::r,last,h=> by
  refine ⟨by rw [hf];exact h.1,?_⟩
  rw [hf]
  exact Z6k hf h.2
theorem Z3h{α:Type}{at_:α->Int}{g:α->Bool}:∀ {l:List α} {last:Int},asc at_ last l->asc at_ last (l.filter g)
 | [],_,_=> trivial
 | a ::r,last,h=> by
  rw [K5]
  split
  .exact ⟨h.1,Z3h h.2⟩
  .exact Zor (Int.le_of_lt h.1) (Z3h h.2)
theorem ZhX(a b:WEdit):(Z4e a b).at_=a.at_:=rfl
theorem ZrP{a b:WEdit}(ra:ZeS a):ZeS (Z4e a b)/\Yl (Z4e a b).old (Z4e a b).mask=true/\Yl (Z4e a b).new (Z4e a b).mask=true:=by
 obtain ⟨s,_⟩:=ZgK (a:=ZnL b.mask) (b:=a.mask) (by
  have h:=(BitVec.ofInt (IntKind.bits .u8) 255 ^^^ BitVec.ofInt (IntKind.bits .u8) b.mask).isLt
  have e:(2:Nat) ^ IntKind.bits .u8=256:=rfl
  unfold ZnL
  rw [ZeA V1 V1]
  omega) ra.2.1
 have w:∀ x m:Int,Yl (mix 0 x m) m=true:=fun x m=> Znd fun i u hn=> by rw [Zyr u,if_neg (by grind)];exact Zxi i
 exact ⟨⟨ra.1,s,ZfZ _ _ _,ZfZ _ _ _⟩,w _ _,w _ _⟩
theorem Zy4 {T:Int} {W:List WEdit} {Ks:List Kid} {p:Edit} (hT:0<=T) (p2:p.kind=2) (aw:asc WEdit.at_ (-1) W) (ak:asc KidOf.at_ (-1) Ks)
  (hw:∀ w∈W,ZeS w/\w.at_<=65534/\Yl w.old w.mask=true/\Yl w.new w.mask=true) (hk:∀ k∈Ks,k.at_<=65534/\InR k.at_/\Wk k.e/\Yb T k.e)
  (ow:K.c*W.length+Z3q K Ks<=K.c*p.words.length+Z3q K p.kids):LbX K T (Z3L (.mk 2 Tree.nil Tree.nil W Ks 0 [])) p:=by
 unfold Z3L
 split
 .exact .nil hT p
 .show LbX K T (.mk 2 Tree.nil Tree.nil (W.filter fun w=> !decide (w.mask=0)) (Ks.filter fun k:Kid=> !decide (k.e.kind=0)) 0 []) p
  refine ⟨⟨Znv (ZaF (Z3h aw) fun w h=> ?_) (Zbq (Z3h ak) fun k h=> ?_),?_⟩,?_,?_,.inr (.inr ⟨by rw [p2];rfl,.inl p2⟩)⟩
  .grind
  .obtain ⟨h1,h2⟩:=XW.1 h
   obtain ⟨g1,_,b,_⟩:=hk k h1
   exact ⟨g1,by simpa using h2,Yi _ _ _ V5 b.r⟩
  .refine ⟨Jb V5 V5,Z70,Z70,fun w h=> (hw w (XW.1 h).1).1,Jb V5 V5,Zhb fun k h=> ?_,trivial⟩
   obtain ⟨_,g2,b,_⟩:=hk k (XW.1 h).1
   exact ⟨g2,b.g⟩
  .rw [JN]
   refine ⟨⟨hT,hT⟩,fun k h=> (hk k (XW.1 h).1).2.2.2,fun o h=> (by cases h)⟩
  .have l1:=XP (fun w:WEdit=> !decide (w.mask=0)) W
   have s:∀ l:List Kid,Z3q K (l.filter fun k=> !decide (k.e.kind=0))<=Z3q K l:=by
    intro l
    induction l with
    | nil=> grind
    | cons k r ih=>
     rw [K5]
     split
     .simp only [Z3q];omega
     .simp only [Z3q];omega
   have s:=s Ks
   have e:=ZfS (K:=K) p
   have m1:=Ze4 p.old;have m2:=Ze4 p.new
   have u:∀ w k:Nat,w<=W.length->k<=Z3q K Ks->K.k+1+1+K.c*w+k+0<=owE K p:=by intro w k h1 h2;have:=Nat.mul_le_mul_left K.c h1;omega
   exact u _ _ l1 s
theorem Zek{α:Type}{at_:α->Int}{f:α->α->α}{q:List α}{a:α}:Je at_ f q a=a\/∃ b∈q,at_ b=at_ a/\Je at_ f q a=f a b:=by
 unfold Je
 cases h:Z7y at_ q (at_ a) with
 | none=> simp
 | some b=> obtain ⟨u,s⟩:=Z8A at_ _ q b h;grind
theorem ZC6 {f:Edit->Edit->Lft} {a b:Int} (ha:0<=a) (hb:0<=b) {p q:Edit} (wp:Wk p) (wq:Wk q) (tp:Yb a p) (p2:p.kind=2)
  (hf:∀ x∈p.kids,∀ y∈q.kids,LbX K (a+b) (f x.e y.e).x x.e):LbX K (a+b) (Z3x f p q).x p:=by
 have rp:=Zr wp.r
 have gp:=Yg wp.g
 rw [JN] at tp
 have h:∀ k∈p.kids,LbX K (a+b) (Je KidOf.at_ (fun a b:Kid=> ⟨a.at_,(f a.e b.e).x⟩) q.kids k).e k.e:=by
  intro k u
  rcases Zek (at_:=KidOf.at_) (f:=fun a b:Kid=> ⟨a.at_,(f a.e b.e).x⟩) (q:=q.kids) (a:=k) with e | ⟨y,hy,_,e⟩
  .rw [e]
   exact .self ⟨Yi _ _ _ V5 (ZG rp.kids k u).2,(YT gp.2.2.2.1 u).2⟩ (Z2L _ _ (Qb _) V1 (tp.2.1 k u))
  .grind
 have aa:∀ k:Kid,(Je KidOf.at_ (fun a b:Kid=> ⟨a.at_,(f a.e b.e).x⟩) q.kids k).at_=k.at_:=fun k=> Zav (at_:=KidOf.at_) (f:=fun a b:Kid=> ⟨a.at_,(f a.e b.e).x⟩) (fun _ _=> rfl) q.kids k
 refine Zy4 V1 p2 (Z6k (Zav ZhX _) (Zdo rp.words)) (Z6k aa (Zi5 rp.kids)) (fun w hw=> ?_) (fun k u=> ?_) ?_
 .obtain ⟨v,s,rfl⟩:=Xx.1 hw
  have A:=JH rp.words v s
  have R:=gp.2.2.1 v s
  rcases Zek (at_:=WEdit.at_) (f:=Z4e) (q:=q.words) (a:=v) with e | ⟨y,hy,_,e⟩
  .grind
  .rw [e]
   obtain ⟨r1,r2,r3⟩:=ZrP (b:=y) R
   exact ⟨r1,by rw [ZhX];exact A.2.1,r2,r3⟩
 .obtain ⟨v,s,rfl⟩:=Xx.1 u
  have A:=(ZG rp.kids v s).1
  have H:=h v s
  rw [aa]
  exact ⟨A.2.1,(YT gp.2.2.2.1 s).1,H.wk,H.th⟩
 .rw [Xa]
  have ai:∀ l:List Kid,(∀ k∈l,k∈p.kids)->Z3q K (l.map (Je KidOf.at_ (fun a b:Kid=> ⟨a.at_,(f a.e b.e).x⟩) q.kids))<=Z3q K l:=by
   intro l
   induction l with
   | nil=> grind
   | cons k r ih=>
    intro hl
    have:=(h k (hl k Q5)).ow
    have:=ih fun x hx=> hl x (Q4 _ hx)
    simp only [Xc,Z3q,ZhE]
    omega
  grind
theorem ZjF{l:List Op}(h:∀ o∈l,ZO o)(hs:J2 l < 1048576/\Yw l < 1048576):Z1D l 0 < 1048576/\Z1C l 0 < 1048576:=by
 have s:∀ o∈l,0<=Z2 o:=fun o u=> by have:=ZH (h o u);omega
 have a:=(Z0A l 0 s V5 V5).1
 have b:=(Z1v l 0 s V5 V5).1
 omega
theorem Z1R{e:Edit}(w:Wk e):∀ o∈e.ops,OkO e.list o:=by
 intro o b
 have r:=rightOs_mem (Zr w.r).ops b
 exact ⟨Jz w.r o b,r,Z2i (Yg w.g).2.2.2.2 b⟩
theorem Zy5{list T:Int}{l:List Op}{A B:Int}{W:Nat}{p:Edit}(hT:0<=T)(hli:2<=list/\list<=9)(h:OpsX K list T l A B W)(hA:A<=T)(hB:B<=T)(h1:T < 1048576)(p3:p.kind=3)(hp:p.list=list)(hW:W<=Z31 K p.ops):LbX K T (Z1j list l) p:=by
 unfold Z1j
 split
 .have la:=h.la;have lb:=h.lb
  obtain ⟨k1,k2⟩:=ZjF (fun o b=> (h.ok o b).1.1) (l:=l) ⟨V1,V1⟩
  refine ⟨⟨Znu hli (Zbo fun o b=> (h.ok o b).1.2.1) k1 k2,?_⟩,?_,?_,.inr (.inr ⟨by rw [p3];rfl,.inr p3⟩)⟩
  .exact ⟨Jb V5 V5,Z70,Z70,fun w u=> (by cases u),Jb V1 V1,trivial,Zha fun o b=> (h.ok o b).1.2.2⟩
  .rw [JN]
   exact ⟨⟨by show J2 l<=T;omega,by show Yw l<=T;omega⟩,fun k s=> (by cases s),fun o b=> (h.ok o b).2⟩
  .have e:=ZfS (K:=K) p
   have m1:=Ze4 p.old;have m2:=Ze4 p.new
   have:=h.ow
   simp only [owE,Z3q,Tree.nil,Zk,Z9,Qe,K1]
   omega
 .exact .nil hT p
theorem ZCf {f:Edit->Edit->Lft} {a b:Int} (ha:0<=a) (hb:0<=b) (hab:a+b < 1048576) {p q:Edit} (wp:Wk p) (wq:Wk q) (tp:Yb a p) (tq:Yb b q) (p3:p.kind=3) (hl:p.list=q.list)
  (hf:∀ x∈p.ops,∀ y∈q.ops,x.kind=3->y.kind=3->LbX K (a+b) (f x.e y.e).x x.e):LbX K (a+b) (Z4a f p q).x p:=by
 have rp:=Zr wp.r
 have h:=rp.list p3
 rw [JN] at tp tq
 unfold Z4a
 by_cases hc:(ZE 2 2 p.ops q.ops []).2.1=true
 .rw [if_pos hc]
  obtain ⟨ps,e,u⟩:=Zcv (f:=f) _ p.ops q.ops [] (Qb _) hc
  rw [e,QL]
  have S:=ZCk (K:=K) h ha hb (u [] []) (fun o s=> ⟨Z1R wp o s,tp.2.2 o s⟩) (fun o s=> by rw [hl];exact Z1R wq o s) hf (fun t ht=> by cases ht) (by grind)
  simp only [Qe,owL,Z9,K1] at S
  exact Zy5 V1 h S V1 V1 hab p3 rfl V1
 .rw [if_neg hc]
  exact .nil V1 p
theorem Zy3 {f:Edit->Edit->Lft} {a b:Int} (ha:0<=a) (hb:0<=b) (hab:a+b < 1048576) {p q:Edit} (wp:Wk p) (wq:Wk q) (tp:Yb a p) (tq:Yb b q)
  (hf:∀ x y,Z8 x+Z8 y < Z8 p+Z8 q->Wk x->Wk y->Yb a x->Yb b y->LbX K (a+b) (f x y).x x):LbX K (a+b) (Y9 f p q).x p:=by
 by_cases p0:p.kind=0
 .rw [lb0 (.inl p0)];exact .self wp (Z2L _ _ (Qb _) V1 tp)
 by_cases q0:q.kind=0
 .rw [lb0 (.inr q0)];exact .self wp (Z2L _ _ (Qb _) V1 tp)
 by_cases p1:p.kind=1
 .rw [lb1 p1 q0];exact .nil V1 p
 by_cases q1:q.kind=1
 .rw [Zzc p0 p1 q1];exact .nil V1 p
 by_cases hd:p.kind≠q.kind\/p.list≠q.list
 .rw [lbd p0 p1 q0 q1 hd];exact .nil V1 p
 have hk:p.kind=q.kind:=V1
 have hl:p.list=q.list:=V1
 have rp:=Zr wp.r
 have rq:=Zr wq.r
 have aa:=JN.1 tp
 have u:=JN.1 tq
 by_cases p2:p.kind=2
 .rw [lb2 p2 V1 hl]
  refine ZC6 ha hb wp wq tp p2 fun x s y h=> ?_
  have:=YC s;have:=YC h
  exact hf _ _ V1 ⟨Yi _ _ _ V5 (ZG rp.kids x s).2,(YT (Yg wp.g).2.2.2.1 s).2⟩ ⟨Yi _ _ _ V5 (ZG rq.kids y h).2,(YT (Yg wq.g).2.2.2.1 h).2⟩ (aa.2.1 x s) (u.2.1 y h)
 .have kp:=rp.kind
  rw [lb3 hk p0 p1 p2 hl]
  refine ZCf ha hb hab wp wq tp tq V1 hl fun x s y h kx ky=> ?_
  have:=Jv s;have:=Jv h
  exact hf _ _ V1 ((Z43 (Z1R wp x s) kx).1.2.2.2) ((Z43 (Z1R wq y h) ky).1.2.2.2) (aa.2.2 x s) (u.2.2 y h)
theorem ZCi{a b:Int}(ha:0<=a)(hb:0<=b)(hab:a+b < 1048576):∀ (n:Nat) (p q:Edit),Z8 p+Z8 q<=n->Wk p->Wk q->Yb a p->Yb b q->LbX K (a+b) (lbF n p q).x p:=by
 intro n
 induction n with
 | zero=> intro p q h;obtain ⟨k,o,nw,w,ks,l,os⟩:=p;simp only [Z8] at h;omega
 | succ n ih=>
  intro p q hn wp wq u tq
  exact Zy3 ha hb hab wp wq u tq fun x y aa s wy tx ty=> ih x y V1 s wy tx ty
theorem ZCj{a b:Int}(ha:0<=a)(hb:0<=b)(hab:a+b < 1048576){p q:Edit}(wp:Wk p)(wq:Wk q)(tp:Yb a p)(tq:Yb b q):LbX K (a+b) (lbE p q).x p/\LbX K (a+b) (lbE p q).y q:=by
 refine ⟨ZCi ha hb hab _ p q (Qb _) wp wq tp tq,?_⟩
 have h:=ZCi (K:=K) hb ha V1 _ q p (Qb _) wq wp tq tp
 rw [show lbF (Z8 q+Z8 p) q p=lbE q p from rfl,ZrT wp.r wq.r] at h
 rw [Int.add_comm]
 exact h
theorem Zss{T:Int}{m:Nat}(hT:0<=T)(hK:16+68*T.toNat<=m):∀ (n:Nat) (e:Edit),Z8 e<=n->Wk e->Yb T e->ctE e<=owE ⟨m,65600,100⟩ e:=by
 generalize hW:Wt.mk m 65600 100=K
 have w1:K.k=m:=by rw [<-hW]
 have w2:K.c=65600:=by rw [<-hW]
 have w3:K.d=100:=by rw [<-hW]
 intro n
 induction n with
 | zero=> intro e h;obtain ⟨k,o,nw,w,ks,l,os⟩:=e;simp only [Z8] at h;omega
 | succ n ih=>
  intro e hn u te
  have re:=Zr u.r
  have b:=JN.1 te
  have hc:=Z4q e
  have ho:=ZfS (K:=K) e
  rw [w1,w2] at ho
  have kids:∀ l:List Kid,(∀ k∈l,k∈e.kids)->Z26 l<=Z3q K l:=by
   intro l
   induction l with
   | nil=> intro _;exact Qb _
   | cons k r ihl=>
    intro hl
    have s:=hl k Q5
    have:=YC s
    have h1:=ih k.e V1 ⟨Yi _ _ _ V5 (ZG re.kids k s).2,(YT (Yg u.g).2.2.2.1 s).2⟩ (b.2.1 k s)
    have h2:=ihl fun x hx=> hl x (Q4 _ hx)
    simp only [Z26,Z3q,ZhE,Zim,w2]
    omega
  have af:∀ l:List Op,(∀ o∈l,o∈e.ops)->(l.length:Int)<=J2 l+Yw l/\YH l<=Z31 K l+34*l.length:=by
   intro l
   induction l with
   | nil=> intro _;simp [YH,J2,Yw]
   | cons o r ihl=>
    intro hl
    obtain ⟨h1,h2⟩:=ihl fun x hx=> hl x (Q4 _ hx)
    have hm:=hl o Q5
    have hO:=Z1R u o hm
    have h4:=ZH hO.1
    simp only [YH,Z31,J2,Yw,Qm]
    refine ⟨?_,?_⟩
    .omega
    .have e1:=Z1W o
     have e2:=Z0W (K:=K) o
     rw [w3] at e2
     by_cases k3:o.kind=3
     .have:=Jv hm
      obtain ⟨⟨_,_,_,w⟩,hl⟩:=Z43 hO k3
      have h1:=ih o.e V1 w (b.2.2 o hm)
      rw [if_pos k3] at e2
      have:Z9 o.l=0:=by rw [hl];try rfl
      omega
     .have he:ctE o.e=18:=by
       rcases hO.1 with h | h | h
       .rw [h.2.2.2];try rfl
       .rw [h.2.2.2];try rfl
       .omega
      rw [if_neg k3] at e2
      unfold owL at e2
      rw [w3] at e2
      omega
  grind
mutual
theorem Z7f(K:Nat):∀ e:Edit,owE ⟨K,65600,100⟩ e+65700<=(131402+K)*Z8 e
 | .mk k o n w ks l os=> by
  have h:=Zqn K ks
  have b:=Zqm K os
  have w1:Zk o<=(131402+K)*Zk o:=Nat.le_mul_of_pos_left _ V1
  have w2:Zk n<=(131402+K)*Zk n:=Nat.le_mul_of_pos_left _ V1
  have w3:65600*w.length<=(131402+K)*w.length:=Q7 _ V1
  simp only [owE,Z8,Nat.mul_add]
  omega
theorem Zqn(K:Nat):∀ ks:List (KidOf Edit),Z3q ⟨K,65600,100⟩ ks<=(131402+K)*ZV ks
 | []=> QI _
 | ⟨a,e⟩ ::r=> by
  have h:=Z7f K e
  have b:=Zqn K r
  simp only [Z3q,Zqo,ZV,Z0n,Nat.mul_add]
  omega
theorem Zqm(K:Nat):∀ os:List (OpOf Edit),Z31 ⟨K,65600,100⟩ os<=(131402+K)*Zj os
 | []=> QI _
 | ⟨k,n,l,e⟩ ::r=> by
  have h:=Z7f K e
  have b:=Zqm K r
  have s:=Zt l
  have w1:101*Z9 l<=(131402+K)*Z9 l:=Q7 _ V1
  simp only [Z31,Zjm,owL,Zj,Zx,Nat.mul_add]
  grind
end
end Go.AM.YtpjenobkibfpcaaGreat
namespace Go.AM.YtpjenobkibfpcaaGreat
open Go.AM Go.Proofs
theorem Z4Z(n:Int):(JK n).length<=1:=by unfold JK;split <;> simp
theorem Z4d:∀ {ks:List Kid},Z0Y ks=true->∀ k∈ks,YO k.e=true
 | [],_,k,hk=> by cases hk
 | a ::r,h,k,hk=> by
  rw [Z0Y,Q1] at h
  rcases Q8.1 hk with rfl | hk
  .obtain ⟨_,e⟩:=k;exact h.1
  .exact Z4d h.2 k hk
theorem Z4c:∀ {os:List Op},ZS os=true->∀ o∈os,YO o.e=true
 | [],_,k,hk=> by cases hk
 | a ::r,h,k,hk=> by
  rw [ZS,Q1] at h
  rcases Q8.1 hk with rfl | hk
  .obtain ⟨_,_,_,e⟩:=k;exact h.1
  .exact Z4c h.2 k hk
theorem Z35:∀ (n:Nat) (e:Edit) (d:Int),Z8 e<=n->Z4 e d=true->YO e=true->YO (Zm e)=true
 | 0,e,d,hn,_,_=> by
  have:3<=Z8 e:=Z9r e
  omega
 | n+1,e,d,hn,hr,hl=> by
  have ra:=Zr hr
  have s:=Z0u.1 ra.ops
  rw [Ze8] at hl
  simp only [Q1,decide_eq_true_eq] at hl
  have hz:∀ (k:Int) (o m:Tree) (w:List WEdit) (l:Int),YO (.mk k o m w [] l [])=true:=by
   intro k o m w l
   rw [YO]
   simp [Z1D,Z1C,Z0Y,ZS]
  rw [Z4L]
  split
  .grind
  .split
   .rw [YO]
    simp only [Z1D,Z1C,ZS,Xm,Q1,decide_eq_true_eq]
    refine ⟨by simp,?_⟩
    have:∀ ks:List Kid,(∀ k∈ks,k∈e.kids)->Z0Y (JV ks)=true:=by
     intro ks
     induction ks with
     | nil=> intro _;rfl
     | cons k r ih=>
      intro h
      rw [JV,Z0Y,ih fun x u=> h x (Q4 _ u),Xm]
      have hk:=h k Q5
      have hm:=YC hk
      obtain ⟨a,x⟩:=k
      exact Z35 n x (d - 1) (by grind) (ZG ra.kids _ hk).2 (Z4d hl.1.2 _ hk)
    grind
   .split
    .rename_i k3
     have ao:=Z0A e.ops 0 (fun x u=> Z0U (Z8d (s x u))) V1 V1
     have ar:=Z1v e.ops 0 (fun x u=> Z0U (Z8d (s x u))) V1 V1
     have ak:=ra.len
     have ax:=ZeG e.list e.ops (d - 1) ⟨[],[],[]⟩ ra.ops
     have au:=Z4v (ZP e.list e.ops ⟨[],[],[]⟩)
     have ae:=JA e d hr
     rw [Z4L,Y7,Y7,if_pos k3] at ae
     have rn:=Zr ae
     have aa:=Z0u.1 rn.ops
     simp only [Edit.ops_mk,Edit.list_mk] at aa
     have av:=Z0A (Ze (ZP e.list e.ops ⟨[],[],[]⟩)).out 0 (fun x u=> Z0U (Z8d (aa x u))) V1 V1
     have al:=Z1v (Ze (ZP e.list e.ops ⟨[],[],[]⟩)).out 0 (fun x u=> Z0U (Z8d (aa x u))) V1 V1
     have am:sA ⟨[],[],[]⟩=0/\sB ⟨[],[],[]⟩=0:=⟨rfl,rfl⟩
     rw [YO]
     simp only [Z0Y,Xm,Q1,decide_eq_true_eq]
     refine ⟨V1,?_⟩
     have hw:∀ (os:List Op),(∀ o∈os,o∈e.ops)->∀ w:Wst,ZS w.out=true->ZS (ZP e.list os w).out=true:=by
      intro os
      induction os with
      | nil=> intro _ w hw;exact hw
      | cons o r ih=>
       intro h w hw
       rw [ZP]
       refine ih (fun x u=> h x (Q4 _ u)) _ ?_
       have hm:=h o Q5
       rw [Z2p]
       split
       .exact light_keep _ _ hw
       .split
        .exact hw
        .split
         .exact hw
         .split
          .rename_i aj
           split
           .exact light_keep _ _ hw
           .dsimp only
            rw [light_app,light_flush _ hw,QS,ZS,ZS,Xm]
            have:=Jv hm
            exact Z35 n o.e (d - 1) V1 (J4 (s o hm) aj) (Z4c hl.2 _ hm)
          .exact hw
     exact light_flush _ (hw e.ops (fun _ h=> h) _ rfl)
    grind
where
 light_app:∀ (a b:List Op),ZS (a++b)=(ZS a && ZS b)
  | [],b=> rfl
  | o ::r,b=> by rw [Qq,ZS,ZS,light_app r b,Bool.and_assoc]
 light_nil:YO Edit.nil=true:=V5
 light_flush (w:Wst) (h:ZS w.out=true):ZS (Ze w).out=true:=by
  unfold Ze Z0h
  dsimp only
  rw [light_app,light_app,h,QS]
  split <;> split <;> simp [ZS,Zgc,light_nil]
 light_keep (w:Wst) (n:Int) (h:ZS w.out=true):ZS (ZU w n).out=true:=by
  unfold ZU
  dsimp only
  have h:=light_flush w h
  rcases Ja (Ze w).out n with e | ⟨a,o,e1,e2,e3⟩
  .rw [e,light_app,h];try rfl
  .rw [e3,light_app]
   rw [e1,light_app,Q1] at h
   rw [h.1]
   obtain ⟨_,_,_,x⟩:=o
   simpa [ZS,Zgc] using h.2
instance decStep:DecidableEq PStep:=fun a b=> decidable_of_iff (a.kind=b.kind/\a.at_=b.at_) (by cases a;cases b;simp)
def rbTh(p q:Edit):Prop:=Yr p/\Yr q/\∃ a b:Int,(0<=a/\0<=b/\a+b < 1048576)/\(Yb a (Zm p)/\Yb b (Zm q))/\owE ⟨16+68*(a+b).toNat,65600,100⟩ (Zm p)<=9000000000/\owE ⟨16+68*(a+b).toNat,65600,100⟩ (Zm q)<=9000000000
theorem Z1m{e:Edit}(h:Yr e):Yr (Zm e):=by
 obtain ⟨c,g,d,r⟩:=h
 exact ⟨X3 (ZjY e) c,Z14 e d r g,d,JA e d r⟩
theorem Zq3{p q:Edit}(h:rbTh p q):(Yr (Zm p)/\Yr (Zm q))/\Yr (lbE (Zm p) (Zm q)).x/\Yr (lbE (Zm p) (Zm q)).y:=by
 obtain ⟨hp,hq,a,b,⟨ha,hb,aa⟩,⟨tp,tq⟩,wp,wq⟩:=h
 have u:=Z1m hp
 have s:=Z1m hq
 obtain ⟨X,Y⟩:=ZCj (K:=⟨16+68*(a+b).toNat,65600,100⟩) ha hb aa (Zl1 u) (Zl1 s) tp tq
 have c1:=Zss (m:=16+68*(a+b).toNat) (show 0<=a+b by omega) (Qb _) _ _ (Qb _) X.wk X.th
 have c2:=Zss (m:=16+68*(a+b).toNat) (show 0<=a+b by omega) (Qb _) _ _ (Qb _) Y.wk Y.th
 have o1:=X.ow
 have o2:=Y.ow
 exact ⟨⟨u,s⟩,⟨V1,X.wk.g,-1,X.wk.r⟩,⟨V1,Y.wk.g,-1,Y.wk.r⟩⟩
def Zhq(p q:Edit):Prop:=Yr p/\Yr q/\((lbE (Zm p) (Zm q)).a=false->(lbE (Zm p) (Zm q)).c=false->Yr (lbE (Zm p) (Zm q)).x/\Yr (lbE (Zm p) (Zm q)).y)
theorem rbTh.ok{p q:Edit}(h:rbTh p q):Zhq p q:=⟨h.1,h.2.1,fun _ _=> (Zq3 h).2⟩
theorem Zl4{p q:Edit}(h:Zhq p q):(Yr (Zm p)/\Yr (Zm q))/\((lbE (Zm p) (Zm q)).a=false->(lbE (Zm p) (Zm q)).c=false->Yr (lbE (Zm p) (Zm q)).x/\Yr (lbE (Zm p) (Zm q)).y):=⟨⟨Z1m h.1,Z1m h.2.1⟩,h.2.2⟩
theorem ZaM:∀ (n:Nat) (e:Edit),Z8 e<=n->Wk e->YO e=true->Yb 2000 e:=by
 intro n
 induction n with
 | zero=> intro e h;obtain ⟨k,o,nw,w,ks,l,os⟩:=e;simp only [Z8] at h;omega
 | succ n ih=>
  intro e hn u h
  have re:=Zr u.r
  rw [Ze8,Q1,Q1,decide_eq_true_eq] at h
  obtain ⟨⟨⟨h1,h2⟩,h3⟩,h4⟩:=h
  have nn:∀ o∈e.ops,0<=Z2 o:=fun o s=> by have:=ZH (Z1R u o s).1;omega
  have a:=(Z0A e.ops 0 nn V5 V5).1
  have b:=(Z1v e.ops 0 nn V5 V5).1
  rw [JN]
  refine ⟨⟨V1,V1⟩,fun k hk=> ?_,fun o s=> ?_⟩
  .have:=YC hk
   exact ih k.e V1 ⟨Yi _ _ _ V5 (ZG re.kids k hk).2,(YT (Yg u.g).2.2.2.1 hk).2⟩ (Z4d h3 k hk)
  .have:=Jv s
   by_cases k3:o.kind=3
   .exact ih o.e V1 (Z43 (Z1R u o s) k3).1.2.2.2 (Z4c h4 o s)
   .have:o.e=Edit.nil:=by
     rcases (Z1R u o s).1 with h | h | h
     .exact h.2.2.2
     .exact h.2.2.2
     .omega
    rw [this];trivial
theorem Zq4{p q:Edit}{d d':Int}(rp:Z4 p d=true)(rq:Z4 q d'=true)(gp:Yh p)(gq:Yh q)(lp:YO p=true)(lq:YO q=true)(mp:Z8 p<=20000)(mq:Z8 q<=20000):rbTh p q:=by
 have h:=Z7U p
 have u:=Z7U q
 have s:=Z2r p
 have nq:=Z2r q
 have op:=Z7f (16+68*((2000:Int)+2000).toNat) (Zm p)
 have b:=Z7f (16+68*((2000:Int)+2000).toNat) (Zm q)
 have e:((2000:Int)+2000).toNat=4000:=rfl
 rw [e] at op b
 refine ⟨⟨V1,gp,d,rp⟩,⟨V1,gq,d',rq⟩,2000,2000,⟨V5,V5,V5⟩,⟨?_,?_⟩,?_,?_⟩
 .exact ZaM _ _ (Qb _) (.of (JA p d rp) (Z14 p d rp gp)) (Z35 _ p d (Qb _) rp lp)
 .exact ZaM _ _ (Qb _) (.of (JA q d' rq) (Z14 q d' rq gq)) (Z35 _ q d' (Qb _) rq lq)
 .rw [e];omega
 .rw [e];omega
theorem Zu5{p q:Edit}{d d':Int}(rp:Z4 p d=true)(rq:Z4 q d'=true)(gp:Yh p)(gq:Yh q)(lp:YO p=true)(lq:YO q=true)(mp:Z8 p<=20000)(mq:Z8 q<=20000):Zhq p q:=
 (Zq4 rp rq gp gq lp lq mp mq).ok
noncomputable section
def ZmZ:ArgL (WEdit × Int × Unit):=(.cons (aEl .wedit) (.cons (YR .u8) .nil))
def ZbT(a:WEdit × Int × Unit):Prop:=wOk a.1/\0<=a.2.1/\a.2.1 < 256
def Zj8(a:WEdit × Int × Unit):V U:= .tup [(true,(enc .wedit ((Zea a.1 a.2.1).1))),(false,[.bool ((Zea a.1 a.2.1).2)])]
def Za5:Fs U:=fs ZmZ (fun a=> [ZbT a]) Zj8
def ZgF:ArgM ((Bool × Bool × Unit) × WEdit × WEdit × Unit):=(.obj 0 (.cons Z0N (.cons Z0N .nil)) (.cons (aEl .wedit) (.cons (aEl .wedit) .nil)))
def ZfO(a:(Bool × Bool × Unit) × WEdit × WEdit × Unit):Prop:=wOk a.2.1/\wOk a.2.2.1
def ZpR(a:(Bool × Bool × Unit) × WEdit × WEdit × Unit):V U:= .tup []
def Z76(a:(Bool × Bool × Unit) × WEdit × WEdit × Unit):List (List (C U)):=[[.bool (a.1.1 || (!(Yv a.2.1 a.2.2.1) && Z05 a.2.1 a.2.2.1)),.bool (a.1.2.1 || Yv a.2.1 a.2.2.1)]]
def Za6:Fs U:=fsX ZgF (fun a=> [ZfO a]) ZpR Z76
def ZfF(a:List Tree × Unit):Prop:=True
def Zf9(a:List Tree × Unit):V U:= .c (sU .op (Z4g a.1) (.own (.r 0 0)))
def Z6O:Fs U:=fs ZmR (fun a=> [ZfF a]) Zf9
def ZfE(a:Edit × Unit):Prop:=True
def Zf8(a:Edit × Unit):V U:= .agg (enc .op (Z5y a.1))
def Z9Y:Fs U:=fs Zt6 (fun a=> [ZfE a]) Zf8
def Zn6:ArgL Unit:= .nil
def Z8k(a:Unit):Prop:=True
def Zj9(a:Unit):V U:= .tup [(true,(enc .edit Edit.nil)),(true,(enc .edit Edit.nil))]
def Za8:Fs U:=fs Zn6 (fun a=> [Z8k a]) Zj9
def ZgC:ArgM ((Unit × List Op × List Op × List Tree × List Tree × Unit) × Edit × Tree × (Bool × Bool × Unit) × Unit):=(.obj 0 (.cons (cXp 1) (.cons (Z2D .op 0 1) (.cons (Z2D .op 0 2) (.cons (Z2D .tree 0 3) (.cons (Z2D .tree 0 4) .nil))))) (.cons (aEl .edit) (.cons (aEl .tree) (.hid (.cons Z0N (.cons Z0N .nil)) .nil))))
def ZbL(a:(Unit × List Op × List Op × List Tree × List Tree × Unit) × Edit × Tree × (Bool × Bool × Unit) × Unit):Prop:=(Z8 a.2.1<=20000000000/\Yh a.2.1/\∃ d,Z4 a.2.1 d=true)/\Zk a.2.2.1+ctE a.2.1<=200000000000/\rng a.2.2.1
def ZpI(a:(Unit × List Op × List Op × List Tree × List Tree × Unit) × Edit × Tree × (Bool × Bool × Unit) × Unit):V U:= .tup []
def Zab(a:(Unit × List Op × List Op × List Tree × List Tree × Unit) × Edit × Tree × (Bool × Bool × Unit) × Unit):List (List (C U)):=[[.xp 1,sU .op a.1.2.1 (.own (.x 0 1)),sU .op a.1.2.2.1 (.own (.x 0 2)),sU .tree a.1.2.2.2.1 (.own (.x 0 3)),sU .tree a.1.2.2.2.2.1 (.own (.x 0 4))],[.bool true,.bool (a.2.2.2.1.2.1 || !(doE false a.2.1 a.2.2.1).isSome)]]
def Z9Z:Fs U:=fsX ZgC (fun a=> [ZbL a]) ZpI Zab
def Zrw:Z6 U:=lvl [([1,2,4],[2,4]),([1,2,4],[2,4]),([4,5],[4])]
abbrev ZEt(p:List Nat):=AW (Z1 Z4X) Tryz.f140 Zrw p
theorem ZBB(w:WEdit)(m:Int)(Q:QT)(h:let z0:=IntKind.wrap .u8 (BitVec.ofInt (IntKind.bits .u8) m &&& BitVec.ofInt (IntKind.bits .u8) w.mask).toNat;((JB (0,w.old,z0,()))/\(JB (0,w.new,z0,()))/\(Q .ret (L2 [pL 4,(5,.c (.bool ((z0:Int) !=0)))] [(.loc 4,[ci w.at_,.int .u8 z0,.int .u64 (mix 0 w.old z0),.int .u64 (mix 0 w.new z0)])])))):
  ZEt [] (L2 [(0,.agg (enc .wedit w)),(1,.c (.int .u8 m))] []) Q:=
 Eq.mpr V6 h
def Zwv(w:WEdit)(m:Int):Prop:=AW (Z1 Z4X) Tryz.f140 Zrw [] (Zb (ZmZ.can (w,m,())) []) (EQ Tryz.f140 (Zj8 (w,m,())) [])
theorem ZuZ(Z9T:CT 176 YK)(hb:∀ (w:WEdit) (m:Int) (_:Unit),ZbT (w,m,())->Zwv w m):CT 140 Za5:=
 Z0 (l:=[(176,YK)]) Za rfl (⟨Z9T,trivial⟩) Zrw Tryz.func140 rfl rfl 2 (fun _=> rfl) V5 (fun ⟨w,m,_⟩=> hb w m ())
def Zrx:Z6 U:=lvk [([0,4,5],[4,5,((.x 0),[])]),([0,4,5,6],[4,5,((.x 0),[])]),([0,4,5,6,12],[4,5,((.x 0),[])]),([],[((.x 0),[])]),([0,25],[((.x 0),[])]),([],[((.x 0),[])])]
abbrev ZEu(p:List Nat):=AW (Z1 Z4X) Tryz.f139 Zrx p
theorem ZBC(mc ma:Bool)(p q:WEdit)(Q:QT)(h:∀ b,b=(BitVec.ofInt (IntKind.bits .u8) p.mask &&& BitVec.ofInt (IntKind.bits .u8) q.mask)->let z0:=IntKind.wrap .u8 b.toNat;let z1:=((mix 0 p.new z0):Int) !=(mix 0 q.new z0);((JB (0,p.old,z0,()))/\(JB (0,q.old,z0,()))/\(iB (((mix 0 p.old z0):Int) !=(mix 0 q.old z0)) ((Q .normal (L2 [] [(.x 0,[.bool mc,.bool true])]))) ((JB (0,p.new,z0,()))/\(JB (0,q.new,z0,()))/\(iB z1 ((Q .normal (L2 [] [(.x 0,[.bool true,.bool ma])]))) (Q .normal (L2 [(0,.ptr (.x 0) 0),(25,.c (.bool z1))] [(.x 0,[.bool mc,.bool ma])]))))))):
  ZEu [] (L2 [(0,.ptr (.x 0) 0),(1,.agg (enc .wedit p)),(2,.agg (enc .wedit q))] [(.x 0,[.bool mc,.bool ma])]) Q:=
 Eq.mpr V6 (h _ rfl)
def Zww(mc ma:Bool)(p q:WEdit):Prop:=AW (Z1 Z4X) Tryz.f139 Zrx [] (Zb (ZgF.can ((mc,ma,()),p,q,())) (ZgF.canX ((mc,ma,()),p,q,()))) (EQ Tryz.f139 (ZpR ((mc,ma,()),p,q,())) (Z76 ((mc,ma,()),p,q,())))
theorem Zv0(Z9T:CT 176 YK)(hb:∀ (mc:Bool) (ma:Bool) (p:WEdit) (q:WEdit) (_:Unit),ZfO ((mc,ma,()),p,q,())->Zww mc ma p q):CT 139 Za6:=
 Zl (l:=[(176,YK)]) Za rfl (⟨Z9T,trivial⟩) Zrx Tryz.func139 rfl rfl 3 (fun _=> rfl) V5 (fun ⟨⟨mc,ma,_⟩,p,q,_⟩=> hb mc ma p q ())
def Zrc:Z6 U:=lvl [([0],[]),([0,5],[]),([2],[]),([2],[])]
abbrev ZEf(p:List Nat):=AW (Z1 ZjN) Tryz.f195 Zrc p
theorem ZBb(l:List Tree)(Q:QT)(h:(iB (((l.length:Int):Int)==0) ((Q .ret (L2 [(2,.c (.nils))] []))) ((Q .ret (L2 [(2,.c (sU .op ([(OpOf.mk 2 0 l (Edit.mk 0 (Tree.mk 0 [] []) (Tree.mk 0 [] []) [] [] 0 []))]) .full))] []))))):
  ZEf [] (L2 [(0,.c (sU .tree l .unk))] []) Q:=
 Eq.mpr V6 h
def Zw5(l:List Tree):Prop:=AW (Z1 ZjN) Tryz.f195 Zrc [] (Zb (ZmR.can (l,())) []) (EQ Tryz.f195 (Zf9 (l,())) [])
theorem ZuB(hb:∀ (l:List Tree) (_:Unit),ZfF (l,())->Zw5 l):CT 195 Z6O:=
 Z0 (l:=[]) Za rfl trivial Zrc Tryz.func195 rfl rfl 1 (fun _=> rfl) V5 (fun ⟨l,_⟩=> hb l ())
def Zra:Z6 U:=lvl [([1,2],[1,2]),([1,2,5],[1,2]),([2],[2]),([2],[2])]
abbrev ZEd(p:List Nat):=AW (Z1 ZjN) Tryz.f197 Zra p
theorem ZB9(e:Edit)(Q:QT)(h:(iB (e.kind==0) ((Q .ret (L2 [pL 2] [(.loc 2,[ci 0,ci 1,.nils,ci 0,ci 0,.nils,.nils,ci 0,.nils,.nils,.nils,.nils,ci 0,.nils])]))) ((Q .ret (L2 [pL 2] [(.loc 2,([ci 3,ci 0,.nils]++enc .edit e))]))))):
  ZEd [] (L2 [(0,.agg (enc .edit e))] []) Q:=
 Eq.mpr V6 h
def Zw3(e:Edit):Prop:=AW (Z1 ZjN) Tryz.f197 Zra [] (Zb (Zt6.can (e,())) []) (EQ Tryz.f197 (Zf8 (e,())) [])
theorem Zuz(hb:∀ (e:Edit) (_:Unit),ZfE (e,())->Zw3 e):CT 197 Z9Y:=
 Z0 (l:=[]) Za rfl trivial Zra Tryz.func197 rfl rfl 1 (fun _=> rfl) V5 (fun ⟨e,_⟩=> hb e ())
def ZrD:Z6 U:=lvl [([0,1],[0,1]),([0,1],[0,1])]
abbrev ZEy(p:List Nat):=AW (Z1 ZjN) Tryz.f104 ZrD p
theorem ZBS(Q:QT)(h:(Q .ret (L2 [pL 0,pL 1] [(.loc 0,zc0),(.loc 1,zc0)]))):
  ZEy [] (L2 [] []) Q:=
 Eq.mpr V6 h
def ZwM:Prop:=AW (Z1 ZjN) Tryz.f104 ZrD [] (Zb (Zn6.can ()) []) (EQ Tryz.f104 (Zj9 ()) [])
theorem Zv9(hb:∀ (_:Unit),Z8k ()->ZwM):CT 104 Za8:=
 Z0 (l:=[]) Za rfl trivial ZrD Tryz.func104 rfl rfl 0 (fun _=> rfl) V5 (fun _=> hb ())
def ZlW:List (FuncId × Fs U):=[(25,JP)]
def Zrb:Z6 U:=lvk [([0,4,5],[4,5,((.x 0),[]),((.x 1),[])]),([0,7],[((.x 0),[]),((.x 1),[])]),([0,15],[((.x 0),[]),((.x 1),[])]),([0],[((.x 0),[]),((.x 1),[])]),([],[((.x 0),[]),((.x 1),[])])]
abbrev ZEe(p:List Nat):=AW (Z1 ZlW) Tryz.f196 Zrb p
theorem ZBa(sm_:Unit)(sx sy:List Op)(si sh:List Tree)(e:Edit)(t:Tree)(mc ma:Bool)(Q:QT)(h:let z1:=Tree.mk t.kind t.words t.kids;let z0:=Edit.mk e.kind (Tree.mk e.old.kind e.old.words e.old.kids) (Tree.mk e.new.kind e.new.words e.new.kids) e.words e.kids e.list e.ops;((Z2k (z0,z1,()))/\(iB (!((doE false z0 z1).isSome)) ((Q .normal (L2 [] [(.x 0,[.xp 1,sU .op sx (.own (.x 0 1)),sU .op sy (.own (.x 0 2)),sU .tree si (.own (.x 0 3)),sU .tree sh (.own (.x 0 4))]),(.x 1,[.bool true,.bool true])]))) ((Q .normal (L2 [] [(.x 0,[.xp 1,sU .op sx (.own (.x 0 1)),sU .op sy (.own (.x 0 2)),sU .tree si (.own (.x 0 3)),sU .tree sh (.own (.x 0 4))]),(.x 1,[.bool true,.bool ma])])))))):
  ZEe [] (L2 [(0,.ptr (.x 0) 0),(1,.agg (enc .edit e)),(2,.agg (enc .tree t))] [(.x 0,[.xp 1,sU .op sx (.own (.x 0 1)),sU .op sy (.own (.x 0 2)),sU .tree si (.own (.x 0 3)),sU .tree sh (.own (.x 0 4))]),(.x 1,[.bool mc,.bool ma])]) Q:=
 Eq.mpr V6 h
def Zw4(sm_:Unit)(sx sy:List Op)(si sh:List Tree)(e:Edit)(t:Tree)(mc ma:Bool):Prop:=AW (Z1 ZlW) Tryz.f196 Zrb [] (Zb (ZgC.can ((sm_,sx,sy,si,sh,()),e,t,(mc,ma,()),())) (ZgC.canX ((sm_,sx,sy,si,sh,()),e,t,(mc,ma,()),()))) (EQ Tryz.f196 (ZpI ((sm_,sx,sy,si,sh,()),e,t,(mc,ma,()),())) (Zab ((sm_,sx,sy,si,sh,()),e,t,(mc,ma,()),())))
theorem ZuA(c25:CT 25 JP)(hb:∀ (b:Unit) (s:List Op) (h:List Op) (u:List Tree) (sh:List Tree) (e:Edit) (t:Tree) (mc:Bool) (ma:Bool) (_:Unit),ZbL ((b,s,h,u,sh,()),e,t,(mc,ma,()),())->Zw4 b s h u sh e t mc ma):CT 196 Z9Z:=
 Zl (l:=[(25,JP)]) Za rfl (⟨c25,trivial⟩) Zrb Tryz.func196 rfl rfl 3 (fun _=> rfl) V5 (fun ⟨⟨b,s,h,u,sh,_⟩,e,t,⟨mc,ma,_⟩,_⟩=> hb b s h u sh e t mc ma ())
end
theorem ZzN:Contract Tryz.prog cfg 140 Za5:=by
 refine ZuZ Z9T ?_
 intro w m _ hp
 simp only [ZbT] at hp
 obtain ⟨h,b,s⟩:=hp
 refine ZBB _ _ _ ?_
 intros;(simp only [iB,vcT,vcS])
 have u:=(ZgK ⟨b,s⟩ h.1.2.1).1
 refine ⟨⟨⟨V1,V1⟩,h.1.2.2.1,u⟩,⟨⟨V1,V1⟩,h.1.2.2.2,u⟩,?_⟩
 have e:(IntKind.u8.wrap (BitVec.ofInt (IntKind.bits .u8) m &&& BitVec.ofInt (IntKind.bits .u8) w.mask).toNat !=0)=decide (Z3r m w.mask≠0):=by
  show (Z3r m w.mask !=0)=_
  grind
 rw [e]
 simp only [Zj8,Zea]
 exact V2
theorem ZzO:Contract Tryz.prog cfg 139 Za6:=by
 refine Zv0 Z9T ?_
 intro mc ma p q _ b
 simp only [ZfO] at b
 obtain ⟨b,hq⟩:=b
 refine ZBC _ _ _ _ _ ?_
 intro y1 ab
 have e:IntKind.wrap .u8 y1.toNat=Z3r p.mask q.mask:=by rw [ab];try rfl
 (simp only [iB,vcT,vcS])
 rw [e]
 have rm:=(ZgK b.1.2.1 hq.1.2.1).1
 have u:(0:Int)<=0/\(0:Int) < 18446744073709551616:=⟨V1,V1⟩
 refine ⟨⟨u,b.1.2.2.1,rm⟩,⟨u,hq.1.2.2.1,rm⟩,fun h=> ?_,fun h=> ⟨⟨u,b.1.2.2.2,rm⟩,⟨u,hq.1.2.2.2,rm⟩,fun h2=> ?_,fun h2=> ?_⟩⟩
 .have s:Yv p q=true:=by simp [Yv,h]
  simp only [Z76,s,Xl,XF,Qn,X7]
  exact V2
 .have s:Yv p q=false:=by simp [Yv,h]
  have a2:Z05 p q=true:=by simp [Z05,h2]
  simp only [Z76,s,a2,Xo,QS,Qn,X7]
  exact V2
 .have s:Yv p q=false:=by simp [Yv,h]
  have a2:Z05 p q=false:=by simp [Z05,h2]
  simp only [Z76,s,a2,Xo,QS,Qn]
  exact V2
theorem Zzy:Contract Tryz.prog cfg 195 Z6O:=by
 refine ZuB ?_
 intro l _ b
 refine ZBb _ _ ?_
 (simp only [iB,vcT,vcS])
 refine ⟨fun h=> ?_,fun h=> ?_⟩
 .have:l=[]:=Qp.1 V1
  simp only [Zf9,Z4g,if_pos this]
  exact V2
 .have:l≠[]:=fun e=> h (by rw [e];rfl)
  simp only [Zf9,Z4g,if_neg this]
  exact V2
theorem Zzw:Contract Tryz.prog cfg 197 Z9Y:=by
 refine Zuz ?_
 intro e _ b
 refine ZB9 _ _ ?_
 (simp only [iB,vcT,vcS])
 refine ⟨fun h=> ?_,fun h=> ?_⟩
 .simp only [Zf8,Z5y,if_pos h]
  exact V2
 .simp only [Zf8,Z5y,if_neg h]
  exact V2
theorem ZzV:Contract Tryz.prog cfg 104 Za8:=by
 refine Zv9 ?_
 intro _ b
 refine ZBS _ ?_
 simp only [Zj9]
 exact V2
theorem Zzx:Contract Tryz.prog cfg 196 Z9Z:=by
 refine ZuA c25 ?_
 intro b sx u si sh e t mc ma _ s
 simp only [ZbL] at s
 refine ZBa b _ _ _ _ _ _ _ _ _ ?_
 (simp only [iB,vcT,vcS])
 simp only [Tree.eta,Edit.eta]
 refine ⟨s,fun h=> ?_,fun h=> ?_⟩
 .simp only [Zab,h,Xo,X7]
  exact V2
 .simp only [Zab,h,Xl,Qn]
  exact V2
end Go.AM.YtpjenobkibfpcaaGreat
