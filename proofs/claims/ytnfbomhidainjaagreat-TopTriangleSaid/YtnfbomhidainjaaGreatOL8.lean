import Derived.Test.YtnfbomhidainjaaGreatOB7
import Derived.Test.YtnfbomhidainjaaGreatTKL22r
import Derived.Test.YtnfbomhidainjaaGreatTCL25c
import Derived.Test.YtnfbomhidainjaaGreatTKG24
import Derived.Test.YtnfbomhidainjaaGreatTCL25k
import Derived.Test.YtnfbomhidainjaaGreatOD4
set_option linter.unusedSimpArgs false
set_option linter.unusedVariables false
namespace Go.AM.YtnfbomhidainjaaGreat
open Go.AM Go.Proofs
noncomputable section
def ZwO:ArgL (List PStep × Int × Int × Unit):=(.cons (aSl .step) (.cons (Y6 .i64) (.cons (Y6 .i64) .nil)))
def Zep(a:List PStep × Int × Int × Unit):Prop:=(a.1).length<=1000000
def ZBl(a:List PStep × Int × Int × Unit):V U:= .c (sU .step ((a.1)++[PStep.mk a.2.1 a.2.2.1]) (.own (.r 0 0)))
def Z5F:Fs U:=fs ZwO (fun a=> [Zep a]) ZBl
def Zu1(a:Int × Unit):V U:= .agg (enc .tree (Tree.mk 1 [a.1] []))
def Z8P:Fs U:=fs ZqP (fun a=> [Zuq a]) Zu1
def ZwN:ArgL (List PStep × Unit):=(.cons (aSl .step) .nil)
def Zkl(a:List PStep × Unit):Prop:=(a.1).length<=1000000
def ZBk(a:List PStep × Unit):V U:= .c (sU .step a.1 (.own (.r 0 0)))
def Zdy:Fs U:=fs ZwN (fun a=> [Zkl a]) ZBk
def Zoc:ArgM ((List Conflict × Unit) × List PStep × Tree × Tree × Tree × Unit):=(.obj 0 (.cons (Z4z .conflict 0 0) .nil) (.cons (aSl .step) (.cons (aEl .tree) (.cons (aEl .tree) (.cons (aEl .tree) .nil)))))
def ZgG(a:(List Conflict × Unit) × List PStep × Tree × Tree × Tree × Unit):Prop:=((a.1.1).length<=1000000/\(a.2.1).length<=1000000)/\mass a.2.2.1<=1000000/\mass a.2.2.2.1<=1000000/\mass a.2.2.2.2.1<=1000000
def ZBs(a:(List Conflict × Unit) × List PStep × Tree × Tree × Tree × Unit):V U:= .agg (enc .tree a.2.2.1)
def Ztr(a:(List Conflict × Unit) × List PStep × Tree × Tree × Tree × Unit):List (List (C U)):=[[sU .conflict ((a.1.1)++[Conflict.mk a.2.1 (Z0 a.2.2.1) (Z0 a.2.2.2.1) (Z0 a.2.2.2.2.1)]) (.own (.x 0 0))]]
def ZdG:Fs U:=fsX Zoc (fun a=> [ZgG a]) ZBs Ztr
def Zdf:ArgM (Int × Int × (List Int × Unit) × Unit):=(.cons (Y6 .i64) (.cons (Y6 .u64) (.obj 0 (.cons (cWr .u64 0 0) .nil) .nil)))
def ZaT(a:Int × Int × (List Int × Unit) × Unit):Prop:=(0<=a.1/\a.1<=1000000)/\(a.2.2.1.1).length<=1000000
def Zu2(a:Int × Int × (List Int × Unit) × Unit):V U:= .tup []
def ZoR(a:Int × Int × (List Int × Unit) × Unit):List (List (C U)):=[[.mref (.x 0 0)]]
def ZoX(a:Int × Int × (List Int × Unit) × Unit):List (Tok × LC U):=[(.x 0 0,LC.mk (U:=U) .u64 (ZH 0 a.2.2.1.1 (a.1).toNat a.2.1) 0)]
def Z8Q:Fs U:=Z8e Zdf (fun a=> [ZaT a]) Zu2 ZoR ZoX
def Zxc:ArgM ((List Conflict × Unit) × List PStep × Tree × Edit × Edit × Unit):=(.obj 0 (.cons (Z4z .conflict 0 0) .nil) (.cons (aSl .step) (.cons (aEl .tree) (.cons (aEl .edit) (.cons (aEl .edit) .nil)))))
def Zpk(a:(List Conflict × Unit) × List PStep × Tree × Edit × Edit × Unit):Prop:=False
def ZyP(a:(List Conflict × Unit) × List PStep × Tree × Edit × Edit × Unit):V U:= .agg (enc .tree a.2.2.1)
def Ztv(a:(List Conflict × Unit) × List PStep × Tree × Edit × Edit × Unit):List (List (C U)):=[[sU .conflict a.1.1 (.own (.x 0 0))]]
def Z8v:Fs U:=fsX Zxc (fun a=> [Zpk a]) ZyP Ztv
def Zx8:ArgL (List Kid × Int × Unit):=(.cons (aSl .kid) (.cons (Y6 .i64) .nil))
def Zii(a:List Kid × Int × Unit):Prop:=False
def ZyL(a:List Kid × Int × Unit):V U:= .agg (enc .edit Edit.nil)
def Z8r:Fs U:=fs Zx8 (fun a=> [Zii a]) ZyL
def Z9a(a:Edit × Tree × Unit):Prop:=False
def ZyO(a:Edit × Tree × Unit):V U:= .agg (enc .tree a.2.1)
def Z8u:Fs U:=fs Zbz (fun a=> [Z9a a]) ZyO
def Zpi(a:(List Conflict × Unit) × List PStep × Tree × Tree × Tree × Unit):Prop:=False
def Ztt(a:(List Conflict × Unit) × List PStep × Tree × Tree × Tree × Unit):List (List (C U)):=[[sU .conflict a.1.1 (.own (.x 0 0))]]
def Z8s:Fs U:=fsX Zoc (fun a=> [Zpi a]) ZBs Ztt
def Zo9:ArgM ((List Conflict × Unit) × List PStep × Tree × List WEdit × List WEdit × Unit):=(.obj 0 (.cons (Z4z .conflict 0 0) .nil) (.cons (aSl .step) (.cons (aEl .tree) (.cons (aSl .wedit) (.cons (aSl .wedit) .nil)))))
def Zkm(a:(List Conflict × Unit) × List PStep × Tree × List WEdit × List WEdit × Unit):Prop:=(((a.1.1).length<=1000/\(a.2.1).length<=1000)/\rng a.2.2.1/\a.2.2.1.words.length<=65535)/\((∀ w∈a.2.2.2.1,J7 w/\0<=WEdit.at_ w/\WEdit.at_ w<=65534)/\(a.2.2.2.1).length<=65535)/\(∀ w∈a.2.2.2.2.1,J7 w/\0<=WEdit.at_ w/\WEdit.at_ w<=65534)/\(a.2.2.2.2.1).length<=65535
def Ztx(a:(List Conflict × Unit) × List PStep × Tree × List WEdit × List WEdit × Unit):V U:= .c (sU .u64 ((ZV a.2.2.1 a.2.1 ((a.2.2.2.1).length+(a.2.2.2.2.1).length) a.2.2.2.1 a.2.2.2.2.1 (Tree.words a.2.2.1,a.1.1)).1) .unk)
def Zmo(a:(List Conflict × Unit) × List PStep × Tree × List WEdit × List WEdit × Unit):List (List (C U)):=[[sU .conflict ((ZV a.2.2.1 a.2.1 ((a.2.2.2.1).length+(a.2.2.2.2.1).length) a.2.2.2.1 a.2.2.2.2.1 (Tree.words a.2.2.1,a.1.1)).2) (.own (.x 0 0))]]
def Zdz:Fs U:=fsX Zo9 (fun a=> [Zkm a]) Ztx Zmo
abbrev A91(p:List Nat):=AW (Z1 ZnF) Tryz.f91 ZDR p
theorem ZIp(at_:List PStep)(kind n:Int)(Q:QT)(h:let z0:=List.take (Int.toNat (at_.length:Int)) at_;(((0:Int)<=(at_.length:Int)/\(at_.length:Int)<=(at_.length:Int))/\((at_.length:Int)=(at_.length:Int))/\((z0.length+([(PStep.mk kind n)]).length)*16<=140737488355328)/\(Q .ret (L2 [(6,.c (sU .step (z0++([(PStep.mk kind n)])) (.own (.e 6 0))))] [])))):
  A91 [] (L2 [(0,.c (sU .step at_ .unk)),pI 1 kind,pI 2 n] []) Q:=
 (Eq.mpr V5 h:)
abbrev ZFh(at_:List PStep)(kind n:Int):Prop:=AW (Z1 ZnF) Tryz.f91 ZDR [] (Zf (ZwO.can (at_,kind,n,())) []) (EQ Tryz.f91 (ZBl (at_,kind,n,())) [])
theorem ZCQ(hb:∀ (at_:List PStep) (kind:Int) (n:Int) (_:Unit),Zep (at_,kind,n,())->ZFh at_ kind n):CT 91 Z5F:=
 Z2 (l:=[]) Zd rfl trivial ZDR Tryz.func91 rfl rfl 3 (fun _=> rfl) V2 (fun ⟨at_,kind,n,_⟩=> hb at_ kind n ())
def Zvj:Zb U:=lvl [([0,2],[2]),([2],[2])]
abbrev ZJP(p:List Nat):=AW (Z1 ZnF) Tryz.f110 Zvj p
theorem ZGT(w:Int)(Q:QT)(h:(Q .ret (L2 [pL 2] [(.loc 2,[ci 1,sU .u64 ([w]) .full,.nils])]))):
  ZJP [] (L2 [(0,.c (.int .u64 w))] []) Q:=
 (Eq.mpr V5 h:)
abbrev ZB0(w:Int):Prop:=AW (Z1 ZnF) Tryz.f110 Zvj [] (Zf (ZqP.can (w,())) []) (EQ Tryz.f110 (Zu1 (w,())) [])
theorem Zzz(hb:∀ (w:Int) (_:Unit),Zuq (w,())->ZB0 w):CT 110 Z8P:=
 Z2 (l:=[]) Zd rfl trivial Zvj Tryz.func110 rfl rfl 1 (fun _=> rfl) V2 (fun ⟨w,_⟩=> hb w ())
abbrev A96(p:List Nat):=AW (Z1 ZnF) Tryz.f96 ZE7 p
theorem ZIo(l:List PStep)(Q:QT)(h:(((l=[])->(Q .ret (L2 [(2,.c (.nils))] [])))/\(True->((([]:List PStep).length+l.length)*16<=140737488355328)/\(Q .ret (L2 [(2,.c (sU .step (([]:List PStep)++l) (.own (.e 2 0))))] []))))):
  A96 [] (L2 [(0,.c (sU .step l .unk))] []) Q:=
 (Eq.mpr V5 h:)
abbrev ZFg(l:List PStep):Prop:=AW (Z1 ZnF) Tryz.f96 ZE7 [] (Zf (ZwN.can (l,())) []) (EQ Tryz.f96 (ZBk (l,())) [])
theorem ZCP(hb:∀ (l:List PStep) (_:Unit),Zkl (l,())->ZFg l):CT 96 Zdy:=
 Z2 (l:=[]) Zd rfl trivial ZE7 Tryz.func96 rfl rfl 1 (fun _=> rfl) V2 (fun ⟨l,_⟩=> hb l ())
def ZvM:List (FuncId × Fs U):=[(96,Zdy),(22,ZdZ)]
def ZDQ:Zb U:=lvk [([0,1,7,8,9,10],[7,8,9,10,((.x 0),[])]),([7,10],[7,10,((.x 0),[])]),([10],[10,((.x 0),[])])]
abbrev A76(p:List Nat):=AW (Z1 ZvM) Tryz.f76 ZDQ p
theorem ZIB(cs:List Conflict)(at_:List PStep)(base ours theirs:Tree)(Q:QT)(h:∀ ae,ae=base->∀ d,d=ours->∀ ah,ah=theirs->∀ ab,ab=(Z0 ae)->∀ aa,aa=(Z0 d)->∀ af,af=(Z0 ah)->((Zkl (at_,()))/\(Zc1 (ae,()))/\(Zc1 (d,()))/\(Zc1 (ah,()))/\((cs.length+([(Conflict.mk at_ ab aa af)]).length)*192<=140737488355328)/\(Q .ret (L2 [pL 10] [(.loc 10,(enc .tree base)),(.x 0,[sU .conflict (cs++([(Conflict.mk at_ ab aa af)])) (.own (.x 0 0))])])))):
  A76 [] (L2 [(0,.ptr (.x 0) 0),(1,.c (sU .step at_ .unk)),(2,.agg (enc .tree base)),(3,.agg (enc .tree ours)),(4,.agg (enc .tree theirs))] [(.x 0,[sU .conflict cs (.own (.x 0 0))])]) Q:=
 (Eq.mpr V5 (h _ (Z3 _) _ (Z3 _) _ (Z3 _) _ (Z3 _) _ (Z3 _) _ (Z3 _)):)
abbrev ZFt(cs:List Conflict)(at_:List PStep)(base ours theirs:Tree):Prop:=AW (Z1 ZvM) Tryz.f76 ZDQ [] (Zf (Zoc.can ((cs,()),at_,base,ours,theirs,())) (Zoc.canX ((cs,()),at_,base,ours,theirs,()))) (EQ Tryz.f76 (ZBs ((cs,()),at_,base,ours,theirs,())) (Ztr ((cs,()),at_,base,ours,theirs,())))
theorem ZD1(c96:CT 96 Zdy)(c22:CT 22 ZdZ)(hb:∀ (cs:List Conflict) (at_:List PStep) (base:Tree) (ours:Tree) (theirs:Tree) (_:Unit),ZgG ((cs,()),at_,base,ours,theirs,())->ZFt cs at_ base ours theirs):CT 76 ZdG:=
 ZN (l:=[(96,Zdy),(22,ZdZ)]) Zd rfl (⟨c96,c22,trivial⟩) ZDQ Tryz.func76 rfl rfl 5 (fun _=> rfl) V2 (fun ⟨⟨cs,_⟩,at_,base,ours,theirs,_⟩=> hb cs at_ base ours theirs ())
def ZpH:Zb U:=lvk [([0,1,2,8],[((.x 0),[.wr .u64])]),([0,1,2],[((.x 0),[.wr .u64])]),([],[((.x 0),[.wr .u64])])]
def Z71(i w:Int)(out rx_0_0:List Int):LSt U:=(⟨[pI 0 i,(1,.c (.int .u64 w)),(2,.ptr (.x 0) 0)],[(.x 0,[.mref (.x 0 0)])],[(.x 0 0,LC.mk (U:=U) .u64 rx_0_0 0)]⟩:LSt U)
abbrev ZGt(p:List Nat):=AW (Z1 ZnF) Tryz.f109 ZpH p
abbrev ZHQ(p:List Nat):=SW (Z1 ZnF) Tryz.f109 ZpH p
theorem ZGU(i w:Int)(out:List Int)(Q:QT)(h:Zk (ZGt [0,0,0]) (Z71 i w out out) (xB 0 (ZHQ [1] Q))):
  ZGt [] (⟨[pI 0 i,(1,.c (.int .u64 w)),(2,.ptr (.x 0) 0)],[(.x 0,[.mref (.x 0 0)])],[(.x 0 0,LC.mk (U:=U) .u64 out 0)]⟩:LSt U) Q:=
 (Eq.mpr V5 h:)
theorem ZsO(i w:Int)(out rx_0_0:List Int)(N0:NT)(Q:QT)(h:(iB (decide (((rx_0_0.length:Int):Int)<=i)) (((rx_0_0.length+([0]).length)*8<=140737488355328)/\(N0 (Z71 i w out (rx_0_0++([0]))))) (((0:Int)<=i/\i < (rx_0_0.length:Int))/\((0:Nat)<=i.toNat)/\(Q .normal (⟨[],[(.x 0,[.mref (.x 0 0)])],[(.x 0 0,LC.mk (U:=U) .u64 (List.set rx_0_0 i.toNat w) 0)]⟩:LSt U))))):
  ZGt [0,0,0] (Z71 i w out rx_0_0) (xT N0 (xB 0 (ZHQ [1] Q))):=
 (Eq.mpr V5 h:)
abbrev ZB1(i w:Int)(out:List Int):Prop:=AW (Z1 ZnF) Tryz.f109 ZpH [] (Ja (Zdf.can (i,w,(out,()),())) (Zdf.canX (i,w,(out,()),())) (Zdf.canL (i,w,(out,()),()))) (JX cfg Tryz.f109.ntmps Tryz.f109.results.toList (Zu2 (i,w,(out,()),())) (ZoR (i,w,(out,()),())) (ZoX (i,w,(out,()),())))
theorem ZzA(hb:∀ (i:Int) (w:Int) (out:List Int) (_:Unit),ZaT (i,w,(out,()),())->ZB1 i w out):CT 109 Z8Q:=
 Zz (l:=[]) Zd rfl trivial ZpH Tryz.func109 rfl rfl 3 (fun _=> rfl) V2 (fun ⟨i,w,⟨out,_⟩,_⟩=> hb i w out ())
def Znl:List (FuncId × Fs U):=[(42,Z1f),(109,Z8Q),(63,Z1b),(71,Z0P),(91,Z5F),(110,Z8P),(76,ZdG)]
def ZzK:Zb U:=lvk [([0,1,3,4,7],[7,((.x 0),[])]),([0,1,3,4,7,11],[7,((.loc 11),[.wr .u64]),((.x 0),[])]),([0,1,3,4,7,11,12],[7,((.loc 11),[.wr .u64]),((.x 0),[])]),([0,1,3,4,7,11,12,31],[7,((.loc 11),[.wr .u64]),((.x 0),[])]),([0,1,3,4,7,11,12,13,14],[7,((.loc 11),[.wr .u64]),13,14,((.x 0),[])]),([0,1,3,4,7,11,12,13,14],[7,((.loc 11),[.wr .u64]),13,14,((.x 0),[])]),([0,1,3,4,7,11,12,13,14,15],[7,((.loc 11),[.wr .u64]),13,14,((.x 0),[])]),([0,1,3,4,7,11,12,13,14,46],[7,((.loc 11),[.wr .u64]),13,14,((.x 0),[])]),([0,1,3,4,7,11,12,13,14,15],[7,((.loc 11),[.wr .u64]),13,14,((.x 0),[])]),([0,1,3,4,7,11,12,13,14,75],[7,((.loc 11),[.wr .u64]),13,14,((.x 0),[])]),([0,1,3,4,7,11,12,13,14,15],[7,((.loc 11),[.wr .u64]),13,14,((.x 0),[])]),([0,1,3,4,7,11,12,13,14,15,16],[7,((.loc 11),[.wr .u64]),13,14,((.x 0),[])]),([0,1,3,4,7,11,12,13,14,15,16,17,18],[7,((.loc 11),[.wr .u64]),13,14,((.x 0),[])]),([0,1,3,4,7,11,12,13,14,15,16,17,18,19],[7,((.loc 11),[.wr .u64]),13,14,((.x 0),[])]),([0,1,3,4,7,11,12,14,15,16,17,18,127],[7,((.loc 11),[.wr .u64]),14,((.x 0),[])]),([0,1,3,4,7,11,12],[7,((.loc 11),[.wr .u64]),((.x 0),[])]),([0,1,3,4,7,11,12],[7,((.loc 11),[.wr .u64]),((.x 0),[])]),([10],[((.x 0),[])])]
def Z0o(cs:List Conflict)(at_:List PStep)(o:Tree)(p q x3:List WEdit)(mx0_0:List Conflict)(d:List Int)(x4:List WEdit):LSt U:=(⟨[(0,.ptr (.x 0) 0),(1,.c (sU .step at_ .unk)),(3,.c (sU .wedit x3 .unk)),(4,.c (sU .wedit x4 .unk)),pL 7,pL 11,(12,.clo 109 [(.loc 11)])],[(.loc 7,(enc .tree o)),(.loc 11,[.mref (.l 11 0)]),(.x 0,[sU .conflict mx0_0 (.own (.x 0 0))])],[(.l 11 0,LC.mk (U:=U) .u64 d 0)]⟩:LSt U)
abbrev A90(p:List Nat):=AW (Z1 Znl) Tryz.f90 ZzK p
abbrev S90(p:List Nat):=SW (Z1 Znl) Tryz.f90 ZzK p
theorem ZIq(cs:List Conflict)(at_:List PStep)(o:Tree)(p q:List WEdit)(Q:QT)(h:((Zkz (o.words,()))/\(Zk (A90 [1,1,1,0,0,0]) (Z0o cs at_ o p q p cs o.words q) (xB 0 (S90 [1,1,1,1] Q))))):
  A90 [] (L2 [(0,.ptr (.x 0) 0),(1,.c (sU .step at_ .unk)),(2,.agg (enc .tree o)),(3,.c (sU .wedit p .unk)),(4,.c (sU .wedit q .unk))] [(.x 0,[sU .conflict cs (.own (.x 0 0))])]) Q:=
 (Eq.mpr V5 h:)
theorem ZxN(cs:List Conflict)(at_:List PStep)(o:Tree)(p q x3:List WEdit)(mx0_0:List Conflict)(aa:List Int)(x4:List WEdit)(N0:NT)(Q:QT)(h:∀ ae,ae=o->∀ ab,ab=(List.getD x3 (Int.toNat 0) (WEdit.mk 0 0 0 0))->∀ d,d=(List.getD x4 (Int.toNat 0) (WEdit.mk 0 0 0 0))->∀ ak,ak=(Tree.mk 1 [(Zm ae ab.at_)] [])->∀ ax,ax=(Tree.mk 1 [(Zm ae d.at_)] [])->∀ av,av=(Tree.mk 1 [(mix (Zm ae ab.at_) 0 0)] [])->∀ aw,aw=(Tree.mk 1 [(mix (Zm ae d.at_) 0 0)] [])->∀ af,af=(mix (Zm ae ab.at_) ab.new ab.mask)->∀ ay,ay=(mix (Zm ae ab.at_) d.new d.mask)->∀ ao,ao=(mix (Zm ae d.at_) d.new d.mask)->∀ aq,aq=(BitVec.ofInt (IntKind.bits .u8) ab.mask &&& BitVec.ofInt (IntKind.bits .u8) 0)->∀ ar,ar=(BitVec.ofInt (IntKind.bits .u8) 0 &&& BitVec.ofInt (IntKind.bits .u8) d.mask)->∀ au,au=(BitVec.ofInt (IntKind.bits .u8) ab.mask &&& BitVec.ofInt (IntKind.bits .u8) d.mask)->∀ ah,ah=(Tree.mk 1 [af] [])->∀ al,al=(Tree.mk 1 [ay] [])->∀ am,am=(Tree.mk 1 [ao] [])->let z10:=List.drop (Int.toNat 1) x4;let z9:=List.drop (Int.toNat 1) x3;let z8:=IntKind.wrap .u8 au.toNat;let z7:=IntKind.wrap .u8 ar.toNat;let z6:=IntKind.wrap .u8 aq.toNat;let z5:=Zm ae d.at_;let z12:=mix (mix z5 0 0) d.new d.mask;let z4:=Zm ae ab.at_;let z11:=JE (z4,ab.new,ab.mask,());let z3:=decide ((0:Int) < (x3.length:Int));let z2:=((x4.length:Int):Int)==0;let z1:=((x3.length:Int):Int)==0;let z0:=(!z2) && z3;(Tt (!z3))/\(Tt (!z3))/\(z3=false->(!z3)=true)/\(iB (bif z3 then true else (decide ((0:Int) < (x4.length:Int)))) (((Tt (!z2))/\(Tt (!z2))/\(Tt (!z2))/\(Tt z0)/\(z0=true->(0:Int)<=0/\0 < (x3.length:Int))/\(Tt z0)/\(Tt z0)/\(Tt z0)/\(z0=true->(0:Int)<=0/\0 < (x4.length:Int))/\(Tt z0)/\(Tt z0)/\(Tt z0)/\(Tt z0)/\((!z2)=true->(True->(!z2)=true))/\((!z2)=true->(z3=true->z0=true))/\(z2=false->(!z2)=true)/\(iB (bif z2 then true else (bif z3 then (decide (ab.at_ < d.at_)) else false)) (((0:Int)<=0/\0 < (x3.length:Int))/\((0:Int)<=0/\0 < (x3.length:Int))/\((0:Int)<=1/\1<=(x3.length:Int))/\((Z5W (ae,ab.at_,()))/\(z11/\(JE (z4,0,0,()))/\((JE (0,ab.new,z6,()))/\(JE (0,0,z6,()))/\(iB (((mix 0 ab.new z6):Int) !=(mix 0 0 z6)) ((Zep (at_,1,ab.at_,()))/\(Zuq (z4,()))/\(Zuq (af,()))/\(Zuq ((mix z4 0 0),()))/\(ZgG ((mx0_0,()),(at_++[PStep.mk 1 ab.at_]),ak,ah,av,()))/\(N0 (Z0o cs at_ o p q z9 (mx0_0++[Conflict.mk (at_++[PStep.mk 1 ab.at_]) (Z0 ak) (Z0 ah) (Z0 av)]) aa x4))) ((JE (af,0,0,()))/\(ZaT (ab.at_,(mix af 0 0),(aa,()),()))/\(N0 (Z0o cs at_ o p q z9 mx0_0 (ZH 0 aa (ab.at_).toNat (mix af 0 0)) x4)))))))) ((Tt (!z1))/\((!z1)=true->(0:Int)<=0/\0 < (x4.length:Int))/\(Tt (!z1))/\(Tt (!z1))/\(Tt (!z1))/\((!z1)=true->(0:Int)<=0/\0 < (x3.length:Int))/\(Tt (!z1))/\(Tt (!z1))/\(Tt (!z1))/\(Tt (!z1))/\(z1=false->(!z1)=true)/\(iB (bif z1 then true else (decide (d.at_ < ab.at_))) (((0:Int)<=0/\0 < (x4.length:Int))/\((0:Int)<=0/\0 < (x4.length:Int))/\((0:Int)<=1/\1<=(x4.length:Int))/\((Z5W (ae,d.at_,()))/\((JE (z5,0,0,()))/\(JE (z5,d.new,d.mask,()))/\((JE (0,0,z7,()))/\(JE (0,d.new,z7,()))/\(iB (((mix 0 0 z7):Int) !=(mix 0 d.new z7)) ((Zep (at_,1,d.at_,()))/\(Zuq (z5,()))/\(Zuq ((mix z5 0 0),()))/\(Zuq (ao,()))/\(ZgG ((mx0_0,()),(at_++[PStep.mk 1 d.at_]),ax,aw,am,()))/\(N0 (Z0o cs at_ o p q x3 (mx0_0++[Conflict.mk (at_++[PStep.mk 1 d.at_]) (Z0 ax) (Z0 aw) (Z0 am)]) aa z10))) ((JE ((mix z5 0 0),d.new,d.mask,()))/\(ZaT (d.at_,z12,(aa,()),()))/\(N0 (Z0o cs at_ o p q x3 mx0_0 (ZH 0 aa (d.at_).toNat z12) z10)))))))) (((0:Int)<=0/\0 < (x3.length:Int))/\((0:Int)<=0/\0 < (x4.length:Int))/\((0:Int)<=0/\0 < (x3.length:Int))/\((0:Int)<=1/\1<=(x3.length:Int))/\((0:Int)<=1/\1<=(x4.length:Int))/\((Z5W (ae,ab.at_,()))/\(z11/\(JE (z4,d.new,d.mask,()))/\((JE (0,ab.new,z8,()))/\(JE (0,d.new,z8,()))/\(iB (((mix 0 ab.new z8):Int) !=(mix 0 d.new z8)) ((Zep (at_,1,ab.at_,()))/\(Zuq (z4,()))/\(Zuq (af,()))/\(Zuq (ay,()))/\(ZgG ((mx0_0,()),(at_++[PStep.mk 1 ab.at_]),ak,ah,al,()))/\(N0 (Z0o cs at_ o p q z9 (mx0_0++[Conflict.mk (at_++[PStep.mk 1 ab.at_]) (Z0 ak) (Z0 ah) (Z0 al)]) aa z10))) ((JE (af,d.new,d.mask,()))/\(ZaT (ab.at_,(mix af d.new d.mask),(aa,()),()))/\(N0 (Z0o cs at_ o p q z9 mx0_0 (ZH 0 aa (ab.at_).toNat (mix af d.new d.mask)) z10))))))))))))) ((Q .ret (L2 [(10,.c (sU .u64 aa (.own (.e 10 0))))] [(.x 0,[sU .conflict mx0_0 (.own (.x 0 0))])]))))):
  A90 [1,1,1,0,0,0] (Z0o cs at_ o p q x3 mx0_0 aa x4) (xT N0 (xB 0 (S90 [1,1,1,1] Q))):=
 (Eq.mpr V5 (h _ (Z3 _) _ rfl _ rfl _ (Z3 _) _ (Z3 _) _ (Z3 _) _ (Z3 _) _ rfl _ rfl _ rfl _ rfl _ rfl _ rfl _ (Z3 _) _ (Z3 _) _ (Z3 _)):)
abbrev ZFi(cs:List Conflict)(at_:List PStep)(o:Tree)(p q:List WEdit):Prop:=AW (Z1 Znl) Tryz.f90 ZzK [] (Zf (Zo9.can ((cs,()),at_,o,p,q,())) (Zo9.canX ((cs,()),at_,o,p,q,()))) (EQ Tryz.f90 (Ztx ((cs,()),at_,o,p,q,())) (Zmo ((cs,()),at_,o,p,q,())))
theorem ZCR(Zhp:CT 42 Z1f)(ZES:CT 109 Z8Q)(c63:CT 63 Z1b)(c71:CT 71 Z0P)(c91:CT 91 Z5F)(ZER:CT 110 Z8P)(c76:CT 76 ZdG)(hb:∀ (cs:List Conflict) (at_:List PStep) (o:Tree) (p:List WEdit) (q:List WEdit) (_:Unit),Zkm ((cs,()),at_,o,p,q,())->ZFi cs at_ o p q):CT 90 Zdz:=
 ZN (l:=[(42,Z1f),(109,Z8Q),(63,Z1b),(71,Z0P),(91,Z5F),(110,Z8P),(76,ZdG)]) Zd rfl (⟨Zhp,ZES,c63,c71,c91,ZER,c76,trivial⟩) ZzK Tryz.func90 rfl rfl 5 (fun _=> rfl) V2 (fun ⟨⟨cs,_⟩,at_,o,p,q,_⟩=> hb cs at_ o p q ())
end
theorem ZIk(x y i:Nat):(x ^^^ y) / 256 ^ i % 256=0↔x / 256 ^ i % 256=y / 256 ^ i % 256:=by
 have e:256 ^ i=2 ^ (8*i):=by rw [Nat.pow_mul]
 rw [e,<-XC,<-XC,<-XC,Nat.shiftRight_xor_distrib,show 256=2 ^ 8 from rfl,Nat.xor_mod_two_pow]
 generalize x >>> (8*i) % 2 ^ 8=u
 generalize y >>> (8*i) % 2 ^ 8=v
 constructor
 .intro h
  have:u ^^^ v ^^^ v=v:=by rw [h];simp
  rwa [Nat.xor_assoc,Nat.xor_self,Nat.xor_zero] at this
 .intro h;rw [h,Nat.xor_self]
theorem ZJw(c:Nat->Prop) [DecidablePred c] (f:Nat->Int)(h0:f 0=0)(hs:∀ n,f (n+1)=f n+(if c n then 0 else 2 ^ n))(i:Nat):∀ n:Nat,(0<=f n/\f n < 2 ^ n)/\(f n / 2 ^ i % 2=1↔(i < n/\¬c i)):=by
 intro n
 induction n with
 | zero=> rw [h0];simp
 | succ n d=>
  obtain ⟨⟨a,b⟩,d⟩:=d
  have p:(0:Int) < 2 ^ n:=K1 V2
  have q:(0:Int) < 2 ^ i:=K1 V2
  have e2:(2:Int) ^ (n+1)=2 ^ n*2:=Int.pow_succ ..
  rw [hs]
  by_cases h:c n
  .rw [if_pos h,Int.add_zero]
   refine ⟨⟨a,V0⟩,d.trans ?_⟩
   constructor
   .rintro ⟨x,y⟩;exact ⟨V0,y⟩
   .rintro ⟨x,y⟩
    by_cases hi:i=n
    .subst hi;exact absurd h y
    .exact ⟨V0,y⟩
  .rw [if_neg h]
   refine ⟨⟨V0,V0⟩,?_⟩
   rcases Nat.lt_trichotomy i n with hi | hi | hi
   .obtain ⟨k,rfl⟩:∃ k,n=i+1+k:=⟨n - (i+1),V0⟩
    have e:(2:Int) ^ (i+1+k)=2 ^ i*(2*2 ^ k):=by rw [Int.pow_add,Int.pow_succ,Int.mul_assoc]
    rw [e,Int.add_mul_ediv_left _ _ V0,Int.add_mul_emod_self_left,d]
    constructor
    .rintro ⟨x,y⟩;exact ⟨V0,y⟩
    .rintro ⟨x,y⟩;exact ⟨V0,y⟩
   .subst hi
    have e:(f i+2 ^ i) / 2 ^ i=1:=by
     have:f i+2 ^ i=f i+2 ^ i*1:=V0
     rw [this,Int.add_mul_ediv_left _ _ V0,Int.ediv_eq_zero_of_lt a b];try rfl
    rw [e]
    simp [h]
   .obtain ⟨k,rfl⟩:∃ k,i=n+1+k:=⟨i - (n+1),V0⟩
    have p2:(2:Int) ^ (n+1)<=2 ^ (n+1+k):=by
     rw [Int.pow_add 2 (n+1) k]
     have:(0:Int) < 2 ^ k:=K1 V2
     have h3:=Int.mul_le_mul_of_nonneg_left (a:=1) (b:=2 ^ k) (c:=2 ^ (n+1)) V0 V0
     rwa [Int.mul_one] at h3
    rw [Int.ediv_eq_zero_of_lt V0 V0]
    simp
    omega
theorem Zfq(n i:Nat):Zl (n:Int) i=((n / 256 ^ i % 256:Nat):Int):=by
 unfold Zl
 rw [Ke,Kf,Ki];try rfl
theorem Zsx{x y:Nat}(hx:x < 2 ^ 64)(hy:y < 2 ^ 64):Zdi x y=((x ^^^ y:Nat):Int):=by
 have e:((BitVec.ofInt 64 (x:Int) ^^^ BitVec.ofInt 64 (y:Int)).toNat)=(x ^^^ y):=by
  rw [BitVec.toNat_xor,BitVec.toNat_ofInt,BitVec.toNat_ofInt]
  congr 1 <;> omega
 have h:=Nat.xor_lt_two_pow hx hy
 have d:Zdi x y=IntKind.wrap .u64 (((BitVec.ofInt 64 (x:Int) ^^^ BitVec.ofInt 64 (y:Int)).toNat:Nat):Int):=rfl
 rw [d,e]
 exact Int.emod_eq_of_lt V0 (by show _ < (18446744073709551616:Int);omega)
theorem Zsw{a b:Int}(ha:isW a)(hb:isW b)(i:Nat):Zl (Zdi a b) i=0↔Zl a i=Zl b i:=by
 obtain ⟨a0,a1⟩:=ha
 obtain ⟨d,b1⟩:=hb
 obtain ⟨x,rfl⟩:=QD a0
 obtain ⟨y,rfl⟩:=QD d
 rw [Zsx V0 V0,Zfq,Zfq,Zfq]
 have:=ZIk x y i
 omega
theorem ZfX(x:Int)(i:Nat):(0<=Z7g x 8/\Z7g x 8 < 256)/\(YK (Z7g x 8) (i:Int)=true↔i < 8/\Zl x i≠0):=by
 have h:=ZJw (fun n=> Zl x n=0) (Z7g x) rfl (fun n=> rfl) i 8
 refine ⟨h.1,?_⟩
 unfold YK
 rw [decide_eq_true_eq]
 exact h.2
theorem Zr1(a b:Int):0<=ZW a b/\ZW a b < 256:=(ZfX _ 0).1
theorem Z8n{a b:Int}(ha:isW a)(hb:isW b){i:Nat}(h:i < 8):YK (ZW a b) (i:Int)=true↔Zl a i≠Zl b i:=by
 have h1:=(ZfX (Zdi a b) i).2
 have d:=Zsw ha hb i
 unfold ZW
 rw [h1]
 constructor
 .exact fun x e=> x.2 (d.2 e)
 .exact fun x=> ⟨h,fun e=> x (d.1 e)⟩
theorem Zjy{a b:Int}(ha:isW a)(hb:isW b)(h:ZW a b=0):a=b:=by
 refine Z1q ha hb fun i d=> ?_
 by_cases e:Zl a i=Zl b i
 .exact e
 .have:=(Z8n ha hb d).2 e
  rw [h] at this
  simp [YK] at this
theorem Zn3{a b:Int}(ha:isW a)(hb:isW b):mix a (mix 0 b (ZW a b)) (ZW a b)=b:=by
 refine Z1q (JI _ _ _) hb fun i d=> ?_
 have h:=Z8n ha hb d
 rw [Js d,Js d]
 grind
theorem Zc9(a m:Int):Y7 (mix 0 a m) m=true:=by
 refine Zar fun i hi d=> ?_
 rw [Js hi,d]
 exact ZcA i
theorem ZsC(i a b:Int):Y7 (Z38 i a b).old (Z38 i a b).mask=true/\Y7 (Z38 i a b).new (Z38 i a b).mask=true:=⟨Zc9 _ _,Zc9 _ _⟩
theorem ZqX{i:Int}(h:InR i)(a b:Int):J7 (Z38 i a b):=⟨h,Zr1 _ _,JI _ _ _,JI _ _ _⟩
theorem Zmj{t:Tree}(h:rng t):∀ x∈t.words,isW x:=by cases t;exact h.2.1
theorem Zgg{t:Tree}(h:rng t):Yd t.kids:=by cases t;exact h.2.2
theorem ZaI:∀ {l:List Tree},Yd l->∀ t∈l,rng t
 | a ::r,h,t,ht=> by
  rcases Q9.1 ht with rfl | ht
  .exact h.1
  .exact ZaI h.2 t ht
theorem Zec:∀ {l:List Tree},(∀ t∈l,rng t)->Yd l
 | [],_=> trivial
 | a ::r,h=> ⟨h a Q5,Zec fun t d=> h t (Q3 _ d)⟩
theorem Zed:rng Tree.nil:=by trivial
theorem ZAe:isW 0:=by unfold isW;omega
theorem Zdl{t:Tree}(h:rng t)(i:Int):isW (Zm t i):=by
 have d:=Zmj h
 unfold Zm
 split
 .exact ZAe
 .by_cases hi:i.toNat < t.words.length
  .exact d _ (Zi hi 0)
  .rw [Q6,Qu V0];exact ZAe
theorem Zaq{a b:Tree}(ra:rng a)(rb:rng b):∀ (n:Nat) (i:Int) (out:List Int),0<=i->(∀ j:Nat,(j:Int) < i->out.getD j 0=b.words.getD j 0)->(∀ j:Nat,i<=j->out.getD j 0=a.words.getD j 0)->
  (∀ j:Nat,i+n<=j->a.words.getD j 0=b.words.getD j 0)->∃ r,wsD a.words (Z0e a b n i) out=some r/\Zoo r b.words
 | 0,i,out,_,h1,h2,h3=> by
  refine ⟨out,rfl,fun j=> ?_⟩
  by_cases h:(j:Int) < i
  .exact h1 j h
  .rw [h2 j V0,h3 j V0]
 | n+1,i,out,h0,h1,h2,h3=> by
  have wa:=Zdl ra i
  have wb:=Zdl rb i
  rw [Z0e]
  have ei:∀ j:Nat,(j:Int) < i+1->¬(j:Int) < i->j=i.toNat:=fun j _ _=> by omega
  split
  .rename_i hu
   have e:=Zjy wa wb hu
   rw [Z2G a h0,Z2G b h0] at e
   rw [Qn]
   refine Zaq ra rb n (i+1) out V0 (fun j d=> ?_) (fun j d=> h2 j V0) (fun j d=> h3 j V0)
   by_cases h:(j:Int) < i
   .exact h1 j h
   .rw [h2 j V0,ei j d h,e]
  .rw [Qp,Qn,wsD]
   have e1:(Z38 i (Zm a i) (Zm b i)).at_=i:=rfl
   have e2:(Z38 i (Zm a i) (Zm b i)).mask=ZW (Zm a i) (Zm b i):=rfl
   have e3:(Z38 i (Zm a i) (Zm b i)).old=mix 0 (Zm a i) (ZW (Zm a i) (Zm b i)):=rfl
   have e4:(Z38 i (Zm a i) (Zm b i)).new=mix 0 (Zm b i) (ZW (Zm a i) (Zm b i)):=rfl
   rw [e1,e2,e3,e4,<-Z2G a h0,if_pos rfl,Zn3 wa wb]
   refine Zaq ra rb n (i+1) _ V0 (fun j d=> ?_) (fun j d=> ?_) (fun j d=> h3 j V0)
   .rw [YC]
    by_cases h:(j:Int) < i
    .rw [Yo,h1 j h]
    .rw [if_pos (ei j d h),Z2G b h0,ei j d h]
   .rw [YC,Yo,h2 j V0]
theorem Z7C{a b:Tree}:∀ (n:Nat) (i last:Int),last < i->asc WEdit.at_ last (Z0e a b n i)
 | 0,_,_,_=> trivial
 | n+1,i,last,h=> by
  rw [Z0e]
  split
  .exact Z7C n (i+1) last V0
  .exact ⟨h,Z7C n (i+1) i V0⟩
theorem Zdk(a b:Tree):∀ (n:Nat) (i:Int),(Z0e a b n i).length<=n
 | 0,_=> Qg _
 | n+1,i=> by
  have:=Zdk a b n (i+1)
  rw [Z0e]
  split <;> simp <;> omega
theorem Z7B{a b:Tree}:∀ {n:Nat} {i:Int} {w:WEdit},w∈Z0e a b n i->∃ j:Int,i<=j/\j < i+n/\w=Z38 j (Zm a j) (Zm b j)/\w.mask≠0
 | 0,_,_,h=> by cases h
 | n+1,i,w,h=> by
  rw [Z0e] at h
  rcases Qj.1 h with h | h
  .split at h
   .cases h
   .rename_i d
    rw [Q7] at h
    subst h
    exact ⟨i,V0,V0,rfl,d⟩
  .obtain ⟨j,h1,h2,h3⟩:=Z7B h
   exact ⟨j,V0,V0,h3⟩
theorem ZhA{a b:Tree}{n:Nat}(hn:n<=65535):YA (-1) (Z0e a b n 0)=true/\∀ w∈Z0e a b n 0,J7 w:=by
 refine ⟨Z7A (Z7C n 0 (-1) V0) fun w d=> ?_,fun w d=> ?_⟩
 .obtain ⟨j,h1,h2,rfl,h3⟩:=Z7B d
  exact ⟨by show j<=65534;omega,h3,ZsC _ _ _⟩
 .obtain ⟨j,h1,h2,rfl,h3⟩:=Z7B d
  exact ZqX V4 _ _
def wt(t:Tree):Nat:=if t.kind=0 then 0 else mass t
theorem Zjt(t:Tree):wt t<=mass t:=by unfold wt;split <;> omega
theorem Zop{t:Tree}(h:t.kind≠0):wt t=mass t:=if_neg h
structure To (e:Edit) (a b:Tree):Prop where
 r:Z7 e (-1)=true
 g:Yi e
 do_:∃ u,doE false e a=some u/\Eqv u b
 s:e.kind=0->e=Edit.nil
 m:e.kind≠0->Zc e+1<=5*(wt a+wt b)
def wtK:List Tree->Nat
 | []=> 0
 | t ::r=> wt t+wtK r
theorem ZlW:∀ l:List Tree,wtK l<=Z6 l
 | []=> Qg _
 | t ::r=> by have:=Zjt t;have:=ZlW r;simp only [wtK,Z6];omega
theorem ZeY{f:Tree->Tree->Edit}{a b:Tree}:∀ (n:Nat) (i:Int) (out:List Tree),0<=i->(∀ j:Int,i<=j->j < i+n->To (f (Zr a j) (Zr b j)) (Zr a j) (Zr b j))->
  (∀ j:Nat,(j:Int) < i->Eqv (out.getD j Tree.nil) (b.kids.getD j Tree.nil))->(∀ j:Nat,i<=j->out.getD j Tree.nil=a.kids.getD j Tree.nil)->
  (∀ j:Nat,i+n<=j->a.kids.getD j Tree.nil=b.kids.getD j Tree.nil)->∃ r,Jx false a.kids (Z0a f a b n i) out=some r/\ZlT r b.kids
 | 0,i,out,_,_,h1,h2,h3=> by
  refine ⟨out,rfl,fun j=> ?_⟩
  by_cases h:(j:Int) < i
  .exact h1 j h
  .rw [h2 j V0,h3 j V0];exact rfl
 | n+1,i,out,h0,H,h1,h2,h3=> by
  obtain ⟨u,hu,hq⟩:=(H i V0 V0).do_
  have ei:∀ j:Nat,(j:Int) < i+1->¬(j:Int) < i->j=i.toNat:=fun j _ _=> by omega
  have H':∀ j:Int,i+1<=j->j < i+1+n->To (f (Zr a j) (Zr b j)) (Zr a j) (Zr b j):=fun j x y=> H j V0 V0
  rw [Z0a]
  split
  .rename_i hk
   rw [JK,ZR,if_pos hk] at hu
   rw [Qn]
   refine ZeY n (i+1) out V0 H' (fun j d=> ?_) (fun j d=> h2 j V0) (fun j d=> h3 j V0)
   by_cases h:(j:Int) < i
   .exact h1 j h
   .rw [h2 j V0,ei j d h,<-Z1L a h0,<-Z1L b h0,Option.some.inj hu];exact hq
  .rw [Qp,Qn,Jx,Z4u]
   dsimp only
   rw [<-Z1L a h0,hu,Qo]
   refine ZeY n (i+1) _ V0 H' (fun j d=> ?_) (fun j d=> ?_) (fun j d=> h3 j V0)
   .rw [YC]
    by_cases h:(j:Int) < i
    .rw [Yo];exact h1 j h
    .rw [if_pos (ei j d h),ei j d h,<-Z1L b h0];exact hq
   .rw [YC,Yo,h2 j V0]
theorem Zju(l:List Tree)(i:Nat):wtK (l.drop i)=wt (l.getD i Tree.nil)+wtK (l.drop (i+1)):=by
 by_cases h:i < l.length
 .rw [QO h,Q6,Q0 h];try rfl
 .rw [Qe V0,Qe V0,Q6,Qu V0];try rfl
theorem ZeX{f:Tree->Tree->Edit}{a b:Tree}:∀ (n:Nat) (i:Int),0<=i->(∀ j:Int,i<=j->j < i+n->To (f (Zr a j) (Zr b j)) (Zr a j) (Zr b j))->
  Zo (Z0a f a b n i)<=5*(wtK (a.kids.drop i.toNat)+wtK (b.kids.drop i.toNat))
 | 0,_,_,_=> X6 _
 | n+1,i,h0,H=> by
  have h1:=ZeX n (i+1) V0 fun j x y=> H j V0 V0
  have d:=(H i V0 V0).m
  rw [Zju,Zju b.kids,<-Z1L a h0,<-Z1L b h0]
  rw [show (i+1).toNat=i.toNat+1 by omega] at h1
  rw [Z0a]
  split
  .rw [Qn];omega
  .rename_i hk
   have:=d hk
   rw [Qp,Qn,Zo,Ye]
   omega
theorem Zbh{f:Tree->Tree->Edit}{a b:Tree}:∀ (n:Nat) (i last:Int),last < i->asc KidOf.at_ last (Z0a f a b n i)
 | 0,_,_,_=> trivial
 | n+1,i,last,h=> by
  rw [Z0a]
  split
  .exact Zbh n (i+1) last V0
  .exact ⟨h,Zbh n (i+1) i V0⟩
theorem ZgX{f:Tree->Tree->Edit}{a b:Tree}:∀ {n:Nat} {i:Int} {k:Kid},k∈Z0a f a b n i->∃ j:Int,i<=j/\j < i+n/\k=⟨j,f (Zr a j) (Zr b j)⟩/\k.e.kind≠0
 | 0,_,_,h=> by cases h
 | n+1,i,w,h=> by
  rw [Z0a] at h
  rcases Qj.1 h with h | h
  .split at h
   .cases h
   .rename_i d
    rw [Q7] at h
    subst h
    exact ⟨i,V0,V0,rfl,d⟩
  .obtain ⟨j,h1,h2,h3⟩:=ZgX h
   exact ⟨j,V0,V0,h3⟩
theorem Zm6 {f:Tree->Tree->Edit} {a b:Tree} (ka:a.kind=1) (kb:b.kind=1) (ra:Zh a (-1)=true) (rb:Zh b (-1)=true) (ga:rng a) (gb:rng b)
  (H:∀ j:Int,0<=j->(j < a.kids.length\/j < b.kids.length)->To (f (Zr a j) (Zr b j)) (Zr a j) (Zr b j)):To (Jy f a b) a b:=by
 have pa:=(Jg ra V0 V0).1 ka
 have pb:=(Jg rb V0 V0).1 kb
 have hw:=ZhA (a:=a) (b:=b) (n:=max a.words.length b.words.length) V0
 have H':∀ j:Int,0<=j->j < 0+(max a.kids.length b.kids.length:Nat)->To (f (Zr a j) (Zr b j)) (Zr a j) (Zr b j):=fun j d h2=> H j d V0
 have hk:∀ k∈Z0a f a b (max a.kids.length b.kids.length) 0,(k.at_<=65534/\k.e.kind≠0/\Z7 k.e (-2)=true)/\InR k.at_/\Yi k.e:=by
  intro k hk
  obtain ⟨j,d,h2,rfl,h3⟩:=ZgX hk
  have ht:=H' j d h2
  exact ⟨⟨by show j<=65534;omega,h3,Jq _ _ _ V2 ht.r⟩,by show InR j;unfold InR;omega,ht.g⟩
 refine ⟨Zgr hw.1 (Z7R (Zbh _ 0 (-1) V0) fun k hq=> (hk k hq).1),?_,?_,fun h=> absurd (show (2:Int)=0 from h) V2,fun _=> ?_⟩
 .exact ⟨ZZ V2 V2,Zed,Zed,hw.2,ZZ V2 V2,Zeb fun k hq=> (hk k hq).2,trivial⟩
 .obtain ⟨w,d,h2⟩:=Zaq ga gb (max a.words.length b.words.length) 0 a.words V0 (fun j hj=> by omega) (fun j _=> rfl) (fun j hj=> by
   rw [Q6,Q6,Qu V0,Qu V0])
  obtain ⟨k,h3,h4⟩:=ZeY (max a.kids.length b.kids.length) 0 a.kids V0 H' (fun j hj=> by omega) (fun j _=> rfl) (fun j hj=> by
   rw [Q6,Q6,Qu V0,Qu V0])
  refine ⟨.mk 1 w k,?_,?_⟩
  .rw [JK,ZR]
   simp only [Jy]
   change (if (2:Int)=0 then _ else if (2:Int)=1 then _ else if (2:Int)=2 then (if a.kind=1 then (wsD a.words (Z0e a b (max a.words.length b.words.length) 0) a.words).bind fun x=> (Jx false a.kids (Z0a f a b (max a.kids.length b.kids.length) 0) a.kids).map fun y=> Tree.mk 1 x y else none) else _)=_
   rw [if_neg V2,if_neg V2,if_pos rfl,if_pos ka,d,Qo,h3,Qi]
  .exact (Z1P rfl kb).2 ⟨h2,h4⟩
 .have d:=ZeX _ 0 V0 H'
  have h2:=Zdk a b (max a.words.length b.words.length) 0
  have h3:=ZlW a.kids
  have h4:=ZlW b.kids
  rw [Zop V0,Zop V0]
  simp only [Jy,Zc,Int.toNat_zero,Xg] at d ⊢
  have h5:mass a=1+a.words.length+Z6 a.kids:=by cases a;rfl
  have h6:mass b=1+b.words.length+Z6 b.kids:=by cases b;rfl
  have h7:mass Tree.nil=1:=rfl
  simp only [Ze,Qr]
  omega
theorem ZBV {α : Type} {A : ArgL α} {pre : α → Prop} {res : α → V U} {f : FuncId} (h0 : ∃ fn, Tryz.prog.funcs[f]? = some fn ∧ fn.body.isSome = true ∧ (fn.name == "runtime.NumGoroutine") = false) (h : ∀ a, ¬pre a) :
  Contract Tryz.prog cfg f (fs A (fun a=> [pre a]) res):=by
 refine Jk h0 rfl ?_
 intro args X ps r X' d aa
 exfalso
 unfold fs at d
 simp only at d
 split at d
 .split at d
  .cases d
   exact h _ aa.1
  .cases d
 .cases d
theorem ZnO {α : Type} {A : ArgM α} {pre : α → Prop} {res : α → V U} {resX : α → List (List (C U))} {f : FuncId} (h0 : ∃ fn, Tryz.prog.funcs[f]? = some fn ∧ fn.body.isSome = true ∧ (fn.name == "runtime.NumGoroutine") = false) (h : ∀ a, ¬pre a) :
  Contract Tryz.prog cfg f (fsX A (fun a=> [pre a]) res resX):=by
 refine Jk h0 rfl ?_
 intro args X ps r X' d aa
 exfalso
 unfold fsX at d
 simp only at d
 split at d
 .cases d
  exact h _ aa.1
 .cases d
theorem ZwF:Contract Tryz.prog cfg 45 Z8v:=ZnO ⟨Tryz.f45,Tryz.func45,rfl,rfl⟩ fun _ h=> h
theorem ZwD:Contract Tryz.prog cfg 75 Z8v:=ZnO ⟨Tryz.f75,Tryz.func75,rfl,rfl⟩ fun _ h=> h
theorem ZwC:Contract Tryz.prog cfg 76 Z8s:=ZnO ⟨Tryz.f76,Tryz.func76,rfl,rfl⟩ fun _ h=> h
theorem ZwE:Contract Tryz.prog cfg 73 Z8u:=ZBV ⟨Tryz.f73,Tryz.func73,rfl,rfl⟩ fun _ h=> h
theorem ZwB:Contract Tryz.prog cfg 92 Z8r:=ZBV ⟨Tryz.f92,Tryz.func92,rfl,rfl⟩ fun _ h=> h
theorem c91:Contract Tryz.prog cfg 91 Z5F:=by
 refine ZCQ ?_
 intro at_ kind n _ d
 simp only [Zep] at d
 refine ZIp _ _ _ _ ?_
 simp only [iB,vcF]
 rw [show (Int.toNat (at_.length:Int))=at_.length by omega,List.take_length]
 refine ⟨V0,by simp only [QG];omega,?_⟩
 exact V1
theorem ZER:Contract Tryz.prog cfg 110 Z8P:=by
 refine Zzz ?_
 intro w _ d
 refine ZGT _ _ ?_
 exact V1
theorem c96:Contract Tryz.prog cfg 96 Zdy:=by
 refine ZCP ?_
 intro l _ d
 simp only [Zkl] at d
 refine ZIo _ _ ?_
 simp only [iB,vcF]
 refine ⟨fun h=> ?_,?_,?_⟩
 .subst h
  exact V1
 .simp only [Qr];omega
 ·exact V1
theorem c76:Contract Tryz.prog cfg 76 ZdG:=by
 refine ZD1 c96 c22 ?_
 intro cs at_ base ours theirs _ d
 simp only [ZgG] at d
 refine ZIB _ _ _ _ _ _ ?_
 rintro y1 rfl y2 rfl y3 rfl y4 rfl y5 rfl y6 rfl
 refine ⟨by simp only [Zkl];omega,by simp only [Zc1];omega,by simp only [Zc1];omega,by simp only [Zc1];omega,by simp only [QG];omega,?_⟩
 exact V1
theorem ZuB(out:List Int)(i:Nat)(w:Int)(h:out.length<=i):ZH 0 (out++[0]) i w=ZH 0 out i w:=by
 unfold ZH
 congr 1
 rw [Q8,QG,Qb,show i+1 - out.length=(i+1 - (out.length+1))+1 by omega,XZ]
 try rfl
theorem ZES:Contract Tryz.prog cfg 109 Z8Q:=by
 refine ZzA ?_
 intro i w out _ hp
 simp only [ZaT] at hp
 refine ZGU _ _ _ _ ?_
 refine Z8 (ι:=List Int) (fun l=> Z71 i w out l) (fun l=> l.length<=1000001/\ZH 0 l i.toNat w=ZH 0 out i.toNat w) (fun l=> (i+1 - l.length).toNat) out rfl ⟨V0,rfl⟩ ?_
 rintro l ⟨h1,d⟩
 refine ZsO _ _ _ _ _ _ ?_
 (simp only [iB,vcT,vcS])
 simp only [QG]
 refine ⟨fun h=> ⟨V0,l++[0],rfl,⟨by simp;omega,by rw [ZuB _ _ _ V0,d]⟩,by simp;omega⟩,fun h=> ⟨V0,V0,?_⟩⟩
 have e:List.set l i.toNat w=ZH 0 out i.toNat w:=by
  rw [<-d]
  unfold ZH
  rw [show i.toNat+1 - l.length=0 by omega,List.replicate_zero,Qh]
 rw [e]
 exact V1
theorem Zmb(l:List Int)(i:Nat)(x:Int):(ZH 0 l i x).length=max l.length (i+1):=Z3H _ _ _ _
theorem Zg9(o:Tree)(at_:List PStep)(a b:WEdit)(i:Int)(s:List Int × List Conflict)(h:i<=65534)(n:Nat)(hs:s.1.length<=65535/\s.2.length<=n):(Z1u o at_ a b i s).1.length<=65535/\(Z1u o at_ a b i s).2.length<=n+1:=by
 unfold Z1u
 split
 .dsimp only
  rw [Zmb]
  omega
 .simp;omega
theorem Zjw:J7 Z0f:=⟨by show InR 0;unfold InR;omega,by show (0:Int)<=0/\(0:Int) < 256;omega,ZAe,ZAe⟩
theorem Zdj(o:Tree)(at_:List PStep)(n:Nat){p q:List WEdit}(h:p.length=0/\q.length=0)(s:List Int × List Conflict):ZV o at_ n p q s=s:=by
 cases n with
 | zero=> rfl
 | succ n=> rw [ZV,if_pos h]
theorem Z0X(o:Tree)(at_:List PStep):∀ (n m:Nat) (p q:List WEdit) (s:List Int × List Conflict),p.length+q.length<=n->p.length+q.length<=m->ZV o at_ n p q s=ZV o at_ m p q s
 | 0,m,p,q,s,h1,h2=> by rw [Zdj o at_ m V0];try rfl
 | n+1,0,p,q,s,h1,h2=> by rw [Zdj o at_ (n+1) V0];try rfl
 | n+1,m+1,p,q,s,h1,h2=> by
  have d:(p.drop 1).length=p.length - 1:=Qx
  have e2:(q.drop 1).length=q.length - 1:=Qx
  rw [ZV,ZV]
  split
  .try rfl
  .split
   .exact Z0X o at_ n m _ _ _ V0 V0
   .split
    .exact Z0X o at_ n m _ _ _ V0 V0
    .exact Z0X o at_ n m _ _ _ V0 V0
theorem c90:Contract Tryz.prog cfg 90 Zdz:=by
 refine ZCR Zhp ZES c63 c71 c91 ZER c76 ?_
 intro cs at_ o p q _ hp
 simp only [Zkm] at hp
 obtain ⟨⟨⟨hc,ha⟩,ro,hw⟩,⟨p1,p2⟩,q1,q2⟩:=hp
 refine ZIq _ _ _ _ _ _ ⟨by simp only [Zkz];omega,?_⟩
 refine Z8 (ι:=List WEdit × List WEdit × List Int × List Conflict) (fun s=> Z0o cs at_ o p q s.1 s.2.2.2 s.2.2.1 s.2.1)
  (fun s=> ((∀ w∈s.1,J7 w/\0<=w.at_/\w.at_<=65534)/\s.1.length<=65535)/\((∀ w∈s.2.1,J7 w/\0<=w.at_/\w.at_<=65534)/\s.2.1.length<=65535)/\s.2.2.1.length<=65535/\s.2.2.2.length+s.1.length+s.2.1.length<=132070/\
   ZV o at_ (s.1.length+s.2.1.length) s.1 s.2.1 s.2.2=ZV o at_ (p.length+q.length) p q (o.words,cs))
  (fun s=> s.1.length+s.2.1.length) (p,q,o.words,cs) rfl ⟨⟨p1,p2⟩,⟨q1,q2⟩,hw,V3,rfl⟩ ?_
 rintro ⟨x,y,out,ds⟩ ⟨⟨h1,h2⟩,⟨h3,h4⟩,h5,h6,h7⟩
 dsimp only at h1 h2 h3 h4 h5 h6 h7
 refine ZxN _ _ _ _ _ _ _ _ _ _ _ ?_
 rintro y1 hy1 y2 be y3 ba y4 bl y5 bj y6 bm y7 bq y8 bp y9 bt b6 bb ce bf cj az cf a7 ca a2 cc bc cb bd
 (simp only [iB,vcT,vcS])
 replace hy1:=hy1.symm
 subst hy1
 subst bl bj bm bq bp bt bb bf az a7 a2 bc bd
 have ar:∀ (x' y':List WEdit) (a b:WEdit) (i:Int),((∀ w∈x',J7 w/\0<=w.at_/\w.at_<=65534)/\x'.length<=65535)->((∀ w∈y',J7 w/\0<=w.at_/\w.at_<=65534)/\y'.length<=65535)->
   x'.length+y'.length < x.length+y.length->i<=65534->ZV o at_ (x'.length+y'.length) x' y' (Z1u o at_ a b i (out,ds))=ZV o at_ (p.length+q.length) p q (o.words,cs)->
   ∀ aa ai,Z1u o at_ a b i (out,ds)=(aa,ai)->∃ j:List WEdit × List WEdit × List Int × List Conflict,Z0o cs at_ o p q x' ai aa y'=Z0o cs at_ o p q j.1 j.2.2.2 j.2.2.1 j.2.1/\
    (((∀ w∈j.1,J7 w/\0<=w.at_/\w.at_<=65534)/\j.1.length<=65535)/\((∀ w∈j.2.1,J7 w/\0<=w.at_/\w.at_<=65534)/\j.2.1.length<=65535)/\j.2.2.1.length<=65535/\j.2.2.2.length+j.1.length+j.2.1.length<=132070/\
    ZV o at_ (j.1.length+j.2.1.length) j.1 j.2.1 j.2.2=ZV o at_ (p.length+q.length) p q (o.words,cs))/\j.1.length+j.2.1.length < x.length+y.length:=by
  intro x' y' a b i h1 h2 h3 h4 ay aa ai br
  have hl:=Zg9 o at_ a b i (out,ds) h4 ds.length ⟨h5,Qg _⟩
  rw [br] at hl ay
  dsimp only at hl
  exact ⟨(x',y',aa,ai),rfl,⟨h1,h2,hl.1,V3,ay⟩,h3⟩
 have dx:(∀ w∈x.drop 1,J7 w/\0<=w.at_/\w.at_<=65534)/\(x.drop 1).length<=65535:=⟨fun w hw=> h1 w (Qm hw),by rw [Qx];omega⟩
 have dy:(∀ w∈y.drop 1,J7 w/\0<=w.at_/\w.at_<=65534)/\(y.drop 1).length<=65535:=⟨fun w hw=> h3 w (Qm hw),by rw [Qx];omega⟩
 have lx:(x.drop 1).length=x.length - 1:=Qx
 have ly:(y.drop 1).length=y.length - 1:=Qx
 have mx:0 < x.length->J7 y2/\0<=y2.at_/\y2.at_<=65534:=fun h=> by rw [be];exact h1 _ (Zi V0 _)
 have my:0 < y.length->J7 y3/\0<=y3.at_/\y3.at_<=65534:=fun h=> by rw [ba];exact h3 _ (Zi V0 _)
 have ex:x.getD 0 Z0f=y2:=be.symm
 have ey:y.getD 0 Z0f=y3:=ba.symm
 have W:=fun i=> Zdl ro i
 have z0:(0:Int)<=0/\(0:Int) < 18446744073709551616:=V0
 have z1:(0:Int)<=0/\(0:Int) < 256:=V0
 have am:∀ a b:WEdit,J7 a->J7 b->0<=ZcN a.mask b.mask/\ZcN a.mask b.mask < 256:=fun a b ha hb=> (Zjj ha.2.1 hb.2.1).1
 have m2:∀ w:Int,mass (.mk 1 [w] [])<=1000000:=fun w=> by simp [mass,Z6]
 have pt:∀ i:Int,(at_++[PStep.mk 1 i]).length<=1000000:=fun i=> by simp;omega
 refine ⟨fun bk=> ⟨fun h=> by omega,fun h=> by omega,fun h h'=> ⟨h,h'⟩,fun hA=> ?_,fun hA=> ⟨fun h=> by omega,fun h=> by omega,fun hB=> ?_,fun hB=> ?_⟩⟩,fun bk=> ?_⟩
 .obtain ⟨d,i0,i1⟩:=mx V0
  have a1:=am y2 Z0f d Zjw
  have hw:ZV o at_ ((x.drop 1).length+y.length) (x.drop 1) y (Z1u o at_ y2 Z0f y2.at_ (out,ds))=ZV o at_ (p.length+q.length) p q (o.words,cs):=by
   rw [<-h7]
   have e:x.length+y.length=(x.length+y.length - 1)+1:=V0
   rw [e,ZV,Yo,if_pos (by rw [ex,ey];omega),ex]
   exact Z0X _ _ _ _ _ _ _ V0 V0
  have K:=ar (x.drop 1) y y2 Z0f y2.at_ dx ⟨h3,h4⟩ V0 i1 hw
  refine ⟨V0,V0,V0,trivial,⟨W _,d.2.2.2,d.2.1⟩,⟨W _,z0,z1⟩,⟨z0,d.2.2.2,a1⟩,⟨z0,z0,a1⟩,fun hm=> ?_,fun hm=> ?_⟩
  .refine ⟨by show at_.length<=_;omega,trivial,trivial,trivial,⟨⟨by show ds.length<=_;omega,pt _⟩,m2 _,m2 _,m2 _⟩,K _ _ ?_⟩
   unfold Z1u
   exact if_neg hm
  .refine ⟨⟨JI _ _ _,z0,z1⟩,⟨⟨i0,by show y2.at_<=_;omega⟩,by show out.length<=_;omega⟩,K _ _ ?_⟩
   unfold Z1u
   exact if_pos hm
 .obtain ⟨d,i0,i1⟩:=my V0
  have a1:=am Z0f y3 Zjw d
  have hw:ZV o at_ (x.length+(y.drop 1).length) x (y.drop 1) (Z1u o at_ Z0f y3 y3.at_ (out,ds))=ZV o at_ (p.length+q.length) p q (o.words,cs):=by
   rw [<-h7]
   have e:x.length+y.length=(x.length+y.length - 1)+1:=V0
   rw [e,ZV,Yo,if_neg (by rw [ex,ey];omega),if_pos (by rw [ex,ey];omega),ey]
   exact Z0X _ _ _ _ _ _ _ V0 V0
  have K:=ar x (y.drop 1) Z0f y3 y3.at_ ⟨h1,h2⟩ dy V0 i1 hw
  refine ⟨V0,V0,V0,trivial,⟨W _,z0,z1⟩,⟨W _,d.2.2.2,d.2.1⟩,⟨z0,z0,a1⟩,⟨z0,d.2.2.2,a1⟩,fun hm=> ?_,fun hm=> ?_⟩
  .refine ⟨by show at_.length<=_;omega,trivial,trivial,trivial,⟨⟨by show ds.length<=_;omega,pt _⟩,m2 _,m2 _,m2 _⟩,K _ _ ?_⟩
   unfold Z1u
   exact if_neg hm
  .refine ⟨⟨JI _ _ _,d.2.2.2,d.2.1⟩,⟨⟨i0,by show y3.at_<=_;omega⟩,by show out.length<=_;omega⟩,K _ _ ?_⟩
   unfold Z1u
   exact if_pos hm
 .obtain ⟨d,i0,i1⟩:=mx V0
  obtain ⟨r2,j0,j1⟩:=my V0
  have a1:=am y2 y3 d r2
  have hw:ZV o at_ ((x.drop 1).length+(y.drop 1).length) (x.drop 1) (y.drop 1) (Z1u o at_ y2 y3 y2.at_ (out,ds))=ZV o at_ (p.length+q.length) p q (o.words,cs):=by
   rw [<-h7]
   have e:x.length+y.length=(x.length+y.length - 1)+1:=V0
   rw [e,ZV,Yo,if_neg (by rw [ex,ey];omega),if_neg (by rw [ex,ey];omega),ex,ey]
   exact Z0X _ _ _ _ _ _ _ V0 V0
  have K:=ar (x.drop 1) (y.drop 1) y2 y3 y2.at_ dx dy V0 i1 hw
  refine ⟨V0,V0,V0,V0,V0,trivial,⟨W _,d.2.2.2,d.2.1⟩,⟨W _,r2.2.2.2,r2.2.1⟩,⟨z0,d.2.2.2,a1⟩,⟨z0,r2.2.2.2,a1⟩,fun hm=> ?_,fun hm=> ?_⟩
  .refine ⟨by show at_.length<=_;omega,trivial,trivial,trivial,⟨⟨by show ds.length<=_;omega,pt _⟩,m2 _,m2 _,m2 _⟩,K _ _ ?_⟩
   unfold Z1u
   exact if_neg hm
  .refine ⟨⟨JI _ _ _,r2.2.2.2,r2.2.1⟩,⟨⟨i0,by show y2.at_<=_;omega⟩,by show out.length<=_;omega⟩,K _ _ ?_⟩
   unfold Z1u
   exact if_pos hm
 .have e:x.length=0/\y.length=0:=V0
  rw [Zdj _ _ _ e] at h7
  simp only [Ztx,Zmo,<-h7]
  exact V1
noncomputable section
def Zpf(a:(List Conflict × Unit) × List PStep × Tree × Edit × Edit × Unit):Prop:=(((a.1.1).length<=1000/\(a.2.1).length<=1000)/\rng a.2.2.1/\a.2.2.1.words.length<=65535)/\Tree.kids a.2.2.1=[]/\(Edit.kind a.2.2.2.1=2/\Edit.kids a.2.2.2.1=[]/\(∀ w∈a.2.2.2.1.words,J7 w/\0<=WEdit.at_ w/\WEdit.at_ w<=65534)/\(a.2.2.2.1.words).length<=65535)/\Edit.kind a.2.2.2.2.1=2/\Edit.kids a.2.2.2.2.1=[]/\(∀ w∈a.2.2.2.2.1.words,J7 w/\0<=WEdit.at_ w/\WEdit.at_ w<=65534)/\(a.2.2.2.2.1.words).length<=65535
def Ztz(a:(List Conflict × Unit) × List PStep × Tree × Edit × Edit × Unit):V U:= .agg (enc .tree ((Jf a.2.2.1 a.2.1 a.2.2.2.1 a.2.2.2.2.1 a.1.1).1))
def Zmq(a:(List Conflict × Unit) × List PStep × Tree × Edit × Edit × Unit):List (List (C U)):=[[sU .conflict ((Jf a.2.2.1 a.2.1 a.2.2.2.1 a.2.2.2.2.1 a.1.1).2) (.own (.x 0 0))]]
def ZdH:Fs U:=fsX Zxc (fun a=> [Zpf a]) Ztz Zmq
def Znp:List (FuncId × Fs U):=[(90,Zdz),(91,Z5F),(45,Z8v),(64,Z1a),(92,Z8r)]
def ZzO:Zb U:=lvk [([0,1,7,8,9,10],[7,8,9,10,((.x 0),[])]),([0,1,7,8,9,10,11],[7,8,9,10,11,((.x 0),[])]),([0,1,7,8,9,10,11,12],[7,8,9,10,11,((.x 0),[])]),([0,1,7,8,9,10,11,12,33,34,35],[7,8,9,10,11,((.x 0),[])]),([0,1,7,8,9,10,11,12,33,34,35,36],[7,8,9,10,11,((.x 0),[])]),([0,1,7,8,9,10,11,12,14,33,34,35],[7,8,9,10,11,((.x 0),[])]),([0,1,7,8,9,10,11,12,14,15,33,34,35],[7,8,9,10,11,((.x 0),[])]),([0,1,7,8,9,10,11,12,14,15,33,34,35,42],[7,8,9,10,11,((.x 0),[])]),([0,1,7,8,9,10,11,12,33,34,35],[7,8,9,10,11,((.x 0),[])]),([0,1,7,8,9,10,11,12,33,34,35],[7,8,9,10,11,((.x 0),[])]),([0,1,7,8,9,10,11,53,54],[7,8,9,10,((.loc 11),[.any,.any,.own .tree]),((.x 0),[])]),([0,1,7,8,9,10,11,53,54,55],[7,8,9,10,11,((.x 0),[])]),([0,1,7,8,9,10,11,16,53,54],[7,8,9,10,11,((.x 0),[])]),([0,1,7,8,9,10,11,53,54],[7,8,9,10,11,((.x 0),[])]),([0,1,7,8,9,10,11,53,54],[7,8,9,10,((.loc 11),[.any,.any,.own .tree]),((.x 0),[])]),([10],[10,((.x 0),[])])]
def Z6e(cs:List Conflict)(at_:List PStep)(o:Tree)(p q:Edit)(aa d:Int):LSt U:=(L2 [(0,.ptr (.x 0) 0),(1,.c (sU .step at_ .unk)),pL 7,pL 8,pL 9,pL 10,pL 11,pI 12 aa,(33,.c (sU .krow ([Edit.kids p,Edit.kids q]) .full)),pI 34 (([Edit.kids p,Edit.kids q]).length:Int),pI 35 d] [(.loc 7,(enc .tree o)),(.loc 8,(enc .edit p)),(.loc 9,(enc .edit q)),(.loc 10,[ci 0,.nils,.nils]),(.loc 11,[ci 1,sU .u64 ((ZV (Tree.mk o.kind o.words o.kids) at_ ((p.words).length+(q.words).length) p.words q.words (Tree.words (Tree.mk o.kind o.words o.kids),cs)).1) .unk,.nils]),(.x 0,[sU .conflict ((ZV (Tree.mk o.kind o.words o.kids) at_ ((p.words).length+(q.words).length) p.words q.words (Tree.words (Tree.mk o.kind o.words o.kids),cs)).2) (.own (.x 0 0))])])
def Z9J(cs:List Conflict)(at_:List PStep)(o:Tree)(p q:Edit)(ab aa:Int)(mx0_0_a:List Conflict)(d:List Tree):LSt U:=(L2 [(0,.ptr (.x 0) 0),(1,.c (sU .step at_ .unk)),pL 7,pL 8,pL 9,pL 10,pL 11,pI 53 ab,pI 54 aa] [(.loc 7,(enc .tree o)),(.loc 8,(enc .edit p)),(.loc 9,(enc .edit q)),(.loc 10,[ci 0,.nils,.nils]),(.loc 11,[ci 1,sU .u64 ((ZV (Tree.mk o.kind o.words o.kids) at_ ((p.words).length+(q.words).length) p.words q.words (Tree.words (Tree.mk o.kind o.words o.kids),cs)).1) .unk,sU .tree d (.own (.l 11 2))]),(.x 0,[sU .conflict mx0_0_a (.own (.x 0 0))])])
abbrev A74(p:List Nat):=AW (Z1 Znp) Tryz.f74 ZzO p
abbrev S74(p:List Nat):=SW (Z1 Znp) Tryz.f74 ZzO p
theorem ZIC(cs:List Conflict)(at_:List PStep)(o:Tree)(p q:Edit)(Q:QT)(h:((Zkm ((cs,()),at_,(Tree.mk o.kind o.words o.kids),p.words,q.words,()))/\(Zk (A74 [1,1,1,0,1,0,0]) (Z6e cs at_ o p q (o.kids.length:Int) 0) (xB 0 (S74 [1,1,1,1] Q))))):
  A74 [] (L2 [(0,.ptr (.x 0) 0),(1,.c (sU .step at_ .unk)),(2,.agg (enc .tree o)),(3,.agg (enc .edit p)),(4,.agg (enc .edit q))] [(.x 0,[sU .conflict cs (.own (.x 0 0))])]) Q:=
 (Eq.mpr V5 h:)
theorem ZxZ(cs:List Conflict)(at_:List PStep)(o:Tree)(p q:Edit)(ab d:Int)(N0:NT)(Q:QT)(h:∀ af,af=o->∀ aa,aa=(List.getD ([Edit.kids p,Edit.kids q]) d.toNat ([]:List Kid))->∀ ae,ae=(List.getD aa (Int.toNat (((aa.length:Int):Int) - 1)) (KidOf.mk 0 Edit.nil))->(iB (decide (d < (([Edit.kids p,Edit.kids q]).length:Int))) (((0:Int)<=d/\d < (([Edit.kids p,Edit.kids q]).length:Int))/\(iB (decide ((0:Int) < (aa.length:Int))) ((InR (((aa.length:Int):Int) - 1))/\((0:Int)<=(((aa.length:Int):Int) - 1)/\(((aa.length:Int):Int) - 1) < (aa.length:Int))/\(InR (ae.at_+1))/\((InR (d+1))/\(N0 (Z6e cs at_ o p q (if ab < (ae.at_+1) then (ae.at_+1) else ab) (d+1))))) ((InR (d+1))/\(N0 (Z6e cs at_ o p q ab (d+1)))))) ((Zk (A74 [1,1,1,1,0,1,0,0]) (Z9J cs at_ o p q ab 0 ((ZV af at_ ((p.words).length+(q.words).length) p.words q.words (Tree.words af,cs)).2) []) (xB 2 (S74 [1,1,1,1,1] Q)))))):
  A74 [1,1,1,0,1,0,0] (Z6e cs at_ o p q ab d) (xT N0 (xB 0 (S74 [1,1,1,1] Q))):=
 (Eq.mpr V5 (h _ (Z3 _) _ rfl _ rfl):)
theorem ZxY(cs:List Conflict)(at_:List PStep)(o:Tree)(p q:Edit)(af d:Int)(mx0_0_a:List Conflict)(aa:List Tree)(N1:NT)(Q:QT)(h:∀ ab,ab=o->∀ ae,ae=(Edit.nil)->∀ ai,ai=(Zr ab d)->∀ ah,ah=ai->(iB (decide (d < af)) (((Zep (at_,0,d,()))/\(Z5W (ab,d,()))/\(Zii (p.kids,d,()))/\(Zii (q.kids,d,()))/\(Zpk ((mx0_0_a,()),(at_++[PStep.mk 0 d]),ai,ae,ae,()))/\((aa.length+([ah]).length)*56<=140737488355328)/\((InR (d+1))/\(N1 (Z9J cs at_ o p q af (d+1) mx0_0_a (aa++([ah]))))))) ((Q .ret (L2 [pL 10] [(.loc 10,[ci 1,sU .u64 ((ZV ab at_ ((p.words).length+(q.words).length) p.words q.words (Tree.words ab,cs)).1) .unk,sU .tree aa (.own (.l 10 2))]),(.x 0,[sU .conflict mx0_0_a (.own (.x 0 0))])]))))):
  A74 [1,1,1,1,0,1,0,0] (Z9J cs at_ o p q af d mx0_0_a aa) (xT N1 (xB 2 (S74 [1,1,1,1,1] Q))):=
 (Eq.mpr V5 (h _ (Z3 _) _ (Zg _) _ (Z3 _) _ (Z3 _)):)
abbrev ZFu(cs:List Conflict)(at_:List PStep)(o:Tree)(p q:Edit):Prop:=AW (Z1 Znp) Tryz.f74 ZzO [] (Zf (Zxc.can ((cs,()),at_,o,p,q,())) (Zxc.canX ((cs,()),at_,o,p,q,()))) (EQ Tryz.f74 (Ztz ((cs,()),at_,o,p,q,())) (Zmq ((cs,()),at_,o,p,q,())))
theorem ZD2(c90:CT 90 Zdz)(c91:CT 91 Z5F)(ZwF:CT 45 Z8v)(c64:CT 64 Z1a)(ZwB:CT 92 Z8r)(hb:∀ (cs:List Conflict) (at_:List PStep) (o:Tree) (p:Edit) (q:Edit) (_:Unit),Zpf ((cs,()),at_,o,p,q,())->ZFu cs at_ o p q):CT 74 ZdH:=
 ZN (l:=[(90,Zdz),(91,Z5F),(45,Z8v),(64,Z1a),(92,Z8r)]) Zd rfl (⟨c90,c91,ZwF,c64,ZwB,trivial⟩) ZzO Tryz.func74 rfl rfl 5 (fun _=> rfl) V2 (fun ⟨⟨cs,_⟩,at_,o,p,q,_⟩=> hb cs at_ o p q ())
def Zw2:List (FuncId × Fs U):=[(74,ZdH),(73,Z8u),(75,Z8v),(38,Yw),(76,Z8s)]
def ZE6:Zb U:=lvk [([0,1,7,8,9,10],[7,8,9,10,((.x 0),[])]),([0,1,7,8,9,10,13],[7,8,9,10,((.x 0),[])]),([10],[10,((.x 0),[])]),([0,1,7,8,9,10,20],[7,8,9,10,((.x 0),[])]),([10],[10,((.x 0),[])]),([0,1,7,8,9,10,27],[7,8,9,10,((.x 0),[])]),([10],[10,((.x 0),[])]),([0,1,7,8,9,10,42],[7,8,9,10,((.x 0),[])]),([10],[10,((.x 0),[])]),([0,1,7,10,11,12],[7,10,11,12,((.x 0),[])]),([0,1,7,10,11,12,65],[7,10,11,12,((.x 0),[])]),([10],[10,((.x 0),[])]),([10],[10,((.x 0),[])])]
abbrev A45(p:List Nat):=AW (Z1 Zw2) Tryz.f45 ZE6 p
theorem ZJ1(cs:List Conflict)(at_:List PStep)(o:Tree)(p q:Edit)(Q:QT)(h:∀ ae,ae=p->∀ aa,aa=q->∀ d,d=o->∀ ab,ab=d->let z0:=Q .ret (L2 [pL 10] [(.loc 10,(enc .tree d)),(.x 0,[sU .conflict cs (.own (.x 0 0))])]);(iB (p.kind==0) ((Z9a (aa,d,()))/\z0) ((iB (q.kind==0) ((Z9a (ae,d,()))/\z0) ((Tt (p.kind==2))/\(Tt (p.kind==2))/\(Tt (p.kind==2))/\(iB (bif (p.kind==2) then (q.kind==2) else false) ((Zpf ((cs,()),at_,d,ae,aa,()))/\(Q .ret (L2 [pL 10] [(.loc 10,(enc .tree ((Jf d at_ ae aa cs).1))),(.x 0,[sU .conflict ((Jf d at_ ae aa cs).2) (.own (.x 0 0))])]))) ((Tt (p.kind==3))/\(Tt (p.kind==3))/\(Tt (p.kind==3))/\(iB (bif (p.kind==3) then (q.kind==3) else false) ((Zpk ((cs,()),at_,d,ae,aa,()))/\z0) ((Z9a (ae,d,()))/\(Z9a (aa,d,()))/\((Z2M (ab,ab,()))/\(iB (ZU (Z0 ab) (Z0 ab)) (z0) ((Zpi ((cs,()),at_,d,ab,ab,()))/\z0)))))))))))):
  A45 [] (L2 [(0,.ptr (.x 0) 0),(1,.c (sU .step at_ .unk)),(2,.agg (enc .tree o)),(3,.agg (enc .edit p)),(4,.agg (enc .edit q))] [(.x 0,[sU .conflict cs (.own (.x 0 0))])]) Q:=
 (Eq.mpr V5 (h _ (Zg _) _ (Zg _) _ (Z3 _) _ (Z3 _)):)
abbrev ZFT(cs:List Conflict)(at_:List PStep)(o:Tree)(p q:Edit):Prop:=AW (Z1 Zw2) Tryz.f45 ZE6 [] (Zf (Zxc.can ((cs,()),at_,o,p,q,())) (Zxc.canX ((cs,()),at_,o,p,q,()))) (EQ Tryz.f45 (Ztz ((cs,()),at_,o,p,q,())) (Zmq ((cs,()),at_,o,p,q,())))
theorem ZDm(c74:CT 74 ZdH)(ZwE:CT 73 Z8u)(ZwD:CT 75 Z8v)(c38:CT 38 Yw)(ZwC:CT 76 Z8s)(hb:∀ (cs:List Conflict) (at_:List PStep) (o:Tree) (p:Edit) (q:Edit) (_:Unit),Zpf ((cs,()),at_,o,p,q,())->ZFT cs at_ o p q):CT 45 ZdH:=
 ZN (l:=[(74,ZdH),(73,Z8u),(75,Z8v),(38,Yw),(76,Z8s)]) Zd rfl (⟨c74,ZwE,ZwD,c38,ZwC,trivial⟩) ZE6 Tryz.func45 rfl rfl 5 (fun _=> rfl) V2 (fun ⟨⟨cs,_⟩,at_,o,p,q,_⟩=> hb cs at_ o p q ())
end
theorem c74:Contract Tryz.prog cfg 74 ZdH:=by
 refine ZD2 c90 c91 ZwF c64 ZwB ?_
 intro cs at_ o p q _ hp
 simp only [Zpf] at hp
 obtain ⟨⟨hc,ro,hw⟩,ko,⟨kp,pk,pw⟩,kq,qk,qw⟩:=hp
 refine ZIC _ _ _ _ _ _ ⟨?_,?_⟩
 .simp only [Zkm]
  exact ⟨⟨hc,by cases o;exact ro,by cases o;exact hw⟩,pw,qw⟩
 refine Z8 (ι:=Int) (fun i=> Z6e cs at_ o p q 0 i) (fun i=> 0<=i/\i<=2) (fun i=> (2 - i).toNat) 0 (by rw [ko];rfl) ⟨V2,V2⟩ ?_
 rintro i ⟨i0,i2⟩
 refine ZxZ _ _ _ _ _ _ _ _ _ ?_
 rintro y1 d y2 ae y3 aq
 have e2:y2=[]:=by
  rw [ae,pk,qk]
  have:i=0\/i=1\/i=2:=V0
  rcases this with rfl | rfl | rfl <;> rfl
 subst e2
 (simp only [iB,vcT,vcS])
 have e3:(([p.kids,q.kids].length:Nat):Int)=2:=rfl
 rw [e3]
 refine ⟨fun h=> ⟨⟨i0,h⟩,fun h'=> absurd h' V2,fun _=> ⟨V4,i+1,rfl,⟨V0,V0⟩,V0⟩⟩,fun h=> ?_⟩
 subst d
 refine Z8 (ι:=Unit) (fun _=> Z9J cs at_ y1 p q 0 0 (ZV y1 at_ (p.words.length+q.words.length) p.words q.words (y1.words,cs)).2 []) (fun _=> True) (fun _=> 0) () rfl trivial ?_
 intro _ _
 refine ZxY _ _ _ _ _ _ _ _ _ _ _ ?_
 rintro z1 ab z2 ar z3 ay z4 al
 (simp only [iB,vcT,vcS])
 refine ⟨fun h=> by omega,fun _=> ?_⟩
 subst ab
 simp only [Ztz,Zmq,Jf]
 exact V1
theorem c45:Contract Tryz.prog cfg 45 ZdH:=by
 refine ZDm c74 ZwE ZwD c38 ZwC ?_
 intro cs at_ o p q _ hp
 simp only [Zpf] at hp
 have h0:=hp
 obtain ⟨⟨hc,ro,hw⟩,ko,⟨kp,pk,pw⟩,kq,qk,qw⟩:=hp
 refine ZJ1 _ _ _ _ _ _ ?_
 rintro y1 d y2 ab y3 aa y4 ah
 (simp only [iB,vcT,vcS])
 refine ⟨fun h=> by omega,fun _=> ⟨fun h=> by omega,fun _=> ⟨fun _=> ⟨?_,?_⟩,fun h=> by omega⟩⟩⟩
 .rw [d,ab,aa]
  exact h0
 .rw [d,ab,aa]
  simp only [Ztz,Zmq]
  exact V1
def Z2Y(e:Edit):Op:=if e.kind=0 then ⟨0,1,[],e⟩ else Z17 e
structure ToL (list:Int) (os:List Op) (u v:List Tree):Prop where
 r:∀ o∈os,Za list o (-2)=true
 g:∀ o∈os,YV o
 la:∀ z:Int,0<=z->z<=1048576->Z2s os z=min (z+u.length) 1048576
 lb:∀ z:Int,0<=z->z<=1048576->Z2r os z=min (z+v.length) 1048576
 m:Ze os+os.length<=5*(Z6 u+Z6 v)
 do_:∀ rest out:List Tree,∃ w,Zy false os (u++rest) out=some (out++w,rest)/\EqvL w v
theorem Zl2:∀ (a b:List Op) (z:Int),Z2s (a++b) z=Z2s b (Z2s a z)
 | [],_,_=> rfl
 | o ::r,b,z=> by rw [Qp,Z2s,Z2s,Zl2 r b]
theorem Zl1:∀ (a b:List Op) (z:Int),Z2r (a++b) z=Z2r b (Z2r a z)
 | [],_,_=> rfl
 | o ::r,b,z=> by rw [Qp,Z2r,Z2r,Zl1 r b]
theorem EqvL.app{a b c d:List Tree}(h:EqvL a b)(hx:EqvL c d):EqvL (a++c) (b++d):=Z10 h hx
theorem Zce:∀ a b:List Op,Ze (a++b)=Ze a+Ze b
 | [],b=> (QK _).symm
 | o ::r,b=> by rw [Qp,Ze,Ze,Zce r b,K6]
theorem Z88:∀ a b:List Tree,Z6 (a++b)=Z6 a+Z6 b
 | [],b=> (QK _).symm
 | o ::r,b=> by rw [Qp,Z6,Z6,Z88 r b,K6]
theorem Z50:∀ l:List Tree,l.length<=Z6 l
 | []=> Qg _
 | t ::r=> by have:=ZM t;have:=Z50 r;simp only [Z6,Qd];omega
theorem Z4Y(o:Op):Ze [o]=Z6 o.l+Zc o.e:=by cases o;rfl
theorem Zb6:Zc Edit.nil=3:=rfl
theorem ToL.nil(list:Int):ToL list [] [] []:=
 {r:=fun _ h=> (nomatch h),g:=fun _ h=> (nomatch h),la:=fun z h1 h2=> by show z=min (z+(0:Nat)) 1048576;omega,lb:=fun z h1 h2=> by show z=min (z+(0:Nat)) 1048576;omega
  m:=X6 _,do_:=fun d out=> ⟨[],by rw [Zy,Qh];rfl,rfl⟩ }
theorem ToL.app{list:Int}{os ps:List Op}{u v u' v':List Tree}(h:ToL list os u v)(k:ToL list ps u' v'):ToL list (os++ps) (u++u') (v++v'):=by
 refine ⟨fun o ho=> (Qj.1 ho).elim (h.r o) (k.r o),fun o ho=> (Qj.1 ho).elim (h.g o) (k.g o),fun z h1 h2=> ?_,fun z h1 h2=> ?_,?_,fun d out=> ?_⟩
 .have e1:=h.la z h1 h2
  rw [Zl2,e1,k.la _ V0 V0,Q8]
  omega
 .have e1:=h.lb z h1 h2
  rw [Zl1,e1,k.lb _ V0 V0,Q8]
  omega
 .have:=h.m
  have:=k.m
  rw [Zce,Z88,Z88,Q8]
  omega
 .obtain ⟨w,h1,h2⟩:=h.do_ (u'++d) out
  obtain ⟨x,k1,k2⟩:=k.do_ d (out++w)
  refine ⟨w++x,?_,h2.app k2⟩
  rw [Z32,Qb,h1,Qo]
  dsimp only
  rw [k1,Qb]
structure KidQ (list:Int) (t:Tree):Prop where
 b:Z1m list t=true
 r:Zh t (-1)=true
 g:rng t
theorem ZbG{list:Int}(hl:2<=list/\list<=9){l:List Tree}(h:∀ t∈l,KidQ list t):YB (-1) list l=true:=
 Z2x fun t d=> ZaJ hl (h t d).b (h t d).r
theorem ZEp{n:Int}(h0:0<=n)(h:n<=1048576):InR n:=V4
theorem ZoI:Yi Edit.nil:=⟨ZZ V2 V2,Zed,Zed,by simp,ZZ V2 V2,trivial,trivial⟩
theorem Z7J{list:Int}(hl:2<=list/\list<=9){l:List Tree}(h:∀ t∈l,KidQ list t):ToL list (ZT 1 l) l []:=by
 unfold ZT
 split
 .rename_i e
  rw [Q1 e]
  exact ToL.nil list
 .rename_i e
  have e':l≠[]:=fun x=> e (by rw [x];rfl)
  refine ⟨fun o d=> ?_,fun o d=> ?_,fun z h1 h2=> ?_,fun z h1 h2=> ?_,?_,fun aa out=> ⟨[],?_,rfl⟩⟩
  .rw [Q7] at d
   subst d
   exact Z42 (.inl rfl) (by rw [Z8h V2];exact ZbG hl h) e'
  .rw [Q7] at d
   subst d
   exact ⟨ZZ V2 V2,ZZ V2 V2,Zec fun t ht=> (h t ht).g,ZoI⟩
  .simp [Z2s,Z5]
  .simp [Z2r]
  .have:=Z50 l
   have:=XA.2 e'
   rw [Z4Y]
   dsimp only
   rw [Zb6]
   simp only [QG,Z6]
   omega
  .have hg:JP l (l++aa)=true:=(Z15 l _).2 ⟨by simp,by simp⟩
   rw [Z29,Ym]
   dsimp only
   rw [if_neg V2,if_pos rfl,if_pos hg]
   simp
theorem Z7K{list:Int}(hl:2<=list/\list<=9){l:List Tree}(h:∀ t∈l,KidQ list t):ToL list (ZT 2 l) [] l:=by
 unfold ZT
 split
 .rename_i e
  rw [Q1 e]
  exact ToL.nil list
 .rename_i e
  have e':l≠[]:=fun x=> e (by rw [x];rfl)
  refine ⟨fun o d=> ?_,fun o d=> ?_,fun z h1 h2=> ?_,fun z h1 h2=> ?_,?_,fun ab out=> ⟨l,?_,rfl⟩⟩
  .rw [Q7] at d
   subst d
   exact Z42 (.inr rfl) (by rw [Z8h V2];exact ZbG hl h) e'
  .rw [Q7] at d
   subst d
   exact ⟨ZZ V2 V2,ZZ V2 V2,Zec fun t ht=> (h t ht).g,ZoI⟩
  .simp [Z2s]
  .simp [Z2r,Z5]
  .have:=Z50 l
   have:=XA.2 e'
   rw [Z4Y]
   dsimp only
   rw [Zb6]
   simp only [QG,Z6]
   omega
  .rw [Z29,Ym]
   dsimp only
   rw [if_neg V2,if_neg V2,if_pos rfl]
   try rfl
theorem Zqf(list:Int){u v:List Tree}{n:Int}(h1:1<=n)(h2:n<=1048576)(hu:(u.length:Int)=n)(h:EqvL u v):ToL list [⟨0,n,[],Edit.nil⟩] u v:=by
 have hv:=h.len
 refine ⟨fun o d=> ?_,fun o d=> ?_,fun z h1 h2=> ?_,fun z h1 h2=> ?_,?_,fun ae out=> ⟨u,?_,h⟩⟩
 .rw [Q7] at d
  subst d
  exact Zpt h1 h2 _
 .rw [Q7] at d
  subst d
  exact ⟨ZZ V2 V2,ZEp V0 h2,trivial,ZoI⟩
 .simp [Z2s,Z5];omega
 .simp [Z2r,Z5];omega
 .have:=Z50 u
  rw [Z4Y]
  dsimp only
  rw [Zb6]
  simp only [QG,Z6]
  omega
 .rw [Z29,Ym]
  dsimp only
  have e:n.toNat=u.length:=V0
  rw [if_pos rfl,e,if_pos (by simp)]
  simp
theorem ZAg{list:Int}(hl:7 < list){e:Edit}{x y:Tree}(h:To e x y)(hw:e.kind≠0->Wl list e):ToL list [Z2Y e] [x] [y]:=by
 obtain ⟨u,hd,hq⟩:=h.do_
 by_cases hk:e.kind=0
 .have e1:Z2Y e=⟨0,1,[],Edit.nil⟩:=by unfold Z2Y;rw [if_pos hk,h.s hk]
  rw [JK,ZR,if_pos hk] at hd
  rw [e1]
  refine Zqf list V2 V2 rfl ?_
  rw [Option.some.inj hd]
  exact YX.2 hq
 .have e1:Z2Y e=⟨3,0,[],e⟩:=by unfold Z2Y;rw [if_neg hk];try rfl
  rw [e1]
  refine ⟨fun o d=> ?_,fun o d=> ?_,fun z h1 h2=> ?_,fun z h1 h2=> ?_,?_,fun aa out=> ⟨[u],?_,YX.2 hq⟩⟩
  .rw [Q7] at d
   subst d
   exact Ziq (Jq _ _ _ V2 h.r) hk hl (hw hk)
  .rw [Q7] at d
   subst d
   exact ⟨ZZ V2 V2,ZZ V2 V2,trivial,h.g⟩
  .simp [Z2s,Z5]
  .simp [Z2r,Z5]
  .have h1:=h.m hk
   have:=Zjt x
   have:=Zjt y
   rw [Z4Y]
   simp only [QG,Z6]
   omega
  .rw [Z29,Ym]
   dsimp only
   rw [if_neg V2,if_neg V2,if_neg V2,if_neg (by simp)]
   have e2:([x]++aa).getD 0 Tree.nil=x:=rfl
   rw [e2,hd]
   try rfl
theorem Zqp{l:List Tree}{i j:Int}:∀ t∈ZfN l i j,t∈l:=fun t d=> QR (Qm d)
theorem Zlr{l:List Tree}{i p:Int}(h0:0<=i)(h1:i<=p)(h2:p < l.length):l.drop i.toNat=ZfN l i p++([l.getD p.toNat Tree.nil]++l.drop (p+1).toNat):=by
 obtain ⟨a,rfl⟩:=QD h0
 obtain ⟨c,rfl⟩:=QD (show 0<=p by omega)
 have hc:c < l.length:=V0
 have e:l.drop c=[l.getD c Tree.nil]++l.drop (c+1):=by
  rw [QO hc,Q6,Q0 hc];try rfl
 show l.drop a=(l.take c).drop a++([l.getD c Tree.nil]++l.drop (c+1))
 rw [<-e,List.drop_take]
 have d:l.drop c=(l.drop a).drop (c - a):=by rw [List.drop_drop];congr 1;omega
 rw [d,Ql]
theorem ZgN{list:Int}(hl:2<=list/\list<=9){mk:Tree->Tree->Op}{old now:List Tree}(ho:∀ t∈old,KidQ list t)(hn:∀ t∈now,KidQ list t):
  ∀ (l:List Two) (i j:Int),0<=i->0<=j->Z7f l i j old.length now.length->(∀ p∈l,ToL list [mk (old.getD p.i.toNat Tree.nil) (now.getD p.j.toNat Tree.nil)] [old.getD p.i.toNat Tree.nil] [now.getD p.j.toNat Tree.nil])->
  ToL list (Jr mk old now l i j) (old.drop i.toNat) (now.drop j.toNat)
 | [],i,j,_,_,_,_=> by
  rw [Jr]
  have h:=(Z7J hl (l:=old.drop i.toNat) fun t d=> ho t (Qm d)).app (Z7K hl (l:=now.drop j.toNat) fun t d=> hn t (Qm d))
  rwa [Qh,Qn] at h
 | p ::r,i,j,hi,hj,⟨h1,h2,h3⟩,hp=> by
  rw [Jr,Zlr hi h1.1 h1.2,Zlr hj h2.1 h2.2]
  have h:=(Z7J hl (l:=ZfN old i p.i) fun t d=> ho t (Zqp t d)).app (Z7K hl (l:=ZfN now j p.j) fun t d=> hn t (Zqp t d))
  rw [Qh,Qn] at h
  exact h.app ((hp p Q5).app (ZgN hl ho hn r (p.i+1) (p.j+1) V0 V0 h3 fun q hq=> hp q (Q3 _ hq)))
def Cls(x y:List Int)(old now:List Tree):Prop:=x.length=old.length/\y.length=now.length/\∀ i j:Nat,i < x.length->j < y.length->x.getD i 0=y.getD j 0->Eqv (old.getD i Tree.nil) (now.getD j Tree.nil)
theorem Cls.drop{x y:List Int}{old now:List Tree}(h:Cls x y old now)(n m:Nat):Cls (x.drop n) (y.drop m) (old.drop n) (now.drop m):=by
 obtain ⟨h1,d,h3⟩:=h
 refine ⟨by simp [h1],by simp [d],fun i j hi hj e=> ?_⟩
 rw [Qx] at hi hj
 have:=h3 (n+i) (m+j) V0 V0
 simp only [Q6,Qw] at e this ⊢
 exact this e
theorem Zqm:∀ {a b:List Tree},a.length=b.length->(∀ i,i < a.length->Eqv (a.getD i Tree.nil) (b.getD i Tree.nil))->EqvL a b
 | [],[],_,_=> rfl
 | x ::r,y ::s,hl,h=> by
  have h1:=h 0 (by simp)
  have d:=Zqm (a:=r) (b:=s) (by simpa using hl) fun i hi=> h (i+1) (by simpa using hi)
  exact EqvL.app (a:=[x]) (b:=[y]) (YX.2 h1) d
theorem Cls.keep{x y:List Int}{old now:List Tree}(h:Cls x y old now){n:Nat}(hx:n<=x.length)(hy:n<=y.length)(e:x.take n=y.take n):EqvL (old.take n) (now.take n):=by
 obtain ⟨h1,h2,h3⟩:=h
 refine Zqm (by simp;omega) fun i d=> ?_
 rw [Qq] at d
 have e1:x.getD i 0=y.getD i 0:=by
  have:=congrArg (fun l=> l.getD i 0) e
  simp only [Q6,QS] at this ⊢
  rwa [Yz,Yz] at this
 have:=h3 i i V0 V0 e1
 simp only [Q6,QS] at this ⊢
 rwa [Yz,Yz]
theorem Zqh(t:Tree):∀ l:List Tree,Z37 t l= -1\/(0<=Z37 t l/\Z37 t l < l.length/\Eqv (l.getD (Z37 t l).toNat Tree.nil) t)
 | []=> .inl rfl
 | k ::r=> by
  rw [Z37]
  split
  .rename_i h
   exact .inr ⟨V2,by simp,ZX.1 h⟩
  .rcases Zqh t r with h | ⟨h1,h2,h3⟩
   .rw [if_pos h];exact .inl rfl
   .rw [Yo]
    refine .inr ⟨V0,by simp;omega,?_⟩
    rw [show (Z37 t r+1).toNat=(Z37 t r).toNat+1 by omega]
    exact h3
structure Num (known:List Tree) (x:List Int) (l:List Tree):Prop where
 n:x.length=l.length
 h:∀ i,i < l.length->(0<=x.getD i 0/\x.getD i 0 < known.length)/\Eqv (known.getD (x.getD i 0).toNat Tree.nil) (l.getD i Tree.nil)
theorem Num.more{known:List Tree}{x:List Int}{l:List Tree}(h:Num known x l)(m:List Tree):Num (known++m) x l:=by
 refine ⟨h.n,fun i hi=> ?_⟩
 obtain ⟨⟨d,h2⟩,h3⟩:=h.h i hi
 refine ⟨⟨d,by rw [Q8];omega⟩,?_⟩
 rw [Q6,QB V0,<-Q6]
 exact h3
theorem Num.snoc{known:List Tree}{x:List Int}{l:List Tree}(h:Num known x l){n:Int}{t:Tree}(h0:0<=n/\n < known.length)(hq:Eqv (known.getD n.toNat Tree.nil) t):Num known (x++[n]) (l++[t]):=by
 refine ⟨by simp [h.n],fun i hi=> ?_⟩
 rw [Q8,QG] at hi
 by_cases hl:i < l.length
 .have:=h.h i hl
  have e:=h.n
  simp only [Q6] at this ⊢
  rwa [QB V0,QB V0]
 .have e:=h.n
  have d:i=l.length:=V0
  subst d
  simp only [Q6] at hq ⊢
  rw [Qt V0,Qt V0,e]
  simp only [Nat.sub_self,Xk,Xc]
  exact ⟨h0,hq⟩
theorem Zz5{known:List Tree}{x:List Int}{l:List Tree}(h:Num known x l)(t:Tree):∃ m,(ofS (known,x) t).1=known++m/\Num (known++m) (ofS (known,x) t).2 (l++[t]):=by
 unfold ofS
 rcases Zqh t known with e | ⟨h1,h2,h3⟩
 .rw [if_pos e]
  refine ⟨[t],rfl,(h.more [t]).snoc ⟨V0,by simp;omega⟩ ?_⟩
  rw [show ((known.length:Int)).toNat=known.length by omega,Q6,Qt V0]
  simp only [Nat.sub_self,Xk,Xc]
  exact rfl
 .rw [if_neg V3]
  refine ⟨[],(Qh _).symm,?_⟩
  rw [Qh]
  exact h.snoc ⟨h1,h2⟩ h3
theorem Z9j:∀ (l k:List Tree) (known:List Tree) (x:List Int),Num known x k->∃ m,(l.foldl ofS (known,x)).1=known++m/\Num (known++m) (l.foldl ofS (known,x)).2 (k++l)
 | [],k,known,x,h=> ⟨[],(Qh _).symm,by rw [Qh,Qh];exact h⟩
 | t ::r,k,known,x,h=> by
  obtain ⟨m,h1,h2⟩:=Zz5 h t
  rw [X8]
  have e:ofS (known,x) t=(known++m,(ofS (known,x) t).2):=by rw [<-h1]
  obtain ⟨m',h3,d⟩:=Z9j r (k++[t]) (known++m) _ h2
  rw [e]
  refine ⟨m++m',?_,?_⟩
  .rw [h3,Qb]
  .rw [Qb k [t] r] at d
   rw [<-Qb];exact d
theorem Zpy(known l:List Tree):∃ m,(ofF known l).1=known++m/\Num (known++m) (ofF known l).2 l:=
 Z9j l [] known [] ⟨rfl,fun i d=> by cases d⟩
theorem ZEx(a b:List Tree):Cls (ofF [] a).2 (ofF (ofF [] a).1 b).2 a b:=by
 obtain ⟨m,h1,d⟩:=Zpy [] a
 obtain ⟨m',h3,h4⟩:=Zpy (ofF [] a).1 b
 rw [<-h1] at d
 have d:=d.more m'
 refine ⟨d.n,h4.n,fun i j hi hj e=> ?_⟩
 rw [d.n] at hi
 rw [h4.n] at hj
 have h5:=(d.h i hi).2
 have h6:=(h4.h j hj).2
 rw [<-e] at h6
 exact XI (Eq.symm h5) h6
theorem Zz0{list:Int}(hl:2<=list/\list<=9){gap:List Tree->List Tree->List Op}:∀ (n:Nat) (l:List SStep) (x y:List Int) (old now:List Tree),l.length=n->x.length<=1048576->Jw l x y->Cls x y old now->(∀ t∈old,KidQ list t)->(∀ t∈now,KidQ list t)->
  (∀ u v:List Tree,(∀ t∈u,t∈old)->(∀ t∈v,t∈now)->ToL list (gap u v) u v)->ToL list (YM gap l old now) old now:=by
 intro n
 induction n using Nat.strongRecOn with
 | ind n ih=>
  intro l x y old now hn hx hL hC ho hw hg
  have dr:∀ (l:List Tree) (k:Nat),(∀ t∈l,KidQ list t)->∀ t∈l.drop k,KidQ list t:=fun l k h t ht=> h t (Qm ht)
  have tk:∀ (l:List Tree) (k:Nat),(∀ t∈l,KidQ list t)->∀ t∈l.take k,KidQ list t:=fun l k h t ht=> h t (QR ht)
  have aj:∀ (i j:Nat) (u v:List Tree),(∀ t∈u,t∈old.drop i)->(∀ t∈v,t∈now.drop j)->ToL list (gap u v) u v:=fun i j u v h1 h2=> hg u v (fun t ht=> Qm (h1 t ht)) (fun t ht=> Qm (h2 t ht))
  have aq:∀ (l:List Tree) (k:Nat),l=l.take k++l.drop k:=fun l k=> (Ql k l).symm
  match l,hn with
  | [],_=>
   obtain ⟨h1,h2⟩:=hL
   obtain ⟨c1,c2,_⟩:=hC
   rw [h1] at c1
   rw [h2] at c2
   rw [Q1 c1.symm,Q1 c2.symm]
   exact ToL.nil list
  | s ::r,hn=>
   obtain ⟨h1,h2⟩:=hL
   have c:=hC
   obtain ⟨c1,c2,_⟩:=c
   simp only [Qd] at hn
   rcases h2 with ⟨k,a,b,e,d⟩ | ⟨k,a,d⟩ | ⟨k,b,d⟩
   .have e1:YM gap (s ::r) old now=[⟨0,s.n,[],Edit.nil⟩]++YM gap r (old.drop s.n.toNat) (now.drop s.n.toNat):=by
     cases r with
     | nil=> rw [Z0J,if_pos k,YM];try rfl
     | cons t r=> rw [JY,if_pos k];try rfl
    rw [e1]
    have h:=(Zqf list h1 V0 (by simp;omega) (hC.keep (n:=s.n.toNat) V0 V0 e)).app
     (ih r.length V0 r _ _ _ _ rfl (by simp;omega) d (hC.drop s.n.toNat s.n.toNat) (dr _ _ ho) (dr _ _ hw) (aj _ _))
    rwa [Ql,Ql] at h
   .have sg:=Z7J hl (tk _ s.n.toNat ho)
    by_cases ht:∃ t r',r=t ::r'/\t.kind=2
    .obtain ⟨t,r',rfl,kt⟩:=ht
     rw [JY,Yo,Yo,if_pos kt]
     obtain ⟨g1,g2⟩:=d
     rcases g2 with ⟨k',_⟩ | ⟨k',_⟩ | ⟨_,b',d'⟩
     .omega
     .omega
     simp only [Qd] at hn
     have h:=(hg (old.take s.n.toNat) (now.take t.n.toNat) (fun q hq=> QR hq) (fun q hq=> QR hq)).app
      (ih r'.length V0 r' _ _ _ _ rfl (by simp;omega) d' (hC.drop s.n.toNat t.n.toNat) (dr _ _ ho) (dr _ _ hw) (aj _ _))
     rwa [Ql,Ql] at h
    .have e1:YM gap (s ::r) old now=ZT 1 (old.take s.n.toNat)++YM gap r (old.drop s.n.toNat) now:=by
      cases r with
      | nil=> rw [Z0J,Yo,Yo,YM,Qh]
      | cons t r=> rw [JY,Yo,Yo,if_neg (fun h=> ht ⟨t,r,rfl,h⟩)]
     rw [e1]
     have h:=sg.app (ih r.length V0 r _ _ _ _ rfl (by simp;omega) d (hC.drop s.n.toNat 0) (dr _ _ ho) hw fun u v h1 h2=> hg u v (fun t ht=> Qm (h1 t ht)) h2)
     rwa [Ql,Qn] at h
   .have e1:YM gap (s ::r) old now=ZT 2 (now.take s.n.toNat)++YM gap r old (now.drop s.n.toNat):=by
     cases r with
     | nil=> rw [Z0J,Yo,if_pos k,YM]
     | cons t r=> rw [JY,Yo,if_pos k]
    rw [e1]
    have h:=(Z7K hl (tk _ s.n.toNat hw)).app (ih r.length V0 r _ _ _ _ rfl hx d (hC.drop 0 s.n.toNat) ho (dr _ _ hw) fun u v h1 h2=> hg u v h1 (fun t ht=> Qm (h2 t ht)))
    rwa [Ql,Qn] at h
theorem ZAh {list:Int} (hl:2<=list/\list<=9) {mk:Tree->Tree->Op} {old now:List Tree} (ho:∀ t∈old,KidQ list t) (hn:∀ t∈now,KidQ list t)
  (h:∀ x∈old,∀ y∈now,0 < JQ x y->ToL list [mk x y] [x] [y]):ToL list (Z3O mk old now) old now:=by
 have hp:=ZcZ old now
 have:=ZgN hl (mk:=mk) ho hn _ 0 0 V2 V2 hp.2 fun p hq=> by
  have d:=hp.1 p hq
  exact h _ (Zi (by have:=d.1;omega) _) _ (Zi (by have:=d.2.1;omega) _) d.2.2
 exact this
theorem Zgj:∀ {os:List Op},(∀ o∈os,YV o)->Z0k os
 | [],_=> trivial
 | o ::r,h=> ⟨h o Q5,Zgj fun k d=> h k (Q3 _ d)⟩
theorem Zd3{t:Tree}(h:Zh t (-1)=true)(g:rng t)(hk:2<=t.kind/\t.kind<=9):∀ x∈t.kids,KidQ t.kind x:=fun x d=>
 have h1:=(Jg h V0 V0).2.2 x d
 ⟨h1.1,h1.2,ZaI (Zgg g) x d⟩
theorem Zvq {mk:Tree->Tree->Op} {most:Int} {a b:Tree} (hk:a.kind=b.kind) (hl:2<=a.kind/\a.kind<=9) (ra:Zh a (-1)=true) (rb:Zh b (-1)=true) (ga:rng a) (gb:rng b)
  (H:∀ x∈a.kids,∀ y∈b.kids,0 < JQ x y->ToL a.kind [mk x y] [x] [y]):To (Z2k mk most a b) a b:=by
 have pa:=(Jg ra V0 V0).2.1 V0
 have pb:=(Jg rb V0 V0).2.1 V0
 have qa:=Zd3 ra ga hl
 have qb:=Zd3 rb gb V0
 rw [<-hk] at qb
 have hs:=Z8W a b most V0 V0
 have hc:=ZEx a.kids b.kids
 have d:ToL a.kind (YM (Z3O mk) (Z1g a b most) a.kids b.kids) a.kids b.kids:=
  Zz0 hl _ _ _ _ _ _ rfl (by rw [hc.1];omega) hs hc qa qb fun u v hu hv=> ZAh hl (fun t d=> qa t (hu t d)) (fun t d=> qb t (hv t d)) fun x hx y hy=> H x (hu x hx) y (hv y hy)
 refine ⟨Zgq hl (Z7P d.r) ?_ ?_,?_,?_,fun h=> absurd (show (3:Int)=0 from h) V2,fun _=> ?_⟩
 .rw [d.la 0 V2 V2];omega
 .rw [d.lb 0 V2 V2];omega
 .exact ⟨ZZ V2 V2,Zed,Zed,by simp,ZZ V0 V0,trivial,Zgj d.g⟩
 .obtain ⟨w,h1,h2⟩:=d.do_ [] []
  rw [Qh,Qn] at h1
  refine ⟨.mk a.kind [] w,?_,?_⟩
  .rw [JK,ZR]
   simp only [Z2k]
   change (if (3:Int)=0 then _ else if (3:Int)=1 then _ else if (3:Int)=2 then _ else if (3:Int)=3 then (if a.kind=a.kind then (Z28 (Zy false (YM (Z3O mk) (Z1g a b most) a.kids b.kids) a.kids [])).map fun y=> Tree.mk a.kind [] y else none) else _)=_
   rw [if_neg V2,if_neg V2,if_neg V2,if_pos rfl,if_pos rfl,h1]
   try rfl
  .exact (Zff (by show a.kind≠0;omega) (by show a.kind≠1;omega)).2 ⟨hk,pb.2.1.symm,h2⟩
 .have h1:=d.m
  rw [Zop V0,Zop V0]
  simp only [Z2k,Zc]
  have h5:mass a=1+a.words.length+Z6 a.kids:=by cases a;rfl
  have h6:mass b=1+b.words.length+Z6 b.kids:=by cases b;rfl
  have h7:mass Tree.nil=1:=rfl
  simp only [Zo,Qr]
  omega
theorem Zmw{a b:Tree}(h:¬(a.kind=0/\b.kind=0))(ra:Zh a (-1)=true)(rb:Zh b (-1)=true)(ga:rng a)(gb:rng b)(ka:a.kind≠10)(kb:b.kind≠10):To (.mk 1 a b [] [] 0 []) a b:=by
 refine ⟨ZaK ra rb ka kb,⟨ZZ V2 V2,ga,gb,by simp,ZZ V2 V2,trivial,trivial⟩,⟨b,?_,rfl⟩,fun h=> absurd (show (1:Int)=0 from h) V2,fun _=> ?_⟩
 .rw [JK,ZR]
  change (if (1:Int)=0 then _ else if (1:Int)=1 then (if ZU (Z0 a) (Z0 a)=true then some b else none) else _)=_
  rw [if_neg V2,if_pos rfl,if_pos (by simp [ZU])]
 .have z:∀ t:Tree,Zh t (-1)=true->t.kind=0->mass t=1:=by
   intro t rt d
   obtain ⟨k,w,ks⟩:=t
   have d:k=0:=d
   rw [Zh,if_pos d,decide_eq_true_eq] at rt
   rw [Q1 rt.1,Q1 rt.2]
   try rfl
  have h1:=ZM a
  have h2:=ZM b
  have za:=z a ra
  have zb:=z b rb
  simp only [Zc,Zo,Ze,Qr]
  unfold wt
  split <;> split <;> omega
theorem ZCK{a b:Tree}(h:ZU (Z0 a) (Z0 b)=true):To Edit.nil a b:=
 ⟨rfl,ZoI,⟨a,by rw [JK,ZR,if_pos (show Edit.nil.kind=0 from rfl)],ZX.1 h⟩,fun _=> rfl,fun h=> absurd rfl h⟩
theorem Zco{t:Tree}(h:Zh t (-1)=true)(g:rng t)(hk:t.kind=1)(j:Int):Zh (Zr t j) (-1)=true/\rng (Zr t j)/\(Zr t j).kind≠10:=by
 have hp:=(Jg h V0 V0).2.2
 have z:Zh Tree.nil (-1)=true/\rng Tree.nil/\Tree.nil.kind≠10:=⟨rfl,Zed,V2⟩
 unfold Zr
 split
 .exact z
 .by_cases hj:j.toNat < t.kids.length
  .have hm:=Zi (l:=t.kids) hj Tree.nil
   have h1:=hp _ hm
   refine ⟨h1.2,ZaI (Zgg g) _ hm,fun e=> ?_⟩
   have d:=h1.1
   rw [hk] at d
   unfold Z1m at d
   rw [if_neg V2,if_neg V2,decide_eq_true_eq] at d
   exact d e
  .rw [Q6,Qu V0];exact z
theorem Zmd{x y:Tree}(h:0 < JQ x y):x.kind=y.kind/\x.kind≠0/\x.kind≠10:=by
 unfold JQ at h
 split at h
 .omega
 .rename_i d;omega
theorem Zz4(most:Int):∀ (n:Nat) (a b:Tree),mass a+mass b<=n->Zh a (-1)=true->Zh b (-1)=true->rng a->rng b->a.kind≠10->b.kind≠10->
  To (ZeC Z2Y most a b) a b/\(a.kind=1->b.kind=1->(ZeC Z2Y most a b).kind=0\/(ZeC Z2Y most a b).kind=2):=by
 intro n
 induction n with
 | zero=> intro a b h;have:=ZM a;omega
 | succ n ih=>
  intro a b hm ra rb ga gb ka kb
  rw [Zpv]
  split
  .rename_i h;exact ⟨ZCK h,fun _ _=> .inl rfl⟩
  .rename_i hs
   split
   .rename_i h
    refine ⟨Zm6 h.1 h.2 ra rb ga gb fun j h0 hj=> ?_,fun _ _=> .inr rfl⟩
    have h1:=Z6V h0 hj
    have h2:=Zco ra ga h.1 j
    have h3:=Zco rb gb h.2 j
    exact (ih _ _ V0 h2.1 h3.1 h2.2.1 h3.2.1 h2.2.2 h3.2.2).1
   .rename_i h1
    split
    .rename_i h
     refine ⟨Zvq h.1 h.2 ra rb ga gb fun x hx y hy h4=> ?_,fun e _=> by omega⟩
     have h2:=Zbi hx
     have h3:=Zbi hy
     have qx:=Zd3 ra ga h.2 x hx
     have qy:=Zd3 rb gb V0 y hy
     obtain ⟨e1,e2,e3⟩:=Zmd h4
     have e4:7 < a.kind:=by
      have d:=qx.b
      unfold Z1m at d
      split at d
      .rename_i h6
       simp only [Q2,decide_eq_true_eq] at d
       omega
      .omega
     have hh:=ih x y V0 qx.r qy.r qx.g qy.g e3 V0
     refine ZAg e4 hh.1 fun hk=> ?_
     by_cases h8:a.kind=8
     .exact .inl h8
     .have d:=qx.b
      have h9:a.kind=9:=V0
      rw [h9] at d
      simp only [Z1m] at d
      have ak:x.kind=1:=by simpa using d
      rcases hh.2 ak V0 with h | h
      .exact absurd h hk
      .exact .inr (.inl h)
    .refine ⟨Zmw (fun h=> hs ?_) ra rb ga gb ka kb,fun e1 e2=> absurd ⟨e1,e2⟩ h1⟩
     have z:∀ t:Tree,t.kind=0->Z0 t=Tree.nil:=by
      intro t ht
      obtain ⟨k,w,ks⟩:=t
      have ht:k=0:=ht
      rw [Z0,if_pos ht]
     rw [z a h.1,z b h.2]
     simp [ZU]
mutual
def Z1n:Edit->Edit
 | .mk k o n w ks l os=> .mk k o n w (Z3w ks) l (Z3v os)
def Z3w:List (KidOf Edit)->List (KidOf Edit)
 | []=> []
 | k ::r=> Z3Q k ::Z3w r
def Z3Q:KidOf Edit->KidOf Edit
 | ⟨a,e⟩=> ⟨a,Z1n e⟩
def Z3v:List (OpOf Edit)->List (OpOf Edit)
 | []=> []
 | o ::r=> Z0b o ::Z3v r
def Z0b:OpOf Edit->OpOf Edit
 | ⟨k,n,l,e⟩=> if k=3/\e.kind=0 then ⟨0,1,l,Z1n e⟩ else ⟨k,n,l,Z1n e⟩
end
theorem Z3x(e:Edit):Z1n e= .mk e.kind e.old e.new e.words (Z3w e.kids) e.list (Z3v e.ops):=by cases e;rw [Z1n];try rfl
theorem Z77(e:Edit):(Z1n e).kind=e.kind:=by rw [Z3x];try rfl
theorem Zh6(k:Kid):Z3Q k=⟨k.at_,Z1n k.e⟩:=by cases k;rw [Z3Q]
theorem Z6n(o:Op):Z0b o=if o.kind=3/\o.e.kind=0 then ⟨0,1,o.l,Z1n o.e⟩ else ⟨o.kind,o.n,o.l,Z1n o.e⟩:=by cases o;rw [Z0b]
theorem Z1O:∀ l:List Kid,Z3w l=l.map Z3Q
 | []=> by rw [Z3w];try rfl
 | k ::r=> by rw [Z3w,Z1O r];try rfl
theorem Z2F:∀ l:List Op,Z3v l=l.map Z0b
 | []=> by rw [Z3v];try rfl
 | k ::r=> by rw [Z3v,Z2F r];try rfl
theorem Zae:Z1n Edit.nil=Edit.nil:=by
 rw [Z3x,Z1O,Z2F];try rfl
theorem Zql(f:Tree->Tree->Edit)(a b:Tree):∀ (n:Nat) (i:Int),Z3w (Z0a f a b n i)=Z0a (fun x y=> Z1n (f x y)) a b n i
 | 0,_=> by rw [Z1O];try rfl
 | n+1,i=> by
  have h:=Zql f a b n (i+1)
  rw [Z1O] at h ⊢
  rw [Z0a,Z0a,X7,h,Z77]
  split
  .try rfl
  .rw [K3,Zh6]
theorem Zli(f:Tree->Tree->Edit)(a b:Tree):Z1n (Jy f a b)=Jy (fun x y=> Z1n (f x y)) a b:=by
 rw [Z3x]
 simp only [Jy]
 rw [<-Zql,Z2F]
 try rfl
theorem Z2E(k:Int)(hk:k≠3)(l:List Tree):(ZT k l).map Z0b=ZT k l:=by
 unfold ZT
 split
 .try rfl
 .rw [K3,Z6n,if_neg V3,Zae]
theorem Zh3(mk:Tree->Tree->Op)(old now:List Tree):∀ (l:List Two) (i j:Int),(Jr mk old now l i j).map Z0b=Jr (fun x y=> Z0b (mk x y)) old now l i j
 | [],i,j=> by rw [Jr,Jr,X7,Z2E 1 V2,Z2E 2 V2]
 | p ::r,i,j=> by rw [Jr,Jr,X7,X7,X3,Z2E 1 V2,Z2E 2 V2,Zh3 mk old now r]
theorem ZAj{f g:List Tree->List Tree->List Op}(h:∀ u v,(f u v).map Z0b=g u v):∀ (n:Nat) (l:List SStep) (old now:List Tree),l.length=n->(YM f l old now).map Z0b=YM g l old now:=by
 intro n
 induction n using Nat.strongRecOn with
 | ind n ih=>
  intro l old now d
  have kp:∀ n:Int,Z0b ⟨0,n,[],Edit.nil⟩=⟨0,n,[],Edit.nil⟩:=fun n=> by rw [Z6n,if_neg V3,Zae]
  have s1:=fun l=> Z2E 1 V2 l
  have s2:=fun l=> Z2E 2 V2 l
  match l,d with
  | [],_=> rw [YM,YM];try rfl
  | [s],_=>
   rw [Z0J,Z0J]
   split
   .rw [K3,kp]
   .split
    .rw [X7,s2];try rfl
    .exact s1 _
  | s ::t ::r,d=>
   simp only [Qd] at d
   rw [JY,JY]
   split
   .rw [X3,kp,ih (t ::r).length (by simp;omega) (t ::r) _ _ rfl]
   .split
    .rw [X7,s2,ih (t ::r).length (by simp;omega) (t ::r) _ _ rfl]
    .split
     .rw [X7,h,ih _ V0 r _ _ rfl]
     .rw [X7,s1,ih (t ::r).length (by simp;omega) (t ::r) _ _ rfl]
theorem Zs1(mk:Tree->Tree->Op)(most:Int)(a b:Tree):Z1n (Z2k mk most a b)=Z2k (fun x y=> Z0b (mk x y)) most a b:=by
 rw [Z3x]
 simp only [Z2k]
 rw [Z1O,Z2F]
 change Edit.mk 3 Tree.nil Tree.nil [] [] a.kind (List.map Z0b (YM (Z3O mk) (Z1g a b most) a.kids b.kids))=_
 rw [ZAj (f:=Z3O mk) (g:=Z3O fun x y=> Z0b (mk x y)) (fun u v=> Zh3 mk u v _ 0 0) _ _ _ _ rfl]
theorem Zwk(e:Edit):Z0b (Z17 e)=Z2Y (Z1n e):=by
 unfold Z2Y
 rw [Z6n,Z77]
 simp only [Z17]
 by_cases h:e.kind=0
 .rw [if_pos ⟨by trivial,h⟩,if_pos h]
 .rw [if_neg (fun x=> h x.2),if_neg h]
theorem Zfc(most:Int):∀ (n:Nat) (a b:Tree),Z1n (Z4v Z17 most n a b)=Z4v Z2Y most n a b
 | 0,_,_=> Zae
 | n+1,a,b=> by
  rw [Z4v,Z4v]
  split
  .exact Zae
  .split
   .rw [Zli]
    congr 1
    funext x y
    exact Zfc most n x y
   .split
    .rw [Zs1]
     congr 1
     funext x y
     rw [Zwk,Zfc most n]
    .rw [Z3x,Z1O,Z2F];try rfl
theorem ZiP(most:Int)(a b:Tree):Z1n (Z18 most a b)=ZeC Z2Y most a b:=Zfc most _ a b
mutual
theorem Zfb:∀ e:Edit,Zc (Z1n e)=Zc e
 | .mk k o n w ks l os=> by
  have h1:=Zfe ks
  have d:=Zfd os
  rw [Z1n,Zc,Zc,h1,d.1,d.2]
theorem Zfe:∀ ks:List (KidOf Edit),Zo (Z3w ks)=Zo ks
 | []=> by rw [Z3w]
 | k ::r=> by rw [Z3w,Zo,Zo,Zlj k,Zfe r]
theorem Zlj:∀ k:KidOf Edit,Ye (Z3Q k)=Ye k
 | ⟨a,e⟩=> by rw [Z3Q,Ye,Ye,Zfb e]
theorem Zfd:∀ os:List (OpOf Edit),Ze (Z3v os)=Ze os/\(Z3v os).length=os.length
 | []=> by rw [Z3v];exact ⟨rfl,rfl⟩
 | o ::r=> by
  have h:=Zfd r
  rw [Z3v,Ze,Ze,ZnS o,h.1,Qd,Qd,h.2]
  exact ⟨rfl,rfl⟩
theorem ZnS:∀ o:OpOf Edit,Zs (Z0b o)=Zs o
 | ⟨k,n,l,e⟩=> by
  have h:=Zfb e
  rw [Z0b]
  split <;> rw [Zs,Zs,h]
end
mutual
theorem ZiQ:∀ e:Edit,Zv (Z1n e)=Zv e
 | .mk k o n w ks l os=> by
  have h1:=Zh5 ks
  have d:=Zh4 l os
  rw [Z1n,Zv,Zv,h1,d]
theorem Zh5:∀ ks:List (KidOf Edit),Jv (Z3w ks)=Jv ks
 | []=> by rw [Z3w]
 | k ::r=> by rw [Z3w,Jv,Jv,ZnV k,Zh5 r]
theorem ZnV:∀ k:KidOf Edit,Z0D (Z3Q k)=Z0D k
 | ⟨a,e⟩=> by rw [Z3Q,Z0D,Z0D,ZiQ e]
theorem Zh4(list:Int):∀ (os:List (OpOf Edit)) (s:Wst),ZD list (Z3v os) s=ZD list os s
 | [],s=> by rw [Z3v]
 | o ::r,s=> by rw [Z3v,ZD,ZD,Zs2 list o,Zh4 list r]
theorem Zs2(list:Int):∀ (o:OpOf Edit) (s:Wst),JN list (Z0b o) s=JN list o s
 | ⟨k,n,l,e⟩,s=> by
  have h:=ZiQ e
  rw [Z0b]
  split
  .rename_i d
   have hi:Z4f list (Zv e)=true:=by
    have:(Zv e).kind=0:=by
     rw [Z4W,Yo,Yo,Yo]
     exact d.2
    unfold Z4f
    rw [decide_eq_true_eq]
    exact .inl this
   rw [JN,JN,if_pos rfl,Yo,Yo,Yo,if_pos d.1,if_pos hi]
  .rw [JN,JN,h]
end
noncomputable section
noncomputable section
def Z0N(a:Edit × Unit):Prop:=Zc a.1<=20000000000/\∃ d,Z7 (Z1n a.1) d=true
def Z5H:Fs U:=fs Zjb (fun a=> [Z0N a]) ZbU
def Z4T(a:Int × List Op × Unit):Prop:=Ze a.2.1<=20000000000/\∀ o∈a.2.1,∃ d,Za a.1 (Z0b o) d=true
def ZjL:Fs U:=fs Zja (fun a=> [Z4T a]) Zkb
def Z0n(N:Nat):List (FuncId × Fs U):=(20,fs Zjb (fun a=> [Z0N a,Zix a < N]) ZbU) ::(37,fs Zja (fun a=> [Z4T a,Zn1 a < N]) Zkb) ::[(22,ZdZ),(60,Z1e),(58,Z4J),(61,Z2d),(59,Z1W)]
abbrev ZCe(N:Nat)(e:Edit)(Q:QT):=AW (Z1 (Z0n N)) Tryz.f20 Znc [] (L2 [(0,.agg (enc .edit e))] []) Q
abbrev ZAC(N:Nat):=awp cfg (Z1 (Z0n N)) (Ju cfg (Z1 (Z0n N))) Tryz.f20.ntmps Znc
abbrev ZyH(N:Nat):=ZCp cfg (Z1 (Z0n N)) (Ju cfg (Z1 (Z0n N))) Tryz.f20.ntmps Znc
theorem ZCj(N:Nat)(e:Edit)(Q:QT)(h:((e.kind==1)=true->(Zc1 ((Tree.mk e.old.kind e.old.words e.old.kids),()))/\(Zc1 ((Tree.mk e.new.kind e.new.words e.new.kids),()))/\(Q .ret (L2 [pL 2] [(.loc 2,([ci e.kind]++enc .tree (Z0 (Tree.mk e.old.kind e.old.words e.old.kids))++enc .tree (Z0 (Tree.mk e.new.kind e.new.words e.new.kids))++[.nils,.nils,ci e.list,.nils]))])))/\((e.kind==1)=false->((e.kind==2)=true->((([]:List WEdit).length+e.words.length)*32<=140737488355328)/\(Zk (AW (Z1 (Z0n N)) Tryz.f20 Znc [1,1,0,1,0,1,1,1,0,1,1,0,0]) (Za7 e 0 []) (xB 1 (xB 0 (SW (Z1 (Z0n N)) Tryz.f20 Znc [1,1,1] Q)))))/\((e.kind==2)=false->((e.kind==3)=true->(Z4T (e.list,e.ops,()))/\(Zn1 (e.list,e.ops,()) < N)/\(Q .ret (L2 [pL 2] [(.loc 2,[ci e.kind,ci 0,.nils,.nils,ci 0,.nils,.nils,.nils,.nils,ci e.list,sU .op ((Z9 (ZD e.list e.ops (Wst.mk [] [] []))).out) .unk])])))/\((e.kind==3)=false->Q .ret (L2 [pL 2] [(.loc 2,[ci e.kind,ci 0,.nils,.nils,ci 0,.nils,.nils,.nils,.nils,ci e.list,.nils])]))))):
  ZCe N e Q:=by
 have e_:(ZCe N e Q)=(((e.kind==1)=true->(Zc1 ((Tree.mk e.old.kind e.old.words e.old.kids),()))/\(Zc1 ((Tree.mk e.new.kind e.new.words e.new.kids),()))/\(Q .ret (L2 [pL 2] [(.loc 2,([ci e.kind]++enc .tree (Z0 (Tree.mk e.old.kind e.old.words e.old.kids))++enc .tree (Z0 (Tree.mk e.new.kind e.new.words e.new.kids))++[.nils,.nils,ci e.list,.nils]))])))/\((e.kind==1)=false->(((e.kind==2)=true->((([]:List WEdit).length+e.words.length)*32<=140737488355328)/\(Zk (ZAC N (cd Tryz.f20 [1,1,0,1,0,1,1,1,0,1,1,0,0])) (Za7 e 0 []) (xB 1 (xB 0 (ZyH N (cd Tryz.f20 [1,1,1]) Q)))))/\((e.kind==2)=false->(((e.kind==3)=true->(Z4T (e.list,e.ops,()))/\(Zn1 (e.list,e.ops,()) < N)/\(Q .ret (L2 [pL 2] [(.loc 2,[ci e.kind,ci 0,.nils,.nils,ci 0,.nils,.nils,.nils,.nils,ci e.list,sU .op ((Z9 (ZD e.list e.ops (Wst.mk [] [] []))).out) .unk])])))/\((e.kind==3)=false->(Q .ret (L2 [pL 2] [(.loc 2,[ci e.kind,ci 0,.nils,.nils,ci 0,.nils,.nils,.nils,.nils,ci e.list,.nils])])))))))):=V5
 exact e_.mpr ⟨fun d=> ⟨(h.1 d).1,(h.1 d).2.1,(h.1 d).2.2⟩,fun d=> ⟨fun aa=> ⟨((h.2 d).1 aa).1,((h.2 d).1 aa).2⟩,fun aa=> ⟨fun ab=> ⟨(((h.2 d).2 aa).1 ab).1,(((h.2 d).2 aa).1 ab).2.1,(((h.2 d).2 aa).1 ab).2.2⟩,fun ab=> (((h.2 d).2 aa).2 ab)⟩⟩⟩
abbrev ZlQ(N:Nat)(e:Edit)(aa:Int)(d:List Kid)(N0:NT)(Q:QT):=AW (Z1 (Z0n N)) Tryz.f20 Znc [1,1,0,1,0,1,1,1,0,1,1,0,0] (Za7 e aa d) (xT N0 (xB 1 (xB 0 (SW (Z1 (Z0n N)) Tryz.f20 Znc [1,1,1] Q))))
theorem ZqZ(N:Nat)(e:Edit)(aa:Int)(d:List Kid)(N0:NT)(Q:QT)(h:∀ ae,ae=(e.kids.getD aa.toNat (KidOf.mk 0 Edit.nil))->∀ ab,ab=(ae.e)->∀ ah,ah=(Zv ab)->((decide (aa < (e.kids.length:Int)))=true->((0:Int)<=aa/\aa < (e.kids.length:Int))/\((Z0N (ab,()))/\(Zix (ab,()) < N)/\((d.length+([(KidOf.mk ae.at_ ah)]).length)*208<=140737488355328)/\((InR (aa+1))/\(N0 (Za7 e (aa+1) (d++([(KidOf.mk ae.at_ ah)])))))))/\((decide (aa < (e.kids.length:Int)))=false->Q .ret (L2 [pL 2] [(.loc 2,[ci e.kind,ci 0,.nils,.nils,ci 0,.nils,.nils,sU .wedit (([]:List WEdit)++e.words) (.own (.l 2 7)),sU .kid d (.own (.l 2 8)),ci e.list,.nils])]))):
  ZlQ N e aa d N0 Q:=by
 have e_:(ZlQ N e aa d N0 Q)=(let ae:=(e.kids.getD aa.toNat (KidOf.mk 0 Edit.nil));let ab:=(Z5U ae.e);let ah:=(Z5U (Zv ab));(((decide ((aa:Int) < (e.kids.length:Int)))=true->((0:Int)<=aa/\aa < (e.kids.length:Int))/\((Z0N (ab,()))/\(Zix (ab,()) < N)/\((d.length+([(KidOf.mk ae.at_ ah)]).length)*208<=140737488355328)/\((InR ((aa:Int)+1))/\(N0 (Za7 e ((aa:Int)+1) (d++([(KidOf.mk ae.at_ ah)])))))))/\((decide ((aa:Int) < (e.kids.length:Int)))=false->(Q .ret (L2 [pL 2] [(.loc 2,[ci e.kind,ci 0,.nils,.nils,ci 0,.nils,.nils,sU .wedit (([]:List WEdit)++e.words) (.own (.l 2 7)),sU .kid d (.own (.l 2 8)),ci e.list,.nils])]))))):=V5
 exact e_.mpr (by intro ae ab ah;have hh:=h ae rfl ab (Zg _) ah (Zg _);exact ⟨fun af=> ⟨(hh.1 af).1,⟨(hh.1 af).2.1,(hh.1 af).2.2.1,(hh.1 af).2.2.2.1,⟨(hh.1 af).2.2.2.2.1,(hh.1 af).2.2.2.2.2⟩⟩⟩,fun af=> (hh.2 af)⟩)
abbrev ZxA(N:Nat)(e:Edit):Prop:=AW (Z1 (Z0n N)) Tryz.f20 Znc [] (Zf (Zjb.can (e,())) []) (EQ Tryz.f20 (ZbU (e,())) [])
abbrev Zxx:Prop:=∀ (N:Nat) (e:Edit) (_:Unit),Z0N (e,())->Zix (e,()) < N+1->ZxA N e
def Z0M(N:Nat):List (FuncId × Fs U):=Z0n N
abbrev ZCd(N:Nat)(list:Int)(l:List Op)(Q:QT):=AW (Z1 (Z0M N)) Tryz.f37 Znb [] (L2 [pI 0 list,(1,.c (sU .op l .unk))] []) Q
abbrev ZAB(N:Nat):=awp cfg (Z1 (Z0M N)) (Ju cfg (Z1 (Z0M N))) Tryz.f37.ntmps Znb
abbrev ZyG(N:Nat):=ZCp cfg (Z1 (Z0M N)) (Ju cfg (Z1 (Z0M N))) Tryz.f37.ntmps Znb
theorem ZCi(N:Nat)(list:Int)(l:List Op)(Q:QT)(h:Zk (AW (Z1 (Z0M N)) Tryz.f37 Znb [1,1,0,1,0,0]) (Z0p list l 0 [] [] []) (xB 0 (SW (Z1 (Z0M N)) Tryz.f37 Znb [1,1,1] Q))):
  ZCd N list l Q:=by
 have d:(ZCd N list l Q)=(Zk (ZAB N (cd Tryz.f37 [1,1,0,1,0,0])) (Z0p list l 0 [] [] []) (xB 0 (ZyG N (cd Tryz.f37 [1,1,1]) Q))):=V5
 exact d.mpr h
abbrev ZlP(N:Nat)(list:Int)(l:List Op)(ae:Int)(d:List Op)(ab aa:List Tree)(N0:NT)(Q:QT):=AW (Z1 (Z0M N)) Tryz.f37 Znb [1,1,0,1,0,0] (Z0p list l ae d ab aa) (xT N0 (xB 0 (SW (Z1 (Z0M N)) Tryz.f37 Znb [1,1,1] Q)))
theorem ZqY(N:Nat)(list:Int)(l:List Op)(af:Int)(d:List Op)(ab aa:List Tree)(N0:NT)(Q:QT)(h:∀ ae,ae=(l.getD af.toNat Op.nil)->∀ ar,ar=(Edit.mk 0 (Tree.mk 0 [] []) (Tree.mk 0 [] []) [] [] 0 [])->∀ av,av=(Int.toNat (((Z9 (Wst.mk d ab aa)).out).length:Int))->∀ au,au=(ae.e)->∀ aq,aq=(Zv au)->((decide (af < (l.length:Int)))=true->((0:Int)<=af/\af < (l.length:Int))/\(((ae.kind==0)=true->(Z3Z ((d,ab,aa,()),ae.n,()))/\((InR (af+1))/\(N0 (Z0p list l (af+1) ((Zx (Wst.mk d ab aa) ae.n).out) ((Zx (Wst.mk d ab aa) ae.n).gone) ((Zx (Wst.mk d ab aa) ae.n).brought)))))/\((ae.kind==0)=false->((ae.kind==1)=true->(ZbX ((d,ab,aa,()),ae.l,()))/\((InR (af+1))/\(N0 (Z0p list l (af+1) ((Wst.mk d (ab++Z4 ae.l) aa).out) ((Wst.mk d (ab++Z4 ae.l) aa).gone) ((Wst.mk d (ab++Z4 ae.l) aa).brought)))))/\((ae.kind==1)=false->((ae.kind==2)=true->(ZbX ((d,ab,aa,()),ae.l,()))/\((InR (af+1))/\(N0 (Z0p list l (af+1) ((Wst.mk d ab (aa++Z4 ae.l)).out) ((Wst.mk d ab (aa++Z4 ae.l)).gone) ((Wst.mk d ab (aa++Z4 ae.l)).brought)))))/\((ae.kind==2)=false->((ae.kind==3)=true->(Z0N (au,()))/\(Zix (au,()) < N)/\((Z3o (list,aq,()))/\(((Z4f list aq)=true->(Z3Z ((d,ab,aa,()),1,()))/\((InR (af+1))/\(N0 (Z0p list l (af+1) ((Zx (Wst.mk d ab aa) 1).out) ((Zx (Wst.mk d ab aa) 1).gone) ((Zx (Wst.mk d ab aa) 1).brought)))))/\((Z4f list aq)=false->(Z3n ((d,ab,aa,()),()))/\(((((Z9 (Wst.mk d ab aa)).out).length+([(OpOf.mk 0 0 [] ar)]).length)*240<=140737488355328)/\((0:Int)<=(((Z9 (Wst.mk d ab aa)).out).length:Int)/\(((Z9 (Wst.mk d ab aa)).out).length:Int) < ((((Z9 (Wst.mk d ab aa)).out)++([(OpOf.mk 0 0 [] ar)])).length:Int))/\((0:Nat)<=av)/\((InR (af+1))/\(N0 (Z0p list l (af+1) (List.set (((Z9 (Wst.mk d ab aa)).out)++([(OpOf.mk 0 0 [] ar)])) av (OpOf.mk 3 0 [] aq)) ((Z9 (Wst.mk d ab aa)).gone) ((Z9 (Wst.mk d ab aa)).brought)))))))))/\((ae.kind==3)=false->(InR (af+1))/\(N0 (Z0p list l (af+1) d ab aa))))))))/\((decide (af < (l.length:Int)))=false->(Z3n ((d,ab,aa,()),()))/\(Q .ret (L2 [(4,.c (sU .op ((Z9 (Wst.mk d ab aa)).out) (.own (.e 4 0))))] [])))):
  ZlP N list l af d ab aa N0 Q:=by
 have e_:(ZlP N list l af d ab aa N0 Q)=(let ae:=(l.getD af.toNat Op.nil);let ar:=(Edit.mk 0 (Tree.mk 0 [] []) (Tree.mk 0 [] []) [] [] 0 []);let av:=(Int.toNat (((Z9 (Wst.mk d ab aa)).out).length:Int));let au:=(Z5U ae.e);let aq:=(Z5U (Zv au));(((decide ((af:Int) < (l.length:Int)))=true->((0:Int)<=af/\af < (l.length:Int))/\(((ae.kind==0)=true->(Z3Z ((d,ab,aa,()),ae.n,()))/\((InR ((af:Int)+1))/\(N0 (Z0p list l ((af:Int)+1) ((Zx (Wst.mk d ab aa) ae.n).out) ((Zx (Wst.mk d ab aa) ae.n).gone) ((Zx (Wst.mk d ab aa) ae.n).brought)))))/\((ae.kind==0)=false->(((ae.kind==1)=true->(ZbX ((d,ab,aa,()),ae.l,()))/\((InR ((af:Int)+1))/\(N0 (Z0p list l ((af:Int)+1) ((Wst.mk d (ab++Z4 ae.l) aa).out) ((Wst.mk d (ab++Z4 ae.l) aa).gone) ((Wst.mk d (ab++Z4 ae.l) aa).brought)))))/\((ae.kind==1)=false->(((ae.kind==2)=true->(ZbX ((d,ab,aa,()),ae.l,()))/\((InR ((af:Int)+1))/\(N0 (Z0p list l ((af:Int)+1) ((Wst.mk d ab (aa++Z4 ae.l)).out) ((Wst.mk d ab (aa++Z4 ae.l)).gone) ((Wst.mk d ab (aa++Z4 ae.l)).brought)))))/\((ae.kind==2)=false->(((ae.kind==3)=true->(Z0N (au,()))/\(Zix (au,()) < N)/\((Z3o (list,aq,()))/\(((Z4f list aq)=true->(Z3Z ((d,ab,aa,()),1,()))/\((InR ((af:Int)+1))/\(N0 (Z0p list l ((af:Int)+1) ((Zx (Wst.mk d ab aa) 1).out) ((Zx (Wst.mk d ab aa) 1).gone) ((Zx (Wst.mk d ab aa) 1).brought)))))/\((Z4f list aq)=false->(Z3n ((d,ab,aa,()),()))/\(((((Z9 (Wst.mk d ab aa)).out).length+([(OpOf.mk 0 0 [] ar)]).length)*240<=140737488355328)/\((0:Int)<=(((Z9 (Wst.mk d ab aa)).out).length:Int)/\(((Z9 (Wst.mk d ab aa)).out).length:Int) < ((((Z9 (Wst.mk d ab aa)).out)++([(OpOf.mk 0 0 [] ar)])).length:Int))/\((0:Nat)<=av)/\((InR ((af:Int)+1))/\(N0 (Z0p list l ((af:Int)+1) (List.set (((Z9 (Wst.mk d ab aa)).out)++([(OpOf.mk 0 0 [] ar)])) av (OpOf.mk 3 0 [] aq)) ((Z9 (Wst.mk d ab aa)).gone) ((Z9 (Wst.mk d ab aa)).brought)))))))))/\((ae.kind==3)=false->(InR ((af:Int)+1))/\(N0 (Z0p list l ((af:Int)+1) d ab aa)))))))))))/\((decide ((af:Int) < (l.length:Int)))=false->(Z3n ((d,ab,aa,()),()))/\(Q .ret (L2 [(4,.c (sU .op ((Z9 (Wst.mk d ab aa)).out) (.own (.e 4 0))))] []))))):=V5
 exact e_.mpr (by intro ae ar av au aq;have hh:=h ae rfl ar rfl av rfl au (Zg _) aq (Zg _);exact ⟨fun ah=> ⟨(hh.1 ah).1,⟨fun ai=> ⟨((hh.1 ah).2.1 ai).1,⟨((hh.1 ah).2.1 ai).2.1,((hh.1 ah).2.1 ai).2.2⟩⟩,fun ai=> ⟨fun aj=> ⟨(((hh.1 ah).2.2 ai).1 aj).1,⟨(((hh.1 ah).2.2 ai).1 aj).2.1,(((hh.1 ah).2.2 ai).1 aj).2.2⟩⟩,fun aj=> ⟨fun ak=> ⟨((((hh.1 ah).2.2 ai).2 aj).1 ak).1,⟨((((hh.1 ah).2.2 ai).2 aj).1 ak).2.1,((((hh.1 ah).2.2 ai).2 aj).1 ak).2.2⟩⟩,fun ak=> ⟨fun am=> ⟨(((((hh.1 ah).2.2 ai).2 aj).2 ak).1 am).1,(((((hh.1 ah).2.2 ai).2 aj).2 ak).1 am).2.1,⟨(((((hh.1 ah).2.2 ai).2 aj).2 ak).1 am).2.2.1,⟨fun al=> ⟨((((((hh.1 ah).2.2 ai).2 aj).2 ak).1 am).2.2.2.1 al).1,⟨((((((hh.1 ah).2.2 ai).2 aj).2 ak).1 am).2.2.2.1 al).2.1,((((((hh.1 ah).2.2 ai).2 aj).2 ak).1 am).2.2.2.1 al).2.2⟩⟩,fun al=> ⟨((((((hh.1 ah).2.2 ai).2 aj).2 ak).1 am).2.2.2.2 al).1,⟨((((((hh.1 ah).2.2 ai).2 aj).2 ak).1 am).2.2.2.2 al).2.1,((((((hh.1 ah).2.2 ai).2 aj).2 ak).1 am).2.2.2.2 al).2.2.1,((((((hh.1 ah).2.2 ai).2 aj).2 ak).1 am).2.2.2.2 al).2.2.2.1,⟨((((((hh.1 ah).2.2 ai).2 aj).2 ak).1 am).2.2.2.2 al).2.2.2.2.1,((((((hh.1 ah).2.2 ai).2 aj).2 ak).1 am).2.2.2.2 al).2.2.2.2.2⟩⟩⟩⟩⟩⟩,fun am=> ⟨(((((hh.1 ah).2.2 ai).2 aj).2 ak).2 am).1,(((((hh.1 ah).2.2 ai).2 aj).2 ak).2 am).2⟩⟩⟩⟩⟩⟩,fun ah=> ⟨(hh.2 ah).1,(hh.2 ah).2⟩⟩)
abbrev Zxz(N:Nat)(list:Int)(l:List Op):Prop:=AW (Z1 (Z0M N)) Tryz.f37 Znb [] (Zf (Zja.can (list,l,())) []) (EQ Tryz.f37 (Zkb (list,l,())) [])
abbrev Zxw:Prop:=∀ (N:Nat) (list:Int) (l:List Op) (_:Unit),Z4T (list,l,())->Zn1 (list,l,()) < N+1->Zxz N list l
theorem ZfJ(c22:CT 22 ZdZ)(Zho:CT 60 Z1e)(c58:CT 58 Z4J)(c61:CT 61 Z2d)(Zhn:CT 59 Z1W)(ha:Zxx)(hb:Zxw):CT 20 Z5H/\CT 37 ZjL:=
 Z3R (μA:=Zix) (μB:=Zn1) (l:=[(22,ZdZ),(60,Z1e),(58,Z4J),(61,Z2d),(59,Z1W)]) Zd rfl (⟨c22,Zho,c58,c61,Zhn,trivial⟩) Znc Znb Tryz.func20 Tryz.func37 rfl rfl rfl rfl 1 2 (fun _=> rfl) (fun _=> rfl) V2 V2 (fun N ⟨e,_⟩=> ha N e ()) (fun N ⟨list,l,_⟩=> hb N list l ())
end
end
theorem ZnT{list:Int}{o:Op}{d:Int}(h:Za list (Z0b o) d=true)(hk:o.kind=0):1<=o.n/\o.n<=1048576:=by
 rw [Z6n,Yo] at h
 exact Z91 (o:=⟨o.kind,o.n,o.l,Z1n o.e⟩) h hk
theorem ZnU{list:Int}{o:Op}{d:Int}(h:Za list (Z0b o) d=true)(hk:o.kind=3):∃ d,Z7 (Z1n o.e) d=true:=by
 rw [Z6n] at h
 by_cases h0:o.e.kind=0
 .rw [if_pos ⟨hk,h0⟩,Za,if_pos rfl,Q2] at h
  rw [Ze4 h.2]
  exact ⟨1,rfl⟩
 .rw [if_neg (fun x=> h0 x.2)] at h
  exact ⟨d,Z92 (o:=⟨o.kind,o.n,o.l,Z1n o.e⟩) h hk⟩
theorem ZiS{e:Edit}{d:Int}(h:Z7 (Z1n e) d=true)(hk:e.kind=2):∀ k∈e.kids,∃ d,Z7 (Z1n k.e) d=true:=by
 intro k hm
 have h1:=ZgY h (by rw [Z77];exact hk) (Z3Q k) (by
  rw [Z3x]
  show Z3Q k∈Z3w e.kids
  rw [Z1O]
  exact K0 hm)
 rw [Zh6] at h1
 exact h1
theorem ZiR{e:Edit}{d:Int}(h:Z7 (Z1n e) d=true)(hk:e.kind=3):∀ o∈e.ops,∃ d,Za e.list (Z0b o) d=true:=by
 intro o hm
 have h1:=ZkF h (by rw [Z77];exact hk) (Z0b o) (by
  rw [Z3x]
  show Z0b o∈Z3v e.ops
  rw [Z2F]
  exact K0 hm)
 rw [Z3x] at h1
 exact h1
theorem ZHF:Zxw:=by
 intro N list l _ hp hN
 simp only [Z4T,Zn1] at hp hN
 obtain ⟨p1,p3⟩:=hp
 have hl:=YO l
 refine ZCi _ _ _ _ ?_
 refine Z8 (ι:=Int × Wst) (fun s=> Z0p list l s.1 s.2.out s.2.gone s.2.brought)
  (fun s=> 0<=s.1/\s.1<=l.length/\ZD list (l.drop s.1.toNat) s.2=ZD list l ⟨[],[],[]⟩/\s.2.out.length<=3*s.1/\s.2.gone.length+s.2.brought.length+Ze (l.drop s.1.toNat)<=Ze l/\∀ o∈s.2.out,0<=o.n/\o.n<=s.1*1048576)
  (fun s=> ((l.length:Int) - s.1).toNat) (0,⟨[],[],[]⟩) rfl ⟨by simp,by simp,by simp,by simp,by simp,by simp⟩ ?_
 rintro ⟨i,s⟩ ⟨g1,g2,g3,g4,g5,g6⟩
 dsimp only at g1 g2 g3 g4 g5 g6
 refine ZqY _ _ _ _ _ _ _ _ _ ?_
 rintro y1 az y2 a2 y3 ao y4 ak y5 al
 have hy:y2=Edit.nil:=a2
 subst hy
 have es:Wst.mk s.out s.gone s.brought=s:=rfl
 simp only [es] at ao ⊢
 (simp only [iB,vcS])
 refine ⟨fun hi=> ?_,fun hi=> ?_⟩
 .have ai:=Zi (l:=l) (i:=i.toNat) V0 Op.nil
  have hm:=Z0m ai
  have hr:=p3 _ ai
  rw [Jj g1 hi Op.nil] at g3 g5
  rw [<-az] at g3 g5 hm hr
  have av:=YQ y1
  simp only [ZD,Z23,Ze] at g3 g5
  rw [<-ak,<-al] at g3
  obtain ⟨d,am⟩:=hr
  have bk:=Z76 s
  have hP:∀ n:Int,0<=n/\n<=1048576->Z3Z ((s.out,s.gone,s.brought,()),n,()):=by
   intro n hn
   simp only [Z3Z]
   refine ⟨V0,V0,V0,fun o ho=> ?_,V0,V0⟩
   have:=g6 o ho
   constructor
   .omega
   .have:i*1048576<=20000000000*1048576:=V0
    omega
  have hK:∀ n:Int,0<=n/\n<=1048576->ZD list (l.drop (i+1).toNat) (Zx s n)=ZD list l ⟨[],[],[]⟩->
    (∃ j:Int × Wst,Z0p list l (i+1) (Zx s n).out (Zx s n).gone (Zx s n).brought=Z0p list l j.1 j.2.out j.2.gone j.2.brought/\(0<=j.1/\j.1<=l.length/\ZD list (l.drop j.1.toNat) j.2=ZD list l ⟨[],[],[]⟩/\j.2.out.length<=3*j.1/\j.2.gone.length+j.2.brought.length+Ze (l.drop j.1.toNat)<=Ze l/\∀ o∈j.2.out,0<=o.n/\o.n<=j.1*1048576)/\((l.length:Int) - j.1).toNat < ((l.length:Int) - i).toNat):=by
   intro n hn he
   have h1:=ZgZ s n
   have h2:=Zqg (s:=s) (n:=n) (B:=i*1048576) (K:=1048576) V0 hn g6
   refine ⟨(i+1,Zx s n),rfl,⟨V0,V0,he,by grind,by simp only [Zx,Qr];omega,fun o ho=> ?_⟩,V0⟩
   have:=h2 o ho
   dsimp only
   omega
  refine ⟨⟨g1,hi⟩,fun hk=> ?_,fun hk=> ⟨fun ae=> ?_,fun ae=> ⟨fun ah=> ?_,fun ah=> ⟨fun af=> ?_,fun af=> ?_⟩⟩⟩⟩
  .rw [if_pos hk] at g3
   have h1:=ZnT am hk
   exact ⟨hP _ V0,V4,hK _ V0 g3⟩
  .rw [if_neg hk,if_pos ae] at g3
   refine ⟨by simp only [ZbX];omega,V4,(i+1,⟨s.out,s.gone++Z4 y1.l,s.brought⟩),rfl,⟨V0,V0,g3,by grind,?_,fun o ho=> ?_⟩,V0⟩
   .have:=Y4 y1.l
    simp only [Q8,Z4,QX];omega
   grind
  .rw [if_neg hk,if_neg ae,if_pos ah] at g3
   refine ⟨by simp only [ZbX];omega,V4,(i+1,⟨s.out,s.gone,s.brought++Z4 y1.l⟩),rfl,⟨V0,V0,g3,by grind,?_,fun o ho=> ?_⟩,V0⟩
   .have:=Y4 y1.l
    simp only [Q8,Z4,QX];omega
   .have:=g6 o ho
    dsimp only;omega
  .rw [if_neg hk,if_neg ae,if_neg ah,if_pos af] at g3
   have ax:=ZnU am af
   rw [<-ak] at ax
   have hw:=ZeG y4
   rw [<-al] at hw
   have h1:=Z14 y4
   have h2:=JT y4.kids
   have bm:Zc y4<=Zs y1:=by rw [av,ak];omega
   refine ⟨by simp only [Z0N];grind,by simp only [Zix];omega,by simp only [Z3o];omega,fun hq=> ?_,fun hq=> ?_⟩
   .rw [if_pos hq] at g3
    exact ⟨hP 1 V0,V4,hK 1 V0 g3⟩
   .rw [if_neg (by rw [hq];simp)] at g3
    rw [ao,Z1X]
    refine ⟨by simp only [Z3n];omega,by grind,by grind,V0,V4,(i+1,⟨(Z9 s).out++[⟨3,0,[],y5⟩],[],[]⟩),rfl,⟨V0,V0,g3,by simp;omega,by simp;omega,fun o ho=> ?_⟩,V0⟩
    dsimp only at ho ⊢
    rcases Qj.1 ho with ho | ho
    .rcases Z75 s o ho with h5 | h5
     .grind
     .omega
    grind
  .rw [if_neg hk,if_neg ae,if_neg ah,if_neg af] at g3
   refine ⟨V4,(i+1,s),rfl,⟨V0,V0,g3,by grind,by grind,fun o ho=> ?_⟩,V0⟩
   grind
 .rw [Qe V0] at g3
  simp only [ZD] at g3
  refine ⟨by simp only [Z3n];omega,?_⟩
  simp only [Zkb]
  rw [<-g3]
  exact V1
theorem ZHG:Zxx:=by
 intro N e _ hp hN
 simp only [Z0N,Zix] at hp hN
 obtain ⟨p1,d,p3⟩:=hp
 have h1:=Z14 e
 have h2:=JT e.kids
 have h3:=YO e.ops
 have ha:=Z4W e
 refine ZCj _ _ _ ?_
 (simp only [iB,vcS])
 (simp only [vE])
 refine ⟨fun hk=> ⟨by simp only [Zc1];omega,by simp only [Zc1];omega,?_⟩,fun hk=> ⟨fun aa=> ⟨by simp;omega,?_⟩,fun aa=> ⟨fun ab=> ⟨?_,by simp only [Zn1];omega,?_⟩,fun ab=> ?_⟩⟩⟩
 .rw [if_pos hk] at ha
  simp only [ZbU,ha]
  exact V1
 .rw [if_neg hk,if_pos aa] at ha
  refine Z8 (ι:=Int × List Kid) (fun s=> Za7 e s.1 s.2) (fun s=> 0<=s.1/\s.1<=e.kids.length/\s.2.length=s.1/\s.2++Jv (e.kids.drop s.1.toNat)=Jv e.kids) (fun s=> ((e.kids.length:Int) - s.1).toNat) (0,[]) rfl ⟨by simp,by simp,by simp,by simp⟩ ?_
  rintro ⟨j,ks⟩ ⟨f1,f2,f3,f4⟩
  dsimp only at f1 f2 f3 f4
  refine ZqZ _ _ _ _ _ _ ?_
  rintro y1 ak y2 am y3 al
  (simp only [iB,vcS])
  refine ⟨fun hj=> ?_,fun hj=> ?_⟩
  .have ah:=Zi (l:=e.kids) (i:=j.toNat) V0 (KidOf.mk 0 Edit.nil)
   have hm:=Z2U ah
   have hr:=ZiS p3 aa _ ah
   rw [Jj f1 hj (KidOf.mk 0 Edit.nil)] at f4
   rw [<-ak] at f4 hm hr
   simp only [Jv,Zb2] at f4
   rw [<-am] at f4 hm hr
   rw [<-al] at f4
   refine ⟨⟨f1,hj⟩,by simp only [Z0N];grind,by simp only [Zix];omega,by simp;omega,V4,(j+1,ks++[⟨y1.at_,y3⟩]),rfl,⟨V0,V0,by simp;omega,?_⟩,V0⟩
   grind
  .rw [Qe V0] at f4
   simp only [Jv,Qh] at f4
   rw [f4]
   simp only [ZbU,ha]
   exact V1
 .simp only [Z4T]
  exact ⟨V0,fun o ho=> ZiR p3 ab o ho⟩
 .rw [if_neg hk,if_neg aa,if_pos ab] at ha
  simp only [ZbU,ha]
  exact V1
 .rw [if_neg hk,if_neg aa,if_neg ab] at ha
  simp only [ZbU,ha]
  exact V1
theorem ZwH:Contract Tryz.prog cfg 20 Z5H/\Contract Tryz.prog cfg 37 ZjL:=ZfJ c22 Zho c58 c61 Zhn ZHG ZHF
mutual
theorem Z5b:∀ e:Edit,ctE e+65600<=65616*Zc e
 | .mk k o n w ks l os=> by
  have h1:=Zhi ks
  have d:=Zhh os
  rw [ctE,Zc]
  omega
theorem Zhi:∀ ks:List (KidOf Edit),Z0W ks<=65616*Zo ks
 | []=> X6 _
 | k ::r=> by
  have h1:=Zo0 k
  have d:=Zhi r
  rw [Z0W,Zo]
  omega
theorem Zo0:∀ k:KidOf Edit,Z2b k<=65616*Ye k
 | ⟨a,e⟩=> by
  have h:=Z5b e
  rw [Z2b,Ye]
  omega
theorem Zhh:∀ os:List (OpOf Edit),J5 os<=65616*Ze os
 | []=> X6 _
 | o ::r=> by
  have h1:=Zsa o
  have d:=Zhh r
  rw [J5,Ze]
  omega
theorem Zsa:∀ o:OpOf Edit,Z2h o<=65616*Zs o
 | ⟨k,n,l,e⟩=> by
  have h:=Z5b e
  rw [Z2h,Zs]
  omega
end
structure TreeOk (t:Tree):Prop where
 r:∃ d:Int,Zh t d=true
 g:rng t
 k:t.kind≠10
theorem TreeOk.rt{t:Tree}(h:TreeOk t):RT_ t:=⟨h.r,h.g⟩
theorem TreeOk.norm{t:Tree}(h:TreeOk t):TreeOk (Z0 t):=by
 obtain ⟨⟨d,r⟩,g,k⟩:=h
 exact ⟨⟨d,Z20 t d r⟩,Z0H t g,by rw [Z1K];exact k⟩
theorem Zpu(most:Int){a b:Tree}(ha:TreeOk a)(hb:TreeOk b):To (ZeC Z2Y most a b) a b:=
 (Zz4 most _ a b (Qg _) ha.rt.neg hb.rt.neg ha.g hb.g ha.k hb.k).1
theorem To.mass{e:Edit}{a b:Tree}(h:To e a b):Zc e<=5*(mass a+mass b)+3:=by
 by_cases hk:e.kind=0
 .rw [h.s hk]
  have:Zc Edit.nil=3:=rfl
  omega
 .have:=h.m hk
  have:=Zjt a
  have:=Zjt b
  omega
theorem Zz3(most:Int){a b:Tree}(ha:TreeOk a)(hb:TreeOk b):Zc (Z18 most a b)<=5*(mass a+mass b)+3/\Z7 (Z1n (Z18 most a b)) (-1)=true:=by
 have h:=Zpu most ha hb
 rw [ZiP]
 refine ⟨?_,h.r⟩
 rw [<-Zfb,ZiP]
 exact h.mass
structure Diff (e:Edit) (a b:Tree):Prop where
 r:Z7 e (-1)=true
 g:Yi e
 m:Zc e<=5*(mass a+mass b)+3
 do_:∃ u,doE false e a=some u/\Eqv u b
theorem Diff.ct{e:Edit}{a b:Tree}(h:Diff e a b):ctE e<=65616*(5*(mass a+mass b)+3):=by
 have:=Z5b e
 have:=h.m
 omega
theorem Zwl(t:Tree):Eqv (Z0 t) t:=YN t
theorem Z6G{α β:Type}{R:α->β->Prop}{a:Option α}{b:Option β}(h:OptR R a b){y:β}(hb:b=some y):∃ x,a=some x/\R x y:=by
 subst hb
 cases a with
 | none=> cases h
 | some x=> exact ⟨x,rfl,h⟩
theorem Zww(most:Int)(a b:Tree):Y2 most a b=Zv (ZeC Z2Y most (Z0 a) (Z0 b)):=by
 unfold Y2
 rw [<-ZiP,ZiQ]
theorem Zah(most:Int){a b:Tree}(ha:TreeOk a)(hb:TreeOk b):Diff (Y2 most a b) a b:=by
 have h:=Zpu most ha.norm hb.norm
 rw [Zww]
 have r:=Z0Q _ _ h.r
 have m1:=Zb8 (ZeC Z2Y most (Z0 a) (Z0 b))
 have m2:=h.mass
 have m3:=ZY a
 have m4:=ZY b
 refine ⟨r,Z2y _ _ h.r h.g,V0,?_⟩
 obtain ⟨u,hu,hq⟩:=h.do_
 obtain ⟨v,hv,aa⟩:=Z6G (Zb1 _ _ _ h.r ha.norm.rt) hu
 obtain ⟨w,hw,d⟩:=Z6G (Z7a _ _ _ _ r (Eq.symm (Zwl a))) hv
 exact ⟨w,hw,XI d (XI aa (XI hq (Zwl b)))⟩
theorem Zt2{most:Int}{a b c:Tree}(ha:TreeOk a)(hb:TreeOk b)(hc:TreeOk c)(ma:mass a<=1000)(mb:mass b<=1000)(mc:mass c<=1000):
  (Z21 (Y2 most a b)/\Z21 (Y2 most b c))/\(Z2u (Y2 most a b) (Y2 most b c)).2=true/\(Z21 (Z2u (Y2 most a b) (Y2 most b c)).1/\ctE (Z2u (Y2 most a b) (Y2 most b c)).1<=1400000000)/\
  (doE false (Z2u (Y2 most a b) (Y2 most b c)).1 a).map Z0=some (Z0 c):=by
 have p:=Zah most ha hb
 have q:=Zah most hb hc
 have cp:=p.ct
 have cq:=q.ct
 have rp:Z21 (Y2 most a b):=⟨V0,p.g,_,p.r⟩
 have rq:Z21 (Y2 most b c):=⟨V0,q.g,_,q.r⟩
 obtain ⟨u,hu,eu⟩:=p.do_
 obtain ⟨v,hv,ev⟩:=q.do_
 obtain ⟨v',ab,ae⟩:=Z6G (Z7a _ _ _ _ q.r eu) hv
 have C:=ZEw p.r q.r p.g q.g
 obtain ⟨c2,w,hw,ew⟩:=C.bwd ha.rt hu ab
 have F:=Zhj rp rq
 have d:=F.wk c2
 have fc:=F.ct trivial c2
 have n:=Zbp (Yy (Y2 most a b) (Y2 most b c)).1
 obtain ⟨x,hx,ex⟩:=Z6G (Zb1 _ _ _ d.r ha.rt) hw
 have hN:Z2u (Y2 most a b) (Y2 most b c)=(Zv (Yy (Y2 most a b) (Y2 most b c)).1,true):=by
  unfold Z2u
  rw [if_pos c2]
 rw [hN]
 refine ⟨⟨rp,rq⟩,rfl,⟨⟨V3,Z2y _ _ d.r d.g,_,Z0Q _ _ d.r⟩,V3⟩,?_⟩
 dsimp only
 rw [hx,Qi]
 exact congrArg some (XI ex (XI ew (XI ae ev)))
theorem Zf8{t:Tree}(g:rng t)(h:Z2m t=true):TreeOk t/\mass t<=400:=by
 simp only [Z2m,Q2,decide_eq_true_eq] at h
 have:=Z4N t 70 400 h.1.1
 exact ⟨⟨⟨64,h.1.2⟩,g,h.2⟩,V0⟩
noncomputable section
def Zkn(a:Tree × Tree × Int × Unit):Prop:=TreeOk a.1/\TreeOk a.2.1/\mass a.1+mass a.2.1<=100000
def ZCq(a:Tree × Tree × Int × Unit):V U:= .agg (enc .edit (Y2 a.2.2.1 a.1 a.2.1))
def Z5G:Fs U:=fs Zjc (fun a=> [Zkn a]) ZCq
def ZBO:List (FuncId × Fs U):=[(20,Z5H),(21,ZaC),(22,ZdZ)]
def lv9:Zb U:=lvl [([2,3,4,6],[3,4,6]),([6],[6])]
abbrev A9(p:List Nat):=AW (Z1 ZBO) Tryz.f9 lv9 p
theorem vc9(a b:Tree)(most:Int)(Q:QT)(h:∀ ae,ae=a->∀ d,d=b->∀ af,af=(Z0 ae)->∀ ab,ab=(Z0 d)->∀ aa,aa=(Z18 most af ab)->((Zc1 (ae,()))/\(Zc1 (d,()))/\(ZbY (af,ab,most,()))/\(Z0N (aa,()))/\(Q .ret (L2 [pL 6] [(.loc 6,(enc .edit (Zv aa)))])))):
  A9 [] (L2 [(0,.agg (enc .tree a)),(1,.agg (enc .tree b)),pI 2 most] []) Q:=
 (Eq.mpr V5 (h _ (Z3 _) _ (Z3 _) _ (Z3 _) _ (Z3 _) _ (Zg _)):)
abbrev ZIc(a b:Tree)(most:Int):Prop:=AW (Z1 ZBO) Tryz.f9 lv9 [] (Zf (Zjc.can (a,b,most,())) []) (EQ Tryz.f9 (ZCq (a,b,most,())) [])
theorem ZHi(c2020:CT 20 Z5H)(c21:CT 21 ZaC)(c22:CT 22 ZdZ)(hb:∀ (a:Tree) (b:Tree) (d:Int) (_:Unit),Zkn (a,b,d,())->ZIc a b d):CT 9 Z5G:=
 Z2 (l:=[(20,Z5H),(21,ZaC),(22,ZdZ)]) Zd rfl (⟨c2020,c21,c22,trivial⟩) lv9 Tryz.func9 rfl rfl 3 (fun _=> rfl) V2 (fun ⟨a,b,d,_⟩=> hb a b d ())
end
theorem c9:Contract Tryz.prog cfg 9 Z5G:=by
 refine ZHi ZwH.1 c21 c22 ?_
 intro a b d _ hp
 simp only [Zkn] at hp
 obtain ⟨ha,hb,hm⟩:=hp
 have h:=Zz3 d ha.norm hb.norm
 have m1:=ZY a
 have m2:=ZY b
 refine vc9 _ _ _ _ ?_
 rintro y1 rfl y2 rfl y3 rfl y4 rfl y5 rfl
 refine ⟨by simp only [Zc1];omega,by simp only [Zc1];omega,by simp only [ZbY];exact ⟨V0,ha.norm.g,hb.norm.g⟩,by simp only [Z0N];exact ⟨V0,_,h.2⟩,?_⟩
 simp only [ZCq,Y2]
 exact V1
noncomputable section
def Zxj:ArgL (Tree × Edit × Edit × Unit):=(.cons (aEl .tree) (.cons (aEl .edit) (.cons (aEl .edit) .nil)))
def Zpn(a:Tree × Edit × Edit × Unit):Prop:=OkM a.1 a.2.1/\OkM a.1 a.2.2.1
def ZtD(a:Tree × Edit × Edit × Unit):V U:= .tup [(true,(enc .tree (Z0 (Jf a.1 [] a.2.1 a.2.2.1 []).1))),(false,[sU .conflict ((Jf a.1 [] a.2.1 a.2.2.1 []).2) .unk]),(false,[.bool true])]
def ZdS:Fs U:=fs Zxj (fun a=> [Zpn a]) ZtD
def Zxp:ArgL (Tree × Tree × Tree × Int × Unit):=(.cons (aEl .tree) (.cons (aEl .tree) (.cons (aEl .tree) (.cons (Y6 .i64) .nil))))
def Zpo(a:Tree × Tree × Tree × Int × Unit):Prop:=(mass a.1+mass a.2.1<=1000/\mass a.1+mass a.2.2.1<=1000)/\(TreeOk a.1/\TreeOk a.2.1/\TreeOk a.2.2.1)/\OkM (Z0 a.1) (Y2 a.2.2.2.1 a.1 a.2.1)/\OkM (Z0 a.1) (Y2 a.2.2.2.1 a.1 a.2.2.1)
def ZtN(a:Tree × Tree × Tree × Int × Unit):V U:= .tup [(true,(enc .tree (Z0 (Jf (Z0 a.1) [] (Y2 a.2.2.2.1 a.1 a.2.1) (Y2 a.2.2.2.1 a.1 a.2.2.1) []).1))),(false,[sU .conflict ((Jf (Z0 a.1) [] (Y2 a.2.2.2.1 a.1 a.2.1) (Y2 a.2.2.2.1 a.1 a.2.2.1) []).2) .unk])]
def ZdY:Fs U:=fs Zxp (fun a=> [Zpo a]) ZtN
def ZBF(a:Int × Int × Unit):V U:= .agg (enc .tree (Tree.mk 1 [a.1,a.2.1] []))
def ZdV:Fs U:=fs ZwU (fun a=> [Zet a]) ZBF
def ZC5:ArgL Unit:= .nil
def ZyW(a:Unit):Prop:=True
def ZH6(a:Unit):V U:= .c (.bool true)
def ZjI:Fs U:=fs ZC5 (fun a=> [ZyW a]) ZH6
def ZgM(a:Tree × Unit):Prop:=(Z5r a.1/\rng a.1)
def ZBG(a:Tree × Unit):V U:= .c (.bool (Z2m a.1))
def ZdW:Fs U:=fs Zok (fun a=> [ZgM a]) ZBG
def ZC7:ArgL (Tree × Tree × Tree × Unit):=(.cons (aEl .tree) (.cons (aEl .tree) (.cons (aEl .tree) .nil)))
def ZyX(a:Tree × Tree × Tree × Unit):Prop:=(Z5r a.1/\rng a.1)/\(Z5r a.2.1/\rng a.2.1)/\(Z5r a.2.2.1/\rng a.2.2.1)
def ZH8(a:Tree × Tree × Tree × Unit):V U:= .c (.bool (Z2m a.1 && Z2m a.2.1 && Z2m a.2.2.1))
def ZjK:Fs U:=fs ZC7 (fun a=> [ZyX a]) ZH8
def ZyY(a:Tree × Tree × Tree × Int × Unit):Prop:=(Z5r a.1/\rng a.1)/\(Z5r a.2.1/\rng a.2.1)/\(Z5r a.2.2.1/\rng a.2.2.1)
def ZCr(a:Tree × Tree × Tree × Int × Unit):V U:= .c (.bool true)
def ZoB:Fs U:=fs Zxp (fun a=> [ZyY a]) ZCr
def Zw8:List (FuncId × Fs U):=[(10,Z04),(45,ZdH),(22,ZdZ)]
def ZEc:Zb U:=lvl [([3,4,5,6],[3,4,5,6]),([3,4,5,6,10],[3,4,5,6]),([3,4,5,6,10,12],[3,4,5,6]),([3,4,5,6,32],[3,4,5,6]),([6,7,8],[6]),([3,4,5,6,13],[3,4,5,6,35]),([6,13,14],[6,14,35]),([6,7,8],[6])]
abbrev A26(p:List Nat):=AW (Z1 Zw8) Tryz.f26 ZEc p
theorem ZJg(o:Tree)(p q:Edit)(Q:QT)(h:∀ ab,ab=p->∀ aa,aa=q->∀ d,d=o->∀ af,af=(Jf d ([]:List PStep) ab aa ([]:List Conflict))->∀ ae,ae=(af.1)->let z0:= !((doE false ab d).isSome);((Z40 (ab,d,()))/\((Z40 (aa,d,()))/\((Tt (!z0))/\(z0=false->(!z0)=true)/\(iB (bif z0 then true else (!((doE false aa d).isSome))) ((Q .ret (L2 [pL 6,(7,.c (.nils)),pB 8 false] [(.loc 6,[ci 0,.nils,.nils])]))) (((Zpf ((([]:List Conflict),()),([]:List PStep),d,ab,aa,()))/\((Zc1 (ae,()))/\(Q .ret (L2 [pL 6,(7,.c (sU .conflict (af.2) (.own (.e 7 0)))),pB 8 true] [(.loc 6,(enc .tree (Z0 ae)))])))))))))):
  A26 [] (L2 [(0,.agg (enc .tree o)),(1,.agg (enc .edit p)),(2,.agg (enc .edit q))] []) Q:=
 (Eq.mpr V5 (h _ (Zg _) _ (Zg _) _ (Z3 _) _ rfl _ (Z3 _)):)
abbrev ZG8(o:Tree)(p q:Edit):Prop:=AW (Z1 Zw8) Tryz.f26 ZEc [] (Zf (Zxj.can (o,p,q,())) []) (EQ Tryz.f26 (ZtD (o,p,q,())) [])
theorem ZDt(c10:CT 10 Z04)(c45:CT 45 ZdH)(c22:CT 22 ZdZ)(hb:∀ (o:Tree) (p:Edit) (q:Edit) (_:Unit),Zpn (o,p,q,())->ZG8 o p q):CT 26 ZdS:=
 Z2 (l:=[(10,Z04),(45,ZdH),(22,ZdZ)]) Zd rfl (⟨c10,c45,c22,trivial⟩) ZEc Tryz.func26 rfl rfl 3 (fun _=> rfl) V2 (fun ⟨o,p,q,_⟩=> hb o p q ())
def Zwc:List (FuncId × Fs U):=[(22,ZdZ),(9,Z5G),(26,ZdS)]
def ZEj:Zb U:=lvl [([3,4,5,6,8],[4,5,6,8]),([8,10,11],[8,10]),([8,9],[8])]
abbrev A13(p:List Nat):=AW (Z1 Zwc) Tryz.f13 ZEj p
theorem ZJs(o x y:Tree)(most:Int)(Q:QT)(h:∀ d,d=o->∀ af,af=x->∀ ah,ah=y->∀ ab,ab=(Z0 d)->∀ aa,aa=(Y2 most d af)->∀ ae,ae=(Y2 most d ah)->((Zc1 (d,()))/\(Zkn (d,af,most,()))/\(Zkn (d,ah,most,()))/\(Zpn (ab,aa,ae,()))/\(Q .ret (L2 [pL 8,(9,.c (sU .conflict ((Jf ab [] aa ae []).2) .unk))] [(.loc 8,(enc .tree (Z0 (Jf ab [] aa ae []).1)))])))):
  A13 [] (L2 [(0,.agg (enc .tree o)),(1,.agg (enc .tree x)),(2,.agg (enc .tree y)),pI 3 most] []) Q:=
 (Eq.mpr V5 (h _ (Z3 _) _ (Z3 _) _ (Z3 _) _ (Z3 _) _ (Zg _) _ (Zg _)):)
abbrev ZGk(o x y:Tree)(most:Int):Prop:=AW (Z1 Zwc) Tryz.f13 ZEj [] (Zf (Zxp.can (o,x,y,most,())) []) (EQ Tryz.f13 (ZtN (o,x,y,most,())) [])
theorem ZDB(c22:CT 22 ZdZ)(c9:CT 9 Z5G)(c26:CT 26 ZdS)(hb:∀ (o:Tree) (x:Tree) (y:Tree) (d:Int) (_:Unit),Zpo (o,x,y,d,())->ZGk o x y d):CT 13 ZdY:=
 Z2 (l:=[(22,ZdZ),(9,Z5G),(26,ZdS)]) Zd rfl (⟨c22,c9,c26,trivial⟩) ZEj Tryz.func13 rfl rfl 4 (fun _=> rfl) V2 (fun ⟨o,x,y,d,_⟩=> hb o x y d ())
def ZEg:Zb U:=lvl [([0,1,4],[4]),([4],[4])]
abbrev A18(p:List Nat):=AW (Z1 ZnF) Tryz.f18 ZEg p
theorem ZJo(a b:Int)(Q:QT)(h:(Q .ret (L2 [pL 4] [(.loc 4,[ci 1,sU .u64 ([a,b]) .full,.nils])]))):
  A18 [] (L2 [(0,.c (.int .u64 a)),(1,.c (.int .u64 b))] []) Q:=
 (Eq.mpr V5 h:)
abbrev ZGg(a b:Int):Prop:=AW (Z1 ZnF) Tryz.f18 ZEg [] (Zf (ZwU.can (a,b,())) []) (EQ Tryz.f18 (ZBF (a,b,())) [])
theorem ZDx(hb:∀ (a:Int) (b:Int) (_:Unit),Zet (a,b,())->ZGg a b):CT 18 ZdV:=
 Z2 (l:=[]) Zd rfl trivial ZEg Tryz.func18 rfl rfl 2 (fun _=> rfl) V2 (fun ⟨a,b,_⟩=> hb a b ())
def ZBQ:List (FuncId × Fs U):=[(13,ZdY),(9,Z5G),(18,ZdV),(11,Z5J)]
def lv7:Zb U:=lvl [([],[]),([1],[]),([1,2,3],[2]),([1,2,3,4],[2,4]),([0],[])]
abbrev A7(p:List Nat):=AW (Z1 ZBQ) Tryz.f7 lv7 p
theorem vc7(Q:QT)(h:∀ d,d=(Tree.mk 1 [1,1] [])->∀ ab,ab=(Tree.mk 1 [1,3] [])->∀ ah,ah=(Tree.mk 1 [2,1] [])->∀ aa,aa=(Tree.mk 1 [2,3] [])->∀ ae,ae=(Jf (Z0 d) [] (Y2 9 d ah) (Y2 9 d ab) [])->∀ af,af=(Z0 ae.1)->let z0:=(((ae.2).length:Int):Int)==0;let z1:=bif z0 then (ZU af aa) else false;((Zet (1,1,()))/\(Zet (2,1,()))/\(Zet (1,3,()))/\(Zpo (d,ah,ab,9,()))/\((Zet (1,1,()))/\(Zet (2,3,()))/\(Zkn (d,aa,9,()))/\((Tt z0)/\(z0=true->Zet (2,3,()))/\(Tt z0)/\(Tt z0)/\(z0=true->Z9d (af,aa,()))/\(Tt z0)/\(Tt z1)/\(Tt z1)/\(Tt z1)/\(Tt z1)/\(Q .ret (L2 [(0,.c (.bool (bif z1 then ((((Edit.words (Y2 9 d aa)).length:Int):Int)==2) else false)))] [])))))):
  A7 [] (L2 [] []) Q:=
 (Eq.mpr V5 (h _ (Z3 _) _ (Z3 _) _ (Z3 _) _ (Z3 _) _ rfl _ (Z3 _)):)
abbrev ZIe:Prop:=AW (Z1 ZBQ) Tryz.f7 lv7 [] (Zf (ZC5.can ()) []) (EQ Tryz.f7 (ZH6 ()) [])
theorem ZHk(c13:CT 13 ZdY)(c9:CT 9 Z5G)(c18:CT 18 ZdV)(c11:CT 11 Z5J)(hb:∀ (_:Unit),ZyW ()->ZIe):CT 7 ZjI:=
 Z2 (l:=[(13,ZdY),(9,Z5G),(18,ZdV),(11,Z5J)]) Zd rfl (⟨c13,c9,c18,c11,trivial⟩) lv7 Tryz.func7 rfl rfl 0 (fun _=> rfl) V2 (fun _=> hb ())
def ZBR:List (FuncId × Fs U):=[(17,Z2e),(8,ZbI),(10,Z04)]
def lv6:Zb U:=lvl [([],[]),([1],[]),([1,2],[2]),([1,3,4],[3]),([3,4,5,6],[3,5]),([0],[])]
abbrev A6(p:List Nat):=AW (Z1 ZBR) Tryz.f6 lv6 p
theorem vc6(Q:QT)(h:∀ ae,ae=(Edit.mk 0 (Tree.mk 0 [] []) (Tree.mk 0 [] []) [] [] 0 [])->∀ d,d=(Edit.mk 3 (Tree.mk 0 [] []) (Tree.mk 0 [] []) [] [] 4 ([(OpOf.mk 2 0 ([(Tree.mk 10 ([1]) [])]) ae),(OpOf.mk 0 1 [] ae)]))->∀ aa,aa=(Zv (Zp d))->∀ ab,ab=((Z2u d aa).1)->∀ ah,ah=(List.getD (Edit.ops ((Z2u d aa).1)) (Int.toNat 0) Op.nil)->∀ af,af=(doE false ab (Tree.mk 4 [] ([(Tree.mk 10 ([1]) [])])))->let z1:=bif ((Z2u d aa).2) then (af.isSome) else false;let z0:=bif z1 then ((((Edit.ops ((Z2u d aa).1)).length:Int):Int)==1) else false;let z2:=bif z0 then (ah.n==1) else false;((Z41 (d,()))/\(Z5t (d,aa,()))/\((Z40 (ab,(Tree.mk 4 [] ([(Tree.mk 10 ([1]) [])])),()))/\((Tt ((Z2u d aa).2))/\(Tt z1)/\(Tt z1)/\(Tt z1)/\(Tt z1)/\(Tt z0)/\(Tt z0)/\(z0=true->(0:Int)<=0/\0 < ((Edit.ops ((Z2u d aa).1)).length:Int))/\(Tt z0)/\(Tt z0)/\(Tt z0)/\(Tt z0)/\(Tt z2)/\(Tt z2)/\(Tt z2)/\(Tt z2)/\(Q .ret (L2 [(0,.c (.bool (bif z2 then ((((Tree.kids (Z3q (af.map Z0))).length:Int):Int)==1) else false)))] [])))))):
  A6 [] (L2 [] []) Q:=
 (Eq.mpr V5 (h _ rfl _ rfl _ (Zg _) _ (Zg _) _ rfl _ rfl):)
abbrev ZIf:Prop:=AW (Z1 ZBR) Tryz.f6 lv6 [] (Zf (ZC5.can ()) []) (EQ Tryz.f6 (ZH6 ()) [])
theorem ZHl(c17:CT 17 Z2e)(c8:CT 8 ZbI)(c10:CT 10 Z04)(hb:∀ (_:Unit),ZyW ()->ZIf):CT 6 ZjI:=
 Z2 (l:=[(17,Z2e),(8,ZbI),(10,Z04)]) Zd rfl (⟨c17,c8,c10,trivial⟩) lv6 Tryz.func6 rfl rfl 0 (fun _=> rfl) V2 (fun _=> hb ())
def Zwb:List (FuncId × Fs U):=[(32,ZdQ),(15,ZdX)]
abbrev A16(p:List Nat):=AW (Z1 Zwb) Tryz.f16 ZE3 p
theorem ZJq(t:Tree)(Q:QT)(h:let z2:=Tree.mk t.kind t.words t.kids;let z0:=decide ((0:Int)<=(Yu z2 70 400));let z1:=bif z0 then (Zh z2 64) else false;((ZgK (z2,70,400,()))/\(Tt z0)/\(z0=true->Zc0 (z2,64,()))/\(Tt z0)/\(Tt z1)/\(Tt z1)/\(Tt z1)/\(Q .ret (L2 [(2,.c (.bool (bif z1 then (t.kind !=10) else false)))] [])))):
  A16 [] (L2 [(0,.agg (enc .tree t))] []) Q:=
 (Eq.mpr V5 h:)
abbrev ZGi(t:Tree):Prop:=AW (Z1 Zwb) Tryz.f16 ZE3 [] (Zf (Zok.can (t,())) []) (EQ Tryz.f16 (ZBG (t,())) [])
theorem ZDz(c32:CT 32 ZdQ)(c15:CT 15 ZdX)(hb:∀ (t:Tree) (_:Unit),ZgM (t,())->ZGi t):CT 16 ZdW:=
 Z2 (l:=[(32,ZdQ),(15,ZdX)]) Zd rfl (⟨c32,c15,trivial⟩) ZE3 Tryz.func16 rfl rfl 1 (fun _=> rfl) V2 (fun ⟨t,_⟩=> hb t ())
def ZBS:List (FuncId × Fs U):=[(16,ZdW)]
def lv5:Zb U:=lvl [([3,4,5],[3,4,5]),([6],[])]
abbrev A5(p:List Nat):=AW (Z1 ZBS) Tryz.f5 lv5 p
theorem vc5(o x y:Tree)(Q:QT)(h:let z3:=Tree.mk y.kind y.words y.kids;let z2:=Tree.mk x.kind x.words x.kids;let z1:=Tree.mk o.kind o.words o.kids;let z0:=bif (Z2m z1) then (Z2m z2) else false;((ZgM (z1,()))/\(Tt (Z2m z1))/\((Z2m z1)=true->ZgM (z2,()))/\(Tt (Z2m z1))/\(Tt z0)/\(z0=true->ZgM (z3,()))/\(Tt z0)/\(Q .ret (L2 [(6,.c (.bool (bif z0 then (Z2m z3) else false)))] [])))):
  A5 [] (L2 [(0,.agg (enc .tree o)),(1,.agg (enc .tree x)),(2,.agg (enc .tree y))] []) Q:=
 (Eq.mpr V5 h:)
abbrev ZIg(o x y:Tree):Prop:=AW (Z1 ZBS) Tryz.f5 lv5 [] (Zf (ZC7.can (o,x,y,())) []) (EQ Tryz.f5 (ZH8 (o,x,y,())) [])
theorem ZHm(c16:CT 16 ZdW)(hb:∀ (o:Tree) (x:Tree) (y:Tree) (_:Unit),ZyX (o,x,y,())->ZIg o x y):CT 5 ZjK:=
 Z2 (l:=[(16,ZdW)]) Zd rfl (⟨c16,trivial⟩) lv5 Tryz.func5 rfl rfl 3 (fun _=> rfl) V2 (fun ⟨o,x,y,_⟩=> hb o x y ())
def ZBT:List (FuncId × Fs U):=[(5,ZjK),(6,ZjI),(7,ZjI),(9,Z5G),(8,ZbI),(10,Z04),(11,Z5J),(12,ZdZ)]
def lv3:Zb U:=lvl [([3,4,5,6],[4,5,6]),([3,4,5,6,17],[4,5,6]),([8],[]),([4,6,9,10],[4,6,9]),([4,6,9,35],[4,6,9]),([8],[]),([6,11,12],[6,11]),([8],[])]
abbrev A3(p:List Nat):=AW (Z1 ZBT) Tryz.f3 lv3 p
theorem vc3(a b c:Tree)(most:Int)(Q:QT)(h:∀ d,d=a->∀ aa,aa=b->∀ ab,ab=c->∀ ai,ai=(Z0 ab)->∀ ae,ae=(Y2 most d aa)->∀ af,af=(Y2 most aa ab)->∀ ah,ah=((Z2u ae af).1)->∀ aj,aj=(Z3q ((doE false ah d).map Z0))->let z0:=doE false ah d;let z1:=bif (z0.isSome) then (ZU aj ai) else false;((ZyX (d,aa,ab,()))/\(iB (!(Z2m d && Z2m aa && Z2m ab)) ((ZyW ())/\(true=true->ZyW ())/\(Tt true)/\(Q .ret (L2 [pB 8 true] []))) ((Zkn (d,aa,most,()))/\(Zkn (aa,ab,most,()))/\(Z5t (ae,af,()))/\(iB (!((Z2u ae af).2)) ((Q .ret (L2 [pB 8 false] []))) ((Z40 (ah,d,()))/\((Tt (z0.isSome))/\((z0.isSome)=true->Zc1 (ab,()))/\(Tt (z0.isSome))/\(Tt (z0.isSome))/\((z0.isSome)=true->Z9d (aj,ai,()))/\(Tt (z0.isSome))/\(z1=true->ZyW ())/\(Tt z1)/\(Q .ret (L2 [(8,.c (.bool (bif z1 then true else false)))] []))))))))):
  A3 [] (L2 [(0,.agg (enc .tree a)),(1,.agg (enc .tree b)),(2,.agg (enc .tree c)),pI 3 most] []) Q:=
 (Eq.mpr V5 (h _ (Z3 _) _ (Z3 _) _ (Z3 _) _ (Z3 _) _ (Zg _) _ (Zg _) _ (Zg _) _ (Z3 _)):)
abbrev ZIh(a b c:Tree)(most:Int):Prop:=AW (Z1 ZBT) Tryz.f3 lv3 [] (Zf (Zxp.can (a,b,c,most,())) []) (EQ Tryz.f3 (ZCr (a,b,c,most,())) [])
theorem ZHn(c5:CT 5 ZjK)(c6:CT 6 ZjI)(c7:CT 7 ZjI)(c9:CT 9 Z5G)(c8:CT 8 ZbI)(c10:CT 10 Z04)(c11:CT 11 Z5J)(c12:CT 12 ZdZ)(hb:∀ (a:Tree) (b:Tree) (c:Tree) (d:Int) (_:Unit),ZyY (a,b,c,d,())->ZIh a b c d):CT 3 ZoB:=
 Z2 (l:=[(5,ZjK),(6,ZjI),(7,ZjI),(9,Z5G),(8,ZbI),(10,Z04),(11,Z5J),(12,ZdZ)]) Zd rfl (⟨c5,c6,c7,c9,c8,c10,c11,c12,trivial⟩) lv3 Tryz.func3 rfl rfl 4 (fun _=> rfl) V2 (fun ⟨a,b,c,d,_⟩=> hb a b c d ())
end
def Z6y:Tree:= .mk 10 [1] []
def YU(k:Int):Edit:= .mk 3 Tree.nil Tree.nil [] [] 4 [⟨k,0,[Z6y],Edit.nil⟩,⟨0,1,[],Edit.nil⟩]
theorem Z55(k:Int)(h:k=1\/k=2):Z7 (YU k) 64=true:=by rcases h with rfl | rfl <;> rfl
theorem ZnM(k:Int)(h:k=1\/k=2):Yi (YU k):=by
 have z:=Z0Y
 have d:InR 0:=ZZ V2 V2
 have zn:Yi Edit.nil:=⟨d,z,z,by simp,d,trivial,trivial⟩
 refine ⟨ZZ V2 V2,z,z,by simp,ZZ V2 V2,trivial,⟨?_,d,⟨⟨V2,?_,trivial⟩,trivial⟩,zn⟩,⟨d,ZZ V2 V2,trivial,zn⟩,trivial⟩
 .unfold InR;omega
 grind
theorem Zf3:Z2u (YU 2) (YU 1)=(.mk 3 Tree.nil Tree.nil [] [] 4 [⟨0,1,[],Edit.nil⟩],true):=by
 have hp:Yf 1 2 (YU 2).ops (YU 1).ops []=([⟨0,⟨2,0,[Z6y],Edit.nil⟩,⟨1,0,[Z6y],Edit.nil⟩⟩,⟨0,⟨0,1,[],Edit.nil⟩,⟨0,1,[],Edit.nil⟩⟩],true,[],[]):=by
  have e1:∀ k,(YU k).ops=[⟨k,0,[Z6y],Edit.nil⟩,⟨0,1,[],Edit.nil⟩]:=fun _=> rfl
  rw [e1,e1,Yf,dif_neg (by simp [sgl]),dif_neg (by simp [sgl]),dif_neg (by simp)]
  simp only [Qz,Z5]
  simp only [ZK,Y8,Z5]
  simp
  rw [Yf,dif_neg (by simp [sgl]),dif_neg (by simp [sgl]),dif_neg (by simp)]
  simp [ZK,Y8,Z5]
  rw [Yf,dif_neg (by simp [sgl]),dif_neg (by simp [sgl]),dif_pos (by simp)]
  simp
 have hc:Yy (YU 2) (YU 1)=(.mk 3 Tree.nil Tree.nil [] [] 4 [⟨0,1,[],Edit.nil⟩],true):=by
  rw [Zhl (Z55 2 (.inr rfl)) (Z55 1 (.inl rfl))]
  have d:Z0A Yy (YU 2).ops (YU 1).ops=some [⟨0,1,[],Edit.nil⟩]:=by
   unfold Z0A
   rw [hp,if_pos rfl]
   have c1:ZA Yy ⟨0,⟨2,0,[Z6y],Edit.nil⟩,⟨1,0,[Z6y],Edit.nil⟩⟩=⟨Op.nil,false,true⟩:=by
    unfold ZA
    rw [if_neg (by simp),if_neg (by simp),if_pos (by simp)]
    congr 1
    exact Zlo rfl
   have c2:ZA Yy ⟨0,⟨0,1,[],Edit.nil⟩,⟨0,1,[],Edit.nil⟩⟩=⟨⟨0,1,[],Edit.nil⟩,true,true⟩:=rfl
   rw [Z0r,c1,if_pos rfl,Z0r,c2,if_pos rfl,Z0r]
   try rfl
  unfold JV
  have k:∀ n,(YU n).kind=3/\(YU n).list=4:=fun _=> ⟨rfl,rfl⟩
  rw [if_neg (by grind),if_neg (by grind),if_neg (by grind),if_neg (by grind),if_neg (by grind),if_neg (by grind),d]
  try rfl
 unfold Z2u
 rw [hc,if_pos rfl,ZCI]
 try rfl
theorem Zkk(k:Int)(h:k=1\/k=2):Z21 (YU k):=⟨by show ctE (YU k)<=_;simp [ctE,Z0W,J5,Z2h,YU,mass,Z6,Tree.nil,Edit.nil,Z6y],ZnM k h,64,Z55 k h⟩
theorem Zla:Zv (Zp (YU 2))=YU 1:=by rfl
theorem ZrT:doE false (.mk 3 Tree.nil Tree.nil [] [] 4 [⟨0,1,[],Edit.nil⟩]) (.mk 4 [] [Z6y])=some (.mk 4 [] [Z6y]):=by rfl
def s2(a b:Int):Tree:= .mk 1 [a,b] []
theorem ZH5(a b:Int)(ha:isW a)(hb:isW b):TreeOk (s2 a b):=
 ⟨⟨64,by rfl⟩,⟨⟨by show (-9223372036854775808:Int)<=1;omega,by show (1:Int)<=9223372036854775807;omega⟩,by
  intro x d
  rcases Q9.1 d with rfl | d
  .exact ha
  .rw [Q7] at d
   subst d
   exact hb,trivial⟩,by show (1:Int)≠10;decide⟩
theorem ZnX:Y2 9 (s2 1 1) (s2 2 1)= .mk 2 Tree.nil Tree.nil [⟨0,1,1,2⟩] [] 0 []:=by
 unfold Y2
 rw [Zd1,if_neg (by rw [ZX];intro h;exact absurd (congrArg Tree.words h) V2),if_pos ⟨rfl,rfl⟩]
 try rfl
theorem ZnW:Y2 9 (s2 1 1) (s2 1 3)= .mk 2 Tree.nil Tree.nil [⟨1,1,1,3⟩] [] 0 []:=by
 unfold Y2
 rw [Zd1,if_neg (by rw [ZX];intro h;exact absurd (congrArg Tree.words h) V2),if_pos ⟨rfl,rfl⟩]
 try rfl
theorem ZEu:Y2 9 (s2 1 1) (s2 2 3)= .mk 2 Tree.nil Tree.nil [⟨0,1,1,2⟩,⟨1,1,1,3⟩] [] 0 []:=by
 unfold Y2
 rw [Zd1,if_neg (by rw [ZX];intro h;exact absurd (congrArg Tree.words h) V2),if_pos ⟨rfl,rfl⟩]
 try rfl
theorem Z8d{n:Int}(h0:0<=n)(h:n<=9):isW n:=by unfold isW;omega
theorem Ze5(a b:Int)(ha:0<=a/\a<=9)(hb:0<=b/\b<=9):TreeOk (s2 a b):=ZH5 a b (Z8d ha.1 ha.2) (Z8d hb.1 hb.2)
theorem ZHe:OkM (Z0 (s2 1 1)) (Y2 9 (s2 1 1) (s2 2 1)):=by
 have h:=Zah 9 (Ze5 1 1 V2 V2) (Ze5 2 1 V2 V2)
 have hm:=h.m
 have e:Z0 (s2 1 1)=s2 1 1:=rfl
 have m1:mass (s2 1 1)=3:=rfl
 have m2:mass (s2 2 1)=3:=rfl
 obtain ⟨u,hu,_⟩:=h.do_
 rw [e]
 refine ⟨⟨V0,h.g,_,h.r⟩,⟨V0,(Ze5 1 1 V2 V2).g,rfl⟩,?_,?_,by rw [hu];rfl⟩
 .rw [ZnX];exact ⟨rfl,rfl⟩
 .rw [ZnX]
  intro w d
  have d:w∈[WEdit.mk 0 1 1 2]:=d
  rw [Q7] at d
  subst d
  refine ⟨⟨ZZ V2 V2,⟨V2,V2⟩,Z8d V2 V2,Z8d V2 V2⟩,V2,V2⟩
theorem ZHd:OkM (Z0 (s2 1 1)) (Y2 9 (s2 1 1) (s2 1 3)):=by
 have h:=Zah 9 (Ze5 1 1 V2 V2) (Ze5 1 3 V2 V2)
 have hm:=h.m
 have e:Z0 (s2 1 1)=s2 1 1:=rfl
 have m1:mass (s2 1 1)=3:=rfl
 have m2:mass (s2 1 3)=3:=rfl
 obtain ⟨u,hu,_⟩:=h.do_
 rw [e]
 refine ⟨⟨V0,h.g,_,h.r⟩,⟨V0,(Ze5 1 1 V2 V2).g,rfl⟩,?_,?_,by rw [hu];rfl⟩
 .rw [ZnW];exact ⟨rfl,rfl⟩
 .rw [ZnW]
  intro w d
  have d:w∈[WEdit.mk 1 1 1 3]:=d
  rw [Q7] at d
  subst d
  refine ⟨⟨ZZ V2 V2,⟨V2,V2⟩,Z8d V2 V2,Z8d V2 V2⟩,V2,V2⟩
theorem ZuW:Jf (Z0 (s2 1 1)) [] (Y2 9 (s2 1 1) (s2 2 1)) (Y2 9 (s2 1 1) (s2 1 3)) []=(s2 2 3,[]):=by
 rw [ZnX,ZnW]
 try rfl
end Go.AM.YtnfbomhidainjaaGreat
