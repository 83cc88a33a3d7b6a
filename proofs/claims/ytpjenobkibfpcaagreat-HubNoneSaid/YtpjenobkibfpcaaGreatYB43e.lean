import Derived.Test.YtpjenobkibfpcaaGreatYB43a
import Derived.Test.YtpjenobkibfpcaaGreatZCB30a
import Derived.Test.YtpjenobkibfpcaaGreatZKB20g
set_option linter.unusedSimpArgs false
set_option linter.unusedVariables false
namespace Go.AM.YtpjenobkibfpcaaGreat
open Go.AM Go.Proofs
noncomputable section
def Zlf(a:Edit × Unit):Prop:=False
def Zu1(a:Edit × Unit):V U:= .agg (enc .edit Edit.nil)
def Z6B:Fs U:=fs Zt6 (fun a=> [Zlf a]) Zu1
def Zt0:ArgL (List WEdit × List WEdit × Unit):=(.cons (aSl .wedit) (.cons (aSl .wedit) .nil))
def Zlc(a:List WEdit × List WEdit × Unit):Prop:=False
def ZtY(a:List WEdit × List WEdit × Unit):V U:= .tup [(false,[sU .wedit ([]:List WEdit) .unk]),(false,[.bool false])]
def Z6y:Fs U:=fs Zt0 (fun a=> [Zlc a]) ZtY
def ZsZ:ArgL (List Kid × List Kid × Unit):=(.cons (aSl .kid) (.cons (aSl .kid) .nil))
def Zlb(a:List Kid × List Kid × Unit):Prop:=False
def ZtX(a:List Kid × List Kid × Unit):V U:= .tup [(false,[sU .kid ([]:List Kid) .unk]),(false,[.bool false])]
def Z6x:Fs U:=fs ZsZ (fun a=> [Zlb a]) ZtX
def Zla(a:List Op × List Op × Unit):Prop:=False
def ZtW(a:List Op × List Op × Unit):V U:= .tup [(false,[sU .op ([]:List Op) .unk]),(false,[.bool false])]
def Z6w:Fs U:=fs ZmX (fun a=> [Zla a]) ZtW
def ZfB(a:Edit × Edit × Unit):Prop:=Edit.kind a.1=0
def Zf6(a:Edit × Edit × Unit):V U:= .tup [(true,(enc .edit a.2.1)),(false,[.bool true])]
def Z3H:Fs U:=fs Zt9 (fun a=> [ZfB a]) Zf6
def ZfC(a:Edit × Edit × Unit):Prop:=Edit.kind a.1=0/\Yr a.2.1
def Zf7(a:Edit × Edit × Unit):V U:= .tup [(true,(enc .edit (Zm a.2.1))),(false,[.bool true])]
def Z3I:Fs U:=fs Zt9 (fun a=> [ZfC a]) Zf7
def Zk7:ArgM ((Int × List Int × List Tree × Int × Int × Int × List Int × List Tree × Int × List Int × List Tree × List WEdit × List Kid × Int × List Op × Unit) × Edit × Unit):=(.obj 0 (.cons (Yk .i64) (.cons (cSl .u64) (.cons (cSl .tree) (.cons (Yk .i64) (.cons (Yk .i64) (.cons (Yk .i64) (.cons (cSl .u64) (.cons (cSl .tree) (.cons (Yk .i64) (.cons (cSl .u64) (.cons (cSl .tree) (.cons (cSl .wedit) (.cons (cSl .kid) (.cons (Yk .i64) (.cons (cSl .op) .nil))))))))))))))) (.cons (aEl .edit) .nil))
def Zl8(a:(Int × List Int × List Tree × Int × Int × Int × List Int × List Tree × Int × List Int × List Tree × List WEdit × List Kid × Int × List Op × Unit) × Edit × Unit):Prop:=(a.1.2.2.2.2.1=0/\(Z8 a.2.1<=18000000000/\Yh a.2.1))/\(Z4 a.2.1 64=true->Yr a.2.1/\Z5N a.2.1 (Tree.mk a.1.1 a.1.2.1 a.1.2.2.1))
def Zps(a:(Int × List Int × List Tree × Int × Int × Int × List Int × List Tree × Int × List Int × List Tree × List WEdit × List Kid × Int × List Op × Unit) × Edit × Unit):V U:= .c (ci ((Z0B a.2.1 (DeskT.mk (Tree.mk a.1.1 a.1.2.1 a.1.2.2.1) a.1.2.2.2.1 (Edit.mk a.1.2.2.2.2.1 (Tree.mk a.1.2.2.2.2.2.1 a.1.2.2.2.2.2.2.1 a.1.2.2.2.2.2.2.2.1) (Tree.mk a.1.2.2.2.2.2.2.2.2.1 a.1.2.2.2.2.2.2.2.2.2.1 a.1.2.2.2.2.2.2.2.2.2.2.1) a.1.2.2.2.2.2.2.2.2.2.2.2.1 a.1.2.2.2.2.2.2.2.2.2.2.2.2.1 a.1.2.2.2.2.2.2.2.2.2.2.2.2.2.1 a.1.2.2.2.2.2.2.2.2.2.2.2.2.2.2.1))).2))
def ZiU(a:(Int × List Int × List Tree × Int × Int × Int × List Int × List Tree × Int × List Int × List Tree × List WEdit × List Kid × Int × List Op × Unit) × Edit × Unit):List (List (C U)):=[(enc .tree (DeskT.now ((Z0B a.2.1 (DeskT.mk (Tree.mk a.1.1 a.1.2.1 a.1.2.2.1) a.1.2.2.2.1 (Edit.mk a.1.2.2.2.2.1 (Tree.mk a.1.2.2.2.2.2.1 a.1.2.2.2.2.2.2.1 a.1.2.2.2.2.2.2.2.1) (Tree.mk a.1.2.2.2.2.2.2.2.2.1 a.1.2.2.2.2.2.2.2.2.2.1 a.1.2.2.2.2.2.2.2.2.2.2.1) a.1.2.2.2.2.2.2.2.2.2.2.2.1 a.1.2.2.2.2.2.2.2.2.2.2.2.2.1 a.1.2.2.2.2.2.2.2.2.2.2.2.2.2.1 a.1.2.2.2.2.2.2.2.2.2.2.2.2.2.2.1))).1))++[ci (DeskT.version ((Z0B a.2.1 (DeskT.mk (Tree.mk a.1.1 a.1.2.1 a.1.2.2.1) a.1.2.2.2.1 (Edit.mk a.1.2.2.2.2.1 (Tree.mk a.1.2.2.2.2.2.1 a.1.2.2.2.2.2.2.1 a.1.2.2.2.2.2.2.2.1) (Tree.mk a.1.2.2.2.2.2.2.2.2.1 a.1.2.2.2.2.2.2.2.2.2.1 a.1.2.2.2.2.2.2.2.2.2.2.1) a.1.2.2.2.2.2.2.2.2.2.2.2.1 a.1.2.2.2.2.2.2.2.2.2.2.2.2.1 a.1.2.2.2.2.2.2.2.2.2.2.2.2.2.1 a.1.2.2.2.2.2.2.2.2.2.2.2.2.2.2.1))).1))]++enc .edit (DeskT.pending ((Z0B a.2.1 (DeskT.mk (Tree.mk a.1.1 a.1.2.1 a.1.2.2.1) a.1.2.2.2.1 (Edit.mk a.1.2.2.2.2.1 (Tree.mk a.1.2.2.2.2.2.1 a.1.2.2.2.2.2.2.1 a.1.2.2.2.2.2.2.2.1) (Tree.mk a.1.2.2.2.2.2.2.2.2.1 a.1.2.2.2.2.2.2.2.2.2.1 a.1.2.2.2.2.2.2.2.2.2.2.1) a.1.2.2.2.2.2.2.2.2.2.2.2.1 a.1.2.2.2.2.2.2.2.2.2.2.2.2.1 a.1.2.2.2.2.2.2.2.2.2.2.2.2.2.1 a.1.2.2.2.2.2.2.2.2.2.2.2.2.2.2.1))).1)))]
def Zb2:Fs U:=fsX Zk7 (fun a=> [Zl8 a]) Zps ZiU
def Zkb:ArgM ((Int × List Int × List Tree × Int × Int × Int × List Int × List Tree × Int × List Int × List Tree × List WEdit × List Kid × Int × List Op × Unit) × (Int × List Int × List Tree × List Edit × Unit) × Unit):=(.obj 0 (.cons (Yk .i64) (.cons (cSl .u64) (.cons (cSl .tree) (.cons (Yk .i64) (.cons (Yk .i64) (.cons (Yk .i64) (.cons (cSl .u64) (.cons (cSl .tree) (.cons (Yk .i64) (.cons (cSl .u64) (.cons (cSl .tree) (.cons (cSl .wedit) (.cons (cSl .kid) (.cons (Yk .i64) (.cons (cSl .op) .nil))))))))))))))) (.obj 1 (.cons (Yk .i64) (.cons (cSl .u64) (.cons (cSl .tree) (.cons (cSl .edit) .nil)))) .nil))
def Zhw(a:(Int × List Int × List Tree × Int × Int × Int × List Int × List Tree × Int × List Int × List Tree × List WEdit × List Kid × Int × List Op × Unit) × (Int × List Int × List Tree × List Edit × Unit) × Unit):Prop:=ZeF (DeskT.mk (Tree.mk a.1.1 a.1.2.1 a.1.2.2.1) a.1.2.2.2.1 (Edit.mk a.1.2.2.2.2.1 (Tree.mk a.1.2.2.2.2.2.1 a.1.2.2.2.2.2.2.1 a.1.2.2.2.2.2.2.2.1) (Tree.mk a.1.2.2.2.2.2.2.2.2.1 a.1.2.2.2.2.2.2.2.2.2.1 a.1.2.2.2.2.2.2.2.2.2.2.1) a.1.2.2.2.2.2.2.2.2.2.2.2.1 a.1.2.2.2.2.2.2.2.2.2.2.2.2.1 a.1.2.2.2.2.2.2.2.2.2.2.2.2.2.1 a.1.2.2.2.2.2.2.2.2.2.2.2.2.2.2.1)) (HubT.mk (Tree.mk a.2.1.1 a.2.1.2.1 a.2.1.2.2.1) a.2.1.2.2.2.1)
def Zpw(a:(Int × List Int × List Tree × Int × Int × Int × List Int × List Tree × Int × List Int × List Tree × List WEdit × List Kid × Int × List Op × Unit) × (Int × List Int × List Tree × List Edit × Unit) × Unit):V U:= .c (ci ((Z02 (DeskT.mk (Tree.mk a.1.1 a.1.2.1 a.1.2.2.1) a.1.2.2.2.1 (Edit.mk a.1.2.2.2.2.1 (Tree.mk a.1.2.2.2.2.2.1 a.1.2.2.2.2.2.2.1 a.1.2.2.2.2.2.2.2.1) (Tree.mk a.1.2.2.2.2.2.2.2.2.1 a.1.2.2.2.2.2.2.2.2.2.1 a.1.2.2.2.2.2.2.2.2.2.2.1) a.1.2.2.2.2.2.2.2.2.2.2.2.1 a.1.2.2.2.2.2.2.2.2.2.2.2.2.1 a.1.2.2.2.2.2.2.2.2.2.2.2.2.2.1 a.1.2.2.2.2.2.2.2.2.2.2.2.2.2.2.1)) (HubT.mk (Tree.mk a.2.1.1 a.2.1.2.1 a.2.1.2.2.1) a.2.1.2.2.2.1)).2))
def ZiX(a:(Int × List Int × List Tree × Int × Int × Int × List Int × List Tree × Int × List Int × List Tree × List WEdit × List Kid × Int × List Op × Unit) × (Int × List Int × List Tree × List Edit × Unit) × Unit):List (List (C U)):=[(enc .tree (DeskT.now ((Z02 (DeskT.mk (Tree.mk a.1.1 a.1.2.1 a.1.2.2.1) a.1.2.2.2.1 (Edit.mk a.1.2.2.2.2.1 (Tree.mk a.1.2.2.2.2.2.1 a.1.2.2.2.2.2.2.1 a.1.2.2.2.2.2.2.2.1) (Tree.mk a.1.2.2.2.2.2.2.2.2.1 a.1.2.2.2.2.2.2.2.2.2.1 a.1.2.2.2.2.2.2.2.2.2.2.1) a.1.2.2.2.2.2.2.2.2.2.2.2.1 a.1.2.2.2.2.2.2.2.2.2.2.2.2.1 a.1.2.2.2.2.2.2.2.2.2.2.2.2.2.1 a.1.2.2.2.2.2.2.2.2.2.2.2.2.2.2.1)) (HubT.mk (Tree.mk a.2.1.1 a.2.1.2.1 a.2.1.2.2.1) a.2.1.2.2.2.1)).1.1))++[ci (DeskT.version ((Z02 (DeskT.mk (Tree.mk a.1.1 a.1.2.1 a.1.2.2.1) a.1.2.2.2.1 (Edit.mk a.1.2.2.2.2.1 (Tree.mk a.1.2.2.2.2.2.1 a.1.2.2.2.2.2.2.1 a.1.2.2.2.2.2.2.2.1) (Tree.mk a.1.2.2.2.2.2.2.2.2.1 a.1.2.2.2.2.2.2.2.2.2.1 a.1.2.2.2.2.2.2.2.2.2.2.1) a.1.2.2.2.2.2.2.2.2.2.2.2.1 a.1.2.2.2.2.2.2.2.2.2.2.2.2.1 a.1.2.2.2.2.2.2.2.2.2.2.2.2.2.1 a.1.2.2.2.2.2.2.2.2.2.2.2.2.2.2.1)) (HubT.mk (Tree.mk a.2.1.1 a.2.1.2.1 a.2.1.2.2.1) a.2.1.2.2.2.1)).1.1))]++enc .edit (DeskT.pending ((Z02 (DeskT.mk (Tree.mk a.1.1 a.1.2.1 a.1.2.2.1) a.1.2.2.2.1 (Edit.mk a.1.2.2.2.2.1 (Tree.mk a.1.2.2.2.2.2.1 a.1.2.2.2.2.2.2.1 a.1.2.2.2.2.2.2.2.1) (Tree.mk a.1.2.2.2.2.2.2.2.2.1 a.1.2.2.2.2.2.2.2.2.2.1 a.1.2.2.2.2.2.2.2.2.2.2.1) a.1.2.2.2.2.2.2.2.2.2.2.2.1 a.1.2.2.2.2.2.2.2.2.2.2.2.2.1 a.1.2.2.2.2.2.2.2.2.2.2.2.2.2.1 a.1.2.2.2.2.2.2.2.2.2.2.2.2.2.2.1)) (HubT.mk (Tree.mk a.2.1.1 a.2.1.2.1 a.2.1.2.2.1) a.2.1.2.2.2.1)).1.1))),(enc .tree (HubT.now ((Z02 (DeskT.mk (Tree.mk a.1.1 a.1.2.1 a.1.2.2.1) a.1.2.2.2.1 (Edit.mk a.1.2.2.2.2.1 (Tree.mk a.1.2.2.2.2.2.1 a.1.2.2.2.2.2.2.1 a.1.2.2.2.2.2.2.2.1) (Tree.mk a.1.2.2.2.2.2.2.2.2.1 a.1.2.2.2.2.2.2.2.2.2.1 a.1.2.2.2.2.2.2.2.2.2.2.1) a.1.2.2.2.2.2.2.2.2.2.2.2.1 a.1.2.2.2.2.2.2.2.2.2.2.2.2.1 a.1.2.2.2.2.2.2.2.2.2.2.2.2.2.1 a.1.2.2.2.2.2.2.2.2.2.2.2.2.2.2.1)) (HubT.mk (Tree.mk a.2.1.1 a.2.1.2.1 a.2.1.2.2.1) a.2.1.2.2.2.1)).1.2))++[sU .edit (HubT.log ((Z02 (DeskT.mk (Tree.mk a.1.1 a.1.2.1 a.1.2.2.1) a.1.2.2.2.1 (Edit.mk a.1.2.2.2.2.1 (Tree.mk a.1.2.2.2.2.2.1 a.1.2.2.2.2.2.2.1 a.1.2.2.2.2.2.2.2.1) (Tree.mk a.1.2.2.2.2.2.2.2.2.1 a.1.2.2.2.2.2.2.2.2.2.1 a.1.2.2.2.2.2.2.2.2.2.2.1) a.1.2.2.2.2.2.2.2.2.2.2.2.1 a.1.2.2.2.2.2.2.2.2.2.2.2.2.1 a.1.2.2.2.2.2.2.2.2.2.2.2.2.2.1 a.1.2.2.2.2.2.2.2.2.2.2.2.2.2.2.1)) (HubT.mk (Tree.mk a.2.1.1 a.2.1.2.1 a.2.1.2.2.1) a.2.1.2.2.2.1)).1.2)) .unk])]
def Zb7:Fs U:=fsX Zkb (fun a=> [Zhw a]) Zpw ZiX
def ZsU:ArgL (Int × Int × Int × Unit):=(.cons (YR .i64) (.cons (YR .u64) (.cons (YR .u64) .nil)))
def Zl7(a:Int × Int × Int × Unit):Prop:=True
def Zpr(a:Int × Int × Int × Unit):V U:= .agg (enc .edit (Z3N a.1 a.2.1 a.2.2.1))
def ZaX:Fs U:=fs ZsU (fun a=> [Zl7 a]) Zpr
def ZwU(a:Unit):V U:= .c (.bool true)
def Zb9:Fs U:=fs Zn6 (fun a=> [Z8k a]) ZwU
def Zi1:List (FuncId × Fs U):=[(25,JP),(85,Z6B),(164,Z6y),(165,Z6x),(166,Z6w)]
def Zjz:Z6 U:=lvl [([2,3,4],[2,3,4]),([2,3,4,15],[2,3,4]),([4,5],[4]),([2,3,4,20],[2,3,4]),([4,5],[4]),([2,3,4,25],[2,3,4]),([2,4,6,7],[2,4,6]),([4,5],[4]),([2,3,4,41],[2,3,4]),([3,4,8,9],[3,4,8]),([4,5],[4]),([2,3,4,58],[2,3,4]),([4,5],[4]),([2,3,4,72],[2,3,4]),([2,3,4,10,11],[2,3,4]),([2,3,4,10,85],[2,3,4]),([4,5],[4]),([4,10,11,12],[4]),([4,5],[4]),([2,4,13,14],[2,4]),([4,5],[4])]
abbrev ZD5(p:List Nat):=AW (Z1 Zi1) Tryz.f111 Zjz p
theorem ZxS(p q:Edit)(Q:QT)(h:∀ ab,ab=p->∀ aa,aa=q->∀ u,u=(Edit.nil)->∀ s,s=(p.new)->∀ b,b=(q.old)->let z1:=(Q .ret (L2 [pL 4,pB 5 false] [(.loc 4,zc0)]));let z0:=p.kind !=q.kind;(iB (p.kind==0) ((Q .ret (L2 [pL 4,pB 5 true] [(.loc 4,(enc .edit q))]))) ((iB (q.kind==0) ((Q .ret (L2 [pL 4,pB 5 true] [(.loc 4,(enc .edit p))]))) ((iB (p.kind==1) ((Z2k (aa,s,()))/\(Q .ret (L2 [pL 4,pB 5 ((doE false aa s).isSome)] [(.loc 4,([ci 1]++enc .tree p.old++enc .tree (Z0x ((doE false aa s).map Z5))++[.nils,.nils,ci 0,.nils]))]))) ((iB (q.kind==1) ((Zlf (ab,()))/\(Z2k (u,b,()))/\(Q .ret (L2 [pL 4,pB 5 ((doE false u b).isSome)] [(.loc 4,([ci 1]++enc .tree (Z0x ((doE false u b).map Z5))++enc .tree q.new++[.nils,.nils,ci 0,.nils]))]))) ((Tt (!z0))/\(Tt (!z0))/\(Tt (!z0))/\(Tt (!z0))/\(z0=false->(!z0)=true)/\(iB (bif z0 then true else (p.list !=q.list)) z1 ((iB (p.kind==2) ((Zlc (p.words,q.words,()))/\(iB (!false) z1 ((Zlb (p.kids,q.kids,()))/\(Q .ret (L2 [pL 4,pB 5 false] [(.loc 4,[ci 2,ci 0,.nils,.nils,ci 0,.nils,.nils,sU .wedit ([]:List WEdit) .unk,sU .kid ([]:List Kid) .unk,ci 0,.nils])]))))) ((Zla (p.ops,q.ops,()))/\(Q .ret (L2 [pL 4,pB 5 false] [(.loc 4,[ci 3,ci 0,.nils,.nils,ci 0,.nils,.nils,.nils,.nils,ci p.list,sU .op ([]:List Op) .unk])]))))))))))))))):
  ZD5 [] (L2 [(0,.agg (enc .edit p)),(1,.agg (enc .edit q))] []) Q:=
 (Eq.mpr V6 (h _ (Z3 _) _ (Z3 _) _ (Z3 _) _ (Z7 _) _ (Z7 _)):)
abbrev Ztt(p q:Edit):Prop:=AW (Z1 Zi1) Tryz.f111 Zjz [] (Zb (Zt9.can (p,q,())) []) (EQ Tryz.f111 (Zf6 (p,q,())) [])
theorem ZqR(c25:CT 25 JP)(ZsD:CT 85 Z6B)(ZsA:CT 164 Z6y)(Zsz:CT 165 Z6x)(Zsy:CT 166 Z6w)(hb:∀ (p:Edit) (q:Edit) (_:Unit),ZfB (p,q,())->Ztt p q):CT 111 Z3H:=
 Z0 (l:=[(25,JP),(85,Z6B),(164,Z6y),(165,Z6x),(166,Z6w)]) Za rfl (⟨c25,ZsD,ZsA,Zsz,Zsy,trivial⟩) Zjz Tryz.func111 rfl rfl 2 (fun _=> rfl) V5 (fun ⟨p,q,_⟩=> hb p q ())
def Zi2:List (FuncId × Fs U):=[(111,Z3H),(67,Z1e)]
abbrev ZD6(p:List Nat):=AW (Z1 Zi2) Tryz.f71 Zz8 p
theorem ZxT(p q:Edit)(Q:QT)(h:∀ u,u=p->∀ b,b=q->∀ s,s=b->((ZfB (u,b,()))/\(iB (!true) ((Q .ret (L2 [pL 4,pB 5 false] [(.loc 4,zc0)]))) ((Z0K (s,()))/\(Q .ret (L2 [pL 4,pB 5 true] [(.loc 4,(enc .edit (Zm s)))])))))):
  ZD6 [] (L2 [(0,.agg (enc .edit p)),(1,.agg (enc .edit q))] []) Q:=
 (Eq.mpr V6 (h _ (Z3 _) _ (Z3 _) _ (Z3 _)):)
abbrev Ztu(p q:Edit):Prop:=AW (Z1 Zi2) Tryz.f71 Zz8 [] (Zb (Zt9.can (p,q,())) []) (EQ Tryz.f71 (Zf7 (p,q,())) [])
theorem ZqS(ZsI:CT 111 Z3H)(c67:CT 67 Z1e)(hb:∀ (p:Edit) (q:Edit) (_:Unit),ZfC (p,q,())->Ztu p q):CT 71 Z3I:=
 Z0 (l:=[(111,Z3H),(67,Z1e)]) Za rfl (⟨ZsI,c67,trivial⟩) Zz8 Tryz.func71 rfl rfl 2 (fun _=> rfl) V5 (fun ⟨p,q,_⟩=> hb p q ())
def Zs1:List (FuncId × Fs U):=[(28,Z3F),(94,Z1d),(71,Z3I)]
def ZyY:Z6 U:=lvk [([0,3],[3,((.x 0),[])]),([0,3,9],[3,((.x 0),[])]),([4],[((.x 0),[])]),([0,3,12],[3,((.x 0),[])]),([4],[((.x 0),[])]),([0,3,5,6],[3,5,((.x 0),[])]),([0,3,5,6,26],[3,5,((.x 0),[])]),([4],[((.x 0),[])]),([0,5,7,8],[5,7,((.x 0),[])]),([0,5,7,43],[5,7,((.x 0),[])]),([4],[((.x 0),[])]),([],[((.x 0),[])]),([4],[((.x 0),[])])]
abbrev A62(p:List Nat):=AW (Z1 Zs1) Tryz.f62 ZyY p
theorem ZDl(dk:Int)(dw:List Int)(dc:List Tree)(dv ek eo:Int)(eow:List Int)(eok:List Tree)(en:Int)(enw:List Int)(enk:List Tree)(ew:List WEdit)(ec:List Kid)(li:Int)(eos:List Op)(e:Edit)(Q:QT)(h:∀ b,b=e->∀ s,s=(Zm b)->let z0:=Y5 b (Tree.mk dk dw dc);(iB false ((Q .ret (L2 [pI 4 1] [(.x 0,[ci dk,sU .u64 dw .unk,sU .tree dc .unk,ci dv,ci ek,ci eo,sU .u64 eow .unk,sU .tree eok .unk,ci en,sU .u64 enw .unk,sU .tree enk .unk,sU .wedit ew .unk,sU .kid ec .unk,ci li,sU .op eos .unk])]))) ((ZdQ (b,()))/\(iB (!(Z4 b 64)) ((Q .ret (L2 [pI 4 2] [(.x 0,[ci dk,sU .u64 dw .unk,sU .tree dc .unk,ci dv,ci ek,ci eo,sU .u64 eow .unk,sU .tree eok .unk,ci en,sU .u64 enw .unk,sU .tree enk .unk,sU .wedit ew .unk,sU .kid ec .unk,ci li,sU .op eos .unk])]))) ((Zhu (b,(Tree.mk dk dw dc),()))/\(iB (((z0.2):Int) !=0) ((Q .ret (L2 [pI 4 (z0.2)] [(.x 0,[ci dk,sU .u64 dw .unk,sU .tree dc .unk,ci dv,ci ek,ci eo,sU .u64 eow .unk,sU .tree eok .unk,ci en,sU .u64 enw .unk,sU .tree enk .unk,sU .wedit ew .unk,sU .kid ec .unk,ci li,sU .op eos .unk])]))) ((ZfC ((Edit.mk ek (Tree.mk eo eow eok) (Tree.mk en enw enk) ew ec li eos),b,()))/\((Tt (!(!true)))/\((!(!true))=true->ZdQ (s,()))/\(Tt (!(!true)))/\((!true)=false->(!(!true))=true)/\(iB (bif (!true) then true else (!(Z4 s 64))) ((Q .ret (L2 [pI 4 3] [(.x 0,[ci dk,sU .u64 dw .unk,sU .tree dc .unk,ci dv,ci ek,ci eo,sU .u64 eow .unk,sU .tree eok .unk,ci en,sU .u64 enw .unk,sU .tree enk .unk,sU .wedit ew .unk,sU .kid ec .unk,ci li,sU .op eos .unk])]))) ((Q .ret (L2 [pI 4 0] [(.x 0,(enc .tree (z0.1)++[ci dv]++enc .edit (Zm b)))])))))))))))):
  A62 [] (L2 [(0,.ptr (.x 0) 0),(1,.agg (enc .edit e))] [(.x 0,[ci dk,sU .u64 dw .unk,sU .tree dc .unk,ci dv,ci ek,ci eo,sU .u64 eow .unk,sU .tree eok .unk,ci en,sU .u64 enw .unk,sU .tree enk .unk,sU .wedit ew .unk,sU .kid ec .unk,ci li,sU .op eos .unk])]) Q:=
 (Eq.mpr V6 (h _ (Z3 _) _ (Z3 _)):)
abbrev ZAr(dk:Int)(dw:List Int)(dc:List Tree)(dv ek eo:Int)(eow:List Int)(eok:List Tree)(en:Int)(enw:List Int)(enk:List Tree)(ew:List WEdit)(ec:List Kid)(li:Int)(eos:List Op)(e:Edit):Prop:=AW (Z1 Zs1) Tryz.f62 ZyY [] (Zb (Zk7.can ((dk,dw,dc,dv,ek,eo,eow,eok,en,enw,enk,ew,ec,li,eos,()),e,())) (Zk7.canX ((dk,dw,dc,dv,ek,eo,eow,eok,en,enw,enk,ew,ec,li,eos,()),e,()))) (EQ Tryz.f62 (Zps ((dk,dw,dc,dv,ek,eo,eow,eok,en,enw,enk,ew,ec,li,eos,()),e,())) (ZiU ((dk,dw,dc,dv,ek,eo,eow,eok,en,enw,enk,ew,ec,li,eos,()),e,())))
theorem ZyC(c28:CT 28 Z3F)(c94:CT 94 Z1d)(ZsJ:CT 71 Z3I)(hb:∀ (dk:Int) (dw:List Int) (dc:List Tree) (dv:Int) (ek:Int) (eo:Int) (h:List Int) (s:List Tree) (en:Int) (u:List Int) (b:List Tree) (ew:List WEdit) (ec:List Kid) (li:Int) (aa:List Op) (e:Edit) (_:Unit),Zl8 ((dk,dw,dc,dv,ek,eo,h,s,en,u,b,ew,ec,li,aa,()),e,())->ZAr dk dw dc dv ek eo h s en u b ew ec li aa e):CT 62 Zb2:=
 Zl (l:=[(28,Z3F),(94,Z1d),(71,Z3I)]) Za rfl (⟨c28,c94,ZsJ,trivial⟩) ZyY Tryz.func62 rfl rfl 2 (fun _=> rfl) V5 (fun ⟨⟨dk,dw,dc,dv,ek,eo,h,s,en,u,b,ew,ec,li,aa,_⟩,e,_⟩=> hb dk dw dc dv ek eo h s en u b ew ec li aa e ())
def ZjP:List (FuncId × Fs U):=[(60,Zb5),(93,Z3y),(94,Z1d),(50,Zb8)]
def Zvg:Z6 U:=lvk [([0,1],[((.x 0),[]),((.x 1),[])]),([0,1,14],[((.x 0),[]),((.x 1),[])]),([4],[((.x 0),[]),((.x 1),[])]),([0,1,5,6],[((.x 0),[]),((.x 1),[])]),([0,1,5,6,25],[((.x 0),[]),((.x 1),[])]),([4],[((.x 0),[]),((.x 1),[])]),([0,1,5,6,7,8],[7,((.x 0),[]),((.x 1),[])]),([0,1,5,6,7,8,38],[7,((.x 0),[]),((.x 1),[])]),([4],[((.x 0),[]),((.x 1),[])]),([0,1,5,7,8,9],[7,9,((.x 0),[]),((.x 1),[])]),([0,1,5,7,9,44,45,46],[7,9,((.x 0),[]),((.x 1),[])]),([0,1,5,7,9,44,45,46,47],[7,9,((.x 0),[]),((.x 1),[])]),([0,1,5,7,9,11,44,45,46],[7,9,11,((.x 0),[]),((.x 1),[])]),([0,1,5,6,7,9,44,45,46],[7,9,((.x 0),[]),((.x 1),[])]),([0,1,5,6,7,9,44,45,46,57],[7,9,((.x 0),[]),((.x 1),[])]),([4],[((.x 0),[]),((.x 1),[])]),([0,1,5,7,9,44,45,46],[7,9,((.x 0),[]),((.x 1),[])]),([0,1,5,7,9,62],[7,9,((.x 0),[]),((.x 1),[])]),([],[((.x 0),[]),((.x 1),[])]),([4],[((.x 0),[]),((.x 1),[])]),([0,6,9,12],[9,((.x 0),[]),((.x 1),[])]),([0,6,9,12,95],[9,((.x 0),[]),((.x 1),[])]),([4],[((.x 0),[]),((.x 1),[])]),([],[((.x 0),[]),((.x 1),[])]),([4],[((.x 0),[]),((.x 1),[])])]
def Z7M(dk:Int)(dw:List Int)(dc:List Tree)(dv ek eo:Int)(eow:List Int)(eok:List Tree)(en:Int)(enw:List Int)(enk:List Tree)(ew:List WEdit)(ec:List Kid)(li:Int)(eos:List Op)(hk:Int)(hw:List Int)(hc:List Tree)(hl:List Edit)(u h:Int)(s:List Int)(b:List Tree):LSt U:=(L2 [(0,.ptr (.x 0) 0),(1,.ptr (.x 1) 0),(5,.c (sU .edit ((Z0J dv (HubT.mk (Tree.mk hk hw hc) hl)).1) (.own (.e 5 0)))),pL 7,pL 9,(44,.c (sU .edit ((Z0G ((Z0J dv (HubT.mk (Tree.mk hk hw hc) hl)).1) (Edit.mk ek (Tree.mk eo eow eok) (Tree.mk en enw enk) ew ec li eos) []).2.1) (.own (.e 44 0)))),(45,.c (ci (((Z0G ((Z0J dv (HubT.mk (Tree.mk hk hw hc) hl)).1) (Edit.mk ek (Tree.mk eo eow eok) (Tree.mk en enw enk) ew ec li eos) []).2.1).length:Int))),pI 46 u] [(.loc 7,(enc .edit ((Z0G ((Z0J dv (HubT.mk (Tree.mk hk hw hc) hl)).1) (Edit.mk ek (Tree.mk eo eow eok) (Tree.mk en enw enk) ew ec li eos) []).1))),(.loc 9,[ci h,sU .u64 s .unk,sU .tree b .unk]),(.x 0,[ci dk,sU .u64 dw .unk,sU .tree dc .unk,ci dv,ci ek,ci eo,sU .u64 eow .unk,sU .tree eok .unk,ci en,sU .u64 enw .unk,sU .tree enk .unk,sU .wedit ew .unk,sU .kid ec .unk,ci li,sU .op eos .unk]),(.x 1,[ci hk,sU .u64 hw .unk,sU .tree hc .unk,sU .edit hl .unk])])
abbrev A57(p:List Nat):=AW (Z1 ZjP) Tryz.f57 Zvg p
abbrev S57(p:List Nat):=SW (Z1 ZjP) Tryz.f57 Zvg p
theorem ZDp(dk:Int)(dw:List Int)(dc:List Tree)(dv ek eo:Int)(eow:List Int)(eok:List Tree)(en:Int)(enw:List Int)(enk:List Tree)(ew:List WEdit)(ec:List Kid)(li:Int)(eos:List Op)(hk:Int)(hw:List Int)(hc:List Tree)(hl:List Edit)(Q:QT)(h:∀ b,b=(Edit.mk ek (Tree.mk eo eow eok) (Tree.mk en enw enk) ew ec li eos)->∀ s,s=(Z0G ((Z0J dv (HubT.mk (Tree.mk hk hw hc) hl)).1) b [])->let z0:=Z0J dv (HubT.mk (Tree.mk hk hw hc) hl);(iB false ((Q .ret (L2 [pI 4 1] [(.x 0,[ci dk,sU .u64 dw .unk,sU .tree dc .unk,ci dv,ci ek,ci eo,sU .u64 eow .unk,sU .tree eok .unk,ci en,sU .u64 enw .unk,sU .tree enk .unk,sU .wedit ew .unk,sU .kid ec .unk,ci li,sU .op eos .unk]),(.x 1,[ci hk,sU .u64 hw .unk,sU .tree hc .unk,sU .edit hl .unk])]))) ((Zqb ((hk,hw,hc,hl,()),dv,()))/\(iB (((z0.2):Int) !=0) ((Q .ret (L2 [(4,.c (ci (z0.2)))] [(.x 0,[ci dk,sU .u64 dw .unk,sU .tree dc .unk,ci dv,ci ek,ci eo,sU .u64 eow .unk,sU .tree eok .unk,ci en,sU .u64 enw .unk,sU .tree enk .unk,sU .wedit ew .unk,sU .kid ec .unk,ci li,sU .op eos .unk]),(.x 1,[ci hk,sU .u64 hw .unk,sU .tree hc .unk,sU .edit hl .unk])]))) ((Zl6 (b,(z0.1),()))/\(iB (((s.2.2):Int) !=0) ((Q .ret (L2 [pI 4 (s.2.2)] [(.x 0,[ci dk,sU .u64 dw .unk,sU .tree dc .unk,ci dv,ci ek,ci eo,sU .u64 eow .unk,sU .tree eok .unk,ci en,sU .u64 enw .unk,sU .tree enk .unk,sU .wedit ew .unk,sU .kid ec .unk,ci li,sU .op eos .unk]),(.x 1,[ci hk,sU .u64 hw .unk,sU .tree hc .unk,sU .edit hl .unk])]))) ((Zp (A57 [1,1,1,1,1,1,1,0,1,0,0]) (Z7M dk dw dc dv ek eo eow eok en enw enk ew ec li eos hk hw hc hl 0 dk dw dc) (xB 0 (S57 [1,1,1,1,1,1,1,1] Q)))))))))):
  A57 [] (L2 [(0,.ptr (.x 0) 0),(1,.ptr (.x 1) 0)] [(.x 0,[ci dk,sU .u64 dw .unk,sU .tree dc .unk,ci dv,ci ek,ci eo,sU .u64 eow .unk,sU .tree eok .unk,ci en,sU .u64 enw .unk,sU .tree enk .unk,sU .wedit ew .unk,sU .kid ec .unk,ci li,sU .op eos .unk]),(.x 1,[ci hk,sU .u64 hw .unk,sU .tree hc .unk,sU .edit hl .unk])]) Q:=
 (Eq.mpr V6 (h _ rfl _ rfl):)
theorem ZtP(dk:Int)(dw:List Int)(dc:List Tree)(dv ek eo:Int)(eow:List Int)(eok:List Tree)(en:Int)(enw:List Int)(enk:List Tree)(ew:List WEdit)(ec:List Kid)(li:Int)(eos:List Op)(hk:Int)(hw:List Int)(hc:List Tree)(hl:List Edit)(ab s:Int)(u:List Int)(aa:List Tree)(N0:NT)(Q:QT)(h:∀ ae,ae=(Edit.mk ek (Tree.mk eo eow eok) (Tree.mk en enw enk) ew ec li eos)->∀ b,b=(Z0G ((Z0J dv (HubT.mk (Tree.mk hk hw hc) hl)).1) ae [])->∀ ah,ah=(HubT.now ((Jt dv ae (HubT.mk (Tree.mk hk hw hc) hl)).1))->∀ ai,ai=(List.getD (b.2.1) ab.toNat Edit.nil)->∀ af,af=ai->let z2:=HubT.mk (Tree.mk hk hw hc) hl;let z1:=Y5 af (Tree.mk s u aa);let z0:=Jt dv ae z2;(iB (decide (ab < ((b.2.1).length:Int))) (((0:Int)<=ab/\ab < ((b.2.1).length:Int))/\((Zhu (af,(Tree.mk s u aa),()))/\(iB (((z1.2):Int) !=0) ((Q .ret (L2 [pI 4 (z1.2)] [(.x 0,[ci dk,sU .u64 dw .unk,sU .tree dc .unk,ci dv,ci ek,ci eo,sU .u64 eow .unk,sU .tree eok .unk,ci en,sU .u64 enw .unk,sU .tree enk .unk,sU .wedit ew .unk,sU .kid ec .unk,ci li,sU .op eos .unk]),(.x 1,[ci hk,sU .u64 hw .unk,sU .tree hc .unk,sU .edit hl .unk])]))) ((InR (ab+1))/\(N0 (Z7M dk dw dc dv ek eo eow eok en enw enk ew ec li eos hk hw hc hl (ab+1) (Tree.kind (z1.1)) (Tree.words (z1.1)) (Tree.kids (z1.1)))))))) ((iB (((Edit.kind (b.1)):Int)==0) ((InR (dv+(((Z0J dv z2).1).length:Int)))/\(Q .ret (L2 [pI 4 0] [(.x 0,([ci s,sU .u64 u .unk,sU .tree aa .unk,ci (dv+(((Z0J dv z2).1).length:Int)),ci (Edit.kind (b.1))]++enc .tree (Edit.old (b.1))++enc .tree (Edit.new (b.1))++[sU .wedit (Edit.words (b.1)) .unk,sU .kid (Edit.kids (b.1)) .unk,ci (Edit.list (b.1)),sU .op (Edit.ops (b.1)) .unk])),(.x 1,[ci hk,sU .u64 hw .unk,sU .tree hc .unk,sU .edit hl .unk])]))) ((Zqd ((hk,hw,hc,hl,()),dv,ae,()))/\(iB (((z0.2.2):Int) !=0) ((Q .ret (L2 [(4,.c (ci (z0.2.2)))] [(.x 0,[ci dk,sU .u64 dw .unk,sU .tree dc .unk,ci dv,ci ek,ci eo,sU .u64 eow .unk,sU .tree eok .unk,ci en,sU .u64 enw .unk,sU .tree enk .unk,sU .wedit ew .unk,sU .kid ec .unk,ci li,sU .op eos .unk]),(.x 1,(enc .tree ah++[sU .edit (HubT.log (z0.1)) .unk]))]))) ((Q .ret (L2 [pI 4 0] [(.x 0,[ci s,sU .u64 u .unk,sU .tree aa .unk,ci (z0.2.1),ci 0,ci 0,.nils,.nils,ci 0,.nils,.nils,.nils,.nils,ci 0,.nils]),(.x 1,(enc .tree ah++[sU .edit (HubT.log (z0.1)) .unk]))]))))))))):
  A57 [1,1,1,1,1,1,1,0,1,0,0] (Z7M dk dw dc dv ek eo eow eok en enw enk ew ec li eos hk hw hc hl ab s u aa) (xT N0 (xB 0 (S57 [1,1,1,1,1,1,1,1] Q))):=
 (Eq.mpr V6 (h _ rfl _ rfl _ rfl _ rfl _ (Z3 _)):)
abbrev ZAv(dk:Int)(dw:List Int)(dc:List Tree)(dv ek eo:Int)(eow:List Int)(eok:List Tree)(en:Int)(enw:List Int)(enk:List Tree)(ew:List WEdit)(ec:List Kid)(li:Int)(eos:List Op)(hk:Int)(hw:List Int)(hc:List Tree)(hl:List Edit):Prop:=AW (Z1 ZjP) Tryz.f57 Zvg [] (Zb (Zkb.can ((dk,dw,dc,dv,ek,eo,eow,eok,en,enw,enk,ew,ec,li,eos,()),(hk,hw,hc,hl,()),())) (Zkb.canX ((dk,dw,dc,dv,ek,eo,eow,eok,en,enw,enk,ew,ec,li,eos,()),(hk,hw,hc,hl,()),()))) (EQ Tryz.f57 (Zpw ((dk,dw,dc,dv,ek,eo,eow,eok,en,enw,enk,ew,ec,li,eos,()),(hk,hw,hc,hl,()),())) (ZiX ((dk,dw,dc,dv,ek,eo,eow,eok,en,enw,enk,ew,ec,li,eos,()),(hk,hw,hc,hl,()),())))
theorem ZyG(c60:CT 60 Zb5)(c93:CT 93 Z3y)(c94:CT 94 Z1d)(c50:CT 50 Zb8)(hb:∀ (dk:Int) (dw:List Int) (dc:List Tree) (dv:Int) (ek:Int) (eo:Int) (aa:List Int) (h:List Tree) (en:Int) (s:List Int) (b:List Tree) (ew:List WEdit) (ec:List Kid) (li:Int) (u:List Op) (hk:Int) (hw:List Int) (hc:List Tree) (hl:List Edit) (_:Unit),Zhw ((dk,dw,dc,dv,ek,eo,aa,h,en,s,b,ew,ec,li,u,()),(hk,hw,hc,hl,()),())->ZAv dk dw dc dv ek eo aa h en s b ew ec li u hk hw hc hl):CT 57 Zb7:=
 Zl (l:=[(60,Zb5),(93,Z3y),(94,Z1d),(50,Zb8)]) Za rfl (⟨c60,c93,c94,c50,trivial⟩) Zvg Tryz.func57 rfl rfl 2 (fun _=> rfl) V5 (fun ⟨⟨dk,dw,dc,dv,ek,eo,aa,h,en,s,b,ew,ec,li,u,_⟩,⟨hk,hw,hc,hl,_⟩,_⟩=> hb dk dw dc dv ek eo aa h en s b ew ec li u hk hw hc hl ())
def ZyS:Z6 U:=lvl [([0,1,2,6],[6]),([6],[6])]
abbrev A92(p:List Nat):=AW (Z1 ZjN) Tryz.f92 ZyS p
theorem ZDa(at_ old now:Int)(Q:QT)(h:(Q .ret (L2 [pL 6] [(.loc 6,[ci 2,ci 0,.nils,.nils,ci 0,.nils,.nils,sU .wedit ([(WEdit.mk at_ 1 old now)]) .full,.nils,ci 0,.nils])]))):
  A92 [] (L2 [pI 0 at_,(1,.c (.int .u64 old)),(2,.c (.int .u64 now))] []) Q:=
 (Eq.mpr V6 h:)
abbrev ZAg(at_ old now:Int):Prop:=AW (Z1 ZjN) Tryz.f92 ZyS [] (Zb (ZsU.can (at_,old,now,())) []) (EQ Tryz.f92 (Zpr (at_,old,now,())) [])
theorem Zyv(hb:∀ (at_:Int) (old:Int) (now:Int) (_:Unit),Zl7 (at_,old,now,())->ZAg at_ old now):CT 92 ZaX:=
 Z0 (l:=[]) Za rfl trivial ZyS Tryz.func92 rfl rfl 3 (fun _=> rfl) V5 (fun ⟨at_,old,now,_⟩=> hb at_ old now ())
def Zs8:List (FuncId × Fs U):=[(49,Z3B),(61,Z88),(92,ZaX),(62,Zb2),(57,Zb7),(51,Z3A),(59,Zb6),(26,Zbe)]
def Zz5:Z6 U:=lvl [([],[]),([1],[14]),([1,2,3],[14,16,18]),([1,2,3],[14,16,18]),([1,2,3],[14,16,18]),([1,2,4,5,6],[14,16]),([2,4,5,6,7,8],[7,16]),([4,5,6,7,8,9,10],[7,9]),([0],[])]
abbrev A48(p:List Nat):=AW (Z1 Zs8) Tryz.f48 Zz5 p
theorem ZDt(Q:QT)(h:∀ ar,ar=(Edit.nil)->∀ au,au=(Z3N 0 1 2)->∀ av,av=(Z3N 1 1 3)->∀ ah,ah=(Z5 (Tree.mk 1 ([1,1]) []))->∀ ab,ab=(Z0B au (DeskT.mk ah (([]:List Edit).length:Int) ar))->∀ ae,ae=(Z0B av (DeskT.mk ah (([]:List Edit).length:Int) ar))->∀ aw,aw=(DeskT.now (ab.1))->∀ ay,ay=(DeskT.now (ae.1))->∀ ax,ax=(DeskT.pending (ab.1))->∀ ai,ai=(DeskT.pending (ae.1))->∀ b,b=(Z02 (DeskT.mk aw (DeskT.version (ab.1)) ax) (HubT.mk ah ([]:List Edit)))->∀ aj,aj=(HubT.now (b.1.2))->∀ aq,aq=(DeskT.now (b.1.1))->∀ ao,ao=(DeskT.pending (b.1.1))->∀ u,u=(Z02 (DeskT.mk ay (DeskT.version (ae.1)) ai) (HubT.mk aj (HubT.log (b.1.2))))->∀ ak,ak=(HubT.now (u.1.2))->∀ s,s=(Z02 (DeskT.mk aq (DeskT.version (b.1.1)) ao) (HubT.mk ak (HubT.log (u.1.2))))->∀ al,al=(HubT.now (s.1.2))->∀ am,am=(DeskT.now (s.1.1))->∀ aa,aa=al->∀ af,af=am->let z20:=DeskT.now (ae.1);let z19:=DeskT.now (ab.1);let z18:=HubT.now (s.1.2);let z17:=HubT.now (u.1.2);let z16:=HubT.now (b.1.2);let z15:=DeskT.now (s.1.1);let z14:=DeskT.now (b.1.1);let z13:=((b.2):Int)==0;let z11:=Edit.new (Edit.nil);let z10:=Edit.old (Edit.nil);let z9:=bif z13 then (((u.2):Int)==0) else false;let z7:=DeskT.pending (ae.1);let z6:=DeskT.pending (ab.1);let z5:=DeskT.pending (s.1.1);let z4:=DeskT.pending (b.1.1);let z2:=Z5 (Tree.mk 1 ([1,1]) []);let z12:=Zld (((Tree.kind z2),(Tree.words z2),(Tree.kids z2),([]:List Edit),()),());let z1:=bif z9 then (((s.2):Int)==0) else false;let z8:=bif z1 then ((((HubT.log (s.1.2)).length:Int):Int)==2) else false;let z0:=bif z8 then (((DeskT.version (s.1.1)):Int)==2) else false;let z3:=bif z0 then (ZW aa (Tree.mk 1 ([2,3]) [])) else false;((Zhx ((Tree.mk 1 ([1,1]) []),()))/\(z12/\z12/\((Zl7 (0,1,2,()))/\(Zl8 (((Tree.kind z2),(Tree.words z2),(Tree.kids z2),(([]:List Edit).length:Int),(Edit.kind (Edit.nil)),(Tree.kind z10),(Tree.words z10),(Tree.kids z10),(Tree.kind z11),(Tree.words z11),(Tree.kids z11),(Edit.words (Edit.nil)),(Edit.kids (Edit.nil)),(Edit.list (Edit.nil)),(Edit.ops (Edit.nil)),()),au,()))/\((Zl7 (1,1,3,()))/\(Zl8 (((Tree.kind z2),(Tree.words z2),(Tree.kids z2),(([]:List Edit).length:Int),(Edit.kind (Edit.nil)),(Tree.kind z10),(Tree.words z10),(Tree.kids z10),(Tree.kind z11),(Tree.words z11),(Tree.kids z11),(Edit.words (Edit.nil)),(Edit.kids (Edit.nil)),(Edit.list (Edit.nil)),(Edit.ops (Edit.nil)),()),av,()))/\((Zhw (((Tree.kind z19),(Tree.words z19),(Tree.kids z19),(DeskT.version (ab.1)),(Edit.kind z6),(Tree.kind (Edit.old z6)),(Tree.words (Edit.old z6)),(Tree.kids (Edit.old z6)),(Tree.kind (Edit.new z6)),(Tree.words (Edit.new z6)),(Tree.kids (Edit.new z6)),(Edit.words z6),(Edit.kids z6),(Edit.list z6),(Edit.ops z6),()),((Tree.kind z2),(Tree.words z2),(Tree.kids z2),([]:List Edit),()),()))/\(Zhw (((Tree.kind z20),(Tree.words z20),(Tree.kids z20),(DeskT.version (ae.1)),(Edit.kind z7),(Tree.kind (Edit.old z7)),(Tree.words (Edit.old z7)),(Tree.kids (Edit.old z7)),(Tree.kind (Edit.new z7)),(Tree.words (Edit.new z7)),(Tree.kids (Edit.new z7)),(Edit.words z7),(Edit.kids z7),(Edit.list z7),(Edit.ops z7),()),((Tree.kind z16),(Tree.words z16),(Tree.kids z16),(HubT.log (b.1.2)),()),()))/\(Zhw (((Tree.kind z14),(Tree.words z14),(Tree.kids z14),(DeskT.version (b.1.1)),(Edit.kind z4),(Tree.kind (Edit.old z4)),(Tree.words (Edit.old z4)),(Tree.kids (Edit.old z4)),(Tree.kind (Edit.new z4)),(Tree.words (Edit.new z4)),(Tree.kids (Edit.new z4)),(Edit.words z4),(Edit.kids z4),(Edit.list z4),(Edit.ops z4),()),((Tree.kind z17),(Tree.words z17),(Tree.kids z17),(HubT.log (u.1.2)),()),()))/\((Zld (((Tree.kind z18),(Tree.words z18),(Tree.kids z18),(HubT.log (s.1.2)),()),()))/\((Zqc (((Tree.kind z15),(Tree.words z15),(Tree.kids z15),(DeskT.version (s.1.1)),(Edit.kind z5),(Tree.kind (Edit.old z5)),(Tree.words (Edit.old z5)),(Tree.kids (Edit.old z5)),(Tree.kind (Edit.new z5)),(Tree.words (Edit.new z5)),(Tree.kids (Edit.new z5)),(Edit.words z5),(Edit.kids z5),(Edit.list z5),(Edit.ops z5),()),()))/\((Tt z13)/\(Tt z13)/\(Tt z9)/\(Tt z9)/\(Tt z1)/\(Tt z1)/\(Tt z8)/\(Tt z8)/\(Tt z0)/\(Tt z0)/\(Tt z0)/\(z0=true->Z9c (aa,(Tree.mk 1 ([2,3]) []),()))/\(Tt z0)/\(Tt z3)/\(Tt z3)/\(z3=true->Z9c (af,aa,()))/\(Tt z3)/\(Q .ret (L2 [(0,.c (.bool (bif z3 then (ZW af aa) else false)))] []))))))))))):
  A48 [] (L2 [] []) Q:=
 (Eq.mpr V6 (h _ (Z3 _) _ (Z3 _) _ (Z3 _) _ (Z7 _) _ rfl _ rfl _ (Z7 _) _ (Z7 _) _ (Z3 _) _ (Z3 _) _ rfl _ (Z7 _) _ (Z7 _) _ (Z3 _) _ rfl _ (Z7 _) _ rfl _ (Z7 _) _ (Z7 _) _ (Z7 _) _ (Z7 _)):)
abbrev ZAz:Prop:=AW (Z1 Zs8) Tryz.f48 Zz5 [] (Zb (Zn6.can ()) []) (EQ Tryz.f48 (ZwU ()) [])
theorem ZyK(c49:CT 49 Z3B)(c61:CT 61 Z88)(c92:CT 92 ZaX)(c62:CT 62 Zb2)(c57:CT 57 Zb7)(c51:CT 51 Z3A)(c59:CT 59 Zb6)(c26:CT 26 Zbe)(hb:∀ (_:Unit),Z8k ()->ZAz):CT 48 Zb9:=
 Z0 (l:=[(49,Z3B),(61,Z88),(92,ZaX),(62,Zb2),(57,Zb7),(51,Z3A),(59,Zb6),(26,Zbe)]) Za rfl (⟨c49,c61,c92,c62,c57,c51,c59,c26,trivial⟩) Zz5 Tryz.func48 rfl rfl 0 (fun _=> rfl) V5 (fun _=> hb ())
end
noncomputable section
def Zle(a:Edit × List Edit × Unit):Prop:=False
def Zu0(a:Edit × List Edit × Unit):V U:= .tup [(true,(enc .edit Edit.nil)),(false,[sU .edit ([]:List Edit) .unk]),(false,[ci 0])]
def Z6A:Fs U:=fs ZsT (fun a=> [Zle a]) Zu0
def Zu7(a:Edit × Tree × Unit):Prop:=False
def ZtZ(a:Edit × Tree × Unit):V U:= .tup [(true,(enc .tree Tree.nil)),(false,[ci 0])]
def Z6z:Fs U:=fs Z8T (fun a=> [Zu7 a]) ZtZ
def Zix:ArgL (Unit × Unit):=(.cons Z9X .nil)
def Zfv(a:Unit × Unit):Prop:=True
def ZkU(a:Unit × Unit):V U:= .tup [(true,(enc .tree Tree.nil)),(false,[ci 0])]
def Z3E:Fs U:=fs Zix (fun a=> [Zfv a]) ZkU
def Ziy:ArgL (Unit × Int × Edit × Unit):=(.cons Z9X (.cons (YR .i64) (.cons (aEl .edit) .nil)))
def Zfw(a:Unit × Int × Edit × Unit):Prop:=True
def ZkV(a:Unit × Int × Edit × Unit):V U:= .tup [(false,[ci 0]),(false,[ci 1])]
def Z0r:Fs U:=fs Ziy (fun a=> [Zfw a]) ZkV
def Ziu:ArgL (Unit × Int × Unit):=(.cons Z9X (.cons (YR .i64) .nil))
def Zao(a:Unit × Int × Unit):Prop:=True
def ZkR(a:Unit × Int × Unit):V U:= .tup [(false,[sU .edit ([]:List Edit) .unk]),(false,[ci 1])]
def Z0q:Fs U:=fs Ziu (fun a=> [Zao a]) ZkR
def ZkS(a:Unit × Unit):V U:= .tup [(true,(enc .tree Tree.nil)),(false,[ci 0]),(true,(enc .edit Edit.nil))]
def Z3D:Fs U:=fs Zix (fun a=> [Zfv a]) ZkS
def ZkQ(a:Unit × Unit):V U:= .c (.nilp)
def Zbc:Fs U:=fs Zix (fun a=> [Zfv a]) ZkQ
def Zis:ArgL (Unit × Edit × Unit):=(.cons Z9X (.cons (aEl .edit) .nil))
def Zfr(a:Unit × Edit × Unit):Prop:=True
def ZkP(a:Unit × Edit × Unit):V U:= .c (ci 1)
def Z3C:Fs U:=fs Zis (fun a=> [Zfr a]) ZkP
def Ziw:ArgL (Unit × Unit × Unit):=(.cons Z9X (.cons Z9X .nil))
def Zfu(a:Unit × Unit × Unit):Prop:=True
def ZkT(a:Unit × Unit × Unit):V U:= .c (ci 1)
def Zbd:Fs U:=fs Ziw (fun a=> [Zfu a]) ZkT
def Zd4:ArgM ((Int × List Int × List Tree × Int × Int × Int × List Int × List Tree × Int × List Int × List Tree × List WEdit × List Kid × Int × List Op × Unit) × Unit × Unit):=(.obj 0 (.cons (Yk .i64) (.cons (cSl .u64) (.cons (cSl .tree) (.cons (Yk .i64) (.cons (Yk .i64) (.cons (Yk .i64) (.cons (cSl .u64) (.cons (cSl .tree) (.cons (Yk .i64) (.cons (cSl .u64) (.cons (cSl .tree) (.cons (cSl .wedit) (.cons (cSl .kid) (.cons (Yk .i64) (.cons (cSl .op) .nil))))))))))))))) (.cons Z9X .nil))
def Zfp(a:(Int × List Int × List Tree × Int × Int × Int × List Int × List Tree × Int × List Int × List Tree × List WEdit × List Kid × Int × List Op × Unit) × Unit × Unit):Prop:=True
def Zf2(a:(Int × List Int × List Tree × Int × Int × Int × List Int × List Tree × Int × List Int × List Tree × List WEdit × List Kid × Int × List Op × Unit) × Unit × Unit):V U:= .c (ci 1)
def Zbu(a:(Int × List Int × List Tree × Int × Int × Int × List Int × List Tree × Int × List Int × List Tree × List WEdit × List Kid × Int × List Op × Unit) × Unit × Unit):List (List (C U)):=[[ci a.1.1,sU .u64 a.1.2.1 .unk,sU .tree a.1.2.2.1 .unk,ci a.1.2.2.2.1,ci a.1.2.2.2.2.1,ci a.1.2.2.2.2.2.1,sU .u64 a.1.2.2.2.2.2.2.1 .unk,sU .tree a.1.2.2.2.2.2.2.2.1 .unk,ci a.1.2.2.2.2.2.2.2.2.1,sU .u64 a.1.2.2.2.2.2.2.2.2.2.1 .unk,sU .tree a.1.2.2.2.2.2.2.2.2.2.2.1 .unk,sU .wedit a.1.2.2.2.2.2.2.2.2.2.2.2.1 .unk,sU .kid a.1.2.2.2.2.2.2.2.2.2.2.2.2.1 .unk,ci a.1.2.2.2.2.2.2.2.2.2.2.2.2.2.1,sU .op a.1.2.2.2.2.2.2.2.2.2.2.2.2.2.2.1 .unk]]
def Zb4:Fs U:=fsX Zd4 (fun a=> [Zfp a]) Zf2 Zbu
def Zg9:Z6 U:=lvl [([0,2],[2]),([0,2,5],[2]),([2,3],[2]),([2,3],[])]
abbrev ZxF(p:List Nat):=AW (Z1 ZjN) Tryz.f51 Zg9 p
abbrev ZCS(p:List Nat):=SW (Z1 ZjN) Tryz.f51 Zg9 p
theorem ZxQ(zh:Unit)(Q:QT)(h:(iB true ((Q .ret (L2 [pL 2,pI 3 0] [(.loc 2,[ci 0,.nils,.nils])]))) (ZxF [1,0,1,1] (L2 [(0,.c (.nilp)),pL 2,pB 5 true] [(.loc 2,[ci 0,.nils,.nils])]) (ZCS [1,1] Q)))):
  ZxF [] (L2 [(0,.c (.nilp))] []) Q:=
 (Eq.mpr V6 h:)
abbrev Ztr(zh:Unit):Prop:=AW (Z1 ZjN) Tryz.f51 Zg9 [] (Zb (Zix.can (zh,())) []) (EQ Tryz.f51 (ZkU (zh,())) [])
theorem ZqP(hb:∀ (b:Unit) (_:Unit),Zfv (b,())->Ztr b):CT 51 Z3E:=
 Z0 (l:=[]) Za rfl trivial Zg9 Tryz.func51 rfl rfl 1 (fun _=> rfl) V5 (fun ⟨b,_⟩=> hb b ())
def Zga:Z6 U:=lvl [([0,1,5],[5]),([0,1,5,12],[5]),([6,7],[]),([0,1,5,15],[]),([6,7],[]),([0,8,10],[]),([0,8,10,45],[]),([6,7],[]),([0,8,10,11],[]),([0,8,10,11,57],[]),([6,7],[]),([0],[]),([6,7],[])]
abbrev ZxG(p:List Nat):=AW (Z1 ZjN) Tryz.f50 Zga p
abbrev ZCT(p:List Nat):=SW (Z1 ZjN) Tryz.f50 Zga p
theorem ZxR(zh:Unit)(v:Int)(e:Edit)(Q:QT)(h:(iB true ((Q .ret (L2 [pI 6 0,pI 7 1] []))) (ZxG [1,0,0,1,1] (L2 [(0,.c (.nilp)),pI 1 v,pL 5,pB 12 true] [(.loc 5,(enc .edit e))]) (xB 0 (ZCT [1,1] Q))))):
  ZxG [] (L2 [(0,.c (.nilp)),pI 1 v,(2,.agg (enc .edit e))] []) Q:=
 (Eq.mpr V6 h:)
abbrev Zts(zh:Unit)(v:Int)(e:Edit):Prop:=AW (Z1 ZjN) Tryz.f50 Zga [] (Zb (Ziy.can (zh,v,e,())) []) (EQ Tryz.f50 (ZkV (zh,v,e,())) [])
theorem ZqQ(hb:∀ (b:Unit) (v:Int) (e:Edit) (_:Unit),Zfw (b,v,e,())->Zts b v e):CT 50 Z0r:=
 Z0 (l:=[]) Za rfl trivial Zga Tryz.func50 rfl rfl 3 (fun _=> rfl) V5 (fun ⟨b,v,e,_⟩=> hb b v e ())
def Zg6:Z6 U:=lvl [([0,1],[]),([0,1,6],[]),([4,5],[]),([0,1,9],[]),([4,5],[]),([4,5],[])]
abbrev ZxC(p:List Nat):=AW (Z1 ZjN) Tryz.f60 Zg6 p
abbrev ZCP(p:List Nat):=SW (Z1 ZjN) Tryz.f60 Zg6 p
theorem ZxN(zh:Unit)(v:Int)(Q:QT)(h:(iB true ((Q .ret (L2 [(4,.c (.nils)),pI 5 1] []))) (ZxC [1,0,0,1,1] (L2 [(0,.c (.nilp)),pI 1 v,pB 6 true] []) (xB 0 (ZCP [1,1] Q))))):
  ZxC [] (L2 [(0,.c (.nilp)),pI 1 v] []) Q:=
 (Eq.mpr V6 h:)
abbrev Zto(zh:Unit)(v:Int):Prop:=AW (Z1 ZjN) Tryz.f60 Zg6 [] (Zb (Ziu.can (zh,v,())) []) (EQ Tryz.f60 (ZkR (zh,v,())) [])
theorem ZqM(hb:∀ (b:Unit) (v:Int) (_:Unit),Zao (b,v,())->Zto b v):CT 60 Z0q:=
 Z0 (l:=[]) Za rfl trivial Zg6 Tryz.func60 rfl rfl 2 (fun _=> rfl) V5 (fun ⟨b,v,_⟩=> hb b v ())
def Zg7:Z6 U:=lvl [([0,2,4],[2,4]),([0,2,4,6],[2,4]),([2,3,4],[2,4]),([2,3,4],[])]
abbrev ZxD(p:List Nat):=AW (Z1 ZjN) Tryz.f59 Zg7 p
abbrev ZCQ(p:List Nat):=SW (Z1 ZjN) Tryz.f59 Zg7 p
theorem ZxO(x:Unit)(Q:QT)(h:(iB true ((Q .ret (L2 [pL 2,pI 3 0,pL 4] [(.loc 2,[ci 0,.nils,.nils]),(.loc 4,zc0)]))) (ZxD [1,0,1,1] (L2 [(0,.c (.nilp)),pL 2,pL 4,pB 6 true] [(.loc 2,[ci 0,.nils,.nils]),(.loc 4,zc0)]) (ZCQ [1,1] Q)))):
  ZxD [] (L2 [(0,.c (.nilp))] []) Q:=
 (Eq.mpr V6 h:)
abbrev Ztp(x:Unit):Prop:=AW (Z1 ZjN) Tryz.f59 Zg7 [] (Zb (Zix.can (x,())) []) (EQ Tryz.f59 (ZkS (x,())) [])
theorem ZqN(hb:∀ (x:Unit) (_:Unit),Zfv (x,())->Ztp x):CT 59 Z3D:=
 Z0 (l:=[]) Za rfl trivial Zg7 Tryz.func59 rfl rfl 1 (fun _=> rfl) V5 (fun ⟨x,_⟩=> hb x ())
def Zg5:Z6 U:=lvl [([0],[]),([0,6],[]),([2],[]),([3,4],[]),([2],[])]
abbrev ZxB(p:List Nat):=AW (Z1 ZjN) Tryz.f61 Zg5 p
abbrev ZCO(p:List Nat):=SW (Z1 ZjN) Tryz.f61 Zg5 p
theorem ZxM(zh:Unit)(Q:QT)(h:(iB true ((Q .ret (L2 [(2,.c (.nilp))] []))) (ZxB [1,0,1,1] (L2 [(0,.c (.nilp)),pB 6 true] []) (ZCO [1,1] Q)))):
  ZxB [] (L2 [(0,.c (.nilp))] []) Q:=
 (Eq.mpr V6 h:)
abbrev Ztn(zh:Unit):Prop:=AW (Z1 ZjN) Tryz.f61 Zg5 [] (Zb (Zix.can (zh,())) []) (EQ Tryz.f61 (ZkQ (zh,())) [])
theorem ZqL(hb:∀ (b:Unit) (_:Unit),Zfv (b,())->Ztn b):CT 61 Zbc:=
 Z0 (l:=[]) Za rfl trivial Zg5 Tryz.func61 rfl rfl 1 (fun _=> rfl) V5 (fun ⟨b,_⟩=> hb b ())
def Zg4:Z6 U:=lvl [([0,3],[3]),([0,3,9],[3]),([4],[]),([0,3,12],[]),([4],[]),([0,3,5,6],[]),([0,3,5,6,26],[]),([4],[]),([0,5,7,8],[]),([0,5,7,43],[]),([4],[]),([],[]),([4],[])]
abbrev ZxA(p:List Nat):=AW (Z1 ZjN) Tryz.f62 Zg4 p
abbrev ZCN(p:List Nat):=SW (Z1 ZjN) Tryz.f62 Zg4 p
theorem ZxL(x:Unit)(e:Edit)(Q:QT)(h:(iB true ((Q .ret (L2 [pI 4 1] []))) (ZxA [1,0,0,1,1] (L2 [(0,.c (.nilp)),pL 3,pB 9 true] [(.loc 3,(enc .edit e))]) (xB 0 (ZCN [1,1] Q))))):
  ZxA [] (L2 [(0,.c (.nilp)),(1,.agg (enc .edit e))] []) Q:=
 (Eq.mpr V6 h:)
abbrev Ztm(x:Unit)(e:Edit):Prop:=AW (Z1 ZjN) Tryz.f62 Zg4 [] (Zb (Zis.can (x,e,())) []) (EQ Tryz.f62 (ZkP (x,e,())) [])
theorem ZqK(hb:∀ (x:Unit) (e:Edit) (_:Unit),Zfr (x,e,())->Ztm x e):CT 62 Z3C:=
 Z0 (l:=[]) Za rfl trivial Zg4 Tryz.func62 rfl rfl 2 (fun _=> rfl) V5 (fun ⟨x,e,_⟩=> hb x e ())
def Zg8:Z6 U:=lvl [([0,1],[]),([0,1,14],[]),([4],[]),([0,1,5,6],[]),([0,1,5,6,25],[]),([4],[]),([0,1,5,6,7,8],[]),([0,1,5,6,7,8,38],[]),([4],[]),([0,1,5,7,8,9],[]),([0,1,5,7,9,44,45,46],[]),([0,1,5,7,9,44,45,46,47],[]),([0,1,5,7,9,11,44,45,46],[]),([0,1,5,6,7,9,44,45,46],[]),([0,1,5,6,7,9,44,45,46,57],[]),([4],[]),([0,1,5,7,9,44,45,46],[]),([0,1,5,7,9,62],[]),([],[]),([4],[]),([0,6,9,12],[]),([0,6,9,12,95],[]),([4],[]),([],[]),([4],[])]
abbrev ZxE(p:List Nat):=AW (Z1 ZjN) Tryz.f57 Zg8 p
abbrev ZCR(p:List Nat):=SW (Z1 ZjN) Tryz.f57 Zg8 p
theorem ZxP(x zh:Unit)(Q:QT)(h:(iB true ((Q .ret (L2 [pI 4 1] []))) (ZxE [1,0,1,1] (L2 [(0,.c (.nilp)),(1,.c (.nilp)),pB 14 true] []) (ZCR [1,1] Q)))):
  ZxE [] (L2 [(0,.c (.nilp)),(1,.c (.nilp))] []) Q:=
 (Eq.mpr V6 h:)
abbrev Ztq(x zh:Unit):Prop:=AW (Z1 ZjN) Tryz.f57 Zg8 [] (Zb (Ziw.can (x,zh,())) []) (EQ Tryz.f57 (ZkT (x,zh,())) [])
theorem ZqO(hb:∀ (x:Unit) (b:Unit) (_:Unit),Zfu (x,b,())->Ztq x b):CT 57 Zbd:=
 Z0 (l:=[]) Za rfl trivial Zg8 Tryz.func57 rfl rfl 2 (fun _=> rfl) V5 (fun ⟨x,b,_⟩=> hb x b ())
def Zg3:Z6 U:=lvl [([0,1],[]),([0,1,10],[]),([4],[]),([],[]),([4],[])]
abbrev Zxz(p:List Nat):=AW (Z1 ZjN) Tryz.f63 Zg3 p
abbrev ZCM(p:List Nat):=SW (Z1 ZjN) Tryz.f63 Zg3 p
theorem ZxK(x zh:Unit)(Q:QT)(h:((Tt (!true))/\(true=false->(!true)=true)/\(iB true ((Q .ret (L2 [pI 4 1] []))) (Zxz [1,0,1,1] (L2 [(0,.c (.nilp)),(1,.c (.nilp)),pB 10 true] []) (ZCM [1,1] Q))))):
  Zxz [] (L2 [(0,.c (.nilp)),(1,.c (.nilp))] []) Q:=
 (Eq.mpr V6 h:)
abbrev Ztl(x zh:Unit):Prop:=AW (Z1 ZjN) Tryz.f63 Zg3 [] (Zb (Ziw.can (x,zh,())) []) (EQ Tryz.f63 (ZkT (x,zh,())) [])
theorem ZqJ(hb:∀ (x:Unit) (b:Unit) (_:Unit),Zfu (x,b,())->Ztl x b):CT 63 Zbd:=
 Z0 (l:=[]) Za rfl trivial Zg3 Tryz.func63 rfl rfl 2 (fun _=> rfl) V5 (fun ⟨x,b,_⟩=> hb x b ())
def Zcx:List (FuncId × Fs U):=[(60,Z0q),(93,Z6A),(94,Z6z),(50,Z0r)]
def Zg2:Z6 U:=lvk [([0,1],[((.x 0),[])]),([0,1,14],[((.x 0),[])]),([4],[((.x 0),[])]),([0,1,5,6],[((.x 0),[])]),([0,1,5,6,25],[((.x 0),[])]),([4],[((.x 0),[])]),([0,1,5,6,7,8],[7,((.x 0),[])]),([0,1,5,6,7,8,38],[7,((.x 0),[])]),([4],[((.x 0),[])]),([0,1,5,7,8,9],[7,9,((.x 0),[])]),([0,1,5,7,9,44,45,46],[7,9,((.x 0),[])]),([0,1,5,7,9,44,45,46,47],[7,9,((.x 0),[])]),([0,1,5,7,9,11,44,45,46],[7,9,11,((.x 0),[])]),([0,1,5,6,7,9,44,45,46],[7,9,((.x 0),[])]),([0,1,5,6,7,9,44,45,46,57],[7,9,((.x 0),[])]),([4],[((.x 0),[])]),([0,1,5,7,9,44,45,46],[7,9,((.x 0),[])]),([0,1,5,7,9,62],[7,9,((.x 0),[])]),([],[((.x 0),[])]),([4],[((.x 0),[])]),([0,6,9,12],[9,((.x 0),[])]),([0,6,9,12,95],[9,((.x 0),[])]),([4],[((.x 0),[])]),([],[((.x 0),[])]),([4],[((.x 0),[])])]
def ZjU(dk:Int)(dw:List Int)(dc:List Tree)(dv ek eo:Int)(eow:List Int)(eok:List Tree)(en:Int)(enw:List Int)(enk:List Tree)(ew:List WEdit)(ec:List Kid)(li:Int)(eos:List Op)(zh:Unit)(u h:Int)(s:List Int)(b:List Tree):LSt U:=(L2 [(0,.ptr (.x 0) 0),(1,.c (.nilp)),(5,.c (sU .edit ([]:List Edit) .unk)),pL 7,pL 9,(44,.c (sU .edit ([]:List Edit) .unk)),pI 45 (([]:List Edit).length:Int),pI 46 u] [(.loc 7,(enc .edit Edit.nil)),(.loc 9,[ci h,sU .u64 s .unk,sU .tree b .unk]),(.x 0,[ci dk,sU .u64 dw .unk,sU .tree dc .unk,ci dv,ci ek,ci eo,sU .u64 eow .unk,sU .tree eok .unk,ci en,sU .u64 enw .unk,sU .tree enk .unk,sU .wedit ew .unk,sU .kid ec .unk,ci li,sU .op eos .unk])])
abbrev Zxy(p:List Nat):=AW (Z1 Zcx) Tryz.f57 Zg2 p
abbrev ZCL(p:List Nat):=SW (Z1 Zcx) Tryz.f57 Zg2 p
theorem ZxJ(dk:Int)(dw:List Int)(dc:List Tree)(dv ek eo:Int)(eow:List Int)(eok:List Tree)(en:Int)(enw:List Int)(enk:List Tree)(ew:List WEdit)(ec:List Kid)(li:Int)(eos:List Op)(zh:Unit)(Q:QT)(h:let z0:=(Q .ret (L2 [pI 4 1] [(.x 0,[ci dk,sU .u64 dw .unk,sU .tree dc .unk,ci dv,ci ek,ci eo,sU .u64 eow .unk,sU .tree eok .unk,ci en,sU .u64 enw .unk,sU .tree enk .unk,sU .wedit ew .unk,sU .kid ec .unk,ci li,sU .op eos .unk])]));(iB false z0 ((Zao ((),dv,()))/\(iB ((1:Int) !=0) z0 ((Zle ((Edit.mk ek (Tree.mk eo eow eok) (Tree.mk en enw enk) ew ec li eos),([]:List Edit),()))/\(iB ((0:Int) !=0) ((Q .ret (L2 [pI 4 0] [(.x 0,[ci dk,sU .u64 dw .unk,sU .tree dc .unk,ci dv,ci ek,ci eo,sU .u64 eow .unk,sU .tree eok .unk,ci en,sU .u64 enw .unk,sU .tree enk .unk,sU .wedit ew .unk,sU .kid ec .unk,ci li,sU .op eos .unk])]))) ((Zp (Zxy [1,1,1,1,1,1,1,0,1,0,0]) (ZjU dk dw dc dv ek eo eow eok en enw enk ew ec li eos zh 0 dk dw dc) (xB 0 (ZCL [1,1,1,1,1,1,1,1] Q)))))))))):
  Zxy [] (L2 [(0,.ptr (.x 0) 0),(1,.c (.nilp))] [(.x 0,[ci dk,sU .u64 dw .unk,sU .tree dc .unk,ci dv,ci ek,ci eo,sU .u64 eow .unk,sU .tree eok .unk,ci en,sU .u64 enw .unk,sU .tree enk .unk,sU .wedit ew .unk,sU .kid ec .unk,ci li,sU .op eos .unk])]) Q:=
 (Eq.mpr V6 h:)
abbrev Ztk(dk:Int)(dw:List Int)(dc:List Tree)(dv ek eo:Int)(eow:List Int)(eok:List Tree)(en:Int)(enw:List Int)(enk:List Tree)(ew:List WEdit)(ec:List Kid)(li:Int)(eos:List Op)(zh:Unit):Prop:=AW (Z1 Zcx) Tryz.f57 Zg2 [] (Zb (Zd4.can ((dk,dw,dc,dv,ek,eo,eow,eok,en,enw,enk,ew,ec,li,eos,()),zh,())) (Zd4.canX ((dk,dw,dc,dv,ek,eo,eow,eok,en,enw,enk,ew,ec,li,eos,()),zh,()))) (EQ Tryz.f57 (Zf2 ((dk,dw,dc,dv,ek,eo,eow,eok,en,enw,enk,ew,ec,li,eos,()),zh,())) (Zbu ((dk,dw,dc,dv,ek,eo,eow,eok,en,enw,enk,ew,ec,li,eos,()),zh,())))
theorem ZqI(Zen:CT 60 Z0q)(ZsC:CT 93 Z6A)(ZsB:CT 94 Z6z)(Zeo:CT 50 Z0r)(hb:∀ (dk:Int) (dw:List Int) (dc:List Tree) (dv:Int) (ek:Int) (eo:Int) (h:List Int) (s:List Tree) (en:Int) (u:List Int) (b:List Tree) (ew:List WEdit) (ec:List Kid) (li:Int) (aa:List Op) (zh:Unit) (_:Unit),Zfp ((dk,dw,dc,dv,ek,eo,h,s,en,u,b,ew,ec,li,aa,()),zh,())->Ztk dk dw dc dv ek eo h s en u b ew ec li aa zh):CT 57 Zb4:=
 Zl (l:=[(60,Z0q),(93,Z6A),(94,Z6z),(50,Z0r)]) Za rfl (⟨Zen,ZsC,ZsB,Zeo,trivial⟩) Zg2 Tryz.func57 rfl rfl 2 (fun _=> rfl) V5 (fun ⟨⟨dk,dw,dc,dv,ek,eo,h,s,en,u,b,ew,ec,li,aa,_⟩,zh,_⟩=> hb dk dw dc dv ek eo h s en u b ew ec li aa zh ())
def Zg1:Z6 U:=lvk [([0,1],[((.x 0),[])]),([0,1,10],[((.x 0),[])]),([4],[((.x 0),[])]),([],[]),([4],[])]
abbrev Zxx(p:List Nat):=AW (Z1 ZjN) Tryz.f63 Zg1 p
abbrev ZCK(p:List Nat):=SW (Z1 ZjN) Tryz.f63 Zg1 p
theorem ZxI(dk:Int)(dw:List Int)(dc:List Tree)(dv ek eo:Int)(eow:List Int)(eok:List Tree)(en:Int)(enw:List Int)(enk:List Tree)(ew:List WEdit)(ec:List Kid)(li:Int)(eos:List Op)(zh:Unit)(Q:QT)(h:((Tt (!false))/\(false=false->(!false)=true)/\(iB true ((Q .ret (L2 [pI 4 1] [(.x 0,[ci dk,sU .u64 dw .unk,sU .tree dc .unk,ci dv,ci ek,ci eo,sU .u64 eow .unk,sU .tree eok .unk,ci en,sU .u64 enw .unk,sU .tree enk .unk,sU .wedit ew .unk,sU .kid ec .unk,ci li,sU .op eos .unk])]))) (Zxx [1,0,1,1] (L2 [(0,.ptr (.x 0) 0),(1,.c (.nilp)),pB 10 true] [(.x 0,[ci dk,sU .u64 dw .unk,sU .tree dc .unk,ci dv,ci ek,ci eo,sU .u64 eow .unk,sU .tree eok .unk,ci en,sU .u64 enw .unk,sU .tree enk .unk,sU .wedit ew .unk,sU .kid ec .unk,ci li,sU .op eos .unk])]) (ZCK [1,1] Q))))):
  Zxx [] (L2 [(0,.ptr (.x 0) 0),(1,.c (.nilp))] [(.x 0,[ci dk,sU .u64 dw .unk,sU .tree dc .unk,ci dv,ci ek,ci eo,sU .u64 eow .unk,sU .tree eok .unk,ci en,sU .u64 enw .unk,sU .tree enk .unk,sU .wedit ew .unk,sU .kid ec .unk,ci li,sU .op eos .unk])]) Q:=
 (Eq.mpr V6 h:)
abbrev Ztj(dk:Int)(dw:List Int)(dc:List Tree)(dv ek eo:Int)(eow:List Int)(eok:List Tree)(en:Int)(enw:List Int)(enk:List Tree)(ew:List WEdit)(ec:List Kid)(li:Int)(eos:List Op)(zh:Unit):Prop:=AW (Z1 ZjN) Tryz.f63 Zg1 [] (Zb (Zd4.can ((dk,dw,dc,dv,ek,eo,eow,eok,en,enw,enk,ew,ec,li,eos,()),zh,())) (Zd4.canX ((dk,dw,dc,dv,ek,eo,eow,eok,en,enw,enk,ew,ec,li,eos,()),zh,()))) (EQ Tryz.f63 (Zf2 ((dk,dw,dc,dv,ek,eo,eow,eok,en,enw,enk,ew,ec,li,eos,()),zh,())) (Zbu ((dk,dw,dc,dv,ek,eo,eow,eok,en,enw,enk,ew,ec,li,eos,()),zh,())))
theorem ZqH(hb:∀ (dk:Int) (dw:List Int) (dc:List Tree) (dv:Int) (ek:Int) (eo:Int) (h:List Int) (s:List Tree) (en:Int) (u:List Int) (b:List Tree) (ew:List WEdit) (ec:List Kid) (li:Int) (aa:List Op) (zh:Unit) (_:Unit),Zfp ((dk,dw,dc,dv,ek,eo,h,s,en,u,b,ew,ec,li,aa,()),zh,())->Ztj dk dw dc dv ek eo h s en u b ew ec li aa zh):CT 63 Zb4:=
 Zl (l:=[]) Za rfl trivial Zg1 Tryz.func63 rfl rfl 2 (fun _=> rfl) V5 (fun ⟨⟨dk,dw,dc,dv,ek,eo,h,s,en,u,b,ew,ec,li,aa,_⟩,zh,_⟩=> hb dk dw dc dv ek eo h s en u b ew ec li aa zh ())
end
theorem Zef {α : Type} {A : ArgL α} {pre : α → Prop} {res : α → V U} {f : FuncId} (h0 : ∃ fn, Tryz.prog.funcs[f]? = some fn ∧ fn.body.isSome = true ∧ (fn.name == "runtime.NumGoroutine") = false) (h : ∀ a, ¬pre a) :
  Contract Tryz.prog cfg f (fs A (fun a=> [pre a]) res):=by
 refine YJ h0 rfl ?_
 intro args X u r X' b s
 exfalso
 unfold fs at b
 simp only at b
 split at b
 .split at b
  .cases b
   exact h _ s.1
  .cases b
 .cases b
theorem ZsD:Contract Tryz.prog cfg 85 Z6B:=Zef ⟨Tryz.f85,Tryz.func85,rfl,rfl⟩ fun _ h=> h
theorem ZsA:Contract Tryz.prog cfg 164 Z6y:=Zef ⟨Tryz.f164,Tryz.func164,rfl,rfl⟩ fun _ h=> h
theorem Zsz:Contract Tryz.prog cfg 165 Z6x:=Zef ⟨Tryz.f165,Tryz.func165,rfl,rfl⟩ fun _ h=> h
theorem Zsy:Contract Tryz.prog cfg 166 Z6w:=Zef ⟨Tryz.f166,Tryz.func166,rfl,rfl⟩ fun _ h=> h
theorem ZsI:Contract Tryz.prog cfg 111 Z3H:=by
 refine ZqR c25 ZsD ZsA Zsz Zsy ?_
 intro p q _ b
 have b:p.kind=0:=b
 refine ZxS _ _ _ ?_
 rintro y1 rfl y2 rfl y3 _ u _ s _
 (simp only [iB,vcT,vcS])
 exact ⟨fun _=> by simp only [Zf6];(repeat' (first | exact trivial | exact rfl | apply And.intro)),fun h=> absurd b h⟩
theorem ZsJ:Contract Tryz.prog cfg 71 Z3I:=by
 refine ZqS ZsI Zk1.1 ?_
 intro p q _ s
 obtain ⟨u,b⟩:=s
 refine ZxT _ _ _ ?_
 rintro y1 rfl y2 rfl y3 rfl
 (simp only [iB,vcT,vcS])
 exact ⟨u,(fun h=> by cases h),Z2l b,by simp only [Zf7];(repeat' (first | exact trivial | exact rfl | apply And.intro))⟩
theorem c62:Contract Tryz.prog cfg 62 Zb2:=by
 refine ZyC c28 c94 ZsJ ?_
 intro dk dw dc dv ek eo ae u en aa b ew ec li ab e _ hp
 obtain ⟨⟨h1,h2⟩,h3⟩:=hp
 dsimp only at h1 h2 h3
 subst h1
 refine ZDl _ _ _ _ _ _ _ _ _ _ _ _ _ _ _ _ _ ?_
 rintro y1 rfl y2 e2
 (simp only [iB,vcT,vcS])
 have fin:∀ {r:DeskT × Int} {s:LSt U},Z0B y1 ⟨.mk dk dw dc,dv,.mk 0 (.mk eo ae u) (.mk en aa b) ew ec li ab⟩=r->ZK cfg Tryz.f62.ntmps Tryz.f62.results.toList (.c (.int .i64 r.2))
   [[.int .i64 r.1.now.kind,.slice .u64 r.1.now.words .unk,.slice .tree r.1.now.kids .unk,.int .i64 r.1.version]++enc .edit r.1.pending] .ret s->
   ZK cfg Tryz.f62.ntmps Tryz.f62.results.toList (Zps ((dk,dw,dc,dv,0,eo,ae,u,en,aa,b,ew,ec,li,ab,()),y1,())) (ZiU ((dk,dw,dc,dv,0,eo,ae,u,en,aa,b,ew,ec,li,ab,()),y1,())) .ret s:=by
  intro r s h hs
  subst h
  exact hs
 refine ⟨(fun h=> by cases h),⟨h2.1,h2.2⟩,fun hr=> ?_,fun hr=> ?_⟩
 .exact fin (r:=(⟨.mk dk dw dc,dv,.mk 0 (.mk eo ae u) (.mk en aa b) ew ec li ab⟩,2)) (by unfold Z0B;exact if_neg (by rw [hr];decide)) V2
 obtain ⟨re,st⟩:=h3 hr
 refine ⟨st,fun hn=> ?_,fun h0=> ⟨⟨rfl,re⟩,?_,fun hw=> ?_,fun hw=> ?_⟩⟩
 .exact fin (r:=(⟨.mk dk dw dc,dv,.mk 0 (.mk eo ae u) (.mk en aa b) ew ec li ab⟩,(Y5 y1 (.mk dk dw dc)).2)) (by unfold Z0B;rw [if_pos hr];exact if_neg hn) V2
 .rw [e2]
  have:=Z2r y1
  exact ⟨V3,Z14 _ _ hr h2.2⟩
 .have hw:Z4 y2 64=false:=by rcases hw with h | h;cases h;exact h
  exact fin (r:=(⟨.mk dk dw dc,dv,.mk 0 (.mk eo ae u) (.mk en aa b) ew ec li ab⟩,3)) (by unfold Z0B;rw [if_pos hr,if_pos h0];exact if_neg (by rw [<-e2,hw];decide)) V2
 .exact fin (r:=(⟨(Y5 y1 (.mk dk dw dc)).1,dv,Zm y1⟩,0)) (by unfold Z0B;rw [if_pos hr,if_pos h0];exact if_pos (by rw [<-e2];exact hw)) V2
theorem Zip:∀ (l:List Edit) (e:Edit) (out:List Edit),(Z0G l e out).2.1.length<=l.length+out.length
 | [],e,out=> by simp [Z0G]
 | x ::r,e,out=> by
  rw [Z0G]
  split
  .have:=Zip r (lbN e x).1 (out++[(lbN e x).2.1])
   simp only [Qa,Qm,Qe] at this ⊢
   omega
  .simp
theorem c57:Contract Tryz.prog cfg 57 Zb7:=by
 refine ZyG c60 c93 c94 c50 ?_
 intro dk dw dc dv ek eo ao ak en al aj ew ec li am u hw hc hl _ hp
 obtain ⟨hS,hP⟩:=hp
 refine ZDp _ _ _ _ _ _ _ _ _ _ _ _ _ _ _ _ _ _ _ _ ?_
 intro y1 e1 y2 e2
 dsimp only at hS hP
 rw [<-e1] at hS hP
 have av:=hP.2.2
 have fin:∀ {r:(DeskT × HubT) × Int} {s:LSt U},Z02 ⟨.mk dk dw dc,dv,y1⟩ ⟨.mk u hw hc,hl⟩=r->ZK cfg Tryz.f57.ntmps Tryz.f57.results.toList (.c (.int .i64 r.2))
   [[.int .i64 r.1.1.now.kind,.slice .u64 r.1.1.now.words .unk,.slice .tree r.1.1.now.kids .unk,.int .i64 r.1.1.version]++enc .edit r.1.1.pending,[.int .i64 r.1.2.now.kind,.slice .u64 r.1.2.now.words .unk,.slice .tree r.1.2.now.kids .unk,.slice .edit r.1.2.log .unk]] .ret s->
   ZK cfg Tryz.f57.ntmps Tryz.f57.results.toList (Zpw ((dk,dw,dc,dv,ek,eo,ao,ak,en,al,aj,ew,ec,li,am,()),(u,hw,hc,hl,()),())) (ZiX ((dk,dw,dc,dv,ek,eo,ao,ak,en,al,aj,ew,ec,li,am,()),(u,hw,hc,hl,()),())) .ret s:=by
  intro r s h hs
  rw [e1] at h
  subst h
  exact hs
 have pl:hl.length<=1000000000:=av
 by_cases hB:ZdN dv ⟨.mk u hw hc,hl⟩=true
 .have ep:Z0J dv ⟨.mk u hw hc,hl⟩=(hl.drop dv.toNat,0):=if_pos hB
  have kB:=Z8e.1 hB
  dsimp only at kB
  rw [ep] at e2 ⊢
  dsimp only at e2 ⊢
  have eb:Z0F dv y1 ⟨.mk u hw hc,hl⟩=y2:=e2.symm
  have bl:=Zip (hl.drop dv.toNat) y1 []
  rw [QZ,Qe,<-e2] at bl
  obtain ⟨s1,s2⟩:=hS hB
  rw [eb] at s2
  have b:Z02 ⟨.mk dk dw dc,dv,y1⟩ ⟨.mk u hw hc,hl⟩=_:=if_pos hB
  rw [eb] at b
  (simp only [iB,vcT,vcS])
  refine ⟨(fun h=> by cases h),pl,fun h=> absurd trivial h,⟨s1,by show (hl.drop dv.toNat).length<=_;rw [QZ];omega⟩,fun hn=> ?_,fun h0=> ?_⟩
  .rw [if_neg hn] at b
   exact fin b (by rw [e1];(repeat' (first | exact trivial | exact rfl | apply And.intro)))
  rw [if_pos h0] at b
  have s2:=s2 h0
  dsimp only at s2 b
  refine Zf (ι:=Int × Tree) (fun j=> Z7M dk dw dc dv ek eo ao ak en al aj ew ec li am u hw hc hl j.1 j.2.kind j.2.words j.2.kids)
   (fun j=> (0<=j.1/\j.1<=y2.2.1.length)/\Z3m y2.2.1 (.mk dk dw dc)=Z3m (y2.2.1.drop j.1.toNat) j.2/\ZjW (y2.2.1.drop j.1.toNat) j.2)
   (fun j=> ((y2.2.1.length:Int) - j.1).toNat) (0,.mk dk dw dc) rfl ⟨⟨V3,V3⟩,rfl,s2⟩ ?_
  rintro ⟨i,t⟩ ⟨⟨i0,i1⟩,hD,hO⟩
  dsimp only at i0 i1 hD hO
  refine ZtP _ _ _ _ _ _ _ _ _ _ _ _ _ _ _ _ _ _ _ _ _ _ _ _ _ ?_
  intro z1 f1 z2 f2 z3 f3 z4 f4 z5 f5
  rw [<-e1] at f1
  subst f1
  simp only [ep] at f2 ⊢
  rw [<-e2] at f2
  subst f2
  subst f5
  rw [Zsl]
  (simp only [iB,vcT,vcS])
  refine ⟨fun hc=> ?_,fun hc=> ?_⟩
  .rw [Zmt i0 hc,<-f4] at hD hO
   obtain ⟨o1,o2⟩:=hO
   rw [Z3m] at hD
   refine ⟨⟨i0,hc⟩,o1,fun hn=> ?_,fun h0=> ⟨V4,(i+1,(Y5 z5 t).1),rfl,⟨⟨V3,V3⟩,?_,o2 h0⟩,V3⟩⟩
   .rw [if_neg hn] at hD
    rw [hD,if_neg hn] at b
    exact fin b (by rw [e1];(repeat' (first | exact trivial | exact rfl | apply And.intro)))
   .rw [if_pos h0] at hD
    exact hD
  .have hd:z2.2.1.drop i.toNat=[]:=Qd V1
   rw [hd] at hD
   rw [hD] at b
   rw [if_pos (show (Z3m [] t).2=0 from rfl)] at b
   refine ⟨fun u=> ⟨by rw [QZ];unfold InR;omega,?_⟩,fun u=> ⟨hP,fun hn=> ?_,fun h0=> ?_⟩⟩
   .rw [if_pos u] at b
    exact fin b V2
   .rw [if_neg u,if_neg hn] at b
    exact fin b (by rw [f3,e1];(repeat' (first | exact trivial | exact rfl | apply And.intro)))
   .rw [if_neg u,if_pos h0] at b
    exact fin b (by rw [f3,e1];(repeat' (first | exact trivial | exact rfl | apply And.intro)))
 .have ep:Z0J dv ⟨.mk u hw hc,hl⟩=([],2):=if_neg hB
  rw [ep]
  (simp only [iB,vcT,vcS])
  have b:Z02 ⟨.mk dk dw dc,dv,y1⟩ ⟨.mk u hw hc,hl⟩=((⟨.mk dk dw dc,dv,y1⟩,⟨.mk u hw hc,hl⟩),2):=if_neg hB
  exact ⟨(fun h=> by cases h),pl,fun _=> fin b (by rw [e1];(repeat' (first | exact trivial | exact rfl | apply And.intro))),fun h=> absurd h V5⟩
theorem c92:Contract Tryz.prog cfg 92 ZaX:=by
 refine Zyv ?_
 intro a o n _ _
 refine ZDa _ _ _ _ ?_
 simp only [Zpr]
 exact V2
def w2(a b:Int):Tree:= .mk 1 [a,b] []
def sw0:Edit:=Z3N 0 1 2
def sw1:Edit:=Z3N 1 1 3
theorem Z6n{a b:Int}(ha:1<=a/\a<=3)(hb:1<=b/\b<=3):St42 (w2 a b):=by
 have W:∀ {n:Int},1<=n/\n<=3->isW n:=fun h=> ⟨V1,V1⟩
 refine ⟨rfl,⟨Jb V5 V5,fun x s=> ?_,trivial⟩,?_,?_⟩
 .rcases Q8.1 s with rfl | s
  .exact W ha
  .rw [Qh.1 s];exact W hb
 .have e:trim [a,b]=[a,b]:=by simp [trim,show b≠0 by omega]
  unfold w2
  simp only [Z5,Y6,ZN,e]
  try rfl
 .show 1+2+0<=_;omega
theorem Zy0(b:Int):doE false sw0 (w2 1 b)=some (w2 2 b):=by
 unfold sw0 Z3N w2
 rw [Zxf,if_pos (show (Tree.mk 1 [1,b] []).kind=1 from rfl)]
 try rfl
theorem ZxZ(a:Int):doE false sw1 (w2 a 1)=some (w2 a 3):=by
 unfold sw1 Z3N w2
 rw [Zxf,if_pos (show (Tree.mk 1 [a,1] []).kind=1 from rfl)]
 try rfl
theorem Z9K{a o n:Int}:Zm (Z3N a o n)=Z3N a o n:=by
 unfold Z3N
 rw [Zyo]
 try rfl
theorem ZC3{a o n:Int}(ha:a=0\/a=1)(ho:o=1)(hn:1<=n/\n<=3):Yh (Z3N a o n):=by
 have z:=Z2g
 have i0:InR 0:=Jb V5 V5
 refine ⟨Jb V5 V5,z,z,fun w b=> ?_,i0,trivial,trivial⟩
 rw [Qh.1 b]
 subst ho
 exact ⟨Jb V3 V3,⟨show (0:Int)<=1 by decide,show (1:Int) < 256 by decide⟩,⟨show (0:Int)<=1 by decide,show (1:Int) < 18446744073709551616 by decide⟩,⟨V3,V3⟩⟩
theorem Z5x:G43 sw0:=⟨rfl,ZC3 (.inl rfl) rfl ⟨V5,V5⟩,rfl,V5⟩
theorem Z3w:G43 sw1:=⟨rfl,ZC3 (.inr rfl) rfl ⟨V5,V5⟩,rfl,V5⟩
theorem Zqw:G43 Edit.nil:=⟨rfl,Z2j.2.1,rfl,V5⟩
theorem Zqv:Zm Edit.nil=Edit.nil:=rfl
theorem ZwQ:lbN sw1 sw0=(sw1,sw0,0):=by
 unfold lbN
 unfold sw0 sw1
 rw [Z9K,Z9K]
 have e:lbE (Z3N 1 1 3) (Z3N 0 1 2)=⟨Z3N 1 1 3,Z3N 0 1 2,false,false⟩:=rfl
 rw [e]
 dsimp only
 rw [if_neg V5,if_neg V5,Z9K,Z9K]
theorem Zyq:lbN Edit.nil sw1=(Edit.nil,sw1,0):=by
 unfold lbN
 unfold sw1
 rw [Z9K,Zqv]
 have e:lbE Edit.nil (Z3N 1 1 3)=⟨Edit.nil,Z3N 1 1 3,false,false⟩:=rfl
 rw [e]
 dsimp only
 rw [if_neg V5,if_neg V5,Z9K,Zqv]
theorem d0{b:Int}(hb:1<=b/\b<=3):Y5 sw0 (w2 1 b)=(w2 2 b,0):=by
 have s:=Z6n (a:=2) V5 hb
 have h:=ZcO (Zy0 b) (by rw [s.n];exact s.r)
 rw [s.n] at h
 exact h
theorem d1{a:Int}(ha:1<=a/\a<=3):Y5 sw1 (w2 a 1)=(w2 a 3,0):=by
 have s:=Z6n (b:=3) ha V5
 have h:=ZcO (ZxZ a) (by rw [s.n];exact s.r)
 rw [s.n] at h
 exact h
theorem ZCy:Z0B sw0 ⟨w2 1 1,0,Edit.nil⟩=(⟨w2 2 1,0,sw0⟩,0):=by
 unfold Z0B
 rw [if_pos Z5x.r,show Zm sw0=sw0 from Z9K,d0 V5,if_pos rfl,if_pos Z5x.r]
theorem ZCx:Z0B sw1 ⟨w2 1 1,0,Edit.nil⟩=(⟨w2 1 3,0,sw1⟩,0):=by
 unfold Z0B
 rw [if_pos Z3w.r,show Zm sw1=sw1 from Z9K,d1 V5,if_pos rfl,if_pos Z3w.r]
theorem ZCb:Jt 0 sw0 ⟨w2 1 1,[]⟩=(⟨w2 2 1,[sw0]⟩,1,0):=by
 rw [Zje Z5x.r,show Zm sw0=sw0 from Z9K,d0 V5,if_pos rfl]
theorem ZCa:Jt 0 sw1 ⟨w2 2 1,[sw0]⟩=(⟨w2 2 3,[sw0,sw1]⟩,2,0):=by
 rw [Zht Z3w.r,ZwQ,if_pos rfl,show Zm sw1=sw1 from Z9K,d1 V5,if_pos rfl]
theorem ZC2:Z02 ⟨w2 2 1,0,sw0⟩ ⟨w2 1 1,[]⟩=((⟨w2 2 1,1,Edit.nil⟩,⟨w2 2 1,[sw0]⟩),0):=by
 unfold Z02
 have e:Z0F 0 sw0 ⟨w2 1 1,[]⟩=(sw0,[],0):=by show (Zm sw0,_,_)=_;rw [show Zm sw0=sw0 from Z9K]
 dsimp only
 rw [if_pos V5,e,if_pos rfl,show Z3m (sw0,([]:List Edit),(0:Int)).2.1 (w2 2 1)=(w2 2 1,0) from rfl,if_pos rfl,if_neg V5,ZCb,if_pos rfl]
theorem ZA0:Z0F 0 sw1 ⟨w2 2 1,[sw0]⟩=(sw1,[sw0],0):=by
 show Z0G [sw0] sw1 []=_
 rw [Z0G,ZwQ,if_pos rfl]
 show (Zm sw1,_,_)=_
 rw [show Zm sw1=sw1 from Z9K];try rfl
theorem ZzZ:Z0F 1 Edit.nil ⟨w2 2 3,[sw0,sw1]⟩=(Edit.nil,[sw1],0):=by
 show Z0G [sw1] Edit.nil []=_
 rw [Z0G,Zyq,if_pos rfl]
 show (Zm Edit.nil,_,_)=_
 rw [Zqv];try rfl
theorem Zei{m:Edit}{t u:Tree}(h:Y5 m t=(u,0)):Z3m [m] t=(u,0):=by
 rw [Z3m,h,if_pos rfl];try rfl
theorem ZC1:Z02 ⟨w2 1 3,0,sw1⟩ ⟨w2 2 1,[sw0]⟩=((⟨w2 2 3,2,Edit.nil⟩,⟨w2 2 3,[sw0,sw1]⟩),0):=by
 unfold Z02
 dsimp only
 rw [if_pos V5,ZA0,if_pos rfl,Zei (d0 (b:=3) V5),if_pos rfl,if_neg V5,ZCa,if_pos rfl]
theorem ZC0:Z02 ⟨w2 2 1,1,Edit.nil⟩ ⟨w2 2 3,[sw0,sw1]⟩=((⟨w2 2 3,2,Edit.nil⟩,⟨w2 2 3,[sw0,sw1]⟩),0):=by
 unfold Z02
 dsimp only
 rw [if_pos V5,ZzZ,if_pos rfl,Zei (d1 (a:=2) V5),if_pos rfl,if_pos V5]
 try rfl
theorem so0:ZeF ⟨w2 2 1,0,sw0⟩ ⟨w2 1 1,[]⟩:=by
 have s:=Z6n (a:=1) (b:=1) V5 V5
 exact ⟨fun _=> ⟨Z5x.re,fun _=> trivial⟩,Zsj Z5x s V5⟩
theorem so1:ZeF ⟨w2 1 3,0,sw1⟩ ⟨w2 2 1,[sw0]⟩:=by
 have s:=Z6n (a:=1) (b:=3) V5 V5
 have h:=Z6n (a:=2) (b:=1) V5 V5
 have rb:=Z3w.rb Z5x
 have o:ZcY [sw0] sw1:=⟨rb,fun _=> (ZrS rb).1⟩
 refine ⟨fun _=> ⟨o,fun _=> ?_⟩,⟨V5,Z3w.g⟩,fun _=> ⟨o,fun _=> ?_⟩,V5⟩
 .dsimp only
  rw [ZA0]
  exact ⟨Z2M Z5x.re s,fun _=> trivial⟩
 .dsimp only
  rw [ZA0]
  exact Z2M Z3w.re h
theorem so2:ZeF ⟨w2 2 1,1,Edit.nil⟩ ⟨w2 2 3,[sw0,sw1]⟩:=by
 have s:=Z6n (a:=2) (b:=1) V5 V5
 have h:=Z6n (a:=2) (b:=3) V5 V5
 have rb:=Zqw.rb Z3w
 have o:ZcY [sw1] Edit.nil:=⟨rb,fun _=> (ZrS rb).1⟩
 refine ⟨fun _=> ⟨o,fun _=> ?_⟩,⟨V5,Zqw.g⟩,fun _=> ⟨o,fun _=> ?_⟩,V5⟩
 .dsimp only
  rw [ZzZ]
  exact ⟨Z2M Z3w.re s,fun _=> trivial⟩
 .dsimp only
  rw [ZzZ]
  exact Z2M Zqw.re h
set_option maxHeartbeats 1000000 in
theorem c48:Contract Tryz.prog cfg 48 Zb9:=by
 refine ZyK c49 c61 c92 c62 c57 c51 c59 c26 ?_
 intro _ _
 refine ZDt _ ?_
 intro y1 e1 y2 e2 y3 e3 y4 e4 y5 e5 y6 e6 y7 e7 y8 e8 y9 e9 a6 al a4 u a3 ah be ak ba af bg ab bb ai bc ae a5 am a8 ao bd aq a0 au
 have h:=Z6n (a:=1) (b:=1) V5 V5
 have ar:Z5 (.mk 1 [1,1] [])=w2 1 1:=h.n
 have e2:y2=sw0:=e2
 have e3:y3=sw1:=e3
 rw [ar] at e4 ⊢
 subst e1 e2 e3 e4
 rw [show Z0B sw0 ⟨w2 1 1,(([]:List Edit).length:Int),Edit.nil⟩=(⟨w2 2 1,0,sw0⟩,0) from ZCy] at e5
 rw [show Z0B sw1 ⟨w2 1 1,(([]:List Edit).length:Int),Edit.nil⟩=(⟨w2 1 3,0,sw1⟩,0) from ZCx] at e6
 subst e5 e6
 dsimp only at e7 e8 e9 al
 subst e7 e8 e9 al
 dsimp only at u
 rw [ZC2] at u
 subst u
 dsimp only at ah ak af
 subst ah ak af
 dsimp only at ab
 rw [ZC1] at ab
 subst ab
 dsimp only at ai
 subst ai
 dsimp only at ae
 rw [ZC0] at ae
 subst ae
 dsimp only at am ao
 subst am ao aq au
 dsimp only
 (simp only [iB,vcT,vcS])
 have a2:=Z6n (a:=2) (b:=3) V5 V5
 have s:ZW (w2 2 3) (w2 2 3)=true:=ZiQ _
 have aa:ZW (w2 2 3) (Tree.mk 1 [2,3] [])=true:=s
 rw [s,aa]
 have av:Yr sw0/\Z5N sw0 (w2 1 1):=⟨Z5x.re,Z2M Z5x.re h⟩
 have aw:Yr sw1/\Z5N sw1 (w2 1 1):=⟨Z3w.re,Z2M Z3w.re h⟩
 have g0:Z8 sw0<=18000000000/\Yh sw0:=⟨V5,Z5x.g⟩
 have g1:Z8 sw1<=18000000000/\Yh sw1:=⟨V5,Z3w.g⟩
 have aj:Zk (w2 2 3)<=1000000000000:=V5
 exact ⟨⟨⟨V5,h.g⟩,h.r,V5⟩,trivial,trivial,trivial,⟨⟨rfl,g0⟩,fun _=> av⟩,trivial,⟨⟨rfl,g1⟩,fun _=> aw⟩,so0,so1,so2,trivial,trivial,fun _=> aj,fun _=> aj,Zc rfl rfl⟩
theorem ZsC:Contract Tryz.prog cfg 93 Z6A:=Zef ⟨Tryz.f93,Tryz.func93,rfl,rfl⟩ fun _ h=> h
theorem ZsB:Contract Tryz.prog cfg 94 Z6z:=Zef ⟨Tryz.f94,Tryz.func94,rfl,rfl⟩ fun _ h=> h
theorem ZsG:Contract Tryz.prog cfg 51 Z3E:=by
 refine ZqP ?_
 intro h _ _
 refine ZxQ h _ ?_
 (simp only [iB,vcT,vcS])
 exact ⟨V2,fun h=> by cases h⟩
theorem Zeo:Contract Tryz.prog cfg 50 Z0r:=by
 refine ZqQ ?_
 intro h v e _ _
 refine ZxR h v e _ ?_
 (simp only [iB,vcT,vcS])
 exact ⟨V2,fun h=> by cases h⟩
theorem Zen:Contract Tryz.prog cfg 60 Z0q:=by
 refine ZqM ?_
 intro h v _ _
 refine ZxN h v _ ?_
 (simp only [iB,vcT,vcS])
 exact ⟨V2,fun h=> by cases h⟩
theorem ZsF:Contract Tryz.prog cfg 59 Z3D:=by
 refine ZqN ?_
 intro x _ _
 refine ZxO x _ ?_
 (simp only [iB,vcT,vcS])
 exact ⟨V2,fun h=> by cases h⟩
theorem ZCC:Contract Tryz.prog cfg 61 Zbc:=by
 refine ZqL ?_
 intro h _ _
 refine ZxM h _ ?_
 (simp only [iB,vcT,vcS])
 exact ⟨V2,fun h=> by cases h⟩
theorem ZsE:Contract Tryz.prog cfg 62 Z3C:=by
 refine ZqK ?_
 intro x e _ _
 refine ZxL x e _ ?_
 (simp only [iB,vcT,vcS])
 exact ⟨V2,fun h=> by cases h⟩
theorem ZCD:Contract Tryz.prog cfg 57 Zbd:=by
 refine ZqO ?_
 intro x h _ _
 refine ZxP x h _ ?_
 (simp only [iB,vcT,vcS])
 exact ⟨V2,fun h=> by cases h⟩
theorem ZCB:Contract Tryz.prog cfg 63 Zbd:=by
 refine ZqJ ?_
 intro x h _ _
 refine ZxK x h _ ?_
 (simp only [iB,vcT,vcS])
 exact ⟨V2,fun h=> by cases h⟩
theorem ZCA:Contract Tryz.prog cfg 57 Zb4:=by
 refine ZqI Zen ZsC ZsB Zeo ?_
 intro dk dw dc dv ek eo s u en aa b ew ec li ab h _ _
 refine ZxJ dk dw dc dv ek eo s u en aa b ew ec li ab h _ ?_
 (simp only [iB,vcT,vcS])
 exact ⟨(fun h=> by cases h),trivial,fun _=> by simp only [Zf2,Zbu];(repeat' (first | exact trivial | exact rfl | apply And.intro)),fun h=> absurd h V5⟩
theorem ZCz:Contract Tryz.prog cfg 63 Zb4:=by
 refine ZqH ?_
 intro dk dw dc dv ek eo s u en aa b ew ec li ab h _ _
 refine ZxI dk dw dc dv ek eo s u en aa b ew ec li ab h _ ?_
 (simp only [iB,vcT,vcS])
 exact ⟨by simp only [Zf2,Zbu];(repeat' (first | exact trivial | exact rfl | apply And.intro)),fun h=> by cases h⟩
noncomputable def Z6u:Fs U:=Zo7 Zbc Z88
noncomputable def Z6v:Fs U:=Zo7 Zbd Zb4
theorem Zsw:Contract Tryz.prog cfg 61 Z6u:=Z1X ZCC c61
theorem Zsx:Contract Tryz.prog cfg 57 Z6v:=Z1X ZCD ZCA
theorem Zsv:Contract Tryz.prog cfg 63 Z6v:=Z1X ZCB ZCz
noncomputable section
def Zta:ArgL (HDeed × Unit):=(.cons (aEl .hdeed) .nil)
def Zqg(a:HDeed × Unit):Prop:=Z2T (HDeed.e a.1)/\Yh (HDeed.e a.1)
def ZwX(a:HDeed × Unit):V U:= .c (.bool true)
def ZeL:Fs U:=fs Zta (fun a=> [Zqg a]) ZwX
def Zsd:List (FuncId × Fs U):=[(45,Zba),(51,Z3E),(50,Z0r),(60,Z0q),(59,Z3D),(49,Z3B),(61,Z6u),(62,Z3C),(57,Z6v),(63,Z6v),(48,Zb9)]
def Zza:Z6 U:=lvl [([1],[1]),([1,18],[1]),([2],[]),([1,3],[1]),([1,3,4],[1]),([1,3,4,5,6],[1,5]),([1,3,4,5,6,8],[1,5]),([1,3,4,5,6,8,10],[1,5]),([1,3,4,5,6,8,10,11,12,13],[1,5,11,13]),([1,3,4,5,6,8,10,11,12,13,14],[1,5,11,13,49]),([2],[])]
abbrev A13(p:List Nat):=AW (Z1 Zsd) Tryz.f13 Zza p
theorem ZDz(d:HDeed)(Q:QT)(h:∀ b,b=(HDeed.e d)->let z19:=Edit.ops (Edit.nil);let z18:=Edit.list (Edit.nil);let z17:=Edit.kids (Edit.nil);let z16:=Edit.kind (Edit.nil);let z15:=Edit.words (Edit.nil);let z14:=Tree.nil.kind==0;let z11:=Edit.new (Edit.nil);let z10:=Edit.old (Edit.nil);let z7:=Z5 (Tree.mk 0 [] []);let z3:=bif z14 then z14 else false;let z9:=bif z3 then ((((0:Int)+0):Int)==0) else false;let z2:=bif z9 then (Edit.nil.kind==0) else false;let z12:=bif z2 then ((1:Int)==1) else false;let z5:=bif z12 then ((1:Int)==1) else false;let z0:=bif z5 then true else false;let z8:=bif z0 then ((1:Int)==1) else false;let z4:=bif z8 then ((1:Int)==1) else false;let z1:=bif z4 then ((1:Int)==1) else false;let z6:=bif z1 then ((1:Int)==1) else false;let z13:=bif z6 then ((1:Int)==1) else false;((Zqe (b,()))/\(iB (!(decide (0<=Z1y b 80 3000))) ((Z8k ())/\(Q .ret (L2 [pB 2 true] []))) (((Zfv ((),()))/\((Zfw ((),(HDeed.version d),b,()))/\((Zao ((),(HDeed.version d),()))/\((Zfv ((),()))/\((Zhx ((Tree.mk 0 [] []),()))/\(Zld (((Tree.kind z7),(Tree.words z7),(Tree.kids z7),([]:List Edit),()),()))/\((Tt z14)/\(Tt z14)/\(Tt z14)/\(Tt z3)/\(Tt z3)/\(z3=true->InR ((0:Int)+0))/\(Tt z3)/\(Tt z3)/\(Tt z9)/\(Tt z9)/\(Tt z9)/\(Tt z2)/\(Tt z2)/\(Tt z12)/\(Tt z12)/\(Tt z5)/\(z5=true->Zfv ((),()))/\(Tt z5)/\(Tt z5)/\(Tt z0)/\(Tt z0)/\(Tt z0)/\(z0=true->Zfr ((),b,()))/\(Tt z0)/\(Tt z0)/\(Tt z8)/\(Tt z8)/\(z8=true->Zfu ((),(),()))/\(Tt z8)/\(Tt z8)/\(Tt z4)/\(Tt z4)/\(z4=true->Zfu ((),(),()))/\(Tt z4)/\(Tt z4)/\(Tt z1)/\(Tt z1)/\(z1=true->Zfp (((Tree.kind z7),(Tree.words z7),(Tree.kids z7),(([]:List Edit).length:Int),z16,(Tree.kind z10),(Tree.words z10),(Tree.kids z10),(Tree.kind z11),(Tree.words z11),(Tree.kids z11),z15,z17,z18,z19,()),(),()))/\(Tt z1)/\(Tt z1)/\(Tt z6)/\(Tt z6)/\(z6=true->Zfp (((bif z1 then (Tree.kind z7) else (Tree.kind z7)),(bif z1 then (Tree.words z7) else (Tree.words z7)),(bif z1 then (Tree.kids z7) else (Tree.kids z7)),(bif z1 then (([]:List Edit).length:Int) else (([]:List Edit).length:Int)),(bif z1 then z16 else z16),(bif z1 then (Tree.kind z10) else (Tree.kind z10)),(bif z1 then (Tree.words z10) else (Tree.words z10)),(bif z1 then (Tree.kids z10) else (Tree.kids z10)),(bif z1 then (Tree.kind z11) else (Tree.kind z11)),(bif z1 then (Tree.words z11) else (Tree.words z11)),(bif z1 then (Tree.kids z11) else (Tree.kids z11)),(bif z1 then z15 else z15),(bif z1 then z17 else z17),(bif z1 then z18 else z18),(bif z1 then z19 else z19),()),(),()))/\(Tt z6)/\(Tt z6)/\(z13=true->Z8k ())/\(Tt z13)/\(Q .ret (L2 [(2,.c (.bool (bif z13 then true else false)))] [])))))))))))):
  A13 [] (L2 [(0,.agg (enc .hdeed d))] []) Q:=
 (Eq.mpr V6 (h _ (Z3 _)):)
abbrev ZAF(d:HDeed):Prop:=AW (Z1 Zsd) Tryz.f13 Zza [] (Zb (Zta.can (d,())) []) (EQ Tryz.f13 (ZwX (d,())) [])
theorem ZyQ(c45:CT 45 Zba)(ZsG:CT 51 Z3E)(Zeo:CT 50 Z0r)(Zen:CT 60 Z0q)(ZsF:CT 59 Z3D)(c49:CT 49 Z3B)(Zsw:CT 61 Z6u)(ZsE:CT 62 Z3C)(Zsx:CT 57 Z6v)(Zsv:CT 63 Z6v)(c48:CT 48 Zb9)(hb:∀ (d:HDeed) (_:Unit),Zqg (d,())->ZAF d):CT 13 ZeL:=
 Z0 (l:=[(45,Zba),(51,Z3E),(50,Z0r),(60,Z0q),(59,Z3D),(49,Z3B),(61,Z6u),(62,Z3C),(57,Z6v),(63,Z6v),(48,Zb9)]) Za rfl (⟨c45,ZsG,Zeo,Zen,ZsF,c49,Zsw,ZsE,Zsx,Zsv,c48,trivial⟩) Zza Tryz.func13 rfl rfl 1 (fun _=> rfl) V5 (fun ⟨d,_⟩=> hb d ())
end
theorem c13:Contract Tryz.prog cfg 13 ZeL:=by
 refine ZyQ c45 ZsG Zeo Zen ZsF c49 Zsw ZsE Zsx Zsv c48 ?_
 intro d _ hp
 obtain ⟨h,s⟩:=hp
 dsimp only at h s
 refine ZDz _ _ ?_
 rintro y1 rfl
 have e2:(Tree.kind Tree.nil==0)=true:=rfl
 have e3:(Edit.kind Edit.nil==0)=true:=rfl
 have e4:((1:Int)==1)=true:=rfl
 have e5:((0:Int)+0==0)=true:=rfl
 rw [e2,e3,e4,e5]
 simp only [cond_true]
 (simp only [iB,vcT,vcS])
 have b:Zhx (Tree.mk 0 [] [],()):=⟨⟨V5,⟨Jb V5 V5,(fun x u=> by cases u),trivial⟩⟩,rfl,V5⟩
 exact ⟨h,fun _=> ⟨trivial,Zc rfl rfl⟩,fun _=> ⟨trivial,trivial,trivial,trivial,b,trivial,by unfold InR;decide,trivial,trivial,trivial,trivial,trivial,trivial,trivial,Zc rfl rfl⟩⟩
end Go.AM.YtpjenobkibfpcaaGreat
