import Derived.Test.YtpjenobkibfpcaaKL22m
set_option linter.unusedSimpArgs false
set_option linter.unusedVariables false
namespace Go.AM.Ytpjenobkibfpcaa
open Go.AM Go.Proofs
noncomputable section
abbrev ZC(p:Prop):Prop:=p→p
def Z9o:ArgM ((List Op × List Tree × List Tree × Unit) × Unit):=(.obj 0 (.cons (cWr .op 0 0) (.cons (Zfn .tree 0 1) (.cons (Zfn .tree 0 2) .nil))) .nil)
def Z0F(a:(List Op × List Tree × List Tree × Unit) × Unit):Prop:=(a.1.1).length≤200000000000∧(a.1.2.1).length≤200000000000∧(a.1.2.2.1).length≤200000000000
def Z7x(a:(List Op × List Tree × List Tree × Unit) × Unit):V U:= .tup []
def Z4F(a:(List Op × List Tree × List Tree × Unit) × Unit):List (List (C U)):=[[.mref (.x 0 0),sU .tree ((Z1 (Wst.mk a.1.1 a.1.2.1 a.1.2.2.1)).gone) (.own (.x 0 1)),sU .tree ((Z1 (Wst.mk a.1.1 a.1.2.1 a.1.2.2.1)).brought) (.own (.x 0 2))]]
def Z4G(a:(List Op × List Tree × List Tree × Unit) × Unit):List (Tok × LC U):=[(.x 0 0,LC.mk (U:=U) .op ((Z1 (Wst.mk a.1.1 a.1.2.1 a.1.2.2.1)).out) 0)]
def Z0N:Fs U:=ZgR Z9o (fun a=> [Z0F a]) Z7x Z4F Z4G
def Z9q:ArgM ((List Op × List Tree × List Tree × Unit) × Int × Unit):=(.obj 0 (.cons (cWr .op 0 0) (.cons (Zfn .tree 0 1) (.cons (Zfn .tree 0 2) .nil))) (.cons (Yt .i64) .nil))
def Z39(a:(List Op × List Tree × List Tree × Unit) × Int × Unit):Prop:=(a.1.1).length≤200000000000∧(a.1.2.1).length≤200000000000∧(a.1.2.2.1).length≤200000000000∧(∀ o∈a.1.1,0≤o.n∧o.n≤100000000000000000)∧0≤a.2.1∧a.2.1≤1048576
def ZfY(a:(List Op × List Tree × List Tree × Unit) × Int × Unit):V U:= .tup []
def ZcM(a:(List Op × List Tree × List Tree × Unit) × Int × Unit):List (List (C U)):=[[.mref (.x 0 0),sU .tree ((Zy (Wst.mk a.1.1 a.1.2.1 a.1.2.2.1) a.2.1).gone) (.own (.x 0 1)),sU .tree ((Zy (Wst.mk a.1.1 a.1.2.1 a.1.2.2.1) a.2.1).brought) (.own (.x 0 2))]]
def ZcN(a:(List Op × List Tree × List Tree × Unit) × Int × Unit):List (Tok × LC U):=[(.x 0 0,LC.mk (U:=U) .op ((Zy (Wst.mk a.1.1 a.1.2.1 a.1.2.2.1) a.2.1).out) 0)]
def Z4w:Fs U:=ZgR Z9q (fun a=> [Z39 a]) ZfY ZcM ZcN
def Z9p:ArgM ((List Op × List Tree × List Tree × Unit) × List Tree × Unit):=(.objAt 0 1 (.cons (cWr .op 0 0) (.cons (Zfn .tree 0 1) (.cons (Zfn .tree 0 2) .nil))) (.cons (aSl .tree) .nil))
def Z7C(a:(List Op × List Tree × List Tree × Unit) × List Tree × Unit):Prop:=(a.1.1).length≤200000000000∧(a.1.2.1).length≤200000000000∧(a.1.2.2.1).length≤200000000000∧Zb a.2.1≤20000000000
def ZlS(a:(List Op × List Tree × List Tree × Unit) × List Tree × Unit):V U:= .tup []
def ZhE(a:(List Op × List Tree × List Tree × Unit) × List Tree × Unit):List (List (C U)):=[[.mref (.x 0 0),sU .tree ((Wst.mk a.1.1 (a.1.2.1++Z5 a.2.1) a.1.2.2.1).gone) (.own (.x 0 1)),sU .tree ((Wst.mk a.1.1 (a.1.2.1++Z5 a.2.1) a.1.2.2.1).brought) (.own (.x 0 2))]]
def ZhF(a:(List Op × List Tree × List Tree × Unit) × List Tree × Unit):List (Tok × LC U):=[(.x 0 0,LC.mk (U:=U) .op ((Wst.mk a.1.1 (a.1.2.1++Z5 a.2.1) a.1.2.2.1).out) 0)]
def ZcA:Fs U:=ZgR Z9p (fun a=> [Z7C a]) ZlS ZhE ZhF
def Z7j:ArgM ((List Op × List Tree × List Tree × Unit) × List Tree × Unit):=(.objAt 0 2 (.cons (cWr .op 0 0) (.cons (Zfn .tree 0 1) (.cons (Zfn .tree 0 2) .nil))) (.cons (aSl .tree) .nil))
def Z4J(a:(List Op × List Tree × List Tree × Unit) × List Tree × Unit):Prop:=(a.1.1).length≤200000000000∧(a.1.2.1).length≤200000000000∧(a.1.2.2.1).length≤200000000000∧Zb a.2.1≤20000000000
def ZhQ(a:(List Op × List Tree × List Tree × Unit) × List Tree × Unit):V U:= .tup []
def Ze6(a:(List Op × List Tree × List Tree × Unit) × List Tree × Unit):List (List (C U)):=[[.mref (.x 0 0),sU .tree ((Wst.mk a.1.1 a.1.2.1 (a.1.2.2.1++Z5 a.2.1)).gone) (.own (.x 0 1)),sU .tree ((Wst.mk a.1.1 a.1.2.1 (a.1.2.2.1++Z5 a.2.1)).brought) (.own (.x 0 2))]]
def Ze7(a:(List Op × List Tree × List Tree × Unit) × List Tree × Unit):List (Tok × LC U):=[(.x 0 0,LC.mk (U:=U) .op ((Wst.mk a.1.1 a.1.2.1 (a.1.2.2.1++Z5 a.2.1)).out) 0)]
def Za1:Fs U:=ZgR Z7j (fun a=> [Z4J a]) ZhQ Ze6 Ze7
def Zfp:ArgL (Int × Edit × Unit):=(.cons (Yt .i64) (.cons (aEl .edit) .nil))
def Z4I(a:Int × Edit × Unit):Prop:=a.2.1.words.length≤20000000000∧a.2.1.kids.length≤20000000000
def ZhP(a:Int × Edit × Unit):V U:= .c (.bool (Jf a.1 a.2.1))
def Z2j:Fs U:=fs Zfp (fun a=> [Z4I a]) ZhP
def Zfq:ArgL (Int × Edit × Unit):=(.cons (Yt .i64) (.cons (aEl .edit) .nil))
def Z6m(a:Int × Edit × Unit):Prop:=True
def ZhR(a:Int × Edit × Unit):V U:= .c (.bool (Jf a.1 a.2.1))
def Z2k:Fs U:=fs Zfq (fun a=> [Z6m a]) ZhR
def Ziy:List (FuncId × Fs U):=[]
def ZmJ:Zi U:=fun i=> match i with
 | 0=> ([(0,[]),(7,[])],[(.x 0,[.wr .op])])
 | 1=> ([(0,[])],[(.x 0,[.wr .op])])
 | 2=> ([(0,[]),(28,[])],[(.x 0,[.wr .op])])
 | 3=> ([(0,[])],[(.x 0,[.wr .op])])
 | 4=> ([],[(.x 0,[.wr .op])])
 | _=> ([],[])
abbrev ZvV(wo:List Op)(wg wb:List Tree)(Q:QT):=AW (Z0 Ziy) Try.f129 ZmJ [] (⟨[(0,.ptr (.x 0) 0)],[(.x 0,[.mref (.x 0 0),sU .tree wg (.own (.x 0 1)),sU .tree wb (.own (.x 0 2))])],[(.x 0 0,LC.mk (U:=U) .op wo 0)]⟩:LSt U) Q
theorem Zv6(wo:List Op)(wg wb:List Tree)(Q:QT)(h:∀ y_1,y_1=(Edit.mk 0 (Tree.mk 0 [] []) (Tree.mk 0 [] []) [] [] 0 [])→∀ y_2,y_2=(List.set (wo++([(OpOf.mk 0 0 [] y_1:Op)])) (Int.toNat (wo.length:Int)) (OpOf.mk 1 0 wg y_1:Op))→((decide ((0:Int) < (wg.length:Int)))=true→((wo.length+([(OpOf.mk 0 0 [] y_1:Op)]).length)*240≤140737488355328)∧((0:Int)≤(wo.length:Int)∧(wo.length:Int) < ((wo++([(OpOf.mk 0 0 [] y_1:Op)])).length:Int))∧((0:Nat)≤(Int.toNat (wo.length:Int)))∧(((decide ((0:Int) < (wb.length:Int)))=true→((y_2.length+([(OpOf.mk 0 0 [] y_1:Op)]).length)*240≤140737488355328)∧((0:Int)≤(y_2.length:Int)∧(y_2.length:Int) < ((y_2++([(OpOf.mk 0 0 [] y_1:Op)])).length:Int))∧((0:Nat)≤(Int.toNat (y_2.length:Int)))∧(Q .normal (⟨[],[(.x 0,[.mref (.x 0 0),.nils,.nils])],[(.x 0 0,LC.mk (U:=U) .op (List.set (y_2++([(OpOf.mk 0 0 [] y_1:Op)])) (Int.toNat (y_2.length:Int)) (OpOf.mk 2 0 wb y_1:Op)) 0)]⟩:LSt U)))∧((decide ((0:Int) < (wb.length:Int)))=false→Q .normal (⟨[],[(.x 0,[.mref (.x 0 0),.nils,.nils])],[(.x 0 0,LC.mk (U:=U) .op y_2 0)]⟩:LSt U))))∧((decide ((0:Int) < (wg.length:Int)))=false→((decide ((0:Int) < (wb.length:Int)))=true→((wo.length+([(OpOf.mk 0 0 [] y_1:Op)]).length)*240≤140737488355328)∧((0:Int)≤(wo.length:Int)∧(wo.length:Int) < ((wo++([(OpOf.mk 0 0 [] y_1:Op)])).length:Int))∧((0:Nat)≤(Int.toNat (wo.length:Int)))∧(Q .normal (⟨[],[(.x 0,[.mref (.x 0 0),.nils,.nils])],[(.x 0 0,LC.mk (U:=U) .op (List.set (wo++([(OpOf.mk 0 0 [] y_1:Op)])) (Int.toNat (wo.length:Int)) (OpOf.mk 2 0 wb y_1:Op)) 0)]⟩:LSt U)))∧((decide ((0:Int) < (wb.length:Int)))=false→Q .normal (⟨[],[(.x 0,[.mref (.x 0 0),.nils,.nils])],[(.x 0 0,LC.mk (U:=U) .op wo 0)]⟩:LSt U)))):
  ZvV wo wg wb Q:=by
 have e_:(ZvV wo wg wb Q)=(let y_1:=(Edit.mk 0 (Tree.mk 0 [] []) (Tree.mk 0 [] []) [] [] 0 []);let y_2:=(List.set (wo++([(OpOf.mk 0 0 [] y_1:Op)])) (Int.toNat (wo.length:Int)) (OpOf.mk 1 0 wg y_1:Op));let zz0:=(decide ((0:Int) < (wb.length:Int)));(((decide ((0:Int) < (wg.length:Int)))=true→((wo.length+([(OpOf.mk 0 0 [] y_1:Op)]).length)*240≤140737488355328)∧((0:Int)≤(wo.length:Int)∧(wo.length:Int) < ((wo++([(OpOf.mk 0 0 [] y_1:Op)])).length:Int))∧((0:Nat)≤(Int.toNat (wo.length:Int)))∧((zz0=true→((y_2.length+([(OpOf.mk 0 0 [] y_1:Op)]).length)*240≤140737488355328)∧((0:Int)≤(y_2.length:Int)∧(y_2.length:Int) < ((y_2++([(OpOf.mk 0 0 [] y_1:Op)])).length:Int))∧((0:Nat)≤(Int.toNat (y_2.length:Int)))∧(Q .normal (⟨[],[(.x 0,[.mref (.x 0 0),.nils,.nils])],[(.x 0 0,LC.mk (U:=U) .op (List.set (y_2++([(OpOf.mk 0 0 [] y_1:Op)])) (Int.toNat (y_2.length:Int)) (OpOf.mk 2 0 wb y_1:Op)) 0)]⟩:LSt U)))∧(zz0=false→(Q .normal (⟨[],[(.x 0,[.mref (.x 0 0),.nils,.nils])],[(.x 0 0,LC.mk (U:=U) .op y_2 0)]⟩:LSt U)))))∧((decide ((0:Int) < (wg.length:Int)))=false→((zz0=true→((wo.length+([(OpOf.mk 0 0 [] y_1:Op)]).length)*240≤140737488355328)∧((0:Int)≤(wo.length:Int)∧(wo.length:Int) < ((wo++([(OpOf.mk 0 0 [] y_1:Op)])).length:Int))∧((0:Nat)≤(Int.toNat (wo.length:Int)))∧(Q .normal (⟨[],[(.x 0,[.mref (.x 0 0),.nils,.nils])],[(.x 0 0,LC.mk (U:=U) .op (List.set (wo++([(OpOf.mk 0 0 [] y_1:Op)])) (Int.toNat (wo.length:Int)) (OpOf.mk 2 0 wb y_1:Op)) 0)]⟩:LSt U)))∧(zz0=false→(Q .normal (⟨[],[(.x 0,[.mref (.x 0 0),.nils,.nils])],[(.x 0 0,LC.mk (U:=U) .op wo 0)]⟩:LSt U))))))):=by kernel_rfl
 exact e_.mpr (by intro y_1 y_2;have hh:=h y_1 rfl y_2 rfl;exact ⟨fun c_1=> ⟨(hh.1 c_1).1,(hh.1 c_1).2.1,(hh.1 c_1).2.2.1,⟨fun c_2=> ⟨((hh.1 c_1).2.2.2.1 c_2).1,((hh.1 c_1).2.2.2.1 c_2).2.1,((hh.1 c_1).2.2.2.1 c_2).2.2.1,((hh.1 c_1).2.2.2.1 c_2).2.2.2⟩,fun c_2=> ((hh.1 c_1).2.2.2.2 c_2)⟩⟩,fun c_1=> ⟨fun c_3=> ⟨((hh.2 c_1).1 c_3).1,((hh.2 c_1).1 c_3).2.1,((hh.2 c_1).1 c_3).2.2.1,((hh.2 c_1).1 c_3).2.2.2⟩,fun c_3=> ((hh.2 c_1).2 c_3)⟩⟩)
def ZqN(wo:List Op)(wg wb:List Tree):Prop:=AW (Z0 Ziy) Try.f129 ZmJ [] (Z0d (Z9o.can ((wo,wg,wb,()),())) (Z9o.canX ((wo,wg,wb,()),())) (Z9o.canL ((wo,wg,wb,()),()))) (Z2g cfg Try.f129.ntmps Try.f129.results.toList (Z7x ((wo,wg,wb,()),())) (Z4F ((wo,wg,wb,()),())) (Z4G ((wo,wg,wb,()),())))
theorem Zpw(hb:∀ (wo:List Op) (wg:List Tree) (wb:List Tree) (_:Unit),Z0F ((wo,wg,wb,()),())→ZqN wo wg wb):CT 129 Z0N:=
 Jo (l:=[]) Zk rfl trivial ZmJ Try.func129 rfl rfl 1 (fun _=> rfl) (by decide) (fun ⟨⟨wo,wg,wb,_⟩,_⟩=> hb wo wg wb ())
def Ziz:List (FuncId × Fs U):=[(129,Z0N)]
def ZmK:Zi U:=fun i=> match i with
 | 0=> ([(0,[]),(1,[])],[(.x 0,[.wr .op])])
 | 1=> ([(0,[]),(1,[]),(4,[])],[(.x 0,[.wr .op])])
 | 2=> ([(0,[]),(1,[]),(4,[]),(25,[])],[(.x 0,[.wr .op])])
 | 3=> ([],[(.x 0,[.wr .op])])
 | 4=> ([],[(.x 0,[.wr .op])])
 | _=> ([],[])
abbrev ZvX(wo:List Op)(wg wb:List Tree)(n:Int)(Q:QT):=AW (Z0 Ziz) Try.f126 ZmK [] (⟨[(0,.ptr (.x 0) 0),(1,.c (ci n))],[(.x 0,[.mref (.x 0 0),sU .tree wg (.own (.x 0 1)),sU .tree wb (.own (.x 0 2))])],[(.x 0 0,LC.mk (U:=U) .op wo 0)]⟩:LSt U) Q
theorem Zv8(wo:List Op)(wg wb:List Tree)(n:Int)(Q:QT)(h:∀ y_1,y_1=(Edit.mk 0 (Tree.mk 0 [] []) (Tree.mk 0 [] []) [] [] 0 [])→∀ y_2,y_2=(Int.toNat (((((Z1 (Wst.mk wo wg wb)).out).length:Int):Int) - 1))→∀ y_3,y_3=(List.getD ((Z1 (Wst.mk wo wg wb)).out) y_2 Op.nil)→∀ y_4,y_4=(y_3.e)→(Z0F ((wo,wg,wb,()),()))∧((InR (((((Z1 (Wst.mk wo wg wb)).out).length:Int):Int) - 1))∧(((decide ((0:Int)≤(((((Z1 (Wst.mk wo wg wb)).out).length:Int):Int) - 1)))=true→(0:Int)≤(((((Z1 (Wst.mk wo wg wb)).out).length:Int):Int) - 1)∧(((((Z1 (Wst.mk wo wg wb)).out).length:Int):Int) - 1) < (((Z1 (Wst.mk wo wg wb)).out).length:Int))∧(((bif (decide ((0:Int)≤(((((Z1 (Wst.mk wo wg wb)).out).length:Int):Int) - 1))) then (y_3.kind==0) else false)=true→((0:Int)≤(((((Z1 (Wst.mk wo wg wb)).out).length:Int):Int) - 1)∧(((((Z1 (Wst.mk wo wg wb)).out).length:Int):Int) - 1) < (((Z1 (Wst.mk wo wg wb)).out).length:Int))∧(InR (y_3.n+n))∧((0:Int)≤(((((Z1 (Wst.mk wo wg wb)).out).length:Int):Int) - 1)∧(((((Z1 (Wst.mk wo wg wb)).out).length:Int):Int) - 1) < (((Z1 (Wst.mk wo wg wb)).out).length:Int))∧((0:Nat)≤y_2)∧(Q .ret (⟨[],[(.x 0,[.mref (.x 0 0),sU .tree ((Z1 (Wst.mk wo wg wb)).gone) (.own (.x 0 1)),sU .tree ((Z1 (Wst.mk wo wg wb)).brought) (.own (.x 0 2))])],[(.x 0 0,LC.mk (U:=U) .op (List.set ((Z1 (Wst.mk wo wg wb)).out) y_2 (OpOf.mk y_3.kind (y_3.n+n) y_3.l y_4:Op)) 0)]⟩:LSt U)))∧((bif (decide ((0:Int)≤(((((Z1 (Wst.mk wo wg wb)).out).length:Int):Int) - 1))) then (y_3.kind==0) else false)=false→((((Z1 (Wst.mk wo wg wb)).out).length+([(OpOf.mk 0 0 [] y_1:Op)]).length)*240≤140737488355328)∧((0:Int)≤(((Z1 (Wst.mk wo wg wb)).out).length:Int)∧(((Z1 (Wst.mk wo wg wb)).out).length:Int) < ((((Z1 (Wst.mk wo wg wb)).out)++([(OpOf.mk 0 0 [] y_1:Op)])).length:Int))∧((0:Nat)≤(Int.toNat (((Z1 (Wst.mk wo wg wb)).out).length:Int)))∧(Q .normal (⟨[],[(.x 0,[.mref (.x 0 0),sU .tree ((Z1 (Wst.mk wo wg wb)).gone) (.own (.x 0 1)),sU .tree ((Z1 (Wst.mk wo wg wb)).brought) (.own (.x 0 2))])],[(.x 0 0,LC.mk (U:=U) .op (List.set (((Z1 (Wst.mk wo wg wb)).out)++([(OpOf.mk 0 0 [] y_1:Op)])) (Int.toNat (((Z1 (Wst.mk wo wg wb)).out).length:Int)) (OpOf.mk 0 n [] y_1:Op)) 0)]⟩:LSt U))))))):
  ZvX wo wg wb n Q:=by
 have e_:(ZvX wo wg wb n Q)=(let y_1:=(Edit.mk 0 (Tree.mk 0 [] []) (Tree.mk 0 [] []) [] [] 0 []);let y_2:=(Int.toNat (((((Z1 (Wst.mk wo wg wb)).out).length:Int):Int) - 1));let y_3:=(List.getD ((Z1 (Wst.mk wo wg wb)).out) y_2 Op.nil);let y_4:=(YF y_3.e);let zz0:=(decide ((0:Int)≤(((((Z1 (Wst.mk wo wg wb)).out).length:Int):Int) - 1)));(Z0F ((wo,wg,wb,()),()))∧((InR (((((Z1 (Wst.mk wo wg wb)).out).length:Int):Int) - 1))∧((ZC (zz0=true))∧(ZC (zz0=true))∧(ZC (zz0=true))∧(ZC (zz0=true))∧(ZC (zz0=true))∧(zz0=true→(0:Int)≤(((((Z1 (Wst.mk wo wg wb)).out).length:Int):Int) - 1)∧(((((Z1 (Wst.mk wo wg wb)).out).length:Int):Int) - 1) < (((Z1 (Wst.mk wo wg wb)).out).length:Int))∧(ZC (zz0=true))∧(ZC (zz0=true))∧(ZC (zz0=true))∧(ZC (zz0=true))∧(((bif zz0 then (y_3.kind==0) else false)=true→((0:Int)≤(((((Z1 (Wst.mk wo wg wb)).out).length:Int):Int) - 1)∧(((((Z1 (Wst.mk wo wg wb)).out).length:Int):Int) - 1) < (((Z1 (Wst.mk wo wg wb)).out).length:Int))∧(InR (y_3.n+n))∧((0:Int)≤(((((Z1 (Wst.mk wo wg wb)).out).length:Int):Int) - 1)∧(((((Z1 (Wst.mk wo wg wb)).out).length:Int):Int) - 1) < (((Z1 (Wst.mk wo wg wb)).out).length:Int))∧((0:Nat)≤y_2)∧(Q .ret (⟨[],[(.x 0,[.mref (.x 0 0),sU .tree ((Z1 (Wst.mk wo wg wb)).gone) (.own (.x 0 1)),sU .tree ((Z1 (Wst.mk wo wg wb)).brought) (.own (.x 0 2))])],[(.x 0 0,LC.mk (U:=U) .op (List.set ((Z1 (Wst.mk wo wg wb)).out) y_2 (OpOf.mk y_3.kind (y_3.n+n) y_3.l y_4:Op)) 0)]⟩:LSt U)))∧((bif zz0 then (y_3.kind==0) else false)=false→((((Z1 (Wst.mk wo wg wb)).out).length+([(OpOf.mk 0 0 [] y_1:Op)]).length)*240≤140737488355328)∧((0:Int)≤(((Z1 (Wst.mk wo wg wb)).out).length:Int)∧(((Z1 (Wst.mk wo wg wb)).out).length:Int) < ((((Z1 (Wst.mk wo wg wb)).out)++([(OpOf.mk 0 0 [] y_1:Op)])).length:Int))∧((0:Nat)≤(Int.toNat (((Z1 (Wst.mk wo wg wb)).out).length:Int)))∧(Q .normal (⟨[],[(.x 0,[.mref (.x 0 0),sU .tree ((Z1 (Wst.mk wo wg wb)).gone) (.own (.x 0 1)),sU .tree ((Z1 (Wst.mk wo wg wb)).brought) (.own (.x 0 2))])],[(.x 0 0,LC.mk (U:=U) .op (List.set (((Z1 (Wst.mk wo wg wb)).out)++([(OpOf.mk 0 0 [] y_1:Op)])) (Int.toNat (((Z1 (Wst.mk wo wg wb)).out).length:Int)) (OpOf.mk 0 n [] y_1:Op)) 0)]⟩:LSt U))))))):=by kernel_rfl
 exact e_.mpr (by intro y_1 y_2 y_3 y_4;have hh:=h y_1 rfl y_2 rfl y_3 rfl y_4 (Ze _);exact ⟨hh.1,⟨hh.2.1,⟨id,id,id,id,id,hh.2.2.1,id,id,id,(by generalize (decide ((0:Int)≤(((((Z1 (Wst.mk wo wg wb)).out).length:Int):Int) - 1)))=b0;revert b0;decide),⟨fun c_4=> ⟨(hh.2.2.2.1 c_4).1,(hh.2.2.2.1 c_4).2.1,(hh.2.2.2.1 c_4).2.2.1,(hh.2.2.2.1 c_4).2.2.2.1,(hh.2.2.2.1 c_4).2.2.2.2⟩,fun c_4=> ⟨(hh.2.2.2.2 c_4).1,(hh.2.2.2.2 c_4).2.1,(hh.2.2.2.2 c_4).2.2.1,(hh.2.2.2.2 c_4).2.2.2⟩⟩⟩⟩⟩)
def ZqP(wo:List Op)(wg wb:List Tree)(n:Int):Prop:=AW (Z0 Ziz) Try.f126 ZmK [] (Z0d (Z9q.can ((wo,wg,wb,()),n,())) (Z9q.canX ((wo,wg,wb,()),n,())) (Z9q.canL ((wo,wg,wb,()),n,()))) (Z2g cfg Try.f126.ntmps Try.f126.results.toList (ZfY ((wo,wg,wb,()),n,())) (ZcM ((wo,wg,wb,()),n,())) (ZcN ((wo,wg,wb,()),n,())))
theorem Zpy(ZkA:CT 129 Z0N)(hb:∀ (wo:List Op) (wg:List Tree) (wb:List Tree) (n:Int) (_:Unit),Z39 ((wo,wg,wb,()),n,())→ZqP wo wg wb n):CT 126 Z4w:=
 Jo (l:=[(129,Z0N)]) Zk rfl (⟨ZkA,trivial⟩) ZmK Try.func126 rfl rfl 2 (fun _=> rfl) (by decide) (fun ⟨⟨wo,wg,wb,_⟩,n,_⟩=> hb wo wg wb n ())
def Z9j:List (FuncId × Fs U):=[(71,Jr)]
def ZeW:Zi U:=fun i=> match i with
 | 0=> ([(0,[]),(6,[]),(7,[]),(8,[])],[(.x 0,[.wr .op])])
 | 1=> ([(0,[]),(6,[]),(7,[]),(8,[]),(9,[])],[(.x 0,[.wr .op])])
 | 2=> ([(0,[]),(5,[]),(6,[]),(7,[]),(8,[])],[(.loc 5,[]),(.x 0,[.wr .op])])
 | 3=> ([(0,[]),(6,[]),(7,[]),(8,[])],[(.x 0,[.wr .op])])
 | 4=> ([(0,[]),(6,[]),(7,[]),(8,[])],[(.x 0,[.wr .op])])
 | _=> ([],[])
def Z4S(wo:List Op)(wg wb l:List Tree)(x8:Int)(mx0_1:List Tree):LSt U:=(⟨[(0,.ptr (.x 0) 1),(6,.c (sU .tree l .unk)),(7,.c (ci (l.length:Int))),(8,.c (ci x8))],[(.x 0,[.mref (.x 0 0),sU .tree mx0_1 (.own (.x 0 1)),sU .tree wb (.own (.x 0 2))])],[(.x 0 0,LC.mk (U:=U) .op wo 0)]⟩:LSt U)
abbrev ZvW(wo:List Op)(wg wb l:List Tree)(Q:QT):=AW (Z0 Z9j) Try.f127 ZeW [] (⟨[(0,.ptr (.x 0) 1),(1,.c (sU .tree l .unk))],[(.x 0,[.mref (.x 0 0),sU .tree wg (.own (.x 0 1)),sU .tree wb (.own (.x 0 2))])],[(.x 0 0,LC.mk (U:=U) .op wo 0)]⟩:LSt U) Q
theorem Zv7(wo:List Op)(wg wb l:List Tree)(Q:QT)(h:Zh (AW (Z0 Z9j) Try.f127 ZeW [1,0,0]) (Z4S wo wg wb l 0 wg) (xB 0 Q)):
  ZvW wo wg wb l Q:=by
 have e_:(ZvW wo wg wb l Q)=(type_of% h):=by kernel_rfl
 exact e_.mpr h
abbrev Zjn(wo:List Op)(wg wb l:List Tree)(x8:Int)(mx0_1:List Tree)(N0:NT)(Q:QT):=AW (Z0 Z9j) Try.f127 ZeW [1,0,0] (Z4S wo wg wb l x8 mx0_1) (xT N0 (xB 0 Q))
theorem Zl6(wo:List Op)(wg wb l:List Tree)(x8:Int)(mx0_1:List Tree)(N0:NT)(Q:QT)(h:((decide (x8 < (l.length:Int)))=true→((0:Int)≤x8∧x8 < (l.length:Int))∧((Z02 ((Tree.mk (Tree.kind (l.getD x8.toNat Tree.nil)) (Tree.words (l.getD x8.toNat Tree.nil)) (Tree.kids (l.getD x8.toNat Tree.nil))),()))∧((mx0_1.length+([(Tree.mk 0 [] [])]).length)*56≤140737488355328)∧((0:Int)≤(mx0_1.length:Int)∧(mx0_1.length:Int) < ((mx0_1++([(Tree.mk 0 [] [])])).length:Int))∧(mx0_1.length≤(Int.toNat (mx0_1.length:Int)))∧((InR (x8+1))∧(N0 (Z4S wo wg wb l (x8+1) (List.set (mx0_1++([(Tree.mk 0 [] [])])) (Int.toNat (mx0_1.length:Int)) (Tree.mk (Tree.kind (Z6 (Tree.mk (Tree.kind (l.getD x8.toNat Tree.nil)) (Tree.words (l.getD x8.toNat Tree.nil)) (Tree.kids (l.getD x8.toNat Tree.nil))))) (Tree.words (Z6 (Tree.mk (Tree.kind (l.getD x8.toNat Tree.nil)) (Tree.words (l.getD x8.toNat Tree.nil)) (Tree.kids (l.getD x8.toNat Tree.nil))))) (Tree.kids (Z6 (Tree.mk (Tree.kind (l.getD x8.toNat Tree.nil)) (Tree.words (l.getD x8.toNat Tree.nil)) (Tree.kids (l.getD x8.toNat Tree.nil))))))))))))∧((decide (x8 < (l.length:Int)))=false→Q .normal (⟨[(0,.ptr (.x 0) 1),(6,.c (sU .tree l .unk)),(7,.c (ci (l.length:Int))),(8,.c (ci x8)),(9,.c (.bool (decide (x8 < (l.length:Int)))))],[(.x 0,[.mref (.x 0 0),sU .tree mx0_1 (.own (.x 0 1)),sU .tree wb (.own (.x 0 2))])],[(.x 0 0,LC.mk (U:=U) .op wo 0)]⟩:LSt U))):
  Zjn wo wg wb l x8 mx0_1 N0 Q:=by
 have e_:(Zjn wo wg wb l x8 mx0_1 N0 Q)=(type_of% h):=by kernel_rfl
 exact e_.mpr ⟨fun c_5=> ⟨(h.1 c_5).1,⟨(h.1 c_5).2.1,(h.1 c_5).2.2.1,(h.1 c_5).2.2.2.1,(h.1 c_5).2.2.2.2.1,⟨(h.1 c_5).2.2.2.2.2.1,(h.1 c_5).2.2.2.2.2.2⟩⟩⟩,fun c_5=> (h.2 c_5)⟩
def ZqO(wo:List Op)(wg wb l:List Tree):Prop:=AW (Z0 Z9j) Try.f127 ZeW [] (Z0d (Z9p.can ((wo,wg,wb,()),l,())) (Z9p.canX ((wo,wg,wb,()),l,())) (Z9p.canL ((wo,wg,wb,()),l,()))) (Z2g cfg Try.f127.ntmps Try.f127.results.toList (ZlS ((wo,wg,wb,()),l,())) (ZhE ((wo,wg,wb,()),l,())) (ZhF ((wo,wg,wb,()),l,())))
theorem Zpx(c71:CT 71 Jr)(hb:∀ (wo:List Op) (wg:List Tree) (wb:List Tree) (l:List Tree) (_:Unit),Z7C ((wo,wg,wb,()),l,())→ZqO wo wg wb l):CT 127 ZcA:=
 Jo (l:=[(71,Jr)]) Zk rfl (⟨c71,trivial⟩) ZeW Try.func127 rfl rfl 2 (fun _=> rfl) (by decide) (fun ⟨⟨wo,wg,wb,_⟩,l,_⟩=> hb wo wg wb l ())
def Z6J:List (FuncId × Fs U):=[(71,Jr)]
def ZaQ:Zi U:=fun i=> match i with
 | 0=> ([(0,[]),(6,[]),(7,[]),(8,[])],[(.x 0,[.wr .op])])
 | 1=> ([(0,[]),(6,[]),(7,[]),(8,[]),(9,[])],[(.x 0,[.wr .op])])
 | 2=> ([(0,[]),(5,[]),(6,[]),(7,[]),(8,[])],[(.loc 5,[]),(.x 0,[.wr .op])])
 | 3=> ([(0,[]),(6,[]),(7,[]),(8,[])],[(.x 0,[.wr .op])])
 | 4=> ([(0,[]),(6,[]),(7,[]),(8,[])],[(.x 0,[.wr .op])])
 | _=> ([],[])
def Z3g(wo:List Op)(wg wb l:List Tree)(x8:Int)(mx0_2:List Tree):LSt U:=(⟨[(0,.ptr (.x 0) 2),(6,.c (sU .tree l .unk)),(7,.c (ci (l.length:Int))),(8,.c (ci x8))],[(.x 0,[.mref (.x 0 0),sU .tree wg (.own (.x 0 1)),sU .tree mx0_2 (.own (.x 0 2))])],[(.x 0 0,LC.mk (U:=U) .op wo 0)]⟩:LSt U)
abbrev ZrE(wo:List Op)(wg wb l:List Tree)(Q:QT):=AW (Z0 Z6J) Try.f127 ZaQ [] (⟨[(0,.ptr (.x 0) 2),(1,.c (sU .tree l .unk))],[(.x 0,[.mref (.x 0 0),sU .tree wg (.own (.x 0 1)),sU .tree wb (.own (.x 0 2))])],[(.x 0 0,LC.mk (U:=U) .op wo 0)]⟩:LSt U) Q
theorem ZrQ(wo:List Op)(wg wb l:List Tree)(Q:QT)(h:Zh (AW (Z0 Z6J) Try.f127 ZaQ [1,0,0]) (Z3g wo wg wb l 0 wb) (xB 0 Q)):
  ZrE wo wg wb l Q:=by
 have e_:(ZrE wo wg wb l Q)=(type_of% h):=by kernel_rfl
 exact e_.mpr h
abbrev Zfv(wo:List Op)(wg wb l:List Tree)(x8:Int)(mx0_2:List Tree)(N0:NT)(Q:QT):=AW (Z0 Z6J) Try.f127 ZaQ [1,0,0] (Z3g wo wg wb l x8 mx0_2) (xT N0 (xB 0 Q))
theorem Zjx(wo:List Op)(wg wb l:List Tree)(x8:Int)(mx0_2:List Tree)(N0:NT)(Q:QT)(h:((decide (x8 < (l.length:Int)))=true→((0:Int)≤x8∧x8 < (l.length:Int))∧((Z02 ((Tree.mk (Tree.kind (l.getD x8.toNat Tree.nil)) (Tree.words (l.getD x8.toNat Tree.nil)) (Tree.kids (l.getD x8.toNat Tree.nil))),()))∧((mx0_2.length+([(Tree.mk 0 [] [])]).length)*56≤140737488355328)∧((0:Int)≤(mx0_2.length:Int)∧(mx0_2.length:Int) < ((mx0_2++([(Tree.mk 0 [] [])])).length:Int))∧(mx0_2.length≤(Int.toNat (mx0_2.length:Int)))∧((InR (x8+1))∧(N0 (Z3g wo wg wb l (x8+1) (List.set (mx0_2++([(Tree.mk 0 [] [])])) (Int.toNat (mx0_2.length:Int)) (Tree.mk (Tree.kind (Z6 (Tree.mk (Tree.kind (l.getD x8.toNat Tree.nil)) (Tree.words (l.getD x8.toNat Tree.nil)) (Tree.kids (l.getD x8.toNat Tree.nil))))) (Tree.words (Z6 (Tree.mk (Tree.kind (l.getD x8.toNat Tree.nil)) (Tree.words (l.getD x8.toNat Tree.nil)) (Tree.kids (l.getD x8.toNat Tree.nil))))) (Tree.kids (Z6 (Tree.mk (Tree.kind (l.getD x8.toNat Tree.nil)) (Tree.words (l.getD x8.toNat Tree.nil)) (Tree.kids (l.getD x8.toNat Tree.nil))))))))))))∧((decide (x8 < (l.length:Int)))=false→Q .normal (⟨[(0,.ptr (.x 0) 2),(6,.c (sU .tree l .unk)),(7,.c (ci (l.length:Int))),(8,.c (ci x8)),(9,.c (.bool (decide (x8 < (l.length:Int)))))],[(.x 0,[.mref (.x 0 0),sU .tree wg (.own (.x 0 1)),sU .tree mx0_2 (.own (.x 0 2))])],[(.x 0 0,LC.mk (U:=U) .op wo 0)]⟩:LSt U))):
  Zfv wo wg wb l x8 mx0_2 N0 Q:=by
 have e_:(Zfv wo wg wb l x8 mx0_2 N0 Q)=(type_of% h):=by kernel_rfl
 exact e_.mpr ⟨fun c_6=> ⟨(h.1 c_6).1,⟨(h.1 c_6).2.1,(h.1 c_6).2.2.1,(h.1 c_6).2.2.2.1,(h.1 c_6).2.2.2.2.1,⟨(h.1 c_6).2.2.2.2.2.1,(h.1 c_6).2.2.2.2.2.2⟩⟩⟩,fun c_6=> (h.2 c_6)⟩
def Zoa(wo:List Op)(wg wb l:List Tree):Prop:=AW (Z0 Z6J) Try.f127 ZaQ [] (Z0d (Z7j.can ((wo,wg,wb,()),l,())) (Z7j.canX ((wo,wg,wb,()),l,())) (Z7j.canL ((wo,wg,wb,()),l,()))) (Z2g cfg Try.f127.ntmps Try.f127.results.toList (ZhQ ((wo,wg,wb,()),l,())) (Ze6 ((wo,wg,wb,()),l,())) (Ze7 ((wo,wg,wb,()),l,())))
theorem Zmy(c71:CT 71 Jr)(hb:∀ (wo:List Op) (wg:List Tree) (wb:List Tree) (l:List Tree) (_:Unit),Z4J ((wo,wg,wb,()),l,())→Zoa wo wg wb l):CT 127 Za1:=
 Jo (l:=[(71,Jr)]) Zk rfl (⟨c71,trivial⟩) ZaQ Try.func127 rfl rfl 2 (fun _=> rfl) (by decide) (fun ⟨⟨wo,wg,wb,_⟩,l,_⟩=> hb wo wg wb l ())
def Zf3:List (FuncId × Fs U):=[]
def Zgi:Zi U:=lvl [([0,3],[3]),([4],[])]
abbrev ZrD(list:Int)(e:Edit)(Q:QT):=AW (Z0 Zf3) Try.f128 Zgi [] (L2 [(0,.c (ci list)),(1,.agg (enc .edit e))] []) Q
theorem ZrP(list:Int)(e:Edit)(Q:QT)(h:(((!(e.kind==0)) && (bif (list==9) then (e.kind==2) else false))=true→InR (((e.words.length:Int):Int)+(e.kids.length:Int)))∧(Q .ret (L2 [(4,.c (.bool (bif (e.kind==0) then true else (bif (bif (list==9) then (e.kind==2) else false) then (((((e.words.length:Int):Int)+(e.kids.length:Int)):Int)==0) else false))))] []))):
  ZrD list e Q:=by
 have e_:(ZrD list e Q)=(let zz1:=(!(e.kind==0));let zz0:=(bif ((list:Int)==9) then (e.kind==2) else false);((ZC (zz1=true))∧(ZC (zz1=true))∧(ZC ((zz1 && ((list:Int)==9))=true))∧(ZC ((zz1 && ((list:Int)==9))=true))∧(zz1=true→(True→zz1=true))∧(zz1=true→(((list:Int)==9)=true→(zz1 && ((list:Int)==9))=true))∧(ZC (zz1=true))∧(ZC ((zz1 && zz0)=true))∧(ZC ((zz1 && zz0)=true))∧(ZC ((zz1 && zz0)=true))∧(ZC ((zz1 && zz0)=true))∧(ZC ((zz1 && zz0)=true))∧(ZC ((zz1 && zz0)=true))∧((zz1 && zz0)=true→InR ((e.words.length:Int)+(e.kids.length:Int)))∧(ZC ((zz1 && zz0)=true))∧(zz1=true→(True→zz1=true))∧(zz1=true→(zz0=true→(zz1 && zz0)=true))∧((e.kind==0)=false→zz1=true)∧(Q .ret (L2 [(4,.c (.bool (bif (e.kind==0) then true else (bif zz0 then ((((e.words.length:Int)+(e.kids.length:Int)):Int)==0) else false))))] [])))):=by kernel_rfl
 exact e_.mpr ⟨id,id,id,id,(by generalize ((e.kind:Int)==0)=b0;revert b0;decide),(by generalize ((e.kind:Int)==0)=b0;generalize ((list:Int)==9)=b1;revert b0 b1;decide),id,id,id,id,id,id,id,h.1,id,(by generalize ((e.kind:Int)==0)=b0;revert b0;decide),(by generalize ((e.kind:Int)==2)=b0;generalize ((e.kind:Int)==0)=b1;generalize ((list:Int)==9)=b2;revert b0 b1 b2;decide),(by generalize ((e.kind:Int)==0)=b0;revert b0;decide),h.2⟩
def Zo9(list:Int)(e:Edit):Prop:=AW (Z0 Zf3) Try.f128 Zgi [] (Zm (Zfp.can (list,e,())) []) (EQ Try.f128 (ZhP (list,e,())) [])
theorem Zmx(hb:∀ (list:Int) (e:Edit) (_:Unit),Z4I (list,e,())→Zo9 list e):CT 128 Z2j:=
 Z3 (l:=[]) Zk rfl trivial Zgi Try.func128 rfl rfl 2 (fun _=> rfl) (by decide) (fun ⟨list,e,_⟩=> hb list e ())
def Zf4:List (FuncId × Fs U):=[]
def Zgj:Zi U:=lvl [([0,3],[3]),([4],[])]
abbrev ZrF(list:Int)(e:Edit)(Q:QT):=AW (Z0 Zf4) Try.f111 Zgj [] (L2 [(0,.c (ci list)),(1,.agg (enc .edit e))] []) Q
theorem ZrR(list:Int)(e:Edit)(Q:QT)(h:Q .ret (L2 [(4,.c (.bool (bif (e.kind==0) then true else (bif (bif (bif (e.kind==2) then (list==9) else false) then (((e.words.length:Int):Int)==0) else false) then (((e.kids.length:Int):Int)==0) else false))))] [])):
  ZrF list e Q:=by
 have e_:(ZrF list e Q)=(let zz2:=(bif (e.kind==2) then ((list:Int)==9) else false);let zz1:=(!(e.kind==0));let zz0:=(bif zz2 then ((e.words.length:Int)==0) else false);((ZC (zz1=true))∧(ZC (zz1=true))∧(ZC (zz1=true))∧(ZC ((zz1 && (e.kind==2))=true))∧(zz1=true→(True→zz1=true))∧(zz1=true→((e.kind==2)=true→(zz1 && (e.kind==2))=true))∧(ZC (zz1=true))∧(ZC ((zz1 && zz2)=true))∧(ZC ((zz1 && zz2)=true))∧(ZC ((zz1 && zz2)=true))∧(zz1=true→(True→zz1=true))∧(zz1=true→(zz2=true→(zz1 && zz2)=true))∧(ZC (zz1=true))∧(ZC ((zz1 && zz0)=true))∧(ZC ((zz1 && zz0)=true))∧(ZC ((zz1 && zz0)=true))∧(zz1=true→(True→zz1=true))∧(zz1=true→(zz0=true→(zz1 && zz0)=true))∧((e.kind==0)=false→zz1=true)∧(Q .ret (L2 [(4,.c (.bool (bif (e.kind==0) then true else (bif zz0 then ((e.kids.length:Int)==0) else false))))] [])))):=by kernel_rfl
 exact e_.mpr ⟨id,id,id,id,(by generalize ((e.kind:Int)==0)=b0;revert b0;decide),(by generalize ((e.kind:Int)==2)=b0;generalize ((e.kind:Int)==0)=b1;revert b0 b1;decide),id,id,id,id,(by generalize ((e.kind:Int)==0)=b0;revert b0;decide),(by generalize ((e.kind:Int)==2)=b0;generalize ((e.kind:Int)==0)=b1;generalize ((list:Int)==9)=b2;revert b0 b1 b2;decide),id,id,id,id,(by generalize ((e.kind:Int)==0)=b0;revert b0;decide),(by generalize (((e.words.length:Int):Int)==0)=b0;generalize ((e.kind:Int)==2)=b1;generalize ((e.kind:Int)==0)=b2;generalize ((list:Int)==9)=b3;revert b0 b1 b2 b3;decide),(by generalize ((e.kind:Int)==0)=b0;revert b0;decide),h⟩
def Zob(list:Int)(e:Edit):Prop:=AW (Z0 Zf4) Try.f111 Zgj [] (Zm (Zfq.can (list,e,())) []) (EQ Try.f111 (ZhR (list,e,())) [])
theorem Zmz(hb:∀ (list:Int) (e:Edit) (_:Unit),Z6m (list,e,())→Zob list e):CT 111 Z2k:=
 Z3 (l:=[]) Zk rfl trivial Zgj Try.func111 rfl rfl 2 (fun _=> rfl) (by decide) (fun ⟨list,e,_⟩=> hb list e ())
end
end Go.AM.Ytpjenobkibfpcaa
namespace Go.AM.Ytpjenobkibfpcaa
open Go.AM Go.Proofs
theorem Z1o{α:Type}(l:List α)(z x:α):(l++[z]).set (Int.toNat (l.length:Int)) x=l++[x]:=by
 rw [Int.toNat_natCast,List.set_append_right _ _ (Nat.le_refl _)]
 simp
theorem Z4e:∀ (F:List Op) (n:Int),Y8 F n=if F.length≠0∧(F.getD (F.length - 1) Op.nil).kind=0 then F.set (F.length - 1) ⟨(F.getD (F.length - 1) Op.nil).kind,(F.getD (F.length - 1) Op.nil).n+n,(F.getD (F.length - 1) Op.nil).l,(F.getD (F.length - 1) Op.nil).e⟩ else F++[⟨0,n,[],Edit.nil⟩]
 | [],n=> by simp [Y8]
 | [o],n=> by simp [Y8]
 | o ::p ::r,n=> by
  have ih:=Z4e (p ::r) n
  have e:(o ::p ::r).length - 1=((p ::r).length - 1)+1:=by simp
  rw [Y8,ih,e]
  simp only [List.getD_cons_succ,List.set_cons_succ]
  by_cases h:(p ::r).length≠0∧((p ::r).getD ((p ::r).length - 1) Op.nil).kind=0
  ·rw [if_pos h,if_pos ⟨by simp,h.2⟩]
  ·have h':¬((p ::r).getD ((p ::r).length - 1) Op.nil).kind=0:=fun e=> h ⟨by simp,e⟩
   rw [if_neg h,if_neg (fun e=> h' e.2)]
   try rfl
theorem Z51(s:Wst):(Z1 s).out.length≤s.out.length+2:=by
 simp only [Z1,YD]
 split <;> split <;> simp
theorem Z50(s:Wst):∀ o∈(Z1 s).out,o∈s.out∨o.n=0:=by
 intro o ho
 simp only [Z1,YD,List.mem_append] at ho
 rcases ho with h | h | h
 ·exact .inl h
 ·split at h
  ·cases h
  ·simp only [List.mem_singleton] at h;subst h;exact .inr rfl
 ·split at h
  ·cases h
  ·simp only [List.mem_singleton] at h;subst h;exact .inr rfl
theorem ZkA:Contract Try.prog cfg 129 Z0N:=by
 refine Zpw ?_
 intro wo wg wb _ hp
 simp only [Z0F] at hp
 refine Zv6 wo wg wb _ ?_
 rintro y1 hy1 y2 hy2
 have hy:y1=Edit.nil:=hy1
 subst hy
 rw [Z1o] at hy2
 subst hy2
 (simp only [vcS])
 refine ⟨fun h1=> ⟨by simp;omega,by simp;omega,by omega,fun h2=> ⟨by simp;omega,by simp;omega,by omega,?_⟩,fun h2=> ?_⟩,fun h1=> ⟨fun h2=> ⟨by simp;omega,by simp;omega,by omega,?_⟩,fun h2=> ?_⟩⟩
 ·rw [Z1o]
  have e:Z1 ⟨wo,wg,wb⟩=⟨wo++[⟨1,0,wg,Edit.nil⟩]++[⟨2,0,wb,Edit.nil⟩],[],[]⟩:=by
   simp only [Z1,YD];rw [if_neg (by omega),if_neg (by omega)];simp
  simp only [Z7x,Z4F,Z4G,e]
  (repeat' (first | exact trivial | exact rfl | apply And.intro))
 ·have e:Z1 ⟨wo,wg,wb⟩=⟨wo++[⟨1,0,wg,Edit.nil⟩],[],[]⟩:=by
   simp only [Z1,YD];rw [if_neg (by omega),if_pos (by omega)];simp
  simp only [Z7x,Z4F,Z4G,e]
  (repeat' (first | exact trivial | exact rfl | apply And.intro))
 ·rw [Z1o]
  have e:Z1 ⟨wo,wg,wb⟩=⟨wo++[⟨2,0,wb,Edit.nil⟩],[],[]⟩:=by
   simp only [Z1,YD];rw [if_pos (by omega),if_neg (by omega)];simp
  simp only [Z7x,Z4F,Z4G,e]
  (repeat' (first | exact trivial | exact rfl | apply And.intro))
 ·have e:Z1 ⟨wo,wg,wb⟩=⟨wo,[],[]⟩:=by
   simp only [Z1,YD];rw [if_pos (by omega),if_pos (by omega)];simp
  simp only [Z7x,Z4F,Z4G,e]
  (repeat' (first | exact trivial | exact rfl | apply And.intro))
theorem Ztz:Contract Try.prog cfg 126 Z4w:=by
 refine Zpy ZkA ?_
 intro wo wg wb n _ hp
 simp only [Z39] at hp
 obtain ⟨p1,p2,p3,p4,p5,p6⟩:=hp
 have hfl:=Z51 ⟨wo,wg,wb⟩
 have hfm:=Z50 ⟨wo,wg,wb⟩
 have hg:(Z1 ⟨wo,wg,wb⟩).gone=[]:=rfl
 have hb:(Z1 ⟨wo,wg,wb⟩).brought=[]:=rfl
 have hk:=Z4e (Z1 ⟨wo,wg,wb⟩).out n
 have hkw:Zy ⟨wo,wg,wb⟩ n=⟨Y8 (Z1 ⟨wo,wg,wb⟩).out n,[],[]⟩:=rfl
 refine Zv8 wo wg wb n _ ?_
 simp only [hg,hb,ZfY,ZcM,ZcN,hkw]
 generalize (Z1 ⟨wo,wg,wb⟩).out=F at*
 simp only at hfl hfm
 rintro y1 hy1 y2 hy2 y3 hy3 y4 hy4
 have hy:y1=Edit.nil:=hy1
 subst hy
 have e2:y2=F.length - 1:=by omega
 subst e2
 rw [←hy3,←hy4] at hk
 (simp only [vcS])
 refine ⟨by simp only [Z0F];exact ⟨p1,p2,p3⟩,by unfold InR;omega,fun h=> ⟨h,by omega⟩,fun h=> ?_,fun h=> ?_⟩
 ·have hy3n:0≤y3.n∧y3.n≤100000000000000000:=by
   have hm:y3∈F:=by rw [hy3];exact Zl (by omega) _
   rcases hfm y3 hm with h1 | h1
   ·exact p4 y3 h1
   ·omega
  rw [if_pos ⟨by omega,h.2⟩] at hk
  rw [hk]
  refine ⟨by omega,by unfold InR;omega,by omega,by omega,?_⟩
  (repeat' (first | exact trivial | exact rfl | apply And.intro))
 ·rw [if_neg (by omega)] at hk
  rw [hk,Z1o]
  refine ⟨by simp;omega,by simp;omega,by omega,?_⟩
  (repeat' (first | exact trivial | exact rfl | apply And.intro))
theorem Zx9:Contract Try.prog cfg 127 ZcA:=by
 refine Zpx c71 ?_
 intro wo wg wb l _ hp
 simp only [Z7C] at hp
 obtain ⟨p1,p2,p3,p4⟩:=hp
 have hl:=Zs l
 refine Zv7 _ _ _ _ _ ?_
 refine Za (ι:=Int × List Tree) (fun s=> Z4S wo wg wb l s.1 s.2) (fun s=> 0≤s.1∧s.1≤l.length∧s.2.length=wg.length+s.1∧s.2++Z5 (l.drop s.1.toNat)=wg++Z5 l) (fun s=> ((l.length:Int) - s.1).toNat) (0,wg) rfl ⟨by simp,by simp,by simp,by simp⟩ ?_
 rintro ⟨i,out⟩ ⟨h1,h2,h3,h4⟩
 dsimp only at h1 h2 h3 h4
 refine Zl6 _ _ _ _ _ _ _ _ ?_
 (simp only [vcS])
 (simp only [Tree.eta,Edit.eta,Tree.kind_mk,Tree.words_mk,Tree.kids_mk])
 refine ⟨fun hi=> ?_,fun hi=> ?_⟩
 ·have hm:=YG (Zl (l:=l) (i:=i.toNat) (by omega) Tree.nil)
  rw [ZR h1 hi Tree.nil] at h4
  simp only [Z5,List.map_cons] at h4
  rw [Z1o]
  refine ⟨⟨h1,hi⟩,by simp only [Z02];omega,by simp;omega,by simp;omega,by omega,by unfold InR;omega,(i+1,out++[Z6 (l.getD i.toNat Tree.nil)]),rfl,⟨by dsimp only;omega,by dsimp only;omega,by simp;omega,?_⟩,by dsimp only;omega⟩
  simp only [List.append_assoc,List.cons_append,List.nil_append]
  exact h4
 ·rw [List.drop_of_length_le (by omega)] at h4
  simp only [Z5,List.map_nil,List.append_nil] at h4
  rw [h4]
  (repeat' (first | exact trivial | exact rfl | apply And.intro))
theorem ZvJ:Contract Try.prog cfg 127 Za1:=by
 refine Zmy c71 ?_
 intro wo wg wb l _ hp
 simp only [Z4J] at hp
 obtain ⟨p1,p2,p3,p4⟩:=hp
 have hl:=Zs l
 refine ZrQ _ _ _ _ _ ?_
 refine Za (ι:=Int × List Tree) (fun s=> Z3g wo wg wb l s.1 s.2) (fun s=> 0≤s.1∧s.1≤l.length∧s.2.length=wb.length+s.1∧s.2++Z5 (l.drop s.1.toNat)=wb++Z5 l) (fun s=> ((l.length:Int) - s.1).toNat) (0,wb) rfl ⟨by simp,by simp,by simp,by simp⟩ ?_
 rintro ⟨i,out⟩ ⟨h1,h2,h3,h4⟩
 dsimp only at h1 h2 h3 h4
 refine Zjx _ _ _ _ _ _ _ _ ?_
 (simp only [vcS])
 (simp only [Tree.eta,Edit.eta,Tree.kind_mk,Tree.words_mk,Tree.kids_mk])
 refine ⟨fun hi=> ?_,fun hi=> ?_⟩
 ·have hm:=YG (Zl (l:=l) (i:=i.toNat) (by omega) Tree.nil)
  rw [ZR h1 hi Tree.nil] at h4
  simp only [Z5,List.map_cons] at h4
  rw [Z1o]
  refine ⟨⟨h1,hi⟩,by simp only [Z02];omega,by simp;omega,by simp;omega,by omega,by unfold InR;omega,(i+1,out++[Z6 (l.getD i.toNat Tree.nil)]),rfl,⟨by dsimp only;omega,by dsimp only;omega,by simp;omega,?_⟩,by dsimp only;omega⟩
  simp only [List.append_assoc,List.cons_append,List.nil_append]
  exact h4
 ·rw [List.drop_of_length_le (by omega)] at h4
  simp only [Z5,List.map_nil,List.append_nil] at h4
  rw [h4]
  (repeat' (first | exact trivial | exact rfl | apply And.intro))
theorem Znu:Contract Try.prog cfg 128 Z2j:=by
 refine Zmx ?_
 intro list e _ hp
 simp only [Z4I] at hp
 refine ZrP _ _ _ ?_
 refine ⟨fun _=> by unfold InR;dsimp only;omega,Z2 rfl ?_⟩
 rw [Bool.eq_iff_iff]
 simp only [Jf]
 (simp only [vcS])
 omega
theorem Znv:Contract Try.prog cfg 111 Z2k:=by
 refine Zmz ?_
 intro list e _ hp
 refine ZrR _ _ _ ?_
 refine Z2 rfl ?_
 rw [Bool.eq_iff_iff]
 simp only [Jf]
 (simp only [vcS])
 omega
noncomputable def Z3G:Fs U:=Ztg ZcA Za1
theorem Znt:Contract Try.prog cfg 127 Z3G:=Zfm Zx9 ZvJ
end Go.AM.Ytpjenobkibfpcaa
namespace Go.AM.Ytpjenobkibfpcaa
open Go.AM Go.Proofs
noncomputable section
noncomputable section
def Zds:ArgL (Edit × Unit):=(.cons (aEl .edit) .nil)
def Z2q(a:Edit × Unit):Prop:=Zg a.1≤20000000000∧∃ d,Z4 a.1 d=true
def ZaG(a:Edit × Unit):Nat:=2*Zg a.1
def Z8p(a:Edit × Unit):V U:= .agg (enc .edit (Zz a.1))
def Z3E:Fs U:=fs Zds (fun a=> [Z2q a]) Z8p
def Zdp:ArgL (Int × List Op × Unit):=(.cons (Yt .i64) (.cons (aSl .op) .nil))
def Z8r(a:Int × List Op × Unit):Prop:=Zd a.2.1≤20000000000∧∀ o∈a.2.1,∃ d,Zf a.1 o d=true
def ZeH(a:Int × List Op × Unit):Nat:=2*Zd a.2.1+1
def Ze8(a:Int × List Op × Unit):V U:= .c (sU .op ((Z1 (Zo a.1 a.2.1 (Wst.mk [] [] []))).out) .unk)
def Zlq:Fs U:=fs Zdp (fun a=> [Z8r a]) Ze8
def Z2d(N:Nat):List (FuncId × Fs U):=(57,fs Zds (fun a=> [Z2q a,ZaG a < N]) Z8p) ::(94,fs Zdp (fun a=> [Z8r a,ZeH a < N]) Ze8) ::[(71,Jr),(128,Z2j),(126,Z4w),(129,Z0N),(127,Z3G)]
def Zd5:Zi U:=fun i=> match i with
 | 0=> ([(1,[]),(2,[])],[(.loc 1,[]),(.loc 2,[])])
 | 1=> ([(1,[]),(2,[]),(3,[])],[(.loc 1,[]),(.loc 2,[]),(.loc 3,[])])
 | 2=> ([(1,[]),(2,[]),(3,[]),(12,[])],[(.loc 1,[]),(.loc 2,[]),(.loc 3,[])])
 | 3=> ([(1,[]),(2,[]),(3,[]),(12,[]),(13,[])],[(.loc 1,[]),(.loc 2,[]),(.loc 3,[])])
 | 4=> ([(2,[]),(3,[])],[(.loc 2,[]),(.loc 3,[])])
 | 5=> ([(1,[]),(2,[]),(3,[]),(12,[]),(23,[])],[(.loc 1,[]),(.loc 2,[]),(.loc 3,[])])
 | 6=> ([(1,[]),(2,[]),(3,[])],[(.loc 1,[]),(.loc 2,[]),(.loc 3,[])])
 | 7=> ([(2,[]),(3,[]),(32,[]),(33,[]),(34,[])],[(.loc 2,[]),(.loc 3,[.any,.any,.any,.any,.any,.any,.any,.any,.own .kid])])
 | 8=> ([(2,[]),(3,[]),(32,[]),(33,[]),(34,[]),(35,[])],[(.loc 2,[]),(.loc 3,[])])
 | 9=> ([(2,[]),(3,[]),(5,[]),(32,[]),(33,[]),(34,[])],[(.loc 2,[]),(.loc 3,[]),(.loc 5,[])])
 | 10=> ([(2,[]),(3,[]),(32,[]),(33,[]),(34,[])],[(.loc 2,[]),(.loc 3,[])])
 | 11=> ([(2,[]),(3,[]),(32,[]),(33,[]),(34,[])],[(.loc 2,[]),(.loc 3,[.any,.any,.any,.any,.any,.any,.any,.any,.own .kid])])
 | 12=> ([(1,[]),(2,[]),(3,[]),(50,[])],[(.loc 1,[]),(.loc 2,[]),(.loc 3,[])])
 | 13=> ([(2,[]),(3,[])],[(.loc 2,[]),(.loc 3,[])])
 | 14=> ([(2,[])],[(.loc 2,[])])
 | _=> ([],[])
def Z2C(e:Edit)(x34:Int)(ml3_8:List Kid):LSt U:=(L2 [(2,.ptr (.loc 2) 0),(3,.ptr (.loc 3) 0),(32,.c (sU .kid e.kids .unk)),(33,.c (ci (e.kids.length:Int))),(34,.c (ci x34))] [(.loc 2,zc1),(.loc 3,[ci e.kind,ci 0,.nils,.nils,ci 0,.nils,.nils,sU .wedit (([]:List WEdit)++e.words) (.own (.l 3 7)),sU .kid ml3_8 (.own (.l 3 8)),ci e.list,.nils])])
abbrev W57(N:Nat)(e:Edit)(Q:QT):=AW (Z0 (Z2d N)) Try.f57 Zd5 [] (L2 [(0,.agg (enc .edit e))] []) Q
abbrev ZkM(N:Nat):=awp cfg (Z0 (Z2d N)) (Zx cfg (Z0 (Z2d N))) Try.f57.ntmps Zd5
abbrev ZjK(N:Nat):=Z3K cfg (Z0 (Z2d N)) (Zx cfg (Z0 (Z2d N))) Try.f57.ntmps Zd5
theorem ZwH(N:Nat)(e:Edit)(Q:QT)(h:((e.kind==1)=true→(Z02 ((Tree.mk e.old.kind e.old.words e.old.kids),()))∧(Z02 ((Tree.mk e.new.kind e.new.words e.new.kids),()))∧(Q .ret (L2 [(2,.ptr (.loc 2) 0)] [(.loc 2,([ci e.kind]++enc .tree (Z6 (Tree.mk e.old.kind e.old.words e.old.kids))++enc .tree (Z6 (Tree.mk e.new.kind e.new.words e.new.kids))++[.nils,.nils,ci e.list,.nils]))])))∧((e.kind==1)=false→((e.kind==2)=true→((([]:List WEdit).length+e.words.length)*32≤140737488355328)∧(Zh (AW (Z0 (Z2d N)) Try.f57 Zd5 [1,1,0,1,0,1,1,1,0,1,1,0,0]) (Z2C e 0 []) (xB 1 (xB 0 (SW (Z0 (Z2d N)) Try.f57 Zd5 [1,1,1] Q)))))∧((e.kind==2)=false→((e.kind==3)=true→(Z8r (e.list,e.ops,()))∧(ZeH (e.list,e.ops,()) < N)∧(Q .ret (L2 [(2,.ptr (.loc 2) 0)] [(.loc 2,[ci e.kind,ci 0,.nils,.nils,ci 0,.nils,.nils,.nils,.nils,ci e.list,sU .op ((Z1 (Zo e.list e.ops (Wst.mk [] [] []))).out) .unk])])))∧((e.kind==3)=false→Q .ret (L2 [(2,.ptr (.loc 2) 0)] [(.loc 2,[ci e.kind,ci 0,.nils,.nils,ci 0,.nils,.nils,.nils,.nils,ci e.list,.nils])]))))):
  W57 N e Q:=by
 have e_:(W57 N e Q)=(((e.kind==1)=true→(Z02 ((Tree.mk e.old.kind e.old.words e.old.kids),()))∧(Z02 ((Tree.mk e.new.kind e.new.words e.new.kids),()))∧(Q .ret (L2 [(2,.ptr (.loc 2) 0)] [(.loc 2,([ci e.kind]++enc .tree (Z6 (Tree.mk e.old.kind e.old.words e.old.kids))++enc .tree (Z6 (Tree.mk e.new.kind e.new.words e.new.kids))++[.nils,.nils,ci e.list,.nils]))])))∧((e.kind==1)=false→(((e.kind==2)=true→((([]:List WEdit).length+e.words.length)*32≤140737488355328)∧(Zh (ZkM N (cd Try.f57 [1,1,0,1,0,1,1,1,0,1,1,0,0])) (Z2C e 0 []) (xB 1 (xB 0 (ZjK N (cd Try.f57 [1,1,1]) Q)))))∧((e.kind==2)=false→(((e.kind==3)=true→(Z8r (e.list,e.ops,()))∧(ZeH (e.list,e.ops,()) < N)∧(Q .ret (L2 [(2,.ptr (.loc 2) 0)] [(.loc 2,[ci e.kind,ci 0,.nils,.nils,ci 0,.nils,.nils,.nils,.nils,ci e.list,sU .op ((Z1 (Zo e.list e.ops (Wst.mk [] [] []))).out) .unk])])))∧((e.kind==3)=false→(Q .ret (L2 [(2,.ptr (.loc 2) 0)] [(.loc 2,[ci e.kind,ci 0,.nils,.nils,ci 0,.nils,.nils,.nils,.nils,ci e.list,.nils])])))))))):=by kernel_rfl
 exact e_.mpr ⟨fun c_1=> ⟨(h.1 c_1).1,(h.1 c_1).2.1,(h.1 c_1).2.2⟩,fun c_1=> ⟨fun c_2=> ⟨((h.2 c_1).1 c_2).1,((h.2 c_1).1 c_2).2⟩,fun c_2=> ⟨fun c_3=> ⟨(((h.2 c_1).2 c_2).1 c_3).1,(((h.2 c_1).2 c_2).1 c_3).2.1,(((h.2 c_1).2 c_2).1 c_3).2.2⟩,fun c_3=> (((h.2 c_1).2 c_2).2 c_3)⟩⟩⟩
abbrev Zo4(N:Nat)(e:Edit)(x34:Int)(ml3_8:List Kid)(N0:NT)(Q:QT):=AW (Z0 (Z2d N)) Try.f57 Zd5 [1,1,0,1,0,1,1,1,0,1,1,0,0] (Z2C e x34 ml3_8) (xT N0 (xB 1 (xB 0 (SW (Z0 (Z2d N)) Try.f57 Zd5 [1,1,1] Q))))
theorem ZoH(N:Nat)(e:Edit)(x34:Int)(ml3_8:List Kid)(N0:NT)(Q:QT)(h:∀ y_1,y_1=(e.kids.getD x34.toNat (KidOf.mk 0 Edit.nil))→∀ y_2,y_2=(y_1.e)→∀ y_3,y_3=(Zz y_2)→((decide (x34 < (e.kids.length:Int)))=true→((0:Int)≤x34∧x34 < (e.kids.length:Int))∧((Z2q (y_2,()))∧(ZaG (y_2,()) < N)∧((ml3_8.length+([(KidOf.mk y_1.at_ y_3:Kid)]).length)*208≤140737488355328)∧((InR (x34+1))∧(N0 (Z2C e (x34+1) (ml3_8++([(KidOf.mk y_1.at_ y_3:Kid)])))))))∧((decide (x34 < (e.kids.length:Int)))=false→Q .ret (L2 [(2,.ptr (.loc 2) 0)] [(.loc 2,[ci e.kind,ci 0,.nils,.nils,ci 0,.nils,.nils,sU .wedit (([]:List WEdit)++e.words) (.own (.l 2 7)),sU .kid ml3_8 (.own (.l 2 8)),ci e.list,.nils])]))):
  Zo4 N e x34 ml3_8 N0 Q:=by
 have e_:(Zo4 N e x34 ml3_8 N0 Q)=(let y_1:=(e.kids.getD x34.toNat (KidOf.mk 0 Edit.nil));let y_2:=(YF y_1.e);let y_3:=(YF (Zz y_2));(((decide ((x34:Int) < (e.kids.length:Int)))=true→((0:Int)≤x34∧x34 < (e.kids.length:Int))∧((Z2q (y_2,()))∧(ZaG (y_2,()) < N)∧((ml3_8.length+([(KidOf.mk y_1.at_ y_3:Kid)]).length)*208≤140737488355328)∧((InR ((x34:Int)+1))∧(N0 (Z2C e ((x34:Int)+1) (ml3_8++([(KidOf.mk y_1.at_ y_3:Kid)])))))))∧((decide ((x34:Int) < (e.kids.length:Int)))=false→(Q .ret (L2 [(2,.ptr (.loc 2) 0)] [(.loc 2,[ci e.kind,ci 0,.nils,.nils,ci 0,.nils,.nils,sU .wedit (([]:List WEdit)++e.words) (.own (.l 2 7)),sU .kid ml3_8 (.own (.l 2 8)),ci e.list,.nils])]))))):=by kernel_rfl
 exact e_.mpr (by intro y_1 y_2 y_3;have hh:=h y_1 rfl y_2 (Ze _) y_3 (Ze _);exact ⟨fun c_4=> ⟨(hh.1 c_4).1,⟨(hh.1 c_4).2.1,(hh.1 c_4).2.2.1,(hh.1 c_4).2.2.2.1,⟨(hh.1 c_4).2.2.2.2.1,(hh.1 c_4).2.2.2.2.2⟩⟩⟩,fun c_4=> (hh.2 c_4)⟩)
def Zur(N:Nat)(e:Edit):Prop:=AW (Z0 (Z2d N)) Try.f57 Zd5 [] (Zm (Zds.can (e,())) []) (EQ Try.f57 (Z8p (e,())) [])
abbrev Zwc:Prop:=∀ (N:Nat) (e:Edit) (_:Unit),Z2q (e,())→ZaG (e,()) < N+1→Zur N e
def Z2c(N:Nat):List (FuncId × Fs U):=(57,fs Zds (fun a=> [Z2q a,ZaG a < N]) Z8p) ::(94,fs Zdp (fun a=> [Z8r a,ZeH a < N]) Ze8) ::[(71,Jr),(128,Z2j),(126,Z4w),(129,Z0N),(127,Z3G)]
def Zd4:Zi U:=fun i=> match i with
 | 0=> ([(0,[]),(1,[])],[])
 | 1=> ([(0,[]),(1,[]),(5,[])],[(.loc 10,[.wr .op])])
 | 2=> ([(0,[]),(5,[]),(11,[]),(12,[]),(13,[])],[(.loc 10,[.wr .op,.own .tree,.own .tree])])
 | 3=> ([(0,[]),(5,[]),(11,[]),(12,[]),(13,[]),(14,[])],[(.loc 10,[.wr .op])])
 | 4=> ([(0,[]),(5,[]),(7,[]),(11,[]),(12,[]),(13,[])],[(.loc 7,[]),(.loc 10,[.wr .op])])
 | 5=> ([(0,[]),(5,[]),(7,[]),(11,[]),(12,[]),(13,[]),(18,[])],[(.loc 7,[]),(.loc 10,[.wr .op])])
 | 6=> ([(0,[]),(5,[]),(7,[]),(11,[]),(12,[]),(13,[]),(18,[]),(19,[])],[(.loc 7,[]),(.loc 10,[.wr .op])])
 | 7=> ([(0,[]),(5,[]),(11,[]),(12,[]),(13,[])],[(.loc 10,[.wr .op])])
 | 8=> ([(0,[]),(5,[]),(7,[]),(11,[]),(12,[]),(13,[]),(18,[]),(25,[])],[(.loc 7,[]),(.loc 10,[.wr .op])])
 | 9=> ([(0,[]),(5,[]),(11,[]),(12,[]),(13,[])],[(.loc 10,[.wr .op])])
 | 10=> ([(0,[]),(5,[]),(7,[]),(11,[]),(12,[]),(13,[]),(18,[]),(33,[])],[(.loc 7,[]),(.loc 10,[.wr .op])])
 | 11=> ([(0,[]),(5,[]),(11,[]),(12,[]),(13,[])],[(.loc 10,[.wr .op])])
 | 12=> ([(0,[]),(5,[]),(7,[]),(11,[]),(12,[]),(13,[]),(41,[])],[(.loc 7,[]),(.loc 10,[.wr .op])])
 | 13=> ([(0,[]),(5,[]),(8,[]),(11,[]),(12,[]),(13,[])],[(.loc 8,[]),(.loc 10,[.wr .op])])
 | 14=> ([(0,[]),(5,[]),(8,[]),(11,[]),(12,[]),(13,[]),(48,[])],[(.loc 8,[]),(.loc 10,[.wr .op])])
 | 15=> ([(0,[]),(5,[]),(11,[]),(12,[]),(13,[])],[(.loc 10,[.wr .op])])
 | 16=> ([(0,[]),(5,[]),(8,[]),(11,[]),(12,[]),(13,[])],[(.loc 8,[]),(.loc 10,[.wr .op])])
 | 17=> ([(0,[]),(5,[]),(11,[]),(12,[]),(13,[])],[(.loc 10,[.wr .op])])
 | 18=> ([(0,[]),(5,[]),(11,[]),(12,[]),(13,[])],[(.loc 10,[.wr .op,.own .tree,.own .tree])])
 | 19=> ([(5,[])],[(.loc 10,[.wr .op])])
 | 20=> ([(4,[])],[])
 | _=> ([],[])
def Ya(list:Int)(l:List Op)(x13:Int)(rl_10_0:List Op)(ml10_1 ml10_2:List Tree):LSt U:=(⟨[(0,.c (ci list)),(5,.ptr (.loc 10) 0),(11,.c (sU .op l .unk)),(12,.c (ci (l.length:Int))),(13,.c (ci x13))],[(.loc 10,[.mref (.l 10 0),sU .tree ml10_1 (.own (.l 10 1)),sU .tree ml10_2 (.own (.l 10 2))])],[(.l 10 0,LC.mk (U:=U) .op rl_10_0 0)]⟩:LSt U)
abbrev W94(N:Nat)(list:Int)(l:List Op)(Q:QT):=AW (Z0 (Z2c N)) Try.f94 Zd4 [] (L2 [(0,.c (ci list)),(1,.c (sU .op l .unk))] []) Q
abbrev ZkK(N:Nat):=awp cfg (Z0 (Z2c N)) (Zx cfg (Z0 (Z2c N))) Try.f94.ntmps Zd4
abbrev ZjI(N:Nat):=Z3K cfg (Z0 (Z2c N)) (Zx cfg (Z0 (Z2c N))) Try.f94.ntmps Zd4
theorem Zwh(N:Nat)(list:Int)(l:List Op)(Q:QT)(h:Zh (AW (Z0 (Z2c N)) Try.f94 Zd4 [1,1,0,1,0,0]) (Ya list l 0 [] [] []) (xB 0 (SW (Z0 (Z2c N)) Try.f94 Zd4 [1,1,1] Q))):
  W94 N list l Q:=by
 have e_:(W94 N list l Q)=(Zh (ZkK N (cd Try.f94 [1,1,0,1,0,0])) (Ya list l 0 [] [] []) (xB 0 (ZjI N (cd Try.f94 [1,1,1]) Q))):=by kernel_rfl
 exact e_.mpr h
abbrev Zo2(N:Nat)(list:Int)(l:List Op)(x13:Int)(rl_10_0:List Op)(ml10_1 ml10_2:List Tree)(N0:NT)(Q:QT):=AW (Z0 (Z2c N)) Try.f94 Zd4 [1,1,0,1,0,0] (Ya list l x13 rl_10_0 ml10_1 ml10_2) (xT N0 (xB 0 (SW (Z0 (Z2c N)) Try.f94 Zd4 [1,1,1] Q)))
theorem Zoh(N:Nat)(list:Int)(l:List Op)(x13:Int)(rl_10_0:List Op)(ml10_1 ml10_2:List Tree)(N0:NT)(Q:QT)(h:∀ y_1,y_1=(l.getD x13.toNat Op.nil)→∀ y_2,y_2=(Edit.mk 0 (Tree.mk 0 [] []) (Tree.mk 0 [] []) [] [] 0 [])→∀ y_3,y_3=(Int.toNat (((Z1 (Wst.mk rl_10_0 ml10_1 ml10_2)).out).length:Int))→∀ y_4,y_4=(y_1.e)→∀ y_5,y_5=(Zz y_4)→((decide (x13 < (l.length:Int)))=true→((0:Int)≤x13∧x13 < (l.length:Int))∧(((y_1.kind==0)=true→(Z39 ((rl_10_0,ml10_1,ml10_2,()),y_1.n,()))∧((InR (x13+1))∧(N0 (Ya list l (x13+1) ((Zy (Wst.mk rl_10_0 ml10_1 ml10_2) y_1.n).out) ((Zy (Wst.mk rl_10_0 ml10_1 ml10_2) y_1.n).gone) ((Zy (Wst.mk rl_10_0 ml10_1 ml10_2) y_1.n).brought)))))∧((y_1.kind==0)=false→((y_1.kind==1)=true→(Z7C ((rl_10_0,ml10_1,ml10_2,()),y_1.l,()))∧((InR (x13+1))∧(N0 (Ya list l (x13+1) ((Wst.mk rl_10_0 (ml10_1++Z5 y_1.l) ml10_2).out) ((Wst.mk rl_10_0 (ml10_1++Z5 y_1.l) ml10_2).gone) ((Wst.mk rl_10_0 (ml10_1++Z5 y_1.l) ml10_2).brought)))))∧((y_1.kind==1)=false→((y_1.kind==2)=true→(Z4J ((rl_10_0,ml10_1,ml10_2,()),y_1.l,()))∧((InR (x13+1))∧(N0 (Ya list l (x13+1) ((Wst.mk rl_10_0 ml10_1 (ml10_2++Z5 y_1.l)).out) ((Wst.mk rl_10_0 ml10_1 (ml10_2++Z5 y_1.l)).gone) ((Wst.mk rl_10_0 ml10_1 (ml10_2++Z5 y_1.l)).brought)))))∧((y_1.kind==2)=false→((y_1.kind==3)=true→(Z2q (y_4,()))∧(ZaG (y_4,()) < N)∧((Z4I (list,y_5,()))∧(((Jf list y_5)=true→(Z39 ((rl_10_0,ml10_1,ml10_2,()),1,()))∧((InR (x13+1))∧(N0 (Ya list l (x13+1) ((Zy (Wst.mk rl_10_0 ml10_1 ml10_2) 1).out) ((Zy (Wst.mk rl_10_0 ml10_1 ml10_2) 1).gone) ((Zy (Wst.mk rl_10_0 ml10_1 ml10_2) 1).brought)))))∧((Jf list y_5)=false→(Z0F ((rl_10_0,ml10_1,ml10_2,()),()))∧(((((Z1 (Wst.mk rl_10_0 ml10_1 ml10_2)).out).length+([(OpOf.mk 0 0 [] y_2:Op)]).length)*240≤140737488355328)∧((0:Int)≤(((Z1 (Wst.mk rl_10_0 ml10_1 ml10_2)).out).length:Int)∧(((Z1 (Wst.mk rl_10_0 ml10_1 ml10_2)).out).length:Int) < ((((Z1 (Wst.mk rl_10_0 ml10_1 ml10_2)).out)++([(OpOf.mk 0 0 [] y_2:Op)])).length:Int))∧((0:Nat)≤y_3)∧((InR (x13+1))∧(N0 (Ya list l (x13+1) (List.set (((Z1 (Wst.mk rl_10_0 ml10_1 ml10_2)).out)++([(OpOf.mk 0 0 [] y_2:Op)])) y_3 (OpOf.mk 3 0 [] y_5:Op)) ((Z1 (Wst.mk rl_10_0 ml10_1 ml10_2)).gone) ((Z1 (Wst.mk rl_10_0 ml10_1 ml10_2)).brought)))))))))∧((y_1.kind==3)=false→(InR (x13+1))∧(N0 (Ya list l (x13+1) rl_10_0 ml10_1 ml10_2))))))))∧((decide (x13 < (l.length:Int)))=false→(Z0F ((rl_10_0,ml10_1,ml10_2,()),()))∧(Q .ret (L2 [(4,.c (sU .op ((Z1 (Wst.mk rl_10_0 ml10_1 ml10_2)).out) (.own (.e 4 0))))] [])))):
  Zo2 N list l x13 rl_10_0 ml10_1 ml10_2 N0 Q:=by
 have e_:(Zo2 N list l x13 rl_10_0 ml10_1 ml10_2 N0 Q)=(let y_1:=(l.getD x13.toNat Op.nil);let y_2:=(Edit.mk 0 (Tree.mk 0 [] []) (Tree.mk 0 [] []) [] [] 0 []);let y_3:=(Int.toNat (((Z1 (Wst.mk rl_10_0 ml10_1 ml10_2)).out).length:Int));let y_4:=(YF y_1.e);let y_5:=(YF (Zz y_4));(((decide ((x13:Int) < (l.length:Int)))=true→((0:Int)≤x13∧x13 < (l.length:Int))∧(((y_1.kind==0)=true→(Z39 ((rl_10_0,ml10_1,ml10_2,()),y_1.n,()))∧((InR ((x13:Int)+1))∧(N0 (Ya list l ((x13:Int)+1) ((Zy (Wst.mk rl_10_0 ml10_1 ml10_2) y_1.n).out) ((Zy (Wst.mk rl_10_0 ml10_1 ml10_2) y_1.n).gone) ((Zy (Wst.mk rl_10_0 ml10_1 ml10_2) y_1.n).brought)))))∧((y_1.kind==0)=false→(((y_1.kind==1)=true→(Z7C ((rl_10_0,ml10_1,ml10_2,()),y_1.l,()))∧((InR ((x13:Int)+1))∧(N0 (Ya list l ((x13:Int)+1) ((Wst.mk rl_10_0 (ml10_1++Z5 y_1.l) ml10_2).out) ((Wst.mk rl_10_0 (ml10_1++Z5 y_1.l) ml10_2).gone) ((Wst.mk rl_10_0 (ml10_1++Z5 y_1.l) ml10_2).brought)))))∧((y_1.kind==1)=false→(((y_1.kind==2)=true→(Z4J ((rl_10_0,ml10_1,ml10_2,()),y_1.l,()))∧((InR ((x13:Int)+1))∧(N0 (Ya list l ((x13:Int)+1) ((Wst.mk rl_10_0 ml10_1 (ml10_2++Z5 y_1.l)).out) ((Wst.mk rl_10_0 ml10_1 (ml10_2++Z5 y_1.l)).gone) ((Wst.mk rl_10_0 ml10_1 (ml10_2++Z5 y_1.l)).brought)))))∧((y_1.kind==2)=false→(((y_1.kind==3)=true→(Z2q (y_4,()))∧(ZaG (y_4,()) < N)∧((Z4I (list,y_5,()))∧(((Jf list y_5)=true→(Z39 ((rl_10_0,ml10_1,ml10_2,()),1,()))∧((InR ((x13:Int)+1))∧(N0 (Ya list l ((x13:Int)+1) ((Zy (Wst.mk rl_10_0 ml10_1 ml10_2) 1).out) ((Zy (Wst.mk rl_10_0 ml10_1 ml10_2) 1).gone) ((Zy (Wst.mk rl_10_0 ml10_1 ml10_2) 1).brought)))))∧((Jf list y_5)=false→(Z0F ((rl_10_0,ml10_1,ml10_2,()),()))∧(((((Z1 (Wst.mk rl_10_0 ml10_1 ml10_2)).out).length+([(OpOf.mk 0 0 [] y_2:Op)]).length)*240≤140737488355328)∧((0:Int)≤(((Z1 (Wst.mk rl_10_0 ml10_1 ml10_2)).out).length:Int)∧(((Z1 (Wst.mk rl_10_0 ml10_1 ml10_2)).out).length:Int) < ((((Z1 (Wst.mk rl_10_0 ml10_1 ml10_2)).out)++([(OpOf.mk 0 0 [] y_2:Op)])).length:Int))∧((0:Nat)≤y_3)∧((InR ((x13:Int)+1))∧(N0 (Ya list l ((x13:Int)+1) (List.set (((Z1 (Wst.mk rl_10_0 ml10_1 ml10_2)).out)++([(OpOf.mk 0 0 [] y_2:Op)])) y_3 (OpOf.mk 3 0 [] y_5:Op)) ((Z1 (Wst.mk rl_10_0 ml10_1 ml10_2)).gone) ((Z1 (Wst.mk rl_10_0 ml10_1 ml10_2)).brought)))))))))∧((y_1.kind==3)=false→(InR ((x13:Int)+1))∧(N0 (Ya list l ((x13:Int)+1) rl_10_0 ml10_1 ml10_2)))))))))))∧((decide ((x13:Int) < (l.length:Int)))=false→(Z0F ((rl_10_0,ml10_1,ml10_2,()),()))∧(Q .ret (L2 [(4,.c (sU .op ((Z1 (Wst.mk rl_10_0 ml10_1 ml10_2)).out) (.own (.e 4 0))))] []))))):=by kernel_rfl
 exact e_.mpr (by intro y_1 y_2 y_3 y_4 y_5;have hh:=h y_1 rfl y_2 rfl y_3 rfl y_4 (Ze _) y_5 (Ze _);exact ⟨fun c_5=> ⟨(hh.1 c_5).1,⟨fun c_6=> ⟨((hh.1 c_5).2.1 c_6).1,⟨((hh.1 c_5).2.1 c_6).2.1,((hh.1 c_5).2.1 c_6).2.2⟩⟩,fun c_6=> ⟨fun c_7=> ⟨(((hh.1 c_5).2.2 c_6).1 c_7).1,⟨(((hh.1 c_5).2.2 c_6).1 c_7).2.1,(((hh.1 c_5).2.2 c_6).1 c_7).2.2⟩⟩,fun c_7=> ⟨fun c_8=> ⟨((((hh.1 c_5).2.2 c_6).2 c_7).1 c_8).1,⟨((((hh.1 c_5).2.2 c_6).2 c_7).1 c_8).2.1,((((hh.1 c_5).2.2 c_6).2 c_7).1 c_8).2.2⟩⟩,fun c_8=> ⟨fun c_9=> ⟨(((((hh.1 c_5).2.2 c_6).2 c_7).2 c_8).1 c_9).1,(((((hh.1 c_5).2.2 c_6).2 c_7).2 c_8).1 c_9).2.1,⟨(((((hh.1 c_5).2.2 c_6).2 c_7).2 c_8).1 c_9).2.2.1,⟨fun c_10=> ⟨((((((hh.1 c_5).2.2 c_6).2 c_7).2 c_8).1 c_9).2.2.2.1 c_10).1,⟨((((((hh.1 c_5).2.2 c_6).2 c_7).2 c_8).1 c_9).2.2.2.1 c_10).2.1,((((((hh.1 c_5).2.2 c_6).2 c_7).2 c_8).1 c_9).2.2.2.1 c_10).2.2⟩⟩,fun c_10=> ⟨((((((hh.1 c_5).2.2 c_6).2 c_7).2 c_8).1 c_9).2.2.2.2 c_10).1,⟨((((((hh.1 c_5).2.2 c_6).2 c_7).2 c_8).1 c_9).2.2.2.2 c_10).2.1,((((((hh.1 c_5).2.2 c_6).2 c_7).2 c_8).1 c_9).2.2.2.2 c_10).2.2.1,((((((hh.1 c_5).2.2 c_6).2 c_7).2 c_8).1 c_9).2.2.2.2 c_10).2.2.2.1,⟨((((((hh.1 c_5).2.2 c_6).2 c_7).2 c_8).1 c_9).2.2.2.2 c_10).2.2.2.2.1,((((((hh.1 c_5).2.2 c_6).2 c_7).2 c_8).1 c_9).2.2.2.2 c_10).2.2.2.2.2⟩⟩⟩⟩⟩⟩,fun c_9=> ⟨(((((hh.1 c_5).2.2 c_6).2 c_7).2 c_8).2 c_9).1,(((((hh.1 c_5).2.2 c_6).2 c_7).2 c_8).2 c_9).2⟩⟩⟩⟩⟩⟩,fun c_5=> ⟨(hh.2 c_5).1,(hh.2 c_5).2⟩⟩)
def Zu1(N:Nat)(list:Int)(l:List Op):Prop:=AW (Z0 (Z2c N)) Try.f94 Zd4 [] (Zm (Zdp.can (list,l,())) []) (EQ Try.f94 (Ze8 (list,l,())) [])
abbrev Zw7:Prop:=∀ (N:Nat) (list:Int) (l:List Op) (_:Unit),Z8r (list,l,())→ZeH (list,l,()) < N+1→Zu1 N list l
theorem Zka(c71:CT 71 Jr)(Znu:CT 128 Z2j)(Ztz:CT 126 Z4w)(ZkA:CT 129 Z0N)(Znt:CT 127 Z3G)(ha:Zwc)(hb:Zw7):CT 57 Z3E∧CT 94 Zlq:=
 Z2f (μA:=ZaG) (μB:=ZeH) (l:=[(71,Jr),(128,Z2j),(126,Z4w),(129,Z0N),(127,Z3G)]) Zk rfl (⟨c71,Znu,Ztz,ZkA,Znt,trivial⟩) Zd5 Zd4 Try.func57 Try.func94 rfl rfl rfl rfl 1 2 (fun _=> rfl) (fun _=> rfl) (by decide) (by decide) (fun N ⟨e,_⟩=> ha N e ()) (fun N ⟨list,l,_⟩=> hb N list l ())
end
end
end Go.AM.Ytpjenobkibfpcaa
namespace Go.AM.Ytpjenobkibfpcaa
open Go.AM Go.Proofs
theorem Zkk(s:Wst)(n:Int):(Zy s n).out.length≤s.out.length+3:=by
 have h:=Z51 s
 simp only [Zy]
 rw [Z4e]
 split
 ·rw [List.length_set];omega
 ·rw [List.length_append];simp;omega
theorem Zqc{s:Wst}{n B K:Int}(hB:0≤B)(hn:0≤n∧n≤K)(h:∀ o∈s.out,0≤o.n∧o.n≤B):∀ o∈(Zy s n).out,0≤o.n∧o.n≤B+K:=by
 have hF:∀ o∈(Z1 s).out,0≤o.n∧o.n≤B:=by
  intro o ho
  rcases Z50 s o ho with h1 | h1
  ·exact h o h1
  ·omega
 intro o ho
 simp only [Zy] at ho
 rw [Z4e] at ho
 split at ho
 ·rename_i hc
  rcases List.mem_or_eq_of_mem_set ho with ho | rfl
  ·have:=hF o ho;omega
  ·have:=hF _ (Zl (l:=(Z1 s).out) (i:=(Z1 s).out.length - 1) (by omega) Op.nil)
   simp only;omega
 ·rcases List.mem_append.1 ho with ho | ho
  ·have:=hF o ho;omega
  ·simp only [List.mem_singleton] at ho;subst ho;simp only;omega
theorem Zax:∀ (l:List Kid),(Yj l).length=l.length
 | []=> rfl
 | k ::r=> by simp [Yj,Zax r]
theorem Zgb(e:Edit):(Zz e).words.length≤e.words.length∧(Zz e).kids.length≤e.kids.length:=by
 rw [Z3d]
 split
 ·simp
 ·split
  ·simp [Zax]
  ·split <;> simp
theorem Z6f{list:Int}{o:Op}{d:Int}(h:Zf list o d=true)(hk:o.kind=0):1≤o.n∧o.n≤1048576:=by
 obtain ⟨k,n,l,e⟩:=o
 simp only at hk
 subst hk
 simp [Zf] at h
 show 1≤n∧n≤1048576
 omega
theorem Z6g{list:Int}{o:Op}{d:Int}(h:Zf list o d=true)(hk:o.kind=3):Z4 o.e d=true:=by
 obtain ⟨k,n,l,e⟩:=o
 simp only at hk
 subst hk
 simp [Zf] at h
 exact h.2.1.2
theorem Zca{e:Edit}{d:Int}(h:Z4 e d=true)(hk:e.kind=2):∀ k∈e.kids,∃ d,Z4 k.e d=true:=by
 obtain ⟨k,o,n,w,ks,l,os⟩:=e
 change k=2 at hk
 subst hk
 have hks:∃ d last,ZE last ks d=true:=by
  unfold Z4 at h
  split at h
  ·cases h
  ·split at h
   ·cases h
   ·rw [if_neg (by omega)] at h
    simp only [Bool.and_eq_true] at h
    exact ⟨_,_,h.1.1.1.2⟩
 obtain ⟨d',last,hks⟩:=hks
 change ∀ k∈ks,_
 clear h
 induction ks generalizing last with
 | nil=> intro k hk;cases hk
 | cons a r ih=>
  simp only [ZE,Bool.and_eq_true] at hks
  intro k hk
  rcases List.mem_cons.1 hk with rfl | hk
  ·obtain ⟨a,e⟩:=k
   simp only [Z0t,Bool.and_eq_true] at hks
   exact ⟨_,hks.1.2⟩
  ·exact ih _ hks.2 k hk
theorem Zew{e:Edit}{d:Int}(h:Z4 e d=true)(hk:e.kind=3):∀ o∈e.ops,∃ d,Zf e.list o d=true:=by
 obtain ⟨k,o,n,w,ks,l,os⟩:=e
 change k=3 at hk
 subst hk
 have hos:∃ d,ZB l os d=true:=by
  unfold Z4 at h
  split at h
  ·cases h
  ·split at h
   ·cases h
   ·rw [if_neg (by omega)] at h
    simp only [Bool.and_eq_true] at h
    exact ⟨_,h.1.2⟩
 obtain ⟨d',hos⟩:=hos
 change ∀ o∈os,∃ d,Zf l o d=true
 clear h
 induction os with
 | nil=> intro k hk;cases hk
 | cons a r ih=>
  simp only [ZB,Bool.and_eq_true] at hos
  intro k hk
  rcases List.mem_cons.1 hk with rfl | hk
  ·exact ⟨_,hos.1⟩
  ·exact ih hos.2 k hk
theorem b94:Zw7:=by
 intro N list l _ hp hN
 simp only [Z8r,ZeH] at hp hN
 obtain ⟨p1,p3⟩:=hp
 have hl:=Y3 l
 refine Zwh _ _ _ _ ?_
 refine Za (ι:=Int × Wst) (fun s=> Ya list l s.1 s.2.out s.2.gone s.2.brought)
  (fun s=> 0≤s.1∧s.1≤l.length∧Zo list (l.drop s.1.toNat) s.2=Zo list l ⟨[],[],[]⟩∧s.2.out.length≤3*s.1∧s.2.gone.length+s.2.brought.length+Zd (l.drop s.1.toNat)≤Zd l∧∀ o∈s.2.out,0≤o.n∧o.n≤s.1*1048576)
  (fun s=> ((l.length:Int) - s.1).toNat) (0,⟨[],[],[]⟩) rfl ⟨by simp,by simp,by simp,by simp,by simp,by simp⟩ ?_
 rintro ⟨i,s⟩ ⟨g1,g2,g3,g4,g5,g6⟩
 dsimp only at g1 g2 g3 g4 g5 g6
 refine Zoh _ _ _ _ _ _ _ _ _ ?_
 rintro y1 hy1 y2 hy2 y3 hy3 y4 hy4 y5 hy5
 have hy:y2=Edit.nil:=hy2
 subst hy
 have es:Wst.mk s.out s.gone s.brought=s:=rfl
 simp only [es] at hy3 ⊢
 (simp only [vcS])
 refine ⟨fun hi=> ?_,fun hi=> ?_⟩
 ·have hmem:=Zl (l:=l) (i:=i.toNat) (by omega) Op.nil
  have hm:=Y2 hmem
  have hr:=p3 _ hmem
  rw [ZR g1 hi Op.nil] at g3 g5
  rw [←hy1] at g3 g5 hm hr
  have hmo:=Yg y1
  simp only [Zo,Yq,Zd] at g3 g5
  rw [←hy4,←hy5] at g3
  obtain ⟨d,hr2⟩:=hr
  have hfl:=Z51 s
  have hP:∀ n:Int,0≤n∧n≤1048576→Z39 ((s.out,s.gone,s.brought,()),n,()):=by
   intro n hn
   simp only [Z39]
   refine ⟨by omega,by omega,by omega,fun o ho=> ?_,by omega,by omega⟩
   have:=g6 o ho
   constructor
   ·omega
   ·have:i*1048576≤20000000000*1048576:=by omega
    omega
  have hK:∀ n:Int,0≤n∧n≤1048576→Zo list (l.drop (i+1).toNat) (Zy s n)=Zo list l ⟨[],[],[]⟩→
    (∃ j:Int × Wst,Ya list l (i+1) (Zy s n).out (Zy s n).gone (Zy s n).brought=Ya list l j.1 j.2.out j.2.gone j.2.brought∧(0≤j.1∧j.1≤l.length∧Zo list (l.drop j.1.toNat) j.2=Zo list l ⟨[],[],[]⟩∧j.2.out.length≤3*j.1∧j.2.gone.length+j.2.brought.length+Zd (l.drop j.1.toNat)≤Zd l∧∀ o∈j.2.out,0≤o.n∧o.n≤j.1*1048576)∧((l.length:Int) - j.1).toNat < ((l.length:Int) - i).toNat):=by
   intro n hn he
   have h1:=Zkk s n
   have h2:=Zqc (s:=s) (n:=n) (B:=i*1048576) (K:=1048576) (by omega) hn g6
   refine ⟨(i+1,Zy s n),rfl,⟨by dsimp only;omega,by dsimp only;omega,he,by dsimp only;omega,by simp only [Zy,List.length_nil];omega,fun o ho=> ?_⟩,by dsimp only;omega⟩
   have:=h2 o ho
   dsimp only
   omega
  refine ⟨⟨g1,hi⟩,fun hk=> ?_,fun hk=> ⟨fun hk1=> ?_,fun hk1=> ⟨fun hk2=> ?_,fun hk2=> ⟨fun hk3=> ?_,fun hk3=> ?_⟩⟩⟩⟩
  ·rw [if_pos hk] at g3
   have h1:=Z6f hr2 hk
   exact ⟨hP _ (by omega),by unfold InR;omega,hK _ (by omega) g3⟩
  ·rw [if_neg hk,if_pos hk1] at g3
   refine ⟨by simp only [Z7C];omega,by unfold InR;omega,(i+1,⟨s.out,s.gone++Z5 y1.l,s.brought⟩),rfl,⟨by dsimp only;omega,by dsimp only;omega,g3,by dsimp only;omega,?_,fun o ho=> ?_⟩,by dsimp only;omega⟩
   ·have:=Zs y1.l
    simp only [List.length_append,Z5,List.length_map];omega
   ·have:=g6 o ho
    dsimp only;omega
  ·rw [if_neg hk,if_neg hk1,if_pos hk2] at g3
   refine ⟨by simp only [Z4J];omega,by unfold InR;omega,(i+1,⟨s.out,s.gone,s.brought++Z5 y1.l⟩),rfl,⟨by dsimp only;omega,by dsimp only;omega,g3,by dsimp only;omega,?_,fun o ho=> ?_⟩,by dsimp only;omega⟩
   ·have:=Zs y1.l
    simp only [List.length_append,Z5,List.length_map];omega
   ·have:=g6 o ho
    dsimp only;omega
  ·rw [if_neg hk,if_neg hk1,if_neg hk2,if_pos hk3] at g3
   have hre:=Z6g hr2 hk3
   rw [←hy4] at hre
   have hw:=Zgb y4
   rw [←hy5] at hw
   have h1:=Y6 y4
   have h2:=Y4 y4.kids
   have hmE:Zg y4≤ZX y1:=by rw [hmo,hy4];omega
   refine ⟨by simp only [Z2q];exact ⟨by omega,d,hre⟩,by simp only [ZaG];omega,by simp only [Z4I];omega,fun hq=> ?_,fun hq=> ?_⟩
   ·rw [if_pos hq] at g3
    exact ⟨hP 1 (by omega),by unfold InR;omega,hK 1 (by omega) g3⟩
   ·rw [if_neg (by rw [hq];simp)] at g3
    rw [hy3,Z1o]
    refine ⟨by simp only [Z0F];omega,by simp only [List.length_cons,List.length_nil];omega,by simp only [List.length_append,List.length_cons,List.length_nil];omega,by omega,by unfold InR;omega,(i+1,⟨(Z1 s).out++[⟨3,0,[],y5⟩],[],[]⟩),rfl,⟨by dsimp only;omega,by dsimp only;omega,g3,by simp;omega,by simp;omega,fun o ho=> ?_⟩,by dsimp only;omega⟩
    dsimp only at ho ⊢
    rcases List.mem_append.1 ho with ho | ho
    ·rcases Z50 s o ho with h5 | h5
     ·have:=g6 o h5;omega
     ·omega
    ·simp only [List.mem_singleton] at ho
     subst ho
     simp only;omega
  ·rw [if_neg hk,if_neg hk1,if_neg hk2,if_neg hk3] at g3
   refine ⟨by unfold InR;omega,(i+1,s),rfl,⟨by dsimp only;omega,by dsimp only;omega,g3,by dsimp only;omega,by dsimp only;omega,fun o ho=> ?_⟩,by dsimp only;omega⟩
   have:=g6 o ho
   dsimp only;omega
 ·rw [List.drop_of_length_le (by omega)] at g3
  simp only [Zo] at g3
  refine ⟨by simp only [Z0F];omega,?_⟩
  simp only [Ze8]
  rw [←g3]
  (repeat' (first | exact trivial | exact rfl | apply And.intro))
theorem b57:Zwc:=by
 intro N e _ hp hN
 simp only [Z2q,ZaG] at hp hN
 obtain ⟨p1,d,p3⟩:=hp
 have h1:=Y6 e
 have h2:=Y4 e.kids
 have h3:=Y3 e.ops
 have ha:=Z3d e
 refine ZwH _ _ _ ?_
 (simp only [vcS])
 (simp only [Tree.eta,Edit.eta,Tree.kind_mk,Tree.words_mk,Tree.kids_mk])
 refine ⟨fun hk=> ⟨by simp only [Z02];omega,by simp only [Z02];omega,?_⟩,fun hk=> ⟨fun hk2=> ⟨by simp;omega,?_⟩,fun hk2=> ⟨fun hk3=> ⟨?_,by simp only [ZeH];omega,?_⟩,fun hk3=> ?_⟩⟩⟩
 ·rw [if_pos hk] at ha
  simp only [Z8p,ha]
  (repeat' (first | exact trivial | exact rfl | apply And.intro))
 ·rw [if_neg hk,if_pos hk2] at ha
  refine Za (ι:=Int × List Kid) (fun s=> Z2C e s.1 s.2) (fun s=> 0≤s.1∧s.1≤e.kids.length∧s.2.length=s.1∧s.2++Yj (e.kids.drop s.1.toNat)=Yj e.kids) (fun s=> ((e.kids.length:Int) - s.1).toNat) (0,[]) rfl ⟨by simp,by simp,by simp,by simp⟩ ?_
  rintro ⟨j,ks⟩ ⟨f1,f2,f3,f4⟩
  dsimp only at f1 f2 f3 f4
  refine ZoH _ _ _ _ _ _ ?_
  rintro y1 hy1 y2 hy2 y3 hy3
  (simp only [vcS])
  refine ⟨fun hj=> ?_,fun hj=> ?_⟩
  ·have hmem:=Zl (l:=e.kids) (i:=j.toNat) (by omega) (KidOf.mk 0 Edit.nil)
   have hm:=YC hmem
   have hr:=Zca p3 hk2 _ hmem
   rw [ZR f1 hj (KidOf.mk 0 Edit.nil)] at f4
   rw [←hy1] at f4 hm hr
   simp only [Yj,Z7M] at f4
   rw [←hy2] at f4 hm hr
   rw [←hy3] at f4
   refine ⟨⟨f1,hj⟩,by simp only [Z2q];exact ⟨by omega,hr⟩,by simp only [ZaG];omega,by simp;omega,by unfold InR;omega,(j+1,ks++[⟨y1.at_,y3⟩]),rfl,⟨by dsimp only;omega,by dsimp only;omega,by simp;omega,?_⟩,by dsimp only;omega⟩
   simp only [List.append_assoc,List.cons_append,List.nil_append]
   exact f4
  ·rw [List.drop_of_length_le (by omega)] at f4
   simp only [Yj,List.append_nil] at f4
   rw [f4]
   simp only [Z8p,ha]
   (repeat' (first | exact trivial | exact rfl | apply And.intro))
 ·simp only [Z8r]
  exact ⟨by omega,fun o ho=> Zew p3 hk3 o ho⟩
 ·rw [if_neg hk,if_neg hk2,if_pos hk3] at ha
  simp only [Z8p,ha]
  (repeat' (first | exact trivial | exact rfl | apply And.intro))
 ·rw [if_neg hk,if_neg hk2,if_neg hk3] at ha
  simp only [Z8p,ha]
  (repeat' (first | exact trivial | exact rfl | apply And.intro))
theorem Zns:Contract Try.prog cfg 57 Z3E∧Contract Try.prog cfg 94 Zlq:=Zka c71 Znu Ztz ZkA Znt b57 b94
end Go.AM.Ytpjenobkibfpcaa
namespace Go.AM.Ytpjenobkibfpcaa
open Go.AM Go.Proofs
noncomputable section
abbrev ZO(p:Prop):Prop:=p→p
noncomputable section
def Zdt:ArgL (Edit × Unit):=(.cons (aEl .edit) .nil)
def Z3r(a:Edit × Unit):Prop:=Zg a.1≤20000000000∧∃ d,Z4 a.1 d=true
def ZaH(a:Edit × Unit):Nat:=2*Zg a.1
def Z8q(a:Edit × Unit):V U:= .agg (enc .edit (Zz a.1))
def Z9R:Fs U:=fs Zdt (fun a=> [Z3r a]) Z8q
def Zdq:ArgL (Int × List Op × Unit):=(.cons (Yt .i64) (.cons (aSl .op) .nil))
def Z8u(a:Int × List Op × Unit):Prop:=Zd a.2.1≤20000000000∧∀ o∈a.2.1,∃ d,Zf a.1 o d=true
def ZeJ(a:Int × List Op × Unit):Nat:=2*Zd a.2.1+1
def Zac(a:Int × List Op × Unit):V U:= .c (sU .op ((Z1 (Zo a.1 a.2.1 (Wst.mk [] [] []))).out) .unk)
def Zlr:Fs U:=fs Zdq (fun a=> [Z8u a]) Zac
def Z0H(N:Nat):List (FuncId × Fs U):=(32,fs Zdt (fun a=> [Z3r a,ZaH a < N]) Z8q) ::(76,fs Zdq (fun a=> [Z8u a,ZeJ a < N]) Zac) ::[(45,Z0E),(110,Z4x),(111,Z2k)]
def ZaP:Zi U:=fun i=> match i with
 | 0=> ([(1,[]),(2,[])],[(.loc 1,[]),(.loc 2,[])])
 | 1=> ([(1,[]),(2,[]),(6,[])],[(.loc 1,[]),(.loc 2,[])])
 | 2=> ([(1,[]),(2,[]),(6,[]),(7,[])],[(.loc 1,[]),(.loc 2,[])])
 | 3=> ([(2,[])],[(.loc 2,[])])
 | 4=> ([(1,[]),(2,[]),(6,[]),(16,[])],[(.loc 1,[]),(.loc 2,[])])
 | 5=> ([(1,[]),(2,[]),(3,[])],[(.loc 1,[]),(.loc 2,[]),(.loc 3,[])])
 | 6=> ([(1,[]),(2,[]),(3,[])],[(.loc 1,[]),(.loc 2,[]),(.loc 3,[])])
 | 7=> ([(1,[]),(2,[]),(3,[]),(4,[])],[(.loc 1,[]),(.loc 2,[]),(.loc 3,[.any,.any,.any,.any,.any,.any,.any,.any,.own .kid])])
 | 8=> ([(1,[]),(2,[]),(3,[]),(4,[]),(29,[])],[(.loc 1,[]),(.loc 2,[]),(.loc 3,[])])
 | 9=> ([(1,[]),(2,[]),(3,[]),(4,[])],[(.loc 1,[]),(.loc 2,[]),(.loc 3,[.any,.any,.any,.any,.any,.any,.any,.any,.own .kid])])
 | 10=> ([(1,[]),(2,[]),(3,[]),(4,[])],[(.loc 1,[]),(.loc 2,[]),(.loc 3,[])])
 | 11=> ([(2,[])],[(.loc 2,[])])
 | 12=> ([(1,[]),(2,[]),(52,[])],[(.loc 1,[]),(.loc 2,[])])
 | 13=> ([(2,[])],[(.loc 2,[])])
 | 14=> ([(2,[])],[(.loc 2,[])])
 | _=> ([],[])
def Z2D(e:Edit)(x4:Int)(ml3_8:List Kid):LSt U:=(L2 [(1,.ptr (.loc 1) 0),(2,.ptr (.loc 2) 0),(3,.ptr (.loc 3) 0),(4,.c (ci x4))] [(.loc 1,(enc .edit e)),(.loc 2,zc1),(.loc 3,[ci 2,ci 0,.nils,.nils,ci 0,.nils,.nils,sU .wedit (([]:List WEdit)++e.words) (.own (.l 3 7)),sU .kid ml3_8 (.own (.l 3 8)),ci 0,.nils])])
abbrev W32(N:Nat)(e:Edit)(Q:QT):=AW (Z0 (Z0H N)) Try.f32 ZaP [] (L2 [(0,.agg (enc .edit e))] []) Q
abbrev ZkO(N:Nat):=awp cfg (Z0 (Z0H N)) (Zx cfg (Z0 (Z0H N))) Try.f32.ntmps ZaP
abbrev ZbD(N:Nat):=Z3K cfg (Z0 (Z0H N)) (Zx cfg (Z0 (Z0H N))) Try.f32.ntmps ZaP
theorem ZwP(N:Nat)(e:Edit)(Q:QT)(h:((e.kind==1)=true→(Z0u ((Tree.mk e.old.kind e.old.words e.old.kids),()))∧(Z0u ((Tree.mk e.new.kind e.new.words e.new.kids),()))∧(Q .ret (L2 [(2,.ptr (.loc 2) 0)] [(.loc 2,([ci 1]++enc .tree (Z6 (Tree.mk e.old.kind e.old.words e.old.kids))++enc .tree (Z6 (Tree.mk e.new.kind e.new.words e.new.kids))++[.nils,.nils,ci 0,.nils]))])))∧((e.kind==1)=false→((e.kind==2)=true→((([]:List WEdit).length+e.words.length)*32≤140737488355328)∧(Zh (AW (Z0 (Z0H N)) Try.f32 ZaP [1,0,1,0,1,1,1,0,1,1,0,1,0,0]) (Z2D e 0 []) (xB 1 (SW (Z0 (Z0H N)) Try.f32 ZaP [1,0,1,0,1,1,1,0,1,1,1] (xB 0 (SW (Z0 (Z0H N)) Try.f32 ZaP [1,1] Q))))))∧((e.kind==2)=false→((e.kind==3)=true→(Z8u (e.list,e.ops,()))∧(ZeJ (e.list,e.ops,()) < N)∧(Q .ret (L2 [(2,.ptr (.loc 2) 0)] [(.loc 2,[ci 3,ci 0,.nils,.nils,ci 0,.nils,.nils,.nils,.nils,ci e.list,sU .op ((Z1 (Zo e.list e.ops (Wst.mk [] [] []))).out) .unk])])))∧((e.kind==3)=false→Q .ret (L2 [(2,.ptr (.loc 2) 0)] [(.loc 2,zc1)]))))):
  W32 N e Q:=by
 have e_:(W32 N e Q)=(((e.kind==1)=true→(Z0u ((Tree.mk e.old.kind e.old.words e.old.kids),()))∧(Z0u ((Tree.mk e.new.kind e.new.words e.new.kids),()))∧(Q .ret (L2 [(2,.ptr (.loc 2) 0)] [(.loc 2,([ci 1]++enc .tree (Z6 (Tree.mk e.old.kind e.old.words e.old.kids))++enc .tree (Z6 (Tree.mk e.new.kind e.new.words e.new.kids))++[.nils,.nils,ci 0,.nils]))])))∧((e.kind==1)=false→(((e.kind==2)=true→(((([]:List WEdit).length+e.words.length)*32≤140737488355328)∧(Zh (ZkO N (cd Try.f32 [1,0,1,0,1,1,1,0,1,1,0,1,0,0])) (Z2D e 0 []) (xB 1 (ZbD N (cd Try.f32 [1,0,1,0,1,1,1,0,1,1,1]) (xB 0 (ZbD N (cd Try.f32 [1,1]) Q)))))))∧((e.kind==2)=false→(((e.kind==3)=true→(Z8u (e.list,e.ops,()))∧(ZeJ (e.list,e.ops,()) < N)∧(Q .ret (L2 [(2,.ptr (.loc 2) 0)] [(.loc 2,[ci 3,ci 0,.nils,.nils,ci 0,.nils,.nils,.nils,.nils,ci e.list,sU .op ((Z1 (Zo e.list e.ops (Wst.mk [] [] []))).out) .unk])])))∧((e.kind==3)=false→(Q .ret (L2 [(2,.ptr (.loc 2) 0)] [(.loc 2,zc1)])))))))):=by kernel_rfl
 exact e_.mpr ⟨fun c_1=> ⟨(h.1 c_1).1,(h.1 c_1).2.1,(h.1 c_1).2.2⟩,fun c_1=> ⟨fun c_2=> ⟨((h.2 c_1).1 c_2).1,((h.2 c_1).1 c_2).2⟩,fun c_2=> ⟨fun c_3=> ⟨(((h.2 c_1).2 c_2).1 c_3).1,(((h.2 c_1).2 c_2).1 c_3).2.1,(((h.2 c_1).2 c_2).1 c_3).2.2⟩,fun c_3=> (((h.2 c_1).2 c_2).2 c_3)⟩⟩⟩
abbrev Zo5(N:Nat)(e:Edit)(x4:Int)(ml3_8:List Kid)(N0:NT)(Q:QT):=AW (Z0 (Z0H N)) Try.f32 ZaP [1,0,1,0,1,1,1,0,1,1,0,1,0,0] (Z2D e x4 ml3_8) (xT N0 (xB 1 (SW (Z0 (Z0H N)) Try.f32 ZaP [1,0,1,0,1,1,1,0,1,1,1] (xB 0 (SW (Z0 (Z0H N)) Try.f32 ZaP [1,1] Q)))))
theorem ZoM(N:Nat)(e:Edit)(x4:Int)(ml3_8:List Kid)(N0:NT)(Q:QT)(h:∀ y_1,y_1=(e.kids.getD x4.toNat (KidOf.mk 0 Edit.nil))→∀ y_2,y_2=(y_1.e)→∀ y_3,y_3=(Zz y_2)→((decide (x4 < (e.kids.length:Int)))=true→((0:Int)≤x4∧x4 < (e.kids.length:Int))∧((0:Int)≤x4∧x4 < (e.kids.length:Int))∧(Z3r (y_2,()))∧(ZaH (y_2,()) < N)∧((ml3_8.length+([(KidOf.mk y_1.at_ y_3:Kid)]).length)*208≤140737488355328)∧((InR (x4+1))∧(N0 (Z2D e (x4+1) (ml3_8++([(KidOf.mk y_1.at_ y_3:Kid)]))))))∧((decide (x4 < (e.kids.length:Int)))=false→Q .ret (L2 [(2,.ptr (.loc 2) 0)] [(.loc 2,[ci 2,ci 0,.nils,.nils,ci 0,.nils,.nils,sU .wedit (([]:List WEdit)++e.words) (.own (.l 2 7)),sU .kid ml3_8 (.own (.l 2 8)),ci 0,.nils])]))):
  Zo5 N e x4 ml3_8 N0 Q:=by
 have e_:(Zo5 N e x4 ml3_8 N0 Q)=(let y_1:=(e.kids.getD x4.toNat (KidOf.mk 0 Edit.nil));let y_2:=(YF y_1.e);let y_3:=(YF (Zz y_2));(((decide ((x4:Int) < (e.kids.length:Int)))=true→((0:Int)≤x4∧x4 < (e.kids.length:Int))∧((0:Int)≤x4∧x4 < (e.kids.length:Int))∧(Z3r (y_2,()))∧(ZaH (y_2,()) < N)∧((ml3_8.length+([(KidOf.mk y_1.at_ y_3:Kid)]).length)*208≤140737488355328)∧((InR ((x4:Int)+1))∧(N0 (Z2D e ((x4:Int)+1) (ml3_8++([(KidOf.mk y_1.at_ y_3:Kid)]))))))∧((decide ((x4:Int) < (e.kids.length:Int)))=false→(Q .ret (L2 [(2,.ptr (.loc 2) 0)] [(.loc 2,[ci 2,ci 0,.nils,.nils,ci 0,.nils,.nils,sU .wedit (([]:List WEdit)++e.words) (.own (.l 2 7)),sU .kid ml3_8 (.own (.l 2 8)),ci 0,.nils])]))))):=by kernel_rfl
 exact e_.mpr (by intro y_1 y_2 y_3;have hh:=h y_1 rfl y_2 (Ze _) y_3 (Ze _);exact ⟨fun c_4=> ⟨(hh.1 c_4).1,(hh.1 c_4).2.1,(hh.1 c_4).2.2.1,(hh.1 c_4).2.2.2.1,(hh.1 c_4).2.2.2.2.1,⟨(hh.1 c_4).2.2.2.2.2.1,(hh.1 c_4).2.2.2.2.2.2⟩⟩,fun c_4=> (hh.2 c_4)⟩)
def Zuz(N:Nat)(e:Edit):Prop:=AW (Z0 (Z0H N)) Try.f32 ZaP [] (Zm (Zdt.can (e,())) []) (EQ Try.f32 (Z8q (e,())) [])
abbrev Zwd:Prop:=∀ (N:Nat) (e:Edit) (_:Unit),Z3r (e,())→ZaH (e,()) < N+1→Zuz N e
def Yn(N:Nat):List (FuncId × Fs U):=(32,fs Zdt (fun a=> [Z3r a,ZaH a < N]) Z8q) ::(76,fs Zdq (fun a=> [Z8u a,ZeJ a < N]) Zac) ::[(45,Z0E),(110,Z4x),(111,Z2k)]
def Z0S:Zi U:=fun i=> match i with
 | 0=> ([(0,[]),(1,[])],[])
 | 1=> ([(0,[]),(1,[]),(5,[.wr .op])],[])
 | 2=> ([(0,[]),(1,[]),(5,[.wr .op]),(6,[])],[])
 | 3=> ([(0,[]),(1,[]),(5,[.wr .op]),(6,[]),(16,[])],[])
 | 4=> ([(0,[]),(1,[]),(5,[.wr .op]),(6,[])],[])
 | 5=> ([(0,[]),(1,[]),(5,[.wr .op]),(6,[]),(7,[]),(8,[])],[])
 | 6=> ([(0,[]),(1,[]),(5,[.wr .op]),(7,[]),(8,[]),(9,[])],[])
 | 7=> ([(0,[]),(1,[]),(5,[.wr .op]),(7,[]),(8,[]),(9,[]),(33,[])],[])
 | 8=> ([(0,[]),(1,[]),(5,[.wr .op]),(8,[]),(9,[])],[])
 | 9=> ([(0,[]),(1,[]),(5,[.wr .op]),(8,[]),(9,[]),(41,[])],[])
 | 10=> ([(0,[]),(1,[]),(5,[.wr .op]),(8,[]),(9,[]),(41,[])],[])
 | 11=> ([(0,[]),(1,[]),(5,[.wr .op]),(6,[])],[])
 | 12=> ([(0,[]),(1,[]),(5,[.wr .op]),(6,[]),(51,[])],[])
 | 13=> ([(4,[])],[])
 | 14=> ([(0,[]),(1,[]),(5,[.wr .op]),(6,[]),(11,[])],[(.loc 11,[])])
 | 15=> ([(0,[]),(1,[]),(5,[.wr .op]),(6,[]),(11,[]),(64,[])],[(.loc 11,[])])
 | 16=> ([(0,[]),(1,[]),(5,[.wr .op]),(6,[]),(11,[])],[(.loc 11,[])])
 | 17=> ([(0,[]),(1,[]),(5,[.wr .op]),(6,[]),(11,[]),(75,[])],[(.loc 11,[])])
 | 18=> ([(0,[]),(1,[]),(5,[.wr .op]),(6,[]),(11,[])],[(.loc 11,[])])
 | 19=> ([(0,[]),(1,[]),(5,[.wr .op]),(6,[]),(11,[]),(12,[])],[(.loc 11,[])])
 | 20=> ([(0,[]),(1,[]),(5,[.wr .op]),(6,[]),(11,[]),(12,[]),(94,[])],[(.loc 11,[])])
 | 21=> ([(0,[]),(1,[]),(5,[.wr .op]),(6,[])],[])
 | 22=> ([(0,[]),(1,[]),(5,[.wr .op]),(6,[])],[])
 | 23=> ([(4,[])],[])
 | _=> ([],[])
def ZQ(list:Int)(l:List Op)(x6:Int)(re_5_0:List Op):LSt U:=(⟨[(0,.c (ci list)),(1,.c (sU .op l .unk)),(5,.c (.mref (.e 5 0))),(6,.c (ci x6))],[],[(.e 5 0,LC.mk (U:=U) .op re_5_0 0)]⟩:LSt U)
def JT(list:Int)(l:List Op)(x6:Int)(re_5_0_a:List Op):LSt U:=(⟨[(0,.c (ci list)),(1,.c (sU .op l .unk)),(5,.c (.mref (.e 5 0))),(8,.c (ci (x6+ZI (l.drop x6.toNat)))),(9,.c (sU .tree (Yo 2 (l.drop x6.toNat)) .unk)),(41,.c (.bool (decide ((0:Int) < ((Yo 2 (l.drop x6.toNat)).length:Int)))))],[],[(.e 5 0,LC.mk (U:=U) .op re_5_0_a 0)]⟩:LSt U)
abbrev W76(N:Nat)(list:Int)(l:List Op)(Q:QT):=AW (Z0 (Yn N)) Try.f76 Z0S [] (L2 [(0,.c (ci list)),(1,.c (sU .op l .unk))] []) Q
abbrev Z2P(N:Nat):=awp cfg (Z0 (Yn N)) (Zx cfg (Z0 (Yn N))) Try.f76.ntmps Z0S
abbrev Jb(N:Nat):=Z3K cfg (Z0 (Yn N)) (Zx cfg (Z0 (Yn N))) Try.f76.ntmps Z0S
theorem Zwr(N:Nat)(list:Int)(l:List Op)(Q:QT)(h:Zh (AW (Z0 (Yn N)) Try.f76 Z0S [1,1,0,1,0,0]) (ZQ list l 0 []) (xB 0 (SW (Z0 (Yn N)) Try.f76 Z0S [1,1,1] Q))):
  W76 N list l Q:=by
 have e_:(W76 N list l Q)=(Zh (Z2P N (cd Try.f76 [1,1,0,1,0,0])) (ZQ list l 0 []) (xB 0 (Jb N (cd Try.f76 [1,1,1]) Q))):=by kernel_rfl
 exact e_.mpr h
abbrev Zo3(N:Nat)(list:Int)(l:List Op)(x6:Int)(re_5_0:List Op)(N0:NT)(Q:QT):=AW (Z0 (Yn N)) Try.f76 Z0S [1,1,0,1,0,0] (ZQ list l x6 re_5_0) (xT N0 (xB 0 (SW (Z0 (Yn N)) Try.f76 Z0S [1,1,1] Q)))
theorem Zop(N:Nat)(list:Int)(l:List Op)(x6:Int)(re_5_0:List Op)(N0:NT)(Q:QT)(h:∀ y_1,y_1=(Edit.mk 0 (Tree.mk 0 [] []) (Tree.mk 0 [] []) [] [] 0 [])→((decide (x6 < (l.length:Int)))=true→(Z3a (l,x6,1,()))∧((Z3a (l,x6,2,()))∧(((decide ((0:Int) < ((Yo 1 (l.drop x6.toNat)).length:Int)))=true→((re_5_0.length+([(OpOf.mk 1 0 (Yo 1 (l.drop x6.toNat)) y_1:Op)]).length)*240≤140737488355328)∧(((decide ((0:Int) < ((Yo 2 (l.drop x6.toNat)).length:Int)))=true→(((re_5_0++([(OpOf.mk 1 0 (Yo 1 (l.drop x6.toNat)) y_1:Op)])).length+([(OpOf.mk 2 0 (Yo 2 (l.drop x6.toNat)) y_1:Op)]).length)*240≤140737488355328)∧(AW (Z0 (Yn N)) Try.f76 Z0S [1,1,0,1,0,0,1,0,0,1,1,1,1] (JT list l x6 ((re_5_0++([(OpOf.mk 1 0 (Yo 1 (l.drop x6.toNat)) y_1:Op)]))++([(OpOf.mk 2 0 (Yo 2 (l.drop x6.toNat)) y_1:Op)]))) (xB 1 (SW (Z0 (Yn N)) Try.f76 Z0S [1,1,0,1,0,0,1,1] (xT N0 (xB 0 (SW (Z0 (Yn N)) Try.f76 Z0S [1,1,1] Q)))))))∧((decide ((0:Int) < ((Yo 2 (l.drop x6.toNat)).length:Int)))=false→AW (Z0 (Yn N)) Try.f76 Z0S [1,1,0,1,0,0,1,0,0,1,1,1,1] (JT list l x6 (re_5_0++([(OpOf.mk 1 0 (Yo 1 (l.drop x6.toNat)) y_1:Op)]))) (xB 1 (SW (Z0 (Yn N)) Try.f76 Z0S [1,1,0,1,0,0,1,1] (xT N0 (xB 0 (SW (Z0 (Yn N)) Try.f76 Z0S [1,1,1] Q))))))))∧((decide ((0:Int) < ((Yo 1 (l.drop x6.toNat)).length:Int)))=false→((decide ((0:Int) < ((Yo 2 (l.drop x6.toNat)).length:Int)))=true→((re_5_0.length+([(OpOf.mk 2 0 (Yo 2 (l.drop x6.toNat)) y_1:Op)]).length)*240≤140737488355328)∧(AW (Z0 (Yn N)) Try.f76 Z0S [1,1,0,1,0,0,1,0,0,1,1,1,1] (JT list l x6 (re_5_0++([(OpOf.mk 2 0 (Yo 2 (l.drop x6.toNat)) y_1:Op)]))) (xB 1 (SW (Z0 (Yn N)) Try.f76 Z0S [1,1,0,1,0,0,1,1] (xT N0 (xB 0 (SW (Z0 (Yn N)) Try.f76 Z0S [1,1,1] Q)))))))∧((decide ((0:Int) < ((Yo 2 (l.drop x6.toNat)).length:Int)))=false→AW (Z0 (Yn N)) Try.f76 Z0S [1,1,0,1,0,0,1,0,0,1,1,1,1] (JT list l x6 re_5_0) (xB 1 (SW (Z0 (Yn N)) Try.f76 Z0S [1,1,0,1,0,0,1,1] (xT N0 (xB 0 (SW (Z0 (Yn N)) Try.f76 Z0S [1,1,1] Q))))))))))∧((decide (x6 < (l.length:Int)))=false→Q .ret (L2 [(4,.c (sU .op re_5_0 (.own (.e 4 0))))] []))):
  Zo3 N list l x6 re_5_0 N0 Q:=by
 have e_:(Zo3 N list l x6 re_5_0 N0 Q)=(let y_1:=(Edit.mk 0 (Tree.mk 0 [] []) (Tree.mk 0 [] []) [] [] 0 []);let zz1:=(decide ((0:Int) < ((Yo 1 (l.drop x6.toNat)).length:Int)));let zz0:=(decide ((0:Int) < ((Yo 2 (l.drop x6.toNat)).length:Int)));(((decide ((x6:Int) < (l.length:Int)))=true→(Z3a (l,x6,1,()))∧((Z3a (l,x6,2,()))∧((zz1=true→((re_5_0.length+([(OpOf.mk 1 0 (Yo 1 (l.drop x6.toNat)) y_1:Op)]).length)*240≤140737488355328)∧((zz0=true→(((re_5_0++([(OpOf.mk 1 0 (Yo 1 (l.drop x6.toNat)) y_1:Op)])).length+([(OpOf.mk 2 0 (Yo 2 (l.drop x6.toNat)) y_1:Op)]).length)*240≤140737488355328)∧(Z2P N (cd Try.f76 [1,1,0,1,0,0,1,0,0,1,1,1,1]) (JT list l x6 ((re_5_0++([(OpOf.mk 1 0 (Yo 1 (l.drop x6.toNat)) y_1:Op)]))++([(OpOf.mk 2 0 (Yo 2 (l.drop x6.toNat)) y_1:Op)]))) (xB 1 (Jb N (cd Try.f76 [1,1,0,1,0,0,1,1]) (xT N0 (xB 0 (Jb N (cd Try.f76 [1,1,1]) Q)))))))∧(zz0=false→Z2P N (cd Try.f76 [1,1,0,1,0,0,1,0,0,1,1,1,1]) (JT list l x6 (re_5_0++([(OpOf.mk 1 0 (Yo 1 (l.drop x6.toNat)) y_1:Op)]))) (xB 1 (Jb N (cd Try.f76 [1,1,0,1,0,0,1,1]) (xT N0 (xB 0 (Jb N (cd Try.f76 [1,1,1]) Q))))))))∧(zz1=false→((zz0=true→((re_5_0.length+([(OpOf.mk 2 0 (Yo 2 (l.drop x6.toNat)) y_1:Op)]).length)*240≤140737488355328)∧(Z2P N (cd Try.f76 [1,1,0,1,0,0,1,0,0,1,1,1,1]) (JT list l x6 (re_5_0++([(OpOf.mk 2 0 (Yo 2 (l.drop x6.toNat)) y_1:Op)]))) (xB 1 (Jb N (cd Try.f76 [1,1,0,1,0,0,1,1]) (xT N0 (xB 0 (Jb N (cd Try.f76 [1,1,1]) Q)))))))∧(zz0=false→Z2P N (cd Try.f76 [1,1,0,1,0,0,1,0,0,1,1,1,1]) (JT list l x6 re_5_0) (xB 1 (Jb N (cd Try.f76 [1,1,0,1,0,0,1,1]) (xT N0 (xB 0 (Jb N (cd Try.f76 [1,1,1]) Q)))))))))))∧((decide ((x6:Int) < (l.length:Int)))=false→(Q .ret (L2 [(4,.c (sU .op re_5_0 (.own (.e 4 0))))] []))))):=by kernel_rfl
 exact e_.mpr (by intro y_1;have hh:=h y_1 rfl;exact ⟨fun c_5=> ⟨(hh.1 c_5).1,⟨(hh.1 c_5).2.1,⟨fun c_6=> ⟨((hh.1 c_5).2.2.1 c_6).1,⟨fun c_7=> ⟨(((hh.1 c_5).2.2.1 c_6).2.1 c_7).1,(((hh.1 c_5).2.2.1 c_6).2.1 c_7).2⟩,fun c_7=> (((hh.1 c_5).2.2.1 c_6).2.2 c_7)⟩⟩,fun c_6=> ⟨fun c_8=> ⟨(((hh.1 c_5).2.2.2 c_6).1 c_8).1,(((hh.1 c_5).2.2.2 c_6).1 c_8).2⟩,fun c_8=> (((hh.1 c_5).2.2.2 c_6).2 c_8)⟩⟩⟩⟩,fun c_5=> (hh.2 c_5)⟩)
abbrev Zhi(N:Nat)(list:Int)(l:List Op)(x6:Int)(re_5_0_a:List Op)(N0:NT)(Q:QT):=AW (Z0 (Yn N)) Try.f76 Z0S [1,1,0,1,0,0,1,0,0,1,1,1,1] (JT list l x6 re_5_0_a) (xB 1 (SW (Z0 (Yn N)) Try.f76 Z0S [1,1,0,1,0,0,1,1] (xT N0 (xB 0 (SW (Z0 (Yn N)) Try.f76 Z0S [1,1,1] Q)))))
theorem Zoq(N:Nat)(list:Int)(l:List Op)(x6:Int)(re_5_0_a:List Op)(N0:NT)(Q:QT)(h:∀ y_1,y_1=(List.getD l (Int.toNat (x6+ZI (l.drop x6.toNat))) Op.nil)→∀ y_2,y_2=(Edit.mk 0 (Tree.mk 0 [] []) (Tree.mk 0 [] []) [] [] 0 [])→∀ y_3,y_3=(List.getD re_5_0_a (Int.toNat (((re_5_0_a.length:Int):Int) - 1)) Op.nil)→∀ y_4,y_4=(y_1.e)→∀ y_5,y_5=(y_3.e)→∀ y_6,y_6=(Zz y_4)→((decide (((l.length:Int):Int)≤(x6+ZI (l.drop x6.toNat))))=true→Q .ret (L2 [(4,.c (sU .op re_5_0_a (.own (.e 4 0))))] []))∧((decide (((l.length:Int):Int)≤(x6+ZI (l.drop x6.toNat))))=false→((0:Int)≤(x6+ZI (l.drop x6.toNat))∧(x6+ZI (l.drop x6.toNat)) < (l.length:Int))∧(((0:Int)≤(x6+ZI (l.drop x6.toNat))∧(x6+ZI (l.drop x6.toNat)) < (l.length:Int))∧(((y_1.kind==3)=true→((0:Int)≤(x6+ZI (l.drop x6.toNat))∧(x6+ZI (l.drop x6.toNat)) < (l.length:Int))∧(Z3r (y_4,()))∧(ZaH (y_4,()) < N)∧((Z6m (list,y_6,()))∧(((Jf list y_6)=true→((bif ((0:Int)==0) then (decide ((0:Int) < (re_5_0_a.length:Int))) else false)=true→InR (((re_5_0_a.length:Int):Int) - 1))∧((bif ((0:Int)==0) then (decide ((0:Int) < (re_5_0_a.length:Int))) else false)=true→(0:Int)≤(((re_5_0_a.length:Int):Int) - 1)∧(((re_5_0_a.length:Int):Int) - 1) < (re_5_0_a.length:Int))∧(((bif (bif ((0:Int)==0) then (decide ((0:Int) < (re_5_0_a.length:Int))) else false) then (y_3.kind==0) else false)=true→(InR (((re_5_0_a.length:Int):Int) - 1))∧(InR (((re_5_0_a.length:Int):Int) - 1))∧((0:Int)≤(((re_5_0_a.length:Int):Int) - 1)∧(((re_5_0_a.length:Int):Int) - 1) < (re_5_0_a.length:Int))∧(InR (y_3.n+1))∧((0:Int)≤(((re_5_0_a.length:Int):Int) - 1)∧(((re_5_0_a.length:Int):Int) - 1) < (re_5_0_a.length:Int))∧((0:Nat)≤(Int.toNat (((re_5_0_a.length:Int):Int) - 1)))∧((InR (((x6+ZI (l.drop x6.toNat)):Int)+1))∧(N0 (ZQ list l (((x6+ZI (l.drop x6.toNat)):Int)+1) (List.set re_5_0_a (Int.toNat (((re_5_0_a.length:Int):Int) - 1)) (OpOf.mk y_3.kind (y_3.n+1) y_3.l y_5:Op))))))∧((bif (bif ((0:Int)==0) then (decide ((0:Int) < (re_5_0_a.length:Int))) else false) then (y_3.kind==0) else false)=false→((re_5_0_a.length+([(OpOf.mk 0 1 [] y_2:Op)]).length)*240≤140737488355328)∧((InR (((x6+ZI (l.drop x6.toNat)):Int)+1))∧(N0 (ZQ list l (((x6+ZI (l.drop x6.toNat)):Int)+1) (re_5_0_a++([(OpOf.mk 0 1 [] y_2:Op)]))))))))∧((Jf list y_6)=false→((bif ((3:Int)==0) then (decide ((0:Int) < (re_5_0_a.length:Int))) else false)=true→InR (((re_5_0_a.length:Int):Int) - 1))∧((bif ((3:Int)==0) then (decide ((0:Int) < (re_5_0_a.length:Int))) else false)=true→(0:Int)≤(((re_5_0_a.length:Int):Int) - 1)∧(((re_5_0_a.length:Int):Int) - 1) < (re_5_0_a.length:Int))∧(((bif (bif ((3:Int)==0) then (decide ((0:Int) < (re_5_0_a.length:Int))) else false) then (y_3.kind==0) else false)=true→(InR (((re_5_0_a.length:Int):Int) - 1))∧(InR (((re_5_0_a.length:Int):Int) - 1))∧((0:Int)≤(((re_5_0_a.length:Int):Int) - 1)∧(((re_5_0_a.length:Int):Int) - 1) < (re_5_0_a.length:Int))∧(InR (y_3.n+0))∧((0:Int)≤(((re_5_0_a.length:Int):Int) - 1)∧(((re_5_0_a.length:Int):Int) - 1) < (re_5_0_a.length:Int))∧((0:Nat)≤(Int.toNat (((re_5_0_a.length:Int):Int) - 1)))∧((InR (((x6+ZI (l.drop x6.toNat)):Int)+1))∧(N0 (ZQ list l (((x6+ZI (l.drop x6.toNat)):Int)+1) (List.set re_5_0_a (Int.toNat (((re_5_0_a.length:Int):Int) - 1)) (OpOf.mk y_3.kind (y_3.n+0) y_3.l y_5:Op))))))∧((bif (bif ((3:Int)==0) then (decide ((0:Int) < (re_5_0_a.length:Int))) else false) then (y_3.kind==0) else false)=false→((re_5_0_a.length+([(OpOf.mk 3 0 [] y_6:Op)]).length)*240≤140737488355328)∧((InR (((x6+ZI (l.drop x6.toNat)):Int)+1))∧(N0 (ZQ list l (((x6+ZI (l.drop x6.toNat)):Int)+1) (re_5_0_a++([(OpOf.mk 3 0 [] y_6:Op)])))))))))))∧((y_1.kind==3)=false→((bif ((0:Int)==0) then (decide ((0:Int) < (re_5_0_a.length:Int))) else false)=true→InR (((re_5_0_a.length:Int):Int) - 1))∧((bif ((0:Int)==0) then (decide ((0:Int) < (re_5_0_a.length:Int))) else false)=true→(0:Int)≤(((re_5_0_a.length:Int):Int) - 1)∧(((re_5_0_a.length:Int):Int) - 1) < (re_5_0_a.length:Int))∧(((bif (bif ((0:Int)==0) then (decide ((0:Int) < (re_5_0_a.length:Int))) else false) then (y_3.kind==0) else false)=true→(InR (((re_5_0_a.length:Int):Int) - 1))∧(InR (((re_5_0_a.length:Int):Int) - 1))∧((0:Int)≤(((re_5_0_a.length:Int):Int) - 1)∧(((re_5_0_a.length:Int):Int) - 1) < (re_5_0_a.length:Int))∧(InR (y_3.n+y_1.n))∧((0:Int)≤(((re_5_0_a.length:Int):Int) - 1)∧(((re_5_0_a.length:Int):Int) - 1) < (re_5_0_a.length:Int))∧((0:Nat)≤(Int.toNat (((re_5_0_a.length:Int):Int) - 1)))∧((InR (((x6+ZI (l.drop x6.toNat)):Int)+1))∧(N0 (ZQ list l (((x6+ZI (l.drop x6.toNat)):Int)+1) (List.set re_5_0_a (Int.toNat (((re_5_0_a.length:Int):Int) - 1)) (OpOf.mk y_3.kind (y_3.n+y_1.n) y_3.l y_5:Op))))))∧((bif (bif ((0:Int)==0) then (decide ((0:Int) < (re_5_0_a.length:Int))) else false) then (y_3.kind==0) else false)=false→((re_5_0_a.length+([(OpOf.mk 0 y_1.n [] y_2:Op)]).length)*240≤140737488355328)∧((InR (((x6+ZI (l.drop x6.toNat)):Int)+1))∧(N0 (ZQ list l (((x6+ZI (l.drop x6.toNat)):Int)+1) (re_5_0_a++([(OpOf.mk 0 y_1.n [] y_2:Op)])))))))))))):
  Zhi N list l x6 re_5_0_a N0 Q:=by
 have e_:(Zhi N list l x6 re_5_0_a N0 Q)=(let y_1:=(List.getD l (Int.toNat (x6+ZI (l.drop x6.toNat))) Op.nil);let y_2:=(Edit.mk 0 (Tree.mk 0 [] []) (Tree.mk 0 [] []) [] [] 0 []);let y_3:=(List.getD re_5_0_a (Int.toNat ((re_5_0_a.length:Int) - 1)) Op.nil);let y_4:=(YF y_1.e);let y_5:=(YF y_3.e);let y_6:=(YF (Zz y_4));let zz3:=(decide ((l.length:Int)≤(x6+ZI (l.drop x6.toNat))));let zz2:=(y_3.kind==0);let zz1:=(bif ((3:Int)==0) then (decide ((0:Int) < (re_5_0_a.length:Int))) else false);let zz0:=(bif ((0:Int)==0) then (decide ((0:Int) < (re_5_0_a.length:Int))) else false);((zz3=true→(Q .ret (L2 [(4,.c (sU .op re_5_0_a (.own (.e 4 0))))] [])))∧(zz3=false→((0:Int)≤(x6+ZI (l.drop x6.toNat))∧(x6+ZI (l.drop x6.toNat)) < (l.length:Int))∧(((0:Int)≤(x6+ZI (l.drop x6.toNat))∧(x6+ZI (l.drop x6.toNat)) < (l.length:Int))∧(((y_1.kind==3)=true→((0:Int)≤(x6+ZI (l.drop x6.toNat))∧(x6+ZI (l.drop x6.toNat)) < (l.length:Int))∧(Z3r (y_4,()))∧(ZaH (y_4,()) < N)∧((Z6m (list,y_6,()))∧(((Jf list y_6)=true→((ZO (((0:Int)==0)=true))∧(ZO (((0:Int)==0)=true))∧(ZO (zz0=true))∧(zz0=true→InR ((re_5_0_a.length:Int) - 1))∧(ZO (zz0=true))∧(ZO (zz0=true))∧(zz0=true→(0:Int)≤((re_5_0_a.length:Int) - 1)∧((re_5_0_a.length:Int) - 1) < (re_5_0_a.length:Int))∧(ZO (zz0=true))∧(ZO (zz0=true))∧(ZO (zz0=true))∧(ZO (zz0=true))∧(((bif zz0 then zz2 else false)=true→(InR ((re_5_0_a.length:Int) - 1))∧(InR ((re_5_0_a.length:Int) - 1))∧((0:Int)≤((re_5_0_a.length:Int) - 1)∧((re_5_0_a.length:Int) - 1) < (re_5_0_a.length:Int))∧(InR (y_3.n+1))∧((0:Int)≤((re_5_0_a.length:Int) - 1)∧((re_5_0_a.length:Int) - 1) < (re_5_0_a.length:Int))∧((0:Nat)≤(Int.toNat ((re_5_0_a.length:Int) - 1)))∧((InR (((x6+ZI (l.drop x6.toNat)):Int)+1))∧(N0 (ZQ list l (((x6+ZI (l.drop x6.toNat)):Int)+1) (List.set re_5_0_a (Int.toNat ((re_5_0_a.length:Int) - 1)) (OpOf.mk y_3.kind (y_3.n+1) y_3.l y_5:Op))))))∧((bif zz0 then zz2 else false)=false→((re_5_0_a.length+([(OpOf.mk 0 1 [] y_2:Op)]).length)*240≤140737488355328)∧((InR (((x6+ZI (l.drop x6.toNat)):Int)+1))∧(N0 (ZQ list l (((x6+ZI (l.drop x6.toNat)):Int)+1) (re_5_0_a++([(OpOf.mk 0 1 [] y_2:Op)])))))))))∧((Jf list y_6)=false→((ZO (((3:Int)==0)=true))∧(ZO (((3:Int)==0)=true))∧(ZO (zz1=true))∧(zz1=true→InR ((re_5_0_a.length:Int) - 1))∧(ZO (zz1=true))∧(ZO (zz1=true))∧(zz1=true→(0:Int)≤((re_5_0_a.length:Int) - 1)∧((re_5_0_a.length:Int) - 1) < (re_5_0_a.length:Int))∧(ZO (zz1=true))∧(ZO (zz1=true))∧(ZO (zz1=true))∧(ZO (zz1=true))∧(((bif zz1 then zz2 else false)=true→(InR ((re_5_0_a.length:Int) - 1))∧(InR ((re_5_0_a.length:Int) - 1))∧((0:Int)≤((re_5_0_a.length:Int) - 1)∧((re_5_0_a.length:Int) - 1) < (re_5_0_a.length:Int))∧(InR (y_3.n+0))∧((0:Int)≤((re_5_0_a.length:Int) - 1)∧((re_5_0_a.length:Int) - 1) < (re_5_0_a.length:Int))∧((0:Nat)≤(Int.toNat ((re_5_0_a.length:Int) - 1)))∧((InR (((x6+ZI (l.drop x6.toNat)):Int)+1))∧(N0 (ZQ list l (((x6+ZI (l.drop x6.toNat)):Int)+1) (List.set re_5_0_a (Int.toNat ((re_5_0_a.length:Int) - 1)) (OpOf.mk y_3.kind (y_3.n+0) y_3.l y_5:Op))))))∧((bif zz1 then zz2 else false)=false→((re_5_0_a.length+([(OpOf.mk 3 0 [] y_6:Op)]).length)*240≤140737488355328)∧((InR (((x6+ZI (l.drop x6.toNat)):Int)+1))∧(N0 (ZQ list l (((x6+ZI (l.drop x6.toNat)):Int)+1) (re_5_0_a++([(OpOf.mk 3 0 [] y_6:Op)]))))))))))))∧((y_1.kind==3)=false→((ZO (((0:Int)==0)=true))∧(ZO (((0:Int)==0)=true))∧(ZO (zz0=true))∧(zz0=true→InR ((re_5_0_a.length:Int) - 1))∧(ZO (zz0=true))∧(ZO (zz0=true))∧(zz0=true→(0:Int)≤((re_5_0_a.length:Int) - 1)∧((re_5_0_a.length:Int) - 1) < (re_5_0_a.length:Int))∧(ZO (zz0=true))∧(ZO (zz0=true))∧(ZO (zz0=true))∧(ZO (zz0=true))∧(((bif zz0 then zz2 else false)=true→(InR ((re_5_0_a.length:Int) - 1))∧(InR ((re_5_0_a.length:Int) - 1))∧((0:Int)≤((re_5_0_a.length:Int) - 1)∧((re_5_0_a.length:Int) - 1) < (re_5_0_a.length:Int))∧(InR (y_3.n+y_1.n))∧((0:Int)≤((re_5_0_a.length:Int) - 1)∧((re_5_0_a.length:Int) - 1) < (re_5_0_a.length:Int))∧((0:Nat)≤(Int.toNat ((re_5_0_a.length:Int) - 1)))∧((InR (((x6+ZI (l.drop x6.toNat)):Int)+1))∧(N0 (ZQ list l (((x6+ZI (l.drop x6.toNat)):Int)+1) (List.set re_5_0_a (Int.toNat ((re_5_0_a.length:Int) - 1)) (OpOf.mk y_3.kind (y_3.n+y_1.n) y_3.l y_5:Op))))))∧((bif zz0 then zz2 else false)=false→((re_5_0_a.length+([(OpOf.mk 0 y_1.n [] y_2:Op)]).length)*240≤140737488355328)∧((InR (((x6+ZI (l.drop x6.toNat)):Int)+1))∧(N0 (ZQ list l (((x6+ZI (l.drop x6.toNat)):Int)+1) (re_5_0_a++([(OpOf.mk 0 y_1.n [] y_2:Op)])))))))))))))):=by kernel_rfl
 exact e_.mpr (by intro y_1 y_2 y_3 y_4 y_5 y_6;have hh:=h y_1 rfl y_2 rfl y_3 rfl y_4 (Ze _) y_5 (Ze _) y_6 (Ze _);exact ⟨fun c_9=> (hh.1 c_9),fun c_9=> ⟨(hh.2 c_9).1,⟨(hh.2 c_9).2.1,⟨fun c_10=> ⟨((hh.2 c_9).2.2.1 c_10).1,((hh.2 c_9).2.2.1 c_10).2.1,((hh.2 c_9).2.2.1 c_10).2.2.1,⟨((hh.2 c_9).2.2.1 c_10).2.2.2.1,⟨fun c_11=> ⟨id,(by generalize ((0:Int)==0)=b0;revert b0;decide),id,(((hh.2 c_9).2.2.1 c_10).2.2.2.2.1 c_11).1,id,id,(((hh.2 c_9).2.2.1 c_10).2.2.2.2.1 c_11).2.1,id,id,id,(by generalize (decide ((0:Int) < (re_5_0_a.length:Int)))=b0;generalize ((0:Int)==0)=b1;revert b0 b1;decide),⟨fun c_12=> ⟨((((hh.2 c_9).2.2.1 c_10).2.2.2.2.1 c_11).2.2.1 c_12).1,((((hh.2 c_9).2.2.1 c_10).2.2.2.2.1 c_11).2.2.1 c_12).2.1,((((hh.2 c_9).2.2.1 c_10).2.2.2.2.1 c_11).2.2.1 c_12).2.2.1,((((hh.2 c_9).2.2.1 c_10).2.2.2.2.1 c_11).2.2.1 c_12).2.2.2.1,((((hh.2 c_9).2.2.1 c_10).2.2.2.2.1 c_11).2.2.1 c_12).2.2.2.2.1,((((hh.2 c_9).2.2.1 c_10).2.2.2.2.1 c_11).2.2.1 c_12).2.2.2.2.2.1,⟨((((hh.2 c_9).2.2.1 c_10).2.2.2.2.1 c_11).2.2.1 c_12).2.2.2.2.2.2.1,((((hh.2 c_9).2.2.1 c_10).2.2.2.2.1 c_11).2.2.1 c_12).2.2.2.2.2.2.2⟩⟩,fun c_12=> ⟨((((hh.2 c_9).2.2.1 c_10).2.2.2.2.1 c_11).2.2.2 c_12).1,⟨((((hh.2 c_9).2.2.1 c_10).2.2.2.2.1 c_11).2.2.2 c_12).2.1,((((hh.2 c_9).2.2.1 c_10).2.2.2.2.1 c_11).2.2.2 c_12).2.2⟩⟩⟩⟩,fun c_11=> ⟨id,(by generalize ((3:Int)==0)=b0;revert b0;decide),id,(((hh.2 c_9).2.2.1 c_10).2.2.2.2.2 c_11).1,id,id,(((hh.2 c_9).2.2.1 c_10).2.2.2.2.2 c_11).2.1,id,id,id,(by generalize (decide ((0:Int) < (re_5_0_a.length:Int)))=b0;generalize ((3:Int)==0)=b1;revert b0 b1;decide),⟨fun c_13=> ⟨((((hh.2 c_9).2.2.1 c_10).2.2.2.2.2 c_11).2.2.1 c_13).1,((((hh.2 c_9).2.2.1 c_10).2.2.2.2.2 c_11).2.2.1 c_13).2.1,((((hh.2 c_9).2.2.1 c_10).2.2.2.2.2 c_11).2.2.1 c_13).2.2.1,((((hh.2 c_9).2.2.1 c_10).2.2.2.2.2 c_11).2.2.1 c_13).2.2.2.1,((((hh.2 c_9).2.2.1 c_10).2.2.2.2.2 c_11).2.2.1 c_13).2.2.2.2.1,((((hh.2 c_9).2.2.1 c_10).2.2.2.2.2 c_11).2.2.1 c_13).2.2.2.2.2.1,⟨((((hh.2 c_9).2.2.1 c_10).2.2.2.2.2 c_11).2.2.1 c_13).2.2.2.2.2.2.1,((((hh.2 c_9).2.2.1 c_10).2.2.2.2.2 c_11).2.2.1 c_13).2.2.2.2.2.2.2⟩⟩,fun c_13=> ⟨((((hh.2 c_9).2.2.1 c_10).2.2.2.2.2 c_11).2.2.2 c_13).1,⟨((((hh.2 c_9).2.2.1 c_10).2.2.2.2.2 c_11).2.2.2 c_13).2.1,((((hh.2 c_9).2.2.1 c_10).2.2.2.2.2 c_11).2.2.2 c_13).2.2⟩⟩⟩⟩⟩⟩⟩,fun c_10=> ⟨id,(by generalize ((0:Int)==0)=b0;revert b0;decide),id,((hh.2 c_9).2.2.2 c_10).1,id,id,((hh.2 c_9).2.2.2 c_10).2.1,id,id,id,(by generalize (decide ((0:Int) < (re_5_0_a.length:Int)))=b0;generalize ((0:Int)==0)=b1;revert b0 b1;decide),⟨fun c_14=> ⟨(((hh.2 c_9).2.2.2 c_10).2.2.1 c_14).1,(((hh.2 c_9).2.2.2 c_10).2.2.1 c_14).2.1,(((hh.2 c_9).2.2.2 c_10).2.2.1 c_14).2.2.1,(((hh.2 c_9).2.2.2 c_10).2.2.1 c_14).2.2.2.1,(((hh.2 c_9).2.2.2 c_10).2.2.1 c_14).2.2.2.2.1,(((hh.2 c_9).2.2.2 c_10).2.2.1 c_14).2.2.2.2.2.1,⟨(((hh.2 c_9).2.2.2 c_10).2.2.1 c_14).2.2.2.2.2.2.1,(((hh.2 c_9).2.2.2 c_10).2.2.1 c_14).2.2.2.2.2.2.2⟩⟩,fun c_14=> ⟨(((hh.2 c_9).2.2.2 c_10).2.2.2 c_14).1,⟨(((hh.2 c_9).2.2.2 c_10).2.2.2 c_14).2.1,(((hh.2 c_9).2.2.2 c_10).2.2.2 c_14).2.2⟩⟩⟩⟩⟩⟩⟩⟩)
def Zub(N:Nat)(list:Int)(l:List Op):Prop:=AW (Z0 (Yn N)) Try.f76 Z0S [] (Zm (Zdq.can (list,l,())) []) (EQ Try.f76 (Zac (list,l,())) [])
abbrev Zw9:Prop:=∀ (N:Nat) (list:Int) (l:List Op) (_:Unit),Z8u (list,l,())→ZeJ (list,l,()) < N+1→Zub N list l
theorem Zkb(c45:CT 45 Z0E)(ZtF:CT 110 Z4x)(Znv:CT 111 Z2k)(ha:Zwd)(hb:Zw9):CT 32 Z9R∧CT 76 Zlr:=
 Z2f (μA:=ZaH) (μB:=ZeJ) (l:=[(45,Z0E),(110,Z4x),(111,Z2k)]) Zk rfl (⟨c45,ZtF,Znv,trivial⟩) ZaP Z0S Try.func32 Try.func76 rfl rfl rfl rfl 1 2 (fun _=> rfl) (fun _=> rfl) (by decide) (by decide) (fun N ⟨e,_⟩=> ha N e ()) (fun N ⟨list,l,_⟩=> hb N list l ())
end
end
end Go.AM.Ytpjenobkibfpcaa
