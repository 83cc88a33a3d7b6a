import Derived.Test.YtpjenobkibfpcaaCL30e
import Derived.Test.YtpjenobkibfpcaaKG20x
import Derived.Test.YtpjenobkibfpcaaKL23r
import Derived.Test.YtpjenobkibfpcaaKB22c
set_option linter.unusedSimpArgs false
set_option linter.unusedVariables false
namespace Go.AM.Ytpjenobkibfpcaa
open Go.AM Go.Proofs
instance decStep:DecidableEq PStep:=fun a b=> decidable_of_iff (a.kind=b.kind/\a.at_=b.at_) (by cases a;cases b;simp)
theorem Z9q{e:Edit}(h:Z4t e):Z4t (ZI e):=by
 obtain ⟨c,g,d,r⟩:=h
 exact ⟨Xa (Zcy e) c,Z3Y e d r g,d,Z15 e d r⟩
theorem Zkf{o:Option Tree}(h:o.isSome=true):∃ v,o=some v:=by cases o with | none=> cases h | some v=> exact ⟨v,rfl⟩
noncomputable section
structure Hist where
 now:Tree
 done:List Edit
 gone:List Edit
def Yj(e:Edit)(t:Tree):Tree × Int:=
 match doE false e t with
 | none=> (t,13)
 | some u=> if Z9 (Z3 u) 64=true then (Z3 u,0) else (t,3)
def Z6R(e:Edit)(t:Tree):Prop:=(ZD e<=20000000000/\Yk e/\∃ d,Z4 e d=true)/\Zm t+ctE e<=20000000000/\rng t
def doN(e:Edit)(h:Hist):Hist × Int:=
 if Z4 e 64=true then
  if (Yj (ZI e) h.now).2=0 then (⟨(Yj (ZI e) h.now).1,h.done++[ZI e],[]⟩,0) else (h,(Yj (ZI e) h.now).2)
 else (h,2)
def JS(l:List Edit):Edit:=l.getD (l.length - 1) Edit.nil
def YH(h:Hist):Hist × Bool:=
 if h.done.length=0 then (h,false)
 else if (Yj (ZI (ZF (JS h.done))) h.now).2=0 then (⟨(Yj (ZI (ZF (JS h.done))) h.now).1,h.done.take (h.done.length - 1),h.gone++[JS h.done]⟩,true)
 else (h,false)
def Yv(h:Hist):Hist × Bool:=
 if h.gone.length=0 then (h,false)
 else if (Yj (JS h.gone) h.now).2=0 then (⟨(Yj (JS h.gone) h.now).1,h.done++[JS h.gone],h.gone.take (h.gone.length - 1)⟩,true)
 else (h,false)
def Z6U(e:Edit)(t:Tree):Bool:=(decide (0<=Jo e 80 3000) && (!Z4 e 64 || JR e)) && decide (0<=Zr t 80 3000)
end
noncomputable section
def ZmI:ArgL (List Edit × Unit):=(.cons (aSl .edit) .nil)
def Z5L(a:List Edit × Unit):Prop:=(a.1).length<=10000000000
def ZgF(a:List Edit × Unit):V U:= .c (sU .edit a.1 (.own (.r 0 0)))
def Z0Z:Fs U:=fs ZmI (fun a=> [Z5L a]) ZgF
def ZgS(a:Tree × Unit):Prop:=(Zm a.1<=20000000000/\rng a.1)/\Z9 a.1 64=true/\Tree.kind a.1≠10
def ZkA(a:Tree × Unit):List (C U):=(enc .tree (Z3 a.1)++[sU .edit ([]:List Edit) .unk,sU .edit ([]:List Edit) .unk])
def Z38:Fs U:=fsN ZmX (fun a=> [ZgS a]) ZkA
def Zg3:ArgM ((Int × List Int × List Tree × List Edit × List Edit × Unit) × Unit):=(.obj 0 (.cons (Z5j .i64) (.cons (cSl .u64) (.cons (cSl .tree) (.cons (cSl .edit) (.cons (cSl .edit) .nil))))) .nil)
def Z9x(a:(Int × List Int × List Tree × List Edit × List Edit × Unit) × Unit):Prop:=True
def Zky(a:(Int × List Int × List Tree × List Edit × List Edit × Unit) × Unit):V U:= .agg (enc .tree (Tree.mk a.1.1 a.1.2.1 a.1.2.2.1))
def ZeV(a:(Int × List Int × List Tree × List Edit × List Edit × Unit) × Unit):List (List (C U)):=[[ci (Tree.kind (Tree.mk a.1.1 a.1.2.1 a.1.2.2.1)),sU .u64 (Tree.words (Tree.mk a.1.1 a.1.2.1 a.1.2.2.1)) .unk,sU .tree (Tree.kids (Tree.mk a.1.1 a.1.2.1 a.1.2.2.1)) .unk,sU .edit a.1.2.2.2.1 .unk,sU .edit a.1.2.2.2.2.1 .unk]]
def Z37:Fs U:=fsX Zg3 (fun a=> [Z9x a]) Zky ZeV
def Zkw(a:(Int × List Int × List Tree × List Edit × List Edit × Unit) × Unit):V U:= .tup [(false,[ci ((a.1.2.2.2.1).length:Int)]),(false,[ci ((a.1.2.2.2.2.1).length:Int)])]
def Z95:Fs U:=fsX Zg3 (fun a=> [Z9x a]) Zkw ZeV
def ZfU:ArgM ((Int × List Int × List Tree × List Edit × List Edit × Unit) × Edit × Unit):=(.obj 0 (.cons (Z5j .i64) (.cons (cSl .u64) (.cons (cSl .tree) (.cons (cSl .edit) (.cons (cSl .edit) .nil))))) (.cons (aEl .edit) .nil))
def Zdr(a:(Int × List Int × List Tree × List Edit × List Edit × Unit) × Edit × Unit):Prop:=Z6R a.2.1 (Tree.mk a.1.1 a.1.2.1 a.1.2.2.1)
def Zkq(a:(Int × List Int × List Tree × List Edit × List Edit × Unit) × Edit × Unit):V U:= .c (ci ((Yj a.2.1 (Tree.mk a.1.1 a.1.2.1 a.1.2.2.1)).2))
def ZeQ(a:(Int × List Int × List Tree × List Edit × List Edit × Unit) × Edit × Unit):List (List (C U)):=[(enc .tree ((Yj a.2.1 (Tree.mk a.1.1 a.1.2.1 a.1.2.2.1)).1)++[sU .edit a.1.2.2.2.1 .unk,sU .edit a.1.2.2.2.2.1 .unk])]
def Z10:Fs U:=fsX ZfU (fun a=> [Zdr a]) Zkq ZeQ
abbrev A82(p:List Nat):=AW (Z1 Zfw) Try.f82 ZlN p
theorem ZuN(l:List Edit)(Q:QT)(h:(((l=[])->(Q .ret (L2 [(2,.c (.nils))] [])))/\(True->((([]:List Edit).length+l.length)*200<=140737488355328)/\(Q .ret (L2 [(2,.c (sU .edit (([]:List Edit)++l) (.own (.e 2 0))))] []))))):
  A82 [] (L2 [(0,.c (sU .edit l .unk))] []) Q:=
 Eq.mpr (by kernel_rfl) h
def Zsx(l:List Edit):Prop:=AW (Z1 Zfw) Try.f82 ZlN [] (Zg (ZmI.can (l,())) []) (EQ Try.f82 (ZgF (l,())) [])
theorem ZqL(hb:∀ (l:List Edit) (_:Unit),Z5L (l,())->Zsx l):CT 82 Z0Z:=
 Z7 (l:=[]) Zj rfl trivial ZlN Try.func82 rfl rfl 1 (fun _=> rfl) (by decide) (fun ⟨l,_⟩=> hb l ())
def Zmh:List (FuncId × Fs U):=[(80,JI),(71,Z94)]
def Zrz:Zc U:=lvl [([1],[1]),([1,10],[1]),([2],[]),([2],[14])]
abbrev A39(p:List Nat):=AW (Z1 Zmh) Try.f39 Zrz p
theorem Zve(t:Tree)(Q:QT)(h:let z0:=Tree.mk t.kind t.words t.kids;let z2:= !(!(Z9 z0 64));let z1:=bif (!(Z9 z0 64)) then true else (t.kind==10);((Z9u (z0,()))/\(Tr (z2=true))/\(Tr (z2=true))/\((!(Z9 z0 64))=false->z2=true)/\((z1=true->(Q .ret (L2 [(2,.c (.nilp))] [])))/\(z1=false->(Z9w (z0,()))/\(Q .ret (L2 [(2,.ptr (.loc 14) 0)] [(.loc 14,(enc .tree (Z3 z0)++[.nils,.nils]))])))))):
  A39 [] (L2 [(0,.agg (enc .tree t))] []) Q:=
 Eq.mpr (by kernel_rfl) h
def ZsY(t:Tree):Prop:=AW (Z1 Zmh) Try.f39 Zrz [] (Zg (ZmX.can (t,())) []) (ZcY cfg Try.f39.ntmps Try.f39.results.toList (ZkA (t,())))
theorem Zr9(c80:CT 80 JI)(c71:CT 71 Z94)(hb:∀ (t:Tree) (_:Unit),ZgS (t,())->ZsY t):CT 39 Z38:=
 Zaf (l:=[(80,JI),(71,Z94)]) Zj rfl (⟨c80,c71,trivial⟩) Zrz Try.func39 rfl rfl 1 (fun _=> rfl) (by decide) (fun ⟨t,_⟩=> hb t ())
def Zrx:Zc U:=fun i=> match i with
 | 0=> ([(0,[]),(2,[])],[(.loc 2,[]),(.x 0,[])])
 | 1=> ([(0,[]),(2,[]),(4,[])],[(.loc 2,[]),(.x 0,[])])
 | 2=> ([(2,[])],[(.loc 2,[]),(.x 0,[])])
 | 3=> ([(2,[])],[(.loc 2,[]),(.x 0,[])])
 | _=> ([],[])
abbrev A41(p:List Nat):=AW (Z1 Zfw) Try.f41 Zrx p
theorem Zvc(hk:Int)(hw:List Int)(hc:List Tree)(hd hg:List Edit)(Q:QT)(h:((false=true->(Q .ret (L2 [pL 2] [(.loc 2,[ci 0,.nils,.nils]),(.x 0,[ci hk,sU .u64 hw .unk,sU .tree hc .unk,sU .edit hd .unk,sU .edit hg .unk])])))/\(false=false->(Q .ret (L2 [pL 2] [(.loc 2,[ci hk,sU .u64 hw .unk,sU .tree hc .unk]),(.x 0,[ci hk,sU .u64 hw .unk,sU .tree hc .unk,sU .edit hd .unk,sU .edit hg .unk])]))))):
  A41 [] (L2 [(0,.ptr (.x 0) 0)] [(.x 0,[ci hk,sU .u64 hw .unk,sU .tree hc .unk,sU .edit hd .unk,sU .edit hg .unk])]) Q:=
 Eq.mpr (by kernel_rfl) h
def ZsW(hk:Int)(hw:List Int)(hc:List Tree)(hd hg:List Edit):Prop:=AW (Z1 Zfw) Try.f41 Zrx [] (Zg (Zg3.can ((hk,hw,hc,hd,hg,()),())) (Zg3.canX ((hk,hw,hc,hd,hg,()),()))) (EQ Try.f41 (Zky ((hk,hw,hc,hd,hg,()),())) (ZeV ((hk,hw,hc,hd,hg,()),())))
theorem Zr7(hb:∀ (hk:Int) (hw:List Int) (hc:List Tree) (hd:List Edit) (hg:List Edit) (_:Unit),Z9x ((hk,hw,hc,hd,hg,()),())->ZsW hk hw hc hd hg):CT 41 Z37:=
 ZM (l:=[]) Zj rfl trivial Zrx Try.func41 rfl rfl 1 (fun _=> rfl) (by decide) (fun ⟨⟨hk,hw,hc,hd,hg,_⟩,_⟩=> hb hk hw hc hd hg ())
def Zrv:Zc U:=fun i=> match i with
 | 0=> ([(0,[])],[(.x 0,[])])
 | 1=> ([(0,[]),(5,[])],[(.x 0,[])])
 | 2=> ([(2,[]),(3,[])],[(.x 0,[])])
 | 3=> ([(2,[]),(3,[])],[(.x 0,[])])
 | _=> ([],[])
abbrev A43(p:List Nat):=AW (Z1 Zfw) Try.f43 Zrv p
theorem Zva(hk:Int)(hw:List Int)(hc:List Tree)(hd hg:List Edit)(Q:QT)(h:((false=true->(Q .ret (L2 [pI 2 0,pI 3 0] [(.x 0,[ci hk,sU .u64 hw .unk,sU .tree hc .unk,sU .edit hd .unk,sU .edit hg .unk])])))/\(false=false->(Q .ret (L2 [pI 2 (hd.length:Int),pI 3 (hg.length:Int)] [(.x 0,[ci hk,sU .u64 hw .unk,sU .tree hc .unk,sU .edit hd .unk,sU .edit hg .unk])]))))):
  A43 [] (L2 [(0,.ptr (.x 0) 0)] [(.x 0,[ci hk,sU .u64 hw .unk,sU .tree hc .unk,sU .edit hd .unk,sU .edit hg .unk])]) Q:=
 Eq.mpr (by kernel_rfl) h
def ZsU(hk:Int)(hw:List Int)(hc:List Tree)(hd hg:List Edit):Prop:=AW (Z1 Zfw) Try.f43 Zrv [] (Zg (Zg3.can ((hk,hw,hc,hd,hg,()),())) (Zg3.canX ((hk,hw,hc,hd,hg,()),()))) (EQ Try.f43 (Zkw ((hk,hw,hc,hd,hg,()),())) (ZeV ((hk,hw,hc,hd,hg,()),())))
theorem Zr5(hb:∀ (hk:Int) (hw:List Int) (hc:List Tree) (hd:List Edit) (hg:List Edit) (_:Unit),Z9x ((hk,hw,hc,hd,hg,()),())->ZsU hk hw hc hd hg):CT 43 Z95:=
 ZM (l:=[]) Zj rfl trivial Zrv Try.func43 rfl rfl 1 (fun _=> rfl) (by decide) (fun ⟨⟨hk,hw,hc,hd,hg,_⟩,_⟩=> hb hk hw hc hd hg ())
def Zm4:List (FuncId × Fs U):=[(26,Z99),(80,JI)]
def Zrl:Zc U:=fun i=> match i with
 | 0=> ([(0,[]),(3,[])],[(.loc 3,[]),(.x 0,[])])
 | 1=> ([(0,[]),(5,[]),(6,[])],[(.loc 5,[]),(.x 0,[])])
 | 2=> ([(0,[]),(5,[]),(16,[])],[(.loc 5,[]),(.x 0,[])])
 | 3=> ([(4,[])],[(.x 0,[])])
 | 4=> ([(0,[]),(5,[]),(19,[])],[(.loc 5,[]),(.x 0,[])])
 | 5=> ([(4,[])],[(.x 0,[])])
 | 6=> ([],[(.x 0,[])])
 | 7=> ([(4,[])],[(.x 0,[])])
 | _=> ([],[])
abbrev A81(p:List Nat):=AW (Z1 Zm4) Try.f81 Zrl p
theorem ZuO(hk:Int)(hw:List Int)(hc:List Tree)(hd hg:List Edit)(e:Edit)(Q:QT)(h:∀ y_1,y_1=e->∀ y_2,y_2=(Z9H ((doE false y_1 (Tree.mk hk hw hc)).map Z3))->let z0:=doE false y_1 (Tree.mk hk hw hc);((Z1Y (y_1,(Tree.mk hk hw hc),()))/\(((!(z0.isSome))=true->(Q .ret (L2 [pI 4 13] [(.x 0,[ci hk,sU .u64 hw .unk,sU .tree hc .unk,sU .edit hd .unk,sU .edit hg .unk])])))/\((!(z0.isSome))=false->(Z9u (y_2,()))/\(((!(Z9 y_2 64))=true->(Q .ret (L2 [pI 4 3] [(.x 0,[ci hk,sU .u64 hw .unk,sU .tree hc .unk,sU .edit hd .unk,sU .edit hg .unk])])))/\((!(Z9 y_2 64))=false->(Q .ret (L2 [pI 4 0] [(.x 0,(enc .tree (Z9H (z0.map Z3))++[sU .edit hd .unk,sU .edit hg .unk]))])))))))):
  A81 [] (L2 [(0,.ptr (.x 0) 0),(1,.agg (enc .edit e))] [(.x 0,[ci hk,sU .u64 hw .unk,sU .tree hc .unk,sU .edit hd .unk,sU .edit hg .unk])]) Q:=
 Eq.mpr (by kernel_rfl) (h _ (Zf _) _ (Z8 _))
def Zsy(hk:Int)(hw:List Int)(hc:List Tree)(hd hg:List Edit)(e:Edit):Prop:=AW (Z1 Zm4) Try.f81 Zrl [] (Zg (ZfU.can ((hk,hw,hc,hd,hg,()),e,())) (ZfU.canX ((hk,hw,hc,hd,hg,()),e,()))) (EQ Try.f81 (Zkq ((hk,hw,hc,hd,hg,()),e,())) (ZeQ ((hk,hw,hc,hd,hg,()),e,())))
theorem ZqM(c26:CT 26 Z99)(c80:CT 80 JI)(hb:∀ (hk:Int) (hw:List Int) (hc:List Tree) (hd:List Edit) (hg:List Edit) (e:Edit) (_:Unit),Zdr ((hk,hw,hc,hd,hg,()),e,())->Zsy hk hw hc hd hg e):CT 81 Z10:=
 ZM (l:=[(26,Z99),(80,JI)]) Zj rfl (⟨c26,c80,trivial⟩) Zrl Try.func81 rfl rfl 2 (fun _=> rfl) (by decide) (fun ⟨⟨hk,hw,hc,hd,hg,_⟩,e,_⟩=> hb hk hw hc hd hg e ())
end
noncomputable section
def ZgR(a:(Int × List Int × List Tree × List Edit × List Edit × Unit) × Edit × Unit):Prop:=((ZD a.2.1<=18000000000/\Yk a.2.1)/\(Z4 a.2.1 64=true->Z6R (ZI a.2.1) (Tree.mk a.1.1 a.1.2.1 a.1.2.2.1)))/\(a.1.2.2.2.1).length<=1000000000
def Zkx(a:(Int × List Int × List Tree × List Edit × List Edit × Unit) × Edit × Unit):V U:= .c (ci ((doN a.2.1 (Hist.mk (Tree.mk a.1.1 a.1.2.1 a.1.2.2.1) a.1.2.2.2.1 a.1.2.2.2.2.1)).2))
def ZeU(a:(Int × List Int × List Tree × List Edit × List Edit × Unit) × Edit × Unit):List (List (C U)):=[(enc .tree (Hist.now ((doN a.2.1 (Hist.mk (Tree.mk a.1.1 a.1.2.1 a.1.2.2.1) a.1.2.2.2.1 a.1.2.2.2.2.1)).1))++[sU .edit (Hist.done ((doN a.2.1 (Hist.mk (Tree.mk a.1.1 a.1.2.1 a.1.2.2.1) a.1.2.2.2.1 a.1.2.2.2.2.1)).1)) .unk,sU .edit (Hist.gone ((doN a.2.1 (Hist.mk (Tree.mk a.1.1 a.1.2.1 a.1.2.2.1) a.1.2.2.2.1 a.1.2.2.2.2.1)).1)) .unk])]
def Z36:Fs U:=fsX ZfU (fun a=> [ZgR a]) Zkx ZeU
def pre44(a:(Int × List Int × List Tree × List Edit × List Edit × Unit) × Unit):Prop:=(∀ e∈a.1.2.2.2.1,(ZD e<=20000000000/\∃ d,Z4 e d=true)/\Z6R (ZI (ZF e)) (Tree.mk a.1.1 a.1.2.1 a.1.2.2.1))/\(a.1.2.2.2.1).length<=1000000000/\(a.1.2.2.2.2.1).length<=1000000000
def Zkv(a:(Int × List Int × List Tree × List Edit × List Edit × Unit) × Unit):V U:= .c (.bool ((YH (Hist.mk (Tree.mk a.1.1 a.1.2.1 a.1.2.2.1) a.1.2.2.2.1 a.1.2.2.2.2.1)).2))
def ZeS(a:(Int × List Int × List Tree × List Edit × List Edit × Unit) × Unit):List (List (C U)):=[(enc .tree (Hist.now ((YH (Hist.mk (Tree.mk a.1.1 a.1.2.1 a.1.2.2.1) a.1.2.2.2.1 a.1.2.2.2.2.1)).1))++[sU .edit (Hist.done ((YH (Hist.mk (Tree.mk a.1.1 a.1.2.1 a.1.2.2.1) a.1.2.2.2.1 a.1.2.2.2.2.1)).1)) .unk,sU .edit (Hist.gone ((YH (Hist.mk (Tree.mk a.1.1 a.1.2.1 a.1.2.2.1) a.1.2.2.2.1 a.1.2.2.2.2.1)).1)) .unk])]
def Z35:Fs U:=fsX Zg3 (fun a=> [pre44 a]) Zkv ZeS
def pre46(a:(Int × List Int × List Tree × List Edit × List Edit × Unit) × Unit):Prop:=(∀ e∈a.1.2.2.2.2.1,Z6R e (Tree.mk a.1.1 a.1.2.1 a.1.2.2.1))/\(a.1.2.2.2.1).length<=1000000000/\(a.1.2.2.2.2.1).length<=1000000000
def Zku(a:(Int × List Int × List Tree × List Edit × List Edit × Unit) × Unit):V U:= .c (.bool ((Yv (Hist.mk (Tree.mk a.1.1 a.1.2.1 a.1.2.2.1) a.1.2.2.2.1 a.1.2.2.2.2.1)).2))
def ZeR(a:(Int × List Int × List Tree × List Edit × List Edit × Unit) × Unit):List (List (C U)):=[(enc .tree (Hist.now ((Yv (Hist.mk (Tree.mk a.1.1 a.1.2.1 a.1.2.2.1) a.1.2.2.2.1 a.1.2.2.2.2.1)).1))++[sU .edit (Hist.done ((Yv (Hist.mk (Tree.mk a.1.1 a.1.2.1 a.1.2.2.1) a.1.2.2.2.1 a.1.2.2.2.2.1)).1)) .unk,sU .edit (Hist.gone ((Yv (Hist.mk (Tree.mk a.1.1 a.1.2.1 a.1.2.2.1) a.1.2.2.2.1 a.1.2.2.2.2.1)).1)) .unk])]
def Z34:Fs U:=fsX Zg3 (fun a=> [pre46 a]) Zku ZeR
def Zg4:ArgM ((Int × Int × Int × Int × List Int × List Tree × Int × List Int × List Tree × List WEdit × List Kid × Int × List Op × Unit) × Tree × Unit):=(.agg (.cons (Z5j .i64) (.cons (Z5j .i64) (.cons (Z5j .i64) (.cons (Z5j .i64) (.cons (cSl .u64) (.cons (cSl .tree) (.cons (Z5j .i64) (.cons (cSl .u64) (.cons (cSl .tree) (.cons (cSl .wedit) (.cons (cSl .kid) (.cons (Z5j .i64) (.cons (cSl .op) .nil))))))))))))) (.cons (aEl .tree) .nil))
def Zl7(a:(Int × Int × Int × Int × List Int × List Tree × Int × List Int × List Tree × List WEdit × List Kid × Int × List Op × Unit) × Tree × Unit):Prop:=a.1.1=0/\(Z1F (Edit.mk a.1.2.2.1 (Tree.mk a.1.2.2.2.1 a.1.2.2.2.2.1 a.1.2.2.2.2.2.1) (Tree.mk a.1.2.2.2.2.2.2.1 a.1.2.2.2.2.2.2.2.1 a.1.2.2.2.2.2.2.2.2.1) a.1.2.2.2.2.2.2.2.2.2.1 a.1.2.2.2.2.2.2.2.2.2.2.1 a.1.2.2.2.2.2.2.2.2.2.2.2.1 a.1.2.2.2.2.2.2.2.2.2.2.2.2.1)/\Yk (Edit.mk a.1.2.2.1 (Tree.mk a.1.2.2.2.1 a.1.2.2.2.2.1 a.1.2.2.2.2.2.1) (Tree.mk a.1.2.2.2.2.2.2.1 a.1.2.2.2.2.2.2.2.1 a.1.2.2.2.2.2.2.2.2.1) a.1.2.2.2.2.2.2.2.2.2.1 a.1.2.2.2.2.2.2.2.2.2.2.1 a.1.2.2.2.2.2.2.2.2.2.2.2.1 a.1.2.2.2.2.2.2.2.2.2.2.2.2.1))/\Z12 a.2.1
def Zkz(a:(Int × Int × Int × Int × List Int × List Tree × Int × List Int × List Tree × List WEdit × List Kid × Int × List Op × Unit) × Tree × Unit):V U:= .c (.bool (Z6U (Edit.mk a.1.2.2.1 (Tree.mk a.1.2.2.2.1 a.1.2.2.2.2.1 a.1.2.2.2.2.2.1) (Tree.mk a.1.2.2.2.2.2.2.1 a.1.2.2.2.2.2.2.2.1 a.1.2.2.2.2.2.2.2.2.1) a.1.2.2.2.2.2.2.2.2.2.1 a.1.2.2.2.2.2.2.2.2.2.2.1 a.1.2.2.2.2.2.2.2.2.2.2.2.1 a.1.2.2.2.2.2.2.2.2.2.2.2.2.1) a.2.1))
def Zkn(a:(Int × Int × Int × Int × List Int × List Tree × Int × List Int × List Tree × List WEdit × List Kid × Int × List Op × Unit) × Tree × Unit):List (List (C U)):=[]
def Z96:Fs U:=fsX Zg4 (fun a=> [Zl7 a]) Zkz Zkn
def ZmW:ArgL Unit:= .nil
def Zdu(a:Unit):Prop:=True
def ZpN(a:Unit):V U:= .c (.bool true)
def Z97:Fs U:=fs ZmW (fun a=> [Zdu a]) ZpN
def ZmZ:ArgL (Tree × List Edit × Unit):=(.cons (aEl .tree) (.cons (aSl .edit) .nil))
def Zl8(a:Tree × List Edit × Unit):Prop:=(Z12 a.1/\rng a.1)/\∀ e∈a.2.1,Z1F e/\Yk e
def ZpP(a:Tree × List Edit × Unit):V U:= .c (.bool true)
def ZbJ:Fs U:=fs ZmZ (fun a=> [Zl8 a]) ZpP
def Zme:List (FuncId × Fs U):=[(52,Z93),(57,Z33),(81,Z10),(82,Z0Z)]
def Zrw:Zc U:=fun i=> match i with
 | 0=> ([(0,[]),(3,[])],[(.loc 3,[]),(.x 0,[])])
 | 1=> ([(0,[]),(3,[]),(6,[])],[(.loc 3,[]),(.x 0,[])])
 | 2=> ([(4,[])],[(.x 0,[])])
 | 3=> ([(0,[]),(3,[]),(9,[])],[(.loc 3,[]),(.x 0,[])])
 | 4=> ([(4,[])],[(.x 0,[])])
 | 5=> ([(0,[]),(3,[])],[(.loc 3,[]),(.x 0,[])])
 | 6=> ([(0,[]),(3,[]),(5,[])],[(.loc 3,[]),(.x 0,[])])
 | 7=> ([(0,[]),(3,[]),(5,[]),(19,[])],[(.loc 3,[]),(.x 0,[])])
 | 8=> ([(4,[])],[(.x 0,[])])
 | 9=> ([],[(.x 0,[])])
 | 10=> ([(4,[])],[(.x 0,[])])
 | _=> ([],[])
abbrev A42(p:List Nat):=AW (Z1 Zme) Try.f42 Zrw p
theorem Zvb(hk:Int)(hw:List Int)(hc:List Tree)(hd hg:List Edit)(e:Edit)(Q:QT)(h:∀ y_1,y_1=e->∀ y_2,y_2=(ZI y_1)->let z0:=Yj y_2 (Tree.mk hk hw hc);((false=true->(Q .ret (L2 [pI 4 1] [(.x 0,[ci hk,sU .u64 hw .unk,sU .tree hc .unk,sU .edit hd .unk,sU .edit hg .unk])])))/\(false=false->(ZgQ (y_1,()))/\(((!(Z4 y_1 64))=true->(Q .ret (L2 [pI 4 2] [(.x 0,[ci hk,sU .u64 hw .unk,sU .tree hc .unk,sU .edit hd .unk,sU .edit hg .unk])])))/\((!(Z4 y_1 64))=false->(Z1a (y_1,()))/\((Zdr ((hk,hw,hc,hd,hg,()),y_2,()))/\(((((z0.2):Int) !=0)=true->(Q .ret (L2 [pI 4 (z0.2)] [(.x 0,(enc .tree (z0.1)++[sU .edit hd .unk,sU .edit hg .unk]))])))/\((((z0.2):Int) !=0)=false->(Z5L (hd,()))/\((hd.length+([y_2]).length)*200<=140737488355328)/\(Q .ret (L2 [pI 4 0] [(.x 0,(enc .tree (z0.1)++[sU .edit (hd++([y_2])) (.own (.x 0 3)),.nils]))])))))))))):
  A42 [] (L2 [(0,.ptr (.x 0) 0),(1,.agg (enc .edit e))] [(.x 0,[ci hk,sU .u64 hw .unk,sU .tree hc .unk,sU .edit hd .unk,sU .edit hg .unk])]) Q:=
 Eq.mpr (by kernel_rfl) (h _ (Zf _) _ (Zf _))
def ZsV(hk:Int)(hw:List Int)(hc:List Tree)(hd hg:List Edit)(e:Edit):Prop:=AW (Z1 Zme) Try.f42 Zrw [] (Zg (ZfU.can ((hk,hw,hc,hd,hg,()),e,())) (ZfU.canX ((hk,hw,hc,hd,hg,()),e,()))) (EQ Try.f42 (Zkx ((hk,hw,hc,hd,hg,()),e,())) (ZeU ((hk,hw,hc,hd,hg,()),e,())))
theorem Zr6(c52:CT 52 Z93)(c57:CT 57 Z33)(c81:CT 81 Z10)(c82:CT 82 Z0Z)(hb:∀ (hk:Int) (hw:List Int) (hc:List Tree) (hd:List Edit) (hg:List Edit) (e:Edit) (_:Unit),ZgR ((hk,hw,hc,hd,hg,()),e,())->ZsV hk hw hc hd hg e):CT 42 Z36:=
 ZM (l:=[(52,Z93),(57,Z33),(81,Z10),(82,Z0Z)]) Zj rfl (⟨c52,c57,c81,c82,trivial⟩) Zrw Try.func42 rfl rfl 2 (fun _=> rfl) (by decide) (fun ⟨⟨hk,hw,hc,hd,hg,_⟩,e,_⟩=> hb hk hw hc hd hg e ())
def Zmc:List (FuncId × Fs U):=[(81,Z10),(82,Z0Z),(83,Z8V)]
def Zru:Zc U:=fun i=> match i with
 | 0=> ([(0,[])],[(.x 0,[])])
 | 1=> ([(0,[]),(14,[])],[(.x 0,[])])
 | 2=> ([(2,[])],[(.x 0,[])])
 | 3=> ([(0,[]),(3,[])],[(.x 0,[])])
 | 4=> ([(0,[]),(3,[]),(4,[])],[(.loc 4,[]),(.x 0,[])])
 | 5=> ([(0,[]),(3,[]),(4,[]),(32,[])],[(.loc 4,[]),(.x 0,[])])
 | 6=> ([(2,[])],[(.x 0,[])])
 | 7=> ([],[(.x 0,[])])
 | 8=> ([(2,[])],[(.x 0,[])])
 | _=> ([],[])
abbrev A44(p:List Nat):=AW (Z1 Zmc) Try.f44 Zru p
theorem Zv9(hk:Int)(hw:List Int)(hc:List Tree)(hd hg:List Edit)(Q:QT)(h:∀ y_1,y_1=(List.getD hd (Int.toNat (((hd.length:Int):Int) - 1)) Edit.nil)->∀ y_2,y_2=y_1->∀ y_3,y_3=(ZI (ZF y_2))->let z1:=bif false then true else (((hd.length:Int):Int)==0);let z0:=Yj y_3 (Tree.mk hk hw hc);((Tr ((!false)=true))/\(Tr ((!false)=true))/\(Tr ((!false)=true))/\(Tr ((!false)=true))/\(Tr ((!false)=true))/\(false=false->(!false)=true)/\((z1=true->(Q .ret (L2 [pB 2 false] [(.x 0,[ci hk,sU .u64 hw .unk,sU .tree hc .unk,sU .edit hd .unk,sU .edit hg .unk])])))/\(z1=false->(InR (((hd.length:Int):Int) - 1))/\(((0:Int)<=(((hd.length:Int):Int) - 1)/\(((hd.length:Int):Int) - 1) < (hd.length:Int))/\((Z1a (y_2,()))/\(Zdr ((hk,hw,hc,hd,hg,()),y_3,()))/\(((((z0.2):Int) !=0)=true->(Q .ret (L2 [pB 2 false] [(.x 0,(enc .tree (z0.1)++[sU .edit hd .unk,sU .edit hg .unk]))])))/\((((z0.2):Int) !=0)=false->((0:Int)<=(((hd.length:Int):Int) - 1)/\(((hd.length:Int):Int) - 1)<=(hd.length:Int))/\((((hd.length:Int):Int) - 1)=(((hd.length:Int):Int) - 1))/\(Z5L (hg,()))/\((hg.length+([y_2]).length)*200<=140737488355328)/\(Q .ret (L2 [pB 2 true] [(.x 0,(enc .tree (z0.1)++[sU .edit (List.take (Int.toNat (((hd.length:Int):Int) - 1)) hd) .full,sU .edit (hg++([y_2])) (.own (.x 0 4))]))])))))))))):
  A44 [] (L2 [(0,.ptr (.x 0) 0)] [(.x 0,[ci hk,sU .u64 hw .unk,sU .tree hc .unk,sU .edit hd .unk,sU .edit hg .unk])]) Q:=
 Eq.mpr (by kernel_rfl) (h _ rfl _ (Zf _) _ (Zf _))
def ZsT(hk:Int)(hw:List Int)(hc:List Tree)(hd hg:List Edit):Prop:=AW (Z1 Zmc) Try.f44 Zru [] (Zg (Zg3.can ((hk,hw,hc,hd,hg,()),())) (Zg3.canX ((hk,hw,hc,hd,hg,()),()))) (EQ Try.f44 (Zkv ((hk,hw,hc,hd,hg,()),())) (ZeS ((hk,hw,hc,hd,hg,()),())))
theorem Zr4(c81:CT 81 Z10)(c82:CT 82 Z0Z)(c83:CT 83 Z8V)(hb:∀ (hk:Int) (hw:List Int) (hc:List Tree) (hd:List Edit) (hg:List Edit) (_:Unit),pre44 ((hk,hw,hc,hd,hg,()),())->ZsT hk hw hc hd hg):CT 44 Z35:=
 ZM (l:=[(81,Z10),(82,Z0Z),(83,Z8V)]) Zj rfl (⟨c81,c82,c83,trivial⟩) Zru Try.func44 rfl rfl 1 (fun _=> rfl) (by decide) (fun ⟨⟨hk,hw,hc,hd,hg,_⟩,_⟩=> hb hk hw hc hd hg ())
def Zmb:List (FuncId × Fs U):=[(81,Z10),(82,Z0Z)]
def Zrt:Zc U:=fun i=> match i with
 | 0=> ([(0,[])],[(.x 0,[])])
 | 1=> ([(0,[]),(14,[])],[(.x 0,[])])
 | 2=> ([(2,[])],[(.x 0,[])])
 | 3=> ([(0,[]),(3,[])],[(.x 0,[])])
 | 4=> ([(0,[]),(3,[]),(4,[])],[(.loc 4,[]),(.x 0,[])])
 | 5=> ([(0,[]),(3,[]),(4,[]),(31,[])],[(.loc 4,[]),(.x 0,[])])
 | 6=> ([(2,[])],[(.x 0,[])])
 | 7=> ([],[(.x 0,[])])
 | 8=> ([(2,[])],[(.x 0,[])])
 | _=> ([],[])
abbrev A46(p:List Nat):=AW (Z1 Zmb) Try.f46 Zrt p
theorem Zv7(hk:Int)(hw:List Int)(hc:List Tree)(hd hg:List Edit)(Q:QT)(h:∀ y_1,y_1=(List.getD hg (Int.toNat (((hg.length:Int):Int) - 1)) Edit.nil)->∀ y_2,y_2=y_1->let z1:=bif false then true else (((hg.length:Int):Int)==0);let z0:=Yj y_2 (Tree.mk hk hw hc);((Tr ((!false)=true))/\(Tr ((!false)=true))/\(Tr ((!false)=true))/\(Tr ((!false)=true))/\(Tr ((!false)=true))/\(false=false->(!false)=true)/\((z1=true->(Q .ret (L2 [pB 2 false] [(.x 0,[ci hk,sU .u64 hw .unk,sU .tree hc .unk,sU .edit hd .unk,sU .edit hg .unk])])))/\(z1=false->(InR (((hg.length:Int):Int) - 1))/\(((0:Int)<=(((hg.length:Int):Int) - 1)/\(((hg.length:Int):Int) - 1) < (hg.length:Int))/\((Zdr ((hk,hw,hc,hd,hg,()),y_2,()))/\(((((z0.2):Int) !=0)=true->(Q .ret (L2 [pB 2 false] [(.x 0,(enc .tree (z0.1)++[sU .edit hd .unk,sU .edit hg .unk]))])))/\((((z0.2):Int) !=0)=false->(Z5L (hd,()))/\((hd.length+([y_2]).length)*200<=140737488355328)/\((0:Int)<=(((hg.length:Int):Int) - 1)/\(((hg.length:Int):Int) - 1)<=(hg.length:Int))/\((((hg.length:Int):Int) - 1)=(((hg.length:Int):Int) - 1))/\(Q .ret (L2 [pB 2 true] [(.x 0,(enc .tree (z0.1)++[sU .edit (hd++([y_2])) (.own (.x 0 3)),sU .edit (List.take (Int.toNat (((hg.length:Int):Int) - 1)) hg) .full]))])))))))))):
  A46 [] (L2 [(0,.ptr (.x 0) 0)] [(.x 0,[ci hk,sU .u64 hw .unk,sU .tree hc .unk,sU .edit hd .unk,sU .edit hg .unk])]) Q:=
 Eq.mpr (by kernel_rfl) (h _ rfl _ (Zf _))
def ZsR(hk:Int)(hw:List Int)(hc:List Tree)(hd hg:List Edit):Prop:=AW (Z1 Zmb) Try.f46 Zrt [] (Zg (Zg3.can ((hk,hw,hc,hd,hg,()),())) (Zg3.canX ((hk,hw,hc,hd,hg,()),()))) (EQ Try.f46 (Zku ((hk,hw,hc,hd,hg,()),())) (ZeR ((hk,hw,hc,hd,hg,()),())))
theorem Zr2(c81:CT 81 Z10)(c82:CT 82 Z0Z)(hb:∀ (hk:Int) (hw:List Int) (hc:List Tree) (hd:List Edit) (hg:List Edit) (_:Unit),pre46 ((hk,hw,hc,hd,hg,()),())->ZsR hk hw hc hd hg):CT 46 Z34:=
 ZM (l:=[(81,Z10),(82,Z0Z)]) Zj rfl (⟨c81,c82,trivial⟩) Zrt Try.func46 rfl rfl 1 (fun _=> rfl) (by decide) (fun ⟨⟨hk,hw,hc,hd,hg,_⟩,_⟩=> hb hk hw hc hd hg ())
def Zmg:List (FuncId × Fs U):=[(54,Z92),(23,Z9a),(55,Z91),(36,Z39)]
def Zry:Zc U:=lvl [([2,3],[2,3]),([4],[])]
abbrev A40(p:List Nat):=AW (Z1 Zmg) Try.f40 Zry p
theorem Zvd(dk di ek eo:Int)(eow:List Int)(eok:List Tree)(en:Int)(enw:List Int)(enk:List Tree)(ew:List WEdit)(ec:List Kid)(li:Int)(eos:List Op)(t:Tree)(Q:QT)(h:∀ y_1,y_1=t->∀ y_2,y_2=(Edit.mk ek (Tree.mk eo eow eok) (Tree.mk en enw enk) ew ec li eos)->let z5:= !(Z4 y_2 64);let z4:= !(decide (dk < 0));let z1:=decide (0<=Jo y_2 80 3000);let z0:=bif (decide (dk < 0)) then true else (decide ((3:Int) < dk));let z3:=((!z0) && z1) && (!z5);let z2:=bif z0 then true else (bif z1 then (bif z5 then true else (JR y_2)) else false);((Tr (z4=true))/\(Tr (z4=true))/\((decide (dk < 0))=false->z4=true)/\(Tr ((!z0)=true))/\(Tr ((!z0)=true))/\((!z0)=true->Zl5 (y_2,()))/\(Tr ((!z0)=true))/\(Tr (((!z0) && z1)=true))/\(Tr (((!z0) && z1)=true))/\(((!z0) && z1)=true->Z7L (y_2,64,()))/\(Tr (((!z0) && z1)=true))/\(Tr (((!z0) && z1)=true))/\(Tr (z3=true))/\(Tr (z3=true))/\(z3=true->Z9v (y_2,()))/\(((!z0) && z1)=true->(True->((!z0) && z1)=true))/\(((!z0) && z1)=true->(z5=false->z3=true))/\((!z0)=true->(True->(!z0)=true))/\((!z0)=true->(z1=true->((!z0) && z1)=true))/\(z0=false->(!z0)=true)/\(Tr (z2=true))/\(z2=true->ZgT (y_1,()))/\(Tr (z2=true))/\(Q .ret (L2 [(4,.c (.bool (bif z2 then (decide (0<=Zr y_1 80 3000)) else false)))] [])))):
  A40 [] (L2 [(0,.agg [ci dk,ci di,ci ek,ci eo,sU .u64 eow .unk,sU .tree eok .unk,ci en,sU .u64 enw .unk,sU .tree enk .unk,sU .wedit ew .unk,sU .kid ec .unk,ci li,sU .op eos .unk]),(1,.agg (enc .tree t))] []) Q:=
 Eq.mpr (by kernel_rfl) (h _ (Z8 _) _ rfl)
def ZsX(dk di ek eo:Int)(eow:List Int)(eok:List Tree)(en:Int)(enw:List Int)(enk:List Tree)(ew:List WEdit)(ec:List Kid)(li:Int)(eos:List Op)(t:Tree):Prop:=AW (Z1 Zmg) Try.f40 Zry [] (Zg (Zg4.can ((dk,di,ek,eo,eow,eok,en,enw,enk,ew,ec,li,eos,()),t,())) (Zg4.canX ((dk,di,ek,eo,eow,eok,en,enw,enk,ew,ec,li,eos,()),t,()))) (EQ Try.f40 (Zkz ((dk,di,ek,eo,eow,eok,en,enw,enk,ew,ec,li,eos,()),t,())) (Zkn ((dk,di,ek,eo,eow,eok,en,enw,enk,ew,ec,li,eos,()),t,())))
theorem Zr8(c54:CT 54 Z92)(c23:CT 23 Z9a)(c55:CT 55 Z91)(c36:CT 36 Z39)(hb:∀ (dk:Int) (di:Int) (ek:Int) (eo:Int) (eow:List Int) (eok:List Tree) (en:Int) (enw:List Int) (enk:List Tree) (ew:List WEdit) (ec:List Kid) (li:Int) (eos:List Op) (t:Tree) (_:Unit),Zl7 ((dk,di,ek,eo,eow,eok,en,enw,enk,ew,ec,li,eos,()),t,())->ZsX dk di ek eo eow eok en enw enk ew ec li eos t):CT 40 Z96:=
 ZM (l:=[(54,Z92),(23,Z9a),(55,Z91),(36,Z39)]) Zj rfl (⟨c54,c23,c55,c36,trivial⟩) Zry Try.func40 rfl rfl 2 (fun _=> rfl) (by decide) (fun ⟨⟨dk,di,ek,eo,eow,eok,en,enw,enk,ew,ec,li,eos,_⟩,t,_⟩=> hb dk di ek eo eow eok en enw enk ew ec li eos t ())
def Zmi:List (FuncId × Fs U):=[(39,Z38),(41,Z37),(42,Z36),(44,Z35),(46,Z34)]
def ZrA:Zc U:=lvl [([],[]),([1],[9]),([1,2],[9]),([1,2,3],[9]),([1,2,3,4],[4,9]),([1,2,3,4,5],[4,9]),([2,3,4,5,6],[4,6]),([0],[])]
abbrev A38(p:List Nat):=AW (Z1 Zmi) Try.f38 ZrA p
theorem Zvf(Q:QT)(h:∀ y_1,y_1=(Z3 (Tree.mk 1 ([1]) []))->∀ y_2,y_2=(Edit.mk 2 (Tree.mk 0 [] []) (Tree.mk 0 [] []) ([(WEdit.mk 0 1 1 2)]) [] 0 [])->∀ y_3,y_3=(Hist.now ((doN y_2 (Hist.mk y_1 ([]:List Edit) ([]:List Edit))).1))->∀ y_4,y_4=(Hist.done ((doN y_2 (Hist.mk y_1 ([]:List Edit) ([]:List Edit))).1))->∀ y_5,y_5=(Hist.gone ((doN y_2 (Hist.mk y_1 ([]:List Edit) ([]:List Edit))).1))->∀ y_6,y_6=y_3->∀ y_7,y_7=(Hist.now ((YH (Hist.mk y_6 y_4 y_5)).1))->∀ y_8,y_8=y_7->∀ y_9,y_9=(List.getD y_7.words (Int.toNat 0) (0:Int))->∀ y_10,y_10=(Hist.mk y_8 (Hist.done ((YH (Hist.mk y_6 y_4 y_5)).1)) (Hist.gone ((YH (Hist.mk y_6 y_4 y_5)).1)))->∀ y_11,y_11=(Hist.now ((Yv y_10).1))->let z7:=Hist.now ((Yv y_10).1);let z6:=Tree.mk 1 ([1]) [];let z4:=(((doN y_2 (Hist.mk y_1 ([]:List Edit) ([]:List Edit))).2):Int)==0;let z3:=YH (Hist.mk y_6 y_4 y_5);let z8:=bif z4 then (z3.2) else false;let z1:=bif z8 then ((Yv y_10).2) else false;let z0:=bif z1 then (((y_7.words.length:Int):Int)==1) else false;let z5:=bif z0 then (y_9==1) else false;let z2:=bif z5 then (((y_11.words.length:Int):Int)==1) else false;((ZgS (z6,()))/\((ZgR (((Tree.kind (Z3 z6)),(Tree.words (Z3 z6)),(Tree.kids (Z3 z6)),([]:List Edit),([]:List Edit),()),y_2,()))/\((pre44 ((y_3.kind,y_3.words,y_3.kids,y_4,y_5,()),()))/\((Z9x (((Tree.kind (Hist.now (z3.1))),(Tree.words (Hist.now (z3.1))),(Tree.kids (Hist.now (z3.1))),(Hist.done (z3.1)),(Hist.gone (z3.1)),()),()))/\((pre46 (((Tree.kind y_7),(Tree.words y_7),(Tree.kids y_7),(Hist.done (z3.1)),(Hist.gone (z3.1)),()),()))/\((Z9x (((Tree.kind z7),(Tree.words z7),(Tree.kids z7),(Hist.done ((Yv y_10).1)),(Hist.gone ((Yv y_10).1)),()),()))/\((Tr (z4=true))/\(Tr (z8=true))/\(Tr (z1=true))/\(Tr (z1=true))/\(Tr (z1=true))/\(Tr (z1=true))/\(Tr (z0=true))/\(Tr (z0=true))/\(z0=true->(0:Int)<=0/\0 < (y_7.words.length:Int))/\(Tr (z0=true))/\(Tr (z0=true))/\(Tr (z0=true))/\(Tr (z5=true))/\(Tr (z5=true))/\(Tr (z5=true))/\(Tr (z5=true))/\(Tr (z2=true))/\(Tr (z2=true))/\(z2=true->(0:Int)<=0/\0 < (y_11.words.length:Int))/\(Tr (z2=true))/\(Tr (z2=true))/\(Tr (z2=true))/\(Q .ret (L2 [(0,.c (.bool (bif z2 then (((List.getD y_11.words (Int.toNat 0) (0:Int)):Int)==2) else false)))] [])))))))))):
  A38 [] (L2 [] []) Q:=
 Eq.mpr (by kernel_rfl) (h _ (Z8 _) _ rfl _ rfl _ rfl _ rfl _ (Z8 _) _ (Z8 _) _ (Z8 _) _ rfl _ rfl _ (Z8 _))
def ZsZ:Prop:=AW (Z1 Zmi) Try.f38 ZrA [] (Zg (ZmW.can ()) []) (EQ Try.f38 (ZpN ()) [])
theorem Zra(c39:CT 39 Z38)(c41:CT 41 Z37)(c42:CT 42 Z36)(c44:CT 44 Z35)(c46:CT 46 Z34)(hb:∀ (_:Unit),Zdu ()->ZsZ):CT 38 Z97:=
 Z7 (l:=[(39,Z38),(41,Z37),(42,Z36),(44,Z35),(46,Z34)]) Zj rfl (⟨c39,c41,c42,c44,c46,trivial⟩) ZrA Try.func38 rfl rfl 0 (fun _=> rfl) (by decide) (fun _=> hb ())
def ZfI:List (FuncId × Fs U):=[(36,Z39),(37,Z5z),(38,Z97),(39,Z38),(40,Z96),(41,Z37),(42,Z36),(43,Z95),(44,Z35),(45,Z94),(46,Z34),(29,Z98)]
def ZoI:Zc U:=lvl [([1,2],[2]),([1,2,25],[2]),([4],[]),([1,2,5],[2,28]),([1,2,5,6],[2,28]),([1,2,5,6,36],[2,28]),([1,2,5,6],[2,28]),([1,2,5,6,47],[2,28]),([4],[]),([1,2,5,6],[2,28]),([2,5,7],[2,7,28]),([2,5,7,8],[2,7,28]),([2,5,7,8,10],[2,7,28]),([2,5,7,8,10,64],[2,7,28]),([2,5,7,8,10],[2,7,28]),([2,5,7,8,10,69],[2,7,28]),([4],[]),([2,5,7,8,11],[2,7,11,28]),([5,7,8,80],[7,28]),([4],[]),([5,7,8,12],[7,28]),([5,7,8,12,83],[7,28]),([5,7,8,12],[7,28]),([5,7,8,12,88],[7,28]),([4],[]),([4],[])]
def Z6C(t:Tree)(l:List Edit)(x6 ml28_0:Int)(ml28_1:List Int)(ml28_2:List Tree)(ml28_3 ml28_4:List Edit):LSt U:=(L2 [(1,.c (sU .edit l .unk)),pL 2,(5,.ptr (.loc 28) 0),pI 6 x6] [(.loc 2,(enc .tree t)),(.loc 28,[ci ml28_0,sU .u64 ml28_1 .unk,sU .tree ml28_2 .unk,sU .edit ml28_3 .unk,sU .edit ml28_4 .unk])])
def Z6B(t:Tree)(l:List Edit)(ml28_0:Int)(ml28_1:List Int)(ml28_2:List Tree)(ml28_3:List Edit)(x10_a ml28_0_a:Int)(ml28_1_a:List Int)(ml28_2_a:List Tree)(ml28_3_a ml28_4_a:List Edit):LSt U:=(L2 [pL 2,(5,.ptr (.loc 28) 0),pL 7,pI 8 (ml28_3.length:Int),pI 10 x10_a] [(.loc 2,(enc .tree t)),(.loc 7,(enc .tree (Tree.mk ml28_0 ml28_1 ml28_2))),(.loc 28,[ci ml28_0_a,sU .u64 ml28_1_a .unk,sU .tree ml28_2_a .unk,sU .edit ml28_3_a .unk,sU .edit ml28_4_a .unk])])
def Z6A(t:Tree)(l:List Edit)(ml28_0:Int)(ml28_1:List Int)(ml28_2:List Tree)(ml28_3:List Edit)(x12_b ml28_0_b:Int)(ml28_1_b:List Int)(ml28_2_b:List Tree)(ml28_3_b ml28_4_b:List Edit):LSt U:=(L2 [(5,.ptr (.loc 28) 0),pL 7,pI 8 (ml28_3.length:Int),pI 12 x12_b] [(.loc 7,(enc .tree (Tree.mk ml28_0 ml28_1 ml28_2))),(.loc 28,[ci ml28_0_b,sU .u64 ml28_1_b .unk,sU .tree ml28_2_b .unk,sU .edit ml28_3_b .unk,sU .edit ml28_4_b .unk])])
abbrev A11(p:List Nat):=AW (Z1 ZfI) Try.f11 ZoI p
abbrev S11(p:List Nat):=SW (Z1 ZfI) Try.f11 ZoI p
theorem Zvl(t:Tree)(l:List Edit)(Q:QT)(h:∀ y_1,y_1=t->let z1:= !(decide (0<=Zr y_1 80 3000));let z0:=bif z1 then true else (!(Z9 y_1 64));let z2:=bif z0 then true else (t.kind==10);((ZgT (y_1,()))/\(Tr ((!z1)=true))/\((!z1)=true->Z3q (y_1,64,()))/\(Tr ((!z1)=true))/\(z1=false->(!z1)=true)/\(Tr ((!z0)=true))/\(Tr ((!z0)=true))/\(z0=false->(!z0)=true)/\((z2=true->(Zdu ())/\(Q .ret (L2 [pB 4 true] [])))/\(z2=false->(ZgS (y_1,()))/\(Zh (A11 [1,1,1,0,1,0,0]) (Z6C t l 0 (Tree.kind (Z3 y_1)) (Tree.words (Z3 y_1)) (Tree.kids (Z3 y_1)) ([]:List Edit) ([]:List Edit)) (xB 0 (S11 [1,1,1,1] Q))))))):
  A11 [] (L2 [(0,.agg (enc .tree t)),(1,.c (sU .edit l .unk))] []) Q:=
 Eq.mpr (by kernel_rfl) (h _ (Z8 _))
theorem ZnM(t:Tree)(l:List Edit)(x6 ml28_0:Int)(ml28_1:List Int)(ml28_2:List Tree)(ml28_3 ml28_4:List Edit)(N0:NT)(Q:QT)(h:∀ y_1,y_1=(l.getD x6.toNat Edit.nil)->∀ y_2,y_2=(Tree.mk ml28_0 ml28_1 ml28_2)->∀ y_3,y_3=(Tree.mk ml28_0 ml28_1 ml28_2)->∀ y_4,y_4=y_1->let z3:=Z9x ((ml28_0,ml28_1,ml28_2,ml28_3,ml28_4,()),());let z2:=decide (x6 < (l.length:Int));let z4:=bif z2 then (decide (x6 < 12)) else false;let z1:=Tree.mk ml28_0 ml28_1 ml28_2;let z0:=doN y_4 (Hist.mk y_3 ml28_3 ml28_4);(Tr (z2=true))/\(Tr (z2=true))/\((z4=true->((0:Int)<=x6/\x6 < (l.length:Int))/\z3/\(Zl7 ((0,0,y_1.kind,y_1.old.kind,y_1.old.words,y_1.old.kids,y_1.new.kind,y_1.new.words,y_1.new.kids,y_1.words,y_1.kids,y_1.list,y_1.ops,()),y_2,()))/\(((!(Z6U y_4 y_2))=true->(Zdu ())/\(Q .ret (L2 [pB 4 true] [])))/\((!(Z6U y_4 y_2))=false->((0:Int)<=x6/\x6 < (l.length:Int))/\(ZgR (((Tree.kind z1),(Tree.words z1),(Tree.kids z1),ml28_3,ml28_4,()),y_4,()))/\((InR (x6+1))/\(N0 (Z6C t l (x6+1) (Tree.kind (Hist.now (z0.1))) (Tree.words (Hist.now (z0.1))) (Tree.kids (Hist.now (z0.1))) (Hist.done (z0.1)) (Hist.gone (z0.1))))))))/\(z4=false->z3/\((Z9x (((Tree.kind z1),(Tree.words z1),(Tree.kids z1),ml28_3,ml28_4,()),()))/\(Zh (A11 [1,1,1,1,1,1,0,1,0,0]) (Z6B t l ml28_0 ml28_1 ml28_2 ml28_3 0 (Tree.kind y_3) (Tree.words y_3) (Tree.kids y_3) ml28_3 ml28_4) (xB 2 (S11 [1,1,1,1,1,1,1] Q))))))):
  A11 [1,1,1,0,1,0,0] (Z6C t l x6 ml28_0 ml28_1 ml28_2 ml28_3 ml28_4) (xT N0 (xB 0 (S11 [1,1,1,1] Q))):=
 Eq.mpr (by kernel_rfl) (h _ rfl _ (Z8 _) _ (Z8 _) _ (Zf _))
theorem ZnL(t:Tree)(l:List Edit)(ml28_0:Int)(ml28_1:List Int)(ml28_2:List Tree)(ml28_3:List Edit)(x10_a ml28_0_a:Int)(ml28_1_a:List Int)(ml28_2_a:List Tree)(ml28_3_a ml28_4_a:List Edit)(N1:NT)(Q:QT)(h:∀ y_1,y_1=t->∀ y_2,y_2=(Tree.mk ml28_0_a ml28_1_a ml28_2_a)->∀ y_3,y_3=(Tree.mk ml28_0_a ml28_1_a ml28_2_a)->∀ y_4,y_4=(Hist.mk (Tree.mk ml28_0_a ml28_1_a ml28_2_a) ml28_3_a ml28_4_a)->∀ y_5,y_5=(Z3 y_1)->let z4:=decide (x10_a < (ml28_3.length:Int));let z2:=Hist.now ((YH y_4).1);let z1:=Tree.mk ml28_0_a ml28_1_a ml28_2_a;let z0:=YH (Hist.mk y_3 ml28_3_a ml28_4_a);let z3:=bif (z0.2) then true else (!(Yf y_2 y_5));((z4=true->(pre44 ((ml28_0_a,ml28_1_a,ml28_2_a,ml28_3_a,ml28_4_a,()),()))/\(((!((YH y_4).2))=true->(Q .ret (L2 [pB 4 false] [])))/\((!((YH y_4).2))=false->(InR (x10_a+1))/\(N1 (Z6B t l ml28_0 ml28_1 ml28_2 ml28_3 (x10_a+1) (Tree.kind z2) (Tree.words z2) (Tree.kids z2) (Hist.done ((YH y_4).1)) (Hist.gone ((YH y_4).1)))))))/\(z4=false->(Z9x ((ml28_0_a,ml28_1_a,ml28_2_a,ml28_3_a,ml28_4_a,()),()))/\((pre44 (((Tree.kind z1),(Tree.words z1),(Tree.kids z1),ml28_3_a,ml28_4_a,()),()))/\(Tr ((!(z0.2))=true))/\((!(z0.2))=true->Z9w (y_1,()))/\(Tr ((!(z0.2))=true))/\(Tr ((!(z0.2))=true))/\((!(z0.2))=true->Z7K (y_2,y_5,()))/\(Tr ((!(z0.2))=true))/\((z0.2)=false->(!(z0.2))=true)/\((z3=true->(Q .ret (L2 [pB 4 false] [])))/\(z3=false->(Zh (A11 [1,1,1,1,1,1,1,1,1,0,1,0,0]) (Z6A t l ml28_0 ml28_1 ml28_2 ml28_3 0 (Tree.kind (Hist.now (z0.1))) (Tree.words (Hist.now (z0.1))) (Tree.kids (Hist.now (z0.1))) (Hist.done (z0.1)) (Hist.gone (z0.1))) (xB 4 (S11 [1,1,1,1,1,1,1,1,1,1] Q))))))))):
  A11 [1,1,1,1,1,1,0,1,0,0] (Z6B t l ml28_0 ml28_1 ml28_2 ml28_3 x10_a ml28_0_a ml28_1_a ml28_2_a ml28_3_a ml28_4_a) (xT N1 (xB 2 (S11 [1,1,1,1,1,1,1] Q))):=
 Eq.mpr (by kernel_rfl) (h _ (Z8 _) _ (Z8 _) _ (Z8 _) _ rfl _ (Z8 _))
theorem ZnK(t:Tree)(l:List Edit)(ml28_0:Int)(ml28_1:List Int)(ml28_2:List Tree)(ml28_3:List Edit)(x12_b ml28_0_b:Int)(ml28_1_b:List Int)(ml28_2_b:List Tree)(ml28_3_b ml28_4_b:List Edit)(N2:NT)(Q:QT)(h:∀ y_1,y_1=(Tree.mk ml28_0 ml28_1 ml28_2)->∀ y_2,y_2=(Hist.mk (Tree.mk ml28_0_b ml28_1_b ml28_2_b) ml28_3_b ml28_4_b)->∀ y_3,y_3=(Hist.now ((Yv y_2).1))->∀ y_4,y_4=y_3->let z4:=decide (x12_b < (ml28_3.length:Int));let z3:=pre46 ((ml28_0_b,ml28_1_b,ml28_2_b,ml28_3_b,ml28_4_b,()),());let z1:=Hist.now ((Yv y_2).1);let z0:= !((Yv y_2).2);let z2:=bif z0 then (Yf y_4 y_1) else false;((z4=true->z3/\((z0=true->(Q .ret (L2 [pB 4 false] [])))/\(z0=false->(InR (x12_b+1))/\(N2 (Z6A t l ml28_0 ml28_1 ml28_2 ml28_3 (x12_b+1) (Tree.kind z1) (Tree.words z1) (Tree.kids z1) (Hist.done ((Yv y_2).1)) (Hist.gone ((Yv y_2).1)))))))/\(z4=false->z3/\(Tr (z0=true))/\(z0=true->Z9x (((Tree.kind z1),(Tree.words z1),(Tree.kids z1),(Hist.done ((Yv y_2).1)),(Hist.gone ((Yv y_2).1)),()),()))/\(Tr (z0=true))/\(Tr (z0=true))/\(z0=true->Z7K (y_4,y_1,()))/\(Tr (z0=true))/\(z2=true->Zdu ())/\(Tr (z2=true))/\(Q .ret (L2 [(4,.c (.bool (bif z2 then true else false)))] []))))):
  A11 [1,1,1,1,1,1,1,1,1,0,1,0,0] (Z6A t l ml28_0 ml28_1 ml28_2 ml28_3 x12_b ml28_0_b ml28_1_b ml28_2_b ml28_3_b ml28_4_b) (xT N2 (xB 4 (S11 [1,1,1,1,1,1,1,1,1,1] Q))):=
 Eq.mpr (by kernel_rfl) (h _ (Z8 _) _ rfl _ (Z8 _) _ (Z8 _))
def Zt5(t:Tree)(l:List Edit):Prop:=AW (Z1 ZfI) Try.f11 ZoI [] (Zg (ZmZ.can (t,l,())) []) (EQ Try.f11 (ZpP (t,l,())) [])
theorem Zrf(c36:CT 36 Z39)(c37:CT 37 Z5z)(c38:CT 38 Z97)(c39:CT 39 Z38)(c40:CT 40 Z96)(c41:CT 41 Z37)(c42:CT 42 Z36)(c43:CT 43 Z95)(c44:CT 44 Z35)(c45:CT 45 Z94)(c46:CT 46 Z34)(c29:CT 29 Z98)(hb:∀ (t:Tree) (l:List Edit) (_:Unit),Zl8 (t,l,())->Zt5 t l):CT 11 ZbJ:=
 Z7 (l:=[(36,Z39),(37,Z5z),(38,Z97),(39,Z38),(40,Z96),(41,Z37),(42,Z36),(43,Z95),(44,Z35),(45,Z94),(46,Z34),(29,Z98)]) Zj rfl (⟨c36,c37,c38,c39,c40,c41,c42,c43,c44,c45,c46,c29,trivial⟩) ZoI Try.func11 rfl rfl 2 (fun _=> rfl) (by decide) (fun ⟨t,l,_⟩=> hb t l ())
end
structure St42 (s:Tree):Prop where
 r:Z9 s 64=true
 g:rng s
 n:Z3 s=s
 m:Zm s<=10000000000
theorem St42.rt{s:Tree}(h:St42 s):RT_ s:=⟨⟨64,h.r⟩,h.g⟩
inductive Path:Tree->List Edit->Tree->Prop
 | nil {s}:St42 s->Path s [] s
 | cons {s e u fs w}:St42 s->Z4t e->doE false e s=some u->Path (Z3 u) fs w->Path s (e ::fs) w
theorem Path.st{s w:Tree}{es:List Edit}(h:Path s es w):St42 s/\St42 w:=by
 induction h with
 | nil h=> exact ⟨h,h⟩
 | cons h _ _ _ ih=> exact ⟨h,ih.2⟩
theorem Path.ok{s w:Tree}{es:List Edit}(h:Path s es w):∀ e∈es,Z4t e:=by
 induction h with
 | nil h=> intro e he;cases he
 | cons h r _ _ ih=>
  intro e he
  rcases Qc.1 he with rfl | he
  ·exact r
  ·exact ih e he
theorem Z5O{es fs:List Edit}{s w:Tree}:Path s (es++fs) w↔∃ m,Path s es m/\Path m fs w:=by
 constructor
 ·induction es generalizing s with
  | nil=> intro h;exact ⟨s,.nil h.st.1,h⟩
  | cons e es ih=>
   intro h
   cases h with
   | cons a b c d=>
    obtain ⟨m,h1,h2⟩:=ih d
    exact ⟨m,.cons a b c h1,h2⟩
 ·rintro ⟨m,h1,h2⟩
  induction h1 with
  | nil _=> exact h2
  | cons a b c _ ih=> exact .cons a b c (ih h2)
theorem Zlb{e:Edit}{s w:Tree}(h:Path s [e] w):∃ u,Z4t e/\doE false e s=some u/\w=Z3 u:=by
 cases h with
 | cons a b c d=> cases d with
  | nil _=> exact ⟨_,b,c,rfl⟩
theorem Z3Q{e:Edit}{s:Tree}(he:Z4t e)(hs:St42 s):Z6R e s:=by
 have:=Z44 he
 have:=he.1
 have:=hs.m
 exact ⟨⟨by omega,he.2⟩,by omega,hs.g⟩
theorem Zgk{e:Edit}(he:Z4t e):Z4t (ZI (ZF e)):=(ZnO he).2
theorem Z5p{e:Edit}{s u:Tree}(h:doE false e s=some u)(hr:Z9 (Z3 u) 64=true):Yj e s=(Z3 u,0):=by
 unfold Yj
 rw [h]
 exact if_pos hr
theorem Zqq{e:Edit}{s:Tree}(h:(Yj e s).2=0):∃ u,doE false e s=some u/\Z9 (Z3 u) 64=true/\(Yj e s).1=Z3 u:=by
 unfold Yj at h ⊢
 split at h
 ·cases h
 ·rename_i u hu
  split at h
  ·rename_i hr
   refine ⟨u,hu,hr,?_⟩
   rw [if_pos hr]
  ·cases h
theorem ZbH{e:Edit}{s:Tree}(h:(Yj e s).2≠0):(Yj e s).1=s:=by
 unfold Yj at h ⊢
 split
 ·try rfl
 ·rename_i u hu
  rw [hu] at h
  dsimp only at h
  split
  ·rename_i hr
   rw [if_pos hr] at h
   exact absurd rfl h
  ·try rfl
theorem Zkc{e:Edit}{s u:Tree}(he:Z4t e)(hs:St42 s)(hw:St42 (Z3 u))(h:doE false e s=some u):Yj (ZI (ZF e)) (Z3 u)=(s,0):=by
 obtain ⟨_,g,d,r⟩:=he
 obtain ⟨z,h1,h2⟩:=Zk4 r g hs.rt hw.rt h (show Eqv u (Z3 u) from (Jv u).symm)
 have h2:Z3 z=Z3 s:=h2
 rw [hs.n] at h2
 rw [Z5p h1 (by rw [h2];exact hs.r),h2]
theorem ZaG{t m:Tree}{es gs:List Edit}{e:Edit}(h:Path t (es++[e]) m):∃ s,Path t es s/\Path s [e] m/\YH ⟨m,es++[e],gs⟩=(⟨s,es,gs++[e]⟩,true):=by
 obtain ⟨s,h1,h2⟩:=Z5O.1 h
 obtain ⟨u,he,hu,rfl⟩:=Zlb h2
 refine ⟨s,h1,h2,?_⟩
 have hl:JS (es++[e])=e:=by simp [JS]
 have hb:=Zkc he h1.st.2 h.st.2 hu
 unfold YH
 rw [if_neg (by simp)]
 dsimp only
 rw [hl,hb,if_pos rfl]
 simp
theorem ZaV{s w:Tree}{es fs gs:List Edit}{e:Edit}(h:Path s (e ::fs) w):∃ m,Path s [e] m/\Path m fs w/\Yv ⟨s,es,gs++[e]⟩=(⟨m,es++[e],gs⟩,true):=by
 cases h with
 | cons a b c d=>
  rename_i u
  refine ⟨Z3 u,.cons a b c (.nil d.st.1),d,?_⟩
  have hl:JS (gs++[e])=e:=by simp [JS]
  have hf:=Z5p c d.st.1.r
  unfold Yv
  rw [if_neg (by simp)]
  dsimp only
  rw [hl,hf,if_pos rfl]
  simp
theorem ZoR{t:Tree}{e:Edit}{h:Hist}(hp:Path t h.done h.now)(hg:h.gone=[])(hm:Zm h.now<=3000)(he:Z4 e 64=true->Z4t e/\ctE (ZI e)<=9000000000):
  Path t (doN e h).1.done (doN e h).1.now/\(doN e h).1.gone=[]/\(doN e h).1.done.length<=h.done.length+1:=by
 unfold doN
 by_cases hr:Z4 e 64=true
 ·rw [if_pos hr]
  obtain ⟨re,ct⟩:=he hr
  have rn:=Z9q re
  by_cases h0:(Yj (ZI e) h.now).2=0
  ·rw [if_pos h0]
   obtain ⟨u,h1,h2,h3⟩:=Zqq h0
   dsimp only
   rw [h3]
   have hs:=hp.st.2
   have hw:St42 (Z3 u):=by
    obtain ⟨_,g,d,r⟩:=rn
    refine ⟨h2,Z0g _ (ZbO false _ _ _ g hs.g h1),Jv u,?_⟩
    have:=Zce false _ d _ _ r h1
    have:=J0 u
    omega
   exact ⟨Z5O.2 ⟨_,hp,.cons hs rn h1 (.nil hw)⟩,rfl,by simp⟩
  ·rw [if_neg h0]
   exact ⟨hp,hg,Nat.le_succ _⟩
 ·rw [if_neg hr]
  exact ⟨hp,hg,Nat.le_succ _⟩
theorem c82:Contract Try.prog cfg 82 Z0Z:=by
 refine ZqL ?_
 intro l _ hp
 simp only [Z5L] at hp
 refine ZuN _ _ ⟨fun h=> ?_,fun _=> ⟨by simp only [Qx];omega,?_⟩⟩
 ·subst h
  simp only [ZgF]
  (repeat' (first | exact trivial | exact rfl | apply And.intro))
 ·simp only [ZgF,X3]
  (repeat' (first | exact trivial | exact rfl | apply And.intro))
theorem c39:Contract Try.prog cfg 39 Z38:=by
 refine Zr9 c80 c71 ?_
 intro t _ hp
 obtain ⟨⟨h1,h2⟩,h3,h4⟩:=hp
 dsimp only at h1 h2 h3 h4
 refine Zve _ _ ?_
 (simp only [Tree.eta,Edit.eta,Tree.kind_mk,Tree.words_mk,Tree.kids_mk])
 (simp only [vcT,vcS])
 refine ⟨⟨h1,h2⟩,fun h=> ?_,fun _=> ⟨by show Zm t<=_;omega,?_⟩⟩
 ·rcases h with h | h
  ·rw [h3] at h;cases h
  ·exact absurd h h4
 ·simp only [ZkA]
  (repeat' (first | exact trivial | exact rfl | apply And.intro))
theorem c41:Contract Try.prog cfg 41 Z37:=by
 refine Zr7 ?_
 intro hk hw hc hd hg _ _
 refine Zvc _ _ _ _ _ _ ⟨(fun h=> by cases h),fun _=> ?_⟩
 simp only [Zky,ZeV]
 (repeat' (first | exact trivial | exact rfl | apply And.intro))
theorem c43:Contract Try.prog cfg 43 Z95:=by
 refine Zr5 ?_
 intro hk hw hc hd hg _ _
 refine Zva _ _ _ _ _ _ ⟨(fun h=> by cases h),fun _=> ?_⟩
 simp only [Zkw,ZeV]
 (repeat' (first | exact trivial | exact rfl | apply And.intro))
theorem c81:Contract Try.prog cfg 81 Z10:=by
 refine ZqM c26 c80 ?_
 intro hk hw hc hd hg e _ hp
 obtain ⟨⟨h1,h2,d,h3⟩,h4,h5⟩:=hp
 dsimp only at h1 h2 h3 h4 h5
 refine ZuO _ _ _ _ _ _ _ ?_
 rintro y1 rfl y2 e2
 (simp only [vcT,vcS])
 have fin:∀ {r:Tree × Int} {s:LSt U},Yj y1 (.mk hk hw hc)=r->YA cfg Try.f81.ntmps Try.f81.results.toList (.c (.int .i64 r.2)) [[.int .i64 r.1.kind,.slice .u64 r.1.words .unk,.slice .tree r.1.kids .unk,.slice .edit hd .unk,.slice .edit hg .unk]] .ret s->
   YA cfg Try.f81.ntmps Try.f81.results.toList (Zkq ((hk,hw,hc,hd,hg,()),y1,())) (ZeQ ((hk,hw,hc,hd,hg,()),y1,())) .ret s:=by
  intro r s h hs
  subst h
  exact hs
 refine ⟨⟨⟨h1,h2,d,h3⟩,by dsimp only;omega,h5⟩,fun hn=> ?_,fun hs=> ?_⟩
 ·cases hu:doE false y1 (.mk hk hw hc) with
  | some u=> rw [hu] at hn;cases hn
  | none=> exact fin (r:=(.mk hk hw hc,13)) (by unfold Yj;rw [hu]) (by (repeat' (first | exact trivial | exact rfl | apply And.intro)))
 ·obtain ⟨u,hu⟩:=Zkf hs
  have e3:y2=Z3 u:=by rw [e2,hu];try rfl
  rw [e3]
  have hm:=Zce false _ d _ _ h3 hu
  have hm2:=J0 u
  refine ⟨⟨by dsimp only;omega,Z0g _ (ZbO false _ _ _ h2 h5 hu)⟩,fun hr=> ?_,fun hr=> ?_⟩
  ·exact fin (r:=(.mk hk hw hc,3)) (by unfold Yj;rw [hu];exact if_neg (by rw [hr];decide)) (by (repeat' (first | exact trivial | exact rfl | apply And.intro)))
  ·rw [hu]
   exact fin (r:=(Z3 u,0)) (Z5p hu hr) (by (repeat' (first | exact trivial | exact rfl | apply And.intro)))
theorem c42:Contract Try.prog cfg 42 Z36:=by
 refine Zr6 c52 Zmw.1 c81 c82 ?_
 intro hk hw hc hd hg e _ hp
 obtain ⟨⟨h1,h2⟩,h3⟩:=hp
 dsimp only at h1 h2 h3
 refine Zvb _ _ _ _ _ _ _ ?_
 rintro y1 rfl y2 rfl
 (simp only [vcT,vcS])
 have fin:∀ {r:Hist × Int} {s:LSt U},doN y1 ⟨.mk hk hw hc,hd,hg⟩=r->YA cfg Try.f42.ntmps Try.f42.results.toList (.c (.int .i64 r.2)) [[.int .i64 r.1.now.kind,.slice .u64 r.1.now.words .unk,.slice .tree r.1.now.kids .unk,.slice .edit r.1.done .unk,.slice .edit r.1.gone .unk]] .ret s->
   YA cfg Try.f42.ntmps Try.f42.results.toList (Zkx ((hk,hw,hc,hd,hg,()),y1,())) (ZeU ((hk,hw,hc,hd,hg,()),y1,())) .ret s:=by
  intro r s h hs
  subst h
  exact hs
 refine ⟨(fun h=> by cases h),h1,fun hr=> ?_,fun hr=> ?_⟩
 ·exact fin (r:=(⟨.mk hk hw hc,hd,hg⟩,2)) (by unfold doN;exact if_neg (by rw [hr];decide)) (by (repeat' (first | exact trivial | exact rfl | apply And.intro)))
 ·refine ⟨⟨by dsimp only;omega,64,hr⟩,h2 hr,fun h0=> ?_,fun h0=> ⟨by dsimp only [Z5L];omega,by simp only [List.length_cons,List.length_nil];omega,?_⟩⟩
  ·rw [ZbH h0]
   exact fin (r:=(⟨.mk hk hw hc,hd,hg⟩,(Yj (ZI y1) (.mk hk hw hc)).2)) (by unfold doN;rw [if_pos hr];exact if_neg h0) (by (repeat' (first | exact trivial | exact rfl | apply And.intro)))
  ·exact fin (r:=(⟨(Yj (ZI y1) (.mk hk hw hc)).1,hd++[ZI y1],[]⟩,0)) (by unfold doN;rw [if_pos hr];exact if_pos h0) (by (repeat' (first | exact trivial | exact rfl | apply And.intro)))
theorem Zh9(l:List Edit):l.getD (((l.length:Int) - 1).toNat) Edit.nil=JS l:=by
 unfold JS
 congr 1
 omega
theorem Zbj{l:List Edit}(h:l.length≠0):JS l∈l:=Zl (by omega) _
theorem c44:Contract Try.prog cfg 44 Z35:=by
 refine Zr4 c81 c82 c83 ?_
 intro hk hw hc hd hg _ hp
 obtain ⟨h1,h2,h3⟩:=hp
 dsimp only at h1 h2 h3
 refine Zv9 _ _ _ _ _ _ ?_
 rintro y1 h1' y2 rfl y3 rfl
 rw [Zh9] at h1'
 subst h1'
 (simp only [vcT,vcS])
 have fin:∀ {r:Hist × Bool} {s:LSt U},YH ⟨.mk hk hw hc,hd,hg⟩=r->YA cfg Try.f44.ntmps Try.f44.results.toList (.c (.bool r.2)) [[.int .i64 r.1.now.kind,.slice .u64 r.1.now.words .unk,.slice .tree r.1.now.kids .unk,.slice .edit r.1.done .unk,.slice .edit r.1.gone .unk]] .ret s->
   YA cfg Try.f44.ntmps Try.f44.results.toList (Zkv ((hk,hw,hc,hd,hg,()),())) (ZeS ((hk,hw,hc,hd,hg,()),())) .ret s:=by
  intro r s h hs
  subst h
  exact hs
 have hne:¬(hd.length:Int)=0->JS hd∈hd:=fun h=> Zbj (by omega)
 refine ⟨fun h=> ?_,fun h=> ⟨by unfold InR;omega,⟨by omega,by omega⟩,(h1 _ (hne h)).1,(h1 _ (hne h)).2,fun h0=> ?_,fun h0=> ⟨⟨by omega,by omega⟩,by dsimp only [Z5L];omega,by simp only [List.length_cons,List.length_nil];omega,?_⟩⟩⟩
 ·have h:hd.length=0:=by rcases h with h | h;cases h;omega
  exact fin (r:=(⟨.mk hk hw hc,hd,hg⟩,false)) (by unfold YH;exact if_pos h) (by (repeat' (first | exact trivial | exact rfl | apply And.intro)))
 ·rw [ZbH h0]
  exact fin (r:=(⟨.mk hk hw hc,hd,hg⟩,false)) (by unfold YH;rw [if_neg (by dsimp only;omega)];exact if_neg h0) (by (repeat' (first | exact trivial | exact rfl | apply And.intro)))
 ·rw [show (((hd.length:Int) - 1).toNat)=hd.length - 1 by omega]
  exact fin (r:=(⟨(Yj (ZI (ZF (JS hd))) (.mk hk hw hc)).1,hd.take (hd.length - 1),hg++[JS hd]⟩,true)) (by unfold YH;rw [if_neg (by dsimp only;omega)];exact if_pos h0) (by (repeat' (first | exact trivial | exact rfl | apply And.intro)))
theorem c46:Contract Try.prog cfg 46 Z34:=by
 refine Zr2 c81 c82 ?_
 intro hk hw hc hd hg _ hp
 obtain ⟨h1,h2,h3⟩:=hp
 dsimp only at h1 h2 h3
 refine Zv7 _ _ _ _ _ _ ?_
 rintro y1 h1' y2 rfl
 rw [Zh9] at h1'
 subst h1'
 (simp only [vcT,vcS])
 have fin:∀ {r:Hist × Bool} {s:LSt U},Yv ⟨.mk hk hw hc,hd,hg⟩=r->YA cfg Try.f46.ntmps Try.f46.results.toList (.c (.bool r.2)) [[.int .i64 r.1.now.kind,.slice .u64 r.1.now.words .unk,.slice .tree r.1.now.kids .unk,.slice .edit r.1.done .unk,.slice .edit r.1.gone .unk]] .ret s->
   YA cfg Try.f46.ntmps Try.f46.results.toList (Zku ((hk,hw,hc,hd,hg,()),())) (ZeR ((hk,hw,hc,hd,hg,()),())) .ret s:=by
  intro r s h hs
  subst h
  exact hs
 have hne:¬(hg.length:Int)=0->JS hg∈hg:=fun h=> Zbj (by omega)
 refine ⟨fun h=> ?_,fun h=> ⟨by unfold InR;omega,⟨by omega,by omega⟩,h1 _ (hne h),fun h0=> ?_,fun h0=> ⟨by dsimp only [Z5L];omega,by simp only [List.length_cons,List.length_nil];omega,⟨by omega,by omega⟩,?_⟩⟩⟩
 ·have h:hg.length=0:=by rcases h with h | h;cases h;omega
  exact fin (r:=(⟨.mk hk hw hc,hd,hg⟩,false)) (by unfold Yv;exact if_pos h) (by (repeat' (first | exact trivial | exact rfl | apply And.intro)))
 ·rw [ZbH h0]
  exact fin (r:=(⟨.mk hk hw hc,hd,hg⟩,false)) (by unfold Yv;rw [if_neg (by dsimp only;omega)];exact if_neg h0) (by (repeat' (first | exact trivial | exact rfl | apply And.intro)))
 ·rw [show (((hg.length:Int) - 1).toNat)=hg.length - 1 by omega]
  exact fin (r:=(⟨(Yj (JS hg) (.mk hk hw hc)).1,hd++[JS hg],hg.take (hg.length - 1)⟩,true)) (by unfold Yv;rw [if_neg (by dsimp only;omega)];exact if_pos h0) (by (repeat' (first | exact trivial | exact rfl | apply And.intro)))
theorem c40:Contract Try.prog cfg 40 Z96:=by
 refine Zr8 c54 ZrL.1 c55 c36 ?_
 intro dk di ek eo eow eok en enw enk ew ec li eos t _ hp
 obtain ⟨h0,⟨h1,h2⟩,h3⟩:=hp
 dsimp only at h0 h1 h2 h3
 subst h0
 refine Zvd _ _ _ _ _ _ _ _ _ _ _ _ _ _ _ ?_
 rintro y1 rfl y2 e2
 rw [<-e2] at h1 h2
 have er:Zkz ((0,di,ek,eo,eow,eok,en,enw,enk,ew,ec,li,eos,()),y1,())= .c (.bool (Z6U y2 y1)):=by rw [e2];try rfl
 rw [er]
 clear er e2
 (simp only [vcT,vcS])
 have n0:¬(0:Int) < 0/\¬(3:Int) < 0:=⟨by decide,by decide⟩
 refine ⟨fun _=> h1,fun h=> ?_,fun h=> ?_,fun h hr=> ⟨h,hr⟩,fun h hf=> ⟨h,hf⟩,fun _=> h3,?_⟩
 ·have:=Z7o h.2
  exact ⟨⟨by dsimp only;omega,h2⟩,by dsimp only;omega,by dsimp only;omega⟩
 ·have:=Z7o h.1.2
  exact ⟨⟨by dsimp only;omega,h2⟩,64,h.2⟩
 ·refine Z0 rfl ?_
  unfold Z6U
  cases decide (0<=Jo y2 80 3000) <;> cases Z4 y2 64 <;> cases JR y2 <;> cases decide (0<=Zr y1 80 3000) <;> rfl
def atT(n:Int):Tree:= .mk 1 [n] []
def Z4s:Edit:= .mk 2 Tree.nil Tree.nil [⟨0,1,1,2⟩] [] 0 []
theorem Zkj:doE false Z4s (atT 1)=some (atT 2):=by
 unfold Z4s atT
 rw [Zu8,if_pos (show (Tree.mk 1 [1] []).kind=1 from rfl)]
 try rfl
theorem Z1H:Z4t Z4s/\Z4 Z4s 64=true/\ZI Z4s=Z4s:=by
 have z:=Z3X
 have i0:InR 0:=Zhv (by decide) (by decide)
 refine ⟨⟨by decide,⟨Zhv (by decide) (by decide),z,z,fun w hw=> ?_,i0,trivial,trivial⟩,64,rfl⟩,rfl,?_⟩
 ·rw [Q7.1 hw]
  exact ⟨Zhv (by decide) (by decide),⟨by decide,by decide⟩,⟨by decide,by decide⟩,⟨by decide,by decide⟩⟩
 ·unfold Z4s
  rw [ZqD]
  try rfl
theorem Zq8{n:Int}(h:n=1\/n=2):St42 (atT n):=by
 have g:∀ n:Int,isW n->rng (atT n):=fun n hw=> ⟨Zhv (by decide) (by decide),fun x hx=> by rw [Q7.1 hx];exact hw,trivial⟩
 rcases h with rfl | rfl
 ·exact ⟨rfl,g 1 ⟨by decide,by decide⟩,rfl,by decide⟩
 ·exact ⟨rfl,g 2 ⟨by decide,by decide⟩,rfl,by decide⟩
theorem c38:Contract Try.prog cfg 38 Z97:=by
 refine Zra c39 c41 c42 c44 c46 ?_
 intro _ _
 refine Zvf _ ?_
 rintro y1 e1 y2 e2 y3 e3 y4 e4 y5 e5 y6 rfl y7 e7 y8 rfl y9 e9 y10 e10 y11 e11
 have s1:=Zq8 (n:=1) (.inl rfl)
 have s2:=Zq8 (n:=2) (.inr rfl)
 have P:Path (atT 1) [Z4s] (atT 2):= .cons s1 Z1H.1 Zkj (.nil s2)
 have d:doN Z4s ⟨atT 1,[],[]⟩=(⟨atT 2,[Z4s],[]⟩,0):=by
  unfold doN
  rw [if_pos Z1H.2.1,Z1H.2.2,Z5p Zkj s2.r,if_pos rfl]
  try rfl
 have u:YH ⟨atT 2,[Z4s],[]⟩=(⟨atT 1,[],[Z4s]⟩,true):=by
  obtain ⟨s,h1,_,h2⟩:=ZaG (es:=[]) (gs:=[]) P
  cases h1
  exact h2
 have r:Yv ⟨atT 1,[],[Z4s]⟩=(⟨atT 2,[Z4s],[]⟩,true):=by
  obtain ⟨m,h1,h3,h2⟩:=ZaV (es:=[]) (gs:=[]) P
  cases h3
  exact h2
 have e1:y1=atT 1:=e1
 have e2:y2=Z4s:=e2
 subst e1 e2
 rw [d] at e3 e4 e5 ⊢
 subst e3 e4 e5
 dsimp only at e7 e10 ⊢
 rw [u] at e7 e10 ⊢
 subst e7
 dsimp only at e9 e10 ⊢
 subst e10
 rw [r] at e11 ⊢
 subst e11 e9
 refine ⟨⟨⟨by decide,s1.g⟩,rfl,by decide⟩,⟨⟨⟨by decide,Z1H.1.2.1⟩,fun _=> ?_⟩,by decide⟩,⟨fun e he=> ?_,by decide,by decide⟩,trivial,⟨fun e he=> ?_,by decide,by decide⟩,trivial,?_⟩
 ·show Z6R (ZI Z4s) (atT 1)
  rw [Z1H.2.2]
  exact Z3Q Z1H.1 s1
 ·rw [Q7.1 he]
  have:=Z44 Z1H.1
  exact ⟨⟨by omega,64,Z1H.2.1⟩,Z3Q (Zgk Z1H.1) s2⟩
 ·rw [Q7.1 he]
  exact Z3Q Z1H.1 s1
 ·simp only [Tr]
  repeat' (first | exact (fun x=> x) | exact (fun _=> ⟨by decide,by decide⟩) | exact Z0 rfl rfl | apply And.intro)
structure Mid (t0 w:Tree) (all:List Edit) (n:Nat) (H:Hist):Prop where
 es:∃ fs,all=H.done++fs/\H.gone=fs.reverse/\Path H.now fs w
 p:Path t0 H.done H.now
 len:H.done.length=n
theorem Mid.undo{t0 w:Tree}{all:List Edit}{n:Nat}{H:Hist}(h:Mid t0 w all (n+1) H):(YH H).2=true/\Mid t0 w all n (YH H).1:=by
 obtain ⟨now,done,gone⟩:=H
 obtain ⟨⟨fs,e1,e2,e3⟩,hp,hl⟩:=h
 dsimp only at e1 e2 e3 hp hl
 rcases List.eq_nil_or_concat done with rfl | ⟨es,e,rfl⟩
 ·simp at hl
 ·rw [List.concat_eq_append] at e1 hp hl ⊢
  obtain ⟨s,h1,h2,h3⟩:=ZaG (gs:=gone) hp
  rw [h3]
  refine ⟨rfl,⟨e ::fs,by rw [e1];simp,by simp [e2],?_⟩,h1,by simpa using hl⟩
  exact Z5O.2 ⟨_,h2,e3⟩
theorem Mid.redo{t0 w:Tree}{all:List Edit}{n:Nat}{H:Hist}(h:Mid t0 w all n H)(hn:n < all.length):(Yv H).2=true/\Mid t0 w all (n+1) (Yv H).1:=by
 obtain ⟨now,done,gone⟩:=H
 obtain ⟨⟨fs,e1,e2,e3⟩,hp,hl⟩:=h
 dsimp only at e1 e2 e3 hp hl
 cases fs with
 | nil=> rw [e1] at hn;simp at hn;omega
 | cons e fs=>
  obtain ⟨m,h1,h2,h3⟩:=ZaV (es:=done) (gs:=fs.reverse) e3
  have e2:gone=fs.reverse++[e]:=by rw [e2];simp
  rw [e2,h3]
  exact ⟨rfl,⟨fs,by rw [e1];simp,rfl,h2⟩,Z5O.2 ⟨_,hp,h1⟩,by simp [hl]⟩
theorem Mid.undo0{t0 w:Tree}{all:List Edit}{H:Hist}(h:Mid t0 w all 0 H):YH H=(H,false)/\H.now=t0:=by
 obtain ⟨now,done,gone⟩:=H
 obtain ⟨_,hp,hl⟩:=h
 have:done=[]:=Q3 hl
 subst this
 cases hp
 exact ⟨rfl,rfl⟩
theorem Mid.redo0{t0 w:Tree}{all:List Edit}{H:Hist}(h:Mid t0 w all all.length H):Yv H=(H,false)/\H.now=w:=by
 obtain ⟨now,done,gone⟩:=H
 obtain ⟨⟨fs,e1,e2,e3⟩,hp,hl⟩:=h
 dsimp only at e1 e2 e3 hp hl
 have:fs=[]:=by
  have:=congrArg List.length e1
  rw [Qf] at this
  exact Q3 (by omega)
 subst this
 cases e3
 subst e2
 exact ⟨rfl,rfl⟩
theorem Mid.pre44{t0 w:Tree}{all:List Edit}{n:Nat}{H:Hist}(h:Mid t0 w all n H)(hl:all.length<=100):pre44 ((H.now.kind,H.now.words,H.now.kids,H.done,H.gone,()),()):=by
 obtain ⟨⟨fs,e1,e2,e3⟩,hp,_⟩:=h
 have hlen:=congrArg List.length e1
 rw [Qf] at hlen
 have hg:=congrArg List.length e2
 rw [List.length_reverse] at hg
 refine ⟨fun e he=> ?_,by dsimp only;omega,by dsimp only;omega⟩
 have re:=hp.ok e he
 have:=Z44 re
 have ev:Tree.mk H.now.kind H.now.words H.now.kids=H.now:=by cases H.now;rfl
 dsimp only
 rw [ev]
 exact ⟨⟨by omega,re.2.2⟩,Z3Q (Zgk re) hp.st.2⟩
theorem Mid.pre46{t0 w:Tree}{all:List Edit}{n:Nat}{H:Hist}(h:Mid t0 w all n H)(hl:all.length<=100):pre46 ((H.now.kind,H.now.words,H.now.kids,H.done,H.gone,()),()):=by
 obtain ⟨⟨fs,e1,e2,e3⟩,hp,_⟩:=h
 have hlen:=congrArg List.length e1
 rw [Qf] at hlen
 have hg:=congrArg List.length e2
 rw [List.length_reverse] at hg
 refine ⟨fun e he=> ?_,by dsimp only;omega,by dsimp only;omega⟩
 have he:e∈fs:=by
  have he:e∈H.gone:=he
  rw [e2] at he
  exact List.mem_reverse.1 he
 have ev:Tree.mk H.now.kind H.now.words H.now.kids=H.now:=by cases H.now;rfl
 dsimp only
 rw [ev]
 exact Z3Q (e3.ok e he) hp.st.2
theorem c11:Contract Try.prog cfg 11 ZbJ:=by
 refine Zrf c36 c37 c38 c39 c40 c41 c42 c43 c44 c45 c46 c29 ?_
 intro t l _ hp
 obtain ⟨⟨h1,h2⟩,h3⟩:=hp
 dsimp only at h1 h2 h3
 refine Zvl _ _ _ ?_
 rintro y1 rfl
 (simp only [vcT,vcS])
 have hst:0<=Zr y1 80 3000->Z9 y1 64=true->St42 (Z3 y1)/\Zm (Z3 y1)<=3000:=by
  intro hf hr
  have:=J9 y1 80 3000 hf
  have hm:=J0 y1
  exact ⟨⟨Z1x _ _ hr,Z0g _ h2,Jv _,by omega⟩,by omega⟩
 refine ⟨h1,fun hf=> ⟨by have:=Z7p hf;exact this,h2,by dsimp only;omega,by dsimp only;omega⟩,fun _=> ⟨trivial,Z0 rfl rfl⟩,fun hg=> ?_⟩
 obtain ⟨⟨hf,hr⟩,hk⟩:=hg
 obtain ⟨s0,m0⟩:=hst hf hr
 have hfm:=Z7p hf
 refine ⟨⟨⟨by dsimp only;omega,h2⟩,hr,hk⟩,?_⟩
 refine Za (ι:=Int × Hist) (fun j=> Z6C y1 l j.1 j.2.now.kind j.2.now.words j.2.now.kids j.2.done j.2.gone)
  (fun j=> (0<=j.1/\j.1<=12/\j.1<=l.length)/\Path (Z3 y1) j.2.done j.2.now/\j.2.gone=[]/\(j.2.done.length:Int)<=j.1)
  (fun j=> (12 - j.1).toNat) (0,⟨Z3 y1,[],[]⟩) rfl ⟨⟨by dsimp only;omega,by dsimp only;omega,by dsimp only;omega⟩,.nil s0,rfl,by simp⟩ ?_
 rintro ⟨i,now,done,gone⟩ ⟨⟨i0,i1,i2⟩,hP,hg0,hd⟩
 dsimp only at i0 i1 i2 hP hg0 hd
 subst hg0
 have ev:∀ t:Tree,Tree.mk t.kind t.words t.kids=t:=fun t=> by cases t;rfl
 have evE:∀ e:Edit,Edit.mk e.kind (Tree.mk e.old.kind e.old.words e.old.kids) (Tree.mk e.new.kind e.new.words e.new.kids) e.words e.kids e.list e.ops=e:=fun e=> by rw [ev,ev];cases e;rfl
 refine ZnM _ _ _ _ _ _ _ _ _ _ ?_
 rintro z1 hz1 z2 hz2 z3 hz3 z4 rfl
 dsimp only at hz2 hz3 ⊢
 rw [ev] at hz2 hz3
 subst z2
 subst z3
 (simp only [Tree.eta,Edit.eta,Tree.kind_mk,Tree.words_mk,Tree.kids_mk])
 (simp only [vcT,vcS])
 have hst:=hP.st.2
 refine ⟨fun hc=> ?_,fun hc=> ?_⟩
 ·obtain ⟨c1,c2⟩:=hc
  have hmem:z4∈l:=by rw [hz1];exact Zl (by omega) _
  obtain ⟨q1,q2⟩:=h3 z4 hmem
  have hsm:=hst.m
  refine ⟨⟨i0,c1⟩,trivial,⟨rfl,by dsimp only;rw [evE];exact ⟨q1,q2⟩,Z4w _ (by dsimp only;omega)⟩,fun _=> ⟨trivial,Z0 rfl rfl⟩,fun hs=> ?_⟩
  unfold Z6U at hs
  rw [Q1,Q1,decide_eq_true_eq,decide_eq_true_eq] at hs
  obtain ⟨⟨f1,f2⟩,f3⟩:=hs
  have mE:=Z7o f1
  have mN:=J9 now 80 3000 f3
  have he:Z4 z4 64=true->Z4t z4/\ctE (ZI z4)<=9000000000:=by
   intro hr
   have c1:=ZcA z4
   have re:Z4t z4:=⟨by omega,q2,64,hr⟩
   exact ⟨re,(Z9q re).1⟩
  have D:=ZoR (e:=z4) (h:=⟨now,done,[]⟩) hP rfl (by dsimp only;omega) he
  refine ⟨⟨i0,c1⟩,⟨⟨⟨by dsimp only;omega,q2⟩,fun hr=> ?_⟩,by dsimp only;omega⟩,by unfold InR;omega,(i+1,(doN z4 ⟨now,done,[]⟩).1),rfl,⟨⟨by dsimp only;omega,by dsimp only;omega,by dsimp only;omega⟩,D.1,D.2.1,?_⟩,by dsimp only;omega⟩
  ·dsimp only
   rw [ev]
   exact Z3Q (Z9q (he hr).1) hst
  ·have:=D.2.2
   dsimp only at this ⊢
   omega
 refine ⟨trivial,trivial,?_⟩
 have hl:done.length<=100:=by omega
 refine Za (ι:=Int × Hist) (fun j=> Z6B y1 l now.kind now.words now.kids done j.1 j.2.now.kind j.2.now.words j.2.now.kids j.2.done j.2.gone)
  (fun j=> (0<=j.1/\j.1<=done.length)/\Mid (Z3 y1) now done (done.length - j.1.toNat) j.2)
  (fun j=> ((done.length:Int) - j.1).toNat) (0,⟨now,done,[]⟩) rfl ⟨⟨by dsimp only;omega,by dsimp only;omega⟩,⟨[],by simp,rfl,.nil hst⟩,hP,by simp⟩ ?_
 rintro ⟨j,H⟩ ⟨⟨j0,j1⟩,hM⟩
 dsimp only at j0 j1 hM
 refine ZnL _ _ _ _ _ _ _ _ _ _ _ _ _ _ ?_
 rintro w1 rfl w2 hw2 w3 hw3 w4 hw4 w5 rfl
 dsimp only at hw2 hw3 hw4 ⊢
 rw [ev] at hw2 hw3 hw4
 have evH:Hist.mk H.now H.done H.gone=H:=by cases H;rfl
 rw [evH] at hw4
 subst w2
 subst w3
 subst w4
 (simp only [Tree.eta,Edit.eta,Tree.kind_mk,Tree.words_mk,Tree.kids_mk])
 rw [evH]
 (simp only [vcT,vcS])
 refine ⟨fun hc=> ?_,fun hc=> ?_⟩
 ·have hn:done.length - j.toNat=(done.length - (j+1).toNat)+1:=by omega
  rw [hn] at hM
  obtain ⟨u1,u2⟩:=hM.undo
  refine ⟨hM.pre44 hl,fun hu=> ?_,fun _=> ⟨by unfold InR;omega,(j+1,(YH H).1),rfl,⟨⟨by dsimp only;omega,by dsimp only;omega⟩,u2⟩,by dsimp only;omega⟩⟩
  rw [u1] at hu
  cases hu
 have hn:done.length - j.toNat=0:=by omega
 rw [hn] at hM
 obtain ⟨v1,v2⟩:=hM.undo0
 rw [v1]
 dsimp only
 have hms:=hM.p.st.2.m
 have hmt:=Z7p hf
 refine ⟨trivial,hM.pre44 hl,fun _=> by show Zm w1<=_;omega,fun _=> by show Zm H.now<=_;omega,fun hb=> ?_,fun _=> ?_⟩
 ·rw [v2,Z4Q] at hb
  rcases hb with hb | hb <;> cases hb
 refine Za (ι:=Int × Hist) (fun j=> Z6A w1 l now.kind now.words now.kids done j.1 j.2.now.kind j.2.now.words j.2.now.kids j.2.done j.2.gone)
  (fun j=> (0<=j.1/\j.1<=done.length)/\Mid (Z3 w1) now done j.1.toNat j.2)
  (fun j=> ((done.length:Int) - j.1).toNat) (0,H) rfl ⟨⟨by dsimp only;omega,by dsimp only;omega⟩,hM⟩ ?_
 rintro ⟨k,G⟩ ⟨⟨k0,k1⟩,hG⟩
 dsimp only at k0 k1 hG
 refine ZnK _ _ _ _ _ _ _ _ _ _ _ _ _ _ ?_
 rintro a1 ha1 a2 ha2 a3 ha3 a4 rfl
 dsimp only at ha1 ha2 ⊢
 rw [ev] at ha1 ha2
 have evG:Hist.mk G.now G.done G.gone=G:=by cases G;rfl
 rw [evG] at ha2
 subst a1
 subst a2
 (simp only [vcT,vcS])
 refine ⟨fun hc=> ?_,fun hc=> ?_⟩
 ·have hn:k.toNat+1=(k+1).toNat:=by omega
  obtain ⟨u1,u2⟩:=hG.redo (by omega)
  rw [hn] at u2
  refine ⟨hG.pre46 hl,fun hu=> ?_,fun _=> ⟨by unfold InR;omega,(k+1,(Yv G).1),rfl,⟨⟨by dsimp only;omega,by dsimp only;omega⟩,u2⟩,by dsimp only;omega⟩⟩
  rw [u1] at hu
  cases hu
 have hn:k.toNat=done.length:=by omega
 rw [hn] at hG
 obtain ⟨x1,x2⟩:=hG.redo0
 rw [x1] at ha3 ⊢
 dsimp only at ha3
 rw [x2] at ha3
 subst a4
 have hmn:=hG.p.st.2.m
 rw [x2] at hmn
 rw [Z4Q]
 exact ⟨hG.pre46 hl,fun _=> trivial,fun _=> by show Zm now<=_;omega,fun _=> trivial,Z0 rfl rfl⟩
end Go.AM.Ytpjenobkibfpcaa
