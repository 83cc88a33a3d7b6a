import Derived.Test.YtpjenobkibfpcaaGreatZCL41e
set_option linter.unusedSimpArgs false
set_option linter.unusedVariables false
namespace Go.AM.YtpjenobkibfpcaaGreat
open Go.AM Go.Proofs
noncomputable section
def Zlg(a:Int × Unit):V U:= .c (sU .op (JQ a.1) (.own (.r 0 0)))
def ZbF:Fs U:=fs Zu5 (fun a=> [ZpE a]) Zlg
def Zmt:ArgM (Op × Int × (Int × Unit) × (List Edit × Unit) × (Int × Int × List Int × List Tree × Int × List Int × List Tree × List WEdit × List Kid × Int × List Op × Unit) × (Int × Unit) × Unit):=(.cons (aEl .op) (.cons (Z0h .i64) (.obj 0 (.cons (ZiJ .i64) .nil) (.obj 1 (.cons (Zmg .edit 1 0) .nil) (.obj 2 (.cons (ZiJ .i64) (.cons (ZiJ .i64) (.cons (cSl .u64) (.cons (cSl .tree) (.cons (ZiJ .i64) (.cons (cSl .u64) (.cons (cSl .tree) (.cons (cSl .wedit) (.cons (cSl .kid) (.cons (ZiJ .i64) (.cons (cSl .op) .nil))))))))))) (.obj 3 (.cons (ZiJ .i64) .nil) .nil))))))
def ZdR(a:Op × Int × (Int × Unit) × (List Edit × Unit) × (Int × Int × List Int × List Tree × Int × List Int × List Tree × List WEdit × List Kid × Int × List Op × Unit) × (Int × Unit) × Unit):Prop:=(-10000000<=a.2.2.2.2.2.1.1/\a.2.2.2.2.2.1.1<=10000000)/\(-10000000<=a.2.1/\a.2.1<=10000000)/\(a.2.2.2.1.1).length<=100000000
def Zpm(a:Op × Int × (Int × Unit) × (List Edit × Unit) × (Int × Int × List Int × List Tree × Int × List Int × List Tree × List WEdit × List Kid × Int × List Op × Unit) × (Int × Unit) × Unit):V U:= .tup []
def Zl4(a:Op × Int × (Int × Unit) × (List Edit × Unit) × (Int × Int × List Int × List Tree × Int × List Int × List Tree × List WEdit × List Kid × Int × List Op × Unit) × (Int × Unit) × Unit):List (List (C U)):=[[ci a.2.2.1.1],[sU .edit (a.2.2.2.1.1++[Z1v a.2.2.2.2.1.2.2.2.2.2.2.2.2.2.1 a.2.2.1.1 a.1 (a.2.2.2.2.2.1.1 - a.2.1)]) (.own (.x 1 0))],[ci a.2.2.2.2.1.1,ci a.2.2.2.2.1.2.1,sU .u64 a.2.2.2.2.1.2.2.1 .unk,sU .tree a.2.2.2.2.1.2.2.2.1 .unk,ci a.2.2.2.2.1.2.2.2.2.1,sU .u64 a.2.2.2.2.1.2.2.2.2.2.1 .unk,sU .tree a.2.2.2.2.1.2.2.2.2.2.2.1 .unk,sU .wedit a.2.2.2.2.1.2.2.2.2.2.2.2.1 .unk,sU .kid a.2.2.2.2.1.2.2.2.2.2.2.2.2.1 .unk,ci a.2.2.2.2.1.2.2.2.2.2.2.2.2.2.1,sU .op a.2.2.2.2.1.2.2.2.2.2.2.2.2.2.2.1 .unk],[ci a.2.2.2.2.2.1.1]]
def Z8F:Fs U:=fsX Zmt (fun a=> [ZdR a]) Zpm Zl4
def ZeY(a:Edit × Unit):Prop:=Z0 a.1<=1000000/\∃ d,Z1 a.1 d=true
def Zly(a:Edit × Unit):Nat:=2*Z0 a.1+1
def Zac(a:Edit × Unit):V U:= .c (sU .edit (Zn a.1) .unk)
def ZgF:Fs U:=fs Zu2 (fun a=> [ZeY a]) Zac
def ZdT(a:Edit × Unit):Prop:=Edit.kind a.1=3/\Z0 a.1<=1000000/\∃ d,Z1 a.1 d=true
def Zhd(a:Edit × Unit):V U:= .c (sU .edit (ZN a.1.list a.1.ops 0 (Jp a.1.ops 0)) .unk)
def Zrw:Fs U:=fs Zu2 (fun a=> [ZdT a]) Zhd
abbrev ZLW(p:List Nat):=AW (Z3 Zqg) Tryz.f171 Zzl p
theorem ZJp(n:Int)(Q:QT)(h:(iB (n==0) ((Q .ret (L2 [(2,.c (.nils))] []))) ((Q .ret (L2 [(2,.c (sU .op ([(OpOf.mk 0 n [] (Edit.mk 0 (Tree.mk 0 [] []) (Tree.mk 0 [] []) [] [] 0 []))]) .full))] []))))):
  ZLW [] (L2 [pI 0 n] []) Q:=
 Eq.mpr V6 h
def ZEh(n:Int):Prop:=AW (Z3 Zqg) Tryz.f171 Zzl [] (Zm (Zu5.can (n,())) []) (EQ Tryz.f171 (Zlg (n,())) [])
theorem ZCi(hb:∀ (n:Int) (_:Unit),ZpE (n,())->ZEh n):CT 171 ZbF:=
 Z9 (l:=[]) Zo rfl trivial Zzl Tryz.func171 rfl rfl 1 (fun _=> rfl) V3 (fun ⟨n,_⟩=> hb n ())
def Zt6:List (FuncId × Fs U):=[(171,ZbF)]
def Zzb:Zj U:=lvk [([1,2,3,4,5,6],[6,((.x 0),[]),((.x 1),[]),((.x 2),[]),((.x 3),[])]),([1,3,4,5,8],[((.x 0),[]),((.x 1),[]),((.x 2),[]),((.x 3),[])]),([],[((.x 0),[]),((.x 1),[]),((.x 2),[]),((.x 3),[])])]
abbrev ZLX(p:List Nat):=AW (Z3 Zt6) Tryz.f170 Zzb p
theorem ZJq(o:Op)(g ah:Int)(out:List Edit)(ek eo:Int)(eow:List Int)(eok:List Tree)(en:Int)(enw:List Int)(enk:List Tree)(ew:List WEdit)(ec:List Kid)(li:Int)(eos:List Op)(bh:Int)(Q:QT)(h:∀ d,d=o->let z0:=Edit.mk 3 (Tree.mk 0 [] []) (Tree.mk 0 [] []) [] [] li (((JQ ah)++([d]))++(JQ (bh - g)));((ZpE (ah,()))/\(((JQ ah).length+([d]).length)*240<=140737488355328)/\((InR (bh - g))/\(ZpE ((bh - g),()))/\((((JQ ah)++([d])).length+(JQ (bh - g)).length)*240<=140737488355328)/\((out.length+([z0]).length)*200<=140737488355328)/\(Q .normal (L2 [] [(.x 0,[ci ah]),(.x 1,[sU .edit (out++([z0])) (.own (.x 1 0))]),(.x 2,[ci ek,ci eo,sU .u64 eow .unk,sU .tree eok .unk,ci en,sU .u64 enw .unk,sU .tree enk .unk,sU .wedit ew .unk,sU .kid ec .unk,ci li,sU .op eos .unk]),(.x 3,[ci bh])]))))):
  ZLX [] (L2 [(0,.agg (enc .op o)),pI 1 g,(2,.ptr (.x 0) 0),(3,.ptr (.x 1) 0),(4,.ptr (.x 2) 0),(5,.ptr (.x 3) 0)] [(.x 0,[ci ah]),(.x 1,[sU .edit out (.own (.x 1 0))]),(.x 2,[ci ek,ci eo,sU .u64 eow .unk,sU .tree eok .unk,ci en,sU .u64 enw .unk,sU .tree enk .unk,sU .wedit ew .unk,sU .kid ec .unk,ci li,sU .op eos .unk]),(.x 3,[ci bh])]) Q:=
 Eq.mpr V6 (h _ (Jt _))
def ZEi(o:Op)(g ah:Int)(out:List Edit)(ek eo:Int)(eow:List Int)(eok:List Tree)(en:Int)(enw:List Int)(enk:List Tree)(ew:List WEdit)(ec:List Kid)(li:Int)(eos:List Op)(bh:Int):Prop:=AW (Z3 Zt6) Tryz.f170 Zzb [] (Zm (Zmt.can (o,g,(ah,()),(out,()),(ek,eo,eow,eok,en,enw,enk,ew,ec,li,eos,()),(bh,()),())) (Zmt.canX (o,g,(ah,()),(out,()),(ek,eo,eow,eok,en,enw,enk,ew,ec,li,eos,()),(bh,()),()))) (EQ Tryz.f170 (Zpm (o,g,(ah,()),(out,()),(ek,eo,eow,eok,en,enw,enk,ew,ec,li,eos,()),(bh,()),())) (Zl4 (o,g,(ah,()),(out,()),(ek,eo,eow,eok,en,enw,enk,ew,ec,li,eos,()),(bh,()),())))
theorem ZCj(ZHi:CT 171 ZbF)(hb:∀ (o:Op) (g:Int) (ah:Int) (out:List Edit) (ek:Int) (eo:Int) (d:List Int) (aa:List Tree) (en:Int) (s:List Int) (h:List Tree) (ew:List WEdit) (ec:List Kid) (li:Int) (ab:List Op) (bh:Int) (_:Unit),ZdR (o,g,(ah,()),(out,()),(ek,eo,d,aa,en,s,h,ew,ec,li,ab,()),(bh,()),())->ZEi o g ah out ek eo d aa en s h ew ec li ab bh):CT 170 Z8F:=
 Z14 (l:=[(171,ZbF)]) Zo rfl (⟨ZHi,trivial⟩) Zzb Tryz.func170 rfl rfl 6 (fun _=> rfl) V3 (fun ⟨o,g,⟨ah,_⟩,⟨out,_⟩,⟨ek,eo,d,aa,en,s,h,ew,ec,li,ab,_⟩,⟨bh,_⟩,_⟩=> hb o g ah out ek eo d aa en s h ew ec li ab bh ())
def Zqi(N:Nat):List (FuncId × Fs U):=(73,fs Zu2 (fun a=> [ZeY a,Zly a < N]) Zac) ::(113,fs Zu2 (fun a=> [ZdT a,Zcp a < N]) Zhd) ::[(169,Z8G),(170,Z8F)]
def ZCI:Zj U:=lvk [([1],[1]),([1,3],[1]),([1,3,11],[1]),([1,3,11,12],[1]),([2],[]),([1,3,11,14],[1]),([1,(3,[.own .edit]),17,18,19],[1]),([1,3,17,18,19,20],[1]),([1,3,5,17,18,19],[1,5]),([1,3,17,18,19],[1]),([1,(3,[.own .edit]),17,18,19],[1]),([1,3,31,32,33],[1]),([1,3,31,32,33,34],[1]),([1,3,7,31,32,33],[1,7]),([1,(3,[.own .edit]),7,31,32,33,39,40,41],[1,7]),([1,3,7,31,32,33,39,40,41,42],[1,7]),([1,3,7,9,31,32,33,39,40,41],[1,7,9]),([1,3,7,31,32,33,39,40,41],[1,7]),([1,(3,[.own .edit]),7,31,32,33,39,40,41],[1,7]),([1,3,31,32,33],[1]),([1,3,56],[1]),([1,3],[1]),([1,3,62],[1]),([2],[]),([2],[])]
def ZcO(e:Edit)(d:Int)(h:List Edit):LSt U:=(L2 [pL 1,(3,.c (sU .edit h (.own (.e 3 0)))),(17,.c (sU .wedit e.words .unk)),pI 18 (e.words.length:Int),pI 19 d] [(.loc 1,(enc .edit e))])
def ZcN(e:Edit)(d:Int)(h:List Edit):LSt U:=(L2 [pL 1,(3,.c (sU .edit h (.own (.e 3 0)))),(31,.c (sU .kid e.kids .unk)),pI 32 (e.kids.length:Int),pI 33 d] [(.loc 1,(enc .edit e))])
def ZcM(e:Edit)(d h:Int)(s:List Edit):LSt U:=(L2 [pL 1,(3,.c (sU .edit s (.own (.e 3 0)))),pL 7,(31,.c (sU .kid e.kids .unk)),pI 32 (e.kids.length:Int),pI 33 d,(39,.c (sU .edit (Zn (Edit.mk (Edit.kind (KidOf.e (e.kids.getD d.toNat (KidOf.mk 0 Edit.nil)))) (Tree.mk (Tree.kind (Edit.old (KidOf.e (e.kids.getD d.toNat (KidOf.mk 0 Edit.nil))))) (Tree.words (Edit.old (KidOf.e (e.kids.getD d.toNat (KidOf.mk 0 Edit.nil))))) (Tree.kids (Edit.old (KidOf.e (e.kids.getD d.toNat (KidOf.mk 0 Edit.nil)))))) (Tree.mk (Tree.kind (Edit.new (KidOf.e (e.kids.getD d.toNat (KidOf.mk 0 Edit.nil))))) (Tree.words (Edit.new (KidOf.e (e.kids.getD d.toNat (KidOf.mk 0 Edit.nil))))) (Tree.kids (Edit.new (KidOf.e (e.kids.getD d.toNat (KidOf.mk 0 Edit.nil)))))) (Edit.words (KidOf.e (e.kids.getD d.toNat (KidOf.mk 0 Edit.nil)))) (Edit.kids (KidOf.e (e.kids.getD d.toNat (KidOf.mk 0 Edit.nil)))) (Edit.list (KidOf.e (e.kids.getD d.toNat (KidOf.mk 0 Edit.nil)))) (Edit.ops (KidOf.e (e.kids.getD d.toNat (KidOf.mk 0 Edit.nil)))))) .unk)),(40,.c (ci ((Zn (Edit.mk (Edit.kind (KidOf.e (e.kids.getD d.toNat (KidOf.mk 0 Edit.nil)))) (Tree.mk (Tree.kind (Edit.old (KidOf.e (e.kids.getD d.toNat (KidOf.mk 0 Edit.nil))))) (Tree.words (Edit.old (KidOf.e (e.kids.getD d.toNat (KidOf.mk 0 Edit.nil))))) (Tree.kids (Edit.old (KidOf.e (e.kids.getD d.toNat (KidOf.mk 0 Edit.nil)))))) (Tree.mk (Tree.kind (Edit.new (KidOf.e (e.kids.getD d.toNat (KidOf.mk 0 Edit.nil))))) (Tree.words (Edit.new (KidOf.e (e.kids.getD d.toNat (KidOf.mk 0 Edit.nil))))) (Tree.kids (Edit.new (KidOf.e (e.kids.getD d.toNat (KidOf.mk 0 Edit.nil)))))) (Edit.words (KidOf.e (e.kids.getD d.toNat (KidOf.mk 0 Edit.nil)))) (Edit.kids (KidOf.e (e.kids.getD d.toNat (KidOf.mk 0 Edit.nil)))) (Edit.list (KidOf.e (e.kids.getD d.toNat (KidOf.mk 0 Edit.nil)))) (Edit.ops (KidOf.e (e.kids.getD d.toNat (KidOf.mk 0 Edit.nil)))))).length:Int))),pI 41 h] [(.loc 1,(enc .edit e)),(.loc 7,(enc .kid (e.kids.getD d.toNat (KidOf.mk 0 Edit.nil))))])
abbrev A73(N:Nat)(p:List Nat):=AW (Z3 (Zqi N)) Tryz.f73 ZCI p
abbrev S73(N:Nat)(p:List Nat):=SW (Z3 (Zqi N)) Tryz.f73 ZCI p
theorem ZKR(N:Nat)(e:Edit)(Q:QT)(h:∀ d,d=e->∀ s,s=(ZN d.list d.ops 0 (Jp d.ops 0))->let z1:=(Q .ret (L2 [(2,.c (.nils))] []));let z0:=(Q .ret (L2 [(2,.c (sU .edit ([d]) .full))] []));(iB (e.kind==0) z1 ((iB (e.kind==2) ((Zi (A73 N [1,1,0,1,0,1,1,1,0,0,1,0,0]) (ZcO e 0 []) (xB 1 (S73 N [1,1,0,1,0,1,1,1,0,1] (xB 0 (S73 N [1,1,1] Q)))))) ((iB (e.kind==3) ((ZdT (d,()))/\(Zcp (d,()) < N)/\(iB (((s.length:Int):Int)==0) z0 ((Q .ret (L2 [(2,.c (sU .edit s .unk))] []))))) ((iB ((0:Int)==0) z0 z1)))))))):
  A73 N [] (L2 [(0,.agg (enc .edit e))] []) Q:=
 Eq.mpr V6 (h _ (Z5 _) _ rfl)
theorem ZBg(N:Nat)(e:Edit)(d:Int)(s:List Edit)(N0:NT)(Q:QT)(h:let z1:=e.words.getD d.toNat (WEdit.mk 0 0 0 0);let z0:=Edit.mk 2 (Tree.mk 0 [] []) (Tree.mk 0 [] []) ([(WEdit.mk (WEdit.at_ z1) (WEdit.mask z1) (WEdit.old z1) (WEdit.new z1))]) [] 0 [];(iB (decide (d < (e.words.length:Int))) (((0:Int)<=d/\d < (e.words.length:Int))/\(((s.length+([z0]).length)*200<=140737488355328)/\((InR (d+1))/\(N0 (ZcO e (d+1) (s++([z0]))))))) ((Zi (A73 N [1,1,0,1,0,1,1,1,0,1,1,0,0]) (ZcN e 0 s) (xB 3 (xB 0 (S73 N [1,1,1] Q))))))):
  A73 N [1,1,0,1,0,1,1,1,0,0,1,0,0] (ZcO e d s) (xT N0 (xB 1 (S73 N [1,1,0,1,0,1,1,1,0,1] (xB 0 (S73 N [1,1,1] Q))))):=
 Eq.mpr V6 h
theorem ZBf(N:Nat)(e:Edit)(d:Int)(s:List Edit)(N1:NT)(Q:QT)(h:∀ ab,ab=e->∀ aa,aa=(KidOf.e (e.kids.getD d.toNat (KidOf.mk 0 Edit.nil)))->(iB (decide (d < (e.kids.length:Int))) (((0:Int)<=d/\d < (e.kids.length:Int))/\((ZeY (aa,()))/\(Zly (aa,()) < N)/\(Zi (A73 N [1,1,0,1,0,1,1,1,0,1,1,0,0,1,1,0,0,1,1,0,0]) (ZcM e d 0 s) (xB 5 (xB 4 (S73 N [1,1,0,1,0,1,1,1,0,1,1,0,0,1,1,1] (xT N1 (xB 3 (xB 0 (S73 N [1,1,1] Q)))))))))) ((iB (((s.length:Int):Int)==0) ((Q .ret (L2 [(2,.c (sU .edit ([ab]) .full))] []))) ((Q .ret (L2 [(2,.c (sU .edit s (.own (.e 2 0))))] []))))))):
  A73 N [1,1,0,1,0,1,1,1,0,1,1,0,0] (ZcN e d s) (xT N1 (xB 3 (xB 0 (S73 N [1,1,1] Q)))):=
 Eq.mpr V6 (h _ (Z5 _) _ (Z5 _))
theorem ZBe(N:Nat)(e:Edit)(s d:Int)(aa:List Edit)(N2 N1:NT)(Q:QT)(h:∀ ae,ae=(e.kids.getD s.toNat (KidOf.mk 0 Edit.nil))->∀ ab,ab=(ae.e)->∀ af,af=(List.getD (Zn ab) d.toNat Edit.nil)->let z0:=Edit.mk 2 (Tree.mk 0 [] []) (Tree.mk 0 [] []) [] ([(KidOf.mk ae.at_ af)]) 0 [];(iB (decide (d < ((Zn ab).length:Int))) (((0:Int)<=d/\d < ((Zn ab).length:Int))/\(((aa.length+([z0]).length)*200<=140737488355328)/\((InR (d+1))/\(N2 (ZcM e s (d+1) (aa++([z0]))))))) ((InR (s+1))/\(N1 (ZcN e (s+1) aa))))):
  A73 N [1,1,0,1,0,1,1,1,0,1,1,0,0,1,1,0,0,1,1,0,0] (ZcM e s d aa) (xT N2 (xB 5 (xB 4 (S73 N [1,1,0,1,0,1,1,1,0,1,1,0,0,1,1,1] (xT N1 (xB 3 (xB 0 (S73 N [1,1,1] Q)))))))):=
 Eq.mpr V6 (h _ rfl _ (Z5 _) _ (Z5 _))
def ZIa(N:Nat)(e:Edit):Prop:=AW (Z3 (Zqi N)) Tryz.f73 ZCI [] (Zm (Zu2.can (e,())) []) (EQ Tryz.f73 (Zac (e,())) [])
abbrev ZKB:Prop:=∀ (N:Nat) (e:Edit) (_:Unit),ZeY (e,())->Zly (e,()) < N+1->ZIa N e
def ZsG:Zj U:=lvk [([1],[1]),([1,3],[1,3]),([1,3,4],[1,3,4]),([1,3,4,5],[1,3,4,5]),([1,3,4,5,7],[1,3,4,5]),([3,4,5,7,19,20,21],[1,((.loc 3),[.own .edit]),4,5]),([3,4,5,7,19,20,21,22],[1,3,4,5]),([3,4,5,7,9,19,20,21],[1,3,4,5,9]),([3,4,5,7,9,19,20,21,26],[1,3,4,5,9]),([3,4,5,7,19,20,21,29,30,31],[1,((.loc 3),[.own .edit]),4,5]),([3,4,5,7,19,20,21,29,30,31,32],[1,3,4,5]),([3,4,5,7,11,19,20,21,29,30,31],[1,3,4,5,11]),([3,4,5,7,19,20,21,29,30,31],[1,3,4,5]),([3,4,5,7,19,20,21,29,30,31],[1,((.loc 3),[.own .edit]),4,5]),([3,4,5,7,19,20,21],[1,3,4,5]),([3,4,5,7,9,19,20,21,26,44],[1,3,4,5,9]),([3,4,5,7,19,20,21],[1,((.loc 3),[.own .edit]),4,5]),([3,4,5,7,9,19,20,21,26,54],[1,3,4,5,9]),([3,4,5,7,9,19,20,21],[1,3,4,5,9]),([3,4,5,7,19,20,21],[1,((.loc 3),[.own .edit]),4,5]),([3,4,5,7,9,19,20,21,67],[1,3,4,5,9]),([3,4,5,7,9,19,20,21],[1,3,4,5,9]),([3,4,5,7,19,20,21],[1,((.loc 3),[.own .edit]),4,5]),([3,4,5,7,19,20,21],[1,((.loc 3),[.own .edit]),4,5]),([2],[])]
def Z9M(e:Edit)(aq ao h s al:Int)(aa:List Int)(aj:List Tree)(ab:Int)(ai:List Int)(ae:List Tree)(ak:List WEdit)(ah:List Kid)(af:Int)(d:List Op)(am:List Edit):LSt U:=(L2 [pL 3,pL 4,pL 5,(7,.clo 170 [(.loc 4),(.loc 3),(.loc 1),(.loc 5)]),(19,.c (sU .op e.ops .unk)),pI 20 (e.ops.length:Int),pI 21 aq] [(.loc 1,[ci s,ci al,sU .u64 aa .unk,sU .tree aj .unk,ci ab,sU .u64 ai .unk,sU .tree ae .unk,sU .wedit ak .unk,sU .kid ah .unk,ci af,sU .op d .unk]),(.loc 3,[sU .edit am (.own (.l 3 0))]),(.loc 4,[ci ao]),(.loc 5,[ci h])])
def Z64(e:Edit)(aq s ai:Int)(al:List Int)(af:List Tree)(ah:Int)(ao:List Int)(ae:List Tree)(aj:List WEdit)(ab:List Kid)(h:Int)(d:List Op)(aa ak:Int)(am:List Edit):LSt U:=(L2 [pL 3,pL 4,pL 5,(7,.clo 170 [(.loc 4),(.loc 3),(.loc 1),(.loc 5)]),(19,.c (sU .op e.ops .unk)),pI 20 (e.ops.length:Int),pI 21 aq] [(.loc 1,[ci s,ci ai,sU .u64 al .unk,sU .tree af .unk,ci ah,sU .u64 ao .unk,sU .tree ae .unk,sU .wedit aj .unk,sU .kid ab .unk,ci h,sU .op d .unk]),(.loc 3,[sU .edit am (.own (.l 3 0))]),(.loc 4,[ci aa]),(.loc 5,[ci ak])])
def Z9L(e:Edit)(d ar aq ai am:Int)(s:List Int)(ah:List Tree)(ae:Int)(af:List Int)(aj:List Tree)(ak:List WEdit)(ab:List Kid)(aa:Int)(h:List Op)(ao:Int)(al:List Edit):LSt U:=(L2 [pL 3,pL 4,pL 5,(7,.clo 170 [(.loc 4),(.loc 3),(.loc 1),(.loc 5)]),(19,.c (sU .op e.ops .unk)),pI 20 (e.ops.length:Int),pI 21 d,(29,.c (sU .edit (Zn (Edit.mk (Edit.kind (OpOf.e (e.ops.getD d.toNat Op.nil))) (Tree.mk (Tree.kind (Edit.old (OpOf.e (e.ops.getD d.toNat Op.nil)))) (Tree.words (Edit.old (OpOf.e (e.ops.getD d.toNat Op.nil)))) (Tree.kids (Edit.old (OpOf.e (e.ops.getD d.toNat Op.nil))))) (Tree.mk (Tree.kind (Edit.new (OpOf.e (e.ops.getD d.toNat Op.nil)))) (Tree.words (Edit.new (OpOf.e (e.ops.getD d.toNat Op.nil)))) (Tree.kids (Edit.new (OpOf.e (e.ops.getD d.toNat Op.nil))))) (Edit.words (OpOf.e (e.ops.getD d.toNat Op.nil))) (Edit.kids (OpOf.e (e.ops.getD d.toNat Op.nil))) (Edit.list (OpOf.e (e.ops.getD d.toNat Op.nil))) (Edit.ops (OpOf.e (e.ops.getD d.toNat Op.nil))))) .unk)),(30,.c (ci ((Zn (Edit.mk (Edit.kind (OpOf.e (e.ops.getD d.toNat Op.nil))) (Tree.mk (Tree.kind (Edit.old (OpOf.e (e.ops.getD d.toNat Op.nil)))) (Tree.words (Edit.old (OpOf.e (e.ops.getD d.toNat Op.nil)))) (Tree.kids (Edit.old (OpOf.e (e.ops.getD d.toNat Op.nil))))) (Tree.mk (Tree.kind (Edit.new (OpOf.e (e.ops.getD d.toNat Op.nil)))) (Tree.words (Edit.new (OpOf.e (e.ops.getD d.toNat Op.nil)))) (Tree.kids (Edit.new (OpOf.e (e.ops.getD d.toNat Op.nil))))) (Edit.words (OpOf.e (e.ops.getD d.toNat Op.nil))) (Edit.kids (OpOf.e (e.ops.getD d.toNat Op.nil))) (Edit.list (OpOf.e (e.ops.getD d.toNat Op.nil))) (Edit.ops (OpOf.e (e.ops.getD d.toNat Op.nil))))).length:Int))),pI 31 aq] [(.loc 1,[ci ai,ci am,sU .u64 s .unk,sU .tree ah .unk,ci ae,sU .u64 af .unk,sU .tree aj .unk,sU .wedit ak .unk,sU .kid ab .unk,ci aa,sU .op h .unk]),(.loc 3,[sU .edit al (.own (.l 3 0))]),(.loc 4,[ci ar]),(.loc 5,[ci ao])])
abbrev Zjc(N:Nat)(p:List Nat):=AW (Z3 (Zqi N)) Tryz.f113 ZsG p
abbrev Zja(N:Nat)(p:List Nat):=SW (Z3 (Zqi N)) Tryz.f113 ZsG p
theorem ZJP(N:Nat)(e:Edit)(Q:QT)(h:let z0:=Edit.mk e.kind (Tree.mk e.old.kind e.old.words e.old.kids) (Tree.mk e.new.kind e.new.words e.new.kids) e.words e.kids e.list e.ops;((ZaR (z0,()))/\(Zi (Zjc N [1,1,1,1,1,0,1,0,0]) (Z9M e 0 0 (Z38 (Edit.ops z0) 0) e.kind e.old.kind e.old.words e.old.kids e.new.kind e.new.words e.new.kids e.words e.kids e.list e.ops []) (xB 0 (Zja N [1,1,1,1,1,1] Q))))):
  Zjc N [] (L2 [(0,.agg (enc .edit e))] []) Q:=
 Eq.mpr V6 h
theorem Zx8(N:Nat)(e:Edit)(au s d ah ar:Int)(ai:List Int)(ao:List Tree)(aj:Int)(am:List Int)(ak:List Tree)(aq:List WEdit)(al:List Kid)(aa:Int)(ab:List Op)(ae:List Edit)(N0:NT)(Q:QT)(h:∀ af,af=(e.ops.getD au.toNat Op.nil)->∀ av,av=af->∀ aw,aw=(af.e)->let z0:=xT N0 (xB 0 (Zja N [1,1,1,1,1,1] Q));(iB (decide (au < (e.ops.length:Int))) (((0:Int)<=au/\au < (e.ops.length:Int))/\(iB (af.kind==0) ((InR (s+af.n))/\(InR (d - af.n))/\(Zjc N [1,1,1,1,1,0,1,0,0,1,1,1] (Z64 e au ah ar ai ao aj am ak aq al aa ab (s+af.n) (d - af.n) ae) z0)) ((iB (af.kind==1) ((ZdR (av,(af.l.length:Int),(s,()),(ae,()),(ah,ar,ai,ao,aj,am,ak,aq,al,aa,ab,()),(d,()),()))/\((InR (d - (af.l.length:Int)))/\(Zjc N [1,1,1,1,1,0,1,0,0,1,1,1] (Z64 e au ah ar ai ao aj am ak aq al aa ab s (d - (af.l.length:Int)) (ae++[Z1v aa s av (d - (af.l.length:Int))])) z0))) ((iB (af.kind==2) ((ZdR (av,0,(s,()),(ae,()),(ah,ar,ai,ao,aj,am,ak,aq,al,aa,ab,()),(d,()),()))/\((InR (s+(af.l.length:Int)))/\(Zjc N [1,1,1,1,1,0,1,0,0,1,1,1] (Z64 e au ah ar ai ao aj am ak aq al aa ab (s+(af.l.length:Int)) d (ae++[Z1v aa s av (d - 0)])) z0))) ((ZeY (aw,()))/\(Zly (aw,()) < N)/\(Zi (Zjc N [1,1,1,1,1,0,1,0,0,1,1,0,0,1,1,0,1,1,1,1,1,1,0,1,0,0]) (Z9L e au s 0 ah ar ai ao aj am ak aq al aa ab d ae) (xB 3 (Zja N [1,1,1,1,1,0,1,0,0,1,1,0,0,1,1,0,1,1,1,1,1,1,1] (xB 2 (xB 1 (Zja N [1,1,1,1,1,0,1,0,0,1,1,1] z0))))))))))))) ((Q .ret (L2 [(2,.c (sU .edit ae (.own (.e 2 0))))] []))))):
  Zjc N [1,1,1,1,1,0,1,0,0] (Z9M e au s d ah ar ai ao aj am ak aq al aa ab ae) (xT N0 (xB 0 (Zja N [1,1,1,1,1,1] Q))):=
 Eq.mpr V6 (h _ rfl _ (Jt _) _ (Z5 _))
theorem Zbo(N:Nat)(e:Edit)(ar aa aj:Int)(am:List Int)(ah:List Tree)(ai:Int)(aq:List Int)(af:List Tree)(ak:List WEdit)(ae:List Kid)(s:Int)(d:List Op)(ab al:Int)(ao:List Edit)(N0:NT)(Q:QT)(h:(InR (ar+1))/\(N0 (Z9M e (ar+1) ab al aa aj am ah ai aq af ak ae s d ao))):
  Zjc N [1,1,1,1,1,0,1,0,0,1,1,1] (Z64 e ar aa aj am ah ai aq af ak ae s d ab al ao) (xT N0 (xB 0 (Zja N [1,1,1,1,1,1] Q))):=
 Eq.mpr V6 h
theorem Zx7(N:Nat)(e:Edit)(av ar ab ae af:Int)(al:List Int)(aq:List Tree)(ai:Int)(am:List Int)(aj:List Tree)(ak:List WEdit)(ah:List Kid)(s:Int)(aa:List Op)(d:Int)(ao:List Edit)(N2 N0:NT)(Q:QT)(h:∀ ax,ax=(e.ops.getD av.toNat Op.nil)->∀ au,au=(ax.e)->∀ aw,aw=(List.getD (Zn au) ab.toNat Edit.nil)->(iB (decide (ab < ((Zn au).length:Int))) (((0:Int)<=ab/\ab < ((Zn au).length:Int))/\((ZdR ((OpOf.mk 3 0 [] aw),1,(ar,()),(ao,()),(ae,af,al,aq,ai,am,aj,ak,ah,s,aa,()),(d,()),()))/\((InR (ab+1))/\(N2 (Z9L e av ar (ab+1) ae af al aq ai am aj ak ah s aa d (ao++[Z1v s ar (OpOf.mk 3 0 [] aw) (d - 1)])))))) ((InR (ar+1))/\(InR (d - 1))/\(Zjc N [1,1,1,1,1,0,1,0,0,1,1,1] (Z64 e av ae af al aq ai am aj ak ah s aa (ar+1) (d - 1) ao) (xT N0 (xB 0 (Zja N [1,1,1,1,1,1] Q))))))):
  Zjc N [1,1,1,1,1,0,1,0,0,1,1,0,0,1,1,0,1,1,1,1,1,1,0,1,0,0] (Z9L e av ar ab ae af al aq ai am aj ak ah s aa d ao) (xT N2 (xB 3 (Zja N [1,1,1,1,1,0,1,0,0,1,1,0,0,1,1,0,1,1,1,1,1,1,1] (xB 2 (xB 1 (Zja N [1,1,1,1,1,0,1,0,0,1,1,1] (xT N0 (xB 0 (Zja N [1,1,1,1,1,1] Q))))))))):=
 Eq.mpr V6 (h _ rfl _ (Z5 _) _ (Z5 _))
def ZEH(N:Nat)(e:Edit):Prop:=AW (Z3 (Zqi N)) Tryz.f113 ZsG [] (Zm (Zu2.can (e,())) []) (EQ Tryz.f113 (Zhd (e,())) [])
abbrev ZFG:Prop:=∀ (N:Nat) (e:Edit) (_:Unit),ZdT (e,())->Zcp (e,()) < N+1->ZEH N e
theorem Zq0(ZHk:CT 169 Z8G)(ZHj:CT 170 Z8F)(ha:ZKB)(hb:ZFG):CT 73 ZgF/\CT 113 Zrw:=
 Z1z (μA:=Zly) (μB:=Zcp) (l:=[(169,Z8G),(170,Z8F)]) Zo rfl (⟨ZHk,ZHj,trivial⟩) ZCI ZsG Tryz.func73 Tryz.func113 rfl rfl rfl rfl 1 1 (fun _=> rfl) (fun _=> rfl) V3 V3 (fun N ⟨e,_⟩=> ha N e ()) (fun N ⟨e,_⟩=> hb N e ())
end
noncomputable section
def ZxJ(a:Edit × Unit):V U:= .c (sU .edit (Zn (Zp a.1)) .unk)
def Z7u:Fs U:=fs Zu2 (fun a=> [ZeY a]) ZxJ
def ZAE:ArgL (List Edit × Unit):=(.cons (aSl .edit) .nil)
def ZjN(a:List Edit × Unit):Prop:=(∀ x∈a.1,YT x)/\ctL a.1<=8000000000
def ZrU(a:List Edit × Unit):V U:= .tup [(true,(enc .edit ((Z0A a.1).1))),(false,[.bool ((Z0A a.1).2)])]
def Z7w:Fs U:=fs ZAE (fun a=> [ZjN a]) ZrU
def ZxG(a:Int × Unit):V U:= .c (sU .tree ([Tree.mk 10 [a.1] []]) .unk)
def ZgI:Fs U:=fs ZtN (fun a=> [ZpE a]) ZxG
def ZAF:ArgL Unit:= .nil
def ZjO(a:Unit):Prop:=True
def ZEY(a:Unit):V U:= .c (.bool true)
def ZgR:Fs U:=fs ZAF (fun a=> [ZjO a]) ZEY
def Zs7(a:Tree × Unit):Prop:=Z0R a.1/\rng a.1
def ZEX(a:Tree × Unit):V U:= .c (.bool (Zir a.1))
def ZgO:Fs U:=fs ZAz (fun a=> [Zs7 a]) ZEX
def ZzK:List (FuncId × Fs U):=[(67,Z24),(73,ZgF)]
abbrev A24(p:List Nat):=AW (Z3 ZzK) Tryz.f24 ZGI p
theorem ZL6(e:Edit)(Q:QT)(h:∀ s,s=e->∀ d,d=(Zp s)->((Z4f (s,()))/\(ZeY (d,()))/\(Q .ret (L2 [(2,.c (sU .edit (Zn d) .unk))] [])))):
  A24 [] (L2 [(0,.agg (enc .edit e))] []) Q:=
 Eq.mpr V6 (h _ (Z5 _) _ (Z5 _))
def ZIp(e:Edit):Prop:=AW (Z3 ZzK) Tryz.f24 ZGI [] (Zm (Zu2.can (e,())) []) (EQ Tryz.f24 (ZxJ (e,())) [])
theorem ZGt(c67:CT 67 Z24)(c73:CT 73 ZgF)(hb:∀ (e:Edit) (_:Unit),ZeY (e,())->ZIp e):CT 24 Z7u:=
 Z9 (l:=[(67,Z24),(73,ZgF)]) Zo rfl (⟨c67,c73,trivial⟩) ZGI Tryz.func24 rfl rfl 1 (fun _=> rfl) V3 (fun ⟨e,_⟩=> hb e ())
def Zqq:List (FuncId × Fs U):=[(71,ZgH),(67,Z24)]
def ZCQ:Zj U:=lvk [([0,2],[2]),([0,2,4],[2,4]),([2,4,10,11,12],[2,((.loc 4),[.any,.any,.unk .u64,.unk .tree,.any,.unk .u64,.unk .tree,.unk .wedit,.unk .kid,.any,.unk .op])]),([2,4,10,11,12,13],[2,4]),([2,4,6,10,11,12],[2,4,6]),([2,4,7,8,10,11,12],[2,4,7]),([2,4,7,10,11,12,23],[2,4,7]),([2,3],[2]),([2,4,10,11,12],[2,4]),([2,4,10,11,12],[2,((.loc 4),[.any,.any,.unk .u64,.unk .tree,.any,.unk .u64,.unk .tree,.unk .wedit,.unk .kid,.any,.unk .op])]),([2,3],[2])]
def Zd1(l:List Edit)(al ak h ab ai:Int)(s:List Int)(ah:List Tree)(ae:List Int)(aa:List Tree)(af:List WEdit)(aj:List Kid)(d:List Op):LSt U:=(L2 [pL 2,pL 4,(10,.c (sU .edit l .unk)),pI 11 (l.length:Int),pI 12 al] [(.loc 2,zc1),(.loc 4,[ci ak,ci h,sU .u64 s .unk,sU .tree ah .unk,ci ab,sU .u64 ae .unk,sU .tree aa .unk,sU .wedit af .unk,sU .kid aj .unk,ci ai,sU .op d .unk])])
abbrev A20(p:List Nat):=AW (Z3 Zqq) Tryz.f20 ZCQ p
abbrev S20(p:List Nat):=SW (Z3 Zqq) Tryz.f20 ZCQ p
theorem ZLa(l:List Edit)(Q:QT)(h:(Zi (A20 [1,1,0,1,0,0]) (Zd1 l 0 0 0 0 0 [] [] [] [] [] [] []) (xB 0 (S20 [1,1,1] Q)))):
  A20 [] (L2 [(0,.c (sU .edit l .unk))] []) Q:=
 Eq.mpr V6 h
theorem ZBv(l:List Edit)(aa aq ae ai am:Int)(af:List Int)(al:List Tree)(aj:List Int)(ah:List Tree)(ak:List WEdit)(ao:List Kid)(ab:List Op)(N0:NT)(Q:QT)(h:∀ ar,ar=(l.getD aa.toNat Edit.nil)->∀ d,d=(Edit.mk aq (Tree.mk ae af al) (Tree.mk ai aj ah) ak ao am ab)->∀ s,s=ar->let z1:=Edit.new ((Z1A d s).1);let z0:=Edit.old ((Z1A d s).1);(iB (decide (aa < (l.length:Int))) (((0:Int)<=aa/\aa < (l.length:Int))/\((Z34 (d,s,()))/\(iB (!((Z1A d s).2)) ((Q .ret (L2 [pL 2,pB 3 false] [(.loc 2,zc1)]))) (((InR (aa+1))/\(N0 (Zd1 l (aa+1) (Edit.kind ((Z1A d s).1)) (Tree.kind z0) (Tree.kind z1) (Edit.list ((Z1A d s).1)) (Tree.words z0) (Tree.kids z0) (Tree.words z1) (Tree.kids z1) (Edit.words ((Z1A d s).1)) (Edit.kids ((Z1A d s).1)) (Edit.ops ((Z1A d s).1))))))))) ((Z4f (d,()))/\(Q .ret (L2 [pL 2,pB 3 true] [(.loc 2,(enc .edit (Zp d)))]))))):
  A20 [1,1,0,1,0,0] (Zd1 l aa aq ae ai am af al aj ah ak ao ab) (xT N0 (xB 0 (S20 [1,1,1] Q))):=
 Eq.mpr V6 (h _ rfl _ rfl _ (Z5 _))
def ZIt(l:List Edit):Prop:=AW (Z3 Zqq) Tryz.f20 ZCQ [] (Zm (ZAE.can (l,())) []) (EQ Tryz.f20 (ZrU (l,())) [])
theorem ZGx(c71:CT 71 ZgH)(c67:CT 67 Z24)(hb:∀ (l:List Edit) (_:Unit),ZjN (l,())->ZIt l):CT 20 Z7w:=
 Z9 (l:=[(71,ZgH),(67,Z24)]) Zo rfl (⟨c71,c67,trivial⟩) ZCQ Tryz.func20 rfl rfl 1 (fun _=> rfl) V3 (fun ⟨l,_⟩=> hb l ())
def ZGG:Zj U:=lvl [([0],[]),([2],[])]
abbrev A70(p:List Nat):=AW (Z3 Zqg) Tryz.f70 ZGG p
theorem ZKU(n:Int)(Q:QT)(h:(Q .ret (L2 [(2,.c (sU .tree ([(Tree.mk 10 ([n]) [])]) .full))] []))):
  A70 [] (L2 [(0,.c (.int .u64 n))] []) Q:=
 Eq.mpr V6 h
def ZId(n:Int):Prop:=AW (Z3 Zqg) Tryz.f70 ZGG [] (Zm (ZtN.can (n,())) []) (EQ Tryz.f70 (ZxG (n,())) [])
theorem ZGk(hb:∀ (n:Int) (_:Unit),ZpE (n,())->ZId n):CT 70 ZgI:=
 Z9 (l:=[]) Zo rfl trivial ZGG Tryz.func70 rfl rfl 1 (fun _=> rfl) V3 (fun ⟨n,_⟩=> hb n ())
def ZzM:List (FuncId × Fs U):=[(24,Z7u),(70,ZgI),(20,Z7w)]
def ZGM:Zj U:=lvl [([],[]),([1],[]),([2],[]),([2,3,4],[3]),([0],[])]
abbrev A19(p:List Nat):=AW (Z3 ZzM) Tryz.f19 ZGM p
theorem ZLb(Q:QT)(h:∀ s,s=(Edit.mk 0 (Tree.mk 0 [] []) (Tree.mk 0 [] []) [] [] 0 [])->∀ d,d=(Edit.mk 3 (Tree.mk 0 [] []) (Tree.mk 0 [] []) [] [] 4 ([(OpOf.mk 1 0 ([Tree.mk 10 [1] []]) s),(OpOf.mk 0 1 [] s),(OpOf.mk 2 0 ([Tree.mk 10 [2] []]) s)]))->∀ ae,ae=(List.getD (Zn (Zp d)) (Int.toNat 0) Edit.nil)->∀ aa,aa=(List.getD (Zn (Zp d)) (Int.toNat 1) Edit.nil)->∀ ab,ab=(List.getD aa.ops (Int.toNat 0) Op.nil)->let z3:=Zn (Zp d);let z5:=Edit.ops ((Z0A z3).1);let z2:=bif ((Z0A z3).2) then (((z3.length:Int):Int)==2) else false;let z0:=bif z2 then (((ae.ops.length:Int):Int)==2) else false;let z4:=bif z0 then (ab.n==1) else false;let z1:=bif z4 then (((z5.length:Int):Int)==3) else false;((ZpE (1,()))/\(ZpE (2,()))/\(ZeY (d,()))/\((ZjN (z3,()))/\((Tt ((Z0A z3).2))/\(Tt ((Z0A z3).2))/\(Tt ((Z0A z3).2))/\(Tt z2)/\(z2=true->(0:Int)<=0/\0 < (z3.length:Int))/\(Tt z2)/\(Tt z2)/\(Tt z2)/\(Tt z2)/\(Tt z2)/\(Tt z0)/\(z0=true->(0:Int)<=1/\1 < (z3.length:Int))/\(Tt z0)/\(Tt z0)/\(Tt z0)/\(z0=true->(0:Int)<=0/\0 < (aa.ops.length:Int))/\(Tt z0)/\(Tt z0)/\(Tt z0)/\(Tt z0)/\(Tt z4)/\(Tt z4)/\(Tt z4)/\(Tt z4)/\(Tt z1)/\(Tt z1)/\(z1=true->(0:Int)<=0/\0 < (z5.length:Int))/\(Tt z1)/\(Tt z1)/\(Tt z1)/\(Tt z1)/\(Q .ret (L2 [(0,.c (.bool (bif z1 then (((OpOf.kind (List.getD z5 (Int.toNat 0) Op.nil)):Int)==1) else false)))] [])))))):
  A19 [] (L2 [] []) Q:=
 Eq.mpr V6 (h _ rfl _ rfl _ rfl _ rfl _ rfl)
def ZIu:Prop:=AW (Z3 ZzM) Tryz.f19 ZGM [] (Zm (ZAF.can ()) []) (EQ Tryz.f19 (ZEY ()) [])
theorem ZGy(c24:CT 24 Z7u)(c70:CT 70 ZgI)(c20:CT 20 Z7w)(hb:∀ (_:Unit),ZjO ()->ZIu):CT 19 ZgR:=
 Z9 (l:=[(24,Z7u),(70,ZgI),(20,Z7w)]) Zo rfl (⟨c24,c70,c20,trivial⟩) ZGM Tryz.func19 rfl rfl 0 (fun _=> rfl) V3 (fun _=> hb ())
def ZzL:List (FuncId × Fs U):=[(30,ZgN),(31,Z6o)]
abbrev A23(p:List Nat):=AW (Z3 ZzL) Tryz.f23 ZGI p
theorem ZL7(t:Tree)(Q:QT)(h:let z2:=Tree.mk t.kind t.words t.kids;let z1:=decide (0<=ZT z2 80 3000);let z0:=bif z1 then (Zr z2 64) else false;((Zs6 (z2,()))/\(Tt z1)/\(z1=true->Z7J (z2,64,()))/\(Tt z1)/\(Tt z0)/\(Tt z0)/\(Tt z0)/\(Q .ret (L2 [(2,.c (.bool (bif z0 then (t.kind !=10) else false)))] [])))):
  A23 [] (L2 [(0,.agg (enc .tree t))] []) Q:=
 Eq.mpr V6 h
def ZIq(t:Tree):Prop:=AW (Z3 ZzL) Tryz.f23 ZGI [] (Zm (ZAz.can (t,())) []) (EQ Tryz.f23 (ZEX (t,())) [])
theorem ZGu(c30:CT 30 ZgN)(c31:CT 31 Z6o)(hb:∀ (t:Tree) (_:Unit),Zs7 (t,())->ZIq t):CT 23 ZgO:=
 Z9 (l:=[(30,ZgN),(31,Z6o)]) Zo rfl (⟨c30,c31,trivial⟩) ZGI Tryz.func23 rfl rfl 1 (fun _=> rfl) V3 (fun ⟨t,_⟩=> hb t ())
end
theorem ZHi:Contract Tryz.prog cfg 171 ZbF:=by
 refine ZCi ?_
 intro n _ _
 refine ZJp _ _ ?_
 (simp only [iB,vcT,vcS])
 refine ⟨fun h=> ?_,fun h=> ?_⟩
 .simp only [Zlg,JQ,if_pos h]
  exact V2
 .simp only [Zlg,JQ,if_neg h]
  exact V2
theorem ZHj:Contract Tryz.prog cfg 170 Z8F:=by
 refine ZCj ZHi ?_
 intro o g ah out ek eo ae ai en s d ew ec li aa bh _ h
 simp only [ZdR] at h
 refine ZJq _ _ _ _ _ _ _ _ _ _ _ _ _ _ _ _ _ ?_
 rintro y1 rfl
 (simp only [iB,vcT,vcS])
 have h1:=Z9d ah
 have h2:=Z9d (bh - g)
 refine ⟨trivial,by grind,V5,trivial,by grind,by grind,?_⟩
 simp only [Zpm,Zl4]
 exact V2
theorem Zuj{w:WEdit}:Edit.mk 2 (Tree.mk 0 [] []) (Tree.mk 0 [] []) [WEdit.mk w.at_ w.mask w.old w.new] [] 0 []=Z1o w:=by cases w;rfl
theorem b73:ZKB:=by
 intro N e _ hp hN
 simp only [ZeY,Zly] at hp hN
 obtain ⟨hm,d,hr⟩:=hp
 have ra:=Zd hr
 refine ZKR _ _ _ ?_
 rintro y1 rfl y2 am
 (simp only [iB,vcT,vcS])
 have hz:∀ k:Int,y1.kind=k->k≠0->Zn y1=if (YU y1).length=0 then [y1] else YU y1:=fun k h h0=> by rw [Z0G,Jv]
 refine ⟨fun h0=> ?_,fun h0=> ⟨fun h2=> ?_,fun h2=> ⟨fun h3=> ⟨⟨h3,hm,d,hr⟩,by simp only [Zcp];omega,fun hl=> ?_,fun hl=> ?_⟩,fun h3=> ⟨?_,fun h=> absurd trivial h⟩⟩⟩⟩
 .have:Zn y1=[]:=by rw [Z0G,if_pos h0]
  simp only [Zac,this]
  exact V2
 .have hR:YU y1=y1.words.map Z1o++Y4 y1.kids:=by unfold YU;rw [if_pos h2]
  have be:y1.kids.length<=Z0 y1:=by have:=Ym y1.kids;have:Z0 y1=1+Zq y1.old+Zq y1.new+y1.words.length+y1.ops.length+Zw y1.kids+Zg y1.ops:=(by cases y1;rfl);omega
  have bb:(YU y1).length<=1000000:=by
   have h4:=(Z4S y1).2
   rw [hz 2 h2 V3] at h4
   split at h4
   .omega
   .omega
  refine Z7 (ι:=Int × List Edit) (fun j=> ZcO y1 j.1 j.2) (fun j=> (0<=j.1/\j.1<=y1.words.length)/\j.2++(y1.words.drop j.1.toNat).map Z1o=y1.words.map Z1o) (fun j=> ((y1.words.length:Int) - j.1).toNat) (0,[]) rfl ⟨⟨V4,V4⟩,by simp⟩ ?_
  rintro ⟨i,out⟩ ⟨⟨i1,i2⟩,i3⟩
  dsimp only at i1 i2 i3
  refine ZBg _ _ _ _ _ _ ?_
  (simp only [iB,vcT,vcS])
  have ay:=congrArg List.length i3
  have a3:=congrArg List.length hR
  simp only [Q7,Qt] at ay a3
  refine ⟨fun hi=> ⟨⟨i1,hi⟩,by simp only [Q8,Qh];omega,V5,(i+1,out++[Z1o (y1.words.getD i.toNat ⟨0,0,0,0⟩)]),?_,⟨⟨V4,V4⟩,?_⟩,V4⟩,fun hi=> ?_⟩
  .dsimp only;rw [Zuj]
  .rw [ZS i1 hi ⟨0,0,0,0⟩,Qm] at i3
   dsimp only
   rw [Qc];exact i3
  .rw [Q6 V1,QJ,Qi] at i3
   refine Z7 (ι:=Int × List Edit) (fun j=> ZcN y1 j.1 j.2) (fun j=> (0<=j.1/\j.1<=y1.kids.length)/\j.2++Y4 (y1.kids.drop j.1.toNat)=YU y1) (fun j=> ((y1.kids.length:Int) - j.1).toNat) (0,out) rfl ⟨⟨V4,V4⟩,by rw [hR,<-i3];rfl⟩ ?_
   rintro ⟨k,out⟩ ⟨⟨k1,k2⟩,k3⟩
   dsimp only at k1 k2 k3
   refine ZBf _ _ _ _ _ _ ?_
   rintro s rfl z2 af
   (simp only [iB,vcT,vcS])
   refine ⟨fun hk=> ?_,fun hk=> ?_⟩
   .have aq:s.kids.getD k.toNat ⟨0,Edit.nil⟩∈s.kids:=Zh V1 _
    have a2:=ZF aq
    have au:=(Zk ra.kids _ aq).2
    rw [<-af] at a2 au
    have ao:Y4 (s.kids.drop k.toNat)=(Zn z2).map (Z7j (s.kids.getD k.toNat ⟨0,Edit.nil⟩).at_)++Y4 (s.kids.drop (k+1).toNat):=by
     rw [ZS k1 hk ⟨0,Edit.nil⟩,Y4,Z4R,<-af]
    refine ⟨⟨k1,hk⟩,⟨V4,_,au⟩,by simp only [Zly];omega,?_⟩
    refine Z7 (ι:=Int × List Edit) (fun j=> ZcM s k j.1 j.2) (fun j=> (0<=j.1/\j.1<=(Zn z2).length)/\j.2++((Zn z2).drop j.1.toNat).map (Z7j (s.kids.getD k.toNat ⟨0,Edit.nil⟩).at_)=out++(Zn z2).map (Z7j (s.kids.getD k.toNat ⟨0,Edit.nil⟩).at_)) (fun j=> (((Zn z2).length:Int) - j.1).toNat) (0,out) rfl ⟨⟨V4,V4⟩,by simp⟩ ?_
    rintro ⟨j,o2⟩ ⟨⟨j1,j2⟩,j3⟩
    dsimp only at j1 j2 j3
    refine ZBe _ _ _ _ _ _ _ _ ?_
    rintro x1 ah x2 a7 x3 ax
    have ex:x2=z2:=by rw [a7,af,ah]
    subst ex
    (simp only [iB,vcT,vcS])
    have a4:=congrArg List.length j3
    have al:=congrArg List.length k3
    rw [ao] at al
    simp only [Q7,Qt,Qv] at a4 al
    refine ⟨fun hj=> ⟨⟨j1,hj⟩,by simp only [Q8,Qh];omega,V5,(j+1,o2++[Z7j x1.at_ x3]),rfl,⟨⟨V4,V4⟩,?_⟩,V4⟩,fun hj=> ⟨V5,(k+1,o2),rfl,⟨⟨V4,V4⟩,?_⟩,V4⟩⟩
    .rw [ZS j1 hj Edit.nil,Qm,<-ax,<-ah] at j3
     dsimp only
     rw [Qc,<-ah];exact j3
    .rw [Q6 V1,QJ,Qi] at j3
     dsimp only
     rw [j3,Qc,<-ao];exact k3
   .rw [Q6 V1,Y4,Qi] at k3
    refine ⟨fun hl=> ?_,fun hl=> ?_⟩
    .have:Zn s=[s]:=by rw [hz 2 h2 V3,<-k3,V0]
     simp only [Zac,this]
     exact V2
    .have:Zn s=out:=by rw [hz 2 h2 V3,<-k3,Jv]
     simp only [Zac,this]
     exact V2
 .have hR:YU y1=y2:=by unfold YU;rw [if_neg h2,if_pos h3,am]
  have:Zn y1=[y1]:=by rw [hz 3 h3 V3,hR,V0]
  simp only [Zac,this]
  exact V2
 .have hR:YU y1=y2:=by unfold YU;rw [if_neg h2,if_pos h3,am]
  have:Zn y1=y2:=by rw [hz 3 h3 V3,hR,Jv]
  simp only [Zac,this]
  exact V2
 .have hR:YU y1=[]:=by unfold YU;rw [if_neg h2,if_neg h3]
  have:Zn y1=[y1]:=by rw [Z0G,if_neg h0,hR,if_pos (by rfl)]
  simp only [Zac,this]
  exact V2
theorem ZLo:ZFG:=by
 intro N e _ hp hN
 simp only [ZdT,Zcp] at hp hN
 obtain ⟨h3,hm,d,hr⟩:=hp
 have ra:=Zd hr
 have h:=Yx.1 ra.ops
 have ba:=ra.len
 have bd:=Yt e.ops 0 (fun x hx=> Yb (J8 (h x hx))) V1 V1
 have bo:=Jo e.ops 0 (fun x hx=> Yb (J8 (h x hx))) V1 V1
 have hA:Jp e.ops 0=YL e.ops:=V1
 have hB:Z11 e.ops 0=JY e.ops:=V1
 have bg:Z0 e=1+Zq e.old+Zq e.new+e.words.length+e.ops.length+Zw e.kids+Zg e.ops:=by cases e;rfl
 have bh:=(Z6T e.list e.ops 0 (Jp e.ops 0)).2
 have ee:Edit.mk e.kind (Tree.mk e.old.kind e.old.words e.old.kids) (Tree.mk e.new.kind e.new.words e.new.kids) e.words e.kids e.list e.ops=e:=by obtain ⟨k,⟨_,_,_⟩,⟨_,_,_⟩,w,ks,l,os⟩:=e;rfl
 have hW:Z38 e.ops 0=Jp e.ops 0:=Zo9 e.ops 0 (fun o ho=> ⟨Z5D (h o ho),by
  have:=Z1V ho
  have:=Zv7 o
  have:=ZD o.l
  omega⟩) V1 V1
 refine ZJP _ _ _ ?_
 (simp only [iB,vcT,vcS])
 rw [ee,hW]
 refine ⟨by show Z0 e<=20000000000;omega,?_⟩
 refine Z7 (ι:=Int × Int × Int × List Edit) (fun j=> Z9M e j.1 j.2.1 j.2.2.1 e.kind e.old.kind e.old.words e.old.kids e.new.kind e.new.words e.new.kids e.words e.kids e.list e.ops j.2.2.2)
  (fun j=> (0<=j.1/\j.1<=e.ops.length)/\(0<=j.2.1/\j.2.1+JY (e.ops.drop j.1.toNat)=JY e.ops)/\j.2.2.1=YL (e.ops.drop j.1.toNat)/\j.2.2.1<=YL e.ops/\j.2.2.2++ZN e.list (e.ops.drop j.1.toNat) j.2.1 j.2.2.1=ZN e.list e.ops 0 (Jp e.ops 0))
  (fun j=> ((e.ops.length:Int) - j.1).toNat) (0,0,Jp e.ops 0,[]) rfl ⟨⟨V4,V4⟩,⟨V4,by simp⟩,by simp [hA],V4,by simp⟩ ?_
 rintro ⟨i,a,b,out⟩ ⟨⟨i1,i2⟩,⟨a1,a2⟩,b1,b2,o1⟩
 dsimp only at i1 i2 a1 a2 b1 b2 o1
 refine Zx8 _ _ _ _ _ _ _ _ _ _ _ _ _ _ _ _ _ _ _ ?_
 rintro y1 aj y2 rfl y3 ah
 (simp only [iB,vcT,vcS])
 have ax:=congrArg List.length o1
 rw [Q7] at ax
 refine ⟨fun hi=> ⟨⟨i1,hi⟩,?_⟩,fun hi=> ?_⟩
 .have hd:=ZS i1 hi Op.nil
  rw [<-aj] at hd
  have aq:y2∈e.ops:=by rw [aj];exact Zh V1 _
  have s:=h y2 aq
  have ae:∀ o∈e.ops.drop (i+1).toNat,Za e.list o (d - 1)=true:=fun o ho=> h o (QQ ho)
  have sA:=(Yt _ 0 (fun x hx=> Yb (J8 (ae x hx))) V1 V1).2
  have sB:=(Jo _ 0 (fun x hx=> Yb (J8 (ae x hx))) V1 V1).2
  have bi:=Yb (J8 s)
  rw [hd,JY] at a2
  rw [hd,YL] at b1
  rw [hd,ZN,Z4l] at o1
  refine ⟨fun k0=> ?_,fun k0=> ⟨fun k1=> ?_,fun k1=> ⟨fun k2=> ?_,fun k2=> ?_⟩⟩⟩
  .have ol:=Z3p (Yl s) k0
   rw [Jv,ol] at a2 b1
   rw [if_pos k0,Jv,Jv,ol,Qo] at o1
   refine ⟨V5,V5,Zbo _ _ _ _ _ _ _ _ _ _ _ _ _ _ _ _ _ _ _ ⟨V5,(i+1,a+y2.n,b - y2.n,out),rfl,⟨⟨V4,V4⟩,⟨V4,V4⟩,V4,V4,o1⟩,V4⟩⟩
  .have ol:=ZU (Yl s) (.inl k1)
   rw [if_pos k1] at a2
   rw [Jv,ol] at b1
   rw [if_neg k0,if_pos k1,if_pos k1,Jv,ol] at o1
   refine ⟨⟨V4,V4,V4⟩,V5,Zbo _ _ _ _ _ _ _ _ _ _ _ _ _ _ _ _ _ _ _ ⟨V5,(i+1,a,b - y2.l.length,out++[Z1v e.list a y2 (b - y2.l.length)]),rfl,⟨⟨V4,V4⟩,⟨V4,V4⟩,V4,V4,?_⟩,V4⟩⟩
   rw [Qc];exact o1
  .have ol:=ZU (Yl s) (.inr k2)
   rw [Jv,ol] at a2
   rw [if_pos k2] at b1
   rw [if_neg k0,if_neg k1,if_pos k2,Jv,if_pos k2,ol] at o1
   refine ⟨⟨V4,V4,V4⟩,V5,Zbo _ _ _ _ _ _ _ _ _ _ _ _ _ _ _ _ _ _ _ ⟨V5,(i+1,a+y2.l.length,b,out++[Z1v e.list a y2 (b - 0)]),rfl,⟨⟨V4,V4⟩,⟨V4,V4⟩,V4,V4,?_⟩,V4⟩⟩
   rw [Qc];exact o1
  .have k3:y2.kind=3:=by
    have:=Zu s
    cases this <;> first | rfl | (exfalso;first | exact k0 rfl | exact k1 rfl | exact k2 rfl)
   have ol:Z2 y2=1:=by unfold Z2;rw [if_pos k3]
   rw [if_neg k1,ol] at a2
   rw [if_neg k2,ol] at b1
   rw [if_neg k0,if_neg k1,if_neg k2,if_neg k1,if_neg k2,ol,<-ah] at o1
   have ao:Z1 y3 (d - 1)=true:=by rw [ah];exact Ye s k3
   have bk:Z0 y3 < Z0 e:=by rw [ah];exact YD aq
   have a5:=congrArg List.length o1
   simp only [Q7,Qt] at a5
   refine ⟨⟨V4,_,ao⟩,by simp only [Zly];omega,?_⟩
   refine Z7 (ι:=Int × List Edit) (fun j=> Z9L e i a j.1 e.kind e.old.kind e.old.words e.old.kids e.new.kind e.new.words e.new.kids e.words e.kids e.list e.ops b j.2) (fun j=> (0<=j.1/\j.1<=(Zn y3).length)/\j.2++((Zn y3).drop j.1.toNat).map (fun x=> Z1v e.list a ⟨3,0,[],x⟩ (b - 1))=out++(Zn y3).map (fun x=> Z1v e.list a ⟨3,0,[],x⟩ (b - 1))) (fun j=> (((Zn y3).length:Int) - j.1).toNat) (0,out) rfl ⟨⟨V4,V4⟩,by simp⟩ ?_
   rintro ⟨j,o2⟩ ⟨⟨j1,j2⟩,j3⟩
   dsimp only at j1 j2 j3
   refine Zx7 _ _ _ _ _ _ _ _ _ _ _ _ _ _ _ _ _ _ _ _ _ ?_
   rintro x1 a4 x2 a7 x3 aw
   have ex:x2=y3:=by rw [a7,ah,a4,aj]
   subst ex
   (simp only [iB,vcT,vcS])
   have az:=congrArg List.length j3
   simp only [Q7,Qt,Qv] at az
   refine ⟨fun hj=> ⟨⟨j1,hj⟩,⟨V4,V4,V4⟩,V5,(j+1,o2++[Z1v e.list a ⟨3,0,[],x3⟩ (b - 1)]),rfl,⟨⟨V4,V4⟩,?_⟩,V4⟩,fun hj=> ⟨V5,V5,Zbo _ _ _ _ _ _ _ _ _ _ _ _ _ _ _ _ _ _ _ ⟨V5,(i+1,a+1,b - 1,o2),rfl,⟨⟨V4,V4⟩,⟨V4,V4⟩,V4,V4,?_⟩,V4⟩⟩⟩
   .rw [ZS j1 hj Edit.nil,Qm,<-aw] at j3
    dsimp only
    rw [Qc];exact j3
   .rw [Q6 V1,QJ,Qi] at j3
    dsimp only
    rw [j3,Qc];exact o1
 .rw [Q6 V1,ZN,Qi] at o1
  simp only [Zhd,<-o1]
  exact V2
theorem ZDb:Contract Tryz.prog cfg 73 ZgF/\Contract Tryz.prog cfg 113 Zrw:=Zq0 ZHk ZHj b73 ZLo
theorem c24:Contract Tryz.prog cfg 24 Z7u:=by
 refine ZGt Zmh.1 ZDb.1 ?_
 intro e _ s
 simp only [ZeY] at s
 obtain ⟨hm,d,hr⟩:=s
 refine ZL6 _ _ ?_
 rintro y1 rfl y2 h
 have:=Z5R y1
 refine ⟨⟨by grind,d,hr⟩,⟨by grind,d,by rw [h];exact Jy _ _ hr⟩,?_⟩
 simp only [ZxJ,h]
 exact V2
theorem Zts:∀ l:List Edit,l.length<=ctL l
 | []=> Q9 _
 | e ::r=> by have:=Zts r;have:=Zer e;simp only [ctL,Q8];omega
theorem ZDa{p q:Edit}(hp:YT p)(hq:YT q)(h:(Z1A p q).2=true)(hs:ctE p+ctE q<=9000000000):YT (Z1A p q).1/\ctE (Z1A p q).1+18<=ctE p+ctE q:=by
 have F:=Z9V hp hq
 unfold Z1A at h ⊢
 split at h
 .rename_i hc
  rw [if_pos hc]
  have w:=F.wk hc
  have c:=F.ct trivial hc
  have n:=Z5n (YA p q).1
  dsimp only
  exact ⟨⟨V1,Z16 _ _ w.r w.g,_,Jy _ _ w.r⟩,V1⟩
 .cases h
theorem c20:Contract Tryz.prog cfg 20 Z7w:=by
 refine ZGx c71 Zmh.1 ?_
 intro l _ hp
 simp only [ZjN] at hp
 obtain ⟨hx,hc⟩:=hp
 have aq:=Zts l
 refine ZLa _ _ ?_
 (simp only [iB,vcT,vcS])
 refine Z7 (ι:=Int × Edit) (fun j=> Zd1 l j.1 j.2.kind j.2.old.kind j.2.new.kind j.2.list j.2.old.words j.2.old.kids j.2.new.words j.2.new.kids j.2.words j.2.kids j.2.ops) (fun j=> (0<=j.1/\j.1<=l.length)/\(YT j.2/\ctE j.2+ctL (l.drop j.1.toNat)<=8000000018)/\Z1f (l.drop j.1.toNat) j.2=Z1f l Edit.nil) (fun j=> ((l.length:Int) - j.1).toNat) (0,Edit.nil) rfl ⟨⟨V1,V1⟩,⟨Z7G,by
   have:ctE Edit.nil=18:=rfl
   grind⟩,by simp⟩ ?_
 rintro ⟨i,x⟩ ⟨⟨i1,i2⟩,⟨s,x2⟩,d⟩
 dsimp only at i1 i2 s x2 d
 refine ZBv _ _ _ _ _ _ _ _ _ _ _ _ _ _ _ ?_
 rintro y1 aa y2 h y3 rfl
 dsimp only at h
 have e2:y2=x:=by rw [h];obtain ⟨k,⟨_,_,_⟩,⟨_,_,_⟩,w,ks,l,os⟩:=x;rfl
 subst e2
 (simp only [iB,vcT,vcS])
 refine ⟨fun hi=> ?_,fun hi=> ?_⟩
 .have hd:=ZS i1 hi Edit.nil
  rw [<-aa] at hd
  have hm:y3∈l:=by rw [aa];exact Zh V1 _
  rw [hd,ctL] at x2
  rw [hd,Z1f] at d
  refine ⟨⟨i1,hi⟩,⟨s,hx _ hm⟩,fun hc=> ?_,fun hc=> ⟨V5,(i+1,(Z1A y2 y3).1),rfl,⟨⟨V1,V1⟩,?_,?_⟩,V1⟩⟩
  .rw [if_neg (by grind)] at d
   have:Z0A l=(Edit.nil,false):=by rw [Z0A,if_neg];rw [<-d];decide
   simp only [ZrU,this]
   exact V2
  .have:=ZDa s (hx _ hm) hc V1
   grind
  grind
 .rw [Q6 V1,Z1f] at d
  have hm:=Ju s
  refine ⟨⟨by grind,s.2.2⟩,?_⟩
  have:Z0A l=(Zp y2,true):=by rw [Z0A,<-d];try rfl
  simp only [ZrU,this]
  exact V2
theorem c70:Contract Tryz.prog cfg 70 ZgI:=by
 refine ZGk ?_
 intro n _ d
 refine ZKU _ _ ?_
 (simp only [iB,vcT,vcS])
 simp only [ZxG]
 exact V2
def at1(n:Int):Tree:= .mk 10 [n] []
def sp0:Edit:= .mk 3 Tree.nil Tree.nil [] [] 4 [⟨1,0,[at1 1],Edit.nil⟩,⟨0,1,[],Edit.nil⟩,⟨2,0,[at1 2],Edit.nil⟩]
def sp1:Edit:= .mk 3 Tree.nil Tree.nil [] [] 4 [⟨1,0,[at1 1],Edit.nil⟩,⟨0,1,[],Edit.nil⟩]
def sp2:Edit:= .mk 3 Tree.nil Tree.nil [] [] 4 [⟨0,1,[],Edit.nil⟩,⟨2,0,[at1 2],Edit.nil⟩]
theorem Zxs:Zn (Zp sp0)=[sp1,sp2]:=V6
theorem Zuu:Z1 sp0 64=true:=V6
theorem Zjp:Z1 sp1 64=true:=V6
theorem Zjo:Z1 sp2 64=true:=V6
theorem ZBE:Z1A Edit.nil sp1=(sp1,true):=by
 try rfl
theorem ZBD:Z1A sp1 sp2=(sp0,true):=by
 have h:Y7 1 2 sp1.ops sp2.ops []=([⟨1,⟨1,0,[at1 1],Edit.nil⟩,Op.nil⟩,⟨0,⟨0,1,[],Edit.nil⟩,⟨0,1,[],Edit.nil⟩⟩,⟨2,Op.nil,⟨2,0,[at1 2],Edit.nil⟩⟩],true,[],[]):=by
  rw [show sp1.ops=[⟨1,0,[at1 1],Edit.nil⟩,⟨0,1,[],Edit.nil⟩] from rfl,show sp2.ops=[⟨0,1,[],Edit.nil⟩,⟨2,0,[at1 2],Edit.nil⟩] from rfl]
  rw [Y7,dif_pos (by simp [sgl])]
  simp only [QC,QZ,Qo,Qr]
  rw [Y7,dif_neg (by simp [sgl]),dif_neg (by simp [sgl]),dif_neg (by simp)]
  simp [ZK,Yd,Z2]
  rw [Y7,dif_neg (by simp [sgl]),dif_pos (by simp [sgl])]
  simp only [QC,QZ,Qr]
  rw [Y7,dif_neg (by simp [sgl]),dif_neg (by simp [sgl]),dif_pos (by simp)]
  simp
 have hc:YA sp1 sp2=(sp0,true):=by
  rw [Zkt Zjp Zjo]
  have d:Z09 YA sp1.ops sp2.ops=some sp0.ops:=by
   unfold Z09
   rw [h,if_pos rfl]
   rw [Jx,show Zx YA ⟨1,⟨1,0,[at1 1],Edit.nil⟩,Op.nil⟩=⟨⟨1,0,[at1 1],Edit.nil⟩,true,true⟩ by rfl,if_pos rfl,Jx,
    show Zx YA ⟨0,⟨0,1,[],Edit.nil⟩,⟨0,1,[],Edit.nil⟩⟩=⟨⟨0,1,[],Edit.nil⟩,true,true⟩ by rfl,if_pos rfl,Jx,
    show Zx YA ⟨2,Op.nil,⟨2,0,[at1 2],Edit.nil⟩⟩=⟨⟨2,0,[at1 2],Edit.nil⟩,true,true⟩ by rfl,if_pos rfl,Jx]
   try rfl
  unfold JW
  rw [if_neg (show ¬sp1.kind=0 by decide),if_neg (show ¬sp2.kind=0 by decide),if_neg (show ¬sp1.kind=1 by decide),if_neg (show ¬sp2.kind=1 by decide),if_neg (show ¬(sp1.kind≠sp2.kind\/sp1.list≠sp2.list) by decide),if_neg (show ¬sp1.kind=2 by decide),d]
  try rfl
 unfold Z1A
 rw [hc,if_pos rfl]
 try rfl
theorem ZBC:Z0A [sp1,sp2]=(sp0,true):=by
 rw [Z0A,Z1f,ZBE,if_pos rfl,Z1f,ZBD,if_pos rfl,Z1f,if_pos rfl]
 try rfl
theorem Zxr(l:List Op)(h:∀ o∈l,YH o):ZX (.mk 3 Tree.nil Tree.nil [] [] 4 l):=⟨by trivial,Z2W,Z2W,by simp,by trivial,trivial,ZdB h⟩
theorem ZFV:YH ⟨1,0,[at1 1],Edit.nil⟩/\YH ⟨0,1,[],Edit.nil⟩/\YH ⟨2,0,[at1 2],Edit.nil⟩:=by
 have d:∀ n:Int,n=1\/n=2->rng (at1 n):=fun n h=> ⟨V3,by grind,trivial⟩
 exact ⟨⟨by trivial,by trivial,⟨d 1 (.inl rfl),trivial⟩,ZbQ⟩,⟨by trivial,by trivial,trivial,ZbQ⟩,⟨by trivial,by trivial,⟨d 2 (.inr rfl),trivial⟩,ZbQ⟩⟩
theorem ZEP:YT sp1/\YT sp2:=by
 obtain ⟨s,d,h⟩:=ZFV
 refine ⟨⟨?_,Zxr _ (by simp only [Qa,K1,or_false];rintro o (rfl | rfl);exact s;exact d),64,Zjp⟩,?_,Zxr _ (by simp only [Qa,K1,or_false];rintro o (rfl | rfl);exact d;exact h),64,Zjo⟩
 .show ctE sp1<=9000000000;simp [sp1,at1,ctE,Z08,YF,Z1x,Zq,Ze,Tree.nil,Edit.nil]
 .show ctE sp2<=9000000000;simp [sp2,at1,ctE,Z08,YF,Z1x,Zq,Ze,Tree.nil,Edit.nil]
theorem c19:Contract Tryz.prog cfg 19 ZgR:=by
 refine ZGy c24 c70 c20 ?_
 intro _ _
 refine ZLb _ ?_
 rintro y1 h1 y2 h2 y3 d y4 s y5 h5
 have e1:y1=Edit.nil:=h1
 subst e1
 have e2:y2=sp0:=h2
 subst e2
 simp only [Zxs] at d s ⊢
 have e3:y3=sp1:=d
 have e4:y4=sp2:=s
 subst e3 e4
 have e5:y5=⟨0,1,[],Edit.nil⟩:=h5
 subst e5
 simp only [ZBC]
 (simp only [iB,vcT,vcS])
 refine ⟨trivial,trivial,⟨?_,64,Zuu⟩,⟨?_,?_⟩,fun _=> ⟨V3,by simp⟩,fun _=> ⟨V3,by simp⟩,fun _=> ⟨V3,by simp [sp2]⟩,fun _=> ⟨V3,by simp [sp0]⟩,Zl rfl ?_⟩
 .show Z0 sp0<=1000000
  rw [show Z0 sp0=19 by kernel_rfl];decide
 .intro x h
  simp only [Qa,K1,or_false] at h
  rcases h with rfl | rfl
  .exact ZEP.1
  .exact ZEP.2
 .show ctL [sp1,sp2]<=8000000000
  simp [ctL,sp1,sp2,at1,ctE,Z08,YF,Z1x,Zq,Ze,Tree.nil,Edit.nil]
 .kernel_rfl
theorem c23:Contract Tryz.prog cfg 23 ZgO:=by
 refine ZGu c30 c31 ?_
 intro t _ d
 simp only [Zs7] at d
 refine ZL7 _ _ ?_
 (simp only [vE])
 (simp only [iB,vcT,vcS])
 refine ⟨by simp only [Zs6];exact d.1,fun h=> by simp only [Z7J];exact ⟨QN (Zkj h) V3,d.2,V1,V1⟩,Zl rfl ?_⟩
 unfold Zir
 grind
noncomputable section
def Zs8(a:List Edit × Unit):Prop:=(∀ x∈a.1,refOk x)/\utL a.1<=8000000000
def ZrT(a:List Edit × Unit):V U:= .tup [(true,(enc .edit ((Z0K a.1).1))),(false,[.bool ((Z0K a.1).2)])]
def ZgQ:Fs U:=fs ZAE (fun a=> [Zs8 a]) ZrT
def Zqp:List (FuncId × Fs U):=[(29,Z24),(72,ZgG)]
def ZCP:Zj U:=lvk [([0,2],[2]),([0,2,4],[2,4]),([0,2,4,5],[2,((.loc 4),[.any,.any,.unk .u64,.unk .tree,.any,.unk .u64,.unk .tree,.unk .wedit,.unk .kid,.any,.unk .op])]),([0,2,4,5,12],[2,4]),([0,2,4,5],[2,((.loc 4),[.any,.any,.unk .u64,.unk .tree,.any,.unk .u64,.unk .tree,.unk .wedit,.unk .kid,.any,.unk .op])]),([0,2,4,5,6,7],[2,4,6]),([0,2,4,5,6,25],[2,4,6]),([2,3],[2]),([0,2,4,5],[2,4]),([2,3],[2])]
def Zd0(l:List Edit)(x5 ak h ab aj:Int)(s:List Int)(ai:List Tree)(ae:List Int)(aa:List Tree)(ah:List WEdit)(af:List Kid)(d:List Op):LSt U:=(L2 [(0,.c (sU .edit l .unk)),pL 2,pL 4,pI 5 x5] [(.loc 2,zc1),(.loc 4,[ci ak,ci h,sU .u64 s .unk,sU .tree ai .unk,ci ab,sU .u64 ae .unk,sU .tree aa .unk,sU .wedit ah .unk,sU .kid af .unk,ci aj,sU .op d .unk])])
abbrev A21(p:List Nat):=AW (Z3 Zqp) Tryz.f21 ZCP p
abbrev S21(p:List Nat):=SW (Z3 Zqp) Tryz.f21 ZCP p
theorem ZL9(l:List Edit)(Q:QT)(h:(Zi (A21 [1,1,0,1,0,0]) (Zd0 l 0 0 0 0 0 [] [] [] [] [] [] []) (xB 0 (S21 [1,1,1] Q)))):
  A21 [] (L2 [(0,.c (sU .edit l .unk))] []) Q:=
 Eq.mpr V6 h
theorem ZBu(l:List Edit)(x5 ao ab ah am:Int)(ae:List Int)(al:List Tree)(ai:List Int)(af:List Tree)(ak:List WEdit)(aj:List Kid)(aa:List Op)(N0:NT)(Q:QT)(h:∀ ar,ar=(l.getD x5.toNat Edit.nil)->∀ d,d=(Edit.mk ao (Tree.mk ab ae al) (Tree.mk ah ai af) ak aj am aa)->∀ s,s=ar->let z1:=Edit.new ((Z5a d s).1);let z0:=Edit.old ((Z5a d s).1);(iB (decide (x5 < (l.length:Int))) (((0:Int)<=x5/\x5 < (l.length:Int))/\(Zym (d,s,()))/\(iB (!((Z5a d s).2)) ((Q .ret (L2 [pL 2,pB 3 false] [(.loc 2,zc1)]))) (((InR (x5+1))/\(N0 (Zd0 l (x5+1) (Edit.kind ((Z5a d s).1)) (Tree.kind z0) (Tree.kind z1) (Edit.list ((Z5a d s).1)) (Tree.words z0) (Tree.kids z0) (Tree.words z1) (Tree.kids z1) (Edit.words ((Z5a d s).1)) (Edit.kids ((Z5a d s).1)) (Edit.ops ((Z5a d s).1)))))))) ((Z4f (d,()))/\(Q .ret (L2 [pL 2,pB 3 true] [(.loc 2,(enc .edit (Zp d)))]))))):
  A21 [1,1,0,1,0,0] (Zd0 l x5 ao ab ah am ae al ai af ak aj aa) (xT N0 (xB 0 (S21 [1,1,1] Q))):=
 Eq.mpr V6 (h _ rfl _ rfl _ (Z5 _))
def ZIs(l:List Edit):Prop:=AW (Z3 Zqp) Tryz.f21 ZCP [] (Zm (ZAE.can (l,())) []) (EQ Tryz.f21 (ZrT (l,())) [])
theorem ZGw(c29:CT 29 Z24)(c72:CT 72 ZgG)(hb:∀ (l:List Edit) (_:Unit),Zs8 (l,())->ZIs l):CT 21 ZgQ:=
 Z9 (l:=[(29,Z24),(72,ZgG)]) Zo rfl (⟨c29,c72,trivial⟩) ZCP Tryz.func21 rfl rfl 1 (fun _=> rfl) V3 (fun ⟨l,_⟩=> hb l ())
end
noncomputable section
def ZFk:ArgL (List Edit × Edit × Tree × Unit):=(.cons (aSl .edit) (.cons (aEl .edit) (.cons (aEl .tree) .nil)))
def ZBJ(a:List Edit × Edit × Tree × Unit):Prop:=(∀ x∈a.1,Z2w x/\ZX x)/\(Z2w a.2.1/\ZX a.2.1)/\Z0R a.2.2.1/\rng a.2.2.1
def Zpi(a:List Edit × Edit × Tree × Unit):V U:= .c (.bool true)
def Zri:Fs U:=fs ZFk (fun a=> [ZBJ a]) Zpi
def ZzH:List (FuncId × Fs U):=[(14,ZgT),(18,ZgS),(19,ZgR),(20,Z7w),(21,ZgQ),(22,ZgP),(23,ZgO),(24,Z7u),(25,Z32),(26,Z25)]
def lv4:Zj U:=lvl [([0,4,5],[4,5]),([0,4,5,20],[4,5]),([0,4,5],[4,5]),([0,4,5,7],[4,5]),([0,4,5,7,26],[4,5]),([0,4,5,7],[4,5]),([0,4,5,7,34],[4,5]),([6],[]),([0,4,5,8,9],[4,5,8]),([4,5,8,9,10,11],[4,5,8,10]),([4,5,54],[4,5]),([6],[]),([4,5,67],[4,5]),([6],[]),([4,5,12,13],[4,5,12]),([4,5,12,13,81],[4,5,12]),([6],[]),([5,12,14,15],[5,12,14]),([14,15,16,17],[14,16]),([6],[])]
def Z9e(l:List Edit)(e:Edit)(t:Tree)(x0:List Edit)(d:Int):LSt U:=(L2 [(0,.c (sU .edit x0 .unk)),pL 4,pL 5,pI 7 d] [(.loc 4,(enc .edit e)),(.loc 5,(enc .tree t))])
abbrev A4(p:List Nat):=AW (Z3 ZzH) Tryz.f4 lv4 p
abbrev S4(p:List Nat):=SW (Z3 ZzH) Tryz.f4 lv4 p
theorem vc4(l:List Edit)(e:Edit)(t:Tree)(Q:QT)(h:(iB (decide ((6:Int) < (l.length:Int))) (((0:Int)<=6/\6<=(l.length:Int))/\(Zi (A4 [1,1,0,1,0,0]) (Z9e l e t (List.take (Int.toNat 6) l) 0) (xB 0 (S4 [1,1,1] Q)))) ((Zi (A4 [1,1,0,1,0,0]) (Z9e l e t l 0) (xB 0 (S4 [1,1,1] Q)))))):
  A4 [] (L2 [(0,.c (sU .edit l .unk)),(1,.agg (enc .edit e)),(2,.agg (enc .tree t))] []) Q:=
 Eq.mpr V6 h
theorem ZFN(l:List Edit)(e:Edit)(t:Tree)(x0:List Edit)(x7:Int)(N0:NT)(Q:QT)(h:∀ d,d=e->∀ s,s=t->∀ af,af=((Z0K x0).1)->∀ ah,ah=((Z0A x0).1)->∀ ak,ak=(x0.getD x7.toNat Edit.nil)->∀ ab,ab=ak->∀ aa,aa=((Z0A (Zn (Zp d))).1)->∀ ae,ae=(YP ((doE false d s).map Z6))->∀ aj,aj=(YP ((doE false aa s).map Z6))->let z3:=((Z0A x0).2) !=((Z0K x0).2);let z2:=Z0A (Zn (Zp d));let z1:=bif (!(Z0y d)) then true else (decide ((200:Int) < (Yn d)));let z0:=((doE false d s).isSome)==((doE false aa s).isSome);let z4:=bif z0 then (YM ae aj) else false;(iB (decide (x7 < (x0.length:Int))) (((0:Int)<=x7/\x7 < (x0.length:Int))/\(ZjP (ab,()))/\(iB (!(Z0y ab)) ((ZjO ())/\(Q .ret (L2 [pB 6 true] []))) ((InR (x7+1))/\(N0 (Z9e l e t x0 (x7+1)))))) ((ZjN (x0,()))/\((Zs8 (x0,()))/\((Tt (!z3))/\(Tt (!z3))/\((!z3)=true->Zc2 (ah,af,()))/\(Tt (!z3))/\(z3=false->(!z3)=true)/\(iB (bif z3 then true else (!(eqX ah af))) ((Q .ret (L2 [pB 6 false] []))) ((ZjP (d,()))/\(Tt (!(!(Z0y d))))/\((!(!(Z0y d)))=true->ZaR (d,()))/\(Tt (!(!(Z0y d))))/\((!(Z0y d))=false->(!(!(Z0y d)))=true)/\(Tt (!z1))/\((!z1)=true->Zs7 (s,()))/\(Tt (!z1))/\(z1=false->(!z1)=true)/\(iB (bif z1 then true else (!(Zir s))) ((ZjO ())/\(Q .ret (L2 [pB 6 true] []))) ((ZeY (d,()))/\(ZjN ((Zn (Zp d)),()))/\((Tt (!(!(z2.2))))/\((!(!(z2.2)))=true->ZjP (aa,()))/\(Tt (!(!(z2.2))))/\((!(z2.2))=false->(!(!(z2.2)))=true)/\(iB (bif (!(z2.2)) then true else (!(Z0y aa))) (((z2.2)=true->ZjO ())/\(Tt (z2.2))/\(Q .ret (L2 [(6,.c (.bool (bif (z2.2) then true else false)))] []))) ((Z5F (d,s,()))/\((Z5F (aa,s,()))/\((Tt z0)/\(Tt z0)/\(z0=true->Z4g (ae,aj,()))/\(Tt z0)/\(z4=true->ZjO ())/\(Tt z4)/\(Q .ret (L2 [(6,.c (.bool (bif z4 then true else false)))] [])))))))))))))))):
  A4 [1,1,0,1,0,0] (Z9e l e t x0 x7) (xT N0 (xB 0 (S4 [1,1,1] Q))):=
 Eq.mpr V6 (h _ (Z5 _) _ (Zc _) _ (Z5 _) _ (Z5 _) _ rfl _ (Z5 _) _ (Z5 _) _ (Zc _) _ (Zc _))
def ZKF(l:List Edit)(e:Edit)(t:Tree):Prop:=AW (Z3 ZzH) Tryz.f4 lv4 [] (Zm (ZFk.can (l,e,t,())) []) (EQ Tryz.f4 (Zpi (l,e,t,())) [])
theorem ZK3(c14:CT 14 ZgT)(c18:CT 18 ZgS)(c19:CT 19 ZgR)(c20:CT 20 Z7w)(c21:CT 21 ZgQ)(c22:CT 22 ZgP)(c23:CT 23 ZgO)(c24:CT 24 Z7u)(c25:CT 25 Z32)(c26:CT 26 Z25)(hb:∀ (l:List Edit) (e:Edit) (t:Tree) (_:Unit),ZBJ (l,e,t,())->ZKF l e t):CT 4 Zri:=
 Z9 (l:=[(14,ZgT),(18,ZgS),(19,ZgR),(20,Z7w),(21,ZgQ),(22,ZgP),(23,ZgO),(24,Z7u),(25,Z32),(26,Z25)]) Zo rfl (⟨c14,c18,c19,c20,c21,c22,c23,c24,c25,c26,trivial⟩) lv4 Tryz.func4 rfl rfl 3 (fun _=> rfl) V3 (fun ⟨l,e,t,_⟩=> hb l e t ())
end
theorem c21:Contract Tryz.prog cfg 21 ZgQ:=by
 refine ZGw ZqJ.1 c72 ?_
 intro l _ hp
 simp only [Zs8] at hp
 obtain ⟨hx,hc⟩:=hp
 have aq:=Zra l
 refine ZL9 _ _ ?_
 (simp only [iB,vcT,vcS])
 refine Z7 (ι:=Int × Edit) (fun j=> Zd0 l j.1 j.2.kind j.2.old.kind j.2.new.kind j.2.list j.2.old.words j.2.old.kids j.2.new.words j.2.new.kids j.2.words j.2.kids j.2.ops) (fun j=> (0<=j.1/\j.1<=l.length)/\(refOk j.2/\utE j.2+utL (l.drop j.1.toNat)<=8000000018)/\ZcB (l.drop j.1.toNat) j.2=ZcB l Edit.nil) (fun j=> ((l.length:Int) - j.1).toNat) (0,Edit.nil) rfl ⟨⟨V4,V4⟩,⟨ZjK,by
   have:=Zrb
   simp only [QZ,Int.toNat_zero];omega⟩,by simp⟩ ?_
 rintro ⟨i,x⟩ ⟨⟨i1,i2⟩,⟨x1,x2⟩,d⟩
 dsimp only at i1 i2 x1 x2 d
 refine ZBu _ _ _ _ _ _ _ _ _ _ _ _ _ _ _ ?_
 rintro y1 h y2 s y3 rfl
 dsimp only at h s
 (simp only [iB,vcT,vcS])
 have e2:y2=x:=by rw [s];obtain ⟨k,⟨_,_,_⟩,⟨_,_,_⟩,w,ks,l,os⟩:=x;rfl
 subst e2
 refine ⟨fun hi=> ?_,fun hi=> ?_⟩
 .have hd:=ZS i1 hi Edit.nil
  rw [<-h] at hd
  have hm:y3∈l:=by rw [h];exact Zh V1 _
  rw [hd,utL] at x2
  rw [hd,ZcB] at d
  refine ⟨⟨i1,hi⟩,⟨x1,hx _ hm⟩,fun hc=> ?_,fun hc=> ⟨V5,(i+1,(Z5a y2 y3).1),rfl,⟨⟨V4,V4⟩,?_,?_⟩,V4⟩⟩
  .rw [if_neg (by rw [hc];decide)] at d
   have:Z0K l=(Edit.nil,false):=by rw [Z0K,if_neg];rw [<-d];decide
   simp only [ZrT,this]
   exact V2
  .have:=Znp x1 (hx _ hm) hc V1
   exact ⟨this.1,V4⟩
  .rw [if_pos hc] at d
   exact d
 .rw [Q6 V1,ZcB] at d
  have hm:=Ju x1.re
  refine ⟨⟨V4,x1.2.2⟩,?_⟩
  have:Z0K l=(Zp y2,true):=by rw [Z0K,<-d];try rfl
  simp only [ZrT,this]
  exact V2
theorem Z7x:∀ (n:Nat) (e:Edit),Z0 e<=n->n<=17592186044416->Z2w e
 | 0,e,hn,_=> by
  have:3<=Z0 e:=JJ e
  omega
 | n+1,.mk k o nw w ks l os,hn,hb=> by
  simp only [Z0] at hn
  have hk:=Ym ks
  have s:∀ ks:List Kid,Zw ks<=n->Z6y ks:=by
   intro ks
   induction ks with
   | nil=> intro _;trivial
   | cons a r ih=>
    intro h
    obtain ⟨at_,e⟩:=a
    simp only [Zw,Yo] at h
    exact ⟨Z7x n e V1 V1,ih V1⟩
  have d:∀ os:List Op,Zg os<=n->Z6x os:=by
   intro os
   induction os with
   | nil=> intro _;trivial
   | cons a r ih=>
    intro h
    obtain ⟨a1,a2,t,e⟩:=a
    simp only [Zg,Zs] at h
    have:=ZD t
    exact ⟨⟨V1,Z45 t V1,Z7x n e V1 V1⟩,ih V1⟩
  exact ⟨Z1p o V1,Z1p nw V1,V1,V1,V1,s ks V1,d os V1⟩
theorem Zoi:∀ (l:List Edit) (x:Edit),YT x->(∀ e∈l,YT e)->ctE x+ctL l<=8000000018->(Z1f l x).2=true->YT (Z1f l x).1
 | [],x,hx,_,_,_=> hx
 | e ::r,x,hx,he,hc,h=> by
  have s:=he e Q1
  rw [ctL] at hc
  rw [Z1f] at h ⊢
  split at h
  .rename_i d
   rw [if_pos d]
   have:=ZoI hx s d V1
   exact Zoi r _ this.1 (fun y hy=> he y (Q0 _ hy)) V1 h
  .cases h
theorem Zqu{l:List Edit}(he:∀ e∈l,YT e)(hc:ctL l<=8000000000):Z0 (Z0A l).1<=20000000000:=by
 unfold Z0A
 split
 .rename_i h
  have d:ctE Edit.nil=18:=by simp [ctE,Z08,YF,Edit.nil,Tree.nil,Zq,Ze]
  have:=Ju (Zoi l _ Z7G he V1 h)
  have:=Z5R (Z1f l Edit.nil).1
  dsimp only;omega
 .dsimp only;rw [Zk2];omega
theorem ZA7:∀ {l:List Edit},(∀ e∈l,refOk e)->ctL l<=utL l
 | [],_=> Q9 _
 | e ::r,h=> by
  have s:=ZiC _ e (Q9 _) (h e Q1).2.2
  have h2:=ZA7 fun x d=> h x (Q0 _ d)
  simp only [ctL,utL];omega
theorem Zr9:∀ {l:List Edit} {c:Nat},(∀ e∈l,utE e<=c)->utL l<=l.length*c
 | [],c,_=> by simp [utL]
 | e ::r,c,h=> by
  have s:=h e Q1
  have h2:=Zr9 fun x d=> h x (Q0 _ d)
  simp only [utL,Q8,Qz,Nat.one_mul];omega
theorem c4:Contract Tryz.prog cfg 4 Zri:=by
 refine ZK3 c14 c18 c19 c20 c21 c22 c23 c24 c25 c26 ?_
 intro l e t _ hp
 simp only [ZBJ] at hp
 obtain ⟨hl,⟨he,aa⟩,ht,ae⟩:=hp
 have ak:∀ x0:List Edit,(∀ x∈x0,Z2w x/\ZX x)->x0.length<=6->Zi (A4 [1,1,0,1,0,0]) (Z9e l e t x0 0) (AExit.inBlock 0 (S4 [1,1,1] (YZ cfg Tryz.f4.ntmps Tryz.f4.results.toList (Zpi (l,e,t,())) []))):=by
  intro x0 hx ao
  refine Z7 (ι:=Int) (fun i=> Z9e l e t x0 i) (fun i=> (0<=i/\i<=x0.length)/\∀ x∈x0.take i.toNat,Z0y x=true) (fun i=> ((x0.length:Int) - i).toNat) 0 rfl ⟨⟨V1,V1⟩,by simp⟩ ?_
  rintro i ⟨⟨i1,i2⟩,i3⟩
  refine ZFN _ _ _ _ _ _ _ ?_
  rintro y1 rfl y2 rfl y3 a2 y4 ar y5 av y6 rfl y7 a7 y8 al y9 a8
  (simp only [iB,vcT,vcS])
  refine ⟨fun hi=> ?_,fun hi=> ?_⟩
  .have au:y6∈x0:=by rw [av];exact Zh V1 _
   refine ⟨⟨i1,hi⟩,hx y6 au,fun _=> ⟨trivial,by simp only [Zpi];(repeat' (first | exact trivial | exact rfl | apply And.intro))⟩,fun hg=> ⟨V5,i+1,rfl,⟨⟨V1,V1⟩,?_⟩,V1⟩⟩
   intro x d
   rw [show (i+1).toNat=i.toNat+1 by omega,Xv V1,Qg,Qe] at d
   rcases d with d | rfl
   .exact i3 x d
   .rw [av,Qp,Q4 V1] at hg
    exact hg
  .rw [Qq V1] at i3
   have s:∀ x∈x0,refOk x/\utE x<=650000000:=by
    intro x d
    have hg:=i3 x d
    obtain ⟨r1,m1,q1⟩:=Ziq hg (hx x d).2
    have gl:Jz x=true:=by simp only [Z0y,Q2] at hg;exact hg.2
    have:=ZmL _ x (Q9 _) ⟨64,q1⟩ gl
    exact ⟨r1,V1⟩
   have am:utL x0<=8000000000:=by
    have:=Zr9 (l:=x0) fun x d=> (s x d).2
    have:x0.length*650000000<=6*650000000:=Qk _ ao
    omega
   have bt:=ZA7 fun x d=> (s x d).1
   have af:∀ x∈x0,YT x:=fun x d=> (s x d).1.re
   have hj:=ZzR (fun x d=> (s x d).1) am
   have m4:=Zqu af V1
   have a4:y3=y4:=by rw [a2,ar,hj]
   rw [<-hj,a4,ZzY]
   refine ⟨⟨af,V4⟩,⟨fun x d=> (s x d).1,am⟩,?_⟩
   refine ⟨fun _=> by rw [ar];exact m4,fun h=> ?_,fun _=> ?_⟩
   .exfalso;simp at h
   refine ⟨⟨he,aa⟩,fun hg=> ?_,fun _=> ⟨ht,ae⟩,fun _=> ⟨trivial,by simp only [Zpi];(repeat' (first | exact trivial | exact rfl | apply And.intro))⟩,fun hg=> ?_⟩
   .show Z0 y1<=_
    exact QN (Ziq hg aa).2.1 V3
   obtain ⟨⟨g1,g2⟩,g3⟩:=hg
   obtain ⟨_,gm,gr⟩:=Ziq g1 aa
   have gl:Jz y1=true:=by simp only [Z0y,Q2] at g1;exact g1.2
   obtain ⟨_,rt,_,_⟩:=ZzU g3 ae
   have hm:=ZKd g3
   obtain ⟨q1,q2,q3,q4,q5⟩:=ZpF gr aa gl gm V1
   rw [<-a7] at q4 q5
   have m7:=Ju q4
   have bo:=Zdd y1
   have P1:Z5F (y1,y2,()):=⟨⟨V4,aa,64,gr⟩,V4,ae⟩
   have P7:Z5F (y7,y2,()):=⟨⟨V4,q4.2.1,q4.2.2⟩,by have:=q4.1;dsimp only;omega,ae⟩
   have hs:=q5 y2 rt
   have ah:(doE false y7 y2).isSome=(doE false y1 y2).isSome:=by
    have:=congrArg Option.isSome hs
    rw [Zfx,Zfx] at this
    exact this
   refine ⟨⟨V4,64,gr⟩,⟨q1,q2⟩,fun _=> ⟨Z7x _ y7 (Nat.le_refl _) V1,q4.2.1⟩,fun _=> ⟨fun _=> trivial,?_⟩,fun _=> ⟨P1,P7,fun _=> by show Zq y8<=_;rw [al];exact ZpU ⟨64,gr⟩ P1.2.1,fun _=> trivial,?_⟩⟩
   .rw [q3]
    simp only [Zpi]
    exact V2
   .have az:y8=y9:=by rw [al,a8,hs]
    rw [ah,az,ZaA]
    simp only [beq_self_eq_true,Zpi]
    exact V2
 refine vc4 _ _ _ _ ?_
 (simp only [iB,vcT,vcS])
 refine ⟨fun h6=> ⟨⟨V1,V1⟩,ak _ (fun x hx=> hl x (XE hx)) (by rw [Qu];exact Nat.min_le_left _ _)⟩,fun h6=> ak l hl V1⟩
end Go.AM.YtpjenobkibfpcaaGreat
