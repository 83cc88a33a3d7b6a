import Derived.Orders
import Derived.Below
import Derived.KernelRfl
import Derived.Lib.MinMax
import Derived.Laws.Tables
import Derived.Laws.Slices
import Derived.Deep.Slices
import Derived.Laws.StructEq
import Derived.Laws.Append
set_option linter.all false
open Option renaming some->A,none->aT
open Bool renaming true->Y,false->I
open List renaming length->J,getD->aR
open Int renaming toNat->G
namespace Go.AM
theorem O{p:Prop}(h:p:=by omega):p:=h
theorem V0{p:Prop}(h:p:=by(repeat'(first|exact trivial|exact rfl|apply And.intro))):p:=h
theorem V1{p:Prop}(h:p:=by decide):p:=h
theorem V2{p:Prop}(h:p:=by dsimp only;omega):p:=h
theorem V3{p:Prop}(h:p:=by unfold bQ;omega):p:=h
theorem V4{p:Prop}(h:p:=by kernel_rfl):p:=h
theorem V5{c}[Decidable c]{α:Type _}{a b:α}(h:¬c:=by omega):(if c then a else b)=b:=if_neg h
theorem V6{c}[Decidable c]{α:Type _}{a b:α}(h:c:=by omega):(if c then a else b)=a:=if_pos h
abbrev Q0:=@if_neg
abbrev Q4:=@List.mem_cons_of_mem
abbrev Q5:=@if_pos
abbrev Q6:=@List.mem_cons_self
abbrev Q7:=@List.eq_nil_of_length_eq_zero
abbrev Q8:=@List.getElem?_eq_getElem
abbrev Q9:=@Bool.and_eq_true
abbrev Qa:=@Nat.le_refl
abbrev Qb:=@List.drop_of_length_le
abbrev Qc:=@List.getElem?_eq_some_iff
abbrev Qd:=@List.length_cons
abbrev Qe:=@List.mem_cons
abbrev Qf:=@Option.map_eq_some_iff
abbrev Qg:=@List.append_assoc
abbrev Qh:=@decide_eq_true_eq
abbrev Qi:=@List.length_append
abbrev Qj:=@List.append_nil
abbrev Qk:=@forall_eq
abbrev Ql:=@List.length_nil
abbrev Qm:=@List.getD_cons_zero
abbrev Qn:=@List.nil_append
abbrev Qo:=@List.mem_append
abbrev Qp:=@Option.bind_some
abbrev Qq:=@Option.bind_eq_some_iff
abbrev Qr:=@List.getD_eq_getElem?_getD
abbrev Qs:=@List.mem_singleton
abbrev Qt:=@Nat.eq_of_beq_eq_true
abbrev Qu:=@List.map_cons
abbrev Qv:=@Option.map_some
abbrev Qw:=@List.cons_append
abbrev Qx:=@Nat.mul_le_mul_right
abbrev Qy:=@List.take_of_length_le
abbrev Qz:=@Int.le_refl
abbrev QA:=@Bool.eq_iff_iff
abbrev QB:=@List.length_take
abbrev QC:=@dif_neg
abbrev QD:=@decide_eq_true
abbrev QE:=@List.drop_succ_cons
abbrev QF:=@List.length_map
abbrev QG:=@List.map_nil
abbrev QH:=@Iff.rfl
abbrev QI:=@List.length_drop
abbrev QJ:=@Bool.or_eq_false_iff
abbrev QK:=@List.getElem?_append_right
abbrev QL:=@Option.isSome_iff_exists
abbrev QM:=@List.take_append_drop
abbrev QN:=@List.length_singleton
abbrev QO:=@List.drop_eq_getElem_cons
abbrev QP:=@List.map_map
abbrev QQ:=@List.getElem?_map
abbrev QS:=@Nat.le_trans
abbrev QU:=@List.mem_map
abbrev QV:=@Bool.or_false
abbrev QW:=@dif_pos
abbrev QX:=@List.getElem?_eq_none
abbrev QY:=@List.getElem?_drop
abbrev QZ:=@List.all_eq_true
abbrev X3:=@Nat.zero_le
abbrev X4:=@List.length_eq_zero_iff
abbrev X5:=@List.getElem?_append_left
abbrev X6:=@Bool.true_and
abbrev X7:=@of_decide_eq_true
abbrev X8:=@List.getElem?_append
abbrev X9:=@List.drop_zero
abbrev Xa:=@if_true
abbrev Xb:=@List.mem_of_mem_drop
abbrev Xc:=@List.mem_append_left
abbrev Xd:=@List.mem_map_of_mem
abbrev Xe:=@decide_eq_false
abbrev Xf:=@List.mem_of_getElem?
abbrev Xg:=@List.drop_eq_nil_of_le
abbrev Xh:=@Nat.zero_add
abbrev Xi:=@cond_false
abbrev Xj:=@Nat.add_mul
abbrev Xk:=@Array.getElem?_eq_some_iff
abbrev Xl:=@Option.isNone_iff_eq_none
abbrev Xm:=@Nat.lt_of_lt_of_le
abbrev Xn:=@List.take_succ_eq_append_getElem
abbrev Xo:=@List.mem_append_right
abbrev Xp:=@decide_eq_false_iff_not
abbrev Xq:=@List.mapM_cons
abbrev Xr:=@Array.getElem?_eq_getElem
abbrev Xs:=@Bool.not_eq_true'
abbrev Xt:=@List.drop_drop
abbrev Xu:=@Nat.testBit_two_pow_mul_add
abbrev Xv:=@List.getElem?_take
abbrev Xw:=@true_and
abbrev Xx:=@Bool.not_eq_true
abbrev Xy:=@Nat.le_succ
abbrev Xz:=@List.map_congr_left
abbrev XA:=@List.mem_filter
abbrev XB:=@Classical.byContradiction
abbrev XC:=@Bool.or_true
abbrev XD:=@Option.isSome_map
abbrev XE:=@cond_true
abbrev XF:=@List.singleton_append
abbrev XG:=@Array.ext'
abbrev XH:=@List.flatMap_cons
abbrev XI:=@Int.eq_ofNat_of_zero_le
abbrev XJ:=@List.replicate_succ
abbrev XK:=@List.length_pos_iff
abbrev XL:=@Option.getD_some
abbrev XM:=@Nat.div_div_eq_div_mul
abbrev XN:=@List.find?_eq_none
abbrev XO:=@Bool.or_self
abbrev XP:=@List.map_append
abbrev XQ:=@Bool.or_assoc
abbrev XR:=@Bool.not_true
abbrev XT:=@Nat.div_lt_of_lt_mul
abbrev XU:=@List.exists_mem_of_ne_nil
abbrev XV:=@Bool.not_false
abbrev XW:=@List.getElem?_take_of_lt
abbrev XX:=@List.getElem_of_mem
abbrev XY:=@Nat.min_eq_left
abbrev XZ:=@List.mem_filterMap
abbrev K0:=@List.foldl_cons
abbrev K1:=@Bool.or_eq_true
abbrev K2:=@Bool.not_eq_false'
abbrev K3:=@List.map_eq_append_iff
abbrev K4:=@List.contains_nil
abbrev K5:=@Nat.lt_or_ge
abbrev K6:=@List.length_replicate
abbrev K7:=@List.mem_flatMap
abbrev K8:=@Array.toList_map
abbrev Ka:=@Int.tdiv_eq_ediv_of_nonneg
abbrev Kb:=@Nat.add_le_add_left
abbrev Kc:=@Nat.div_add_mod
abbrev Kd:=@List.getElem?_zip_eq_some
abbrev Ke:=@List.append_inj
abbrev Kf:=@Nat.mul_comm
abbrev Kg:=@Nat.add_zero
abbrev Kh:=@Nat.add_comm
abbrev Ki:=@List.eq_of_mem_replicate
abbrev Kj:=@Int.le_of_lt
abbrev Kk:=@Bool.false_eq_true
abbrev Kl:=@Bool.false_and
abbrev Km:=@List.getElem?_cons_zero
abbrev Kn:=@List.take_add_one
abbrev Ko:=@List.ext_getElem?
abbrev Kp:=@Int.toNat_natCast
abbrev Kq:=@Int.pow_pos
abbrev Kr:=@List.sum_cons
abbrev Kt:=@Bool.false_or
abbrev Ku:=@if_false
abbrev Kv:=@forall_eq_or_imp
abbrev Kw:=@beq_self_eq_true
abbrev Kx:=@List.take_length
abbrev Ky:=@List.any_eq_true
abbrev Kz:=@Nat.le_div_iff_mul_le
abbrev KA:=@List.length_filter_le
abbrev KB:=@Nat.mul_zero
abbrev KC:=@Nat.mod_lt
abbrev KD:=@List.take_append_of_le_length
abbrev KE:=@beq_eq_false_iff_ne
abbrev KF:=@List.getD_cons_succ
abbrev KG:=@of_decide_eq_false
abbrev KH:=@List.set_cons_zero
abbrev KJ:=@Option.bind_assoc
abbrev KK:=@List.getElem?_set
abbrev KL:=@Classical.not_not
abbrev KM:=@decide_eq_decide
abbrev KN:=@Nat.lt_succ_self
abbrev KO:=@Nat.le_add_right
abbrev KP:=@List.filter_cons
abbrev KQ:=@List.ext_getElem
abbrev KR:=@Int.pow_succ
abbrev KS:=@Int.le_total
abbrev KT:=@Int.ediv_le_self
abbrev KU:=@Int.add_comm
abbrev KV:=@Int.ediv_nonneg
abbrev KW:=@Nat.sub_mul
abbrev KZ:=@List.map_id
theorem oP:(∀{α:Type}(a b:α),(A a=A b)=(a=b))/\∀{α β:Type}a(b:β)(c:α)d,((a,b)=(c,d))=(a=c/\b=d):=⟨λa b=>Option.some.injEq a b,λa b c d=>Prod.mk.injEq a b c d⟩
structure gP where
 Ty:Type
 El:Ty->Type
inductive bL where|e(k j:Nat)|l(s j:Nat)|x(k j:Nat)|r(d j:Nat)|z(s j:Nat)deriving DecidableEq
def bL.uD:bL->Bool|.r _ _=>Y|.z _ _=>Y|_=>I
inductive g_ where|bA|cU|bF(t:bL)deriving DecidableEq
inductive Name where|bE(s:Nat)|x(k:Nat)deriving DecidableEq
inductive C(U:gP):Type where|int(k:IntKind)(n:Int)|bool(b:Bool)|nils|nilp|slice(T:U.Ty)(l:List (U.El T))(tl:g_)|mref(t:bL)|po(T:U.Ty)(o:Option (U.El T))|xp(k:Nat)|jk
structure LC(U:gP)where
 T:U.Ty
 l:List (U.El T)f:Nat
def Name.nI:Name->Bool|.x _=>Y|.bE _=>I
inductive aA(U:gP):Type where|c(x:C U)|agg(cs:List (C U))|tup(vs:List (Bool×List (C U)))|ptr(nm:Name)(off:Nat)|ap(nm:Name)(off:Nat)(k:IntKind)(len:Nat)(n:Int)|ep(cs:List (C U))|mp(t:bL)(n off:Nat)|vw(t:bL)(n:Nat)|fn(f:FuncId)|clo(f:FuncId)(nms:List Name)|gd(g:Bool)(v:aA U)|nb(p q:Prop)|cY
variable{U:gP}
def C.dC(f f2:bL->Option bL)(h:Nat->Option Nat):C U->C U
 |.slice T l (.bF t)=>.slice T l (match f t with|some t'=>.bF t'|none=>.bA)|.mref t=>match f2 t with
  |some t'=>.mref t'|none=>.jk
 |.xp k=>match h k with
  |some k'=>.xp k'|none=>.jk
 |c=>c
def aA.dC(f f2:bL->Option bL)(h:Nat->Option Nat):aA U->aA U|.c x=>.c (x.dC f f2 h)|.agg cs=>.agg (cs.map (C.dC f f2 h))|.tup vs=>.tup (vs.map λx=>(x.1,x.2.map (C.dC f f2 h)))|.ep cs=>.ep (cs.map (C.dC f f2 h))|.gd b v=>.gd b (v.dC f f2 h)|.nb p q=>.nb p q|.ptr ..=>.cY|.ap ..=>.cY|.fn f=>.fn f|.mp ..=>.cY|.vw ..=>.cY|.clo ..=>.cY|.cY=>.cY
structure cW(U:gP)where
 dE:DecidableEq U.Ty
 eg:(T:U.Ty)->U.El T
 enc:(T:U.Ty)->U.El T->List (C U)jz:(T:U.Ty)->List (C U)->Option (U.El T)ue:U.Ty->Bool
 sz:U.Ty->Nat
 bytes:U.Ty->Nat
 dQ:U.Ty->TypeId
 iO:TypeId->Option U.Ty
 var:TypeId->Option (Bool×List (C U))f_:TypeId->Nat->Option (Nat×TypeId)arr:TypeId->Option (Nat×TypeId)rS:TypeId->Bool
def wL(fn:List (aA U)->List (List (C U))->Option (List Prop×aA U×List (List (C U)))):List (aA U)->List (List (C U))->List (bL×LC U)->Option (List Prop×aA U×List (List (C U))×List (bL×LC U)):=λxs aC aB=>match aB with
 |[]=>match fn xs aC with
  |some (ps,r,X')=>A (ps,r,X',[])|none=>aT
 |_::_=>aT
structure Fs(U:gP)where
 qO:Nat->Bool:=λ_=>false
 wr:Bool:=false
 EG:Bool:=false
 Uw:Bool:=false
 dU:Bool:=false
 fn:List (aA U)->List (List (C U))->Option (List Prop×aA U×List (List (C U)))m_:List (aA U)->List (List (C U))->List (bL×LC U)->Option (List Prop×aA U×List (List (C U))×List (bL×LC U)):=wL fn
structure cD(U:gP)where
 fn:FuncId->Option (Fs U)wr:Bool
 ml:Bool
instance:CoeFun (cD U) λ_=>FuncId->Option (Fs U):=⟨cD.fn⟩
structure bY(U:gP)where
 n:Nat
 env:Nat->aA U
 mem:Name->Option (List (C U))aZ:bL->Bool
 ls:bL->Option (LC U)mu:Bool
 vw:Bool
structure d_(U:gP)where
 val:Option (aA U):=none
 mem:List (Name×List (C U)):=[]du:List bL:=[]ls:List (bL×LC U):=[]
def bY.put(E:bY U)(d:Option Nat)(v:aA U):bY U:=match d with|some k=>{E with env:=λj=>bif Nat.beq j k then v else E.env j}|none=>E
def Yo(m:Name->Option (List (C U))):List (Name×List (C U))->Name->Option (List (C U))|[],nm=>m nm|(a,cs)::r,nm=>if nm=a then A cs else Yo m r nm
def ZU(m:bL->Option (LC U)):List (bL×LC U)->bL->Option (LC U)|[],t=>m t|(a,x)::r,t=>if t=a then A x else ZU m r t
def gI(m:bL->Option (LC U))(e:d_ U):bL->Option (LC U):=λt=>bif e.du.contains t then aT else ZU m e.ls t
def bY.dw(E:bY U)(d:Option Nat)(e:d_ U):bY U:={E.put d (e.val.getD .cY)with mem:=Yo E.mem e.mem,aZ:=λt=>E.aZ t||e.du.contains t,ls:=gI E.ls e}
def mR:Value->Option (C U)|.int k n=>A (.int k n)|.bool b=>A (.bool b)|.slice aT 0 0=>A .nils|.pointer aT=>A .nilp|_=>aT
def Wi:Value->Option (aA U)|.agg cs=>(cs.toList.mapM mR).map .agg|v=>(mR v).map .c
def bY.bU(E:bY U):Operand->Option (aA U)|.tmp t=>A (E.env t)|.const v=>Wi v|.func f=>A (.fn f)|.global _=>aT
def aA.cells:aA U->Option (List (C U))|.c x=>A [x]|.agg cs=>A cs|.ptr (.x k) 0=>A [.xp k]|_=>aT
def l_(ag:Bool)(cs:List (C U)):Option (aA U):=match ag,cs with|true,cs=>A (.agg cs)|false,[c]=>A (.c c)|false,_=>aT
def bQ(n:Int):Prop:=-9223372036854775808<=n/\n<=9223372036854775807
def wz(wr:Bool)(k:IntKind)(n:Int):List Prop×C U:=match wr,k with|false,.i64=>([bQ n],.int .i64 n)|_,k=>([],.int k (k.wrap n))
def FG(wr:Bool)(op:BinOp)(x y:C U):Option (List Prop×C U):=match x,y with
 |.int k a,.int k' b=>match op with
  |.shl=>A ([0<=b],.int k (k.wrap (a*2^min b.toNat k.bits)))|.shr=>A ([0<=b],.int k (a.fdiv (2^min b.toNat k.bits)))|.eql=>if k=k' then A ([],.bool (a==b))else aT|.neq=>if k=k' then A ([],.bool (a !=b))else aT|.lss=>if k=k' then A ([],.bool (decide (a<b)))else aT|.leq=>if k=k' then A ([],.bool (decide (a<=b)))else aT|.gtr=>if k=k' then A ([],.bool (decide (b<a)))else aT|.geq=>if k=k' then A ([],.bool (decide (b<=a)))else aT|.add=>if k=k' then A (wz wr k (a+b))else aT|.sub=>if k=k' then A (wz wr k (a-b))else aT|.mul=>if k=k' then A (wz wr k (a*b))else aT|.quo=>if k=k' then A ([b≠0],.int k (k.wrap (a.tdiv b)))else aT|.rem=>if k=k' then A ([b≠0],.int k (a.tmod b))else aT|.and=>if k=k' then A ([],.int k (k.wrap (BitVec.ofInt k.bits a&&&BitVec.ofInt k.bits b).toNat))else aT|.or=>if k=k' then A ([],.int k (k.wrap (BitVec.ofInt k.bits a|||BitVec.ofInt k.bits b).toNat))else aT|.xor=>if k=k' then A ([],.int k (k.wrap (BitVec.ofInt k.bits a^^^BitVec.ofInt k.bits b).toNat))else aT|.andNot=>if k=k' then A ([],.int k (k.wrap (BitVec.ofInt k.bits a&&&~~~BitVec.ofInt k.bits b).toNat))else aT
 |_,_=>aT
def HV(op:BinOp)(a b:Bool):Option (C U):=match op with|.eql=>A (.bool (a==b))|.neq=>A (.bool (a !=b))|_=>aT
def sP:List (C U)->List (C U)->Option Bool|[],[]=>A Y|.int k a::r,.int k' b::s=>if k=k' then(sP r s).map λx=>a==b&&x else aT|.bool a::r,.bool b::s=>(sP r s).map λx=>a==b&&x|_,_=>aT
def sM:List (C U)->List (C U)->Bool|[],[]=>Y|.int _ _::r,.int _ _::s=>sM r s|.bool _::r,.bool _::s=>sM r s|_,_=>I
def NV(wr:Bool)(op:UnOp)(x:C U):Option (List Prop×C U):=match op,x with|.not,.bool b=>A ([],.bool !b)|.neg,.int k n=>A (wz wr k (-n))|.xor,.int k n=>A ([],.int k (k.wrap (BitVec.ofInt k.bits (if k.signed then-1 else k.max)^^^BitVec.ofInt k.bits n).toNat))|_,_=>aT
def tZ(M:cW U)(T:U.Ty):C U->Option (List (U.El T)×g_)
 |.nils=>A ([],.cU)|.slice aE l tl=>match M.dE aE T with|isTrue h=>A (h▸l,tl)|isFalse _=>aT
 |_=>aT
def JK(cs:List (C U))(off:Nat)(new:List (C U)):Option (List (C U)):=if off+J new<=J cs then A (cs.take off++new++cs.drop (off+J new))else aT
def Gx(M:cW U)(t:TypeId)(i:Nat):Option (Nat×Nat):=match M.f_ t i with
 |some (off,ft)=>match M.var ft with
  |some (_,zs)=>A (off,J zs)|none=>aT
 |none=>match M.arr t with
  |some (_,et)=>match M.var et with
   |some (_,zs)=>A (i*J zs,J zs)|none=>aT
  |none=>aT
def yd(M:cW U)(t:TypeId):List (C U)->List (Nat×List (C U))->Option (List (C U))|cs,[]=>A cs|cs,(i,new)::r=>match Gx M t i with|some (off,n)=>if J new=n then(JK cs off new).bind λcs'=>yd M t cs' r else aT|none=>aT
def tT(k:IntKind):List (C U)->Option (List Int)|[]=>A []|.int k' n::r=>if k=k' then(tT k r).map (n::·)else aT|_=>aT
def J8(n:Int)(j:Nat)(v x:Int):Int:=if n=j then v else x
def mH(k:IntKind)(n v:Int):Nat->List Int->List (C U)|_,[]=>[]|j,x::r=>.int k (J8 n j v x)::mH k n v (j+1) r
def rd(E:bY U)(p:aA U)(ag:Bool)(n:Nat):Option (aA U):=match p with
 |.ptr nm off=>match E.mem nm with
  |some cs=>if off+n<=J cs then l_ ag ((cs.drop off).take n)else aT|none=>aT
 |.ep cs=>if n<=J cs then l_ ag (cs.take n)else aT|.ap nm off k len i=>match E.mem nm with
  |some cs=>if off+len<=J cs then match tT k ((cs.drop off).take len)with
   |some l=>bif ag then aT else A (.c (.int k (aR l (G i) 0)))|none=>aT else aT|none=>aT
 |_=>aT
def iH(E:bY U):Option Operand->Option (Option (aA U))|none=>A aT|some x=>(E.bU x).map A
def C.gC(t:bL)(x:LC U):C U->C U|.mref u=>if u=t then .slice x.T x.l (.bF t)else .mref u|.slice T l (.bF u)=>if u=t then .slice T l .bA else .slice T l (.bF u)|c=>c
def aA.gC(M:cW U)(t:bL)(x:LC U):aA U->aA U|.c y=>.c (y.gC t x)|.agg cs=>.agg (cs.map (C.gC t x))|.tup vs=>.tup (vs.map λy=>(y.1,y.2.map (C.gC t x)))|.ep cs=>.ep (cs.map (C.gC t x))|.gd b v=>.gd b (v.gC M t x)|.mp u n off=>if u=t then .ep ((M.enc x.T (aR x.l n (M.eg x.T))).drop off)else .mp u n off|.vw u n=>if u=t then .cY else .vw u n|v=>v
def bY.q_(M:cW U)(E:bY U)(t:bL):bY U:=match E.ls t with|none=>E|some x=>{E with env:=λk=>(E.env k).gC M t x,mem:=λnm=>(E.mem nm).map λcs=>cs.map (C.gC t x),ls:=λu=>if u=t then aT else E.ls u}
def bY.gC(M:cW U)(E:bY U):List bL->bY U|[]=>E|t::r=>(E.q_ M t).gC M r
def C.oE:C U->List bL|.mref t=>[t]|_=>[]
def RK:List (C U)->List bL|[]=>[]|c::r=>c.oE++RK r
def aA.oE:aA U->List bL|.c x=>x.oE|.agg cs=>RK cs|.gd _ v=>v.oE|.mp t _ _=>[t]|.vw t _=>[t]|_=>[]
def nN(s:List (bL×bL))(t:bL):Option bL:=match s with|[]=>aT|(a,b)::r=>if b=t then A a else nN r t
def JN(s:List (bL×bL))(t:bL):Option bL:=match s with|[]=>aT|(a,b)::r=>if a=t then A b else JN r t
def mN(mine:bL->Bool)(nm:bL)(c:C U)(seen:List (bL×bL)):C U×List (bL×bL):=match c with|.slice T l (.bF t)=>if mine t&&(JN seen t).isNone&&(nN seen nm).isNone then(.slice T l (.bF nm),(t,nm)::seen)else(.slice T l .bA,seen)|.mref t=>if mine t&&(JN seen t).isNone&&(nN seen nm).isNone then(.mref nm,(t,nm)::seen)else(.jk,seen)|.xp _=>(.jk,seen)|c=>(c,seen)
def iF(mine:bL->Bool)(nm:Nat->bL):(j:Nat)->List (C U)->List (bL×bL)->List (C U)×List (bL×bL)|_,[],seen=>([],seen)|j,c::r,seen=>((mN mine (nm j) c seen).1::(iF mine nm (j+1) r (mN mine (nm j) c seen).2).1,(iF mine nm (j+1) r (mN mine (nm j) c seen).2).2)
def Ua(mine:bL->Bool)(nm:Nat->bL)(v:aA U)(seen:List (bL×bL)):Option (aA U×List (bL×bL)):=match v with|.c x=>A (.c (mN mine (nm 0) x seen).1,(mN mine (nm 0) x seen).2)|.agg cs=>A (.agg (iF mine nm 0 cs seen).1,(iF mine nm 0 cs seen).2)|.fn f=>A (.fn f,seen)|_=>aT
def zL:aA U->Option Name|.ptr nm 0=>A nm|_=>aT
def Ci(os:List (Name×List (C U)))(nm:Name):Bool:=match os with|[]=>I|(a,_)::r=>if a=nm then Y else Ci r nm
def zt:aA U->Option (Name×(Name->aA U))|.ptr nm off=>A (nm,λn=>.ptr n off)|.clo f [nm]=>A (nm,λn=>.clo f [n])|_=>aT
def JU(E:bY U)(ps:Nat->Bool):(i:Nat)->List (aA U)->List (Name×List (C U))->List (bL×bL)->Option (List (aA U)×List (Name×List (C U))×List (bL×bL))
 |_,[],os,seen=>A ([],os,seen)|i,v::r,os,seen=>match zt v with
  |some (nm,mk)=>match E.mem nm with|none=>aT|some cs=>if Ci os nm then aT else match JU E ps (i+1) r (os++[(nm,(iF (λt=>!E.aZ t) (.x (J os)) 0 cs seen).1)]) (iF (λt=>!E.aZ t) (.x (J os)) 0 cs seen).2 with
    |some (vs,os',s)=>A (mk (.x (J os))::vs,os',s)|none=>aT
  |none=>match Ua (λt=>ps i&&!E.aZ t) (.e i) v seen with|none=>aT|some (h,seen')=>match JU E ps (i+1) r os seen' with|some (vs,os',s)=>A (h::vs,os',s)|none=>aT
def YA(d:Nat):bL->Option bL|.r 0 j=>A (.r d (2*j))|.x k j=>if j<64 then A (.r d (2*(64*k+j)+1))else aT|_=>aT
def yO(d:Nat):bL->Option bL|.r d' m=>if d'=d then if m%2=0 then A (.r 0 (m/2))else A (.x (m/2/64) (m/2%64))else aT|_=>aT
def kC(d:Nat)(aB:List (bL×LC U))(t:bL):Option bL:=match ZU (λ_=>aT) aB t with|some _=>YA d t|none=>aT
def nj(E:bY U)(d:Nat):List (bL×LC U)->Option (List (bL×LC U))|[]=>A []|(t,x)::r=>match YA d t,nj E d r with|some t',A l=>if(E.ls t').isNone&&!E.aZ t' then A ((t',x)::l)else aT|_,_=>aT
def AJ(d:Nat)(aB:List (bL×LC U))(h:Nat->Option Nat):List (Name×List (C U))->List (List (C U))->Option (List (Name×List (C U)))|[],[]=>A []|(nm,_)::r,cs::s=>(AJ d aB h r s).map ((nm,cs.map (C.dC (YA d) (kC d aB) h))::·)|_,_=>aT
def jS:List (Name×List (C U))->Nat->Name->Option Nat|[],_,_=>aT|(a,_)::r,k,nm=>if a=nm then A k else jS r (k+1) nm
def rR(os:List (Name×List (C U)))(k:Nat):Option Nat:=match os[k]? with|some (.x j,_)=>A j|_=>aT
def zg:List (C U)->List Name->List Name|[],have_=>have_|.xp k::r,have_=>zg r (if Nat.blt k 8&&!have_.contains (.x k)then have_++[.x k]else have_)|_::r,have_=>zg r have_
def nX:List (aA U)->List Name|[]=>[]|v::r=>match zt v with|some (nm,_)=>nm::nX r|none=>nX r
def sr(E:bY U):List Name->List Name->List Name|[],have_=>have_|nm::r,have_=>sr E r (match E.mem nm with|some cs=>zg cs have_|none=>have_)
def pf(E:bY U)(args:List (aA U)):List (aA U):=((sr E (nX args) (nX args)).drop (J (nX args))).map (.ptr · 0)
def vI(os:List (Name×List (C U))):List (C U)->List (C U)->List (C U)|.xp k::r,c::s=>(match jS os 0 (.x k)with|some k'=>.xp k'|none=>c)::vI os r s|_::r,c::s=>c::vI os r s|[],s=>s|_,[]=>[]
def Ax(E:bY U)(os:List (Name×List (C U))):List (C U)×Name->List (C U)|(cs,nm)=>match E.mem nm with|some cs0=>vI os cs0 cs|none=>cs
def mO(m:bL->Option (LC U))(s:List (bL×bL)):List bL->List (bL×LC U)
 |[]=>[]|t::r=>match nN s t with
  |some u=>match JN s u,m u with
   |some t',A x=>if t'=t/\t.uD=I then(t,x)::mO m s r else mO m s r|_,_=>mO m s r
  |none=>mO m s r
def aA.isP:aA U->Bool|.ptr _ _=>Y|_=>I
def pX(Γ:cD U)(E:bY U)(d:Nat)(f:FuncId)(args:List (aA U)):Option (List Prop×d_ U):=match Γ f with|none=>aT|some s=>match JU E s.qO 0 (args++pf E args) [] []with|none=>aT|some (vs,os,dj)=>match s.m_ (vs.take (J args)) (os.map λx=>Ax E os (x.2,x.1)) (bif s.wr then mO E.ls dj (dj.map (·.2))else[])with|none=>aT|some (ps,r,xs,aB)=>bif r.isP then aT else match AJ d aB (rR os) os xs,nj E d aB with|some m,A l=>A (ps,{val:=A (r.dC (YA d) (kC d aB) (rR os)),mem:=m,du:=dj.map (·.1),ls:=l})|_,_=>aT
def C.eO(E:bY U):C U->C U
 |.mref t=>match E.ls t with
  |some x=>.slice x.T x.l .bA|none=>.jk
 |.slice T l (.bF _)=>.slice T l .bA|.xp _=>.jk|c=>c
def aA.eO(E:bY U):aA U->Option (aA U)|.c x=>A (.c (x.eO E))|.agg cs=>A (.agg (cs.map (C.eO E)))|.fn f=>A (.fn f)|_=>aT
def T8(Γ:cD U)(f:FuncId):Bool:=match Γ f with|some s=>s.Uw|none=>I
def zv(Γ:cD U)(E:bY U)(f:FuncId)(args:List (aA U)):Option (List Prop×d_ U):=match Γ f,args.mapM (aA.eO E)with
 |some s,A vs=>match s.m_ vs [] []with
  |some (ps,.c (.int k n),[],[])=>A (ps,{val:=A (.c (.int k n))})|some (ps,.c (.bool b),[],[])=>A (ps,{val:=A (.c (.bool b))})|_=>aT
 |_,_=>aT
def C.lJ:C U->C U|.slice T l _=>.slice T l .bA|.mref _=>.jk|.xp _=>.jk|c=>c
def aA.lJ:aA U->Option (aA U)|.c x=>A (.c x.lJ)|.agg cs=>A (.agg (cs.map C.lJ))|.fn f=>A (.fn f)|_=>aT
def C.plain:C U->Bool|.slice _ _ .bA=>Y|.slice ..=>I|.mref _=>I|.xp _=>I|_=>Y
def ZO4(Γ:cD U)(f:FuncId):Bool:=match Γ f with|some s=>s.dU|none=>I
def Aq(E:bY U):List (aA U)->Option (List (aA U)×List (Name×List (C U)))
 |[.ptr nm 0]=>match E.mem nm with|some cs=>A ([.ptr (.x 0) 0],[(nm,cs.map C.lJ)])|none=>aT
 |xs=>match xs.mapM aA.lJ with|some vs=>A (vs,[])|none=>aT
def zu(Γ:cD U)(E:bY U)(d:Nat)(f:FuncId)(args:List (aA U)):Option (List Prop×d_ U):=match Γ f,Aq E args with
 |some s,A (vs,os)=>match s.m_ vs (os.map (·.2)) []with
  |some (ps,.ptr (.x k) 0,xs,[])=>if Nat.beq k (J os)&&Nat.beq (J xs) (k+1)&&xs.all (λcs=>cs.all C.plain)&&(E.mem (.bE d)).isNone then A (ps,{val:=A (.ptr (.bE d) 0),mem:=(os.map Prod.fst++[Name.bE d]).zip xs})else aT|_=>aT
 |_,_=>aT
def lenOf(M:cW U)(E:bY U)(t:TypeId):aA U->Option (C U)
 |.c (.mref u)=>match M.iO t,E.ls u with
  |some aE,A x=>match M.dE aE x.T with|isTrue _=>A (.int .i64 (J x.l))|isFalse _=>aT
  |_,_=>aT
 |.c .nils=>match M.iO t with
  |some _=>A (.int .i64 0)|none=>aT
 |.c (.slice T l _)=>match M.iO t with
  |some aE=>match M.dE aE T with
   |isTrue _=>A (.int .i64 (J l))|isFalse _=>aT
  |none=>aT
 |_=>aT
def zh(M:cW U)(E:bY U)(T:U.Ty):C U->Option (List (U.El T)×Nat×Option bL)
 |.mref t=>match E.ls t with
  |some x=>match M.dE x.T T with
   |isTrue h=>A (h▸x.l,x.f,A t)|isFalse _=>aT
  |none=>aT
 |c=>match tZ M T c with
  |some (l,.cU)=>A (l,J l,aT)|some (l,.bF t)=>if E.aZ t then aT else A (l,J l,A t)|_=>aT
def ZVe:C U->Bool|.mref _=>Y|_=>I
def Ad(M:cW U)(E:bY U)(d:Nat)(t:TypeId)(x y:C U):Option (List Prop×d_ U):=match M.iO t with|none=>aT|some T=>match zh M E T x,tZ M T y with|some (l,f,u),A (l',_)=>if(E.ls (.r d 0)).isNone&&!E.aZ (.r d 0)&&!u.toList.contains (.r d 0)then A ([( J l+J l')*M.bytes T<=140737488355328],{val:=A (.c (.mref (.r d 0))),du:=u.toList,ls:=[(.r d 0,⟨T,l++l',f⟩)]})else aT|_,_=>aT
def BO(M:cW U)(E:bY U)(d:Nat)(t:TypeId)(x y:C U):Option (List Prop×d_ U):=match M.iO t with
 |none=>aT|some T=>match tZ M T x,tZ M T y with
  |some (l,tl),A (l',_)=>let res:C U:=.slice T (l++l') (.bF (.r d 0))
   let room:Prop:=( J l+J l')*M.bytes T<=140737488355328
   match tl with
   |.bA=>aT|.cU=>A ([room],{val:=A (.c res)})|.bF u=>match E.aZ u with
    |true=>aT|false=>A ([room],{val:=A (.c res),du:=[u]})
  |_,_=>aT
def A0(h:Bool)(x y:C U):Option (C U):=match x,y with|.int k a,.int k' b=>if k=k' then A (.int k (if h then if a<b then b else a else if b<a then b else a))else aT|_,_=>aT
def Gj(M:cW U)(t:TypeId)(x:C U)(lo s h:Option (aA U)):Option (List Prop×C U):=match M.iO t with|none=>aT|some T=>match tZ M T x with|none=>aT|some (l,tl)=>match lo,s,h with|none,aT,aT=>A ([],.slice T l tl)|some (.c (.int _ a)),aT,aT=>A ([0<=a/\a<=J l],.slice T (l.drop (G a)) tl)|none,A (.c (.int _ b)),aT=>A ([0<=b/\b<=J l],.slice T (l.take (G b)) .bA)|some (.c (.int _ a)),A (.c (.int _ b)),aT=>A ([0<=a/\a<=b/\b<=J l],.slice T ((l.take (G b)).drop (G a)) .bA)|none,A (.c (.int _ b)),A (.c (.int _ m))=>A ([0<=b/\b<=J l,m=b],.slice T (l.take (G b)) .cU)|some (.c (.int _ a)),A (.c (.int _ b)),A (.c (.int _ m))=>A ([0<=a/\a<=b/\b<=J l,m=b],.slice T ((l.take (G b)).drop (G a)) .cU)|_,_,_=>aT
def yw(p:aA U)(off n:Nat):Option (aA U):=match p with|.ptr nm o=>A (.ptr nm (o+off))|.ep cs=>if off+n<=J cs then A (.ep (cs.drop off))else aT|_=>aT
def ti(x:Option (List Prop×C U)):Option (List Prop×d_ U):=x.map λ(ps,c)=>(ps,{val:=A (.c c)})
def uj(M:cW U)(T:U.Ty):(i:Nat)->List (Nat×aA U)->Option (List (U.El T))
 |_,[]=>A []|i,(k,v)::r=>if k=i then match v.cells with
   |some cs=>match M.jz T cs with|some x=>(uj M T (i+1) r).map (x::·)|none=>aT
   |none=>aT else aT
def Nx(M:cW U)(E:bY U)(t:TypeId)(u:bL)(n:Nat):Option (List Prop×d_ U):=match M.iO t,E.ls u with
 |some T,A x=>match M.dE T x.T,(M.var (M.dQ x.T)).bind λp=>M.jz x.T p.2 with
  |isTrue _,A z=>A ([x.f<=n],{ls:=[(u,⟨x.T,x.l.take n++List.replicate ( J x.l-n) z,x.f⟩)]})|_,_=>aT
 |_,_=>aT
def TJ(M:cW U)(E:bY U)(dst:Option Nat)(b:Builtin)(args:List Operand)(ts:List TypeId):Option (List Prop×d_ U):=match b,args,ts with
 |.len,[x],[t]=>match E.bU x with
  |some v=>(lenOf M E t v).map λc=>([],{val:=A (.c c)})|none=>aT
 |.append,[x,y],[t,t']=>match dst,E.bU x,E.bU y with
  |some d,A (.c x),A (.c y)=>if t=t' then bif E.mu||ZVe x then Ad M E d t x y else BO M E d t x y else aT|_,_,_=>aT
 |.clear,[x],[t]=>match E.bU x with
  |some (.vw u n)=>Nx M E t u n|_=>aT
 |.min,[x,y],_=>match E.bU x,E.bU y with|some (.c x),A (.c y)=>(A0 I x y).map λc=>([],{val:=A (.c c)})|_,_=>aT
 |.max,[x,y],_=>match E.bU x,E.bU y with
  |some (.c x),A (.c y)=>(A0 Y x y).map λc=>([],{val:=A (.c c)})|_,_=>aT
 |_,_,_=>aT
def VY(M:cW U)(Γ:cD U)(E:bY U)(dst:Option Nat)(c:Call):Option (List Prop×d_ U):=match c.callee with
 |.builtin b=>TJ M E dst b c.args.toList c.argTypes.toList|.value g=>match E.bU g,c.args.toList.mapM E.bU with
  |some (.fn f),A vs=>bif T8 Γ f then zv Γ E f vs else match bif ZO4 Γ f then zu Γ E (dst.getD 0) f vs else aT with|some r=>A r|none=>pX Γ E (dst.getD 0) f vs
  |some (.clo f nms),A vs=>pX Γ E (dst.getD 0) f (vs++nms.map (.ptr · 0))|_,_=>aT
 |_=>aT
def FW(l:List (Nat×Operand)):Bool:=l.all λx=>match x.2 with|.const (.int _ _)=>Y|_=>I
def Gt(E:bY U)(dst:Option Nat)(T:U.Ty)(l:List (U.El T)):Option (List Prop×d_ U):=match dst with|some d=>if(E.ls (.r d 0)).isNone&&!E.aZ (.r d 0)then A ([],{val:=A (.c (.mref (.r d 0))),ls:=[(.r d 0,⟨T,l,0⟩)]})else aT|none=>aT
def xC(M:cW U)(Γ:cD U)(o:Oper)(E:bY U):Option (List Prop×d_ U):=match o.op with
 |.move x|.assign x=>(E.bU x).bind λv=>match v with|.cY|.gd ..=>aT|v=>A ([],{val:=A v})
 |.alloc t=>match o.dst,M.var t with
  |some d,A (_,zs)=>if(E.mem (.bE d)).isSome then aT else A ([],{val:=A (.ptr (.bE d) 0),mem:=[(.bE d,zs)]})|_,_=>aT
 |.box t x=>match o.dst,M.var t,(E.bU x).bind aA.cells with
  |some d,A (_,zs),A cs=>if(E.mem (.bE d)).isSome||J cs !=J zs then aT else A ([],{val:=A (.ptr (.bE d) 0),mem:=[(.bE d,cs)]})|_,_,_=>aT
 |.build t parts=>match M.var t,parts.toList.mapM λ(i,x)=>((E.bU x).bind aA.cells).map (i,·)with
  |some (Y,zs),A ps=>(yd M t zs ps).map λcs=>([],{val:=A (.agg cs)})|_,_=>aT
 |.buildSlice t n parts=>match M.iO t,parts.toList.mapM λ(i,x)=>(E.bU x).map (i,·)with|some T,A ps=>if J ps=n/\n*M.sz T<=16777216 then(uj M T 0 ps).bind λl=>bif E.mu&&FW parts.toList then Gt E o.dst T l else A ([],{val:=A (.c (.slice T l .cU))})else aT|_,_=>aT
 |.load t p=>match M.var t,E.bU p with
  |some (ag,zs),A (.mp u n off)=>match E.ls u with
   |some x=>if off+J zs<=M.sz x.T then(l_ ag (((M.enc x.T (aR x.l n (M.eg x.T))).drop off).take (J zs))).map λv=>([],{val:=A v})else aT|none=>aT
  |some (ag,zs),A (.c (.po T o))=>(rd E (.ep (M.enc T (o.getD (M.eg T)))) ag (J zs)).map λv=>([o.isSome=Y],{val:=A v})|some (ag,zs),A p=>(rd E p ag (J zs)).map λv=>([],{val:=A v})|_,_=>aT
 |.store t p x=>match M.var t,E.bU p,(E.bU x).bind aA.cells with
  |some (_,zs),A (.ptr nm off),A new=>match E.mem nm with
   |some cs=>if J new=J zs then(JK cs off new).map λcs'=>([],{mem:=[(nm,cs')]})else aT|none=>aT
  |some (_,zs),A (.mp u n off),A new=>match E.ls u with
   |some x=>if J new=J zs then match(JK (M.enc x.T (aR x.l n (M.eg x.T))) off new).bind (M.jz x.T)with|some y=>A ([x.f<=n],{ls:=[(u,⟨x.T,x.l.set n y,x.f⟩)]})|none=>aT else aT|none=>aT
  |some (_,zs),A (.ap nm off k len n),A [.int k' x]=>match E.mem nm with
   |some cs=>if off+len<=J cs/\k=k'/\J zs=1 then match tT k ((cs.drop off).take len)with|some l=>A ([],{mem:=[(nm,cs.take off++mH k n x 0 l++cs.drop (off+len))]})|none=>aT else aT|none=>aT
  |_,_,_=>aT
 |.nilCheck x=>match E.bU x with
  |some (.ptr nm off)=>A ([],{val:=A (.ptr nm off)})|some (.ep cs)=>A ([],{val:=A (.ep cs)})|some (.mp u n off)=>if(E.ls u).isSome then A ([],{val:=A (.mp u n off)})else aT|some (.c (.po T o))=>A ([o.isSome=Y],{val:=A (.c (.po T o))})|_=>aT
 |.binOp op t x y _=>match E.bU x,E.bU y with
  |some (.c (.bool a)),A (.c (.bool b))=>match M.var t with
   |some (I,[.bool _])=>(HV op a b).map λc=>([],{val:=A (.c c)})|_=>aT
  |some (.c (.slice _ l _)),A (.c .nils)=>match op,M.iO t with
   |.eql,A _=>A ([],{val:=A (.nb (l=[]) True)})|.neq,A _=>A ([],{val:=A (.nb True (l=[]))})|_,_=>aT
  |some (.c (.po _ o)),A (.c .nilp)=>match op,M.var t with
   |.eql,A (I,[.nilp])=>A ([],{val:=A (.c (.bool o.isNone))})|.neq,A (I,[.nilp])=>A ([],{val:=A (.c (.bool o.isSome))})|_,_=>aT
  |some (.ptr _ _),A (.c .nilp)=>match op,M.var t with
   |.eql,A (I,[.nilp])=>A ([],{val:=A (.c (.bool I))})|.neq,A (I,[.nilp])=>A ([],{val:=A (.c (.bool Y))})|_,_=>aT
  |some (.c .nilp),A (.c .nilp)=>match op,M.var t with
   |.eql,A (I,[.nilp])=>A ([],{val:=A (.c (.bool Y))})|.neq,A (I,[.nilp])=>A ([],{val:=A (.c (.bool I))})|_,_=>aT
  |some (.c a),A (.c b)=>ti (FG Γ.wr op a b)|some (.agg a),A (.agg b)=>match op,M.rS t,sP a b,M.var t with
   |.eql,Y,A r,A (_,zs)=>if sM zs a then A ([],{val:=A (.c (.bool r))})else aT|.neq,Y,A r,A (_,zs)=>if sM zs a then A ([],{val:=A (.c (.bool !r))})else aT|_,_,_,_=>aT
  |_,_=>aT
 |.unOp op _ x=>match E.bU x with
  |some (.c a)=>ti (NV Γ.wr op a)|_=>aT
 |.convert src dst x=>match M.var src,M.var dst,E.bU x with|some (I,[.int _ _]),A (I,[.int k _]),A (.c (.int _ n))=>A ([],{val:=A (.c (.int k (k.wrap n)))})|_,_,_=>aT
 |.slice t x lo hi mx=>match E.bU x,iH E lo,iH E hi,iH E mx with
  |some (.ptr nm off),A aT,A aT,A aT=>match M.arr t,M.iO o.type,E.mem nm with
   |some (len,et),A T,A cs=>if off=0/\J cs=len/\M.sz T=1/\M.dQ T=et then match cs.mapM λc=>M.jz T [c]with
    |some l=>A ([],{val:=A (.c (.slice T l .cU)),mem:=[(nm,[])]})|none=>aT else aT|_,_,_=>aT
  |some (.c (.mref u)),A (A (.c (.int _ a))),A aT,A aT=>match M.iO t,E.ls u with
   |some aE,A x=>match M.dE aE x.T with
    |isTrue _=>bif E.vw then A ([0<=a/\a<=J x.l],{val:=A (.vw u (G a))})else aT|isFalse _=>aT
   |_,_=>aT
  |some (.c x),A lo,A hi,A mx=>ti (Gj M t x lo hi mx)|_,_,_,_=>aT
 |.fieldAddr t x f=>match E.bU x,M.f_ t f with
  |some (.mp u n o'),A (off,ft)=>match M.var ft with
   |some _=>if(E.ls u).isSome then A ([],{val:=A (.mp u n (o'+off))})else aT|none=>aT
  |some (.c (.po T o)),A (off,ft)=>match M.var ft with|some (_,zs)=>(yw (.ep (M.enc T (o.getD (M.eg T)))) off (J zs)).map λv=>([o.isSome=Y],{val:=A v})|none=>aT
  |some p,A (off,ft)=>match M.var ft with
   |some (_,zs)=>(yw p off (J zs)).map λv=>([],{val:=A v})|none=>aT
  |_,_=>aT
 |.indexAddr t x i=>match E.bU x,E.bU i with
  |some (.c (.slice T l _)),A (.c (.int _ n))=>match M.iO t with
   |some aE=>match M.dE aE T with
    |isTrue _=>A ([0<=n/\n<J l],{val:=A (.ep (M.enc T (aR l (G n) (M.eg T))))})|isFalse _=>aT
   |none=>aT
  |some (.c (.mref u)),A (.c (.int _ n))=>match M.iO t,E.ls u with
   |some aE,A x=>match M.dE aE x.T with
    |isTrue _=>A ([0<=n/\n<J x.l],{val:=A (.mp u (G n) 0)})|isFalse _=>aT
   |_,_=>aT
  |some (.ptr nm off),A (.c (.int _ n))=>match M.arr t with
   |some (len,et)=>match M.var et with
    |some (I,[.int k _])=>A ([0<=n/\n<len],{val:=A (.ap nm off k len n)})|some (_,zs)=>if 0<=n/\n<len then A ([],{val:=A (.ptr nm (off+G n*J zs))})else aT|none=>aT
   |none=>aT
  |_,_=>aT
 |.extract x i=>match E.bU x with
  |some (.tup vs)=>match vs[i]? with
   |some (ag,cs)=>(l_ ag cs).map λv=>([],{val:=A v})|none=>aT
  |_=>aT
 |.makeFunc f first caps=>match f,first.toList,caps.toList.mapM λx=>(E.bU x).bind zL with
  |.func f,[],A nms=>A ([],{val:=A (.clo f nms)})|_,_,_=>aT
 |.call c=>VY M Γ E o.dst c|_=>aT
def aA.uc:aA U->aA U|.c (.xp k)=>.ptr (.x k) 0|v=>v
def aA.bC:aA U->aA U|.gd _ v=>v.uc|v=>v.uc
def bY.bC(E:bY U):bY U:={E with env:=λk=>(E.env k).bC}
def mF(E:bY U)(aG:Option Bool):List Operand->List Prop
 |[]=>[]|.tmp t::r=>match E.env t with
  |.gd g _=>(match aG with|some aG=>aG=Y->g=Y|none=>g=Y)::mF E aG r|_=>mF E aG r
 |_::r=>mF E aG r
def xR(ops:Array Oper)(E:bY U)(o:Oper):Option (Option Bool):=match o.guard with|none=>A aT|some (j,want)=>match(ops[j]?).bind (·.dst)with
  |some t=>match E.env t with
   |.c (.bool g)=>A (A (if want then g else !g))|.gd g0 (.c (.bool g))=>A (A (g0&&if want then g else !g))|_=>aT
  |none=>aT
def gW:Option Bool->Prop->Prop|none,p=>p|some aG,p=>aG=Y->p
def gV:Option Bool->aA U->aA U|none,v=>v|some aG,v=>.gd aG v
def wB(aG:Option Bool)(c:Prop):aA U->List Prop|.gd g _=>[gW aG (c->g=Y)]|_=>[]
def ZOD(d:Option Nat)(n:Nat):Bool:=match d with|some d=>Nat.blt d n|none=>Y
def lW(l:List Name)(nm:Name):Bool:=match l with|[]=>I|a::r=>if a=nm then Y else lW r nm
def Yj:Option (aA U)->List Name|some (.ptr nm _)=>[nm]|some (.ap nm _ _ _ _)=>[nm]|some (.clo _ nms)=>nms|_=>[]
def aA.dj:aA U->List bL|.c (.mref t)=>[t]|.mp t _ _=>[t]|.vw t _=>[t]|_=>[]
def AY:List Name->List Name|[]=>[]|a::l=>a::l++[.x 0,.x 1,.x 2,.x 3,.x 4,.x 5,.x 6,.x 7]
def dP(o:Oper)(E:bY U):List Name:=match o.op with
 |.load _ p=>Yj (E.bC.bU p)|.store _ p _=>Yj (E.bC.bU p)|.alloc _|.box _ _=>match o.dst with|some d=>[.bE d]|none=>[]
 |.slice _ x _ _ _=>Yj (E.bC.bU x)|.call c=>.bE (o.dst.getD 0)::AY (Yj (match c.callee with|.value g=>E.bC.bU g|_=>aT)++c.args.toList.flatMap λx=>Yj (E.bC.bU x))|_=>[]
def nv(o:Oper):List Operand:=match o.op with
 |.load _ p=>[p]|.store _ p _=>[p]|.nilCheck x=>[x]|.fieldAddr _ x _=>[x]|.indexAddr _ x _=>[x]|.slice _ x _ _ _=>[x]|.call c=>match c.callee with
  |.builtin _=>c.args.toList|_=>[]
 |_=>[]
def eE(o:Oper)(E:bY U):List bL:=(nv o).flatMap λx=>(E.bC.bU x).toList.flatMap aA.dj
def Cn(dE:DecidableEq U.Ty)(aG:Bool):C U->C U->Option (C U)
 |.int k n,.int k' n'=>if k=k' then A (.int k (bif aG then n' else n))else aT|.bool b,.bool b'=>A (.bool (bif aG then b' else b))|.nils,.nils=>A .nils|.nilp,.nilp=>A .nilp|.xp k,.xp k'=>if k=k' then A (.xp k)else aT|.po T o,.po T' o'=>match dE T' T with
  |isTrue h=>A (.po T (bif aG then h▸o' else o))|isFalse _=>aT
 |.slice T l .bA,.slice T' l' .bA=>match dE T' T with|isTrue h=>A (.slice T (bif aG then h▸l' else l) .bA)|isFalse _=>aT
 |_,_=>aT
def vf(dE:DecidableEq U.Ty)(aG:Bool):List (C U)->List (C U)->Option (List (C U))
 |[],[]=>A []|c::r,c'::r'=>match Cn dE aG c c',vf dE aG r r' with
  |some x,A y=>A (x::y)|_,_=>aT
 |_,_=>aT
def js(dE:DecidableEq U.Ty)(aG:Bool)(m:Name->Option (List (C U))):List (Name×List (C U))->Option (List (Name×List (C U)))|[]=>A []|(nm,cs')::r=>match m nm with|none=>aT|some cs=>match vf dE aG cs cs',js dE aG m r with|some x,A y=>A ((nm,x)::y)|_,_=>aT
def pN(M:cW U)(Γ:cD U)(ops:Array Oper)(o:Oper)(E:bY U):Option (List Prop×d_ U):=if ZOD o.dst E.n then match o.op,o.guard with
 |.pick c a b,_=>match xR ops E o,E.bU c,E.bU a,E.bU b with
  |some aG,A c,A a,A b=>match c.bC,a.bC,b.bC with
   |.c (.bool cv),.c (.bool av),.c (.bool bv)=>A (wB aG True c++(wB aG (cv=Y) a++wB aG (cv=I) b),{val:=A (gV aG (.c (.bool (bif cv then av else bv))))})|.c (.bool Y),.c (.bool av),_=>A (wB aG True c++wB aG True a,{val:=A (gV aG (.c (.bool av)))})|.c (.bool I),_,.c (.bool bv)=>A (wB aG True c++wB aG True b,{val:=A (gV aG (.c (.bool bv)))})|_,_,_=>aT
  |_,_,_,_=>aT
 |_,_=>match xR ops E o with|none=>aT|some aG=>match xC M Γ o E.bC with
   |none=>match aG with
    |some I=>A ([],{val:=A (.gd I .cY)})|_=>aT
   |some (ps,e)=>match aG with|none=>A (mF E aT o.op.operands.toList++ps,e)|some aG=>match e with
     |{val:=A v,mem:=[],du:=[],ls:=[]}=>A (mF E (A aG) o.op.operands.toList++ps.map λp=>aG=Y->p,{val:=A (.gd aG v)})|{val:=A v,mem:=m,du:=[],ls:=[]}=>match m.all λx=>lW (dP o E) x.1,js M.dE aG E.mem m with|true,A m'=>A (mF E (A aG) o.op.operands.toList++ps.map λp=>aG=Y->p,{val:=A (.gd aG v),mem:=m'})|_,_=>aT
     |e=>match aG with
      |true=>A (mF E (A Y) o.op.operands.toList++ps,e)|false=>A ([],{val:=A (.gd I .cY)})else aT
def ZyB(E:bY U)(nm:Name):List bL:=match E.mem nm with|some cs=>RK cs|none=>[]
def Zwy(E:bY U):Option (aA U)->List bL|some (.ptr nm _)=>ZyB E nm|some (.clo _ nms)=>nms.flatMap (ZyB E)|some v=>v.oE|none=>[]
def zB:Option (aA U)->List bL|some v=>v.oE|none=>[]
def E3(Γ:cD U):Option (aA U)->Bool
 |some (.fn f)=>match Γ f with
  |some s=>s.wr||s.Uw|none=>I
 |_=>I
def Ms(Γ:cD U)(o:Oper)(E:bY U):List bL:=match o.op with
 |.call c=>match c.callee with
  |.builtin .append=>match c.args.toList with
   |[_,y]=>zB (E.bC.bU y)|_=>[]
  |.value g=>match E3 Γ (E.bC.bU g)with|true=>[]|false=>Zwy E (E.bC.bU g)++c.args.toList.flatMap λx=>Zwy E (E.bC.bU x)
  |_=>[]
 |.slice _ x lo hi _=>bif E.vw&&lo.isSome&&hi.isNone then[]else zB (E.bC.bU x)|.buildSlice _ _ parts=>parts.toList.flatMap λx=>zB (E.bC.bU x.2)|.binOp _ _ x y _=>zB (E.bC.bU x)++zB (E.bC.bU y)|.store _ p x=>match E.bC.bU p with
  |some (.mp ..)=>zB (E.bC.bU x)|_=>[]
 |_=>[]
def qT{α:Type}(M:cW U)(E:bY U)(k:bY U->α):List bL->α|[]=>k E|t::r=>k (E.gC M (t::r))
def bY.c_(M:cW U)(Γ:cD U)(E:bY U)(h:Bool)(o:Oper):bY U:=qT M E id (bif h then Ms Γ o E else[])
def qM(M:cW U)(Γ:cD U)(ops:Array Oper)(h:Bool):List Oper->bY U->Option (List Prop×bY U)
 |[],E=>A ([],E)|o::r,E=>qT M E λE=>match pN M Γ ops o E with
  |none=>aT|some (ps,e)=>match qM M Γ ops h r (E.dw o.dst e)with
   |none=>aT|some (qs,st')=>A (ps++qs,st')
   (bif h then Ms Γ o E else[])
def eU:List Prop->Prop|[]=>True|p::r=>p/\eU r
end Go.AM
namespace Go.AM
variable{U:gP}
inductive m8 where|dU(nm:Name)|dW(t:bL)|cG(t:m8)
structure Gh where
 m:Addr->Option Value
 cA:Addr->Option m8
 ad:Name->Addr
 bs:bL->Option (Value×Nat)
inductive b_(M:cW U)(m:Addr->Option Value):Value->C U->Prop|int(k n):b_ M m (.int k n) (.int k n)|bool(b):b_ M m (.bool b) (.bool b)|nils:b_ M m (.slice none 0 0) .nils|nilp:b_ M m (.pointer none) .nilp|m7(T):b_ M m (.pointer none) (.po T none)|po(T x a)(vs:Nat->Value)(hm:∀j c,(M.enc T x)[j]?=some c->m (a.add j)=some (vs j))(hs:∀j c,(M.enc T x)[j]?=some c->b_ M m (vs j) c):b_ M m (.pointer (some a)) (.po T (some x))|mref(v t)(h:v.oneCell'=true/\v.cells=#[v]):b_ M m v (.mref t)|xp(v k)(h:v.oneCell'=true/\v.cells=#[v]):b_ M m v (.xp k)|jk(v)(h:v.oneCell'=true/\v.cells=#[v]):b_ M m v .jk|fa(T tl):b_ M m (.slice none 0 0) (.slice T [] tl)|slice(T l tl a len cap)(vs:Nat->Nat->Value)(hl:l.length=len)(L:len<=cap)(hm:∀i x,l[i]?=some x->∀j c,(M.enc T x)[j]?=some c->m (a.add (i*M.sz T+j))=some (vs i j))(hs:∀i x,l[i]?=some x->∀j c,(M.enc T x)[j]?=some c->b_ M m (vs i j) c):b_ M m (.slice (some a) len cap) (.slice T l tl)
def dY(M:cW U)(g:Gh)(aZ:bL->Bool)(v:Value):C U->Prop|.slice _ _ .cU=>∀a len cap,v=.slice a len cap->len=cap|.slice T _ (.bF t)=>aZ t=I->∀a len cap,v=.slice (A a) len cap->∀j,len*M.sz T<=j->j<cap*M.sz T->g.cA (a.add j)=A (.dW t)|.mref t=>aZ t=I->∃s,g.bs t=A (v,s)|.xp k=>v=.pointer (A (g.ad (.x k)))|_=>True
def cH(M:cW U)(g:Gh)(aZ:bL->Bool)(v:Value)(c:C U):Prop:=b_ M g.m v c/\dY M g aZ v c
def dJ(M:cW U)(g:Gh)(aZ:bL->Bool)(vs:List Value)(cs:List (C U)):Prop:=J vs=J cs/\∀(j:Nat)v c,vs[j]?=A v->cs[j]?=A c->cH M g aZ v c
def kO(M:cW U)(g:Gh)(aZ:bL->Bool)(v:Value)(ag:Bool)(cs:List (C U)):Prop:=match ag with|true=>∃vs:Array Value,v=.agg vs/\dJ M g aZ vs.toList cs|false=>∃c,cs=[c]/\cH M g aZ v c
def cB(M:cW U)(g:Gh)(aZ:bL->Bool)(live:Name->Bool)(v:Value):aA U->Prop|.c x=>cH M g aZ v x|.agg cs=>∃vs:Array Value,v=.agg vs/\dJ M g aZ vs.toList cs|.tup ws=>∃vs:Array Value,v=.tuple vs/\vs.size=J ws/\∀(j:Nat)u w,vs[j]?=A u->ws[j]?=A w->kO M g aZ u w.1 w.2|.ptr nm off=>(live nm||nm.nI)=Y/\v=.pointer (A ((g.ad nm).add off))|.ap nm off _ len n=>(live nm||nm.nI)=Y/\(0<=n/\n<(len:Int))/\v=.pointer (A ((g.ad nm).add (off+G n)))|.ep cs=>∃a,v=.pointer (A a)/\∀j c,cs[j]?=A c->∃u,g.m (a.add j)=A u/\cH M g aZ u c|.mp t n off=>aZ t=I->∃b len cap s,g.bs t=A (.slice (A b) len cap,s)/\n<len/\v=.pointer (A (b.add (n*s+off)))|.vw t n=>aZ t=I->∃b len cap s,g.bs t=A (.slice b len cap,s)/\n<=len/\v=.slice (if cap=n then b else b.map (·.add (n*s))) (len-n) (cap-n)|.fn f=>v=.func (.func f) #[] #[]|.clo f nms=>(∀nm∈nms,(live nm||nm.nI)=Y)/\v=.func (.func f) #[] (nms.map λnm=>Value.pointer (A (g.ad nm))).toArray|.gd b x=>(b=Y->cB M g aZ live v x)/\(b=I->v=undef)|.nb p q=>∃b,v=.bool b/\(b=Y->p)/\(b=I->q)|.cY=>True
def gB(M:cW U)(w:World)(g:Gh)(t:bL)(x:LC U):Prop:=g.bs t=A (.slice aT 0 0,M.sz x.T)/\x.l=[]/\x.f=0\/∃b len cap,g.bs t=A (.slice (A b) len cap,M.sz x.T)/\J x.l=len/\len<=cap/\x.f<=len/\(∀i y,x.l[i]?=A y->∀j c,(M.enc x.T y)[j]?=A c->∃u,w.cell? (b.add (i*M.sz x.T+j))=A u/\b_ M g.m u c/\(i<x.f->g.m (b.add (i*M.sz x.T+j))=A u)/\(x.f<=i->g.cA (b.add (i*M.sz x.T+j))=A (.dW t)))/\∀j,len*M.sz x.T<=j->j<cap*M.sz x.T->g.cA (b.add j)=A (.dW t)
structure oF(w w':World):Prop where
 os:w'.os=w.os
 tape:w'.tape=w.tape
 output:w'.output=w.output
 size:w.heap.size<=w'.heap.size
structure oy(m:Addr->Option Value)(cA:Addr->Option m8)(w:World):Prop where
 im:∀a v,m a=some v->w.cell? a=some v/\cA a=none
 it:∀a t,cA a=some t->w.frozen? a=false/\∃v,w.cell? a=some v
structure fN where
 w:World
 m:Addr->Option Value
 cA:Addr->Option m8
 sO:Nat->Addr
structure Fr(B:fN)(g:Gh)(w:World):Prop where
 dH:oF B.w w
 sO:∀k,g.ad (.x k)=B.sO k
 mono:∀a v,B.m a=some v->g.m a=some v
 cG:∀a t,B.cA a=some (.cG t)->g.cA a=some (.cG t)/\w.cell? a=B.w.cell? a
 fT:∀a t,g.cA a=some (.cG t)->B.cA a=some (.cG t)gn:∀b,b<B.w.heap.size->(∀o s t,B.cA ⟨b,o,s⟩=some t->∃t',t=.cG t')->w.heap[b]?=B.w.heap[b]?/\∀o s,g.cA ⟨b,o,s⟩=B.cA ⟨b,o,s⟩gC:∀a,a.block<B.w.heap.size->w.frozen? a=B.w.frozen? a
structure cT(M:cW U)(B:fN)(E:bY U)(g:Gh)(a:Act)(w:World):Prop where
 cN:oy g.m g.cA w
 fr:Fr B g w
 env:∀k,cB M g E.aZ (λnm=>(E.mem nm).isSome) (a.tmps.getD k undef) (E.env k)mem:∀nm cs,E.mem nm=some cs->∀j c,cs[j]?=some c->∃v,w.cell? ((g.ad nm).add j)=some v/\g.cA ((g.ad nm).add j)=some (.dU nm)/\cH M g E.aZ v c
 sz:a.tmps.size=E.n
 df:a.defers=[]ls:∀t x,E.ls t=some x->E.aZ t=false/\gB M w g t x
 fresh:∀t,t.uD=true->E.ls t=none->E.aZ t=false->g.bs t=none
inductive Wk:C U->C U->Prop|int(k n):Wk (.int k n) (.int k n)|bool(b):Wk (.bool b) (.bool b)|nilp:Wk .nilp .nilp|m7(T):Wk .nilp (.po T none)|po(T o):Wk (.po T o) (.po T o)|nils:Wk .nils .nils|fa(T):Wk .nils (.slice T [] .bA)|slice(T l tl):Wk (.slice T l tl) (.slice T l .bA)
def Ii(ag:Bool)(z:Value)(zs:List (C U)):Prop:=(ag=Y->∃vs,z=.agg vs)/\(ag=I->z.cells=#[z])/\z.cells.toList.map mR=zs.map A
def TypeDesc.ag:TypeDesc->Bool|.struct _|.array _ _=>Y|_=>I
structure bS(P:Program)(M:cW U):Prop where
 cL:∀T x,(M.enc T x).length=M.sz T
 eK:∀T x c,c∈M.enc T x->c.plain=true
 jb:∀T cs x,M.jz T cs=some x->cs.length=(M.enc T x).length/\∀(j:Nat)c c',cs[j]?=some c->(M.enc T x)[j]?=some c'->Wk c c'
 gR:∀T,0<M.sz T
 gU:∀T,0<M.bytes T
 el:∀T,∃i ag zs z,P.info? (M.dQ T)=some i/\i.size=M.sz T/\i.bytes=M.bytes T/\i.zero=some z/\M.var (M.dQ T)=some (ag,zs)/\zs.length=M.sz T
 sl:∀t T,M.iO t=some T->P.underlying t=some (.slice (M.dQ T))var:∀t ag zs,M.var t=some (ag,zs)->0<zs.length/\∃i z d,P.info? t=some i/\P.underlying t=some d/\i.size=zs.length/\TypeDesc.ag d=ag/\i.zero=some z/\Ii ag z zs/\(ag=false->∀k n,zs=[.int k n]->d=.int k)/\(ag=false->∀b,zs=[.bool b]->d=.bool)/\(∀fs,d=.struct fs->(fs.toList.all λfd=>(P.info? fd.type).isSome)=true)/\∀n e,d=.array n e->(P.info? e).isSome=true
 f_:∀s f off t,M.f_ s f=some (off,t)->∃fs fd,P.underlying s=some (.struct fs)/\fs[f]?=some fd/\fd.offset=off/\fd.type=t
 arr:∀t n e,M.arr t=some (n,e)->P.underlying t=some (.array n e)Cb:P.follows .mixedOrders=true
 rS:∀t,M.rS t=true→∃fs,P.underlying t=some (.struct fs)∧(∀ag zs,M.var t=some (ag,zs)→zs.length=fs.size)∧P.stoodInHeld t=false∧P.eqGuardType P.depth t=false∧∀(i:Nat)f,fs[i]?=some f→f.name≠ "_" ∧f.offset=i∧∀ag zs,M.var t=some (ag,zs)→(∀k n,zs[i]?=some (.int k n)→∃k,P.underlying f.type=some (.int k))∧∀b,zs[i]?=some (.bool b)→P.underlying f.type=some .bool
 ptr:∀t,M.var t=some (false,[.nilp])->∃e,P.underlying t=some (.pointer e)
theorem b_.mono{M m m'}(hm:∀a v,m a=A v->m' a=A v){v}{c:C U}(h:b_ M m v c):b_ M m' v c:=by induction h with|int k n=>exact .int k n|bool b=>exact .bool b|nils=>exact .nils|nilp=>exact .nilp|m7 T=>exact .m7 T|po T x a vs h1 h2 ih=>exact .po T x a vs (λj c L=>hm _ _ (h1 j c L)) ih|mref v t h=>exact .mref v t h|xp v k h=>exact .xp v k h|jk v h=>exact .jk v h|fa T tl=>exact .fa T tl|slice T l tl a len cap vs hl L hm' hs ih=>exact .slice T l tl a len cap vs hl L (λi x hx j c s=>hm _ _ (hm' i x hx j c s)) λi x hx j c s=>ih i x hx j c s
theorem b_.wk{M m v}{c c':C U}(h:b_ M m v c)(s:Wk c c'):b_ M m v c':=by cases s with|int=>exact h|bool=>exact h|nilp=>exact h|m7 T=>cases h;exact .m7 T|po T o=>exact h|nils=>exact h|fa T=>cases h;exact .fa T .bA|slice T l tl=>cases h with|fa=>exact .fa T .bA|slice _ _ _ a len cap vs hl L hm hs=>exact .slice T l .bA a len cap vs hl L hm hs
structure db(g g':Gh)(aZ Zv:bL->Bool)(live YY:Name->Bool):Prop where
 m:∀a v,g.m a=some v->g'.m a=some v
 dW:∀a t,Zv t=false->g.cA a=some (.dW t)->g'.cA a=some (.dW t)aZ:∀t,Zv t=false->aZ t=false
 ad:∀nm,live nm=true->YY nm=true/\g'.ad nm=g.ad nm
 bs:∀t v,Zv t=false->g.bs t=some v->g'.bs t=some v
 yk:∀k,g'.ad (.x k)=g.ad (.x k)
theorem db.refl(g)(aZ)(live):db g g aZ aZ live live:=⟨λ_ _ h=>h,λ_ _ _ h=>h,λ_ h=>h,λ_ h=>⟨h,rfl⟩,λ_ _ _ h=>h,λ_=>rfl⟩
section bN
variable{M:cW U}{g g':Gh}{aZ Zv:bL->Bool}{live YY:Name->Bool}
theorem dY.bN(k:db g g' aZ Zv live YY){v c}(h:dY M g aZ v c):dY M g' Zv v c:=by
 unfold dY at*;split at h;.exact h
 .intro hd a len ab hv j h1 h2;exact k.dW _ _ hd (h (k.aZ _ hd) a len ab hv j h1 h2)
 .intro hd;obtain⟨s,hs⟩:=h (k.aZ _ hd);exact⟨s,k.bs _ _ hd hs⟩
 .rw[k.yk];exact h
 .trivial
theorem cH.bN(k:db g g' aZ Zv live YY){v c}(h:cH M g aZ v c):cH M g' Zv v c:=⟨h.1.mono k.m,h.2.bN k⟩
theorem dJ.bN(k:db g g' aZ Zv live YY){v c}(h:dJ M g aZ v c):dJ M g' Zv v c:=⟨h.1,λj v c s L=>(h.2 j v c s L).bN k⟩
theorem kO.bN(k:db g g' aZ Zv live YY){v ag c}(h:kO M g aZ v ag c):kO M g' Zv v ag c:=by cases ag with|true=>obtain⟨vs,s,h2⟩:=h;exact⟨vs,s,h2.bN k⟩|false=>obtain⟨c',s,h2⟩:=h;exact⟨c',s,h2.bN k⟩
theorem cB.bN(k:db g g' aZ Zv live YY){v}:∀{x},cB M g aZ live v x->cB M g' Zv YY v x
 |.c x,h=>cH.bN k (c:=x) h|.agg _,h=>by obtain⟨vs,h1,h2⟩:=h;exact⟨vs,h1,h2.bN k⟩|.tup ws,h=>by obtain⟨vs,h1,h2,h3⟩:=h;exact⟨vs,h1,h2,λj u w hu hw=>(h3 j u w hu hw).bN k⟩|.ptr nm off,h=>by obtain⟨h1,h2⟩:=h;cases hl:live nm with|true=>exact⟨by rw[(k.ad nm hl).1];rfl,by rw[h2,(k.ad nm hl).2]⟩|false=>rw[hl]at h1;cases nm with|bE s=>cases h1|x j=>exact⟨by grind,by rw[h2,k.yk]⟩
 |.ap nm off _ len n,h=>by
  obtain⟨h1,h2,h3⟩:=h;cases hl:live nm with
  |true=>exact⟨by rw[(k.ad nm hl).1];rfl,h2,by rw[h3,(k.ad nm hl).2]⟩|false=>
   rw[hl]at h1;cases nm with
   |bE s=>cases h1|x j=>exact⟨by grind,h2,by rw[h3,k.yk]⟩
 |.ep cs,h=>by obtain⟨a,h1,h2⟩:=h;exact⟨a,h1,λj c L=>let⟨u,hu,hr⟩:=h2 j c L;⟨u,k.m _ _ hu,hr.bN k⟩⟩|.mp t n off,h=>λhd=>by obtain⟨b,len,af,s,h1,h2,h3⟩:=h (k.aZ _ hd);exact⟨b,len,af,s,k.bs _ _ hd h1,h2,h3⟩|.vw t n,h=>λhd=>by obtain⟨b,len,af,s,h1,h2,h3⟩:=h (k.aZ _ hd);exact⟨b,len,af,s,k.bs _ _ hd h1,h2,h3⟩|.fn f,h=>h|.clo f nms,h=>by
  obtain⟨h1,h2⟩:=h;have h3:∀nm∈nms,(YY nm||nm.nI)=Y/\g'.ad nm=g.ad nm:=by intro nm hn;have h1:=h1 nm hn;cases hl:live nm with|true=>exact⟨by rw[(k.ad nm hl).1];rfl,(k.ad nm hl).2⟩|false=>rw[hl]at h1;cases nm with|bE s=>cases h1|x j=>exact⟨by grind,k.yk j⟩
  refine⟨λnm hn=>(h3 nm hn).1,?_⟩;simp_all|.gd b x,h=>⟨λhb=>cB.bN k (h.1 hb),h.2⟩|.nb _ _,h=>h|.cY,_=>trivial
theorem gB.bN(k:db g g' aZ Zv live YY){w w' t x}(s:Zv t=I)(hm:∀a v,g.m a=A v->w'.cell? a=A v)(ht:∀a,g.cA a=A (.dW t)->w'.cell? a=w.cell? a)(h:gB M w g t x):gB M w' g' t x:=by
 rcases h with⟨h1,h2⟩|⟨b,len,cap,h1,h2,h3,h4,h5,h6⟩;.exact .inl ⟨k.bs _ _ s h1,h2⟩
 .refine .inr ⟨b,len,cap,k.bs _ _ s h1,h2,h3,h4,λi y hy j c L=>?_,λj a1 a2=>k.dW _ _ s (h6 j a1 a2)⟩;obtain⟨u,h7,h8,h9,ab⟩:=h5 i y hy j c L;refine⟨u,?_,h8.mono k.m,λhi=>k.m _ _ (h9 hi),λhi=>k.dW _ _ s (ab hi)⟩;grind
end bN
structure jG(w w':World)(aE:Addr->Prop):Prop where
 dH:oF w w'
 cell:∀a,a.block<w.heap.size->¬aE a->w'.cell? a=w.cell? a
 frozen:∀a,a.block<w.heap.size->w'.frozen? a=w.frozen? a
 some:∀a v,w.cell? a=some v->∃v',w'.cell? a=some v'
 heap:∀b,b<w.heap.size->(∀o s,¬aE ⟨b,o,s⟩)->w'.heap[b]?=w.heap[b]?
theorem jG.refl(w)(aE):jG w w aE:=⟨⟨rfl,rfl,rfl,Qa _⟩,λ_ _ _=>rfl,λ_ _=>rfl,λ_ v h=>⟨v,h⟩,λ_ _ _=>rfl⟩
theorem jG.trans{w w' ab aE}(h:jG w w' aE)(k:jG w' ab aE):jG w ab aE:=by
 refine⟨⟨k.dH.os.trans h.dH.os,k.dH.tape.trans h.dH.tape,k.dH.output.trans h.dH.output,QS h.dH.size k.dH.size⟩,?_,?_,?_,?_⟩;.exact λa s hs=>(k.cell a (Xm s h.dH.size) hs).trans (h.cell a s hs)
 .exact λa s=>(k.frozen a (Xm s h.dH.size)).trans (h.frozen a s)
 .intro a v hv;obtain⟨v',ae⟩:=h.some a v hv;exact k.some a v' ae
 .exact λb hb hs=>(k.heap b (Xm hb h.dH.size) hs).trans (h.heap b hb hs)
theorem jG.xi{w w' aE T}(h:jG w w' aE)(aa:∀a,aE a->T a):jG w w' T:=⟨h.dH,λa ha ht=>h.cell a ha λhs=>ht (aa a hs),h.frozen,h.some,λb hb ht=>h.heap b hb λo s hs=>ht o s (aa _ hs)⟩
theorem jG.alloc(w)(o)(aE):jG w (w.alloc o) aE:=by
 refine⟨⟨rfl,rfl,rfl,by simp⟩,?_,?_,?_,?_⟩;.exact λa h _=>World.cell?_alloc_lt w o a h
 .exact λa h=>World.frozen?_alloc_old w o a (Nat.ne_of_lt h)
 .exact λa v s=>⟨v,(World.cell?_alloc_lt w o a (World.block_lt_of_cell? w a s)).trans s⟩
 .intro b hb _;show(w.heap.push o)[b]?=_;grind
theorem jG.setCell(w)(a)(v)(aE)(ha:aE a):jG w (w.setCell a v) aE:=by
 refine⟨⟨rfl,rfl,rfl,by simp⟩,?_,?_,?_,?_⟩;.intro b _ h;exact World.cell?_setCell_other w a b v λe=>h (e▸ha)
 .simp_all
 .intro b u s;by_cases e:a=b;.subst e;exact⟨v,World.cell?_setCell_same w a v s⟩
  .exact⟨u,(World.cell?_setCell_other w a b v e).trans s⟩
 .intro b _ h;simp only[World.setCell,Array.getElem?_modify];rw[Q0 λe=>by subst e;exact h a.off a.spot (by cases a;exact ha)]
theorem oF.trans{a b c}(h:oF a b)(k:oF b c):oF a c:=⟨k.os.trans h.os,k.tape.trans h.tape,k.output.trans h.output,QS h.size k.size⟩
theorem oy.lt{m cA w}(h:oy m cA w){a t}(s:cA a=A t):a.block<w.heap.size:=by obtain⟨v,hv⟩:=(h.it a t s).2;exact World.block_lt_of_cell? w a hv
theorem oy.lt'{m cA w}(h:oy m cA w){a v}(s:m a=A v):a.block<w.heap.size:=World.block_lt_of_cell? w a (h.im a v s).1
theorem Fr.step{B g g' w w' aE}(h:Fr B g w)(hi:oy g.m g.cA w)(he:jG w w' aE)(hS:∀a,aE a->∃t,g.cA a=A t/\∀t',t≠.cG t')(hm:∀a v,g.m a=A v->g'.m a=A v)(ho:∀a t,g.cA a=A (.cG t)↔g'.cA a=A (.cG t))(hn:∀b,b<w.heap.size->(∀o s t,g.cA ⟨b,o,s⟩=A t->∃t',t=.cG t')->∀o s,g'.cA ⟨b,o,s⟩=g.cA ⟨b,o,s⟩)(hx:∀k,g'.ad (.x k)=g.ad (.x k)):Fr B g' w':=by
 refine⟨h.dH.trans he.dH,λk=>(hx k).trans (h.sO k),λa v hv=>hm a v (h.mono a v hv),?_,?_,?_,λa ha=>(he.frozen a (Xm ha h.dH.size)).trans (h.gC a ha)⟩;.intro a t ht;obtain⟨h1,h2⟩:=h.cG a t ht;refine⟨(ho a t).1 h1,?_⟩;rw[he.cell a (hi.lt h1) λhs=>?_,h2];grind
 .exact λa t ht=>h.fT a t ((ho a t).2 ht)
 .intro b hb L;obtain⟨h1,h2⟩:=h.gn b hb L;have af:b<w.heap.size:=Xm hb h.dH.size;have al:∀o s t,g.cA ⟨b,o,s⟩=A t->∃t',t=.cG t':=λo s t ht=>L o s t (by grind);refine⟨?_,?_⟩;.rw[he.heap b af λo s hs=>?_,h1];grind
  grind
end Go.AM
namespace Go.AM
variable{U:gP}
def fJ(P:Program)(o:Oper)(a:Act)(w:World)(K:Value->World->Prop):Prop:=(∃v w',(execOp a.eval o).run P w=.ok (.value v) w'/\K v w')\/(∃w',(execOp a.eval o).run P w=.ok .skip w'/\K undef w')\/∃f args w',(execOp a.eval o).run P w=.ok (.enter f args) w'/\Calls P f args w' λe w''=>∃v,e=.returned v/\K v w''
theorem fJ.wp{P o a w K Q}(h:fJ P o a w K):o.wp P a w (λa' s=>∃v,a'=a.put o.dst v/\K v s) Q:=by
 unfold Oper.wp;rcases h with⟨v,s,h,k⟩|⟨s,h,k⟩|⟨f,args,s,h,k⟩;.rw[h];exact⟨v,rfl,k⟩
 .rw[h];exact⟨undef,rfl,k⟩
 .rw[h,Oper.upon_enter];refine Calls.mono k λe ab he=>?_;grind
def Zv(E:bY U)(e:d_ U):bL->Bool:=λt=>E.aZ t||e.du.contains t
def YY(E:bY U)(e:d_ U):Name->Bool:=λnm=>(Yo E.mem e.mem nm).isSome
structure gE(M:cW U)(B:fN)(E:bY U)(g:Gh)(e:d_ U)(v:Value)(w':World)(g':Gh):Prop where
 cN:oy g'.m g'.cA w'
 fr:Fr B g' w'
 bN:db g g' E.aZ (Zv E e) (λnm=>(E.mem nm).isSome) (YY E e)mem:∀nm cs,Yo E.mem e.mem nm=some cs->∀j c,cs[j]?=some c->∃v,w'.cell? ((g'.ad nm).add j)=some v/\g'.cA ((g'.ad nm).add j)=some (.dU nm)/\cH M g' (Zv E e) v c
 val:cB M g' (Zv E e) (YY E e) v (e.val.getD .cY)ls:∀t x,gI E.ls e t=some x->Zv E e t=false/\gB M w' g' t x
 fresh:∀t,t.uD=true->gI E.ls e t=none->Zv E e t=false->g'.bs t=none
theorem ZGn{E:bY U}{e}(s:e.ls=[]){t x}(h:gI E.ls e t=A x):E.ls t=A x/\e.du.contains t=I:=by unfold gI at h;rw[s]at h;cases hk:e.du.contains t with|true=>grind|false=>rw[hk]at h;trivial
theorem cT.gZ{M B E g g' a w w' live YY}(h:cT M B E g a w){e:d_ U}(he:e.ls=[])(k:db g g' E.aZ (Zv E e) live YY)(hm:∀a v,g.m a=A v->w'.cell? a=A v)(ht:∀a t,Zv E e t=I->g.cA a=A (.dW t)->w'.cell? a=w.cell? a):∀t x,gI E.ls e t=A x->Zv E e t=I/\gB M w' g' t x:=by
 intro t x hx;obtain⟨h1,h2⟩:=ZGn he hx;obtain⟨h3,h4⟩:=h.ls t x h1;have s:Zv E e t=I:=by simp only[Zv,h3,h2,XO]
 exact⟨s,h4.bN k s hm λa ha=>ht a t s ha⟩
theorem cT.eM{M B E}{g g':Gh}{a w}(h:cT M B E g a w){e:d_ U}(he:e.ls=[])(hb:∀t,g'.bs t=g.bs t):∀t,t.uD=Y->gI E.ls e t=aT->Zv E e t=I->g'.bs t=aT:=by intro t h0 h1 s;rw[hb];simp only[Zv,QJ]at s;unfold gI at h1;rw[he,s.2]at h1;exact h.fresh t h0 h1 s.1
theorem Act.r8{a:Act}{d v}(h:d<a.tmps.size)(k):(a.put (A d) v).tmps.getD k undef=if k=d then v else a.tmps.getD k undef:=by simp only[Act.put,Array.getD_eq_getD_getElem?,Array.getElem?_setIfInBounds];grind
theorem cT.dw{M B E g g' a w w'}{e:d_ U}{v d}(h:cT M B E g a w)(o:gE M B E g e v w' g')(hd:∀k,d=A k->k<E.n):cT M B (E.dw d e) g' (a.put d v) w':=by
 refine⟨o.cN,o.fr,?_,?_,?_,?_,?_,?_⟩
 .intro k;have bH:∀k,cB M g' (Zv E e) (YY E e) (a.tmps.getD k undef) (E.env k):=λk=>(h.env k).bN o.bN;cases d with|none=>exact bH k|some d=>
   have aa:=hd d rfl;rw[Act.r8 (by rw[h.sz];exact aa)];show cB M g' (Zv E e) (YY E e) _ (bif Nat.beq k d then e.val.getD .cY else E.env k);by_cases hk:k=d
   .subst hk;have:Nat.beq k k=Y:=Nat.beq_refl k;rw[Q5 rfl,this];exact o.val
   .have:Nat.beq k d=I:=by cases hb:Nat.beq k d with|false=>rfl|true=>simp_all
    grind
 .intro nm cs hm;have s:Yo E.mem e.mem nm=A cs:=by cases d<;>exact hm
  exact o.mem nm cs s
 .cases d with|none=>exact h.sz|some d=>show(a.tmps.setIfInBounds d v).size=E.n;simp[h.sz]
 .cases d with|none=>exact h.df|some d=>exact h.df
 .intro t x hx;have:gI E.ls e t=A x/\(E.dw d e).aZ t=Zv E e t:=by cases d<;>exact⟨hx,rfl⟩
  rw[this.2];exact o.ls t x this.1
 .intro t h0 h1 h2;have:gI E.ls e t=aT/\Zv E e t=I:=by cases d<;>exact⟨h1,h2⟩
  exact o.fresh t h0 this.1 this.2
theorem cT.pure{M B E g a w}(h:cT M B E g a w){v}{x:aA U}(hv:cB M g E.aZ (λnm=>(E.mem nm).isSome) v x):gE M B E g {val:=A x} v w g:=by
 have s:Zv E ({val:=A x}:d_ U)=E.aZ:=by funext t;simp[Zv]
 have hl:YY E ({val:=A x}:d_ U)=λnm=>(E.mem nm).isSome:=rfl;refine⟨h.cN,h.fr,?_,?_,?_,?_,?_⟩;.rw[s,hl];exact .refl _ _ _
 .rw[s];exact h.mem
 .grind
 .rw[s];exact λt x hx=>h.ls t x hx
 .rw[s];exact λt h0 h1 h2=>h.fresh t h0 h1 h2
section cells
variable{M:cW U}{g:Gh}{aZ:bL->Bool}{live:Name->Bool}
theorem b_.cE{m v c}(h:b_ M m v c):v.oneCell'=Y/\v.cells=#[v]:=by cases h<;>first|trivial|assumption
theorem cB.uc{v x}(h:cB M g aZ live v x):cB M g aZ live v x.uc:=by
 unfold aA.uc;split
 .rename_i k;have h2:v=.pointer (A (g.ad (.x k))):=h.2;have s:(g.ad (.x k)).add 0=g.ad (.x k):=rfl;exact⟨by simp[Name.nI],by grind⟩
 .exact h
theorem cB.cells{v x cs}(h:cB M g aZ live v x)(s:x.cells=A cs):dJ M g aZ v.cells.toList cs:=by
 cases x;case ptr nm off=>
  unfold aA.cells at s;split at s;.grind
  .grind
  .rename_i k ab;cases ab;cases s;obtain⟨_,rfl⟩:=h;have h0:(g.ad (.x k)).add 0=g.ad (.x k):=rfl;rw[h0];refine⟨rfl,λj u c hu L=>?_⟩;cases j with
   |zero=>
    simp[Value.cells]at hu L;subst hu L;exact⟨.xp _ _ ⟨rfl,rfl⟩,rfl⟩|succ j=>simp at L
  .cases s
 all_goals simp only[aA.cells,Option.some.injEq,reduceCtorEq]at s
 case c x=>subst s;have h':cH M g aZ v x:=h;rw[h'.1.cE.2];refine⟨rfl,λj u c hu L=>?_⟩;grind
 case agg cs'=>subst s;obtain⟨vs,rfl,h'⟩:=h;exact h'
theorem dJ.cE{vs cs}(h:dJ M g aZ vs cs):∀v∈vs,v.oneCell'=Y:=by intro v hv;obtain⟨j,hj,rfl⟩:=XX hv;have s:j<J cs:=h.1▸hj;exact(h.2 j _ _ (Q8 hj) (Q8 s)).1.cE.1
theorem dJ.l_{vs cs}(h:dJ M g aZ vs cs){ag x}(s:l_ ag cs=A x):cB M g aZ live (if ag then .agg vs.toArray else vs.getD 0 undef) x:=by cases ag with|true=>simp only[AM.l_,Option.some.injEq]at s;subst s;exact⟨_,rfl,h⟩|false=>match cs,s with|[c],s=>simp only[AM.l_,Option.some.injEq]at s;subst s;obtain⟨hl,hh⟩:=h;match vs,hl with|[v],_=>exact hh 0 v c rfl rfl
theorem Zkw{v c m}(h:mR v=A c):b_ M m v c/\(∀cA aZ,dY M cA aZ v c)/\v.oneCell'=Y:=by
 unfold mR at h;split at h<;>simp only[Option.some.injEq,reduceCtorEq]at h<;>subst h;.exact⟨.int _ _,λ_ _=>trivial,rfl⟩
 .exact⟨.bool _,λ_ _=>trivial,rfl⟩
 .exact⟨.nils,λ_ _=>trivial,rfl⟩
 .exact⟨.nilp,λ_ _=>trivial,rfl⟩
theorem Zhi{vs cs}(h:vs.map mR=cs.map A):dJ M g aZ vs cs:=by
 have hl:J vs=J cs:=by have:=congrArg List.length h;simpa using this
 refine⟨hl,λj v c hv L=>?_⟩;have s:(vs.map (mR (U:=U)))[j]?=A (mR v):=by rw[QQ,hv];try rfl
 have h2:(cs.map A)[j]?=A (A c):=by rw[QQ,L];try rfl
 rw[h,h2]at s;have h3:=Zkw (M:=M) (m:=g.m) (Option.some.inj s).symm;exact⟨h3.1,h3.2.1 _ _⟩
theorem Zhy:∀{vs:List Value}{cs:List (C U)},vs.mapM mR=A cs->vs.map mR=cs.map A|[],cs,h=>by grind|v::r,cs,h=>by rw[Xq]at h;cases hv:mR (U:=U) v with|none=>simp[hv]at h|some c=>cases hr:r.mapM (mR (U:=U))with|none=>grind|some cs'=>simp[hv,hr]at h;subst h;simp[hv,Zhy hr]
theorem IK{v x}(h:Wi v=A x):cB M g aZ live v x:=by
 unfold Wi at h;split at h;.rename_i cs;cases hm:cs.toList.mapM (mR (U:=U))with
  |none=>simp[hm]at h|some l=>
   simp[hm]at h;subst h;exact⟨cs,rfl,Zhi (Zhy hm)⟩
 .cases hm:mR (U:=U) v with|none=>simp[hm]at h|some c=>simp[hm]at h;subst h;have s:=Zkw (M:=M) (m:=g.m) hm;exact⟨s.1,s.2.1 _ _⟩
end cells
def ZOL(M:cW U)(E:bY U)(g:Gh)(a:Act)(o:Oper):Prop:=∀x∈o.op.operands.toList,∀v,E.bC.bU x=A v->cB M g E.aZ (λnm=>(E.mem nm).isSome) (a.eval x) v
theorem CN{M B}{E:bY U}{g a w}(h:cT M B E g a w)(aG):∀{l},eU (mF E aG l)->(∀b,aG=A b->b=Y)->∀x∈l,∀v,E.bC.bU x=A v->cB M g E.aZ (λnm=>(E.mem nm).isSome) (a.eval x) v
 |y::r,hn,hG,x,hx,v,hv=>by
  have tail:eU (mF E aG r):=by cases y with
   |tmp t=>
    simp only[mF]at hn;split at hn;.exact hn.2
    .exact hn|const _=>exact hn|global _=>exact hn|func _=>exact hn
  rcases Qe.1 hx with rfl|hx;.cases x with
   |tmp t=>
    simp only[bY.bU,bY.bC,Option.some.injEq]at hv;subst hv;have s:=h.env t;simp only[mF]at hn;show cB M g E.aZ _ (a.tmps.getD t undef) _;cases hx:E.env t with
    |gd b y=>
     rw[hx]at hn s;have hb:b=Y:=by cases aG with|none=>exact hn.1|some b'=>exact hn.1 (hG b' rfl)
     exact cB.uc (s.1 hb)|_=>rw[hx]at s;exact cB.uc s
   |const c=>exact IK hv|func f=>simp only[bY.bU,Option.some.injEq]at hv;subst hv;try rfl|global g=>trivial
  .exact CN h aG tail hG x hx v hv
end Go.AM
namespace Go.AM
variable{U:gP}{P:Program}{M:cW U}{B:fN}{E:bY U}{g:Gh}{a:Act}{w:World}
theorem oX{o v x}(h:cT M B E g a w)(s:(execOp a.eval o).run P w=.ok (.value v) w)(hv:cB M g E.aZ (λnm=>(E.mem nm).isSome) v x):fJ P o a w λv w'=>∃g',gE M B E g {val:=A x} v w' g':=.inl ⟨v,w,s,g,h.pure hv⟩
theorem EZ{s:Sem Value}{v w w'}(h:s.run P w=.ok v w'):(do pure (.value (<-s)):Sem Next).run P w=.ok (.value v) w':=by simp[h]
theorem Znw{m wr k n}(h:eU (wz (U:=U) wr k n).1):b_ M m (.int k (k.wrap n)) (wz wr k n).2/\∀cA aZ v,dY M cA aZ v (wz (U:=U) wr k n).2:=by cases wr with
 |true=>exact⟨.int _ _,λ_ _ _=>trivial⟩|false=>
  cases k;case i64=>
   have s:bQ n:=h.1;have:IntKind.i64.wrap n=n:=by unfold bQ at s;simp[IntKind.wrap,IntKind.signed,IntKind.bits];omega
   rw[this];exact⟨.int _ _,λ_ _ _=>trivial⟩
  all_goals exact⟨.int _ _,λ_ _ _=>trivial⟩
theorem eU.append{p q}(h:eU (p++q)):eU p/\eU q:=by induction p with|nil=>trivial|cons x p ih=>exact⟨⟨h.1,(ih h.2).1⟩,(ih h.2).2⟩
theorem Zwn{wr op}{x y c:C U}{ps:List Prop}{m:Addr->Option Value}{u v t p q}(hx:b_ M m u x)(hy:b_ M m v y)(s:FG wr op x y=A (ps,c))(ab:eU ps):∃r,(do eqGuard op t p q u v;binOp op t u v:Sem Value).run P w=.ok r w/\b_ M m r c/\∀cA aZ r,dY M cA aZ r c:=by
 cases hx<;>cases hy<;>simp only[FG,reduceCtorEq]at s;rename_i k a k' b;have cC:∀(r:Value),(binOp op t (.int k a) (.int k' b)).run P w=.ok r w->(do eqGuard op t p q (.int k a) (.int k' b);binOp op t (.int k a) (.int k' b):Sem Value).run P w=.ok r w:=by intro r h;rw[eqGuard_at_int];simpa using h
 have ar:∀(ai:BinOp)(n:Int),op=ai->(binOp op t (.int k a) (.int k' b)).run P w=.ok (.int k (k.wrap n)) w->wz wr k n=(ps,c)->∃r,(do eqGuard op t p q (.int k a) (.int k' b);binOp op t (.int k a) (.int k' b):Sem Value).run P w=.ok r w/\b_ M m r c/\∀cA aZ r,dY M cA aZ r c:=by intro ai n _ h1 h2;have h3:=Znw (M:=M) (U:=U) (m:=m) (wr:=wr) (k:=k) (n:=n) (by grind);rw[h2]at h3;exact⟨_,cC _ h1,h3⟩
 have fi:∀(n:Int),(binOp op t (.int k a) (.int k' b)).run P w=.ok (.int k n) w->c=.int k n->∃r,(do eqGuard op t p q (.int k a) (.int k' b);binOp op t (.int k a) (.int k' b):Sem Value).run P w=.ok r w/\b_ M m r c/\∀cA aZ r,dY M cA aZ r c:=by rintro n h rfl;exact⟨_,cC _ h,.int _ _,λ_ _ _=>trivial⟩
 have fb:∀(b':Bool),(binOp op t (.int k a) (.int k' b)).run P w=.ok (.bool b') w->c=.bool b'->∃r,(do eqGuard op t p q (.int k a) (.int k' b);binOp op t (.int k a) (.int k' b):Sem Value).run P w=.ok r w/\b_ M m r c/\∀cA aZ r,dY M cA aZ r c:=by rintro n h rfl;exact⟨_,cC _ h,.bool _,λ_ _ _=>trivial⟩
 cases op<;>simp only at s<;>(try(split at s))<;>(try(cases s;done))<;>(try subst_vars)<;>(try simp only[oP]at s);case int.int.add.isTrue=>exact ar .add (a+b) rfl (by simp[binOp_add,Op.intArith]) (by assumption)
 case int.int.sub.isTrue=>exact ar .sub (a-b) rfl (by simp[binOp_sub,Op.intArith]) (by assumption)
 case int.int.mul.isTrue=>exact ar .mul (a*b) rfl (by simp[binOp_mul,Op.intArith]) (by assumption)
 case int.int.quo.isTrue=>obtain⟨rfl,rfl⟩:=s;have h0:b≠0:=ab.1;exact fi _ (by simp[binOp_quo,Op.intDiv,h0]) rfl
 case int.int.rem.isTrue=>obtain⟨rfl,rfl⟩:=s;have h0:b≠0:=ab.1;exact fi _ (by simp[binOp_rem,Op.intDiv,h0]) rfl
 case int.int.and.isTrue=>obtain⟨rfl,rfl⟩:=s;exact fi _ (by simp[binOp_and,Op.intBits]) rfl
 case int.int.or.isTrue=>obtain⟨rfl,rfl⟩:=s;exact fi _ (by simp[binOp_or,Op.intBits]) rfl
 case int.int.xor.isTrue=>obtain⟨rfl,rfl⟩:=s;exact fi _ (by simp[binOp_xor,Op.intBits]) rfl
 case int.int.andNot.isTrue=>obtain⟨rfl,rfl⟩:=s;exact fi _ (by simp[binOp_andNot,Op.intBits]) rfl
 case int.int.eql.isTrue=>obtain⟨rfl,rfl⟩:=s;exact fb _ (by simp[binOp_eql]) rfl
 case int.int.neq.isTrue=>obtain⟨rfl,rfl⟩:=s;exact fb _ (by simp[binOp_neq]) rfl
 case int.int.lss.isTrue=>obtain⟨rfl,rfl⟩:=s;exact fb _ (by simp[binOp_lss]) rfl
 case int.int.leq.isTrue=>obtain⟨rfl,rfl⟩:=s;exact fb _ (by simp[binOp_leq]) rfl
 case int.int.gtr.isTrue=>obtain⟨rfl,rfl⟩:=s;exact fb _ (by simp[binOp_gtr]) rfl
 case int.int.geq.isTrue=>obtain⟨rfl,rfl⟩:=s;exact fb _ (by simp[binOp_geq]) rfl
 case int.int.shl=>obtain⟨rfl,rfl⟩:=s;have h0:¬b<0:=Int.not_lt.2 ab.1;exact fi (k.wrap (a*2^min (G b) k.bits)) (by simp[binOp_shl,Op.shift,h0]) rfl
 case int.int.shr=>obtain⟨rfl,rfl⟩:=s;have h0:¬b<0:=Int.not_lt.2 ab.1;exact fi (a.fdiv (2^min (G b) k.bits)) (by simp[binOp_shr,Op.shift,h0]) rfl
theorem Ztw(ok:bS P M){op x y}{c:C U}{m:Addr->Option Value}{t p q s}(ht:M.var t=A (I,[.bool s]))(he:HV op x y=A c):∃r,(do eqGuard op t p q (.bool x) (.bool y);binOp op t (.bool x) (.bool y):Sem Value).run P w=.ok r w/\b_ M m r c/\∀cA aZ r,dY M cA aZ r c:=by
 obtain⟨_,i,z,d,h1,h2,h3,h4,h5,h6,h7,h8,_⟩:=ok.var _ _ _ ht;have hd:=h8 rfl s rfl;subst hd;have h:(Op.equal t (.bool x) (.bool y)).run P w=.ok (x==y) w:=by
  show(Op.equalIn 10000 t (.bool x) (.bool y)).run P w=_;rw[Op.equalIn];simp[run_underlying h2]
 cases op<;>simp only[HV,reduceCtorEq,Option.some.injEq]at he<;>subst he;.refine⟨.bool (x==y),?_,.bool _,λ_ _ _=>trivial⟩;rw[eqGuard_at_bool];simp[binOp,h]
 .refine⟨.bool (x !=y),?_,.bool _,λ_ _ _=>trivial⟩;rw[eqGuard_at_bool];simp[binOp,h,bne]
theorem ZBs{wr op x c ps m u}(hx:b_ M m u x)(h:NV wr op x=A (ps,c))(ab:eU ps):∃r,(Op.unary op u).run P w=.ok r w/\b_ M m r c/\∀cA aZ r,dY M cA aZ r c:=by
 cases hx<;>cases op<;>simp only[NV,reduceCtorEq,oP]at h;.rename_i k n;have s:=Znw (M:=M) (U:=U) (m:=m) (wr:=wr) (k:=k) (n:=-n) (by grind);rw[h]at s;exact⟨_,by simp[Op.unary,Op.intArith],s⟩
 .obtain⟨rfl,rfl⟩:=h;exact⟨_,by rfl,.int _ _,λ_ _ _=>trivial⟩
 .obtain⟨rfl,rfl⟩:=h;exact⟨_,by rfl,.bool _,λ_ _ _=>trivial⟩
theorem Dz{T x l tl v}(h:cH M g E.aZ v x)(he:tZ M T x=A (l,tl)):cH M g E.aZ v (.slice T l tl)/\∃b len s,v=.slice b len s/\J l=len/\len<=s/\(b=aT->len=0/\s=0):=by
 unfold tZ at he;split at he
 .simp only[oP]at he;obtain⟨rfl,rfl⟩:=he;have h1:=h.1;cases h1;exact⟨⟨.fa T .cU,λa len s hv=>by cases hv;rfl⟩,aT,0,0,rfl,rfl,Qa _,λ_=>⟨rfl,rfl⟩⟩
 .rename_i aE l' af;split at he;.rename_i ae _;subst ae;simp only[oP]at he;obtain⟨rfl,rfl⟩:=he;refine⟨h,?_⟩;have h1:=h.1;cases h1 with|fa=>grind|slice _ _ _ a len s vs hl L hm hs=>grind
  .cases he
 .cases he
theorem b_.lT{m T l tl b len cap}(h:b_ M m (.slice (A b) len cap) (.slice T l tl)):∀i x,l[i]?=A x->∀j c,(M.enc T x)[j]?=A c->∃v,m (b.add (i*M.sz T+j))=A v/\b_ M m v c:=by cases h with|slice _ _ _ _ _ _ vs hl L hm hs=>grind
theorem b_.fS{m T l}(tl){b len cap}(hl:J l=len)(L:len<=cap)(h:∀i x,l[i]?=A x->∀j c,(M.enc T x)[j]?=A c->∃v,m (b.add (i*M.sz T+j))=A v/\b_ M m v c):b_ M m (.slice (A b) len cap) (.slice T l tl):=by
 refine .slice T l tl b len cap (λi j=>(m (b.add (i*M.sz T+j))).getD undef) hl L ?_ ?_
 .intro i x hx j c s;obtain⟨v,h1,h2⟩:=h i x hx j c s;rw[h1];try rfl
 .intro i x hx j c s;obtain⟨v,h1,h2⟩:=h i x hx j c s;rw[h1];exact h2
theorem Zu0{T}{l:List (U.El T)}{tl tl'}{b:Option Addr}{len s lo hi mx}(h:cH M g E.aZ (.slice b len s) (.slice T l tl))(h1:lo<=hi)(h2:hi<=len)(h3:hi<=mx)(h4:mx<=s)(ht:tl'=.bA\/tl'=.cU/\mx=hi\/tl'=tl/\hi=len/\mx=s):cH M g E.aZ (.slice (if mx=lo then b else b.map (·.add (lo*M.sz T))) (hi-lo) (mx-lo)) (.slice T ((l.take hi).drop lo) tl'):=by cases b with
 |none=>
  have h0:=h.1;cases h0;have e1:hi=0:=by omega
  have e2:mx=0:=by omega
  have e3:lo=0:=by omega
  subst e1 e2 e3;refine⟨?_,?_⟩;.simpa using b_.fa (M:=M) T tl'
  .unfold dY;grind|some b=>
  have hl:J l=len:=by cases h.1;assumption
  have af:=h.1.lT;refine⟨?_,?_⟩
  .by_cases e:mx=lo
   .have e1:hi=lo:=by omega
    have e2:(l.take hi).drop lo=[]:=by apply Xg;rw[QB];omega
    rw[Q5 e,e2];exact .fS tl' (by simp;omega) (by omega) λi x hx=>by simp at hx
   .rw[Q0 e];refine .fS tl' (by grind) (by omega) ?_;intro i x hx j c L;rw[QY,Xv]at hx;split at hx;.obtain⟨v,h5,h6⟩:=af (lo+i) x hx j c L;refine⟨v,?_,h6⟩;rw[Go.Deep.add_add,show lo*M.sz T+(i*M.sz T+j)=(lo+i)*M.sz T+j by grind];exact h5
    .cases hx
  .rcases ht with rfl|⟨rfl,rfl⟩|⟨rfl,rfl,rfl⟩;.trivial
   .intro a len s hv;grind
   .cases tl' with
    |bA=>trivial|cU=>
     intro a len s hv;simp only[Value.slice.injEq]at hv;have:=h.2 _ _ _ rfl;omega|bF t0=>
     intro hd a len s hv j al am;simp only[Value.slice.injEq]at hv;obtain⟨ae,ak,aj⟩:=hv;by_cases e:mx=lo;.grind
     .rw[Q0 e]at ae;simp only[Qv,Option.some.injEq]at ae;subst ae ak aj;rw[Go.Deep.add_add];refine h.2 hd b _ _ rfl _ ?_ ?_;.rw[KW]at al;omega
      .rw[KW]at am;omega
theorem wR(ok:bS P M)(T)(w):(sizeOf (M.dQ T)).run P w=.ok (M.sz T) w:=by obtain⟨i,ag,zs,z,h,s,h3⟩:=ok.el T;simp[sizeOf,typeInfo,h,s]
theorem pC(ok:bS P M){t T}(h:M.iO t=A T):P.elem t=M.dQ T/\P.underlying t=A (.slice (P.elem t)):=by
 have s:=ok.sl _ _ h;have h2:P.elem t=M.dQ T:=by simp[Program.elem,s]
 grind
def AE(M:cW U)(g:Gh)(aZ:bL->Bool)(live:Name->Bool):Option Value->Option (aA U)->Prop|none,aT=>True|some v,A x=>cB M g aZ live v x|_,_=>False
theorem ZqY(ok:bS P M){live t x c lo hi mx v av ax aw ps}(hx:cH M g E.aZ v x)(aj:AE M g E.aZ live av lo)(af:AE M g E.aZ live ax hi)(ah:AE M g E.aZ live aw mx)(he:Gj M t x lo hi mx=A (ps,c))(ae:eU ps):∃r,(Instr.sliceAt t v av ax aw).run P w=.ok r w/\cH M g E.aZ r c:=by
 unfold Gj at he;split at he;.cases he
 rename_i T hT;split at he;.cases he
 rename_i l tl az;obtain⟨a2,b,len,aa,rfl,hl,L,hb⟩:=Dz hx az;obtain⟨hE,hU⟩:=pC ok hT;have ay:=wR ok T w;rw[<-hE]at ay;have ai:∀{lo' hi' mx':Nat}{tl':g_},lo'<=hi'->hi'<=len->hi'<=mx'->mx'<=aa->tl'=.bA\/tl'=.cU/\mx'=hi'\/tl'=tl/\hi'=len/\mx'=aa->((sizeOf (P.elem t)).run P w).andThen (λs w=>.ok (sliced b lo' hi' mx' s) w)=.ok (sliced b lo' hi' mx' (M.sz T)) w/\cH M g E.aZ (sliced b lo' hi' mx' (M.sz T)) (.slice T ((l.take hi').drop lo') tl'):=λh1 h2 h3 h4 h5=>⟨by rw[ay];rfl,Zu0 a2 h1 h2 h3 h4 h5⟩;have qf:∀{y:aA U}{u:Option Value}{k:IntKind}{n:Int},AE M g E.aZ live u (A (.c (.int k n)))->u=A (.int k n):=by intro y u k n h;cases u with|none=>exact h.elim|some u=>have h1:b_ M g.m u (.int k n):=h.1;cases h1;rfl
 have ab:∀{u:Option Value},AE M g E.aZ live u aT->u=aT:=by intro u h;cases u with|none=>rfl|some u=>exact h.elim
 rw[run_sliceAt_slice w t _ _ _ _ hU];split at he<;>simp only[oP,reduceCtorEq]at he<;>obtain⟨rfl,rfl⟩:=he;.rw[ab aj,ab af,ab ah,run_slice_all w t b len aa hU];obtain⟨h1,h2⟩:=ai (lo':=0) (hi':=len) (mx':=aa) (tl':=tl) (by omega) (by omega) L (by omega) (.inr (.inr ⟨rfl,rfl,rfl⟩));grind
 .rename_i k0 al;have hp:=ae.1;rw[qf (y:=.cY) aj,ab af,ab ah,run_slice_l w t b len aa hU _ _ hp.1 (by omega)];obtain⟨h1,h2⟩:=ai (lo':=G al) (hi':=len) (mx':=aa) (tl':=tl) (by omega) (by omega) L (by omega) (.inr (.inr ⟨rfl,rfl,rfl⟩));grind
 .rename_i k0 hi0;have hp:=ae.1;rw[ab aj,qf (y:=.cY) af,ab ah,run_slice_h w t b len aa hU _ _ hp.1 (by omega)];obtain⟨h1,h2⟩:=ai (lo':=0) (hi':=G hi0) (mx':=aa) (tl':=.bA) (by omega) (by omega) (by omega) (by omega) (.inl rfl);grind
 .rename_i k0 al k1 hi0;have hp:=ae.1;rw[qf (y:=.cY) aj,qf (y:=.cY) af,ab ah,run_slice_lh w t b len aa hU _ _ _ _ hp.1 hp.2.1 (by omega)];obtain⟨h1,h2⟩:=ai (lo':=G al) (hi':=G hi0) (mx':=aa) (tl':=.bA) (by omega) (by omega) (by omega) (by omega) (.inl rfl);grind
 .rename_i k0 hi0 k1 m0;have hp:=ae.1;have hm:m0=hi0:=ae.2.1;subst hm;rw[ab aj,qf (y:=.cY) af,qf (y:=.cY) ah,run_slice_hm w t b len aa hU _ _ _ _ hp.1 (Qz _) (by omega)];obtain⟨h1,h2⟩:=ai (lo':=0) (hi':=G m0) (mx':=G m0) (tl':=.cU) (by omega) (by omega) (by omega) (by omega) (.inr (.inl ⟨rfl,rfl⟩));grind
 .rename_i k0 al k1 hi0 k2 m0;have hp:=ae.1;have hm:m0=hi0:=ae.2.1;subst hm;rw[qf (y:=.cY) aj,qf (y:=.cY) af,qf (y:=.cY) ah,run_slice_lhm w t b len aa hU _ _ _ _ _ _ hp.1 hp.2.1 (Qz _) (by omega)];obtain⟨h1,h2⟩:=ai (lo':=G al) (hi':=G m0) (mx':=G m0) (tl':=.cU) (by omega) (by omega) (by omega) (by omega) (.inr (.inl ⟨rfl,rfl⟩));grind
theorem FZ(ok:bS P M){t ag zs}(ht:M.var t=A (ag,zs)){b vs}(hl:J vs=J zs)(h:∀j v,vs[j]?=A v->w.cell? (b.add j)=A v):(loadVar t b).run P w=.ok (if ag then .agg vs.toArray else vs.getD 0 undef) w:=by
 obtain⟨ae,i,z,d,h1,h2,h3,h4,h5,h6,_⟩:=ok.var _ _ _ ht;have s:(isAgg t).run P w=.ok ag w:=by
  rw[<-h4];cases d<;>simp[isAgg,run_underlying h2,TypeDesc.ag]
 have aa:(sizeOf t).run P w=.ok (J vs) w:=by simp[sizeOf,typeInfo,h1,h3,hl]
 cases ag with
 |true=>simp[loadVar,s,aa,run_loadCells_list w b vs h]|false=>
  have hz:=h6.2.1 rfl;have aj:J zs=1:=by
   have:=congrArg List.length h6.2.2;rw[hz]at this;simpa using this.symm
  match vs,hl with
  |[v],_=>have hv:=h 0 v rfl;rw[Addr.add_zero']at hv;simp[loadVar,s,hv]|[],hl=>grind|_::_::_,hl=>grind
theorem dJ.jL{cs f}(h:∀j c,cs[j]?=A c->cH M g E.aZ (f j) c):dJ M g E.aZ ((List.range (J cs)).map f) cs:=by refine⟨by simp,λj v c s L=>?_⟩;grind
theorem VW{k}:∀{cs:List (C U)}{l},tT k cs=A l->J l=J cs/\∀(j:Nat)n,l[j]?=A n->cs[j]?=A (.int k n)
 |[],l,h=>by simp only[tT,Option.some.injEq]at h;grind|c::cs,l,h=>by
  cases c<;>simp only[tT,reduceCtorEq]at h;rename_i s n0;split at h;.rename_i e;subst e;cases hr:tT k cs with|none=>simp[hr]at h|some l'=>simp only[hr,Qv,Option.some.injEq]at h;subst h;obtain⟨h1,h2⟩:=VW hr;grind
  .cases h
theorem TR(ok:bS P M)(h:cT M B E g a w){t ag zs}(ht:M.var t=A (ag,zs)){p x u}(hp:cB M g E.aZ (λnm=>(E.mem nm).isSome) u p)(s:rd E p ag (J zs)=A x):∃r,(Instr.loadAt t u).run P w=.ok r w/\cB M g E.aZ (λnm=>(E.mem nm).isSome) r x:=by
 unfold rd at s;split at s
 .rename_i nm aa;obtain⟨_,rfl⟩:=hp;split at s
  .rename_i cs af;split at s
   .rename_i ai;let f:Nat->Value:=λj=>(w.cell? ((g.ad nm).add (aa+j))).getD undef;have hf:∀j c,((cs.drop aa).take (J zs))[j]?=A c->w.cell? (((g.ad nm).add aa).add j)=A (f j)/\cH M g E.aZ (f j) c:=by
     intro j c L;rw[Xv,QY]at L;split at L
     .obtain⟨v,h1,_,h3⟩:=h.mem nm cs af _ c L;rw[Go.Deep.add_add];grind
     .cases L
    have ae:J ((cs.drop aa).take (J zs))=J zs:=by rw[QB,QI];omega
    have ab:=dJ.jL (M:=M) (g:=g) (E:=E) (f:=f) λj c L=>(hf j c L).2;refine⟨_,?_,ab.l_ s⟩;simp only[Instr.loadAt,Instr.sureAddr,Sem.run_bind,Sem.run_pure,Result.andThen_ok];refine FZ ok ht (by simp;omega) ?_;intro j v hv;have hj:j<J ((cs.drop aa).take (J zs)):=by have:=(Qc.1 hv).1;simpa using this
    simp_all
   .cases s
  .cases s
 .rename_i cs;obtain⟨b,rfl,hb⟩:=hp;split at s
  .rename_i ai;let f:Nat->Value:=λj=>(g.m (b.add j)).getD undef;have hf:∀j c,(cs.take (J zs))[j]?=A c->w.cell? (b.add j)=A (f j)/\cH M g E.aZ (f j) c:=by
    intro j c L;rw[Xv]at L;split at L;.obtain⟨v,h1,h3⟩:=hb j c L;have h2:=(h.cN.im _ _ h1).1;grind
    .cases L
   have ae:J (cs.take (J zs))=J zs:=by rw[QB];omega
   have ab:=dJ.jL (M:=M) (g:=g) (E:=E) (f:=f) λj c L=>(hf j c L).2;refine⟨_,?_,ab.l_ s⟩;simp only[Instr.loadAt,Instr.sureAddr,Sem.run_bind,Sem.run_pure,Result.andThen_ok];refine FZ ok ht (by simp;omega) ?_;intro j v hv;have hj:j<J (cs.take (J zs)):=by have:=(Qc.1 hv).1;simpa using this
   rw[QQ,List.getElem?_range hj]at hv;simp only[Qv,Option.some.injEq]at hv;subst hv;exact(hf j _ (Q8 hj)).1
  .cases s
 .rename_i nm aa k len i;obtain⟨_,hi,rfl⟩:=hp;split at s
  .rename_i cs af;split at s
   .rename_i ai;split at s
    .rename_i l hl;obtain⟨h1,h2⟩:=VW hl;have ae:J l=len:=by rw[h1,QB,QI];omega
     have aj:l[G i]?=A (aR l (G i) 0):=by simp[List.getD,Q8 (show G i<J l by omega)]
     have L:=h2 _ _ aj;rw[Xv,QY]at L;split at L
     .obtain⟨v,h3,_,h5⟩:=h.mem nm cs af _ _ L;have am:ag=I:=by cases ag with|true=>simp at s|false=>rfl
      subst am;simp only[Xi,Option.some.injEq]at s;subst s;refine⟨v,?_,h5⟩;simp only[Instr.loadAt,Instr.sureAddr,Sem.run_bind,Sem.run_pure,Result.andThen_ok];have hz:[v].length=J zs:=by obtain⟨_,i',z,d,_,_,_,_,_,h6,_⟩:=ok.var _ _ _ ht;have:=congrArg List.length h6.2.2;rw[h6.2.1 rfl]at this;simpa using this
      refine FZ (vs:=[v]) ok ht hz ?_;intro j u hu;cases j with|zero=>simp at hu;subst hu;trivial|succ j=>simp at hu
     .cases L
    .cases s
   .cases s
  .cases s
 .cases s
end Go.AM
namespace Go.AM
variable{U:gP}{P:Program}{M:cW U}{B:fN}{E:bY U}{g:Gh}{a:Act}{w:World}{live:Name->Bool}
theorem Zpk{p x u off n}(s:cB M g E.aZ live u p)(h:yw p off n=A x):∃b,u=.pointer (A b)/\cB M g E.aZ live (.pointer (A (b.add off))) x:=by
 unfold yw at h;split at h
 .simp only[Option.some.injEq]at h;subst h;obtain⟨h1,rfl⟩:=s;exact⟨_,rfl,h1,by rw[Go.Deep.add_add]⟩
 .rename_i cs;split at h
  .rename_i ab;simp only[Option.some.injEq]at h;subst h;obtain⟨b,rfl,hb⟩:=s;refine⟨b,rfl,b.add off,rfl,λj c L=>?_⟩;rw[QY]at L;rw[Go.Deep.add_add];grind
  .cases h
 .cases h
theorem D0(ok:bS P M){t ag zs}(s:M.var t=A (ag,zs))(w):(sizeOf t).run P w=.ok (J zs) w/\(isAgg t).run P w=.ok ag w/\J zs≠0:=by obtain⟨h,i,z,d,h1,h2,h3,h4,h5,h6,_⟩:=ok.var _ _ _ s;refine⟨by simp[sizeOf,typeInfo,h1,h3],?_,by omega⟩;rw[<-h4];cases d<;>simp[isAgg,run_underlying h2,TypeDesc.ag]
theorem Z8J(ok:bS P M){t ft f off ag zs}(hf:M.f_ t f=A (off,ft))(ht:M.var ft=A (ag,zs)){p x u}(hp:cB M g E.aZ live u p)(he:yw p off (J zs)=A x):∃r,(Instr.fieldAt t u f).run P w=.ok r w/\cB M g E.aZ live r x:=by obtain⟨fs,fd,h1,h2,h3,h4⟩:=ok.f_ _ _ _ _ hf;obtain⟨b,rfl,hb⟩:=Zpk hp he;obtain⟨hs,_,hn⟩:=D0 ok ht w;have s:zs≠[]:=λh=>hn (by simp[h]);refine⟨_,?_,hb⟩;simp[Instr.fieldAt,run_underlying h1,h2,Instr.sureAddr,fieldPlace,h4,hs,h3,s]
theorem Zi3(ok:bS P M){t T l tl k}{n:Int}{u}(ht:M.iO t=A T)(hu:cH M g E.aZ u (.slice T l tl))(hn:0<=n/\n<J l):∃r,(Instr.indexAt t u (.int k n)).run P w=.ok r w/\cB M g E.aZ live r (.ep (M.enc T (aR l (G n) (M.eg T)))):=by
 obtain⟨hE,hU⟩:=pC ok ht;have h:=wR ok T w;rw[<-hE]at h;have h1:=hu.1;cases h1 with
 |fa=>grind|slice _ _ _ b len cap vs hl L hm hs=>
  have aa:G n<J l:=by omega
  have hx:l[G n]?=A (aR l (G n) (M.eg T)):=by simp[List.getD,Q8 aa]
  refine⟨.pointer (A (b.add ( G n*M.sz T))),?_,b.add ( G n*M.sz T),rfl,?_⟩;.rw[run_indexAt_slice w t b len cap k n hU,Q5 ⟨hn.1,by omega⟩,h];try rfl
  .intro j c L;rw[Go.Deep.add_add];refine⟨_,hm _ _ hx j c L,hs _ _ hx j c L,?_⟩;have s:=ok.eK _ _ c (Xf L);cases c with
   |slice aE l' tl'=>cases tl'<;>first|trivial|(simp[C.plain]at s)
   |mref t=>trivial|_=>trivial
theorem VS{g aZ v c}(h:c.plain=Y):dY M g aZ v c:=by cases c with
 |slice aE l' tl'=>cases tl'<;>first|trivial|(simp[C.plain]at h)
 |mref t=>trivial|_=>trivial
theorem Oj(h:cT M B E g a w){u x}(hx:E.ls u=A x){v n off}(hp:cB M g E.aZ live v (.mp u n off)):∃b len aa,g.bs u=A (.slice (A b) len aa,M.sz x.T)/\v=.pointer (A (b.add (n*M.sz x.T+off)))/\n<J x.l/\J x.l=len/\len<=aa/\x.f<=len/\(∀i y,x.l[i]?=A y->∀j c,(M.enc x.T y)[j]?=A c->∃u',w.cell? (b.add (i*M.sz x.T+j))=A u'/\b_ M g.m u' c/\(i<x.f->g.m (b.add (i*M.sz x.T+j))=A u')/\(x.f<=i->g.cA (b.add (i*M.sz x.T+j))=A (.dW u)))/\∀j,len*M.sz x.T<=j->j<aa*M.sz x.T->g.cA (b.add j)=A (.dW u):=by
 obtain⟨hd,hL⟩:=h.ls u x hx;obtain⟨b,len,aa,s,h1,h2,h3⟩:=hp hd;rcases hL with⟨h4,_⟩|⟨b',len',cap',h4,h5,h6,h7,h8,h9⟩;.rw[h1]at h4;cases h4
 .rw[h1]at h4;cases h4;exact⟨b,len,aa,h1,h3,by omega,h5,h6,h7,h8,h9⟩
theorem ZAa(ok:bS P M)(h:cT M B E g a w){t ag zs}(ht:M.var t=A (ag,zs)){u x n off y v}(hx:E.ls u=A x)(hp:cB M g E.aZ (λnm=>(E.mem nm).isSome) v (.mp u n off))(aq:off+J zs<=M.sz x.T)(he:l_ ag (((M.enc x.T (aR x.l n (M.eg x.T))).drop off).take (J zs))=A y):∃r,(Instr.loadAt t v).run P w=.ok r w/\cB M g E.aZ (λnm=>(E.mem nm).isSome) r y:=by
 obtain⟨b,len,am,h1,rfl,h3,h4,h5,h6,h7,h8⟩:=Oj h hx hp;have ae:x.l[n]?=A (aR x.l n (M.eg x.T)):=by simp[List.getD,Q8 h3]
 have ai:=ok.cL x.T (aR x.l n (M.eg x.T));let f:Nat->Value:=λj=>(w.cell? (b.add (n*M.sz x.T+off+j))).getD undef;have hf:∀j c,(((M.enc x.T (aR x.l n (M.eg x.T))).drop off).take (J zs))[j]?=A c->w.cell? ((b.add (n*M.sz x.T+off)).add j)=A (f j)/\cH M g E.aZ (f j) c:=by
  intro j c L;rw[Xv,QY]at L;split at L
  .obtain⟨v,h9,ab,_,_⟩:=h7 n _ ae (off+j) c L;rw[Go.Deep.add_add];rw[show n*M.sz x.T+(off+j)=n*M.sz x.T+off+j by omega]at h9;simp only[f,h9];exact⟨rfl,ab,VS (ok.eK _ _ c (Xf L))⟩
  .cases L
 have ao:J (((M.enc x.T (aR x.l n (M.eg x.T))).drop off).take (J zs))=J zs:=by rw[QB,QI];omega
 have s:=dJ.jL (M:=M) (g:=g) (E:=E) (f:=f) λj c L=>(hf j c L).2;refine⟨_,?_,s.l_ he⟩;simp only[Instr.loadAt,Instr.sureAddr,Sem.run_bind,Sem.run_pure,Result.andThen_ok];refine FZ ok ht (by grind) ?_;intro j v hv;have hj:j<J (((M.enc x.T (aR x.l n (M.eg x.T))).drop off).take (J zs)):=by have:=(Qc.1 hv).1;rw[QF,List.length_range]at this;exact this
 rw[QQ,List.getElem?_range hj]at hv;simp only[Qv,Option.some.injEq]at hv;subst hv;exact(hf j _ (Q8 hj)).1
theorem Zyz(h:cT M B E g a w){u x}(hx:E.ls u=A x){v}(hv:cH M g E.aZ v (.mref u)):∃b len cap,v=.slice b len cap/\J x.l=len/\g.bs u=A (v,M.sz x.T)/\(b=aT->len=0/\cap=0)/\len<=cap:=by
 obtain⟨hd,hL⟩:=h.ls u x hx;obtain⟨s,hs⟩:=hv.2 hd;rcases hL with⟨h4,h5,_⟩|⟨b',len',cap',h4,h5,h6,_⟩
 .rw[hs]at h4;cases h4;exact⟨aT,0,0,rfl,by rw[h5];rfl,hs,λ_=>⟨rfl,rfl⟩,Qa _⟩
 .rw[hs]at h4;cases h4;exact⟨A b',len',cap',rfl,h5,hs,λh=>(by cases h),h6⟩
theorem Zgn(ok:bS P M)(h:cT M B E g a w){t u x k}{n:Int}{v}(ht:M.iO t=A x.T)(hx:E.ls u=A x)(hv:cH M g E.aZ v (.mref u))(hn:0<=n/\n<J x.l):∃r,(Instr.indexAt t v (.int k n)).run P w=.ok r w/\cB M g E.aZ live r (.mp u (G n) 0):=by obtain⟨hE,hU⟩:=pC ok ht;have aa:=wR ok x.T w;rw[<-hE]at aa;obtain⟨b,len,s,rfl,h1,h2,h3,h4⟩:=Zyz h hx hv;cases b with|none=>grind|some b=>refine⟨.pointer (A (b.add ( G n*M.sz x.T))),?_,λ_=>⟨b,len,s,_,h2,by omega,rfl⟩⟩;rw[run_indexAt_slice w t b len s k n hU,Q5 ⟨hn.1,by omega⟩,aa];try rfl
theorem Zgz(ok:bS P M){t ft f off z}(hf:M.f_ t f=A (off,ft))(ht:M.var ft=A z)(h:cT M B E g a w){u x}(hx:E.ls u=A x){n o' v}(hp:cB M g E.aZ live v (.mp u n o')):∃r,(Instr.fieldAt t v f).run P w=.ok r w/\cB M g E.aZ live r (.mp u n (o'+off)):=by obtain⟨fs,fd,h1,h2,h3,h4⟩:=ok.f_ _ _ _ _ hf;obtain⟨hd,_⟩:=h.ls u x hx;obtain⟨b,len,aa,s,h5,h6,rfl⟩:=hp hd;obtain⟨ag,zs⟩:=z;obtain⟨hs,_,hn⟩:=D0 ok ht w;have ab:zs≠[]:=λh=>hn (by simp[h]);refine⟨.pointer (A (b.add (n*s+(o'+off)))),?_,λ_=>⟨b,len,aa,s,h5,h6,rfl⟩⟩;simp[Instr.fieldAt,run_underlying h1,h2,Instr.sureAddr,fieldPlace,h4,hs,h3,ab,Go.Deep.add_add,Nat.add_assoc]
theorem Z4u(ok:bS P M){t et len ag zs k}{n:Int}{u nm off}(s:M.arr t=A (len,et))(hz:M.var et=A (ag,zs))(hu:cB M g E.aZ live u (.ptr nm off))(hn:0<=n/\n<len):∃r,(Instr.indexAt t u (.int k n)).run P w=.ok r w/\cB M g E.aZ live r (.ptr nm (off+G n*J zs)):=by
 have h:=ok.arr _ _ _ s;have hl:P.arrayLen t=len:=by simp[Program.arrayLen,h]
 have he:P.elem t=et:=by simp[Program.elem,h]
 obtain⟨hs,_,_⟩:=D0 ok hz w;obtain⟨h2,rfl⟩:=hu;refine⟨.pointer (A (((g.ad nm).add off).add ( G n*J zs))),?_,h2,by rw[Go.Deep.add_add]⟩;rw[run_indexAt_array w t _ k n (by grind),hl,he,Q5 hn,hs];try rfl
theorem Zl7(ok:bS P M){t h len k0 n0 k}{n:Int}{u nm off}(ht:M.arr t=A (len,h))(hz:M.var h=A (I,[.int k0 n0]))(hu:cB M g E.aZ live u (.ptr nm off))(s:0<=n/\n<len):∃r,(Instr.indexAt t u (.int k n)).run P w=.ok r w/\cB M g E.aZ live r (.ap nm off k0 len n):=by obtain⟨r,h1,h2,h3⟩:=Z4u (w:=w) (k:=k) (g:=g) (E:=E) (live:=live) ok ht hz hu s;exact⟨r,h1,h2,s,by rw[h3];simp⟩
theorem ZlR{ws i ag cs x u}(hu:cB M g E.aZ live u (.tup ws))(hi:ws[i]?=A (ag,cs))(s:l_ ag cs=A x):∃r,(Instr.extract u i).run P w=.ok r w/\cB M g E.aZ live r x:=by
 obtain⟨vs,rfl,h1,h2⟩:=hu;have h:i<vs.size:=by have:=(Qc.1 hi).1;omega
 have h3:=h2 i _ _ (Xr h) hi;refine⟨vs[i],by simp[Instr.extract,h],?_⟩;cases ag with|true=>simp only[l_,Option.some.injEq]at s;subst s;exact h3|false=>obtain⟨c,L,hr⟩:=h3;simp only at L;subst L;simp only[l_,Option.some.injEq]at s;subst s;exact hr
theorem ZAM(ok:bS P M)(h:cT M B E g a w){t ty x c u}(hu:cB M g E.aZ live u x)(s:lenOf M E t x=A c):∃r,(Builtin.len_ #[t] ty #[u]).run P w=.ok r w/\cH M g E.aZ r c:=by
 unfold lenOf at s;split at s
 .rename_i t';split at s
  .rename_i aE x hS hx;split at s
   .rename_i ai _;simp only[Option.some.injEq]at s;subst s;obtain⟨hE,hU⟩:=pC ok hS;obtain⟨b,len,aa,rfl,h1,_⟩:=Zyz h hx hu;refine⟨_,run_len_slice w t ty b len aa hU,?_,trivial⟩;rw[h1];exact .int _ _
   .cases s
  .cases s
 .split at s
  .rename_i aE hS;simp only[Option.some.injEq]at s;subst s;obtain⟨hE,hU⟩:=pC ok hS;have h1:b_ M g.m u .nils:=hu.1;cases h1;exact⟨_,run_len_slice w t ty aT 0 0 hU,.int _ _,trivial⟩
  .cases s
 .rename_i T l tl;split at s
  .rename_i aE hS;split at s
   .rename_i ai _;simp only[Option.some.injEq]at s;subst s;obtain⟨hE,hU⟩:=pC ok hS;have h1:b_ M g.m u (.slice T l tl):=hu.1;cases h1 with|fa=>exact⟨_,run_len_slice w t ty aT 0 0 hU,.int _ _,trivial⟩|slice _ _ _ b len aa vs hl L hm hs=>refine⟨_,run_len_slice w t ty (A b) len aa hU,?_,trivial⟩;rw[<-hl];exact .int _ _
   .cases s
  .cases s
 .cases s
theorem Zem{s x y c u v ts ty}(hx:cH M g E.aZ u x)(hy:cH M g E.aZ v y)(h:A0 s x y=A c):∃r,(if s then Builtin.max_ ts ty #[u,v]else Builtin.min_ ts ty #[u,v]).run P w=.ok r w/\cH M g E.aZ r c:=by
 unfold A0 at h;split at h
 .rename_i k p k' q;split at h
  .rename_i hk;subst hk;simp only[Option.some.injEq]at h;subst h;have h1:=hx.1;have h2:=hy.1;cases h1;cases h2;cases s with|true=>exact⟨.int k (if p<q then q else p),by rfl,.int _ _,trivial⟩|false=>exact⟨.int k (if q<p then q else p),by rfl,.int _ _,trivial⟩
  .cases h
 .cases h
theorem TS(off):∀vs(j:Nat)cs,off+j+J vs<=cs.size->((vs.zipIdx j).foldl (λ(cs:Array Value)x=>cs.setIfInBounds (off+x.2) x.1) cs).toList=cs.toList.take (off+j)++vs++cs.toList.drop (off+j+J vs)
 |[],j,cs,h=>by simp|v::vs,j,cs,h=>by
  simp only[List.zipIdx_cons,K0,Qd]at*;rw[TS off vs (j+1) _ (by simp;omega)];rw[Array.toList_setIfInBounds];have e1:(cs.toList.set (off+j) v).take (off+(j+1))=cs.toList.take (off+j)++[v]:=by
   have s:off+j<J cs.toList:=by simp;omega
   rw[show off+(j+1)=off+j+1 by omega,Xn (by simp;omega)];rw[List.take_set_of_le (by omega)];simp
  have e2:(cs.toList.set (off+j) v).drop (off+(j+1)+J vs)=cs.toList.drop (off+j+( J vs+1)):=by rw[List.drop_set_of_lt (by omega)];congr 1;omega
  grind
theorem ZoH{vs new cs cn cs' off}(h:dJ M g E.aZ vs cs)(hn:dJ M g E.aZ new cn)(he:JK cs off cn=A cs'):off+J new<=J vs/\dJ M g E.aZ (vs.take off++new++vs.drop (off+J new)) cs':=by
 unfold JK at he;split at he
 .rename_i ai;simp only[Option.some.injEq]at he;subst he;have h1:=h.1;have h2:=hn.1;refine⟨by omega,?_,?_⟩;.simp;omega
  .intro j v c s L;simp only[Qg]at s L;rw[X8]at s L;simp only[QB]at s L;rw[XY (by omega)]at s;rw[XY (by omega)]at L;split at s;.rename_i hj;rw[Q5 hj]at L;rw[XW hj]at s L;exact h.2 j v c s L
   .rename_i hj;rw[Q0 hj]at L;rw[X8]at s L;rw[h2]at s;split at s;.rename_i aa;rw[Q5 aa]at L;exact hn.2 _ v c s L
    .rename_i aa;rw[Q0 aa]at L;rw[QY]at s L;exact h.2 _ v c s L
 .cases he
theorem Cw{α β:Type}{f}:∀{l:List α}{r:List β},l.mapM f=A r->∀(i:Nat)x,l[i]?=A x->∃y,r[i]?=A y/\f x=A y|[],r,h,i,x,hx=>by simp at hx|a::l,r,h,i,x,hx=>by rw[Xq]at h;cases ha:f a with|none=>simp[ha]at h|some b=>cases hl:l.mapM f with|none=>grind|some r'=>simp[ha,hl]at h;subst h;cases i with|zero=>grind|succ i=>simp at hx;obtain⟨y,s,h2⟩:=Cw hl i x hx;grind
theorem R1{t pl}(ah:∀i s n,Gx M t i=A (s,n)->pl i=A (s,n)):∀aa(ps:List (Nat×List (C U)))vs(cs ab:List (C U)),J aa=J ps->(∀(j:Nat)x y,aa[j]?=A x->ps[j]?=A y->x.1=y.1/\dJ M g E.aZ x.2.cells.toList y.2)->dJ M g E.aZ vs.toList cs->yd M t cs ps=A ab->∃af,Instr.fill pl vs aa=A af/\dJ M g E.aZ af.toList ab
 |[],[],vs,cs,ab,_,_,h,he=>by
  simp only[yd,Option.some.injEq]at he;subst he;exact⟨vs,rfl,h⟩|(i,v)::r,(i',new)::ps,vs,cs,ab,hl,hr,h,he=>by
  obtain⟨hi,hv⟩:=hr 0 _ _ rfl rfl;simp only at hi hv;subst hi;simp only[yd]at he;split at he
  .rename_i s n hf;split at he
   .rename_i ao;cases hs:JK cs s new with
    |none=>grind|some cs1=>
     simp only[hs,Qp]at he;obtain⟨h1,h2⟩:=ZoH h hv hs;have ae:=ah _ _ _ hf;have av:v.cells.size=n:=by have:=hv.1;simp at this;omega
     have am:¬s+v.cells.size>vs.size:=by simp at h1;omega
     let vs1:Array Value:=v.cells.zipIdx.foldl (λcs(c,j)=>cs.setIfInBounds (s+j) c) vs;have al:vs1.toList=vs.toList.take s++v.cells.toList++vs.toList.drop (s+J v.cells.toList):=by show(v.cells.zipIdx.foldl (λcs(c,j)=>cs.setIfInBounds (s+j) c) vs).toList=_;rw[<-Array.foldl_toList,Array.toList_zipIdx];have:=TS s v.cells.toList 0 vs (by simp;omega);simpa using this
     obtain⟨af,aq,ai⟩:=R1 ah r ps vs1 cs1 ab (by simpa using hl) (λj x y hx hy=>hr (j+1) x y (by simpa using hx) (by simpa using hy)) (by grind) he;refine⟨af,?_,ai⟩;simp only[Instr.fill,ae];grind
   .cases he
  .cases he
theorem Zhe:∀(fs:List Field),(fs.all λfd=>(P.info? fd.type).isSome)=Y->∃s,fs.mapM (λf=>(P.info? f.type).map λi=>(f.offset,i.size))=A s|[],_=>⟨[],rfl⟩|f::fs,h=>by simp only[List.all_cons,Q9]at h;obtain⟨i,hi⟩:=QL.1 h.1;obtain⟨pl,aa⟩:=Zhe fs h.2;simp_all
theorem yG{ag z zs}(h:Ii ag z zs):dJ M g E.aZ z.cells.toList zs:=Zhi h.2.2
theorem Ztr(ok:bS P M){t zs cs}(ht:M.var t=A (Y,zs)){h ps}(hl:h.size=J ps)(hr:∀(j:Nat)x y,h[j]?=A x->ps[j]?=A y->x.1=y.1/\dJ M g E.aZ x.2.cells.toList y.2)(he:yd M t zs ps=A cs):∃r,(Instr.build t h).run P w=.ok r w/\cB M g E.aZ live r (.agg cs):=by
 obtain⟨a2,i,z,d,h1,h2,h3,h4,h5,h6,h7,h8,h9,ar⟩:=ok.var _ _ _ ht;have hz:=yG (g:=g) (E:=E) (M:=M) h6;cases d<;>simp only[TypeDesc.ag,Kk]at h4;case struct fs=>
  obtain⟨pl,aj⟩:=Zhe fs.toList (h9 fs rfl);obtain⟨ab,ah,ae⟩:=R1 (t:=t) (pl:=(pl.toArray[·]?)) (by
   intro k am n s;unfold Gx at s;split at s
   .rename_i ak ft hf;split at s
    .rename_i ag au af;cases s;obtain⟨bi,fd,aa,bh,a8,ba⟩:=ok.f_ _ _ _ _ hf;rw[h2]at aa;cases aa;obtain⟨_,ii,_,_,ai,_,av,_⟩:=ok.var _ _ _ af;obtain⟨y,ae,bb⟩:=Cw aj k fd (by grind);grind
    .cases s
   .split at s;.rename_i len et ha;have:=ok.arr _ _ _ ha;grind
    .cases s) h.toList ps z.cells zs cs (by simpa using hl) (λj x y hx hy=>hr j x y (by simpa using hx) hy) hz he;refine⟨_,run_build w t h ab ?_,ab,rfl,ae⟩;simp only[Program.built,h1,h2,h5,aj];exact ah
 case array n e=>
  obtain⟨ie,aq⟩:=QL.1 (ar n e rfl);obtain⟨ab,ah,ae⟩:=R1 (t:=t) (pl:=λi=>A (i*ie.size,ie.size)) (by
   intro k am m s;unfold Gx at s;split at s
   .rename_i ak ft hf;obtain⟨fs,fd,ai,_⟩:=ok.f_ _ _ _ _ hf;grind
   .split at s
    .rename_i len et ha;split at s
     .rename_i ag au af;cases s;have aa:=ok.arr _ _ _ ha;rw[h2]at aa;cases aa;obtain⟨_,ii,_,_,ai,_,av,_⟩:=ok.var _ _ _ af;grind
     .cases s
    .cases s) h.toList ps z.cells zs cs (by simpa using hl) (λj x y hx hy=>hr j x y (by simpa using hx) hy) hz he;refine⟨_,run_build w t h ab ?_,ab,rfl,ae⟩;simp only[Program.built,h1,h2,h5,aq];exact ah
theorem b_.EJ{m v k n}(h:b_ M m v (.int k n)):v=.int k n:=by cases h;rfl
theorem ZdF{t k xs off}(s:P.underlying t=A (.int k))(h):(part t xs off).run P w=.ok xs[off] w:=by simp[part,isAgg,run_underlying s,h]
theorem Zc6{t xs off}(s:P.underlying t=A .bool)(h):(part t xs off).run P w=.ok xs[off] w:=by simp[part,isAgg,run_underlying s,h]
theorem b_.vr{m v b}(h:b_ M m v (.bool b)):v=.bool b:=by cases h;rfl
theorem ZrE:∀{zs as},sM zs as=Y->J zs=J as/\∀(i:Nat)(c:C U),as[i]?=A c->(∃k n,c=C.int k n/\∃k n,zs[i]?=A (C.int k n))\/∃b,c=C.bool b/\∃b,zs[i]?=A (C.bool b)
 |[],[],_=>⟨rfl,λi c h=>by simp at h⟩|[],a::as,h=>by trivial|z::zs,[],h=>by cases z<;>simp[sM]at h|z::zs,a::as,h=>by
  have s:sM zs as=Y:=by cases z<;>cases a<;>simp_all[sM]
  have ih:=ZrE s;refine⟨by simp[ih.1],λi c L=>?_⟩;cases i with
  |succ i=>grind|zero=>simp only[Km,Option.some.injEq]at L⊢;subst L;cases z<;>cases a<;>simp[sM]at h⊢
theorem Zfi{d}{xs ys}{fs:Array Field}{m}(ah:∀(i:Nat)f,fs[i]?=A f→f.name≠ "_" ∧f.offset=i):∀l(i:Nat)as bs(r:Bool),(∀j,l[j]?=fs[i+j]?)->(∀(j:Nat)f(c:C U),l[j]?=A f->as[j]?=A c->(∀k n,c=C.int k n->∃k,P.underlying f.type=A (.int k))/\∀b,c=C.bool b->P.underlying f.type=A .bool)->J as=J l->sP as bs=A r->(∀j c,as[j]?=A c->∃v,xs[i+j]?=A v/\b_ M m v c)->(∀j c,bs[j]?=A c->∃v,ys[i+j]?=A v/\b_ M m v c)->(Op.eqFields (d+1) xs ys l).run P w=.ok r w
 |[],i,[],bs,r,_,_,_,he,_,_=>by cases bs with
  |nil=>simp only[sP,Option.some.injEq]at he;subst he;rfl|cons b bs=>trivial
 |f::l,i,a::as,bs,r,hl,hk,hn,he,hx,hy=>by
  obtain⟨h1,h2⟩:=ah i f (by have:=hl 0;grind);have h:=hk 0 f a rfl rfl;cases bs with
  |nil=>cases a<;>simp[sP]at he|cons b bs=>
   obtain⟨v,hv,sv⟩:=hx 0 a rfl;obtain⟨u,hu,su⟩:=hy 0 b rfl;rw[Kg]at hv hu;obtain⟨af,rfl⟩:=Xk.1 hv;obtain⟨ae,rfl⟩:=Xk.1 hu;have ih:=λr' s=>Zfi (d:=d) ah l (i+1) as bs r' λj=>by have:=hl (j+1);grind (λj f c hf L=>hk (j+1) f c (by simpa using hf) (by simpa using L)) (by simpa using hn) s (λj c hj=>by have:=hx (j+1) c (by simpa using hj);simpa[Nat.add_assoc,Nat.add_comm 1 j]using this) λj c hj=>by have:=hy (j+1) c (by simpa using hj);simpa[Nat.add_assoc,Nat.add_comm 1 j]using this
   cases a<;>cases b<;>simp only[sP,reduceCtorEq]at he
   .rename_i k1 n1 k2 n2;split at he
    .rename_i hk;subst hk;cases s:sP as bs with
     |none=>grind|some r'=>
      simp only[s,Qv,Option.some.injEq]at he;subst he;have ih:=ih r' s;have e1:xs[i]=.int k1 n1:=sv.EJ;have e2:ys[i]=.int k1 n2:=su.EJ;obtain⟨k,h⟩:=h.1 _ _ rfl;simp only[Op.eqFields,h1,ne_eq,not_false_eq_true,Xa,Sem.run_bind,h2,ZdF h af,ZdF h ae,Result.andThen_ok,e1,e2,run_equalIn_int w d f.type k1 k n1 n2 h];cases hb:n1==n2 with|true=>simpa using ih|false=>simp
    .cases he
   .rename_i b1 b2;cases s:sP as bs with|none=>grind|some r'=>simp only[s,Qv,Option.some.injEq]at he;subst he;have ih:=ih r' s;have e1:xs[i]=.bool b1:=sv.vr;have e2:ys[i]=.bool b2:=su.vr;have h:=h.2 _ rfl;simp only[Op.eqFields,h1,ne_eq,not_false_eq_true,Xa,Sem.run_bind,h2,Zc6 h af,Zc6 h ae,Result.andThen_ok,e1,e2,run_equalIn_bool w d f.type b1 b2 h];cases hb:b1==b2 with|true=>simpa using ih|false=>simp
theorem ZhP(ok:bS P M){t p q}{as bs:List (C U)}{r u v}(ht:M.rS t=Y)(hu:cB M g E.aZ live u (.agg as))(hv:cB M g E.aZ live v (.agg bs))(he:sP as bs=A r){ag}{zs:List (C U)}(hz:M.var t=A (ag,zs))(ah:sM zs as=Y):(do eqGuard .eql t p q u v;binOp .eql t u v:Sem Value).run P w=.ok (.bool r) w/\(do eqGuard .neq t p q u v;binOp .neq t u v:Sem Value).run P w=.ok (.bool !r) w:=by
 obtain⟨fs,h1,h0,h2,h3,h4⟩:=ok.rS t ht;obtain⟨xs,rfl,hx⟩:=hu;obtain⟨ys,rfl,hy⟩:=hv;have hf:P.fieldsOf t=fs:=by simp[Program.fieldsOf,h1]
 obtain⟨ae,aq⟩:=ZrE ah;have hl:J as=fs.size:=ae.symm.trans (h0 _ _ hz);have s:=Zfi (P:=P) (M:=M) (w:=w) (d:=9998) (xs:=xs) (ys:=ys) (m:=g.m) (λi f hf=>⟨(h4 i f hf).1,(h4 i f hf).2.1⟩) fs.toList 0 as bs r λj=>by simp λj f c hf L=>by grind (by simpa using hl) he λj c hj=>by
   have h:j<J xs.toList:=by have h5:=(Qc.1 hj).1;have:=hx.1;omega
   have hg:=Q8 h;exact⟨_,by grind,(hx.2 j _ c hg hj).1⟩
   λj c hj=>by
   have h:j<J ys.toList:=by have h5:=(Qc.1 hj).1;have:=hy.1;omega
   have hg:=Q8 h;exact⟨_,by grind,(hy.2 j _ c hg hj).1⟩
 have aa:(Op.equalIn 10000 t (.agg xs) (.agg ys)).run P w=.ok r w:=by rw[run_equalIn_agg w 9999 t xs ys (by grind) h2,hf];exact s
 refine⟨?_,?_⟩;.simp only[Sem.run_bind,run_eqGuard_agg w .eql t p q xs ys h3,Result.andThen_ok,run_eql_struct,aa]
 .simp only[Sem.run_bind,run_eqGuard_agg w .neq t p q xs ys h3,Result.andThen_ok,run_neq_struct,aa]
end Go.AM
namespace Go.AM
variable{U:gP}{P:Program}{M:cW U}{B:fN}{E:bY U}{g:Gh}{a:Act}{w:World}
theorem rY{b:Addr}{i j}(h:b.add i=b.add j):i=j:=by unfold Addr.add at h;grind
theorem BT(b):∀vs(i:Nat)w,(∀v∈vs,v.oneCell'=Y)->(∀j,j<J vs->(∃u,w.cell? (b.add (i+j))=A u)/\w.frozen? (b.add (i+j))=I)->∃w',(storeCells b vs i).run P w=.ok () w'/\jG w w' (λc=>∃j,j<J vs/\c=b.add (i+j))/\(∀j v,vs[j]?=A v->w'.cell? (b.add (i+j))=A v)/\(∀c,(∀j,j<J vs->c≠b.add (i+j))->w'.cell? c=w.cell? c)/\(∀c,w'.frozen? c=w.frozen? c)/\w'.heap.size=w.heap.size
 |[],i,w,_,_=>⟨w,by simp[storeCells],.refl _ _,by simp,λ_ _=>rfl,λ_=>rfl,rfl⟩|v::vs,i,w,ho,L=>by
  obtain⟨⟨u,hu⟩,hf⟩:=L 0 (by simp);rw[Kg]at hu hf;have ae:(store (b.add i) v).run P w=.ok () (w.setCell (b.add i) v):=by rw[run_store P w _ v .plain (ho v (by simp)),hu];simp[hf]
  have s:∀j,j<J vs->(∃u,(w.setCell (b.add i) v).cell? (b.add (i+1+j))=A u)/\(w.setCell (b.add i) v).frozen? (b.add (i+1+j))=I:=by
   intro j hj;obtain⟨⟨u',ai⟩,ab⟩:=L (j+1) (by simpa using hj);have e:i+(j+1)=i+1+j:=by omega
   rw[e]at ai ab;refine⟨⟨u',?_⟩,by rw[World.frozen?_setCell];exact ab⟩;rw[World.cell?_setCell_other _ _ _ _ λh=>by have:=rY h;omega];exact ai
  obtain⟨w',h1,h2,h3,h4,h5,h6⟩:=BT b vs (i+1) (w.setCell (b.add i) v) (λx hx=>ho x (by simp[hx])) s;refine⟨w',by simp[storeCells,ae,h1],?_,?_,?_,?_,?_⟩;.refine jG.trans (w':=w.setCell (b.add i) v) (jG.setCell w _ v _ ⟨0,by simp,rfl⟩) (h2.xi ?_);rintro c⟨j,hj,rfl⟩;exact⟨j+1,by simpa using hj,by congr 1;omega⟩
  .intro j x hx;cases j with|zero=>simp at hx;subst hx;rw[Kg,h4 _ λj hj h=>by have:=rY h;omega];exact World.cell?_setCell_same w _ v hu|succ j=>have:=h3 j x (by simpa using hx);rw[show i+(j+1)=i+1+j by omega];exact this
  .intro c ah;rw[h4 c λj hj=>by have:=ah (j+1) (by simpa using hj);rwa[show i+(j+1)=i+1+j by omega]at this];exact World.cell?_setCell_other _ _ _ _ λh=>ah 0 (by simp) (by rw[Kg];exact h.symm)
  .intro c;rw[h5,World.frozen?_setCell]
  .rw[h6,World.size_setCell]
structure cV(w w':World):Prop where
 heap:w'.heap=w.heap
 os:w'.os=w.os
 tape:w'.tape=w.tape
 output:w'.output=w.output
theorem cV.refl(w):cV w w:=⟨rfl,rfl,rfl,rfl⟩
theorem cV.drew(w):cV w w.drew:=⟨rfl,rfl,rfl,rfl⟩
theorem cV.cell{w w'}(h:cV w w')(b):w'.cell? b=w.cell? b:=by simp[World.cell?,h.heap]
theorem cV.frozen{w w'}(h:cV w w')(b):w'.frozen? b=w.frozen? b:=by simp[World.frozen?,h.heap]
theorem cV.evo{w w'}(h:cV w w')(aE):jG w w' aE:=⟨⟨h.os,h.tape,h.output,by rw[h.heap];omega⟩,λb _ _=>h.cell b,λb _=>h.frozen b,λb v s=>⟨v,(h.cell b).trans s⟩,λb _ _=>by rw[h.heap]⟩
def Gh.new(g:Gh)(b:Nat)(arr:Array Value)(im:Nat->Bool)(h:Nat->Option m8)(ad:Name->Addr):Gh:=
 {m:=λc=>if c.block=b/\c.spot=aT then if im c.off then arr[c.off]? else aT else g.m c
  cA:=λc=>if c.block=b/\c.spot=aT then h c.off else g.cA c
  ad:=ad
  bs:=g.bs}
theorem UD(h:cT M B E g a w){w1}(hw:cV w w1)(arr)(e)(im)(tg)(ad)(au:∀i t,tg i=A t->i<arr.size/\im i=I/\∀t',t≠.cG t')(aq:∀nm,(E.mem nm).isSome=Y->ad nm=g.ad nm)(ai:∀k,ad (.x k)=g.ad (.x k)):oy (g.new w.heap.size arr im tg ad).m (g.new w.heap.size arr im tg ad).cA (w1.alloc (.cells arr e))/\Fr B (g.new w.heap.size arr im tg ad) (w1.alloc (.cells arr e))/\(∀(aZ:bL->Bool)YY,(∀nm,(E.mem nm).isSome=Y->YY nm=Y)->db g (g.new w.heap.size arr im tg ad) E.aZ (λt=>E.aZ t||aZ t) (λnm=>(E.mem nm).isSome) YY)/\(∀i,(w1.alloc (.cells arr e)).cell? ⟨w.heap.size,i,aT⟩=arr[i]?)/\∀c v,w.cell? c=A v->(w1.alloc (.cells arr e)).cell? c=A v:=by
 have al:w1.heap.size=w.heap.size:=by rw[hw.heap]
 have af:∀c:Addr,c.block<w.heap.size->(w1.alloc (.cells arr e)).cell? c=w.cell? c:=λc L=>by rw[World.cell?_alloc_lt w1 _ c (by omega),hw.cell]
 have ab:∀i,(w1.alloc (.cells arr e)).cell? ⟨w.heap.size,i,aT⟩=arr[i]?:=λi=>by rw[<-al];simp
 have av:∀c v,g.m c=A v->c.block<w.heap.size:=λc v s=>h.cN.lt' s;have aw:∀c t,g.cA c=A t->c.block<w.heap.size:=λc t ht=>h.cN.lt ht;have ak:∀c v,g.m c=A v->(g.new w.heap.size arr im tg ad).m c=A v:=λc v s=>by have:=av c v s;simp only[Gh.new];grind
 have a2:∀c:Addr,c.block<w.heap.size->(g.new w.heap.size arr im tg ad).cA c=g.cA c:=λc L=>by
  simp only[Gh.new];grind
 have aj:oy (g.new w.heap.size arr im tg ad).m (g.new w.heap.size arr im tg ad).cA (w1.alloc (.cells arr e)):=by
  refine⟨?_,?_⟩
  .intro c v s;simp only[Gh.new]at s⊢;split at s
   .rename_i L;rw[Q5 L];split at s;.rename_i ar;obtain⟨cb,co,cs⟩:=c;simp only at L ar s;obtain⟨rfl,rfl⟩:=L;refine⟨(ab co).trans s,?_⟩;cases htc:tg co with|none=>rfl|some t=>grind
    .cases s
   .rename_i L;rw[Q0 L];obtain⟨h1,h2⟩:=h.cN.im c v s;grind
  .intro c t ht;simp only[Gh.new]at ht;split at ht
   .rename_i L;obtain⟨cb,co,cs⟩:=c;simp only at L ht;obtain⟨rfl,rfl⟩:=L;obtain⟨h1,_,_⟩:=au co t ht;refine⟨by rw[<-al];simp,arr[co],(ab co).trans (Xr h1)⟩
   .obtain⟨h1,v,h2⟩:=h.cN.it c t ht;have ax:=aw c t ht;exact⟨by rw[World.frozen?_alloc_old w1 _ c (by omega),hw.frozen];exact h1,v,(af c ax).trans h2⟩
 refine⟨aj,?_,?_,ab,λc v s=>(af c (World.block_lt_of_cell? w c s)).trans s⟩
 .refine h.fr.step h.cN ((hw.evo λ_=>False).trans (jG.alloc w1 _ _)) (λc L=>L.elim) ak ?_ ?_ ai
  .intro c t;constructor;.grind
   .intro ht;simp only[Gh.new]at ht;grind
  grind
 .intro aZ YY hl;refine⟨ak,λc t _ ht=>by grind,λt ht=>?_,λnm hn=>⟨hl nm hn,aq nm hn⟩,λ_ _ _ h=>h,ai⟩;grind
theorem Pa(h:cT M B E g a w){g'}{w':World}{s live2}(k:db g g' E.aZ s (λnm=>(E.mem nm).isSome) live2)(L:∀c v,w.cell? c=A v->w'.cell? c=A v)(ht:∀c t,g.cA c=A t->g'.cA c=A t):∀nm cs,E.mem nm=A cs->∀j c,cs[j]?=A c->∃v,w'.cell? ((g'.ad nm).add j)=A v/\g'.cA ((g'.ad nm).add j)=A (.dU nm)/\cH M g' s v c:=by intro nm cs hm j c hj;obtain⟨v,h1,h2,h3⟩:=h.mem nm cs hm j c hj;have aa:=(k.ad nm (by simp[hm])).2;rw[aa];exact⟨v,L _ _ h1,ht _ _ h2,h3.bN k⟩
theorem Dl(E:bY U){e:d_ U}(h:e.du=[]):Zv E e=λt=>E.aZ t||(λ_=>I) t:=by funext t;simp[Zv,h]
theorem Zny(h:cT M B E g a w){d zs arr}(e)(hn:E.mem (.bE d)=aT)(hr:dJ M g E.aZ arr.toList zs):∃g',gE M B E g {val:=A (.ptr (.bE d) 0),mem:=[(.bE d,zs)]} (.pointer (A ⟨w.heap.size,0,aT⟩)) (w.alloc (.cells arr e)) g':=by
 let ad:Name->Addr:=λnm=>if nm=.bE d then⟨w.heap.size,0,aT⟩else g.ad nm;let tg:Nat->Option m8:=λi=>if i<arr.size then A (.dU (.bE d))else aT;have af:∀nm,(E.mem nm).isSome=Y->ad nm=g.ad nm:=by intro nm hs;simp only[ad];rw[Q0 λe=>by subst e;simp[hn]at hs]
 obtain⟨h1,h2,h3,h4,h5⟩:=UD h (cV.refl w) arr e (λ_=>I) tg ad (by grind) af λk=>by simp[ad]
 have s:db g (g.new w.heap.size arr (λ_=>I) tg ad) E.aZ (Zv E ({val:=A (.ptr (.bE d) 0),mem:=[(.bE d,zs)]}:d_ U)) (λnm=>(E.mem nm).isSome) (YY E ({val:=A (.ptr (.bE d) 0),mem:=[(.bE d,zs)]}:d_ U)):=by
  rw[Dl E rfl];refine h3 _ _ ?_;intro nm hs;simp only[YY,Yo];split;.try rfl
  .exact hs
 refine⟨g.new w.heap.size arr (λ_=>I) tg ad,h1,h2,?_,?_,?_,h.gZ rfl s (λc v hv=>h5 _ _ (h.cN.im c v hv).1) λc t _ ht=>by obtain⟨_,v,hv⟩:=h.cN.it c _ ht;grind,h.eM rfl λ_=>rfl⟩;.omega
 .rw[Dl E rfl];have k:=h3 (λ_=>I) (YY E ({val:=A (.ptr (.bE d) 0),mem:=[(.bE d,zs)]}:d_ U)) (by intro nm hs;simp only[YY,Yo];grind);intro nm cs hm j c hj;simp only[Yo]at hm;split at hm
  .rename_i ah;subst ah;simp only[Option.some.injEq]at hm;subst hm;have aa:j<arr.size:=by have h6:=(Qc.1 hj).1;have h7:=hr.1;simp at h7;omega
   have e1:(g.new w.heap.size arr (λ_=>I) tg ad).ad (.bE d)=⟨w.heap.size,0,aT⟩:=by simp[Gh.new,ad]
   rw[e1,Addr.add_lit,Xh];refine⟨arr[j],(h4 j).trans (Xr aa),?_,?_⟩;.simp[Gh.new,tg,aa]
   .exact(hr.2 j _ c (by simp[aa]) hj).bN k
  .refine Pa h k h5 ?_ nm cs hm j c hj;intro c t ht;have:=h.cN.lt ht;simp only[Gh.new];grind
 .refine⟨by simp[YY,Yo],?_⟩;simp[Gh.new,ad,Addr.add]
theorem AG(ok:bS P M){t ag zs}(s:M.var t=A (ag,zs))(w):∃z,(zeroValue t).run P w=.ok z w/\Ii ag z zs:=by obtain⟨h,i,z,d,h1,h2,h3,h4,h5,h6,_⟩:=ok.var _ _ _ s;exact⟨z,by simp[zeroValue,typeInfo,h1,h5],h6⟩
theorem Ztv(ok:bS P M)(h:cT M B E g a w){o t d ag zs}(ho:o.op=.alloc t)(ht:M.var t=A (ag,zs))(hn:E.mem (.bE d)=aT):fJ P o a w λv w'=>∃g',gE M B E g {val:=A (.ptr (.bE d) 0),mem:=[(.bE d,zs)]} v w' g':=by obtain⟨z,hz,s⟩:=AG ok ht w;refine .inl ⟨_,_,?_,Zny h t hn (yG s)⟩;simp[execOp,ho,Instr.alloc,hz,newVar,newRow]
theorem ZBl(h:cT M B E g a w){o t x d cs v}(ho:o.op=.box t x)(hv:cB M g E.aZ (λnm=>(E.mem nm).isSome) (a.eval x) v)(s:v.cells=A cs)(hn:E.mem (.bE d)=aT):fJ P o a w λv w'=>∃g',gE M B E g {val:=A (.ptr (.bE d) 0),mem:=[(.bE d,cs)]} v w' g':=by refine .inl ⟨_,_,?_,Zny h t hn (hv.cells s)⟩;simp[execOp,ho,Instr.box,newVar,newRow]
theorem ZgU(ok:bS P M)(h:cT M B E g a w){o t p x ag zs cs ai new nm off v}(ho:o.op=.store t p x)(ht:M.var t=A (ag,zs))(hp:cB M g E.aZ (λnm=>(E.mem nm).isSome) (a.eval p) (.ptr nm off))(hv:cB M g E.aZ (λnm=>(E.mem nm).isSome) (a.eval x) v)(ar:v.cells=A new)(a7:E.mem nm=A cs)(hl:J new=J zs)(s:JK cs off new=A ai):fJ P o a w λv w'=>∃g',gE M B E g {mem:=[(nm,ai)]} v w' g':=by
 obtain⟨_,hp⟩:=hp;obtain⟨hs,_,_⟩:=D0 ok ht w;have af:=hv.cells ar;have ax:off+J new<=J cs:=by unfold JK at s;grind
 have az:(a.eval x).cells.toList.length=J new:=af.1;have ae:∀j,j<J cs->∃v c,cs[j]?=A c/\w.cell? ((g.ad nm).add j)=A v/\g.cA ((g.ad nm).add j)=A (.dU nm)/\cH M g E.aZ v c:=λj hj=>let⟨v,h1,h2,h3⟩:=h.mem nm cs a7 j _ (Q8 hj)
  ⟨v,_,Q8 hj,h1,h2,h3⟩;obtain⟨w',h1,h2,h3,h4,h5,h6⟩:=BT (P:=P) ((g.ad nm).add off) (a.eval x).cells.toList 0 w af.cE (by intro j hj;rw[Go.Deep.add_add,Xh];obtain⟨u,c,_,hu,ab,_⟩:=ae (off+j) (by omega);exact⟨⟨u,hu⟩,(h.cN.it _ _ ab).1⟩);simp only[Xh,Go.Deep.add_add]at h2 h3 h4;refine .inr (.inl ⟨w',?_,g,?_⟩)
 .have bb:(a.eval x).cells.size=J zs:=by simpa using az.trans hl
  simp only[execOp,ho,hp];simp[Instr.storeAt,Instr.sureAddr,storeVar,hs,bb,h1]
 .have ak:∀c,(∃j,j<(a.eval x).cells.toList.length/\c=(g.ad nm).add (off+j))->g.cA c=A (.dU nm):=by
   rintro c⟨j,hj,rfl⟩;obtain⟨_,_,_,_,ab,_⟩:=ae (off+j) (by omega);exact ab
  have ah:∀c,g.cA c≠A (.dU nm)->w'.cell? c=w.cell? c:=λc L=>h4 c λj hj e=>L (ak c ⟨j,hj,e⟩);have av:∀c v,g.m c=A v->w'.cell? c=A v:=λc v hv=>by obtain⟨h7,h8⟩:=h.cN.im c v hv;grind
  have aj:db g g E.aZ (Zv E ({mem:=[(nm,ai)]}:d_ U)) (λnm=>(E.mem nm).isSome) (YY E ({mem:=[(nm,ai)]}:d_ U)):=by
   rw[Dl E rfl];refine⟨λ_ _ h=>h,λ_ _ _ h=>h,λt ht=>by simpa using ht,λn hn=>⟨?_,rfl⟩,λ_ _ _ h=>h,λ_=>rfl⟩;simp only[YY,Yo];split;.try rfl
   .exact hn
  refine⟨⟨λc v hv=>⟨av c v hv,(h.cN.im c v hv).2⟩,λc t a8=>?_⟩,?_,aj,?_,trivial,h.gZ rfl aj av λc t _ ht=>ah c (by rw[ht];simp),h.eM rfl λ_=>rfl⟩;.obtain⟨h7,u,h8⟩:=h.cN.it c t a8;grind
  .exact h.fr.step h.cN h2 (λc L=>⟨_,ak c L,λt' e=>by cases e⟩) (λ_ _ h=>h) (λ_ _=>QH) (λ_ _ _ _ _=>rfl) λ_=>rfl
  .rw[Dl E rfl];simp only[QV];intro ba be hm j c hj;simp only[Yo]at hm;split at hm
   .rename_i e;subst e;simp only[Option.some.injEq]at hm;subst hm;have a5:J ai=J cs:=by unfold JK at s;rw[Q5 ax]at s;simp only[Option.some.injEq]at s;subst s;simp;omega
    have a4:j<J cs:=by have:=(Qc.1 hj).1;omega
    obtain⟨v0,c0,aw,al,ab,am⟩:=ae j a4;unfold JK at s;rw[Q5 ax]at s;simp only[Option.some.injEq]at s;subst s;simp only[Qg]at hj;rw[X8]at hj;simp only[QB]at hj;rw[XY (by omega)]at hj;split at hj;.rename_i a9;rw[XW a9,aw]at hj;cases hj;refine⟨v0,?_,ab,am⟩;rw[h4 _ λi hi e=>by have:=rY e;omega];exact al
    .rename_i bj;rw[X8]at hj;split at hj;.rename_i bg;have hx:(a.eval x).cells.toList[j-off]?=A ((a.eval x).cells.toList[j-off]'(by omega)):=Q8 _;have:=h3 (j-off) _ hx;rw[show off+(j-off)=j by omega]at this;exact⟨_,this,ab,af.2 _ _ c hx hj⟩
     .rename_i bh;rw[QY,show off+J new+(j-off-J new)=j by omega,aw]at hj;cases hj;refine⟨v0,?_,ab,am⟩;rw[h4 _ λi hi e=>by have:=rY e;omega];exact al
   .rename_i e;obtain⟨v0,al,ab,am⟩:=h.mem ba be hm j c hj;grind
theorem ZnA{k n v}:∀l(h j:Nat),(mH (U:=U) k n v h l)[j]?=l[j]?.map λx=>.int k (J8 n (h+j) v x)|[],h,j=>by simp[mH]|x::l,h,0=>by simp[mH]|x::l,h,j+1=>by simp only[mH,List.getElem?_cons_succ];rw[ZnA l (h+1) j,show h+1+j=h+(j+1)by omega]
theorem H9{k n v}:∀l(h:Nat),J (mH (U:=U) k n v h l)=J l|[],_=>rfl|x::l,h=>by simp[mH,H9 l]
theorem ZBt{k}{cs:List (C U)}{off len}{n x:Int}{l}(af:off+len<=J cs)(hl:tT k ((cs.drop off).take len)=A l)(hn:0<=n/\n<len):JK cs (off+G n) [.int k x]=A (cs.take off++mH k n x 0 l++cs.drop (off+len)):=by
 obtain⟨h1,h2⟩:=VW hl;have aa:J l=len:=by rw[h1,QB,QI];omega
 have h:∀j,j<len->cs[off+j]?=A (.int k (aR l j 0)):=by
  intro j hj;have s:l[j]?=A (aR l j 0):=by simp[List.getD,Q8 (show j<J l by omega)]
  have:=h2 j _ s;rw[Xv,QY,Q5 hj]at this;exact this
 unfold JK;rw[Q5 (by simp;omega)];congr 1;apply Ko;intro j;simp only[Qg,Qd,Ql];by_cases h3:j<off;.grind
 .have e2:(cs.take off++(mH k n x 0 l++cs.drop (off+len)))[j]?=(mH k n x 0 l++cs.drop (off+len))[j-off]?:=by rw[QK (by simp;omega)];congr 1;simp;omega
  rw[e2];by_cases h4:j<off+len
  .have s:l[j-off]?=A (aR l (j-off) 0):=by simp[List.getD,Q8 (show j-off<J l by omega)]
   have e6:(mH k n x 0 l++cs.drop (off+len))[j-off]?=A (.int k (J8 n (j-off:Nat) x (aR l (j-off) 0))):=by rw[X5 (l₁:=mH k n x 0 l) (by rw[H9];omega),ZnA,s,Qv,Xh]
   rw[e6];by_cases h5:j=off+G n
   .subst h5;rw[QK (by grind),X5 (by simp;omega)];have e3:off+G n-J (cs.take (off+G n))=0:=by simp;omega
    rw[e3];simp only[Km,J8];grind
   .have e4:J8 n (j-off:Nat) x (aR l (j-off) 0)=aR l (j-off) 0:=by
     unfold J8;omega
    rw[e4];have e5:=h (j-off) (by omega);rw[show off+(j-off)=j by omega]at e5;rw[<-e5];by_cases h6:j<off+G n;.rw[X5 (by simp;omega),XW h6]
    .rw[QK (by simp;omega),QK (by simp;omega),QY];congr 1;simp;omega
  .have e6:(mH k n x 0 l++cs.drop (off+len))[j-off]?=cs[j]?:=by rw[QK (l₁:=mH k n x 0 l) (by rw[H9];omega),QY,H9];congr 1;omega
   rw[e6,QK (by simp;omega),QK (by simp;omega),QY];congr 1;simp;omega
theorem Zje(ok:bS P M)(h:cT M B E g a w){o t p x ag zs cs nm off len k n y l v}(ho:o.op=.store t p x)(ht:M.var t=A (ag,zs))(hp:cB M g E.aZ (λnm=>(E.mem nm).isSome) (a.eval p) (.ap nm off k len n))(hv:cB M g E.aZ (λnm=>(E.mem nm).isSome) (a.eval x) v)(s:v.cells=A [.int k y])(ae:E.mem nm=A cs)(hz:J zs=1)(ab:off+len<=J cs)(hl:tT k ((cs.drop off).take len)=A l):fJ P o a w λv w'=>∃g',gE M B E g {mem:=[(nm,cs.take off++mH k n y 0 l++cs.drop (off+len))]} v w' g':=ZgU ok h ho ht (nm:=nm) (off:=off+G n) ⟨hp.1,hp.2.2⟩ hv s ae hz.symm (ZBt ab hl hp.2.1)
theorem Zjl(ok:bS P M)(h:cT M B E g a w){o t et x len T cs nm l}(ho:o.op=.slice t x aT aT aT)(ht:M.arr t=A (len,et))(hT:M.dQ T=et)(hp:cB M g E.aZ (λnm=>(E.mem nm).isSome) (a.eval x) (.ptr nm 0))(ar:E.mem nm=A cs)(a3:J cs=len)(bd:M.sz T=1)(hl:(cs.mapM λc=>M.jz T [c])=A l):fJ P o a w λv w'=>∃g',gE M B E g {val:=A (.c (.slice T l .cU)),mem:=[(nm,[])]} v w' g':=by classical
 obtain⟨_,hp⟩:=hp;have h1:=ok.arr _ _ _ ht;have ax:P.arrayLen t=len:=by simp[Program.arrayLen,h1]
 have az:P.elem t=et:=by simp[Program.elem,h1]
 have af:=wR ok T w;have a8:J l=J cs:=mapM_length hl;let g':Gh:={m:=λc=>if g.cA c=A (.dU nm)then w.cell? c else g.m c,cA:=λc=>if g.cA c=A (.dU nm)then aT else g.cA c,ad:=g.ad,bs:=g.bs};have hm:∀c v,g.m c=A v->g'.m c=A v:=λc v hv=>by
  have:=(h.cN.im c v hv).2;grind
 have aa:∀c t,t≠.dU nm->(g.cA c=A t↔g'.cA c=A t):=by
  intro c t ah;simp only[g'];split
  .rename_i e;rw[e];constructor;.intro h;cases h;exact absurd rfl ah
   .intro h;cases h
  .exact QH
 have hk:db g g' E.aZ (Zv E ({val:=A (.c (.slice T l .cU)),mem:=[(nm,[])]}:d_ U)) (λnm=>(E.mem nm).isSome) (YY E ({val:=A (.c (.slice T l .cU)),mem:=[(nm,[])]}:d_ U)):=by
  rw[Dl E rfl];refine⟨hm,λc t _ ht=>(aa c _ (by simp)).1 ht,λt ht=>by simpa using ht,λn hn=>⟨?_,rfl⟩,λ_ _ _ h=>h,λ_=>rfl⟩;simp only[YY,Yo];split;.try rfl
  .exact hn
 refine .inl ⟨.slice (A (g.ad nm)) len len,w,?_,g',⟨?_,?_⟩,?_,hk,?_,?_,h.gZ rfl hk (λc v hv=>(h.cN.im c v hv).1) λ_ _ _ _=>rfl,h.eM rfl λ_=>rfl⟩;.simp only[execOp,ho,hp,Option.map_none];apply EZ;rw[Addr.add_zero',run_sliceAt_array_all w t _ (by grind),az,<-hT,af];simp[slicedAt,ax,Addr.add_zero']
 .intro c v hv;simp only[g']at hv⊢;split at hv;.grind
  .rename_i e;rw[Q0 e];exact h.cN.im c v hv
 .intro c t ht;simp only[g']at ht;split at ht;.cases ht
  .exact h.cN.it c t ht
 .refine h.fr.step h.cN (jG.refl w λ_=>False) (λc L=>L.elim) hm (λc t=>aa c _ (by simp)) ?_ λ_=>rfl;grind
 .intro ay aw s j c hj;simp only[Yo]at s;split at s;.grind
  .rename_i ah;obtain⟨v,h3,h4,h5⟩:=h.mem ay aw s j c hj;refine⟨v,h3,(aa _ _ (by grind)).1 h4,h5.bN hk⟩
 .refine⟨.fS .cU (by omega) (Qa _) ?_,λ_ _ _ hv=>by cases hv;rfl⟩;intro i y hy j c hj;have hi:i<J cs:=by have:=(Qc.1 hy).1;omega
  obtain⟨y',ai,aj⟩:=Cw hl i _ (Q8 hi);rw[hy]at ai;cases ai;obtain⟨h6,h7⟩:=ok.jb T _ _ aj;have ao:j=0:=by have:=(Qc.1 hj).1;simp at h6;omega
  subst ao;obtain⟨v,h8,h9,au⟩:=h.mem nm cs ar i _ (Q8 hi);refine⟨v,?_,(au.1.mono hm).wk (h7 0 _ c rfl hj)⟩;grind where mapM_length{α β:Type}{f:α->Option β}:∀{l:List α}{r:List β},l.mapM f=A r->J r=J l|[],r,h=>by grind|x::l,r,h=>by rw[Xq]at h;cases h1:f x with|none=>simp[h1]at h|some y=>cases h2:l.mapM f with|none=>grind|some r'=>simp[h1,h2]at h;subst h;simp[mapM_length h2]
