import Derived.Orders
import Derived.Below
import Derived.KernelRfl
import Derived.Lib.MinMax
import Derived.Laws.Tables
import Derived.Laws.Slices
import Derived.Deep.Slices
import Derived.Laws.StructEq
set_option linter.unusedSimpArgs false
set_option linter.unusedVariables false
namespace Go.AM
theorem JH{c:Prop}[Decidable c]{α:Type _}{a b:α}(h:¬c:=by omega):(if c then a else b)=b:=if_neg h
theorem Y3{c:Prop}[Decidable c]{α:Type _}{a b:α}(h:c:=by omega):(if c then a else b)=a:=if_pos h
theorem Yp{p:Prop}(h:p:=by omega):p:=h
theorem YH{p:Prop}(h:p:=by(repeat'(first|exact trivial|exact rfl|apply And.intro))):p:=h
theorem V0{p:Prop}(h:p:=by decide):p:=h
theorem V1{p:Prop}(h:p:=by dsimp only;omega):p:=h
theorem V2{p:Prop}(h:p:=by unfold InR;omega):p:=h
theorem V3{p:Prop}(h:p:=by kernel_rfl):p:=h
abbrev Q0:=@List.eq_nil_of_length_eq_zero
abbrev Q1:=@List.getElem?_eq_getElem
abbrev Q2:=@Bool.and_eq_true
abbrev Q3:=@List.mem_cons_of_mem
abbrev Q4:=@List.getElem?_eq_some_iff
abbrev Q5:=@List.mem_cons_self
abbrev Q6:=@List.getD_eq_getElem?_getD
abbrev Q7:=@List.append_assoc
abbrev Q8:=@List.length_append
abbrev Q9:=@List.mem_cons
abbrev Qa:=@List.length_cons
abbrev Qb:=@List.drop_of_length_le
abbrev Qc:=@Nat.le_refl
abbrev Qd:=@List.mem_singleton
abbrev Qe:=@Nat.eq_of_beq_eq_true
abbrev Qf:=@List.mem_append
abbrev Qg:=@Nat.mul_le_mul_right
abbrev Qh:=@List.nil_append
abbrev Qi:=@List.append_nil
abbrev Qj:=@List.getD_cons_zero
abbrev Qk:=@Option.map_some
abbrev Ql:=@List.mem_of_mem_drop
abbrev Qm:=@List.length_nil
abbrev Qn:=@Option.map_eq_some_iff
abbrev Qo:=@List.cons_append
abbrev Qp:=@List.length_singleton
abbrev Qq:=@List.getElem?_eq_none
abbrev Qr:=@Option.bind_some
abbrev Qs:=@List.take_append_drop
abbrev Qt:=@List.length_drop
abbrev Qu:=@List.length_take
abbrev Qv:=@List.getElem?_append_right
abbrev Qw:=@List.drop_succ_cons
abbrev Qx:=@Option.bind_eq_some_iff
abbrev Qy:=@List.getElem?_drop
abbrev Qz:=@List.getElem?_map
abbrev QA:=@List.take_of_length_le
abbrev QB:=@List.getElem?_append_left
abbrev QC:=@List.drop_zero
abbrev QD:=@List.drop_eq_getElem_cons
abbrev QE:=@List.all_eq_true
abbrev QF:=@Option.isNone_iff_eq_none
abbrev QG:=@Array.getElem?_eq_getElem
abbrev QH:=@Int.eq_ofNat_of_zero_le
abbrev QI:=@Nat.zero_le
abbrev QJ:=@Array.getElem?_eq_some_iff
abbrev QK:=@List.getElem?_append
abbrev QL:=@Nat.add_mul
abbrev QM:=@Iff.rfl
abbrev QN:=@List.drop_eq_nil_of_le
abbrev QO:=@Bool.or_eq_false_iff
abbrev QP:=@Bool.eq_iff_iff
abbrev QQ:=@Nat.zero_add
abbrev QR:=@List.mem_of_mem_take
abbrev QS:=@List.mem_append_left
abbrev QU:=@Array.ext'
abbrev QV:=@List.foldl_cons
abbrev QW:=@List.mapM_cons
abbrev QX:=@Bool.not_eq_true'
abbrev QY:=@Int.le_refl
abbrev QZ:=@List.getElem?_take
abbrev X2:=@Nat.le_trans
abbrev X3:=@Int.toNat_natCast
abbrev X4:=@List.mem_of_getElem?
abbrev X5:=@Nat.lt_of_lt_of_le
abbrev X6:=@List.length_map
abbrev X7:=@Option.isSome_iff_exists
abbrev X8:=@Int.tdiv_eq_ediv_of_nonneg
abbrev X9:=@Bool.false_eq_true
abbrev Xa:=@List.map_cons
abbrev Xb:=@List.map_append
abbrev Xc:=@Nat.testBit_two_pow_mul_add
abbrev Xd:=@List.append_cancel_left
abbrev Xe:=@List.getElem_of_mem
abbrev Xf:=@Option.getD_some
abbrev Xg:=@List.getElem?_take_of_lt
abbrev Xh:=@List.mem_append_right
abbrev Xi:=@List.contains_nil
abbrev Xj:=@List.drop_append_of_le_length
abbrev Xk:=@List.length_eq_zero_iff
abbrev Xl:=@List.getElem?_cons_zero
abbrev Xm:=@Eq.trans
abbrev Xn:=@Array.toList_map
abbrev Xo:=@Nat.div_div_eq_div_mul
abbrev Xp:=@Int.pow_pos
abbrev Xq:=@Nat.mul_comm
abbrev Xr:=@Bool.or_self
abbrev Xs:=@Nat.min_eq_left
abbrev Xt:=@List.length_replicate
abbrev Xu:=@Bool.true_and
abbrev Xv:=@Nat.div_lt_of_lt_mul
abbrev Xw:=@List.mem_or_eq_of_mem_set
abbrev Xx:=@Nat.add_zero
abbrev Xy:=@List.mem_map
abbrev Xz:=@List.getElem?_replicate
abbrev XA:=@List.mem_filterMap
abbrev XB:=@List.take_append_of_le_length
abbrev XC:=@Nat.lt_or_ge
abbrev XD:=@Nat.add_comm
abbrev XE:=@Int.toNat_zero
abbrev XF:=@Array.getElem?_toList
abbrev XG:=@List.drop_eq_nil_iff
abbrev XH:=@List.length_pos_iff
abbrev XI:=@List.getD_cons_succ
abbrev XJ:=@Nat.shiftRight_eq_div_pow
abbrev XK:=@Nat.not_lt_zero
abbrev XL:=@Nat.div_add_mod
abbrev XM:=@List.getElem?_zip_eq_some
abbrev XN:=@Classical.byContradiction
abbrev XO:=@Int.pow_succ
abbrev XP:=@Int.le_of_lt
abbrev XQ:=@Nat.mod_lt
abbrev XR:=@List.drop_drop
abbrev XT:=@Nat.le_mul_of_pos_right
abbrev XU:=@List.getElem?_cons_succ
abbrev XV:=@List.flatMap_cons
abbrev XW:=@List.append_eq_nil_iff
abbrev XX:=@Bool.false_or
abbrev XY:=@Nat.mod_eq_of_lt
abbrev XZ:=@Nat.lt_succ_self
abbrev K0:=@Nat.le_div_iff_mul_le
abbrev K5:=@Array.getElem?_modify
abbrev K6:=@Nat.sub_zero
abbrev K7:=@Nat.mul_add_mod
abbrev K8:=@List.pairwise_append
abbrev Ka:=@List.map_nil
abbrev Kb:=@List.append_inj
abbrev Kc:=@Int.ofNat_eq_natCast
abbrev Kd:=@Int.le_total
abbrev Ke:=@Bool.or_eq_true
abbrev Kf:=@List.take_succ_cons
abbrev Kg:=@List.replicate_succ
abbrev Kh:=@List.pairwise_cons
abbrev Ki:=@List.map_singleton
abbrev Kj:=@Array.extract_eq_self_of_le
abbrev Kk:=@Array.append_assoc
abbrev Kl:=@Nat.add_assoc
abbrev Km:=@Bool.not_true
abbrev Kn:=@Bool.and_true
abbrev Ko:=@Option.bind_assoc
abbrev Kp:=@List.getElem?_set
abbrev Kq:=@Nat.sub_self
abbrev Kr:=@List.mem_flatMap
abbrev Ks:=@List.any_eq_true
abbrev Kt:=@Int.natCast_emod
abbrev Ku:=@Int.natCast_ediv
abbrev Kv:=@Int.ediv_le_self
abbrev Kw:=@Bool.not_eq_true
abbrev Kx:=@Int.natCast_pow
abbrev Ky:=@Int.natCast_mul
abbrev Kz:=@Int.ediv_nonneg
abbrev KA:=@Nat.sub_mul
theorem oP:(∀{α:Type}(a b:α),(some a=some b)=(a=b))/\∀{α β:Type}(a:α)(b:β)(c:α)(d:β),((a,b)=(c,d))=(a=c/\b=d):=⟨λa b=>Option.some.injEq a b,λa b c d=>Prod.mk.injEq a b c d⟩
structure Uni where
 Ty:Type
 El:Ty->Type
inductive Tok where|e(k j:Nat)|l(s j:Nat)|x(k j:Nat)|r(d j:Nat)|z(s j:Nat)deriving DecidableEq
def Tok.isR:Tok->Bool|.r _ _=>true|.z _ _=>true|_=>false
inductive Tail where|unk|full|own(t:Tok)deriving DecidableEq
inductive Name where|loc(s:Nat)|x(k:Nat)deriving DecidableEq
inductive C(U:Uni):Type where|int(k:IntKind)(n:Int)|bool(b:Bool)|nils|nilp|slice(T:U.Ty)(l:List (U.El T))(tl:Tail)|mref(t:Tok)|po(T:U.Ty)(o:Option (U.El T))|xp(k:Nat)|jk|kc(v:Value)
structure LC(U:Uni)where
 T:U.Ty
 l:List (U.El T)f:Nat
def Name.isX:Name->Bool|.x _=>true|.loc _=>false
inductive V(U:Uni):Type where|c(x:C U)|agg(cs:List (C U))|tup(vs:List (Bool×List (C U)))|ptr(nm:Name)(off:Nat)|ap(nm:Name)(off:Nat)(k:IntKind)(len:Nat)(n:Int)|ep(cs:List (C U))|mp(t:Tok)(n off:Nat)|vw(t:Tok)(n:Nat)|fn(f:FuncId)|clo(f:FuncId)(nms:List Name)|ifp(t:TypeId)(nm:Name)|kv(v:Value)|gd(g:Bool)(v:V U)|nb(p q:Prop)|junk
variable{U:Uni}
def C.mapTok(f f2:Tok->Option Tok)(fx:Nat->Option Nat):C U->C U
 |.slice T l (.own t)=>.slice T l (match f t with|some t'=>.own t'|none=>.unk)|.mref t=>match f2 t with
  |some t'=>.mref t'|none=>.jk
 |.xp k=>match fx k with
  |some k'=>.xp k'|none=>.jk
 |c=>c
def V.mapTok(f f2:Tok->Option Tok)(fx:Nat->Option Nat):V U->V U|.c x=>.c (x.mapTok f f2 fx)|.agg cs=>.agg (cs.map (C.mapTok f f2 fx))|.tup vs=>.tup (vs.map λx=>(x.1,x.2.map (C.mapTok f f2 fx)))|.ep cs=>.ep (cs.map (C.mapTok f f2 fx))|.gd b v=>.gd b (v.mapTok f f2 fx)|.nb p q=>.nb p q|.ptr ..=>.junk|.ap ..=>.junk|.fn f=>.fn f|.mp ..=>.junk|.vw ..=>.junk|.clo ..=>.junk|.ifp ..=>.junk|.kv v=>.kv v|.junk=>.junk
structure Cfg(U:Uni)where
 tyEq:DecidableEq U.Ty
 dflt:(T:U.Ty)->U.El T
 enc:(T:U.Ty)->U.El T->List (C U)dec:(T:U.Ty)->List (C U)->Option (U.El T)aggT:U.Ty->Bool
 sz:U.Ty->Nat
 bytes:U.Ty->Nat
 elT:U.Ty->TypeId
 slT:TypeId->Option U.Ty
 var:TypeId->Option (Bool×List (C U))fld:TypeId->Nat->Option (Nat×TypeId)arr:TypeId->Option (Nat×TypeId)eqs:TypeId->Bool
 mth:TypeId->String->Option (FuncId×Bool)nif:TypeId->Bool
def ZbF(fn:List (V U)->List (List (C U))->Option (List Prop×V U×List (List (C U)))):List (V U)->List (List (C U))->List (Tok×LC U)->Option (List Prop×V U×List (List (C U))×List (Tok×LC U)):=λxs X L=>match L with
 |[]=>match fn xs X with
  |some (ps,r,X')=>some (ps,r,X',[])|none=>none
 |_::_=>none
structure InL(U:Uni)where
 g:FuncId
 T:U.Ty
 F:List (U.El T)->List (U.El T)look:Option Nat:=none
structure Fs(U:Uni)where
 pass:Nat->Bool:=λ_=>false
 wr:Bool:=false
 mkl:Bool:=false
 bor:Bool:=false
 obj:Bool:=false
 inp:Option (InL U):=none
 fn:List (V U)->List (List (C U))->Option (List Prop×V U×List (List (C U)))fn2:List (V U)->List (List (C U))->List (Tok×LC U)->Option (List Prop×V U×List (List (C U))×List (Tok×LC U)):=ZbF fn
structure Known(U:Uni)where
 fn:FuncId->Option (Fs U)wr:Bool
 ml:Bool
 nl:Bool
instance:CoeFun (Known U) (λ_=>FuncId->Option (Fs U)):=⟨Known.fn⟩
structure FSt(U:Uni)where
 n:Nat
 env:Nat->V U
 mem:Name->Option (List (C U))dead:Tok->Bool
 ls:Tok->Option (LC U)mu:Bool
 vw:Bool
structure Eff(U:Uni)where
 val:Option (V U):=none
 mem:List (Name×List (C U)):=[]kill:List Tok:=[]ls:List (Tok×LC U):=[]
def FSt.put(st:FSt U)(d:Option Nat)(v:V U):FSt U:=match d with|some k=>{st with env:=λj=>bif Nat.beq j k then v else st.env j}|none=>st
def ZX(m:Name->Option (List (C U))):List (Name×List (C U))->Name->Option (List (C U))|[],nm=>m nm|(a,cs)::r,nm=>if nm=a then some cs else ZX m r nm
def Zy(m:Tok->Option (LC U)):List (Tok×LC U)->Tok->Option (LC U)|[],t=>m t|(a,x)::r,t=>if t=a then some x else Zy m r t
def JV(m:Tok->Option (LC U))(e:Eff U):Tok->Option (LC U):=λt=>bif e.kill.contains t then none else Zy m e.ls t
def FSt.app(st:FSt U)(d:Option Nat)(e:Eff U):FSt U:={st.put d (e.val.getD .junk)with mem:=ZX st.mem e.mem,dead:=λt=>st.dead t||e.kill.contains t,ls:=JV st.ls e}
def Z0b:Value->Option (C U)|.int k n=>some (.int k n)|.bool b=>some (.bool b)|.slice none 0 0=>some .nils|.pointer none=>some .nilp|_=>none
def Z0g:Value->Option (V U)|.agg cs=>(cs.toList.mapM Z0b).map .agg|.nilIface=>some (.kv .nilIface)|v=>(Z0b v).map .c
def C.val:C U->Option Value|.int k n=>some (.int k n)|.bool b=>some (.bool b)|_=>none
def ZcV:List (C U)->Option (List Value)|[]=>some []|c::r=>match c.val,ZcV r with|some v,some l=>some (v::l)|_,_=>none
def Zd6:List Value->Option (List (C U))|[]=>some []|.int k n::r=>(Zd6 r).map (.int k n::·)|.bool b::r=>(Zd6 r).map (.bool b::·)|_=>none
def FSt.opnd(st:FSt U):Operand->Option (V U)|.tmp t=>some (st.env t)|.const v=>Z0g v|.func f=>some (.fn f)|.global _=>none
def V.cells:V U->Option (List (C U))|.c x=>some [x]|.agg cs=>some cs|.ptr (.x k) 0=>some [.xp k]|_=>none
def mkV(ag:Bool)(cs:List (C U)):Option (V U):=match ag,cs with|true,cs=>some (.agg cs)|false,[c]=>some (.c c)|false,_=>none
def InR(n:Int):Prop:=-9223372036854775808<=n/\n<=9223372036854775807
def Ze4(wr:Bool)(k:IntKind)(n:Int):List Prop×C U:=match wr,k with|false,.i64=>([InR n],.int .i64 n)|_,k=>([],.int k (k.wrap n))
def ZE8(wr:Bool)(op:BinOp)(x y:C U):Option (List Prop×C U):=match x,y with
 |.int k a,.int k' b=>match op with
  |.shl=>some ([0<=b],.int k (k.wrap (a*2^(min b.toNat k.bits))))|.shr=>some ([0<=b],.int k (a.fdiv (2^(min b.toNat k.bits))))|.eql=>if k=k' then some ([],.bool (a==b))else none|.neq=>if k=k' then some ([],.bool (a !=b))else none|.lss=>if k=k' then some ([],.bool (decide (a<b)))else none|.leq=>if k=k' then some ([],.bool (decide (a<=b)))else none|.gtr=>if k=k' then some ([],.bool (decide (b<a)))else none|.geq=>if k=k' then some ([],.bool (decide (b<=a)))else none|.add=>if k=k' then some (Ze4 wr k (a+b))else none|.sub=>if k=k' then some (Ze4 wr k (a-b))else none|.mul=>if k=k' then some (Ze4 wr k (a*b))else none|.quo=>if k=k' then some ([b≠0],.int k (k.wrap (a.tdiv b)))else none|.rem=>if k=k' then some ([b≠0],.int k (a.tmod b))else none|.and=>if k=k' then some ([],.int k (k.wrap (BitVec.ofInt k.bits a&&&BitVec.ofInt k.bits b).toNat))else none|.or=>if k=k' then some ([],.int k (k.wrap (BitVec.ofInt k.bits a|||BitVec.ofInt k.bits b).toNat))else none|.xor=>if k=k' then some ([],.int k (k.wrap (BitVec.ofInt k.bits a^^^BitVec.ofInt k.bits b).toNat))else none|.andNot=>if k=k' then some ([],.int k (k.wrap (BitVec.ofInt k.bits a&&&~~~(BitVec.ofInt k.bits b)).toNat))else none
 |_,_=>none
def Ztz(op:BinOp)(a b:Bool):Option (C U):=match op with|.eql=>some (.bool (a==b))|.neq=>some (.bool (a !=b))|_=>none
def Zhr:List (C U)->List (C U)->Option Bool|[],[]=>some true|.int k a::r,.int k' b::s=>if k=k' then(Zhr r s).map λx=>(a==b)&&x else none|.bool a::r,.bool b::s=>(Zhr r s).map λx=>(a==b)&&x|_,_=>none
def Z8g:List (C U)->List (C U)->Bool|[],[]=>true|.int _ _::r,.int _ _::s=>Z8g r s|.bool _::r,.bool _::s=>Z8g r s|_,_=>false
def aUn(wr:Bool)(op:UnOp)(x:C U):Option (List Prop×C U):=match op,x with|.not,.bool b=>some ([],.bool (!b))|.neg,.int k n=>some (Ze4 wr k (-n))|.xor,.int k n=>some ([],.int k (k.wrap (BitVec.ofInt k.bits (if k.signed then-1 else k.max)^^^BitVec.ofInt k.bits n).toNat))|_,_=>none
def Zhy(cfg:Cfg U)(T:U.Ty):C U->Option (List (U.El T)×Tail)
 |.nils=>some ([],.full)|.slice S l tl=>match cfg.tyEq S T with|isTrue h=>some (h▸l,tl)|isFalse _=>none
 |_=>none
def YK(cs:List (C U))(off:Nat)(new:List (C U)):Option (List (C U)):=if off+new.length<=cs.length then some (cs.take off++new++cs.drop (off+new.length))else none
def Zkj(cfg:Cfg U)(t:TypeId)(i:Nat):Option (Nat×Nat):=match cfg.fld t i with
 |some (off,ft)=>match cfg.var ft with
  |some (_,zs)=>some (off,zs.length)|none=>none
 |none=>match cfg.arr t with
  |some (_,et)=>match cfg.var et with
   |some (_,zs)=>some (i*zs.length,zs.length)|none=>none
  |none=>none
def Z1e(cfg:Cfg U)(t:TypeId):List (C U)->List (Nat×List (C U))->Option (List (C U))|cs,[]=>some cs|cs,(i,new)::r=>match Zkj cfg t i with|some (off,n)=>if new.length=n then(YK cs off new).bind λcs'=>Z1e cfg t cs' r else none|none=>none
def Z1M(k:IntKind):List (C U)->Option (List Int)|[]=>some []|.int k' n::r=>if k=k' then(Z1M k r).map (n::·)else none|_=>none
def Yv(n:Int)(j:Nat)(v x:Int):Int:=if n=(j:Int)then v else x
def Z2M(k:IntKind)(n v:Int):Nat->List Int->List (C U)|_,[]=>[]|j,x::r=>.int k (Yv n j v x)::Z2M k n v (j+1) r
def rd(st:FSt U)(p:V U)(ag:Bool)(n:Nat):Option (V U):=match p with
 |.ptr nm off=>match st.mem nm with
  |some cs=>if off+n<=cs.length then mkV ag ((cs.drop off).take n)else none|none=>none
 |.ep cs=>if n<=cs.length then mkV ag (cs.take n)else none|.ap nm off k len i=>match st.mem nm with
  |some cs=>if off+len<=cs.length then match Z1M k ((cs.drop off).take len)with|some l=>bif ag then none else some (.c (.int k (l.getD i.toNat 0)))|none=>none else none|none=>none
 |_=>none
def JU(st:FSt U):Option Operand->Option (Option (V U))|none=>some none|some x=>(st.opnd x).map some
def C.frz(t:Tok)(x:LC U):C U->C U|.mref u=>if u=t then .slice x.T x.l (.own t)else .mref u|.slice T l (.own u)=>if u=t then .slice T l .unk else .slice T l (.own u)|c=>c
def V.frz(cfg:Cfg U)(t:Tok)(x:LC U):V U->V U|.c y=>.c (y.frz t x)|.agg cs=>.agg (cs.map (C.frz t x))|.tup vs=>.tup (vs.map λy=>(y.1,y.2.map (C.frz t x)))|.ep cs=>.ep (cs.map (C.frz t x))|.gd b v=>.gd b (v.frz cfg t x)|.mp u n off=>if u=t then .ep ((cfg.enc x.T (x.l.getD n (cfg.dflt x.T))).drop off)else .mp u n off|.vw u n=>if u=t then .junk else .vw u n|v=>v
def FSt.frz1(cfg:Cfg U)(st:FSt U)(t:Tok):FSt U:=match st.ls t with|none=>st|some x=>{st with env:=λk=>(st.env k).frz cfg t x,mem:=λnm=>(st.mem nm).map λcs=>cs.map (C.frz t x),ls:=λu=>if u=t then none else st.ls u}
def FSt.frz(cfg:Cfg U)(st:FSt U):List Tok->FSt U|[]=>st|t::r=>(st.frz1 cfg t).frz cfg r
def C.muts:C U->List Tok|.mref t=>[t]|_=>[]
def ZxF:List (C U)->List Tok|[]=>[]|c::r=>c.muts++ZxF r
def V.muts:V U->List Tok|.c x=>x.muts|.agg cs=>ZxF cs|.gd _ v=>v.muts|.mp t _ _=>[t]|.vw t _=>[t]|_=>[]
def Z1E(s:List (Tok×Tok))(t:Tok):Option Tok:=match s with|[]=>none|(a,b)::r=>if b=t then some a else Z1E r t
def YN(s:List (Tok×Tok))(t:Tok):Option Tok:=match s with|[]=>none|(a,b)::r=>if a=t then some b else YN r t
def Z0N(mine:Tok->Bool)(nm:Tok)(c:C U)(seen:List (Tok×Tok)):C U×List (Tok×Tok):=match c with|.slice T l (.own t)=>if mine t&&(YN seen t).isNone&&(Z1E seen nm).isNone then(.slice T l (.own nm),(t,nm)::seen)else(.slice T l .unk,seen)|.mref t=>if mine t&&(YN seen t).isNone&&(Z1E seen nm).isNone then(.mref nm,(t,nm)::seen)else(.jk,seen)|.xp _=>(.jk,seen)|c=>(c,seen)
def Jc(mine:Tok->Bool)(nm:Nat->Tok):(j:Nat)->List (C U)->List (Tok×Tok)->List (C U)×List (Tok×Tok)|_,[],seen=>([],seen)|j,c::r,seen=>((Z0N mine (nm j) c seen).1::(Jc mine nm (j+1) r (Z0N mine (nm j) c seen).2).1,(Jc mine nm (j+1) r (Z0N mine (nm j) c seen).2).2)
def Zxq(mine:Tok->Bool)(nm:Nat->Tok)(v:V U)(seen:List (Tok×Tok)):Option (V U×List (Tok×Tok)):=match v with|.c x=>some (.c (Z0N mine (nm 0) x seen).1,(Z0N mine (nm 0) x seen).2)|.agg cs=>some (.agg (Jc mine nm 0 cs seen).1,(Jc mine nm 0 cs seen).2)|.fn f=>some (.fn f,seen)|.kv v=>some (.kv v,seen)|_=>none
def Zk9:V U->Option Name|.ptr nm 0=>some nm|_=>none
def Zbs(os:List (Name×List (C U)))(nm:Name):Bool:=match os with|[]=>false|(a,_)::r=>if a=nm then true else Zbs r nm
def ZoW:V U->Option (Name×(Name->V U))|.ptr nm off=>some (nm,λn=>.ptr n off)|.clo f [nm]=>some (nm,λn=>.clo f [n])|.ifp t nm=>some (nm,λn=>.ifp t n)|_=>none
def Yb(st:FSt U)(ps:Nat->Bool):(i:Nat)->List (V U)->List (Name×List (C U))->List (Tok×Tok)->Option (List (V U)×List (Name×List (C U))×List (Tok×Tok))
 |_,[],os,seen=>some ([],os,seen)|i,v::r,os,seen=>match ZoW v with
  |some (nm,mk)=>match st.mem nm with|none=>none|some cs=>if Zbs os nm then none else match Yb st ps (i+1) r (os++[(nm,(Jc (λt=>!st.dead t) (.x os.length) 0 cs seen).1)]) (Jc (λt=>!st.dead t) (.x os.length) 0 cs seen).2 with
    |some (vs,os',s)=>some (mk (.x os.length)::vs,os',s)|none=>none
  |none=>match Zxq (λt=>ps i&&!st.dead t) (.e i) v seen with|none=>none|some (v',seen')=>match Yb st ps (i+1) r os seen' with|some (vs,os',s)=>some (v'::vs,os',s)|none=>none
def ZZ(d:Nat):Tok->Option Tok|.r 0 j=>some (.r d (2*j))|.x k j=>if j<64 then some (.r d (2*(64*k+j)+1))else none|_=>none
def Z1S(d:Nat):Tok->Option Tok|.r d' m=>if d'=d then(if m%2=0 then some (.r 0 (m/2))else some (.x (m/2/64) (m/2%64)))else none|_=>none
def Z0D(d:Nat)(L:List (Tok×LC U))(t:Tok):Option Tok:=match Zy (λ_=>none) L t with|some _=>ZZ d t|none=>none
def J1(st:FSt U)(d:Nat):List (Tok×LC U)->Option (List (Tok×LC U))|[]=>some []|(t,x)::r=>match ZZ d t,J1 st d r with|some t',some l=>if(st.ls t').isNone&&!st.dead t' then some ((t',x)::l)else none|_,_=>none
def Z3R(d:Nat)(L:List (Tok×LC U))(fx:Nat->Option Nat):List (Name×List (C U))->List (List (C U))->Option (List (Name×List (C U)))|[],[]=>some []|(nm,_)::r,cs::s=>(Z3R d L fx r s).map ((nm,cs.map (C.mapTok (ZZ d) (Z0D d L) fx))::·)|_,_=>none
def Yk:List (Name×List (C U))->Nat->Name->Option Nat|[],_,_=>none|(a,_)::r,k,nm=>if a=nm then some k else Yk r (k+1) nm
def Z40(os:List (Name×List (C U)))(k:Nat):Option Nat:=match os[k]? with|some (.x j,_)=>some j|_=>none
def ZiH:List (C U)->List Name->List Name|[],have_=>have_|.xp k::r,have_=>ZiH r (if Nat.blt k 8&&!have_.contains (.x k)then have_++[.x k]else have_)|_::r,have_=>ZiH r have_
def Jr:List (V U)->List Name|[]=>[]|v::r=>match ZoW v with|some (nm,_)=>nm::Jr r|none=>Jr r
def Z3T(st:FSt U):List Name->List Name->List Name|[],have_=>have_|nm::r,have_=>Z3T st r (match st.mem nm with|some cs=>ZiH cs have_|none=>have_)
def Z9b(st:FSt U)(l:List Name):List Name:=Z3T st (Z3T st l l) (Z3T st l l)
def JM(st:FSt U)(args:List (V U)):List (V U):=((Z9b st (Jr args)).drop (Jr args).length).map (.ptr · 0)
def ZnF(os:List (Name×List (C U))):List (C U)->List (C U)->List (C U)|.xp k::r,c::s=>(match Yk os 0 (.x k)with|some k'=>.xp k'|none=>c)::ZnF os r s|_::r,c::s=>c::ZnF os r s|[],s=>s|_,[]=>[]
def Z9d(st:FSt U)(os:List (Name×List (C U))):List (C U)×Name->List (C U)|(cs,nm)=>match st.mem nm with|some cs0=>ZnF os cs0 cs|none=>cs
def Jg(m:Tok->Option (LC U))(s:List (Tok×Tok)):List Tok->List (Tok×LC U)
 |[]=>[]|t::r=>match Z1E s t with
  |some u=>match YN s u,m u with
   |some t',some x=>if t'=t/\t.isR=false then(t,x)::Jg m s r else Jg m s r|_,_=>Jg m s r
  |none=>Jg m s r
def V.isP:V U->Bool|.ptr _ _=>true|_=>false
def Z42(Γ:Known U)(st:FSt U)(d:Nat)(f:FuncId)(args:List (V U)):Option (List Prop×Eff U):=match Γ f with|none=>none|some s=>match Yb st s.pass 0 (args++JM st args) [] []with|none=>none|some (vs,os,toks)=>match s.fn2 (vs.take args.length) (os.map λx=>Z9d st os (x.2,x.1)) (bif s.wr then Jg st.ls toks (toks.map (·.2))else[])with|none=>none|some (ps,r,xs,L)=>bif r.isP then none else match Z3R d L (Z40 os) os xs,J1 st d L with|some m,some l=>some (ps,{val:=some (r.mapTok (ZZ d) (Z0D d L) (Z40 os)),mem:=m,kill:=toks.map (·.1),ls:=l})|_,_=>none
def Z5W(Γ:Known U)(st:FSt U)(d:Nat)(f:FuncId)(nm:Name)(args:List (V U)):Option (List Prop×Eff U):=match Γ f with|none=>none|some s=>match Yb st s.pass 0 (.ptr nm 0::args++JM st (.ptr nm 0::args)) [] []with|none=>none|some (vs,os,toks)=>match os.map λx=>Z9d st os (x.2,x.1)with
   |[]=>none|[c]::xs0=>match s.fn2 (.c c::(vs.take (args.length+1)).drop 1) ([c]::xs0) (bif s.wr then Jg st.ls toks (toks.map (·.2))else[])with
    |none=>none|some (ps,r,xs,L)=>bif r.isP then none else match Z3R d L (Z40 os) os xs,J1 st d L with
     |some m,some l=>some (ps,{val:=some (r.mapTok (ZZ d) (Z0D d L) (Z40 os)),mem:=m,kill:=toks.map (·.1),ls:=l})|_,_=>none
   |_=>none
def C.lend(st:FSt U):C U->C U
 |.mref t=>match st.ls t with
  |some x=>.slice x.T x.l .unk|none=>.jk
 |.slice T l (.own _)=>.slice T l .unk|.xp _=>.jk|c=>c
def V.lend(st:FSt U):V U->Option (V U)|.c x=>some (.c (x.lend st))|.agg cs=>some (.agg (cs.map (C.lend st)))|.fn f=>some (.fn f)|.kv v=>some (.kv v)|_=>none
def Zsw(Γ:Known U)(f:FuncId):Bool:=match Γ f with|some s=>s.bor|none=>false
def Z8u(Γ:Known U)(st:FSt U)(f:FuncId)(args:List (V U)):Option (List Prop×Eff U):=match Γ f,args.mapM (V.lend st)with
 |some s,some vs=>match s.fn2 vs [] []with
  |some (ps,.c (.int k n),[],[])=>some (ps,{val:=some (.c (.int k n))})|some (ps,.c (.bool b),[],[])=>some (ps,{val:=some (.c (.bool b))})|_=>none
 |_,_=>none
def C.bare:C U->C U|.slice T l _=>.slice T l .unk|.mref _=>.jk|.xp _=>.jk|c=>c
def V.bare:V U->Option (V U)|.c x=>some (.c x.bare)|.agg cs=>some (.agg (cs.map C.bare))|.fn f=>some (.fn f)|.kv v=>some (.kv v)|_=>none
def C.plain:C U->Bool|.slice _ _ .unk=>true|.slice ..=>false|.mref _=>false|.xp _=>false|_=>true
def ZFs(Γ:Known U)(f:FuncId):Bool:=match Γ f with|some s=>s.obj|none=>false
def Z55(st:FSt U):List (V U)->Option (List (V U)×List (Name×List (C U)))
 |[.ptr nm 0]=>match st.mem nm with|some cs=>some ([.ptr (.x 0) 0],[(nm,cs.map C.bare)])|none=>none
 |xs=>match xs.mapM V.bare with|some vs=>some (vs,[])|none=>none
def Zvf(Γ:Known U)(st:FSt U)(d:Nat)(f:FuncId)(args:List (V U)):Option (List Prop×Eff U):=match Γ f,Z55 st args with
 |some s,some (vs,os)=>match s.fn2 vs (os.map (·.2)) []with
  |some (ps,.ptr (.x k) 0,xs,[])=>if Nat.beq k os.length&&Nat.beq xs.length (k+1)&&xs.all (λcs=>cs.all C.plain)&&(st.mem (.loc d)).isNone then some (ps,{val:=some (.ptr (.loc d) 0),mem:=(os.map Prod.fst++[Name.loc d]).zip xs})else none|_=>none
 |_,_=>none
def lenOf(cfg:Cfg U)(st:FSt U)(t:TypeId):V U->Option (C U)
 |.c (.mref u)=>match cfg.slT t,st.ls u with
  |some S,some x=>match cfg.tyEq S x.T with|isTrue _=>some (.int .i64 x.l.length)|isFalse _=>none
  |_,_=>none
 |.c .nils=>match cfg.slT t with
  |some _=>some (.int .i64 0)|none=>none
 |.c (.slice T l _)=>match cfg.slT t with
  |some S=>match cfg.tyEq S T with
   |isTrue _=>some (.int .i64 l.length)|isFalse _=>none
  |none=>none
 |_=>none
def Z67(cfg:Cfg U)(st:FSt U)(T:U.Ty):C U->Option (List (U.El T)×Nat×Option Tok)
 |.mref t=>match st.ls t with
  |some x=>match cfg.tyEq x.T T with
   |isTrue h=>some (h▸x.l,x.f,some t)|isFalse _=>none
  |none=>none
 |c=>match Zhy cfg T c with
  |some (l,.full)=>some (l,l.length,none)|some (l,.own t)=>if st.dead t then none else some (l,l.length,some t)|_=>none
def ZLJ:C U->Bool|.mref _=>true|_=>false
def Z59(cfg:Cfg U)(st:FSt U)(d:Nat)(t:TypeId)(x y:C U):Option (List Prop×Eff U):=match cfg.slT t with|none=>none|some T=>match Z67 cfg st T x,Zhy cfg T y with|some (l,f,u),some (l',_)=>if(st.ls (.r d 0)).isNone&&!st.dead (.r d 0)&&!u.toList.contains (.r d 0)then some ([(l.length+l'.length)*cfg.bytes T<=140737488355328],{val:=some (.c (.mref (.r d 0))),kill:=u.toList,ls:=[(.r d 0,⟨T,l++l',f⟩)]})else none|_,_=>none
def Z58(cfg:Cfg U)(st:FSt U)(d:Nat)(t t':TypeId)(x y:C U):Option (List Prop×Eff U):=match cfg.slT t,cfg.var t',y with
 |some T,some (false,[.int .i64 _]),.int .i64 n=>match Z67 cfg st T x,(cfg.var (cfg.elT T)).bind λp=>cfg.dec T p.2 with
  |some (l,f,u),some z=>if(st.ls (.r d 0)).isNone&&!st.dead (.r d 0)&&!u.toList.contains (.r d 0)then some ([0<=n/\(l.length+n)*cfg.bytes T<=140737488355328],{val:=some (.c (.mref (.r d 0))),kill:=u.toList,ls:=[(.r d 0,⟨T,l++List.replicate n.toNat z,f⟩)]})else none|_,_=>none
 |_,_,_=>none
def Z89(cfg:Cfg U)(st:FSt U)(d:Nat)(t:TypeId)(x y:C U):Option (List Prop×Eff U):=match cfg.slT t with|none=>none|some T=>match Zhy cfg T x,Zhy cfg T y with
  |some (l,tl),some (l',_)=>let res:C U:=.slice T (l++l') (.own (.r d 0))
   let room:Prop:=(l.length+l'.length)*cfg.bytes T<=140737488355328
   match tl with
   |.unk=>none|.full=>some ([room],{val:=some (.c res)})|.own u=>match st.dead u with
    |true=>none|false=>some ([room],{val:=some (.c res),kill:=[u]})
  |_,_=>none
def Z88(mx:Bool)(x y:C U):Option (C U):=match x,y with|.int k a,.int k' b=>if k=k' then some (.int k (if mx then(if a<b then b else a)else(if b<a then b else a)))else none|_,_=>none
def Zlt(cfg:Cfg U)(t:TypeId)(x:C U)(lo hi mx:Option (V U)):Option (List Prop×C U):=match cfg.slT t with|none=>none|some T=>match Zhy cfg T x with|none=>none|some (l,tl)=>match lo,hi,mx with|none,none,none=>some ([],.slice T l tl)|some (.c (.int _ a)),none,none=>some ([0<=a/\a<=l.length],.slice T (l.drop a.toNat) tl)|none,some (.c (.int _ b)),none=>some ([0<=b/\b<=l.length],.slice T (l.take b.toNat) .unk)|some (.c (.int _ a)),some (.c (.int _ b)),none=>some ([0<=a/\a<=b/\b<=l.length],.slice T ((l.take b.toNat).drop a.toNat) .unk)|none,some (.c (.int _ b)),some (.c (.int _ m))=>some ([0<=b/\b<=l.length,m=b],.slice T (l.take b.toNat) .full)|some (.c (.int _ a)),some (.c (.int _ b)),some (.c (.int _ m))=>some ([0<=a/\a<=b/\b<=l.length,m=b],.slice T ((l.take b.toNat).drop a.toNat) .full)|_,_,_=>none
def Z8V(p:V U)(off n:Nat):Option (V U):=match p with|.ptr nm o=>some (.ptr nm (o+off))|.ep cs=>if off+n<=cs.length then some (.ep (cs.drop off))else none|_=>none
def Zjv(x:Option (List Prop×C U)):Option (List Prop×Eff U):=x.map λ(ps,c)=>(ps,{val:=some (.c c)})
def Js(cfg:Cfg U)(T:U.Ty):(i:Nat)->List (Nat×V U)->Option (List (U.El T))
 |_,[]=>some []|i,(k,v)::r=>if k=i then match v.cells with
   |some cs=>match cfg.dec T cs with|some x=>(Js cfg T (i+1) r).map (x::·)|none=>none
   |none=>none else none
def Zlw(cfg:Cfg U)(st:FSt U)(t:TypeId)(u:Tok)(n:Nat):Option (List Prop×Eff U):=match cfg.slT t,st.ls u with
 |some T,some x=>match cfg.tyEq T x.T,(cfg.var (cfg.elT x.T)).bind λp=>cfg.dec x.T p.2 with
  |isTrue _,some z=>some ([x.f<=n],{ls:=[(u,⟨x.T,x.l.take n++List.replicate (x.l.length-n) z,x.f⟩)]})|_,_=>none
 |_,_=>none
def cpL{α:Type}(l:List α)(n:Nat)(y:List α):List α:=l.take n++(y.take (l.length-n)++l.drop (n+y.length))
def Zty(cfg:Cfg U)(st:FSt U)(t:TypeId)(u:Tok)(n:Nat)(y:C U):Option (List Prop×Eff U):=match cfg.slT t,st.ls u with
 |some T,some x=>match cfg.tyEq T x.T,Zhy cfg x.T y with
  |isTrue _,some (l,_)=>some ([x.f<=n],{val:=some (.c (.int .i64 (min (x.l.length-n) l.length:Nat))),ls:=[(u,⟨x.T,cpL x.l n l,x.f⟩)]})|_,_=>none
 |_,_=>none
def Zhd(cfg:Cfg U)(st:FSt U)(dst:Option Nat)(b:Builtin)(args:List Operand)(ts:List TypeId):Option (List Prop×Eff U):=match b,args,ts with
 |.len,[x],[t]=>match st.opnd x with
  |some v=>(lenOf cfg st t v).map λc=>([],{val:=some (.c c)})|none=>none
 |.append,[x,y],[t,t']=>match dst,st.opnd x,st.opnd y with|some d,some (.c x),some (.c y)=>if t=t' then(bif st.mu||ZLJ x then Z59 cfg st d t x y else Z89 cfg st d t x y)else Z58 cfg st d t t' x y|_,_,_=>none
 |.clear,[x],[t]=>match st.opnd x with
  |some (.vw u n)=>Zlw cfg st t u n|_=>none
 |.copy,[x,y],[t,t']=>match st.opnd x,st.opnd y with
  |some (.vw u n),some (.c y)=>if t=t' then Zty cfg st t u n y else none|_,_=>none
 |.min,[x,y],_=>match st.opnd x,st.opnd y with
  |some (.c x),some (.c y)=>(Z88 false x y).map λc=>([],{val:=some (.c c)})|_,_=>none
 |.max,[x,y],_=>match st.opnd x,st.opnd y with
  |some (.c x),some (.c y)=>(Z88 true x y).map λc=>([],{val:=some (.c c)})|_,_=>none
 |_,_,_=>none
def Znv(Γ:Known U)(f:FuncId):Option (InL U):=match Γ f with|some s=>s.inp|none=>none
def Zvg(cfg:Cfg U)(st:FSt U)(i:InL U)(args:List (V U)):Option (List Prop×Eff U):=match args with
 |[.c (.mref t),.fn g]=>if g=i.g/\i.look.isNone=true then match st.ls t with
  |some x=>match cfg.tyEq x.T i.T with
   |isTrue h=>some ([x.f=0,x.l.length<=1000000000],{ls:=[(t,⟨i.T,i.F (h▸x.l),0⟩)]})|isFalse _=>none
  |none=>none else none|_=>none
def ZkA(Γ:Known U)(f:FuncId):Option Nat:=match Γ f with
 |some s=>match s.inp with
  |some i=>i.look|none=>none
 |none=>none
def C.isSl:C U->Bool|.nils=>true|.slice ..=>true|_=>false
def Zjl(st:FSt U)(k:Nat)(args:List (V U))(nms:List Name):Option (List Prop×Eff U):=match args,nms with
 |[.c c],[nm]=>match st.mem nm with
  |some [.xp x]=>bif Nat.blt x 8&&c.isSl then match st.mem (.x x)with
   |some cs=>match cs[k]? with
    |some (.int .i64 z)=>some ([],{val:=some (.agg [.int .i64 z,.nils,c.bare])})|_=>none
   |none=>none else none|_=>none
 |_,_=>none
def ZxB(cfg:Cfg U)(st:FSt U)(d:Option Nat)(t:TypeId)(x:Operand):Option (List Prop×Eff U):=match st.opnd x,cfg.slT t,d with|some (.c .nils),some T,some d=>bif(st.ls (.r d 0)).isNone&&!st.dead (.r d 0)then some ([],{val:=some (.c (.mref (.r d 0))),ls:=[(.r d 0,⟨T,[],0⟩)]})else none|_,_,_=>none
def Zlz(cfg:Cfg U)(Γ:Known U)(st:FSt U)(dst:Option Nat)(c:Call):Option (List Prop×Eff U):=match c.callee with
 |.builtin b=>Zhd cfg st dst b c.args.toList c.argTypes.toList|.value g=>match st.opnd g,c.args.toList.mapM st.opnd with
  |some (.fn f),some vs=>match Znv Γ f with
   |some i=>Zvg cfg st i vs|none=>bif Zsw Γ f then Z8u Γ st f vs else match(bif ZFs Γ f then Zvf Γ st (dst.getD 0) f vs else none)with|some r=>some r|none=>Z42 Γ st (dst.getD 0) f vs
  |some (.clo f nms),some vs=>match ZkA Γ f with
   |some k=>Zjl st k vs nms|none=>Z42 Γ st (dst.getD 0) f (vs++nms.map (.ptr · 0))
  |some (.kv (.func (.func f) first caps)),some vs=>match caps.toList,first.toList.mapM Z0g with
   |[],some us=>Z42 Γ st (dst.getD 0) f (us++vs)|_,_=>none
  |_,_=>none
 |.invoke r name=>match st.opnd r,c.args.toList.mapM st.opnd with
  |some (.ifp t nm),some vs=>match cfg.mth t name with
   |some (f,false)=>Z42 Γ st (dst.getD 0) f (.ptr nm 0::vs)|some (f,true)=>match st.mem nm with
    |some [c]=>bif Zsw Γ f then Z8u Γ st f (.c c::vs)else Z5W Γ st (dst.getD 0) f nm vs|_=>none
   |none=>none
  |_,_=>none
def Zlv(cfg:Cfg U)(st:FSt U)(dst:Option Nat)(T:U.Ty)(n m:Int)(z:U.El T):Option (List Prop×Eff U):=match dst with|some d=>if(st.ls (.r d 0)).isNone&&!st.dead (.r d 0)then some ([0<=n/\n*cfg.bytes T<=140737488355328/\n<=9223372036854775807,m=n],{val:=some (.c (.mref (.r d 0))),ls:=[(.r d 0,⟨T,List.replicate n.toNat z,0⟩)]})else none|none=>none
def Z5N(l:List (Nat×Operand)):Bool:=l.all λx=>match x.2 with|.const (.int _ _)=>true|_=>false
def ZeI(st:FSt U)(dst:Option Nat)(T:U.Ty)(l:List (U.El T)):Option (List Prop×Eff U):=match dst with|some d=>if(st.ls (.r d 0)).isNone&&!st.dead (.r d 0)then some ([],{val:=some (.c (.mref (.r d 0))),ls:=[(.r d 0,⟨T,l,0⟩)]})else none|none=>none
def aop(cfg:Cfg U)(Γ:Known U)(o:Oper)(st:FSt U):Option (List Prop×Eff U):=match o.op with
 |.move x=>(st.opnd x).bind λv=>match v with
  |.junk|.gd ..=>none|v=>some ([],{val:=some v})
 |.assign x=>match(bif Γ.nl then ZxB cfg st o.dst o.type x else none)with
  |some r=>some r|none=>(st.opnd x).bind λv=>match v with
   |.junk|.gd ..=>none|v=>some ([],{val:=some v})
 |.alloc t=>match o.dst,cfg.var t with
  |some d,some (_,zs)=>if(st.mem (.loc d)).isSome then none else some ([],{val:=some (.ptr (.loc d) 0),mem:=[(.loc d,zs)]})|_,_=>none
 |.box t x=>match o.dst,cfg.var t,(st.opnd x).bind V.cells with|some d,some (_,zs),some cs=>if(st.mem (.loc d)).isSome||cs.length !=zs.length then none else some ([],{val:=some (.ptr (.loc d) 0),mem:=[(.loc d,cs)]})|_,_,_=>none
 |.build t parts=>match cfg.var t,parts.toList.mapM λ(i,x)=>((st.opnd x).bind V.cells).map (i,·)with
  |some (true,zs),some ps=>(Z1e cfg t zs ps).map λcs=>([],{val:=some (.agg cs)})|_,_=>none
 |.buildSlice t n parts=>match cfg.slT t,parts.toList.mapM λ(i,x)=>(st.opnd x).map (i,·)with
  |some T,some ps=>if ps.length=n/\n*cfg.sz T<=16777216 then(Js cfg T 0 ps).bind λl=>bif st.mu&&Z5N parts.toList then ZeI st o.dst T l else some ([],{val:=some (.c (.slice T l .full))})else none|_,_=>none
 |.load t p=>match cfg.var t,st.opnd p with
  |some (ag,zs),some (.mp u n off)=>match st.ls u with
   |some x=>if off+zs.length<=cfg.sz x.T then(mkV ag (((cfg.enc x.T (x.l.getD n (cfg.dflt x.T))).drop off).take zs.length)).map λv=>([],{val:=some v})else none|none=>none
  |some (ag,zs),some (.c (.po T o))=>(rd st (.ep (cfg.enc T (o.getD (cfg.dflt T)))) ag zs.length).map λv=>([o.isSome=true],{val:=some v})|some (ag,zs),some p=>(rd st p ag zs.length).map λv=>([],{val:=some v})|_,_=>none
 |.store t p x=>match cfg.var t,st.opnd p,(st.opnd x).bind V.cells with
  |some (_,zs),some (.ptr nm off),some new=>match st.mem nm with|some cs=>if new.length=zs.length then(YK cs off new).map λcs'=>([],{mem:=[(nm,cs')]})else none|none=>none
  |some (_,zs),some (.mp u n off),some new=>match st.ls u with
   |some x=>if new.length=zs.length then match(YK (cfg.enc x.T (x.l.getD n (cfg.dflt x.T))) off new).bind (cfg.dec x.T)with
    |some y=>some ([x.f<=n],{ls:=[(u,⟨x.T,x.l.set n y,x.f⟩)]})|none=>none else none|none=>none
  |some (_,zs),some (.ap nm off k len n),some [.int k' x]=>match st.mem nm with
   |some cs=>if off+len<=cs.length/\k=k'/\zs.length=1 then match Z1M k ((cs.drop off).take len)with
    |some l=>some ([],{mem:=[(nm,cs.take off++Z2M k n x 0 l++cs.drop (off+len))]})|none=>none else none|none=>none
  |_,_,_=>none
 |.nilCheck x=>match st.opnd x with|some (.ptr nm off)=>some ([],{val:=some (.ptr nm off)})|some (.ep cs)=>some ([],{val:=some (.ep cs)})|some (.mp u n off)=>if(st.ls u).isSome then some ([],{val:=some (.mp u n off)})else none|some (.c (.po T o))=>some ([o.isSome=true],{val:=some (.c (.po T o))})|_=>none
 |.binOp op t x y _=>match st.opnd x,st.opnd y with
  |some (.c (.bool a)),some (.c (.bool b))=>match cfg.var t with
   |some (false,[.bool _])=>(Ztz op a b).map λc=>([],{val:=some (.c c)})|_=>none
  |some (.c (.slice _ l _)),some (.c .nils)=>match op,cfg.slT t with
   |.eql,some _=>some ([],{val:=some (.nb (l=[]) True)})|.neq,some _=>some ([],{val:=some (.nb True (l=[]))})|_,_=>none
  |some (.c (.po _ o)),some (.c .nilp)=>match op,cfg.var t with
   |.eql,some (false,[.nilp])=>some ([],{val:=some (.c (.bool o.isNone))})|.neq,some (false,[.nilp])=>some ([],{val:=some (.c (.bool o.isSome))})|_,_=>none
  |some (.ptr _ _),some (.c .nilp)=>match op,cfg.var t with
   |.eql,some (false,[.nilp])=>some ([],{val:=some (.c (.bool false))})|.neq,some (false,[.nilp])=>some ([],{val:=some (.c (.bool true))})|_,_=>none
  |some (.c .nilp),some (.c .nilp)=>match op,cfg.var t with
   |.eql,some (false,[.nilp])=>some ([],{val:=some (.c (.bool true))})|.neq,some (false,[.nilp])=>some ([],{val:=some (.c (.bool false))})|_,_=>none
  |some (.c a),some (.c b)=>Zjv (ZE8 Γ.wr op a b)|some (.agg a),some (.agg b)=>match op,cfg.eqs t,Zhr a b,cfg.var t with
   |.eql,true,some r,some (_,zs)=>if Z8g zs a then some ([],{val:=some (.c (.bool r))})else none|.neq,true,some r,some (_,zs)=>if Z8g zs a then some ([],{val:=some (.c (.bool (!r)))})else none|_,_,_,_=>none
  |_,_=>none
 |.unOp op _ x=>match st.opnd x with|some (.c a)=>Zjv (aUn Γ.wr op a)|_=>none
 |.convert src dst x=>match cfg.var src,cfg.var dst,st.opnd x with|some (false,[.int _ _]),some (false,[.int k _]),some (.c (.int _ n))=>some ([],{val:=some (.c (.int k (k.wrap n)))})|_,_,_=>none
 |.makeSlice t n m=>match cfg.slT t,st.opnd n,st.opnd m with
  |some T,some (.c (.int .i64 n)),some (.c (.int .i64 m))=>match cfg.var (cfg.elT T)with
   |some (_,zs)=>match cfg.dec T zs with
    |some z=>bif st.mu then Zlv cfg st o.dst T n m z else some ([0<=n/\n*cfg.bytes T<=140737488355328/\n<=9223372036854775807,m=n],{val:=some (.c (.slice T (List.replicate n.toNat z) .full))})|none=>none
   |none=>none
  |_,_,_=>none
 |.slice t x lo hi mx=>match st.opnd x,JU st lo,JU st hi,JU st mx with
  |some (.ptr nm off),some none,some none,some none=>match cfg.arr t,cfg.slT o.type,st.mem nm with
   |some (len,et),some T,some cs=>if off=0/\cs.length=len/\cfg.sz T=1/\cfg.elT T=et then match cs.mapM λc=>cfg.dec T [c]with|some l=>some ([],{val:=some (.c (.slice T l .full)),mem:=[(nm,[])]})|none=>none else none|_,_,_=>none
  |some (.c (.mref u)),some (some (.c (.int _ a))),some none,some none=>match cfg.slT t,st.ls u with
   |some S,some x=>match cfg.tyEq S x.T with
    |isTrue _=>bif st.vw then some ([0<=a/\a<=x.l.length],{val:=some (.vw u a.toNat)})else none|isFalse _=>none
   |_,_=>none
  |some (.c (.mref u)),some none,some (some (.c (.int _ b))),some none=>match cfg.slT t,st.ls u,o.dst with
   |some S,some x,some d=>match cfg.tyEq S x.T with
    |isTrue _=>bif st.vw&&(st.ls (.r d 0)).isNone&&!st.dead (.r d 0)&&!([u].contains (.r d 0))then some ([0<=b/\b<=x.l.length,(x.f:Int)<=b],{val:=some (.c (.mref (.r d 0))),kill:=[u],ls:=[(.r d 0,⟨x.T,x.l.take b.toNat,x.f⟩)]})else none|isFalse _=>none
   |_,_,_=>none
  |some (.c x),some lo,some hi,some mx=>Zjv (Zlt cfg t x lo hi mx)|_,_,_,_=>none
 |.makeInterface t x=>match st.opnd x with
  |some (.ptr nm 0)=>bif cfg.nif t then some ([],{val:=some (.ifp t nm)})else none|some (.agg cs)=>match ZcV cs with
   |some l=>bif cfg.nif t then some ([],{val:=some (.kv (.iface t (.agg l.toArray)))})else none|none=>none
  |_=>none
 |.typeAssert x _ t ck=>match ck,st.opnd x with
  |false,some (.kv (.iface t' (.agg vs)))=>match Zd6 vs.toList with
   |some cs=>bif Nat.beq t' t&&cfg.nif t then some ([],{val:=some (.agg cs)})else none|none=>none
  |_,_=>none
 |.fieldAddr t x f=>match st.opnd x,cfg.fld t f with
  |some (.mp u n o'),some (off,ft)=>match cfg.var ft with|some _=>if(st.ls u).isSome then some ([],{val:=some (.mp u n (o'+off))})else none|none=>none
  |some (.c (.po T o)),some (off,ft)=>match cfg.var ft with
   |some (_,zs)=>(Z8V (.ep (cfg.enc T (o.getD (cfg.dflt T)))) off zs.length).map λv=>([o.isSome=true],{val:=some v})|none=>none
  |some p,some (off,ft)=>match cfg.var ft with
   |some (_,zs)=>(Z8V p off zs.length).map λv=>([],{val:=some v})|none=>none
  |_,_=>none
 |.field t x f=>match st.opnd x,cfg.fld t f with
  |some (.agg cs),some (off,ft)=>match cfg.var ft with|some (ag,zs)=>if off+zs.length<=cs.length then(mkV ag ((cs.drop off).take zs.length)).map λv=>([],{val:=some v})else none|none=>none
  |_,_=>none
 |.indexAddr t x i=>match st.opnd x,st.opnd i with
  |some (.c (.slice T l _)),some (.c (.int _ n))=>match cfg.slT t with
   |some S=>match cfg.tyEq S T with
    |isTrue _=>some ([0<=n/\n<l.length],{val:=some (.ep (cfg.enc T (l.getD n.toNat (cfg.dflt T))))})|isFalse _=>none
   |none=>none
  |some (.c (.mref u)),some (.c (.int _ n))=>match cfg.slT t,st.ls u with
   |some S,some x=>match cfg.tyEq S x.T with
    |isTrue _=>some ([0<=n/\n<x.l.length],{val:=some (.mp u n.toNat 0)})|isFalse _=>none
   |_,_=>none
  |some (.ptr nm off),some (.c (.int _ n))=>match cfg.arr t with
   |some (len,et)=>match cfg.var et with
    |some (false,[.int k _])=>some ([0<=n/\n<len],{val:=some (.ap nm off k len n)})|some (_,zs)=>if 0<=n/\n<len then some ([],{val:=some (.ptr nm (off+n.toNat*zs.length))})else none|none=>none
   |none=>none
  |_,_=>none
 |.index t x i=>match st.opnd x,st.opnd i with
  |some (.agg cs),some (.c (.int _ n))=>match cfg.arr t with
   |some (len,et)=>match cfg.var et with
    |some (false,[.int k _])=>if len=cs.length then match Z1M k cs with
     |some l=>some ([0<=n/\n<len],{val:=some (.c (.int k (l.getD n.toNat 0)))})|none=>none else none|some (ag,zs)=>if 0<=n/\n<len/\n.toNat*zs.length+zs.length<=cs.length then(mkV ag ((cs.drop (n.toNat*zs.length)).take zs.length)).map λv=>([],{val:=some v})else none|none=>none
   |none=>none
  |_,_=>none
 |.extract x i=>match st.opnd x with
  |some (.tup vs)=>match vs[i]? with|some (ag,cs)=>(mkV ag cs).map λv=>([],{val:=some v})|none=>none
  |_=>none
 |.makeFunc f first caps=>match f,first.toList,caps.toList.mapM λx=>(st.opnd x).bind Zk9 with
  |.func f,[],some nms=>some ([],{val:=some (.clo f nms)})|.func f,[x],some []=>match st.opnd x with
   |some (.agg cs)=>(ZcV cs).map λl=>([],{val:=some (.kv (.func (.func f) #[.agg l.toArray] #[]))})|_=>none
  |_,_,_=>none
 |.call c=>Zlz cfg Γ st o.dst c|_=>none
def V.deX:V U->V U|.c (.xp k)=>.ptr (.x k) 0|v=>v
def V.strip:V U->V U|.gd _ v=>v.deX|v=>v.deX
def FSt.strip(st:FSt U):FSt U:={st with env:=λk=>(st.env k).strip}
def Z0Q(st:FSt U)(G:Option Bool):List Operand->List Prop
 |[]=>[]|.tmp t::r=>match st.env t with
  |.gd g _=>(match G with|some G=>(G=true->g=true)|none=>g=true)::Z0Q st G r|_=>Z0Q st G r
 |_::r=>Z0Q st G r
def Z5F(ops:Array Oper)(st:FSt U)(o:Oper):Option (Option Bool):=match o.guard with|none=>some none|some (j,want)=>match(ops[j]?).bind (·.dst)with
  |some t=>match st.env t with
   |.c (.bool g)=>some (some (if want then g else !g))|.gd g0 (.c (.bool g))=>some (some (g0&&(if want then g else !g)))|_=>none
  |none=>none
def gW:Option Bool->Prop->Prop|none,p=>p|some G,p=>G=true->p
def gV:Option Bool->V U->V U|none,v=>v|some G,v=>.gd G v
def ZdV(G:Option Bool)(c:Prop):V U->List Prop|.gd g _=>[gW G (c->g=true)]|_=>[]
def ZFE(d:Option Nat)(n:Nat):Bool:=match d with|some d=>Nat.blt d n|none=>true
def Jm(l:List Name)(nm:Name):Bool:=match l with|[]=>false|a::r=>if a=nm then true else Jm r nm
def Zw:Option (V U)->List Name|some (.ptr nm _)=>[nm]|some (.ap nm _ _ _ _)=>[nm]|some (.clo _ nms)=>nms|some (.ifp _ nm)=>[nm]|_=>[]
def V.toks:V U->List Tok|.c (.mref t)=>[t]|.mp t _ _=>[t]|.vw t _=>[t]|_=>[]
def Z9m:List Name->List Name|[]=>[]|a::l=>a::l++[.x 0,.x 1,.x 2,.x 3,.x 4,.x 5,.x 6,.x 7]
def touch(o:Oper)(st:FSt U):List Name:=match o.op with
 |.load _ p=>Zw (st.strip.opnd p)|.store _ p _=>Zw (st.strip.opnd p)|.alloc _|.box _ _=>match o.dst with
  |some d=>[.loc d]|none=>[]
 |.slice _ x _ _ _=>Zw (st.strip.opnd x)|.call c=>.loc (o.dst.getD 0)::Z9m (Zw (match c.callee with|.value g=>st.strip.opnd g|.invoke r _=>st.strip.opnd r|_=>none)++c.args.toList.flatMap λx=>Zw (st.strip.opnd x))|_=>[]
def Z0w(o:Oper):List Operand:=match o.op with
 |.load _ p=>[p]|.store _ p _=>[p]|.nilCheck x=>[x]|.fieldAddr _ x _=>[x]|.indexAddr _ x _=>[x]|.slice _ x _ _ _=>[x]|.call c=>match c.callee with
  |.builtin _=>c.args.toList|_=>[]
 |_=>[]
def touchT(o:Oper)(st:FSt U):List Tok:=(Z0w o).flatMap λx=>(st.strip.opnd x).toList.flatMap V.toks
def Znt(tyEq:DecidableEq U.Ty)(G:Bool):C U->C U->Option (C U)
 |.int k n,.int k' n'=>if k=k' then some (.int k (bif G then n' else n))else none|.bool b,.bool b'=>some (.bool (bif G then b' else b))|.nils,.nils=>some .nils|.nilp,.nilp=>some .nilp|.xp k,.xp k'=>if k=k' then some (.xp k)else none|.po T o,.po T' o'=>match tyEq T' T with
  |isTrue h=>some (.po T (bif G then h▸o' else o))|isFalse _=>none
 |.slice T l .unk,.slice T' l' .unk=>match tyEq T' T with|isTrue h=>some (.slice T (bif G then h▸l' else l) .unk)|isFalse _=>none
 |_,_=>none
def ZdT(tyEq:DecidableEq U.Ty)(G:Bool):List (C U)->List (C U)->Option (List (C U))
 |[],[]=>some []|c::r,c'::r'=>match Znt tyEq G c c',ZdT tyEq G r r' with
  |some x,some y=>some (x::y)|_,_=>none
 |_,_=>none
def Z4L(tyEq:DecidableEq U.Ty)(G:Bool)(m:Name->Option (List (C U))):List (Name×List (C U))->Option (List (Name×List (C U)))|[]=>some []|(nm,cs')::r=>match m nm with|none=>none|some cs=>match ZdT tyEq G cs cs',Z4L tyEq G m r with|some x,some y=>some ((nm,x)::y)|_,_=>none
def Z66(cfg:Cfg U)(Γ:Known U)(ops:Array Oper)(o:Oper)(st:FSt U):Option (List Prop×Eff U):=if ZFE o.dst st.n then match o.op,o.guard with
 |.pick c a b,_=>match Z5F ops st o,st.opnd c,st.opnd a,st.opnd b with
  |some G,some c,some a,some b=>match c.strip,a.strip,b.strip with
   |.c (.bool cv),.c (.bool av),.c (.bool bv)=>some (ZdV G True c++(ZdV G (cv=true) a++ZdV G (cv=false) b),{val:=some (gV G (.c (.bool (bif cv then av else bv))))})|.c (.bool true),.c (.bool av),_=>some (ZdV G True c++ZdV G True a,{val:=some (gV G (.c (.bool av)))})|.c (.bool false),_,.c (.bool bv)=>some (ZdV G True c++ZdV G True b,{val:=some (gV G (.c (.bool bv)))})|_,_,_=>none
  |_,_,_,_=>none
 |_,_=>match Z5F ops st o with
  |none=>none|some G=>match aop cfg Γ o st.strip with
   |none=>match G with|some false=>some ([],{val:=some (.gd false .junk)})|_=>none
   |some (ps,e)=>match G with
    |none=>some (Z0Q st none o.op.operands.toList++ps,e)|some G=>match e with
     |{val:=some v,mem:=[],kill:=[],ls:=[]}=>some (Z0Q st (some G) o.op.operands.toList++ps.map (λp=>G=true->p),{val:=some (.gd G v)})|{val:=some v,mem:=m,kill:=[],ls:=[]}=>match m.all (λx=>Jm (touch o st) x.1),Z4L cfg.tyEq G st.mem m with|true,some m'=>some (Z0Q st (some G) o.op.operands.toList++ps.map (λp=>G=true->p),{val:=some (.gd G v),mem:=m'})|_,_=>none
     |e=>match G with
      |true=>some (Z0Q st (some true) o.op.operands.toList++ps,e)|false=>some ([],{val:=some (.gd false .junk)})else none
def Zkw(st:FSt U)(nm:Name):List Tok:=match st.mem nm with|some cs=>ZxF cs|none=>[]
def Zr8(st:FSt U):Option (V U)->List Tok|some (.ptr nm _)=>Zkw st nm|some (.clo _ nms)=>nms.flatMap (Zkw st)|some (.ifp _ nm)=>Zkw st nm|some v=>v.muts|none=>[]
def Z54:Option (V U)->List Tok|some v=>v.muts|none=>[]
def Z7r(Γ:Known U):Option (V U)->Bool
 |some (.fn f)=>match Γ f with
  |some s=>s.wr||s.bor||s.inp.isSome|none=>false
 |some (.clo f _)=>match Γ f with
  |some s=>s.wr|none=>false
 |_=>false
def Zet(Γ:Known U)(o:Oper)(st:FSt U):List Tok:=match o.op with
 |.call c=>match c.callee with
  |.builtin .append=>match c.args.toList with
   |[_,y]=>Z54 (st.strip.opnd y)|_=>[]
  |.value g=>match Z7r Γ (st.strip.opnd g)with|true=>[]|false=>Zr8 st (st.strip.opnd g)++c.args.toList.flatMap λx=>Zr8 st (st.strip.opnd x)
  |_=>[]
 |.slice _ x lo hi mx=>bif st.vw&&mx.isNone&&(lo.isSome&&hi.isNone||lo.isNone&&hi.isSome)then[]else Z54 (st.strip.opnd x)|.buildSlice _ _ parts=>parts.toList.flatMap λx=>Z54 (st.strip.opnd x.2)|.binOp _ _ x y _=>Z54 (st.strip.opnd x)++Z54 (st.strip.opnd y)|.store _ p x=>match st.strip.opnd p with
  |some (.mp ..)=>Z54 (st.strip.opnd x)|_=>[]
 |_=>[]
def Z6G{α:Type}(cfg:Cfg U)(st:FSt U)(k:FSt U->α):List Tok->α|[]=>k st|t::r=>k (st.frz cfg (t::r))
def FSt.pre(cfg:Cfg U)(Γ:Known U)(st:FSt U)(fz:Bool)(o:Oper):FSt U:=Z6G cfg st id (bif fz then Zet Γ o st else[])
def Zh9(cfg:Cfg U)(Γ:Known U)(ops:Array Oper)(fz:Bool):List Oper->FSt U->Option (List Prop×FSt U)|[],st=>some ([],st)|o::r,st=>Z6G cfg st (λst=>match Z66 cfg Γ ops o st with|none=>none|some (ps,e)=>match Zh9 cfg Γ ops fz r (st.app o.dst e)with|none=>none|some (qs,st')=>some (ps++qs,st')) (bif fz then Zet Γ o st else[])
def All:List Prop->Prop|[]=>True|p::r=>p/\All r
end Go.AM
namespace Go.AM
variable{U:Uni}
inductive Tag where|obj(nm:Name)|tok(t:Tok)|outer(t:Tag)
structure Gh where
 m:Addr->Option Value
 tag:Addr->Option Tag
 ad:Name->Addr
 bs:Tok->Option (Value×Nat)
inductive SimC(cfg:Cfg U)(m:Addr->Option Value):Value->C U->Prop|int(k n):SimC cfg m (.int k n) (.int k n)|bool(b):SimC cfg m (.bool b) (.bool b)|nils:SimC cfg m (.slice none 0 0) .nils|nilp:SimC cfg m (.pointer none) .nilp|pnil(T):SimC cfg m (.pointer none) (.po T none)|po(T x a)(vs:Nat->Value)(hm:∀j c,(cfg.enc T x)[j]?=some c->m (a.add j)=some (vs j))(hs:∀j c,(cfg.enc T x)[j]?=some c->SimC cfg m (vs j) c):SimC cfg m (.pointer (some a)) (.po T (some x))|mref(v t)(h:v.oneCell'=true/\v.cells=#[v]):SimC cfg m v (.mref t)|xp(v k)(h:v.oneCell'=true/\v.cells=#[v]):SimC cfg m v (.xp k)|jk(v)(h:v.oneCell'=true/\v.cells=#[v]):SimC cfg m v .jk|kc(v)(h:v.oneCell'=true/\v.cells=#[v]):SimC cfg m v (.kc v)|snil(T tl):SimC cfg m (.slice none 0 0) (.slice T [] tl)|slice(T l tl a len cap)(vs:Nat->Nat->Value)(hl:l.length=len)(hc:len<=cap)(hm:∀i x,l[i]?=some x->∀j c,(cfg.enc T x)[j]?=some c->m (a.add (i*cfg.sz T+j))=some (vs i j))(hs:∀i x,l[i]?=some x->∀j c,(cfg.enc T x)[j]?=some c->SimC cfg m (vs i j) c):SimC cfg m (.slice (some a) len cap) (.slice T l tl)
def TailOk(cfg:Cfg U)(g:Gh)(dead:Tok->Bool)(v:Value):C U->Prop|.slice _ _ .full=>∀a len cap,v=.slice a len cap->len=cap|.slice T _ (.own t)=>dead t=false->∀a len cap,v=.slice (some a) len cap->∀j,len*cfg.sz T<=j->j<cap*cfg.sz T->g.tag (a.add j)=some (.tok t)|.mref t=>dead t=false->∃s,g.bs t=some (v,s)|.xp k=>v=.pointer (some (g.ad (.x k)))|_=>True
def RelC(cfg:Cfg U)(g:Gh)(dead:Tok->Bool)(v:Value)(c:C U):Prop:=SimC cfg g.m v c/\TailOk cfg g dead v c
def RelL(cfg:Cfg U)(g:Gh)(dead:Tok->Bool)(vs:List Value)(cs:List (C U)):Prop:=vs.length=cs.length/\∀(j:Nat)v c,vs[j]?=some v->cs[j]?=some c->RelC cfg g dead v c
def RelW(cfg:Cfg U)(g:Gh)(dead:Tok->Bool)(v:Value)(ag:Bool)(cs:List (C U)):Prop:=match ag with|true=>∃vs:Array Value,v=.agg vs/\RelL cfg g dead vs.toList cs|false=>∃c,cs=[c]/\RelC cfg g dead v c
def RelV(cfg:Cfg U)(g:Gh)(dead:Tok->Bool)(live:Name->Bool)(v:Value):V U->Prop|.c x=>RelC cfg g dead v x|.agg cs=>∃vs:Array Value,v=.agg vs/\RelL cfg g dead vs.toList cs|.tup ws=>∃vs:Array Value,v=.tuple vs/\vs.size=ws.length/\∀(j:Nat)u w,vs[j]?=some u->ws[j]?=some w->RelW cfg g dead u w.1 w.2|.ptr nm off=>(live nm||nm.isX)=true/\v=.pointer (some ((g.ad nm).add off))|.ap nm off _ len n=>(live nm||nm.isX)=true/\(0<=n/\n<(len:Int))/\v=.pointer (some ((g.ad nm).add (off+n.toNat)))|.ep cs=>∃a,v=.pointer (some a)/\∀j c,cs[j]?=some c->∃u,g.m (a.add j)=some u/\RelC cfg g dead u c|.mp t n off=>dead t=false->∃b len cap s,g.bs t=some (.slice (some b) len cap,s)/\n<len/\v=.pointer (some (b.add (n*s+off)))|.vw t n=>dead t=false->∃b len cap s,g.bs t=some (.slice b len cap,s)/\n<=len/\v=.slice (if cap=n then b else b.map (·.add (n*s))) (len-n) (cap-n)|.fn f=>v=.func (.func f) #[] #[]|.clo f nms=>(∀nm∈nms,(live nm||nm.isX)=true)/\v=.func (.func f) #[] (nms.map λnm=>Value.pointer (some (g.ad nm))).toArray|.ifp t nm=>(live nm||nm.isX)=true/\v=.iface t (.pointer (some (g.ad nm)))|.kv u=>v=u|.gd b x=>(b=true->RelV cfg g dead live v x)/\(b=false->v=undef)|.nb p q=>∃b,v=.bool b/\(b=true->p)/\(b=false->q)|.junk=>True
def LRel(cfg:Cfg U)(w:World)(g:Gh)(t:Tok)(x:LC U):Prop:=(g.bs t=some (.slice none 0 0,cfg.sz x.T)/\x.l=[]/\x.f=0)\/∃b len cap,g.bs t=some (.slice (some b) len cap,cfg.sz x.T)/\x.l.length=len/\len<=cap/\x.f<=len/\(∀i y,x.l[i]?=some y->∀j c,(cfg.enc x.T y)[j]?=some c->∃u,w.cell? (b.add (i*cfg.sz x.T+j))=some u/\SimC cfg g.m u c/\(i<x.f->g.m (b.add (i*cfg.sz x.T+j))=some u)/\(x.f<=i->g.tag (b.add (i*cfg.sz x.T+j))=some (.tok t)))/\∀j,len*cfg.sz x.T<=j->j<cap*cfg.sz x.T->g.tag (b.add j)=some (.tok t)
structure Stay(w w':World):Prop where
 os:w'.os=w.os
 tape:w'.tape=w.tape
 output:w'.output=w.output
 size:w.heap.size<=w'.heap.size
structure Inv(m:Addr->Option Value)(tag:Addr->Option Tag)(w:World):Prop where
 im:∀a v,m a=some v->w.cell? a=some v/\tag a=none
 it:∀a t,tag a=some t->w.frozen? a=false/\∃v,w.cell? a=some v
structure Base where
 w:World
 m:Addr->Option Value
 tag:Addr->Option Tag
 xad:Nat->Addr
structure Fr(B:Base)(g:Gh)(w:World):Prop where
 stay:Stay B.w w
 xad:∀k,g.ad (.x k)=B.xad k
 mono:∀a v,B.m a=some v->g.m a=some v
 outer:∀a t,B.tag a=some (.outer t)->g.tag a=some (.outer t)/\w.cell? a=B.w.cell? a
 outer':∀a t,g.tag a=some (.outer t)->B.tag a=some (.outer t)clean:∀b,b<B.w.heap.size->(∀o s t,B.tag ⟨b,o,s⟩=some t->∃t',t=.outer t')->w.heap[b]?=B.w.heap[b]?/\∀o s,g.tag ⟨b,o,s⟩=B.tag ⟨b,o,s⟩frz:∀a,a.block<B.w.heap.size->w.frozen? a=B.w.frozen? a
structure Rel(cfg:Cfg U)(B:Base)(st:FSt U)(g:Gh)(a:Act)(w:World):Prop where
 inv:Inv g.m g.tag w
 fr:Fr B g w
 env:∀k,RelV cfg g st.dead (λnm=>(st.mem nm).isSome) (a.tmps.getD k undef) (st.env k)mem:∀nm cs,st.mem nm=some cs->∀j c,cs[j]?=some c->∃v,w.cell? ((g.ad nm).add j)=some v/\g.tag ((g.ad nm).add j)=some (.obj nm)/\RelC cfg g st.dead v c
 sz:a.tmps.size=st.n
 df:a.defers=[]ls:∀t x,st.ls t=some x->st.dead t=false/\LRel cfg w g t x
 fresh:∀t,t.isR=true->st.ls t=none->st.dead t=false->g.bs t=none
inductive Wk:C U->C U->Prop|int(k n):Wk (.int k n) (.int k n)|bool(b):Wk (.bool b) (.bool b)|nilp:Wk .nilp .nilp|pnil(T):Wk .nilp (.po T none)|po(T o):Wk (.po T o) (.po T o)|nils:Wk .nils .nils|snil(T):Wk .nils (.slice T [] .unk)|slice(T l tl):Wk (.slice T l tl) (.slice T l .unk)
def ZEb(ag:Bool)(z:Value)(zs:List (C U)):Prop:=(ag=true->∃vs,z=.agg vs)/\(ag=false->z.cells=#[z])/\z.cells.toList.map Z0b=zs.map some
def TypeDesc.ag:TypeDesc->Bool|.struct _|.array _ _=>true|_=>false
structure CfgOk(P:Program)(cfg:Cfg U):Prop where
 enc_len:∀T x,(cfg.enc T x).length=cfg.sz T
 enc_plain:∀T x c,c∈cfg.enc T x->c.plain=true
 dec_ok:∀T cs x,cfg.dec T cs=some x->cs.length=(cfg.enc T x).length/\∀(j:Nat)c c',cs[j]?=some c->(cfg.enc T x)[j]?=some c'->Wk c c'
 sz_pos:∀T,0<cfg.sz T
 bytes_pos:∀T,0<cfg.bytes T
 el:∀T,∃i ag zs z,P.info? (cfg.elT T)=some i/\i.size=cfg.sz T/\i.bytes=cfg.bytes T/\i.zero=some z/\cfg.var (cfg.elT T)=some (ag,zs)/\zs.length=cfg.sz T
 sl:∀t T,cfg.slT t=some T->P.underlying t=some (.slice (cfg.elT T))var:∀t ag zs,cfg.var t=some (ag,zs)->0<zs.length/\∃i z d,P.info? t=some i/\P.underlying t=some d/\i.size=zs.length/\TypeDesc.ag d=ag/\i.zero=some z/\ZEb ag z zs/\(ag=false->∀k n,zs=[.int k n]->d=.int k)/\(ag=false->∀b,zs=[.bool b]->d=.bool)/\(∀fs,d=.struct fs->(fs.toList.all λfd=>(P.info? fd.type).isSome)=true)/\(∀n e,d=.array n e->(P.info? e).isSome=true)fld:∀s f off t,cfg.fld s f=some (off,t)->∃fs fd,P.underlying s=some (.struct fs)/\fs[f]?=some fd/\fd.offset=off/\fd.type=t
 arr:∀t n e,cfg.arr t=some (n,e)->P.underlying t=some (.array n e)mixed:P.follows .mixedOrders=true
 eqs:∀t,cfg.eqs t=true→∃fs,P.underlying t=some (.struct fs)∧(∀ag zs,cfg.var t=some (ag,zs)→zs.length=fs.size)∧P.stoodInHeld t=false∧P.eqGuardType P.depth t=false∧∀(i:Nat)f,fs[i]?=some f→f.name≠ "_" ∧f.offset=i∧∀ag zs,cfg.var t=some (ag,zs)→(∀k n,zs[i]?=some (.int k n)→∃k,P.underlying f.type=some (.int k))∧∀b,zs[i]?=some (.bool b)→P.underlying f.type=some .bool
 ptr:∀t,cfg.var t=some (false,[.nilp])->∃e,P.underlying t=some (.pointer e)nif:∀t,cfg.nif t=true->∃d,P.underlying t=some d/\∀m,d≠.interface m
 mth:∀t name f vr,cfg.mth t name=some (f,vr)->∃i m e,P.info? t=some i/\i.methods.find? (·.name==name)=some m/\m.path=#[]/\m.func=some (f,!vr)/\P.underlying t=some (.pointer e)/\(vr=true->∃z,cfg.var e=some (false,[z]))
theorem SimC.mono{cfg:Cfg U}{m m':Addr->Option Value}(hm:∀a v,m a=some v->m' a=some v){v:Value}{c:C U}(h:SimC cfg m v c):SimC cfg m' v c:=by induction h with|int k n=>exact .int k n|bool b=>exact .bool b|nils=>exact .nils|nilp=>exact .nilp|pnil T=>exact .pnil T|po T x a vs h1 h2 ih=>exact .po T x a vs (λj c hc=>hm _ _ (h1 j c hc)) ih|mref v t h=>exact .mref v t h|xp v k h=>exact .xp v k h|jk v h=>exact .jk v h|kc v h=>exact .kc v h|snil T tl=>exact .snil T tl|slice T l tl a len cap vs hl hc hm' hs ih=>exact .slice T l tl a len cap vs hl hc (λi x hx j c d=>hm _ _ (hm' i x hx j c d)) (λi x hx j c d=>ih i x hx j c d)
theorem SimC.wk{cfg:Cfg U}{m:Addr->Option Value}{v:Value}{c c':C U}(h:SimC cfg m v c)(hw:Wk c c'):SimC cfg m v c':=by cases hw with|int=>exact h|bool=>exact h|nilp=>exact h|pnil T=>cases h;exact .pnil T|po T o=>exact h|nils=>exact h|snil T=>cases h;exact .snil T .unk|slice T l tl=>cases h with|snil=>exact .snil T .unk|slice _ _ _ a len cap vs hl hc hm hs=>exact .slice T l .unk a len cap vs hl hc hm hs
structure Keeps(g g':Gh)(dead Zp:Tok->Bool)(live Yi:Name->Bool):Prop where
 m:∀a v,g.m a=some v->g'.m a=some v
 tok:∀a t,Zp t=false->g.tag a=some (.tok t)->g'.tag a=some (.tok t)dead:∀t,Zp t=false->dead t=false
 ad:∀nm,live nm=true->Yi nm=true/\g'.ad nm=g.ad nm
 bs:∀t v,Zp t=false->g.bs t=some v->g'.bs t=some v
 adx:∀k,g'.ad (.x k)=g.ad (.x k)
theorem Keeps.refl(g:Gh)(dead:Tok->Bool)(live:Name->Bool):Keeps g g dead dead live live:=⟨λ_ _ h=>h,λ_ _ _ h=>h,λ_ h=>h,λ_ h=>⟨h,rfl⟩,λ_ _ _ h=>h,λ_=>rfl⟩
section keep
variable{cfg:Cfg U}{g g':Gh}{dead Zp:Tok->Bool}{live Yi:Name->Bool}
theorem TailOk.keep(k:Keeps g g' dead Zp live Yi){v:Value}{c:C U}(h:TailOk cfg g dead v c):TailOk cfg g' Zp v c:=by
 unfold TailOk at*;split at h;.exact h
 .intro d a len aa hv j h1 h2;exact k.tok _ _ d (h (k.dead _ d) a len aa hv j h1 h2)
 .intro d;obtain⟨s,hs⟩:=h (k.dead _ d);exact⟨s,k.bs _ _ d hs⟩
 .rw[k.adx];exact h
 .trivial
theorem RelC.keep(k:Keeps g g' dead Zp live Yi){v:Value}{c:C U}(h:RelC cfg g dead v c):RelC cfg g' Zp v c:=⟨h.1.mono k.m,h.2.keep k⟩
theorem RelL.keep(k:Keeps g g' dead Zp live Yi){v:List Value}{c:List (C U)}(h:RelL cfg g dead v c):RelL cfg g' Zp v c:=⟨h.1,λj v c d hc=>(h.2 j v c d hc).keep k⟩
theorem RelW.keep(k:Keeps g g' dead Zp live Yi){v:Value}{ag:Bool}{c:List (C U)}(h:RelW cfg g dead v ag c):RelW cfg g' Zp v ag c:=by cases ag with|true=>obtain⟨vs,d,h2⟩:=h;exact⟨vs,d,h2.keep k⟩|false=>obtain⟨c',d,h2⟩:=h;exact⟨c',d,h2.keep k⟩
theorem RelV.keep(k:Keeps g g' dead Zp live Yi){v:Value}:∀{x:V U},RelV cfg g dead live v x->RelV cfg g' Zp Yi v x
 |.c x,h=>RelC.keep k (c:=x) h|.agg _,h=>by obtain⟨vs,d,h2⟩:=h;exact⟨vs,d,h2.keep k⟩|.tup ws,h=>by obtain⟨vs,d,h2,h3⟩:=h;exact⟨vs,d,h2,λj u w hu hw=>(h3 j u w hu hw).keep k⟩|.ptr nm off,h=>by obtain⟨d,h2⟩:=h;cases hl:live nm with|true=>exact⟨by rw[(k.ad nm hl).1];rfl,by rw[h2,(k.ad nm hl).2]⟩|false=>rw[hl]at d;cases nm with|loc s=>cases d|x j=>exact⟨by grind,by rw[h2,k.adx]⟩
 |.ap nm off _ len n,h=>by
  obtain⟨d,h2,h3⟩:=h;cases hl:live nm with
  |true=>exact⟨by rw[(k.ad nm hl).1];rfl,h2,by rw[h3,(k.ad nm hl).2]⟩|false=>
   rw[hl]at d;cases nm with
   |loc s=>cases d|x j=>exact⟨by grind,h2,by rw[h3,k.adx]⟩
 |.ep cs,h=>by obtain⟨a,d,h2⟩:=h;exact⟨a,d,λj c hc=>let⟨u,hu,hr⟩:=h2 j c hc;⟨u,k.m _ _ hu,hr.keep k⟩⟩|.mp t n off,h=>λhd=>by
  obtain⟨b,len,ae,s,d,h2,h3⟩:=h (k.dead _ hd);exact⟨b,len,ae,s,k.bs _ _ hd d,h2,h3⟩|.vw t n,h=>λhd=>by obtain⟨b,len,ae,s,d,h2,h3⟩:=h (k.dead _ hd);exact⟨b,len,ae,s,k.bs _ _ hd d,h2,h3⟩|.fn f,h=>h|.clo f nms,h=>by
  obtain⟨d,h2⟩:=h;have h3:∀nm∈nms,(Yi nm||nm.isX)=true/\g'.ad nm=g.ad nm:=by intro nm hn;have d:=d nm hn;cases hl:live nm with|true=>exact⟨by rw[(k.ad nm hl).1];rfl,(k.ad nm hl).2⟩|false=>rw[hl]at d;cases nm with|loc s=>cases d|x j=>exact⟨by grind,k.adx j⟩
  refine⟨λnm hn=>(h3 nm hn).1,?_⟩;simp_all|.ifp t nm,h=>by obtain⟨d,h2⟩:=h;cases hl:live nm with|true=>exact⟨by rw[(k.ad nm hl).1];rfl,by rw[h2,(k.ad nm hl).2]⟩|false=>rw[hl]at d;cases nm with|loc s=>cases d|x j=>exact⟨by grind,by rw[h2,k.adx]⟩
 |.kv _,h=>h|.gd b x,h=>⟨λhb=>RelV.keep k (h.1 hb),h.2⟩|.nb _ _,h=>h|.junk,_=>trivial
theorem LRel.keep(k:Keeps g g' dead Zp live Yi){w w':World}{t:Tok}{x:LC U}(hd:Zp t=false)(hm:∀a v,g.m a=some v->w'.cell? a=some v)(ht:∀a,g.tag a=some (.tok t)->w'.cell? a=w.cell? a)(h:LRel cfg w g t x):LRel cfg w' g' t x:=by
 rcases h with⟨h1,h2⟩|⟨b,len,cap,h1,h2,h3,h4,h5,h6⟩;.exact .inl ⟨k.bs _ _ hd h1,h2⟩
 .refine .inr ⟨b,len,cap,k.bs _ _ hd h1,h2,h3,h4,λi y hy j c hc=>?_,λj a1 a2=>k.tok _ _ hd (h6 j a1 a2)⟩;obtain⟨u,h7,h8,h9,aa⟩:=h5 i y hy j c hc;refine⟨u,?_,h8.mono k.m,λd=>k.m _ _ (h9 d),λd=>k.tok _ _ hd (aa d)⟩;grind
end keep
structure Evo(w w':World)(S:Addr->Prop):Prop where
 stay:Stay w w'
 cell:∀a,a.block<w.heap.size->¬S a->w'.cell? a=w.cell? a
 frozen:∀a,a.block<w.heap.size->w'.frozen? a=w.frozen? a
 some:∀a v,w.cell? a=some v->∃v',w'.cell? a=some v'
 heap:∀b,b<w.heap.size->(∀o s,¬S ⟨b,o,s⟩)->w'.heap[b]?=w.heap[b]?
theorem Evo.refl(w:World)(S:Addr->Prop):Evo w w S:=⟨⟨rfl,rfl,rfl,Qc _⟩,λ_ _ _=>rfl,λ_ _=>rfl,λ_ v h=>⟨v,h⟩,λ_ _ _=>rfl⟩
theorem Evo.trans{w w' w'':World}{S:Addr->Prop}(h:Evo w w' S)(k:Evo w' w'' S):Evo w w'' S:=by
 refine⟨⟨k.stay.os.trans h.stay.os,k.stay.tape.trans h.stay.tape,k.stay.output.trans h.stay.output,X2 h.stay.size k.stay.size⟩,?_,?_,?_,?_⟩;.exact λa ha d=>(k.cell a (X5 ha h.stay.size) d).trans (h.cell a ha d)
 .exact λa ha=>(k.frozen a (X5 ha h.stay.size)).trans (h.frozen a ha)
 .intro a v hv;obtain⟨v',ab⟩:=h.some a v hv;exact k.some a v' ab
 .exact λb hb d=>(k.heap b (X5 hb h.stay.size) d).trans (h.heap b hb d)
theorem Evo.weaken{w w':World}{S T:Addr->Prop}(h:Evo w w' S)(hST:∀a,S a->T a):Evo w w' T:=⟨h.stay,λa ha ht=>h.cell a ha (λd=>ht (hST a d)),h.frozen,h.some,λb hb ht=>h.heap b hb λo s d=>ht o s (hST _ d)⟩
theorem Evo.alloc(w:World)(o:Obj)(S:Addr->Prop):Evo w (w.alloc o) S:=by
 refine⟨⟨rfl,rfl,rfl,by simp⟩,?_,?_,?_,?_⟩;.exact λa d _=>World.cell?_alloc_lt w o a d
 .exact λa d=>World.frozen?_alloc_old w o a (Nat.ne_of_lt d)
 .exact λa v hv=>⟨v,(World.cell?_alloc_lt w o a (World.block_lt_of_cell? w a hv)).trans hv⟩
 .intro b hb _;show(w.heap.push o)[b]?=_;grind
theorem Evo.setCell(w:World)(a:Addr)(v:Value)(S:Addr->Prop)(ha:S a):Evo w (w.setCell a v) S:=by
 refine⟨⟨rfl,rfl,rfl,by simp⟩,?_,?_,?_,?_⟩;.intro b _ d;exact World.cell?_setCell_other w a b v (λe=>d (e▸ha))
 .simp_all
 .intro b u hu;by_cases e:a=b;.subst e;exact⟨v,World.cell?_setCell_same w a v hu⟩
  .exact⟨u,(World.cell?_setCell_other w a b v e).trans hu⟩
 .intro b _ d;simp only[World.setCell,K5];rw[if_neg (λe=>by subst e;exact d a.off a.spot (by cases a;exact ha))]
theorem Stay.trans{a b c:World}(h:Stay a b)(k:Stay b c):Stay a c:=⟨k.os.trans h.os,k.tape.trans h.tape,k.output.trans h.output,X2 h.size k.size⟩
theorem Inv.lt{m:Addr->Option Value}{tag:Addr->Option Tag}{w:World}(h:Inv m tag w){a:Addr}{t:Tag}(ht:tag a=some t):a.block<w.heap.size:=by obtain⟨v,d⟩:=(h.it a t ht).2;exact World.block_lt_of_cell? w a d
theorem Inv.lt'{m:Addr->Option Value}{tag:Addr->Option Tag}{w:World}(h:Inv m tag w){a:Addr}{v:Value}(ht:m a=some v):a.block<w.heap.size:=World.block_lt_of_cell? w a (h.im a v ht).1
theorem Fr.step{B:Base}{g g':Gh}{w w':World}{S:Addr->Prop}(h:Fr B g w)(hi:Inv g.m g.tag w)(he:Evo w w' S)(hS:∀a,S a->∃t,g.tag a=some t/\∀t',t≠.outer t')(hm:∀a v,g.m a=some v->g'.m a=some v)(ho:∀a t,g.tag a=some (.outer t)↔g'.tag a=some (.outer t))(hn:∀b,b<w.heap.size->(∀o s t,g.tag ⟨b,o,s⟩=some t->∃t',t=.outer t')->∀o s,g'.tag ⟨b,o,s⟩=g.tag ⟨b,o,s⟩)(hx:∀k,g'.ad (.x k)=g.ad (.x k)):Fr B g' w':=by
 refine⟨h.stay.trans he.stay,λk=>(hx k).trans (h.xad k),λa v hv=>hm a v (h.mono a v hv),?_,?_,?_,λa ha=>(he.frozen a (X5 ha h.stay.size)).trans (h.frz a ha)⟩;.intro a t ht;obtain⟨d,h2⟩:=h.outer a t ht;refine⟨(ho a t).1 d,?_⟩;rw[he.cell a (hi.lt d) (λhs=>?_),h2];grind
 .exact λa t ht=>h.outer' a t ((ho a t).2 ht)
 .intro b hb hc;obtain⟨d,h2⟩:=h.clean b hb hc;have ab:b<w.heap.size:=X5 hb h.stay.size;have ae:∀o s t,g.tag ⟨b,o,s⟩=some t->∃t',t=.outer t':=λo s t ht=>hc o s t (by grind);refine⟨?_,?_⟩;.rw[he.heap b ab (λo s hs=>?_),d];grind
  grind
end Go.AM
namespace Go.AM
variable{U:Uni}
def Does(P:Program)(o:Oper)(a:Act)(w:World)(K:Value->World->Prop):Prop:=(∃v w',(execOp a.eval o).run P w=.ok (.value v) w'/\K v w')\/(∃w',(execOp a.eval o).run P w=.ok .skip w'/\K undef w')\/(∃f args w',(execOp a.eval o).run P w=.ok (.enter f args) w'/\Calls P f args w' λe w''=>∃v,e=.returned v/\K v w'')
theorem Does.wp{P:Program}{o:Oper}{a:Act}{w:World}{K:Value->World->Prop}{Q:Exit->Act->World->Prop}(h:Does P o a w K):o.wp P a w (λa' d=>∃v,a'=a.put o.dst v/\K v d) Q:=by
 unfold Oper.wp;rcases h with⟨v,d,h,k⟩|⟨d,h,k⟩|⟨f,args,d,h,k⟩;.rw[h];exact⟨v,rfl,k⟩
 .rw[h];exact⟨undef,rfl,k⟩
 .rw[h,Oper.upon_enter];refine Calls.mono k λe aa he=>?_;grind
def Zp(st:FSt U)(e:Eff U):Tok->Bool:=λt=>st.dead t||e.kill.contains t
def Yi(st:FSt U)(e:Eff U):Name->Bool:=λnm=>(ZX st.mem e.mem nm).isSome
structure Out(cfg:Cfg U)(B:Base)(st:FSt U)(g:Gh)(e:Eff U)(v:Value)(w':World)(g':Gh):Prop where
 inv:Inv g'.m g'.tag w'
 fr:Fr B g' w'
 keep:Keeps g g' st.dead (Zp st e) (λnm=>(st.mem nm).isSome) (Yi st e)mem:∀nm cs,ZX st.mem e.mem nm=some cs->∀j c,cs[j]?=some c->∃v,w'.cell? ((g'.ad nm).add j)=some v/\g'.tag ((g'.ad nm).add j)=some (.obj nm)/\RelC cfg g' (Zp st e) v c
 val:RelV cfg g' (Zp st e) (Yi st e) v (e.val.getD .junk)ls:∀t x,JV st.ls e t=some x->Zp st e t=false/\LRel cfg w' g' t x
 fresh:∀t,t.isR=true->JV st.ls e t=none->Zp st e t=false->g'.bs t=none
theorem Zyj{st:FSt U}{e:Eff U}(he:e.ls=[]){t:Tok}{x:LC U}(h:JV st.ls e t=some x):st.ls t=some x/\e.kill.contains t=false:=by unfold JV at h;rw[he]at h;cases hk:e.kill.contains t with|true=>grind|false=>rw[hk]at h;trivial
theorem Rel.ls_keep{cfg:Cfg U}{B:Base}{st:FSt U}{g g':Gh}{a:Act}{w w':World}{live Yi:Name->Bool}(h:Rel cfg B st g a w){e:Eff U}(he:e.ls=[])(k:Keeps g g' st.dead (Zp st e) live Yi)(hm:∀a v,g.m a=some v->w'.cell? a=some v)(ht:∀a t,Zp st e t=false->g.tag a=some (.tok t)->w'.cell? a=w.cell? a):∀t x,JV st.ls e t=some x->Zp st e t=false/\LRel cfg w' g' t x:=by
 intro t x hx;obtain⟨h1,h2⟩:=Zyj he hx;obtain⟨h3,h4⟩:=h.ls t x h1;have d:Zp st e t=false:=by simp only[Zp,h3,h2,Xr]
 exact⟨d,h4.keep k d hm (λa ha=>ht a t d ha)⟩
theorem Rel.fresh_keep{cfg:Cfg U}{B:Base}{st:FSt U}{g g':Gh}{a:Act}{w:World}(h:Rel cfg B st g a w){e:Eff U}(he:e.ls=[])(hb:∀t,g'.bs t=g.bs t):∀t,t.isR=true->JV st.ls e t=none->Zp st e t=false->g'.bs t=none:=by intro t h0 d h2;rw[hb];simp only[Zp,QO]at h2;unfold JV at d;rw[he,h2.2]at d;exact h.fresh t h0 d h2.1
theorem Act.getD_put{a:Act}{d:Nat}{v:Value}(hd:d<a.tmps.size)(k:Nat):(a.put (some d) v).tmps.getD k undef=if k=d then v else a.tmps.getD k undef:=by simp only[Act.put,Array.getD_eq_getD_getElem?,Array.getElem?_setIfInBounds];grind
theorem Rel.app{cfg:Cfg U}{B:Base}{st:FSt U}{g g':Gh}{a:Act}{w w':World}{e:Eff U}{v:Value}{d:Option Nat}(h:Rel cfg B st g a w)(o:Out cfg B st g e v w' g')(hd:∀k,d=some k->k<st.n):Rel cfg B (st.app d e) g' (a.put d v) w':=by
 refine⟨o.inv,o.fr,?_,?_,?_,?_,?_,?_⟩
 .intro k;have old:∀k,RelV cfg g' (Zp st e) (Yi st e) (a.tmps.getD k undef) (st.env k):=λk=>(h.env k).keep o.keep;cases d with|none=>exact old k|some d=>
   have aa:=hd d rfl;rw[Act.getD_put (by rw[h.sz];exact aa)];show RelV cfg g' (Zp st e) (Yi st e) _ (bif Nat.beq k d then e.val.getD .junk else st.env k);by_cases hk:k=d
   .subst hk;have:Nat.beq k k=true:=Nat.beq_refl k;rw[if_pos rfl,this];exact o.val
   .have:Nat.beq k d=false:=by cases hb:Nat.beq k d with|false=>rfl|true=>simp_all
    grind
 .intro nm cs hm;have ab:ZX st.mem e.mem nm=some cs:=by cases d<;>exact hm
  exact o.mem nm cs ab
 .cases d with|none=>exact h.sz|some d=>show(a.tmps.setIfInBounds d v).size=st.n;simp[h.sz]
 .cases d with|none=>exact h.df|some d=>exact h.df
 .intro t x hx;have:JV st.ls e t=some x/\(st.app d e).dead t=Zp st e t:=by cases d<;>exact⟨hx,rfl⟩
  rw[this.2];exact o.ls t x this.1
 .intro t h0 h1 h2;have:JV st.ls e t=none/\Zp st e t=false:=by cases d<;>exact⟨h1,h2⟩
  exact o.fresh t h0 this.1 this.2
theorem Rel.pure{cfg:Cfg U}{B:Base}{st:FSt U}{g:Gh}{a:Act}{w:World}(h:Rel cfg B st g a w){v:Value}{x:V U}(hv:RelV cfg g st.dead (λnm=>(st.mem nm).isSome) v x):Out cfg B st g {val:=some x} v w g:=by
 have d:Zp st ({val:=some x}:Eff U)=st.dead:=by funext t;simp[Zp]
 have hl:Yi st ({val:=some x}:Eff U)=λnm=>(st.mem nm).isSome:=rfl;refine⟨h.inv,h.fr,?_,?_,?_,?_,?_⟩;.rw[d,hl];exact .refl _ _ _
 .rw[d];exact h.mem
 .grind
 .rw[d];exact λt x hx=>h.ls t x hx
 .rw[d];exact λt h0 h1 h2=>h.fresh t h0 h1 h2
section cells
variable{cfg:Cfg U}{g:Gh}{dead:Tok->Bool}{live:Name->Bool}
theorem SimC.one{m:Addr->Option Value}{v:Value}{c:C U}(h:SimC cfg m v c):v.oneCell'=true/\v.cells=#[v]:=by cases h<;>first|trivial|assumption
theorem RelV.deX{v:Value}{x:V U}(h:RelV cfg g dead live v x):RelV cfg g dead live v x.deX:=by
 unfold V.deX;split
 .rename_i k;have d:v=.pointer (some (g.ad (.x k))):=h.2;have h0:(g.ad (.x k)).add 0=g.ad (.x k):=rfl;exact⟨by simp[Name.isX],by grind⟩
 .exact h
theorem RelV.cells{v:Value}{x:V U}{cs:List (C U)}(h:RelV cfg g dead live v x)(hx:x.cells=some cs):RelL cfg g dead v.cells.toList cs:=by
 cases x;case ptr nm off=>
  unfold V.cells at hx;split at hx;.grind
  .grind
  .rename_i k d;cases d;cases hx;obtain⟨_,rfl⟩:=h;have h0:(g.ad (.x k)).add 0=g.ad (.x k):=rfl;rw[h0];refine⟨rfl,λj u c hu hc=>?_⟩;cases j with
   |zero=>
    simp[Value.cells]at hu hc;subst hu hc;exact⟨.xp _ _ ⟨rfl,rfl⟩,rfl⟩|succ j=>simp at hc
  .cases hx
 all_goals simp only[V.cells,Option.some.injEq,reduceCtorEq]at hx
 case c x=>subst hx;have h':RelC cfg g dead v x:=h;rw[h'.1.one.2];refine⟨rfl,λj u c hu hc=>?_⟩;grind
 case agg cs'=>subst hx;obtain⟨vs,rfl,h'⟩:=h;exact h'
theorem RelL.one{vs:List Value}{cs:List (C U)}(h:RelL cfg g dead vs cs):∀v∈vs,v.oneCell'=true:=by intro v hv;obtain⟨j,hj,rfl⟩:=Xe hv;have d:j<cs.length:=h.1▸hj;exact(h.2 j _ _ (Q1 hj) (Q1 d)).1.one.1
theorem RelL.sub{vs:List Value}{cs:List (C U)}(h:RelL cfg g dead vs cs)(a n:Nat):RelL cfg g dead ((vs.drop a).take n) ((cs.drop a).take n):=by
 refine⟨by simp[h.1],λj v c d hc=>?_⟩;rw[QZ,Qy]at d hc;split at d;.rename_i aa;rw[if_pos aa]at hc;exact h.2 _ v c d hc
 .cases d
theorem RelL.mkV{vs:List Value}{cs:List (C U)}(h:RelL cfg g dead vs cs){ag:Bool}{x:V U}(hx:mkV ag cs=some x):RelV cfg g dead live (if ag then .agg vs.toArray else vs.getD 0 undef) x:=by cases ag with|true=>simp only[AM.mkV,Option.some.injEq]at hx;subst hx;exact⟨_,rfl,h⟩|false=>match cs,hx with|[c],hx=>simp only[AM.mkV,Option.some.injEq]at hx;subst hx;obtain⟨hl,d⟩:=h;match vs,hl with|[v],_=>exact d 0 v c rfl rfl
theorem Zg8{v:Value}{c:C U}{m:Addr->Option Value}(h:Z0b v=some c):SimC cfg m v c/\(∀tag dead,TailOk cfg tag dead v c)/\v.oneCell'=true:=by
 unfold Z0b at h;split at h<;>simp only[Option.some.injEq,reduceCtorEq]at h<;>subst h;.exact⟨.int _ _,λ_ _=>trivial,rfl⟩
 .exact⟨.bool _,λ_ _=>trivial,rfl⟩
 .exact⟨.nils,λ_ _=>trivial,rfl⟩
 .exact⟨.nilp,λ_ _=>trivial,rfl⟩
theorem Zdu{vs:List Value}{cs:List (C U)}(h:vs.map Z0b=cs.map some):RelL cfg g dead vs cs:=by
 have hl:vs.length=cs.length:=by have:=congrArg List.length h;simpa using this
 refine⟨hl,λj v c hv hc=>?_⟩;have d:(vs.map (Z0b (U:=U)))[j]?=some (Z0b v):=by rw[Qz,hv];try rfl
 have h2:(cs.map some)[j]?=some (some c):=by rw[Qz,hc];try rfl
 rw[h,h2]at d;have h3:=Zg8 (cfg:=cfg) (m:=g.m) (Option.some.inj d).symm;exact⟨h3.1,h3.2.1 _ _⟩
theorem ZdI:∀{vs:List Value}{cs:List (C U)},vs.mapM Z0b=some cs->vs.map Z0b=cs.map some|[],cs,h=>by grind|v::r,cs,h=>by rw[QW]at h;cases hv:Z0b (U:=U) v with|none=>simp[hv]at h|some c=>cases hr:r.mapM (Z0b (U:=U))with|none=>grind|some cs'=>simp[hv,hr]at h;subst h;simp[hv,ZdI hr]
theorem Z2r{v:Value}{x:V U}(h:Z0g v=some x):RelV cfg g dead live v x:=by
 unfold Z0g at h;split at h;.rename_i cs;cases hm:cs.toList.mapM (Z0b (U:=U))with
  |none=>simp[hm]at h|some l=>
   simp[hm]at h;subst h;exact⟨cs,rfl,Zdu (ZdI hm)⟩
 .cases h;rfl
 .cases hm:Z0b (U:=U) v with|none=>simp[hm]at h|some c=>simp[hm]at h;subst h;have d:=Zg8 (cfg:=cfg) (m:=g.m) hm;exact⟨d.1,d.2.1 _ _⟩
end cells
def ZFT(cfg:Cfg U)(st:FSt U)(g:Gh)(a:Act)(o:Oper):Prop:=∀x∈o.op.operands.toList,∀v,st.strip.opnd x=some v->RelV cfg g st.dead (λnm=>(st.mem nm).isSome) (a.eval x) v
theorem Zao{cfg:Cfg U}{B:Base}{st:FSt U}{g:Gh}{a:Act}{w:World}(h:Rel cfg B st g a w)(G:Option Bool):∀{l:List Operand},All (Z0Q st G l)->(∀b,G=some b->b=true)->∀x∈l,∀v,st.strip.opnd x=some v->RelV cfg g st.dead (λnm=>(st.mem nm).isSome) (a.eval x) v
 |y::r,hn,hG,x,hx,v,hv=>by
  have tail:All (Z0Q st G r):=by cases y with
   |tmp t=>
    simp only[Z0Q]at hn;split at hn;.exact hn.2
    .exact hn|const _=>exact hn|global _=>exact hn|func _=>exact hn
  rcases Q9.1 hx with rfl|hx;.cases x with
   |tmp t=>
    simp only[FSt.opnd,FSt.strip,Option.some.injEq]at hv;subst hv;have d:=h.env t;simp only[Z0Q]at hn;show RelV cfg g st.dead _ (a.tmps.getD t undef) _;cases hx:st.env t with
    |gd b y=>
     rw[hx]at hn d;have hb:b=true:=by cases G with|none=>exact hn.1|some b'=>exact hn.1 (hG b' rfl)
     exact RelV.deX (d.1 hb)|_=>rw[hx]at d;exact RelV.deX d
   |const c=>exact Z2r hv|func f=>simp only[FSt.opnd,Option.some.injEq]at hv;subst hv;try rfl|global g=>trivial
  .exact Zao h G tail hG x hx v hv
end Go.AM
namespace Go.AM
variable{U:Uni}{P:Program}{cfg:Cfg U}{B:Base}{st:FSt U}{g:Gh}{a:Act}{w:World}
theorem YO{o:Oper}{v:Value}{x:V U}(h:Rel cfg B st g a w)(hrun:(execOp a.eval o).run P w=.ok (.value v) w)(hv:RelV cfg g st.dead (λnm=>(st.mem nm).isSome) v x):Does P o a w λv d=>∃g',Out cfg B st g {val:=some x} v d g':=.inl ⟨v,w,hrun,g,h.pure hv⟩
theorem Z9W{s:Sem Value}{v:Value}{w w':World}(h:s.run P w=.ok v w'):(do pure (.value (<-s)):Sem Next).run P w=.ok (.value v) w':=by simp[h]
theorem Zjh{m:Addr->Option Value}{wr:Bool}{k:IntKind}{n:Int}(h:All (Ze4 (U:=U) wr k n).1):SimC cfg m (.int k (k.wrap n)) (Ze4 wr k n).2/\∀tag dead v,TailOk cfg tag dead v (Ze4 (U:=U) wr k n).2:=by cases wr with
 |true=>exact⟨.int _ _,λ_ _ _=>trivial⟩|false=>
  cases k;case i64=>
   have d:InR n:=h.1;have:IntKind.i64.wrap n=n:=by unfold InR at d;simp[IntKind.wrap,IntKind.signed,IntKind.bits];omega
   rw[this];exact⟨.int _ _,λ_ _ _=>trivial⟩
  all_goals exact⟨.int _ _,λ_ _ _=>trivial⟩
theorem All.append{p q:List Prop}(h:All (p++q)):All p/\All q:=by induction p with|nil=>trivial|cons x p ih=>exact⟨⟨h.1,(ih h.2).1⟩,(ih h.2).2⟩
theorem Zr0{wr:Bool}{op:BinOp}{x y c:C U}{ps:List Prop}{m:Addr->Option Value}{u v:Value}{t:TypeId}{p q:Operand}(hx:SimC cfg m u x)(hy:SimC cfg m v y)(he:ZE8 wr op x y=some (ps,c))(hps:All ps):∃r,(do eqGuard op t p q u v;binOp op t u v:Sem Value).run P w=.ok r w/\SimC cfg m r c/\∀tag dead r,TailOk cfg tag dead r c:=by
 cases hx<;>cases hy<;>simp only[ZE8,reduceCtorEq]at he;rename_i k a d b;have ae:∀(r:Value),(binOp op t (.int k a) (.int d b)).run P w=.ok r w->(do eqGuard op t p q (.int k a) (.int d b);binOp op t (.int k a) (.int d b):Sem Value).run P w=.ok r w:=by intro r h;rw[eqGuard_at_int];simpa using h
 have ar:∀(ah:BinOp)(n:Int),op=ah->(binOp op t (.int k a) (.int d b)).run P w=.ok (.int k (k.wrap n)) w->Ze4 wr k n=(ps,c)->∃r,(do eqGuard op t p q (.int k a) (.int d b);binOp op t (.int k a) (.int d b):Sem Value).run P w=.ok r w/\SimC cfg m r c/\∀tag dead r,TailOk cfg tag dead r c:=by intro ah n _ h1 h2;have h3:=Zjh (cfg:=cfg) (U:=U) (m:=m) (wr:=wr) (k:=k) (n:=n) (by grind);rw[h2]at h3;exact⟨_,ae _ h1,h3⟩
 have fi:∀(n:Int),(binOp op t (.int k a) (.int d b)).run P w=.ok (.int k n) w->c=.int k n->∃r,(do eqGuard op t p q (.int k a) (.int d b);binOp op t (.int k a) (.int d b):Sem Value).run P w=.ok r w/\SimC cfg m r c/\∀tag dead r,TailOk cfg tag dead r c:=by rintro n h rfl;exact⟨_,ae _ h,.int _ _,λ_ _ _=>trivial⟩
 have fb:∀(b':Bool),(binOp op t (.int k a) (.int d b)).run P w=.ok (.bool b') w->c=.bool b'->∃r,(do eqGuard op t p q (.int k a) (.int d b);binOp op t (.int k a) (.int d b):Sem Value).run P w=.ok r w/\SimC cfg m r c/\∀tag dead r,TailOk cfg tag dead r c:=by rintro n h rfl;exact⟨_,ae _ h,.bool _,λ_ _ _=>trivial⟩
 cases op<;>simp only at he<;>(try(split at he))<;>(try(cases he;done))<;>(try subst_vars)<;>(try simp only[oP]at he);case int.int.add.isTrue=>exact ar .add (a+b) rfl (by simp[binOp_add,Op.intArith]) (by assumption)
 case int.int.sub.isTrue=>exact ar .sub (a-b) rfl (by simp[binOp_sub,Op.intArith]) (by assumption)
 case int.int.mul.isTrue=>exact ar .mul (a*b) rfl (by simp[binOp_mul,Op.intArith]) (by assumption)
 case int.int.quo.isTrue=>obtain⟨rfl,rfl⟩:=he;have h0:b≠0:=hps.1;exact fi _ (by simp[binOp_quo,Op.intDiv,h0]) rfl
 case int.int.rem.isTrue=>obtain⟨rfl,rfl⟩:=he;have h0:b≠0:=hps.1;exact fi _ (by simp[binOp_rem,Op.intDiv,h0]) rfl
 case int.int.and.isTrue=>obtain⟨rfl,rfl⟩:=he;exact fi _ (by simp[binOp_and,Op.intBits]) rfl
 case int.int.or.isTrue=>obtain⟨rfl,rfl⟩:=he;exact fi _ (by simp[binOp_or,Op.intBits]) rfl
 case int.int.xor.isTrue=>obtain⟨rfl,rfl⟩:=he;exact fi _ (by simp[binOp_xor,Op.intBits]) rfl
 case int.int.andNot.isTrue=>obtain⟨rfl,rfl⟩:=he;exact fi _ (by simp[binOp_andNot,Op.intBits]) rfl
 case int.int.eql.isTrue=>obtain⟨rfl,rfl⟩:=he;exact fb _ (by simp[binOp_eql]) rfl
 case int.int.neq.isTrue=>obtain⟨rfl,rfl⟩:=he;exact fb _ (by simp[binOp_neq]) rfl
 case int.int.lss.isTrue=>obtain⟨rfl,rfl⟩:=he;exact fb _ (by simp[binOp_lss]) rfl
 case int.int.leq.isTrue=>obtain⟨rfl,rfl⟩:=he;exact fb _ (by simp[binOp_leq]) rfl
 case int.int.gtr.isTrue=>obtain⟨rfl,rfl⟩:=he;exact fb _ (by simp[binOp_gtr]) rfl
 case int.int.geq.isTrue=>obtain⟨rfl,rfl⟩:=he;exact fb _ (by simp[binOp_geq]) rfl
 case int.int.shl=>obtain⟨rfl,rfl⟩:=he;have h0:¬b<0:=Int.not_lt.2 hps.1;exact fi (k.wrap (a*2^(min b.toNat k.bits))) (by simp[binOp_shl,Op.shift,h0]) rfl
 case int.int.shr=>obtain⟨rfl,rfl⟩:=he;have h0:¬b<0:=Int.not_lt.2 hps.1;exact fi (a.fdiv (2^(min b.toNat k.bits))) (by simp[binOp_shr,Op.shift,h0]) rfl
theorem Zoa(ok:CfgOk P cfg){op:BinOp}{x y:Bool}{c:C U}{m:Addr->Option Value}{t:TypeId}{p q:Operand}{b0:Bool}(ht:cfg.var t=some (false,[.bool b0]))(he:Ztz op x y=some c):∃r,(do eqGuard op t p q (.bool x) (.bool y);binOp op t (.bool x) (.bool y):Sem Value).run P w=.ok r w/\SimC cfg m r c/\∀tag dead r,TailOk cfg tag dead r c:=by
 obtain⟨_,i,z,d,h1,h2,h3,h4,h5,h6,h7,h8,_⟩:=ok.var _ _ _ ht;have hd:=h8 rfl b0 rfl;subst hd;have aa:(Op.equal t (.bool x) (.bool y)).run P w=.ok (x==y) w:=by
  show(Op.equalIn 10000 t (.bool x) (.bool y)).run P w=_;rw[Op.equalIn];simp[run_underlying h2]
 cases op<;>simp only[Ztz,reduceCtorEq,Option.some.injEq]at he<;>subst he;.refine⟨.bool (x==y),?_,.bool _,λ_ _ _=>trivial⟩;rw[eqGuard_at_bool];simp[binOp,aa]
 .refine⟨.bool (x !=y),?_,.bool _,λ_ _ _=>trivial⟩;rw[eqGuard_at_bool];simp[binOp,aa,bne]
theorem Zvd{wr:Bool}{op:UnOp}{x c:C U}{ps:List Prop}{m:Addr->Option Value}{u:Value}(hx:SimC cfg m u x)(he:aUn wr op x=some (ps,c))(hps:All ps):∃r,(Op.unary op u).run P w=.ok r w/\SimC cfg m r c/\∀tag dead r,TailOk cfg tag dead r c:=by
 cases hx<;>cases op<;>simp only[aUn,reduceCtorEq,oP]at he;.rename_i k n;have d:=Zjh (cfg:=cfg) (U:=U) (m:=m) (wr:=wr) (k:=k) (n:=-n) (by grind);rw[he]at d;exact⟨_,by simp[Op.unary,Op.intArith],d⟩
 .obtain⟨rfl,rfl⟩:=he;exact⟨_,by rfl,.int _ _,λ_ _ _=>trivial⟩
 .obtain⟨rfl,rfl⟩:=he;exact⟨_,by rfl,.bool _,λ_ _ _=>trivial⟩
theorem Z56{T:U.Ty}{x:C U}{l:List (U.El T)}{tl:Tail}{v:Value}(h:RelC cfg g st.dead v x)(he:Zhy cfg T x=some (l,tl)):RelC cfg g st.dead v (.slice T l tl)/\∃b len d,v=.slice b len d/\l.length=len/\len<=d/\(b=none->len=0/\d=0):=by
 unfold Zhy at he;split at he
 .simp only[oP]at he;obtain⟨rfl,rfl⟩:=he;have h1:=h.1;cases h1;exact⟨⟨.snil T .full,λa len d hv=>by cases hv;rfl⟩,none,0,0,rfl,rfl,Qc _,λ_=>⟨rfl,rfl⟩⟩
 .rename_i S l' af;split at he;.rename_i ab _;subst ab;simp only[oP]at he;obtain⟨rfl,rfl⟩:=he;refine⟨h,?_⟩;have h1:=h.1;cases h1 with|snil=>grind|slice _ _ _ a len d vs hl hc hm hs=>grind
  .cases he
 .cases he
theorem SimC.rows{m:Addr->Option Value}{T:U.Ty}{l:List (U.El T)}{tl:Tail}{b:Addr}{len cap:Nat}(h:SimC cfg m (.slice (some b) len cap) (.slice T l tl)):∀i x,l[i]?=some x->∀j c,(cfg.enc T x)[j]?=some c->∃v,m (b.add (i*cfg.sz T+j))=some v/\SimC cfg m v c:=by cases h with|slice _ _ _ _ _ _ vs hl hc hm hs=>grind
theorem SimC.of_rows{m:Addr->Option Value}{T:U.Ty}{l:List (U.El T)}(tl:Tail){b:Addr}{len cap:Nat}(hl:l.length=len)(hc:len<=cap)(h:∀i x,l[i]?=some x->∀j c,(cfg.enc T x)[j]?=some c->∃v,m (b.add (i*cfg.sz T+j))=some v/\SimC cfg m v c):SimC cfg m (.slice (some b) len cap) (.slice T l tl):=by
 refine .slice T l tl b len cap (λi j=>(m (b.add (i*cfg.sz T+j))).getD undef) hl hc ?_ ?_
 .intro i x hx j c d;obtain⟨v,h1,h2⟩:=h i x hx j c d;rw[h1];try rfl
 .intro i x hx j c d;obtain⟨v,h1,h2⟩:=h i x hx j c d;rw[h1];exact h2
theorem Zox{T:U.Ty}{l:List (U.El T)}{tl tl':Tail}{b:Option Addr}{len d lo hi mx:Nat}(h:RelC cfg g st.dead (.slice b len d) (.slice T l tl))(h1:lo<=hi)(h2:hi<=len)(h3:hi<=mx)(h4:mx<=d)(ht:tl'=.unk\/(tl'=.full/\mx=hi)\/(tl'=tl/\hi=len/\mx=d)):RelC cfg g st.dead (.slice (if mx=lo then b else b.map (·.add (lo*cfg.sz T))) (hi-lo) (mx-lo)) (.slice T ((l.take hi).drop lo) tl'):=by cases b with
 |none=>
  have h0:=h.1;cases h0;have e1:hi=0:=by omega
  have e2:mx=0:=by omega
  have e3:lo=0:=by omega
  subst e1 e2 e3;refine⟨?_,?_⟩;.simpa using SimC.snil (cfg:=cfg) T tl'
  .unfold TailOk;grind|some b=>
  have hl:l.length=len:=by cases h.1;assumption
  have aa:=h.1.rows;refine⟨?_,?_⟩
  .by_cases e:mx=lo
   .have e1:hi=lo:=by omega
    have e2:(l.take hi).drop lo=[]:=by apply QN;rw[Qu];omega
    rw[if_pos e,e2];exact .of_rows tl' (by simp;omega) (by omega) (λi x hx=>by simp at hx)
   .rw[if_neg e];refine .of_rows tl' (by grind) (by omega) ?_;intro i x hx j c hc;rw[Qy,QZ]at hx;split at hx;.obtain⟨v,h5,h6⟩:=aa (lo+i) x hx j c hc;refine⟨v,?_,h6⟩;rw[Go.Deep.add_add,show lo*cfg.sz T+(i*cfg.sz T+j)=(lo+i)*cfg.sz T+j by grind];exact h5
    .cases hx
  .rcases ht with rfl|⟨rfl,rfl⟩|⟨rfl,rfl,rfl⟩;.trivial
   .intro a len d hv;grind
   .cases tl' with
    |unk=>trivial|full=>intro a len d hv;simp only[Value.slice.injEq]at hv;have:=h.2 _ _ _ rfl;omega|own t0=>
     intro hd a len d hv j ai al;simp only[Value.slice.injEq]at hv;obtain⟨ab,ak,ah⟩:=hv;by_cases e:mx=lo;.grind
     .rw[if_neg e]at ab;simp only[Qk,Option.some.injEq]at ab;subst ab ak ah;rw[Go.Deep.add_add];refine h.2 hd b _ _ rfl _ ?_ ?_;.rw[KA]at ai;omega
      .rw[KA]at al;omega
theorem J6(ok:CfgOk P cfg)(T:U.Ty)(w:World):(sizeOf (cfg.elT T)).run P w=.ok (cfg.sz T) w:=by obtain⟨i,ag,zs,z,d,h2,h3⟩:=ok.el T;simp[sizeOf,typeInfo,d,h2]
theorem Jo(ok:CfgOk P cfg){t:TypeId}{T:U.Ty}(h:cfg.slT t=some T):P.elem t=cfg.elT T/\P.underlying t=some (.slice (P.elem t)):=by
 have d:=ok.sl _ _ h;have h2:P.elem t=cfg.elT T:=by simp[Program.elem,d]
 grind
def Zvj(cfg:Cfg U)(g:Gh)(dead:Tok->Bool)(live:Name->Bool):Option Value->Option (V U)->Prop|none,none=>True|some v,some x=>RelV cfg g dead live v x|_,_=>False
theorem Zls(ok:CfgOk P cfg){live:Name->Bool}{t:TypeId}{x c:C U}{lo hi mx:Option (V U)}{v:Value}{vlo vhi vmx:Option Value}{ps:List Prop}(hx:RelC cfg g st.dead v x)(hlo:Zvj cfg g st.dead live vlo lo)(hhi:Zvj cfg g st.dead live vhi hi)(hmx:Zvj cfg g st.dead live vmx mx)(he:Zlt cfg t x lo hi mx=some (ps,c))(hps:All ps):∃r,(Instr.sliceAt t v vlo vhi vmx).run P w=.ok r w/\RelC cfg g st.dead r c:=by
 unfold Zlt at he;split at he;.cases he
 rename_i T hT;split at he;.cases he
 rename_i l tl ao;obtain⟨ar,b,len,d,rfl,hl,hc,hb⟩:=Z56 hx ao;obtain⟨hE,hU⟩:=Jo ok hT;have al:=J6 ok T w;rw[<-hE]at al;have ab:∀{lo' hi' mx':Nat}{tl':Tail},lo'<=hi'->hi'<=len->hi'<=mx'->mx'<=d->(tl'=.unk\/(tl'=.full/\mx'=hi')\/(tl'=tl/\hi'=len/\mx'=d))->((sizeOf (P.elem t)).run P w).andThen (λs w=>.ok (sliced b lo' hi' mx' s) w)=.ok (sliced b lo' hi' mx' (cfg.sz T)) w/\RelC cfg g st.dead (sliced b lo' hi' mx' (cfg.sz T)) (.slice T ((l.take hi').drop lo') tl'):=λh1 h2 h3 h4 h5=>⟨by rw[al];rfl,Zox ar h1 h2 h3 h4 h5⟩;have sim:∀{y:V U}{u:Option Value}{k:IntKind}{n:Int},Zvj cfg g st.dead live u (some (.c (.int k n)))->u=some (.int k n):=by intro y u k n h;cases u with|none=>exact h.elim|some u=>have h1:SimC cfg g.m u (.int k n):=h.1;cases h1;rfl
 have aa:∀{u:Option Value},Zvj cfg g st.dead live u none->u=none:=by intro u h;cases u with|none=>rfl|some u=>exact h.elim
 rw[run_sliceAt_slice w t _ _ _ _ hU];split at he<;>simp only[oP,reduceCtorEq]at he<;>obtain⟨rfl,rfl⟩:=he;.rw[aa hlo,aa hhi,aa hmx,run_slice_all w t b len d hU];obtain⟨h1,h2⟩:=ab (lo':=0) (hi':=len) (mx':=d) (tl':=tl) (by omega) (by omega) hc (by omega) (.inr (.inr ⟨rfl,rfl,rfl⟩));grind
 .rename_i k0 af;have hp:=hps.1;rw[sim (y:=.junk) hlo,aa hhi,aa hmx,run_slice_l w t b len d hU _ _ hp.1 (by omega)];obtain⟨h1,h2⟩:=ab (lo':=af.toNat) (hi':=len) (mx':=d) (tl':=tl) (by omega) (by omega) hc (by omega) (.inr (.inr ⟨rfl,rfl,rfl⟩));grind
 .rename_i k0 hi0;have hp:=hps.1;rw[aa hlo,sim (y:=.junk) hhi,aa hmx,run_slice_h w t b len d hU _ _ hp.1 (by omega)];obtain⟨h1,h2⟩:=ab (lo':=0) (hi':=hi0.toNat) (mx':=d) (tl':=.unk) (by omega) (by omega) (by omega) (by omega) (.inl rfl);grind
 .rename_i k0 af k1 hi0;have hp:=hps.1;rw[sim (y:=.junk) hlo,sim (y:=.junk) hhi,aa hmx,run_slice_lh w t b len d hU _ _ _ _ hp.1 hp.2.1 (by omega)];obtain⟨h1,h2⟩:=ab (lo':=af.toNat) (hi':=hi0.toNat) (mx':=d) (tl':=.unk) (by omega) (by omega) (by omega) (by omega) (.inl rfl);grind
 .rename_i k0 hi0 k1 m0;have hp:=hps.1;have hm:m0=hi0:=hps.2.1;subst hm;rw[aa hlo,sim (y:=.junk) hhi,sim (y:=.junk) hmx,run_slice_hm w t b len d hU _ _ _ _ hp.1 (QY _) (by omega)];obtain⟨h1,h2⟩:=ab (lo':=0) (hi':=m0.toNat) (mx':=m0.toNat) (tl':=.full) (by omega) (by omega) (by omega) (by omega) (.inr (.inl ⟨rfl,rfl⟩));grind
 .rename_i k0 af k1 hi0 k2 m0;have hp:=hps.1;have hm:m0=hi0:=hps.2.1;subst hm;rw[sim (y:=.junk) hlo,sim (y:=.junk) hhi,sim (y:=.junk) hmx,run_slice_lhm w t b len d hU _ _ _ _ _ _ hp.1 hp.2.1 (QY _) (by omega)];obtain⟨h1,h2⟩:=ab (lo':=af.toNat) (hi':=m0.toNat) (mx':=m0.toNat) (tl':=.full) (by omega) (by omega) (by omega) (by omega) (.inr (.inl ⟨rfl,rfl⟩));grind
theorem Z2o(ok:CfgOk P cfg){t:TypeId}{ag:Bool}{zs:List (C U)}(ht:cfg.var t=some (ag,zs)){b:Addr}{vs:List Value}(hl:vs.length=zs.length)(h:∀j v,vs[j]?=some v->w.cell? (b.add j)=some v):(loadVar t b).run P w=.ok (if ag then .agg vs.toArray else vs.getD 0 undef) w:=by
 obtain⟨ah,i,z,d,h1,h2,h3,h4,h5,h6,_⟩:=ok.var _ _ _ ht;have aa:(isAgg t).run P w=.ok ag w:=by rw[<-h4];cases d<;>simp[isAgg,run_underlying h2,TypeDesc.ag]
 have ab:(sizeOf t).run P w=.ok vs.length w:=by simp[sizeOf,typeInfo,h1,h3,hl]
 cases ag with
 |true=>simp[loadVar,aa,ab,run_loadCells_list w b vs h]|false=>
  have hz:=h6.2.1 rfl;have aj:zs.length=1:=by have:=congrArg List.length h6.2.2;rw[hz]at this;simpa using this.symm
  match vs,hl with
  |[v],_=>
   have hv:=h 0 v rfl;rw[Addr.add_zero']at hv;simp[loadVar,aa,hv]|[],hl=>grind|_::_::_,hl=>grind
theorem RelL.of_get{cs:List (C U)}{f:Nat->Value}(h:∀j c,cs[j]?=some c->RelC cfg g st.dead (f j) c):RelL cfg g st.dead ((List.range cs.length).map f) cs:=by refine⟨by simp,λj v c d hc=>?_⟩;grind
theorem Z2T{k:IntKind}:∀{cs:List (C U)}{l:List Int},Z1M k cs=some l->l.length=cs.length/\∀(j:Nat)n,l[j]?=some n->cs[j]?=some (.int k n)
 |[],l,h=>by simp only[Z1M,Option.some.injEq]at h;grind|c::cs,l,h=>by
  cases c<;>simp only[Z1M,reduceCtorEq]at h;rename_i k' n0;split at h;.rename_i e;subst e;cases hr:Z1M k cs with|none=>simp[hr]at h|some l'=>simp only[hr,Qk,Option.some.injEq]at h;subst h;obtain⟨d,h2⟩:=Z2T hr;grind
  .cases h
theorem ZfO(ok:CfgOk P cfg)(h:Rel cfg B st g a w){t:TypeId}{ag:Bool}{zs:List (C U)}(ht:cfg.var t=some (ag,zs)){p x:V U}{u:Value}(hp:RelV cfg g st.dead (λnm=>(st.mem nm).isSome) u p)(he:rd st p ag zs.length=some x):∃r,(Instr.loadAt t u).run P w=.ok r w/\RelV cfg g st.dead (λnm=>(st.mem nm).isSome) r x:=by
 unfold rd at he;split at he
 .rename_i nm aa;obtain⟨_,rfl⟩:=hp;split at he
  .rename_i cs af;split at he
   .rename_i ai;let f:Nat->Value:=λj=>(w.cell? ((g.ad nm).add (aa+j))).getD undef;have hf:∀j c,(((cs.drop aa).take zs.length)[j]?=some c)->w.cell? (((g.ad nm).add aa).add j)=some (f j)/\RelC cfg g st.dead (f j) c:=by
     intro j c hc;rw[QZ,Qy]at hc;split at hc;.obtain⟨v,h1,_,h3⟩:=h.mem nm cs af _ c hc;rw[Go.Deep.add_add];grind
     .cases hc
    have ae:((cs.drop aa).take zs.length).length=zs.length:=by rw[Qu,Qt];omega
    have ab:=RelL.of_get (cfg:=cfg) (g:=g) (st:=st) (f:=f) (λj c hc=>(hf j c hc).2);refine⟨_,?_,ab.mkV he⟩;simp only[Instr.loadAt,Instr.sureAddr,Sem.run_bind,Sem.run_pure,Result.andThen_ok];refine Z2o ok ht (by simp;omega) ?_;intro j v hv;have hj:j<((cs.drop aa).take zs.length).length:=by
     have:=(Q4.1 hv).1;simpa using this
    simp_all
   .cases he
  .cases he
 .rename_i cs;obtain⟨b,rfl,hb⟩:=hp;split at he
  .rename_i ai;let f:Nat->Value:=λj=>(g.m (b.add j)).getD undef;have hf:∀j c,((cs.take zs.length)[j]?=some c)->w.cell? (b.add j)=some (f j)/\RelC cfg g st.dead (f j) c:=by
    intro j c hc;rw[QZ]at hc;split at hc;.obtain⟨v,h1,h3⟩:=hb j c hc;have h2:=(h.inv.im _ _ h1).1;grind
    .cases hc
   have ae:(cs.take zs.length).length=zs.length:=by rw[Qu];omega
   have ab:=RelL.of_get (cfg:=cfg) (g:=g) (st:=st) (f:=f) (λj c hc=>(hf j c hc).2);refine⟨_,?_,ab.mkV he⟩;simp only[Instr.loadAt,Instr.sureAddr,Sem.run_bind,Sem.run_pure,Result.andThen_ok];refine Z2o ok ht (by simp;omega) ?_;intro j v hv;have hj:j<(cs.take zs.length).length:=by have:=(Q4.1 hv).1;simpa using this
   rw[Qz,List.getElem?_range hj]at hv;simp only[Qk,Option.some.injEq]at hv;subst hv;exact(hf j _ (Q1 hj)).1
  .cases he
 .rename_i nm aa k len i;obtain⟨_,hi,rfl⟩:=hp;split at he
  .rename_i cs af;split at he
   .rename_i ai;split at he
    .rename_i l hl;obtain⟨h1,h2⟩:=Z2T hl;have ae:l.length=len:=by rw[h1,Qu,Qt];omega
     have aj:l[i.toNat]?=some (l.getD i.toNat 0):=by simp[List.getD,Q1 (show i.toNat<l.length by omega)]
     have hc:=h2 _ _ aj;rw[QZ,Qy]at hc;split at hc
     .obtain⟨v,h3,_,h5⟩:=h.mem nm cs af _ _ hc;have al:ag=false:=by cases ag with|true=>simp at he|false=>rfl
      subst al;simp only[cond_false,Option.some.injEq]at he;subst he;refine⟨v,?_,h5⟩;simp only[Instr.loadAt,Instr.sureAddr,Sem.run_bind,Sem.run_pure,Result.andThen_ok];have hz:[v].length=zs.length:=by obtain⟨_,i',z,d,_,_,_,_,_,h6,_⟩:=ok.var _ _ _ ht;have:=congrArg List.length h6.2.2;rw[h6.2.1 rfl]at this;simpa using this
      refine Z2o (vs:=[v]) ok ht hz ?_;intro j u hu;cases j with|zero=>simp at hu;subst hu;trivial|succ j=>simp at hu
     .cases hc
    .cases he
   .cases he
  .cases he
 .cases he
end Go.AM
namespace Go.AM
variable{U:Uni}{P:Program}{cfg:Cfg U}{B:Base}{st:FSt U}{g:Gh}{a:Act}{w:World}{live:Name->Bool}
theorem Zka{p x:V U}{u:Value}{off n:Nat}(hp:RelV cfg g st.dead live u p)(he:Z8V p off n=some x):∃b,u=.pointer (some b)/\RelV cfg g st.dead live (.pointer (some (b.add off))) x:=by
 unfold Z8V at he;split at he
 .simp only[Option.some.injEq]at he;subst he;obtain⟨d,rfl⟩:=hp;exact⟨_,rfl,d,by rw[Go.Deep.add_add]⟩
 .rename_i cs;split at he
  .rename_i aa;simp only[Option.some.injEq]at he;subst he;obtain⟨b,rfl,hb⟩:=hp;refine⟨b,rfl,b.add off,rfl,λj c hc=>?_⟩;rw[Qy]at hc;rw[Go.Deep.add_add];grind
  .cases he
 .cases he
theorem Z2f(ok:CfgOk P cfg){t:TypeId}{ag:Bool}{zs:List (C U)}(ht:cfg.var t=some (ag,zs))(w:World):(sizeOf t).run P w=.ok zs.length w/\(isAgg t).run P w=.ok ag w/\zs.length≠0:=by obtain⟨aa,i,z,d,h1,h2,h3,h4,h5,h6,_⟩:=ok.var _ _ _ ht;refine⟨by simp[sizeOf,typeInfo,h1,h3],?_,by omega⟩;rw[<-h4];cases d<;>simp[isAgg,run_underlying h2,TypeDesc.ag]
theorem Z64(ok:CfgOk P cfg){t ft:TypeId}{f off:Nat}{ag:Bool}{zs:List (C U)}(hf:cfg.fld t f=some (off,ft))(ht:cfg.var ft=some (ag,zs)){p x:V U}{u:Value}(hp:RelV cfg g st.dead live u p)(he:Z8V p off zs.length=some x):∃r,(Instr.fieldAt t u f).run P w=.ok r w/\RelV cfg g st.dead live r x:=by obtain⟨fs,fd,h1,h2,h3,h4⟩:=ok.fld _ _ _ _ hf;obtain⟨b,rfl,hb⟩:=Zka hp he;obtain⟨hs,_,hn⟩:=Z2f ok ht w;have d:zs≠[]:=λh=>hn (by simp[h]);refine⟨_,?_,hb⟩;simp[Instr.fieldAt,run_underlying h1,h2,Instr.sureAddr,fieldPlace,h4,hs,h3,d]
theorem Z8Z(ok:CfgOk P cfg){t:TypeId}{ag:Bool}{zs:List (C U)}(ht:cfg.var t=some (ag,zs)){vs:Array Value}{cs:List (C U)}{off:Nat}{x:V U}(hr:RelL cfg g st.dead vs.toList cs)(hle:off+zs.length<=cs.length)(he:mkV ag ((cs.drop off).take zs.length)=some x):∃r,(part t vs off).run P w=.ok r w/\RelV cfg g st.dead live r x:=by
 obtain⟨hs,ha,hn⟩:=Z2f ok ht w;have aa:=hr.sub off zs.length;refine⟨_,?_,aa.mkV he⟩;have ae:vs.size=cs.length:=by have:=hr.1;simpa using this
 cases ag with|true=>simp only[part,Sem.run_bind,ha,Result.andThen_ok,if_true,hs,Sem.run_pure];congr 2;grind|false=>
  obtain⟨ai,i,z,d,h1,h2,h3,h4,h5,h6,_⟩:=ok.var _ _ _ ht;have af:zs.length=1:=by have:=congrArg List.length h6.2.2;rw[h6.2.1 rfl]at this;simpa using this.symm
  have ab:off<vs.size:=by omega
  simp[part,ha,ab,af,List.getD,Qy]
theorem ZnG(ok:CfgOk P cfg){t ft:TypeId}{f off:Nat}{ag:Bool}{zs:List (C U)}(hf:cfg.fld t f=some (off,ft))(ht:cfg.var ft=some (ag,zs)){cs:List (C U)}{x:V U}{u:Value}(hp:RelV cfg g st.dead live u (.agg cs))(hle:off+zs.length<=cs.length)(he:mkV ag ((cs.drop off).take zs.length)=some x):∃r,(Instr.field t u f).run P w=.ok r w/\RelV cfg g st.dead live r x:=by obtain⟨fs,fd,d,h2,h3,h4⟩:=ok.fld _ _ _ _ hf;obtain⟨vs,rfl,hv⟩:=hp;obtain⟨r,hr,hx⟩:=Z8Z (w:=w) (live:=live) ok ht hv hle he;refine⟨r,?_,hx⟩;simp[Instr.field,run_underlying d,h2,asAgg,h3,h4,hr]
theorem Zec(ok:CfgOk P cfg){t:TypeId}{T:U.Ty}{l:List (U.El T)}{tl:Tail}{k:IntKind}{n:Int}{u:Value}(ht:cfg.slT t=some T)(hu:RelC cfg g st.dead u (.slice T l tl))(hn:0<=n/\n<l.length):∃r,(Instr.indexAt t u (.int k n)).run P w=.ok r w/\RelV cfg g st.dead live r (.ep (cfg.enc T (l.getD n.toNat (cfg.dflt T)))):=by obtain⟨hE,hU⟩:=Jo ok ht;have d:=J6 ok T w;rw[<-hE]at d;have h1:=hu.1;cases h1 with|snil=>grind|slice _ _ _ b len cap vs hl hc hm hs=>
  have aa:n.toNat<l.length:=by omega
  have hx:l[n.toNat]?=some (l.getD n.toNat (cfg.dflt T)):=by simp[List.getD,Q1 aa]
  refine⟨.pointer (some (b.add (n.toNat*cfg.sz T))),?_,b.add (n.toNat*cfg.sz T),rfl,?_⟩;.rw[run_indexAt_slice w t b len cap k n hU,if_pos ⟨hn.1,by omega⟩,d];try rfl
  .intro j c hc;rw[Go.Deep.add_add];refine⟨_,hm _ _ hx j c hc,hs _ _ hx j c hc,?_⟩;have ab:=ok.enc_plain _ _ c (X4 hc);cases c with
   |slice S l' tl'=>cases tl'<;>first|trivial|(simp[C.plain]at ab)
   |mref t=>trivial|_=>trivial
theorem Z8X{g:Gh}{dead:Tok->Bool}{v:Value}{c:C U}(h:c.plain=true):TailOk cfg g dead v c:=by cases c with
 |slice S l' tl'=>cases tl'<;>first|trivial|(simp[C.plain]at h)
 |mref t=>trivial|_=>trivial
theorem ZxK(h:Rel cfg B st g a w){u:Tok}{x:LC U}(hx:st.ls u=some x){v:Value}{n off:Nat}(hp:RelV cfg g st.dead live v (.mp u n off)):∃b len d,g.bs u=some (.slice (some b) len d,cfg.sz x.T)/\v=.pointer (some (b.add (n*cfg.sz x.T+off)))/\n<x.l.length/\x.l.length=len/\len<=d/\x.f<=len/\(∀i y,x.l[i]?=some y->∀j c,(cfg.enc x.T y)[j]?=some c->∃u',w.cell? (b.add (i*cfg.sz x.T+j))=some u'/\SimC cfg g.m u' c/\(i<x.f->g.m (b.add (i*cfg.sz x.T+j))=some u')/\(x.f<=i->g.tag (b.add (i*cfg.sz x.T+j))=some (.tok u)))/\∀j,len*cfg.sz x.T<=j->j<d*cfg.sz x.T->g.tag (b.add j)=some (.tok u):=by
 obtain⟨hd,hL⟩:=h.ls u x hx;obtain⟨b,len,d,s,h1,h2,h3⟩:=hp hd;rcases hL with⟨h4,_⟩|⟨b',len',cap',h4,h5,h6,h7,h8,h9⟩;.rw[h1]at h4;cases h4
 .rw[h1]at h4;cases h4;exact⟨b,len,d,h1,h3,by omega,h5,h6,h7,h8,h9⟩
theorem Zu6(ok:CfgOk P cfg)(h:Rel cfg B st g a w){t:TypeId}{ag:Bool}{zs:List (C U)}(ht:cfg.var t=some (ag,zs)){u:Tok}{x:LC U}{n off:Nat}{y:V U}{v:Value}(hx:st.ls u=some x)(hp:RelV cfg g st.dead (λnm=>(st.mem nm).isSome) v (.mp u n off))(hle:off+zs.length<=cfg.sz x.T)(he:mkV ag (((cfg.enc x.T (x.l.getD n (cfg.dflt x.T))).drop off).take zs.length)=some y):∃r,(Instr.loadAt t v).run P w=.ok r w/\RelV cfg g st.dead (λnm=>(st.mem nm).isSome) r y:=by
 obtain⟨b,len,ak,h1,rfl,h3,h4,h5,h6,h7,h8⟩:=ZxK h hx hp;have ab:x.l[n]?=some (x.l.getD n (cfg.dflt x.T)):=by simp[List.getD,Q1 h3]
 have af:=ok.enc_len x.T (x.l.getD n (cfg.dflt x.T));let f:Nat->Value:=λj=>(w.cell? (b.add (n*cfg.sz x.T+off+j))).getD undef;have hf:∀j c,((((cfg.enc x.T (x.l.getD n (cfg.dflt x.T))).drop off).take zs.length)[j]?=some c)->w.cell? ((b.add (n*cfg.sz x.T+off)).add j)=some (f j)/\RelC cfg g st.dead (f j) c:=by
  intro j c hc;rw[QZ,Qy]at hc;split at hc;.obtain⟨v,h9,ae,_,_⟩:=h7 n _ ab (off+j) c hc;rw[Go.Deep.add_add];rw[show n*cfg.sz x.T+(off+j)=n*cfg.sz x.T+off+j by omega]at h9;simp only[f,h9];exact⟨rfl,ae,Z8X (ok.enc_plain _ _ c (X4 hc))⟩
  .cases hc
 have am:(((cfg.enc x.T (x.l.getD n (cfg.dflt x.T))).drop off).take zs.length).length=zs.length:=by rw[Qu,Qt];omega
 have d:=RelL.of_get (cfg:=cfg) (g:=g) (st:=st) (f:=f) (λj c hc=>(hf j c hc).2);refine⟨_,?_,d.mkV he⟩;simp only[Instr.loadAt,Instr.sureAddr,Sem.run_bind,Sem.run_pure,Result.andThen_ok];refine Z2o ok ht (by grind) ?_;intro j v hv;have hj:j<(((cfg.enc x.T (x.l.getD n (cfg.dflt x.T))).drop off).take zs.length).length:=by have:=(Q4.1 hv).1;rw[X6,List.length_range]at this;exact this
 rw[Qz,List.getElem?_range hj]at hv;simp only[Qk,Option.some.injEq]at hv;subst hv;exact(hf j _ (Q1 hj)).1
theorem Zse(h:Rel cfg B st g a w){u:Tok}{x:LC U}(hx:st.ls u=some x){v:Value}(hv:RelC cfg g st.dead v (.mref u)):∃b len cap,v=.slice b len cap/\x.l.length=len/\g.bs u=some (v,cfg.sz x.T)/\(b=none->len=0/\cap=0)/\len<=cap:=by
 obtain⟨hd,hL⟩:=h.ls u x hx;obtain⟨s,d⟩:=hv.2 hd;rcases hL with⟨h4,h5,_⟩|⟨b',len',cap',h4,h5,h6,_⟩
 .rw[d]at h4;cases h4;exact⟨none,0,0,rfl,by rw[h5];rfl,d,λ_=>⟨rfl,rfl⟩,Qc _⟩
 .rw[d]at h4;cases h4;exact⟨some b',len',cap',rfl,h5,d,λh=>(by cases h),h6⟩
theorem ZcM(ok:CfgOk P cfg)(h:Rel cfg B st g a w){t:TypeId}{u:Tok}{x:LC U}{k:IntKind}{n:Int}{v:Value}(ht:cfg.slT t=some x.T)(hx:st.ls u=some x)(hv:RelC cfg g st.dead v (.mref u))(hn:0<=n/\n<x.l.length):∃r,(Instr.indexAt t v (.int k n)).run P w=.ok r w/\RelV cfg g st.dead live r (.mp u n.toNat 0):=by obtain⟨hE,hU⟩:=Jo ok ht;have aa:=J6 ok x.T w;rw[<-hE]at aa;obtain⟨b,len,d,rfl,h1,h2,h3,h4⟩:=Zse h hx hv;cases b with|none=>grind|some b=>refine⟨.pointer (some (b.add (n.toNat*cfg.sz x.T))),?_,λ_=>⟨b,len,d,_,h2,by omega,rfl⟩⟩;rw[run_indexAt_slice w t b len d k n hU,if_pos ⟨hn.1,by omega⟩,aa];try rfl
theorem ZcR(ok:CfgOk P cfg){t ft:TypeId}{f off:Nat}{z:Bool×List (C U)}(hf:cfg.fld t f=some (off,ft))(ht:cfg.var ft=some z)(h:Rel cfg B st g a w){u:Tok}{x:LC U}(hx:st.ls u=some x){n o':Nat}{v:Value}(hp:RelV cfg g st.dead live v (.mp u n o')):∃r,(Instr.fieldAt t v f).run P w=.ok r w/\RelV cfg g st.dead live r (.mp u n (o'+off)):=by obtain⟨fs,fd,h1,h2,h3,h4⟩:=ok.fld _ _ _ _ hf;obtain⟨hd,_⟩:=h.ls u x hx;obtain⟨b,len,d,s,h5,h6,rfl⟩:=hp hd;obtain⟨ag,zs⟩:=z;obtain⟨hs,_,hn⟩:=Z2f ok ht w;have aa:zs≠[]:=λh=>hn (by simp[h]);refine⟨.pointer (some (b.add (n*s+(o'+off)))),?_,λ_=>⟨b,len,d,s,h5,h6,rfl⟩⟩;simp[Instr.fieldAt,run_underlying h1,h2,Instr.sureAddr,fieldPlace,h4,hs,h3,aa,Go.Deep.add_add,Kl]
theorem Z2K(ok:CfgOk P cfg){t et:TypeId}{len:Nat}{ag:Bool}{zs:List (C U)}{k:IntKind}{n:Int}{u:Value}{nm:Name}{off:Nat}(ht:cfg.arr t=some (len,et))(hz:cfg.var et=some (ag,zs))(hu:RelV cfg g st.dead live u (.ptr nm off))(hn:0<=n/\n<len):∃r,(Instr.indexAt t u (.int k n)).run P w=.ok r w/\RelV cfg g st.dead live r (.ptr nm (off+n.toNat*zs.length)):=by
 have d:=ok.arr _ _ _ ht;have hl:P.arrayLen t=len:=by simp[Program.arrayLen,d]
 have he:P.elem t=et:=by simp[Program.elem,d]
 obtain⟨hs,_,_⟩:=Z2f ok hz w;obtain⟨h2,rfl⟩:=hu;refine⟨.pointer (some (((g.ad nm).add off).add (n.toNat*zs.length))),?_,h2,by rw[Go.Deep.add_add]⟩;rw[run_indexAt_array w t _ k n (by grind),hl,he,if_pos hn,hs];try rfl
theorem ZgD(ok:CfgOk P cfg){t et:TypeId}{len:Nat}{k0:IntKind}{n0:Int}{k:IntKind}{n:Int}{u:Value}{nm:Name}{off:Nat}(ht:cfg.arr t=some (len,et))(hz:cfg.var et=some (false,[.int k0 n0]))(hu:RelV cfg g st.dead live u (.ptr nm off))(hn:0<=n/\n<len):∃r,(Instr.indexAt t u (.int k n)).run P w=.ok r w/\RelV cfg g st.dead live r (.ap nm off k0 len n):=by obtain⟨r,d,h2,h3⟩:=Z2K (w:=w) (k:=k) (g:=g) (st:=st) (live:=live) ok ht hz hu hn;exact⟨r,d,h2,hn,by rw[h3];simp⟩
theorem ZcL(ok:CfgOk P cfg){t et:TypeId}{len:Nat}{k0:IntKind}{n0:Int}{k:IntKind}{n:Int}{u:Value}{cs:List (C U)}{l:List Int}(ht:cfg.arr t=some (len,et))(hz:cfg.var et=some (false,[.int k0 n0]))(hu:RelV cfg g st.dead live u (.agg cs))(hlen:len=cs.length)(hl:Z1M k0 cs=some l)(hn:0<=n/\n<len):∃r,(Instr.index t u (.int k n)).run P w=.ok r w/\RelV cfg g st.dead live r (.c (.int k0 (l.getD n.toNat 0))):=by
 have h1:=ok.arr _ _ _ ht;obtain⟨hs,_,_⟩:=Z2f ok hz w;obtain⟨vs,rfl,hv⟩:=hu;obtain⟨h2,h3⟩:=Z2T hl;have d:l[n.toNat]?=some (l.getD n.toNat 0):=by simp[List.getD,Q1 (show n.toNat<l.length by omega)]
 have hc:=h3 _ _ d;have he:mkV false ((cs.drop (n.toNat*1)).take 1)=some (.c (.int k0 (l.getD n.toNat 0))):=by
  have:(cs.drop (n.toNat*1)).take 1=[.int k0 (l.getD n.toNat 0)]:=by rw[Nat.mul_one];apply List.ext_getElem?;intro j;rw[QZ,Qy];cases j with|zero=>simpa using hc|succ j=>simp
  rw[this];try rfl
 obtain⟨r,hr,hx⟩:=Z8Z (w:=w) (live:=live) ok hz hv (off:=n.toNat*1) (by simp;omega) (by simpa using he);refine⟨r,?_,hx⟩;have aj:(part et vs (n.toNat*[C.int (U:=U) k0 n0].length)).run P w=.ok r w:=by simpa using hr
 simp[Instr.index,run_underlying h1,asIntOf,hn,hs];simpa using hr
theorem Zeb(ok:CfgOk P cfg){t et:TypeId}{len:Nat}{ag:Bool}{zs:List (C U)}{k:IntKind}{n:Int}{u:Value}{cs:List (C U)}{x:V U}(ht:cfg.arr t=some (len,et))(hz:cfg.var et=some (ag,zs))(hu:RelV cfg g st.dead live u (.agg cs))(hn:0<=n/\n<len)(hle:n.toNat*zs.length+zs.length<=cs.length)(he:mkV ag ((cs.drop (n.toNat*zs.length)).take zs.length)=some x):∃r,(Instr.index t u (.int k n)).run P w=.ok r w/\RelV cfg g st.dead live r x:=by have d:=ok.arr _ _ _ ht;obtain⟨hs,_,_⟩:=Z2f ok hz w;obtain⟨vs,rfl,hv⟩:=hu;obtain⟨r,hr,hx⟩:=Z8Z (w:=w) (live:=live) ok hz hv hle he;refine⟨r,?_,hx⟩;simp[Instr.index,run_underlying d,asIntOf,hn,hs,hr]
theorem Zhq{ws:List (Bool×List (C U))}{i:Nat}{ag:Bool}{cs:List (C U)}{x:V U}{u:Value}(hu:RelV cfg g st.dead live u (.tup ws))(hi:ws[i]?=some (ag,cs))(he:mkV ag cs=some x):∃r,(Instr.extract u i).run P w=.ok r w/\RelV cfg g st.dead live r x:=by
 obtain⟨vs,rfl,h1,h2⟩:=hu;have d:i<vs.size:=by have:=(Q4.1 hi).1;omega
 have h3:=h2 i _ _ (QG d) hi;refine⟨vs[i],by simp[Instr.extract,d],?_⟩;cases ag with|true=>simp only[mkV,Option.some.injEq]at he;subst he;exact h3|false=>obtain⟨c,hc,hr⟩:=h3;simp only at hc;subst hc;simp only[mkV,Option.some.injEq]at he;subst he;exact hr
theorem ZuD(ok:CfgOk P cfg)(h:Rel cfg B st g a w){t ty:TypeId}{x:V U}{c:C U}{u:Value}(hu:RelV cfg g st.dead live u x)(he:lenOf cfg st t x=some c):∃r,(Builtin.len_ #[t] ty #[u]).run P w=.ok r w/\RelC cfg g st.dead r c:=by
 unfold lenOf at he;split at he
 .rename_i t';split at he
  .rename_i S x hS hx;split at he
   .rename_i af _;simp only[Option.some.injEq]at he;subst he;obtain⟨hE,hU⟩:=Jo ok hS;obtain⟨b,len,d,rfl,h1,_⟩:=Zse h hx hu;refine⟨_,run_len_slice w t ty b len d hU,?_,trivial⟩;rw[h1];exact .int _ _
   .cases he
  .cases he
 .split at he
  .rename_i S hS;simp only[Option.some.injEq]at he;subst he;obtain⟨hE,hU⟩:=Jo ok hS;have h1:SimC cfg g.m u .nils:=hu.1;cases h1;exact⟨_,run_len_slice w t ty none 0 0 hU,.int _ _,trivial⟩
  .cases he
 .rename_i T l tl;split at he
  .rename_i S hS;split at he
   .rename_i af _;simp only[Option.some.injEq]at he;subst he;obtain⟨hE,hU⟩:=Jo ok hS;have h1:SimC cfg g.m u (.slice T l tl):=hu.1;cases h1 with|snil=>exact⟨_,run_len_slice w t ty none 0 0 hU,.int _ _,trivial⟩|slice _ _ _ b len d vs hl hc hm hs=>refine⟨_,run_len_slice w t ty (some b) len d hU,?_,trivial⟩;rw[<-hl];exact .int _ _
   .cases he
  .cases he
 .cases he
theorem Zaz{mx:Bool}{x y c:C U}{u v:Value}{ts:Array TypeId}{ty:TypeId}(hx:RelC cfg g st.dead u x)(hy:RelC cfg g st.dead v y)(he:Z88 mx x y=some c):∃r,(if mx then Builtin.max_ ts ty #[u,v]else Builtin.min_ ts ty #[u,v]).run P w=.ok r w/\RelC cfg g st.dead r c:=by
 unfold Z88 at he;split at he
 .rename_i k p k' q;split at he
  .rename_i hk;subst hk;simp only[Option.some.injEq]at he;subst he;have d:=hx.1;have h2:=hy.1;cases d;cases h2;cases mx with|true=>exact⟨.int k (if p<q then q else p),by rfl,.int _ _,trivial⟩|false=>exact⟨.int k (if q<p then q else p),by rfl,.int _ _,trivial⟩
  .cases he
 .cases he
theorem ZgK(off:Nat):∀(vs:List Value)(j:Nat)(cs:Array Value),off+j+vs.length<=cs.size->((vs.zipIdx j).foldl (λ(cs:Array Value)(x:Value×Nat)=>cs.setIfInBounds (off+x.2) x.1) cs).toList=cs.toList.take (off+j)++vs++cs.toList.drop (off+j+vs.length)
 |[],j,cs,h=>by simp|v::vs,j,cs,h=>by
  simp only[List.zipIdx_cons,QV,Qa]at*;rw[ZgK off vs (j+1) _ (by simp;omega)];rw[Array.toList_setIfInBounds];have e1:(cs.toList.set (off+j) v).take (off+(j+1))=cs.toList.take (off+j)++[v]:=by
   have d:off+j<cs.toList.length:=by simp;omega
   rw[show off+(j+1)=off+j+1 by omega,List.take_succ_eq_append_getElem (by simp;omega)];rw[List.take_set_of_le (by omega)];simp
  have e2:(cs.toList.set (off+j) v).drop (off+(j+1)+vs.length)=cs.toList.drop (off+j+(vs.length+1)):=by rw[List.drop_set_of_lt (by omega)];congr 1;omega
  grind
theorem ZjQ{vs new:List Value}{cs cn cs':List (C U)}{off:Nat}(h:RelL cfg g st.dead vs cs)(hn:RelL cfg g st.dead new cn)(he:YK cs off cn=some cs'):off+new.length<=vs.length/\RelL cfg g st.dead (vs.take off++new++vs.drop (off+new.length)) cs':=by
 unfold YK at he;split at he
 .rename_i ae;simp only[Option.some.injEq]at he;subst he;have h1:=h.1;have h2:=hn.1;refine⟨by omega,?_,?_⟩;.simp;omega
  .intro j v c d hc;simp only[Q7]at d hc;rw[QK]at d hc;simp only[Qu]at d hc;rw[Xs (by omega)]at d;rw[Xs (by omega)]at hc;split at d;.rename_i hj;rw[if_pos hj]at hc;rw[Xg hj]at d hc;exact h.2 j v c d hc
   .rename_i hj;rw[if_neg hj]at hc;rw[QK]at d hc;rw[h2]at d;split at d;.rename_i aa;rw[if_pos aa]at hc;exact hn.2 _ v c d hc
    .rename_i aa;rw[if_neg aa]at hc;rw[Qy]at d hc;exact h.2 _ v c d hc
 .cases he
theorem Z4D{α β:Type}{f:α->Option β}:∀{l:List α}{r:List β},l.mapM f=some r->∀(i:Nat)x,l[i]?=some x->∃y,r[i]?=some y/\f x=some y|[],r,h,i,x,hx=>by simp at hx|a::l,r,h,i,x,hx=>by rw[QW]at h;cases ha:f a with|none=>simp[ha]at h|some b=>cases hl:l.mapM f with|none=>grind|some r'=>simp[ha,hl]at h;subst h;cases i with|zero=>grind|succ i=>simp at hx;obtain⟨y,d,h2⟩:=Z4D hl i x hx;grind
theorem Z9e{t:TypeId}{pl:Nat->Option (Nat×Nat)}(hpl:∀i d n,Zkj cfg t i=some (d,n)->pl i=some (d,n)):∀(parts:List (Nat×Value))(ps:List (Nat×List (C U)))(vs:Array Value)(cs cs':List (C U)),parts.length=ps.length->(∀(j:Nat)x y,parts[j]?=some x->ps[j]?=some y->x.1=y.1/\RelL cfg g st.dead x.2.cells.toList y.2)->RelL cfg g st.dead vs.toList cs->Z1e cfg t cs ps=some cs'->∃aa,Instr.fill pl vs parts=some aa/\RelL cfg g st.dead aa.toList cs'
 |[],[],vs,cs,cs',_,_,h,he=>by simp only[Z1e,Option.some.injEq]at he;subst he;exact⟨vs,rfl,h⟩|(i,v)::r,(i',new)::ps,vs,cs,cs',hl,hr,h,he=>by
  obtain⟨hi,hv⟩:=hr 0 _ _ rfl rfl;simp only at hi hv;subst hi;simp only[Z1e]at he;split at he
  .rename_i d n hf;split at he
   .rename_i ai;cases hs:YK cs d new with
    |none=>grind|some cs1=>
     simp only[hs,Qr]at he;obtain⟨h1,h2⟩:=ZjQ h hv hs;have ab:=hpl _ _ _ hf;have am:v.cells.size=n:=by have:=hv.1;simp at this;omega
     have aj:¬(d+v.cells.size>vs.size):=by simp at h1;omega
     let vs1:Array Value:=v.cells.zipIdx.foldl (λcs(c,j)=>cs.setIfInBounds (d+j) c) vs;have ah:vs1.toList=vs.toList.take d++v.cells.toList++vs.toList.drop (d+v.cells.toList.length):=by show(v.cells.zipIdx.foldl (λcs(c,j)=>cs.setIfInBounds (d+j) c) vs).toList=_;rw[<-Array.foldl_toList,Array.toList_zipIdx];have:=ZgK d v.cells.toList 0 vs (by simp;omega);simpa using this
     obtain⟨aa,aq,ae⟩:=Z9e hpl r ps vs1 cs1 cs' (by simpa using hl) (λj x y hx hy=>hr (j+1) x y (by simpa using hx) (by simpa using hy)) (by grind) he;refine⟨aa,?_,ae⟩;simp only[Instr.fill,ab];grind
   .cases he
  .cases he
theorem Zdr:∀(fs:List Field),(fs.all λd=>(P.info? d.type).isSome)=true->∃places,fs.mapM (λf=>(P.info? f.type).map λi=>(f.offset,i.size))=some places|[],_=>⟨[],rfl⟩|f::fs,h=>by simp only[List.all_cons,Q2]at h;obtain⟨i,hi⟩:=X7.1 h.1;obtain⟨pl,aa⟩:=Zdr fs h.2;simp_all
theorem Z0U{ag:Bool}{z:Value}{zs:List (C U)}(h:ZEb ag z zs):RelL cfg g st.dead z.cells.toList zs:=Zdu h.2.2
theorem ZnX(ok:CfgOk P cfg){t:TypeId}{zs cs:List (C U)}(ht:cfg.var t=some (true,zs)){parts:Array (Nat×Value)}{ps:List (Nat×List (C U))}(hl:parts.size=ps.length)(hr:∀(j:Nat)x y,parts[j]?=some x->ps[j]?=some y->x.1=y.1/\RelL cfg g st.dead x.2.cells.toList y.2)(he:Z1e cfg t zs ps=some cs):∃r,(Instr.build t parts).run P w=.ok r w/\RelV cfg g st.dead live r (.agg cs):=by
 obtain⟨a7,i,z,d,h1,h2,h3,h4,h5,h6,h7,h8,h9,av⟩:=ok.var _ _ _ ht;have hz:=Z0U (g:=g) (st:=st) (cfg:=cfg) h6;cases d<;>simp only[TypeDesc.ag,X9]at h4;case struct fs=>
  obtain⟨pl,al⟩:=Zdr fs.toList (h9 fs rfl);obtain⟨ae,ah,af⟩:=Z9e (t:=t) (pl:=(pl.toArray[·]?)) (by
   intro k ar n hp;unfold Zkj at hp;split at hp
   .rename_i aj ft hf;split at hp
    .rename_i ag ao ai;cases hp;obtain⟨bi,fd,ab,be,ba,bf⟩:=ok.fld _ _ _ _ hf;rw[h2]at ab;cases ab;obtain⟨_,ii,_,_,ak,_,aq,_⟩:=ok.var _ _ _ ai;obtain⟨y,af,bb⟩:=Z4D al k fd (by grind);grind
    .cases hp
   .split at hp;.rename_i len et ha;have:=ok.arr _ _ _ ha;grind
    .cases hp) parts.toList ps z.cells zs cs (by simpa using hl) (λj x y hx hy=>hr j x y (by simpa using hx) hy) hz he;refine⟨_,run_build w t parts ae ?_,ae,rfl,af⟩;simp only[Program.built,h1,h2,h5,al];exact ah
 case array n e=>
  obtain⟨ie,ay⟩:=X7.1 (av n e rfl);obtain⟨ae,ah,af⟩:=Z9e (t:=t) (pl:=λi=>some (i*ie.size,ie.size)) (by
   intro k ar m hp;unfold Zkj at hp;split at hp
   .rename_i aj ft hf;obtain⟨fs,fd,ak,_⟩:=ok.fld _ _ _ _ hf;grind
   .split at hp
    .rename_i len et ha;split at hp
     .rename_i ag ao ai;cases hp;have ab:=ok.arr _ _ _ ha;rw[h2]at ab;cases ab;obtain⟨_,ii,_,_,ak,_,aq,_⟩:=ok.var _ _ _ ai;grind
     .cases hp
    .cases hp) parts.toList ps z.cells zs cs (by simpa using hl) (λj x y hx hy=>hr j x y (by simpa using hx) hy) hz he;refine⟨_,run_build w t parts ae ?_,ae,rfl,af⟩;simp only[Program.built,h1,h2,h5,ay];exact ah
theorem SimC.intE{m:Addr->Option Value}{v:Value}{k:IntKind}{n:Int}(h:SimC cfg m v (.int k n)):v=.int k n:=by cases h;rfl
theorem Z9X{t:TypeId}{k:IntKind}{xs:Array Value}{off:Nat}(hu:P.underlying t=some (.int k))(hlt:off<xs.size):(part t xs off).run P w=.ok xs[off] w:=by simp[part,isAgg,run_underlying hu,hlt]
theorem Z8h{t:TypeId}{xs:Array Value}{off:Nat}(hu:P.underlying t=some .bool)(hlt:off<xs.size):(part t xs off).run P w=.ok xs[off] w:=by simp[part,isAgg,run_underlying hu,hlt]
theorem SimC.boolE{m:Addr->Option Value}{v:Value}{b:Bool}(h:SimC cfg m v (.bool b)):v=.bool b:=by cases h;rfl
theorem ZlV:∀{zs as:List (C U)},Z8g zs as=true->zs.length=as.length/\∀(i:Nat)(c:C U),as[i]?=some c->(∃k n,c=C.int k n/\∃k n,zs[i]?=some (C.int k n))\/(∃b,c=C.bool b/\∃b,zs[i]?=some (C.bool b))
 |[],[],_=>⟨rfl,λi c h=>by simp at h⟩|[],a::as,h=>by trivial|z::zs,[],h=>by cases z<;>simp[Z8g]at h|z::zs,a::as,h=>by
  have d:Z8g zs as=true:=by cases z<;>cases a<;>simp_all[Z8g]
  have ih:=ZlV d;refine⟨by simp[ih.1],λi c hc=>?_⟩;cases i with
  |succ i=>grind|zero=>simp only[Xl,Option.some.injEq]at hc⊢;subst hc;cases z<;>cases a<;>simp[Z8g]at h⊢
theorem ZbB{d:Nat}{xs ys:Array Value}{fs:Array Field}{m:Addr→Option Value}(hfs:∀(i:Nat)f,fs[i]?=some f→f.name≠ "_" ∧f.offset=i):∀(l:List Field)(i:Nat)(as bs:List (C U))(r:Bool),(∀j,l[j]?=fs[i+j]?)->(∀(j:Nat)(f:Field)(c:C U),l[j]?=some f->as[j]?=some c->(∀k n,c=C.int k n->∃k,P.underlying f.type=some (.int k))/\∀b,c=C.bool b->P.underlying f.type=some .bool)->as.length=l.length->Zhr as bs=some r->(∀j c,as[j]?=some c->∃v,xs[i+j]?=some v/\SimC cfg m v c)->(∀j c,bs[j]?=some c->∃v,ys[i+j]?=some v/\SimC cfg m v c)->(Op.eqFields (d+1) xs ys l).run P w=.ok r w
 |[],i,[],bs,r,_,_,_,he,_,_=>by cases bs with
  |nil=>simp only[Zhr,Option.some.injEq]at he;subst he;rfl|cons b bs=>trivial
 |f::l,i,a::as,bs,r,hl,hk,hn,he,hx,hy=>by
  obtain⟨h1,h2⟩:=hfs i f (by have:=hl 0;grind);have h3:=hk 0 f a rfl rfl;cases bs with
  |nil=>cases a<;>simp[Zhr]at he|cons b bs=>
   obtain⟨v,hv,sv⟩:=hx 0 a rfl;obtain⟨u,hu,su⟩:=hy 0 b rfl;rw[Xx]at hv hu;obtain⟨af,rfl⟩:=QJ.1 hv;obtain⟨ah,rfl⟩:=QJ.1 hu;have ih:=λr' hr=>ZbB (d:=d) hfs l (i+1) as bs r' (λj=>by have:=hl (j+1);grind) (λj f c hf hc=>hk (j+1) f c (by simpa using hf) (by simpa using hc)) (by simpa using hn) hr (λj c hj=>by have:=hx (j+1) c (by simpa using hj);simpa[Nat.add_assoc,Nat.add_comm 1 j]using this) (λj c hj=>by have:=hy (j+1) c (by simpa using hj);simpa[Nat.add_assoc,Nat.add_comm 1 j]using this);cases a<;>cases b<;>simp only[Zhr,reduceCtorEq]at he
   .rename_i k1 n1 k2 n2;split at he
    .rename_i hk;subst hk;cases hr:Zhr as bs with
     |none=>grind|some r'=>
      simp only[hr,Qk,Option.some.injEq]at he;subst he;have ih:=ih r' hr;have e1:xs[i]=.int k1 n1:=sv.intE;have e2:ys[i]=.int k1 n2:=su.intE;obtain⟨k,h3⟩:=h3.1 _ _ rfl;simp only[Op.eqFields,h1,ne_eq,not_false_eq_true,if_true,Sem.run_bind,h2,Z9X h3 af,Z9X h3 ah,Result.andThen_ok,e1,e2,run_equalIn_int w d f.type k1 k n1 n2 h3];cases hb:(n1==n2)with|true=>simpa using ih|false=>simp
    .cases he
   .rename_i b1 b2;cases hr:Zhr as bs with|none=>grind|some r'=>simp only[hr,Qk,Option.some.injEq]at he;subst he;have ih:=ih r' hr;have e1:xs[i]=.bool b1:=sv.boolE;have e2:ys[i]=.bool b2:=su.boolE;have h3:=h3.2 _ rfl;simp only[Op.eqFields,h1,ne_eq,not_false_eq_true,if_true,Sem.run_bind,h2,Z8h h3 af,Z8h h3 ah,Result.andThen_ok,e1,e2,run_equalIn_bool w d f.type b1 b2 h3];cases hb:(b1==b2)with|true=>simpa using ih|false=>simp
theorem ZdX(ok:CfgOk P cfg){t:TypeId}{p q:Operand}{as bs:List (C U)}{r:Bool}{u v:Value}(ht:cfg.eqs t=true)(hu:RelV cfg g st.dead live u (.agg as))(hv:RelV cfg g st.dead live v (.agg bs))(he:Zhr as bs=some r){ag:Bool}{zs:List (C U)}(hz:cfg.var t=some (ag,zs))(hsk:Z8g zs as=true):(do eqGuard .eql t p q u v;binOp .eql t u v:Sem Value).run P w=.ok (.bool r) w/\(do eqGuard .neq t p q u v;binOp .neq t u v:Sem Value).run P w=.ok (.bool (!r)) w:=by
 obtain⟨fs,h1,h0,h2,h3,h4⟩:=ok.eqs t ht;obtain⟨xs,rfl,hx⟩:=hu;obtain⟨ys,rfl,hy⟩:=hv;have hf:P.fieldsOf t=fs:=by simp[Program.fieldsOf,h1]
 obtain⟨ae,av⟩:=ZlV hsk;have hl:as.length=fs.size:=ae.symm.trans (h0 _ _ hz);have ab:=ZbB (P:=P) (cfg:=cfg) (w:=w) (d:=9998) (xs:=xs) (ys:=ys) (m:=g.m) (λi f hf=>⟨(h4 i f hf).1,(h4 i f hf).2.1⟩) fs.toList 0 as bs r (λj=>by simp) (λj f c hf hc=>by grind) (by simpa using hl) he (λj c hj=>by
   have aa:j<xs.toList.length:=by have h5:=(Q4.1 hj).1;have:=hx.1;omega
   have hg:=Q1 aa;exact⟨_,by grind,(hx.2 j _ c hg hj).1⟩) (λj c hj=>by
   have aa:j<ys.toList.length:=by have h5:=(Q4.1 hj).1;have:=hy.1;omega
   have hg:=Q1 aa;exact⟨_,by grind,(hy.2 j _ c hg hj).1⟩);have af:(Op.equalIn 10000 t (.agg xs) (.agg ys)).run P w=.ok r w:=by rw[run_equalIn_agg w 9999 t xs ys (by grind) h2,hf];exact ab
 refine⟨?_,?_⟩;.simp only[Sem.run_bind,run_eqGuard_agg w .eql t p q xs ys h3,Result.andThen_ok,run_eql_struct,af]
 .simp only[Sem.run_bind,run_eqGuard_agg w .neq t p q xs ys h3,Result.andThen_ok,run_neq_struct,af]
end Go.AM
