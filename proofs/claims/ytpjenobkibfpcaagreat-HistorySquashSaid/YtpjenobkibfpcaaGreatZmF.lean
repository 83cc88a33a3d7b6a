import Derived.Orders
import Derived.Below
import Derived.KernelRfl
import Derived.Lib.MinMax
import Derived.Laws.Tables
import Derived.Laws.Slices
import Derived.Deep.Slices
import Derived.Laws.StructEq
import Derived.Laws.Append
set_option linter.unusedSimpArgs false
set_option linter.unusedVariables false
namespace Go.AM
theorem J3 {c:Prop}[Decidable c]{α:Type _}{a b:α}(h:¬c:=by omega):(if c then a else b)=b:=if_neg h
theorem Jq {c:Prop}[Decidable c]{α:Type _}{a b:α}(h:c:=by omega):(if c then a else b)=a:=if_pos h
theorem JX {p:Prop}(h:p:=by omega):p:=h
theorem V0 {p:Prop}(h:p:=by (repeat' (first | exact trivial | exact rfl | apply And.intro))):p:=h
theorem V1 {p:Prop}(h:p:=by unfold InR;omega):p:=h
theorem V2 {p:Prop}(h:p:=by decide):p:=h
theorem V3 {p:Prop}(h:p:=by kernel_rfl):p:=h
theorem V4 {p:Prop}(h:p:=by dsimp only;omega):p:=h
abbrev Q0:=@List.mem_cons_of_mem
abbrev Q4:=@List.getElem?_eq_getElem
abbrev Q5:=@List.eq_nil_of_length_eq_zero
abbrev Q6:=@Bool.and_eq_true
abbrev Q7:=@List.mem_cons_self
abbrev Q8:=@List.getElem?_eq_some_iff
abbrev Q9:=@Option.map_eq_some_iff
abbrev Qa:=@List.mem_cons
abbrev Qb:=@Nat.le_refl
abbrev Qc:=@List.drop_of_length_le
abbrev Qd:=@Option.bind_eq_some_iff
abbrev Qe:=@Nat.eq_of_beq_eq_true
abbrev Qf:=@Nat.mul_le_mul_right
abbrev Qg:=@List.mem_singleton
abbrev Qh:=@List.getD_cons_zero
abbrev Qi:=@Option.map_some
abbrev Qj:=@List.mem_append
abbrev Qk:=@List.length_append
abbrev Ql:=@List.append_nil
abbrev Qm:=@List.length_cons
abbrev Qn:=@Option.bind_some
abbrev Qo:=@List.append_assoc
abbrev Qp:=@List.length_nil
abbrev Qq:=@List.getD_eq_getElem?_getD
abbrev Qr:=@List.length_take
abbrev Qs:=@Bool.eq_iff_iff
abbrev Qt:=@List.nil_append
abbrev Qu:=@List.getElem?_append_right
abbrev Qv:=@List.getElem?_map
abbrev Qw:=@List.drop_succ_cons
abbrev Qx:=@List.take_append_drop
abbrev Qy:=@List.take_of_length_le
abbrev Qz:=@List.getElem?_drop
abbrev QA:=@List.cons_append
abbrev QB:=@Bool.or_eq_false_iff
abbrev QC:=@Bool.or_false
abbrev QD:=@List.all_eq_true
abbrev QE:=@List.drop_eq_nil_of_le
abbrev QF:=@Nat.le_trans
abbrev QG:=@Nat.zero_le
abbrev QH:=@List.getElem?_append_left
abbrev QI:=@List.drop_eq_getElem_cons
abbrev QJ:=@Nat.add_mul
abbrev QK:=@List.getElem?_append
abbrev QL:=@Bool.true_and
abbrev QM:=@List.drop_zero
abbrev QN:=@Iff.rfl
abbrev QO:=@Option.isNone_iff_eq_none
abbrev QP:=@List.mem_append_left
abbrev QQ:=@List.getElem?_eq_none
abbrev QS:=@List.mem_of_getElem?
abbrev QU:=@Nat.zero_add
abbrev QV:=@Array.getElem?_eq_some_iff
abbrev QW:=@List.length_eq_zero_iff
abbrev QX:=@Bool.not_eq_true'
abbrev QY:=@Array.getElem?_eq_getElem
abbrev QZ:=@Nat.lt_of_lt_of_le
abbrev X3:=@List.length_map
abbrev X4:=@Option.isSome_iff_exists
abbrev X5:=@List.mem_append_right
abbrev X6:=@Int.eq_ofNat_of_zero_le
abbrev X7:=@List.mapM_cons
abbrev X8:=@List.mem_map
abbrev X9:=@List.length_drop
abbrev Xa:=@Int.le_refl
abbrev Xb:=@List.map_cons
abbrev Xc:=@Nat.testBit_two_pow_mul_add
abbrev Xd:=@List.getElem?_take
abbrev Xe:=@List.take_succ_eq_append_getElem
abbrev Xf:=@List.mem_of_mem_drop
abbrev Xg:=@Nat.le_succ
abbrev Xh:=@Int.toNat_natCast
abbrev Xi:=@List.mem_filter
abbrev Xj:=@Classical.byContradiction
abbrev Xk:=@List.length_replicate
abbrev Xl:=@List.getElem?_take_of_lt
abbrev Xm:=@Bool.or_true
abbrev Xn:=@Array.ext'
abbrev Xo:=@Nat.min_eq_left
abbrev Xp:=@List.getElem_of_mem
abbrev Xq:=@Option.getD_some
abbrev Xr:=@Nat.div_div_eq_div_mul
abbrev Xs:=@Nat.mul_comm
abbrev Xt:=@Bool.or_self
abbrev Xu:=@Bool.not_eq_false'
abbrev Xv:=@Bool.false_eq_true
abbrev Xw:=@Bool.not_true
abbrev Xx:=@Nat.div_lt_of_lt_mul
abbrev Xy:=@Bool.not_false
abbrev Xz:=@Array.toList_map
abbrev XA:=@List.map_congr_left
abbrev XB:=@List.mem_filterMap
abbrev XC:=@Bool.or_eq_true
abbrev XD:=@List.ext_getElem?
abbrev XE:=@List.contains_nil
abbrev XF:=@Nat.mul_zero
abbrev XG:=@Nat.lt_or_ge
abbrev XH:=@Nat.add_comm
abbrev XI:=@List.singleton_append
abbrev XJ:=@List.length_singleton
abbrev XK:=@List.mem_of_mem_take
abbrev XL:=@Int.tdiv_eq_ediv_of_nonneg
abbrev XM:=@List.length_pos_iff
abbrev XN:=@Nat.div_add_mod
abbrev XO:=@List.getElem?_zip_eq_some
abbrev XP:=@List.append_inj
abbrev XQ:=@Int.le_of_lt
abbrev XR:=@Nat.mod_lt
abbrev XT:=@List.drop_drop
abbrev XU:=@Bool.false_and
abbrev XV:=@Nat.le_mul_of_pos_right
abbrev XW:=@List.getElem?_cons_zero
abbrev XX:=@List.take_add_one
abbrev XY:=@List.flatMap_cons
abbrev XZ:=@Int.pow_pos
abbrev K0:=@Bool.or_assoc
abbrev K2:=@Bool.false_or
abbrev K4:=@Bool.and_true
abbrev K5:=@Nat.mod_eq_of_lt
abbrev K6:=@List.any_eq_true
abbrev K7:=@Bool.not_eq_true
abbrev K8:=@Nat.le_div_iff_mul_le
abbrev Ka:=@List.length_filter_le
abbrev Kb:=@Nat.mul_add_mod
abbrev Kc:=@Nat.add_zero
abbrev Kd:=@List.map_nil
abbrev Ke:=@List.foldl_cons
abbrev Kf:=@Int.ofNat_eq_natCast
abbrev Kg:=@List.replicate_succ
abbrev Kh:=@List.getD_cons_succ
abbrev Ki:=@Array.append_assoc
abbrev Kj:=@Option.bind_assoc
abbrev Kk:=@List.getElem?_set
abbrev Kl:=@Nat.lt_succ_self
abbrev Km:=@Nat.le_add_right
abbrev Kn:=@List.take_length
abbrev Ko:=@List.filter_cons
abbrev Kp:=@Int.le_total
abbrev Kq:=@Int.ediv_le_self
abbrev Kr:=@Int.ediv_nonneg
abbrev Kt:=@Nat.sub_mul
theorem oP:(∀ {α:Type} (a b:α),(some a=some b)=(a=b))/\∀ {α β:Type} (a:α) (b:β) (c:α) (d:β),((a,b)=(c,d))=(a=c/\b=d):=⟨fun a b=> Option.some.injEq a b,fun a b c d=> Prod.mk.injEq a b c d⟩
structure Uni where
 Ty:Type
 El:Ty->Type
inductive Tok where
 | e (k j:Nat) | l (s j:Nat) | x (k j:Nat) | r (d j:Nat) | z (s j:Nat)
 deriving DecidableEq
def Tok.isR:Tok->Bool
 | .r _ _=> true
 | .z _ _=> true
 | _=> false
inductive Tail where
 | unk | full | own (t:Tok)
 deriving DecidableEq
inductive Name where
 | loc (s:Nat) | x (k:Nat)
 deriving DecidableEq
inductive C (U:Uni):Type where
 | int (k:IntKind) (n:Int)
 | bool (b:Bool)
 | nils
 | nilp
 | slice (T:U.Ty) (l:List (U.El T)) (tl:Tail)
 | mref (t:Tok)
 | po (T:U.Ty) (o:Option (U.El T))
 | xp (k:Nat)
 | jk
structure LC (U:Uni) where
 T:U.Ty
 l:List (U.El T)
 f:Nat
def Name.isX:Name->Bool
 | .x _=> true
 | .loc _=> false
inductive V (U:Uni):Type where
 | c (x:C U)
 | agg (cs:List (C U))
 | tup (vs:List (Bool × List (C U)))
 | ptr (nm:Name) (off:Nat)
 | ap (nm:Name) (off:Nat) (k:IntKind) (len:Nat) (n:Int)
 | ep (cs:List (C U))
 | mp (t:Tok) (n off:Nat)
 | vw (t:Tok) (n:Nat)
 | fn (f:FuncId)
 | clo (f:FuncId) (nms:List Name)
 | gd (g:Bool) (v:V U)
 | nb (p q:Prop)
 | junk
variable {U:Uni}
def C.mapTok(f f2:Tok->Option Tok)(fx:Nat->Option Nat):C U->C U
 | .slice T l (.own t)=> .slice T l (match f t with | some t'=> .own t' | none=> .unk)
 | .mref t=> match f2 t with
  | some t'=> .mref t'
  | none=> .jk
 | .xp k=> match fx k with
  | some k'=> .xp k'
  | none=> .jk
 | c=> c
def V.mapTok(f f2:Tok->Option Tok)(fx:Nat->Option Nat):V U->V U
 | .c x=> .c (x.mapTok f f2 fx)
 | .agg cs=> .agg (cs.map (C.mapTok f f2 fx))
 | .tup vs=> .tup (vs.map fun x=> (x.1,x.2.map (C.mapTok f f2 fx)))
 | .ep cs=> .ep (cs.map (C.mapTok f f2 fx))
 | .gd b v=> .gd b (v.mapTok f f2 fx)
 | .nb p q=> .nb p q
 | .ptr .. => .junk
 | .ap .. => .junk
 | .fn f=> .fn f
 | .mp .. => .junk
 | .vw .. => .junk
 | .clo .. => .junk
 | .junk=> .junk
structure Cfg (U:Uni) where
 tyEq:DecidableEq U.Ty
 dflt:(T:U.Ty)->U.El T
 enc:(T:U.Ty)->U.El T->List (C U)
 dec:(T:U.Ty)->List (C U)->Option (U.El T)
 aggT:U.Ty->Bool
 sz:U.Ty->Nat
 bytes:U.Ty->Nat
 elT:U.Ty->TypeId
 slT:TypeId->Option U.Ty
 var:TypeId->Option (Bool × List (C U))
 fld:TypeId->Nat->Option (Nat × TypeId)
 arr:TypeId->Option (Nat × TypeId)
 eqs:TypeId->Bool
def ZdI(fn:List (V U)->List (List (C U))->Option (List Prop × V U × List (List (C U)))):List (V U)->List (List (C U))->List (Tok × LC U)->Option (List Prop × V U × List (List (C U)) × List (Tok × LC U)):=fun xs X L=>
 match L with
 | []=> match fn xs X with
  | some (ps,r,X')=> some (ps,r,X',[])
  | none=> none
 | _ ::_=> none
structure Fs (U:Uni) where
 pass:Nat->Bool:=fun _=> false
 wr:Bool:=false
 mkl:Bool:=false
 bor:Bool:=false
 obj:Bool:=false
 fn:List (V U)->List (List (C U))->Option (List Prop × V U × List (List (C U)))
 fn2:List (V U)->List (List (C U))->List (Tok × LC U)->Option (List Prop × V U × List (List (C U)) × List (Tok × LC U)):=ZdI fn
structure Known (U:Uni) where
 fn:FuncId->Option (Fs U)
 wr:Bool
 ml:Bool
instance:CoeFun (Known U) (fun _=> FuncId->Option (Fs U)):=⟨Known.fn⟩
structure FSt (U:Uni) where
 n:Nat
 env:Nat->V U
 mem:Name->Option (List (C U))
 dead:Tok->Bool
 ls:Tok->Option (LC U)
 mu:Bool
 vw:Bool
structure Eff (U:Uni) where
 val:Option (V U):=none
 mem:List (Name × List (C U)):=[]
 kill:List Tok:=[]
 ls:List (Tok × LC U):=[]
def FSt.put(st:FSt U)(d:Option Nat)(v:V U):FSt U:=
 match d with
 | some k=> { st with env:=fun j=> bif Nat.beq j k then v else st.env j }
 | none=> st
def ZW(m:Name->Option (List (C U))):List (Name × List (C U))->Name->Option (List (C U))
 | [],nm=> m nm
 | (a,cs) ::r,nm=> if nm=a then some cs else ZW m r nm
def ZE(m:Tok->Option (LC U)):List (Tok × LC U)->Tok->Option (LC U)
 | [],t=> m t
 | (a,x) ::r,t=> if t=a then some x else ZE m r t
def Z0o(m:Tok->Option (LC U))(e:Eff U):Tok->Option (LC U):=fun t=> bif e.kill.contains t then none else ZE m e.ls t
def FSt.app(st:FSt U)(d:Option Nat)(e:Eff U):FSt U:=
 {st.put d (e.val.getD .junk) with mem:=ZW st.mem e.mem,dead:=fun t=> st.dead t || e.kill.contains t,ls:=Z0o st.ls e }
def Z0H:Value->Option (C U)
 | .int k n=> some (.int k n)
 | .bool b=> some (.bool b)
 | .slice none 0 0=> some .nils
 | .pointer none=> some .nilp
 | _=> none
def Zkl:Value->Option (V U)
 | .agg cs=> (cs.toList.mapM Z0H).map .agg
 | v=> (Z0H v).map .c
def FSt.opnd(st:FSt U):Operand->Option (V U)
 | .tmp t=> some (st.env t)
 | .const v=> Zkl v
 | .func f=> some (.fn f)
 | .global _=> none
def V.cells:V U->Option (List (C U))
 | .c x=> some [x]
 | .agg cs=> some cs
 | .ptr (.x k) 0=> some [.xp k]
 | _=> none
def mkV(ag:Bool)(cs:List (C U)):Option (V U):=
 match ag,cs with
 | true,cs=> some (.agg cs)
 | false,[c]=> some (.c c)
 | false,_=> none
def InR(n:Int):Prop:= -9223372036854775808<=n/\n<=9223372036854775807
def ZdN(wr:Bool)(k:IntKind)(n:Int):List Prop × C U:=
 match wr,k with
 | false,.i64=> ([InR n],.int .i64 n)
 | _,k=> ([],.int k (k.wrap n))
def ZCs(wr:Bool)(op:BinOp)(x y:C U):Option (List Prop × C U):=
 match x,y with
 | .int k a,.int k' b=>
  match op with
  | .shl=> some ([0<=b],.int k (k.wrap (a*2 ^ (min b.toNat k.bits))))
  | .shr=> some ([0<=b],.int k (a.fdiv (2 ^ (min b.toNat k.bits))))
  | .eql=> if k=k' then some ([],.bool (a==b)) else none
  | .neq=> if k=k' then some ([],.bool (a !=b)) else none
  | .lss=> if k=k' then some ([],.bool (decide (a < b))) else none
  | .leq=> if k=k' then some ([],.bool (decide (a<=b))) else none
  | .gtr=> if k=k' then some ([],.bool (decide (b < a))) else none
  | .geq=> if k=k' then some ([],.bool (decide (b<=a))) else none
  | .add=> if k=k' then some (ZdN wr k (a+b)) else none
  | .sub=> if k=k' then some (ZdN wr k (a - b)) else none
  | .mul=> if k=k' then some (ZdN wr k (a*b)) else none
  | .quo=> if k=k' then some ([b≠0],.int k (k.wrap (a.tdiv b))) else none
  | .rem=> if k=k' then some ([b≠0],.int k (a.tmod b)) else none
  | .and=> if k=k' then some ([],.int k (k.wrap (BitVec.ofInt k.bits a &&& BitVec.ofInt k.bits b).toNat)) else none
  | .or=> if k=k' then some ([],.int k (k.wrap (BitVec.ofInt k.bits a ||| BitVec.ofInt k.bits b).toNat)) else none
  | .xor=> if k=k' then some ([],.int k (k.wrap (BitVec.ofInt k.bits a ^^^ BitVec.ofInt k.bits b).toNat)) else none
  | .andNot=> if k=k' then some ([],.int k (k.wrap (BitVec.ofInt k.bits a &&& ~~~(BitVec.ofInt k.bits b)).toNat)) else none
 | _,_=> none
def ZsW(op:BinOp)(a b:Bool):Option (C U):=
 match op with
 | .eql=> some (.bool (a==b))
 | .neq=> some (.bool (a !=b))
 | _=> none
def ZhE:List (C U)->List (C U)->Option Bool
 | [],[]=> some true
 | .int k a ::r,.int k' b ::s=> if k=k' then (ZhE r s).map fun x=> (a==b) && x else none
 | .bool a ::r,.bool b ::s=> (ZhE r s).map fun x=> (a==b) && x
 | _,_=> none
def Z8K:List (C U)->List (C U)->Bool
 | [],[]=> true
 | .int _ _ ::r,.int _ _ ::s=> Z8K r s
 | .bool _ ::r,.bool _ ::s=> Z8K r s
 | _,_=> false
def aUn(wr:Bool)(op:UnOp)(x:C U):Option (List Prop × C U):=
 match op,x with
 | .not,.bool b=> some ([],.bool (!b))
 | .neg,.int k n=> some (ZdN wr k (-n))
 | .xor,.int k n=> some ([],.int k (k.wrap (BitVec.ofInt k.bits (if k.signed then -1 else k.max) ^^^ BitVec.ofInt k.bits n).toNat))
 | _,_=> none
def ZhJ(cfg:Cfg U)(T:U.Ty):C U->Option (List (U.El T) × Tail)
 | .nils=> some ([],.full)
 | .slice S l tl=>
  match cfg.tyEq S T with
  | isTrue h=> some (h▸l,tl)
  | isFalse _=> none
 | _=> none
def YS(cs:List (C U))(off:Nat)(new:List (C U)):Option (List (C U)):=
 if off+new.length<=cs.length then some (cs.take off++new++cs.drop (off+new.length)) else none
def Zkj(cfg:Cfg U)(t:TypeId)(i:Nat):Option (Nat × Nat):=
 match cfg.fld t i with
 | some (off,ft)=>
  match cfg.var ft with
  | some (_,zs)=> some (off,zs.length)
  | none=> none
 | none=>
  match cfg.arr t with
  | some (_,et)=>
   match cfg.var et with
   | some (_,zs)=> some (i*zs.length,zs.length)
   | none=> none
  | none=> none
def Z17(cfg:Cfg U)(t:TypeId):List (C U)->List (Nat × List (C U))->Option (List (C U))
 | cs,[]=> some cs
 | cs,(i,new) ::r=>
  match Zkj cfg t i with
  | some (off,n)=> if new.length=n then (YS cs off new).bind fun cs'=> Z17 cfg t cs' r else none
  | none=> none
def Z1K(k:IntKind):List (C U)->Option (List Int)
 | []=> some []
 | .int k' n ::r=> if k=k' then (Z1K k r).map (n ::·) else none
 | _=> none
def Z2w(n:Int)(j:Nat)(v x:Int):Int:=if n=(j:Int) then v else x
def Z2F(k:IntKind)(n v:Int):Nat->List Int->List (C U)
 | _,[]=> []
 | j,x ::r=> .int k (Z2w n j v x) ::Z2F k n v (j+1) r
def rd(st:FSt U)(p:V U)(ag:Bool)(n:Nat):Option (V U):=
 match p with
 | .ptr nm off=>
  match st.mem nm with
  | some cs=> if off+n<=cs.length then mkV ag ((cs.drop off).take n) else none
  | none=> none
 | .ep cs=> if n<=cs.length then mkV ag (cs.take n) else none
 | .ap nm off k len i=>
  match st.mem nm with
  | some cs=> if off+len<=cs.length then match Z1K k ((cs.drop off).take len) with
   | some l=> bif ag then none else some (.c (.int k (l.getD i.toNat 0)))
   | none=> none
   else none
  | none=> none
 | _=> none
def Z1o(st:FSt U):Option Operand->Option (Option (V U))
 | none=> some none
 | some x=> (st.opnd x).map some
def C.frz(t:Tok)(x:LC U):C U->C U
 | .mref u=> if u=t then .slice x.T x.l (.own t) else .mref u
 | .slice T l (.own u)=> if u=t then .slice T l .unk else .slice T l (.own u)
 | c=> c
def V.frz(cfg:Cfg U)(t:Tok)(x:LC U):V U->V U
 | .c y=> .c (y.frz t x)
 | .agg cs=> .agg (cs.map (C.frz t x))
 | .tup vs=> .tup (vs.map fun y=> (y.1,y.2.map (C.frz t x)))
 | .ep cs=> .ep (cs.map (C.frz t x))
 | .gd b v=> .gd b (v.frz cfg t x)
 | .mp u n off=> if u=t then .ep ((cfg.enc x.T (x.l.getD n (cfg.dflt x.T))).drop off) else .mp u n off
 | .vw u n=> if u=t then .junk else .vw u n
 | v=> v
def FSt.frz1(cfg:Cfg U)(st:FSt U)(t:Tok):FSt U:=
 match st.ls t with
 | none=> st
 | some x=> { st with env:=fun k=> (st.env k).frz cfg t x,mem:=fun nm=> (st.mem nm).map fun cs=> cs.map (C.frz t x),ls:=fun u=> if u=t then none else st.ls u }
def FSt.frz(cfg:Cfg U)(st:FSt U):List Tok->FSt U
 | []=> st
 | t ::r=> (st.frz1 cfg t).frz cfg r
def C.muts:C U->List Tok
 | .mref t=> [t]
 | _=> []
def Zxa:List (C U)->List Tok
 | []=> []
 | c ::r=> c.muts++Zxa r
def V.muts:V U->List Tok
 | .c x=> x.muts
 | .agg cs=> Zxa cs
 | .gd _ v=> v.muts
 | .mp t _ _=> [t]
 | .vw t _=> [t]
 | _=> []
def Z1z(s:List (Tok × Tok))(t:Tok):Option Tok:=
 match s with
 | []=> none
 | (a,b) ::r=> if b=t then some a else Z1z r t
def YU(s:List (Tok × Tok))(t:Tok):Option Tok:=
 match s with
 | []=> none
 | (a,b) ::r=> if a=t then some b else YU r t
def Z0G(mine:Tok->Bool)(nm:Tok)(c:C U)(seen:List (Tok × Tok)):C U × List (Tok × Tok):=
 match c with
 | .slice T l (.own t)=> if mine t && (YU seen t).isNone && (Z1z seen nm).isNone then (.slice T l (.own nm),(t,nm) ::seen) else (.slice T l .unk,seen)
 | .mref t=> if mine t && (YU seen t).isNone && (Z1z seen nm).isNone then (.mref nm,(t,nm) ::seen) else (.jk,seen)
 | .xp _=> (.jk,seen)
 | c=> (c,seen)
def Js(mine:Tok->Bool)(nm:Nat->Tok):(j:Nat)->List (C U)->List (Tok × Tok)->List (C U) × List (Tok × Tok)
 | _,[],seen=> ([],seen)
 | j,c ::r,seen=> ((Z0G mine (nm j) c seen).1 ::(Js mine nm (j+1) r (Z0G mine (nm j) c seen).2).1,(Js mine nm (j+1) r (Z0G mine (nm j) c seen).2).2)
def ZwW(mine:Tok->Bool)(nm:Nat->Tok)(v:V U)(seen:List (Tok × Tok)):Option (V U × List (Tok × Tok)):=
 match v with
 | .c x=> some (.c (Z0G mine (nm 0) x seen).1,(Z0G mine (nm 0) x seen).2)
 | .agg cs=> some (.agg (Js mine nm 0 cs seen).1,(Js mine nm 0 cs seen).2)
 | .fn f=> some (.fn f,seen)
 | _=> none
def Ztp:V U->Option Name
 | .ptr nm 0=> some nm
 | _=> none
def ZbD(os:List (Name × List (C U)))(nm:Name):Bool:=
 match os with
 | []=> false
 | (a,_) ::r=> if a=nm then true else ZbD r nm
def Ztq:V U->Option (Name × (Name->V U))
 | .ptr nm off=> some (nm,fun n=> .ptr n off)
 | .clo f [nm]=> some (nm,fun n=> .clo f [n])
 | _=> none
def Ja(st:FSt U)(ps:Nat->Bool):(i:Nat)->List (V U)->List (Name × List (C U))->List (Tok × Tok)->
  Option (List (V U) × List (Name × List (C U)) × List (Tok × Tok))
 | _,[],os,seen=> some ([],os,seen)
 | i,v ::r,os,seen=>
  match Ztq v with
  | some (nm,mk)=>
   match st.mem nm with
   | none=> none
   | some cs=>
    if ZbD os nm then none else
    match Ja st ps (i+1) r (os++[(nm,(Js (fun t=> !st.dead t) (.x os.length) 0 cs seen).1)]) (Js (fun t=> !st.dead t) (.x os.length) 0 cs seen).2 with
    | some (vs,os',s)=> some (mk (.x os.length) ::vs,os',s)
    | none=> none
  | none=>
   match ZwW (fun t=> ps i && !st.dead t) (.e i) v seen with
   | none=> none
   | some (v',seen')=>
    match Ja st ps (i+1) r os seen' with
    | some (vs,os',s)=> some (v' ::vs,os',s)
    | none=> none
def Y2(d:Nat):Tok->Option Tok
 | .r 0 j=> some (.r d (2*j))
 | .x k j=> if j < 64 then some (.r d (2*(64*k+j)+1)) else none
 | _=> none
def Z1O(d:Nat):Tok->Option Tok
 | .r d' m=> if d'=d then (if m % 2=0 then some (.r 0 (m / 2)) else some (.x (m / 2 / 64) (m / 2 % 64))) else none
 | _=> none
def Z0X(d:Nat)(L:List (Tok × LC U))(t:Tok):Option Tok:=
 match ZE (fun _=> none) L t with
 | some _=> Y2 d t
 | none=> none
def Z15(st:FSt U)(d:Nat):List (Tok × LC U)->Option (List (Tok × LC U))
 | []=> some []
 | (t,x) ::r=> match Y2 d t,Z15 st d r with
  | some t',some l=> if (st.ls t').isNone && !st.dead t' then some ((t',x) ::l) else none
  | _,_=> none
def Z7M(d:Nat)(L:List (Tok × LC U))(fx:Nat->Option Nat):List (Name × List (C U))->List (List (C U))->Option (List (Name × List (C U)))
 | [],[]=> some []
 | (nm,_) ::r,cs ::s=> (Z7M d L fx r s).map ((nm,cs.map (C.mapTok (Y2 d) (Z0X d L) fx)) ::·)
 | _,_=> none
def Jo:List (Name × List (C U))->Nat->Name->Option Nat
 | [],_,_=> none
 | (a,_) ::r,k,nm=> if a=nm then some k else Jo r (k+1) nm
def Z8Y(os:List (Name × List (C U)))(k:Nat):Option Nat:=
 match os[k]? with
 | some (.x j,_)=> some j
 | _=> none
def ZiI:List (C U)->List Name->List Name
 | [],have_=> have_
 | .xp k ::r,have_=> ZiI r (if Nat.blt k 8 && !have_.contains (.x k) then have_++[.x k] else have_)
 | _ ::r,have_=> ZiI r have_
def JA:List (V U)->List Name
 | []=> []
 | v ::r=> match Ztq v with
  | some (nm,_)=> nm ::JA r
  | none=> JA r
def Z8U(st:FSt U):List Name->List Name->List Name
 | [],have_=> have_
 | nm ::r,have_=> Z8U st r (match st.mem nm with
  | some cs=> ZiI cs have_
  | none=> have_)
def Z2B(st:FSt U)(args:List (V U)):List (V U):=
 ((Z8U st (JA args) (JA args)).drop (JA args).length).map (.ptr · 0)
def ZmP(os:List (Name × List (C U))):List (C U)->List (C U)->List (C U)
 | .xp k ::r,c ::s=> (match Jo os 0 (.x k) with
  | some k'=> .xp k'
  | none=> c) ::ZmP os r s
 | _ ::r,c ::s=> c ::ZmP os r s
 | [],s=> s
 | _,[]=> []
def Zub(st:FSt U)(os:List (Name × List (C U))):List (C U) × Name->List (C U)
 | (cs,nm)=> match st.mem nm with
  | some cs0=> ZmP os cs0 cs
  | none=> cs
def Z0I(m:Tok->Option (LC U))(s:List (Tok × Tok)):List Tok->List (Tok × LC U)
 | []=> []
 | t ::r=> match Z1z s t with
  | some u=> match YU s u,m u with
   | some t',some x=> if t'=t/\t.isR=false then (t,x) ::Z0I m s r else Z0I m s r
   | _,_=> Z0I m s r
  | none=> Z0I m s r
def V.isP:V U->Bool
 | .ptr _ _=> true
 | _=> false
def Z6j(Γ:Known U)(st:FSt U)(d:Nat)(f:FuncId)(args:List (V U)):Option (List Prop × Eff U):=
 match Γ f with
 | none=> none
 | some s=>
  match Ja st s.pass 0 (args++Z2B st args) [] [] with
  | none=> none
  | some (vs,os,toks)=>
   match s.fn2 (vs.take args.length) (os.map fun x=> Zub st os (x.2,x.1)) (bif s.wr then Z0I st.ls toks (toks.map (·.2)) else []) with
   | none=> none
   | some (ps,r,xs,L)=>
    bif r.isP then none else match Z7M d L (Z8Y os) os xs,Z15 st d L with
    | some m,some l=> some (ps,{ val:=some (r.mapTok (Y2 d) (Z0X d L) (Z8Y os)),mem:=m,kill:=toks.map (·.1),ls:=l })
    | _,_=> none
def C.lend(st:FSt U):C U->C U
 | .mref t=> match st.ls t with
  | some x=> .slice x.T x.l .unk
  | none=> .jk
 | .slice T l (.own _)=> .slice T l .unk
 | .xp _=> .jk
 | c=> c
def V.lend(st:FSt U):V U->Option (V U)
 | .c x=> some (.c (x.lend st))
 | .agg cs=> some (.agg (cs.map (C.lend st)))
 | .fn f=> some (.fn f)
 | _=> none
def Zyo(Γ:Known U)(f:FuncId):Bool:=
 match Γ f with
 | some s=> s.bor
 | none=> false
def Zj4(Γ:Known U)(st:FSt U)(f:FuncId)(args:List (V U)):Option (List Prop × Eff U):=
 match Γ f,args.mapM (V.lend st) with
 | some s,some vs=> match s.fn2 vs [] [] with
  | some (ps,.c (.int k n),[],[])=> some (ps,{ val:=some (.c (.int k n)) })
  | some (ps,.c (.bool b),[],[])=> some (ps,{ val:=some (.c (.bool b)) })
  | _=> none
 | _,_=> none
def C.bare:C U->C U
 | .slice T l _=> .slice T l .unk
 | .mref _=> .jk
 | .xp _=> .jk
 | c=> c
def V.bare:V U->Option (V U)
 | .c x=> some (.c x.bare)
 | .agg cs=> some (.agg (cs.map C.bare))
 | .fn f=> some (.fn f)
 | _=> none
def C.plain:C U->Bool
 | .slice _ _ .unk=> true
 | .slice .. => false
 | .mref _=> false
 | .xp _=> false
 | _=> true
def ZEs(Γ:Known U)(f:FuncId):Bool:=
 match Γ f with
 | some s=> s.obj
 | none=> false
def Z5f(st:FSt U):List (V U)->Option (List (V U) × List (Name × List (C U)))
 | [.ptr nm 0]=> match st.mem nm with
  | some cs=> some ([.ptr (.x 0) 0],[(nm,cs.map C.bare)])
  | none=> none
 | xs=> match xs.mapM V.bare with
  | some vs=> some (vs,[])
  | none=> none
def ZuE(Γ:Known U)(st:FSt U)(d:Nat)(f:FuncId)(args:List (V U)):Option (List Prop × Eff U):=
 match Γ f,Z5f st args with
 | some s,some (vs,os)=> match s.fn2 vs (os.map (·.2)) [] with
  | some (ps,.ptr (.x k) 0,xs,[])=> if Nat.beq k os.length && Nat.beq xs.length (k+1) && xs.all (fun cs=> cs.all C.plain) && (st.mem (.loc d)).isNone then some (ps,{ val:=some (.ptr (.loc d) 0),mem:=(os.map Prod.fst++[Name.loc d]).zip xs }) else none
  | _=> none
 | _,_=> none
def lenOf(cfg:Cfg U)(st:FSt U)(t:TypeId):V U->Option (C U)
 | .c (.mref u)=> match cfg.slT t,st.ls u with
  | some S,some x=> match cfg.tyEq S x.T with
   | isTrue _=> some (.int .i64 x.l.length)
   | isFalse _=> none
  | _,_=> none
 | .c .nils=> match cfg.slT t with
  | some _=> some (.int .i64 0)
  | none=> none
 | .c (.slice T l _)=> match cfg.slT t with
  | some S=> match cfg.tyEq S T with
   | isTrue _=> some (.int .i64 l.length)
   | isFalse _=> none
  | none=> none
 | _=> none
def Z8Z(cfg:Cfg U)(st:FSt U)(T:U.Ty):C U->Option (List (U.El T) × Nat × Option Tok)
 | .mref t=> match st.ls t with
  | some x=> match cfg.tyEq x.T T with
   | isTrue h=> some (h▸x.l,x.f,some t)
   | isFalse _=> none
  | none=> none
 | c=> match ZhJ cfg T c with
  | some (l,.full)=> some (l,l.length,none)
  | some (l,.own t)=> if st.dead t then none else some (l,l.length,some t)
  | _=> none
def ZKs:C U->Bool
 | .mref _=> true
 | _=> false
def Z5i(cfg:Cfg U)(st:FSt U)(d:Nat)(t:TypeId)(x y:C U):Option (List Prop × Eff U):=
 match cfg.slT t with
 | none=> none
 | some T=>
  match Z8Z cfg st T x,ZhJ cfg T y with
  | some (l,f,u),some (l',_)=>
   if (st.ls (.r d 0)).isNone && !st.dead (.r d 0) && !u.toList.contains (.r d 0) then
    some ([(l.length+l'.length)*cfg.bytes T<=140737488355328],{ val:=some (.c (.mref (.r d 0))),kill:=u.toList,ls:=[(.r d 0,⟨T,l++l',f⟩)] })
   else none
  | _,_=> none
def Z5h(cfg:Cfg U)(st:FSt U)(d:Nat)(t t':TypeId)(x y:C U):Option (List Prop × Eff U):=
 match cfg.slT t,cfg.var t',y with
 | some T,some (false,[.int .i64 _]),.int .i64 n=>
  match Z8Z cfg st T x,(cfg.var (cfg.elT T)).bind fun p=> cfg.dec T p.2 with
  | some (l,f,u),some z=>
   if (st.ls (.r d 0)).isNone && !st.dead (.r d 0) && !u.toList.contains (.r d 0) then
    some ([0<=n/\(l.length+n)*cfg.bytes T<=140737488355328],{ val:=some (.c (.mref (.r d 0))),kill:=u.toList,ls:=[(.r d 0,⟨T,l++List.replicate n.toNat z,f⟩)] })
   else none
  | _,_=> none
 | _,_,_=> none
def Z8D(cfg:Cfg U)(st:FSt U)(d:Nat)(t:TypeId)(x y:C U):Option (List Prop × Eff U):=
 match cfg.slT t with
 | none=> none
 | some T=>
  match ZhJ cfg T x,ZhJ cfg T y with
  | some (l,tl),some (l',_)=>
   let res:C U:= .slice T (l++l') (.own (.r d 0))
   let room:Prop:=(l.length+l'.length)*cfg.bytes T<=140737488355328
   match tl with
   | .unk=> none
   | .full=> some ([room],{ val:=some (.c res) })
   | .own u=> match st.dead u with
    | true=> none
    | false=> some ([room],{ val:=some (.c res),kill:=[u] })
  | _,_=> none
def Z8C(mx:Bool)(x y:C U):Option (C U):=
 match x,y with
 | .int k a,.int k' b=> if k=k' then some (.int k (if mx then (if a < b then b else a) else (if b < a then b else a))) else none
 | _,_=> none
def Zlf(cfg:Cfg U)(t:TypeId)(x:C U)(lo hi mx:Option (V U)):Option (List Prop × C U):=
 match cfg.slT t with
 | none=> none
 | some T=>
  match ZhJ cfg T x with
  | none=> none
  | some (l,tl)=>
   match lo,hi,mx with
   | none,none,none=> some ([],.slice T l tl)
   | some (.c (.int _ a)),none,none=> some ([0<=a/\a<=l.length],.slice T (l.drop a.toNat) tl)
   | none,some (.c (.int _ b)),none=> some ([0<=b/\b<=l.length],.slice T (l.take b.toNat) .unk)
   | some (.c (.int _ a)),some (.c (.int _ b)),none=> some ([0<=a/\a<=b/\b<=l.length],.slice T ((l.take b.toNat).drop a.toNat) .unk)
   | none,some (.c (.int _ b)),some (.c (.int _ m))=> some ([0<=b/\b<=l.length,m=b],.slice T (l.take b.toNat) .full)
   | some (.c (.int _ a)),some (.c (.int _ b)),some (.c (.int _ m))=> some ([0<=a/\a<=b/\b<=l.length,m=b],.slice T ((l.take b.toNat).drop a.toNat) .full)
   | _,_,_=> none
def Z9j(p:V U)(off n:Nat):Option (V U):=
 match p with
 | .ptr nm o=> some (.ptr nm (o+off))
 | .ep cs=> if off+n<=cs.length then some (.ep (cs.drop off)) else none
 | _=> none
def Zjc(x:Option (List Prop × C U)):Option (List Prop × Eff U):=x.map fun (ps,c)=> (ps,{ val:=some (.c c) })
def JB(cfg:Cfg U)(T:U.Ty):(i:Nat)->List (Nat × V U)->Option (List (U.El T))
 | _,[]=> some []
 | i,(k,v) ::r=>
  if k=i then
   match v.cells with
   | some cs=> match cfg.dec T cs with
    | some x=> (JB cfg T (i+1) r).map (x ::·)
    | none=> none
   | none=> none
  else none
def Zlh(cfg:Cfg U)(st:FSt U)(t:TypeId)(u:Tok)(n:Nat):Option (List Prop × Eff U):=
 match cfg.slT t,st.ls u with
 | some T,some x=> match cfg.tyEq T x.T,(cfg.var (cfg.elT x.T)).bind fun p=> cfg.dec x.T p.2 with
  | isTrue _,some z=> some ([x.f<=n],{ ls:=[(u,⟨x.T,x.l.take n++List.replicate (x.l.length - n) z,x.f⟩)] })
  | _,_=> none
 | _,_=> none
def cpL{α:Type}(l:List α)(n:Nat)(y:List α):List α:=l.take n++(y.take (l.length - n)++l.drop (n+y.length))
def ZsV(cfg:Cfg U)(st:FSt U)(t:TypeId)(u:Tok)(n:Nat)(y:C U):Option (List Prop × Eff U):=
 match cfg.slT t,st.ls u with
 | some T,some x=> match cfg.tyEq T x.T,ZhJ cfg x.T y with
  | isTrue _,some (l,_)=> some ([x.f<=n],{ val:=some (.c (.int .i64 (min (x.l.length - n) l.length:Nat))),ls:=[(u,⟨x.T,cpL x.l n l,x.f⟩)] })
  | _,_=> none
 | _,_=> none
def Zhu(cfg:Cfg U)(st:FSt U)(dst:Option Nat)(b:Builtin)(args:List Operand)(ts:List TypeId):Option (List Prop × Eff U):=
 match b,args,ts with
 | .len,[x],[t]=> match st.opnd x with
  | some v=> (lenOf cfg st t v).map fun c=> ([],{ val:=some (.c c) })
  | none=> none
 | .append,[x,y],[t,t']=> match dst,st.opnd x,st.opnd y with
  | some d,some (.c x),some (.c y)=> if t=t' then (bif st.mu || ZKs x then Z5i cfg st d t x y else Z8D cfg st d t x y) else Z5h cfg st d t t' x y
  | _,_,_=> none
 | .clear,[x],[t]=> match st.opnd x with
  | some (.vw u n)=> Zlh cfg st t u n
  | _=> none
 | .copy,[x,y],[t,t']=> match st.opnd x,st.opnd y with
  | some (.vw u n),some (.c y)=> if t=t' then ZsV cfg st t u n y else none
  | _,_=> none
 | .min,[x,y],_=> match st.opnd x,st.opnd y with
  | some (.c x),some (.c y)=> (Z8C false x y).map fun c=> ([],{ val:=some (.c c) })
  | _,_=> none
 | .max,[x,y],_=> match st.opnd x,st.opnd y with
  | some (.c x),some (.c y)=> (Z8C true x y).map fun c=> ([],{ val:=some (.c c) })
  | _,_=> none
 | _,_,_=> none
def Zli(cfg:Cfg U)(Γ:Known U)(st:FSt U)(dst:Option Nat)(c:Call):Option (List Prop × Eff U):=
 match c.callee with
 | .builtin b=> Zhu cfg st dst b c.args.toList c.argTypes.toList
 | .value g=> match st.opnd g,c.args.toList.mapM st.opnd with
  | some (.fn f),some vs=> bif Zyo Γ f then Zj4 Γ st f vs else match (bif ZEs Γ f then ZuE Γ st (dst.getD 0) f vs else none) with | some r=> some r | none=> Z6j Γ st (dst.getD 0) f vs
  | some (.clo f nms),some vs=> Z6j Γ st (dst.getD 0) f (vs++nms.map (.ptr · 0))
  | _,_=> none
 | _=> none
def Zlg(cfg:Cfg U)(st:FSt U)(dst:Option Nat)(T:U.Ty)(n m:Int)(z:U.El T):Option (List Prop × Eff U):=
 match dst with
 | some d=> if (st.ls (.r d 0)).isNone && !st.dead (.r d 0) then some ([0<=n/\n*cfg.bytes T<=140737488355328/\n<=9223372036854775807,m=n],{ val:=some (.c (.mref (.r d 0))),ls:=[(.r d 0,⟨T,List.replicate n.toNat z,0⟩)] }) else none
 | none=> none
def Z66(l:List (Nat × Operand)):Bool:=l.all fun x=> match x.2 with
 | .const (.int _ _)=> true
 | _=> false
def ZeW(st:FSt U)(dst:Option Nat)(T:U.Ty)(l:List (U.El T)):Option (List Prop × Eff U):=
 match dst with
 | some d=> if (st.ls (.r d 0)).isNone && !st.dead (.r d 0) then some ([],{ val:=some (.c (.mref (.r d 0))),ls:=[(.r d 0,⟨T,l,0⟩)] }) else none
 | none=> none
def aop(cfg:Cfg U)(Γ:Known U)(o:Oper)(st:FSt U):Option (List Prop × Eff U):=
 match o.op with
 | .move x | .assign x=> (st.opnd x).bind fun v=> match v with
  | .junk | .gd .. => none
  | v=> some ([],{ val:=some v })
 | .alloc t=> match o.dst,cfg.var t with
  | some d,some (_,zs)=> if (st.mem (.loc d)).isSome then none else some ([],{ val:=some (.ptr (.loc d) 0),mem:=[(.loc d,zs)] })
  | _,_=> none
 | .box t x=> match o.dst,cfg.var t,(st.opnd x).bind V.cells with
  | some d,some (_,zs),some cs=> if (st.mem (.loc d)).isSome || cs.length !=zs.length then none else some ([],{ val:=some (.ptr (.loc d) 0),mem:=[(.loc d,cs)] })
  | _,_,_=> none
 | .build t parts=> match cfg.var t,parts.toList.mapM fun (i,x)=> ((st.opnd x).bind V.cells).map (i,·) with
  | some (true,zs),some ps=> (Z17 cfg t zs ps).map fun cs=> ([],{ val:=some (.agg cs) })
  | _,_=> none
 | .buildSlice t n parts=> match cfg.slT t,parts.toList.mapM fun (i,x)=> (st.opnd x).map (i,·) with
  | some T,some ps=> if ps.length=n/\n*cfg.sz T<=16777216 then (JB cfg T 0 ps).bind fun l=> bif st.mu && Z66 parts.toList then ZeW st o.dst T l else some ([],{ val:=some (.c (.slice T l .full)) }) else none
  | _,_=> none
 | .load t p=> match cfg.var t,st.opnd p with
  | some (ag,zs),some (.mp u n off)=> match st.ls u with
   | some x=> if off+zs.length<=cfg.sz x.T then (mkV ag (((cfg.enc x.T (x.l.getD n (cfg.dflt x.T))).drop off).take zs.length)).map fun v=> ([],{ val:=some v }) else none
   | none=> none
  | some (ag,zs),some (.c (.po T o))=> (rd st (.ep (cfg.enc T (o.getD (cfg.dflt T)))) ag zs.length).map fun v=> ([o.isSome=true],{ val:=some v })
  | some (ag,zs),some p=> (rd st p ag zs.length).map fun v=> ([],{ val:=some v })
  | _,_=> none
 | .store t p x=> match cfg.var t,st.opnd p,(st.opnd x).bind V.cells with
  | some (_,zs),some (.ptr nm off),some new=> match st.mem nm with
   | some cs=> if new.length=zs.length then (YS cs off new).map fun cs'=> ([],{ mem:=[(nm,cs')] }) else none
   | none=> none
  | some (_,zs),some (.mp u n off),some new=> match st.ls u with
   | some x=> if new.length=zs.length then match (YS (cfg.enc x.T (x.l.getD n (cfg.dflt x.T))) off new).bind (cfg.dec x.T) with
    | some y=> some ([x.f<=n],{ ls:=[(u,⟨x.T,x.l.set n y,x.f⟩)] })
    | none=> none
    else none
   | none=> none
  | some (_,zs),some (.ap nm off k len n),some [.int k' x]=> match st.mem nm with
   | some cs=> if off+len<=cs.length/\k=k'/\zs.length=1 then match Z1K k ((cs.drop off).take len) with
    | some l=> some ([],{ mem:=[(nm,cs.take off++Z2F k n x 0 l++cs.drop (off+len))] })
    | none=> none
    else none
   | none=> none
  | _,_,_=> none
 | .nilCheck x=> match st.opnd x with
  | some (.ptr nm off)=> some ([],{ val:=some (.ptr nm off) })
  | some (.ep cs)=> some ([],{ val:=some (.ep cs) })
  | some (.mp u n off)=> if (st.ls u).isSome then some ([],{ val:=some (.mp u n off) }) else none
  | some (.c (.po T o))=> some ([o.isSome=true],{ val:=some (.c (.po T o)) })
  | _=> none
 | .binOp op t x y _=> match st.opnd x,st.opnd y with
  | some (.c (.bool a)),some (.c (.bool b))=> match cfg.var t with
   | some (false,[.bool _])=> (ZsW op a b).map fun c=> ([],{ val:=some (.c c) })
   | _=> none
  | some (.c (.slice _ l _)),some (.c .nils)=> match op,cfg.slT t with
   | .eql,some _=> some ([],{ val:=some (.nb (l=[]) True) })
   | .neq,some _=> some ([],{ val:=some (.nb True (l=[])) })
   | _,_=> none
  | some (.c (.po _ o)),some (.c .nilp)=> match op,cfg.var t with
   | .eql,some (false,[.nilp])=> some ([],{ val:=some (.c (.bool o.isNone)) })
   | .neq,some (false,[.nilp])=> some ([],{ val:=some (.c (.bool o.isSome)) })
   | _,_=> none
  | some (.ptr _ _),some (.c .nilp)=> match op,cfg.var t with
   | .eql,some (false,[.nilp])=> some ([],{ val:=some (.c (.bool false)) })
   | .neq,some (false,[.nilp])=> some ([],{ val:=some (.c (.bool true)) })
   | _,_=> none
  | some (.c .nilp),some (.c .nilp)=> match op,cfg.var t with
   | .eql,some (false,[.nilp])=> some ([],{ val:=some (.c (.bool true)) })
   | .neq,some (false,[.nilp])=> some ([],{ val:=some (.c (.bool false)) })
   | _,_=> none
  | some (.c a),some (.c b)=> Zjc (ZCs Γ.wr op a b)
  | some (.agg a),some (.agg b)=> match op,cfg.eqs t,ZhE a b,cfg.var t with
   | .eql,true,some r,some (_,zs)=> if Z8K zs a then some ([],{ val:=some (.c (.bool r)) }) else none
   | .neq,true,some r,some (_,zs)=> if Z8K zs a then some ([],{ val:=some (.c (.bool (!r))) }) else none
   | _,_,_,_=> none
  | _,_=> none
 | .unOp op _ x=> match st.opnd x with
  | some (.c a)=> Zjc (aUn Γ.wr op a)
  | _=> none
 | .convert src dst x=> match cfg.var src,cfg.var dst,st.opnd x with
  | some (false,[.int _ _]),some (false,[.int k _]),some (.c (.int _ n))=> some ([],{ val:=some (.c (.int k (k.wrap n))) })
  | _,_,_=> none
 | .makeSlice t n m=> match cfg.slT t,st.opnd n,st.opnd m with
  | some T,some (.c (.int .i64 n)),some (.c (.int .i64 m))=>
   match cfg.var (cfg.elT T) with
   | some (_,zs)=> match cfg.dec T zs with
    | some z=> bif st.mu then Zlg cfg st o.dst T n m z else some ([0<=n/\n*cfg.bytes T<=140737488355328/\n<=9223372036854775807,m=n],{ val:=some (.c (.slice T (List.replicate n.toNat z) .full)) })
    | none=> none
   | none=> none
  | _,_,_=> none
 | .slice t x lo hi mx=> match st.opnd x,Z1o st lo,Z1o st hi,Z1o st mx with
  | some (.ptr nm off),some none,some none,some none=> match cfg.arr t,cfg.slT o.type,st.mem nm with
   | some (len,et),some T,some cs=> if off=0/\cs.length=len/\cfg.sz T=1/\cfg.elT T=et then match cs.mapM fun c=> cfg.dec T [c] with
    | some l=> some ([],{ val:=some (.c (.slice T l .full)),mem:=[(nm,[])] })
    | none=> none
    else none
   | _,_,_=> none
  | some (.c (.mref u)),some (some (.c (.int _ a))),some none,some none=> match cfg.slT t,st.ls u with
   | some S,some x=> match cfg.tyEq S x.T with
    | isTrue _=> bif st.vw then some ([0<=a/\a<=x.l.length],{ val:=some (.vw u a.toNat) }) else none
    | isFalse _=> none
   | _,_=> none
  | some (.c x),some lo,some hi,some mx=> Zjc (Zlf cfg t x lo hi mx)
  | _,_,_,_=> none
 | .fieldAddr t x f=> match st.opnd x,cfg.fld t f with
  | some (.mp u n o'),some (off,ft)=> match cfg.var ft with
   | some _=> if (st.ls u).isSome then some ([],{ val:=some (.mp u n (o'+off)) }) else none
   | none=> none
  | some (.c (.po T o)),some (off,ft)=> match cfg.var ft with
   | some (_,zs)=> (Z9j (.ep (cfg.enc T (o.getD (cfg.dflt T)))) off zs.length).map fun v=> ([o.isSome=true],{ val:=some v })
   | none=> none
  | some p,some (off,ft)=> match cfg.var ft with
   | some (_,zs)=> (Z9j p off zs.length).map fun v=> ([],{ val:=some v })
   | none=> none
  | _,_=> none
 | .field t x f=> match st.opnd x,cfg.fld t f with
  | some (.agg cs),some (off,ft)=> match cfg.var ft with
   | some (ag,zs)=> if off+zs.length<=cs.length then (mkV ag ((cs.drop off).take zs.length)).map fun v=> ([],{ val:=some v }) else none
   | none=> none
  | _,_=> none
 | .indexAddr t x i=> match st.opnd x,st.opnd i with
  | some (.c (.slice T l _)),some (.c (.int _ n))=> match cfg.slT t with
   | some S=> match cfg.tyEq S T with
    | isTrue _=> some ([0<=n/\n < l.length],{ val:=some (.ep (cfg.enc T (l.getD n.toNat (cfg.dflt T)))) })
    | isFalse _=> none
   | none=> none
  | some (.c (.mref u)),some (.c (.int _ n))=> match cfg.slT t,st.ls u with
   | some S,some x=> match cfg.tyEq S x.T with
    | isTrue _=> some ([0<=n/\n < x.l.length],{ val:=some (.mp u n.toNat 0) })
    | isFalse _=> none
   | _,_=> none
  | some (.ptr nm off),some (.c (.int _ n))=> match cfg.arr t with
   | some (len,et)=> match cfg.var et with
    | some (false,[.int k _])=> some ([0<=n/\n < len],{ val:=some (.ap nm off k len n) })
    | some (_,zs)=> if 0<=n/\n < len then some ([],{ val:=some (.ptr nm (off+n.toNat*zs.length)) }) else none
    | none=> none
   | none=> none
  | _,_=> none
 | .index t x i=> match st.opnd x,st.opnd i with
  | some (.agg cs),some (.c (.int _ n))=> match cfg.arr t with
   | some (len,et)=> match cfg.var et with
    | some (false,[.int k _])=> if len=cs.length then match Z1K k cs with
     | some l=> some ([0<=n/\n < len],{ val:=some (.c (.int k (l.getD n.toNat 0))) })
     | none=> none
     else none
    | some (ag,zs)=> if 0<=n/\n < len/\n.toNat*zs.length+zs.length<=cs.length then (mkV ag ((cs.drop (n.toNat*zs.length)).take zs.length)).map fun v=> ([],{ val:=some v }) else none
    | none=> none
   | none=> none
  | _,_=> none
 | .extract x i=> match st.opnd x with
  | some (.tup vs)=> match vs[i]? with
   | some (ag,cs)=> (mkV ag cs).map fun v=> ([],{ val:=some v })
   | none=> none
  | _=> none
 | .makeFunc f first caps=> match f,first.toList,caps.toList.mapM fun x=> (st.opnd x).bind Ztp with
  | .func f,[],some nms=> some ([],{ val:=some (.clo f nms) })
  | _,_,_=> none
 | .call c=> Zli cfg Γ st o.dst c
 | _=> none
def V.deX:V U->V U
 | .c (.xp k)=> .ptr (.x k) 0
 | v=> v
def V.strip:V U->V U
 | .gd _ v=> v.deX
 | v=> v.deX
def FSt.strip(st:FSt U):FSt U:={ st with env:=fun k=> (st.env k).strip }
def Z0K(st:FSt U)(G:Option Bool):List Operand->List Prop
 | []=> []
 | .tmp t ::r=> match st.env t with
  | .gd g _=> (match G with | some G=> (G=true->g=true) | none=> g=true) ::Z0K st G r
  | _=> Z0K st G r
 | _ ::r=> Z0K st G r
def Z61(ops:Array Oper)(st:FSt U)(o:Oper):Option (Option Bool):=
 match o.guard with
 | none=> some none
 | some (j,want)=> match (ops[j]?).bind (·.dst) with
  | some t=> match st.env t with
   | .c (.bool g)=> some (some (if want then g else !g))
   | .gd g0 (.c (.bool g))=> some (some (g0 && (if want then g else !g)))
   | _=> none
  | none=> none
def gW:Option Bool->Prop->Prop
 | none,p=> p
 | some G,p=> G=true->p
def gV:Option Bool->V U->V U
 | none,v=> v
 | some G,v=> .gd G v
def ZdG(G:Option Bool)(c:Prop):V U->List Prop
 | .gd g _=> [gW G (c->g=true)]
 | _=> []
def ZEF(d:Option Nat)(n:Nat):Bool:=
 match d with
 | some d=> Nat.blt d n
 | none=> true
def Jx(l:List Name)(nm:Name):Bool:=
 match l with
 | []=> false
 | a ::r=> if a=nm then true else Jx r nm
def ZS:Option (V U)->List Name
 | some (.ptr nm _)=> [nm]
 | some (.ap nm _ _ _ _)=> [nm]
 | some (.clo _ nms)=> nms
 | _=> []
def V.toks:V U->List Tok
 | .c (.mref t)=> [t]
 | .mp t _ _=> [t]
 | .vw t _=> [t]
 | _=> []
def ZhM:List Name->List Name
 | []=> []
 | a ::l=> a ::l++[.x 0,.x 1,.x 2,.x 3,.x 4,.x 5,.x 6,.x 7]
def touch(o:Oper)(st:FSt U):List Name:=
 match o.op with
 | .load _ p=> ZS (st.strip.opnd p)
 | .store _ p _=> ZS (st.strip.opnd p)
 | .alloc _ | .box _ _=> match o.dst with
  | some d=> [.loc d]
  | none=> []
 | .slice _ x _ _ _=> ZS (st.strip.opnd x)
 | .call c=> .loc (o.dst.getD 0) ::ZhM (ZS (match c.callee with | .value g=> st.strip.opnd g | _=> none)++c.args.toList.flatMap fun x=> ZS (st.strip.opnd x))
 | _=> []
def Z0l(o:Oper):List Operand:=
 match o.op with
 | .load _ p=> [p]
 | .store _ p _=> [p]
 | .nilCheck x=> [x]
 | .fieldAddr _ x _=> [x]
 | .indexAddr _ x _=> [x]
 | .slice _ x _ _ _=> [x]
 | .call c=> match c.callee with
  | .builtin _=> c.args.toList
  | _=> []
 | _=> []
def touchT(o:Oper)(st:FSt U):List Tok:=
 (Z0l o).flatMap fun x=> (st.strip.opnd x).toList.flatMap V.toks
def ZmK(tyEq:DecidableEq U.Ty)(G:Bool):C U->C U->Option (C U)
 | .int k n,.int k' n'=> if k=k' then some (.int k (bif G then n' else n)) else none
 | .bool b,.bool b'=> some (.bool (bif G then b' else b))
 | .nils,.nils=> some .nils
 | .nilp,.nilp=> some .nilp
 | .xp k,.xp k'=> if k=k' then some (.xp k) else none
 | .po T o,.po T' o'=> match tyEq T' T with
  | isTrue h=> some (.po T (bif G then h▸o' else o))
  | isFalse _=> none
 | .slice T l .unk,.slice T' l' .unk=> match tyEq T' T with
  | isTrue h=> some (.slice T (bif G then h▸l' else l) .unk)
  | isFalse _=> none
 | _,_=> none
def ZdE(tyEq:DecidableEq U.Ty)(G:Bool):List (C U)->List (C U)->Option (List (C U))
 | [],[]=> some []
 | c ::r,c' ::r'=> match ZmK tyEq G c c',ZdE tyEq G r r' with
  | some x,some y=> some (x ::y)
  | _,_=> none
 | _,_=> none
def Z4Z(tyEq:DecidableEq U.Ty)(G:Bool)(m:Name->Option (List (C U))):List (Name × List (C U))->Option (List (Name × List (C U)))
 | []=> some []
 | (nm,cs') ::r=> match m nm with
  | none=> none
  | some cs=> match ZdE tyEq G cs cs',Z4Z tyEq G m r with
   | some x,some y=> some ((nm,x) ::y)
   | _,_=> none
def Z6i(cfg:Cfg U)(Γ:Known U)(ops:Array Oper)(o:Oper)(st:FSt U):Option (List Prop × Eff U):=
 if ZEF o.dst st.n then
 match o.op,o.guard with
 | .pick c a b,_=> match Z61 ops st o,st.opnd c,st.opnd a,st.opnd b with
  | some G,some c,some a,some b=> match c.strip,a.strip,b.strip with
   | .c (.bool cv),.c (.bool av),.c (.bool bv)=>
    some (ZdG G True c++(ZdG G (cv=true) a++ZdG G (cv=false) b),{ val:=some (gV G (.c (.bool (bif cv then av else bv)))) })
   | .c (.bool true),.c (.bool av),_=> some (ZdG G True c++ZdG G True a,{ val:=some (gV G (.c (.bool av))) })
   | .c (.bool false),_,.c (.bool bv)=> some (ZdG G True c++ZdG G True b,{ val:=some (gV G (.c (.bool bv))) })
   | _,_,_=> none
  | _,_,_,_=> none
 | _,_=> match Z61 ops st o with
  | none=> none
  | some G=> match aop cfg Γ o st.strip with
   | none=> match G with
    | some false=> some ([],{ val:=some (.gd false .junk) })
    | _=> none
   | some (ps,e)=> match G with
    | none=> some (Z0K st none o.op.operands.toList++ps,e)
    | some G=> match e with
     | { val:=some v,mem:=[],kill:=[],ls:=[] }=> some (Z0K st (some G) o.op.operands.toList++ps.map (fun p=> G=true->p),{ val:=some (.gd G v) })
     | { val:=some v,mem:=m,kill:=[],ls:=[] }=> match m.all (fun x=> Jx (touch o st) x.1),Z4Z cfg.tyEq G st.mem m with
      | true,some m'=> some (Z0K st (some G) o.op.operands.toList++ps.map (fun p=> G=true->p),{ val:=some (.gd G v),mem:=m' })
      | _,_=> none
     | e=> match G with
      | true=> some (Z0K st (some true) o.op.operands.toList++ps,e)
      | false=> some ([],{ val:=some (.gd false .junk) })
 else none
def Zqz(st:FSt U)(nm:Name):List Tok:=
 match st.mem nm with
 | some cs=> Zxa cs
 | none=> []
def Zph(st:FSt U):Option (V U)->List Tok
 | some (.ptr nm _)=> Zqz st nm
 | some (.clo _ nms)=> nms.flatMap (Zqz st)
 | some v=> v.muts
 | none=> []
def Z5c:Option (V U)->List Tok
 | some v=> v.muts
 | none=> []
def Z9T(Γ:Known U):Option (V U)->Bool
 | some (.fn f)=> match Γ f with
  | some s=> s.wr || s.bor
  | none=> false
 | _=> false
def ZeE(Γ:Known U)(o:Oper)(st:FSt U):List Tok:=
 match o.op with
 | .call c=> match c.callee with
  | .builtin .append=> match c.args.toList with
   | [_,y]=> Z5c (st.strip.opnd y)
   | _=> []
  | .value g=> match Z9T Γ (st.strip.opnd g) with
   | true=> []
   | false=> Zph st (st.strip.opnd g)++c.args.toList.flatMap fun x=> Zph st (st.strip.opnd x)
  | _=> []
 | .slice _ x lo hi _=> bif st.vw && lo.isSome && hi.isNone then [] else Z5c (st.strip.opnd x)
 | .buildSlice _ _ parts=> parts.toList.flatMap fun x=> Z5c (st.strip.opnd x.2)
 | .binOp _ _ x y _=> Z5c (st.strip.opnd x)++Z5c (st.strip.opnd y)
 | .store _ p x=> match st.strip.opnd p with
  | some (.mp ..)=> Z5c (st.strip.opnd x)
  | _=> []
 | _=> []
def Z70{α:Type}(cfg:Cfg U)(st:FSt U)(k:FSt U->α):List Tok->α
 | []=> k st
 | t ::r=> k (st.frz cfg (t ::r))
def FSt.pre(cfg:Cfg U)(Γ:Known U)(st:FSt U)(fz:Bool)(o:Oper):FSt U:=Z70 cfg st id (bif fz then ZeE Γ o st else [])
def Zhp(cfg:Cfg U)(Γ:Known U)(ops:Array Oper)(fz:Bool):List Oper->FSt U->Option (List Prop × FSt U)
 | [],st=> some ([],st)
 | o ::r,st=> Z70 cfg st (fun st=> match Z6i cfg Γ ops o st with
  | none=> none
  | some (ps,e)=> match Zhp cfg Γ ops fz r (st.app o.dst e) with
   | none=> none
   | some (qs,st')=> some (ps++qs,st'))
   (bif fz then ZeE Γ o st else [])
def All:List Prop->Prop
 | []=> True
 | p ::r=> p/\All r
end Go.AM
namespace Go.AM
variable {U:Uni}
inductive Tag where
 | obj (nm:Name) | tok (t:Tok) | outer (t:Tag)
structure Gh where
 m:Addr->Option Value
 tag:Addr->Option Tag
 ad:Name->Addr
 bs:Tok->Option (Value × Nat)
inductive SimC (cfg:Cfg U) (m:Addr->Option Value):Value->C U->Prop
 | int (k n):SimC cfg m (.int k n) (.int k n)
 | bool (b):SimC cfg m (.bool b) (.bool b)
 | nils:SimC cfg m (.slice none 0 0) .nils
 | nilp:SimC cfg m (.pointer none) .nilp
 | pnil (T):SimC cfg m (.pointer none) (.po T none)
 | po (T x a) (vs:Nat->Value) (hm:∀ j c,(cfg.enc T x)[j]?=some c->m (a.add j)=some (vs j))
   (hs:∀ j c,(cfg.enc T x)[j]?=some c->SimC cfg m (vs j) c):SimC cfg m (.pointer (some a)) (.po T (some x))
 | mref (v t) (h:v.oneCell'=true/\v.cells=#[v]):SimC cfg m v (.mref t)
 | xp (v k) (h:v.oneCell'=true/\v.cells=#[v]):SimC cfg m v (.xp k)
 | jk (v) (h:v.oneCell'=true/\v.cells=#[v]):SimC cfg m v .jk
 | snil (T tl):SimC cfg m (.slice none 0 0) (.slice T [] tl)
 | slice (T l tl a len cap) (vs:Nat->Nat->Value) (hl:l.length=len) (hc:len<=cap)
   (hm:∀ i x,l[i]?=some x->∀ j c,(cfg.enc T x)[j]?=some c->m (a.add (i*cfg.sz T+j))=some (vs i j))
   (hs:∀ i x,l[i]?=some x->∀ j c,(cfg.enc T x)[j]?=some c->SimC cfg m (vs i j) c):
   SimC cfg m (.slice (some a) len cap) (.slice T l tl)
def TailOk(cfg:Cfg U)(g:Gh)(dead:Tok->Bool)(v:Value):C U->Prop
 | .slice _ _ .full=> ∀ a len cap,v= .slice a len cap->len=cap
 | .slice T _ (.own t)=> dead t=false->∀ a len cap,v= .slice (some a) len cap->∀ j,len*cfg.sz T<=j->j < cap*cfg.sz T->g.tag (a.add j)=some (.tok t)
 | .mref t=> dead t=false->∃ s,g.bs t=some (v,s)
 | .xp k=> v= .pointer (some (g.ad (.x k)))
 | _=> True
def RelC(cfg:Cfg U)(g:Gh)(dead:Tok->Bool)(v:Value)(c:C U):Prop:=SimC cfg g.m v c/\TailOk cfg g dead v c
def RelL(cfg:Cfg U)(g:Gh)(dead:Tok->Bool)(vs:List Value)(cs:List (C U)):Prop:=
 vs.length=cs.length/\∀ (j:Nat) v c,vs[j]?=some v->cs[j]?=some c->RelC cfg g dead v c
def RelW(cfg:Cfg U)(g:Gh)(dead:Tok->Bool)(v:Value)(ag:Bool)(cs:List (C U)):Prop:=
 match ag with
 | true=> ∃ vs:Array Value,v= .agg vs/\RelL cfg g dead vs.toList cs
 | false=> ∃ c,cs=[c]/\RelC cfg g dead v c
def RelV(cfg:Cfg U)(g:Gh)(dead:Tok->Bool)(live:Name->Bool)(v:Value):V U->Prop
 | .c x=> RelC cfg g dead v x
 | .agg cs=> ∃ vs:Array Value,v= .agg vs/\RelL cfg g dead vs.toList cs
 | .tup ws=> ∃ vs:Array Value,v= .tuple vs/\vs.size=ws.length/\∀ (j:Nat) u w,vs[j]?=some u->ws[j]?=some w->RelW cfg g dead u w.1 w.2
 | .ptr nm off=> (live nm || nm.isX)=true/\v= .pointer (some ((g.ad nm).add off))
 | .ap nm off _ len n=> (live nm || nm.isX)=true/\(0<=n/\n < (len:Int))/\v= .pointer (some ((g.ad nm).add (off+n.toNat)))
 | .ep cs=> ∃ a,v= .pointer (some a)/\∀ j c,cs[j]?=some c->∃ u,g.m (a.add j)=some u/\RelC cfg g dead u c
 | .mp t n off=> dead t=false->∃ b len cap s,g.bs t=some (.slice (some b) len cap,s)/\n < len/\v= .pointer (some (b.add (n*s+off)))
 | .vw t n=> dead t=false->∃ b len cap s,g.bs t=some (.slice b len cap,s)/\n<=len/\v= .slice (if cap=n then b else b.map (·.add (n*s))) (len - n) (cap - n)
 | .fn f=> v= .func (.func f) #[] #[]
 | .clo f nms=> (∀ nm∈nms,(live nm || nm.isX)=true)/\v= .func (.func f) #[] (nms.map fun nm=> Value.pointer (some (g.ad nm))).toArray
 | .gd b x=> (b=true->RelV cfg g dead live v x)/\(b=false->v=undef)
 | .nb p q=> ∃ b,v= .bool b/\(b=true->p)/\(b=false->q)
 | .junk=> True
def LRel(cfg:Cfg U)(w:World)(g:Gh)(t:Tok)(x:LC U):Prop:=
 (g.bs t=some (.slice none 0 0,cfg.sz x.T)/\x.l=[]/\x.f=0)\/
 ∃ b len cap,g.bs t=some (.slice (some b) len cap,cfg.sz x.T)/\x.l.length=len/\len<=cap/\x.f<=len/\
  (∀ i y,x.l[i]?=some y->∀ j c,(cfg.enc x.T y)[j]?=some c->∃ u,w.cell? (b.add (i*cfg.sz x.T+j))=some u/\SimC cfg g.m u c/\
   (i < x.f->g.m (b.add (i*cfg.sz x.T+j))=some u)/\(x.f<=i->g.tag (b.add (i*cfg.sz x.T+j))=some (.tok t)))/\
  ∀ j,len*cfg.sz x.T<=j->j < cap*cfg.sz x.T->g.tag (b.add j)=some (.tok t)
structure Stay (w w':World):Prop where
 os:w'.os=w.os
 tape:w'.tape=w.tape
 output:w'.output=w.output
 size:w.heap.size<=w'.heap.size
structure Inv (m:Addr->Option Value) (tag:Addr->Option Tag) (w:World):Prop where
 im:∀ a v,m a=some v->w.cell? a=some v/\tag a=none
 it:∀ a t,tag a=some t->w.frozen? a=false/\∃ v,w.cell? a=some v
structure Base where
 w:World
 m:Addr->Option Value
 tag:Addr->Option Tag
 xad:Nat->Addr
structure Fr (B:Base) (g:Gh) (w:World):Prop where
 stay:Stay B.w w
 xad:∀ k,g.ad (.x k)=B.xad k
 mono:∀ a v,B.m a=some v->g.m a=some v
 outer:∀ a t,B.tag a=some (.outer t)->g.tag a=some (.outer t)/\w.cell? a=B.w.cell? a
 outer':∀ a t,g.tag a=some (.outer t)->B.tag a=some (.outer t)
 clean:∀ b,b < B.w.heap.size->(∀ o s t,B.tag ⟨b,o,s⟩=some t->∃ t',t= .outer t')->w.heap[b]?=B.w.heap[b]?/\∀ o s,g.tag ⟨b,o,s⟩=B.tag ⟨b,o,s⟩
 frz:∀ a,a.block < B.w.heap.size->w.frozen? a=B.w.frozen? a
structure Rel (cfg:Cfg U) (B:Base) (st:FSt U) (g:Gh) (a:Act) (w:World):Prop where
 inv:Inv g.m g.tag w
 fr:Fr B g w
 env:∀ k,RelV cfg g st.dead (fun nm=> (st.mem nm).isSome) (a.tmps.getD k undef) (st.env k)
 mem:∀ nm cs,st.mem nm=some cs->∀ j c,cs[j]?=some c->∃ v,w.cell? ((g.ad nm).add j)=some v/\g.tag ((g.ad nm).add j)=some (.obj nm)/\RelC cfg g st.dead v c
 sz:a.tmps.size=st.n
 df:a.defers=[]
 ls:∀ t x,st.ls t=some x->st.dead t=false/\LRel cfg w g t x
 fresh:∀ t,t.isR=true->st.ls t=none->st.dead t=false->g.bs t=none
inductive Wk:C U->C U->Prop
 | int (k n):Wk (.int k n) (.int k n)
 | bool (b):Wk (.bool b) (.bool b)
 | nilp:Wk .nilp .nilp
 | pnil (T):Wk .nilp (.po T none)
 | po (T o):Wk (.po T o) (.po T o)
 | nils:Wk .nils .nils
 | snil (T):Wk .nils (.slice T [] .unk)
 | slice (T l tl):Wk (.slice T l tl) (.slice T l .unk)
def ZCt(ag:Bool)(z:Value)(zs:List (C U)):Prop:=
 (ag=true->∃ vs,z= .agg vs)/\(ag=false->z.cells=#[z])/\z.cells.toList.map Z0H=zs.map some
def TypeDesc.ag:TypeDesc->Bool
 | .struct _ | .array _ _=> true
 | _=> false
structure CfgOk (P:Program) (cfg:Cfg U):Prop where
 enc_len:∀ T x,(cfg.enc T x).length=cfg.sz T
 enc_plain:∀ T x c,c∈cfg.enc T x->c.plain=true
 dec_ok:∀ T cs x,cfg.dec T cs=some x->cs.length=(cfg.enc T x).length/\∀ (j:Nat) c c',cs[j]?=some c->(cfg.enc T x)[j]?=some c'->Wk c c'
 sz_pos:∀ T,0 < cfg.sz T
 bytes_pos:∀ T,0 < cfg.bytes T
 el:∀ T,∃ i ag zs z,P.info? (cfg.elT T)=some i/\i.size=cfg.sz T/\i.bytes=cfg.bytes T/\i.zero=some z/\cfg.var (cfg.elT T)=some (ag,zs)/\zs.length=cfg.sz T
 sl:∀ t T,cfg.slT t=some T->P.underlying t=some (.slice (cfg.elT T))
 var:∀ t ag zs,cfg.var t=some (ag,zs)->0 < zs.length/\∃ i z d,P.info? t=some i/\P.underlying t=some d/\i.size=zs.length/\TypeDesc.ag d=ag/\i.zero=some z/\ZCt ag z zs/\(ag=false->∀ k n,zs=[.int k n]->d= .int k)/\(ag=false->∀ b,zs=[.bool b]->d= .bool)/\(∀ fs,d= .struct fs->(fs.toList.all fun fd=> (P.info? fd.type).isSome)=true)/\(∀ n e,d= .array n e->(P.info? e).isSome=true)
 fld:∀ s f off t,cfg.fld s f=some (off,t)->∃ fs fd,P.underlying s=some (.struct fs)/\fs[f]?=some fd/\fd.offset=off/\fd.type=t
 arr:∀ t n e,cfg.arr t=some (n,e)->P.underlying t=some (.array n e)
 mixed:P.follows .mixedOrders=true
 eqs : ∀ t, cfg.eqs t = true → ∃ fs, P.underlying t = some (.struct fs) ∧ (∀ ag zs, cfg.var t = some (ag, zs) → zs.length = fs.size) ∧ P.stoodInHeld t = false ∧ P.eqGuardType P.depth t = false ∧ ∀ (i : Nat) f, fs[i]? = some f → f.name ≠ "_" ∧ f.offset = i ∧ ∀ ag zs, cfg.var t = some (ag, zs) → (∀ k n, zs[i]? = some (.int k n) → ∃ k, P.underlying f.type = some (.int k)) ∧ ∀ b, zs[i]? = some (.bool b) → P.underlying f.type = some .bool
 ptr:∀ t,cfg.var t=some (false,[.nilp])->∃ e,P.underlying t=some (.pointer e)
theorem SimC.mono{cfg:Cfg U}{m m':Addr->Option Value}(hm:∀ a v,m a=some v->m' a=some v){v:Value}{c:C U}(h:SimC cfg m v c):SimC cfg m' v c:=by
 induction h with
 | int k n=> exact .int k n
 | bool b=> exact .bool b
 | nils=> exact .nils
 | nilp=> exact .nilp
 | pnil T=> exact .pnil T
 | po T x a vs h1 h2 ih=> exact .po T x a vs (fun j c hc=> hm _ _ (h1 j c hc)) ih
 | mref v t h=> exact .mref v t h
 | xp v k h=> exact .xp v k h
 | jk v h=> exact .jk v h
 | snil T tl=> exact .snil T tl
 | slice T l tl a len cap vs hl hc hm' hs ih=>
  exact .slice T l tl a len cap vs hl hc (fun i x u j c s=> hm _ _ (hm' i x u j c s)) (fun i x u j c s=> ih i x u j c s)
theorem SimC.wk{cfg:Cfg U}{m:Addr->Option Value}{v:Value}{c c':C U}(h:SimC cfg m v c)(hw:Wk c c'):SimC cfg m v c':=by
 cases hw with
 | int=> exact h
 | bool=> exact h
 | nilp=> exact h
 | pnil T=> cases h;exact .pnil T
 | po T o=> exact h
 | nils=> exact h
 | snil T=> cases h;exact .snil T .unk
 | slice T l tl=>
  cases h with
  | snil=> exact .snil T .unk
  | slice _ _ _ a len cap vs hl hc hm hs=> exact .slice T l .unk a len cap vs hl hc hm hs
structure Keeps (g g':Gh) (dead Zq:Tok->Bool) (live Yg:Name->Bool):Prop where
 m:∀ a v,g.m a=some v->g'.m a=some v
 tok:∀ a t,Zq t=false->g.tag a=some (.tok t)->g'.tag a=some (.tok t)
 dead:∀ t,Zq t=false->dead t=false
 ad:∀ nm,live nm=true->Yg nm=true/\g'.ad nm=g.ad nm
 bs:∀ t v,Zq t=false->g.bs t=some v->g'.bs t=some v
 adx:∀ k,g'.ad (.x k)=g.ad (.x k)
theorem Keeps.refl(g:Gh)(dead:Tok->Bool)(live:Name->Bool):Keeps g g dead dead live live:=
 ⟨fun _ _ h=> h,fun _ _ _ h=> h,fun _ h=> h,fun _ h=> ⟨h,rfl⟩,fun _ _ _ h=> h,fun _=> rfl⟩
section keep
variable {cfg:Cfg U} {g g':Gh} {dead Zq:Tok->Bool} {live Yg:Name->Bool}
theorem TailOk.keep(k:Keeps g g' dead Zq live Yg){v:Value}{c:C U}(h:TailOk cfg g dead v c):TailOk cfg g' Zq v c:=by
 unfold TailOk at*
 split at h
 .exact h
 .intro u a len aa hv j h1 h2
  exact k.tok _ _ u (h (k.dead _ u) a len aa hv j h1 h2)
 .intro u
  obtain ⟨s,hs⟩:=h (k.dead _ u)
  exact ⟨s,k.bs _ _ u hs⟩
 .rw [k.adx];exact h
 .trivial
theorem RelC.keep(k:Keeps g g' dead Zq live Yg){v:Value}{c:C U}(h:RelC cfg g dead v c):RelC cfg g' Zq v c:=
 ⟨h.1.mono k.m,h.2.keep k⟩
theorem RelL.keep(k:Keeps g g' dead Zq live Yg){v:List Value}{c:List (C U)}(h:RelL cfg g dead v c):RelL cfg g' Zq v c:=
 ⟨h.1,fun j v c s hc=> (h.2 j v c s hc).keep k⟩
theorem RelW.keep(k:Keeps g g' dead Zq live Yg){v:Value}{ag:Bool}{c:List (C U)}(h:RelW cfg g dead v ag c):RelW cfg g' Zq v ag c:=by
 cases ag with
 | true=> obtain ⟨vs,u,s⟩:=h;exact ⟨vs,u,s.keep k⟩
 | false=> obtain ⟨c',u,s⟩:=h;exact ⟨c',u,s.keep k⟩
theorem RelV.keep(k:Keeps g g' dead Zq live Yg){v:Value}:∀ {x:V U},RelV cfg g dead live v x->RelV cfg g' Zq Yg v x
 | .c x,h=> RelC.keep k (c:=x) h
 | .agg _,h=> by obtain ⟨vs,h1,h2⟩:=h;exact ⟨vs,h1,h2.keep k⟩
 | .tup ws,h=> by
  obtain ⟨vs,h1,h2,h3⟩:=h
  exact ⟨vs,h1,h2,fun j u w hu hw=> (h3 j u w hu hw).keep k⟩
 | .ptr nm off,h=> by
  obtain ⟨h1,h2⟩:=h
  cases hl:live nm with
  | true=> exact ⟨by rw [(k.ad nm hl).1];rfl,by rw [h2,(k.ad nm hl).2]⟩
  | false=>
   rw [hl] at h1
   cases nm with
   | loc s=> cases h1
   | x j=> exact ⟨by grind,by rw [h2,k.adx]⟩
 | .ap nm off _ len n,h=> by
  obtain ⟨h1,h2,h3⟩:=h
  cases hl:live nm with
  | true=> exact ⟨by rw [(k.ad nm hl).1];rfl,h2,by rw [h3,(k.ad nm hl).2]⟩
  | false=>
   rw [hl] at h1
   cases nm with
   | loc s=> cases h1
   | x j=> exact ⟨by grind,h2,by rw [h3,k.adx]⟩
 | .ep cs,h=> by
  obtain ⟨a,h1,h2⟩:=h
  exact ⟨a,h1,fun j c hc=> let ⟨u,hu,hr⟩:=h2 j c hc;⟨u,k.m _ _ hu,hr.keep k⟩⟩
 | .mp t n off,h=> fun hd=> by
  obtain ⟨b,len,af,s,h1,h2,h3⟩:=h (k.dead _ hd)
  exact ⟨b,len,af,s,k.bs _ _ hd h1,h2,h3⟩
 | .vw t n,h=> fun hd=> by
  obtain ⟨b,len,af,s,h1,h2,h3⟩:=h (k.dead _ hd)
  exact ⟨b,len,af,s,k.bs _ _ hd h1,h2,h3⟩
 | .fn f,h=> h
 | .clo f nms,h=> by
  obtain ⟨h1,h2⟩:=h
  have h3:∀ nm∈nms,(Yg nm || nm.isX)=true/\g'.ad nm=g.ad nm:=by
   intro nm hn
   have h1:=h1 nm hn
   cases hl:live nm with
   | true=> exact ⟨by rw [(k.ad nm hl).1];rfl,(k.ad nm hl).2⟩
   | false=>
    rw [hl] at h1
    cases nm with
    | loc s=> cases h1
    | x j=> exact ⟨by grind,k.adx j⟩
  refine ⟨fun nm hn=> (h3 nm hn).1,?_⟩
  simp_all
 | .gd b x,h=> ⟨fun hb=> RelV.keep k (h.1 hb),h.2⟩
 | .nb _ _,h=> h
 | .junk,_=> trivial
theorem LRel.keep (k:Keeps g g' dead Zq live Yg) {w w':World} {t:Tok} {x:LC U} (hd:Zq t=false) (hm:∀ a v,g.m a=some v->w'.cell? a=some v)
  (ht:∀ a,g.tag a=some (.tok t)->w'.cell? a=w.cell? a) (h:LRel cfg w g t x):LRel cfg w' g' t x:=by
 rcases h with ⟨h1,h2⟩ | ⟨b,len,cap,h1,h2,h3,h4,h5,h6⟩
 .exact .inl ⟨k.bs _ _ hd h1,h2⟩
 .refine .inr ⟨b,len,cap,k.bs _ _ hd h1,h2,h3,h4,fun i y hy j c hc=> ?_,fun j a1 a2=> k.tok _ _ hd (h6 j a1 a2)⟩
  obtain ⟨u,h7,h8,h9,s⟩:=h5 i y hy j c hc
  refine ⟨u,?_,h8.mono k.m,fun hi=> k.m _ _ (h9 hi),fun hi=> k.tok _ _ hd (s hi)⟩
  grind
end keep
structure Evo (w w':World) (S:Addr->Prop):Prop where
 stay:Stay w w'
 cell:∀ a,a.block < w.heap.size->¬S a->w'.cell? a=w.cell? a
 frozen:∀ a,a.block < w.heap.size->w'.frozen? a=w.frozen? a
 some:∀ a v,w.cell? a=some v->∃ v',w'.cell? a=some v'
 heap:∀ b,b < w.heap.size->(∀ o s,¬S ⟨b,o,s⟩)->w'.heap[b]?=w.heap[b]?
theorem Evo.refl(w:World)(S:Addr->Prop):Evo w w S:=
 ⟨⟨rfl,rfl,rfl,Qb _⟩,fun _ _ _=> rfl,fun _ _=> rfl,fun _ v h=> ⟨v,h⟩,fun _ _ _=> rfl⟩
theorem Evo.trans{w w' w'':World}{S:Addr->Prop}(h:Evo w w' S)(k:Evo w' w'' S):Evo w w'' S:=by
 refine ⟨⟨k.stay.os.trans h.stay.os,k.stay.tape.trans h.stay.tape,k.stay.output.trans h.stay.output,QF h.stay.size k.stay.size⟩,?_,?_,?_,?_⟩
 .exact fun a u s=> (k.cell a (QZ u h.stay.size) s).trans (h.cell a u s)
 .exact fun a u=> (k.frozen a (QZ u h.stay.size)).trans (h.frozen a u)
 .intro a v hv
  obtain ⟨v',aa⟩:=h.some a v hv
  exact k.some a v' aa
 .exact fun b hb s=> (k.heap b (QZ hb h.stay.size) s).trans (h.heap b hb s)
theorem Evo.weaken{w w':World}{S T:Addr->Prop}(h:Evo w w' S)(hST:∀ a,S a->T a):Evo w w' T:=
 ⟨h.stay,fun a ha ht=> h.cell a ha (fun u=> ht (hST a u)),h.frozen,h.some,fun b hb ht=> h.heap b hb fun o s u=> ht o s (hST _ u)⟩
theorem Evo.alloc(w:World)(o:Obj)(S:Addr->Prop):Evo w (w.alloc o) S:=by
 refine ⟨⟨rfl,rfl,rfl,by simp⟩,?_,?_,?_,?_⟩
 .exact fun a h _=> World.cell?_alloc_lt w o a h
 .exact fun a h=> World.frozen?_alloc_old w o a (Nat.ne_of_lt h)
 .exact fun a v s=> ⟨v,(World.cell?_alloc_lt w o a (World.block_lt_of_cell? w a s)).trans s⟩
 .intro b u _
  show (w.heap.push o)[b]?=_
  grind
theorem Evo.setCell(w:World)(a:Addr)(v:Value)(S:Addr->Prop)(ha:S a):Evo w (w.setCell a v) S:=by
 refine ⟨⟨rfl,rfl,rfl,by simp⟩,?_,?_,?_,?_⟩
 .intro b _ h
  exact World.cell?_setCell_other w a b v (fun e=> h (e▸ha))
 .simp_all
 .intro b u s
  by_cases e:a=b
  .subst e;exact ⟨v,World.cell?_setCell_same w a v s⟩
  .exact ⟨u,(World.cell?_setCell_other w a b v e).trans s⟩
 .intro b _ h
  simp only [World.setCell,Array.getElem?_modify]
  rw [if_neg (fun e=> by subst e;exact h a.off a.spot (by cases a;exact ha))]
theorem Stay.trans{a b c:World}(h:Stay a b)(k:Stay b c):Stay a c:=
 ⟨k.os.trans h.os,k.tape.trans h.tape,k.output.trans h.output,QF h.size k.size⟩
theorem Inv.lt{m:Addr->Option Value}{tag:Addr->Option Tag}{w:World}(h:Inv m tag w){a:Addr}{t:Tag}(ht:tag a=some t):a.block < w.heap.size:=by
 obtain ⟨v,s⟩:=(h.it a t ht).2
 exact World.block_lt_of_cell? w a s
theorem Inv.lt'{m:Addr->Option Value}{tag:Addr->Option Tag}{w:World}(h:Inv m tag w){a:Addr}{v:Value}(ht:m a=some v):a.block < w.heap.size:=
 World.block_lt_of_cell? w a (h.im a v ht).1
theorem Fr.step {B:Base} {g g':Gh} {w w':World} {S:Addr->Prop} (h:Fr B g w) (hi:Inv g.m g.tag w) (he:Evo w w' S)
  (hS:∀ a,S a->∃ t,g.tag a=some t/\∀ t',t≠.outer t')
  (hm:∀ a v,g.m a=some v->g'.m a=some v)
  (ho:∀ a t,g.tag a=some (.outer t)↔g'.tag a=some (.outer t))
  (hn:∀ b,b < w.heap.size->(∀ o s t,g.tag ⟨b,o,s⟩=some t->∃ t',t= .outer t')->∀ o s,g'.tag ⟨b,o,s⟩=g.tag ⟨b,o,s⟩) (hx:∀ k,g'.ad (.x k)=g.ad (.x k)):Fr B g' w':=by
 refine ⟨h.stay.trans he.stay,fun k=> (hx k).trans (h.xad k),fun a v hv=> hm a v (h.mono a v hv),?_,?_,?_,fun a ha=> (he.frozen a (QZ ha h.stay.size)).trans (h.frz a ha)⟩
 .intro a t ht
  obtain ⟨u,h2⟩:=h.outer a t ht
  refine ⟨(ho a t).1 u,?_⟩
  rw [he.cell a (hi.lt u) (fun hs=> ?_),h2]
  grind
 .exact fun a t ht=> h.outer' a t ((ho a t).2 ht)
 .intro b hb hc
  obtain ⟨u,h2⟩:=h.clean b hb hc
  have ab:b < w.heap.size:=QZ hb h.stay.size
  have ae:∀ o s t,g.tag ⟨b,o,s⟩=some t->∃ t',t= .outer t':=fun o s t ht=> hc o s t (by grind)
  refine ⟨?_,?_⟩
  .rw [he.heap b ab (fun o s hs=> ?_),u]
   grind
  grind
end Go.AM
namespace Go.AM
variable {U:Uni}
def Does(P:Program)(o:Oper)(a:Act)(w:World)(K:Value->World->Prop):Prop:=
 (∃ v w',(execOp a.eval o).run P w= .ok (.value v) w'/\K v w')\/
 (∃ w',(execOp a.eval o).run P w= .ok .skip w'/\K undef w')\/
 (∃ f args w',(execOp a.eval o).run P w= .ok (.enter f args) w'/\Calls P f args w' fun e w''=> ∃ v,e= .returned v/\K v w'')
theorem Does.wp{P:Program}{o:Oper}{a:Act}{w:World}{K:Value->World->Prop}{Q:Exit->Act->World->Prop}(h:Does P o a w K):
  o.wp P a w (fun a' s=> ∃ v,a'=a.put o.dst v/\K v s) Q:=by
 unfold Oper.wp
 rcases h with ⟨v,s,h,k⟩ | ⟨s,h,k⟩ | ⟨f,args,s,h,k⟩
 .rw [h];exact ⟨v,rfl,k⟩
 .rw [h];exact ⟨undef,rfl,k⟩
 .rw [h,Oper.upon_enter]
  refine Calls.mono k fun e u he=> ?_
  grind
def Zq(st:FSt U)(e:Eff U):Tok->Bool:=fun t=> st.dead t || e.kill.contains t
def Yg(st:FSt U)(e:Eff U):Name->Bool:=fun nm=> (ZW st.mem e.mem nm).isSome
structure Out (cfg:Cfg U) (B:Base) (st:FSt U) (g:Gh) (e:Eff U) (v:Value) (w':World) (g':Gh):Prop where
 inv:Inv g'.m g'.tag w'
 fr:Fr B g' w'
 keep:Keeps g g' st.dead (Zq st e) (fun nm=> (st.mem nm).isSome) (Yg st e)
 mem:∀ nm cs,ZW st.mem e.mem nm=some cs->∀ j c,cs[j]?=some c->∃ v,w'.cell? ((g'.ad nm).add j)=some v/\g'.tag ((g'.ad nm).add j)=some (.obj nm)/\RelC cfg g' (Zq st e) v c
 val:RelV cfg g' (Zq st e) (Yg st e) v (e.val.getD .junk)
 ls:∀ t x,Z0o st.ls e t=some x->Zq st e t=false/\LRel cfg w' g' t x
 fresh:∀ t,t.isR=true->Z0o st.ls e t=none->Zq st e t=false->g'.bs t=none
theorem Zyk{st:FSt U}{e:Eff U}(he:e.ls=[]){t:Tok}{x:LC U}(h:Z0o st.ls e t=some x):st.ls t=some x/\e.kill.contains t=false:=by
 unfold Z0o at h
 rw [he] at h
 cases hk:e.kill.contains t with
 | true=> grind
 | false=> rw [hk] at h;trivial
theorem Rel.ls_keep {cfg:Cfg U} {B:Base} {st:FSt U} {g g':Gh} {a:Act} {w w':World} {live Yg:Name->Bool} (h:Rel cfg B st g a w) {e:Eff U} (he:e.ls=[]) (k:Keeps g g' st.dead (Zq st e) live Yg)
  (hm:∀ a v,g.m a=some v->w'.cell? a=some v) (ht:∀ a t,Zq st e t=false->g.tag a=some (.tok t)->w'.cell? a=w.cell? a):
  ∀ t x,Z0o st.ls e t=some x->Zq st e t=false/\LRel cfg w' g' t x:=by
 intro t x hx
 obtain ⟨h1,h2⟩:=Zyk he hx
 obtain ⟨h3,h4⟩:=h.ls t x h1
 have s:Zq st e t=false:=by simp only [Zq,h3,h2,Xt]
 exact ⟨s,h4.keep k s hm (fun a u=> ht a t s u)⟩
theorem Rel.fresh_keep{cfg:Cfg U}{B:Base}{st:FSt U}{g g':Gh}{a:Act}{w:World}(h:Rel cfg B st g a w){e:Eff U}(he:e.ls=[])(hb:∀ t,g'.bs t=g.bs t):
  ∀ t,t.isR=true->Z0o st.ls e t=none->Zq st e t=false->g'.bs t=none:=by
 intro t h0 u s
 rw [hb]
 simp only [Zq,QB] at s
 unfold Z0o at u
 rw [he,s.2] at u
 exact h.fresh t h0 u s.1
theorem Act.getD_put{a:Act}{d:Nat}{v:Value}(hd:d < a.tmps.size)(k:Nat):(a.put (some d) v).tmps.getD k undef=if k=d then v else a.tmps.getD k undef:=by
 simp only [Act.put,Array.getD_eq_getD_getElem?,Array.getElem?_setIfInBounds]
 grind
theorem Rel.app {cfg:Cfg U} {B:Base} {st:FSt U} {g g':Gh} {a:Act} {w w':World} {e:Eff U} {v:Value} {d:Option Nat}
  (h:Rel cfg B st g a w) (o:Out cfg B st g e v w' g') (hd:∀ k,d=some k->k < st.n):Rel cfg B (st.app d e) g' (a.put d v) w':=by
 refine ⟨o.inv,o.fr,?_,?_,?_,?_,?_,?_⟩
 .intro k
  have old:∀ k,RelV cfg g' (Zq st e) (Yg st e) (a.tmps.getD k undef) (st.env k):=fun k=> (h.env k).keep o.keep
  cases d with
  | none=> exact old k
  | some d=>
   have s:=hd d rfl
   rw [Act.getD_put (by rw [h.sz];exact s)]
   show RelV cfg g' (Zq st e) (Yg st e) _ (bif Nat.beq k d then e.val.getD .junk else st.env k)
   by_cases hk:k=d
   .subst hk
    have:Nat.beq k k=true:=Nat.beq_refl k
    rw [if_pos rfl,this];exact o.val
   .have:Nat.beq k d=false:=by
     cases hb:Nat.beq k d with
     | false=> rfl
     | true=> simp_all
    grind
 .intro nm cs hm
  have u:ZW st.mem e.mem nm=some cs:=by cases d <;> exact hm
  exact o.mem nm cs u
 .cases d with
  | none=> exact h.sz
  | some d=> show (a.tmps.setIfInBounds d v).size=st.n;simp [h.sz]
 .cases d with
  | none=> exact h.df
  | some d=> exact h.df
 .intro t x hx
  have:Z0o st.ls e t=some x/\(st.app d e).dead t=Zq st e t:=by cases d <;> exact ⟨hx,rfl⟩
  rw [this.2]
  exact o.ls t x this.1
 .intro t h0 h1 h2
  have:Z0o st.ls e t=none/\Zq st e t=false:=by cases d <;> exact ⟨h1,h2⟩
  exact o.fresh t h0 this.1 this.2
theorem Rel.pure {cfg:Cfg U} {B:Base} {st:FSt U} {g:Gh} {a:Act} {w:World} (h:Rel cfg B st g a w) {v:Value} {x:V U}
  (hv:RelV cfg g st.dead (fun nm=> (st.mem nm).isSome) v x):Out cfg B st g { val:=some x } v w g:=by
 have s:Zq st ({ val:=some x }:Eff U)=st.dead:=by funext t;simp [Zq]
 have hl:Yg st ({ val:=some x }:Eff U)=fun nm=> (st.mem nm).isSome:=rfl
 refine ⟨h.inv,h.fr,?_,?_,?_,?_,?_⟩
 .rw [s,hl];exact .refl _ _ _
 .rw [s];exact h.mem
 .grind
 .rw [s];exact fun t x hx=> h.ls t x hx
 .rw [s];exact fun t h0 u h2=> h.fresh t h0 u h2
section cells
variable {cfg:Cfg U} {g:Gh} {dead:Tok->Bool} {live:Name->Bool}
theorem SimC.one{m:Addr->Option Value}{v:Value}{c:C U}(h:SimC cfg m v c):v.oneCell'=true/\v.cells=#[v]:=by
 cases h <;> first | trivial | assumption
theorem RelV.deX{v:Value}{x:V U}(h:RelV cfg g dead live v x):RelV cfg g dead live v x.deX:=by
 unfold V.deX
 split
 .rename_i k
  have s:v= .pointer (some (g.ad (.x k))):=h.2
  have u:(g.ad (.x k)).add 0=g.ad (.x k):=rfl
  exact ⟨by simp [Name.isX],by grind⟩
 .exact h
theorem RelV.cells{v:Value}{x:V U}{cs:List (C U)}(h:RelV cfg g dead live v x)(hx:x.cells=some cs):RelL cfg g dead v.cells.toList cs:=by
 cases x
 case ptr nm off=>
  unfold V.cells at hx
  split at hx
  .grind
  .grind
  .rename_i k s
   cases s
   cases hx
   obtain ⟨_,rfl⟩:=h
   have h0:(g.ad (.x k)).add 0=g.ad (.x k):=rfl
   rw [h0]
   refine ⟨rfl,fun j u c hu hc=> ?_⟩
   cases j with
   | zero=>
    simp [Value.cells] at hu hc
    subst hu hc
    exact ⟨.xp _ _ ⟨rfl,rfl⟩,rfl⟩
   | succ j=> simp at hc
  .cases hx
 all_goals simp only [V.cells,Option.some.injEq,reduceCtorEq] at hx
 case c x=>
  subst hx
  have h':RelC cfg g dead v x:=h
  rw [h'.1.one.2]
  refine ⟨rfl,fun j u c hu hc=> ?_⟩
  grind
 case agg cs'=>
  subst hx
  obtain ⟨vs,rfl,h'⟩:=h
  exact h'
theorem RelL.one{vs:List Value}{cs:List (C U)}(h:RelL cfg g dead vs cs):∀ v∈vs,v.oneCell'=true:=by
 intro v hv
 obtain ⟨j,u,rfl⟩:=Xp hv
 have s:j < cs.length:=h.1▸u
 exact (h.2 j _ _ (Q4 u) (Q4 s)).1.one.1
theorem RelL.sub{vs:List Value}{cs:List (C U)}(h:RelL cfg g dead vs cs)(a n:Nat):RelL cfg g dead ((vs.drop a).take n) ((cs.drop a).take n):=by
 refine ⟨by simp [h.1],fun j v c s hc=> ?_⟩
 rw [Xd,Qz] at s hc
 split at s
 .rename_i u
  rw [if_pos u] at hc
  exact h.2 _ v c s hc
 .cases s
theorem RelL.mkV{vs:List Value}{cs:List (C U)}(h:RelL cfg g dead vs cs){ag:Bool}{x:V U}(hx:mkV ag cs=some x):
  RelV cfg g dead live (if ag then .agg vs.toArray else vs.getD 0 undef) x:=by
 cases ag with
 | true=>
  simp only [AM.mkV,Option.some.injEq] at hx
  subst hx
  exact ⟨_,rfl,h⟩
 | false=>
  match cs,hx with
  | [c],hx=>
   simp only [AM.mkV,Option.some.injEq] at hx
   subst hx
   obtain ⟨hl,s⟩:=h
   match vs,hl with
   | [v],_=> exact s 0 v c rfl rfl
theorem Zgx{v:Value}{c:C U}{m:Addr->Option Value}(h:Z0H v=some c):SimC cfg m v c/\(∀ tag dead,TailOk cfg tag dead v c)/\v.oneCell'=true:=by
 unfold Z0H at h
 split at h <;> simp only [Option.some.injEq,reduceCtorEq] at h <;> subst h
 .exact ⟨.int _ _,fun _ _=> trivial,rfl⟩
 .exact ⟨.bool _,fun _ _=> trivial,rfl⟩
 .exact ⟨.nils,fun _ _=> trivial,rfl⟩
 .exact ⟨.nilp,fun _ _=> trivial,rfl⟩
theorem Zdf{vs:List Value}{cs:List (C U)}(h:vs.map Z0H=cs.map some):RelL cfg g dead vs cs:=by
 have hl:vs.length=cs.length:=by have:=congrArg List.length h;simpa using this
 refine ⟨hl,fun j v c hv hc=> ?_⟩
 have s:(vs.map (Z0H (U:=U)))[j]?=some (Z0H v):=by rw [Qv,hv];try rfl
 have h2:(cs.map some)[j]?=some (some c):=by rw [Qv,hc];try rfl
 rw [h,h2] at s
 have u:=Zgx (cfg:=cfg) (m:=g.m) (Option.some.inj s).symm
 exact ⟨u.1,u.2.1 _ _⟩
theorem Zds:∀ {vs:List Value} {cs:List (C U)},vs.mapM Z0H=some cs->vs.map Z0H=cs.map some
 | [],cs,h=> by grind
 | v ::r,cs,h=> by
  rw [X7] at h
  cases hv:Z0H (U:=U) v with
  | none=> simp [hv] at h
  | some c=>
   cases hr:r.mapM (Z0H (U:=U)) with
   | none=> grind
   | some cs'=>
    simp [hv,hr] at h
    subst h
    simp [hv,Zds hr]
theorem Z4d{v:Value}{x:V U}(h:Zkl v=some x):RelV cfg g dead live v x:=by
 unfold Zkl at h
 split at h
 .rename_i cs
  cases hm:cs.toList.mapM (Z0H (U:=U)) with
  | none=> simp [hm] at h
  | some l=>
   simp [hm] at h
   subst h
   exact ⟨cs,rfl,Zdf (Zds hm)⟩
 .cases hm:Z0H (U:=U) v with
  | none=> simp [hm] at h
  | some c=>
   simp [hm] at h
   subst h
   have s:=Zgx (cfg:=cfg) (m:=g.m) hm
   exact ⟨s.1,s.2.1 _ _⟩
end cells
def ZEM(cfg:Cfg U)(st:FSt U)(g:Gh)(a:Act)(o:Oper):Prop:=
 ∀ x∈o.op.operands.toList,∀ v,st.strip.opnd x=some v->RelV cfg g st.dead (fun nm=> (st.mem nm).isSome) (a.eval x) v
theorem ZaQ{cfg:Cfg U}{B:Base}{st:FSt U}{g:Gh}{a:Act}{w:World}(h:Rel cfg B st g a w)(G:Option Bool):
  ∀ {l:List Operand},All (Z0K st G l)->(∀ b,G=some b->b=true)->∀ x∈l,∀ v,st.strip.opnd x=some v->
   RelV cfg g st.dead (fun nm=> (st.mem nm).isSome) (a.eval x) v
 | y ::r,hn,hG,x,hx,v,hv=> by
  have tail:All (Z0K st G r):=by
   cases y with
   | tmp t=>
    simp only [Z0K] at hn
    split at hn
    .exact hn.2
    .exact hn
   | const _=> exact hn
   | global _=> exact hn
   | func _=> exact hn
  rcases Qa.1 hx with rfl | hx
  .cases x with
   | tmp t=>
    simp only [FSt.opnd,FSt.strip,Option.some.injEq] at hv
    subst hv
    have s:=h.env t
    simp only [Z0K] at hn
    show RelV cfg g st.dead _ (a.tmps.getD t undef) _
    cases hx:st.env t with
    | gd b y=>
     rw [hx] at hn s
     have u:b=true:=by
      cases G with
      | none=> exact hn.1
      | some b'=> exact hn.1 (hG b' rfl)
     exact RelV.deX (s.1 u)
    | _=> rw [hx] at s;exact RelV.deX s
   | const c=> exact Z4d hv
   | func f=>
    simp only [FSt.opnd,Option.some.injEq] at hv
    subst hv
    try rfl
   | global g=> trivial
  .exact ZaQ h G tail hG x hx v hv
end Go.AM
namespace Go.AM
variable {U:Uni} {P:Program} {cfg:Cfg U} {B:Base} {st:FSt U} {g:Gh} {a:Act} {w:World}
theorem JN {o:Oper} {v:Value} {x:V U} (h:Rel cfg B st g a w) (hrun:(execOp a.eval o).run P w= .ok (.value v) w)
  (hv:RelV cfg g st.dead (fun nm=> (st.mem nm).isSome) v x):Does P o a w fun v s=> ∃ g',Out cfg B st g { val:=some x } v s g':=
 .inl ⟨v,w,hrun,g,h.pure hv⟩
theorem Zat{s:Sem Value}{v:Value}{w w':World}(h:s.run P w= .ok v w'):(do pure (.value (<-s)):Sem Next).run P w= .ok (.value v) w':=by
 simp [h]
theorem ZiZ{m:Addr->Option Value}{wr:Bool}{k:IntKind}{n:Int}(h:All (ZdN (U:=U) wr k n).1):SimC cfg m (.int k (k.wrap n)) (ZdN wr k n).2/\∀ tag dead v,TailOk cfg tag dead v (ZdN (U:=U) wr k n).2:=by
 cases wr with
 | true=> exact ⟨.int _ _,fun _ _ _=> trivial⟩
 | false=>
  cases k
  case i64=>
   have s:InR n:=h.1
   have:IntKind.i64.wrap n=n:=by
    unfold InR at s
    simp [IntKind.wrap,IntKind.signed,IntKind.bits]
    omega
   rw [this]
   exact ⟨.int _ _,fun _ _ _=> trivial⟩
  all_goals exact ⟨.int _ _,fun _ _ _=> trivial⟩
theorem All.append{p q:List Prop}(h:All (p++q)):All p/\All q:=by
 induction p with
 | nil=> trivial
 | cons x p ih=> exact ⟨⟨h.1,(ih h.2).1⟩,(ih h.2).2⟩
theorem Zpa {wr:Bool} {op:BinOp} {x y c:C U} {ps:List Prop} {m:Addr->Option Value} {u v:Value} {t:TypeId} {p q:Operand}
  (hx:SimC cfg m u x) (hy:SimC cfg m v y) (he:ZCs wr op x y=some (ps,c)) (hps:All ps):
  ∃ r,(do eqGuard op t p q u v;binOp op t u v:Sem Value).run P w= .ok r w/\SimC cfg m r c/\∀ tag dead r,TailOk cfg tag dead r c:=by
 cases hx <;> cases hy <;> simp only [ZCs,reduceCtorEq] at he
 rename_i k a s b
 have fin:∀ (r:Value),(binOp op t (.int k a) (.int s b)).run P w= .ok r w->(do eqGuard op t p q (.int k a) (.int s b);binOp op t (.int k a) (.int s b):Sem Value).run P w= .ok r w:=by
  intro r h
  rw [eqGuard_at_int]
  simpa using h
 have ar:∀ (af:BinOp) (n:Int),op=af->(binOp op t (.int k a) (.int s b)).run P w= .ok (.int k (k.wrap n)) w->ZdN wr k n=(ps,c)->
   ∃ r,(do eqGuard op t p q (.int k a) (.int s b);binOp op t (.int k a) (.int s b):Sem Value).run P w= .ok r w/\SimC cfg m r c/\∀ tag dead r,TailOk cfg tag dead r c:=by
  intro af n _ h1 h2
  have h3:=ZiZ (cfg:=cfg) (U:=U) (m:=m) (wr:=wr) (k:=k) (n:=n) (by grind)
  rw [h2] at h3
  exact ⟨_,fin _ h1,h3⟩
 have fi:∀ (n:Int),(binOp op t (.int k a) (.int s b)).run P w= .ok (.int k n) w->c= .int k n->
   ∃ r,(do eqGuard op t p q (.int k a) (.int s b);binOp op t (.int k a) (.int s b):Sem Value).run P w= .ok r w/\SimC cfg m r c/\∀ tag dead r,TailOk cfg tag dead r c:=by
  rintro n h rfl
  exact ⟨_,fin _ h,.int _ _,fun _ _ _=> trivial⟩
 have fb:∀ (b':Bool),(binOp op t (.int k a) (.int s b)).run P w= .ok (.bool b') w->c= .bool b'->
   ∃ r,(do eqGuard op t p q (.int k a) (.int s b);binOp op t (.int k a) (.int s b):Sem Value).run P w= .ok r w/\SimC cfg m r c/\∀ tag dead r,TailOk cfg tag dead r c:=by
  rintro n h rfl
  exact ⟨_,fin _ h,.bool _,fun _ _ _=> trivial⟩
 cases op <;> simp only at he <;> (try (split at he)) <;> (try (cases he;done)) <;> (try subst_vars) <;> (try simp only [oP] at he)
 case int.int.add.isTrue=> exact ar .add (a+b) rfl (by simp [binOp_add,Op.intArith]) (by assumption)
 case int.int.sub.isTrue=> exact ar .sub (a - b) rfl (by simp [binOp_sub,Op.intArith]) (by assumption)
 case int.int.mul.isTrue=> exact ar .mul (a*b) rfl (by simp [binOp_mul,Op.intArith]) (by assumption)
 case int.int.quo.isTrue=> obtain ⟨rfl,rfl⟩:=he;have h0:b≠0:=hps.1;exact fi _ (by simp [binOp_quo,Op.intDiv,h0]) rfl
 case int.int.rem.isTrue=> obtain ⟨rfl,rfl⟩:=he;have h0:b≠0:=hps.1;exact fi _ (by simp [binOp_rem,Op.intDiv,h0]) rfl
 case int.int.and.isTrue=> obtain ⟨rfl,rfl⟩:=he;exact fi _ (by simp [binOp_and,Op.intBits]) rfl
 case int.int.or.isTrue=> obtain ⟨rfl,rfl⟩:=he;exact fi _ (by simp [binOp_or,Op.intBits]) rfl
 case int.int.xor.isTrue=> obtain ⟨rfl,rfl⟩:=he;exact fi _ (by simp [binOp_xor,Op.intBits]) rfl
 case int.int.andNot.isTrue=> obtain ⟨rfl,rfl⟩:=he;exact fi _ (by simp [binOp_andNot,Op.intBits]) rfl
 case int.int.eql.isTrue=> obtain ⟨rfl,rfl⟩:=he;exact fb _ (by simp [binOp_eql]) rfl
 case int.int.neq.isTrue=> obtain ⟨rfl,rfl⟩:=he;exact fb _ (by simp [binOp_neq]) rfl
 case int.int.lss.isTrue=> obtain ⟨rfl,rfl⟩:=he;exact fb _ (by simp [binOp_lss]) rfl
 case int.int.leq.isTrue=> obtain ⟨rfl,rfl⟩:=he;exact fb _ (by simp [binOp_leq]) rfl
 case int.int.gtr.isTrue=> obtain ⟨rfl,rfl⟩:=he;exact fb _ (by simp [binOp_gtr]) rfl
 case int.int.geq.isTrue=> obtain ⟨rfl,rfl⟩:=he;exact fb _ (by simp [binOp_geq]) rfl
 case int.int.shl=>
  obtain ⟨rfl,rfl⟩:=he
  have h0:¬b < 0:=Int.not_lt.2 hps.1
  exact fi (k.wrap (a*2 ^ (min b.toNat k.bits))) (by simp [binOp_shl,Op.shift,h0]) rfl
 case int.int.shr=>
  obtain ⟨rfl,rfl⟩:=he
  have h0:¬b < 0:=Int.not_lt.2 hps.1
  exact fi (a.fdiv (2 ^ (min b.toNat k.bits))) (by simp [binOp_shr,Op.shift,h0]) rfl
theorem Znd (ok:CfgOk P cfg) {op:BinOp} {x y:Bool} {c:C U} {m:Addr->Option Value} {t:TypeId} {p q:Operand} {b0:Bool}
  (ht:cfg.var t=some (false,[.bool b0])) (he:ZsW op x y=some c):
  ∃ r,(do eqGuard op t p q (.bool x) (.bool y);binOp op t (.bool x) (.bool y):Sem Value).run P w= .ok r w/\SimC cfg m r c/\∀ tag dead r,TailOk cfg tag dead r c:=by
 obtain ⟨_,i,z,d,h1,u,h3,h4,h5,h6,h7,h8,_⟩:=ok.var _ _ _ ht
 have s:=h8 rfl b0 rfl
 subst s
 have h:(Op.equal t (.bool x) (.bool y)).run P w= .ok (x==y) w:=by
  show (Op.equalIn 10000 t (.bool x) (.bool y)).run P w=_
  rw [Op.equalIn]
  simp [run_underlying u]
 cases op <;> simp only [ZsW,reduceCtorEq,Option.some.injEq] at he <;> subst he
 .refine ⟨.bool (x==y),?_,.bool _,fun _ _ _=> trivial⟩
  rw [eqGuard_at_bool];simp [binOp,h]
 .refine ⟨.bool (x !=y),?_,.bool _,fun _ _ _=> trivial⟩
  rw [eqGuard_at_bool];simp [binOp,h,bne]
theorem ZuC {wr:Bool} {op:UnOp} {x c:C U} {ps:List Prop} {m:Addr->Option Value} {u:Value}
  (hx:SimC cfg m u x) (he:aUn wr op x=some (ps,c)) (hps:All ps):
  ∃ r,(Op.unary op u).run P w= .ok r w/\SimC cfg m r c/\∀ tag dead r,TailOk cfg tag dead r c:=by
 cases hx <;> cases op <;> simp only [aUn,reduceCtorEq,oP] at he
 .rename_i k n
  have h:=ZiZ (cfg:=cfg) (U:=U) (m:=m) (wr:=wr) (k:=k) (n:= -n) (by grind)
  rw [he] at h
  exact ⟨_,by simp [Op.unary,Op.intArith],h⟩
 .obtain ⟨rfl,rfl⟩:=he
  exact ⟨_,by rfl,.int _ _,fun _ _ _=> trivial⟩
 .obtain ⟨rfl,rfl⟩:=he
  exact ⟨_,by rfl,.bool _,fun _ _ _=> trivial⟩
theorem Z5g{T:U.Ty}{x:C U}{l:List (U.El T)}{tl:Tail}{v:Value}(h:RelC cfg g st.dead v x)(he:ZhJ cfg T x=some (l,tl)):
  RelC cfg g st.dead v (.slice T l tl)/\∃ b len s,v= .slice b len s/\l.length=len/\len<=s/\(b=none->len=0/\s=0):=by
 unfold ZhJ at he
 split at he
 .simp only [oP] at he
  obtain ⟨rfl,rfl⟩:=he
  have u:=h.1
  cases u
  exact ⟨⟨.snil T .full,fun a len s hv=> by cases hv;rfl⟩,none,0,0,rfl,rfl,Qb _,fun _=> ⟨rfl,rfl⟩⟩
 .rename_i S l' ab
  split at he
  .rename_i aa _
   subst aa
   simp only [oP] at he
   obtain ⟨rfl,rfl⟩:=he
   refine ⟨h,?_⟩
   have u:=h.1
   cases u with
   | snil=> grind
   | slice _ _ _ a len s vs hl hc hm hs=> grind
  .cases he
 .cases he
theorem SimC.rows{m:Addr->Option Value}{T:U.Ty}{l:List (U.El T)}{tl:Tail}{b:Addr}{len cap:Nat}(h:SimC cfg m (.slice (some b) len cap) (.slice T l tl)):
  ∀ i x,l[i]?=some x->∀ j c,(cfg.enc T x)[j]?=some c->∃ v,m (b.add (i*cfg.sz T+j))=some v/\SimC cfg m v c:=by
 cases h with
 | slice _ _ _ _ _ _ vs hl hc hm hs=> grind
theorem SimC.of_rows {m:Addr->Option Value} {T:U.Ty} {l:List (U.El T)} (tl:Tail) {b:Addr} {len cap:Nat} (hl:l.length=len) (hc:len<=cap)
  (h:∀ i x,l[i]?=some x->∀ j c,(cfg.enc T x)[j]?=some c->∃ v,m (b.add (i*cfg.sz T+j))=some v/\SimC cfg m v c):
  SimC cfg m (.slice (some b) len cap) (.slice T l tl):=by
 refine .slice T l tl b len cap (fun i j=> (m (b.add (i*cfg.sz T+j))).getD undef) hl hc ?_ ?_
 .intro i x hx j c s
  obtain ⟨v,u,h2⟩:=h i x hx j c s
  rw [u];try rfl
 .intro i x hx j c s
  obtain ⟨v,u,h2⟩:=h i x hx j c s
  rw [u];exact h2
theorem Znq {T:U.Ty} {l:List (U.El T)} {tl tl':Tail} {b:Option Addr} {len s lo hi mx:Nat}
  (h:RelC cfg g st.dead (.slice b len s) (.slice T l tl)) (h1:lo<=hi) (h2:hi<=len) (h3:hi<=mx) (h4:mx<=s)
  (ht:tl'= .unk\/(tl'= .full/\mx=hi)\/(tl'=tl/\hi=len/\mx=s)):
  RelC cfg g st.dead (.slice (if mx=lo then b else b.map (·.add (lo*cfg.sz T))) (hi - lo) (mx - lo)) (.slice T ((l.take hi).drop lo) tl'):=by
 cases b with
 | none=>
  have h0:=h.1
  cases h0
  have e1:hi=0:=by omega
  have e2:mx=0:=by omega
  have e3:lo=0:=by omega
  subst e1 e2 e3
  refine ⟨?_,?_⟩
  .simpa using SimC.snil (cfg:=cfg) T tl'
  .unfold TailOk
   grind
 | some b=>
  have hl:l.length=len:=by cases h.1;assumption
  have u:=h.1.rows
  refine ⟨?_,?_⟩
  .by_cases e:mx=lo
   .have e1:hi=lo:=by omega
    have e2:(l.take hi).drop lo=[]:=by apply QE;rw [Qr];omega
    rw [if_pos e,e2]
    exact .of_rows tl' (by simp;omega) (by omega) (fun i x hx=> by simp at hx)
   .rw [if_neg e]
    refine .of_rows tl' (by grind) (by omega) ?_
    intro i x hx j c hc
    rw [Qz,Xd] at hx
    split at hx
    .obtain ⟨v,h5,h6⟩:=u (lo+i) x hx j c hc
     refine ⟨v,?_,h6⟩
     rw [Go.Deep.add_add,show lo*cfg.sz T+(i*cfg.sz T+j)=(lo+i)*cfg.sz T+j by grind]
     exact h5
    .cases hx
  .rcases ht with rfl | ⟨rfl,rfl⟩ | ⟨rfl,rfl,rfl⟩
   .trivial
   .intro a len s hv
    grind
   .cases tl' with
    | unk=> trivial
    | full=>
     intro a len s hv
     simp only [Value.slice.injEq] at hv
     have:=h.2 _ _ _ rfl
     omega
    | own t0=>
     intro hd a len s hv j ai ah
     simp only [Value.slice.injEq] at hv
     obtain ⟨aa,af,aj⟩:=hv
     by_cases e:mx=lo
     .grind
     .rw [if_neg e] at aa
      simp only [Qi,Option.some.injEq] at aa
      subst aa af aj
      rw [Go.Deep.add_add]
      refine h.2 hd b _ _ rfl _ ?_ ?_
      .rw [Kt] at ai;omega
      .rw [Kt] at ah;omega
theorem JE(ok:CfgOk P cfg)(T:U.Ty)(w:World):(sizeOf (cfg.elT T)).run P w= .ok (cfg.sz T) w:=by
 obtain ⟨i,ag,u,z,h,s,h3⟩:=ok.el T
 simp [sizeOf,typeInfo,h,s]
theorem JG(ok:CfgOk P cfg){t:TypeId}{T:U.Ty}(h:cfg.slT t=some T):P.elem t=cfg.elT T/\P.underlying t=some (.slice (P.elem t)):=by
 have s:=ok.sl _ _ h
 have u:P.elem t=cfg.elT T:=by simp [Program.elem,s]
 grind
def ZuG(cfg:Cfg U)(g:Gh)(dead:Tok->Bool)(live:Name->Bool):Option Value->Option (V U)->Prop
 | none,none=> True
 | some v,some x=> RelV cfg g dead live v x
 | _,_=> False
theorem Zle (ok:CfgOk P cfg) {live:Name->Bool} {t:TypeId} {x c:C U} {lo hi mx:Option (V U)} {v:Value} {vlo vhi vmx:Option Value} {ps:List Prop}
  (hx:RelC cfg g st.dead v x) (hlo:ZuG cfg g st.dead live vlo lo) (hhi:ZuG cfg g st.dead live vhi hi) (hmx:ZuG cfg g st.dead live vmx mx)
  (he:Zlf cfg t x lo hi mx=some (ps,c)) (hps:All ps):
  ∃ r,(Instr.sliceAt t v vlo vhi vmx).run P w= .ok r w/\RelC cfg g st.dead r c:=by
 unfold Zlf at he
 split at he
 .cases he
 rename_i T hT
 split at he
 .cases he
 rename_i l tl ar
 obtain ⟨ao,b,len,aa,rfl,hl,hc,hb⟩:=Z5g hx ar
 obtain ⟨hE,hU⟩:=JG ok hT
 have am:=JE ok T w
 rw [<-hE] at am
 have ae:∀ {lo' hi' mx':Nat} {tl':Tail},lo'<=hi'->hi'<=len->hi'<=mx'->mx'<=aa->(tl'= .unk\/(tl'= .full/\mx'=hi')\/(tl'=tl/\hi'=len/\mx'=aa))->
   ((sizeOf (P.elem t)).run P w).andThen (fun s w=> .ok (sliced b lo' hi' mx' s) w)= .ok (sliced b lo' hi' mx' (cfg.sz T)) w/\
   RelC cfg g st.dead (sliced b lo' hi' mx' (cfg.sz T)) (.slice T ((l.take hi').drop lo') tl'):=fun h1 h2 h3 h4 h5=>
  ⟨by rw [am];rfl,Znq ao h1 h2 h3 h4 h5⟩
 have sim:∀ {y:V U} {u:Option Value} {k:IntKind} {n:Int},ZuG cfg g st.dead live u (some (.c (.int k n)))->u=some (.int k n):=by
  intro y u k n h
  cases u with
  | none=> exact h.elim
  | some u=> have h1:SimC cfg g.m u (.int k n):=h.1;cases h1;rfl
 have ab:∀ {u:Option Value},ZuG cfg g st.dead live u none->u=none:=by
  intro u h
  cases u with
  | none=> rfl
  | some u=> exact h.elim
 rw [run_sliceAt_slice w t _ _ _ _ hU]
 split at he <;> simp only [oP,reduceCtorEq] at he <;> obtain ⟨rfl,rfl⟩:=he
 .rw [ab hlo,ab hhi,ab hmx,run_slice_all w t b len aa hU]
  obtain ⟨h1,h2⟩:=ae (lo':=0) (hi':=len) (mx':=aa) (tl':=tl) (by omega) (by omega) hc (by omega) (.inr (.inr ⟨rfl,rfl,rfl⟩))
  grind
 .rename_i k0 ah
  have hp:=hps.1
  rw [sim (y:= .junk) hlo,ab hhi,ab hmx,run_slice_l w t b len aa hU _ _ hp.1 (by omega)]
  obtain ⟨h1,h2⟩:=ae (lo':=ah.toNat) (hi':=len) (mx':=aa) (tl':=tl) (by omega) (by omega) hc (by omega) (.inr (.inr ⟨rfl,rfl,rfl⟩))
  grind
 .rename_i k0 hi0
  have hp:=hps.1
  rw [ab hlo,sim (y:= .junk) hhi,ab hmx,run_slice_h w t b len aa hU _ _ hp.1 (by omega)]
  obtain ⟨h1,h2⟩:=ae (lo':=0) (hi':=hi0.toNat) (mx':=aa) (tl':= .unk) (by omega) (by omega) (by omega) (by omega) (.inl rfl)
  grind
 .rename_i k0 ah k1 hi0
  have hp:=hps.1
  rw [sim (y:= .junk) hlo,sim (y:= .junk) hhi,ab hmx,run_slice_lh w t b len aa hU _ _ _ _ hp.1 hp.2.1 (by omega)]
  obtain ⟨h1,h2⟩:=ae (lo':=ah.toNat) (hi':=hi0.toNat) (mx':=aa) (tl':= .unk) (by omega) (by omega) (by omega) (by omega) (.inl rfl)
  grind
 .rename_i k0 hi0 k1 m0
  have hp:=hps.1
  have hm:m0=hi0:=hps.2.1
  subst hm
  rw [ab hlo,sim (y:= .junk) hhi,sim (y:= .junk) hmx,run_slice_hm w t b len aa hU _ _ _ _ hp.1 (Xa _) (by omega)]
  obtain ⟨h1,h2⟩:=ae (lo':=0) (hi':=m0.toNat) (mx':=m0.toNat) (tl':= .full) (by omega) (by omega) (by omega) (by omega) (.inr (.inl ⟨rfl,rfl⟩))
  grind
 .rename_i k0 ah k1 hi0 k2 m0
  have hp:=hps.1
  have hm:m0=hi0:=hps.2.1
  subst hm
  rw [sim (y:= .junk) hlo,sim (y:= .junk) hhi,sim (y:= .junk) hmx,run_slice_lhm w t b len aa hU _ _ _ _ _ _ hp.1 hp.2.1 (Xa _) (by omega)]
  obtain ⟨h1,h2⟩:=ae (lo':=ah.toNat) (hi':=m0.toNat) (mx':=m0.toNat) (tl':= .full) (by omega) (by omega) (by omega) (by omega) (.inr (.inl ⟨rfl,rfl⟩))
  grind
theorem Z48 (ok:CfgOk P cfg) {t:TypeId} {ag:Bool} {zs:List (C U)} (ht:cfg.var t=some (ag,zs)) {b:Addr} {vs:List Value} (hl:vs.length=zs.length)
  (h:∀ j v,vs[j]?=some v->w.cell? (b.add j)=some v):(loadVar t b).run P w= .ok (if ag then .agg vs.toArray else vs.getD 0 undef) w:=by
 obtain ⟨ab,i,z,d,h1,h2,h3,h4,h5,h6,_⟩:=ok.var _ _ _ ht
 have s:(isAgg t).run P w= .ok ag w:=by
  rw [<-h4]
  cases d <;> simp [isAgg,run_underlying h2,TypeDesc.ag]
 have u:(sizeOf t).run P w= .ok vs.length w:=by simp [sizeOf,typeInfo,h1,h3,hl]
 cases ag with
 | true=> simp [loadVar,s,u,run_loadCells_list w b vs h]
 | false=>
  have hz:=h6.2.1 rfl
  have ak:zs.length=1:=by
   have:=congrArg List.length h6.2.2
   rw [hz] at this;simpa using this.symm
  match vs,hl with
  | [v],_=>
   have hv:=h 0 v rfl
   rw [Addr.add_zero'] at hv
   simp [loadVar,s,hv]
  | [],hl=> grind
  | _ ::_ ::_,hl=> grind
theorem RelL.of_get{cs:List (C U)}{f:Nat->Value}(h:∀ j c,cs[j]?=some c->RelC cfg g st.dead (f j) c):RelL cfg g st.dead ((List.range cs.length).map f) cs:=by
 refine ⟨by simp,fun j v c s hc=> ?_⟩
 grind
theorem Z31{k:IntKind}:∀ {cs:List (C U)} {l:List Int},Z1K k cs=some l->l.length=cs.length/\∀ (j:Nat) n,l[j]?=some n->cs[j]?=some (.int k n)
 | [],l,h=> by simp only [Z1K,Option.some.injEq] at h;grind
 | c ::cs,l,h=> by
  cases c <;> simp only [Z1K,reduceCtorEq] at h
  rename_i k' s
  split at h
  .rename_i e
   subst e
   cases hr:Z1K k cs with
   | none=> simp [hr] at h
   | some l'=>
    simp only [hr,Qi,Option.some.injEq] at h
    subst h
    obtain ⟨u,h2⟩:=Z31 hr
    grind
  .cases h
theorem ZfV (ok:CfgOk P cfg) (h:Rel cfg B st g a w) {t:TypeId} {ag:Bool} {zs:List (C U)} (ht:cfg.var t=some (ag,zs)) {p x:V U} {u:Value}
  (hp:RelV cfg g st.dead (fun nm=> (st.mem nm).isSome) u p) (he:rd st p ag zs.length=some x):
  ∃ r,(Instr.loadAt t u).run P w= .ok r w/\RelV cfg g st.dead (fun nm=> (st.mem nm).isSome) r x:=by
 unfold rd at he
 split at he
 .rename_i nm s
  obtain ⟨_,rfl⟩:=hp
  split at he
  .rename_i cs ae
   split at he
   .rename_i ai
    let f:Nat->Value:=fun j=> (w.cell? ((g.ad nm).add (s+j))).getD undef
    have hf:∀ j c,(((cs.drop s).take zs.length)[j]?=some c)->w.cell? (((g.ad nm).add s).add j)=some (f j)/\RelC cfg g st.dead (f j) c:=by
     intro j c hc
     rw [Xd,Qz] at hc
     split at hc
     .obtain ⟨v,h1,_,h3⟩:=h.mem nm cs ae _ c hc
      rw [Go.Deep.add_add]
      grind
     .cases hc
    have ab:((cs.drop s).take zs.length).length=zs.length:=by rw [Qr,X9];omega
    have aa:=RelL.of_get (cfg:=cfg) (g:=g) (st:=st) (f:=f) (fun j c hc=> (hf j c hc).2)
    refine ⟨_,?_,aa.mkV he⟩
    simp only [Instr.loadAt,Instr.sureAddr,Sem.run_bind,Sem.run_pure,Result.andThen_ok]
    refine Z48 ok ht (by simp;omega) ?_
    intro j v hv
    have hj:j < ((cs.drop s).take zs.length).length:=by
     have:=(Q8.1 hv).1
     simpa using this
    simp_all
   .cases he
  .cases he
 .rename_i cs
  obtain ⟨b,rfl,hb⟩:=hp
  split at he
  .rename_i ai
   let f:Nat->Value:=fun j=> (g.m (b.add j)).getD undef
   have hf:∀ j c,((cs.take zs.length)[j]?=some c)->w.cell? (b.add j)=some (f j)/\RelC cfg g st.dead (f j) c:=by
    intro j c hc
    rw [Xd] at hc
    split at hc
    .obtain ⟨v,h1,h3⟩:=hb j c hc
     have h2:=(h.inv.im _ _ h1).1
     grind
    .cases hc
   have ab:(cs.take zs.length).length=zs.length:=by rw [Qr];omega
   have aa:=RelL.of_get (cfg:=cfg) (g:=g) (st:=st) (f:=f) (fun j c hc=> (hf j c hc).2)
   refine ⟨_,?_,aa.mkV he⟩
   simp only [Instr.loadAt,Instr.sureAddr,Sem.run_bind,Sem.run_pure,Result.andThen_ok]
   refine Z48 ok ht (by simp;omega) ?_
   intro j v hv
   have hj:j < (cs.take zs.length).length:=by
    have:=(Q8.1 hv).1
    simpa using this
   rw [Qv,List.getElem?_range hj] at hv
   simp only [Qi,Option.some.injEq] at hv
   subst hv
   exact (hf j _ (Q4 hj)).1
  .cases he
 .rename_i nm s k len i
  obtain ⟨_,hi,rfl⟩:=hp
  split at he
  .rename_i cs ae
   split at he
   .rename_i ai
    split at he
    .rename_i l hl
     obtain ⟨h1,h2⟩:=Z31 hl
     have ab:l.length=len:=by rw [h1,Qr,X9];omega
     have ah:l[i.toNat]?=some (l.getD i.toNat 0):=by simp [List.getD,Q4 (show i.toNat < l.length by omega)]
     have hc:=h2 _ _ ah
     rw [Xd,Qz] at hc
     split at hc
     .obtain ⟨v,h3,_,h5⟩:=h.mem nm cs ae _ _ hc
      have al:ag=false:=by cases ag with | true=> simp at he | false=> rfl
      subst al
      simp only [cond_false,Option.some.injEq] at he
      subst he
      refine ⟨v,?_,h5⟩
      simp only [Instr.loadAt,Instr.sureAddr,Sem.run_bind,Sem.run_pure,Result.andThen_ok]
      have hz:[v].length=zs.length:=by
       obtain ⟨_,i',z,d,_,_,_,_,_,h6,_⟩:=ok.var _ _ _ ht
       have:=congrArg List.length h6.2.2
       rw [h6.2.1 rfl] at this;simpa using this
      refine Z48 (vs:=[v]) ok ht hz ?_
      intro j u hu
      cases j with
      | zero=> simp at hu;subst hu;trivial
      | succ j=> simp at hu
     .cases hc
    .cases he
   .cases he
  .cases he
 .cases he
end Go.AM
namespace Go.AM
variable {U:Uni} {P:Program} {cfg:Cfg U} {B:Base} {st:FSt U} {g:Gh} {a:Act} {w:World} {live:Name->Bool}
theorem ZjW{p x:V U}{u:Value}{off n:Nat}(hp:RelV cfg g st.dead live u p)(he:Z9j p off n=some x):
  ∃ b,u= .pointer (some b)/\RelV cfg g st.dead live (.pointer (some (b.add off))) x:=by
 unfold Z9j at he
 split at he
 .simp only [Option.some.injEq] at he
  subst he
  obtain ⟨s,rfl⟩:=hp
  exact ⟨_,rfl,s,by rw [Go.Deep.add_add]⟩
 .rename_i cs
  split at he
  .rename_i h
   simp only [Option.some.injEq] at he
   subst he
   obtain ⟨b,rfl,hb⟩:=hp
   refine ⟨b,rfl,b.add off,rfl,fun j c hc=> ?_⟩
   rw [Qz] at hc
   rw [Go.Deep.add_add]
   grind
  .cases he
 .cases he
theorem Z45(ok:CfgOk P cfg){t:TypeId}{ag:Bool}{zs:List (C U)}(ht:cfg.var t=some (ag,zs))(w:World):
  (sizeOf t).run P w= .ok zs.length w/\(isAgg t).run P w= .ok ag w/\zs.length≠0:=by
 obtain ⟨h,i,z,d,s,h2,h3,u,h5,h6,_⟩:=ok.var _ _ _ ht
 refine ⟨by simp [sizeOf,typeInfo,s,h3],?_,by omega⟩
 rw [<-u]
 cases d <;> simp [isAgg,run_underlying h2,TypeDesc.ag]
theorem Z6f (ok:CfgOk P cfg) {t ft:TypeId} {f off:Nat} {ag:Bool} {zs:List (C U)} (hf:cfg.fld t f=some (off,ft)) (ht:cfg.var ft=some (ag,zs))
  {p x:V U} {u:Value} (hp:RelV cfg g st.dead live u p) (he:Z9j p off zs.length=some x):
  ∃ r,(Instr.fieldAt t u f).run P w= .ok r w/\RelV cfg g st.dead live r x:=by
 obtain ⟨fs,fd,h1,h2,h3,h4⟩:=ok.fld _ _ _ _ hf
 obtain ⟨b,rfl,hb⟩:=ZjW hp he
 obtain ⟨hs,_,hn⟩:=Z45 ok ht w
 have s:zs≠[]:=fun h=> hn (by simp [h])
 refine ⟨_,?_,hb⟩
 simp [Instr.fieldAt,run_underlying h1,h2,Instr.sureAddr,fieldPlace,h4,hs,h3,s]
theorem Z9u (ok:CfgOk P cfg) {t:TypeId} {ag:Bool} {zs:List (C U)} (ht:cfg.var t=some (ag,zs)) {vs:Array Value} {cs:List (C U)} {off:Nat} {x:V U}
  (hr:RelL cfg g st.dead vs.toList cs) (hle:off+zs.length<=cs.length) (he:mkV ag ((cs.drop off).take zs.length)=some x):
  ∃ r,(part t vs off).run P w= .ok r w/\RelV cfg g st.dead live r x:=by
 obtain ⟨hs,ha,hn⟩:=Z45 ok ht w
 have h:=hr.sub off zs.length
 refine ⟨_,?_,h.mkV he⟩
 have s:vs.size=cs.length:=by have:=hr.1;simpa using this
 cases ag with
 | true=>
  simp only [part,Sem.run_bind,ha,Result.andThen_ok,if_true,hs,Sem.run_pure]
  congr 2
  grind
 | false=>
  obtain ⟨ae,i,z,d,h1,h2,h3,h4,h5,h6,_⟩:=ok.var _ _ _ ht
  have aa:zs.length=1:=by
   have:=congrArg List.length h6.2.2
   rw [h6.2.1 rfl] at this;simpa using this.symm
  have u:off < vs.size:=by omega
  simp [part,ha,u,aa,List.getD,Qz]
theorem ZmQ (ok:CfgOk P cfg) {t ft:TypeId} {f off:Nat} {ag:Bool} {zs:List (C U)} (hf:cfg.fld t f=some (off,ft)) (ht:cfg.var ft=some (ag,zs))
  {cs:List (C U)} {x:V U} {u:Value} (hp:RelV cfg g st.dead live u (.agg cs)) (hle:off+zs.length<=cs.length) (he:mkV ag ((cs.drop off).take zs.length)=some x):
  ∃ r,(Instr.field t u f).run P w= .ok r w/\RelV cfg g st.dead live r x:=by
 obtain ⟨fs,fd,h,h2,h3,s⟩:=ok.fld _ _ _ _ hf
 obtain ⟨vs,rfl,hv⟩:=hp
 obtain ⟨r,hr,hx⟩:=Z9u (w:=w) (live:=live) ok ht hv hle he
 refine ⟨r,?_,hx⟩
 simp [Instr.field,run_underlying h,h2,asAgg,h3,s,hr]
theorem ZdX (ok:CfgOk P cfg) {t:TypeId} {T:U.Ty} {l:List (U.El T)} {tl:Tail} {k:IntKind} {n:Int} {u:Value} (ht:cfg.slT t=some T)
  (hu:RelC cfg g st.dead u (.slice T l tl)) (hn:0<=n/\n < l.length):
  ∃ r,(Instr.indexAt t u (.int k n)).run P w= .ok r w/\RelV cfg g st.dead live r (.ep (cfg.enc T (l.getD n.toNat (cfg.dflt T)))):=by
 obtain ⟨hE,hU⟩:=JG ok ht
 have h:=JE ok T w
 rw [<-hE] at h
 have h1:=hu.1
 cases h1 with
 | snil=> grind
 | slice _ _ _ b len cap vs hl hc hm hs=>
  have aa:n.toNat < l.length:=by omega
  have hx:l[n.toNat]?=some (l.getD n.toNat (cfg.dflt T)):=by simp [List.getD,Q4 aa]
  refine ⟨.pointer (some (b.add (n.toNat*cfg.sz T))),?_,b.add (n.toNat*cfg.sz T),rfl,?_⟩
  .rw [run_indexAt_slice w t b len cap k n hU,if_pos ⟨hn.1,by omega⟩,h];try rfl
  .intro j c hc
   rw [Go.Deep.add_add]
   refine ⟨_,hm _ _ hx j c hc,hs _ _ hx j c hc,?_⟩
   have s:=ok.enc_plain _ _ c (QS hc)
   cases c with
   | slice S l' tl'=> cases tl' <;> first | trivial | (simp [C.plain] at s)
   | mref t=> trivial
   | _=> trivial
theorem Z9s{g:Gh}{dead:Tok->Bool}{v:Value}{c:C U}(h:c.plain=true):TailOk cfg g dead v c:=by
 cases c with
 | slice S l' tl'=> cases tl' <;> first | trivial | (simp [C.plain] at h)
 | mref t=> trivial
 | _=> trivial
theorem Zxc(h:Rel cfg B st g a w){u:Tok}{x:LC U}(hx:st.ls u=some x){v:Value}{n off:Nat}(hp:RelV cfg g st.dead live v (.mp u n off)):
  ∃ b len aa,g.bs u=some (.slice (some b) len aa,cfg.sz x.T)/\v= .pointer (some (b.add (n*cfg.sz x.T+off)))/\n < x.l.length/\x.l.length=len/\len<=aa/\x.f<=len/\
   (∀ i y,x.l[i]?=some y->∀ j c,(cfg.enc x.T y)[j]?=some c->∃ u',w.cell? (b.add (i*cfg.sz x.T+j))=some u'/\SimC cfg g.m u' c/\
    (i < x.f->g.m (b.add (i*cfg.sz x.T+j))=some u')/\(x.f<=i->g.tag (b.add (i*cfg.sz x.T+j))=some (.tok u)))/\
   ∀ j,len*cfg.sz x.T<=j->j < aa*cfg.sz x.T->g.tag (b.add j)=some (.tok u):=by
 obtain ⟨hd,hL⟩:=h.ls u x hx
 obtain ⟨b,len,aa,s,h1,h2,h3⟩:=hp hd
 rcases hL with ⟨h4,_⟩ | ⟨b',len',cap',h4,h5,h6,h7,h8,h9⟩
 .rw [h1] at h4;cases h4
 .rw [h1] at h4
  cases h4
  exact ⟨b,len,aa,h1,h3,by omega,h5,h6,h7,h8,h9⟩
theorem Ztn (ok:CfgOk P cfg) (h:Rel cfg B st g a w) {t:TypeId} {ag:Bool} {zs:List (C U)} (ht:cfg.var t=some (ag,zs)) {u:Tok} {x:LC U} {n off:Nat} {y:V U} {v:Value} (hx:st.ls u=some x)
  (hp:RelV cfg g st.dead (fun nm=> (st.mem nm).isSome) v (.mp u n off)) (hle:off+zs.length<=cfg.sz x.T) (he:mkV ag (((cfg.enc x.T (x.l.getD n (cfg.dflt x.T))).drop off).take zs.length)=some y):
  ∃ r,(Instr.loadAt t v).run P w= .ok r w/\RelV cfg g st.dead (fun nm=> (st.mem nm).isSome) r y:=by
 obtain ⟨b,len,am,h1,rfl,h3,h4,h5,h6,h7,h8⟩:=Zxc h hx hp
 have ab:x.l[n]?=some (x.l.getD n (cfg.dflt x.T)):=by simp [List.getD,Q4 h3]
 have ah:=ok.enc_len x.T (x.l.getD n (cfg.dflt x.T))
 let f:Nat->Value:=fun j=> (w.cell? (b.add (n*cfg.sz x.T+off+j))).getD undef
 have hf:∀ j c,((((cfg.enc x.T (x.l.getD n (cfg.dflt x.T))).drop off).take zs.length)[j]?=some c)->w.cell? ((b.add (n*cfg.sz x.T+off)).add j)=some (f j)/\RelC cfg g st.dead (f j) c:=by
  intro j c hc
  rw [Xd,Qz] at hc
  split at hc
  .obtain ⟨v,h9,ae,_,_⟩:=h7 n _ ab (off+j) c hc
   rw [Go.Deep.add_add]
   rw [show n*cfg.sz x.T+(off+j)=n*cfg.sz x.T+off+j by omega] at h9
   simp only [f,h9]
   exact ⟨rfl,ae,Z9s (ok.enc_plain _ _ c (QS hc))⟩
  .cases hc
 have al:(((cfg.enc x.T (x.l.getD n (cfg.dflt x.T))).drop off).take zs.length).length=zs.length:=by rw [Qr,X9];omega
 have s:=RelL.of_get (cfg:=cfg) (g:=g) (st:=st) (f:=f) (fun j c hc=> (hf j c hc).2)
 refine ⟨_,?_,s.mkV he⟩
 simp only [Instr.loadAt,Instr.sureAddr,Sem.run_bind,Sem.run_pure,Result.andThen_ok]
 refine Z48 ok ht (by grind) ?_
 intro j v hv
 have hj:j < (((cfg.enc x.T (x.l.getD n (cfg.dflt x.T))).drop off).take zs.length).length:=by
  have:=(Q8.1 hv).1
  rw [X3,List.length_range] at this
  exact this
 rw [Qv,List.getElem?_range hj] at hv
 simp only [Qi,Option.some.injEq] at hv
 subst hv
 exact (hf j _ (Q4 hj)).1
theorem Zqx(h:Rel cfg B st g a w){u:Tok}{x:LC U}(hx:st.ls u=some x){v:Value}(hv:RelC cfg g st.dead v (.mref u)):
  ∃ b len cap,v= .slice b len cap/\x.l.length=len/\g.bs u=some (v,cfg.sz x.T)/\(b=none->len=0/\cap=0)/\len<=cap:=by
 obtain ⟨hd,hL⟩:=h.ls u x hx
 obtain ⟨s,hs⟩:=hv.2 hd
 rcases hL with ⟨h4,h5,_⟩ | ⟨b',len',cap',h4,h5,h6,_⟩
 .rw [hs] at h4
  cases h4
  exact ⟨none,0,0,rfl,by rw [h5];rfl,hs,fun _=> ⟨rfl,rfl⟩,Qb _⟩
 .rw [hs] at h4
  cases h4
  exact ⟨some b',len',cap',rfl,h5,hs,fun h=> (by cases h),h6⟩
theorem ZcA (ok:CfgOk P cfg) (h:Rel cfg B st g a w) {t:TypeId} {u:Tok} {x:LC U} {k:IntKind} {n:Int} {v:Value} (ht:cfg.slT t=some x.T) (hx:st.ls u=some x)
  (hv:RelC cfg g st.dead v (.mref u)) (hn:0<=n/\n < x.l.length):
  ∃ r,(Instr.indexAt t v (.int k n)).run P w= .ok r w/\RelV cfg g st.dead live r (.mp u n.toNat 0):=by
 obtain ⟨hE,hU⟩:=JG ok ht
 have s:=JE ok x.T w
 rw [<-hE] at s
 obtain ⟨b,len,aa,rfl,h1,h2,h3,h4⟩:=Zqx h hx hv
 cases b with
 | none=> grind
 | some b=>
  refine ⟨.pointer (some (b.add (n.toNat*cfg.sz x.T))),?_,fun _=> ⟨b,len,aa,_,h2,by omega,rfl⟩⟩
  rw [run_indexAt_slice w t b len aa k n hU,if_pos ⟨hn.1,by omega⟩,s];try rfl
theorem ZcJ (ok:CfgOk P cfg) {t ft:TypeId} {f off:Nat} {z:Bool × List (C U)} (hf:cfg.fld t f=some (off,ft)) (ht:cfg.var ft=some z) (h:Rel cfg B st g a w) {u:Tok} {x:LC U} (hx:st.ls u=some x)
  {n o':Nat} {v:Value} (hp:RelV cfg g st.dead live v (.mp u n o')):
  ∃ r,(Instr.fieldAt t v f).run P w= .ok r w/\RelV cfg g st.dead live r (.mp u n (o'+off)):=by
 obtain ⟨fs,fd,h1,h2,h3,h4⟩:=ok.fld _ _ _ _ hf
 obtain ⟨hd,_⟩:=h.ls u x hx
 obtain ⟨b,len,ab,s,h5,h6,rfl⟩:=hp hd
 obtain ⟨ag,zs⟩:=z
 obtain ⟨hs,_,hn⟩:=Z45 ok ht w
 have aa:zs≠[]:=fun h=> hn (by simp [h])
 refine ⟨.pointer (some (b.add (n*s+(o'+off)))),?_,fun _=> ⟨b,len,ab,s,h5,h6,rfl⟩⟩
 simp [Instr.fieldAt,run_underlying h1,h2,Instr.sureAddr,fieldPlace,h4,hs,h3,aa,Go.Deep.add_add,Nat.add_assoc]
theorem Z2D (ok:CfgOk P cfg) {t et:TypeId} {len:Nat} {ag:Bool} {zs:List (C U)} {k:IntKind} {n:Int} {u:Value} {nm:Name} {off:Nat}
  (ht:cfg.arr t=some (len,et)) (hz:cfg.var et=some (ag,zs)) (hu:RelV cfg g st.dead live u (.ptr nm off)) (hn:0<=n/\n < len):
  ∃ r,(Instr.indexAt t u (.int k n)).run P w= .ok r w/\RelV cfg g st.dead live r (.ptr nm (off+n.toNat*zs.length)):=by
 have h:=ok.arr _ _ _ ht
 have hl:P.arrayLen t=len:=by simp [Program.arrayLen,h]
 have he:P.elem t=et:=by simp [Program.elem,h]
 obtain ⟨s,_,_⟩:=Z45 ok hz w
 obtain ⟨h2,rfl⟩:=hu
 refine ⟨.pointer (some (((g.ad nm).add off).add (n.toNat*zs.length))),?_,h2,by rw [Go.Deep.add_add]⟩
 rw [run_indexAt_array w t _ k n (by grind),hl,he,if_pos hn,s];try rfl
theorem Zh5 (ok:CfgOk P cfg) {t et:TypeId} {len:Nat} {k0:IntKind} {n0:Int} {k:IntKind} {n:Int} {u:Value} {nm:Name} {off:Nat}
  (ht:cfg.arr t=some (len,et)) (hz:cfg.var et=some (false,[.int k0 n0])) (hu:RelV cfg g st.dead live u (.ptr nm off)) (hn:0<=n/\n < len):
  ∃ r,(Instr.indexAt t u (.int k n)).run P w= .ok r w/\RelV cfg g st.dead live r (.ap nm off k0 len n):=by
 obtain ⟨r,h1,s,h⟩:=Z2D (w:=w) (k:=k) (g:=g) (st:=st) (live:=live) ok ht hz hu hn
 exact ⟨r,h1,s,hn,by rw [h];simp⟩
theorem Zcz (ok:CfgOk P cfg) {t et:TypeId} {len:Nat} {k0:IntKind} {n0:Int} {k:IntKind} {n:Int} {u:Value} {cs:List (C U)} {l:List Int}
  (ht:cfg.arr t=some (len,et)) (hz:cfg.var et=some (false,[.int k0 n0])) (hu:RelV cfg g st.dead live u (.agg cs)) (hlen:len=cs.length) (hl:Z1K k0 cs=some l) (hn:0<=n/\n < len):
  ∃ r,(Instr.index t u (.int k n)).run P w= .ok r w/\RelV cfg g st.dead live r (.c (.int k0 (l.getD n.toNat 0))):=by
 have h1:=ok.arr _ _ _ ht
 obtain ⟨hs,_,_⟩:=Z45 ok hz w
 obtain ⟨vs,rfl,hv⟩:=hu
 obtain ⟨h2,h3⟩:=Z31 hl
 have h:l[n.toNat]?=some (l.getD n.toNat 0):=by simp [List.getD,Q4 (show n.toNat < l.length by omega)]
 have hc:=h3 _ _ h
 have he:mkV false ((cs.drop (n.toNat*1)).take 1)=some (.c (.int k0 (l.getD n.toNat 0))):=by
  have:(cs.drop (n.toNat*1)).take 1=[.int k0 (l.getD n.toNat 0)]:=by
   rw [Nat.mul_one]
   apply XD
   intro j
   rw [Xd,Qz]
   cases j with
   | zero=> simpa using hc
   | succ j=> simp
  rw [this];try rfl
 obtain ⟨r,s,hx⟩:=Z9u (w:=w) (live:=live) ok hz hv (off:=n.toNat*1) (by simp;omega) (by simpa using he)
 refine ⟨r,?_,hx⟩
 have ae:(part et vs (n.toNat*[C.int (U:=U) k0 n0].length)).run P w= .ok r w:=by simpa using s
 simp [Instr.index,run_underlying h1,asIntOf,hn,hs]
 simpa using s
theorem ZdW (ok:CfgOk P cfg) {t et:TypeId} {len:Nat} {ag:Bool} {zs:List (C U)} {k:IntKind} {n:Int} {u:Value} {cs:List (C U)} {x:V U}
  (ht:cfg.arr t=some (len,et)) (hz:cfg.var et=some (ag,zs)) (hu:RelV cfg g st.dead live u (.agg cs)) (hn:0<=n/\n < len)
  (hle:n.toNat*zs.length+zs.length<=cs.length) (he:mkV ag ((cs.drop (n.toNat*zs.length)).take zs.length)=some x):
  ∃ r,(Instr.index t u (.int k n)).run P w= .ok r w/\RelV cfg g st.dead live r x:=by
 have s:=ok.arr _ _ _ ht
 obtain ⟨h,_,_⟩:=Z45 ok hz w
 obtain ⟨vs,rfl,hv⟩:=hu
 obtain ⟨r,hr,hx⟩:=Z9u (w:=w) (live:=live) ok hz hv hle he
 refine ⟨r,?_,hx⟩
 simp [Instr.index,run_underlying s,asIntOf,hn,h,hr]
theorem ZhD {ws:List (Bool × List (C U))} {i:Nat} {ag:Bool} {cs:List (C U)} {x:V U} {u:Value} (hu:RelV cfg g st.dead live u (.tup ws))
  (hi:ws[i]?=some (ag,cs)) (he:mkV ag cs=some x):∃ r,(Instr.extract u i).run P w= .ok r w/\RelV cfg g st.dead live r x:=by
 obtain ⟨vs,rfl,h1,h2⟩:=hu
 have h:i < vs.size:=by have:=(Q8.1 hi).1;omega
 have s:=h2 i _ _ (QY h) hi
 refine ⟨vs[i],by simp [Instr.extract,h],?_⟩
 cases ag with
 | true=>
  simp only [mkV,Option.some.injEq] at he
  subst he
  exact s
 | false=>
  obtain ⟨c,hc,hr⟩:=s
  simp only at hc
  subst hc
  simp only [mkV,Option.some.injEq] at he
  subst he
  exact hr
theorem ZtX(ok:CfgOk P cfg)(h:Rel cfg B st g a w){t ty:TypeId}{x:V U}{c:C U}{u:Value}(hu:RelV cfg g st.dead live u x)(he:lenOf cfg st t x=some c):
  ∃ r,(Builtin.len_ #[t] ty #[u]).run P w= .ok r w/\RelC cfg g st.dead r c:=by
 unfold lenOf at he
 split at he
 .rename_i t'
  split at he
  .rename_i S x hS hx
   split at he
   .rename_i af _
    simp only [Option.some.injEq] at he
    subst he
    obtain ⟨hE,hU⟩:=JG ok hS
    obtain ⟨b,len,s,rfl,h1,_⟩:=Zqx h hx hu
    refine ⟨_,run_len_slice w t ty b len s hU,?_,trivial⟩
    rw [h1];exact .int _ _
   .cases he
  .cases he
 .split at he
  .rename_i S hS
   simp only [Option.some.injEq] at he
   subst he
   obtain ⟨hE,hU⟩:=JG ok hS
   have h1:SimC cfg g.m u .nils:=hu.1
   cases h1
   exact ⟨_,run_len_slice w t ty none 0 0 hU,.int _ _,trivial⟩
  .cases he
 .rename_i T l tl
  split at he
  .rename_i S hS
   split at he
   .rename_i af _
    simp only [Option.some.injEq] at he
    subst he
    obtain ⟨hE,hU⟩:=JG ok hS
    have h1:SimC cfg g.m u (.slice T l tl):=hu.1
    cases h1 with
    | snil=> exact ⟨_,run_len_slice w t ty none 0 0 hU,.int _ _,trivial⟩
    | slice _ _ _ b len s vs hl hc hm hs=>
     refine ⟨_,run_len_slice w t ty (some b) len s hU,?_,trivial⟩
     rw [<-hl];exact .int _ _
   .cases he
  .cases he
 .cases he
theorem Zb7{mx:Bool}{x y c:C U}{u v:Value}{ts:Array TypeId}{ty:TypeId}(hx:RelC cfg g st.dead u x)(hy:RelC cfg g st.dead v y)(he:Z8C mx x y=some c):
  ∃ r,(if mx then Builtin.max_ ts ty #[u,v] else Builtin.min_ ts ty #[u,v]).run P w= .ok r w/\RelC cfg g st.dead r c:=by
 unfold Z8C at he
 split at he
 .rename_i k p k' q
  split at he
  .rename_i hk
   subst hk
   simp only [Option.some.injEq] at he
   subst he
   have h:=hx.1
   have s:=hy.1
   cases h;cases s
   cases mx with
   | true=> exact ⟨.int k (if p < q then q else p),by rfl,.int _ _,trivial⟩
   | false=> exact ⟨.int k (if q < p then q else p),by rfl,.int _ _,trivial⟩
  .cases he
 .cases he
theorem Zh7(off:Nat):∀ (vs:List Value) (j:Nat) (cs:Array Value),off+j+vs.length<=cs.size->
  ((vs.zipIdx j).foldl (fun (cs:Array Value) (x:Value × Nat)=> cs.setIfInBounds (off+x.2) x.1) cs).toList=cs.toList.take (off+j)++vs++cs.toList.drop (off+j+vs.length)
 | [],j,cs,h=> by simp
 | v ::vs,j,cs,h=> by
  simp only [List.zipIdx_cons,Ke,Qm] at*
  rw [Zh7 off vs (j+1) _ (by simp;omega)]
  rw [Array.toList_setIfInBounds]
  have e1:(cs.toList.set (off+j) v).take (off+(j+1))=cs.toList.take (off+j)++[v]:=by
   have s:off+j < cs.toList.length:=by simp;omega
   rw [show off+(j+1)=off+j+1 by omega,Xe (by simp;omega)]
   rw [List.take_set_of_le (by omega)]
   simp
  have e2:(cs.toList.set (off+j) v).drop (off+(j+1)+vs.length)=cs.toList.drop (off+j+(vs.length+1)):=by
   rw [List.drop_set_of_lt (by omega)]
   congr 1;omega
  grind
theorem Zjo{vs new:List Value}{cs cn cs':List (C U)}{off:Nat}(h:RelL cfg g st.dead vs cs)(hn:RelL cfg g st.dead new cn)(he:YS cs off cn=some cs'):
  off+new.length<=vs.length/\RelL cfg g st.dead (vs.take off++new++vs.drop (off+new.length)) cs':=by
 unfold YS at he
 split at he
 .rename_i ab
  simp only [Option.some.injEq] at he
  subst he
  have h1:=h.1
  have h2:=hn.1
  refine ⟨by omega,?_,?_⟩
  .simp;omega
  .intro j v c s hc
   simp only [Qo] at s hc
   rw [QK] at s hc
   simp only [Qr] at s hc
   rw [Xo (by omega)] at s
   rw [Xo (by omega)] at hc
   split at s
   .rename_i hj
    rw [if_pos hj] at hc
    rw [Xl hj] at s hc
    exact h.2 j v c s hc
   .rename_i hj
    rw [if_neg hj] at hc
    rw [QK] at s hc
    rw [h2] at s
    split at s
    .rename_i u
     rw [if_pos u] at hc
     exact hn.2 _ v c s hc
    .rename_i u
     rw [if_neg u] at hc
     rw [Qz] at s hc
     exact h.2 _ v c s hc
 .cases he
theorem Z79{α β:Type}{f:α->Option β}:∀ {l:List α} {r:List β},l.mapM f=some r->∀ (i:Nat) x,l[i]?=some x->∃ y,r[i]?=some y/\f x=some y
 | [],r,h,i,x,hx=> by simp at hx
 | a ::l,r,h,i,x,hx=> by
  rw [X7] at h
  cases ha:f a with
  | none=> simp [ha] at h
  | some b=>
   cases hl:l.mapM f with
   | none=> grind
   | some r'=>
    simp [ha,hl] at h
    subst h
    cases i with
    | zero=> grind
    | succ i=> simp at hx;obtain ⟨y,u,s⟩:=Z79 hl i x hx;grind
theorem Z9G{t:TypeId}{pl:Nat->Option (Nat × Nat)}(hpl:∀ i s n,Zkj cfg t i=some (s,n)->pl i=some (s,n)):
  ∀ (parts:List (Nat × Value)) (ps:List (Nat × List (C U))) (vs:Array Value) (cs cs':List (C U)),parts.length=ps.length->
   (∀ (j:Nat) x y,parts[j]?=some x->ps[j]?=some y->x.1=y.1/\RelL cfg g st.dead x.2.cells.toList y.2)->
   RelL cfg g st.dead vs.toList cs->Z17 cfg t cs ps=some cs'->
   ∃ u,Instr.fill pl vs parts=some u/\RelL cfg g st.dead u.toList cs'
 | [],[],vs,cs,cs',_,_,h,he=> by
  simp only [Z17,Option.some.injEq] at he
  subst he
  exact ⟨vs,rfl,h⟩
 | (i,v) ::r,(i',new) ::ps,vs,cs,cs',hl,hr,h,he=> by
  obtain ⟨hi,hv⟩:=hr 0 _ _ rfl rfl
  simp only at hi hv
  subst hi
  simp only [Z17] at he
  split at he
  .rename_i s n hf
   split at he
   .rename_i ah
    cases hs:YS cs s new with
    | none=> grind
    | some cs1=>
     simp only [hs,Qn] at he
     obtain ⟨h1,h2⟩:=Zjo h hv hs
     have aa:=hpl _ _ _ hf
     have ak:v.cells.size=n:=by have:=hv.1;simp at this;omega
     have af:¬(s+v.cells.size > vs.size):=by simp at h1;omega
     let vs1:Array Value:=v.cells.zipIdx.foldl (fun cs (c,j)=> cs.setIfInBounds (s+j) c) vs
     have aj:vs1.toList=vs.toList.take s++v.cells.toList++vs.toList.drop (s+v.cells.toList.length):=by
      show (v.cells.zipIdx.foldl (fun cs (c,j)=> cs.setIfInBounds (s+j) c) vs).toList=_
      rw [<-Array.foldl_toList,Array.toList_zipIdx]
      have:=Zh7 s v.cells.toList 0 vs (by simp;omega)
      simpa using this
     obtain ⟨u,aq,ae⟩:=Z9G hpl r ps vs1 cs1 cs' (by simpa using hl)
      (fun j x y hx hy=> hr (j+1) x y (by simpa using hx) (by simpa using hy)) (by grind) he
     refine ⟨u,?_,ae⟩
     simp only [Instr.fill,aa]
     grind
   .cases he
  .cases he
theorem Zdc:∀ (fs:List Field),(fs.all fun u=> (P.info? u.type).isSome)=true->∃ places,fs.mapM (fun f=> (P.info? f.type).map fun i=> (f.offset,i.size))=some places
 | [],_=> ⟨[],rfl⟩
 | f ::fs,h=> by
  simp only [List.all_cons,Q6] at h
  obtain ⟨i,hi⟩:=X4.1 h.1
  obtain ⟨pl,s⟩:=Zdc fs h.2
  simp_all
theorem Z0M{ag:Bool}{z:Value}{zs:List (C U)}(h:ZCt ag z zs):RelL cfg g st.dead z.cells.toList zs:=Zdf h.2.2
theorem Zn5 (ok:CfgOk P cfg) {t:TypeId} {zs cs:List (C U)} (ht:cfg.var t=some (true,zs)) {parts:Array (Nat × Value)} {ps:List (Nat × List (C U))} (hl:parts.size=ps.length)
  (hr:∀ (j:Nat) x y,parts[j]?=some x->ps[j]?=some y->x.1=y.1/\RelL cfg g st.dead x.2.cells.toList y.2) (he:Z17 cfg t zs ps=some cs):
  ∃ r,(Instr.build t parts).run P w= .ok r w/\RelV cfg g st.dead live r (.agg cs):=by
 obtain ⟨ax,i,z,d,h1,h2,h3,h4,h5,h6,h7,h8,h9,av⟩:=ok.var _ _ _ ht
 have hz:=Z0M (g:=g) (st:=st) (cfg:=cfg) h6
 cases d <;> simp only [TypeDesc.ag,Xv] at h4
 case struct fs=>
  obtain ⟨pl,ah⟩:=Zdc fs.toList (h9 fs rfl)
  obtain ⟨s,ae,aa⟩:=Z9G (t:=t) (pl:=(pl.toArray[·]?)) (by
   intro k ak n h
   unfold Zkj at h
   split at h
   .rename_i ai ft hf
    split at h
    .rename_i ag al ab
     cases h
     obtain ⟨a3,fd,u,a6,a9,bb⟩:=ok.fld _ _ _ _ hf
     rw [h2] at u
     cases u
     obtain ⟨_,ii,_,_,af,_,ao,_⟩:=ok.var _ _ _ ab
     obtain ⟨y,aa,a7⟩:=Z79 ah k fd (by grind)
     grind
    .cases h
   .split at h
    .rename_i len et ha
     have:=ok.arr _ _ _ ha
     grind
    .cases h) parts.toList ps z.cells zs cs (by simpa using hl)
   (fun j x y hx hy=> hr j x y (by simpa using hx) hy) hz he
  refine ⟨_,run_build w t parts s ?_,s,rfl,aa⟩
  simp only [Program.built,h1,h2,h5,ah]
  exact ae
 case array n e=>
  obtain ⟨ie,au⟩:=X4.1 (av n e rfl)
  obtain ⟨s,ae,aa⟩:=Z9G (t:=t) (pl:=fun i=> some (i*ie.size,ie.size)) (by
   intro k ak m h
   unfold Zkj at h
   split at h
   .rename_i ai ft hf
    obtain ⟨fs,fd,af,_⟩:=ok.fld _ _ _ _ hf
    grind
   .split at h
    .rename_i len et ha
     split at h
     .rename_i ag al ab
      cases h
      have u:=ok.arr _ _ _ ha
      rw [h2] at u
      cases u
      obtain ⟨_,ii,_,_,af,_,ao,_⟩:=ok.var _ _ _ ab
      grind
     .cases h
    .cases h) parts.toList ps z.cells zs cs (by simpa using hl)
   (fun j x y hx hy=> hr j x y (by simpa using hx) hy) hz he
  refine ⟨_,run_build w t parts s ?_,s,rfl,aa⟩
  simp only [Program.built,h1,h2,h5,au]
  exact ae
theorem SimC.intE{m:Addr->Option Value}{v:Value}{k:IntKind}{n:Int}(h:SimC cfg m v (.int k n)):v= .int k n:=by cases h;rfl
theorem Zau{t:TypeId}{k:IntKind}{xs:Array Value}{off:Nat}(hu:P.underlying t=some (.int k))(hlt:off < xs.size):(part t xs off).run P w= .ok xs[off] w:=by
 simp [part,isAgg,run_underlying hu,hlt]
theorem Z8L{t:TypeId}{xs:Array Value}{off:Nat}(hu:P.underlying t=some .bool)(hlt:off < xs.size):(part t xs off).run P w= .ok xs[off] w:=by
 simp [part,isAgg,run_underlying hu,hlt]
theorem SimC.boolE{m:Addr->Option Value}{v:Value}{b:Bool}(h:SimC cfg m v (.bool b)):v= .bool b:=by cases h;rfl
theorem ZlD:∀ {zs as:List (C U)},Z8K zs as=true->zs.length=as.length/\∀ (i:Nat) (c:C U),as[i]?=some c->(∃ k n,c=C.int k n/\∃ k n,zs[i]?=some (C.int k n))\/(∃ b,c=C.bool b/\∃ b,zs[i]?=some (C.bool b))
 | [],[],_=> ⟨rfl,fun i c h=> by simp at h⟩
 | [],a ::as,h=> by trivial
 | z ::zs,[],h=> by cases z <;> simp [Z8K] at h
 | z ::zs,a ::as,h=> by
  have u:Z8K zs as=true:=by cases z <;> cases a <;> simp_all [Z8K]
  have s:=ZlD u
  refine ⟨by simp [s.1],fun i c hc=> ?_⟩
  cases i with
  | succ i=> grind
  | zero=>
   simp only [XW,Option.some.injEq] at hc ⊢
   subst hc
   cases z <;> cases a <;> simp [Z8K] at h ⊢
theorem ZbI {d : Nat} {xs ys : Array Value} {fs : Array Field} {m : Addr → Option Value} (hfs : ∀ (i : Nat) f, fs[i]? = some f → f.name ≠ "_" ∧ f.offset = i) :
  ∀ (l:List Field) (i:Nat) (as bs:List (C U)) (r:Bool),(∀ j,l[j]?=fs[i+j]?)->(∀ (j:Nat) (f:Field) (c:C U),l[j]?=some f->as[j]?=some c->(∀ k n,c=C.int k n->∃ k,P.underlying f.type=some (.int k))/\∀ b,c=C.bool b->P.underlying f.type=some .bool)->
   as.length=l.length->ZhE as bs=some r->(∀ j c,as[j]?=some c->∃ v,xs[i+j]?=some v/\SimC cfg m v c)->(∀ j c,bs[j]?=some c->∃ v,ys[i+j]?=some v/\SimC cfg m v c)->
   (Op.eqFields (d+1) xs ys l).run P w= .ok r w
 | [],i,[],bs,r,_,_,_,he,_,_=> by
  cases bs with
  | nil=> simp only [ZhE,Option.some.injEq] at he;subst he;rfl
  | cons b bs=> trivial
 | f ::l,i,a ::as,bs,r,hl,hk,hn,he,hx,hy=> by
  obtain ⟨h1,h2⟩:=hfs i f (by have:=hl 0;grind)
  have h:=hk 0 f a rfl rfl
  cases bs with
  | nil=> cases a <;> simp [ZhE] at he
  | cons b bs=>
   obtain ⟨v,hv,sv⟩:=hx 0 a rfl
   obtain ⟨u,hu,su⟩:=hy 0 b rfl
   rw [Kc] at hv hu
   obtain ⟨af,rfl⟩:=QV.1 hv
   obtain ⟨ab,rfl⟩:=QV.1 hu
   have ih:=fun r' s=> ZbI (d:=d) hfs l (i+1) as bs r' (fun j=> by have:=hl (j+1);grind) (fun j f c hf hc=> hk (j+1) f c (by simpa using hf) (by simpa using hc)) (by simpa using hn) s
    (fun j c hj=> by have:=hx (j+1) c (by simpa using hj);simpa [Nat.add_assoc,Nat.add_comm 1 j] using this) (fun j c hj=> by have:=hy (j+1) c (by simpa using hj);simpa [Nat.add_assoc,Nat.add_comm 1 j] using this)
   cases a <;> cases b <;> simp only [ZhE,reduceCtorEq] at he
   .rename_i k1 n1 k2 n2
    split at he
    .rename_i hk
     subst hk
     cases s:ZhE as bs with
     | none=> grind
     | some r'=>
      simp only [s,Qi,Option.some.injEq] at he
      subst he
      have ih:=ih r' s
      have e1:xs[i]= .int k1 n1:=sv.intE
      have e2:ys[i]= .int k1 n2:=su.intE
      obtain ⟨k,h⟩:=h.1 _ _ rfl
      simp only [Op.eqFields,h1,ne_eq,not_false_eq_true,if_true,Sem.run_bind,h2,Zau h af,Zau h ab,Result.andThen_ok,e1,e2,run_equalIn_int w d f.type k1 k n1 n2 h]
      cases hb:(n1==n2) with
      | true=> simpa using ih
      | false=> simp
    .cases he
   .rename_i b1 b2
    cases s:ZhE as bs with
    | none=> grind
    | some r'=>
     simp only [s,Qi,Option.some.injEq] at he
     subst he
     have ih:=ih r' s
     have e1:xs[i]= .bool b1:=sv.boolE
     have e2:ys[i]= .bool b2:=su.boolE
     have h:=h.2 _ rfl
     simp only [Op.eqFields,h1,ne_eq,not_false_eq_true,if_true,Sem.run_bind,h2,Z8L h af,Z8L h ab,Result.andThen_ok,e1,e2,run_equalIn_bool w d f.type b1 b2 h]
     cases hb:(b1==b2) with
     | true=> simpa using ih
     | false=> simp
theorem ZdH(ok:CfgOk P cfg){t:TypeId}{p q:Operand}{as bs:List (C U)}{r:Bool}{u v:Value}(ht:cfg.eqs t=true)(hu:RelV cfg g st.dead live u (.agg as))(hv:RelV cfg g st.dead live v (.agg bs))(he:ZhE as bs=some r){ag:Bool}{zs:List (C U)}(hz:cfg.var t=some (ag,zs))(hsk:Z8K zs as=true):
  (do eqGuard .eql t p q u v;binOp .eql t u v:Sem Value).run P w= .ok (.bool r) w/\(do eqGuard .neq t p q u v;binOp .neq t u v:Sem Value).run P w= .ok (.bool (!r)) w:=by
 obtain ⟨fs,h1,h0,h2,h3,h4⟩:=ok.eqs t ht
 obtain ⟨xs,rfl,hx⟩:=hu
 obtain ⟨ys,rfl,hy⟩:=hv
 have hf:P.fieldsOf t=fs:=by simp [Program.fieldsOf,h1]
 obtain ⟨ab,al⟩:=ZlD hsk
 have hl:as.length=fs.size:=ab.symm.trans (h0 _ _ hz)
 have ae:=ZbI (P:=P) (cfg:=cfg) (w:=w) (d:=9998) (xs:=xs) (ys:=ys) (m:=g.m) (fun i f hf=> ⟨(h4 i f hf).1,(h4 i f hf).2.1⟩) fs.toList 0 as bs r (fun j=> by simp)
  (fun j f c hf hc=> by
   grind) (by simpa using hl) he
  (fun j c hj=> by
   have h:j < xs.toList.length:=by have h5:=(Q8.1 hj).1;have:=hx.1;omega
   have hg:=Q4 h
   exact ⟨_,by grind,(hx.2 j _ c hg hj).1⟩)
  (fun j c hj=> by
   have h:j < ys.toList.length:=by have h5:=(Q8.1 hj).1;have:=hy.1;omega
   have hg:=Q4 h
   exact ⟨_,by grind,(hy.2 j _ c hg hj).1⟩)
 have s:(Op.equalIn 10000 t (.agg xs) (.agg ys)).run P w= .ok r w:=by
  rw [run_equalIn_agg w 9999 t xs ys (by grind) h2,hf]
  exact ae
 refine ⟨?_,?_⟩
 .simp only [Sem.run_bind,run_eqGuard_agg w .eql t p q xs ys h3,Result.andThen_ok,run_eql_struct,s]
 .simp only [Sem.run_bind,run_eqGuard_agg w .neq t p q xs ys h3,Result.andThen_ok,run_neq_struct,s]
end Go.AM
namespace Go.AM
variable {U:Uni} {P:Program} {cfg:Cfg U} {B:Base} {st:FSt U} {g:Gh} {a:Act} {w:World}
theorem Z2h{b:Addr}{i j:Nat}(h:b.add i=b.add j):i=j:=by
 unfold Addr.add at h
 grind
theorem JH(b:Addr):∀ (vs:List Value) (i:Nat) (w:World),(∀ v∈vs,v.oneCell'=true)->
  (∀ j,j < vs.length->(∃ u,w.cell? (b.add (i+j))=some u)/\w.frozen? (b.add (i+j))=false)->
  ∃ w',(storeCells b vs i).run P w= .ok () w'/\Evo w w' (fun c=> ∃ j,j < vs.length/\c=b.add (i+j))/\
   (∀ j v,vs[j]?=some v->w'.cell? (b.add (i+j))=some v)/\(∀ c,(∀ j,j < vs.length->c≠b.add (i+j))->w'.cell? c=w.cell? c)/\(∀ c,w'.frozen? c=w.frozen? c)/\w'.heap.size=w.heap.size
 | [],i,w,_,_=> ⟨w,by simp [storeCells],.refl _ _,by simp,fun _ _=> rfl,fun _=> rfl,rfl⟩
 | v ::vs,i,w,ho,hc=> by
  obtain ⟨⟨u,hu⟩,hf⟩:=hc 0 (by simp)
  rw [Kc] at hu hf
  have ah:(store (b.add i) v).run P w= .ok () (w.setCell (b.add i) v):=by
   rw [run_store P w _ v .plain (ho v (by simp)),hu]
   simp [hf]
  have s:∀ j,j < vs.length->(∃ u,(w.setCell (b.add i) v).cell? (b.add (i+1+j))=some u)/\(w.setCell (b.add i) v).frozen? (b.add (i+1+j))=false:=by
   intro j hj
   obtain ⟨⟨u',ae⟩,ab⟩:=hc (j+1) (by simpa using hj)
   have e:i+(j+1)=i+1+j:=by omega
   rw [e] at ae ab
   refine ⟨⟨u',?_⟩,by rw [World.frozen?_setCell];exact ab⟩
   rw [World.cell?_setCell_other _ _ _ _ (fun h=> by have:=Z2h h;omega)]
   exact ae
  obtain ⟨w',h1,h2,h3,h4,h5,h6⟩:=JH b vs (i+1) (w.setCell (b.add i) v) (fun x hx=> ho x (by simp [hx])) s
  refine ⟨w',by simp [storeCells,ah,h1],?_,?_,?_,?_,?_⟩
  .refine Evo.trans (w':=w.setCell (b.add i) v) (Evo.setCell w _ v _ ⟨0,by simp,rfl⟩) (h2.weaken ?_)
   rintro c ⟨j,hj,rfl⟩
   exact ⟨j+1,by simpa using hj,by congr 1;omega⟩
  .intro j x hx
   cases j with
   | zero=>
    simp at hx
    subst hx
    rw [Kc,h4 _ (fun j hj h=> by have:=Z2h h;omega)]
    exact World.cell?_setCell_same w _ v hu
   | succ j=>
    have:=h3 j x (by simpa using hx)
    rw [show i+(j+1)=i+1+j by omega]
    exact this
  .intro c ai
   rw [h4 c (fun j hj=> by have:=ai (j+1) (by simpa using hj);rwa [show i+(j+1)=i+1+j by omega] at this)]
   exact World.cell?_setCell_other _ _ _ _ (fun h=> ai 0 (by simp) (by rw [Kc];exact h.symm))
  .intro c
   rw [h5,World.frozen?_setCell]
  .rw [h6,World.size_setCell]
structure SameHeap (w w':World):Prop where
 heap:w'.heap=w.heap
 os:w'.os=w.os
 tape:w'.tape=w.tape
 output:w'.output=w.output
theorem SameHeap.refl(w:World):SameHeap w w:=⟨rfl,rfl,rfl,rfl⟩
theorem SameHeap.drew(w:World):SameHeap w w.drew:=⟨rfl,rfl,rfl,rfl⟩
theorem SameHeap.cell{w w':World}(h:SameHeap w w')(b:Addr):w'.cell? b=w.cell? b:=by simp [World.cell?,h.heap]
theorem SameHeap.frozen{w w':World}(h:SameHeap w w')(b:Addr):w'.frozen? b=w.frozen? b:=by simp [World.frozen?,h.heap]
theorem SameHeap.evo{w w':World}(h:SameHeap w w')(S:Addr->Prop):Evo w w' S:=
 ⟨⟨h.os,h.tape,h.output,by rw [h.heap];omega⟩,fun b _ _=> h.cell b,fun b _=> h.frozen b,fun b v s=> ⟨v,(h.cell b).trans s⟩,fun b _ _=> by rw [h.heap]⟩
def Gh.new(g:Gh)(b:Nat)(arr:Array Value)(im:Nat->Bool)(tg:Nat->Option Tag)(ad:Name->Addr):Gh:=
 {m:=fun c=> if c.block=b/\c.spot=none then (if im c.off then arr[c.off]? else none) else g.m c
  tag:=fun c=> if c.block=b/\c.spot=none then tg c.off else g.tag c
  ad:=ad
  bs:=g.bs }
theorem Zod (h:Rel cfg B st g a w) {w1:World} (hw:SameHeap w w1) (arr:Array Value) (e:TypeId) (im:Nat->Bool) (tg:Nat->Option Tag) (ad:Name->Addr)
  (htg:∀ i t,tg i=some t->i < arr.size/\im i=false/\∀ t',t≠.outer t')
  (had:∀ nm,(st.mem nm).isSome=true->ad nm=g.ad nm) (hax:∀ k,ad (.x k)=g.ad (.x k)):
  Inv (g.new w.heap.size arr im tg ad).m (g.new w.heap.size arr im tg ad).tag (w1.alloc (.cells arr e))/\
  Fr B (g.new w.heap.size arr im tg ad) (w1.alloc (.cells arr e))/\
  (∀ (dead:Tok->Bool) (Yg:Name->Bool),(∀ nm,(st.mem nm).isSome=true->Yg nm=true)->Keeps g (g.new w.heap.size arr im tg ad) st.dead (fun t=> st.dead t || dead t) (fun nm=> (st.mem nm).isSome) Yg)/\
  (∀ i,(w1.alloc (.cells arr e)).cell? ⟨w.heap.size,i,none⟩=arr[i]?)/\
  (∀ c v,w.cell? c=some v->(w1.alloc (.cells arr e)).cell? c=some v):=by
 have af:w1.heap.size=w.heap.size:=by rw [hw.heap]
 have ab:∀ c:Addr,c.block < w.heap.size->(w1.alloc (.cells arr e)).cell? c=w.cell? c:=fun c hc=> by
  rw [World.cell?_alloc_lt w1 _ c (by omega),hw.cell]
 have aa:∀ i,(w1.alloc (.cells arr e)).cell? ⟨w.heap.size,i,none⟩=arr[i]?:=fun i=> by
  rw [<-af];simp
 have am:∀ c v,g.m c=some v->c.block < w.heap.size:=fun c v s=> h.inv.lt' s
 have al:∀ c t,g.tag c=some t->c.block < w.heap.size:=fun c t u=> h.inv.lt u
 have ai:∀ c v,g.m c=some v->(g.new w.heap.size arr im tg ad).m c=some v:=fun c v s=> by
  have:=am c v s
  simp only [Gh.new]
  grind
 have av:∀ c:Addr,c.block < w.heap.size->(g.new w.heap.size arr im tg ad).tag c=g.tag c:=fun c hc=> by
  simp only [Gh.new]
  grind
 have ah:Inv (g.new w.heap.size arr im tg ad).m (g.new w.heap.size arr im tg ad).tag (w1.alloc (.cells arr e)):=by
  refine ⟨?_,?_⟩
  .intro c v s
   simp only [Gh.new] at s ⊢
   split at s
   .rename_i hc
    rw [if_pos hc]
    split at s
    .rename_i ao
     obtain ⟨cb,co,cs⟩:=c
     simp only at hc ao s
     obtain ⟨rfl,rfl⟩:=hc
     refine ⟨(aa co).trans s,?_⟩
     cases htc:tg co with
     | none=> rfl
     | some t=> grind
    .cases s
   .rename_i hc
    rw [if_neg hc]
    obtain ⟨h1,h2⟩:=h.inv.im c v s
    grind
  .intro c t u
   simp only [Gh.new] at u
   split at u
   .rename_i hc
    obtain ⟨cb,co,cs⟩:=c
    simp only at hc u
    obtain ⟨rfl,rfl⟩:=hc
    obtain ⟨h1,_,_⟩:=htg co t u
    refine ⟨by rw [<-af];simp,arr[co],(aa co).trans (QY h1)⟩
   .obtain ⟨h1,v,h2⟩:=h.inv.it c t u
    have ak:=al c t u
    exact ⟨by rw [World.frozen?_alloc_old w1 _ c (by omega),hw.frozen];exact h1,v,(ab c ak).trans h2⟩
 refine ⟨ah,?_,?_,aa,fun c v s=> (ab c (World.block_lt_of_cell? w c s)).trans s⟩
 .refine h.fr.step h.inv ((hw.evo (fun _=> False)).trans (Evo.alloc w1 _ _)) (fun c hc=> hc.elim) ai ?_ ?_ hax
  .intro c t
   constructor
   .grind
   .intro u
    simp only [Gh.new] at u
    grind
  grind
 .intro dead Yg hl
  refine ⟨ai,fun c t _ u=> by grind,fun t u=> ?_,fun nm hn=> ⟨hl nm hn,had nm hn⟩,fun _ _ _ h=> h,hax⟩
  grind
theorem Zkm (h:Rel cfg B st g a w) {g':Gh} {w':World} {dead2:Tok->Bool} {live2:Name->Bool} (k:Keeps g g' st.dead dead2 (fun nm=> (st.mem nm).isSome) live2)
  (hc:∀ c v,w.cell? c=some v->w'.cell? c=some v) (ht:∀ c t,g.tag c=some t->g'.tag c=some t):
  ∀ nm cs,st.mem nm=some cs->∀ j c,cs[j]?=some c->∃ v,w'.cell? ((g'.ad nm).add j)=some v/\g'.tag ((g'.ad nm).add j)=some (.obj nm)/\RelC cfg g' dead2 v c:=by
 intro nm cs u j c hj
 obtain ⟨v,h1,h2,h3⟩:=h.mem nm cs u j c hj
 have s:=(k.ad nm (by simp [u])).2
 rw [s]
 exact ⟨v,hc _ _ h1,ht _ _ h2,h3.keep k⟩
theorem Z7m(st:FSt U){e:Eff U}(h:e.kill=[]):Zq st e=fun t=> st.dead t || (fun _=> false) t:=by
 funext t;simp [Zq,h]
theorem Zj1(h:Rel cfg B st g a w){d:Nat}{zs:List (C U)}{arr:Array Value}(e:TypeId)(hn:st.mem (.loc d)=none)(hr:RelL cfg g st.dead arr.toList zs):
  ∃ g',Out cfg B st g { val:=some (.ptr (.loc d) 0),mem:=[(.loc d,zs)] } (.pointer (some ⟨w.heap.size,0,none⟩)) (w.alloc (.cells arr e)) g':=by
 let ad:Name->Addr:=fun nm=> if nm= .loc d then ⟨w.heap.size,0,none⟩ else g.ad nm
 let tg:Nat->Option Tag:=fun i=> if i < arr.size then some (.obj (.loc d)) else none
 have ah:∀ nm,(st.mem nm).isSome=true->ad nm=g.ad nm:=by
  intro nm hs
  simp only [ad]
  rw [if_neg (fun e=> by subst e;simp [hn] at hs)]
 obtain ⟨h1,h2,h3,h4,h5⟩:=Zod h (SameHeap.refl w) arr e (fun _=> false) tg ad (by
  grind) ah (fun k=> by simp [ad])
 have s:Keeps g (g.new w.heap.size arr (fun _=> false) tg ad) st.dead (Zq st ({ val:=some (.ptr (.loc d) 0),mem:=[(.loc d,zs)] }:Eff U)) (fun nm=> (st.mem nm).isSome) (Yg st ({ val:=some (.ptr (.loc d) 0),mem:=[(.loc d,zs)] }:Eff U)):=by
  rw [Z7m st rfl]
  refine h3 _ _ ?_
  intro nm hs
  simp only [Yg,ZW]
  split
  .try rfl
  .exact hs
 refine ⟨g.new w.heap.size arr (fun _=> false) tg ad,h1,h2,?_,?_,?_,h.ls_keep rfl s (fun c v hv=> h5 _ _ (h.inv.im c v hv).1) (fun c t _ ht=> by obtain ⟨_,v,hv⟩:=h.inv.it c _ ht;grind),h.fresh_keep rfl (fun _=> rfl)⟩
 .omega
 .rw [Z7m st rfl]
  have k:=h3 (fun _=> false) (Yg st ({ val:=some (.ptr (.loc d) 0),mem:=[(.loc d,zs)] }:Eff U)) (by
   intro nm hs
   simp only [Yg,ZW]
   grind)
  intro nm cs hm j c hj
  simp only [ZW] at hm
  split at hm
  .rename_i ai
   subst ai
   simp only [Option.some.injEq] at hm
   subst hm
   have u:j < arr.size:=by have h6:=(Q8.1 hj).1;have h7:=hr.1;simp at h7;omega
   have e1:(g.new w.heap.size arr (fun _=> false) tg ad).ad (.loc d)=⟨w.heap.size,0,none⟩:=by simp [Gh.new,ad]
   rw [e1,Addr.add_lit,QU]
   refine ⟨arr[j],(h4 j).trans (QY u),?_,?_⟩
   .simp [Gh.new,tg,u]
   .exact (hr.2 j _ c (by simp [u]) hj).keep k
  .refine Zkm h k h5 ?_ nm cs hm j c hj
   intro c t ht
   have:=h.inv.lt ht
   simp only [Gh.new]
   grind
 .refine ⟨by simp [Yg,ZW],?_⟩
  simp [Gh.new,ad,Addr.add]
theorem Z2H(ok:CfgOk P cfg){t:TypeId}{ag:Bool}{zs:List (C U)}(ht:cfg.var t=some (ag,zs))(w:World):
  ∃ z,(zeroValue t).run P w= .ok z w/\ZCt ag z zs:=by
 obtain ⟨h,i,z,d,u,h2,h3,h4,h5,s,_⟩:=ok.var _ _ _ ht
 exact ⟨z,by simp [zeroValue,typeInfo,u,h5],s⟩
theorem Znc(ok:CfgOk P cfg)(h:Rel cfg B st g a w){o:Oper}{t:TypeId}{d:Nat}{ag:Bool}{zs:List (C U)}(ho:o.op= .alloc t)(ht:cfg.var t=some (ag,zs))(hn:st.mem (.loc d)=none):
  Does P o a w fun v u=> ∃ g',Out cfg B st g { val:=some (.ptr (.loc d) 0),mem:=[(.loc d,zs)] } v u g':=by
 obtain ⟨z,hz,s⟩:=Z2H ok ht w
 refine .inl ⟨_,_,?_,Zj1 h t hn (Z0M s)⟩
 simp [execOp,ho,Instr.alloc,hz,newVar,newRow]
theorem Zuw (h:Rel cfg B st g a w) {o:Oper} {t:TypeId} {x:Operand} {d:Nat} {cs:List (C U)} {v:V U} (ho:o.op= .box t x)
  (hv:RelV cfg g st.dead (fun nm=> (st.mem nm).isSome) (a.eval x) v) (hcs:v.cells=some cs) (hn:st.mem (.loc d)=none):
  Does P o a w fun v s=> ∃ g',Out cfg B st g { val:=some (.ptr (.loc d) 0),mem:=[(.loc d,cs)] } v s g':=by
 refine .inl ⟨_,_,?_,Zj1 h t hn (hv.cells hcs)⟩
 simp [execOp,ho,Instr.box,newVar,newRow]
theorem ZcX (ok:CfgOk P cfg) (h:Rel cfg B st g a w) {o:Oper} {t:TypeId} {p x:Operand} {ag:Bool} {zs cs cs' new:List (C U)} {nm:Name} {off:Nat} {v:V U} (ho:o.op= .store t p x)
  (ht:cfg.var t=some (ag,zs)) (hp:RelV cfg g st.dead (fun nm=> (st.mem nm).isSome) (a.eval p) (.ptr nm off)) (hv:RelV cfg g st.dead (fun nm=> (st.mem nm).isSome) (a.eval x) v)
  (hnew:v.cells=some new) (hcs:st.mem nm=some cs) (hl:new.length=zs.length) (hset:YS cs off new=some cs'):
  Does P o a w fun v w'=> ∃ g',Out cfg B st g { mem:=[(nm,cs')] } v w' g':=by
 obtain ⟨_,hp⟩:=hp
 obtain ⟨hs,_,_⟩:=Z45 ok ht w
 have af:=hv.cells hnew
 have av:off+new.length<=cs.length:=by unfold YS at hset;grind
 have au:(a.eval x).cells.toList.length=new.length:=af.1
 have ab:∀ j,j < cs.length->∃ v c,cs[j]?=some c/\w.cell? ((g.ad nm).add j)=some v/\g.tag ((g.ad nm).add j)=some (.obj nm)/\RelC cfg g st.dead v c:=fun j s=>
  let ⟨v,h1,h2,h3⟩:=h.mem nm cs hcs j _ (Q4 s)
  ⟨v,_,Q4 s,h1,h2,h3⟩
 obtain ⟨w',h1,h2,h3,h4,h5,h6⟩:=JH (P:=P) ((g.ad nm).add off) (a.eval x).cells.toList 0 w af.one (by
  intro j s
  rw [Go.Deep.add_add,QU]
  obtain ⟨u,c,_,hu,aa,_⟩:=ab (off+j) (by omega)
  exact ⟨⟨u,hu⟩,(h.inv.it _ _ aa).1⟩)
 simp only [QU,Go.Deep.add_add] at h2 h3 h4
 refine .inr (.inl ⟨w',?_,g,?_⟩)
 .have a2:(a.eval x).cells.size=zs.length:=by simpa using au.trans hl
  simp only [execOp,ho,hp]
  simp [Instr.storeAt,Instr.sureAddr,storeVar,hs,a2,h1]
 .have ah:∀ c,(∃ j,j < (a.eval x).cells.toList.length/\c=(g.ad nm).add (off+j))->g.tag c=some (.obj nm):=by
   rintro c ⟨j,s,rfl⟩
   obtain ⟨_,_,_,_,aa,_⟩:=ab (off+j) (by omega)
   exact aa
  have ai:∀ c,g.tag c≠some (.obj nm)->w'.cell? c=w.cell? c:=fun c hc=> h4 c fun j s e=> hc (ah c ⟨j,s,e⟩)
  have aq:∀ c v,g.m c=some v->w'.cell? c=some v:=fun c v hv=> by
   obtain ⟨h7,h8⟩:=h.inv.im c v hv
   grind
  have ae:Keeps g g st.dead (Zq st ({ mem:=[(nm,cs')] }:Eff U)) (fun nm=> (st.mem nm).isSome) (Yg st ({ mem:=[(nm,cs')] }:Eff U)):=by
   rw [Z7m st rfl]
   refine ⟨fun _ _ h=> h,fun _ _ _ h=> h,fun t ht=> by simpa using ht,fun n hn=> ⟨?_,rfl⟩,fun _ _ _ h=> h,fun _=> rfl⟩
   simp only [Yg,ZW]
   split
   .try rfl
   .exact hn
  refine ⟨⟨fun c v hv=> ⟨aq c v hv,(h.inv.im c v hv).2⟩,fun c t a3=> ?_⟩,?_,ae,?_,trivial,h.ls_keep rfl ae aq (fun c t _ ht=> ai c (by rw [ht];simp)),h.fresh_keep rfl (fun _=> rfl)⟩
  .obtain ⟨h7,u,h8⟩:=h.inv.it c t a3
   grind
  .exact h.fr.step h.inv h2 (fun c hc=> ⟨_,ah c hc,fun t' e=> by cases e⟩) (fun _ _ h=> h) (fun _ _=> QN) (fun _ _ _ _ _=> rfl) (fun _=> rfl)
  .rw [Z7m st rfl]
   simp only [QC]
   intro a9 a6 hm j c s
   simp only [ZW] at hm
   split at hm
   .rename_i e
    subst e
    simp only [Option.some.injEq] at hm
    subst hm
    have a0:cs'.length=cs.length:=by
     unfold YS at hset
     rw [if_pos av] at hset
     simp only [Option.some.injEq] at hset
     subst hset;simp;omega
    have a8:j < cs.length:=by have:=(Q8.1 s).1;omega
    obtain ⟨v0,c0,aw,aj,aa,ak⟩:=ab j a8
    unfold YS at hset
    rw [if_pos av] at hset
    simp only [Option.some.injEq] at hset
    subst hset
    simp only [Qo] at s
    rw [QK] at s
    simp only [Qr] at s
    rw [Xo (by omega)] at s
    split at s
    .rename_i a1
     rw [Xl a1,aw] at s
     cases s
     refine ⟨v0,?_,aa,ak⟩
     rw [h4 _ (fun i hi e=> by have:=Z2h e;omega)];exact aj
    .rename_i bf
     rw [QK] at s
     split at s
     .rename_i ba
      have hx:(a.eval x).cells.toList[j - off]?=some ((a.eval x).cells.toList[j - off]'(by omega)):=Q4 _
      have:=h3 (j - off) _ hx
      rw [show off+(j - off)=j by omega] at this
      exact ⟨_,this,aa,af.2 _ _ c hx s⟩
     .rename_i bc
      rw [Qz,show off+new.length+(j - off - new.length)=j by omega,aw] at s
      cases s
      refine ⟨v0,?_,aa,ak⟩
      rw [h4 _ (fun i hi e=> by have:=Z2h e;omega)];exact aj
   .rename_i e
    obtain ⟨v0,aj,aa,ak⟩:=h.mem a9 a6 hm j c s
    grind
theorem Zj3{k:IntKind}{n v:Int}:∀ (l:List Int) (j0 j:Nat),(Z2F (U:=U) k n v j0 l)[j]?=(l[j]?).map fun x=> .int k (Z2w n (j0+j) v x)
 | [],j0,j=> by simp [Z2F]
 | x ::l,j0,0=> by simp [Z2F]
 | x ::l,j0,j+1=> by
  simp only [Z2F,List.getElem?_cons_succ]
  rw [Zj3 l (j0+1) j,show j0+1+j=j0+(j+1) by omega]
theorem Z8B{k:IntKind}{n v:Int}:∀ (l:List Int) (j0:Nat),(Z2F (U:=U) k n v j0 l).length=l.length
 | [],_=> rfl
 | x ::l,j0=> by simp [Z2F,Z8B l]
theorem ZuD{k:IntKind}{cs:List (C U)}{off len:Nat}{n x:Int}{l:List Int}(hle:off+len<=cs.length)(hl:Z1K k ((cs.drop off).take len)=some l)(hn:0<=n/\n < len):
  YS cs (off+n.toNat) [.int k x]=some (cs.take off++Z2F k n x 0 l++cs.drop (off+len)):=by
 obtain ⟨h1,h2⟩:=Z31 hl
 have u:l.length=len:=by rw [h1,Qr,X9];omega
 have h:∀ j,j < len->cs[off+j]?=some (.int k (l.getD j 0)):=by
  intro j hj
  have s:l[j]?=some (l.getD j 0):=by simp [List.getD,Q4 (show j < l.length by omega)]
  have:=h2 j _ s
  rw [Xd,Qz,if_pos hj] at this
  exact this
 unfold YS
 rw [if_pos (by simp;omega)]
 congr 1
 apply XD
 intro j
 simp only [Qo,Qm,Qp]
 by_cases h3:j < off
 .grind
 .have e2:(cs.take off++(Z2F k n x 0 l++cs.drop (off+len)))[j]?=(Z2F k n x 0 l++cs.drop (off+len))[j - off]?:=by
   rw [Qu (by simp;omega)]
   congr 1
   simp;omega
  rw [e2]
  by_cases h4:j < off+len
  .have s:l[j - off]?=some (l.getD (j - off) 0):=by simp [List.getD,Q4 (show j - off < l.length by omega)]
   have e6:(Z2F k n x 0 l++cs.drop (off+len))[j - off]?=some (.int k (Z2w n (j - off:Nat) x (l.getD (j - off) 0))):=by
    rw [QH (l₁:=Z2F k n x 0 l) (by rw [Z8B];omega),Zj3,s,Qi,QU]
   rw [e6]
   by_cases h5:j=off+n.toNat
   .subst h5
    rw [Qu (by grind),QH (by simp;omega)]
    have e3:off+n.toNat - (cs.take (off+n.toNat)).length=0:=by simp;omega
    rw [e3]
    simp only [XW,Z2w]
    grind
   .have e4:Z2w n (j - off:Nat) x (l.getD (j - off) 0)=l.getD (j - off) 0:=by
     unfold Z2w
     omega
    rw [e4]
    have e5:=h (j - off) (by omega)
    rw [show off+(j - off)=j by omega] at e5
    rw [<-e5]
    by_cases h6:j < off+n.toNat
    .rw [QH (by simp;omega),Xl h6]
    .rw [Qu (by simp;omega),Qu (by simp;omega),Qz]
     congr 1
     simp;omega
  .have e6:(Z2F k n x 0 l++cs.drop (off+len))[j - off]?=cs[j]?:=by
    rw [Qu (l₁:=Z2F k n x 0 l) (by rw [Z8B];omega),Qz,Z8B]
    congr 1
    omega
   rw [e6,Qu (by simp;omega),Qu (by simp;omega),Qz]
   congr 1
   simp;omega
theorem Zfe (ok:CfgOk P cfg) (h:Rel cfg B st g a w) {o:Oper} {t:TypeId} {p x:Operand} {ag:Bool} {zs cs:List (C U)} {nm:Name} {off len:Nat} {k:IntKind} {n y:Int} {l:List Int} {v:V U} (ho:o.op= .store t p x)
  (ht:cfg.var t=some (ag,zs)) (hp:RelV cfg g st.dead (fun nm=> (st.mem nm).isSome) (a.eval p) (.ap nm off k len n)) (hv:RelV cfg g st.dead (fun nm=> (st.mem nm).isSome) (a.eval x) v)
  (hnew:v.cells=some [.int k y]) (hcs:st.mem nm=some cs) (hz:zs.length=1) (hle:off+len<=cs.length) (hl:Z1K k ((cs.drop off).take len)=some l):
  Does P o a w fun v s=> ∃ g',Out cfg B st g { mem:=[(nm,cs.take off++Z2F k n y 0 l++cs.drop (off+len))] } v s g':=
 ZcX ok h ho ht (nm:=nm) (off:=off+n.toNat) ⟨hp.1,hp.2.2⟩ hv hnew hcs hz.symm (ZuD hle hl hp.2.1)
theorem Zfw (ok:CfgOk P cfg) (h:Rel cfg B st g a w) {o:Oper} {t et:TypeId} {x:Operand} {len:Nat} {T:U.Ty} {cs:List (C U)} {nm:Name} {l:List (U.El T)} (ho:o.op= .slice t x none none none)
  (ht:cfg.arr t=some (len,et)) (hT:cfg.elT T=et) (hp:RelV cfg g st.dead (fun nm=> (st.mem nm).isSome) (a.eval x) (.ptr nm 0)) (hcs:st.mem nm=some cs) (hlen:cs.length=len) (hsz:cfg.sz T=1)
  (hl:(cs.mapM fun c=> cfg.dec T [c])=some l):
  Does P o a w fun v w'=> ∃ g',Out cfg B st g { val:=some (.c (.slice T l .full)),mem:=[(nm,[])] } v w' g':=by
 classical
 obtain ⟨_,hp⟩:=hp
 have h1:=ok.arr _ _ _ ht
 have ao:P.arrayLen t=len:=by simp [Program.arrayLen,h1]
 have aw:P.elem t=et:=by simp [Program.elem,h1]
 have ae:=JE ok T w
 have a7:l.length=cs.length:=mapM_length hl
 let g':Gh:={ m:=fun c=> if g.tag c=some (.obj nm) then w.cell? c else g.m c,tag:=fun c=> if g.tag c=some (.obj nm) then none else g.tag c,ad:=g.ad,bs:=g.bs }
 have hm:∀ c v,g.m c=some v->g'.m c=some v:=fun c v hv=> by
  have:=(h.inv.im c v hv).2
  grind
 have u:∀ c t,t≠.obj nm->(g.tag c=some t↔g'.tag c=some t):=by
  intro c t ai
  simp only [g']
  split
  .rename_i e
   rw [e]
   constructor
   .intro h;cases h;exact absurd rfl ai
   .intro h;cases h
  .exact QN
 have hk:Keeps g g' st.dead (Zq st ({ val:=some (.c (.slice T l .full)),mem:=[(nm,[])] }:Eff U)) (fun nm=> (st.mem nm).isSome) (Yg st ({ val:=some (.c (.slice T l .full)),mem:=[(nm,[])] }:Eff U)):=by
  rw [Z7m st rfl]
  refine ⟨hm,fun c t _ ht=> (u c _ (by simp)).1 ht,fun t ht=> by simpa using ht,fun n hn=> ⟨?_,rfl⟩,fun _ _ _ h=> h,fun _=> rfl⟩
  simp only [Yg,ZW]
  split
  .try rfl
  .exact hn
 refine .inl ⟨.slice (some (g.ad nm)) len len,w,?_,g',⟨?_,?_⟩,?_,hk,?_,?_,h.ls_keep rfl hk (fun c v hv=> (h.inv.im c v hv).1) (fun _ _ _ _=> rfl),h.fresh_keep rfl (fun _=> rfl)⟩
 .simp only [execOp,ho,hp,Option.map_none]
  apply Zat
  rw [Addr.add_zero',run_sliceAt_array_all w t _ (by grind),aw,<-hT,ae]
  simp [slicedAt,ao,Addr.add_zero']
 .intro c v hv
  simp only [g'] at hv ⊢
  split at hv
  .grind
  .rename_i e
   rw [if_neg e]
   exact h.inv.im c v hv
 .intro c t ht
  simp only [g'] at ht
  split at ht
  .cases ht
  .exact h.inv.it c t ht
 .refine h.fr.step h.inv (Evo.refl w (fun _=> False)) (fun c hc=> hc.elim) hm (fun c t=> u c _ (by simp)) ?_ (fun _=> rfl)
  grind
 .intro ax au s j c hj
  simp only [ZW] at s
  split at s
  .grind
  .rename_i ai
   obtain ⟨v,h3,h4,h5⟩:=h.mem ax au s j c hj
   refine ⟨v,h3,(u _ _ (by grind)).1 h4,h5.keep hk⟩
 .refine ⟨.of_rows .full (by omega) (Qb _) ?_,fun _ _ _ hv=> by cases hv;rfl⟩
  intro i y hy j c hj
  have hi:i < cs.length:=by have:=(Q8.1 hy).1;omega
  obtain ⟨y',aj,af⟩:=Z79 hl i _ (Q4 hi)
  rw [hy] at aj
  cases aj
  obtain ⟨h6,h7⟩:=ok.dec_ok T _ _ af
  have al:j=0:=by have:=(Q8.1 hj).1;simp at h6;omega
  subst al
  obtain ⟨v,h8,h9,av⟩:=h.mem nm cs hcs i _ (Q4 hi)
  refine ⟨v,?_,(av.1.mono hm).wk (h7 0 _ c rfl hj)⟩
  grind
where
 mapM_length {α β:Type} {f:α->Option β}:∀ {l:List α} {r:List β},l.mapM f=some r->r.length=l.length
  | [],r,h=> by grind
  | x ::l,r,h=> by
   rw [X7] at h
   cases h1:f x with
   | none=> simp [h1] at h
   | some y=>
    cases h2:l.mapM f with
    | none=> grind
    | some r'=>
     simp [h1,h2] at h
     subst h
     simp [mapM_length h2]
end Go.AM
