import Derived.Orders
import Derived.Below
import Derived.KernelRfl
set_option linter.unusedSimpArgs false
set_option linter.unusedVariables false
namespace Go.AM
theorem JR {p:Prop}(h:p:=by (repeat' (first | exact trivial | exact rfl | apply And.intro))):p:=h
theorem YL {p:Prop}(h:p:=by omega):p:=h
theorem V0 {c:Prop}[Decidable c]{α:Type _}{a b:α}(h:¬c:=by omega):(if c then a else b)=b:=if_neg h
theorem V1 {c:Prop}[Decidable c]{α:Type _}{a b:α}(h:c:=by omega):(if c then a else b)=a:=if_pos h
theorem V2 {p:Prop}(h:p:=by decide):p:=h
theorem V3 {p:Prop}(h:p:=by unfold InR;omega):p:=h
theorem V4 {p:Prop}(h:p:=by kernel_rfl):p:=h
theorem V5 {p:Prop}(h:p:=by dsimp only;omega):p:=h
abbrev Q0:=@List.mem_cons_of_mem
abbrev Q1:=@List.eq_nil_of_length_eq_zero
abbrev Q2:=@Bool.and_eq_true
abbrev Q3:=@List.mem_cons_self
abbrev Q4:=@List.getElem?_eq_getElem
abbrev Q5:=@List.getElem?_eq_some_iff
abbrev Q6:=@List.drop_of_length_le
abbrev Q7:=@List.length_cons
abbrev Q8:=@Nat.le_refl
abbrev Q9:=@List.mem_cons
abbrev Qa:=@Nat.eq_of_beq_eq_true
abbrev Qb:=@List.append_assoc
abbrev Qc:=@Option.map_eq_some_iff
abbrev Qd:=@List.length_append
abbrev Qe:=@Nat.mul_le_mul_right
abbrev Qf:=@Option.map_some
abbrev Qg:=@List.mem_singleton
abbrev Qh:=@List.getD_eq_getElem?_getD
abbrev Qi:=@List.mem_append
abbrev Qj:=@List.length_nil
abbrev Qk:=@List.cons_append
abbrev Ql:=@List.take_of_length_le
abbrev Qm:=@Option.bind_some
abbrev Qn:=@List.length_take
abbrev Qo:=@List.map_cons
abbrev Qp:=@List.getD_cons_zero
abbrev Qq:=@List.nil_append
abbrev Qr:=@Bool.eq_iff_iff
abbrev Qs:=@List.append_nil
abbrev Qt:=@Option.bind_eq_some_iff
abbrev Qu:=@List.getElem?_drop
abbrev Qv:=@Option.isSome_iff_exists
abbrev Qw:=@List.length_singleton
abbrev Qx:=@List.getElem?_append_right
abbrev Qy:=@List.getElem?_map
abbrev Qz:=@List.all_eq_true
abbrev QA:=@List.drop_eq_nil_of_le
abbrev QB:=@Nat.add_mul
abbrev QC:=@List.length_map
abbrev QD:=@List.getElem?_append
abbrev QE:=@Bool.or_eq_false_iff
abbrev QF:=@List.length_drop
abbrev QG:=@Option.isNone_iff_eq_none
abbrev QH:=@List.take_append_drop
abbrev QI:=@List.length_eq_zero_iff
abbrev QJ:=@Nat.le_trans
abbrev QK:=@List.drop_succ_cons
abbrev QL:=@List.drop_eq_getElem_cons
abbrev QM:=@Iff.rfl
abbrev QN:=@List.getElem?_eq_none
abbrev QO:=@Array.getElem?_eq_some_iff
abbrev QP:=@Nat.zero_add
abbrev QQ:=@List.map_nil
abbrev QR:=@List.map_map
abbrev QS:=@List.mem_of_mem_drop
abbrev QU:=@Array.getElem?_eq_getElem
abbrev QV:=@Nat.lt_of_lt_of_le
abbrev QW:=@List.getElem?_take
abbrev QX:=@Bool.true_and
abbrev QY:=@Bool.not_eq_true'
abbrev QZ:=@Int.eq_ofNat_of_zero_le
abbrev X2:=@List.mapM_cons
abbrev X3:=@List.mem_of_getElem?
abbrev X4:=@List.mem_map
abbrev X5:=@List.mem_append_left
abbrev X6:=@List.getElem?_append_left
abbrev X7:=@Int.toNat_natCast
abbrev X8:=@List.getElem?_take_of_lt
abbrev X9:=@Nat.testBit_two_pow_mul_add
abbrev Xa:=@List.mem_of_mem_take
abbrev Xb:=@List.drop_zero
abbrev Xc:=@List.mem_map_of_mem
abbrev Xd:=@Classical.byContradiction
abbrev Xe:=@Int.le_refl
abbrev Xf:=@Array.ext'
abbrev Xg:=@Option.getD_some
abbrev Xh:=@List.flatMap_cons
abbrev Xi:=@List.getElem_of_mem
abbrev Xj:=@Bool.not_eq_true
abbrev Xk:=@Nat.div_div_eq_div_mul
abbrev Xl:=@Nat.mul_comm
abbrev Xm:=@Bool.or_self
abbrev Xn:=@Bool.false_eq_true
abbrev Xo:=@Nat.min_eq_left
abbrev Xp:=@List.mem_append_right
abbrev Xq:=@List.length_replicate
abbrev Xr:=@Option.isSome_map
abbrev Xs:=@Nat.div_lt_of_lt_mul
abbrev Xt:=@List.exists_mem_of_ne_nil
abbrev Xu:=@List.eq_of_mem_replicate
abbrev Xv:=@Array.toList_map
abbrev Xw:=@List.replicate_succ
abbrev Xx:=@List.mem_filterMap
abbrev Xy:=@List.map_append
abbrev Xz:=@List.map_eq_append_iff
abbrev XA:=@List.contains_nil
abbrev XB:=@Int.tdiv_eq_ediv_of_nonneg
abbrev XC:=@Nat.div_add_mod
abbrev XD:=@Nat.add_zero
abbrev XE:=@Nat.add_comm
abbrev XF:=@Nat.mod_lt
abbrev XG:=@List.drop_drop
abbrev XH:=@Nat.le_mul_of_pos_right
abbrev XI:=@List.getElem?_cons_zero
abbrev XJ:=@List.take_add_one
abbrev XK:=@Int.pow_pos
abbrev XL:=@Bool.and_true
abbrev XM:=@Nat.mod_eq_of_lt
abbrev XN:=@List.take_succ_eq_append_getElem
abbrev XO:=@Nat.le_div_iff_mul_le
abbrev XP:=@Nat.mul_add_mod
abbrev XQ:=@Nat.lt_or_ge
abbrev XR:=@Int.ofNat_eq_natCast
abbrev XT:=@Int.le_of_lt
abbrev XU:=@Bool.or_eq_true
abbrev XV:=@Array.append_assoc
abbrev XW:=@Bool.not_true
abbrev XX:=@Bool.false_or
abbrev XY:=@List.getElem?_set
abbrev XZ:=@List.mem_flatMap
abbrev K0:=@List.ext_getElem
abbrev K1:=@Int.pow_succ
abbrev K2:=@Int.ediv_le_self
abbrev K3:=@Int.ediv_nonneg
abbrev K4:=@Nat.zero_le
abbrev K5:=@Nat.sub_mul
structure Uni where
 Ty:Type
 El:Ty->Type
inductive Tok where
 | e (k j:Nat) | l (s j:Nat) | x (k j:Nat) | r (d j:Nat) | z (s j:Nat)
 deriving DecidableEq
def Tok.isR:Tok->Bool
 | .r _ _=> true
 | .z _ _=> true
 | _=> false
inductive Tail where
 | unk | full | own (t:Tok)
 deriving DecidableEq
inductive Name where
 | loc (s:Nat) | x (k:Nat)
 deriving DecidableEq
inductive C (U:Uni):Type where
 | int (k:IntKind) (n:Int)
 | bool (b:Bool)
 | nils
 | nilp
 | slice (T:U.Ty) (l:List (U.El T)) (tl:Tail)
 | mref (t:Tok)
 | po (T:U.Ty) (o:Option (U.El T))
 | xp (k:Nat)
 | jk
structure LC (U:Uni) where
 T:U.Ty
 l:List (U.El T)
 f:Nat
def Name.isX:Name->Bool
 | .x _=> true
 | .loc _=> false
inductive V (U:Uni):Type where
 | c (x:C U)
 | agg (cs:List (C U))
 | tup (vs:List (Bool × List (C U)))
 | ptr (nm:Name) (off:Nat)
 | ap (nm:Name) (off:Nat) (k:IntKind) (len:Nat) (n:Int)
 | ep (cs:List (C U))
 | mp (t:Tok) (n off:Nat)
 | vw (t:Tok) (n:Nat)
 | fn (f:FuncId)
 | clo (f:FuncId) (nms:List Name)
 | gd (g:Bool) (v:V U)
 | nb (p q:Prop)
 | junk
variable {U:Uni}
def C.mapTok(f f2:Tok->Option Tok)(fx:Nat->Option Nat):C U->C U
 | .slice T l (.own t)=> .slice T l (match f t with | some t'=> .own t' | none=> .unk)
 | .mref t=> match f2 t with
  | some t'=> .mref t'
  | none=> .jk
 | .xp k=> match fx k with
  | some k'=> .xp k'
  | none=> .jk
 | c=> c
def V.mapTok(f f2:Tok->Option Tok)(fx:Nat->Option Nat):V U->V U
 | .c x=> .c (x.mapTok f f2 fx)
 | .agg cs=> .agg (cs.map (C.mapTok f f2 fx))
 | .tup vs=> .tup (vs.map fun x=> (x.1,x.2.map (C.mapTok f f2 fx)))
 | .ep cs=> .ep (cs.map (C.mapTok f f2 fx))
 | .gd b v=> .gd b (v.mapTok f f2 fx)
 | .nb p q=> .nb p q
 | .ptr .. => .junk
 | .ap .. => .junk
 | .fn f=> .fn f
 | .mp .. => .junk
 | .vw .. => .junk
 | .clo .. => .junk
 | .junk=> .junk
structure Cfg (U:Uni) where
 tyEq:DecidableEq U.Ty
 dflt:(T:U.Ty)->U.El T
 enc:(T:U.Ty)->U.El T->List (C U)
 dec:(T:U.Ty)->List (C U)->Option (U.El T)
 aggT:U.Ty->Bool
 sz:U.Ty->Nat
 bytes:U.Ty->Nat
 elT:U.Ty->TypeId
 slT:TypeId->Option U.Ty
 var:TypeId->Option (Bool × List (C U))
 fld:TypeId->Nat->Option (Nat × TypeId)
 arr:TypeId->Option (Nat × TypeId)
 eqs:TypeId->Bool
def Zgs(fn:List (V U)->List (List (C U))->Option (List Prop × V U × List (List (C U)))):List (V U)->List (List (C U))->List (Tok × LC U)->Option (List Prop × V U × List (List (C U)) × List (Tok × LC U)):=fun xs X L=>
 match L with
 | []=> match fn xs X with
  | some (ps,r,X')=> some (ps,r,X',[])
  | none=> none
 | _ ::_=> none
structure Fs (U:Uni) where
 pass:Nat->Bool:=fun _=> false
 wr:Bool:=false
 mkl:Bool:=false
 bor:Bool:=false
 obj:Bool:=false
 fn:List (V U)->List (List (C U))->Option (List Prop × V U × List (List (C U)))
 fn2:List (V U)->List (List (C U))->List (Tok × LC U)->Option (List Prop × V U × List (List (C U)) × List (Tok × LC U)):=Zgs fn
structure Known (U:Uni) where
 fn:FuncId->Option (Fs U)
 wr:Bool
 ml:Bool
instance:CoeFun (Known U) (fun _=> FuncId->Option (Fs U)):=⟨Known.fn⟩
structure FSt (U:Uni) where
 n:Nat
 env:Nat->V U
 mem:Name->Option (List (C U))
 dead:Tok->Bool
 ls:Tok->Option (LC U)
 mu:Bool
 vw:Bool
structure Eff (U:Uni) where
 val:Option (V U):=none
 mem:List (Name × List (C U)):=[]
 kill:List Tok:=[]
 ls:List (Tok × LC U):=[]
def FSt.put(st:FSt U)(d:Option Nat)(v:V U):FSt U:=
 match d with
 | some k=> { st with env:=fun j=> bif Nat.beq j k then v else st.env j }
 | none=> st
def ZL(m:Name->Option (List (C U))):List (Name × List (C U))->Name->Option (List (C U))
 | [],nm=> m nm
 | (a,cs) ::r,nm=> if nm=a then some cs else ZL m r nm
def ZC(m:Tok->Option (LC U)):List (Tok × LC U)->Tok->Option (LC U)
 | [],t=> m t
 | (a,x) ::r,t=> if t=a then some x else ZC m r t
def Z06(m:Tok->Option (LC U))(e:Eff U):Tok->Option (LC U):=fun t=> bif e.kill.contains t then none else ZC m e.ls t
def FSt.app(st:FSt U)(d:Option Nat)(e:Eff U):FSt U:=
 {st.put d (e.val.getD .junk) with mem:=ZL st.mem e.mem,dead:=fun t=> st.dead t || e.kill.contains t,ls:=Z06 st.ls e }
def Z0k:Value->Option (C U)
 | .int k n=> some (.int k n)
 | .bool b=> some (.bool b)
 | .slice none 0 0=> some .nils
 | .pointer none=> some .nilp
 | _=> none
def ZiT:Value->Option (V U)
 | .agg cs=> (cs.toList.mapM Z0k).map .agg
 | v=> (Z0k v).map .c
def FSt.opnd(st:FSt U):Operand->Option (V U)
 | .tmp t=> some (st.env t)
 | .const v=> ZiT v
 | .func f=> some (.fn f)
 | .global _=> none
def V.cells:V U->Option (List (C U))
 | .c x=> some [x]
 | .agg cs=> some cs
 | .ptr (.x k) 0=> some [.xp k]
 | _=> none
def mkV(ag:Bool)(cs:List (C U)):Option (V U):=
 match ag,cs with
 | true,cs=> some (.agg cs)
 | false,[c]=> some (.c c)
 | false,_=> none
def InR(n:Int):Prop:= -9223372036854775808<=n/\n<=9223372036854775807
def Zdy(wr:Bool)(k:IntKind)(n:Int):List Prop × C U:=
 match wr,k with
 | false,.i64=> ([InR n],.int .i64 n)
 | _,k=> ([],.int k (k.wrap n))
def ZAg(wr:Bool)(op:BinOp)(x y:C U):Option (List Prop × C U):=
 match x,y with
 | .int k a,.int k' b=>
  match op with
  | .shl=> some ([0<=b],.int k (k.wrap (a*2 ^ (min b.toNat k.bits))))
  | .shr=> some ([0<=b],.int k (a.fdiv (2 ^ (min b.toNat k.bits))))
  | .eql=> if k=k' then some ([],.bool (a==b)) else none
  | .neq=> if k=k' then some ([],.bool (a !=b)) else none
  | .lss=> if k=k' then some ([],.bool (decide (a < b))) else none
  | .leq=> if k=k' then some ([],.bool (decide (a<=b))) else none
  | .gtr=> if k=k' then some ([],.bool (decide (b < a))) else none
  | .geq=> if k=k' then some ([],.bool (decide (b<=a))) else none
  | .add=> if k=k' then some (Zdy wr k (a+b)) else none
  | .sub=> if k=k' then some (Zdy wr k (a - b)) else none
  | .mul=> if k=k' then some (Zdy wr k (a*b)) else none
  | .quo=> if k=k' then some ([b≠0],.int k (k.wrap (a.tdiv b))) else none
  | .rem=> if k=k' then some ([b≠0],.int k (a.tmod b)) else none
  | .and=> if k=k' then some ([],.int k (k.wrap (BitVec.ofInt k.bits a &&& BitVec.ofInt k.bits b).toNat)) else none
  | .or=> if k=k' then some ([],.int k (k.wrap (BitVec.ofInt k.bits a ||| BitVec.ofInt k.bits b).toNat)) else none
  | .xor=> if k=k' then some ([],.int k (k.wrap (BitVec.ofInt k.bits a ^^^ BitVec.ofInt k.bits b).toNat)) else none
  | .andNot=> if k=k' then some ([],.int k (k.wrap (BitVec.ofInt k.bits a &&& ~~~(BitVec.ofInt k.bits b)).toNat)) else none
 | _,_=> none
def Zr3(op:BinOp)(a b:Bool):Option (C U):=
 match op with
 | .eql=> some (.bool (a==b))
 | .neq=> some (.bool (a !=b))
 | _=> none
def ZgS:List (C U)->List (C U)->Option Bool
 | [],[]=> some true
 | .int k a ::r,.int k' b ::s=> if k=k' then (ZgS r s).map fun x=> (a==b) && x else none
 | .bool a ::r,.bool b ::s=> (ZgS r s).map fun x=> (a==b) && x
 | _,_=> none
def Z8a:List (C U)->List (C U)->Bool
 | [],[]=> true
 | .int _ _ ::r,.int _ _ ::s=> Z8a r s
 | .bool _ ::r,.bool _ ::s=> Z8a r s
 | _,_=> false
def aUn(wr:Bool)(op:UnOp)(x:C U):Option (List Prop × C U):=
 match op,x with
 | .not,.bool b=> some ([],.bool (!b))
 | .neg,.int k n=> some (Zdy wr k (-n))
 | .xor,.int k n=> some ([],.int k (k.wrap (BitVec.ofInt k.bits (if k.signed then -1 else k.max) ^^^ BitVec.ofInt k.bits n).toNat))
 | _,_=> none
def ZgW(cfg:Cfg U)(T:U.Ty):C U->Option (List (U.El T) × Tail)
 | .nils=> some ([],.full)
 | .slice S l tl=>
  match cfg.tyEq S T with
  | isTrue h=> some (h▸l,tl)
  | isFalse _=> none
 | _=> none
def YF(cs:List (C U))(off:Nat)(new:List (C U)):Option (List (C U)):=
 if off+new.length<=cs.length then some (cs.take off++new++cs.drop (off+new.length)) else none
def ZiS(cfg:Cfg U)(t:TypeId)(i:Nat):Option (Nat × Nat):=
 match cfg.fld t i with
 | some (off,ft)=>
  match cfg.var ft with
  | some (_,zs)=> some (off,zs.length)
  | none=> none
 | none=>
  match cfg.arr t with
  | some (_,et)=>
   match cfg.var et with
   | some (_,zs)=> some (i*zs.length,zs.length)
   | none=> none
  | none=> none
def Z0N(cfg:Cfg U)(t:TypeId):List (C U)->List (Nat × List (C U))->Option (List (C U))
 | cs,[]=> some cs
 | cs,(i,new) ::r=>
  match ZiS cfg t i with
  | some (off,n)=> if new.length=n then (YF cs off new).bind fun cs'=> Z0N cfg t cs' r else none
  | none=> none
def Z1f(k:IntKind):List (C U)->Option (List Int)
 | []=> some []
 | .int k' n ::r=> if k=k' then (Z1f k r).map (n ::·) else none
 | _=> none
def Yf(n:Int)(j:Nat)(v x:Int):Int:=if n=(j:Int) then v else x
def Z2k(k:IntKind)(n v:Int):Nat->List Int->List (C U)
 | _,[]=> []
 | j,x ::r=> .int k (Yf n j v x) ::Z2k k n v (j+1) r
def rd(st:FSt U)(p:V U)(ag:Bool)(n:Nat):Option (V U):=
 match p with
 | .ptr nm off=>
  match st.mem nm with
  | some cs=> if off+n<=cs.length then mkV ag ((cs.drop off).take n) else none
  | none=> none
 | .ep cs=> if n<=cs.length then mkV ag (cs.take n) else none
 | .ap nm off k len i=>
  match st.mem nm with
  | some cs=> if off+len<=cs.length then match Z1f k ((cs.drop off).take len) with
   | some l=> bif ag then none else some (.c (.int k (l.getD i.toNat 0)))
   | none=> none
   else none
  | none=> none
 | _=> none
def Z10(st:FSt U):Option Operand->Option (Option (V U))
 | none=> some none
 | some x=> (st.opnd x).map some
def C.frz(t:Tok)(x:LC U):C U->C U
 | .mref u=> if u=t then .slice x.T x.l (.own t) else .mref u
 | .slice T l (.own u)=> if u=t then .slice T l .unk else .slice T l (.own u)
 | c=> c
def V.frz(cfg:Cfg U)(t:Tok)(x:LC U):V U->V U
 | .c y=> .c (y.frz t x)
 | .agg cs=> .agg (cs.map (C.frz t x))
 | .tup vs=> .tup (vs.map fun y=> (y.1,y.2.map (C.frz t x)))
 | .ep cs=> .ep (cs.map (C.frz t x))
 | .gd b v=> .gd b (v.frz cfg t x)
 | .mp u n off=> if u=t then .ep ((cfg.enc x.T (x.l.getD n (cfg.dflt x.T))).drop off) else .mp u n off
 | .vw u n=> if u=t then .junk else .vw u n
 | v=> v
def FSt.frz1(cfg:Cfg U)(st:FSt U)(t:Tok):FSt U:=
 match st.ls t with
 | none=> st
 | some x=> { st with env:=fun k=> (st.env k).frz cfg t x,mem:=fun nm=> (st.mem nm).map fun cs=> cs.map (C.frz t x),ls:=fun u=> if u=t then none else st.ls u }
def FSt.frz(cfg:Cfg U)(st:FSt U):List Tok->FSt U
 | []=> st
 | t ::r=> (st.frz1 cfg t).frz cfg r
def C.muts:C U->List Tok
 | .mref t=> [t]
 | _=> []
def ZuX:List (C U)->List Tok
 | []=> []
 | c ::r=> c.muts++ZuX r
def V.muts:V U->List Tok
 | .c x=> x.muts
 | .agg cs=> ZuX cs
 | .gd _ v=> v.muts
 | .mp t _ _=> [t]
 | .vw t _=> [t]
 | _=> []
def Z18(s:List (Tok × Tok))(t:Tok):Option Tok:=
 match s with
 | []=> none
 | (a,b) ::r=> if b=t then some a else Z18 r t
def YT(s:List (Tok × Tok))(t:Tok):Option Tok:=
 match s with
 | []=> none
 | (a,b) ::r=> if a=t then some b else YT r t
def Z0j(mine:Tok->Bool)(nm:Tok)(c:C U)(seen:List (Tok × Tok)):C U × List (Tok × Tok):=
 match c with
 | .slice T l (.own t)=> if mine t && (YT seen t).isNone && (Z18 seen nm).isNone then (.slice T l (.own nm),(t,nm) ::seen) else (.slice T l .unk,seen)
 | .mref t=> if mine t && (YT seen t).isNone && (Z18 seen nm).isNone then (.mref nm,(t,nm) ::seen) else (.jk,seen)
 | .xp _=> (.jk,seen)
 | c=> (c,seen)
def J6(mine:Tok->Bool)(nm:Nat->Tok):(j:Nat)->List (C U)->List (Tok × Tok)->List (C U) × List (Tok × Tok)
 | _,[],seen=> ([],seen)
 | j,c ::r,seen=> ((Z0j mine (nm j) c seen).1 ::(J6 mine nm (j+1) r (Z0j mine (nm j) c seen).2).1,(J6 mine nm (j+1) r (Z0j mine (nm j) c seen).2).2)
def ZuK(mine:Tok->Bool)(nm:Nat->Tok)(v:V U)(seen:List (Tok × Tok)):Option (V U × List (Tok × Tok)):=
 match v with
 | .c x=> some (.c (Z0j mine (nm 0) x seen).1,(Z0j mine (nm 0) x seen).2)
 | .agg cs=> some (.agg (J6 mine nm 0 cs seen).1,(J6 mine nm 0 cs seen).2)
 | .fn f=> some (.fn f,seen)
 | _=> none
def Zrx:V U->Option Name
 | .ptr nm 0=> some nm
 | _=> none
def Zbf(os:List (Name × List (C U)))(nm:Name):Bool:=
 match os with
 | []=> false
 | (a,_) ::r=> if a=nm then true else Zbf r nm
def Zry:V U->Option (Name × (Name->V U))
 | .ptr nm off=> some (nm,fun n=> .ptr n off)
 | .clo f [nm]=> some (nm,fun n=> .clo f [n])
 | _=> none
def YN(st:FSt U)(ps:Nat->Bool):(i:Nat)->List (V U)->List (Name × List (C U))->List (Tok × Tok)->
  Option (List (V U) × List (Name × List (C U)) × List (Tok × Tok))
 | _,[],os,seen=> some ([],os,seen)
 | i,v ::r,os,seen=>
  match Zry v with
  | some (nm,mk)=>
   match st.mem nm with
   | none=> none
   | some cs=>
    if Zbf os nm then none else
    match YN st ps (i+1) r (os++[(nm,(J6 (fun t=> !st.dead t) (.x os.length) 0 cs seen).1)]) (J6 (fun t=> !st.dead t) (.x os.length) 0 cs seen).2 with
    | some (vs,os',s)=> some (mk (.x os.length) ::vs,os',s)
    | none=> none
  | none=>
   match ZuK (fun t=> ps i && !st.dead t) (.e i) v seen with
   | none=> none
   | some (v',seen')=>
    match YN st ps (i+1) r os seen' with
    | some (vs,os',s)=> some (v' ::vs,os',s)
    | none=> none
def ZZ(d:Nat):Tok->Option Tok
 | .r 0 j=> some (.r d (2*j))
 | .x k j=> if j < 64 then some (.r d (2*(64*k+j)+1)) else none
 | _=> none
def Z1q(d:Nat):Tok->Option Tok
 | .r d' m=> if d'=d then (if m % 2=0 then some (.r 0 (m / 2)) else some (.x (m / 2 / 64) (m / 2 % 64))) else none
 | _=> none
def Z0z(d:Nat)(L:List (Tok × LC U))(t:Tok):Option Tok:=
 match ZC (fun _=> none) L t with
 | some _=> ZZ d t
 | none=> none
def Z0I(st:FSt U)(d:Nat):List (Tok × LC U)->Option (List (Tok × LC U))
 | []=> some []
 | (t,x) ::r=> match ZZ d t,Z0I st d r with
  | some t',some l=> if (st.ls t').isNone && !st.dead t' then some ((t',x) ::l) else none
  | _,_=> none
def Z7q(d:Nat)(L:List (Tok × LC U))(fx:Nat->Option Nat):List (Name × List (C U))->List (List (C U))->Option (List (Name × List (C U)))
 | [],[]=> some []
 | (nm,_) ::r,cs ::s=> (Z7q d L fx r s).map ((nm,cs.map (C.mapTok (ZZ d) (Z0z d L) fx)) ::·)
 | _,_=> none
def Z04:List (Name × List (C U))->Nat->Name->Option Nat
 | [],_,_=> none
 | (a,_) ::r,k,nm=> if a=nm then some k else Z04 r (k+1) nm
def Z8u(os:List (Name × List (C U)))(k:Nat):Option Nat:=
 match os[k]? with
 | some (.x j,_)=> some j
 | _=> none
def ZhI:List (C U)->List Name->List Name
 | [],have_=> have_
 | .xp k ::r,have_=> ZhI r (if Nat.blt k 8 && !have_.contains (.x k) then have_++[.x k] else have_)
 | _ ::r,have_=> ZhI r have_
def Jk:List (V U)->List Name
 | []=> []
 | v ::r=> match Zry v with
  | some (nm,_)=> nm ::Jk r
  | none=> Jk r
def Z8q(st:FSt U):List Name->List Name->List Name
 | [],have_=> have_
 | nm ::r,have_=> Z8q st r (match st.mem nm with
  | some cs=> ZhI cs have_
  | none=> have_)
def Z2e(st:FSt U)(args:List (V U)):List (V U):=
 ((Z8q st (Jk args) (Jk args)).drop (Jk args).length).map (.ptr · 0)
def ZlD(os:List (Name × List (C U))):List (C U)->List (C U)->List (C U)
 | .xp k ::r,c ::s=> (match Z04 os 0 (.x k) with
  | some k'=> .xp k'
  | none=> c) ::ZlD os r s
 | _ ::r,c ::s=> c ::ZlD os r s
 | [],s=> s
 | _,[]=> []
def Zs9(st:FSt U)(os:List (Name × List (C U))):List (C U) × Name->List (C U)
 | (cs,nm)=> match st.mem nm with
  | some cs0=> ZlD os cs0 cs
  | none=> cs
def Z0l(m:Tok->Option (LC U))(s:List (Tok × Tok)):List Tok->List (Tok × LC U)
 | []=> []
 | t ::r=> match Z18 s t with
  | some u=> match YT s u,m u with
   | some t',some x=> if t'=t/\t.isR=false then (t,x) ::Z0l m s r else Z0l m s r
   | _,_=> Z0l m s r
  | none=> Z0l m s r
def V.isP:V U->Bool
 | .ptr _ _=> true
 | _=> false
def Z8w(Γ:Known U)(st:FSt U)(d:Nat)(f:FuncId)(args:List (V U)):Option (List Prop × Eff U):=
 match Γ f with
 | none=> none
 | some s=>
  match YN st s.pass 0 (args++Z2e st args) [] [] with
  | none=> none
  | some (vs,os,toks)=>
   match s.fn2 (vs.take args.length) (os.map fun x=> Zs9 st os (x.2,x.1)) (bif s.wr then Z0l st.ls toks (toks.map (·.2)) else []) with
   | none=> none
   | some (ps,r,xs,L)=>
    bif r.isP then none else match Z7q d L (Z8u os) os xs,Z0I st d L with
    | some m,some l=> some (ps,{ val:=some (r.mapTok (ZZ d) (Z0z d L) (Z8u os)),mem:=m,kill:=toks.map (·.1),ls:=l })
    | _,_=> none
def C.lend(st:FSt U):C U->C U
 | .mref t=> match st.ls t with
  | some x=> .slice x.T x.l .unk
  | none=> .jk
 | .slice T l (.own _)=> .slice T l .unk
 | .xp _=> .jk
 | c=> c
def V.lend(st:FSt U):V U->Option (V U)
 | .c x=> some (.c (x.lend st))
 | .agg cs=> some (.agg (cs.map (C.lend st)))
 | .fn f=> some (.fn f)
 | _=> none
def ZvJ(Γ:Known U)(f:FuncId):Bool:=
 match Γ f with
 | some s=> s.bor
 | none=> false
def Zi8(Γ:Known U)(st:FSt U)(f:FuncId)(args:List (V U)):Option (List Prop × Eff U):=
 match Γ f,args.mapM (V.lend st) with
 | some s,some vs=> match s.fn2 vs [] [] with
  | some (ps,.c (.int k n),[],[])=> some (ps,{ val:=some (.c (.int k n)) })
  | some (ps,.c (.bool b),[],[])=> some (ps,{ val:=some (.c (.bool b)) })
  | _=> none
 | _,_=> none
def C.bare:C U->C U
 | .slice T l _=> .slice T l .unk
 | .mref _=> .jk
 | .xp _=> .jk
 | c=> c
def V.bare:V U->Option (V U)
 | .c x=> some (.c x.bare)
 | .agg cs=> some (.agg (cs.map C.bare))
 | .fn f=> some (.fn f)
 | _=> none
def C.plain:C U->Bool
 | .slice _ _ .unk=> true
 | .slice .. => false
 | .mref _=> false
 | .xp _=> false
 | _=> true
def ZBK(Γ:Known U)(f:FuncId):Bool:=
 match Γ f with
 | some s=> s.obj
 | none=> false
def Zsy(Γ:Known U)(st:FSt U)(d:Nat)(f:FuncId)(args:List (V U)):Option (List Prop × Eff U):=
 match Γ f,args.mapM V.bare with
 | some s,some vs=> match s.fn2 vs [] [] with
  | some (ps,.ptr (.x 0) 0,[cs],[])=> if cs.all C.plain && (st.mem (.loc d)).isNone then some (ps,{ val:=some (.ptr (.loc d) 0),mem:=[(.loc d,cs)] }) else none
  | _=> none
 | _,_=> none
def lenOf(cfg:Cfg U)(st:FSt U)(t:TypeId):V U->Option (C U)
 | .c (.mref u)=> match cfg.slT t,st.ls u with
  | some S,some x=> match cfg.tyEq S x.T with
   | isTrue _=> some (.int .i64 x.l.length)
   | isFalse _=> none
  | _,_=> none
 | .c .nils=> match cfg.slT t with
  | some _=> some (.int .i64 0)
  | none=> none
 | .c (.slice T l _)=> match cfg.slT t with
  | some S=> match cfg.tyEq S T with
   | isTrue _=> some (.int .i64 l.length)
   | isFalse _=> none
  | none=> none
 | _=> none
def Z8v(cfg:Cfg U)(st:FSt U)(T:U.Ty):C U->Option (List (U.El T) × Nat × Option Tok)
 | .mref t=> match st.ls t with
  | some x=> match cfg.tyEq x.T T with
   | isTrue h=> some (h▸x.l,x.f,some t)
   | isFalse _=> none
  | none=> none
 | c=> match ZgW cfg T c with
  | some (l,.full)=> some (l,l.length,none)
  | some (l,.own t)=> if st.dead t then none else some (l,l.length,some t)
  | _=> none
def ZHR:C U->Bool
 | .mref _=> true
 | _=> false
def Z4X(cfg:Cfg U)(st:FSt U)(d:Nat)(t:TypeId)(x y:C U):Option (List Prop × Eff U):=
 match cfg.slT t with
 | none=> none
 | some T=>
  match Z8v cfg st T x,ZgW cfg T y with
  | some (l,f,u),some (l',_)=>
   if (st.ls (.r d 0)).isNone && !st.dead (.r d 0) && !u.toList.contains (.r d 0) then
    some ([(l.length+l'.length)*cfg.bytes T<=140737488355328],{ val:=some (.c (.mref (.r d 0))),kill:=u.toList,ls:=[(.r d 0,⟨T,l++l',f⟩)] })
   else none
  | _,_=> none
def Z4W(cfg:Cfg U)(st:FSt U)(d:Nat)(t t':TypeId)(x y:C U):Option (List Prop × Eff U):=
 match cfg.slT t,cfg.var t',y with
 | some T,some (false,[.int .i64 _]),.int .i64 n=>
  match Z8v cfg st T x,(cfg.var (cfg.elT T)).bind fun p=> cfg.dec T p.2 with
  | some (l,f,u),some z=>
   if (st.ls (.r d 0)).isNone && !st.dead (.r d 0) && !u.toList.contains (.r d 0) then
    some ([0<=n/\(l.length+n)*cfg.bytes T<=140737488355328],{ val:=some (.c (.mref (.r d 0))),kill:=u.toList,ls:=[(.r d 0,⟨T,l++List.replicate n.toNat z,f⟩)] })
   else none
  | _,_=> none
 | _,_,_=> none
def Z83(cfg:Cfg U)(st:FSt U)(d:Nat)(t:TypeId)(x y:C U):Option (List Prop × Eff U):=
 match cfg.slT t with
 | none=> none
 | some T=>
  match ZgW cfg T x,ZgW cfg T y with
  | some (l,tl),some (l',_)=>
   let res:C U:= .slice T (l++l') (.own (.r d 0))
   let room:Prop:=(l.length+l'.length)*cfg.bytes T<=140737488355328
   match tl with
   | .unk=> none
   | .full=> some ([room],{ val:=some (.c res) })
   | .own u=> match st.dead u with
    | true=> none
    | false=> some ([room],{ val:=some (.c res),kill:=[u] })
  | _,_=> none
def Z82(mx:Bool)(x y:C U):Option (C U):=
 match x,y with
 | .int k a,.int k' b=> if k=k' then some (.int k (if mx then (if a < b then b else a) else (if b < a then b else a))) else none
 | _,_=> none
def ZjP(cfg:Cfg U)(t:TypeId)(x:C U)(lo hi mx:Option (V U)):Option (List Prop × C U):=
 match cfg.slT t with
 | none=> none
 | some T=>
  match ZgW cfg T x with
  | none=> none
  | some (l,tl)=>
   match lo,hi,mx with
   | none,none,none=> some ([],.slice T l tl)
   | some (.c (.int _ a)),none,none=> some ([0<=a/\a<=l.length],.slice T (l.drop a.toNat) tl)
   | none,some (.c (.int _ b)),none=> some ([0<=b/\b<=l.length],.slice T (l.take b.toNat) .unk)
   | some (.c (.int _ a)),some (.c (.int _ b)),none=> some ([0<=a/\a<=b/\b<=l.length],.slice T ((l.take b.toNat).drop a.toNat) .unk)
   | none,some (.c (.int _ b)),some (.c (.int _ m))=> some ([0<=b/\b<=l.length,m=b],.slice T (l.take b.toNat) .full)
   | some (.c (.int _ a)),some (.c (.int _ b)),some (.c (.int _ m))=> some ([0<=a/\a<=b/\b<=l.length,m=b],.slice T ((l.take b.toNat).drop a.toNat) .full)
   | _,_,_=> none
def Z8O(p:V U)(off n:Nat):Option (V U):=
 match p with
 | .ptr nm o=> some (.ptr nm (o+off))
 | .ep cs=> if off+n<=cs.length then some (.ep (cs.drop off)) else none
 | _=> none
def Zie(x:Option (List Prop × C U)):Option (List Prop × Eff U):=x.map fun (ps,c)=> (ps,{ val:=some (.c c) })
def Jl(cfg:Cfg U)(T:U.Ty):(i:Nat)->List (Nat × V U)->Option (List (U.El T))
 | _,[]=> some []
 | i,(k,v) ::r=>
  if k=i then
   match v.cells with
   | some cs=> match cfg.dec T cs with
    | some x=> (Jl cfg T (i+1) r).map (x ::·)
    | none=> none
   | none=> none
  else none
def ZjS(cfg:Cfg U)(st:FSt U)(t:TypeId)(u:Tok)(n:Nat):Option (List Prop × Eff U):=
 match cfg.slT t,st.ls u with
 | some T,some x=> match cfg.tyEq T x.T,(cfg.var (cfg.elT x.T)).bind fun p=> cfg.dec x.T p.2 with
  | isTrue _,some z=> some ([x.f<=n],{ ls:=[(u,⟨x.T,x.l.take n++List.replicate (x.l.length - n) z,x.f⟩)] })
  | _,_=> none
 | _,_=> none
def cpL{α:Type}(l:List α)(n:Nat)(y:List α):List α:=l.take n++(y.take (l.length - n)++l.drop (n+y.length))
def Zr2(cfg:Cfg U)(st:FSt U)(t:TypeId)(u:Tok)(n:Nat)(y:C U):Option (List Prop × Eff U):=
 match cfg.slT t,st.ls u with
 | some T,some x=> match cfg.tyEq T x.T,ZgW cfg x.T y with
  | isTrue _,some (l,_)=> some ([x.f<=n],{ val:=some (.c (.int .i64 (min (x.l.length - n) l.length:Nat))),ls:=[(u,⟨x.T,cpL x.l n l,x.f⟩)] })
  | _,_=> none
 | _,_=> none
def ZgD(cfg:Cfg U)(st:FSt U)(dst:Option Nat)(b:Builtin)(args:List Operand)(ts:List TypeId):Option (List Prop × Eff U):=
 match b,args,ts with
 | .len,[x],[t]=> match st.opnd x with
  | some v=> (lenOf cfg st t v).map fun c=> ([],{ val:=some (.c c) })
  | none=> none
 | .append,[x,y],[t,t']=> match dst,st.opnd x,st.opnd y with
  | some d,some (.c x),some (.c y)=> if t=t' then (bif st.mu || ZHR x then Z4X cfg st d t x y else Z83 cfg st d t x y) else Z4W cfg st d t t' x y
  | _,_,_=> none
 | .clear,[x],[t]=> match st.opnd x with
  | some (.vw u n)=> ZjS cfg st t u n
  | _=> none
 | .copy,[x,y],[t,t']=> match st.opnd x,st.opnd y with
  | some (.vw u n),some (.c y)=> if t=t' then Zr2 cfg st t u n y else none
  | _,_=> none
 | .min,[x,y],_=> match st.opnd x,st.opnd y with
  | some (.c x),some (.c y)=> (Z82 false x y).map fun c=> ([],{ val:=some (.c c) })
  | _,_=> none
 | .max,[x,y],_=> match st.opnd x,st.opnd y with
  | some (.c x),some (.c y)=> (Z82 true x y).map fun c=> ([],{ val:=some (.c c) })
  | _,_=> none
 | _,_,_=> none
def ZjT(cfg:Cfg U)(Γ:Known U)(st:FSt U)(dst:Option Nat)(c:Call):Option (List Prop × Eff U):=
 match c.callee with
 | .builtin b=> ZgD cfg st dst b c.args.toList c.argTypes.toList
 | .value g=> match st.opnd g,c.args.toList.mapM st.opnd with
  | some (.fn f),some vs=> bif ZvJ Γ f then Zi8 Γ st f vs else bif ZBK Γ f then Zsy Γ st (dst.getD 0) f vs else Z8w Γ st (dst.getD 0) f vs
  | some (.clo f nms),some vs=> Z8w Γ st (dst.getD 0) f (vs++nms.map (.ptr · 0))
  | _,_=> none
 | _=> none
def ZjR(cfg:Cfg U)(st:FSt U)(dst:Option Nat)(T:U.Ty)(n m:Int)(z:U.El T):Option (List Prop × Eff U):=
 match dst with
 | some d=> if (st.ls (.r d 0)).isNone && !st.dead (.r d 0) then some ([0<=n/\n*cfg.bytes T<=140737488355328/\n<=9223372036854775807,m=n],{ val:=some (.c (.mref (.r d 0))),ls:=[(.r d 0,⟨T,List.replicate n.toNat z,0⟩)] }) else none
 | none=> none
def Z5H(l:List (Nat × Operand)):Bool:=l.all fun x=> match x.2 with
 | .const (.int _ _)=> true
 | _=> false
def Ze9(st:FSt U)(dst:Option Nat)(T:U.Ty)(l:List (U.El T)):Option (List Prop × Eff U):=
 match dst with
 | some d=> if (st.ls (.r d 0)).isNone && !st.dead (.r d 0) then some ([],{ val:=some (.c (.mref (.r d 0))),ls:=[(.r d 0,⟨T,l,0⟩)] }) else none
 | none=> none
def aop(cfg:Cfg U)(Γ:Known U)(o:Oper)(st:FSt U):Option (List Prop × Eff U):=
 match o.op with
 | .move x | .assign x=> (st.opnd x).bind fun v=> match v with
  | .junk | .gd .. => none
  | v=> some ([],{ val:=some v })
 | .alloc t=> match o.dst,cfg.var t with
  | some d,some (_,zs)=> if (st.mem (.loc d)).isSome then none else some ([],{ val:=some (.ptr (.loc d) 0),mem:=[(.loc d,zs)] })
  | _,_=> none
 | .box t x=> match o.dst,cfg.var t,(st.opnd x).bind V.cells with
  | some d,some (_,zs),some cs=> if (st.mem (.loc d)).isSome || cs.length !=zs.length then none else some ([],{ val:=some (.ptr (.loc d) 0),mem:=[(.loc d,cs)] })
  | _,_,_=> none
 | .build t parts=> match cfg.var t,parts.toList.mapM fun (i,x)=> ((st.opnd x).bind V.cells).map (i,·) with
  | some (true,zs),some ps=> (Z0N cfg t zs ps).map fun cs=> ([],{ val:=some (.agg cs) })
  | _,_=> none
 | .buildSlice t n parts=> match cfg.slT t,parts.toList.mapM fun (i,x)=> (st.opnd x).map (i,·) with
  | some T,some ps=> if ps.length=n/\n*cfg.sz T<=16777216 then (Jl cfg T 0 ps).bind fun l=> bif st.mu && Z5H parts.toList then Ze9 st o.dst T l else some ([],{ val:=some (.c (.slice T l .full)) }) else none
  | _,_=> none
 | .load t p=> match cfg.var t,st.opnd p with
  | some (ag,zs),some (.mp u n off)=> match st.ls u with
   | some x=> if off+zs.length<=cfg.sz x.T then (mkV ag (((cfg.enc x.T (x.l.getD n (cfg.dflt x.T))).drop off).take zs.length)).map fun v=> ([],{ val:=some v }) else none
   | none=> none
  | some (ag,zs),some (.c (.po T o))=> (rd st (.ep (cfg.enc T (o.getD (cfg.dflt T)))) ag zs.length).map fun v=> ([o.isSome=true],{ val:=some v })
  | some (ag,zs),some p=> (rd st p ag zs.length).map fun v=> ([],{ val:=some v })
  | _,_=> none
 | .store t p x=> match cfg.var t,st.opnd p,(st.opnd x).bind V.cells with
  | some (_,zs),some (.ptr nm off),some new=> match st.mem nm with
   | some cs=> if new.length=zs.length then (YF cs off new).map fun cs'=> ([],{ mem:=[(nm,cs')] }) else none
   | none=> none
  | some (_,zs),some (.mp u n off),some new=> match st.ls u with
   | some x=> if new.length=zs.length then match (YF (cfg.enc x.T (x.l.getD n (cfg.dflt x.T))) off new).bind (cfg.dec x.T) with
    | some y=> some ([x.f<=n],{ ls:=[(u,⟨x.T,x.l.set n y,x.f⟩)] })
    | none=> none
    else none
   | none=> none
  | some (_,zs),some (.ap nm off k len n),some [.int k' x]=> match st.mem nm with
   | some cs=> if off+len<=cs.length/\k=k'/\zs.length=1 then match Z1f k ((cs.drop off).take len) with
    | some l=> some ([],{ mem:=[(nm,cs.take off++Z2k k n x 0 l++cs.drop (off+len))] })
    | none=> none
    else none
   | none=> none
  | _,_,_=> none
 | .nilCheck x=> match st.opnd x with
  | some (.ptr nm off)=> some ([],{ val:=some (.ptr nm off) })
  | some (.ep cs)=> some ([],{ val:=some (.ep cs) })
  | some (.mp u n off)=> if (st.ls u).isSome then some ([],{ val:=some (.mp u n off) }) else none
  | some (.c (.po T o))=> some ([o.isSome=true],{ val:=some (.c (.po T o)) })
  | _=> none
 | .binOp op t x y _=> match st.opnd x,st.opnd y with
  | some (.c (.bool a)),some (.c (.bool b))=> match cfg.var t with
   | some (false,[.bool _])=> (Zr3 op a b).map fun c=> ([],{ val:=some (.c c) })
   | _=> none
  | some (.c (.slice _ l _)),some (.c .nils)=> match op,cfg.slT t with
   | .eql,some _=> some ([],{ val:=some (.nb (l=[]) True) })
   | .neq,some _=> some ([],{ val:=some (.nb True (l=[])) })
   | _,_=> none
  | some (.c (.po _ o)),some (.c .nilp)=> match op,cfg.var t with
   | .eql,some (false,[.nilp])=> some ([],{ val:=some (.c (.bool o.isNone)) })
   | .neq,some (false,[.nilp])=> some ([],{ val:=some (.c (.bool o.isSome)) })
   | _,_=> none
  | some (.ptr _ _),some (.c .nilp)=> match op,cfg.var t with
   | .eql,some (false,[.nilp])=> some ([],{ val:=some (.c (.bool false)) })
   | .neq,some (false,[.nilp])=> some ([],{ val:=some (.c (.bool true)) })
   | _,_=> none
  | some (.c .nilp),some (.c .nilp)=> match op,cfg.var t with
   | .eql,some (false,[.nilp])=> some ([],{ val:=some (.c (.bool true)) })
   | .neq,some (false,[.nilp])=> some ([],{ val:=some (.c (.bool false)) })
   | _,_=> none
  | some (.c a),some (.c b)=> Zie (ZAg Γ.wr op a b)
  | some (.agg a),some (.agg b)=> match op,cfg.eqs t,ZgS a b,cfg.var t with
   | .eql,true,some r,some (_,zs)=> if Z8a zs a then some ([],{ val:=some (.c (.bool r)) }) else none
   | .neq,true,some r,some (_,zs)=> if Z8a zs a then some ([],{ val:=some (.c (.bool (!r))) }) else none
   | _,_,_,_=> none
  | _,_=> none
 | .unOp op _ x=> match st.opnd x with
  | some (.c a)=> Zie (aUn Γ.wr op a)
  | _=> none
 | .convert src dst x=> match cfg.var src,cfg.var dst,st.opnd x with
  | some (false,[.int _ _]),some (false,[.int k _]),some (.c (.int _ n))=> some ([],{ val:=some (.c (.int k (k.wrap n))) })
  | _,_,_=> none
 | .makeSlice t n m=> match cfg.slT t,st.opnd n,st.opnd m with
  | some T,some (.c (.int .i64 n)),some (.c (.int .i64 m))=>
   match cfg.var (cfg.elT T) with
   | some (_,zs)=> match cfg.dec T zs with
    | some z=> bif st.mu then ZjR cfg st o.dst T n m z else some ([0<=n/\n*cfg.bytes T<=140737488355328/\n<=9223372036854775807,m=n],{ val:=some (.c (.slice T (List.replicate n.toNat z) .full)) })
    | none=> none
   | none=> none
  | _,_,_=> none
 | .slice t x lo hi mx=> match st.opnd x,Z10 st lo,Z10 st hi,Z10 st mx with
  | some (.ptr nm off),some none,some none,some none=> match cfg.arr t,cfg.slT o.type,st.mem nm with
   | some (len,et),some T,some cs=> if off=0/\cs.length=len/\cfg.sz T=1/\cfg.elT T=et then match cs.mapM fun c=> cfg.dec T [c] with
    | some l=> some ([],{ val:=some (.c (.slice T l .full)),mem:=[(nm,[])] })
    | none=> none
    else none
   | _,_,_=> none
  | some (.c (.mref u)),some (some (.c (.int _ a))),some none,some none=> match cfg.slT t,st.ls u with
   | some S,some x=> match cfg.tyEq S x.T with
    | isTrue _=> bif st.vw then some ([0<=a/\a<=x.l.length],{ val:=some (.vw u a.toNat) }) else none
    | isFalse _=> none
   | _,_=> none
  | some (.c x),some lo,some hi,some mx=> Zie (ZjP cfg t x lo hi mx)
  | _,_,_,_=> none
 | .fieldAddr t x f=> match st.opnd x,cfg.fld t f with
  | some (.mp u n o'),some (off,ft)=> match cfg.var ft with
   | some _=> if (st.ls u).isSome then some ([],{ val:=some (.mp u n (o'+off)) }) else none
   | none=> none
  | some (.c (.po T o)),some (off,ft)=> match cfg.var ft with
   | some (_,zs)=> (Z8O (.ep (cfg.enc T (o.getD (cfg.dflt T)))) off zs.length).map fun v=> ([o.isSome=true],{ val:=some v })
   | none=> none
  | some p,some (off,ft)=> match cfg.var ft with
   | some (_,zs)=> (Z8O p off zs.length).map fun v=> ([],{ val:=some v })
   | none=> none
  | _,_=> none
 | .field t x f=> match st.opnd x,cfg.fld t f with
  | some (.agg cs),some (off,ft)=> match cfg.var ft with
   | some (ag,zs)=> if off+zs.length<=cs.length then (mkV ag ((cs.drop off).take zs.length)).map fun v=> ([],{ val:=some v }) else none
   | none=> none
  | _,_=> none
 | .indexAddr t x i=> match st.opnd x,st.opnd i with
  | some (.c (.slice T l _)),some (.c (.int _ n))=> match cfg.slT t with
   | some S=> match cfg.tyEq S T with
    | isTrue _=> some ([0<=n/\n < l.length],{ val:=some (.ep (cfg.enc T (l.getD n.toNat (cfg.dflt T)))) })
    | isFalse _=> none
   | none=> none
  | some (.c (.mref u)),some (.c (.int _ n))=> match cfg.slT t,st.ls u with
   | some S,some x=> match cfg.tyEq S x.T with
    | isTrue _=> some ([0<=n/\n < x.l.length],{ val:=some (.mp u n.toNat 0) })
    | isFalse _=> none
   | _,_=> none
  | some (.ptr nm off),some (.c (.int _ n))=> match cfg.arr t with
   | some (len,et)=> match cfg.var et with
    | some (false,[.int k _])=> some ([0<=n/\n < len],{ val:=some (.ap nm off k len n) })
    | some (_,zs)=> if 0<=n/\n < len then some ([],{ val:=some (.ptr nm (off+n.toNat*zs.length)) }) else none
    | none=> none
   | none=> none
  | _,_=> none
 | .index t x i=> match st.opnd x,st.opnd i with
  | some (.agg cs),some (.c (.int _ n))=> match cfg.arr t with
   | some (len,et)=> match cfg.var et with
    | some (false,[.int k _])=> if len=cs.length then match Z1f k cs with
     | some l=> some ([0<=n/\n < len],{ val:=some (.c (.int k (l.getD n.toNat 0))) })
     | none=> none
     else none
    | some (ag,zs)=> if 0<=n/\n < len/\n.toNat*zs.length+zs.length<=cs.length then (mkV ag ((cs.drop (n.toNat*zs.length)).take zs.length)).map fun v=> ([],{ val:=some v }) else none
    | none=> none
   | none=> none
  | _,_=> none
 | .extract x i=> match st.opnd x with
  | some (.tup vs)=> match vs[i]? with
   | some (ag,cs)=> (mkV ag cs).map fun v=> ([],{ val:=some v })
   | none=> none
  | _=> none
 | .makeFunc f first caps=> match f,first.toList,caps.toList.mapM fun x=> (st.opnd x).bind Zrx with
  | .func f,[],some nms=> some ([],{ val:=some (.clo f nms) })
  | _,_,_=> none
 | .call c=> ZjT cfg Γ st o.dst c
 | _=> none
def V.deX:V U->V U
 | .c (.xp k)=> .ptr (.x k) 0
 | v=> v
def V.strip:V U->V U
 | .gd _ v=> v.deX
 | v=> v.deX
def FSt.strip(st:FSt U):FSt U:={ st with env:=fun k=> (st.env k).strip }
def Z0n(st:FSt U)(G:Option Bool):List Operand->List Prop
 | []=> []
 | .tmp t ::r=> match st.env t with
  | .gd g _=> (match G with | some G=> (G=true->g=true) | none=> g=true) ::Z0n st G r
  | _=> Z0n st G r
 | _ ::r=> Z0n st G r
def Z5B(ops:Array Oper)(st:FSt U)(o:Oper):Option (Option Bool):=
 match o.guard with
 | none=> some none
 | some (j,want)=> match (ops[j]?).bind (·.dst) with
  | some t=> match st.env t with
   | .c (.bool g)=> some (some (if want then g else !g))
   | .gd g0 (.c (.bool g))=> some (some (g0 && (if want then g else !g)))
   | _=> none
  | none=> none
def gW:Option Bool->Prop->Prop
 | none,p=> p
 | some G,p=> G=true->p
def gV:Option Bool->V U->V U
 | none,v=> v
 | some G,v=> .gd G v
def Zdt(G:Option Bool)(c:Prop):V U->List Prop
 | .gd g _=> [gW G (c->g=true)]
 | _=> []
def ZBX(d:Option Nat)(n:Nat):Bool:=
 match d with
 | some d=> Nat.blt d n
 | none=> true
def Jf(l:List Name)(nm:Name):Bool:=
 match l with
 | []=> false
 | a ::r=> if a=nm then true else Jf r nm
def ZS:Option (V U)->List Name
 | some (.ptr nm _)=> [nm]
 | some (.ap nm _ _ _ _)=> [nm]
 | some (.clo _ nms)=> nms
 | _=> []
def V.toks:V U->List Tok
 | .c (.mref t)=> [t]
 | .mp t _ _=> [t]
 | .vw t _=> [t]
 | _=> []
def Zh1:List Name->List Name
 | []=> []
 | a ::l=> a ::l++[.x 0,.x 1,.x 2,.x 3,.x 4,.x 5,.x 6,.x 7]
def touch(o:Oper)(st:FSt U):List Name:=
 match o.op with
 | .load _ p=> ZS (st.strip.opnd p)
 | .store _ p _=> ZS (st.strip.opnd p)
 | .alloc _ | .box _ _=> match o.dst with
  | some d=> [.loc d]
  | none=> []
 | .slice _ x _ _ _=> ZS (st.strip.opnd x)
 | .call c=> .loc (o.dst.getD 0) ::Zh1 (ZS (match c.callee with | .value g=> st.strip.opnd g | _=> none)++c.args.toList.flatMap fun x=> ZS (st.strip.opnd x))
 | _=> []
def Z02(o:Oper):List Operand:=
 match o.op with
 | .load _ p=> [p]
 | .store _ p _=> [p]
 | .nilCheck x=> [x]
 | .fieldAddr _ x _=> [x]
 | .indexAddr _ x _=> [x]
 | .slice _ x _ _ _=> [x]
 | .call c=> match c.callee with
  | .builtin _=> c.args.toList
  | _=> []
 | _=> []
def touchT(o:Oper)(st:FSt U):List Tok:=
 (Z02 o).flatMap fun x=> (st.strip.opnd x).toList.flatMap V.toks
def ZlA(tyEq:DecidableEq U.Ty)(G:Bool):C U->C U->Option (C U)
 | .int k n,.int k' n'=> if k=k' then some (.int k (bif G then n' else n)) else none
 | .bool b,.bool b'=> some (.bool (bif G then b' else b))
 | .nils,.nils=> some .nils
 | .nilp,.nilp=> some .nilp
 | .xp k,.xp k'=> if k=k' then some (.xp k) else none
 | .po T o,.po T' o'=> match tyEq T' T with
  | isTrue h=> some (.po T (bif G then h▸o' else o))
  | isFalse _=> none
 | .slice T l .unk,.slice T' l' .unk=> match tyEq T' T with
  | isTrue h=> some (.slice T (bif G then h▸l' else l) .unk)
  | isFalse _=> none
 | _,_=> none
def Zdr(tyEq:DecidableEq U.Ty)(G:Bool):List (C U)->List (C U)->Option (List (C U))
 | [],[]=> some []
 | c ::r,c' ::r'=> match ZlA tyEq G c c',Zdr tyEq G r r' with
  | some x,some y=> some (x ::y)
  | _,_=> none
 | _,_=> none
def YW(tyEq:DecidableEq U.Ty)(G:Bool)(m:Name->Option (List (C U))):List (Name × List (C U))->Option (List (Name × List (C U)))
 | []=> some []
 | (nm,cs') ::r=> match m nm with
  | none=> none
  | some cs=> match Zdr tyEq G cs cs',YW tyEq G m r with
   | some x,some y=> some ((nm,x) ::y)
   | _,_=> none
def Z5R(cfg:Cfg U)(Γ:Known U)(ops:Array Oper)(o:Oper)(st:FSt U):Option (List Prop × Eff U):=
 if ZBX o.dst st.n then
 match o.op,o.guard with
 | .pick c a b,_=> match Z5B ops st o,st.opnd c,st.opnd a,st.opnd b with
  | some G,some c,some a,some b=> match c.strip,a.strip,b.strip with
   | .c (.bool cv),.c (.bool av),.c (.bool bv)=>
    some (Zdt G True c++(Zdt G (cv=true) a++Zdt G (cv=false) b),{ val:=some (gV G (.c (.bool (bif cv then av else bv)))) })
   | .c (.bool true),.c (.bool av),_=> some (Zdt G True c++Zdt G True a,{ val:=some (gV G (.c (.bool av))) })
   | .c (.bool false),_,.c (.bool bv)=> some (Zdt G True c++Zdt G True b,{ val:=some (gV G (.c (.bool bv))) })
   | _,_,_=> none
  | _,_,_,_=> none
 | _,_=> match Z5B ops st o with
  | none=> none
  | some G=> match aop cfg Γ o st.strip with
   | none=> match G with
    | some false=> some ([],{ val:=some (.gd false .junk) })
    | _=> none
   | some (ps,e)=> match G with
    | none=> some (Z0n st none o.op.operands.toList++ps,e)
    | some G=> match e with
     | { val:=some v,mem:=[],kill:=[],ls:=[] }=> some (Z0n st (some G) o.op.operands.toList++ps.map (fun p=> G=true->p),{ val:=some (.gd G v) })
     | { val:=some v,mem:=m,kill:=[],ls:=[] }=> match m.all (fun x=> Jf (touch o st) x.1),YW cfg.tyEq G st.mem m with
      | true,some m'=> some (Z0n st (some G) o.op.operands.toList++ps.map (fun p=> G=true->p),{ val:=some (.gd G v),mem:=m' })
      | _,_=> none
     | e=> match G with
      | true=> some (Z0n st (some true) o.op.operands.toList++ps,e)
      | false=> some ([],{ val:=some (.gd false .junk) })
 else none
def Zpl(st:FSt U)(nm:Name):List Tok:=
 match st.mem nm with
 | some cs=> ZuX cs
 | none=> []
def Zof(st:FSt U):Option (V U)->List Tok
 | some (.ptr nm _)=> Zpl st nm
 | some (.clo _ nms)=> nms.flatMap (Zpl st)
 | some v=> v.muts
 | none=> []
def Z4S:Option (V U)->List Tok
 | some v=> v.muts
 | none=> []
def Z9p(Γ:Known U):Option (V U)->Bool
 | some (.fn f)=> match Γ f with
  | some s=> s.wr || s.bor
  | none=> false
 | _=> false
def ZdX(Γ:Known U)(o:Oper)(st:FSt U):List Tok:=
 match o.op with
 | .call c=> match c.callee with
  | .builtin .append=> match c.args.toList with
   | [_,y]=> Z4S (st.strip.opnd y)
   | _=> []
  | .value g=> match Z9p Γ (st.strip.opnd g) with
   | true=> []
   | false=> Zof st (st.strip.opnd g)++c.args.toList.flatMap fun x=> Zof st (st.strip.opnd x)
  | _=> []
 | .slice _ x lo hi _=> bif st.vw && lo.isSome && hi.isNone then [] else Z4S (st.strip.opnd x)
 | .buildSlice _ _ parts=> parts.toList.flatMap fun x=> Z4S (st.strip.opnd x.2)
 | .binOp _ _ x y _=> Z4S (st.strip.opnd x)++Z4S (st.strip.opnd y)
 | .store _ p x=> match st.strip.opnd p with
  | some (.mp ..)=> Z4S (st.strip.opnd x)
  | _=> []
 | _=> []
def Z6q{α:Type}(cfg:Cfg U)(st:FSt U)(k:FSt U->α):List Tok->α
 | []=> k st
 | t ::r=> k (st.frz cfg (t ::r))
def FSt.pre(cfg:Cfg U)(Γ:Known U)(st:FSt U)(fz:Bool)(o:Oper):FSt U:=Z6q cfg st id (bif fz then ZdX Γ o st else [])
def ZgB(cfg:Cfg U)(Γ:Known U)(ops:Array Oper)(fz:Bool):List Oper->FSt U->Option (List Prop × FSt U)
 | [],st=> some ([],st)
 | o ::r,st=> Z6q cfg st (fun st=> match Z5R cfg Γ ops o st with
  | none=> none
  | some (ps,e)=> match ZgB cfg Γ ops fz r (st.app o.dst e) with
   | none=> none
   | some (qs,st')=> some (ps++qs,st'))
   (bif fz then ZdX Γ o st else [])
def All:List Prop->Prop
 | []=> True
 | p ::r=> p/\All r
end Go.AM
