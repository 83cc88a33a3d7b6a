import Derived.Orders
import Derived.Below
import Derived.KernelRfl
set_option linter.unusedSimpArgs false
set_option linter.unusedVariables false
namespace Go.AM
abbrev Q0:=@List.getElem?_eq_getElem
abbrev Q1:=@List.getElem?_eq_some_iff
abbrev Q2:=@List.getD_eq_getElem?_getD
abbrev Q3:=@Bool.and_eq_true
abbrev Q4:=@Nat.eq_of_beq_eq_true
abbrev Q5:=@Option.map_some
abbrev Q6:=@List.eq_nil_of_length_eq_zero
abbrev Q7:=@List.mem_cons_of_mem
abbrev Q8:=@Nat.mul_le_mul_right
abbrev Q9:=@List.mem_cons_self
abbrev Qa:=@List.getElem?_map
abbrev Qb:=@List.length_append
abbrev Qc:=@List.length_cons
abbrev Qd:=@List.length_take
abbrev Qe:=@List.getElem?_append_right
abbrev Qf:=@List.getElem?_append_left
abbrev Qg:=@List.all_eq_true
abbrev Qh:=@List.getElem?_drop
abbrev Qi:=@Bool.or_eq_false_iff
abbrev Qj:=@Int.toNat_natCast
abbrev Qk:=@List.length_eq_zero_iff
abbrev Ql:=@Int.eq_ofNat_of_zero_le
abbrev Qm:=@List.getElem?_append
abbrev Qn:=@Nat.le_refl
abbrev Qo:=@Bool.not_eq_true'
abbrev Qp:=@Option.isNone_iff_eq_none
abbrev Qq:=@Nat.zero_add
abbrev Qr:=@Nat.add_mul
abbrev Qs:=@Bool.false_eq_true
abbrev Qt:=@List.take_of_length_le
abbrev Qu:=@Option.getD_some
abbrev Qv:=@List.length_replicate
abbrev Qw:=@Int.mul_nonneg
abbrev Qx:=@List.contains_nil
abbrev Qy:=@List.mem_singleton
abbrev Qz:=@List.getElem?_eq_none
abbrev QA:=@List.mem_append
abbrev QB:=@Array.getElem?_eq_getElem
abbrev QC:=@List.mem_of_getElem?
abbrev QD:=@List.mem_append_left
abbrev QE:=@Int.le_refl
abbrev QF:=@List.mapM_cons
abbrev QG:=@List.length_map
abbrev QH:=@List.mem_cons
abbrev QI:=@Array.getElem?_eq_some_iff
abbrev QJ:=@Nat.lt_of_lt_of_le
abbrev QK:=@List.drop_eq_nil_of_le
abbrev QL:=@List.getElem?_take_of_lt
abbrev QM:=@List.append_assoc
abbrev QN:=@Option.map_none
abbrev QO:=@Bool.eq_iff_iff
abbrev QP:=@List.drop_eq_getElem_cons
abbrev QQ:=@Array.ext'
abbrev QR:=@List.length_set
abbrev QS:=@List.length_nil
abbrev QU:=@Nat.two_pow_add_eq_or_of_lt
abbrev QV:=@List.getElem?_take
abbrev QW:=@List.getElem?_replicate
abbrev QX:=@List.cons_append
abbrev QY:=@Int.tdiv_eq_ediv_of_nonneg
abbrev QZ:=@List.getElem_of_mem
abbrev X3:=@Int.mul_le_mul_of_nonneg_right
abbrev X4:=@Bool.or_eq_true
abbrev X5:=@List.nil_append
abbrev X6:=@Nat.mul_comm
abbrev X7:=@Bool.or_self
abbrev X8:=@List.getElem_mem
abbrev X9:=@List.mem_append_right
abbrev Xa:=@Option.isSome_iff_exists
abbrev Xb:=@Nat.min_eq_left
abbrev Xc:=@Int.le_of_lt
abbrev Xd:=@List.getElem?_set
abbrev Xe:=@List.map_cons
abbrev Xf:=@Nat.mod_eq_of_lt
abbrev Xg:=@Option.isSome_some
abbrev Xh:=@Nat.le_trans
abbrev Xi:=@List.mem_map
abbrev Xj:=@List.mem_filterMap
abbrev Xk:=@Int.emod_lt_of_pos
abbrev Xl:=@List.length_singleton
abbrev Xm:=@Nat.div_lt_of_lt_mul
abbrev Xn:=@Int.add_mul
abbrev Xo:=@Nat.add_zero
abbrev Xp:=@List.take_append_getElem
abbrev Xq:=@List.length_drop
abbrev Xr:=@Array.toList_map
abbrev Xs:=@List.getElem?_range
abbrev Xt:=@Nat.le_mul_of_pos_right
abbrev Xu:=@Bool.not_true
abbrev Xv:=@Int.natCast_mul
abbrev Xw:=@Int.natCast_add
abbrev Xx:=@Array.append_assoc
abbrev Xy:=@List.flatMap_cons
abbrev Xz:=@Nat.lt_or_ge
abbrev XA:=@Nat.mod_lt
abbrev XB:=@Nat.le_of_not_lt
abbrev XC:=@List.take_length
abbrev XD:=@List.mem_of_mem_drop
abbrev XE:=@List.getElem?_set_ne
abbrev XF:=@Int.tmod_eq_emod_of_nonneg
abbrev XG:=@Int.fdiv_eq_ediv_of_nonneg
abbrev XH:=@Int.add_assoc
abbrev XI:=@Nat.zero_le
abbrev XJ:=@Int.toNat_of_nonneg
abbrev XK:=@Nat.div_add_mod
abbrev XL:=@List.mem_or_eq_of_mem_set
abbrev XM:=@List.getElem?_zip_eq_some
abbrev XN:=@Int.emod_nonneg
abbrev XO:=@Int.zero_add
abbrev XP:=@BitVec.toNat_ofNat
abbrev XQ:=@Bool.not_false
abbrev XR:=@List.getElem?_cons_zero
abbrev XT:=@Option.map_eq_some_iff
abbrev XU:=@Nat.le_div_iff_mul_le
abbrev XV:=@Nat.pow_le_pow_right
abbrev XW:=@Nat.mul_add_mod
abbrev XX:=@List.mem_of_mem_take
abbrev XY:=@List.map_append
abbrev XZ:=@List.append_nil
abbrev K0:=@Int.ofNat_eq_natCast
abbrev K1:=@Int.add_zero
abbrev K2:=@List.replicate_succ
abbrev K3:=@Int.mul_le_mul
abbrev K4:=@List.mem_replicate
abbrev K5:=@Bool.true_and
abbrev K6:=@Ne.symm
abbrev K7:=@Option.bind_some
abbrev K8:=@Nat.lt_succ_self
abbrev K9:=@List.mem_flatMap
abbrev Ka:=@List.ext_getElem
abbrev Kb:=@Int.mul_comm
abbrev Kc:=@Bool.not_eq_true
abbrev Kd:=@BitVec.toNat_or
abbrev Ke:=@Nat.sub_mul
abbrev Kf:=@Int.pow_pos
abbrev Kg:=@Int.one_mul
structure Uni where
 Ty:Type
 El:Ty->Type
inductive Tok where
 | e (k j:Nat) | l (s j:Nat) | x (k j:Nat) | r (d j:Nat) | z (s j:Nat)
 | A | S (v i:Nat)
 deriving DecidableEq
def Tok.root:Tok->Tok
 | .S _ _=> .A
 | t=> t
def Tok.isA:Tok->Bool
 | .A=> true
 | .S _ _=> true
 | _=> false
structure AState where
 segs:List (List Int)
 x:Int
 y:Int
 z:Int
inductive AK where
 | fp (off:Nat) | ov | oe (n:Nat) | iv (n:Nat) | ie (n j:Nat) | pd (i:Nat) | nl (n:Nat)
def Tok.isR:Tok->Bool
 | .r _ _=> true
 | .z _ _=> true
 | _=> false
inductive Tail where
 | unk | full | own (t:Tok)
 deriving DecidableEq
inductive Name where
 | loc (s:Nat) | x (k:Nat)
 deriving DecidableEq
inductive C (U:Uni):Type where
 | int (k:IntKind) (n:Int)
 | bool (b:Bool)
 | nils
 | nilp
 | slice (T:U.Ty) (l:List (U.El T)) (tl:Tail)
 | mref (t:Tok)
 | po (T:U.Ty) (o:Option (U.El T))
 | xp (k:Nat)
 | jk
structure LC (U:Uni) where
 T:U.Ty
 l:List (U.El T)
 f:Nat
def Name.isX:Name->Bool
 | .x _=> true
 | .loc _=> false
inductive V (U:Uni):Type where
 | c (x:C U)
 | agg (cs:List (C U))
 | tup (vs:List (Bool × List (C U)))
 | ptr (nm:Name) (off:Nat)
 | ap (nm:Name) (off:Nat) (k:IntKind) (len:Nat) (n:Int)
 | ep (cs:List (C U))
 | mp (t:Tok) (n off:Nat)
 | vw (t:Tok) (n:Nat)
 | fn (f:FuncId)
 | clo (f:FuncId) (nms:List Name)
 | gd (g:Bool) (v:V U)
 | nb (p q:Prop)
 | ar (v:Nat) (k:AK)
 | junk
variable {U:Uni}
def C.mapTok(f f2:Tok->Option Tok)(fx:Nat->Option Nat):C U->C U
 | .slice T l (.own t)=> .slice T l (match f t with | some t'=> .own t' | none=> .unk)
 | .mref t=> match f2 t with
  | some t'=> .mref t'
  | none=> .jk
 | .xp k=> match fx k with
  | some k'=> .xp k'
  | none=> .jk
 | c=> c
def V.mapTok(f f2:Tok->Option Tok)(fx:Nat->Option Nat):V U->V U
 | .c x=> .c (x.mapTok f f2 fx)
 | .agg cs=> .agg (cs.map (C.mapTok f f2 fx))
 | .tup vs=> .tup (vs.map fun x=> (x.1,x.2.map (C.mapTok f f2 fx)))
 | .ep cs=> .ep (cs.map (C.mapTok f f2 fx))
 | .gd b v=> .gd b (v.mapTok f f2 fx)
 | .nb p q=> .nb p q
 | .ptr .. => .junk
 | .ap .. => .junk
 | .fn f=> .fn f
 | .mp .. => .junk
 | .vw .. => .junk
 | .clo .. => .junk
 | .ar .. => .junk
 | .junk=> .junk
structure Cfg (U:Uni) where
 tyEq:DecidableEq U.Ty
 dflt:(T:U.Ty)->U.El T
 enc:(T:U.Ty)->U.El T->List (C U)
 dec:(T:U.Ty)->List (C U)->Option (U.El T)
 aggT:U.Ty->Bool
 sz:U.Ty->Nat
 bytes:U.Ty->Nat
 elT:U.Ty->TypeId
 slT:TypeId->Option U.Ty
 var:TypeId->Option (Bool × List (C U))
 fld:TypeId->Nat->Option (Nat × TypeId)
 arr:TypeId->Option (Nat × TypeId)
 eqs:TypeId->Bool
 aT:(T:U.Ty)->Option (U.El T->AState)
 aOf:(T:U.Ty)->AState->Option (U.El T)
 wT:U.Ty
 wsT:U.Ty
 wI:List Int->List (U.El wT)
 wO:List (U.El wT)->List Int
 wsI:List (List Int)->List (U.El wsT)
def Z73(fn:List (V U)->List (List (C U))->Option (List Prop × V U × List (List (C U)))):List (V U)->List (List (C U))->List (Tok × LC U)->Option (List Prop × V U × List (List (C U)) × List (Tok × LC U)):=fun xs X L=>
 match L with
 | []=> match fn xs X with
  | some (ps,r,X')=> some (ps,r,X',[])
  | none=> none
 | _ ::_=> none
structure Fs (U:Uni) where
 pass:Nat->Bool:=fun _=> false
 wr:Bool:=false
 mkl:Bool:=false
 bor:Bool:=false
 obj:Bool:=false
 arn:Option U.Ty:=none
 fn:List (V U)->List (List (C U))->Option (List Prop × V U × List (List (C U)))
 fn2:List (V U)->List (List (C U))->List (Tok × LC U)->Option (List Prop × V U × List (List (C U)) × List (Tok × LC U)):=Z73 fn
structure Known (U:Uni) where
 fn:FuncId->Option (Fs U)
 wr:Bool
 ml:Bool
 na:Bool:=false
instance:CoeFun (Known U) (fun _=> FuncId->Option (Fs U)):=⟨Known.fn⟩
structure FSt (U:Uni) where
 n:Nat
 env:Nat->V U
 mem:Name->Option (List (C U))
 dead:Tok->Bool
 ls:Tok->Option (LC U)
 mu:Bool
 vw:Bool
structure Eff (U:Uni) where
 val:Option (V U):=none
 mem:List (Name × List (C U)):=[]
 kill:List Tok:=[]
 ls:List (Tok × LC U):=[]
def FSt.put(st:FSt U)(d:Option Nat)(v:V U):FSt U:=
 match d with
 | some k=> { st with env:=fun j=> bif Nat.beq j k then v else st.env j }
 | none=> st
def Zz(m:Name->Option (List (C U))):List (Name × List (C U))->Name->Option (List (C U))
 | [],nm=> m nm
 | (a,cs) ::r,nm=> if nm=a then some cs else Zz m r nm
def Z7(m:Tok->Option (LC U)):List (Tok × LC U)->Tok->Option (LC U)
 | [],t=> m t
 | (a,x) ::r,t=> if t=a then some x else Z7 m r t
def Ye(m:Tok->Option (LC U))(e:Eff U):Tok->Option (LC U):=fun t=> bif e.kill.contains t then none else Z7 m e.ls t
def FSt.app(st:FSt U)(d:Option Nat)(e:Eff U):FSt U:=
 {st.put d (e.val.getD .junk) with mem:=Zz st.mem e.mem,dead:=fun t=> st.dead t || e.kill.contains t,ls:=Ye st.ls e }
def Jk:Value->Option (C U)
 | .int k n=> some (.int k n)
 | .bool b=> some (.bool b)
 | .slice none 0 0=> some .nils
 | .pointer none=> some .nilp
 | _=> none
def Zb9:Value->Option (V U)
 | .agg cs=> (cs.toList.mapM Jk).map .agg
 | v=> (Jk v).map .c
def FSt.opnd(st:FSt U):Operand->Option (V U)
 | .tmp t=> some (st.env t)
 | .const v=> Zb9 v
 | .func f=> some (.fn f)
 | .global _=> none
def V.cells:V U->Option (List (C U))
 | .c x=> some [x]
 | .agg cs=> some cs
 | .ptr (.x k) 0=> some [.xp k]
 | _=> none
def mkV(ag:Bool)(cs:List (C U)):Option (V U):=
 match ag,cs with
 | true,cs=> some (.agg cs)
 | false,[c]=> some (.c c)
 | false,_=> none
def InR(n:Int):Prop:= -9223372036854775808<=n/\n<=9223372036854775807
def Z77(wr:Bool)(k:IntKind)(n:Int):List Prop × C U:=
 match wr,k with
 | false,.i64=> ([InR n],.int .i64 n)
 | _,k=> ([],.int k (k.wrap n))
def Zmi(wr:Bool)(op:BinOp)(x y:C U):Option (List Prop × C U):=
 match x,y with
 | .int k a,.int k' b=>
  match op with
  | .shl=> some ([0<=b],.int k (k.wrap (a*2 ^ (min b.toNat k.bits))))
  | .shr=> some ([0<=b],.int k (a.fdiv (2 ^ (min b.toNat k.bits))))
  | .eql=> if k=k' then some ([],.bool (a==b)) else none
  | .neq=> if k=k' then some ([],.bool (a !=b)) else none
  | .lss=> if k=k' then some ([],.bool (decide (a < b))) else none
  | .leq=> if k=k' then some ([],.bool (decide (a<=b))) else none
  | .gtr=> if k=k' then some ([],.bool (decide (b < a))) else none
  | .geq=> if k=k' then some ([],.bool (decide (b<=a))) else none
  | .add=> if k=k' then some (Z77 wr k (a+b)) else none
  | .sub=> if k=k' then some (Z77 wr k (a - b)) else none
  | .mul=> if k=k' then some (Z77 wr k (a*b)) else none
  | .quo=> if k=k' then some ([b≠0],.int k (k.wrap (a.tdiv b))) else none
  | .rem=> if k=k' then some ([b≠0],.int k (a.tmod b)) else none
  | .and=> if k=k' then some ([],.int k (k.wrap (BitVec.ofInt k.bits a &&& BitVec.ofInt k.bits b).toNat)) else none
  | .or=> if k=k' then some ([],.int k (k.wrap (BitVec.ofInt k.bits a ||| BitVec.ofInt k.bits b).toNat)) else none
  | .xor=> if k=k' then some ([],.int k (k.wrap (BitVec.ofInt k.bits a ^^^ BitVec.ofInt k.bits b).toNat)) else none
  | .andNot=> if k=k' then some ([],.int k (k.wrap (BitVec.ofInt k.bits a &&& ~~~(BitVec.ofInt k.bits b)).toNat)) else none
 | _,_=> none
def ZfS(op:BinOp)(a b:Bool):Option (C U):=
 match op with
 | .eql=> some (.bool (a==b))
 | .neq=> some (.bool (a !=b))
 | _=> none
def Z9w:List (C U)->List (C U)->Option Bool
 | [],[]=> some true
 | .int k a ::r,.int k' b ::s=> if k=k' then (Z9w r s).map fun x=> (a==b) && x else none
 | .bool a ::r,.bool b ::s=> (Z9w r s).map fun x=> (a==b) && x
 | _,_=> none
def Z40:List (C U)->List (C U)->Bool
 | [],[]=> true
 | .int _ _ ::r,.int _ _ ::s=> Z40 r s
 | .bool _ ::r,.bool _ ::s=> Z40 r s
 | _,_=> false
def aUn(wr:Bool)(op:UnOp)(x:C U):Option (List Prop × C U):=
 match op,x with
 | .not,.bool b=> some ([],.bool (!b))
 | .neg,.int k n=> some (Z77 wr k (-n))
 | .xor,.int k n=> some ([],.int k (k.wrap (BitVec.ofInt k.bits (if k.signed then -1 else k.max) ^^^ BitVec.ofInt k.bits n).toNat))
 | _,_=> none
def Z9c(cfg:Cfg U)(T:U.Ty):C U->Option (List (U.El T) × Tail)
 | .nils=> some ([],.full)
 | .slice S l tl=>
  match cfg.tyEq S T with
  | isTrue h=> some (h▸l,tl)
  | isFalse _=> none
 | _=> none
def Y9(cs:List (C U))(off:Nat)(new:List (C U)):Option (List (C U)):=
 if off+new.length<=cs.length then some (cs.take off++new++cs.drop (off+new.length)) else none
def Zb7(cfg:Cfg U)(t:TypeId)(i:Nat):Option (Nat × Nat):=
 match cfg.fld t i with
 | some (off,ft)=>
  match cfg.var ft with
  | some (_,zs)=> some (off,zs.length)
  | none=> none
 | none=>
  match cfg.arr t with
  | some (_,et)=>
   match cfg.var et with
   | some (_,zs)=> some (i*zs.length,zs.length)
   | none=> none
  | none=> none
def JC(cfg:Cfg U)(t:TypeId):List (C U)->List (Nat × List (C U))->Option (List (C U))
 | cs,[]=> some cs
 | cs,(i,new) ::r=>
  match Zb7 cfg t i with
  | some (off,n)=> if new.length=n then (Y9 cs off new).bind fun cs'=> JC cfg t cs' r else none
  | none=> none
def JV(k:IntKind):List (C U)->Option (List Int)
 | []=> some []
 | .int k' n ::r=> if k=k' then (JV k r).map (n ::·) else none
 | _=> none
def Zh4(n:Int)(j:Nat)(v x:Int):Int:=if n=(j:Int) then v else x
def Z0s(k:IntKind)(n v:Int):Nat->List Int->List (C U)
 | _,[]=> []
 | j,x ::r=> .int k (Zh4 n j v x) ::Z0s k n v (j+1) r
def rd(st:FSt U)(p:V U)(ag:Bool)(n:Nat):Option (V U):=
 match p with
 | .ptr nm off=>
  match st.mem nm with
  | some cs=> if off+n<=cs.length then mkV ag ((cs.drop off).take n) else none
  | none=> none
 | .ep cs=> if n<=cs.length then mkV ag (cs.take n) else none
 | .ap nm off k len i=>
  match st.mem nm with
  | some cs=> if off+len<=cs.length then match JV k ((cs.drop off).take len) with
   | some l=> bif ag then none else some (.c (.int k (l.getD i.toNat 0)))
   | none=> none
   else none
  | none=> none
 | _=> none
def JL(st:FSt U):Option Operand->Option (Option (V U))
 | none=> some none
 | some x=> (st.opnd x).map some
def C.frz(t:Tok)(x:LC U):C U->C U
 | .mref u=> if u=t then (bif t.isA then .po x.T x.l.head? else .slice x.T x.l (.own t)) else .mref u
 | .slice T l (.own u)=> if u=t then .slice T l .unk else .slice T l (.own u)
 | c=> c
def V.frzA(cfg:Cfg U)(x:LC U)(n:Nat):AK->V U
 | .nl k=> .ar n (.nl k)
 | .ov=> bif Nat.beq n x.f then match cfg.aT x.T,x.l with
  | some f,[y]=> .c (.slice cfg.wsT (cfg.wsI (f y).segs) .unk)
  | _,_=> .junk
  else .junk
 | _=> .junk
def V.frz(cfg:Cfg U)(t:Tok)(x:LC U):V U->V U
 | .c y=> .c (y.frz t x)
 | .agg cs=> .agg (cs.map (C.frz t x))
 | .tup vs=> .tup (vs.map fun y=> (y.1,y.2.map (C.frz t x)))
 | .ep cs=> .ep (cs.map (C.frz t x))
 | .gd b v=> .gd b (v.frz cfg t x)
 | .mp u n off=> if u=t then .ep ((cfg.enc x.T (x.l.getD n (cfg.dflt x.T))).drop off) else .mp u n off
 | .vw u n=> if u=t then .junk else .vw u n
 | .ar n k=> if t= .A then V.frzA cfg x n k else .ar n k
 | v=> v
def FSt.frz1(cfg:Cfg U)(st:FSt U)(t:Tok):FSt U:=
 match st.ls t with
 | none=> st
 | some x=> bif t.isA && Nat.blt 1 x.l.length then st else { st with env:=fun k=> (st.env k).frz cfg t x,mem:=fun nm=> (st.mem nm).map fun cs=> cs.map (C.frz t x),ls:=fun u=> if u=t then none else st.ls u,dead:=fun u=> st.dead u || (t.isA && u.isA) }
def FSt.frz(cfg:Cfg U)(st:FSt U):List Tok->FSt U
 | []=> st
 | t ::r=> (st.frz1 cfg t).frz cfg r
def C.muts:C U->List Tok
 | .mref t=> [t]
 | _=> []
def Ziq:List (C U)->List Tok
 | []=> []
 | c ::r=> c.muts++Ziq r
def V.muts:V U->List Tok
 | .c x=> x.muts
 | .agg cs=> Ziq cs
 | .gd _ v=> v.muts
 | .mp t _ _=> [t]
 | .vw t _=> [t]
 | .ar _ .ov=> [.A]
 | _=> []
def Zu(s:List (Tok × Tok))(t:Tok):Option Tok:=
 match s with
 | []=> none
 | (a,b) ::r=> if b=t then some a else Zu r t
def Zq(s:List (Tok × Tok))(t:Tok):Option Tok:=
 match s with
 | []=> none
 | (a,b) ::r=> if a=t then some b else Zq r t
def Yj(s:List (Tok × Tok))(t:Tok):Option Tok:=
 match t with
 | .S v i=> (Zq s .A).map fun _=> .S v i
 | t=> Zq s t
def YX(mine:Tok->Bool)(nm:Tok)(c:C U)(seen:List (Tok × Tok)):C U × List (Tok × Tok):=
 match c with
 | .slice T l (.own t)=> if (mine t && !t.isA) && (Zq seen t).isNone && (Zu seen nm).isNone then (.slice T l (.own nm),(t,nm) ::seen) else (.slice T l .unk,seen)
 | .mref .A=> bif mine .A then (match Zq seen .A with
   | none=> if (Zu seen .A).isNone then (.mref .A,(.A,.A) ::seen) else (.jk,seen)
   | some _=> if Zu seen .A=some .A then (.mref .A,seen) else (.jk,seen)) else (.jk,seen)
 | .mref t=> if (mine t && !t.isA) && (Zq seen t).isNone && (Zu seen nm).isNone then (.mref nm,(t,nm) ::seen) else (.jk,seen)
 | .xp _=> (.jk,seen)
 | c=> (c,seen)
def Yq(mine:Tok->Bool)(nm:Nat->Tok):(j:Nat)->List (C U)->List (Tok × Tok)->List (C U) × List (Tok × Tok)
 | _,[],seen=> ([],seen)
 | j,c ::r,seen=> ((YX mine (nm j) c seen).1 ::(Yq mine nm (j+1) r (YX mine (nm j) c seen).2).1,(Yq mine nm (j+1) r (YX mine (nm j) c seen).2).2)
def Zic(mine:Tok->Bool)(nm:Nat->Tok)(v:V U)(seen:List (Tok × Tok)):Option (V U × List (Tok × Tok)):=
 match v with
 | .c x=> some (.c (YX mine (nm 0) x seen).1,(YX mine (nm 0) x seen).2)
 | .agg cs=> some (.agg (Yq mine nm 0 cs seen).1,(Yq mine nm 0 cs seen).2)
 | .fn f=> some (.fn f,seen)
 | _=> none
def Zgj:V U->Option Name
 | .ptr nm 0=> some nm
 | _=> none
def Z5q(os:List (Name × List (C U)))(nm:Name):Bool:=
 match os with
 | []=> false
 | (a,_) ::r=> if a=nm then true else Z5q r nm
def Zgl:V U->Option (Name × (Name->V U))
 | .ptr nm off=> some (nm,fun n=> .ptr n off)
 | .clo f [nm]=> some (nm,fun n=> .clo f [n])
 | _=> none
def Yf(st:FSt U)(ps:Nat->Bool):(i:Nat)->List (V U)->List (Name × List (C U))->List (Tok × Tok)->
  Option (List (V U) × List (Name × List (C U)) × List (Tok × Tok))
 | _,[],os,seen=> some ([],os,seen)
 | i,v ::r,os,seen=>
  match Zgl v with
  | some (nm,mk)=>
   match st.mem nm with
   | none=> none
   | some cs=>
    if Z5q os nm then none else
    match Yf st ps (i+1) r (os++[(nm,(Yq (fun t=> !st.dead t) (.x os.length) 0 cs seen).1)]) (Yq (fun t=> !st.dead t) (.x os.length) 0 cs seen).2 with
    | some (vs,os',s)=> some (mk (.x os.length) ::vs,os',s)
    | none=> none
  | none=>
   match Zic (fun t=> ps i && !st.dead t) (.e i) v seen with
   | none=> none
   | some (v',seen')=>
    match Yf st ps (i+1) r os seen' with
    | some (vs,os',s)=> some (v' ::vs,os',s)
    | none=> none
def Zx(d:Nat):Tok->Option Tok
 | .r 0 j=> some (.r d (2*j))
 | .A=> some .A
 | .S v i=> some (.S v i)
 | .x k j=> if j < 64 then some (.r d (2*(64*k+j)+1)) else none
 | _=> none
def YV(d:Nat):Tok->Option Tok
 | .A=> some .A
 | .S v i=> some (.S v i)
 | .r d' m=> if d'=d then (if m % 2=0 then some (.r 0 (m / 2)) else some (.x (m / 2 / 64) (m / 2 % 64))) else none
 | _=> none
def JJ(d:Nat)(L:List (Tok × LC U))(t:Tok):Option Tok:=
 match t with
 | .S _ _=> none
 | t=> match Z7 (fun _=> none) L t with
  | some _=> Zx d t
  | none=> none
def Z0S(st:FSt U):Tok->Bool
 | .A=> true
 | .S _ _=> false
 | t=> (st.ls t).isNone && !st.dead t
def Z0I(st:FSt U)(t:Tok)(x:LC U):LC U:=
 match t with
 | .A=> match st.ls .A with
  | some y=> ⟨x.T,x.l,y.f+2+x.f⟩
  | none=> x
 | _=> x
def Jl(st:FSt U)(d:Nat):List (Tok × LC U)->Option (List (Tok × LC U))
 | []=> some []
 | (t,x) ::r=> match Zx d t,Jl st d r with
  | some t',some l=> if Z0S st t' then some ((t',Z0I st t' x) ::l) else none
  | _,_=> none
def Z27(d:Nat)(L:List (Tok × LC U))(fx:Nat->Option Nat):List (Name × List (C U))->List (List (C U))->Option (List (Name × List (C U)))
 | [],[]=> some []
 | (nm,_) ::r,cs ::s=> (Z27 d L fx r s).map ((nm,cs.map (C.mapTok (Zx d) (JJ d L) fx)) ::·)
 | _,_=> none
def Ys:List (Name × List (C U))->Nat->Name->Option Nat
 | [],_,_=> none
 | (a,_) ::r,k,nm=> if a=nm then some k else Ys r (k+1) nm
def Z2u(os:List (Name × List (C U)))(k:Nat):Option Nat:=
 match os[k]? with
 | some (.x j,_)=> some j
 | _=> none
def Zan:List (C U)->List Name->List Name
 | [],have_=> have_
 | .xp k ::r,have_=> Zan r (if Nat.blt k 8 && !have_.contains (.x k) then have_++[.x k] else have_)
 | _ ::r,have_=> Zan r have_
def YD:List (V U)->List Name
 | []=> []
 | v ::r=> match Zgl v with
  | some (nm,_)=> nm ::YD r
  | none=> YD r
def Z46(st:FSt U):List Name->List Name->List Name
 | [],have_=> have_
 | nm ::r,have_=> Z46 st r (match st.mem nm with
  | some cs=> Zan cs have_
  | none=> have_)
def Z0n(st:FSt U)(args:List (V U)):List (V U):=
 ((Z46 st (YD args) (YD args)).drop (YD args).length).map (.ptr · 0)
def ZcC(os:List (Name × List (C U))):List (C U)->List (C U)->List (C U)
 | .xp k ::r,c ::s=> (match Ys os 0 (.x k) with
  | some k'=> .xp k'
  | none=> c) ::ZcC os r s
 | _ ::r,c ::s=> c ::ZcC os r s
 | [],s=> s
 | _,[]=> []
def ZgQ(st:FSt U)(os:List (Name × List (C U))):List (C U) × Name->List (C U)
 | (cs,nm)=> match st.mem nm with
  | some cs0=> ZcC os cs0 cs
  | none=> cs
def LC.at0(t:Tok)(x:LC U):LC U:=bif t.isA then ⟨x.T,x.l,0⟩ else x
def YN(m:Tok->Option (LC U))(s:List (Tok × Tok)):List Tok->List (Tok × LC U)
 | []=> []
 | t ::r=> match Zu s t with
  | some u=> match Yj s u,m u with
   | some t',some x=> if t'=t/\t.isR=false/\(bif u.isA then decide (t=u) else !t.isA)=true then (t,x.at0 t) ::YN m s r else YN m s r
   | _,_=> YN m s r
  | none=> YN m s r
def V.isP:V U->Bool
 | .ptr _ _=> true
 | _=> false
def ZbB(toks:List (Tok × Tok))(L0 L:List (Tok × LC U)):Bool:=
 match Zq toks .A with
 | some _=> decide (Zu toks .A=some .A) && ((Z7 (fun _=> none) L .A).isSome && (Z7 (fun _=> none) L0 .A).isSome)
 | none=> (Z7 (fun _=> none) L .A).isNone && (Zu toks .A).isNone
def Z2v(Γ:Known U)(st:FSt U)(d:Nat)(f:FuncId)(args:List (V U)):Option (List Prop × Eff U):=
 match Γ f with
 | none=> none
 | some s=>
  match Yf st s.pass 0 (args++Z0n st args) [] [] with
  | none=> none
  | some (vs,os,toks)=>
   match s.fn2 (vs.take args.length) (os.map fun x=> ZgQ st os (x.2,x.1)) (bif s.wr then YN st.ls toks (toks.map (·.2)) else []) with
   | none=> none
   | some (ps,r,xs,L)=>
    bif r.isP then none else match Z27 d L (Z2u os) os xs,Jl st d L with
    | some m,some l=> bif ZbB toks (bif s.wr then YN st.ls toks (toks.map (·.2)) else []) L then
      some (ps,{ val:=some (r.mapTok (Zx d) (JJ d L) (Z2u os)),mem:=m,kill:=(toks.map (·.1)).filter fun t=> !t.isA,ls:=l }) else none
    | _,_=> none
def C.lend(st:FSt U):C U->C U
 | .mref t=> match st.ls t with
  | some x=> bif t.isA then (match x.l with
   | [y]=> .po x.T (some y)
   | _=> .jk) else .slice x.T x.l .unk
  | none=> .jk
 | .slice T l (.own _)=> .slice T l .unk
 | .xp _=> .jk
 | c=> c
def V.lend(st:FSt U):V U->Option (V U)
 | .c x=> some (.c (x.lend st))
 | .agg cs=> some (.agg (cs.map (C.lend st)))
 | .fn f=> some (.fn f)
 | _=> none
def ZiN(Γ:Known U)(f:FuncId):Bool:=
 match Γ f with
 | some s=> s.bor
 | none=> false
def Zay(Γ:Known U)(st:FSt U)(f:FuncId)(args:List (V U)):Option (List Prop × Eff U):=
 match Γ f,args.mapM (V.lend st) with
 | some s,some vs=> match s.fn2 vs [] [] with
  | some (ps,.c (.int k n),[],[])=> some (ps,{ val:=some (.c (.int k n)) })
  | some (ps,.c (.bool b),[],[])=> some (ps,{ val:=some (.c (.bool b)) })
  | _=> none
 | _,_=> none
def C.bare:C U->C U
 | .slice T l _=> .slice T l .unk
 | .mref _=> .jk
 | .xp _=> .jk
 | c=> c
def V.bare:V U->Option (V U)
 | .c x=> some (.c x.bare)
 | .agg cs=> some (.agg (cs.map C.bare))
 | .fn f=> some (.fn f)
 | _=> none
def C.plain:C U->Bool
 | .slice _ _ .unk=> true
 | .slice .. => false
 | .mref _=> false
 | .xp _=> false
 | _=> true
def Znd(Γ:Known U)(f:FuncId):Bool:=
 match Γ f with
 | some s=> s.obj
 | none=> false
def Z1P(st:FSt U):List (V U)->Option (List (V U) × List (Name × List (C U)))
 | [.ptr nm 0]=> match st.mem nm with
  | some cs=> some ([.ptr (.x 0) 0],[(nm,cs.map C.bare)])
  | none=> none
 | xs=> match xs.mapM V.bare with
  | some vs=> some (vs,[])
  | none=> none
def Zh6(Γ:Known U)(st:FSt U)(d:Nat)(f:FuncId)(args:List (V U)):Option (List Prop × Eff U):=
 match Γ f,Z1P st args with
 | some s,some (vs,os)=> match s.fn2 vs (os.map (·.2)) [] with
  | some (ps,.ptr (.x k) 0,xs,[])=> if Nat.beq k os.length && Nat.beq xs.length (k+1) && xs.all (fun cs=> cs.all C.plain) && (st.mem (.loc d)).isNone then some (ps,{ val:=some (.ptr (.loc d) 0),mem:=(os.map Prod.fst++[Name.loc d]).zip xs }) else none
  | _=> none
 | _,_=> none
def lenOf(cfg:Cfg U)(st:FSt U)(t:TypeId):V U->Option (C U)
 | .c (.mref u)=> match cfg.slT t,st.ls u with
  | some S,some x=> match cfg.tyEq S x.T with
   | isTrue _=> some (.int .i64 x.l.length)
   | isFalse _=> none
  | _,_=> none
 | .c .nils=> match cfg.slT t with
  | some _=> some (.int .i64 0)
  | none=> none
 | .c (.slice T l _)=> match cfg.slT t with
  | some S=> match cfg.tyEq S T with
   | isTrue _=> some (.int .i64 l.length)
   | isFalse _=> none
  | none=> none
 | _=> none
def Z4a(cfg:Cfg U)(st:FSt U)(T:U.Ty):C U->Option (List (U.El T) × Nat × Option Tok)
 | .mref t=> match st.ls t with
  | some x=> match cfg.tyEq x.T T with
   | isTrue h=> some (h▸x.l,x.f,some t)
   | isFalse _=> none
  | none=> none
 | c=> match Z9c cfg T c with
  | some (l,.full)=> some (l,l.length,none)
  | some (l,.own t)=> if st.dead t || t.isA then none else some (l,l.length,some t)
  | _=> none
def Zrj:C U->Bool
 | .mref _=> true
 | _=> false
def Z1R(cfg:Cfg U)(st:FSt U)(d:Nat)(t:TypeId)(x y:C U):Option (List Prop × Eff U):=
 match cfg.slT t with
 | none=> none
 | some T=>
  match Z4a cfg st T x,Z9c cfg T y with
  | some (l,f,u),some (l',_)=>
   if (st.ls (.r d 0)).isNone && !st.dead (.r d 0) && !u.toList.contains (.r d 0) then
    some ([(l.length+l'.length)*cfg.bytes T<=140737488355328],{ val:=some (.c (.mref (.r d 0))),kill:=u.toList,ls:=[(.r d 0,⟨T,l++l',f⟩)] })
   else none
  | _,_=> none
def Z1Q(cfg:Cfg U)(st:FSt U)(d:Nat)(t t':TypeId)(x y:C U):Option (List Prop × Eff U):=
 match cfg.slT t,cfg.var t',y with
 | some T,some (false,[.int .i64 _]),.int .i64 n=>
  match Z4a cfg st T x,(cfg.var (cfg.elT T)).bind fun p=> cfg.dec T p.2 with
  | some (l,f,u),some z=>
   if (st.ls (.r d 0)).isNone && !st.dead (.r d 0) && !u.toList.contains (.r d 0) then
    some ([0<=n/\(l.length+n)*cfg.bytes T<=140737488355328],{ val:=some (.c (.mref (.r d 0))),kill:=u.toList,ls:=[(.r d 0,⟨T,l++List.replicate n.toNat z,f⟩)] })
   else none
  | _,_=> none
 | _,_,_=> none
def Z3W(cfg:Cfg U)(st:FSt U)(d:Nat)(t:TypeId)(x y:C U):Option (List Prop × Eff U):=
 match cfg.slT t with
 | none=> none
 | some T=>
  match Z9c cfg T x,Z9c cfg T y with
  | some (l,tl),some (l',_)=>
   let res:C U:= .slice T (l++l') (.own (.r d 0))
   let room:Prop:=(l.length+l'.length)*cfg.bytes T<=140737488355328
   match tl with
   | .unk=> none
   | .full=> some ([room],{ val:=some (.c res) })
   | .own u=> match st.dead u || u.isA with
    | true=> none
    | false=> some ([room],{ val:=some (.c res),kill:=[u] })
  | _,_=> none
def Z3V(mx:Bool)(x y:C U):Option (C U):=
 match x,y with
 | .int k a,.int k' b=> if k=k' then some (.int k (if mx then (if a < b then b else a) else (if b < a then b else a))) else none
 | _,_=> none
def ZbF(cfg:Cfg U)(t:TypeId)(x:C U)(lo hi mx:Option (V U)):Option (List Prop × C U):=
 match cfg.slT t with
 | none=> none
 | some T=>
  match Z9c cfg T x with
  | none=> none
  | some (l,tl)=>
   match lo,hi,mx with
   | none,none,none=> some ([],.slice T l tl)
   | some (.c (.int _ a)),none,none=> some ([0<=a/\a<=l.length],.slice T (l.drop a.toNat) tl)
   | none,some (.c (.int _ b)),none=> some ([0<=b/\b<=l.length],.slice T (l.take b.toNat) .unk)
   | some (.c (.int _ a)),some (.c (.int _ b)),none=> some ([0<=a/\a<=b/\b<=l.length],.slice T ((l.take b.toNat).drop a.toNat) .unk)
   | none,some (.c (.int _ b)),some (.c (.int _ m))=> some ([0<=b/\b<=l.length,m=b],.slice T (l.take b.toNat) .full)
   | some (.c (.int _ a)),some (.c (.int _ b)),some (.c (.int _ m))=> some ([0<=a/\a<=b/\b<=l.length,m=b],.slice T ((l.take b.toNat).drop a.toNat) .full)
   | _,_,_=> none
def Z4m(p:V U)(off n:Nat):Option (V U):=
 match p with
 | .ptr nm o=> some (.ptr nm (o+off))
 | .ep cs=> if off+n<=cs.length then some (.ep (cs.drop off)) else none
 | _=> none
def ZaD(x:Option (List Prop × C U)):Option (List Prop × Eff U):=x.map fun (ps,c)=> (ps,{ val:=some (.c c) })
def YE(cfg:Cfg U)(T:U.Ty):(i:Nat)->List (Nat × V U)->Option (List (U.El T))
 | _,[]=> some []
 | i,(k,v) ::r=>
  if k=i then
   match v.cells with
   | some cs=> match cfg.dec T cs with
    | some x=> (YE cfg T (i+1) r).map (x ::·)
    | none=> none
   | none=> none
  else none
def ZbH(cfg:Cfg U)(st:FSt U)(t:TypeId)(u:Tok)(n:Nat):Option (List Prop × Eff U):=
 match cfg.slT t,st.ls u with
 | some T,some x=> match cfg.tyEq T x.T,(cfg.var (cfg.elT x.T)).bind fun p=> cfg.dec x.T p.2 with
  | isTrue _,some z=> some ([x.f<=n],{ ls:=[(u,⟨x.T,x.l.take n++List.replicate (x.l.length - n) z,x.f⟩)] })
  | _,_=> none
 | _,_=> none
def cpL{α:Type}(l:List α)(n:Nat)(y:List α):List α:=l.take n++(y.take (l.length - n)++l.drop (n+y.length))
def ZfR(cfg:Cfg U)(st:FSt U)(t:TypeId)(u:Tok)(n:Nat)(y:C U):Option (List Prop × Eff U):=
 match cfg.slT t,st.ls u with
 | some T,some x=> match cfg.tyEq T x.T,Z9c cfg x.T y with
  | isTrue _,some (l,_)=> some ([x.f<=n],{ val:=some (.c (.int .i64 (min (x.l.length - n) l.length:Nat))),ls:=[(u,⟨x.T,cpL x.l n l,x.f⟩)] })
  | _,_=> none
 | _,_=> none
structure AV (U:Uni) where
 T:U.Ty
 S:AState
 P:Option AState
 v:Nat
def FSt.ar(cfg:Cfg U)(st:FSt U):Option (AV U):=
 match st.ls .A with
 | some x=> match cfg.aT x.T with
  | some f=> match x.l with
   | [y]=> some ⟨x.T,f y,none,x.f⟩
   | [y,y']=> some ⟨x.T,f y,some (f y'),x.f⟩
   | _=> none
  | none=> none
 | none=> none
def YG(cfg:Cfg U)(T:U.Ty)(l:List AState)(v:Nat)(val:Option (V U)):Option (Eff U):=
 match l.mapM (cfg.aOf T) with
 | some l=> some { val:=val,ls:=[(.A,⟨T,l,v⟩)] }
 | none=> none
def Z4H(A:AV U)(n:Nat)(zs:List (C U)):AK->Option (V U)
 | .fp off=> match off,zs with
  | 0,[.nils]=> bif Nat.beq n A.v then some (.ar n .ov) else none
  | 1,[.int .i64 _]=> some (.c (.int .i64 A.S.x))
  | 2,[.int .i64 _]=> some (.c (.int .i64 A.S.y))
  | 3,[.int .i64 _]=> some (.c (.int .i64 A.S.z))
  | _,_=> none
 | .oe i=> match zs with
  | [.nils]=> bif Nat.beq n A.v then some (.ar n (.iv i)) else none
  | _=> none
 | .ie i j=> match zs with
  | [.int .u64 _]=> bif Nat.beq n A.v then some (.c (.int .u64 ((A.S.segs.getD i []).getD j 0))) else none
  | _=> none
 | _=> none
def Zbz(cfg:Cfg U)(A:AV U)(n:Nat)(k:AK)(x:V U):Option (List Prop × Eff U):=
 match k,x,A.P with
 | .fp 1,.c (.int .i64 m),none=> (YG cfg A.T [{ A.S with x:=m }] A.v none).map fun e=> ([],e)
 | .fp 2,.c (.int .i64 m),none=> (YG cfg A.T [{ A.S with y:=m }] A.v none).map fun e=> ([],e)
 | .fp 3,.c (.int .i64 m),none=> (YG cfg A.T [{ A.S with z:=m }] A.v none).map fun e=> ([],e)
 | .ie i j,.c (.int .u64 m),none=> bif Nat.beq n A.v then (YG cfg A.T [{ A.S with segs:=A.S.segs.set i ((A.S.segs.getD i []).set j m) }] A.v none).map fun e=> ([],e) else none
 | .fp 0,.ar n' (.pd 0),some P=> bif Nat.beq n' A.v then (YG cfg A.T [P] (A.v+1) none).map fun e=> ([],e) else none
 | .oe i,.ar n' (.pd (j+1)),some P=> bif Nat.beq n A.v && Nat.beq n' A.v then (YG cfg A.T [P] (A.v+1) none).map fun e=> ([i=j],e) else none
 | _,_,_=> none
def Z11(cfg:Cfg U)(A:AV U)(n:Nat)(same:Bool)(k:AK)(y:V U):Option (List Prop × Eff U):=
 match A.P,Nat.beq n A.v,k with
 | none,true,.iv i=> match same,y with
  | true,.c y=> match Z9c cfg cfg.wT y with
   | some (l,_)=> (YG cfg A.T [A.S,{ A.S with segs:=A.S.segs.set i (A.S.segs.getD i []++cfg.wO l) }] A.v (some (.ar n (.pd (i+1))))).map fun e=> ([((A.S.segs.getD i []).length+l.length)*8<=140737488355328],e)
   | none=> none
  | false,.c (.int .i64 m)=> match cfg.var (cfg.elT cfg.wT) with
   | some (false,[.int .u64 z])=> bif decide (z=0) then (YG cfg A.T [A.S,{ A.S with segs:=A.S.segs.set i (A.S.segs.getD i []++List.replicate m.toNat 0) }] A.v (some (.ar n (.pd (i+1))))).map fun e=> ([0<=m/\((A.S.segs.getD i []).length+m)*8<=140737488355328],e) else none
   | _=> none
  | _,_=> none
 | none,true,.ov=> match same,y with
  | true,.ar _ (.nl k)=> (YG cfg A.T [A.S,{ A.S with segs:=A.S.segs++List.replicate k [] }] A.v (some (.ar n (.pd 0)))).map fun e=> ([(A.S.segs.length+k)*24<=140737488355328],e)
  | _,_=> none
 | _,_,_=> none
def ZfQ(cfg:Cfg U):AK->U.Ty
 | .ov=> cfg.wsT
 | _=> cfg.wT
def ZfP(A:AV U)(n:Nat):AK->Option (C U)
 | .ov=> bif Nat.beq n A.v then some (.int .i64 A.S.segs.length) else none
 | .iv i=> bif Nat.beq n A.v then some (.int .i64 (A.S.segs.getD i []).length) else none
 | _=> none
def Z7u(A:AV U)(n:Nat)(k:AK)(m:Int):Option (List Prop × V U):=
 match k with
 | .ov=> bif Nat.beq n A.v then some ([0<=m/\m < A.S.segs.length],.ar n (.oe m.toNat)) else none
 | .iv i=> bif Nat.beq n A.v then some ([0<=m/\m < (A.S.segs.getD i []).length],.ar n (.ie i m.toNat)) else none
 | _=> none
def Z5A(cfg:Cfg U)(st:FSt U)(dst:Option Nat)(b:Builtin)(args:List Operand)(ts:List TypeId):Option (List Prop × Eff U):=
 match b,args,ts with
 | .len,[x],[t]=> match st.opnd x with
  | some (.ar n k)=> match st.ar cfg,cfg.slT t with
   | some A,some _=> (ZfP A n k).map fun c=> ([],{ val:=some (.c c) })
   | _,_=> none
  | some v=> (lenOf cfg st t v).map fun c=> ([],{ val:=some (.c c) })
  | none=> none
 | .append,[x,y],[t,t']=> match dst,st.opnd x,st.opnd y with
  | some _,some (.ar n k),some y=> match st.ar cfg,cfg.slT t with
   | some A,some T=> match cfg.tyEq T (ZfQ cfg k),decide (t=t'),cfg.var t' with
    | isTrue _,true,_=> Z11 cfg A n true k y
    | isTrue _,false,some (false,[.int .i64 _])=> Z11 cfg A n false k y
    | _,_,_=> none
   | _,_=> none
  | some d,some (.c x),some (.c y)=> if t=t' then (bif st.mu || Zrj x then Z1R cfg st d t x y else Z3W cfg st d t x y) else Z1Q cfg st d t t' x y
  | _,_,_=> none
 | .clear,[x],[t]=> match st.opnd x with
  | some (.vw u n)=> ZbH cfg st t u n
  | _=> none
 | .copy,[x,y],[t,t']=> match st.opnd x,st.opnd y with
  | some (.vw u n),some (.c y)=> if t=t' then ZfR cfg st t u n y else none
  | _,_=> none
 | .min,[x,y],_=> match st.opnd x,st.opnd y with
  | some (.c x),some (.c y)=> (Z3V false x y).map fun c=> ([],{ val:=some (.c c) })
  | _,_=> none
 | .max,[x,y],_=> match st.opnd x,st.opnd y with
  | some (.c x),some (.c y)=> (Z3V true x y).map fun c=> ([],{ val:=some (.c c) })
  | _,_=> none
 | _,_,_=> none
def Z4b(cfg:Cfg U)(Γ:Known U)(st:FSt U)(d:Nat)(f:FuncId)(r:List Prop × Eff U):Option (List Prop × Eff U):=
 match Γ f with
 | some s=> match s.arn with
  | none=> some r
  | some T=> match r.2 with
   | { val:=some (.ptr (.loc d1) 0),mem:=[(.loc d',[.nils,.int .i64 x,.int .i64 y,.int .i64 z])],kill:=[],ls:=[] }=>
    bif Γ.na && ((st.ls .A).isNone && (!st.dead .A && (Nat.beq d1 d && Nat.beq d' d))) && (st.mem (.loc d)).isNone then (YG cfg T [⟨[],x,y,z⟩] 0 (some (.c (.mref .A)))).map fun e=> (r.1,e) else none
   | _=> none
 | none=> some r
def Z7v(cfg:Cfg U)(Γ:Known U)(st:FSt U)(dst:Option Nat)(c:Call):Option (List Prop × Eff U):=
 match c.callee with
 | .builtin b=> Z5A cfg st dst b c.args.toList c.argTypes.toList
 | .value g=> match st.opnd g,c.args.toList.mapM st.opnd with
  | some (.fn f),some vs=> bif ZiN Γ f then Zay Γ st f vs else match (bif Znd Γ f then Zh6 Γ st (dst.getD 0) f vs else none) with | some r=> Z4b cfg Γ st (dst.getD 0) f r | none=> Z2v Γ st (dst.getD 0) f vs
  | some (.clo f nms),some vs=> Z2v Γ st (dst.getD 0) f (vs++nms.map (.ptr · 0))
  | _,_=> none
 | _=> none
def ZbG(cfg:Cfg U)(st:FSt U)(dst:Option Nat)(T:U.Ty)(n m:Int)(z:U.El T):Option (List Prop × Eff U):=
 match dst with
 | some d=> if (st.ls (.r d 0)).isNone && !st.dead (.r d 0) then some ([0<=n/\n*cfg.bytes T<=140737488355328/\n<=9223372036854775807,m=n],{ val:=some (.c (.mref (.r d 0))),ls:=[(.r d 0,⟨T,List.replicate n.toNat z,0⟩)] }) else none
 | none=> none
def Z0Z(l:List (Nat × Operand)):Bool:=l.all fun x=> match x.2 with
 | .const (.int _ _)=> true
 | _=> false
def Z1v(n:Nat)(l:List (Nat × Operand)):Bool:=match n,l with
 | 1,[(0,.const (.slice none 0 0))]=> true
 | _,_=> false
def Z7w(st:FSt U)(dst:Option Nat)(T:U.Ty)(l:List (U.El T)):Option (List Prop × Eff U):=
 match dst with
 | some d=> if (st.ls (.r d 0)).isNone && !st.dead (.r d 0) then some ([],{ val:=some (.c (.mref (.r d 0))),ls:=[(.r d 0,⟨T,l,0⟩)] }) else none
 | none=> none
def aop(cfg:Cfg U)(Γ:Known U)(o:Oper)(st:FSt U):Option (List Prop × Eff U):=
 match o.op with
 | .move x | .assign x=> (st.opnd x).bind fun v=> match v with
  | .junk | .gd .. => none
  | v=> some ([],{ val:=some v })
 | .alloc t=> match o.dst,cfg.var t with
  | some d,some (_,zs)=> if (st.mem (.loc d)).isSome then none else some ([],{ val:=some (.ptr (.loc d) 0),mem:=[(.loc d,zs)] })
  | _,_=> none
 | .box t x=> match o.dst,cfg.var t,(st.opnd x).bind V.cells with
  | some d,some (_,zs),some cs=> if (st.mem (.loc d)).isSome || cs.length !=zs.length then none else some ([],{ val:=some (.ptr (.loc d) 0),mem:=[(.loc d,cs)] })
  | _,_,_=> none
 | .build t parts=> match cfg.var t,parts.toList.mapM fun (i,x)=> ((st.opnd x).bind V.cells).map (i,·) with
  | some (true,zs),some ps=> (JC cfg t zs ps).map fun cs=> ([],{ val:=some (.agg cs) })
  | _,_=> none
 | .buildSlice t n parts=> bif (st.ls .A).isSome && Z1v n parts.toList then (match cfg.slT t with
  | some T=> match cfg.tyEq T cfg.wsT with
   | isTrue _=> if n*cfg.sz T<=16777216/\0 < n then some ([],{ val:=some (.ar 0 (.nl n)) }) else none
   | isFalse _=> none
  | none=> none) else match cfg.slT t,parts.toList.mapM fun (i,x)=> (st.opnd x).map (i,·) with
  | some T,some ps=> if ps.length=n/\n*cfg.sz T<=16777216 then (YE cfg T 0 ps).bind fun l=> bif st.mu && Z0Z parts.toList then Z7w st o.dst T l else some ([],{ val:=some (.c (.slice T l .full)) }) else none
  | _,_=> none
 | .load t p=> match cfg.var t,st.opnd p with
  | some (ag,zs),some (.mp u n off)=> match st.ls u with
   | some x=> if off+zs.length<=cfg.sz x.T then (mkV ag (((cfg.enc x.T (x.l.getD n (cfg.dflt x.T))).drop off).take zs.length)).map fun v=> ([],{ val:=some v }) else none
   | none=> none
  | some (false,zs),some (.ar n k)=> match st.ar cfg with
   | some A=> (Z4H A n zs k).map fun v=> ([],{ val:=some v })
   | none=> none
  | some (ag,zs),some (.c (.po T o))=> (rd st (.ep (cfg.enc T (o.getD (cfg.dflt T)))) ag zs.length).map fun v=> ([o.isSome=true],{ val:=some v })
  | some (ag,zs),some p=> (rd st p ag zs.length).map fun v=> ([],{ val:=some v })
  | _,_=> none
 | .store t p x=> match st.opnd p,st.opnd x with
  | some (.ar n k),some x=> match st.ar cfg,cfg.var t with
   | some A,some (_,[_])=> Zbz cfg A n k x
   | _,_=> none
  | _,_=> match cfg.var t,st.opnd p,(st.opnd x).bind V.cells with
   | some (_,zs),some (.ptr nm off),some new=> match st.mem nm with
    | some cs=> if new.length=zs.length then (Y9 cs off new).map fun cs'=> ([],{ mem:=[(nm,cs')] }) else none
    | none=> none
   | some (_,zs),some (.mp u n off),some new=> match st.ls u with
    | some x=> if new.length=zs.length then match (Y9 (cfg.enc x.T (x.l.getD n (cfg.dflt x.T))) off new).bind (cfg.dec x.T) with
     | some y=> some ([x.f<=n],{ ls:=[(u,⟨x.T,x.l.set n y,x.f⟩)] })
     | none=> none
     else none
    | none=> none
   | some (_,zs),some (.ap nm off k len n),some [.int k' x]=> match st.mem nm with
    | some cs=> if off+len<=cs.length/\k=k'/\zs.length=1 then match JV k ((cs.drop off).take len) with
     | some l=> some ([],{ mem:=[(nm,cs.take off++Z0s k n x 0 l++cs.drop (off+len))] })
     | none=> none
     else none
    | none=> none
   | _,_,_=> none
 | .nilCheck x=> match st.opnd x with
  | some (.ptr nm off)=> some ([],{ val:=some (.ptr nm off) })
  | some (.ep cs)=> some ([],{ val:=some (.ep cs) })
  | some (.mp u n off)=> if (st.ls u).isSome then some ([],{ val:=some (.mp u n off) }) else none
  | some (.c (.po T o))=> some ([o.isSome=true],{ val:=some (.c (.po T o)) })
  | some (.c (.mref .A))=> (st.ar cfg).map fun _=> ([],{ val:=some (.c (.mref .A)) })
  | some (.ar n k)=> match k with
   | .fp _ | .oe _ | .ie _ _=> some ([],{ val:=some (.ar n k) })
   | _=> none
  | _=> none
 | .binOp op t x y _=> match st.opnd x,st.opnd y with
  | some (.c (.bool a)),some (.c (.bool b))=> match cfg.var t with
   | some (false,[.bool _])=> (ZfS op a b).map fun c=> ([],{ val:=some (.c c) })
   | _=> none
  | some (.c (.slice _ l _)),some (.c .nils)=> match op,cfg.slT t with
   | .eql,some _=> some ([],{ val:=some (.nb (l=[]) True) })
   | .neq,some _=> some ([],{ val:=some (.nb True (l=[])) })
   | _,_=> none
  | some (.c (.po _ o)),some (.c .nilp)=> match op,cfg.var t with
   | .eql,some (false,[.nilp])=> some ([],{ val:=some (.c (.bool o.isNone)) })
   | .neq,some (false,[.nilp])=> some ([],{ val:=some (.c (.bool o.isSome)) })
   | _,_=> none
  | some (.ptr _ _),some (.c .nilp)=> match op,cfg.var t with
   | .eql,some (false,[.nilp])=> some ([],{ val:=some (.c (.bool false)) })
   | .neq,some (false,[.nilp])=> some ([],{ val:=some (.c (.bool true)) })
   | _,_=> none
  | some (.c (.mref .A)),some (.c .nilp)=> match st.ar cfg,op,cfg.var t with
   | some _,.eql,some (false,[.nilp])=> some ([],{ val:=some (.c (.bool false)) })
   | some _,.neq,some (false,[.nilp])=> some ([],{ val:=some (.c (.bool true)) })
   | _,_,_=> none
  | some (.c .nilp),some (.c .nilp)=> match op,cfg.var t with
   | .eql,some (false,[.nilp])=> some ([],{ val:=some (.c (.bool true)) })
   | .neq,some (false,[.nilp])=> some ([],{ val:=some (.c (.bool false)) })
   | _,_=> none
  | some (.c a),some (.c b)=> ZaD (Zmi Γ.wr op a b)
  | some (.agg a),some (.agg b)=> match op,cfg.eqs t,Z9w a b,cfg.var t with
   | .eql,true,some r,some (_,zs)=> if Z40 zs a then some ([],{ val:=some (.c (.bool r)) }) else none
   | .neq,true,some r,some (_,zs)=> if Z40 zs a then some ([],{ val:=some (.c (.bool (!r))) }) else none
   | _,_,_,_=> none
  | _,_=> none
 | .unOp op _ x=> match st.opnd x with
  | some (.c a)=> ZaD (aUn Γ.wr op a)
  | _=> none
 | .convert src dst x=> match cfg.var src,cfg.var dst,st.opnd x with
  | some (false,[.int _ _]),some (false,[.int k _]),some (.c (.int _ n))=> some ([],{ val:=some (.c (.int k (k.wrap n))) })
  | _,_,_=> none
 | .makeSlice t n m=> match cfg.slT t,st.opnd n,st.opnd m with
  | some T,some (.c (.int .i64 n)),some (.c (.int .i64 m))=>
   match cfg.var (cfg.elT T) with
   | some (_,zs)=> match cfg.dec T zs with
    | some z=> bif st.mu then ZbG cfg st o.dst T n m z else some ([0<=n/\n*cfg.bytes T<=140737488355328/\n<=9223372036854775807,m=n],{ val:=some (.c (.slice T (List.replicate n.toNat z) .full)) })
    | none=> none
   | none=> none
  | _,_,_=> none
 | .slice t x lo hi mx=> match st.opnd x,JL st lo,JL st hi,JL st mx with
  | some (.ptr nm off),some none,some none,some none=> match cfg.arr t,cfg.slT o.type,st.mem nm with
   | some (len,et),some T,some cs=> if off=0/\cs.length=len/\cfg.sz T=1/\cfg.elT T=et then match cs.mapM fun c=> cfg.dec T [c] with
    | some l=> some ([],{ val:=some (.c (.slice T l .full)),mem:=[(nm,[])] })
    | none=> none
    else none
   | _,_,_=> none
  | some (.c (.mref u)),some (some (.c (.int _ a))),some none,some none=> match cfg.slT t,st.ls u with
   | some S,some x=> match cfg.tyEq S x.T with
    | isTrue _=> bif st.vw then some ([0<=a/\a<=x.l.length],{ val:=some (.vw u a.toNat) }) else none
    | isFalse _=> none
   | _,_=> none
  | some (.c x),some lo,some hi,some mx=> ZaD (ZbF cfg t x lo hi mx)
  | _,_,_,_=> none
 | .fieldAddr t x f=> match st.opnd x,cfg.fld t f with
  | some (.mp u n o'),some (off,ft)=> match cfg.var ft with
   | some _=> if (st.ls u).isSome then some ([],{ val:=some (.mp u n (o'+off)) }) else none
   | none=> none
  | some (.c (.mref .A)),some (off,ft)=> match st.ar cfg,cfg.var ft with
   | some A,some (_,[_])=> if off < 4 then some ([],{ val:=some (.ar A.v (.fp off)) }) else none
   | _,_=> none
  | some (.c (.po T o)),some (off,ft)=> match cfg.var ft with
   | some (_,zs)=> (Z4m (.ep (cfg.enc T (o.getD (cfg.dflt T)))) off zs.length).map fun v=> ([o.isSome=true],{ val:=some v })
   | none=> none
  | some p,some (off,ft)=> match cfg.var ft with
   | some (_,zs)=> (Z4m p off zs.length).map fun v=> ([],{ val:=some v })
   | none=> none
  | _,_=> none
 | .field t x f=> match st.opnd x,cfg.fld t f with
  | some (.agg cs),some (off,ft)=> match cfg.var ft with
   | some (ag,zs)=> if off+zs.length<=cs.length then (mkV ag ((cs.drop off).take zs.length)).map fun v=> ([],{ val:=some v }) else none
   | none=> none
  | _,_=> none
 | .indexAddr t x i=> match st.opnd x,st.opnd i with
  | some (.c (.slice T l _)),some (.c (.int _ n))=> match cfg.slT t with
   | some S=> match cfg.tyEq S T with
    | isTrue _=> some ([0<=n/\n < l.length],{ val:=some (.ep (cfg.enc T (l.getD n.toNat (cfg.dflt T)))) })
    | isFalse _=> none
   | none=> none
  | some (.ar n k),some (.c (.int _ m))=> match st.ar cfg,cfg.slT t with
   | some A,some T=> match cfg.tyEq T (ZfQ cfg k) with
    | isTrue _=> (Z7u A n k m).map fun (ps,v)=> (ps,{ val:=some v })
    | isFalse _=> none
   | _,_=> none
  | some (.c (.mref u)),some (.c (.int _ n))=> match cfg.slT t,st.ls u with
   | some S,some x=> match cfg.tyEq S x.T with
    | isTrue _=> some ([0<=n/\n < x.l.length],{ val:=some (.mp u n.toNat 0) })
    | isFalse _=> none
   | _,_=> none
  | some (.ptr nm off),some (.c (.int _ n))=> match cfg.arr t with
   | some (len,et)=> match cfg.var et with
    | some (false,[.int k _])=> some ([0<=n/\n < len],{ val:=some (.ap nm off k len n) })
    | some (_,zs)=> if 0<=n/\n < len then some ([],{ val:=some (.ptr nm (off+n.toNat*zs.length)) }) else none
    | none=> none
   | none=> none
  | _,_=> none
 | .index t x i=> match st.opnd x,st.opnd i with
  | some (.agg cs),some (.c (.int _ n))=> match cfg.arr t with
   | some (len,et)=> match cfg.var et with
    | some (false,[.int k _])=> if len=cs.length then match JV k cs with
     | some l=> some ([0<=n/\n < len],{ val:=some (.c (.int k (l.getD n.toNat 0))) })
     | none=> none
     else none
    | some (ag,zs)=> if 0<=n/\n < len/\n.toNat*zs.length+zs.length<=cs.length then (mkV ag ((cs.drop (n.toNat*zs.length)).take zs.length)).map fun v=> ([],{ val:=some v }) else none
    | none=> none
   | none=> none
  | _,_=> none
 | .extract x i=> match st.opnd x with
  | some (.tup vs)=> match vs[i]? with
   | some (ag,cs)=> (mkV ag cs).map fun v=> ([],{ val:=some v })
   | none=> none
  | _=> none
 | .makeFunc f first caps=> match f,first.toList,caps.toList.mapM fun x=> (st.opnd x).bind Zgj with
  | .func f,[],some nms=> some ([],{ val:=some (.clo f nms) })
  | _,_,_=> none
 | .call c=> Z7v cfg Γ st o.dst c
 | _=> none
def V.deX:V U->V U
 | .c (.xp k)=> .ptr (.x k) 0
 | v=> v
def V.strip:V U->V U
 | .gd _ v=> v.deX
 | v=> v.deX
def FSt.strip(st:FSt U):FSt U:={ st with env:=fun k=> (st.env k).strip }
def YF(st:FSt U)(G:Option Bool):List Operand->List Prop
 | []=> []
 | .tmp t ::r=> match st.env t with
  | .gd g _=> (match G with | some G=> (G=true->g=true) | none=> g=true) ::YF st G r
  | _=> YF st G r
 | _ ::r=> YF st G r
def Z0u(ops:Array Oper)(st:FSt U)(o:Oper):Option (Option Bool):=
 match o.guard with
 | none=> some none
 | some (j,want)=> match (ops[j]?).bind (·.dst) with
  | some t=> match st.env t with
   | .c (.bool g)=> some (some (if want then g else !g))
   | .gd g0 (.c (.bool g))=> some (some (g0 && (if want then g else !g)))
   | _=> none
  | none=> none
def gW:Option Bool->Prop->Prop
 | none,p=> p
 | some G,p=> G=true->p
def gV:Option Bool->V U->V U
 | none,v=> v
 | some G,v=> .gd G v
def Z70(G:Option Bool)(c:Prop):V U->List Prop
 | .gd g _=> [gW G (c->g=true)]
 | _=> []
def Znl(d:Option Nat)(n:Nat):Bool:=
 match d with
 | some d=> Nat.blt d n
 | none=> true
def Y7(l:List Name)(nm:Name):Bool:=
 match l with
 | []=> false
 | a ::r=> if a=nm then true else Y7 r nm
def ZD:Option (V U)->List Name
 | some (.ptr nm _)=> [nm]
 | some (.ap nm _ _ _ _)=> [nm]
 | some (.clo _ nms)=> nms
 | _=> []
def V.toks:V U->List Tok
 | .c (.mref t)=> [t]
 | .mp t _ _=> [t]
 | .vw t _=> [t]
 | .ar _ _=> [.A]
 | _=> []
def Z9E:List Name->List Name
 | []=> []
 | a ::l=> a ::l++[.x 0,.x 1,.x 2,.x 3,.x 4,.x 5,.x 6,.x 7]
def touch(o:Oper)(st:FSt U):List Name:=
 match o.op with
 | .load _ p=> ZD (st.strip.opnd p)
 | .store _ p _=> ZD (st.strip.opnd p)
 | .alloc _ | .box _ _=> match o.dst with
  | some d=> [.loc d]
  | none=> []
 | .slice _ x _ _ _=> ZD (st.strip.opnd x)
 | .call c=> .loc (o.dst.getD 0) ::Z9E (ZD (match c.callee with | .value g=> st.strip.opnd g | _=> none)++c.args.toList.flatMap fun x=> ZD (st.strip.opnd x))
 | _=> []
def Yi(o:Oper):List Operand:=
 match o.op with
 | .load _ p=> [p]
 | .store _ p _=> [p]
 | .nilCheck x=> [x]
 | .fieldAddr _ x _=> [x]
 | .indexAddr _ x _=> [x]
 | .slice _ x _ _ _=> [x]
 | .call c=> match c.callee with
  | .builtin _=> c.args.toList
  | _=> []
 | _=> []
def touchT(o:Oper)(st:FSt U):List Tok:=
 ((Yi o).flatMap fun x=> (st.strip.opnd x).toList.flatMap V.toks)++match o.op with
  | .binOp _ _ x y _=> ([x,y].flatMap fun x=> (st.strip.opnd x).toList.flatMap V.toks).filter Tok.isA
  | .buildSlice _ n parts=> bif Z1v n parts.toList then [.A] else []
  | _=> []
def Z4M(l:List Tok)(t:Tok):Bool:=
 match l with
 | []=> false
 | a ::r=> if a=t then true else Z4M r t
def Zct(tyEq:DecidableEq U.Ty)(G:Bool):C U->C U->Option (C U)
 | .int k n,.int k' n'=> if k=k' then some (.int k (bif G then n' else n)) else none
 | .bool b,.bool b'=> some (.bool (bif G then b' else b))
 | .nils,.nils=> some .nils
 | .nilp,.nilp=> some .nilp
 | .xp k,.xp k'=> if k=k' then some (.xp k) else none
 | .mref .A,.mref .A=> some (.mref .A)
 | .po T o,.po T' o'=> match tyEq T' T with
  | isTrue h=> some (.po T (bif G then h▸o' else o))
  | isFalse _=> none
 | .slice T l .unk,.slice T' l' .unk=> match tyEq T' T with
  | isTrue h=> some (.slice T (bif G then h▸l' else l) .unk)
  | isFalse _=> none
 | _,_=> none
def Z6Z(tyEq:DecidableEq U.Ty)(G:Bool):List (C U)->List (C U)->Option (List (C U))
 | [],[]=> some []
 | c ::r,c' ::r'=> match Zct tyEq G c c',Z6Z tyEq G r r' with
  | some x,some y=> some (x ::y)
  | _,_=> none
 | _,_=> none
def Z0p(tyEq:DecidableEq U.Ty)(G:Bool)(m:Name->Option (List (C U))):List (Name × List (C U))->Option (List (Name × List (C U)))
 | []=> some []
 | (nm,cs') ::r=> match m nm with
  | none=> none
  | some cs=> match Z6Z tyEq G cs cs',Z0p tyEq G m r with
   | some x,some y=> some ((nm,x) ::y)
   | _,_=> none
def Z3z(Γ:Known U):Option (V U)->Bool
 | some (.fn f)=> match Γ f with
  | some s=> s.wr || s.bor || s.arn.isSome
  | none=> false
 | _=> false
def YC(Γ:Known U)(o:Oper)(st:FSt U):Bool:=
 match o.op with
 | .call c=> match c.callee with
  | .value g=> match st.strip.opnd g with
   | some (.fn f)=> Z3z Γ (some (.fn f))
   | some (.clo f _)=> Z3z Γ (some (.fn f))
   | _=> false
  | _=> false
 | _=> false
def Z47(cfg:Cfg U)(G:Bool)(st:FSt U)(x':LC U):Option (LC U):=
 match st.ls .A with
 | some x=> match cfg.tyEq x'.T x.T,cfg.aT x.T with
  | isTrue h,some _=> match x.l,h▸x'.l with
   | [y],[y']=> bif Nat.blt x.f x'.f then some ⟨x.T,[bif G then y' else y],x'.f⟩ else none
   | _,_=> none
  | _,_=> none
 | none=> none
def JK(cfg:Cfg U)(Γ:Known U)(ops:Array Oper)(o:Oper)(st:FSt U):Option (List Prop × Eff U):=
 if Znl o.dst st.n then
 match o.op,o.guard with
 | .pick c a b,_=> match Z0u ops st o,st.opnd c,st.opnd a,st.opnd b with
  | some G,some c,some a,some b=> match c.strip,a.strip,b.strip with
   | .c (.bool cv),.c (.bool av),.c (.bool bv)=>
    some (Z70 G True c++(Z70 G (cv=true) a++Z70 G (cv=false) b),{ val:=some (gV G (.c (.bool (bif cv then av else bv)))) })
   | .c (.bool true),.c (.bool av),_=> some (Z70 G True c++Z70 G True a,{ val:=some (gV G (.c (.bool av))) })
   | .c (.bool false),_,.c (.bool bv)=> some (Z70 G True c++Z70 G True b,{ val:=some (gV G (.c (.bool bv))) })
   | _,_,_=> none
  | _,_,_,_=> none
 | _,_=> match Z0u ops st o with
  | none=> none
  | some G=> match aop cfg Γ o st.strip with
   | none=> match G with
    | some false=> some ([],{ val:=some (.gd false .junk) })
    | _=> none
   | some (ps,e)=> match G with
    | none=> some (YF st none o.op.operands.toList++ps,e)
    | some G=> match e with
     | { val:=some v,mem:=[],kill:=[],ls:=[] }=> some (YF st (some G) o.op.operands.toList++ps.map (fun p=> G=true->p),{ val:=some (.gd G v) })
     | { val:=some v,mem:=m,kill:=[],ls:=[] }=> match m.all (fun x=> Y7 (touch o st) x.1),Z0p cfg.tyEq G st.mem m with
      | true,some m'=> some (YF st (some G) o.op.operands.toList++ps.map (fun p=> G=true->p),{ val:=some (.gd G v),mem:=m' })
      | _,_=> none
     | { val:=some v,mem:=m,kill:=[],ls:=[(.A,x')] }=> match m.all (fun x=> Y7 (touch o st) x.1) && (Z4M (touchT o st) .A || YC Γ o st),Z0p cfg.tyEq G st.mem m,Z47 cfg G st x' with
      | true,some m',some x''=> some (YF st (some G) o.op.operands.toList++ps.map (fun p=> G=true->p),{ val:=some (.gd G v),mem:=m',ls:=[(.A,x'')] })
      | _,_,_=> match G with
       | true=> some (YF st (some true) o.op.operands.toList++ps,e)
       | false=> some ([],{ val:=some (.gd false .junk) })
     | e=> match G with
      | true=> some (YF st (some true) o.op.operands.toList++ps,e)
      | false=> some ([],{ val:=some (.gd false .junk) })
 else none
def Zf8(st:FSt U)(nm:Name):List Tok:=
 match st.mem nm with
 | some cs=> Ziq cs
 | none=> []
def Zeq(st:FSt U):Option (V U)->List Tok
 | some (.ptr nm _)=> Zf8 st nm
 | some (.clo _ nms)=> nms.flatMap (Zf8 st)
 | some v=> v.muts
 | none=> []
def Z1O:Option (V U)->List Tok
 | some v=> v.muts
 | none=> []
def Z7p(Γ:Known U)(o:Oper)(st:FSt U):List Tok:=
 match o.op with
 | .call c=> match c.callee with
  | .builtin .append=> match c.args.toList with
   | [_,y]=> Z1O (st.strip.opnd y)
   | _=> []
  | .value g=> match Z3z Γ (st.strip.opnd g) with
   | true=> []
   | false=> Zeq st (st.strip.opnd g)++c.args.toList.flatMap fun x=> Zeq st (st.strip.opnd x)
  | _=> []
 | .slice _ x lo hi _=> bif st.vw && lo.isSome && hi.isNone then [] else Z1O (st.strip.opnd x)
 | .buildSlice _ _ parts=> parts.toList.flatMap fun x=> Z1O (st.strip.opnd x.2)
 | .binOp _ _ x y _=> (Z1O (st.strip.opnd x)++Z1O (st.strip.opnd y)).filter fun t=> !t.isA
 | .store _ p x=> match st.strip.opnd p with
  | some (.mp ..)=> Z1O (st.strip.opnd x)
  | _=> []
 | _=> []
def Z34{α:Type}(cfg:Cfg U)(st:FSt U)(k:FSt U->α):List Tok->α
 | []=> k st
 | t ::r=> k (st.frz cfg (t ::r))
def FSt.pre(cfg:Cfg U)(Γ:Known U)(st:FSt U)(fz:Bool)(o:Oper):FSt U:=Z34 cfg st id (bif fz then Z7p Γ o st else [])
def Z9e(cfg:Cfg U)(Γ:Known U)(ops:Array Oper)(fz:Bool):List Oper->FSt U->Option (List Prop × FSt U)
 | [],st=> some ([],st)
 | o ::r,st=> Z34 cfg st (fun st=> match JK cfg Γ ops o st with
  | none=> none
  | some (ps,e)=> match Z9e cfg Γ ops fz r (st.app o.dst e) with
   | none=> none
   | some (qs,st')=> some (ps++qs,st'))
   (bif fz then Z7p Γ o st else [])
def All:List Prop->Prop
 | []=> True
 | p ::r=> p/\All r
end Go.AM
