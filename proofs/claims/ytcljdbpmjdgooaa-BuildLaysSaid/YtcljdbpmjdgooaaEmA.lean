import Derived.Orders
import Derived.Below
import Derived.KernelRfl
set_option linter.unusedSimpArgs false
set_option linter.unusedVariables false
namespace Go.AM
abbrev Q0:=@List.getElem?_eq_getElem
abbrev Q1:=@List.getElem?_eq_some_iff
abbrev Q2:=@Bool.and_eq_true
abbrev Q3:=@Nat.eq_of_beq_eq_true
abbrev Q4:=@Option.map_some
abbrev Q5:=@List.eq_nil_of_length_eq_zero
abbrev Q6:=@List.getD_eq_getElem?_getD
abbrev Q7:=@Nat.mul_le_mul_right
abbrev Q8:=@List.getElem?_map
abbrev Q9:=@List.all_eq_true
abbrev Qa:=@List.length_append
abbrev Qb:=@Bool.or_eq_false_iff
abbrev Qc:=@List.length_take
abbrev Qd:=@Bool.false_eq_true
abbrev Qe:=@Int.toNat_natCast
abbrev Qf:=@Int.eq_ofNat_of_zero_le
abbrev Qg:=@List.getElem?_append
abbrev Qh:=@List.getElem?_drop
abbrev Qi:=@Bool.not_eq_true'
abbrev Qj:=@Option.isNone_iff_eq_none
abbrev Qk:=@List.mem_cons_of_mem
abbrev Ql:=@List.getElem?_append_right
abbrev Qm:=@Nat.zero_add
abbrev Qn:=@Nat.le_refl
abbrev Qo:=@Nat.add_mul
abbrev Qp:=@List.getElem?_append_left
abbrev Qq:=@Bool.eq_iff_iff
abbrev Qr:=@List.contains_nil
abbrev Qs:=@List.length_replicate
abbrev Qt:=@List.mem_append
abbrev Qu:=@Array.getElem?_eq_getElem
abbrev Qv:=@List.length_cons
abbrev Qw:=@List.take_of_length_le
abbrev Qx:=@List.mem_of_getElem?
abbrev Qy:=@List.mem_append_left
abbrev Qz:=@List.mem_cons_self
abbrev QA:=@List.mapM_cons
abbrev QB:=@Array.getElem?_eq_some_iff
abbrev QC:=@Nat.lt_of_lt_of_le
abbrev QD:=@List.mem_singleton
abbrev QE:=@Option.getD_some
abbrev QF:=@List.mem_cons
abbrev QG:=@Option.map_none
abbrev QH:=@Array.ext'
abbrev QI:=@List.length_set
abbrev QJ:=@Nat.two_pow_add_eq_or_of_lt
abbrev QK:=@List.getElem?_take
abbrev QL:=@List.length_eq_zero_iff
abbrev QM:=@List.drop_eq_nil_of_le
abbrev QN:=@List.append_assoc
abbrev QO:=@List.getElem_of_mem
abbrev QP:=@List.length_map
abbrev QQ:=@Bool.or_eq_true
abbrev QR:=@List.getElem?_take_of_lt
abbrev QS:=@Int.mul_nonneg
abbrev QU:=@Nat.min_eq_left
abbrev QV:=@Nat.mul_comm
abbrev QW:=@Bool.or_self
abbrev QX:=@Int.tdiv_eq_ediv_of_nonneg
abbrev QY:=@Bool.true_and
abbrev QZ:=@List.mem_append_right
abbrev X3:=@List.getElem?_eq_none
abbrev X4:=@Option.isSome_iff_exists
abbrev X5:=@Nat.mod_eq_of_lt
abbrev X6:=@List.getElem_mem
abbrev X7:=@Option.isSome_some
abbrev X8:=@Nat.le_trans
abbrev X9:=@List.mem_filterMap
abbrev Xa:=@List.length_singleton
abbrev Xb:=@List.length_nil
abbrev Xc:=@Nat.div_lt_of_lt_mul
abbrev Xd:=@List.drop_eq_getElem_cons
abbrev Xe:=@Nat.add_zero
abbrev Xf:=@List.take_length
abbrev Xg:=@List.take_append_getElem
abbrev Xh:=@List.mem_map
abbrev Xi:=@List.cons_append
abbrev Xj:=@Array.toList_map
abbrev Xk:=@List.getElem?_range
abbrev Xl:=@Nat.le_mul_of_pos_right
abbrev Xm:=@Bool.not_true
abbrev Xn:=@Int.mul_le_mul_of_nonneg_right
abbrev Xo:=@Int.emod_lt_of_pos
abbrev Xp:=@Array.append_assoc
abbrev Xq:=@List.getElem?_set
abbrev Xr:=@List.flatMap_cons
abbrev Xs:=@Nat.lt_or_ge
abbrev Xt:=@Int.le_of_lt
abbrev Xu:=@Nat.mod_lt
abbrev Xv:=@List.getElem?_set_ne
abbrev Xw:=@List.map_cons
abbrev Xx:=@Int.tmod_eq_emod_of_nonneg
abbrev Xy:=@Int.fdiv_eq_ediv_of_nonneg
abbrev Xz:=@Nat.div_add_mod
abbrev XA:=@List.mem_or_eq_of_mem_set
abbrev XB:=@List.getElem?_zip_eq_some
abbrev XC:=@List.append_nil
abbrev XD:=@Int.natCast_mul
abbrev XE:=@Int.emod_nonneg
abbrev XF:=@BitVec.toNat_ofNat
abbrev XG:=@Bool.not_false
abbrev XH:=@Bool.false_and
abbrev XI:=@List.getElem?_cons_zero
abbrev XJ:=@Option.map_eq_some_iff
abbrev XK:=@Nat.zero_le
abbrev XL:=@Int.add_mul
abbrev XM:=@List.length_drop
abbrev XN:=@List.drop_length
abbrev XO:=@Nat.le_div_iff_mul_le
abbrev XP:=@Nat.pow_le_pow_right
abbrev XQ:=@Nat.mul_add_mod
abbrev XR:=@List.mem_of_mem_take
abbrev XT:=@List.map_append
abbrev XU:=@Int.ofNat_eq_natCast
abbrev XV:=@Int.toNat_of_nonneg
abbrev XW:=@Bool.and_false
abbrev XX:=@Int.one_mul
abbrev XY:=@Int.le_refl
abbrev XZ:=@List.mem_replicate
abbrev K0:=@Int.add_assoc
abbrev K1:=@Ne.symm
abbrev K2:=@Option.bind_some
abbrev K3:=@List.mem_flatMap
abbrev K4:=@Bool.not_eq_true
abbrev K5:=@BitVec.toNat_or
abbrev K6:=@Nat.sub_mul
structure Uni where
 Ty:Type
 El:Ty->Type
inductive Tok where
 | e (k j:Nat) | l (s j:Nat) | x (k j:Nat) | r (d j:Nat) | z (s j:Nat)
 | A | S (v i:Nat)
 deriving DecidableEq
def Tok.root:Tok->Tok
 | .S _ _=> .A
 | t=> t
def Tok.isA:Tok->Bool
 | .A=> true
 | .S _ _=> true
 | _=> false
structure AState where
 segs:List (List Int)
 x:Int
 y:Int
 z:Int
inductive AK where
 | fp (off:Nat) | ov | oe (n:Nat) | iv (n:Nat) | ie (n j:Nat) | pd (i:Nat) | nl (n:Nat)
def Tok.isR:Tok->Bool
 | .r _ _=> true
 | .z _ _=> true
 | _=> false
inductive Tail where
 | unk | full | own (t:Tok)
 deriving DecidableEq
inductive Name where
 | loc (s:Nat) | x (k:Nat)
 deriving DecidableEq
inductive C (U:Uni):Type where
 | int (k:IntKind) (n:Int)
 | bool (b:Bool)
 | nils
 | nilp
 | slice (T:U.Ty) (l:List (U.El T)) (tl:Tail)
 | mref (t:Tok)
 | po (T:U.Ty) (o:Option (U.El T))
 | xp (k:Nat)
 | jk
structure LC (U:Uni) where
 T:U.Ty
 l:List (U.El T)
 f:Nat
def Name.isX:Name->Bool
 | .x _=> true
 | .loc _=> false
inductive V (U:Uni):Type where
 | c (x:C U)
 | agg (cs:List (C U))
 | tup (vs:List (Bool × List (C U)))
 | ptr (nm:Name) (off:Nat)
 | ap (nm:Name) (off:Nat) (k:IntKind) (len:Nat) (n:Int)
 | ep (cs:List (C U))
 | mp (t:Tok) (n off:Nat)
 | vw (t:Tok) (n:Nat)
 | fn (f:FuncId)
 | clo (f:FuncId) (nms:List Name)
 | gd (g:Bool) (v:V U)
 | nb (p q:Prop)
 | ar (v:Nat) (k:AK)
 | junk
variable {U:Uni}
def C.mapTok(f f2:Tok->Option Tok)(fx:Nat->Option Nat):C U->C U
 | .slice T l (.own t)=> .slice T l (match f t with | some t'=> .own t' | none=> .unk)
 | .mref t=> match f2 t with
  | some t'=> .mref t'
  | none=> .jk
 | .xp k=> match fx k with
  | some k'=> .xp k'
  | none=> .jk
 | c=> c
def V.mapTok(f f2:Tok->Option Tok)(fx:Nat->Option Nat):V U->V U
 | .c x=> .c (x.mapTok f f2 fx)
 | .agg cs=> .agg (cs.map (C.mapTok f f2 fx))
 | .tup vs=> .tup (vs.map fun x=> (x.1,x.2.map (C.mapTok f f2 fx)))
 | .ep cs=> .ep (cs.map (C.mapTok f f2 fx))
 | .gd b v=> .gd b (v.mapTok f f2 fx)
 | .nb p q=> .nb p q
 | .ptr .. => .junk
 | .ap .. => .junk
 | .fn f=> .fn f
 | .mp .. => .junk
 | .vw .. => .junk
 | .clo .. => .junk
 | .ar .. => .junk
 | .junk=> .junk
structure Cfg (U:Uni) where
 tyEq:DecidableEq U.Ty
 dflt:(T:U.Ty)->U.El T
 enc:(T:U.Ty)->U.El T->List (C U)
 dec:(T:U.Ty)->List (C U)->Option (U.El T)
 aggT:U.Ty->Bool
 sz:U.Ty->Nat
 bytes:U.Ty->Nat
 elT:U.Ty->TypeId
 slT:TypeId->Option U.Ty
 var:TypeId->Option (Bool × List (C U))
 fld:TypeId->Nat->Option (Nat × TypeId)
 arr:TypeId->Option (Nat × TypeId)
 eqs:TypeId->Bool
 aT:(T:U.Ty)->Option (U.El T->AState)
 aOf:(T:U.Ty)->AState->Option (U.El T)
 wT:U.Ty
 wsT:U.Ty
 wI:List Int->List (U.El wT)
 wO:List (U.El wT)->List Int
 wsI:List (List Int)->List (U.El wsT)
def Z5k(fn:List (V U)->List (List (C U))->Option (List Prop × V U × List (List (C U)))):List (V U)->List (List (C U))->List (Tok × LC U)->Option (List Prop × V U × List (List (C U)) × List (Tok × LC U)):=fun xs X L=>
 match L with
 | []=> match fn xs X with
  | some (ps,r,X')=> some (ps,r,X',[])
  | none=> none
 | _ ::_=> none
structure Fs (U:Uni) where
 pass:Nat->Bool:=fun _=> false
 wr:Bool:=false
 mkl:Bool:=false
 bor:Bool:=false
 obj:Bool:=false
 arn:Option U.Ty:=none
 fn:List (V U)->List (List (C U))->Option (List Prop × V U × List (List (C U)))
 fn2:List (V U)->List (List (C U))->List (Tok × LC U)->Option (List Prop × V U × List (List (C U)) × List (Tok × LC U)):=Z5k fn
structure Known (U:Uni) where
 fn:FuncId->Option (Fs U)
 wr:Bool
 ml:Bool
 na:Bool:=false
instance:CoeFun (Known U) (fun _=> FuncId->Option (Fs U)):=⟨Known.fn⟩
structure FSt (U:Uni) where
 n:Nat
 env:Nat->V U
 mem:Name->Option (List (C U))
 dead:Tok->Bool
 ls:Tok->Option (LC U)
 mu:Bool
 vw:Bool
structure Eff (U:Uni) where
 val:Option (V U):=none
 mem:List (Name × List (C U)):=[]
 kill:List Tok:=[]
 ls:List (Tok × LC U):=[]
def FSt.put(st:FSt U)(d:Option Nat)(v:V U):FSt U:=
 match d with
 | some k=> { st with env:=fun j=> bif Nat.beq j k then v else st.env j }
 | none=> st
def Zr(m:Name->Option (List (C U))):List (Name × List (C U))->Name->Option (List (C U))
 | [],nm=> m nm
 | (a,cs) ::r,nm=> if nm=a then some cs else Zr m r nm
def Z7(m:Tok->Option (LC U)):List (Tok × LC U)->Tok->Option (LC U)
 | [],t=> m t
 | (a,x) ::r,t=> if t=a then some x else Z7 m r t
def Y1(m:Tok->Option (LC U))(e:Eff U):Tok->Option (LC U):=fun t=> bif e.kill.contains t then none else Z7 m e.ls t
def FSt.app(st:FSt U)(d:Option Nat)(e:Eff U):FSt U:=
 {st.put d (e.val.getD .junk) with mem:=Zr st.mem e.mem,dead:=fun t=> st.dead t || e.kill.contains t,ls:=Y1 st.ls e }
def YP:Value->Option (C U)
 | .int k n=> some (.int k n)
 | .bool b=> some (.bool b)
 | .slice none 0 0=> some .nils
 | .pointer none=> some .nilp
 | _=> none
def Z8G:Value->Option (V U)
 | .agg cs=> (cs.toList.mapM YP).map .agg
 | v=> (YP v).map .c
def FSt.opnd(st:FSt U):Operand->Option (V U)
 | .tmp t=> some (st.env t)
 | .const v=> Z8G v
 | .func f=> some (.fn f)
 | .global _=> none
def V.cells:V U->Option (List (C U))
 | .c x=> some [x]
 | .agg cs=> some cs
 | .ptr (.x k) 0=> some [.xp k]
 | _=> none
def mkV(ag:Bool)(cs:List (C U)):Option (V U):=
 match ag,cs with
 | true,cs=> some (.agg cs)
 | false,[c]=> some (.c c)
 | false,_=> none
def InR(n:Int):Prop:= -9223372036854775808<=n/\n<=9223372036854775807
def Z5n(wr:Bool)(k:IntKind)(n:Int):List Prop × C U:=
 match wr,k with
 | false,.i64=> ([InR n],.int .i64 n)
 | _,k=> ([],.int k (k.wrap n))
def Zi0(wr:Bool)(op:BinOp)(x y:C U):Option (List Prop × C U):=
 match x,y with
 | .int k a,.int k' b=>
  match op with
  | .shl=> some ([0<=b],.int k (k.wrap (a*2 ^ (min b.toNat k.bits))))
  | .shr=> some ([0<=b],.int k (a.fdiv (2 ^ (min b.toNat k.bits))))
  | .eql=> if k=k' then some ([],.bool (a==b)) else none
  | .neq=> if k=k' then some ([],.bool (a !=b)) else none
  | .lss=> if k=k' then some ([],.bool (decide (a < b))) else none
  | .leq=> if k=k' then some ([],.bool (decide (a<=b))) else none
  | .gtr=> if k=k' then some ([],.bool (decide (b < a))) else none
  | .geq=> if k=k' then some ([],.bool (decide (b<=a))) else none
  | .add=> if k=k' then some (Z5n wr k (a+b)) else none
  | .sub=> if k=k' then some (Z5n wr k (a - b)) else none
  | .mul=> if k=k' then some (Z5n wr k (a*b)) else none
  | .quo=> if k=k' then some ([b≠0],.int k (k.wrap (a.tdiv b))) else none
  | .rem=> if k=k' then some ([b≠0],.int k (a.tmod b)) else none
  | .and=> if k=k' then some ([],.int k (k.wrap (BitVec.ofInt k.bits a &&& BitVec.ofInt k.bits b).toNat)) else none
  | .or=> if k=k' then some ([],.int k (k.wrap (BitVec.ofInt k.bits a ||| BitVec.ofInt k.bits b).toNat)) else none
  | .xor=> if k=k' then some ([],.int k (k.wrap (BitVec.ofInt k.bits a ^^^ BitVec.ofInt k.bits b).toNat)) else none
  | .andNot=> if k=k' then some ([],.int k (k.wrap (BitVec.ofInt k.bits a &&& ~~~(BitVec.ofInt k.bits b)).toNat)) else none
 | _,_=> none
def ZcE(op:BinOp)(a b:Bool):Option (C U):=
 match op with
 | .eql=> some (.bool (a==b))
 | .neq=> some (.bool (a !=b))
 | _=> none
def Z7c:List (C U)->List (C U)->Option Bool
 | [],[]=> some true
 | .int k a ::r,.int k' b ::s=> if k=k' then (Z7c r s).map fun x=> (a==b) && x else none
 | .bool a ::r,.bool b ::s=> (Z7c r s).map fun x=> (a==b) && x
 | _,_=> none
def Z2H:List (C U)->List (C U)->Bool
 | [],[]=> true
 | .int _ _ ::r,.int _ _ ::s=> Z2H r s
 | .bool _ ::r,.bool _ ::s=> Z2H r s
 | _,_=> false
def aUn(wr:Bool)(op:UnOp)(x:C U):Option (List Prop × C U):=
 match op,x with
 | .not,.bool b=> some ([],.bool (!b))
 | .neg,.int k n=> some (Z5n wr k (-n))
 | .xor,.int k n=> some ([],.int k (k.wrap (BitVec.ofInt k.bits (if k.signed then -1 else k.max) ^^^ BitVec.ofInt k.bits n).toNat))
 | _,_=> none
def Z6Z(cfg:Cfg U)(T:U.Ty):C U->Option (List (U.El T) × Tail)
 | .nils=> some ([],.full)
 | .slice S l tl=>
  match cfg.tyEq S T with
  | isTrue h=> some (h▸l,tl)
  | isFalse _=> none
 | _=> none
def ZT(cs:List (C U))(off:Nat)(new:List (C U)):Option (List (C U)):=
 if off+new.length<=cs.length then some (cs.take off++new++cs.drop (off+new.length)) else none
def Z8F(cfg:Cfg U)(t:TypeId)(i:Nat):Option (Nat × Nat):=
 match cfg.fld t i with
 | some (off,ft)=>
  match cfg.var ft with
  | some (_,zs)=> some (off,zs.length)
  | none=> none
 | none=>
  match cfg.arr t with
  | some (_,et)=>
   match cfg.var et with
   | some (_,zs)=> some (i*zs.length,zs.length)
   | none=> none
  | none=> none
def J1(cfg:Cfg U)(t:TypeId):List (C U)->List (Nat × List (C U))->Option (List (C U))
 | cs,[]=> some cs
 | cs,(i,new) ::r=>
  match Z8F cfg t i with
  | some (off,n)=> if new.length=n then (ZT cs off new).bind fun cs'=> J1 cfg t cs' r else none
  | none=> none
def Jh(k:IntKind):List (C U)->Option (List Int)
 | []=> some []
 | .int k' n ::r=> if k=k' then (Jh k r).map (n ::·) else none
 | _=> none
def Zdu(n:Int)(j:Nat)(v x:Int):Int:=if n=(j:Int) then v else x
def JH(k:IntKind)(n v:Int):Nat->List Int->List (C U)
 | _,[]=> []
 | j,x ::r=> .int k (Zdu n j v x) ::JH k n v (j+1) r
def rd(st:FSt U)(p:V U)(ag:Bool)(n:Nat):Option (V U):=
 match p with
 | .ptr nm off=>
  match st.mem nm with
  | some cs=> if off+n<=cs.length then mkV ag ((cs.drop off).take n) else none
  | none=> none
 | .ep cs=> if n<=cs.length then mkV ag (cs.take n) else none
 | .ap nm off k len i=>
  match st.mem nm with
  | some cs=> if off+len<=cs.length then match Jh k ((cs.drop off).take len) with
   | some l=> bif ag then none else some (.c (.int k (l.getD i.toNat 0)))
   | none=> none
   else none
  | none=> none
 | _=> none
def J6(st:FSt U):Option Operand->Option (Option (V U))
 | none=> some none
 | some x=> (st.opnd x).map some
def C.frz(t:Tok)(x:LC U):C U->C U
 | .mref u=> if u=t then (bif t.isA then .po x.T x.l.head? else .slice x.T x.l (.own t)) else .mref u
 | .slice T l (.own u)=> if u=t then .slice T l .unk else .slice T l (.own u)
 | c=> c
def V.frzA(cfg:Cfg U)(x:LC U)(n:Nat):AK->V U
 | .nl k=> .ar n (.nl k)
 | .ov=> bif Nat.beq n x.f then match cfg.aT x.T,x.l with
  | some f,[y]=> .c (.slice cfg.wsT (cfg.wsI (f y).segs) .unk)
  | _,_=> .junk
  else .junk
 | _=> .junk
def V.frz(cfg:Cfg U)(t:Tok)(x:LC U):V U->V U
 | .c y=> .c (y.frz t x)
 | .agg cs=> .agg (cs.map (C.frz t x))
 | .tup vs=> .tup (vs.map fun y=> (y.1,y.2.map (C.frz t x)))
 | .ep cs=> .ep (cs.map (C.frz t x))
 | .gd b v=> .gd b (v.frz cfg t x)
 | .mp u n off=> if u=t then .ep ((cfg.enc x.T (x.l.getD n (cfg.dflt x.T))).drop off) else .mp u n off
 | .vw u n=> if u=t then .junk else .vw u n
 | .ar n k=> if t= .A then V.frzA cfg x n k else .ar n k
 | v=> v
def FSt.frz1(cfg:Cfg U)(st:FSt U)(t:Tok):FSt U:=
 match st.ls t with
 | none=> st
 | some x=> bif t.isA && Nat.blt 1 x.l.length then st else { st with env:=fun k=> (st.env k).frz cfg t x,mem:=fun nm=> (st.mem nm).map fun cs=> cs.map (C.frz t x),ls:=fun u=> if u=t then none else st.ls u,dead:=fun u=> st.dead u || (t.isA && u.isA) }
def FSt.frz(cfg:Cfg U)(st:FSt U):List Tok->FSt U
 | []=> st
 | t ::r=> (st.frz1 cfg t).frz cfg r
def C.muts:C U->List Tok
 | .mref t=> [t]
 | _=> []
def ZeK:List (C U)->List Tok
 | []=> []
 | c ::r=> c.muts++ZeK r
def V.muts:V U->List Tok
 | .c x=> x.muts
 | .agg cs=> ZeK cs
 | .gd _ v=> v.muts
 | .mp t _ _=> [t]
 | .vw t _=> [t]
 | .ar _ .ov=> [.A]
 | _=> []
def Zm(s:List (Tok × Tok))(t:Tok):Option Tok:=
 match s with
 | []=> none
 | (a,b) ::r=> if b=t then some a else Zm r t
def Zl(s:List (Tok × Tok))(t:Tok):Option Tok:=
 match s with
 | []=> none
 | (a,b) ::r=> if a=t then some b else Zl r t
def Y5(s:List (Tok × Tok))(t:Tok):Option Tok:=
 match t with
 | .S v i=> (Zl s .A).map fun _=> .S v i
 | t=> Zl s t
def YC(mine:Tok->Bool)(nm:Tok)(c:C U)(seen:List (Tok × Tok)):C U × List (Tok × Tok):=
 match c with
 | .slice T l (.own t)=> if (mine t && !t.isA) && (Zl seen t).isNone && (Zm seen nm).isNone then (.slice T l (.own nm),(t,nm) ::seen) else (.slice T l .unk,seen)
 | .mref .A=> bif mine .A then (match Zl seen .A with
   | none=> if (Zm seen .A).isNone then (.mref .A,(.A,.A) ::seen) else (.jk,seen)
   | some _=> if Zm seen .A=some .A then (.mref .A,seen) else (.jk,seen)) else (.jk,seen)
 | .mref t=> if (mine t && !t.isA) && (Zl seen t).isNone && (Zm seen nm).isNone then (.mref nm,(t,nm) ::seen) else (.jk,seen)
 | .xp _=> (.jk,seen)
 | c=> (c,seen)
def Ya(mine:Tok->Bool)(nm:Nat->Tok):(j:Nat)->List (C U)->List (Tok × Tok)->List (C U) × List (Tok × Tok)
 | _,[],seen=> ([],seen)
 | j,c ::r,seen=> ((YC mine (nm j) c seen).1 ::(Ya mine nm (j+1) r (YC mine (nm j) c seen).2).1,(Ya mine nm (j+1) r (YC mine (nm j) c seen).2).2)
def ZeB(mine:Tok->Bool)(nm:Nat->Tok)(v:V U)(seen:List (Tok × Tok)):Option (V U × List (Tok × Tok)):=
 match v with
 | .c x=> some (.c (YC mine (nm 0) x seen).1,(YC mine (nm 0) x seen).2)
 | .agg cs=> some (.agg (Ya mine nm 0 cs seen).1,(Ya mine nm 0 cs seen).2)
 | .fn f=> some (.fn f,seen)
 | _=> none
def Zd1:V U->Option Name
 | .ptr nm 0=> some nm
 | _=> none
def Z3K(os:List (Name × List (C U)))(nm:Name):Bool:=
 match os with
 | []=> false
 | (a,_) ::r=> if a=nm then true else Z3K r nm
def Zd2:V U->Option (Name × (Name->V U))
 | .ptr nm off=> some (nm,fun n=> .ptr n off)
 | .clo f [nm]=> some (nm,fun n=> .clo f [n])
 | _=> none
def Y3(st:FSt U)(ps:Nat->Bool):(i:Nat)->List (V U)->List (Name × List (C U))->List (Tok × Tok)->
  Option (List (V U) × List (Name × List (C U)) × List (Tok × Tok))
 | _,[],os,seen=> some ([],os,seen)
 | i,v ::r,os,seen=>
  match Zd2 v with
  | some (nm,mk)=>
   match st.mem nm with
   | none=> none
   | some cs=>
    if Z3K os nm then none else
    match Y3 st ps (i+1) r (os++[(nm,(Ya (fun t=> !st.dead t) (.x os.length) 0 cs seen).1)]) (Ya (fun t=> !st.dead t) (.x os.length) 0 cs seen).2 with
    | some (vs,os',s)=> some (mk (.x os.length) ::vs,os',s)
    | none=> none
  | none=>
   match ZeB (fun t=> ps i && !st.dead t) (.e i) v seen with
   | none=> none
   | some (v',seen')=>
    match Y3 st ps (i+1) r os seen' with
    | some (vs,os',s)=> some (v' ::vs,os',s)
    | none=> none
def Zp(d:Nat):Tok->Option Tok
 | .r 0 j=> some (.r d (2*j))
 | .A=> some .A
 | .S v i=> some (.S v i)
 | .x k j=> if j < 64 then some (.r d (2*(64*k+j)+1)) else none
 | _=> none
def Yy(d:Nat):Tok->Option Tok
 | .A=> some .A
 | .S v i=> some (.S v i)
 | .r d' m=> if d'=d then (if m % 2=0 then some (.r 0 (m / 2)) else some (.x (m / 2 / 64) (m / 2 % 64))) else none
 | _=> none
def J4(d:Nat)(L:List (Tok × LC U))(t:Tok):Option Tok:=
 match t with
 | .S _ _=> none
 | t=> match Z7 (fun _=> none) L t with
  | some _=> Zp d t
  | none=> none
def Z02(st:FSt U):Tok->Bool
 | .A=> true
 | .S _ _=> false
 | t=> (st.ls t).isNone && !st.dead t
def JU(st:FSt U)(t:Tok)(x:LC U):LC U:=
 match t with
 | .A=> match st.ls .A with
  | some y=> ⟨x.T,x.l,y.f+2+x.f⟩
  | none=> x
 | _=> x
def YQ(st:FSt U)(d:Nat):List (Tok × LC U)->Option (List (Tok × LC U))
 | []=> some []
 | (t,x) ::r=> match Zp d t,YQ st d r with
  | some t',some l=> if Z02 st t' then some ((t',JU st t' x) ::l) else none
  | _,_=> none
def Z1b(d:Nat)(L:List (Tok × LC U))(fx:Nat->Option Nat):List (Name × List (C U))->List (List (C U))->Option (List (Name × List (C U)))
 | [],[]=> some []
 | (nm,_) ::r,cs ::s=> (Z1b d L fx r s).map ((nm,cs.map (C.mapTok (Zp d) (J4 d L) fx)) ::·)
 | _,_=> none
def Yb:List (Name × List (C U))->Nat->Name->Option Nat
 | [],_,_=> none
 | (a,_) ::r,k,nm=> if a=nm then some k else Yb r (k+1) nm
def Z1m(os:List (Name × List (C U)))(k:Nat):Option Nat:=
 match os[k]? with
 | some (.x j,_)=> some j
 | _=> none
def Z7V:List (C U)->List Name->List Name
 | [],have_=> have_
 | .xp k ::r,have_=> Z7V r (if Nat.blt k 8 && !have_.contains (.x k) then have_++[.x k] else have_)
 | _ ::r,have_=> Z7V r have_
def Yh:List (V U)->List Name
 | []=> []
 | v ::r=> match Zd2 v with
  | some (nm,_)=> nm ::Yh r
  | none=> Yh r
def Z2N(st:FSt U):List Name->List Name->List Name
 | [],have_=> have_
 | nm ::r,have_=> Z2N st r (match st.mem nm with
  | some cs=> Z7V cs have_
  | none=> have_)
def JC(st:FSt U)(args:List (V U)):List (V U):=
 ((Z2N st (Yh args) (Yh args)).drop (Yh args).length).map (.ptr · 0)
def Zae(os:List (Name × List (C U))):List (C U)->List (C U)->List (C U)
 | .xp k ::r,c ::s=> (match Yb os 0 (.x k) with
  | some k'=> .xp k'
  | none=> c) ::Zae os r s
 | _ ::r,c ::s=> c ::Zae os r s
 | [],s=> s
 | _,[]=> []
def Zdk(st:FSt U)(os:List (Name × List (C U))):List (C U) × Name->List (C U)
 | (cs,nm)=> match st.mem nm with
  | some cs0=> Zae os cs0 cs
  | none=> cs
def LC.at0(t:Tok)(x:LC U):LC U:=bif t.isA then ⟨x.T,x.l,0⟩ else x
def Yu(m:Tok->Option (LC U))(s:List (Tok × Tok)):List Tok->List (Tok × LC U)
 | []=> []
 | t ::r=> match Zm s t with
  | some u=> match Y5 s u,m u with
   | some t',some x=> if t'=t/\t.isR=false/\(bif u.isA then decide (t=u) else !t.isA)=true then (t,x.at0 t) ::Yu m s r else Yu m s r
   | _,_=> Yu m s r
  | none=> Yu m s r
def V.isP:V U->Bool
 | .ptr _ _=> true
 | _=> false
def Z9m(toks:List (Tok × Tok))(L0 L:List (Tok × LC U)):Bool:=
 match Zl toks .A with
 | some _=> decide (Zm toks .A=some .A) && ((Z7 (fun _=> none) L .A).isSome && (Z7 (fun _=> none) L0 .A).isSome)
 | none=> (Z7 (fun _=> none) L .A).isNone && (Zm toks .A).isNone
def Z1n(Γ:Known U)(st:FSt U)(d:Nat)(f:FuncId)(args:List (V U)):Option (List Prop × Eff U):=
 match Γ f with
 | none=> none
 | some s=>
  match Y3 st s.pass 0 (args++JC st args) [] [] with
  | none=> none
  | some (vs,os,toks)=>
   match s.fn2 (vs.take args.length) (os.map fun x=> Zdk st os (x.2,x.1)) (bif s.wr then Yu st.ls toks (toks.map (·.2)) else []) with
   | none=> none
   | some (ps,r,xs,L)=>
    bif r.isP then none else match Z1b d L (Z1m os) os xs,YQ st d L with
    | some m,some l=> bif Z9m toks (bif s.wr then Yu st.ls toks (toks.map (·.2)) else []) L then
      some (ps,{ val:=some (r.mapTok (Zp d) (J4 d L) (Z1m os)),mem:=m,kill:=(toks.map (·.1)).filter fun t=> !t.isA,ls:=l }) else none
    | _,_=> none
def C.lend(st:FSt U):C U->C U
 | .mref t=> match st.ls t with
  | some x=> bif t.isA then (match x.l with
   | [y]=> .po x.T (some y)
   | _=> .jk) else .slice x.T x.l .unk
  | none=> .jk
 | .slice T l (.own _)=> .slice T l .unk
 | .xp _=> .jk
 | c=> c
def V.lend(st:FSt U):V U->Option (V U)
 | .c x=> some (.c (x.lend st))
 | .agg cs=> some (.agg (cs.map (C.lend st)))
 | .fn f=> some (.fn f)
 | _=> none
def Zf0(Γ:Known U)(f:FuncId):Bool:=
 match Γ f with
 | some s=> s.bor
 | none=> false
def Z88(Γ:Known U)(st:FSt U)(f:FuncId)(args:List (V U)):Option (List Prop × Eff U):=
 match Γ f,args.mapM (V.lend st) with
 | some s,some vs=> match s.fn2 vs [] [] with
  | some (ps,.c (.int k n),[],[])=> some (ps,{ val:=some (.c (.int k n)) })
  | some (ps,.c (.bool b),[],[])=> some (ps,{ val:=some (.c (.bool b)) })
  | _=> none
 | _,_=> none
def C.bare:C U->C U
 | .slice T l _=> .slice T l .unk
 | .mref _=> .jk
 | .xp _=> .jk
 | c=> c
def V.bare:V U->Option (V U)
 | .c x=> some (.c x.bare)
 | .agg cs=> some (.agg (cs.map C.bare))
 | .fn f=> some (.fn f)
 | _=> none
def C.plain:C U->Bool
 | .slice _ _ .unk=> true
 | .slice .. => false
 | .mref _=> false
 | .xp _=> false
 | _=> true
def ZiP(Γ:Known U)(f:FuncId):Bool:=
 match Γ f with
 | some s=> s.obj
 | none=> false
def Z0X(st:FSt U):List (V U)->Option (List (V U) × List (Name × List (C U)))
 | [.ptr nm 0]=> match st.mem nm with
  | some cs=> some ([.ptr (.x 0) 0],[(nm,cs.map C.bare)])
  | none=> none
 | xs=> match xs.mapM V.bare with
  | some vs=> some (vs,[])
  | none=> none
def Zdw(Γ:Known U)(st:FSt U)(d:Nat)(f:FuncId)(args:List (V U)):Option (List Prop × Eff U):=
 match Γ f,Z0X st args with
 | some s,some (vs,os)=> match s.fn2 vs (os.map (·.2)) [] with
  | some (ps,.ptr (.x k) 0,xs,[])=> if Nat.beq k os.length && Nat.beq xs.length (k+1) && xs.all (fun cs=> cs.all C.plain) && (st.mem (.loc d)).isNone then some (ps,{ val:=some (.ptr (.loc d) 0),mem:=(os.map Prod.fst++[Name.loc d]).zip xs }) else none
  | _=> none
 | _,_=> none
def lenOf(cfg:Cfg U)(st:FSt U)(t:TypeId):V U->Option (C U)
 | .c (.mref u)=> match cfg.slT t,st.ls u with
  | some S,some x=> match cfg.tyEq S x.T with
   | isTrue _=> some (.int .i64 x.l.length)
   | isFalse _=> none
  | _,_=> none
 | .c .nils=> match cfg.slT t with
  | some _=> some (.int .i64 0)
  | none=> none
 | .c (.slice T l _)=> match cfg.slT t with
  | some S=> match cfg.tyEq S T with
   | isTrue _=> some (.int .i64 l.length)
   | isFalse _=> none
  | none=> none
 | _=> none
def Z2R(cfg:Cfg U)(st:FSt U)(T:U.Ty):C U->Option (List (U.El T) × Nat × Option Tok)
 | .mref t=> match st.ls t with
  | some x=> match cfg.tyEq x.T T with
   | isTrue h=> some (h▸x.l,x.f,some t)
   | isFalse _=> none
  | none=> none
 | c=> match Z6Z cfg T c with
  | some (l,.full)=> some (l,l.length,none)
  | some (l,.own t)=> if st.dead t || t.isA then none else some (l,l.length,some t)
  | _=> none
def Zmo:C U->Bool
 | .mref _=> true
 | _=> false
def Z0Z(cfg:Cfg U)(st:FSt U)(d:Nat)(t:TypeId)(x y:C U):Option (List Prop × Eff U):=
 match cfg.slT t with
 | none=> none
 | some T=>
  match Z2R cfg st T x,Z6Z cfg T y with
  | some (l,f,u),some (l',_)=>
   if (st.ls (.r d 0)).isNone && !st.dead (.r d 0) && !u.toList.contains (.r d 0) then
    some ([(l.length+l'.length)*cfg.bytes T<=140737488355328],{ val:=some (.c (.mref (.r d 0))),kill:=u.toList,ls:=[(.r d 0,⟨T,l++l',f⟩)] })
   else none
  | _,_=> none
def Z0Y(cfg:Cfg U)(st:FSt U)(d:Nat)(t t':TypeId)(x y:C U):Option (List Prop × Eff U):=
 match cfg.slT t,cfg.var t',y with
 | some T,some (false,[.int .i64 _]),.int .i64 n=>
  match Z2R cfg st T x,(cfg.var (cfg.elT T)).bind fun p=> cfg.dec T p.2 with
  | some (l,f,u),some z=>
   if (st.ls (.r d 0)).isNone && !st.dead (.r d 0) && !u.toList.contains (.r d 0) then
    some ([0<=n/\(l.length+n)*cfg.bytes T<=140737488355328],{ val:=some (.c (.mref (.r d 0))),kill:=u.toList,ls:=[(.r d 0,⟨T,l++List.replicate n.toNat z,f⟩)] })
   else none
  | _,_=> none
 | _,_,_=> none
def Z2D(cfg:Cfg U)(st:FSt U)(d:Nat)(t:TypeId)(x y:C U):Option (List Prop × Eff U):=
 match cfg.slT t with
 | none=> none
 | some T=>
  match Z6Z cfg T x,Z6Z cfg T y with
  | some (l,tl),some (l',_)=>
   let res:C U:= .slice T (l++l') (.own (.r d 0))
   let room:Prop:=(l.length+l'.length)*cfg.bytes T<=140737488355328
   match tl with
   | .unk=> none
   | .full=> some ([room],{ val:=some (.c res) })
   | .own u=> match st.dead u || u.isA with
    | true=> none
    | false=> some ([room],{ val:=some (.c res),kill:=[u] })
  | _,_=> none
def Z2C(mx:Bool)(x y:C U):Option (C U):=
 match x,y with
 | .int k a,.int k' b=> if k=k' then some (.int k (if mx then (if a < b then b else a) else (if b < a then b else a))) else none
 | _,_=> none
def Z9q(cfg:Cfg U)(t:TypeId)(x:C U)(lo hi mx:Option (V U)):Option (List Prop × C U):=
 match cfg.slT t with
 | none=> none
 | some T=>
  match Z6Z cfg T x with
  | none=> none
  | some (l,tl)=>
   match lo,hi,mx with
   | none,none,none=> some ([],.slice T l tl)
   | some (.c (.int _ a)),none,none=> some ([0<=a/\a<=l.length],.slice T (l.drop a.toNat) tl)
   | none,some (.c (.int _ b)),none=> some ([0<=b/\b<=l.length],.slice T (l.take b.toNat) .unk)
   | some (.c (.int _ a)),some (.c (.int _ b)),none=> some ([0<=a/\a<=b/\b<=l.length],.slice T ((l.take b.toNat).drop a.toNat) .unk)
   | none,some (.c (.int _ b)),some (.c (.int _ m))=> some ([0<=b/\b<=l.length,m=b],.slice T (l.take b.toNat) .full)
   | some (.c (.int _ a)),some (.c (.int _ b)),some (.c (.int _ m))=> some ([0<=a/\a<=b/\b<=l.length,m=b],.slice T ((l.take b.toNat).drop a.toNat) .full)
   | _,_,_=> none
def Z2Y(p:V U)(off n:Nat):Option (V U):=
 match p with
 | .ptr nm o=> some (.ptr nm (o+off))
 | .ep cs=> if off+n<=cs.length then some (.ep (cs.drop off)) else none
 | _=> none
def Z8c(x:Option (List Prop × C U)):Option (List Prop × Eff U):=x.map fun (ps,c)=> (ps,{ val:=some (.c c) })
def Yi(cfg:Cfg U)(T:U.Ty):(i:Nat)->List (Nat × V U)->Option (List (U.El T))
 | _,[]=> some []
 | i,(k,v) ::r=>
  if k=i then
   match v.cells with
   | some cs=> match cfg.dec T cs with
    | some x=> (Yi cfg T (i+1) r).map (x ::·)
    | none=> none
   | none=> none
  else none
def Z9s(cfg:Cfg U)(st:FSt U)(t:TypeId)(u:Tok)(n:Nat):Option (List Prop × Eff U):=
 match cfg.slT t,st.ls u with
 | some T,some x=> match cfg.tyEq T x.T,(cfg.var (cfg.elT x.T)).bind fun p=> cfg.dec x.T p.2 with
  | isTrue _,some z=> some ([x.f<=n],{ ls:=[(u,⟨x.T,x.l.take n++List.replicate (x.l.length - n) z,x.f⟩)] })
  | _,_=> none
 | _,_=> none
def cpL{α:Type}(l:List α)(n:Nat)(y:List α):List α:=l.take n++(y.take (l.length - n)++l.drop (n+y.length))
def ZcD(cfg:Cfg U)(st:FSt U)(t:TypeId)(u:Tok)(n:Nat)(y:C U):Option (List Prop × Eff U):=
 match cfg.slT t,st.ls u with
 | some T,some x=> match cfg.tyEq T x.T,Z6Z cfg x.T y with
  | isTrue _,some (l,_)=> some ([x.f<=n],{ val:=some (.c (.int .i64 (min (x.l.length - n) l.length:Nat))),ls:=[(u,⟨x.T,cpL x.l n l,x.f⟩)] })
  | _,_=> none
 | _,_=> none
structure AV (U:Uni) where
 T:U.Ty
 S:AState
 P:Option AState
 v:Nat
def FSt.ar(cfg:Cfg U)(st:FSt U):Option (AV U):=
 match st.ls .A with
 | some x=> match cfg.aT x.T with
  | some f=> match x.l with
   | [y]=> some ⟨x.T,f y,none,x.f⟩
   | [y,y']=> some ⟨x.T,f y,some (f y'),x.f⟩
   | _=> none
  | none=> none
 | none=> none
def Ym(cfg:Cfg U)(T:U.Ty)(l:List AState)(v:Nat)(val:Option (V U)):Option (Eff U):=
 match l.mapM (cfg.aOf T) with
 | some l=> some { val:=val,ls:=[(.A,⟨T,l,v⟩)] }
 | none=> none
def Z3c(A:AV U)(n:Nat)(zs:List (C U)):AK->Option (V U)
 | .fp off=> match off,zs with
  | 0,[.nils]=> bif Nat.beq n A.v then some (.ar n .ov) else none
  | 1,[.int .i64 _]=> some (.c (.int .i64 A.S.x))
  | 2,[.int .i64 _]=> some (.c (.int .i64 A.S.y))
  | 3,[.int .i64 _]=> some (.c (.int .i64 A.S.z))
  | _,_=> none
 | .oe i=> match zs with
  | [.nils]=> bif Nat.beq n A.v then some (.ar n (.iv i)) else none
  | _=> none
 | .ie i j=> match zs with
  | [.int .u64 _]=> bif Nat.beq n A.v then some (.c (.int .u64 ((A.S.segs.getD i []).getD j 0))) else none
  | _=> none
 | _=> none
def Z9k(cfg:Cfg U)(A:AV U)(n:Nat)(k:AK)(x:V U):Option (List Prop × Eff U):=
 match k,x,A.P with
 | .fp 1,.c (.int .i64 m),none=> (Ym cfg A.T [{ A.S with x:=m }] A.v none).map fun e=> ([],e)
 | .fp 2,.c (.int .i64 m),none=> (Ym cfg A.T [{ A.S with y:=m }] A.v none).map fun e=> ([],e)
 | .fp 3,.c (.int .i64 m),none=> (Ym cfg A.T [{ A.S with z:=m }] A.v none).map fun e=> ([],e)
 | .ie i j,.c (.int .u64 m),none=> bif Nat.beq n A.v then (Ym cfg A.T [{ A.S with segs:=A.S.segs.set i ((A.S.segs.getD i []).set j m) }] A.v none).map fun e=> ([],e) else none
 | .fp 0,.ar n' (.pd 0),some P=> bif Nat.beq n' A.v then (Ym cfg A.T [P] (A.v+1) none).map fun e=> ([],e) else none
 | .oe i,.ar n' (.pd (j+1)),some P=> bif Nat.beq n A.v && Nat.beq n' A.v then (Ym cfg A.T [P] (A.v+1) none).map fun e=> ([i=j],e) else none
 | _,_,_=> none
def Z0a(cfg:Cfg U)(A:AV U)(n:Nat)(same:Bool)(k:AK)(y:V U):Option (List Prop × Eff U):=
 match A.P,Nat.beq n A.v,k with
 | none,true,.iv i=> match same,y with
  | true,.c y=> match Z6Z cfg cfg.wT y with
   | some (l,_)=> (Ym cfg A.T [A.S,{ A.S with segs:=A.S.segs.set i (A.S.segs.getD i []++cfg.wO l) }] A.v (some (.ar n (.pd (i+1))))).map fun e=> ([((A.S.segs.getD i []).length+l.length)*8<=140737488355328],e)
   | none=> none
  | false,.c (.int .i64 m)=> match cfg.var (cfg.elT cfg.wT) with
   | some (false,[.int .u64 z])=> bif decide (z=0) then (Ym cfg A.T [A.S,{ A.S with segs:=A.S.segs.set i (A.S.segs.getD i []++List.replicate m.toNat 0) }] A.v (some (.ar n (.pd (i+1))))).map fun e=> ([0<=m/\((A.S.segs.getD i []).length+m)*8<=140737488355328],e) else none
   | _=> none
  | _,_=> none
 | none,true,.ov=> match same,y with
  | true,.ar _ (.nl k)=> (Ym cfg A.T [A.S,{ A.S with segs:=A.S.segs++List.replicate k [] }] A.v (some (.ar n (.pd 0)))).map fun e=> ([(A.S.segs.length+k)*24<=140737488355328],e)
  | _,_=> none
 | _,_,_=> none
def ZcC(cfg:Cfg U):AK->U.Ty
 | .ov=> cfg.wsT
 | _=> cfg.wT
def ZcB(A:AV U)(n:Nat):AK->Option (C U)
 | .ov=> bif Nat.beq n A.v then some (.int .i64 A.S.segs.length) else none
 | .iv i=> bif Nat.beq n A.v then some (.int .i64 (A.S.segs.getD i []).length) else none
 | _=> none
def Z5G(A:AV U)(n:Nat)(k:AK)(m:Int):Option (List Prop × V U):=
 match k with
 | .ov=> bif Nat.beq n A.v then some ([0<=m/\m < A.S.segs.length],.ar n (.oe m.toNat)) else none
 | .iv i=> bif Nat.beq n A.v then some ([0<=m/\m < (A.S.segs.getD i []).length],.ar n (.ie i m.toNat)) else none
 | _=> none
def Z3T(cfg:Cfg U)(st:FSt U)(dst:Option Nat)(b:Builtin)(args:List Operand)(ts:List TypeId):Option (List Prop × Eff U):=
 match b,args,ts with
 | .len,[x],[t]=> match st.opnd x with
  | some (.ar n k)=> match st.ar cfg,cfg.slT t with
   | some A,some _=> (ZcB A n k).map fun c=> ([],{ val:=some (.c c) })
   | _,_=> none
  | some v=> (lenOf cfg st t v).map fun c=> ([],{ val:=some (.c c) })
  | none=> none
 | .append,[x,y],[t,t']=> match dst,st.opnd x,st.opnd y with
  | some _,some (.ar n k),some y=> match st.ar cfg,cfg.slT t with
   | some A,some T=> match cfg.tyEq T (ZcC cfg k),decide (t=t'),cfg.var t' with
    | isTrue _,true,_=> Z0a cfg A n true k y
    | isTrue _,false,some (false,[.int .i64 _])=> Z0a cfg A n false k y
    | _,_,_=> none
   | _,_=> none
  | some d,some (.c x),some (.c y)=> if t=t' then (bif st.mu || Zmo x then Z0Z cfg st d t x y else Z2D cfg st d t x y) else Z0Y cfg st d t t' x y
  | _,_,_=> none
 | .clear,[x],[t]=> match st.opnd x with
  | some (.vw u n)=> Z9s cfg st t u n
  | _=> none
 | .copy,[x,y],[t,t']=> match st.opnd x,st.opnd y with
  | some (.vw u n),some (.c y)=> if t=t' then ZcD cfg st t u n y else none
  | _,_=> none
 | .min,[x,y],_=> match st.opnd x,st.opnd y with
  | some (.c x),some (.c y)=> (Z2C false x y).map fun c=> ([],{ val:=some (.c c) })
  | _,_=> none
 | .max,[x,y],_=> match st.opnd x,st.opnd y with
  | some (.c x),some (.c y)=> (Z2C true x y).map fun c=> ([],{ val:=some (.c c) })
  | _,_=> none
 | _,_,_=> none
def Z2S(cfg:Cfg U)(Γ:Known U)(st:FSt U)(d:Nat)(f:FuncId)(r:List Prop × Eff U):Option (List Prop × Eff U):=
 match Γ f with
 | some s=> match s.arn with
  | none=> some r
  | some T=> match r.2 with
   | { val:=some (.ptr (.loc d1) 0),mem:=[(.loc d',[.nils,.int .i64 x,.int .i64 y,.int .i64 z])],kill:=[],ls:=[] }=>
    bif Γ.na && ((st.ls .A).isNone && (!st.dead .A && (Nat.beq d1 d && Nat.beq d' d))) && (st.mem (.loc d)).isNone then (Ym cfg T [⟨[],x,y,z⟩] 0 (some (.c (.mref .A)))).map fun e=> (r.1,e) else none
   | _=> none
 | none=> some r
def Z5H(cfg:Cfg U)(Γ:Known U)(st:FSt U)(dst:Option Nat)(c:Call):Option (List Prop × Eff U):=
 match c.callee with
 | .builtin b=> Z3T cfg st dst b c.args.toList c.argTypes.toList
 | .value g=> match st.opnd g,c.args.toList.mapM st.opnd with
  | some (.fn f),some vs=> bif Zf0 Γ f then Z88 Γ st f vs else match (bif ZiP Γ f then Zdw Γ st (dst.getD 0) f vs else none) with | some r=> Z2S cfg Γ st (dst.getD 0) f r | none=> Z1n Γ st (dst.getD 0) f vs
  | some (.clo f nms),some vs=> Z1n Γ st (dst.getD 0) f (vs++nms.map (.ptr · 0))
  | _,_=> none
 | _=> none
def Z9r(cfg:Cfg U)(st:FSt U)(dst:Option Nat)(T:U.Ty)(n m:Int)(z:U.El T):Option (List Prop × Eff U):=
 match dst with
 | some d=> if (st.ls (.r d 0)).isNone && !st.dead (.r d 0) then some ([0<=n/\n*cfg.bytes T<=140737488355328/\n<=9223372036854775807,m=n],{ val:=some (.c (.mref (.r d 0))),ls:=[(.r d 0,⟨T,List.replicate n.toNat z,0⟩)] }) else none
 | none=> none
def Z08(l:List (Nat × Operand)):Bool:=l.all fun x=> match x.2 with
 | .const (.int _ _)=> true
 | _=> false
def Z0F(n:Nat)(l:List (Nat × Operand)):Bool:=match n,l with
 | 1,[(0,.const (.slice none 0 0))]=> true
 | _,_=> false
def Z5I(st:FSt U)(dst:Option Nat)(T:U.Ty)(l:List (U.El T)):Option (List Prop × Eff U):=
 match dst with
 | some d=> if (st.ls (.r d 0)).isNone && !st.dead (.r d 0) then some ([],{ val:=some (.c (.mref (.r d 0))),ls:=[(.r d 0,⟨T,l,0⟩)] }) else none
 | none=> none
def aop(cfg:Cfg U)(Γ:Known U)(o:Oper)(st:FSt U):Option (List Prop × Eff U):=
 match o.op with
 | .move x | .assign x=> (st.opnd x).bind fun v=> match v with
  | .junk | .gd .. => none
  | v=> some ([],{ val:=some v })
 | .alloc t=> match o.dst,cfg.var t with
  | some d,some (_,zs)=> if (st.mem (.loc d)).isSome then none else some ([],{ val:=some (.ptr (.loc d) 0),mem:=[(.loc d,zs)] })
  | _,_=> none
 | .box t x=> match o.dst,cfg.var t,(st.opnd x).bind V.cells with
  | some d,some (_,zs),some cs=> if (st.mem (.loc d)).isSome || cs.length !=zs.length then none else some ([],{ val:=some (.ptr (.loc d) 0),mem:=[(.loc d,cs)] })
  | _,_,_=> none
 | .build t parts=> match cfg.var t,parts.toList.mapM fun (i,x)=> ((st.opnd x).bind V.cells).map (i,·) with
  | some (true,zs),some ps=> (J1 cfg t zs ps).map fun cs=> ([],{ val:=some (.agg cs) })
  | _,_=> none
 | .buildSlice t n parts=> bif (st.ls .A).isSome && Z0F n parts.toList then (match cfg.slT t with
  | some T=> match cfg.tyEq T cfg.wsT with
   | isTrue _=> if n*cfg.sz T<=16777216/\0 < n then some ([],{ val:=some (.ar 0 (.nl n)) }) else none
   | isFalse _=> none
  | none=> none) else match cfg.slT t,parts.toList.mapM fun (i,x)=> (st.opnd x).map (i,·) with
  | some T,some ps=> if ps.length=n/\n*cfg.sz T<=16777216 then (Yi cfg T 0 ps).bind fun l=> bif st.mu && Z08 parts.toList then Z5I st o.dst T l else some ([],{ val:=some (.c (.slice T l .full)) }) else none
  | _,_=> none
 | .load t p=> match cfg.var t,st.opnd p with
  | some (ag,zs),some (.mp u n off)=> match st.ls u with
   | some x=> if off+zs.length<=cfg.sz x.T then (mkV ag (((cfg.enc x.T (x.l.getD n (cfg.dflt x.T))).drop off).take zs.length)).map fun v=> ([],{ val:=some v }) else none
   | none=> none
  | some (false,zs),some (.ar n k)=> match st.ar cfg with
   | some A=> (Z3c A n zs k).map fun v=> ([],{ val:=some v })
   | none=> none
  | some (ag,zs),some (.c (.po T o))=> (rd st (.ep (cfg.enc T (o.getD (cfg.dflt T)))) ag zs.length).map fun v=> ([o.isSome=true],{ val:=some v })
  | some (ag,zs),some p=> (rd st p ag zs.length).map fun v=> ([],{ val:=some v })
  | _,_=> none
 | .store t p x=> match st.opnd p,st.opnd x with
  | some (.ar n k),some x=> match st.ar cfg,cfg.var t with
   | some A,some (_,[_])=> Z9k cfg A n k x
   | _,_=> none
  | _,_=> match cfg.var t,st.opnd p,(st.opnd x).bind V.cells with
   | some (_,zs),some (.ptr nm off),some new=> match st.mem nm with
    | some cs=> if new.length=zs.length then (ZT cs off new).map fun cs'=> ([],{ mem:=[(nm,cs')] }) else none
    | none=> none
   | some (_,zs),some (.mp u n off),some new=> match st.ls u with
    | some x=> if new.length=zs.length then match (ZT (cfg.enc x.T (x.l.getD n (cfg.dflt x.T))) off new).bind (cfg.dec x.T) with
     | some y=> some ([x.f<=n],{ ls:=[(u,⟨x.T,x.l.set n y,x.f⟩)] })
     | none=> none
     else none
    | none=> none
   | some (_,zs),some (.ap nm off k len n),some [.int k' x]=> match st.mem nm with
    | some cs=> if off+len<=cs.length/\k=k'/\zs.length=1 then match Jh k ((cs.drop off).take len) with
     | some l=> some ([],{ mem:=[(nm,cs.take off++JH k n x 0 l++cs.drop (off+len))] })
     | none=> none
     else none
    | none=> none
   | _,_,_=> none
 | .nilCheck x=> match st.opnd x with
  | some (.ptr nm off)=> some ([],{ val:=some (.ptr nm off) })
  | some (.ep cs)=> some ([],{ val:=some (.ep cs) })
  | some (.mp u n off)=> if (st.ls u).isSome then some ([],{ val:=some (.mp u n off) }) else none
  | some (.c (.po T o))=> some ([o.isSome=true],{ val:=some (.c (.po T o)) })
  | some (.c (.mref .A))=> (st.ar cfg).map fun _=> ([],{ val:=some (.c (.mref .A)) })
  | some (.ar n k)=> match k with
   | .fp _ | .oe _ | .ie _ _=> some ([],{ val:=some (.ar n k) })
   | _=> none
  | _=> none
 | .binOp op t x y _=> match st.opnd x,st.opnd y with
  | some (.c (.bool a)),some (.c (.bool b))=> match cfg.var t with
   | some (false,[.bool _])=> (ZcE op a b).map fun c=> ([],{ val:=some (.c c) })
   | _=> none
  | some (.c (.slice _ l _)),some (.c .nils)=> match op,cfg.slT t with
   | .eql,some _=> some ([],{ val:=some (.nb (l=[]) True) })
   | .neq,some _=> some ([],{ val:=some (.nb True (l=[])) })
   | _,_=> none
  | some (.c (.po _ o)),some (.c .nilp)=> match op,cfg.var t with
   | .eql,some (false,[.nilp])=> some ([],{ val:=some (.c (.bool o.isNone)) })
   | .neq,some (false,[.nilp])=> some ([],{ val:=some (.c (.bool o.isSome)) })
   | _,_=> none
  | some (.ptr _ _),some (.c .nilp)=> match op,cfg.var t with
   | .eql,some (false,[.nilp])=> some ([],{ val:=some (.c (.bool false)) })
   | .neq,some (false,[.nilp])=> some ([],{ val:=some (.c (.bool true)) })
   | _,_=> none
  | some (.c (.mref .A)),some (.c .nilp)=> match st.ar cfg,op,cfg.var t with
   | some _,.eql,some (false,[.nilp])=> some ([],{ val:=some (.c (.bool false)) })
   | some _,.neq,some (false,[.nilp])=> some ([],{ val:=some (.c (.bool true)) })
   | _,_,_=> none
  | some (.c .nilp),some (.c .nilp)=> match op,cfg.var t with
   | .eql,some (false,[.nilp])=> some ([],{ val:=some (.c (.bool true)) })
   | .neq,some (false,[.nilp])=> some ([],{ val:=some (.c (.bool false)) })
   | _,_=> none
  | some (.c a),some (.c b)=> Z8c (Zi0 Γ.wr op a b)
  | some (.agg a),some (.agg b)=> match op,cfg.eqs t,Z7c a b,cfg.var t with
   | .eql,true,some r,some (_,zs)=> if Z2H zs a then some ([],{ val:=some (.c (.bool r)) }) else none
   | .neq,true,some r,some (_,zs)=> if Z2H zs a then some ([],{ val:=some (.c (.bool (!r))) }) else none
   | _,_,_,_=> none
  | _,_=> none
 | .unOp op _ x=> match st.opnd x with
  | some (.c a)=> Z8c (aUn Γ.wr op a)
  | _=> none
 | .convert src dst x=> match cfg.var src,cfg.var dst,st.opnd x with
  | some (false,[.int _ _]),some (false,[.int k _]),some (.c (.int _ n))=> some ([],{ val:=some (.c (.int k (k.wrap n))) })
  | _,_,_=> none
 | .makeSlice t n m=> match cfg.slT t,st.opnd n,st.opnd m with
  | some T,some (.c (.int .i64 n)),some (.c (.int .i64 m))=>
   match cfg.var (cfg.elT T) with
   | some (_,zs)=> match cfg.dec T zs with
    | some z=> bif st.mu then Z9r cfg st o.dst T n m z else some ([0<=n/\n*cfg.bytes T<=140737488355328/\n<=9223372036854775807,m=n],{ val:=some (.c (.slice T (List.replicate n.toNat z) .full)) })
    | none=> none
   | none=> none
  | _,_,_=> none
 | .slice t x lo hi mx=> match st.opnd x,J6 st lo,J6 st hi,J6 st mx with
  | some (.ptr nm off),some none,some none,some none=> match cfg.arr t,cfg.slT o.type,st.mem nm with
   | some (len,et),some T,some cs=> if off=0/\cs.length=len/\cfg.sz T=1/\cfg.elT T=et then match cs.mapM fun c=> cfg.dec T [c] with
    | some l=> some ([],{ val:=some (.c (.slice T l .full)),mem:=[(nm,[])] })
    | none=> none
    else none
   | _,_,_=> none
  | some (.c (.mref u)),some (some (.c (.int _ a))),some none,some none=> match cfg.slT t,st.ls u with
   | some S,some x=> match cfg.tyEq S x.T with
    | isTrue _=> bif st.vw then some ([0<=a/\a<=x.l.length],{ val:=some (.vw u a.toNat) }) else none
    | isFalse _=> none
   | _,_=> none
  | some (.c x),some lo,some hi,some mx=> Z8c (Z9q cfg t x lo hi mx)
  | _,_,_,_=> none
 | .fieldAddr t x f=> match st.opnd x,cfg.fld t f with
  | some (.mp u n o'),some (off,ft)=> match cfg.var ft with
   | some _=> if (st.ls u).isSome then some ([],{ val:=some (.mp u n (o'+off)) }) else none
   | none=> none
  | some (.c (.mref .A)),some (off,ft)=> match st.ar cfg,cfg.var ft with
   | some A,some (_,[_])=> if off < 4 then some ([],{ val:=some (.ar A.v (.fp off)) }) else none
   | _,_=> none
  | some (.c (.po T o)),some (off,ft)=> match cfg.var ft with
   | some (_,zs)=> (Z2Y (.ep (cfg.enc T (o.getD (cfg.dflt T)))) off zs.length).map fun v=> ([o.isSome=true],{ val:=some v })
   | none=> none
  | some p,some (off,ft)=> match cfg.var ft with
   | some (_,zs)=> (Z2Y p off zs.length).map fun v=> ([],{ val:=some v })
   | none=> none
  | _,_=> none
 | .field t x f=> match st.opnd x,cfg.fld t f with
  | some (.agg cs),some (off,ft)=> match cfg.var ft with
   | some (ag,zs)=> if off+zs.length<=cs.length then (mkV ag ((cs.drop off).take zs.length)).map fun v=> ([],{ val:=some v }) else none
   | none=> none
  | _,_=> none
 | .indexAddr t x i=> match st.opnd x,st.opnd i with
  | some (.c (.slice T l _)),some (.c (.int _ n))=> match cfg.slT t with
   | some S=> match cfg.tyEq S T with
    | isTrue _=> some ([0<=n/\n < l.length],{ val:=some (.ep (cfg.enc T (l.getD n.toNat (cfg.dflt T)))) })
    | isFalse _=> none
   | none=> none
  | some (.ar n k),some (.c (.int _ m))=> match st.ar cfg,cfg.slT t with
   | some A,some T=> match cfg.tyEq T (ZcC cfg k) with
    | isTrue _=> (Z5G A n k m).map fun (ps,v)=> (ps,{ val:=some v })
    | isFalse _=> none
   | _,_=> none
  | some (.c (.mref u)),some (.c (.int _ n))=> match cfg.slT t,st.ls u with
   | some S,some x=> match cfg.tyEq S x.T with
    | isTrue _=> some ([0<=n/\n < x.l.length],{ val:=some (.mp u n.toNat 0) })
    | isFalse _=> none
   | _,_=> none
  | some (.ptr nm off),some (.c (.int _ n))=> match cfg.arr t with
   | some (len,et)=> match cfg.var et with
    | some (false,[.int k _])=> some ([0<=n/\n < len],{ val:=some (.ap nm off k len n) })
    | some (_,zs)=> if 0<=n/\n < len then some ([],{ val:=some (.ptr nm (off+n.toNat*zs.length)) }) else none
    | none=> none
   | none=> none
  | _,_=> none
 | .index t x i=> match st.opnd x,st.opnd i with
  | some (.agg cs),some (.c (.int _ n))=> match cfg.arr t with
   | some (len,et)=> match cfg.var et with
    | some (false,[.int k _])=> if len=cs.length then match Jh k cs with
     | some l=> some ([0<=n/\n < len],{ val:=some (.c (.int k (l.getD n.toNat 0))) })
     | none=> none
     else none
    | some (ag,zs)=> if 0<=n/\n < len/\n.toNat*zs.length+zs.length<=cs.length then (mkV ag ((cs.drop (n.toNat*zs.length)).take zs.length)).map fun v=> ([],{ val:=some v }) else none
    | none=> none
   | none=> none
  | _,_=> none
 | .extract x i=> match st.opnd x with
  | some (.tup vs)=> match vs[i]? with
   | some (ag,cs)=> (mkV ag cs).map fun v=> ([],{ val:=some v })
   | none=> none
  | _=> none
 | .makeFunc f first caps=> match f,first.toList,caps.toList.mapM fun x=> (st.opnd x).bind Zd1 with
  | .func f,[],some nms=> some ([],{ val:=some (.clo f nms) })
  | _,_,_=> none
 | .call c=> Z5H cfg Γ st o.dst c
 | _=> none
def V.deX:V U->V U
 | .c (.xp k)=> .ptr (.x k) 0
 | v=> v
def V.strip:V U->V U
 | .gd _ v=> v.deX
 | v=> v.deX
def FSt.strip(st:FSt U):FSt U:={ st with env:=fun k=> (st.env k).strip }
def Yk(st:FSt U)(G:Option Bool):List Operand->List Prop
 | []=> []
 | .tmp t ::r=> match st.env t with
  | .gd g _=> (match G with | some G=> (G=true->g=true) | none=> g=true) ::Yk st G r
  | _=> Yk st G r
 | _ ::r=> Yk st G r
def JJ(ops:Array Oper)(st:FSt U)(o:Oper):Option (Option Bool):=
 match o.guard with
 | none=> some none
 | some (j,want)=> match (ops[j]?).bind (·.dst) with
  | some t=> match st.env t with
   | .c (.bool g)=> some (some (if want then g else !g))
   | .gd g0 (.c (.bool g))=> some (some (g0 && (if want then g else !g)))
   | _=> none
  | none=> none
def gW:Option Bool->Prop->Prop
 | none,p=> p
 | some G,p=> G=true->p
def gV:Option Bool->V U->V U
 | none,v=> v
 | some G,v=> .gd G v
def Z5i(G:Option Bool)(c:Prop):V U->List Prop
 | .gd g _=> [gW G (c->g=true)]
 | _=> []
def ZiY(d:Option Nat)(n:Nat):Bool:=
 match d with
 | some d=> Nat.blt d n
 | none=> true
def ZR(l:List Name)(nm:Name):Bool:=
 match l with
 | []=> false
 | a ::r=> if a=nm then true else ZR r nm
def Zw:Option (V U)->List Name
 | some (.ptr nm _)=> [nm]
 | some (.ap nm _ _ _ _)=> [nm]
 | some (.clo _ nms)=> nms
 | _=> []
def V.toks:V U->List Tok
 | .c (.mref t)=> [t]
 | .mp t _ _=> [t]
 | .vw t _=> [t]
 | .ar _ _=> [.A]
 | _=> []
def Z7i:List Name->List Name
 | []=> []
 | a ::l=> a ::l++[.x 0,.x 1,.x 2,.x 3,.x 4,.x 5,.x 6,.x 7]
def touch(o:Oper)(st:FSt U):List Name:=
 match o.op with
 | .load _ p=> Zw (st.strip.opnd p)
 | .store _ p _=> Zw (st.strip.opnd p)
 | .alloc _ | .box _ _=> match o.dst with
  | some d=> [.loc d]
  | none=> []
 | .slice _ x _ _ _=> Zw (st.strip.opnd x)
 | .call c=> .loc (o.dst.getD 0) ::Z7i (Zw (match c.callee with | .value g=> st.strip.opnd g | _=> none)++c.args.toList.flatMap fun x=> Zw (st.strip.opnd x))
 | _=> []
def Y4(o:Oper):List Operand:=
 match o.op with
 | .load _ p=> [p]
 | .store _ p _=> [p]
 | .nilCheck x=> [x]
 | .fieldAddr _ x _=> [x]
 | .indexAddr _ x _=> [x]
 | .slice _ x _ _ _=> [x]
 | .call c=> match c.callee with
  | .builtin _=> c.args.toList
  | _=> []
 | _=> []
def touchT(o:Oper)(st:FSt U):List Tok:=
 ((Y4 o).flatMap fun x=> (st.strip.opnd x).toList.flatMap V.toks)++match o.op with
  | .binOp _ _ x y _=> ([x,y].flatMap fun x=> (st.strip.opnd x).toList.flatMap V.toks).filter Tok.isA
  | .buildSlice _ n parts=> bif Z0F n parts.toList then [.A] else []
  | _=> []
def Z3f(l:List Tok)(t:Tok):Bool:=
 match l with
 | []=> false
 | a ::r=> if a=t then true else Z3f r t
def Zaa(tyEq:DecidableEq U.Ty)(G:Bool):C U->C U->Option (C U)
 | .int k n,.int k' n'=> if k=k' then some (.int k (bif G then n' else n)) else none
 | .bool b,.bool b'=> some (.bool (bif G then b' else b))
 | .nils,.nils=> some .nils
 | .nilp,.nilp=> some .nilp
 | .xp k,.xp k'=> if k=k' then some (.xp k) else none
 | .mref .A,.mref .A=> some (.mref .A)
 | .po T o,.po T' o'=> match tyEq T' T with
  | isTrue h=> some (.po T (bif G then h▸o' else o))
  | isFalse _=> none
 | .slice T l .unk,.slice T' l' .unk=> match tyEq T' T with
  | isTrue h=> some (.slice T (bif G then h▸l' else l) .unk)
  | isFalse _=> none
 | _,_=> none
def Z5h(tyEq:DecidableEq U.Ty)(G:Bool):List (C U)->List (C U)->Option (List (C U))
 | [],[]=> some []
 | c ::r,c' ::r'=> match Zaa tyEq G c c',Z5h tyEq G r r' with
  | some x,some y=> some (x ::y)
  | _,_=> none
 | _,_=> none
def JF(tyEq:DecidableEq U.Ty)(G:Bool)(m:Name->Option (List (C U))):List (Name × List (C U))->Option (List (Name × List (C U)))
 | []=> some []
 | (nm,cs') ::r=> match m nm with
  | none=> none
  | some cs=> match Z5h tyEq G cs cs',JF tyEq G m r with
   | some x,some y=> some ((nm,x) ::y)
   | _,_=> none
def Z2r(Γ:Known U):Option (V U)->Bool
 | some (.fn f)=> match Γ f with
  | some s=> s.wr || s.bor || s.arn.isSome
  | none=> false
 | _=> false
def Yg(Γ:Known U)(o:Oper)(st:FSt U):Bool:=
 match o.op with
 | .call c=> match c.callee with
  | .value g=> match st.strip.opnd g with
   | some (.fn f)=> Z2r Γ (some (.fn f))
   | some (.clo f _)=> Z2r Γ (some (.fn f))
   | _=> false
  | _=> false
 | _=> false
def Z2O(cfg:Cfg U)(G:Bool)(st:FSt U)(x':LC U):Option (LC U):=
 match st.ls .A with
 | some x=> match cfg.tyEq x'.T x.T,cfg.aT x.T with
  | isTrue h,some _=> match x.l,h▸x'.l with
   | [y],[y']=> bif Nat.blt x.f x'.f then some ⟨x.T,[bif G then y' else y],x'.f⟩ else none
   | _,_=> none
  | _,_=> none
 | none=> none
def J5(cfg:Cfg U)(Γ:Known U)(ops:Array Oper)(o:Oper)(st:FSt U):Option (List Prop × Eff U):=
 if ZiY o.dst st.n then
 match o.op,o.guard with
 | .pick c a b,_=> match JJ ops st o,st.opnd c,st.opnd a,st.opnd b with
  | some G,some c,some a,some b=> match c.strip,a.strip,b.strip with
   | .c (.bool cv),.c (.bool av),.c (.bool bv)=>
    some (Z5i G True c++(Z5i G (cv=true) a++Z5i G (cv=false) b),{ val:=some (gV G (.c (.bool (bif cv then av else bv)))) })
   | .c (.bool true),.c (.bool av),_=> some (Z5i G True c++Z5i G True a,{ val:=some (gV G (.c (.bool av))) })
   | .c (.bool false),_,.c (.bool bv)=> some (Z5i G True c++Z5i G True b,{ val:=some (gV G (.c (.bool bv))) })
   | _,_,_=> none
  | _,_,_,_=> none
 | _,_=> match JJ ops st o with
  | none=> none
  | some G=> match aop cfg Γ o st.strip with
   | none=> match G with
    | some false=> some ([],{ val:=some (.gd false .junk) })
    | _=> none
   | some (ps,e)=> match G with
    | none=> some (Yk st none o.op.operands.toList++ps,e)
    | some G=> match e with
     | { val:=some v,mem:=[],kill:=[],ls:=[] }=> some (Yk st (some G) o.op.operands.toList++ps.map (fun p=> G=true->p),{ val:=some (.gd G v) })
     | { val:=some v,mem:=m,kill:=[],ls:=[] }=> match m.all (fun x=> ZR (touch o st) x.1),JF cfg.tyEq G st.mem m with
      | true,some m'=> some (Yk st (some G) o.op.operands.toList++ps.map (fun p=> G=true->p),{ val:=some (.gd G v),mem:=m' })
      | _,_=> none
     | { val:=some v,mem:=m,kill:=[],ls:=[(.A,x')] }=> match m.all (fun x=> ZR (touch o st) x.1) && (Z3f (touchT o st) .A || Yg Γ o st),JF cfg.tyEq G st.mem m,Z2O cfg G st x' with
      | true,some m',some x''=> some (Yk st (some G) o.op.operands.toList++ps.map (fun p=> G=true->p),{ val:=some (.gd G v),mem:=m',ls:=[(.A,x'')] })
      | _,_,_=> match G with
       | true=> some (Yk st (some true) o.op.operands.toList++ps,e)
       | false=> some ([],{ val:=some (.gd false .junk) })
     | e=> match G with
      | true=> some (Yk st (some true) o.op.operands.toList++ps,e)
      | false=> some ([],{ val:=some (.gd false .junk) })
 else none
def Zcg(st:FSt U)(nm:Name):List Tok:=
 match st.mem nm with
 | some cs=> ZeK cs
 | none=> []
def ZbD(st:FSt U):Option (V U)->List Tok
 | some (.ptr nm _)=> Zcg st nm
 | some (.clo _ nms)=> nms.flatMap (Zcg st)
 | some v=> v.muts
 | none=> []
def Z0W:Option (V U)->List Tok
 | some v=> v.muts
 | none=> []
def Z5D(Γ:Known U)(o:Oper)(st:FSt U):List Tok:=
 match o.op with
 | .call c=> match c.callee with
  | .builtin .append=> match c.args.toList with
   | [_,y]=> Z0W (st.strip.opnd y)
   | _=> []
  | .value g=> match Z2r Γ (st.strip.opnd g) with
   | true=> []
   | false=> ZbD st (st.strip.opnd g)++c.args.toList.flatMap fun x=> ZbD st (st.strip.opnd x)
  | _=> []
 | .slice _ x lo hi _=> bif st.vw && lo.isSome && hi.isNone then [] else Z0W (st.strip.opnd x)
 | .buildSlice _ _ parts=> parts.toList.flatMap fun x=> Z0W (st.strip.opnd x.2)
 | .binOp _ _ x y _=> (Z0W (st.strip.opnd x)++Z0W (st.strip.opnd y)).filter fun t=> !t.isA
 | .store _ p x=> match st.strip.opnd p with
  | some (.mp ..)=> Z0W (st.strip.opnd x)
  | _=> []
 | _=> []
def Z1V{α:Type}(cfg:Cfg U)(st:FSt U)(k:FSt U->α):List Tok->α
 | []=> k st
 | t ::r=> k (st.frz cfg (t ::r))
def FSt.pre(cfg:Cfg U)(Γ:Known U)(st:FSt U)(fz:Bool)(o:Oper):FSt U:=Z1V cfg st id (bif fz then Z5D Γ o st else [])
def Z71(cfg:Cfg U)(Γ:Known U)(ops:Array Oper)(fz:Bool):List Oper->FSt U->Option (List Prop × FSt U)
 | [],st=> some ([],st)
 | o ::r,st=> Z1V cfg st (fun st=> match J5 cfg Γ ops o st with
  | none=> none
  | some (ps,e)=> match Z71 cfg Γ ops fz r (st.app o.dst e) with
   | none=> none
   | some (qs,st')=> some (ps++qs,st'))
   (bif fz then Z5D Γ o st else [])
def All:List Prop->Prop
 | []=> True
 | p ::r=> p/\All r
end Go.AM
