import Derived.Orders
import Derived.Below
import Derived.KernelRfl
set_option linter.unusedSimpArgs false
set_option linter.unusedVariables false
namespace Go.AM
structure Uni where
 Ty:Type
 El:Ty→Type
inductive Tok where
 | e (k j:Nat) | l (s j:Nat) | x (k j:Nat) | r (d j:Nat) | z (s j:Nat)
 deriving DecidableEq
def Tok.isR:Tok→Bool
 | .r _ _=> true
 | .z _ _=> true
 | _=> false
inductive Tail where
 | unk | full | own (t:Tok)
 deriving DecidableEq
inductive Name where
 | loc (s:Nat) | x (k:Nat)
 deriving DecidableEq
inductive C (U:Uni):Type where
 | int (k:IntKind) (n:Int)
 | bool (b:Bool)
 | nils
 | nilp
 | slice (T:U.Ty) (l:List (U.El T)) (tl:Tail)
 | mref (t:Tok)
 | po (T:U.Ty) (o:Option (U.El T))
 | jk
structure LC (U:Uni) where
 T:U.Ty
 l:List (U.El T)
 f:Nat
inductive V (U:Uni):Type where
 | c (x:C U)
 | agg (cs:List (C U))
 | tup (vs:List (Bool × List (C U)))
 | ptr (nm:Name) (off:Nat)
 | ap (nm:Name) (off:Nat) (k:IntKind) (len:Nat) (n:Int)
 | ep (cs:List (C U))
 | mp (t:Tok) (n off:Nat)
 | fn (f:FuncId)
 | clo (f:FuncId) (nms:List Name)
 | gd (g:Bool) (v:V U)
 | nb (p q:Prop)
 | junk
variable {U:Uni}
def C.mapTok(f f2:Tok→Option Tok):C U→C U
 | .slice T l (.own t)=> .slice T l (match f t with | some t'=> .own t' | none=> .unk)
 | .mref t=> match f2 t with
  | some t'=> .mref t'
  | none=> .jk
 | c=> c
def V.mapTok(f f2:Tok→Option Tok):V U→V U
 | .c x=> .c (x.mapTok f f2)
 | .agg cs=> .agg (cs.map (C.mapTok f f2))
 | .tup vs=> .tup (vs.map fun x=> (x.1,x.2.map (C.mapTok f f2)))
 | .ep cs=> .ep (cs.map (C.mapTok f f2))
 | .gd b v=> .gd b (v.mapTok f f2)
 | .nb p q=> .nb p q
 | .ptr nm off=> .ptr nm off
 | .ap nm off k len n=> .ap nm off k len n
 | .fn f=> .fn f
 | .mp .. => .junk
 | .clo .. => .junk
 | .junk=> .junk
structure Cfg (U:Uni) where
 tyEq:DecidableEq U.Ty
 dflt:(T:U.Ty)→U.El T
 enc:(T:U.Ty)→U.El T→List (C U)
 dec:(T:U.Ty)→List (C U)→Option (U.El T)
 aggT:U.Ty→Bool
 sz:U.Ty→Nat
 bytes:U.Ty→Nat
 elT:U.Ty→TypeId
 slT:TypeId→Option U.Ty
 var:TypeId→Option (Bool × List (C U))
 fld:TypeId→Nat→Option (Nat × TypeId)
 arr:TypeId→Option (Nat × TypeId)
 eqs:TypeId→Bool
def Zf5(fn:List (V U)→List (List (C U))→Option (List Prop × V U × List (List (C U)))):List (V U)→List (List (C U))→List (Tok × LC U)→Option (List Prop × V U × List (List (C U)) × List (Tok × LC U)):=fun xs X L=>
 match L with
 | []=> match fn xs X with
  | some (ps,r,X')=> some (ps,r,X',[])
  | none=> none
 | _ ::_=> none
structure Fs (U:Uni) where
 pass:Nat→Bool:=fun _=> false
 wr:Bool:=false
 mkl:Bool:=false
 fn:List (V U)→List (List (C U))→Option (List Prop × V U × List (List (C U)))
 fn2:List (V U)→List (List (C U))→List (Tok × LC U)→Option (List Prop × V U × List (List (C U)) × List (Tok × LC U)):=Zf5 fn
structure Known (U:Uni) where
 fn:FuncId→Option (Fs U)
 wr:Bool
 ml:Bool
instance:CoeFun (Known U) (fun _=> FuncId→Option (Fs U)):=⟨Known.fn⟩
structure FSt (U:Uni) where
 n:Nat
 env:Nat→V U
 mem:Name→Option (List (C U))
 dead:Tok→Bool
 ls:Tok→Option (LC U)
 mu:Bool
structure Eff (U:Uni) where
 val:Option (V U):=none
 mem:List (Name × List (C U)):=[]
 kill:List Tok:=[]
 ls:List (Tok × LC U):=[]
def FSt.put(st:FSt U)(d:Option Nat)(v:V U):FSt U:=
 match d with
 | some k=> { st with env:=fun j=> bif Nat.beq j k then v else st.env j }
 | none=> st
def ZV(m:Name→Option (List (C U))):List (Name × List (C U))→Name→Option (List (C U))
 | [],nm=> m nm
 | (a,cs) ::r,nm=> if nm=a then some cs else ZV m r nm
def ZJ(m:Tok→Option (LC U)):List (Tok × LC U)→Tok→Option (LC U)
 | [],t=> m t
 | (a,x) ::r,t=> if t=a then some x else ZJ m r t
def Z14(m:Tok→Option (LC U))(e:Eff U):Tok→Option (LC U):=fun t=> bif e.kill.contains t then none else ZJ m e.ls t
def FSt.app(st:FSt U)(d:Option Nat)(e:Eff U):FSt U:=
 {st.put d (e.val.getD .junk) with mem:=ZV st.mem e.mem,dead:=fun t=> st.dead t || e.kill.contains t,ls:=Z14 st.ls e }
def Z0m:Value→Option (C U)
 | .int k n=> some (.int k n)
 | .bool b=> some (.bool b)
 | .slice none 0 0=> some .nils
 | .pointer none=> some .nilp
 | _=> none
def ZhI:Value→Option (V U)
 | .agg cs=> (cs.toList.mapM Z0m).map .agg
 | v=> (Z0m v).map .c
def FSt.opnd(st:FSt U):Operand→Option (V U)
 | .tmp t=> some (st.env t)
 | .const v=> ZhI v
 | .func f=> some (.fn f)
 | .global _=> none
def V.cells:V U→Option (List (C U))
 | .c x=> some [x]
 | .agg cs=> some cs
 | _=> none
def mkV(ag:Bool)(cs:List (C U)):Option (V U):=
 match ag,cs with
 | true,cs=> some (.agg cs)
 | false,[c]=> some (.c c)
 | false,_=> none
def InR(n:Int):Prop:= -9223372036854775808≤n∧n≤9223372036854775807
def Zct(wr:Bool)(k:IntKind)(n:Int):List Prop × C U:=
 match wr,k with
 | false,.i64=> ([InR n],.int .i64 n)
 | _,k=> ([],.int k (k.wrap n))
def ZxY(wr:Bool)(op:BinOp)(x y:C U):Option (List Prop × C U):=
 match x,y with
 | .int k a,.int k' b=>
  match op with
  | .shl=> some ([0≤b],.int k (k.wrap (a*2 ^ (min b.toNat k.bits))))
  | .shr=> some ([0≤b],.int k (a.fdiv (2 ^ (min b.toNat k.bits))))
  | .eql=> if k=k' then some ([],.bool (a==b)) else none
  | .neq=> if k=k' then some ([],.bool (a !=b)) else none
  | .lss=> if k=k' then some ([],.bool (decide (a < b))) else none
  | .leq=> if k=k' then some ([],.bool (decide (a≤b))) else none
  | .gtr=> if k=k' then some ([],.bool (decide (b < a))) else none
  | .geq=> if k=k' then some ([],.bool (decide (b≤a))) else none
  | .add=> if k=k' then some (Zct wr k (a+b)) else none
  | .sub=> if k=k' then some (Zct wr k (a - b)) else none
  | .mul=> if k=k' then some (Zct wr k (a*b)) else none
  | .quo=> if k=k' then some ([b≠0],.int k (k.wrap (a.tdiv b))) else none
  | .rem=> if k=k' then some ([b≠0],.int k (a.tmod b)) else none
  | .and=> if k=k' then some ([],.int k (k.wrap (BitVec.ofInt k.bits a &&& BitVec.ofInt k.bits b).toNat)) else none
  | .or=> if k=k' then some ([],.int k (k.wrap (BitVec.ofInt k.bits a ||| BitVec.ofInt k.bits b).toNat)) else none
  | .xor=> if k=k' then some ([],.int k (k.wrap (BitVec.ofInt k.bits a ^^^ BitVec.ofInt k.bits b).toNat)) else none
  | .andNot=> if k=k' then some ([],.int k (k.wrap (BitVec.ofInt k.bits a &&& ~~~(BitVec.ofInt k.bits b)).toNat)) else none
 | _,_=> none
def Zpx(op:BinOp)(a b:Bool):Option (C U):=
 match op with
 | .eql=> some (.bool (a==b))
 | .neq=> some (.bool (a !=b))
 | _=> none
def Zig:List (C U)→List (C U)→Option Bool
 | [],[]=> some true
 | .int k a ::r,.int k' b ::s=> if k=k' then (Zig r s).map fun x=> (a==b) && x else none
 | _,_=> none
def aUn(wr:Bool)(op:UnOp)(x:C U):Option (List Prop × C U):=
 match op,x with
 | .not,.bool b=> some ([],.bool (!b))
 | .neg,.int k n=> some (Zct wr k (-n))
 | _,_=> none
def Ziu(cfg:Cfg U)(T:U.Ty):C U→Option (List (U.El T) × Tail)
 | .nils=> some ([],.full)
 | .slice S l tl=>
  match cfg.tyEq S T with
  | isTrue h=> some (h▸l,tl)
  | isFalse _=> none
 | _=> none
def YK(cs:List (C U))(off:Nat)(new:List (C U)):Option (List (C U)):=
 if off+new.length≤cs.length then some (cs.take off++new++cs.drop (off+new.length)) else none
def ZhG(cfg:Cfg U)(t:TypeId)(i:Nat):Option (Nat × Nat):=
 match cfg.fld t i with
 | some (off,ft)=>
  match cfg.var ft with
  | some (_,zs)=> some (off,zs.length)
  | none=> none
 | none=>
  match cfg.arr t with
  | some (_,et)=>
   match cfg.var et with
   | some (_,zs)=> some (i*zs.length,zs.length)
   | none=> none
  | none=> none
def Z0K(cfg:Cfg U)(t:TypeId):List (C U)→List (Nat × List (C U))→Option (List (C U))
 | cs,[]=> some cs
 | cs,(i,new) ::r=>
  match ZhG cfg t i with
  | some (off,n)=> if new.length=n then (YK cs off new).bind fun cs'=> Z0K cfg t cs' r else none
  | none=> none
def Z1d(k:IntKind):List (C U)→Option (List Int)
 | []=> some []
 | .int k' n ::r=> if k=k' then (Z1d k r).map (n ::·) else none
 | _=> none
def Z26(n:Int)(j:Nat)(v x:Int):Int:=if n=(j:Int) then v else x
def Z2h(k:IntKind)(n v:Int):Nat→List Int→List (C U)
 | _,[]=> []
 | j,x ::r=> .int k (Z26 n j v x) ::Z2h k n v (j+1) r
def rd(st:FSt U)(p:V U)(ag:Bool)(n:Nat):Option (V U):=
 match p with
 | .ptr nm off=>
  match st.mem nm with
  | some cs=> if off+n≤cs.length then mkV ag ((cs.drop off).take n) else none
  | none=> none
 | .ep cs=> if n≤cs.length then mkV ag (cs.take n) else none
 | .ap nm off k len i=>
  match st.mem nm with
  | some cs=> if off+len≤cs.length then match Z1d k ((cs.drop off).take len) with
   | some l=> bif ag then none else some (.c (.int k (l.getD i.toNat 0)))
   | none=> none
   else none
  | none=> none
 | _=> none
def Z6e(st:FSt U):Option Operand→Option (Option (V U))
 | none=> some none
 | some x=> (st.opnd x).map some
def C.frz(t:Tok)(x:LC U):C U→C U
 | .mref u=> if u=t then .slice x.T x.l (.own t) else .mref u
 | .slice T l (.own u)=> if u=t then .slice T l .unk else .slice T l (.own u)
 | c=> c
def V.frz(cfg:Cfg U)(t:Tok)(x:LC U):V U→V U
 | .c y=> .c (y.frz t x)
 | .agg cs=> .agg (cs.map (C.frz t x))
 | .tup vs=> .tup (vs.map fun y=> (y.1,y.2.map (C.frz t x)))
 | .ep cs=> .ep (cs.map (C.frz t x))
 | .gd b v=> .gd b (v.frz cfg t x)
 | .mp u n off=> if u=t then .ep ((cfg.enc x.T (x.l.getD n (cfg.dflt x.T))).drop off) else .mp u n off
 | v=> v
def FSt.frz1(cfg:Cfg U)(st:FSt U)(t:Tok):FSt U:=
 match st.ls t with
 | none=> st
 | some x=> { st with env:=fun k=> (st.env k).frz cfg t x,mem:=fun nm=> (st.mem nm).map fun cs=> cs.map (C.frz t x),ls:=fun u=> if u=t then none else st.ls u }
def FSt.frz(cfg:Cfg U)(st:FSt U):List Tok→FSt U
 | []=> st
 | t ::r=> (st.frz1 cfg t).frz cfg r
def C.muts:C U→List Tok
 | .mref t=> [t]
 | _=> []
def Ztu:List (C U)→List Tok
 | []=> []
 | c ::r=> c.muts++Ztu r
def V.muts:V U→List Tok
 | .c x=> x.muts
 | .agg cs=> Ztu cs
 | .gd _ v=> v.muts
 | .mp t _ _=> [t]
 | _=> []
def Z12(s:List (Tok × Tok))(t:Tok):Option Tok:=
 match s with
 | []=> none
 | (a,b) ::r=> if b=t then some a else Z12 r t
def YP(s:List (Tok × Tok))(t:Tok):Option Tok:=
 match s with
 | []=> none
 | (a,b) ::r=> if a=t then some b else YP r t
def Z0l(mine:Tok→Bool)(nm:Tok)(c:C U)(seen:List (Tok × Tok)):C U × List (Tok × Tok):=
 match c with
 | .slice T l (.own t)=> if mine t && (YP seen t).isNone && (Z12 seen nm).isNone then (.slice T l (.own nm),(t,nm) ::seen) else (.slice T l .unk,seen)
 | .mref t=> if mine t && (YP seen t).isNone && (Z12 seen nm).isNone then (.mref nm,(t,nm) ::seen) else (.jk,seen)
 | c=> (c,seen)
def YU(mine:Tok→Bool)(nm:Nat→Tok):(j:Nat)→List (C U)→List (Tok × Tok)→List (C U) × List (Tok × Tok)
 | _,[],seen=> ([],seen)
 | j,c ::r,seen=> ((Z0l mine (nm j) c seen).1 ::(YU mine nm (j+1) r (Z0l mine (nm j) c seen).2).1,(YU mine nm (j+1) r (Z0l mine (nm j) c seen).2).2)
def Ztf(mine:Tok→Bool)(nm:Nat→Tok)(v:V U)(seen:List (Tok × Tok)):Option (V U × List (Tok × Tok)):=
 match v with
 | .c x=> some (.c (Z0l mine (nm 0) x seen).1,(Z0l mine (nm 0) x seen).2)
 | .agg cs=> some (.agg (YU mine nm 0 cs seen).1,(YU mine nm 0 cs seen).2)
 | .fn f=> some (.fn f,seen)
 | _=> none
def Zqe:V U→Option Name
 | .ptr nm 0=> some nm
 | _=> none
def Zao(os:List (Name × List (C U)))(nm:Name):Bool:=
 match os with
 | []=> false
 | (a,_) ::r=> if a=nm then true else Zao r nm
def Zwi:V U→Option (Name × (Name→V U))
 | .ptr nm off=> some (nm,fun n=> .ptr n off)
 | .clo f [nm]=> some (nm,fun n=> .clo f [n])
 | _=> none
def JJ(st:FSt U)(ps:Nat→Bool):(i:Nat)→List (V U)→List (Name × List (C U))→List (Tok × Tok)→
  Option (List (V U) × List (Name × List (C U)) × List (Tok × Tok))
 | _,[],os,seen=> some ([],os,seen)
 | i,v ::r,os,seen=>
  match Zwi v with
  | some (nm,mk)=>
   match st.mem nm with
   | none=> none
   | some cs=>
    if Zao os nm then none else
    match JJ st ps (i+1) r (os++[(nm,(YU (fun t=> !st.dead t) (.x os.length) 0 cs seen).1)]) (YU (fun t=> !st.dead t) (.x os.length) 0 cs seen).2 with
    | some (vs,os',s)=> some (mk (.x os.length) ::vs,os',s)
    | none=> none
  | none=>
   match Ztf (fun t=> ps i && !st.dead t) (.e i) v seen with
   | none=> none
   | some (v',seen')=>
    match JJ st ps (i+1) r os seen' with
    | some (vs,os',s)=> some (v' ::vs,os',s)
    | none=> none
def Y6(d:Nat):Tok→Option Tok
 | .r 0 j=> some (.r d (2*j))
 | .x k j=> if j < 64 then some (.r d (2*(64*k+j)+1)) else none
 | _=> none
def Z1j(d:Nat):Tok→Option Tok
 | .r d' m=> if d'=d then (if m % 2=0 then some (.r 0 (m / 2)) else some (.x (m / 2 / 64) (m / 2 % 64))) else none
 | _=> none
def Z0u(d:Nat)(L:List (Tok × LC U))(t:Tok):Option Tok:=
 match ZJ (fun _=> none) L t with
 | some _=> Y6 d t
 | none=> none
def Z15(st:FSt U)(d:Nat):List (Tok × LC U)→Option (List (Tok × LC U))
 | []=> some []
 | (t,x) ::r=> match Y6 d t,Z15 st d r with
  | some t',some l=> if (st.ls t').isNone && !st.dead t' then some ((t',x) ::l) else none
  | _,_=> none
def Z7a(d:Nat)(L:List (Tok × LC U)):List (Name × List (C U))→List (List (C U))→Option (List (Name × List (C U)))
 | [],[]=> some []
 | (nm,_) ::r,cs ::s=> (Z7a d L r s).map ((nm,cs.map (C.mapTok (Y6 d) (Z0u d L))) ::·)
 | _,_=> none
def Z07(m:Tok→Option (LC U))(s:List (Tok × Tok)):List Tok→List (Tok × LC U)
 | []=> []
 | t ::r=> match Z12 s t with
  | some u=> match YP s u,m u with
   | some t',some x=> if t'=t∧t.isR=false then (t,x) ::Z07 m s r else Z07 m s r
   | _,_=> Z07 m s r
  | none=> Z07 m s r
def Zaz(Γ:Known U)(st:FSt U)(d:Nat)(f:FuncId)(args:List (V U)):Option (List Prop × Eff U):=
 match Γ f with
 | none=> none
 | some s=>
  match JJ st s.pass 0 args [] [] with
  | none=> none
  | some (vs,os,toks)=>
   match s.fn2 vs (os.map (·.2)) (bif s.wr then Z07 st.ls toks (toks.map (·.2)) else []) with
   | none=> none
   | some (ps,r,xs,L)=>
    match Z7a d L os xs,Z15 st d L with
    | some m,some l=> some (ps,{ val:=some (r.mapTok (Y6 d) (Z0u d L)),mem:=m,kill:=toks.map (·.1),ls:=l })
    | _,_=> none
def lenOf(cfg:Cfg U)(st:FSt U)(t:TypeId):V U→Option (C U)
 | .c (.mref u)=> match cfg.slT t,st.ls u with
  | some S,some x=> match cfg.tyEq S x.T with
   | isTrue _=> some (.int .i64 x.l.length)
   | isFalse _=> none
  | _,_=> none
 | .c .nils=> match cfg.slT t with
  | some _=> some (.int .i64 0)
  | none=> none
 | .c (.slice T l _)=> match cfg.slT t with
  | some S=> match cfg.tyEq S T with
   | isTrue _=> some (.int .i64 l.length)
   | isFalse _=> none
  | none=> none
 | _=> none
def Z7X(cfg:Cfg U)(st:FSt U)(T:U.Ty):C U→Option (List (U.El T) × Nat × Option Tok)
 | .mref t=> match st.ls t with
  | some x=> match cfg.tyEq x.T T with
   | isTrue h=> some (h▸x.l,x.f,some t)
   | isFalse _=> none
  | none=> none
 | c=> match Ziu cfg T c with
  | some (l,.full)=> some (l,l.length,none)
  | some (l,.own t)=> if st.dead t then none else some (l,l.length,some t)
  | _=> none
def ZEA:C U→Bool
 | .mref _=> true
 | _=> false
def Z4T(cfg:Cfg U)(st:FSt U)(d:Nat)(t:TypeId)(x y:C U):Option (List Prop × Eff U):=
 match cfg.slT t with
 | none=> none
 | some T=>
  match Z7X cfg st T x,Ziu cfg T y with
  | some (l,f,u),some (l',_)=>
   if (st.ls (.r d 0)).isNone && !st.dead (.r d 0) && !u.toList.contains (.r d 0) then
    some ([(l.length+l'.length)*cfg.bytes T≤140737488355328],{ val:=some (.c (.mref (.r d 0))),kill:=u.toList,ls:=[(.r d 0,⟨T,l++l',f⟩)] })
   else none
  | _,_=> none
def Z4S(cfg:Cfg U)(st:FSt U)(d:Nat)(t t':TypeId)(x y:C U):Option (List Prop × Eff U):=
 match cfg.slT t,cfg.var t',y with
 | some T,some (false,[.int .i64 _]),.int .i64 n=>
  match Z7X cfg st T x,(cfg.var (cfg.elT T)).bind fun p=> cfg.dec T p.2 with
  | some (l,f,u),some z=>
   if (st.ls (.r d 0)).isNone && !st.dead (.r d 0) && !u.toList.contains (.r d 0) then
    some ([0≤n∧(l.length+n)*cfg.bytes T≤140737488355328],{ val:=some (.c (.mref (.r d 0))),kill:=u.toList,ls:=[(.r d 0,⟨T,l++List.replicate n.toNat z,f⟩)] })
   else none
  | _,_=> none
 | _,_,_=> none
def Z7F(cfg:Cfg U)(st:FSt U)(d:Nat)(t:TypeId)(x y:C U):Option (List Prop × Eff U):=
 match cfg.slT t with
 | none=> none
 | some T=>
  match Ziu cfg T x,Ziu cfg T y with
  | some (l,tl),some (l',_)=>
   let res:C U:= .slice T (l++l') (.own (.r d 0))
   let room:Prop:=(l.length+l'.length)*cfg.bytes T≤140737488355328
   match tl with
   | .unk=> none
   | .full=> some ([room],{ val:=some (.c res) })
   | .own u=> match st.dead u with
    | true=> none
    | false=> some ([room],{ val:=some (.c res),kill:=[u] })
  | _,_=> none
def Z7E(mx:Bool)(x y:C U):Option (C U):=
 match x,y with
 | .int k a,.int k' b=> if k=k' then some (.int k (if mx then (if a < b then b else a) else (if b < a then b else a))) else none
 | _,_=> none
def ZiM(cfg:Cfg U)(t:TypeId)(x:C U)(lo hi mx:Option (V U)):Option (List Prop × C U):=
 match cfg.slT t with
 | none=> none
 | some T=>
  match Ziu cfg T x with
  | none=> none
  | some (l,tl)=>
   match lo,hi,mx with
   | none,none,none=> some ([],.slice T l tl)
   | some (.c (.int _ a)),none,none=> some ([0≤a∧a≤l.length],.slice T (l.drop a.toNat) tl)
   | none,some (.c (.int _ b)),none=> some ([0≤b∧b≤l.length],.slice T (l.take b.toNat) .unk)
   | some (.c (.int _ a)),some (.c (.int _ b)),none=> some ([0≤a∧a≤b∧b≤l.length],.slice T ((l.take b.toNat).drop a.toNat) .unk)
   | none,some (.c (.int _ b)),some (.c (.int _ m))=> some ([0≤b∧b≤l.length,m=b],.slice T (l.take b.toNat) .full)
   | some (.c (.int _ a)),some (.c (.int _ b)),some (.c (.int _ m))=> some ([0≤a∧a≤b∧b≤l.length,m=b],.slice T ((l.take b.toNat).drop a.toNat) .full)
   | _,_,_=> none
def Z8c(p:V U)(off n:Nat):Option (V U):=
 match p with
 | .ptr nm o=> some (.ptr nm (o+off))
 | .ep cs=> if off+n≤cs.length then some (.ep (cs.drop off)) else none
 | _=> none
def ZgZ(x:Option (List Prop × C U)):Option (List Prop × Eff U):=x.map fun (ps,c)=> (ps,{ val:=some (.c c) })
def Jz(cfg:Cfg U)(T:U.Ty):(i:Nat)→List (Nat × V U)→Option (List (U.El T))
 | _,[]=> some []
 | i,(k,v) ::r=>
  if k=i then
   match v.cells with
   | some cs=> match cfg.dec T cs with
    | some x=> (Jz cfg T (i+1) r).map (x ::·)
    | none=> none
   | none=> none
  else none
def Zfj(cfg:Cfg U)(st:FSt U)(dst:Option Nat)(b:Builtin)(args:List Operand)(ts:List TypeId):Option (List Prop × Eff U):=
 match b,args,ts with
 | .len,[x],[t]=> match st.opnd x with
  | some v=> (lenOf cfg st t v).map fun c=> ([],{ val:=some (.c c) })
  | none=> none
 | .append,[x,y],[t,t']=> match dst,st.opnd x,st.opnd y with
  | some d,some (.c x),some (.c y)=> if t=t' then (bif st.mu || ZEA x then Z4T cfg st d t x y else Z7F cfg st d t x y) else Z4S cfg st d t t' x y
  | _,_,_=> none
 | .min,[x,y],_=> match st.opnd x,st.opnd y with
  | some (.c x),some (.c y)=> (Z7E false x y).map fun c=> ([],{ val:=some (.c c) })
  | _,_=> none
 | .max,[x,y],_=> match st.opnd x,st.opnd y with
  | some (.c x),some (.c y)=> (Z7E true x y).map fun c=> ([],{ val:=some (.c c) })
  | _,_=> none
 | _,_,_=> none
def ZiO(cfg:Cfg U)(Γ:Known U)(st:FSt U)(dst:Option Nat)(c:Call):Option (List Prop × Eff U):=
 match c.callee with
 | .builtin b=> Zfj cfg st dst b c.args.toList c.argTypes.toList
 | .value g=> match st.opnd g,c.args.toList.mapM st.opnd with
  | some (.fn f),some vs=> Zaz Γ st (dst.getD 0) f vs
  | some (.clo f nms),some vs=> Zaz Γ st (dst.getD 0) f (vs++nms.map (.ptr · 0))
  | _,_=> none
 | _=> none
def ZiN(cfg:Cfg U)(st:FSt U)(dst:Option Nat)(T:U.Ty)(n m:Int)(z:U.El T):Option (List Prop × Eff U):=
 match dst with
 | some d=> if (st.ls (.r d 0)).isNone && !st.dead (.r d 0) then some ([0≤n∧n*cfg.bytes T≤140737488355328∧n≤9223372036854775807,m=n],{ val:=some (.c (.mref (.r d 0))),ls:=[(.r d 0,⟨T,List.replicate n.toNat z,0⟩)] }) else none
 | none=> none
def aop(cfg:Cfg U)(Γ:Known U)(o:Oper)(st:FSt U):Option (List Prop × Eff U):=
 match o.op with
 | .move x | .assign x=> (st.opnd x).bind fun v=> match v with
  | .junk | .gd .. => none
  | v=> some ([],{ val:=some v })
 | .alloc t=> match o.dst,cfg.var t with
  | some d,some (_,zs)=> if (st.mem (.loc d)).isSome then none else some ([],{ val:=some (.ptr (.loc d) 0),mem:=[(.loc d,zs)] })
  | _,_=> none
 | .box t x=> match o.dst,cfg.var t,(st.opnd x).bind V.cells with
  | some d,some (_,zs),some cs=> if (st.mem (.loc d)).isSome || cs.length !=zs.length then none else some ([],{ val:=some (.ptr (.loc d) 0),mem:=[(.loc d,cs)] })
  | _,_,_=> none
 | .build t parts=> match cfg.var t,parts.toList.mapM fun (i,x)=> ((st.opnd x).bind V.cells).map (i,·) with
  | some (true,zs),some ps=> (Z0K cfg t zs ps).map fun cs=> ([],{ val:=some (.agg cs) })
  | _,_=> none
 | .buildSlice t n parts=> match cfg.slT t,parts.toList.mapM fun (i,x)=> (st.opnd x).map (i,·) with
  | some T,some ps=> if ps.length=n∧n*cfg.sz T≤16777216 then (Jz cfg T 0 ps).map fun l=> ([],{ val:=some (.c (.slice T l .full)) }) else none
  | _,_=> none
 | .load t p=> match cfg.var t,st.opnd p with
  | some (ag,zs),some (.mp u n off)=> match st.ls u with
   | some x=> if off+zs.length≤cfg.sz x.T then (mkV ag (((cfg.enc x.T (x.l.getD n (cfg.dflt x.T))).drop off).take zs.length)).map fun v=> ([],{ val:=some v }) else none
   | none=> none
  | some (ag,zs),some (.c (.po T o))=> (rd st (.ep (cfg.enc T (o.getD (cfg.dflt T)))) ag zs.length).map fun v=> ([o.isSome=true],{ val:=some v })
  | some (ag,zs),some p=> (rd st p ag zs.length).map fun v=> ([],{ val:=some v })
  | _,_=> none
 | .store t p x=> match cfg.var t,st.opnd p,(st.opnd x).bind V.cells with
  | some (_,zs),some (.ptr nm off),some new=> match st.mem nm with
   | some cs=> if new.length=zs.length then (YK cs off new).map fun cs'=> ([],{ mem:=[(nm,cs')] }) else none
   | none=> none
  | some (_,zs),some (.mp u n off),some new=> match st.ls u with
   | some x=> if new.length=zs.length then match (YK (cfg.enc x.T (x.l.getD n (cfg.dflt x.T))) off new).bind (cfg.dec x.T) with
    | some y=> some ([x.f≤n],{ ls:=[(u,⟨x.T,x.l.set n y,x.f⟩)] })
    | none=> none
    else none
   | none=> none
  | some (_,zs),some (.ap nm off k len n),some [.int k' x]=> match st.mem nm with
   | some cs=> if off+len≤cs.length∧k=k'∧zs.length=1 then match Z1d k ((cs.drop off).take len) with
    | some l=> some ([],{ mem:=[(nm,cs.take off++Z2h k n x 0 l++cs.drop (off+len))] })
    | none=> none
    else none
   | none=> none
  | _,_,_=> none
 | .nilCheck x=> match st.opnd x with
  | some (.ptr nm off)=> some ([],{ val:=some (.ptr nm off) })
  | some (.ep cs)=> some ([],{ val:=some (.ep cs) })
  | some (.mp u n off)=> if (st.ls u).isSome then some ([],{ val:=some (.mp u n off) }) else none
  | some (.c (.po T o))=> some ([o.isSome=true],{ val:=some (.c (.po T o)) })
  | _=> none
 | .binOp op t x y _=> match st.opnd x,st.opnd y with
  | some (.c (.bool a)),some (.c (.bool b))=> match cfg.var t with
   | some (false,[.bool _])=> (Zpx op a b).map fun c=> ([],{ val:=some (.c c) })
   | _=> none
  | some (.c (.slice _ l _)),some (.c .nils)=> match op,cfg.slT t with
   | .eql,some _=> some ([],{ val:=some (.nb (l=[]) True) })
   | .neq,some _=> some ([],{ val:=some (.nb True (l=[])) })
   | _,_=> none
  | some (.c (.po _ o)),some (.c .nilp)=> match op,cfg.var t with
   | .eql,some (false,[.nilp])=> some ([],{ val:=some (.c (.bool o.isNone)) })
   | .neq,some (false,[.nilp])=> some ([],{ val:=some (.c (.bool o.isSome)) })
   | _,_=> none
  | some (.c a),some (.c b)=> ZgZ (ZxY Γ.wr op a b)
  | some (.agg a),some (.agg b)=> match op,cfg.eqs t,Zig a b,cfg.var t with
   | .eql,true,some r,some (_,zs)=> if zs.length=a.length then some ([],{ val:=some (.c (.bool r)) }) else none
   | .neq,true,some r,some (_,zs)=> if zs.length=a.length then some ([],{ val:=some (.c (.bool (!r))) }) else none
   | _,_,_,_=> none
  | _,_=> none
 | .unOp op _ x=> match st.opnd x with
  | some (.c a)=> ZgZ (aUn Γ.wr op a)
  | _=> none
 | .convert src dst x=> match cfg.var src,cfg.var dst,st.opnd x with
  | some (false,[.int _ _]),some (false,[.int k _]),some (.c (.int _ n))=> some ([],{ val:=some (.c (.int k (k.wrap n))) })
  | _,_,_=> none
 | .makeSlice t n m=> match cfg.slT t,st.opnd n,st.opnd m with
  | some T,some (.c (.int .i64 n)),some (.c (.int .i64 m))=>
   match cfg.var (cfg.elT T) with
   | some (_,zs)=> match cfg.dec T zs with
    | some z=> bif st.mu then ZiN cfg st o.dst T n m z else some ([0≤n∧n*cfg.bytes T≤140737488355328∧n≤9223372036854775807,m=n],{ val:=some (.c (.slice T (List.replicate n.toNat z) .full)) })
    | none=> none
   | none=> none
  | _,_,_=> none
 | .slice t x lo hi mx=> match st.opnd x,Z6e st lo,Z6e st hi,Z6e st mx with
  | some (.ptr nm off),some none,some none,some none=> match cfg.arr t,cfg.slT o.type,st.mem nm with
   | some (len,et),some T,some cs=> if off=0∧cs.length=len∧cfg.sz T=1∧cfg.elT T=et then match cs.mapM fun c=> cfg.dec T [c] with
    | some l=> some ([],{ val:=some (.c (.slice T l .full)),mem:=[(nm,[])] })
    | none=> none
    else none
   | _,_,_=> none
  | some (.c x),some lo,some hi,some mx=> ZgZ (ZiM cfg t x lo hi mx)
  | _,_,_,_=> none
 | .fieldAddr t x f=> match st.opnd x,cfg.fld t f with
  | some (.mp u n o'),some (off,ft)=> match cfg.var ft with
   | some _=> if (st.ls u).isSome then some ([],{ val:=some (.mp u n (o'+off)) }) else none
   | none=> none
  | some (.c (.po T o)),some (off,ft)=> match cfg.var ft with
   | some (_,zs)=> (Z8c (.ep (cfg.enc T (o.getD (cfg.dflt T)))) off zs.length).map fun v=> ([o.isSome=true],{ val:=some v })
   | none=> none
  | some p,some (off,ft)=> match cfg.var ft with
   | some (_,zs)=> (Z8c p off zs.length).map fun v=> ([],{ val:=some v })
   | none=> none
  | _,_=> none
 | .field t x f=> match st.opnd x,cfg.fld t f with
  | some (.agg cs),some (off,ft)=> match cfg.var ft with
   | some (ag,zs)=> if off+zs.length≤cs.length then (mkV ag ((cs.drop off).take zs.length)).map fun v=> ([],{ val:=some v }) else none
   | none=> none
  | _,_=> none
 | .indexAddr t x i=> match st.opnd x,st.opnd i with
  | some (.c (.slice T l _)),some (.c (.int _ n))=> match cfg.slT t with
   | some S=> match cfg.tyEq S T with
    | isTrue _=> some ([0≤n∧n < l.length],{ val:=some (.ep (cfg.enc T (l.getD n.toNat (cfg.dflt T)))) })
    | isFalse _=> none
   | none=> none
  | some (.c (.mref u)),some (.c (.int _ n))=> match cfg.slT t,st.ls u with
   | some S,some x=> match cfg.tyEq S x.T with
    | isTrue _=> some ([0≤n∧n < x.l.length],{ val:=some (.mp u n.toNat 0) })
    | isFalse _=> none
   | _,_=> none
  | some (.ptr nm off),some (.c (.int _ n))=> match cfg.arr t with
   | some (len,et)=> match cfg.var et with
    | some (false,[.int k _])=> some ([0≤n∧n < len],{ val:=some (.ap nm off k len n) })
    | some (_,zs)=> if 0≤n∧n < len then some ([],{ val:=some (.ptr nm (off+n.toNat*zs.length)) }) else none
    | none=> none
   | none=> none
  | _,_=> none
 | .index t x i=> match st.opnd x,st.opnd i with
  | some (.agg cs),some (.c (.int _ n))=> match cfg.arr t with
   | some (len,et)=> match cfg.var et with
    | some (false,[.int k _])=> if len=cs.length then match Z1d k cs with
     | some l=> some ([0≤n∧n < len],{ val:=some (.c (.int k (l.getD n.toNat 0))) })
     | none=> none
     else none
    | some (ag,zs)=> if 0≤n∧n < len∧n.toNat*zs.length+zs.length≤cs.length then (mkV ag ((cs.drop (n.toNat*zs.length)).take zs.length)).map fun v=> ([],{ val:=some v }) else none
    | none=> none
   | none=> none
  | _,_=> none
 | .extract x i=> match st.opnd x with
  | some (.tup vs)=> match vs[i]? with
   | some (ag,cs)=> (mkV ag cs).map fun v=> ([],{ val:=some v })
   | none=> none
  | _=> none
 | .makeFunc f first caps=> match f,first.toList,caps.toList.mapM fun x=> (st.opnd x).bind Zqe with
  | .func f,[],some nms=> some ([],{ val:=some (.clo f nms) })
  | _,_,_=> none
 | .call c=> ZiO cfg Γ st o.dst c
 | _=> none
def V.strip:V U→V U
 | .gd _ v=> v
 | v=> v
def FSt.strip(st:FSt U):FSt U:={ st with env:=fun k=> (st.env k).strip }
def Z0o(st:FSt U)(G:Option Bool):List Operand→List Prop
 | []=> []
 | .tmp t ::r=> match st.env t with
  | .gd g _=> (match G with | some G=> (G=true→g=true) | none=> g=true) ::Z0o st G r
  | _=> Z0o st G r
 | _ ::r=> Z0o st G r
def Z5t(ops:Array Oper)(st:FSt U)(o:Oper):Option (Option Bool):=
 match o.guard with
 | none=> some none
 | some (j,want)=> match (ops[j]?).bind (·.dst) with
  | some t=> match st.env t with
   | .c (.bool g)=> some (some (if want then g else !g))
   | .gd g0 (.c (.bool g))=> some (some (g0 && (if want then g else !g)))
   | _=> none
  | none=> none
def gW:Option Bool→Prop→Prop
 | none,p=> p
 | some G,p=> G=true→p
def gV:Option Bool→V U→V U
 | none,v=> v
 | some G,v=> .gd G v
def ZoI(G:Option Bool)(c:Prop):V U→List Prop
 | .gd g _=> [gW G (c→g=true)]
 | _=> []
def ZzI(d:Option Nat)(n:Nat):Bool:=
 match d with
 | some d=> Nat.blt d n
 | none=> true
def Jj(l:List Name)(nm:Name):Bool:=
 match l with
 | []=> false
 | a ::r=> if a=nm then true else Jj r nm
def YY:Option (V U)→List Name
 | some (.ptr nm _)=> [nm]
 | some (.ap nm _ _ _ _)=> [nm]
 | some (.clo _ nms)=> nms
 | _=> []
def V.toks:V U→List Tok
 | .c (.mref t)=> [t]
 | .mp t _ _=> [t]
 | _=> []
def touch(o:Oper)(st:FSt U):List Name:=
 match o.op with
 | .load _ p=> YY (st.strip.opnd p)
 | .store _ p _=> YY (st.strip.opnd p)
 | .alloc _ | .box _ _=> match o.dst with
  | some d=> [.loc d]
  | none=> []
 | .slice _ x _ _ _=> YY (st.strip.opnd x)
 | .call c=> YY (match c.callee with | .value g=> st.strip.opnd g | _=> none)++c.args.toList.flatMap fun x=> YY (st.strip.opnd x)
 | _=> []
def Z0Y(o:Oper):List Operand:=
 match o.op with
 | .load _ p=> [p]
 | .store _ p _=> [p]
 | .nilCheck x=> [x]
 | .fieldAddr _ x _=> [x]
 | .indexAddr _ x _=> [x]
 | .call c=> match c.callee with
  | .builtin _=> c.args.toList
  | _=> []
 | _=> []
def touchT(o:Oper)(st:FSt U):List Tok:=
 (Z0Y o).flatMap fun x=> (st.strip.opnd x).toList.flatMap V.toks
def Zkt(tyEq:DecidableEq U.Ty)(G:Bool):C U→C U→Option (C U)
 | .int k n,.int k' n'=> if k=k' then some (.int k (bif G then n' else n)) else none
 | .bool b,.bool b'=> some (.bool (bif G then b' else b))
 | .nils,.nils=> some .nils
 | .nilp,.nilp=> some .nilp
 | .po T o,.po T' o'=> match tyEq T' T with
  | isTrue h=> some (.po T (bif G then h▸o' else o))
  | isFalse _=> none
 | .slice T l .unk,.slice T' l' .unk=> match tyEq T' T with
  | isTrue h=> some (.slice T (bif G then h▸l' else l) .unk)
  | isFalse _=> none
 | _,_=> none
def Zcn(tyEq:DecidableEq U.Ty)(G:Bool):List (C U)→List (C U)→Option (List (C U))
 | [],[]=> some []
 | c ::r,c' ::r'=> match Zkt tyEq G c c',Zcn tyEq G r r' with
  | some x,some y=> some (x ::y)
  | _,_=> none
 | _,_=> none
def Z3V(tyEq:DecidableEq U.Ty)(G:Bool)(m:Name→Option (List (C U))):List (Name × List (C U))→Option (List (Name × List (C U)))
 | []=> some []
 | (nm,cs') ::r=> match m nm with
  | none=> none
  | some cs=> match Zcn tyEq G cs cs',Z3V tyEq G m r with
   | some x,some y=> some ((nm,x) ::y)
   | _,_=> none
def Z5I(cfg:Cfg U)(Γ:Known U)(ops:Array Oper)(o:Oper)(st:FSt U):Option (List Prop × Eff U):=
 if ZzI o.dst st.n then
 match o.op,o.guard with
 | .pick c a b,_=> match Z5t ops st o,st.opnd c,st.opnd a,st.opnd b with
  | some G,some c,some a,some b=> match c.strip,a.strip,b.strip with
   | .c (.bool cv),.c (.bool av),.c (.bool bv)=>
    some (ZoI G True c++(ZoI G (cv=true) a++ZoI G (cv=false) b),{ val:=some (gV G (.c (.bool (bif cv then av else bv)))) })
   | _,_,_=> none
  | _,_,_,_=> none
 | _,_=> match Z5t ops st o with
  | none=> none
  | some G=> match aop cfg Γ o st.strip with
   | none=> none
   | some (ps,e)=> match G with
    | none=> some (Z0o st none o.op.operands.toList++ps,e)
    | some G=> match e with
     | { val:=some v,mem:=[],kill:=[],ls:=[] }=> some (Z0o st (some G) o.op.operands.toList++ps.map (fun p=> G=true→p),{ val:=some (.gd G v) })
     | { val:=some v,mem:=m,kill:=[],ls:=[] }=> match m.all (fun x=> Jj (touch o st) x.1),Z3V cfg.tyEq G st.mem m with
      | true,some m'=> some (Z0o st (some G) o.op.operands.toList++ps.map (fun p=> G=true→p),{ val:=some (.gd G v),mem:=m' })
      | _,_=> none
     | _=> none
 else none
def ZnG(st:FSt U)(nm:Name):List Tok:=
 match st.mem nm with
 | some cs=> Ztu cs
 | none=> []
def ZmG(st:FSt U):Option (V U)→List Tok
 | some (.ptr nm _)=> ZnG st nm
 | some (.clo _ nms)=> nms.flatMap (ZnG st)
 | some v=> v.muts
 | none=> []
def Z4R:Option (V U)→List Tok
 | some v=> v.muts
 | none=> []
def Z8E(Γ:Known U):Option (V U)→Bool
 | some (.fn f)=> match Γ f with
  | some s=> s.wr
  | none=> false
 | _=> false
def ZcP(Γ:Known U)(o:Oper)(st:FSt U):List Tok:=
 match o.op with
 | .call c=> match c.callee with
  | .builtin .append=> match c.args.toList with
   | [_,y]=> Z4R (st.strip.opnd y)
   | _=> []
  | .value g=> match Z8E Γ (st.strip.opnd g) with
   | true=> []
   | false=> ZmG st (st.strip.opnd g)++c.args.toList.flatMap fun x=> ZmG st (st.strip.opnd x)
  | _=> []
 | .slice _ x _ _ _=> Z4R (st.strip.opnd x)
 | .buildSlice _ _ parts=> parts.toList.flatMap fun x=> Z4R (st.strip.opnd x.2)
 | .binOp _ _ x y _=> Z4R (st.strip.opnd x)++Z4R (st.strip.opnd y)
 | .store _ p x=> match st.strip.opnd p with
  | some (.mp ..)=> Z4R (st.strip.opnd x)
  | _=> []
 | _=> []
def Z6g{α:Type}(cfg:Cfg U)(st:FSt U)(k:FSt U→α):List Tok→α
 | []=> k st
 | t ::r=> k (st.frz cfg (t ::r))
def FSt.pre(cfg:Cfg U)(Γ:Known U)(st:FSt U)(fz:Bool)(o:Oper):FSt U:=Z6g cfg st id (bif fz then ZcP Γ o st else [])
def Zfh(cfg:Cfg U)(Γ:Known U)(ops:Array Oper)(fz:Bool):List Oper→FSt U→Option (List Prop × FSt U)
 | [],st=> some ([],st)
 | o ::r,st=> Z6g cfg st (fun st=> match Z5I cfg Γ ops o st with
  | none=> none
  | some (ps,e)=> match Zfh cfg Γ ops fz r (st.app o.dst e) with
   | none=> none
   | some (qs,st')=> some (ps++qs,st'))
   (bif fz then ZcP Γ o st else [])
def All:List Prop→Prop
 | []=> True
 | p ::r=> p∧All r
end Go.AM
