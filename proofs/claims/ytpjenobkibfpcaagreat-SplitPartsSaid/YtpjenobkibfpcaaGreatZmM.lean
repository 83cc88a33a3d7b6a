import Derived.Test.YtpjenobkibfpcaaGreatZmL
set_option linter.unusedSimpArgs false
set_option linter.unusedVariables false
namespace Go.AM
variable {U:Uni} {P:Program} {cfg:Cfg U} {B:Base} {st:FSt U} {g:Gh} {a:Act} {w:World}
def Z70(o:Oper):Bool:=
 match o.op with
 | .call _=> true
 | .makeSlice _ _ _=> true
 | _=> false
structure Fp where
 touch:List Name
 writes:List Name
 kills:Bool
 touchT:List Tok
 writesT:List Tok
 allT:Bool
def Z0B(Γ:Known U)(o:Oper)(st:FSt U):Bool:=
 match o.op with
 | .call c=> match c.callee with
  | .value g=> match st.strip.opnd g with
   | some (.fn f)=> Z8E Γ (some (.fn f))
   | some (.clo f _)=> Z8E Γ (some (.fn f))
   | _=> false
  | _=> false
 | _=> false
def ZqJ(Γ:Known U)(o:Oper)(st:FSt U)(e:Eff U):Fp:={ allT:=Z0B Γ o st,touch:=touch o st,writes:=e.mem.map (·.1),kills:= !e.kill.isEmpty,touchT:=touchT o st,writesT:=e.kill++e.ls.map (·.1) }
def ZiX(l:List Tok)(t:Tok):Bool:=
 match l with
 | []=> false
 | a ::r=> if a=t then true else ZiX r t
def ZeG(a b:List Tok):Bool:=a.any fun x=> ZiX b x
def noR(d:Nat)(a:List Tok):Bool:=a.all fun t=> match t with
 | .r d' _=> !Nat.beq d' d
 | _=> true
def ZlK(a b:List Name):Bool:=a.any fun x=> Jj b x
def Zif(ops:Array Oper)(x y:Oper)(a b:Fp):Bool:=
 x.apart ops y && y.apart ops x && !ZlK a.writes b.touch && !ZlK b.writes a.touch && !ZlK a.writes b.writes && !(a.kills && Z70 y) && !(b.kills && Z70 x) &&
  !ZeG a.writesT b.touchT && !ZeG b.writesT a.touchT && !ZeG a.writesT b.writesT && noR (y.dst.getD 0) a.writesT && noR (x.dst.getD 0) b.writesT &&
  (a.writesT.isEmpty || !b.allT) && (b.writesT.isEmpty || !a.allT)
structure Alike (Γ:Known U) (o:Oper) (ops:Array Oper) (st st':FSt U):Prop where
 n:st'.n=st.n
 env:∀ t,t∈o.looksAt ops→st'.env t=st.env t
 mem:∀ nm,nm∈touch o st→st'.mem nm=st.mem nm
 dead:Z70 o=true→st'.dead=st.dead
 mu:st'.mu=st.mu
 ls:∀ t,t∈touchT o st→st'.ls t=st.ls t
 fr:∀ j,st'.ls (.r (o.dst.getD 0) j)=st.ls (.r (o.dst.getD 0) j)
 all:Z0B Γ o st=true→st'.ls=st.ls
theorem Alike.tok{o:Oper}{ops:Array Oper}{Γ:Known U}{st st':FSt U}(h:Alike Γ o ops st st'){x:Operand}(hx:x∈Z0Y o){v:V U}(hv:st.strip.opnd x=some v){t:Tok}(ht:t∈v.toks):st'.ls t=st.ls t:=
 h.ls t (List.mem_flatMap.2 ⟨x,hx,by rw [hv];simpa using ht⟩)
theorem Z9S{st st':FSt U}{d:Nat}(hd:st'.dead=st.dead)(hf:∀ j,st'.ls (.r d j)=st.ls (.r d j)):∀ (L:List (Tok × LC U)),Z15 st' d L=Z15 st d L
 | []=> rfl
 | (t,x) ::L=> by
  simp only [Z15,Z9S hd hf L]
  cases hb:Y6 d t with
  | none=> rfl
  | some t'=>
   have e:∃ j,t'= .r d j:=by
    unfold Y6 at hb
    split at hb
    ·cases hb;exact ⟨_,rfl⟩
    ·split at hb
     ·cases hb;exact ⟨_,rfl⟩
     ·cases hb
    ·cases hb
   obtain ⟨j,rfl⟩:=e
   cases Z15 st d L with
   | none=> rfl
   | some l=> simp only [hf j,hd]
theorem Alike.opnd{o:Oper}{ops:Array Oper}{Γ:Known U}{st st':FSt U}(h:Alike Γ o ops st st'){x:Operand}(hx:x∈o.op.operands.toList):st'.opnd x=st.opnd x∧st'.strip.opnd x=st.strip.opnd x:=by
 cases x with
 | tmp t=>
  have ht:t∈o.looksAt ops:=List.mem_append_left _ (List.mem_filterMap.2 ⟨.tmp t,hx,rfl⟩)
  have:=h.env t ht
  exact ⟨by simp [FSt.opnd,this],by simp [FSt.opnd,FSt.strip,this]⟩
 | const c=> exact ⟨rfl,rfl⟩
 | global g=> exact ⟨rfl,rfl⟩
 | func f=> exact ⟨rfl,rfl⟩
theorem Zt2{st st':FSt U}{p:V U}{ag:Bool}{n:Nat}(h:∀ nm,nm∈YY (some p)→st'.mem nm=st.mem nm):rd st' p ag n=rd st p ag n:=by
 cases p <;> simp only [rd]
 case ptr nm off=> rw [h nm (by simp [YY])]
 case ap nm off k len i=> rw [h nm (by simp [YY])]
theorem Z3k{st st':FSt U}(hd:st'.dead=st.dead)(ps:Nat→Bool):∀ (xs:List (V U)) (i:Nat) (os:List (Name × List (C U))) (seen:List (Tok × Tok)),
  (∀ x,x∈xs→∀ nm,nm∈YY (some x)→st'.mem nm=st.mem nm)→JJ st' ps i xs os seen=JJ st ps i xs os seen
 | [],i,os,seen,_=> rfl
 | x ::xs,i,os,seen,h=> by
  have ih:=fun i os seen=> Z3k hd ps xs i os seen (fun y hy=> h y (by simp [hy]))
  simp only [JJ,hd,ih]
  cases hp:Zwi x with
  | none=> rfl
  | some nm=>
   have e:st'.mem nm.1=st.mem nm.1:=by
    refine h x (by simp) nm.1 ?_
    cases x <;> simp only [Zwi,reduceCtorEq] at hp
    ·cases hp;simp [YY]
    ·split at hp
     ·rename_i heq;cases heq
     ·rename_i heq;cases heq;cases hp;simp [YY]
     ·cases hp
   simp only [e]
theorem Z8k{st st':FSt U}{x:Option Operand}(h:∀ y,x=some y→st'.opnd y=st.opnd y):Z6e st' x=Z6e st x:=by
 cases x with
 | none=> rfl
 | some y=> simp only [Z6e,h y rfl]
theorem Z3p{α β:Type}{f f':α→Option β}:∀ {l:List α},(∀ x,x∈l→f' x=f x)→l.mapM f'=l.mapM f
 | [],_=> rfl
 | x ::l,h=> by rw [List.mapM_cons,List.mapM_cons,h x (by simp),Z3p (fun y hy=> h y (by simp [hy]))]
theorem Zr4{Γ:Known U}{o:Oper}{ops:Array Oper}{st st':FSt U}(h:Alike Γ o ops st st'):aop cfg Γ o st'.strip=aop cfg Γ o st.strip:=by
 have hop:=fun {x:Operand} (hx:x∈o.op.operands.toList)=> (h.opnd hx).2
 have hm:=h.mem
 have hd:=h.dead
 have htk:=fun {x:Operand} (hx:x∈Z0Y o) {v:V U} (hv:st.strip.opnd x=some v) {t:Tok} (ht:t∈v.toks)=> h.tok hx hv ht
 have hmu:=h.mu
 have hfr:=h.fr
 have hall:=h.all
 obtain ⟨dst,op,type,pos,after,guard⟩:=o
 cases op <;> simp only [aop]
 case move x=> rw [hop (by simp [Op.operands])]
 case assign x=> rw [hop (by simp [Op.operands])]
 case alloc t=>
  cases dst with
  | none=> rfl
  | some d=>
   have:st'.strip.mem (.loc d)=st.strip.mem (.loc d):=hm (.loc d) (by simp [touch])
   cases cfg.var t with
   | none=> rfl
   | some z=> simp only [this]
 case box t x=>
  cases dst with
  | none=> rfl
  | some d=>
   have:st'.strip.mem (.loc d)=st.strip.mem (.loc d):=hm (.loc d) (by simp [touch])
   rw [hop (x:=x) (by simp [Op.operands])]
   cases cfg.var t with
   | none=> rfl
   | some z=>
    cases (st.strip.opnd x).bind V.cells with
    | none=> rfl
    | some cs=> simp only [this]
 case build t parts=>
  rw [Z3p (f:=fun x=> ((st.strip.opnd x.2).bind V.cells).map (x.1,·))]
  intro x hx
  rw [hop (by simp only [Op.operands];simp;exact ⟨x.1,by simpa using hx⟩)]
 case buildSlice t n parts=>
  rw [Z3p (f:=fun x=> (st.strip.opnd x.2).map (x.1,·))]
  intro x hx
  rw [hop (by simp only [Op.operands];simp;exact ⟨x.1,by simpa using hx⟩)]
 case load t p=>
  rw [hop (by simp [Op.operands])]
  cases cfg.var t with
  | none=> rfl
  | some z=>
   cases hp:st.strip.opnd p with
   | none=> rfl
   | some v=>
    have:rd st'.strip v z.1 z.2.length=rd st.strip v z.1 z.2.length:=Zt2 fun nm hnm=> hm nm (by simp only [touch];rw [hp];exact hnm)
    cases v <;> first | (simp only [this];done) | skip
    case c c=> cases c <;> first | rfl | (simp only [this];done)
    case mp u n off=>
     have:st'.strip.ls u=st.strip.ls u:=htk (x:=p) (by simp [Z0Y]) hp (by simp [V.toks])
     simp only [this]
 case store t p x=>
  rw [hop (x:=p) (by simp [Op.operands]),hop (x:=x) (by simp [Op.operands])]
  cases cfg.var t with
  | none=> rfl
  | some z=>
   cases hp:st.strip.opnd p with
   | none=> rfl
   | some v=>
    cases v <;> try rfl
    case mp u n off=>
     have:st'.strip.ls u=st.strip.ls u:=htk (x:=p) (by simp [Z0Y]) hp (by simp [V.toks])
     cases (st.strip.opnd x).bind V.cells with
     | none=> rfl
     | some cs=> simp only [this]
    case ptr nm off=>
     have:st'.strip.mem nm=st.strip.mem nm:=hm nm (by simp only [touch];rw [hp];simp [YY])
     cases (st.strip.opnd x).bind V.cells with
     | none=> rfl
     | some cs=> simp only [this]
    case ap nm off k len n=>
     have:st'.strip.mem nm=st.strip.mem nm:=hm nm (by simp only [touch];rw [hp];simp [YY])
     cases (st.strip.opnd x).bind V.cells with
     | none=> rfl
     | some cs=>
      match cs with
      | []=> rfl
      | [c]=> cases c <;> first | rfl | simp only [this]
      | c ::_ ::_=> cases c <;> rfl
 case nilCheck x=>
  rw [hop (by simp [Op.operands])]
  cases hp:st.strip.opnd x with
  | none=> rfl
  | some v=>
   cases v <;> try rfl
   case c c=> cases c <;> rfl
   case mp u n off=>
    have:st'.strip.ls u=st.strip.ls u:=htk (x:=x) (by simp [Z0Y]) hp (by simp [V.toks])
    simp only [this]
 case binOp bop t x y t'=> rw [hop (x:=x) (by simp [Op.operands]),hop (x:=y) (by simp [Op.operands])]
 case unOp uop t x=> rw [hop (by simp [Op.operands])]
 case convert src dst' x=> rw [hop (by simp [Op.operands])]
 case makeSlice t n m=>
  rw [hop (x:=n) (by simp [Op.operands]),hop (x:=m) (by simp [Op.operands])]
  have hmu':st'.strip.mu=st.strip.mu:=hmu
  have e1:st'.strip.dead=st.strip.dead:=hd rfl
  cases dst with
  | none=> simp only [ZiN,hmu']
  | some d=>
   have e2:st'.strip.ls (.r d 0)=st.strip.ls (.r d 0):=hfr 0
   simp only [ZiN,hmu',e1,e2]
 case slice t x lo hi mx=>
  rw [hop (x:=x) (by simp [Op.operands]),Z8k (x:=lo) (fun y hy=> hop (by simp [Op.operands,hy])),Z8k (x:=hi) (fun y hy=> hop (by simp [Op.operands,hy])),Z8k (x:=mx) (fun y hy=> hop (by simp [Op.operands,hy]))]
  cases hp:st.strip.opnd x with
  | none=> rfl
  | some v=>
   cases v
   case ptr nm off=>
    have:st'.strip.mem nm=st.strip.mem nm:=hm nm (by simp only [touch];rw [hp];simp [YY])
    cases Z6e st.strip lo with
    | none=> rfl
    | some a=>
     cases Z6e st.strip hi with
     | none=> cases a <;> rfl
     | some b=>
      cases Z6e st.strip mx with
      | none=> cases a <;> cases b <;> rfl
      | some c=> cases a <;> cases b <;> cases c <;> first | rfl | simp only [this]
   all_goals (cases Z6e st.strip lo <;> cases Z6e st.strip hi <;> cases Z6e st.strip mx <;> rfl)
 case fieldAddr t x f=>
  rw [hop (by simp [Op.operands])]
  cases hp:st.strip.opnd x with
  | none=> rfl
  | some v=>
   cases cfg.fld t f with
   | none=> cases v with
    | c c=> cases c <;> rfl
    | _=> rfl
   | some z=>
    cases v <;> try rfl
    case c c=> cases c <;> rfl
    case mp u n off=>
     have:st'.strip.ls u=st.strip.ls u:=htk (x:=x) (by simp [Z0Y]) hp (by simp [V.toks])
     simp only [this]
 case makeFunc f first caps=>
  rw [Z3p (f:=fun x=> (st.strip.opnd x).bind Zqe)]
  intro x hx
  rw [hop (by simp only [Op.operands];simp;right;simpa using hx)]
 case field t x f=> rw [hop (by simp [Op.operands])]
 case indexAddr t x i=>
  rw [hop (x:=x) (by simp [Op.operands]),hop (x:=i) (by simp [Op.operands])]
  cases hp:st.strip.opnd x with
  | none=> rfl
  | some v=>
   cases hi:st.strip.opnd i with
   | none=> cases v <;> first | rfl | (rename_i y;cases y <;> rfl)
   | some vi=>
    cases vi <;> first | (cases v <;> first | (rfl;done) | (rename_i y;cases y <;> (rfl;done));done) | skip
    case c z=>
     cases z <;> first | (cases v <;> first | (rfl;done) | (rename_i y;cases y <;> (rfl;done));done) | skip
     case int k n=>
      cases v <;> first | (rfl;done) | skip
      case c y=>
       cases y <;> first | (rfl;done) | skip
       case mref u=>
        have:st'.strip.ls u=st.strip.ls u:=htk (x:=x) (by simp [Z0Y]) hp (by simp [V.toks])
        simp only [this]
 case index t x i=> rw [hop (x:=x) (by simp [Op.operands]),hop (x:=i) (by simp [Op.operands])]
 case extract x i=> rw [hop (by simp [Op.operands])]
 case call c=>
  have hd':st'.dead=st.dead:=hd rfl
  unfold ZiO
  cases hc:c.callee with
  | builtin b=>
   simp only
   have hx:∀ x∈c.args.toList,st'.strip.opnd x=st.strip.opnd x:=fun x hx=> hop (by simp [Op.operands,Call.operands,hc];simpa using hx)
   unfold Zfj
   split
   ·rename_i x t hargs hts
    rw [hx x (by rw [hargs];simp)]
    cases hp:st.strip.opnd x with
    | none=> rfl
    | some v=>
     have:lenOf cfg st'.strip t v=lenOf cfg st.strip t v:=by
      cases v <;> try rfl
      case c y=>
       cases y <;> try rfl
       case mref u=>
        have:st'.strip.ls u=st.strip.ls u:=htk (x:=x) (by simp only [Z0Y,hc];rw [hargs];simp) hp (by simp [V.toks])
        simp only [lenOf,this]
     simp only [this]
   ·rename_i x y t t' hargs hts
    rw [hx x (by rw [hargs];simp),hx y (by rw [hargs];simp)]
    have:∀ d t x y,Z7F cfg st'.strip d t x y=Z7F cfg st.strip d t x y:=fun d t x y=> by simp only [Z7F,FSt.strip,hd']
    have hmu':st'.strip.mu=st.strip.mu:=hmu
    cases dst with
    | none=> rfl
    | some d=>
     cases hp:st.strip.opnd x with
     | none=> rfl
     | some v=>
      cases v <;> try rfl
      case c cx=>
       have hM:∀ t y,Z4T cfg st'.strip d t cx y=Z4T cfg st.strip d t cx y:=by
        intro t y
        have e1:st'.strip.dead=st.strip.dead:=hd'
        have e2:st'.strip.ls (.r d 0)=st.strip.ls (.r d 0):=hfr 0
        have e3:∀ T,Z7X cfg st'.strip T cx=Z7X cfg st.strip T cx:=by
         intro T
         cases cx <;> simp only [Z7X,e1]
         case mref u=>
          have:st'.strip.ls u=st.strip.ls u:=htk (x:=x) (by simp only [Z0Y,hc];rw [hargs];simp) hp (by simp [V.toks])
          simp only [this]
        simp only [Z4T,e1,e2,e3]
       have hZ:∀ t t' y,Z4S cfg st'.strip d t t' cx y=Z4S cfg st.strip d t t' cx y:=by
        intro t t' y
        have e1:st'.strip.dead=st.strip.dead:=hd'
        have e2:st'.strip.ls (.r d 0)=st.strip.ls (.r d 0):=hfr 0
        have e3:∀ T,Z7X cfg st'.strip T cx=Z7X cfg st.strip T cx:=by
         intro T
         cases cx <;> simp only [Z7X,e1]
         case mref u=>
          have:st'.strip.ls u=st.strip.ls u:=htk (x:=x) (by simp only [Z0Y,hc];rw [hargs];simp) hp (by simp [V.toks])
          simp only [this]
        simp only [Z4S,e1,e2,e3]
       cases hq:st.strip.opnd y with
       | none=> rfl
       | some vy=> cases vy <;> first | (rfl;done) | (simp only [this,hM,hZ,hmu'])
   ·rename_i x y hargs
    rw [hx x (by rw [hargs];simp),hx y (by rw [hargs];simp)]
   ·rename_i x y hargs
    rw [hx x (by rw [hargs];simp),hx y (by rw [hargs];simp)]
   ·try rfl
  | value gx=>
   simp only
   have hx:∀ x∈c.args.toList,st'.strip.opnd x=st.strip.opnd x:=fun x hx=> hop (by simp [Op.operands,Call.operands,hc];right;simpa using hx)
   rw [hop (x:=gx) (by simp [Op.operands,Call.operands,hc]),Z3p (f:=st.strip.opnd) hx]
   cases hg:st.strip.opnd gx with
   | none=> rfl
   | some v=>
    have key:∀ (vs:List (V U)),c.args.toList.mapM st.strip.opnd=some vs→∀ x∈vs,∀ nm∈YY (some x),st'.strip.mem nm=st.strip.mem nm:=by
     intro vs hv x hxm nm hnm
     refine hm nm ?_
     simp only [touch]
     obtain ⟨j,hj,rfl⟩:=List.getElem_of_mem hxm
     have hlen:=(mapM_len hv)
     have hja:j < c.args.toList.length:=by omega
     obtain ⟨y,h1,h2⟩:=Z6n hv j _ (List.getElem?_eq_getElem hja)
     rw [List.getElem?_eq_getElem hj] at h1
     cases h1
     exact List.mem_append_right _ (List.mem_flatMap.2 ⟨_,List.getElem_mem hja,by rw [h2];exact hnm⟩)
    have hB:∀ L,Z15 st'.strip (dst.getD 0) L=Z15 st.strip (dst.getD 0) L:=Z9S (st:=st.strip) (st':=st'.strip) hd' hfr
    cases v <;> try rfl
    case fn f=>
     cases hv:c.args.toList.mapM st.strip.opnd with
     | none=> rfl
     | some vs=>
      simp only
      unfold Zaz
      cases hG:Γ.fn f with
      | none=> rfl
      | some s=>
       simp only [hB]
       have hW:∀ toks c,(bif s.wr then Z07 st'.strip.ls toks c else [])=(bif s.wr then Z07 st.strip.ls toks c else []:List (Tok × LC U)):=by
        intro toks c'
        cases hw:s.wr with
        | false=> rfl
        | true=>
         have:st'.ls=st.ls:=hall (by simp only [Z0B,hc,hg,Z8E,hG,hw])
         simp only [cond_true,FSt.strip,this]
       simp only [hW]
       rw [Z3k (st:=st.strip) (st':=st'.strip) hd']
       exact key vs hv
    case clo f nms=>
     cases hv:c.args.toList.mapM st.strip.opnd with
     | none=> rfl
     | some vs=>
      simp only
      unfold Zaz
      cases hG:Γ.fn f with
      | none=> rfl
      | some s=>
       simp only [hB]
       have hW:∀ toks c,(bif s.wr then Z07 st'.strip.ls toks c else [])=(bif s.wr then Z07 st.strip.ls toks c else []:List (Tok × LC U)):=by
        intro toks c'
        cases hw:s.wr with
        | false=> rfl
        | true=>
         have:st'.ls=st.ls:=hall (by simp only [Z0B,hc,hg,Z8E,hG,hw])
         simp only [cond_true,FSt.strip,this]
       simp only [hW]
       rw [Z3k (st:=st.strip) (st':=st'.strip) hd']
       intro x hx
       rcases List.mem_append.1 hx with hx | hx
       ·exact key vs hv x hx
       ·obtain ⟨nm0,h1,rfl⟩:=List.mem_map.1 hx
        intro nm hnm
        simp only [YY,List.mem_singleton] at hnm
        subst hnm
        refine hm nm ?_
        simp only [touch,hc,hg]
        exact List.mem_append_left _ (by simpa [YY] using h1)
  | invoke r m=> rfl
where
 mapM_len {f:Operand→Option (V U)}:∀ {xs:List Operand} {vs:List (V U)},xs.mapM f=some vs→xs.length=vs.length:=by
  intro xs
  induction xs with
  | nil=> intro vs h;simp at h;subst h;rfl
  | cons y xs ih=>
   intro vs h
   rw [List.mapM_cons] at h
   cases h1:f y with
   | none=> simp [h1] at h
   | some v=>
    cases h2:xs.mapM f with
    | none=> simp [h1,h2] at h
    | some r=>
     simp [h1,h2] at h
     subst h
     simp [ih h2]
theorem Zap{st st':FSt U}{G:Option Bool}:∀ {l:List Operand},(∀ t,Operand.tmp t∈l→st'.env t=st.env t)→Z0o st' G l=Z0o st G l
 | [],_=> rfl
 | x ::l,h=> by
  have ih:=Zap (l:=l) (G:=G) (fun t ht=> h t (by simp [ht]))
  cases x with
  | tmp t=> simp only [Z0o,h t (by simp),ih]
  | _=> simp only [Z0o,ih]
theorem Zcl{tyEq:DecidableEq U.Ty}{G:Bool}{m0 m1:Name→Option (List (C U))}:∀ {m:List (Name × List (C U))},(∀ x∈m,m1 x.1=m0 x.1)→Z3V tyEq G m1 m=Z3V tyEq G m0 m
 | [],_=> rfl
 | (nm,cs) ::r,h=> by
  simp only [Z3V,h (nm,cs) (by simp),Zcl (m:=r) (fun x hx=> h x (by simp [hx]))]
theorem Z6k{l:List Name}{nm:Name}:Jj l nm=true↔nm∈l:=by
 refine ⟨?_,Z6j⟩
 induction l with
 | nil=> intro h;cases h
 | cons x l ih=>
  intro h
  simp only [Jj] at h
  split at h
  ·rename_i e;subst e;simp
  ·simp [ih h]
theorem Z5M{o:Oper}{ops:Array Oper}{st st':FSt U}(h:∀ t,t∈o.looksAt ops→st'.env t=st.env t):touch o st'=touch o st:=by
 have hop:∀ {x:Operand},x∈o.op.operands.toList→st'.strip.opnd x=st.strip.opnd x:=by
  intro x hx
  cases x with
  | tmp t=> simp [FSt.opnd,FSt.strip,h t (List.mem_append_left _ (List.mem_filterMap.2 ⟨.tmp t,hx,rfl⟩))]
  | _=> rfl
 obtain ⟨dst,op,type,pos,after,guard⟩:=o
 cases op <;> simp only [touch]
 case load t p=> rw [hop (by simp [Op.operands])]
 case store t p x=> rw [hop (by simp [Op.operands])]
 case slice t x lo hi mx=> rw [hop (by simp [Op.operands])]
 case call c=>
  have:∀ (l:List Operand),(∀ x∈l,x∈c.args.toList)→(l.flatMap fun x=> YY (st'.strip.opnd x))=l.flatMap fun x=> YY (st.strip.opnd x):=by
   intro l
   induction l with
   | nil=> intro _;rfl
   | cons x l ih=>
    intro hl
    rw [List.flatMap_cons,List.flatMap_cons,ih (fun y hy=> hl y (by simp [hy])),hop (by
     have:=hl x (by simp)
     cases hc:c.callee <;> simp [Op.operands,Call.operands,hc] <;> first | (right;simpa using this) | simpa using this)]
  rw [this _ (fun x hx=> hx)]
  cases hc:c.callee with
  | value gx=> simp only [hop (x:=gx) (by simp [Op.operands,Call.operands,hc])]
  | builtin b=> rfl
  | invoke r m=> rfl
theorem Zlx{o:Oper}{x:Operand}(h:x∈Z0Y o):x∈o.op.operands.toList:=by
 obtain ⟨dst,op,type,pos,after,guard⟩:=o
 cases op <;> simp only [Z0Y] at h <;> (try (cases h;done))
 case load t p=> simp only [List.mem_singleton] at h;subst h;simp [Op.operands]
 case store t p x=> simp only [List.mem_singleton] at h;subst h;simp [Op.operands]
 case nilCheck x=> simp only [List.mem_singleton] at h;subst h;simp [Op.operands]
 case fieldAddr t x f=> simp only [List.mem_singleton] at h;subst h;simp [Op.operands]
 case indexAddr t x i=> simp only [List.mem_singleton] at h;subst h;simp [Op.operands]
 case call c=>
  cases hc:c.callee <;> rw [hc] at h <;> (try (cases h;done))
  simp only at h
  simp only [Op.operands,Call.operands,hc]
  simpa using h
theorem Z8D{o:Oper}{ops:Array Oper}{st st':FSt U}(h:∀ t,t∈o.looksAt ops→st'.env t=st.env t):touchT o st'=touchT o st:=by
 have hop:∀ {x:Operand},x∈o.op.operands.toList→st'.strip.opnd x=st.strip.opnd x:=by
  intro x hx
  cases x with
  | tmp t=> simp [FSt.opnd,FSt.strip,h t (List.mem_append_left _ (List.mem_filterMap.2 ⟨.tmp t,hx,rfl⟩))]
  | _=> rfl
 unfold touchT
 have:∀ (l:List Operand),(∀ x∈l,x∈Z0Y o)→(l.flatMap fun x=> (st'.strip.opnd x).toList.flatMap V.toks)=l.flatMap fun x=> (st.strip.opnd x).toList.flatMap V.toks:=by
  intro l
  induction l with
  | nil=> intro _;rfl
  | cons x l ih=>
   intro hl
   rw [List.flatMap_cons,List.flatMap_cons,ih (fun y hy=> hl y (by simp [hy])),hop (Zlx (hl x (by simp)))]
 exact this _ (fun x hx=> hx)
theorem Z7W{Γ:Known U}{o:Oper}{ops:Array Oper}{st st':FSt U}(h:∀ t,t∈o.looksAt ops→st'.env t=st.env t):Z0B Γ o st'=Z0B Γ o st:=by
 obtain ⟨dst,op,type,pos,after,guard⟩:=o
 cases op <;> try rfl
 case call c=>
  simp only [Z0B]
  cases hc:c.callee <;> try rfl
  case value g=>
   have:st'.strip.opnd g=st.strip.opnd g:=by
    cases g with
    | tmp t=> simp [FSt.opnd,FSt.strip,h t (List.mem_append_left _ (List.mem_filterMap.2 ⟨.tmp t,by simp [Op.operands,Call.operands,hc],rfl⟩))]
    | _=> rfl
   simp only [this]
theorem Zcs{Γ:Known U}{o:Oper}{ops:Array Oper}{st st':FSt U}(h:Alike Γ o ops st st'):Z5I cfg Γ ops o st'=Z5I cfg Γ ops o st:=by
 have hop:=fun {x:Operand} (hx:x∈o.op.operands.toList)=> (h.opnd hx).1
 have hG:Z5t ops st' o=Z5t ops st o:=by
  unfold Z5t
  cases hg:o.guard with
  | none=> rfl
  | some jw=>
   obtain ⟨j,want⟩:=jw
   simp only
   cases ht:(ops[j]?).bind (·.dst) with
   | none=> rfl
   | some t=>
    have:st'.env t=st.env t:=h.env t (List.mem_append_right _ (by simp [hg,ht]))
    simp only [this]
 have hN:∀ G,Z0o st' G o.op.operands.toList=Z0o st G o.op.operands.toList:=fun G=>
  Zap fun t ht=> h.env t (List.mem_append_left _ (List.mem_filterMap.2 ⟨.tmp t,ht,rfl⟩))
 unfold Z5I
 rw [h.n]
 split
 ·split
  ·rename_i c x y hc
   rw [hG,hop (x:=c) (by simp [hc,Op.operands]),hop (x:=x) (by simp [hc,Op.operands]),hop (x:=y) (by simp [hc,Op.operands])]
  ·have ht:=Z5M (st:=st) (st':=st') h.env
   rw [hG]
   simp only [Zr4 h,hN,ht]
   split
   ·try rfl
   ·rename_i G hGe
    cases he:aop cfg Γ o st.strip with
    | none=> rfl
    | some r=>
     obtain ⟨ps,e⟩:=r
     cases G with
     | none=> rfl
     | some Gb=>
      obtain ⟨v,m,k,l⟩:=e
      cases v with
      | none=> rfl
      | some v=>
       cases k with
       | cons _ _=> cases m <;> rfl
       | nil=>
        cases l with
        | cons _ _=> cases m <;> rfl
        | nil=>
        cases m with
        | nil=> rfl
        | cons x r=>
         simp only
         cases hall:(x ::r).all fun x=> Jj (touch o st) x.1 with
         | false=> rfl
         | true=>
          have hj:Z3V cfg.tyEq Gb st'.mem (x ::r)=Z3V cfg.tyEq Gb st.mem (x ::r):=Zcl fun y hy=> h.mem _ (Z6k.1 (by
           rw [List.all_eq_true] at hall
           exact hall y hy))
          rw [hj]
 ·try rfl
theorem Z5r{m0:Name→Option (List (C U))}{m:List (Name × List (C U))}{nm:Name}(h:Jj (m.map (·.1)) nm=false):ZV m0 m nm=m0 nm:=by
 induction m with
 | nil=> rfl
 | cons x m ih=>
  obtain ⟨b,cs⟩:=x
  simp only [List.map_cons,Jj] at h
  split at h
  ·cases h
  ·rename_i e
   simp only [ZV]
   rw [if_neg (fun e'=> e e'.symm),ih h]
theorem ZeF{x y:List Name}(h:ZlK x y=false):∀ nm,nm∈x→Jj y nm=false:=by
 intro nm hn
 unfold ZlK at h
 rw [List.any_eq_false] at h
 simpa using h nm hn
theorem ZpW{l:List Tok}{t:Tok}:ZiX l t=true↔t∈l:=by
 induction l with
 | nil=> simp [ZiX]
 | cons x l ih=>
  simp only [ZiX,List.mem_cons]
  split
  ·rename_i e;simp [e]
  ·rename_i e;rw [ih];constructor
   ·exact .inr
   ·rintro (rfl | h)
    ·exact absurd rfl e
    ·exact h
theorem Zc8{x y:List Tok}(h:ZeG x y=false):∀ t,t∈x→t∉y:=by
 intro t ht hy
 unfold ZeG at h
 rw [List.any_eq_false] at h
 have:=h t ht
 rw [ZpW.2 hy] at this
 simp at this
theorem ZqC{m:Tok→Option (LC U)}{l:List (Tok × LC U)}{t:Tok}(h:t∉l.map (·.1)):ZJ m l t=m t:=by
 induction l with
 | nil=> rfl
 | cons x l ih=>
  obtain ⟨b,y⟩:=x
  simp only [List.map_cons,List.mem_cons,not_or] at h
  simp only [ZJ]
  rw [if_neg h.1,ih h.2]
theorem Z4y{m:Tok→Option (LC U)}{e:Eff U}{t:Tok}(h:t∉e.kill++e.ls.map (·.1)):Z14 m e t=m t:=by
 simp only [List.mem_append,not_or] at h
 unfold Z14
 have:e.kill.contains t=false:=by
  cases hk:e.kill.contains t with
  | false=> rfl
  | true=> exact absurd (by simpa using hk) h.1
 rw [this,cond_false,ZqC h.2]
theorem ZgS {Γ:Known U} {ops:Array Oper} {x y:Oper} {st:FSt U} {e:Eff U} (hap:x.apart ops y=true) (hm:ZlK (e.mem.map (·.1)) (touch y st)=false) (hk:(!e.kill.isEmpty && Z70 y)=false)
  (ht:ZeG (e.kill++e.ls.map (·.1)) (touchT y st)=false) (hr:noR (y.dst.getD 0) (e.kill++e.ls.map (·.1))=true) (ha:((e.kill++e.ls.map (·.1)).isEmpty || !Z0B Γ y st)=true):
  Alike Γ y ops st (st.app x.dst e):=by
 obtain ⟨h1,_,_⟩:=Oper.apart_spec hap
 refine ⟨?_,?_,?_,?_,by cases x.dst <;> rfl,fun t htt=> Z4y (fun hm=> Zc8 ht t hm htt),fun j=> Z4y (fun hm=> ?_),fun hc=> ?_⟩
 ·cases x.dst <;> rfl
 ·intro t ht
  cases hd:x.dst with
  | none=> rfl
  | some d=>
   have hne:t≠d:=fun e=> h1 d hd (e▸ht)
   have:Nat.beq t d=false:=by
    cases hb:Nat.beq t d with
    | false=> rfl
    | true=> exact absurd (Nat.eq_of_beq_eq_true hb) hne
   simp [FSt.app,FSt.put,this]
 ·intro nm hn
  have:Jj (e.mem.map (·.1)) nm=false:=by
   cases hb:Jj (e.mem.map (·.1)) nm with
   | false=> rfl
   | true=>
    have:=ZeF hm nm (Z6k.1 hb)
    rw [Z6j hn] at this
    cases this
  exact Z5r this
 ·intro hr
  simp only [hr,Bool.and_true,Bool.not_eq_false'] at hk
  have:e.kill=[]:=by simpa using hk
  simp [FSt.app,this]
 ·have:=List.all_eq_true.1 hr _ hm
  simp at this
 ·rw [hc] at ha
  simp only [Bool.not_true,Bool.or_false,List.isEmpty_iff] at ha
  funext t
  exact Z4y (by rw [ha];simp)
theorem Zvc{ops:Array Oper}{x y:Oper}{st:FSt U}{e f:Eff U}(hap:x.apart ops y=true)(hm:ZlK (e.mem.map (·.1)) (f.mem.map (·.1))=false)(hl:ZeG (e.kill++e.ls.map (·.1)) (f.kill++f.ls.map (·.1))=false):
  (st.app x.dst e).app y.dst f=(st.app y.dst f).app x.dst e:=by
 obtain ⟨_,h2,_⟩:=Oper.apart_spec hap
 have hput:∀ (s:FSt U) (v u:V U),((s.put x.dst v).put y.dst u)=((s.put y.dst u).put x.dst v):=by
  intro s v u
  cases hx:x.dst with
  | none=> rfl
  | some d=>
   cases hy:y.dst with
   | none=> rfl
   | some d'=>
    have hne:d≠d':=fun e=> h2 d hx (by rw [hy,e])
    simp only [FSt.put]
    congr 1
    funext j
    cases h1:Nat.beq j d with
    | false=> rfl
    | true=>
     cases h3:Nat.beq j d' with
     | false=> rfl
     | true=> exact absurd ((Nat.eq_of_beq_eq_true h1).symm.trans (Nat.eq_of_beq_eq_true h3)) hne
 have hmem:ZV (ZV st.mem e.mem) f.mem=ZV (ZV st.mem f.mem) e.mem:=by
  funext nm
  cases h1:Jj (e.mem.map (·.1)) nm with
  | false=>
   rw [Z5r (m:=e.mem) (m0:=ZV st.mem f.mem) h1]
   rcases Z0g st.mem f.mem nm with ⟨k,cs,h3,h4⟩ | ⟨h3,h4⟩
   ·rcases Z0g (ZV st.mem e.mem) f.mem nm with ⟨k',cs',h5,h6⟩ | ⟨h5,h6⟩
    ·have:∀ (m0 m1:Name→Option (List (C U))) (l:List (Name × List (C U))),(∃ x,x∈l∧x.1=nm)→ZV m0 l nm=ZV m1 l nm:=by
      intro m0 m1 l
      induction l with
      | nil=> rintro ⟨x,hx,_⟩;simp at hx
      | cons z l ih=>
       rintro ⟨x,hx,hxe⟩
       obtain ⟨b,cs⟩:=z
       simp only [ZV]
       split
       ·try rfl
       ·rename_i hne
        rcases List.mem_cons.1 hx with rfl | hx
        ·exact absurd hxe.symm hne
        ·exact ih ⟨x,hx,hxe⟩
     exact this _ _ _ ⟨_,List.mem_of_getElem? h3,rfl⟩
    ·exact absurd rfl (h5 k _ h3)
   ·rcases Z0g (ZV st.mem e.mem) f.mem nm with ⟨k',cs',h5,h6⟩ | ⟨h5,h6⟩
    ·exact absurd rfl (h3 k' _ h5)
    ·rw [h6,h4,Z5r h1]
  | true=>
   have h2':Jj (f.mem.map (·.1)) nm=false:=ZeF hm nm (Z6k.1 h1)
   rw [Z5r (m:=f.mem) (m0:=ZV st.mem e.mem) h2']
   have:∀ (m0 m1:Name→Option (List (C U))) (l:List (Name × List (C U))),Jj (l.map (·.1)) nm=true→ZV m0 l nm=ZV m1 l nm:=by
    intro m0 m1 l
    induction l with
    | nil=> intro h;cases h
    | cons z l ih=>
     obtain ⟨b,cs⟩:=z
     intro h
     simp only [List.map_cons,Jj] at h
     simp only [ZV]
     split
     ·try rfl
     ·rename_i hne
      rw [if_neg (fun e=> hne e.symm)] at h
      exact ih h
   exact this _ _ _ h1
 have hdead:(fun t=> (st.dead t || e.kill.contains t) || f.kill.contains t)=fun t=> (st.dead t || f.kill.contains t) || e.kill.contains t:=by
  funext t
  cases st.dead t <;> cases e.kill.contains t <;> cases f.kill.contains t <;> rfl
 have hn:∀ (s:FSt U) d v,(s.put d v).n=s.n∧(s.put d v).mem=s.mem∧(s.put d v).dead=s.dead:=by
  intro s d v;cases d <;> exact ⟨rfl,rfl,rfl⟩
 have henv:(((st.put x.dst (e.val.getD .junk))).put y.dst (f.val.getD .junk)).env=((st.put y.dst (f.val.getD .junk)).put x.dst (e.val.getD .junk)).env:=by rw [hput]
 have hpe:∀ (s s':FSt U) d v,s.env=s'.env→(s.put d v).env=(s'.put d v).env:=by
  intro s s' d v he;cases d <;> simp [FSt.put,he]
 have hls:Z14 (Z14 st.ls e) f=Z14 (Z14 st.ls f) e:=by
  funext t
  by_cases h1:t∈e.kill++e.ls.map (·.1)
  ·have h2:=Zc8 hl t h1
   rw [Z4y h2]
   unfold Z14
   cases he:e.kill.contains t with
   | true=> rfl
   | false=>
    simp only [cond_false]
    have h3:t∈e.ls.map (·.1):=by
     rcases List.mem_append.1 h1 with h | h
     ·have:e.kill.contains t=true:=by simpa using h
      rw [he] at this;cases this
     ·exact h
    have:∀ (m0 m1:Tok→Option (LC U)) (l:List (Tok × LC U)),t∈l.map (·.1)→ZJ m0 l t=ZJ m1 l t:=by
     intro m0 m1 l
     induction l with
     | nil=> intro h;cases h
     | cons z l ih=>
      obtain ⟨b,y⟩:=z
      intro h
      simp only [ZJ]
      split
      ·try rfl
      ·rename_i hne
       simp only [List.map_cons,List.mem_cons] at h
       exact ih (h.resolve_left hne)
    exact this _ _ _ h3
  ·rw [Z4y (m:=Z14 st.ls f) h1]
   have:∀ (m0 m1:Tok→Option (LC U)) (l:List (Tok × LC U)),m0 t=m1 t→ZJ m0 l t=ZJ m1 l t:=by
    intro m0 m1 l he
    induction l with
    | nil=> exact he
    | cons z l ih=>
     obtain ⟨b,y⟩:=z
     simp only [ZJ]
     split
     ·try rfl
     ·exact ih
   have h3:Z14 st.ls e t=st.ls t:=Z4y h1
   unfold Z14 at h3 ⊢
   cases hf:f.kill.contains t with
   | true=> rfl
   | false=> simp only [cond_false];exact this _ _ _ h3
 have ext:∀ {s s':FSt U},s.n=s'.n→s.env=s'.env→s.mem=s'.mem→s.dead=s'.dead→s.ls=s'.ls→s.mu=s'.mu→s=s':=by
  intro s s' h1 h2 h3 h4;cases s;cases s';simp_all
 refine ext ?_ ?_ ?_ ?_ hls ?_
 ·cases x.dst <;> cases y.dst <;> rfl
 ·show ((st.app x.dst e).put y.dst _).env=((st.app y.dst f).put x.dst _).env
  rw [hpe (st.app x.dst e) (st.put x.dst (e.val.getD .junk)) y.dst _ rfl,henv,hpe (st.app y.dst f) (st.put y.dst (f.val.getD .junk)) x.dst _ rfl]
 ·show ZV (st.app x.dst e).mem f.mem=ZV (st.app y.dst f).mem e.mem
  exact hmem
 ·exact hdead
 ·cases x.dst <;> cases y.dst <;> rfl
end Go.AM
