import Derived.Test.YtpjenobkibfpcaaCmL
set_option linter.unusedSimpArgs false
set_option linter.unusedVariables false
namespace Go.AM
variable {U:Uni} {P:Program} {cfg:Cfg U} {B:Base} {st:FSt U} {g:Gh} {a:Act} {w:World}
def Z6c(o:Oper):Bool:=
 match o.op with
 | .call _=> true
 | .makeSlice _ _ _=> true
 | _=> false
structure Fp where
 touch:List Name
 writes:List Name
 kills:Bool
 touchT:List Tok
 writesT:List Tok
 allT:Bool
def Z0n(Γ:Known U)(o:Oper)(st:FSt U):Bool:=
 match o.op with
 | .call c=> match c.callee with
  | .value g=> match st.strip.opnd g with
   | some (.fn f)=> Z7C Γ (some (.fn f))
   | some (.clo f _)=> Z7C Γ (some (.fn f))
   | _=> false
  | _=> false
 | _=> false
def Znc(Γ:Known U)(o:Oper)(st:FSt U)(e:Eff U):Fp:={ allT:=Z0n Γ o st,touch:=touch o st,writes:=e.mem.map (·.1),kills:= !e.kill.isEmpty,touchT:=touchT o st,writesT:=e.kill++e.ls.map (·.1) }
def ZgC(l:List Tok)(t:Tok):Bool:=
 match l with
 | []=> false
 | a ::r=> if a=t then true else ZgC r t
def ZcN(a b:List Tok):Bool:=a.any fun x=> ZgC b x
def noR(d:Nat)(a:List Tok):Bool:=a.all fun t=> match t with
 | .r d' _=> !Nat.beq d' d
 | _=> true
def ZiU(a b:List Name):Bool:=a.any fun x=> J9 b x
def ZfT(ops:Array Oper)(x y:Oper)(a b:Fp):Bool:=
 x.apart ops y && y.apart ops x && !ZiU a.writes b.touch && !ZiU b.writes a.touch && !ZiU a.writes b.writes && !(a.kills && Z6c y) && !(b.kills && Z6c x) &&
  !ZcN a.writesT b.touchT && !ZcN b.writesT a.touchT && !ZcN a.writesT b.writesT && noR (y.dst.getD 0) a.writesT && noR (x.dst.getD 0) b.writesT &&
  (a.writesT.isEmpty || !b.allT) && (b.writesT.isEmpty || !a.allT)
structure Alike (Γ:Known U) (o:Oper) (ops:Array Oper) (st st':FSt U):Prop where
 n:st'.n=st.n
 env:∀ t,t∈o.looksAt ops→st'.env t=st.env t
 mem:∀ nm,nm∈touch o st→st'.mem nm=st.mem nm
 dead:Z6c o=true→st'.dead=st.dead
 mu:st'.mu=st.mu
 ls:∀ t,t∈touchT o st→st'.ls t=st.ls t
 fr:∀ j,st'.ls (.r (o.dst.getD 0) j)=st.ls (.r (o.dst.getD 0) j)
 all:Z0n Γ o st=true→st'.ls=st.ls
theorem Alike.tok{o:Oper}{ops:Array Oper}{Γ:Known U}{st st':FSt U}(h:Alike Γ o ops st st'){x:Operand}(hx:x∈Z0H o){v:V U}(hv:st.strip.opnd x=some v){t:Tok}(ht:t∈v.toks):st'.ls t=st.ls t:=
 h.ls t (List.mem_flatMap.2 ⟨x,hx,by rw [hv];simpa using ht⟩)
theorem Z8v{st st':FSt U}{d:Nat}(hd:st'.dead=st.dead)(hf:∀ j,st'.ls (.r d j)=st.ls (.r d j)):∀ (L:List (Tok × LC U)),Z0N st' d L=Z0N st d L
 | []=> rfl
 | (t,x) ::L=> by
  simp only [Z0N,Z8v hd hf L]
  cases hb:ZU d t with
  | none=> rfl
  | some t'=>
   have e:∃ j,t'= .r d j:=by
    unfold ZU at hb
    split at hb
    ·cases hb;exact ⟨_,rfl⟩
    ·split at hb
     ·cases hb;exact ⟨_,rfl⟩
     ·cases hb
    ·cases hb
   obtain ⟨j,rfl⟩:=e
   cases Z0N st d L with
   | none=> rfl
   | some l=> simp only [hf j,hd]
theorem Alike.opnd{o:Oper}{ops:Array Oper}{Γ:Known U}{st st':FSt U}(h:Alike Γ o ops st st'){x:Operand}(hx:x∈o.op.operands.toList):st'.opnd x=st.opnd x∧st'.strip.opnd x=st.strip.opnd x:=by
 cases x with
 | tmp t=>
  have ht:t∈o.looksAt ops:=List.mem_append_left _ (List.mem_filterMap.2 ⟨.tmp t,hx,rfl⟩)
  have:=h.env t ht
  exact ⟨by simp [FSt.opnd,this],by simp [FSt.opnd,FSt.strip,this]⟩
 | const c=> exact ⟨rfl,rfl⟩
 | global g=> exact ⟨rfl,rfl⟩
 | func f=> exact ⟨rfl,rfl⟩
theorem Zp6{st st':FSt U}{p:V U}{ag:Bool}{n:Nat}(h:∀ nm,nm∈YO (some p)→st'.mem nm=st.mem nm):rd st' p ag n=rd st p ag n:=by
 cases p <;> simp only [rd]
 case ptr nm off=> rw [h nm (by simp [YO])]
 case ap nm off k len i=> rw [h nm (by simp [YO])]
theorem Z2G{st st':FSt U}(hd:st'.dead=st.dead)(ps:Nat→Bool):∀ (xs:List (V U)) (i:Nat) (os:List (Name × List (C U))) (seen:List (Tok × Tok)),
  (∀ x,x∈xs→∀ nm,nm∈YO (some x)→st'.mem nm=st.mem nm)→Jy st' ps i xs os seen=Jy st ps i xs os seen
 | [],i,os,seen,_=> rfl
 | x ::xs,i,os,seen,h=> by
  have ih:=fun i os seen=> Z2G hd ps xs i os seen (fun y hy=> h y (by simp [hy]))
  simp only [Jy,hd,ih]
  cases hp:Zs4 x with
  | none=> rfl
  | some nm=>
   have e:st'.mem nm.1=st.mem nm.1:=by
    refine h x (by simp) nm.1 ?_
    cases x <;> simp only [Zs4,reduceCtorEq] at hp
    ·cases hp;simp [YO]
    ·split at hp
     ·rename_i heq;cases heq
     ·rename_i heq;cases heq;cases hp;simp [YO]
     ·cases hp
   simp only [e]
theorem Z7h{st st':FSt U}{x:Option Operand}(h:∀ y,x=some y→st'.opnd y=st.opnd y):Z5A st' x=Z5A st x:=by
 cases x with
 | none=> rfl
 | some y=> simp only [Z5A,h y rfl]
theorem Z2N{α β:Type}{f f':α→Option β}:∀ {l:List α},(∀ x,x∈l→f' x=f x)→l.mapM f'=l.mapM f
 | [],_=> rfl
 | x ::l,h=> by rw [List.mapM_cons,List.mapM_cons,h x (by simp),Z2N (fun y hy=> h y (by simp [hy]))]
theorem Znv{Γ:Known U}{o:Oper}{ops:Array Oper}{st st':FSt U}(h:Alike Γ o ops st st'):aop cfg Γ o st'.strip=aop cfg Γ o st.strip:=by
 have hop:=fun {x:Operand} (hx:x∈o.op.operands.toList)=> (h.opnd hx).2
 have hm:=h.mem
 have hd:=h.dead
 have htk:=fun {x:Operand} (hx:x∈Z0H o) {v:V U} (hv:st.strip.opnd x=some v) {t:Tok} (ht:t∈v.toks)=> h.tok hx hv ht
 have hmu:=h.mu
 have hfr:=h.fr
 have hall:=h.all
 obtain ⟨dst,op,type,pos,after,guard⟩:=o
 cases op <;> simp only [aop]
 case move x=> rw [hop (by simp [Op.operands])]
 case assign x=> rw [hop (by simp [Op.operands])]
 case alloc t=>
  cases dst with
  | none=> rfl
  | some d=>
   have:st'.strip.mem (.loc d)=st.strip.mem (.loc d):=hm (.loc d) (by simp [touch])
   cases cfg.var t with
   | none=> rfl
   | some z=> simp only [this]
 case box t x=>
  cases dst with
  | none=> rfl
  | some d=>
   have:st'.strip.mem (.loc d)=st.strip.mem (.loc d):=hm (.loc d) (by simp [touch])
   rw [hop (x:=x) (by simp [Op.operands])]
   cases cfg.var t with
   | none=> rfl
   | some z=>
    cases (st.strip.opnd x).bind V.cells with
    | none=> rfl
    | some cs=> simp only [this]
 case build t parts=>
  rw [Z2N (f:=fun x=> ((st.strip.opnd x.2).bind V.cells).map (x.1,·))]
  intro x hx
  rw [hop (by simp only [Op.operands];simp;exact ⟨x.1,by simpa using hx⟩)]
 case buildSlice t n parts=>
  rw [Z2N (f:=fun x=> (st.strip.opnd x.2).map (x.1,·))]
  intro x hx
  rw [hop (by simp only [Op.operands];simp;exact ⟨x.1,by simpa using hx⟩)]
 case load t p=>
  rw [hop (by simp [Op.operands])]
  cases cfg.var t with
  | none=> rfl
  | some z=>
   cases hp:st.strip.opnd p with
   | none=> rfl
   | some v=>
    have:rd st'.strip v z.1 z.2.length=rd st.strip v z.1 z.2.length:=Zp6 fun nm hnm=> hm nm (by simp only [touch];rw [hp];exact hnm)
    cases v <;> first | (simp only [this];done) | skip
    case c c=> cases c <;> first | rfl | (simp only [this];done)
    case mp u n off=>
     have:st'.strip.ls u=st.strip.ls u:=htk (x:=p) (by simp [Z0H]) hp (by simp [V.toks])
     simp only [this]
 case store t p x=>
  rw [hop (x:=p) (by simp [Op.operands]),hop (x:=x) (by simp [Op.operands])]
  cases cfg.var t with
  | none=> rfl
  | some z=>
   cases hp:st.strip.opnd p with
   | none=> rfl
   | some v=>
    cases v <;> try rfl
    case mp u n off=>
     have:st'.strip.ls u=st.strip.ls u:=htk (x:=p) (by simp [Z0H]) hp (by simp [V.toks])
     cases (st.strip.opnd x).bind V.cells with
     | none=> rfl
     | some cs=> simp only [this]
    case ptr nm off=>
     have:st'.strip.mem nm=st.strip.mem nm:=hm nm (by simp only [touch];rw [hp];simp [YO])
     cases (st.strip.opnd x).bind V.cells with
     | none=> rfl
     | some cs=> simp only [this]
    case ap nm off k len n=>
     have:st'.strip.mem nm=st.strip.mem nm:=hm nm (by simp only [touch];rw [hp];simp [YO])
     cases (st.strip.opnd x).bind V.cells with
     | none=> rfl
     | some cs=>
      match cs with
      | []=> rfl
      | [c]=> cases c <;> first | rfl | simp only [this]
      | c ::_ ::_=> cases c <;> rfl
 case nilCheck x=>
  rw [hop (by simp [Op.operands])]
  cases hp:st.strip.opnd x with
  | none=> rfl
  | some v=>
   cases v <;> try rfl
   case c c=> cases c <;> rfl
   case mp u n off=>
    have:st'.strip.ls u=st.strip.ls u:=htk (x:=x) (by simp [Z0H]) hp (by simp [V.toks])
    simp only [this]
 case binOp bop t x y t'=> rw [hop (x:=x) (by simp [Op.operands]),hop (x:=y) (by simp [Op.operands])]
 case unOp uop t x=> rw [hop (by simp [Op.operands])]
 case convert src dst' x=> rw [hop (by simp [Op.operands])]
 case makeSlice t n m=>
  rw [hop (x:=n) (by simp [Op.operands]),hop (x:=m) (by simp [Op.operands])]
  have hmu':st'.strip.mu=st.strip.mu:=hmu
  have e1:st'.strip.dead=st.strip.dead:=hd rfl
  cases dst with
  | none=> simp only [Zgm,hmu']
  | some d=>
   have e2:st'.strip.ls (.r d 0)=st.strip.ls (.r d 0):=hfr 0
   simp only [Zgm,hmu',e1,e2]
 case slice t x lo hi mx=>
  rw [hop (x:=x) (by simp [Op.operands]),Z7h (x:=lo) (fun y hy=> hop (by simp [Op.operands,hy])),Z7h (x:=hi) (fun y hy=> hop (by simp [Op.operands,hy])),Z7h (x:=mx) (fun y hy=> hop (by simp [Op.operands,hy]))]
  cases hp:st.strip.opnd x with
  | none=> rfl
  | some v=>
   cases v
   case ptr nm off=>
    have:st'.strip.mem nm=st.strip.mem nm:=hm nm (by simp only [touch];rw [hp];simp [YO])
    cases Z5A st.strip lo with
    | none=> rfl
    | some a=>
     cases Z5A st.strip hi with
     | none=> cases a <;> rfl
     | some b=>
      cases Z5A st.strip mx with
      | none=> cases a <;> cases b <;> rfl
      | some c=> cases a <;> cases b <;> cases c <;> first | rfl | simp only [this]
   all_goals (cases Z5A st.strip lo <;> cases Z5A st.strip hi <;> cases Z5A st.strip mx <;> rfl)
 case fieldAddr t x f=>
  rw [hop (by simp [Op.operands])]
  cases hp:st.strip.opnd x with
  | none=> rfl
  | some v=>
   cases cfg.fld t f with
   | none=> cases v with
    | c c=> cases c <;> rfl
    | _=> rfl
   | some z=>
    cases v <;> try rfl
    case c c=> cases c <;> rfl
    case mp u n off=>
     have:st'.strip.ls u=st.strip.ls u:=htk (x:=x) (by simp [Z0H]) hp (by simp [V.toks])
     simp only [this]
 case makeFunc f first caps=>
  rw [Z2N (f:=fun x=> (st.strip.opnd x).bind ZmD)]
  intro x hx
  rw [hop (by simp only [Op.operands];simp;right;simpa using hx)]
 case field t x f=> rw [hop (by simp [Op.operands])]
 case indexAddr t x i=>
  rw [hop (x:=x) (by simp [Op.operands]),hop (x:=i) (by simp [Op.operands])]
  cases hp:st.strip.opnd x with
  | none=> rfl
  | some v=>
   cases hi:st.strip.opnd i with
   | none=> cases v <;> first | rfl | (rename_i y;cases y <;> rfl)
   | some vi=>
    cases vi <;> first | (cases v <;> first | (rfl;done) | (rename_i y;cases y <;> (rfl;done));done) | skip
    case c z=>
     cases z <;> first | (cases v <;> first | (rfl;done) | (rename_i y;cases y <;> (rfl;done));done) | skip
     case int k n=>
      cases v <;> first | (rfl;done) | skip
      case c y=>
       cases y <;> first | (rfl;done) | skip
       case mref u=>
        have:st'.strip.ls u=st.strip.ls u:=htk (x:=x) (by simp [Z0H]) hp (by simp [V.toks])
        simp only [this]
 case index t x i=> rw [hop (x:=x) (by simp [Op.operands]),hop (x:=i) (by simp [Op.operands])]
 case extract x i=> rw [hop (by simp [Op.operands])]
 case call c=>
  have hd':st'.dead=st.dead:=hd rfl
  unfold Zgn
  cases hc:c.callee with
  | builtin b=>
   simp only
   have hx:∀ x∈c.args.toList,st'.strip.opnd x=st.strip.opnd x:=fun x hx=> hop (by simp [Op.operands,Call.operands,hc];simpa using hx)
   unfold Zdn
   split
   ·rename_i x t hargs hts
    rw [hx x (by rw [hargs];simp)]
    cases hp:st.strip.opnd x with
    | none=> rfl
    | some v=>
     have:lenOf cfg st'.strip t v=lenOf cfg st.strip t v:=by
      cases v <;> try rfl
      case c y=>
       cases y <;> try rfl
       case mref u=>
        have:st'.strip.ls u=st.strip.ls u:=htk (x:=x) (by simp only [Z0H,hc];rw [hargs];simp) hp (by simp [V.toks])
        simp only [lenOf,this]
     simp only [this]
   ·rename_i x y t t' hargs hts
    rw [hx x (by rw [hargs];simp),hx y (by rw [hargs];simp)]
    have:∀ d t x y,Z6A cfg st'.strip d t x y=Z6A cfg st.strip d t x y:=fun d t x y=> by simp only [Z6A,FSt.strip,hd']
    have hmu':st'.strip.mu=st.strip.mu:=hmu
    cases dst with
    | none=> rfl
    | some d=>
     cases hp:st.strip.opnd x with
     | none=> rfl
     | some v=>
      cases v <;> try rfl
      case c cx=>
       have hM:∀ t y,Z4f cfg st'.strip d t cx y=Z4f cfg st.strip d t cx y:=by
        intro t y
        have e1:st'.strip.dead=st.strip.dead:=hd'
        have e2:st'.strip.ls (.r d 0)=st.strip.ls (.r d 0):=hfr 0
        have e3:∀ T,Z6S cfg st'.strip T cx=Z6S cfg st.strip T cx:=by
         intro T
         cases cx <;> simp only [Z6S,e1]
         case mref u=>
          have:st'.strip.ls u=st.strip.ls u:=htk (x:=x) (by simp only [Z0H,hc];rw [hargs];simp) hp (by simp [V.toks])
          simp only [this]
        simp only [Z4f,e1,e2,e3]
       have hZ:∀ t t' y,Z4e cfg st'.strip d t t' cx y=Z4e cfg st.strip d t t' cx y:=by
        intro t t' y
        have e1:st'.strip.dead=st.strip.dead:=hd'
        have e2:st'.strip.ls (.r d 0)=st.strip.ls (.r d 0):=hfr 0
        have e3:∀ T,Z6S cfg st'.strip T cx=Z6S cfg st.strip T cx:=by
         intro T
         cases cx <;> simp only [Z6S,e1]
         case mref u=>
          have:st'.strip.ls u=st.strip.ls u:=htk (x:=x) (by simp only [Z0H,hc];rw [hargs];simp) hp (by simp [V.toks])
          simp only [this]
        simp only [Z4e,e1,e2,e3]
       cases hq:st.strip.opnd y with
       | none=> rfl
       | some vy=> cases vy <;> first | (rfl;done) | (simp only [this,hM,hZ,hmu'])
   ·rename_i x y hargs
    rw [hx x (by rw [hargs];simp),hx y (by rw [hargs];simp)]
   ·rename_i x y hargs
    rw [hx x (by rw [hargs];simp),hx y (by rw [hargs];simp)]
   ·try rfl
  | value gx=>
   simp only
   have hx:∀ x∈c.args.toList,st'.strip.opnd x=st.strip.opnd x:=fun x hx=> hop (by simp [Op.operands,Call.operands,hc];right;simpa using hx)
   rw [hop (x:=gx) (by simp [Op.operands,Call.operands,hc]),Z2N (f:=st.strip.opnd) hx]
   cases hg:st.strip.opnd gx with
   | none=> rfl
   | some v=>
    have key:∀ (vs:List (V U)),c.args.toList.mapM st.strip.opnd=some vs→∀ x∈vs,∀ nm∈YO (some x),st'.strip.mem nm=st.strip.mem nm:=by
     intro vs hv x hxm nm hnm
     refine hm nm ?_
     simp only [touch]
     obtain ⟨j,hj,rfl⟩:=List.getElem_of_mem hxm
     have hlen:=(mapM_len hv)
     have hja:j < c.args.toList.length:=by omega
     obtain ⟨y,h1,h2⟩:=Z5K hv j _ (List.getElem?_eq_getElem hja)
     rw [List.getElem?_eq_getElem hj] at h1
     cases h1
     exact List.mem_append_right _ (List.mem_flatMap.2 ⟨_,List.getElem_mem hja,by rw [h2];exact hnm⟩)
    have hB:∀ L,Z0N st'.strip (dst.getD 0) L=Z0N st.strip (dst.getD 0) L:=Z8v (st:=st.strip) (st':=st'.strip) hd' hfr
    cases v <;> try rfl
    case fn f=>
     cases hv:c.args.toList.mapM st.strip.opnd with
     | none=> rfl
     | some vs=>
      simp only
      unfold Z97
      cases hG:Γ.fn f with
      | none=> rfl
      | some s=>
       simp only [hB]
       have hW:∀ toks c,(bif s.wr then JV st'.strip.ls toks c else [])=(bif s.wr then JV st.strip.ls toks c else []:List (Tok × LC U)):=by
        intro toks c'
        cases hw:s.wr with
        | false=> rfl
        | true=>
         have:st'.ls=st.ls:=hall (by simp only [Z0n,hc,hg,Z7C,hG,hw])
         simp only [cond_true,FSt.strip,this]
       simp only [hW]
       rw [Z2G (st:=st.strip) (st':=st'.strip) hd']
       exact key vs hv
    case clo f nms=>
     cases hv:c.args.toList.mapM st.strip.opnd with
     | none=> rfl
     | some vs=>
      simp only
      unfold Z97
      cases hG:Γ.fn f with
      | none=> rfl
      | some s=>
       simp only [hB]
       have hW:∀ toks c,(bif s.wr then JV st'.strip.ls toks c else [])=(bif s.wr then JV st.strip.ls toks c else []:List (Tok × LC U)):=by
        intro toks c'
        cases hw:s.wr with
        | false=> rfl
        | true=>
         have:st'.ls=st.ls:=hall (by simp only [Z0n,hc,hg,Z7C,hG,hw])
         simp only [cond_true,FSt.strip,this]
       simp only [hW]
       rw [Z2G (st:=st.strip) (st':=st'.strip) hd']
       intro x hx
       rcases List.mem_append.1 hx with hx | hx
       ·exact key vs hv x hx
       ·obtain ⟨nm0,h1,rfl⟩:=List.mem_map.1 hx
        intro nm hnm
        simp only [YO,List.mem_singleton] at hnm
        subst hnm
        refine hm nm ?_
        simp only [touch,hc,hg]
        exact List.mem_append_left _ (by simpa [YO] using h1)
  | invoke r m=> rfl
where
 mapM_len {f:Operand→Option (V U)}:∀ {xs:List Operand} {vs:List (V U)},xs.mapM f=some vs→xs.length=vs.length:=by
  intro xs
  induction xs with
  | nil=> intro vs h;simp at h;subst h;rfl
  | cons y xs ih=>
   intro vs h
   rw [List.mapM_cons] at h
   cases h1:f y with
   | none=> simp [h1] at h
   | some v=>
    cases h2:xs.mapM f with
    | none=> simp [h1,h2] at h
    | some r=>
     simp [h1,h2] at h
     subst h
     simp [ih h2]
theorem Z8Y{st st':FSt U}{G:Option Bool}:∀ {l:List Operand},(∀ t,Operand.tmp t∈l→st'.env t=st.env t)→Z0f st' G l=Z0f st G l
 | [],_=> rfl
 | x ::l,h=> by
  have ih:=Z8Y (l:=l) (G:=G) (fun t ht=> h t (by simp [ht]))
  cases x with
  | tmp t=> simp only [Z0f,h t (by simp),ih]
  | _=> simp only [Z0f,ih]
theorem ZaF{tyEq:DecidableEq U.Ty}{G:Bool}{m0 m1:Name→Option (List (C U))}:∀ {m:List (Name × List (C U))},(∀ x∈m,m1 x.1=m0 x.1)→Z44 tyEq G m1 m=Z44 tyEq G m0 m
 | [],_=> rfl
 | (nm,cs) ::r,h=> by
  simp only [Z44,h (nm,cs) (by simp),ZaF (m:=r) (fun x hx=> h x (by simp [hx]))]
theorem Z5H{l:List Name}{nm:Name}:J9 l nm=true↔nm∈l:=by
 refine ⟨?_,Z5G⟩
 induction l with
 | nil=> intro h;cases h
 | cons x l ih=>
  intro h
  simp only [J9] at h
  split at h
  ·rename_i e;subst e;simp
  ·simp [ih h]
theorem Z5b{o:Oper}{ops:Array Oper}{st st':FSt U}(h:∀ t,t∈o.looksAt ops→st'.env t=st.env t):touch o st'=touch o st:=by
 have hop:∀ {x:Operand},x∈o.op.operands.toList→st'.strip.opnd x=st.strip.opnd x:=by
  intro x hx
  cases x with
  | tmp t=> simp [FSt.opnd,FSt.strip,h t (List.mem_append_left _ (List.mem_filterMap.2 ⟨.tmp t,hx,rfl⟩))]
  | _=> rfl
 obtain ⟨dst,op,type,pos,after,guard⟩:=o
 cases op <;> simp only [touch]
 case load t p=> rw [hop (by simp [Op.operands])]
 case store t p x=> rw [hop (by simp [Op.operands])]
 case slice t x lo hi mx=> rw [hop (by simp [Op.operands])]
 case call c=>
  have:∀ (l:List Operand),(∀ x∈l,x∈c.args.toList)→(l.flatMap fun x=> YO (st'.strip.opnd x))=l.flatMap fun x=> YO (st.strip.opnd x):=by
   intro l
   induction l with
   | nil=> intro _;rfl
   | cons x l ih=>
    intro hl
    rw [List.flatMap_cons,List.flatMap_cons,ih (fun y hy=> hl y (by simp [hy])),hop (by
     have:=hl x (by simp)
     cases hc:c.callee <;> simp [Op.operands,Call.operands,hc] <;> first | (right;simpa using this) | simpa using this)]
  rw [this _ (fun x hx=> hx)]
  cases hc:c.callee with
  | value gx=> simp only [hop (x:=gx) (by simp [Op.operands,Call.operands,hc])]
  | builtin b=> rfl
  | invoke r m=> rfl
theorem ZiK{o:Oper}{x:Operand}(h:x∈Z0H o):x∈o.op.operands.toList:=by
 obtain ⟨dst,op,type,pos,after,guard⟩:=o
 cases op <;> simp only [Z0H] at h <;> (try (cases h;done))
 case load t p=> simp only [List.mem_singleton] at h;subst h;simp [Op.operands]
 case store t p x=> simp only [List.mem_singleton] at h;subst h;simp [Op.operands]
 case nilCheck x=> simp only [List.mem_singleton] at h;subst h;simp [Op.operands]
 case fieldAddr t x f=> simp only [List.mem_singleton] at h;subst h;simp [Op.operands]
 case indexAddr t x i=> simp only [List.mem_singleton] at h;subst h;simp [Op.operands]
 case call c=>
  cases hc:c.callee <;> rw [hc] at h <;> (try (cases h;done))
  simp only at h
  simp only [Op.operands,Call.operands,hc]
  simpa using h
theorem Z7B{o:Oper}{ops:Array Oper}{st st':FSt U}(h:∀ t,t∈o.looksAt ops→st'.env t=st.env t):touchT o st'=touchT o st:=by
 have hop:∀ {x:Operand},x∈o.op.operands.toList→st'.strip.opnd x=st.strip.opnd x:=by
  intro x hx
  cases x with
  | tmp t=> simp [FSt.opnd,FSt.strip,h t (List.mem_append_left _ (List.mem_filterMap.2 ⟨.tmp t,hx,rfl⟩))]
  | _=> rfl
 unfold touchT
 have:∀ (l:List Operand),(∀ x∈l,x∈Z0H o)→(l.flatMap fun x=> (st'.strip.opnd x).toList.flatMap V.toks)=l.flatMap fun x=> (st.strip.opnd x).toList.flatMap V.toks:=by
  intro l
  induction l with
  | nil=> intro _;rfl
  | cons x l ih=>
   intro hl
   rw [List.flatMap_cons,List.flatMap_cons,ih (fun y hy=> hl y (by simp [hy])),hop (ZiK (hl x (by simp)))]
 exact this _ (fun x hx=> hx)
theorem Z6R{Γ:Known U}{o:Oper}{ops:Array Oper}{st st':FSt U}(h:∀ t,t∈o.looksAt ops→st'.env t=st.env t):Z0n Γ o st'=Z0n Γ o st:=by
 obtain ⟨dst,op,type,pos,after,guard⟩:=o
 cases op <;> try rfl
 case call c=>
  simp only [Z0n]
  cases hc:c.callee <;> try rfl
  case value g=>
   have:st'.strip.opnd g=st.strip.opnd g:=by
    cases g with
    | tmp t=> simp [FSt.opnd,FSt.strip,h t (List.mem_append_left _ (List.mem_filterMap.2 ⟨.tmp t,by simp [Op.operands,Call.operands,hc],rfl⟩))]
    | _=> rfl
   simp only [this]
theorem ZaN{Γ:Known U}{o:Oper}{ops:Array Oper}{st st':FSt U}(h:Alike Γ o ops st st'):Z58 cfg Γ ops o st'=Z58 cfg Γ ops o st:=by
 have hop:=fun {x:Operand} (hx:x∈o.op.operands.toList)=> (h.opnd hx).1
 have hG:Z4Q ops st' o=Z4Q ops st o:=by
  unfold Z4Q
  cases hg:o.guard with
  | none=> rfl
  | some jw=>
   obtain ⟨j,want⟩:=jw
   simp only
   cases ht:(ops[j]?).bind (·.dst) with
   | none=> rfl
   | some t=>
    have:st'.env t=st.env t:=h.env t (List.mem_append_right _ (by simp [hg,ht]))
    simp only [this]
 have hN:∀ G,Z0f st' G o.op.operands.toList=Z0f st G o.op.operands.toList:=fun G=>
  Z8Y fun t ht=> h.env t (List.mem_append_left _ (List.mem_filterMap.2 ⟨.tmp t,ht,rfl⟩))
 unfold Z58
 rw [h.n]
 split
 ·split
  ·rename_i c x y hc
   rw [hG,hop (x:=c) (by simp [hc,Op.operands]),hop (x:=x) (by simp [hc,Op.operands]),hop (x:=y) (by simp [hc,Op.operands])]
  ·have ht:=Z5b (st:=st) (st':=st') h.env
   rw [hG]
   simp only [Znv h,hN,ht]
   split
   ·try rfl
   ·rename_i G hGe
    cases he:aop cfg Γ o st.strip with
    | none=> rfl
    | some r=>
     obtain ⟨ps,e⟩:=r
     cases G with
     | none=> rfl
     | some Gb=>
      obtain ⟨v,m,k,l⟩:=e
      cases v with
      | none=> rfl
      | some v=>
       cases k with
       | cons _ _=> cases m <;> rfl
       | nil=>
        cases l with
        | cons _ _=> cases m <;> rfl
        | nil=>
        cases m with
        | nil=> rfl
        | cons x r=>
         simp only
         cases hall:(x ::r).all fun x=> J9 (touch o st) x.1 with
         | false=> rfl
         | true=>
          have hj:Z44 cfg.tyEq Gb st'.mem (x ::r)=Z44 cfg.tyEq Gb st.mem (x ::r):=ZaF fun y hy=> h.mem _ (Z5H.1 (by
           rw [List.all_eq_true] at hall
           exact hall y hy))
          rw [hj]
 ·try rfl
theorem Z4L{m0:Name→Option (List (C U))}{m:List (Name × List (C U))}{nm:Name}(h:J9 (m.map (·.1)) nm=false):ZM m0 m nm=m0 nm:=by
 induction m with
 | nil=> rfl
 | cons x m ih=>
  obtain ⟨b,cs⟩:=x
  simp only [List.map_cons,J9] at h
  split at h
  ·cases h
  ·rename_i e
   simp only [ZM]
   rw [if_neg (fun e'=> e e'.symm),ih h]
theorem ZcM{x y:List Name}(h:ZiU x y=false):∀ nm,nm∈x→J9 y nm=false:=by
 intro nm hn
 unfold ZiU at h
 rw [List.any_eq_false] at h
 simpa using h nm hn
theorem Zmi{l:List Tok}{t:Tok}:ZgC l t=true↔t∈l:=by
 induction l with
 | nil=> simp [ZgC]
 | cons x l ih=>
  simp only [ZgC,List.mem_cons]
  split
  ·rename_i e;simp [e]
  ·rename_i e;rw [ih];constructor
   ·exact .inr
   ·rintro (rfl | h)
    ·exact absurd rfl e
    ·exact h
theorem Zar{x y:List Tok}(h:ZcN x y=false):∀ t,t∈x→t∉y:=by
 intro t ht hy
 unfold ZcN at h
 rw [List.any_eq_false] at h
 have:=h t ht
 rw [Zmi.2 hy] at this
 simp at this
theorem Zn0{m:Tok→Option (LC U)}{l:List (Tok × LC U)}{t:Tok}(h:t∉l.map (·.1)):ZA m l t=m t:=by
 induction l with
 | nil=> rfl
 | cons x l ih=>
  obtain ⟨b,y⟩:=x
  simp only [List.map_cons,List.mem_cons,not_or] at h
  simp only [ZA]
  rw [if_neg h.1,ih h.2]
theorem Z42{m:Tok→Option (LC U)}{e:Eff U}{t:Tok}(h:t∉e.kill++e.ls.map (·.1)):Z0M m e t=m t:=by
 simp only [List.mem_append,not_or] at h
 unfold Z0M
 have:e.kill.contains t=false:=by
  cases hk:e.kill.contains t with
  | false=> rfl
  | true=> exact absurd (by simpa using hk) h.1
 rw [this,cond_false,Zn0 h.2]
theorem ZeI {Γ:Known U} {ops:Array Oper} {x y:Oper} {st:FSt U} {e:Eff U} (hap:x.apart ops y=true) (hm:ZiU (e.mem.map (·.1)) (touch y st)=false) (hk:(!e.kill.isEmpty && Z6c y)=false)
  (ht:ZcN (e.kill++e.ls.map (·.1)) (touchT y st)=false) (hr:noR (y.dst.getD 0) (e.kill++e.ls.map (·.1))=true) (ha:((e.kill++e.ls.map (·.1)).isEmpty || !Z0n Γ y st)=true):
  Alike Γ y ops st (st.app x.dst e):=by
 obtain ⟨h1,_,_⟩:=Oper.apart_spec hap
 refine ⟨?_,?_,?_,?_,by cases x.dst <;> rfl,fun t htt=> Z42 (fun hm=> Zar ht t hm htt),fun j=> Z42 (fun hm=> ?_),fun hc=> ?_⟩
 ·cases x.dst <;> rfl
 ·intro t ht
  cases hd:x.dst with
  | none=> rfl
  | some d=>
   have hne:t≠d:=fun e=> h1 d hd (e▸ht)
   have:Nat.beq t d=false:=by
    cases hb:Nat.beq t d with
    | false=> rfl
    | true=> exact absurd (Nat.eq_of_beq_eq_true hb) hne
   simp [FSt.app,FSt.put,this]
 ·intro nm hn
  have:J9 (e.mem.map (·.1)) nm=false:=by
   cases hb:J9 (e.mem.map (·.1)) nm with
   | false=> rfl
   | true=>
    have:=ZcM hm nm (Z5H.1 hb)
    rw [Z5G hn] at this
    cases this
  exact Z4L this
 ·intro hr
  simp only [hr,Bool.and_true,Bool.not_eq_false'] at hk
  have:e.kill=[]:=by simpa using hk
  simp [FSt.app,this]
 ·have:=List.all_eq_true.1 hr _ hm
  simp at this
 ·rw [hc] at ha
  simp only [Bool.not_true,Bool.or_false,List.isEmpty_iff] at ha
  funext t
  exact Z42 (by rw [ha];simp)
theorem Zre{ops:Array Oper}{x y:Oper}{st:FSt U}{e f:Eff U}(hap:x.apart ops y=true)(hm:ZiU (e.mem.map (·.1)) (f.mem.map (·.1))=false)(hl:ZcN (e.kill++e.ls.map (·.1)) (f.kill++f.ls.map (·.1))=false):
  (st.app x.dst e).app y.dst f=(st.app y.dst f).app x.dst e:=by
 obtain ⟨_,h2,_⟩:=Oper.apart_spec hap
 have hput:∀ (s:FSt U) (v u:V U),((s.put x.dst v).put y.dst u)=((s.put y.dst u).put x.dst v):=by
  intro s v u
  cases hx:x.dst with
  | none=> rfl
  | some d=>
   cases hy:y.dst with
   | none=> rfl
   | some d'=>
    have hne:d≠d':=fun e=> h2 d hx (by rw [hy,e])
    simp only [FSt.put]
    congr 1
    funext j
    cases h1:Nat.beq j d with
    | false=> rfl
    | true=>
     cases h3:Nat.beq j d' with
     | false=> rfl
     | true=> exact absurd ((Nat.eq_of_beq_eq_true h1).symm.trans (Nat.eq_of_beq_eq_true h3)) hne
 have hmem:ZM (ZM st.mem e.mem) f.mem=ZM (ZM st.mem f.mem) e.mem:=by
  funext nm
  cases h1:J9 (e.mem.map (·.1)) nm with
  | false=>
   rw [Z4L (m:=e.mem) (m0:=ZM st.mem f.mem) h1]
   rcases Z05 st.mem f.mem nm with ⟨k,cs,h3,h4⟩ | ⟨h3,h4⟩
   ·rcases Z05 (ZM st.mem e.mem) f.mem nm with ⟨k',cs',h5,h6⟩ | ⟨h5,h6⟩
    ·have:∀ (m0 m1:Name→Option (List (C U))) (l:List (Name × List (C U))),(∃ x,x∈l∧x.1=nm)→ZM m0 l nm=ZM m1 l nm:=by
      intro m0 m1 l
      induction l with
      | nil=> rintro ⟨x,hx,_⟩;simp at hx
      | cons z l ih=>
       rintro ⟨x,hx,hxe⟩
       obtain ⟨b,cs⟩:=z
       simp only [ZM]
       split
       ·try rfl
       ·rename_i hne
        rcases List.mem_cons.1 hx with rfl | hx
        ·exact absurd hxe.symm hne
        ·exact ih ⟨x,hx,hxe⟩
     exact this _ _ _ ⟨_,List.mem_of_getElem? h3,rfl⟩
    ·exact absurd rfl (h5 k _ h3)
   ·rcases Z05 (ZM st.mem e.mem) f.mem nm with ⟨k',cs',h5,h6⟩ | ⟨h5,h6⟩
    ·exact absurd rfl (h3 k' _ h5)
    ·rw [h6,h4,Z4L h1]
  | true=>
   have h2':J9 (f.mem.map (·.1)) nm=false:=ZcM hm nm (Z5H.1 h1)
   rw [Z4L (m:=f.mem) (m0:=ZM st.mem e.mem) h2']
   have:∀ (m0 m1:Name→Option (List (C U))) (l:List (Name × List (C U))),J9 (l.map (·.1)) nm=true→ZM m0 l nm=ZM m1 l nm:=by
    intro m0 m1 l
    induction l with
    | nil=> intro h;cases h
    | cons z l ih=>
     obtain ⟨b,cs⟩:=z
     intro h
     simp only [List.map_cons,J9] at h
     simp only [ZM]
     split
     ·try rfl
     ·rename_i hne
      rw [if_neg (fun e=> hne e.symm)] at h
      exact ih h
   exact this _ _ _ h1
 have hdead:(fun t=> (st.dead t || e.kill.contains t) || f.kill.contains t)=fun t=> (st.dead t || f.kill.contains t) || e.kill.contains t:=by
  funext t
  cases st.dead t <;> cases e.kill.contains t <;> cases f.kill.contains t <;> rfl
 have hn:∀ (s:FSt U) d v,(s.put d v).n=s.n∧(s.put d v).mem=s.mem∧(s.put d v).dead=s.dead:=by
  intro s d v;cases d <;> exact ⟨rfl,rfl,rfl⟩
 have henv:(((st.put x.dst (e.val.getD .junk))).put y.dst (f.val.getD .junk)).env=((st.put y.dst (f.val.getD .junk)).put x.dst (e.val.getD .junk)).env:=by rw [hput]
 have hpe:∀ (s s':FSt U) d v,s.env=s'.env→(s.put d v).env=(s'.put d v).env:=by
  intro s s' d v he;cases d <;> simp [FSt.put,he]
 have hls:Z0M (Z0M st.ls e) f=Z0M (Z0M st.ls f) e:=by
  funext t
  by_cases h1:t∈e.kill++e.ls.map (·.1)
  ·have h2:=Zar hl t h1
   rw [Z42 h2]
   unfold Z0M
   cases he:e.kill.contains t with
   | true=> rfl
   | false=>
    simp only [cond_false]
    have h3:t∈e.ls.map (·.1):=by
     rcases List.mem_append.1 h1 with h | h
     ·have:e.kill.contains t=true:=by simpa using h
      rw [he] at this;cases this
     ·exact h
    have:∀ (m0 m1:Tok→Option (LC U)) (l:List (Tok × LC U)),t∈l.map (·.1)→ZA m0 l t=ZA m1 l t:=by
     intro m0 m1 l
     induction l with
     | nil=> intro h;cases h
     | cons z l ih=>
      obtain ⟨b,y⟩:=z
      intro h
      simp only [ZA]
      split
      ·try rfl
      ·rename_i hne
       simp only [List.map_cons,List.mem_cons] at h
       exact ih (h.resolve_left hne)
    exact this _ _ _ h3
  ·rw [Z42 (m:=Z0M st.ls f) h1]
   have:∀ (m0 m1:Tok→Option (LC U)) (l:List (Tok × LC U)),m0 t=m1 t→ZA m0 l t=ZA m1 l t:=by
    intro m0 m1 l he
    induction l with
    | nil=> exact he
    | cons z l ih=>
     obtain ⟨b,y⟩:=z
     simp only [ZA]
     split
     ·try rfl
     ·exact ih
   have h3:Z0M st.ls e t=st.ls t:=Z42 h1
   unfold Z0M at h3 ⊢
   cases hf:f.kill.contains t with
   | true=> rfl
   | false=> simp only [cond_false];exact this _ _ _ h3
 have ext:∀ {s s':FSt U},s.n=s'.n→s.env=s'.env→s.mem=s'.mem→s.dead=s'.dead→s.ls=s'.ls→s.mu=s'.mu→s=s':=by
  intro s s' h1 h2 h3 h4;cases s;cases s';simp_all
 refine ext ?_ ?_ ?_ ?_ hls ?_
 ·cases x.dst <;> cases y.dst <;> rfl
 ·show ((st.app x.dst e).put y.dst _).env=((st.app y.dst f).put x.dst _).env
  rw [hpe (st.app x.dst e) (st.put x.dst (e.val.getD .junk)) y.dst _ rfl,henv,hpe (st.app y.dst f) (st.put y.dst (f.val.getD .junk)) x.dst _ rfl]
 ·show ZM (st.app x.dst e).mem f.mem=ZM (st.app y.dst f).mem e.mem
  exact hmem
 ·exact hdead
 ·cases x.dst <;> cases y.dst <;> rfl
end Go.AM
