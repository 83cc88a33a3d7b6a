import Derived.Test.YtcljdbpmjdgooaaEmC
import Derived.Lib.MinMax
import Derived.Laws.Tables
import Derived.Laws.Slices
import Derived.Deep.Slices
set_option linter.unusedSimpArgs false
set_option linter.unusedVariables false
namespace Go.AM
variable {U:Uni} {P:Program} {cfg:Cfg U} {B:Base} {st:FSt U} {g:Gh} {a:Act} {w:World}
theorem Ya {o:Oper} {v:Value} {x:V U} (h:Rel cfg B st g a w) (hrun:(execOp a.eval o).run P w= .ok (.value v) w)
  (hv:RelV cfg g st.dead (fun nm=> (st.mem nm).isSome) v x):Does P o a w fun v w'=> ∃ g',Out cfg B st g { val:=some x } v w' g':=
 .inl ⟨v,w,hrun,g,h.pure hv⟩
theorem Z41{s:Sem Value}{v:Value}{w w':World}(h:s.run P w= .ok v w'):(do pure (.value (<-s)):Sem Next).run P w= .ok (.value v) w':=by
 simp [h]
theorem Zav{m:Addr->Option Value}{wr:Bool}{k:IntKind}{n:Int}(h:All (Z77 (U:=U) wr k n).1):SimC cfg m (.int k (k.wrap n)) (Z77 wr k n).2/\∀ tag dead v,TailOk cfg tag dead v (Z77 (U:=U) wr k n).2:=by
 cases wr with
 | true=> exact ⟨.int _ _,fun _ _ _=> trivial⟩
 | false=>
  cases k
  case i64=>
   have h':InR n:=h.1
   have:IntKind.i64.wrap n=n:=by
    unfold InR at h'
    simp [IntKind.wrap,IntKind.signed,IntKind.bits]
    omega
   rw [this]
   exact ⟨.int _ _,fun _ _ _=> trivial⟩
  all_goals exact ⟨.int _ _,fun _ _ _=> trivial⟩
theorem All.append{p q:List Prop}(h:All (p++q)):All p/\All q:=by
 induction p with
 | nil=> trivial
 | cons x p ih=> exact ⟨⟨h.1,(ih h.2).1⟩,(ih h.2).2⟩
theorem Zei {wr:Bool} {op:BinOp} {x y c:C U} {ps:List Prop} {m:Addr->Option Value} {u v:Value} {t:TypeId} {p q:Operand}
  (hx:SimC cfg m u x) (hy:SimC cfg m v y) (he:Zmi wr op x y=some (ps,c)) (hps:All ps):
  ∃ r,(do eqGuard op t p q u v;binOp op t u v:Sem Value).run P w= .ok r w/\SimC cfg m r c/\∀ tag dead r,TailOk cfg tag dead r c:=by
 cases hx <;> cases hy <;> simp only [Zmi,reduceCtorEq] at he
 rename_i k a k' b
 have fin:∀ (r:Value),(binOp op t (.int k a) (.int k' b)).run P w= .ok r w->(do eqGuard op t p q (.int k a) (.int k' b);binOp op t (.int k a) (.int k' b):Sem Value).run P w= .ok r w:=by
  intro r h
  rw [eqGuard_at_int]
  simpa using h
 have ar:∀ (op':BinOp) (n:Int),op=op'->(binOp op t (.int k a) (.int k' b)).run P w= .ok (.int k (k.wrap n)) w->Z77 wr k n=(ps,c)->
   ∃ r,(do eqGuard op t p q (.int k a) (.int k' b);binOp op t (.int k a) (.int k' b):Sem Value).run P w= .ok r w/\SimC cfg m r c/\∀ tag dead r,TailOk cfg tag dead r c:=by
  intro op' n _ h1 h2
  have h3:=Zav (cfg:=cfg) (U:=U) (m:=m) (wr:=wr) (k:=k) (n:=n) (by grind)
  rw [h2] at h3
  exact ⟨_,fin _ h1,h3⟩
 have fi:∀ (n:Int),(binOp op t (.int k a) (.int k' b)).run P w= .ok (.int k n) w->c= .int k n->
   ∃ r,(do eqGuard op t p q (.int k a) (.int k' b);binOp op t (.int k a) (.int k' b):Sem Value).run P w= .ok r w/\SimC cfg m r c/\∀ tag dead r,TailOk cfg tag dead r c:=by
  rintro n h rfl
  exact ⟨_,fin _ h,.int _ _,fun _ _ _=> trivial⟩
 have fb:∀ (b':Bool),(binOp op t (.int k a) (.int k' b)).run P w= .ok (.bool b') w->c= .bool b'->
   ∃ r,(do eqGuard op t p q (.int k a) (.int k' b);binOp op t (.int k a) (.int k' b):Sem Value).run P w= .ok r w/\SimC cfg m r c/\∀ tag dead r,TailOk cfg tag dead r c:=by
  rintro n h rfl
  exact ⟨_,fin _ h,.bool _,fun _ _ _=> trivial⟩
 cases op <;> simp only at he <;> (try (split at he)) <;> (try (cases he;done)) <;> (try subst_vars) <;> (try simp only [Option.some.injEq,Prod.mk.injEq] at he)
 case int.int.add.isTrue=> exact ar .add (a+b) rfl (by simp [binOp_add,Op.intArith]) (by assumption)
 case int.int.sub.isTrue=> exact ar .sub (a - b) rfl (by simp [binOp_sub,Op.intArith]) (by assumption)
 case int.int.mul.isTrue=> exact ar .mul (a*b) rfl (by simp [binOp_mul,Op.intArith]) (by assumption)
 case int.int.quo.isTrue=> obtain ⟨rfl,rfl⟩:=he;have h0:b≠0:=hps.1;exact fi _ (by simp [binOp_quo,Op.intDiv,h0]) rfl
 case int.int.rem.isTrue=> obtain ⟨rfl,rfl⟩:=he;have h0:b≠0:=hps.1;exact fi _ (by simp [binOp_rem,Op.intDiv,h0]) rfl
 case int.int.and.isTrue=> obtain ⟨rfl,rfl⟩:=he;exact fi _ (by simp [binOp_and,Op.intBits]) rfl
 case int.int.or.isTrue=> obtain ⟨rfl,rfl⟩:=he;exact fi _ (by simp [binOp_or,Op.intBits]) rfl
 case int.int.xor.isTrue=> obtain ⟨rfl,rfl⟩:=he;exact fi _ (by simp [binOp_xor,Op.intBits]) rfl
 case int.int.andNot.isTrue=> obtain ⟨rfl,rfl⟩:=he;exact fi _ (by simp [binOp_andNot,Op.intBits]) rfl
 case int.int.eql.isTrue=> obtain ⟨rfl,rfl⟩:=he;exact fb _ (by simp [binOp_eql]) rfl
 case int.int.neq.isTrue=> obtain ⟨rfl,rfl⟩:=he;exact fb _ (by simp [binOp_neq]) rfl
 case int.int.lss.isTrue=> obtain ⟨rfl,rfl⟩:=he;exact fb _ (by simp [binOp_lss]) rfl
 case int.int.leq.isTrue=> obtain ⟨rfl,rfl⟩:=he;exact fb _ (by simp [binOp_leq]) rfl
 case int.int.gtr.isTrue=> obtain ⟨rfl,rfl⟩:=he;exact fb _ (by simp [binOp_gtr]) rfl
 case int.int.geq.isTrue=> obtain ⟨rfl,rfl⟩:=he;exact fb _ (by simp [binOp_geq]) rfl
 case int.int.shl=>
  obtain ⟨rfl,rfl⟩:=he
  have h0:¬b < 0:=Int.not_lt.2 hps.1
  exact fi (k.wrap (a*2 ^ (min b.toNat k.bits))) (by simp [binOp_shl,Op.shift,h0]) rfl
 case int.int.shr=>
  obtain ⟨rfl,rfl⟩:=he
  have h0:¬b < 0:=Int.not_lt.2 hps.1
  exact fi (a.fdiv (2 ^ (min b.toNat k.bits))) (by simp [binOp_shr,Op.shift,h0]) rfl
theorem ZcU (ok:CfgOk P cfg) {op:BinOp} {x y:Bool} {c:C U} {m:Addr->Option Value} {t:TypeId} {p q:Operand} {b0:Bool}
  (ht:cfg.var t=some (false,[.bool b0])) (he:ZfS op x y=some c):
  ∃ r,(do eqGuard op t p q (.bool x) (.bool y);binOp op t (.bool x) (.bool y):Sem Value).run P w= .ok r w/\SimC cfg m r c/\∀ tag dead r,TailOk cfg tag dead r c:=by
 obtain ⟨_,i,z,d,h1,h2,h3,h4,h5,h6,h7,h8,_⟩:=ok.var _ _ _ ht
 have hd:=h8 rfl b0 rfl
 subst hd
 have heq:(Op.equal t (.bool x) (.bool y)).run P w= .ok (x==y) w:=by
  show (Op.equalIn 10000 t (.bool x) (.bool y)).run P w=_
  rw [Op.equalIn]
  simp [run_underlying h2]
 cases op <;> simp only [ZfS,reduceCtorEq,Option.some.injEq] at he <;> subst he
 .refine ⟨.bool (x==y),?_,.bool _,fun _ _ _=> trivial⟩
  rw [eqGuard_at_bool];simp [binOp,heq]
 .refine ⟨.bool (x !=y),?_,.bool _,fun _ _ _=> trivial⟩
  rw [eqGuard_at_bool];simp [binOp,heq,bne]
theorem Zh2 {wr:Bool} {op:UnOp} {x c:C U} {ps:List Prop} {m:Addr->Option Value} {u:Value}
  (hx:SimC cfg m u x) (he:aUn wr op x=some (ps,c)) (hps:All ps):
  ∃ r,(Op.unary op u).run P w= .ok r w/\SimC cfg m r c/\∀ tag dead r,TailOk cfg tag dead r c:=by
 cases hx <;> cases op <;> simp only [aUn,reduceCtorEq,Option.some.injEq,Prod.mk.injEq] at he
 .rename_i k n
  have h3:=Zav (cfg:=cfg) (U:=U) (m:=m) (wr:=wr) (k:=k) (n:= -n) (by grind)
  rw [he] at h3
  exact ⟨_,by simp [Op.unary,Op.intArith],h3⟩
 .obtain ⟨rfl,rfl⟩:=he
  exact ⟨_,by rfl,.int _ _,fun _ _ _=> trivial⟩
 .obtain ⟨rfl,rfl⟩:=he
  exact ⟨_,by rfl,.bool _,fun _ _ _=> trivial⟩
theorem Z10{T:U.Ty}{x:C U}{l:List (U.El T)}{tl:Tail}{v:Value}(h:RelC cfg g st.dead v x)(he:Z9c cfg T x=some (l,tl)):
  RelC cfg g st.dead v (.slice T l tl)/\∃ b len cap,v= .slice b len cap/\l.length=len/\len<=cap/\(b=none->len=0/\cap=0):=by
 unfold Z9c at he
 split at he
 .simp only [Option.some.injEq,Prod.mk.injEq] at he
  obtain ⟨rfl,rfl⟩:=he
  have h1:=h.1
  cases h1
  exact ⟨⟨.snil T .full,fun a len cap hv=> by cases hv;rfl⟩,none,0,0,rfl,rfl,Qn _,fun _=> ⟨rfl,rfl⟩⟩
 .rename_i S l' tl'
  split at he
  .rename_i hST _
   subst hST
   simp only [Option.some.injEq,Prod.mk.injEq] at he
   obtain ⟨rfl,rfl⟩:=he
   refine ⟨h,?_⟩
   have h1:=h.1
   cases h1 with
   | snil=> grind
   | slice _ _ _ a len cap vs hl hc hm hs=> grind
  .cases he
 .cases he
theorem SimC.rows{m:Addr->Option Value}{T:U.Ty}{l:List (U.El T)}{tl:Tail}{b:Addr}{len cap:Nat}(h:SimC cfg m (.slice (some b) len cap) (.slice T l tl)):
  ∀ i x,l[i]?=some x->∀ j c,(cfg.enc T x)[j]?=some c->∃ v,m (b.add (i*cfg.sz T+j))=some v/\SimC cfg m v c:=by
 cases h with
 | slice _ _ _ _ _ _ vs hl hc hm hs=> grind
theorem SimC.of_rows {m:Addr->Option Value} {T:U.Ty} {l:List (U.El T)} (tl:Tail) {b:Addr} {len cap:Nat} (hl:l.length=len) (hc:len<=cap)
  (h:∀ i x,l[i]?=some x->∀ j c,(cfg.enc T x)[j]?=some c->∃ v,m (b.add (i*cfg.sz T+j))=some v/\SimC cfg m v c):
  SimC cfg m (.slice (some b) len cap) (.slice T l tl):=by
 refine .slice T l tl b len cap (fun i j=> (m (b.add (i*cfg.sz T+j))).getD undef) hl hc ?_ ?_
 .intro i x hx j c hcj
  obtain ⟨v,h1,h2⟩:=h i x hx j c hcj
  rw [h1];try rfl
 .intro i x hx j c hcj
  obtain ⟨v,h1,h2⟩:=h i x hx j c hcj
  rw [h1];exact h2
theorem Zd7 {T:U.Ty} {l:List (U.El T)} {tl tl':Tail} {b:Option Addr} {len cap lo hi mx:Nat}
  (h:RelC cfg g st.dead (.slice b len cap) (.slice T l tl)) (h1:lo<=hi) (h2:hi<=len) (h3:hi<=mx) (h4:mx<=cap)
  (ht:tl'= .unk\/(tl'= .full/\mx=hi)\/(tl'=tl/\hi=len/\mx=cap)):
  RelC cfg g st.dead (.slice (if mx=lo then b else b.map (·.add (lo*cfg.sz T))) (hi - lo) (mx - lo)) (.slice T ((l.take hi).drop lo) tl'):=by
 cases b with
 | none=>
  have h0:=h.1
  cases h0
  have e1:hi=0:=by omega
  have e2:mx=0:=by omega
  have e3:lo=0:=by omega
  subst e1 e2 e3
  refine ⟨?_,?_⟩
  .simpa using SimC.snil (cfg:=cfg) T tl'
  .unfold TailOk
   grind
 | some b=>
  have hl:l.length=len:=by cases h.1;assumption
  have hrows:=h.1.rows
  refine ⟨?_,?_⟩
  .by_cases e:mx=lo
   .have e1:hi=lo:=by omega
    have e2:(l.take hi).drop lo=[]:=by apply QK;rw [Qd];omega
    rw [if_pos e,e2]
    exact .of_rows tl' (by simp;omega) (by omega) (fun i x hx=> by simp at hx)
   .rw [if_neg e]
    refine .of_rows tl' (by grind) (by omega) ?_
    intro i x hx j c hc
    rw [Qh,QV] at hx
    split at hx
    .obtain ⟨v,h5,h6⟩:=hrows (lo+i) x hx j c hc
     refine ⟨v,?_,h6⟩
     rw [Go.Deep.add_add,show lo*cfg.sz T+(i*cfg.sz T+j)=(lo+i)*cfg.sz T+j by grind]
     exact h5
    .cases hx
  .rcases ht with rfl | ⟨rfl,rfl⟩ | ⟨rfl,rfl,rfl⟩
   .trivial
   .intro a len cap hv
    grind
   .cases tl' with
    | unk=> trivial
    | full=>
     intro a len cap hv
     simp only [Value.slice.injEq] at hv
     have:=h.2 _ _ _ rfl
     omega
    | own t0=>
     intro hd hA a len cap hv j hj1 hj2
     simp only [Value.slice.injEq] at hv
     obtain ⟨hv1,hv2,hv3⟩:=hv
     by_cases e:mx=lo
     .grind
     .rw [if_neg e] at hv1
      simp only [Q5,Option.some.injEq] at hv1
      subst hv1 hv2 hv3
      rw [Go.Deep.add_add]
      refine h.2 hd hA b _ _ rfl _ ?_ ?_
      .rw [Ke] at hj1;omega
      .rw [Ke] at hj2;omega
theorem Yd(ok:CfgOk P cfg)(T:U.Ty)(w:World):(sizeOf (cfg.elT T)).run P w= .ok (cfg.sz T) w:=by
 obtain ⟨i,ag,zs,z,h1,h2,h3⟩:=ok.el T
 simp [sizeOf,typeInfo,h1,h2]
theorem Y8(ok:CfgOk P cfg){t:TypeId}{T:U.Ty}(h:cfg.slT t=some T):P.elem t=cfg.elT T/\P.underlying t=some (.slice (P.elem t)):=by
 have h1:=ok.sl _ _ h
 have h2:P.elem t=cfg.elT T:=by simp [Program.elem,h1]
 grind
def Zh8(cfg:Cfg U)(g:Gh)(dead:Tok->Bool)(live:Name->Bool):Option Value->Option (V U)->Prop
 | none,none=> True
 | some v,some x=> RelV cfg g dead live v x
 | _,_=> False
theorem ZbE (ok:CfgOk P cfg) {live:Name->Bool} {t:TypeId} {x c:C U} {lo hi mx:Option (V U)} {v:Value} {vlo vhi vmx:Option Value} {ps:List Prop}
  (hx:RelC cfg g st.dead v x) (hlo:Zh8 cfg g st.dead live vlo lo) (hhi:Zh8 cfg g st.dead live vhi hi) (hmx:Zh8 cfg g st.dead live vmx mx)
  (he:ZbF cfg t x lo hi mx=some (ps,c)) (hps:All ps):
  ∃ r,(Instr.sliceAt t v vlo vhi vmx).run P w= .ok r w/\RelC cfg g st.dead r c:=by
 unfold ZbF at he
 split at he
 .cases he
 rename_i T hT
 split at he
 .cases he
 rename_i l tl hsl
 obtain ⟨hx',b,len,cap,rfl,hl,hc,hb⟩:=Z10 hx hsl
 obtain ⟨hE,hU⟩:=Y8 ok hT
 have hsz:=Yd ok T w
 rw [<-hE] at hsz
 have key:∀ {lo' hi' mx':Nat} {tl':Tail},lo'<=hi'->hi'<=len->hi'<=mx'->mx'<=cap->(tl'= .unk\/(tl'= .full/\mx'=hi')\/(tl'=tl/\hi'=len/\mx'=cap))->
   ((sizeOf (P.elem t)).run P w).andThen (fun s w=> .ok (sliced b lo' hi' mx' s) w)= .ok (sliced b lo' hi' mx' (cfg.sz T)) w/\
   RelC cfg g st.dead (sliced b lo' hi' mx' (cfg.sz T)) (.slice T ((l.take hi').drop lo') tl'):=fun h1 h2 h3 h4 h5=>
  ⟨by rw [hsz];rfl,Zd7 hx' h1 h2 h3 h4 h5⟩
 have sim:∀ {y:V U} {u:Option Value} {k:IntKind} {n:Int},Zh8 cfg g st.dead live u (some (.c (.int k n)))->u=some (.int k n):=by
  intro y u k n h
  cases u with
  | none=> exact h.elim
  | some u=> have h1:SimC cfg g.m u (.int k n):=h.1;cases h1;rfl
 have non:∀ {u:Option Value},Zh8 cfg g st.dead live u none->u=none:=by
  intro u h
  cases u with
  | none=> rfl
  | some u=> exact h.elim
 rw [run_sliceAt_slice w t _ _ _ _ hU]
 split at he <;> simp only [Option.some.injEq,Prod.mk.injEq,reduceCtorEq] at he <;> obtain ⟨rfl,rfl⟩:=he
 .rw [non hlo,non hhi,non hmx,run_slice_all w t b len cap hU]
  obtain ⟨h1,h2⟩:=key (lo':=0) (hi':=len) (mx':=cap) (tl':=tl) (by omega) (by omega) hc (by omega) (.inr (.inr ⟨rfl,rfl,rfl⟩))
  grind
 .rename_i k0 lo0
  have hp:=hps.1
  rw [sim (y:= .junk) hlo,non hhi,non hmx,run_slice_l w t b len cap hU _ _ hp.1 (by omega)]
  obtain ⟨h1,h2⟩:=key (lo':=lo0.toNat) (hi':=len) (mx':=cap) (tl':=tl) (by omega) (by omega) hc (by omega) (.inr (.inr ⟨rfl,rfl,rfl⟩))
  grind
 .rename_i k0 hi0
  have hp:=hps.1
  rw [non hlo,sim (y:= .junk) hhi,non hmx,run_slice_h w t b len cap hU _ _ hp.1 (by omega)]
  obtain ⟨h1,h2⟩:=key (lo':=0) (hi':=hi0.toNat) (mx':=cap) (tl':= .unk) (by omega) (by omega) (by omega) (by omega) (.inl rfl)
  grind
 .rename_i k0 lo0 k1 hi0
  have hp:=hps.1
  rw [sim (y:= .junk) hlo,sim (y:= .junk) hhi,non hmx,run_slice_lh w t b len cap hU _ _ _ _ hp.1 hp.2.1 (by omega)]
  obtain ⟨h1,h2⟩:=key (lo':=lo0.toNat) (hi':=hi0.toNat) (mx':=cap) (tl':= .unk) (by omega) (by omega) (by omega) (by omega) (.inl rfl)
  grind
 .rename_i k0 hi0 k1 m0
  have hp:=hps.1
  have hm:m0=hi0:=hps.2.1
  subst hm
  rw [non hlo,sim (y:= .junk) hhi,sim (y:= .junk) hmx,run_slice_hm w t b len cap hU _ _ _ _ hp.1 (QE _) (by omega)]
  obtain ⟨h1,h2⟩:=key (lo':=0) (hi':=m0.toNat) (mx':=m0.toNat) (tl':= .full) (by omega) (by omega) (by omega) (by omega) (.inr (.inl ⟨rfl,rfl⟩))
  grind
 .rename_i k0 lo0 k1 hi0 k2 m0
  have hp:=hps.1
  have hm:m0=hi0:=hps.2.1
  subst hm
  rw [sim (y:= .junk) hlo,sim (y:= .junk) hhi,sim (y:= .junk) hmx,run_slice_lhm w t b len cap hU _ _ _ _ _ _ hp.1 hp.2.1 (QE _) (by omega)]
  obtain ⟨h1,h2⟩:=key (lo':=lo0.toNat) (hi':=m0.toNat) (mx':=m0.toNat) (tl':= .full) (by omega) (by omega) (by omega) (by omega) (.inr (.inl ⟨rfl,rfl⟩))
  grind
theorem Z0f (ok:CfgOk P cfg) {t:TypeId} {ag:Bool} {zs:List (C U)} (ht:cfg.var t=some (ag,zs)) {b:Addr} {vs:List Value} (hl:vs.length=zs.length)
  (h:∀ j v,vs[j]?=some v->w.cell? (b.add j)=some v):(loadVar t b).run P w= .ok (if ag then .agg vs.toArray else vs.getD 0 undef) w:=by
 obtain ⟨hpos,i,z,d,h1,h2,h3,h4,h5,h6,_⟩:=ok.var _ _ _ ht
 have hagg:(isAgg t).run P w= .ok ag w:=by
  rw [<-h4]
  cases d <;> simp [isAgg,run_underlying h2,TypeDesc.ag]
 have hsz:(sizeOf t).run P w= .ok vs.length w:=by simp [sizeOf,typeInfo,h1,h3,hl]
 cases ag with
 | true=> simp [loadVar,hagg,hsz,run_loadCells_list w b vs h]
 | false=>
  have hz:=h6.2.1 rfl
  have hz2:zs.length=1:=by
   have:=congrArg List.length h6.2.2
   rw [hz] at this;simpa using this.symm
  match vs,hl with
  | [v],_=>
   have hv:=h 0 v rfl
   rw [Addr.add_zero'] at hv
   simp [loadVar,hagg,hv]
  | [],hl=> grind
  | _ ::_ ::_,hl=> grind
theorem RelL.of_get{cs:List (C U)}{f:Nat->Value}(h:∀ j c,cs[j]?=some c->RelC cfg g st.dead (f j) c):RelL cfg g st.dead ((List.range cs.length).map f) cs:=by
 refine ⟨by simp,fun j v c hv hc=> ?_⟩
 grind
theorem Z0w{k:IntKind}:∀ {cs:List (C U)} {l:List Int},JV k cs=some l->l.length=cs.length/\∀ (j:Nat) n,l[j]?=some n->cs[j]?=some (.int k n)
 | [],l,h=> by simp only [JV,Option.some.injEq] at h;grind
 | c ::cs,l,h=> by
  cases c <;> simp only [JV,reduceCtorEq] at h
  rename_i k' n0
  split at h
  .rename_i e
   subst e
   cases hr:JV k cs with
   | none=> simp [hr] at h
   | some l'=>
    simp only [hr,Q5,Option.some.injEq] at h
    subst h
    obtain ⟨h1,h2⟩:=Z0w hr
    grind
  .cases h
theorem Z8i (ok:CfgOk P cfg) (h:Rel cfg B st g a w) {t:TypeId} {ag:Bool} {zs:List (C U)} (ht:cfg.var t=some (ag,zs)) {p x:V U} {u:Value}
  (hp:RelV cfg g st.dead (fun nm=> (st.mem nm).isSome) u p) (he:rd st p ag zs.length=some x):
  ∃ r,(Instr.loadAt t u).run P w= .ok r w/\RelV cfg g st.dead (fun nm=> (st.mem nm).isSome) r x:=by
 unfold rd at he
 split at he
 .rename_i nm off
  obtain ⟨_,rfl⟩:=hp
  split at he
  .rename_i cs hcs
   split at he
   .rename_i hle
    let f:Nat->Value:=fun j=> (w.cell? ((g.ad nm).add (off+j))).getD undef
    have hf:∀ j c,(((cs.drop off).take zs.length)[j]?=some c)->w.cell? (((g.ad nm).add off).add j)=some (f j)/\RelC cfg g st.dead (f j) c:=by
     intro j c hc
     rw [QV,Qh] at hc
     split at hc
     .obtain ⟨v,h1,_,h3⟩:=h.mem nm cs hcs _ c hc
      rw [Go.Deep.add_add]
      grind
     .cases hc
    have hlen:((cs.drop off).take zs.length).length=zs.length:=by rw [Qd,Xq];omega
    have hrel:=RelL.of_get (cfg:=cfg) (g:=g) (st:=st) (f:=f) (fun j c hc=> (hf j c hc).2)
    refine ⟨_,?_,hrel.mkV he⟩
    simp only [Instr.loadAt,Instr.sureAddr,Sem.run_bind,Sem.run_pure,Result.andThen_ok]
    refine Z0f ok ht (by simp;omega) ?_
    intro j v hv
    have hj:j < ((cs.drop off).take zs.length).length:=by
     have:=(Q1.1 hv).1
     simpa using this
    simp_all
   .cases he
  .cases he
 .rename_i cs
  obtain ⟨b,rfl,hb⟩:=hp
  split at he
  .rename_i hle
   let f:Nat->Value:=fun j=> (g.m (b.add j)).getD undef
   have hf:∀ j c,((cs.take zs.length)[j]?=some c)->w.cell? (b.add j)=some (f j)/\RelC cfg g st.dead (f j) c:=by
    intro j c hc
    rw [QV] at hc
    split at hc
    .obtain ⟨v,h1,h3⟩:=hb j c hc
     have h2:=(h.inv.im _ _ h1).1
     grind
    .cases hc
   have hlen:(cs.take zs.length).length=zs.length:=by rw [Qd];omega
   have hrel:=RelL.of_get (cfg:=cfg) (g:=g) (st:=st) (f:=f) (fun j c hc=> (hf j c hc).2)
   refine ⟨_,?_,hrel.mkV he⟩
   simp only [Instr.loadAt,Instr.sureAddr,Sem.run_bind,Sem.run_pure,Result.andThen_ok]
   refine Z0f ok ht (by simp;omega) ?_
   intro j v hv
   have hj:j < (cs.take zs.length).length:=by
    have:=(Q1.1 hv).1
    simpa using this
   rw [Qa,Xs hj] at hv
   simp only [Q5,Option.some.injEq] at hv
   subst hv
   exact (hf j _ (Q0 hj)).1
  .cases he
 .rename_i nm off k len i
  obtain ⟨_,hi,rfl⟩:=hp
  split at he
  .rename_i cs hcs
   split at he
   .rename_i hle
    split at he
    .rename_i l hl
     obtain ⟨h1,h2⟩:=Z0w hl
     have hlen:l.length=len:=by rw [h1,Qd,Xq];omega
     have hget:l[i.toNat]?=some (l.getD i.toNat 0):=by simp [List.getD,Q0 (show i.toNat < l.length by omega)]
     have hc:=h2 _ _ hget
     rw [QV,Qh] at hc
     split at hc
     .obtain ⟨v,h3,_,h5⟩:=h.mem nm cs hcs _ _ hc
      have hag:ag=false:=by cases ag with | true=> simp at he | false=> rfl
      subst hag
      simp only [cond_false,Option.some.injEq] at he
      subst he
      refine ⟨v,?_,h5⟩
      simp only [Instr.loadAt,Instr.sureAddr,Sem.run_bind,Sem.run_pure,Result.andThen_ok]
      have hz:[v].length=zs.length:=by
       obtain ⟨_,i',z,d,_,_,_,_,_,h6,_⟩:=ok.var _ _ _ ht
       have:=congrArg List.length h6.2.2
       rw [h6.2.1 rfl] at this;simpa using this
      refine Z0f (vs:=[v]) ok ht hz ?_
      intro j u hu
      cases j with
      | zero=> simp at hu;subst hu;trivial
      | succ j=> simp at hu
     .cases hc
    .cases he
   .cases he
  .cases he
 .cases he
end Go.AM
