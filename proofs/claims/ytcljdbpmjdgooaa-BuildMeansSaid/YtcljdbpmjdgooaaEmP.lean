import Derived.Test.YtcljdbpmjdgooaaEmN
set_option linter.unusedSimpArgs false
set_option linter.unusedVariables false
namespace Go.AM
variable {U:Uni} {P:Program}
def Z39{α:Type}:List (Nat × α)->Nat->Option α
 | [],_=> none
 | (a,x) ::r,t=> bif Nat.beq a t then some x else Z39 r t
theorem Z0E{α:Type}:∀ {l:List (Nat × α)} {t:Nat} {x:α},Z39 l t=some x->(t,x)∈l
 | (a,y) ::r,t,x,h=> by
  simp only [Z39] at h
  cases hb:Nat.beq a t with
  | true=>
   simp_all
  | false=> simp [hb] at h;exact Q7 _ (Z0E h)
def Zfa:List (Nat × Nat × Nat × Nat)->Nat->Nat->Option (Nat × Nat)
 | [],_,_=> none
 | (a,b,x) ::r,t,f=> bif Nat.beq a t && Nat.beq b f then some x else Zfa r t f
theorem Zal:∀ {l:List (Nat × Nat × Nat × Nat)} {t f:Nat} {x:Nat × Nat},Zfa l t f=some x->(t,f,x)∈l
 | (a,b,y) ::r,t,f,x,h=> by
  simp only [Zfa] at h
  cases hb:Nat.beq a t && Nat.beq b f with
  | true=>
   simp_all
  | false=> simp [hb] at h;exact Q7 _ (Zal h)
structure Codec (U:Uni) where
 tyEq:DecidableEq U.Ty
 dflt:(T:U.Ty)->U.El T
 enc:(T:U.Ty)->U.El T->List (C U)
 dec:(T:U.Ty)->List (C U)->Option (U.El T)
 aggT:U.Ty->Bool
 sz:U.Ty->Nat
 bytes:U.Ty->Nat
 aT:(T:U.Ty)->Option (U.El T->AState)
 aOf:(T:U.Ty)->AState->Option (U.El T)
 wT:U.Ty
 wsT:U.Ty
 wI:List Int->List (U.El wT)
 wO:List (U.El wT)->List Int
 wsI:List (List Int)->List (U.El wsT)
structure CodecOk (K:Codec U):Prop where
 enc_len:∀ T x,(K.enc T x).length=K.sz T
 enc_plain:∀ T x c,c∈K.enc T x->c.plain=true
 dec_ok:∀ T cs x,K.dec T cs=some x->cs.length=(K.enc T x).length/\∀ (j:Nat) c c',cs[j]?=some c->(K.enc T x)[j]?=some c'->Wk c c'
 sz_pos:∀ T,0 < K.sz T
 bytes_pos:∀ T,0 < K.bytes T
 aT:∀ T f y,K.aT T=some f->K.enc T y=[.slice K.wsT (K.wsI (f y).segs) .unk,.int .i64 (f y).x,.int .i64 (f y).y,.int .i64 (f y).z]
 aOf:∀ T S y,K.aOf T S=some y->∃ f,K.aT T=some f/\f y=S
 wsI:∀ L:List (List Int),(K.wsI L).length=L.length/\∀ (i:Nat) l,L[i]?=some l->∃ y,(K.wsI L)[i]?=some y/\K.enc K.wsT y=[.slice K.wT (K.wI l) .unk]
 wI:∀ l:List Int,(K.wI l).length=l.length/\∀ (i:Nat) x,l[i]?=some x->∃ y,(K.wI l)[i]?=some y/\K.enc K.wT y=[.int .u64 x]
 wO:∀ l:List (U.El K.wT),(K.wO l).length=l.length/\∀ (i:Nat) y,l[i]?=some y->∃ x,(K.wO l)[i]?=some x/\K.enc K.wT y=[.int .u64 x]
 wB:K.bytes K.wT=8/\K.bytes K.wsT=24
structure Tables (U:Uni) where
 el:U.Ty->TypeId
 sl:List (Nat × U.Ty)
 var:List (Nat × Bool × List (C U))
 fld:List (Nat × Nat × Nat × Nat)
 arr:List (Nat × Nat × Nat)
 eqs:List Nat:=[]
def Tables.cfg(K:Codec U)(T:Tables U):Cfg U:=
 {tyEq:=K.tyEq,dflt:=K.dflt,enc:=K.enc,dec:=K.dec,aggT:=K.aggT,sz:=K.sz,bytes:=K.bytes,elT:=T.el,
  slT:=Z39 T.sl,var:=Z39 T.var,fld:=Zfa T.fld,arr:=Z39 T.arr,eqs:=fun t=> T.eqs.any (Nat.beq t),aT:=K.aT,aOf:=K.aOf,wT:=K.wT,wsT:=K.wsT,wI:=K.wI,wO:=K.wO,wsI:=K.wsI }
def Zps:Option (C U)->C U->Bool
 | some (.int k n),.int k' n'=> k==k' && n==n'
 | some (.bool b),.bool b'=> b==b'
 | some .nils,.nils=> true
 | some .nilp,.nilp=> true
 | _,_=> false
theorem Zm7{x:Option (C U)}{c:C U}(h:Zps x c=true):x=some c:=by
 unfold Zps at h
 grind
def Zm6:List Value->List (C U)->Bool
 | [],[]=> true
 | v ::r,c ::s=> Zps (Jk v) c && Zm6 r s
 | _,_=> false
theorem Zfy:∀ {vs:List Value} {cs:List (C U)},Zm6 vs cs=true->vs.map Jk=cs.map some
 | [],[],_=> rfl
 | v ::r,c ::s,h=> by
  simp only [Zm6,Q3] at h
  simp [Zm7 h.1,Zfy h.2]
def Zhb(ag:Bool)(z:Value)(zs:List (C U)):Bool:=
 (match z,ag with
  | .agg _,true=> true
  | .agg _,false=> false
  | .tuple _,_=> false
  | _,false=> true
  | _,true=> false) && Zm6 z.cells.toList zs
theorem Zha{ag:Bool}{z:Value}{zs:List (C U)}(h:Zhb ag z zs=true):Zmn ag z zs:=by
 unfold Zhb at h
 simp only [Q3] at h
 obtain ⟨h1,h2⟩:=h
 refine ⟨fun ha=> ?_,fun ha=> ?_,Zfy h2⟩
 .grind
 .subst ha
  cases z <;> first | rfl | (simp at h1;done)
def Zfp:List (C U)->TypeDesc->Bool
 | [.int k _],.int k'=> k==k'
 | [.int _ _],_=> false
 | [.bool _],.bool=> true
 | [.bool _],_=> false
 | [.nilp],.pointer _=> true
 | [.nilp],_=> false
 | _,_=> true
def Zl7(P:Program)(x:Nat × Bool × List (C U)):Bool:=
 match P.info? x.1,P.underlying x.1 with
 | some i,some d=> (Nat.beq i.size x.2.2.length && Nat.blt 0 x.2.2.length) && (TypeDesc.ag d==x.2.1) &&
  (match i.zero with | some z=> Zhb x.2.1 z x.2.2 | none=> false) && (x.2.1 || Zfp x.2.2 d) &&
  (match d with
   | .struct fs=> fs.toList.all fun fd=> (P.info? fd.type).isSome
   | .array _ e=> (P.info? e).isSome
   | _=> true)
 | _,_=> false
def slB(P:Program)(el:U.Ty->TypeId)(x:Nat × U.Ty):Bool:=
 match P.underlying x.1 with
 | some (.slice e)=> Nat.beq e (el x.2)
 | _=> false
def Zpr(P:Program)(x:Nat × Nat × Nat × Nat):Bool:=
 match P.underlying x.1 with
 | some (.struct fs)=> match fs.toList[x.2.1]? with
  | some fd=> Nat.beq fd.offset x.2.2.1 && Nat.beq fd.type x.2.2.2
  | none=> false
 | _=> false
def ZpD(P:Program)(x:Nat × Nat × Nat):Bool:=
 match P.underlying x.1 with
 | some (.array n e)=> Nat.beq n x.2.1 && Nat.beq e x.2.2
 | _=> false
def eqK(P:Program)(z:Option (C U))(t:TypeId):Bool:=
 match z,P.underlying t with
 | some (.int _ _),some (.int _)=> true
 | some (.bool _),some .bool=> true
 | _,_=> false
def eqB(P:Program)(var:List (Nat × Bool × List (C U)))(t:Nat):Bool:=
 match P.underlying t with
 | some (.struct fs)=> (match Z39 var t with
   | some (_,zs)=> Nat.beq zs.length fs.size
   | none=> true) && !P.stoodInHeld t && !P.eqGuardType P.depth t &&
  ((List.range fs.size).all fun i=> match fs[i]? with
   | some f => f.name != "_" && Nat.beq f.offset i && (match Z39 var t with
    | some (_,zs)=> eqK P zs[i]? f.type
    | none=> true)
   | none=> false)
 | _=> false
def elB(P:Program)(K:Codec U)(T:Tables U)(t:U.Ty):Bool:=
 match P.info? (T.el t),Z39 T.var (T.el t) with
 | some i,some (_,zs)=> Nat.beq i.size (K.sz t) && Nat.beq i.bytes (K.bytes t) && i.zero.isSome && Nat.beq zs.length (K.sz t)
 | _,_=> false
theorem Zg5 {K:Codec U} (ck:CodecOk K) {T:Tables U} (hv:T.var.all (Zl7 P)=true) (hs:(T.sl.all fun x=> slB P T.el x && (K.aT x.2).isNone)=true) (hf:T.fld.all (Zpr P)=true) (ha:T.arr.all (ZpD P)=true)
  (he:∀ t,elB P K T t=true) (hm:P.follows .mixedOrders=true) (hq:T.eqs.all (eqB P T.var)=true):CfgOk P (T.cfg K):=by
 refine ⟨ck.enc_len,ck.enc_plain,ck.dec_ok,ck.sz_pos,ck.bytes_pos,?_,?_,?_,?_,?_,hm,?_,?_,ck.aT,ck.aOf,fun t S h=> ?_,ck.wsI,ck.wI,ck.wO,ck.wB⟩
 rotate_right
 .have:=Qg.1 hs _ (Z0E h)
  simp only [Q3,Qp] at this
  exact this.2
 .intro t
  have h:=he t
  unfold elB at h
  split at h
  .rename_i i ag zs h1 h2
   simp only [Q3] at h
   obtain ⟨⟨⟨h3,h4⟩,h5⟩,h6⟩:=h
   obtain ⟨z,hz⟩:=Xa.1 h5
   exact ⟨i,ag,zs,z,h1,Q4 h3,Q4 h4,hz,h2,Q4 h6⟩
  .cases h
 .intro t S h
  have:=(Q3 _ _▸Qg.1 hs _ (Z0E h)).1
  unfold slB at this
  simp only at this
  split at this
  .rename_i e hu
   rw [hu,Q4 this];try rfl
  .cases this
 .intro t ag zs h
  have:=Qg.1 hv _ (Z0E h)
  unfold Zl7 at this
  simp only at this
  split at this
  .rename_i i d hi hu
   simp only [Q3] at this
   obtain ⟨⟨⟨⟨⟨h1,h2⟩,h3⟩,h4⟩,h5⟩,h6⟩:=this
   split at h4
   .rename_i z hz
    refine ⟨Nat.blt_eq.mp h2,i,z,d,hi,hu,Q4 h1,by simpa using h3,hz,Zha h4,?_,?_,?_,?_⟩
    .intro hag k n hzs
     subst hag
     simp only [Bool.false_or] at h5
     subst hzs
     unfold Zfp at h5
     split at h5 <;> simp_all
    .intro hag b hzs
     subst hag
     simp only [Bool.false_or] at h5
     subst hzs
     unfold Zfp at h5
     split at h5 <;> simp_all
    .intro fs hd
     subst hd
     exact h6
    .intro n e hd
     subst hd
     exact h6
   .cases h4
  .cases this
 .intro s f off t h
  have:=Qg.1 hf _ (Zal h)
  unfold Zpr at this
  simp only at this
  split at this
  .rename_i fs hu
   split at this
   .rename_i fd hfd
    simp only [Q3] at this
    exact ⟨fs,fd,hu,by simpa using hfd,Nat.eq_of_beq_eq_true this.1,Nat.eq_of_beq_eq_true this.2⟩
   .cases this
  .cases this
 .intro t n e h
  have:=Qg.1 ha _ (Z0E h)
  unfold ZpD at this
  simp only at this
  split at this
  .rename_i n' e' hu
   simp only [Q3] at this
   rw [hu,Q4 this.1,Q4 this.2]
  .cases this
 .intro t ht
  obtain ⟨t',h1,h2⟩:=List.any_eq_true.1 ht
  have e:=Q4 h2
  subst e
  have h3:=Qg.1 hq _ h1
  unfold eqB at h3
  split at h3
  .rename_i fs hu
   simp only [Q3,Qo] at h3
   obtain ⟨⟨⟨h4,h5⟩,h6⟩,h7⟩:=h3
   refine ⟨fs,hu,fun ag zs hz=> ?_,h5,h6,fun i f hf=> ?_⟩
   .have hz':Z39 T.var t=some (ag,zs):=hz
    rw [hz'] at h4
    exact Q4 h4
   .have hi:=(QI.1 hf).1
    have h8:=Qg.1 h7 i (by simpa using hi)
    rw [hf] at h8
    simp only [Q3,bne_iff_ne,ne_eq] at h8
    refine ⟨h8.1.1,Q4 h8.1.2,fun ag zs hz=> ?_⟩
    have h9:=h8.2
    have hz':Z39 T.var t=some (ag,zs):=hz
    rw [hz'] at h9
    dsimp only at h9
    unfold eqK at h9
    split at h9
    .rename_i e1 e2
     exact ⟨fun _ _ _=> ⟨_,e2⟩,fun _ h=> by (rw [e1] at h;cases h)⟩
    .rename_i e1 e2
     exact ⟨fun _ _ h=> by (rw [e1] at h;cases h),fun _ _=> e2⟩
    .cases h9
  .cases h3
 .intro t h
  have:=Qg.1 hv _ (Z0E h)
  unfold Zl7 at this
  simp only at this
  split at this
  .rename_i i d hi hu
   simp only [Q3] at this
   obtain ⟨⟨_,h5⟩,_⟩:=this
   cases d <;> first | exact ⟨_,hu⟩ | (simp [Zfp] at h5;done)
  .cases this
end Go.AM
