import Derived.Test.YtcljdbpmjdgooaaEmA
set_option linter.unusedSimpArgs false
set_option linter.unusedVariables false
namespace Go.AM
variable {U:Uni}
inductive Tag where
 | obj (nm:Name) | tok (t:Tok) | outer (t:Tag)
structure Gh where
 m:Addr->Option Value
 tag:Addr->Option Tag
 ad:Name->Addr
 bs:Tok->Option (Value × Nat)
inductive SimC (cfg:Cfg U) (m:Addr->Option Value):Value->C U->Prop
 | int (k n):SimC cfg m (.int k n) (.int k n)
 | bool (b):SimC cfg m (.bool b) (.bool b)
 | nils:SimC cfg m (.slice none 0 0) .nils
 | nilp:SimC cfg m (.pointer none) .nilp
 | pnil (T):SimC cfg m (.pointer none) (.po T none)
 | po (T x a) (vs:Nat->Value) (hm:∀ j c,(cfg.enc T x)[j]?=some c->m (a.add j)=some (vs j))
   (hs:∀ j c,(cfg.enc T x)[j]?=some c->SimC cfg m (vs j) c):SimC cfg m (.pointer (some a)) (.po T (some x))
 | mref (v t) (h:v.oneCell'=true/\v.cells=#[v]):SimC cfg m v (.mref t)
 | xp (v k) (h:v.oneCell'=true/\v.cells=#[v]):SimC cfg m v (.xp k)
 | jk (v) (h:v.oneCell'=true/\v.cells=#[v]):SimC cfg m v .jk
 | snil (T tl):SimC cfg m (.slice none 0 0) (.slice T [] tl)
 | slice (T l tl a len cap) (vs:Nat->Nat->Value) (hl:l.length=len) (hc:len<=cap)
   (hm:∀ i x,l[i]?=some x->∀ j c,(cfg.enc T x)[j]?=some c->m (a.add (i*cfg.sz T+j))=some (vs i j))
   (hs:∀ i x,l[i]?=some x->∀ j c,(cfg.enc T x)[j]?=some c->SimC cfg m (vs i j) c):
   SimC cfg m (.slice (some a) len cap) (.slice T l tl)
def TailOk(cfg:Cfg U)(g:Gh)(dead:Tok->Bool)(v:Value):C U->Prop
 | .slice _ _ .full=> ∀ a len cap,v= .slice a len cap->len=cap
 | .slice T _ (.own t)=> dead t=false->t.isA=false->∀ a len cap,v= .slice (some a) len cap->∀ j,len*cfg.sz T<=j->j < cap*cfg.sz T->g.tag (a.add j)=some (.tok t)
 | .mref t=> dead t=false->∃ s,g.bs t=some (v,s)
 | .xp k=> v= .pointer (some (g.ad (.x k)))
 | _=> True
def RelC(cfg:Cfg U)(g:Gh)(dead:Tok->Bool)(v:Value)(c:C U):Prop:=SimC cfg g.m v c/\TailOk cfg g dead v c
def RelL(cfg:Cfg U)(g:Gh)(dead:Tok->Bool)(vs:List Value)(cs:List (C U)):Prop:=
 vs.length=cs.length/\∀ (j:Nat) v c,vs[j]?=some v->cs[j]?=some c->RelC cfg g dead v c
def RelW(cfg:Cfg U)(g:Gh)(dead:Tok->Bool)(v:Value)(ag:Bool)(cs:List (C U)):Prop:=
 match ag with
 | true=> ∃ vs:Array Value,v= .agg vs/\RelL cfg g dead vs.toList cs
 | false=> ∃ c,cs=[c]/\RelC cfg g dead v c
def ARV(g:Gh)(n:Nat)(v:Value):AK->Prop
 | .fp off=> off < 4/\∃ a s,g.bs .A=some (.pointer (some a),s)/\v= .pointer (some (a.add off))
 | .ov=> g.bs (.S (n+1) 0)=some (v,1)
 | .oe i=> ∃ b len cap,g.bs (.S (n+1) 0)=some (.slice (some b) len cap,1)/\i < len/\v= .pointer (some (b.add i))
 | .iv i=> (∃ b len cap,g.bs (.S (n+1) 0)=some (.slice (some b) len cap,1)/\i < len)/\g.bs (.S (n+1) (i+1))=some (v,1)
 | .ie i j=> (∃ b len cap,g.bs (.S (n+1) 0)=some (.slice (some b) len cap,1)/\i < len)/\∃ b len cap,g.bs (.S (n+1) (i+1))=some (.slice (some b) len cap,1)/\j < len/\v= .pointer (some (b.add j))
 | .pd i=> g.bs (.S (n+2) i)=some (v,1)
 | .nl k=> ∃ b,v= .slice (some b) k k/\∀ i,i < k->g.m (b.add i)=some (.slice none 0 0)
def RelV(cfg:Cfg U)(g:Gh)(dead:Tok->Bool)(live:Name->Bool)(v:Value):V U->Prop
 | .c x=> RelC cfg g dead v x
 | .agg cs=> ∃ vs:Array Value,v= .agg vs/\RelL cfg g dead vs.toList cs
 | .tup ws=> ∃ vs:Array Value,v= .tuple vs/\vs.size=ws.length/\∀ (j:Nat) u w,vs[j]?=some u->ws[j]?=some w->RelW cfg g dead u w.1 w.2
 | .ptr nm off=> (live nm || nm.isX)=true/\v= .pointer (some ((g.ad nm).add off))
 | .ap nm off _ len n=> (live nm || nm.isX)=true/\(0<=n/\n < (len:Int))/\v= .pointer (some ((g.ad nm).add (off+n.toNat)))
 | .ep cs=> ∃ a,v= .pointer (some a)/\∀ j c,cs[j]?=some c->∃ u,g.m (a.add j)=some u/\RelC cfg g dead u c
 | .mp t n off=> dead t=false->∃ b len cap s,g.bs t=some (.slice (some b) len cap,s)/\n < len/\v= .pointer (some (b.add (n*s+off)))
 | .vw t n=> dead t=false->∃ b len cap s,g.bs t=some (.slice b len cap,s)/\n<=len/\v= .slice (if cap=n then b else b.map (·.add (n*s))) (len - n) (cap - n)
 | .fn f=> v= .func (.func f) #[] #[]
 | .clo f nms=> (∀ nm∈nms,(live nm || nm.isX)=true)/\v= .func (.func f) #[] (nms.map fun nm=> Value.pointer (some (g.ad nm))).toArray
 | .gd b x=> (b=true->RelV cfg g dead live v x)/\(b=false->v=undef)
 | .nb p q=> ∃ b,v= .bool b/\(b=true->p)/\(b=false->q)
 | .ar n k=> ARV g n v k
 | .junk=> True
def LRel0(cfg:Cfg U)(w:World)(g:Gh)(t:Tok)(x:LC U):Prop:=
 (g.bs t=some (.slice none 0 0,cfg.sz x.T)/\x.l=[]/\x.f=0)\/
 ∃ b len cap,g.bs t=some (.slice (some b) len cap,cfg.sz x.T)/\x.l.length=len/\len<=cap/\x.f<=len/\
  (∀ i y,x.l[i]?=some y->∀ j c,(cfg.enc x.T y)[j]?=some c->∃ u,w.cell? (b.add (i*cfg.sz x.T+j))=some u/\SimC cfg g.m u c/\
   (i < x.f->g.m (b.add (i*cfg.sz x.T+j))=some u)/\(x.f<=i->g.tag (b.add (i*cfg.sz x.T+j))=some (.tok t)))/\
  ∀ j,len*cfg.sz x.T<=j->j < cap*cfg.sz x.T->g.tag (b.add j)=some (.tok t)
def Own1(w:World)(g:Gh)(i:Nat)(v:Value)(l:List Int):Prop:=
 (v= .slice none 0 0/\l=[])\/∃ b len cap,v= .slice (some b) len cap/\l.length=len/\len<=cap/\
  (∀ (k:Nat) x,l[k]?=some x->w.cell? (b.add k)=some (.int .u64 x))/\∀ k,k < cap->g.tag (b.add k)=some (.tok (.S 0 (i+1)))
def Own2(w:World)(g:Gh)(hs:Nat->Value)(v:Value)(L:List (List Int)):Prop:=
 ((v= .slice none 0 0/\L=[])\/∃ b len cap,v= .slice (some b) len cap/\L.length=len/\len<=cap/\
  (∀ i,i < len->w.cell? (b.add i)=some (hs i))/\∀ i,i < cap->g.tag (b.add i)=some (.tok (.S 0 0)))/\∀ (i:Nat) l,L[i]?=some l->Own1 w g i (hs i) l
structure ANow (w:World) (g:Gh) (n:Nat) (S:AState) (a:Addr) (v:Value) (hs:Nat->Value):Prop where
 bs:∃ s,g.bs .A=some (.pointer (some a),s)
 tag:∀ j,j < 4->g.tag (a.add j)=some (.tok .A)
 c0:w.cell? (a.add 0)=some v
 c1:w.cell? (a.add 1)=some (.int .i64 S.x)
 c2:w.cell? (a.add 2)=some (.int .i64 S.y)
 c3:w.cell? (a.add 3)=some (.int .i64 S.z)
 own:Own2 w g hs v S.segs
 h0:g.bs (.S (n+1) 0)=some (v,1)
 hi:∀ i,i < S.segs.length->g.bs (.S (n+1) (i+1))=some (hs i,1)
def Znw(w:World)(g:Gh)(n:Nat)(S:AState):Option AState->Prop
 | none=> ∀ m i,n+1 < m->g.bs (.S m i)=none
 | some P=> (∀ m i,n+2 < m->g.bs (.S m i)=none)/\
  ((∃ i l v,i < S.segs.length/\P={ S with segs:=S.segs.set i l }/\g.bs (.S (n+2) (i+1))=some (v,1)/\(∀ j,j≠i+1->g.bs (.S (n+2) j)=none)/\Own1 w g i v l)\/
   ∃ L v hs,P={ S with segs:=L }/\g.bs (.S (n+2) 0)=some (v,1)/\(∀ j,j≠0->g.bs (.S (n+2) j)=none)/\Own2 w g hs v L)
def ARel(w:World)(g:Gh)(l:List AState)(n:Nat):Prop:=
 match l with
 | [S]=> ∃ a v hs,ANow w g n S a v hs/\Znw w g n S none
 | [S,P]=> ∃ a v hs,ANow w g n S a v hs/\Znw w g n S (some P)
 | _=> False
def LRel(cfg:Cfg U)(w:World)(g:Gh)(t:Tok)(x:LC U):Prop:=
 (cfg.aT x.T=none/\t.isA=false/\LRel0 cfg w g t x)\/∃ f,cfg.aT x.T=some f/\t= .A/\ARel w g (x.l.map f) x.f
theorem Tok.root_of{t:Tok}(h:t.isA=false):t.root=t:=by cases t <;> first | rfl | cases h
theorem LRel.flatT{cfg:Cfg U}{w:World}{g:Gh}{t:Tok}{x:LC U}(h:LRel cfg w g t x)(hT:cfg.aT x.T=none):LRel0 cfg w g t x:=by
 rcases h with ⟨_,_,h⟩ | ⟨f,h,_⟩
 .exact h
 .rw [hT] at h;cases h
theorem ARel.ptr{w:World}{g:Gh}{l:List AState}{n:Nat}(h:ARel w g l n):∃ a s,g.bs .A=some (.pointer (some a),s):=by
 unfold ARel at h
 split at h
 .obtain ⟨a,_,_,h,_⟩:=h;obtain ⟨s,hs⟩:=h.bs;exact ⟨a,s,hs⟩
 .obtain ⟨a,_,_,h,_⟩:=h;obtain ⟨s,hs⟩:=h.bs;exact ⟨a,s,hs⟩
 .cases h
theorem LRel.flat{cfg:Cfg U}{w:World}{g:Gh}{t:Tok}{x:LC U}(h:LRel cfg w g t x){b:Option Addr}{len cap s:Nat}(hb:g.bs t=some (.slice b len cap,s)):LRel0 cfg w g t x:=by
 rcases h with ⟨_,_,h⟩ | ⟨f,h,rfl,h2⟩
 .exact h
 .obtain ⟨a,s,h3⟩:=h2.ptr
  rw [hb] at h3;cases h3
theorem LRel.flatA{cfg:Cfg U}{w:World}{g:Gh}{t:Tok}{x:LC U}(h:LRel cfg w g t x){b:Option Addr}{len cap s:Nat}(hb:g.bs t=some (.slice b len cap,s)):cfg.aT x.T=none/\t.isA=false:=by
 rcases h with ⟨h1,h2,h⟩ | ⟨f,h,rfl,h2⟩
 .exact ⟨h1,h2⟩
 .obtain ⟨a,s,h3⟩:=h2.ptr
  rw [hb] at h3;cases h3
structure Stay (w w':World):Prop where
 os:w'.os=w.os
 tape:w'.tape=w.tape
 output:w'.output=w.output
 size:w.heap.size<=w'.heap.size
structure Inv (m:Addr->Option Value) (tag:Addr->Option Tag) (w:World):Prop where
 im:∀ a v,m a=some v->w.cell? a=some v/\tag a=none
 it:∀ a t,tag a=some t->w.frozen? a=false/\∃ v,w.cell? a=some v
structure Base where
 w:World
 m:Addr->Option Value
 tag:Addr->Option Tag
 xad:Nat->Addr
 ab:Option (Value × Nat)
structure Fr (B:Base) (g:Gh) (w:World):Prop where
 stay:Stay B.w w
 xad:∀ k,g.ad (.x k)=B.xad k
 mono:∀ a v,B.m a=some v->g.m a=some v
 outer:∀ a t,B.tag a=some (.outer t)->g.tag a=some (.outer t)/\w.cell? a=B.w.cell? a
 outer':∀ a t,g.tag a=some (.outer t)->B.tag a=some (.outer t)
 clean:∀ b,b < B.w.heap.size->(∀ o s t,B.tag ⟨b,o,s⟩=some t->∃ t',t= .outer t')->w.heap[b]?=B.w.heap[b]?/\∀ o s,g.tag ⟨b,o,s⟩=B.tag ⟨b,o,s⟩
 frz:∀ a,a.block < B.w.heap.size->w.frozen? a=B.w.frozen? a
 ab:∀ v,B.ab=some v->g.bs .A=some v
structure Rel (cfg:Cfg U) (B:Base) (st:FSt U) (g:Gh) (a:Act) (w:World):Prop where
 inv:Inv g.m g.tag w
 fr:Fr B g w
 env:∀ k,RelV cfg g st.dead (fun nm=> (st.mem nm).isSome) (a.tmps.getD k undef) (st.env k)
 mem:∀ nm cs,st.mem nm=some cs->∀ j c,cs[j]?=some c->∃ v,w.cell? ((g.ad nm).add j)=some v/\g.tag ((g.ad nm).add j)=some (.obj nm)/\RelC cfg g st.dead v c
 sz:a.tmps.size=st.n
 df:a.defers=[]
 ls:∀ t x,st.ls t=some x->st.dead t=false/\LRel cfg w g t x
 fresh:∀ t,(t.isR || (t.isA && B.ab.isNone))=true->st.ls t.root=none->st.dead t.root=false->g.bs t=none
inductive Wk:C U->C U->Prop
 | int (k n):Wk (.int k n) (.int k n)
 | bool (b):Wk (.bool b) (.bool b)
 | nilp:Wk .nilp .nilp
 | pnil (T):Wk .nilp (.po T none)
 | po (T o):Wk (.po T o) (.po T o)
 | nils:Wk .nils .nils
 | snil (T):Wk .nils (.slice T [] .unk)
 | slice (T l tl):Wk (.slice T l tl) (.slice T l .unk)
def Zmn(ag:Bool)(z:Value)(zs:List (C U)):Prop:=
 (ag=true->∃ vs,z= .agg vs)/\(ag=false->z.cells=#[z])/\z.cells.toList.map Jk=zs.map some
def TypeDesc.ag:TypeDesc->Bool
 | .struct _ | .array _ _=> true
 | _=> false
structure CfgOk (P:Program) (cfg:Cfg U):Prop where
 enc_len:∀ T x,(cfg.enc T x).length=cfg.sz T
 enc_plain:∀ T x c,c∈cfg.enc T x->c.plain=true
 dec_ok:∀ T cs x,cfg.dec T cs=some x->cs.length=(cfg.enc T x).length/\∀ (j:Nat) c c',cs[j]?=some c->(cfg.enc T x)[j]?=some c'->Wk c c'
 sz_pos:∀ T,0 < cfg.sz T
 bytes_pos:∀ T,0 < cfg.bytes T
 el:∀ T,∃ i ag zs z,P.info? (cfg.elT T)=some i/\i.size=cfg.sz T/\i.bytes=cfg.bytes T/\i.zero=some z/\cfg.var (cfg.elT T)=some (ag,zs)/\zs.length=cfg.sz T
 sl:∀ t T,cfg.slT t=some T->P.underlying t=some (.slice (cfg.elT T))
 var:∀ t ag zs,cfg.var t=some (ag,zs)->0 < zs.length/\∃ i z d,P.info? t=some i/\P.underlying t=some d/\i.size=zs.length/\TypeDesc.ag d=ag/\i.zero=some z/\Zmn ag z zs/\(ag=false->∀ k n,zs=[.int k n]->d= .int k)/\(ag=false->∀ b,zs=[.bool b]->d= .bool)/\(∀ fs,d= .struct fs->(fs.toList.all fun fd=> (P.info? fd.type).isSome)=true)/\(∀ n e,d= .array n e->(P.info? e).isSome=true)
 fld:∀ s f off t,cfg.fld s f=some (off,t)->∃ fs fd,P.underlying s=some (.struct fs)/\fs[f]?=some fd/\fd.offset=off/\fd.type=t
 arr:∀ t n e,cfg.arr t=some (n,e)->P.underlying t=some (.array n e)
 mixed:P.follows .mixedOrders=true
 eqs : ∀ t, cfg.eqs t = true → ∃ fs, P.underlying t = some (.struct fs) ∧ (∀ ag zs, cfg.var t = some (ag, zs) → zs.length = fs.size) ∧ P.stoodInHeld t = false ∧ P.eqGuardType P.depth t = false ∧ ∀ (i : Nat) f, fs[i]? = some f → f.name ≠ "_" ∧ f.offset = i ∧ ∀ ag zs, cfg.var t = some (ag, zs) → (∀ k n, zs[i]? = some (.int k n) → ∃ k, P.underlying f.type = some (.int k)) ∧ ∀ b, zs[i]? = some (.bool b) → P.underlying f.type = some .bool
 ptr:∀ t,cfg.var t=some (false,[.nilp])->∃ e,P.underlying t=some (.pointer e)
 aT:∀ T f y,cfg.aT T=some f->cfg.enc T y=[.slice cfg.wsT (cfg.wsI (f y).segs) .unk,.int .i64 (f y).x,.int .i64 (f y).y,.int .i64 (f y).z]
 aOf:∀ T S y,cfg.aOf T S=some y->∃ f,cfg.aT T=some f/\f y=S
 aSl:∀ t T,cfg.slT t=some T->cfg.aT T=none
 wsI:∀ L:List (List Int),(cfg.wsI L).length=L.length/\∀ (i:Nat) l,L[i]?=some l->∃ y,(cfg.wsI L)[i]?=some y/\cfg.enc cfg.wsT y=[.slice cfg.wT (cfg.wI l) .unk]
 wI:∀ l:List Int,(cfg.wI l).length=l.length/\∀ (i:Nat) x,l[i]?=some x->∃ y,(cfg.wI l)[i]?=some y/\cfg.enc cfg.wT y=[.int .u64 x]
 wO:∀ l:List (U.El cfg.wT),(cfg.wO l).length=l.length/\∀ (i:Nat) y,l[i]?=some y->∃ x,(cfg.wO l)[i]?=some x/\cfg.enc cfg.wT y=[.int .u64 x]
 wB:cfg.bytes cfg.wT=8/\cfg.bytes cfg.wsT=24
theorem SimC.mono{cfg:Cfg U}{m m':Addr->Option Value}(hm:∀ a v,m a=some v->m' a=some v){v:Value}{c:C U}(h:SimC cfg m v c):SimC cfg m' v c:=by
 induction h with
 | int k n=> exact .int k n
 | bool b=> exact .bool b
 | nils=> exact .nils
 | nilp=> exact .nilp
 | pnil T=> exact .pnil T
 | po T x a vs h1 h2 ih=> exact .po T x a vs (fun j c hc=> hm _ _ (h1 j c hc)) ih
 | mref v t h=> exact .mref v t h
 | xp v k h=> exact .xp v k h
 | jk v h=> exact .jk v h
 | snil T tl=> exact .snil T tl
 | slice T l tl a len cap vs hl hc hm' hs ih=>
  exact .slice T l tl a len cap vs hl hc (fun i x hx j c hcj=> hm _ _ (hm' i x hx j c hcj)) (fun i x hx j c hcj=> ih i x hx j c hcj)
theorem SimC.wk{cfg:Cfg U}{m:Addr->Option Value}{v:Value}{c c':C U}(h:SimC cfg m v c)(hw:Wk c c'):SimC cfg m v c':=by
 cases hw with
 | int=> exact h
 | bool=> exact h
 | nilp=> exact h
 | pnil T=> cases h;exact .pnil T
 | po T o=> exact h
 | nils=> exact h
 | snil T=> cases h;exact .snil T .unk
 | slice T l tl=>
  cases h with
  | snil=> exact .snil T .unk
  | slice _ _ _ a len cap vs hl hc hm hs=> exact .slice T l .unk a len cap vs hl hc hm hs
structure Keeps (g g':Gh) (dead Zb:Tok->Bool) (live ZK:Name->Bool):Prop where
 m:∀ a v,g.m a=some v->g'.m a=some v
 tok:∀ a t,Zb t=false->t.isA=false->g.tag a=some (.tok t)->g'.tag a=some (.tok t)
 dead:∀ t,Zb t=false->dead t=false
 ad:∀ nm,live nm=true->ZK nm=true/\g'.ad nm=g.ad nm
 bs:∀ t v,Zb t=false->g.bs t=some v->g'.bs t=some v
 adx:∀ k,g'.ad (.x k)=g.ad (.x k)
 ar:∀ t,t.isA=true->∀ v,g.bs t=some v->g'.bs t=some v
theorem Keeps.refl(g:Gh)(dead:Tok->Bool)(live:Name->Bool):Keeps g g dead dead live live:=
 ⟨fun _ _ h=> h,fun _ _ _ _ h=> h,fun _ h=> h,fun _ h=> ⟨h,rfl⟩,fun _ _ _ h=> h,fun _=> rfl,fun _ _ _ h=> h⟩
section keep
variable {cfg:Cfg U} {g g':Gh} {dead Zb:Tok->Bool} {live ZK:Name->Bool}
theorem TailOk.keep(k:Keeps g g' dead Zb live ZK){v:Value}{c:C U}(h:TailOk cfg g dead v c):TailOk cfg g' Zb v c:=by
 unfold TailOk at*
 split at h
 .exact h
 .intro hd hA a len cap hv j h1 h2
  exact k.tok _ _ hd hA (h (k.dead _ hd) hA a len cap hv j h1 h2)
 .intro hd
  obtain ⟨s,hs⟩:=h (k.dead _ hd)
  exact ⟨s,k.bs _ _ hd hs⟩
 .rw [k.adx];exact h
 .trivial
theorem RelC.keep(k:Keeps g g' dead Zb live ZK){v:Value}{c:C U}(h:RelC cfg g dead v c):RelC cfg g' Zb v c:=
 ⟨h.1.mono k.m,h.2.keep k⟩
theorem RelL.keep(k:Keeps g g' dead Zb live ZK){v:List Value}{c:List (C U)}(h:RelL cfg g dead v c):RelL cfg g' Zb v c:=
 ⟨h.1,fun j v c hv hc=> (h.2 j v c hv hc).keep k⟩
theorem RelW.keep(k:Keeps g g' dead Zb live ZK){v:Value}{ag:Bool}{c:List (C U)}(h:RelW cfg g dead v ag c):RelW cfg g' Zb v ag c:=by
 cases ag with
 | true=> obtain ⟨vs,h1,h2⟩:=h;exact ⟨vs,h1,h2.keep k⟩
 | false=> obtain ⟨c',h1,h2⟩:=h;exact ⟨c',h1,h2.keep k⟩
theorem ARV.keep(k:Keeps g g' dead Zb live ZK){n:Nat}{v:Value}:∀ {x:AK},ARV g n v x->ARV g' n v x
 | .fp _,⟨h0,a,s,h1,h2⟩=> ⟨h0,a,s,k.ar _ rfl _ h1,h2⟩
 | .ov,h=> k.ar _ rfl _ h
 | .oe _,⟨b,len,cap,h1,h2⟩=> ⟨b,len,cap,k.ar _ rfl _ h1,h2⟩
 | .iv _,⟨⟨b,len,cap,h1,h2⟩,h3⟩=> ⟨⟨b,len,cap,k.ar _ rfl _ h1,h2⟩,k.ar _ rfl _ h3⟩
 | .ie _ _,⟨⟨b,len,cap,h1,h2⟩,b',len',cap',h3,h4⟩=> ⟨⟨b,len,cap,k.ar _ rfl _ h1,h2⟩,b',len',cap',k.ar _ rfl _ h3,h4⟩
 | .pd _,h=> k.ar _ rfl _ h
 | .nl _,⟨b,h1,h2⟩=> ⟨b,h1,fun i hi=> k.m _ _ (h2 i hi)⟩
theorem RelV.keep(k:Keeps g g' dead Zb live ZK){v:Value}:∀ {x:V U},RelV cfg g dead live v x->RelV cfg g' Zb ZK v x
 | .c x,h=> RelC.keep k (c:=x) h
 | .agg _,h=> by obtain ⟨vs,h1,h2⟩:=h;exact ⟨vs,h1,h2.keep k⟩
 | .tup ws,h=> by
  obtain ⟨vs,h1,h2,h3⟩:=h
  exact ⟨vs,h1,h2,fun j u w hu hw=> (h3 j u w hu hw).keep k⟩
 | .ptr nm off,h=> by
  obtain ⟨h1,h2⟩:=h
  cases hl:live nm with
  | true=> exact ⟨by rw [(k.ad nm hl).1];rfl,by rw [h2,(k.ad nm hl).2]⟩
  | false=>
   rw [hl] at h1
   cases nm with
   | loc s=> cases h1
   | x j=> exact ⟨by grind,by rw [h2,k.adx]⟩
 | .ap nm off _ len n,h=> by
  obtain ⟨h1,h2,h3⟩:=h
  cases hl:live nm with
  | true=> exact ⟨by rw [(k.ad nm hl).1];rfl,h2,by rw [h3,(k.ad nm hl).2]⟩
  | false=>
   rw [hl] at h1
   cases nm with
   | loc s=> cases h1
   | x j=> exact ⟨by grind,h2,by rw [h3,k.adx]⟩
 | .ep cs,h=> by
  obtain ⟨a,h1,h2⟩:=h
  exact ⟨a,h1,fun j c hc=> let ⟨u,hu,hr⟩:=h2 j c hc;⟨u,k.m _ _ hu,hr.keep k⟩⟩
 | .mp t n off,h=> fun hd=> by
  obtain ⟨b,len,cap,s,h1,h2,h3⟩:=h (k.dead _ hd)
  exact ⟨b,len,cap,s,k.bs _ _ hd h1,h2,h3⟩
 | .vw t n,h=> fun hd=> by
  obtain ⟨b,len,cap,s,h1,h2,h3⟩:=h (k.dead _ hd)
  exact ⟨b,len,cap,s,k.bs _ _ hd h1,h2,h3⟩
 | .fn f,h=> h
 | .clo f nms,h=> by
  obtain ⟨h1,h2⟩:=h
  have h3:∀ nm∈nms,(ZK nm || nm.isX)=true/\g'.ad nm=g.ad nm:=by
   intro nm hn
   have h1:=h1 nm hn
   cases hl:live nm with
   | true=> exact ⟨by rw [(k.ad nm hl).1];rfl,(k.ad nm hl).2⟩
   | false=>
    rw [hl] at h1
    cases nm with
    | loc s=> cases h1
    | x j=> exact ⟨by grind,k.adx j⟩
  refine ⟨fun nm hn=> (h3 nm hn).1,?_⟩
  simp_all
 | .gd b x,h=> ⟨fun hb=> RelV.keep k (h.1 hb),h.2⟩
 | .nb _ _,h=> h
 | .ar _ _,h=> ARV.keep k h
 | .junk,_=> trivial
theorem LRel0.keep (k:Keeps g g' dead Zb live ZK) {w w':World} {t:Tok} {x:LC U} (hd:Zb t=false) (hA:t.isA=false) (hm:∀ a v,g.m a=some v->w'.cell? a=some v)
  (ht:∀ a,g.tag a=some (.tok t)->w'.cell? a=w.cell? a) (h:LRel0 cfg w g t x):LRel0 cfg w' g' t x:=by
 rcases h with ⟨h1,h2⟩ | ⟨b,len,cap,h1,h2,h3,h4,h5,h6⟩
 .exact .inl ⟨k.bs _ _ hd h1,h2⟩
 .refine .inr ⟨b,len,cap,k.bs _ _ hd h1,h2,h3,h4,fun i y hy j c hc=> ?_,fun j a1 a2=> k.tok _ _ hd hA (h6 j a1 a2)⟩
  obtain ⟨u,h7,h8,h9,h10⟩:=h5 i y hy j c hc
  refine ⟨u,?_,h8.mono k.m,fun hi=> k.m _ _ (h9 hi),fun hi=> k.tok _ _ hd hA (h10 hi)⟩
  grind
structure AKeep (w w':World) (g g':Gh):Prop where
 bs:∀ t v,t.isA=true->g.bs t=some v->g'.bs t=some v
 no:∀ t,t.isA=true->g.bs t=none->g'.bs t=none
 tag:∀ t a,t.isA=true->g.tag a=some (.tok t)->g'.tag a=some (.tok t)/\w'.cell? a=w.cell? a
theorem Own1.keep {w w':World} {g g':Gh} {i:Nat} {v:Value} {l:List Int} (ht:∀ t a,t.isA=true->g.tag a=some (.tok t)->g'.tag a=some (.tok t)/\w'.cell? a=w.cell? a)
  (h:Own1 w g i v l):Own1 w' g' i v l:=by
 rcases h with h | ⟨b,len,cap,h1,h2,h3,h4,h5⟩
 .exact .inl h
 .refine .inr ⟨b,len,cap,h1,h2,h3,fun k x hx=> ?_,fun k hk=> (ht _ _ rfl (h5 k hk)).1⟩
  have hk:k < cap:=by have:=(Q1.1 hx).1;omega
  rw [(ht _ _ rfl (h5 k hk)).2];exact h4 k x hx
theorem Own2.keep {w w':World} {g g':Gh} {hs:Nat->Value} {v:Value} {L:List (List Int)} (ht:∀ t a,t.isA=true->g.tag a=some (.tok t)->g'.tag a=some (.tok t)/\w'.cell? a=w.cell? a)
  (h:Own2 w g hs v L):Own2 w' g' hs v L:=by
 refine ⟨?_,fun i l hl=> (h.2 i l hl).keep ht⟩
 rcases h.1 with h | ⟨b,len,cap,h1,h2,h3,h4,h5⟩
 .exact .inl h
 .refine .inr ⟨b,len,cap,h1,h2,h3,fun i hi=> ?_,fun k hk=> (ht _ _ rfl (h5 k hk)).1⟩
  rw [(ht _ _ rfl (h5 i (by omega))).2];exact h4 i hi
theorem ARel.keep{w w':World}{g g':Gh}(k:AKeep w w' g g'){l:List AState}{n:Nat}(h:ARel w g l n):ARel w' g' l n:=by
 have now:∀ {S a v hs},ANow w g n S a v hs->ANow w' g' n S a v hs:=by
  intro S a v hs h
  have c:∀ j u,j < 4->w.cell? (a.add j)=some u->w'.cell? (a.add j)=some u:=fun j u hj hu=> by rw [(k.tag _ _ rfl (h.tag j hj)).2];exact hu
  obtain ⟨s,hb⟩:=h.bs
  exact ⟨⟨s,k.bs _ _ rfl hb⟩,fun j hj=> (k.tag _ _ rfl (h.tag j hj)).1,c 0 _ (by omega) h.c0,c 1 _ (by omega) h.c1,c 2 _ (by omega) h.c2,c 3 _ (by omega) h.c3,h.own.keep k.tag,
   k.bs _ _ rfl h.h0,fun i hi=> k.bs _ _ rfl (h.hi i hi)⟩
 match l,h with
 | [S],⟨a,v,hs,h1,h2⟩=> exact ⟨a,v,hs,now h1,fun m i hm=> k.no _ rfl (h2 m i hm)⟩
 | [S,P],⟨a,v,hs,h1,h2,h3⟩=>
  refine ⟨a,v,hs,now h1,fun m i hm=> k.no _ rfl (h2 m i hm),?_⟩
  rcases h3 with ⟨i,l,v,e1,e2,e3,e4,e5⟩ | ⟨L,v,hs,e2,e3,e4,e5⟩
  .exact .inl ⟨i,l,v,e1,e2,k.bs _ _ rfl e3,fun j hj=> k.no _ rfl (e4 j hj),e5.keep k.tag⟩
  .exact .inr ⟨L,v,hs,e2,k.bs _ _ rfl e3,fun j hj=> k.no _ rfl (e4 j hj),e5.keep k.tag⟩
theorem LRel.keep (k:Keeps g g' dead Zb live ZK) {w w':World} {t:Tok} {x:LC U} (hd:Zb t=false) (hm:∀ a v,g.m a=some v->w'.cell? a=some v)
  (ht:∀ a u,u.root=t->g.tag a=some (.tok u)->w'.cell? a=w.cell? a) (hn:t= .A->∀ u,u.isA=true->g.bs u=none->g'.bs u=none) (hg:t= .A->∀ a u,u.isA=true->g.tag a=some (.tok u)->g'.tag a=some (.tok u)) (h:LRel cfg w g t x):LRel cfg w' g' t x:=by
 rcases h with ⟨h1,h2,h3⟩ | ⟨f,h1,rfl,h3⟩
 .exact .inl ⟨h1,h2,h3.keep k hd h2 hm fun a ha=> ht a t (by cases t <;> first | rfl | cases h2) ha⟩
 .refine .inr ⟨f,h1,rfl,h3.keep ⟨fun u v hu=> k.ar u hu v,hn rfl,fun u a hu ha=> ⟨hg rfl a u hu ha,ht a u ?_ ha⟩⟩⟩
  cases u <;> first | rfl | cases hu
end keep
structure Evo (w w':World) (S:Addr->Prop):Prop where
 stay:Stay w w'
 cell:∀ a,a.block < w.heap.size->¬S a->w'.cell? a=w.cell? a
 frozen:∀ a,a.block < w.heap.size->w'.frozen? a=w.frozen? a
 some:∀ a v,w.cell? a=some v->∃ v',w'.cell? a=some v'
 heap:∀ b,b < w.heap.size->(∀ o s,¬S ⟨b,o,s⟩)->w'.heap[b]?=w.heap[b]?
theorem Evo.refl(w:World)(S:Addr->Prop):Evo w w S:=
 ⟨⟨rfl,rfl,rfl,Qn _⟩,fun _ _ _=> rfl,fun _ _=> rfl,fun _ v h=> ⟨v,h⟩,fun _ _ _=> rfl⟩
theorem Evo.drew(w:World)(S:Addr->Prop):Evo w w.drew S:=
 ⟨⟨rfl,rfl,rfl,Qn _⟩,fun _ _ _=> rfl,fun _ _=> rfl,fun _ v h=> ⟨v,h⟩,fun _ _ _=> rfl⟩
theorem Evo.trans{w w' w'':World}{S:Addr->Prop}(h:Evo w w' S)(k:Evo w' w'' S):Evo w w'' S:=by
 refine ⟨⟨k.stay.os.trans h.stay.os,k.stay.tape.trans h.stay.tape,k.stay.output.trans h.stay.output,Xh h.stay.size k.stay.size⟩,?_,?_,?_,?_⟩
 .exact fun a ha hs=> (k.cell a (QJ ha h.stay.size) hs).trans (h.cell a ha hs)
 .exact fun a ha=> (k.frozen a (QJ ha h.stay.size)).trans (h.frozen a ha)
 .intro a v hv
  obtain ⟨v',hv'⟩:=h.some a v hv
  exact k.some a v' hv'
 .exact fun b hb hs=> (k.heap b (QJ hb h.stay.size) hs).trans (h.heap b hb hs)
theorem Evo.weaken{w w':World}{S T:Addr->Prop}(h:Evo w w' S)(hST:∀ a,S a->T a):Evo w w' T:=
 ⟨h.stay,fun a ha ht=> h.cell a ha (fun hs=> ht (hST a hs)),h.frozen,h.some,fun b hb ht=> h.heap b hb fun o s hs=> ht o s (hST _ hs)⟩
theorem Evo.alloc(w:World)(o:Obj)(S:Addr->Prop):Evo w (w.alloc o) S:=by
 refine ⟨⟨rfl,rfl,rfl,by simp⟩,?_,?_,?_,?_⟩
 .exact fun a ha _=> World.cell?_alloc_lt w o a ha
 .exact fun a ha=> World.frozen?_alloc_old w o a (Nat.ne_of_lt ha)
 .exact fun a v hv=> ⟨v,(World.cell?_alloc_lt w o a (World.block_lt_of_cell? w a hv)).trans hv⟩
 .intro b hb _
  show (w.heap.push o)[b]?=_
  grind
theorem Evo.setCell(w:World)(a:Addr)(v:Value)(S:Addr->Prop)(ha:S a):Evo w (w.setCell a v) S:=by
 refine ⟨⟨rfl,rfl,rfl,by simp⟩,?_,?_,?_,?_⟩
 .intro b _ hs
  exact World.cell?_setCell_other w a b v (fun e=> hs (e▸ha))
 .simp_all
 .intro b u hu
  by_cases e:a=b
  .subst e;exact ⟨v,World.cell?_setCell_same w a v hu⟩
  .exact ⟨u,(World.cell?_setCell_other w a b v e).trans hu⟩
 .intro b _ hs
  simp only [World.setCell,Array.getElem?_modify]
  rw [if_neg (fun e=> by subst e;exact hs a.off a.spot (by cases a;exact ha))]
theorem Stay.trans{a b c:World}(h:Stay a b)(k:Stay b c):Stay a c:=
 ⟨k.os.trans h.os,k.tape.trans h.tape,k.output.trans h.output,Xh h.size k.size⟩
theorem Inv.lt{m:Addr->Option Value}{tag:Addr->Option Tag}{w:World}(h:Inv m tag w){a:Addr}{t:Tag}(ht:tag a=some t):a.block < w.heap.size:=by
 obtain ⟨v,hv⟩:=(h.it a t ht).2
 exact World.block_lt_of_cell? w a hv
theorem Inv.lt'{m:Addr->Option Value}{tag:Addr->Option Tag}{w:World}(h:Inv m tag w){a:Addr}{v:Value}(ht:m a=some v):a.block < w.heap.size:=
 World.block_lt_of_cell? w a (h.im a v ht).1
theorem Fr.step {B:Base} {g g':Gh} {w w':World} {S:Addr->Prop} (h:Fr B g w) (hi:Inv g.m g.tag w) (he:Evo w w' S)
  (hS:∀ a,S a->∃ t,g.tag a=some t/\∀ t',t≠.outer t')
  (hm:∀ a v,g.m a=some v->g'.m a=some v)
  (ho:∀ a t,g.tag a=some (.outer t)↔g'.tag a=some (.outer t))
  (hn:∀ b,b < w.heap.size->(∀ o s t,g.tag ⟨b,o,s⟩=some t->∃ t',t= .outer t')->∀ o s,g'.tag ⟨b,o,s⟩=g.tag ⟨b,o,s⟩) (hx:∀ k,g'.ad (.x k)=g.ad (.x k))
  (hb:∀ v,B.ab=some v->g.bs .A=some v->g'.bs .A=some v:=by exact fun _ _ h=> h):Fr B g' w':=by
 refine ⟨h.stay.trans he.stay,fun k=> (hx k).trans (h.xad k),fun a v hv=> hm a v (h.mono a v hv),?_,?_,?_,fun a ha=> (he.frozen a (QJ ha h.stay.size)).trans (h.frz a ha),fun v hv=> hb v hv (h.ab v hv)⟩
 .intro a t ht
  obtain ⟨h1,h2⟩:=h.outer a t ht
  refine ⟨(ho a t).1 h1,?_⟩
  rw [he.cell a (hi.lt h1) (fun hs=> ?_),h2]
  grind
 .exact fun a t ht=> h.outer' a t ((ho a t).2 ht)
 .intro b hb hc
  obtain ⟨h1,h2⟩:=h.clean b hb hc
  have hb':b < w.heap.size:=QJ hb h.stay.size
  have hall:∀ o s t,g.tag ⟨b,o,s⟩=some t->∃ t',t= .outer t':=fun o s t ht=> hc o s t (by grind)
  refine ⟨?_,?_⟩
  .rw [he.heap b hb' (fun o s hs=> ?_),h1]
   grind
  grind
end Go.AM
