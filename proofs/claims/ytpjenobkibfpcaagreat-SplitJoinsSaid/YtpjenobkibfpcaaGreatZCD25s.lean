import Derived.Test.YtpjenobkibfpcaaGreatZCL25e
import Derived.Test.YtpjenobkibfpcaaGreatZKL22m
set_option linter.unusedSimpArgs false
set_option linter.unusedVariables false
namespace Go.AM.YtpjenobkibfpcaaGreat
open Go.AM Go.Proofs
theorem Z5S(m:Int)(h0:0<=m)(h1:m < 256)(i:Nat):Zz m (i:Int)=(BitVec.ofInt 8 m).toNat.testBit i:=by
 obtain ⟨n,rfl⟩:=X4 h0
 have e:(BitVec.ofInt 8 ((n:Nat):Int)).toNat=n:=by simp;omega
 rw [e,Nat.testBit_eq_decide_div_mod_eq]
 unfold Zz
 grind
theorem Zmw{a b:Int}(ha:0<=a/\a < 256)(hb:0<=b/\b < 256):(0<=ZoQ a b/\ZoQ a b < 256)/\∀ i:Nat,Zz (ZoQ a b) (i:Int)=(Zz a (i:Int) && Zz b (i:Int)):=by
 have d:(BitVec.ofInt 8 a &&& BitVec.ofInt 8 b).toNat < 256:=(BitVec.ofInt 8 a &&& BitVec.ofInt 8 b).isLt
 have e:ZoQ a b=((BitVec.ofInt 8 a &&& BitVec.ofInt 8 b).toNat:Int):=by
  show IntKind.wrap .u8 ((BitVec.ofInt 8 a &&& BitVec.ofInt 8 b).toNat:Int)=_
  exact Zbj V1 V1
 refine ⟨by rw [e];omega,fun i=> ?_⟩
 rw [Z5S _ (by rw [e];omega) (by rw [e];omega),e,Z5S a ha.1 ha.2,Z5S b hb.1 hb.2]
 grind
theorem ZpL{a b:Int}(ha:0<=a/\a < 256)(hb:0<=b/\b < 256):(0<=orM a b/\orM a b < 256)/\∀ i:Nat,Zz (orM a b) (i:Int)=(Zz a (i:Int) || Zz b (i:Int)):=by
 have d:(BitVec.ofInt 8 a ||| BitVec.ofInt 8 b).toNat < 256:=(BitVec.ofInt 8 a ||| BitVec.ofInt 8 b).isLt
 have e:orM a b=((BitVec.ofInt 8 a ||| BitVec.ofInt 8 b).toNat:Int):=by
  show IntKind.wrap .u8 ((BitVec.ofInt 8 a ||| BitVec.ofInt 8 b).toNat:Int)=_
  exact Zbj V1 V1
 refine ⟨by rw [e];omega,fun i=> ?_⟩
 rw [Z5S _ (by rw [e];omega) (by rw [e];omega),e,Z5S a ha.1 ha.2,Z5S b hb.1 hb.2]
 grind
def doW(w:WEdit)(x:Int):Option Int:=if mix 0 x w.mask=w.old then some (mix x w.new w.mask) else none
theorem ZiK(i:Nat):Z4 0 i=0:=by unfold Z4;simp
theorem Z0O{w m:Int}(h:Ya w m=true){i:Nat}(hi:i < 8)(hn:Zz m i=false):Z4 w i=0:=by
 have h:mix w 0 m=0:=of_decide_eq_true h
 have e:=congrArg (fun x=> Z4 x i) h
 simp only [Z2Y hi,Jn,hn,ZiK] at e
 simpa using e
theorem Z0s{a b m:Int}{i:Nat}(hi:i < 8):Z4 (mix a b m) i=if Zz m i=true then Z4 b i else Z4 a i:=by rw [Z2Y hi];try rfl
theorem Zw9{a b:WEdit}(ra:Z2a a)(rb:Z2a b)(oa:Ya a.old a.mask=true/\Ya a.new a.mask=true)(ob:Ya b.old b.mask=true/\Ya b.new b.mask=true){x:Int}(hx:isW x):
  (∀ w,(YY a b).2=true->doW (YY a b).1 x=some w->∃ u v,doW a x=some u/\doW b u=some v/\w=v)/\
  (∀ u v,doW a x=some u->doW b u=some v->(YY a b).2=true/\∃ w,doW (YY a b).1 x=some w/\w=v):=by
 have A:=Zmw ra.2.1 rb.2.1
 have O:=ZpL ra.2.1 rb.2.1
 have s:mix (mix x a.new a.mask) b.new b.mask=mix x (mix a.new b.new b.mask) (orM a.mask b.mask):=by
  refine Z4z (Z1J _ _ _) (Z1J _ _ _) fun i d=> ?_
  rw [Z0s d,Z0s d,Z0s d,Z0s d,O.2]
  cases Zz a.mask i <;> cases Zz b.mask i <;> simp
 refine ⟨fun w hc hw=> ?_,fun u v hu hv=> ?_⟩
 .unfold YY at hc hw
  by_cases ho:Z5o a b=true
  .rw [if_pos ho] at hw
   unfold doW at hw
   simp only at hw
   split at hw
   .rename_i aa
    cases hw
    have ai:mix 0 a.new (ZoQ a.mask b.mask)=mix 0 b.old (ZoQ a.mask b.mask):=of_decide_eq_true ho
    have e1:mix 0 x a.mask=a.old:=by
     refine Z4z (Z1J _ _ _) ra.2.2.1 fun i d=> ?_
     have e:=congrArg (fun y=> Z4 y i) aa
     simp only [Z0s d,O.2] at e
     rw [Z0s d]
     cases hn:Zz a.mask i with
     | true=> rw [hn] at e;simpa using e
     | false=> rw [Z0O oa.1 d hn,ZiK];simp
    have e2:mix 0 (mix x a.new a.mask) b.mask=b.old:=by
     refine Z4z (Z1J _ _ _) rb.2.2.1 fun i d=> ?_
     have e:=congrArg (fun y=> Z4 y i) aa
     have h:=congrArg (fun y=> Z4 y i) ai
     simp only [Z0s d,O.2] at e
     simp only [Z0s d,A.2] at h
     rw [Z0s d,Z0s d]
     cases hb:Zz b.mask i with
     | true=>
      cases ha:Zz a.mask i with
      | true=> rw [ha,hb] at h;simpa using h
      | false=> rw [ha,hb] at e;simpa using e
     | false=> rw [Z0O ob.1 d hb,ZiK];simp
    refine ⟨mix x a.new a.mask,mix (mix x a.new a.mask) b.new b.mask,?_,?_,s.symm⟩
    .unfold doW;rw [if_pos e1]
    .unfold doW;rw [if_pos e2]
   .cases hw
  .rw [if_neg ho] at hc;cases hc
 .unfold doW at hu hv
  split at hu
  .rename_i e1
   cases hu
   split at hv
   .rename_i e2
    cases hv
    have ho:Z5o a b=true:=by
     refine decide_eq_true (Z4z (Z1J _ _ _) (Z1J _ _ _) fun i d=> ?_)
     have e:=congrArg (fun y=> Z4 y i) e2
     simp only [Z0s d] at e
     rw [Z0s d,Z0s d,A.2]
     cases ha:Zz a.mask i <;> cases hb:Zz b.mask i <;> rw [ha,hb] at e <;> simp at e ⊢
     exact e
    unfold YY
    rw [if_pos ho]
    refine ⟨rfl,mix x (mix a.new b.new b.mask) (orM a.mask b.mask),?_,s.symm⟩
    unfold doW
    simp only
    rw [if_pos]
    refine Z4z (Z1J _ _ _) (Z1J _ _ _) fun i d=> ?_
    have e:=congrArg (fun y=> Z4 y i) e1
    have h:=congrArg (fun y=> Z4 y i) e2
    simp only [Z0s d] at e h
    rw [Z0s d,Z0s d,O.2]
    cases ha:Zz a.mask i <;> cases hb:Zz b.mask i <;> rw [ha] at e h <;> rw [hb] at h <;> simp at e h ⊢
    all_goals first | exact h | exact e | exact (ZiK i).symm.trans h | exact (ZiK i).trans ((ZiK i).symm.trans h)
   .cases hv
  .cases hu
theorem Zbi(tw:List Int)(ws:List WEdit)(out:List Int):wsD tw ws out=mg 0 (Z2V 0 doW WEdit.at_ tw) WEdit.at_ ws out:=Zdm tw ws out
theorem Z8n(tk:List Tree)(ks:List Kid)(out:List Tree):JC false tk ks out=mg Tree.nil (Z2V Tree.nil (fun k:Kid=> doE false k.e) KidOf.at_ tk) KidOf.at_ ks out:=by
 rw [Z9U]
 congr 1
 funext k
 exact Z2k false tk k
theorem Ztu(a b:WEdit)(h:(YY a b).2=true):(YY a b).1.at_=a.at_:=by
 unfold YY at h ⊢
 grind
theorem ZG{e:Edit}{d:Int}(h:Z1 e d=true):∀ o∈e.ops,ZZ o:=Zb2 (Zd h).ops
theorem Zak {f g:Edit->Edit->Edit × Bool} {p q:Edit} {d d':Int} (hp:Z1 p d=true) (hq:Z1 q d'=true)
  (h:∀ a b,Z0 a+Z0 b < Z0 p+Z0 q->(∃ d,Z1 a d=true)->(∃ d,Z1 b d=true)->f a b=g a b):JW f p q=JW g p q:=by
 have rp:=Zd hp
 have rq:=Zd hq
 have hk:Zf KidOf.at_ (Z0g f) p.kids q.kids=Zf KidOf.at_ (Z0g g) p.kids q.kids:=by
  have ah:∀ (k:Nat) (a b:List Kid),a.length+b.length<=k->(∀ x∈a,x∈p.kids)->(∀ x∈b,x∈q.kids)->Zf KidOf.at_ (Z0g f) a b=Zf KidOf.at_ (Z0g g) a b:=by
   intro k
   induction k with
   | zero=>
    intro a b hn _ _
    have e1:a=[]:=Q3 V1
    subst e1
    rw [Zf,Zf]
   | succ k ihk=>
    intro a b hn ha s
    match a,b with
    | [],b=> rw [Zf,Zf]
    | x ::a,[]=> rw [Zf,Zf]
    | x ::a,y ::b=>
     simp only [Q8] at hn
     have hx:=ZF (ha x Q1)
     have hy:=ZF (s y Q1)
     have e:Z0g f x y=Z0g g x y:=by
      unfold Z0g
      rw [h x.e y.e V1 ⟨_,(Zk rp.kids x (ha x Q1)).2⟩ ⟨_,(Zk rq.kids y (s y Q1)).2⟩]
     rw [Zf,Zf,e,ihk a (y ::b) (by simp only [Q8];omega) (fun z hz=> ha z (Q0 _ hz)) s,ihk (x ::a) b (by simp only [Q8];omega) ha (fun z hz=> s z (Q0 _ hz)),
      ihk a b V1 (fun z hz=> ha z (Q0 _ hz)) (fun z hz=> s z (Q0 _ hz))]
  exact ah _ _ _ (Q9 _) (fun x hx=> hx) (fun x hx=> hx)
 have ho:Z09 f p.ops q.ops=Z09 g p.ops q.ops:=by
  unfold Z09
  obtain ⟨i1,_⟩:=Z4m _ p.ops q.ops [] (Q9 _) (ZG hp) (ZG hq)
  by_cases s:(Y7 1 2 p.ops q.ops []).2.1=true
  .rw [if_pos s,if_pos s]
   obtain ⟨ps,e,ae,hA,hB⟩:=i1 s
   rw [e,Qo]
   clear e i1 s hA hB
   induction ps with
   | nil=> rfl
   | cons x r ihr=>
    have hx:=ae x Q1
    have e:Zx f x=Zx g x:=by
     unfold Zx
     by_cases h1:x.of=1\/(x.of=0/\x.q.kind=0)
     .grind
     rw [if_neg h1,if_neg h1]
     by_cases h2:x.of=2\/x.p.kind=0
     .grind
     rw [if_neg h2,if_neg h2]
     by_cases h3:x.p.kind=2/\x.q.kind=1
     .grind
     rw [if_neg h3,if_neg h3]
     by_cases h4:x.p.kind=2
     .grind
     rw [if_neg h4,if_neg h4]
     by_cases h5:x.q.kind=1
     .grind
     rw [if_neg h5,if_neg h5]
     have h0:x.of=0:=by rcases hx.of with h | h | h <;> omega
     obtain ⟨aw,aq,hl⟩:=hx.both h0
     obtain ⟨⟨o1,m1,k1,e1,_⟩,op⟩:=hx.pp V1
     obtain ⟨⟨o2,m2,k2,e2,_⟩,oq⟩:=hx.qq V1
     have ar:x.p.kind=3:=by rcases Y8 op with h | h | h | h <;> omega
     have au:x.q.kind=3:=by rcases Y8 oq with h | h | h | h <;> omega
     have:=YD m1
     have:=YD m2
     have r1:=Ye (rightOs_mem rp.ops m1) V1
     have r2:=Ye (rightOs_mem rq.ops m2) V1
     rw [e1,e2,h o1.e o2.e V1 ⟨_,r1⟩ ⟨_,r2⟩]
    rw [Jx,Jx,e,ihr fun y hy=> ae y (Q0 _ hy)]
  .grind
 unfold JW
 rw [hk,ho]
theorem Zks:∀ (n m:Nat) (p q:Edit) (d s:Int),Z1 p d=true->Z1 q s=true->Z0 p+Z0 q<=n->n<=m->Z7k m p q=Z7k n p q:=by
 intro n
 induction n with
 | zero=> intro m p q d s _ _ h;obtain ⟨k,o,nw,w,ks,l,os⟩:=p;simp only [Z0] at h;omega
 | succ n ih=>
  intro m p q d s hp hq h hm
  obtain ⟨m,rfl⟩:∃ k,m=k+1:=⟨m - 1,V1⟩
  show JW (Z7k m) p q=JW (Z7k n) p q
  exact Zak hp hq fun a b ai ⟨d1,h1⟩ ⟨d2,h2⟩=> ih m a b d1 d2 h1 h2 V1 V1
theorem Zkt{p q:Edit}{d d':Int}(hp:Z1 p d=true)(hq:Z1 q d'=true):YA p q=JW YA p q:=by
 have e:YA p q=Z7k (Z0 p+Z0 q+1) p q:=(Zks _ _ p q d d' hp hq (Q9 _) V1).symm
 rw [e]
 show JW (Z7k (Z0 p+Z0 q)) p q=JW YA p q
 exact Zak hp hq fun a b aa ⟨s,h1⟩ ⟨d2,h⟩=> Zks _ _ a b s d2 h1 h (Q9 _) V1
theorem Zor(t:Tree):Eqv (Z6 t) t:=J9 t
theorem Zqz{e:Edit}(h:e.kind=0)(t:Tree):doE false e t=some t:=by rw [Z13,J0,if_pos h]
theorem Zvu{e:Edit}(h:e.kind=1)(t:Tree):doE false e t=if YM (Z6 e.old) (Z6 t)=true then some e.new else none:=by rw [Z13,J0,Jv,if_pos h]
theorem Zov{e:Edit}(h:e.kind=2)(t:Tree):doE false e t=if t.kind=1 then (wsD t.words e.words t.words).bind fun a=> (JC false t.kids e.kids t.kids).map fun b=> .mk 1 a b else none:=by
 rw [Z13,J0,Jv,Jv,if_pos h]
theorem Zmb{e:Edit}(h:e.kind=3)(t:Tree):doE false e t=if t.kind=e.list then (Z0H (ZE false e.ops t.kids [])).map fun b=> .mk e.list [] b else none:=by
 rw [Z13,J0,Jv,Jv,Jv,if_pos h]
theorem Zto(o n t:Tree):doE false (.mk 1 o n [] [] 0 []) t=if YM (Z6 o) (Z6 t)=true then some n else none:=Zvu rfl t
theorem Ztn(w:List WEdit)(ks:List Kid)(t:Tree):doE false (.mk 2 Tree.nil Tree.nil w ks 0 []) t=if t.kind=1 then (wsD t.words w t.words).bind fun a=> (JC false t.kids ks t.kids).map fun b=> .mk 1 a b else none:=Zov rfl t
theorem ZA4(l:Int)(os:List Op)(t:Tree):doE false (.mk 3 Tree.nil Tree.nil [] [] l os) t=if t.kind=l then (Z0H (ZE false os t.kids [])).map fun b=> .mk l [] b else none:=Zmb rfl t
theorem Zdb{e:Edit}{t v:Tree}(h:doE false e t=some v):doB e t=(Z6 v,true):=by unfold doB;rw [h];try rfl
theorem Zoz{e:Edit}{t:Tree}(h:doE false e t=none):(doB e t).2=false:=by unfold doB;rw [h];try rfl
theorem ZB{e:Edit}(h:ZX e):rng e.old/\rng e.new/\(∀ x∈e.words,Z2a x)/\Z1r e.kids/\Z0D e.ops:=by
 obtain ⟨k,o,n,w,ks,l,os⟩:=e
 exact ⟨h.2.1,h.2.2.1,h.2.2.2.1,h.2.2.2.2.2.1,h.2.2.2.2.2.2⟩
theorem Zg1{e:Edit}{d:Int}(hr:Z1 e d=true)(he:ZX e){o:Op}(h:Part e.ops o):ROp o:=by
 obtain ⟨o',m,k,e1,_,l⟩:=h
 have ro:=rightOs_mem (Zd hr).ops m
 have rg:=JL (ZB he).2.2.2.2 m
 have ae:=Z0j rg
 refine ⟨fun h3=> ⟨⟨_,by rw [e1];exact Ye ro V1⟩,by grind⟩,fun t ht=> ?_⟩
 have s:=l t ht
 refine ⟨?_,Jl ae.2.2.1 s⟩
 have R:=Zu ro
 by_cases h3:e.kind=3
 .have aa:=(Zd hr).list h3
  generalize e.list=li at R aa
  cases R with
  | keep=> cases s
  | into=> cases s
  | gone l1 h1=> exact ⟨-1,(JH aa h1 t s).2⟩
  | come l1 h1=> exact ⟨-1,(JH aa h1 t s).2⟩
 .have:=(Zd hr).ops0 h3
  grind
theorem Zm6{t:Tree}(h:RT_ t):∀ k∈t.kids,RT_ k:=h.kids.1
theorem ZAb {f:Edit->Edit->Edit × Bool} {p q:Edit} {d d':Int} (hp:Z1 p d=true) (hq:Z1 q d'=true) (gp:ZX p) (gq:ZX q) (k3:p.kind=3) (l3:q.kind=3) (hl:p.list=q.list)
  (ih:∀ a b,Z0 a+Z0 b < Z0 p+Z0 q->(∃ d,Z1 a d=true)->(∃ d,Z1 b d=true)->ZX a->ZX b->ComOk (f a b) a b):
  ComOk (.mk 3 Tree.nil Tree.nil [] [] p.list (ofO (Z09 f p.ops q.ops)),(Z09 f p.ops q.ops).isSome) p q:=by
 have bd:=(Zd hp).list k3
 have kp:∀ o∈p.ops,kOk o:=fun o ho=> Y8 (ZG hp o ho)
 have kq:∀ o∈q.ops,kOk o:=fun o ho=> Y8 (ZG hq o ho)
 obtain ⟨i1,i2⟩:=Z4m _ p.ops q.ops [] (Q9 _) (ZG hp) (ZG hq)
 have af:∀ ps:List Piece,(∀ x∈ps,POk p.ops q.ops x)->(∀ x∈ps,(x.of≠2->ROp x.p)/\(x.of≠1->ROp x.q))/\∀ x∈ps,x.p.kind=3->x.q.kind=3->x.of=0->ComOk (f x.p.e x.q.e) x.p.e x.q.e:=by
  intro ps s
  refine ⟨fun x hx=> ⟨fun h=> Zg1 hp gp ((s x hx).pp h).1,fun h=> Zg1 hq gq ((s x hx).qq h).1⟩,fun x hx h1 h2 h0=> ?_⟩
  have ai:=s x hx
  have s1:=(Zg1 hp gp (ai.pp V1).1).1 h1
  have s2:=(Zg1 hq gq (ai.qq V1).1).1 h2
  obtain ⟨o1,m1,_,e1,_⟩:=(ai.pp V1).1
  obtain ⟨o2,m2,_,e2,_⟩:=(ai.qq V1).1
  have:=YD m1
  have:=YD m2
  exact ih _ _ (by grind) s1.1 s2.1 s1.2 s2.2
 refine ⟨fun {t w} ht hc hw=> ?_,fun {t u v} ht hu hv=> ?_⟩
 .rw [ZA4] at hw
  split at hw
  .rename_i aj
   obtain ⟨b,hb,rfl⟩:=Qd.1 hw
   cases aa:Z09 f p.ops q.ops with
   | none=> grind
   | some ops=>
    rw [aa] at hb
    unfold Z09 at aa
    split at aa
    .rename_i ak
     obtain ⟨ps,e,s,hP,hQ⟩:=i1 ak
     rw [e,Qo] at aa
     obtain ⟨f1,f2⟩:=af ps s
     have ah:∀ o∈ops,kOk o:=by
      have:∀ (ps:List Piece) (ops:List Op),(∀ x∈ps,POk p.ops q.ops x)->Jx f ps=some ops->∀ o∈ops,kOk o:=by
       intro ps
       induction ps with
       | nil=> intro ops _ h o ho;cases h;cases ho
       | cons x r ihp=>
        intro ops s h o ho
        rw [Jx] at h
        split at h
        .obtain ⟨l,hl,rfl⟩:=Qd.1 h
         rcases Qg.1 ho with ho | ho
         .split at ho
          .rw [Qe.1 ho];exact ZqH (s x Q1)
          .cases ho
         grind
        .cases h
      exact this ps ops s aa
     have hr:=(Z4Y ah).1 hb
     obtain ⟨m,dd,r1,r2,he⟩:=ZhC s f1 f2 (Zm6 ht) aa hr
     refine ⟨.mk p.list [] m,.mk q.list [] dd,?_,?_,?_⟩
     .rw [Zmb k3,if_pos aj,(Z4Y kp).2 ((hP _ _).2 r1)];try rfl
     .rw [Zmb l3,if_pos (show (Tree.mk p.list [] m).kind=q.list from hl)]
      simp only [Tree.kids_mk]
      rw [(Z4Y kq).2 ((hQ _ _).2 r2)];try rfl
     .rw [hl]
      exact Z2e _ _ he
    .cases aa
  .cases hw
 .rw [Zmb k3] at hu
  split at hu
  .rename_i aj
   obtain ⟨m,hm,rfl⟩:=Qd.1 hu
   rw [Zmb l3,if_pos (show (Tree.mk p.list [] m).kind=q.list from hl)] at hv
   simp only [Tree.kids_mk] at hv
   obtain ⟨dd,hd,rfl⟩:=Qd.1 hv
   have r1:=(Z4Y kp).1 hm
   have r2:=(Z4Y kq).1 hd
   cases ak:(Y7 1 2 p.ops q.ops []).2.1 with
   | false=> grind
   | true=>
    obtain ⟨ps,e,s,hP,hQ⟩:=i1 ak
    obtain ⟨f1,f2⟩:=af ps s
    obtain ⟨ops,w,c1,c2,c3⟩:=ZhD s f1 f2 (Zm6 ht) ((hP _ _).1 r1) ((hQ _ _).1 r2)
    have aa:Z09 f p.ops q.ops=some ops:=by unfold Z09;grind
    have ah:Z0H (ZE false ops t.kids [])=some w:=by
     have:=Zxy c2 []
     unfold Z0H
     rw [this]
     simp
    rw [aa]
    refine ⟨rfl,.mk p.list [] w,?_,?_⟩
    .rw [ZA4,if_pos aj]
     show (Z0H (ZE false ops t.kids [])).map _=_
     rw [ah];try rfl
    .rw [<-hl]
     exact Z2e _ _ c3
  .cases hu
theorem ZqG {f:Edit->Edit->Edit × Bool} {p q:Edit} {d d':Int} (hp:Z1 p d=true) (hq:Z1 q d'=true) (gp:ZX p) (gq:ZX q) (k2:p.kind=2) (l2:q.kind=2)
  (ih:∀ a b,Z0 a+Z0 b < Z0 p+Z0 q->(∃ d,Z1 a d=true)->(∃ d,Z1 b d=true)->ZX a->ZX b->ComOk (f a b) a b):
  ComOk (if (Zf WEdit.at_ YY p.words q.words).isSome then
   (.mk 2 Tree.nil Tree.nil (ofO (Zf WEdit.at_ YY p.words q.words)) (ofO (Zf KidOf.at_ (Z0g f) p.kids q.kids)) 0 [],(Zf KidOf.at_ (Z0g f) p.kids q.kids).isSome) else (Edit.nil,false)) p q:=by
 have rp:=Zd hp
 have rq:=Zd hq
 have wp:=Z00 rp.words
 have wq:=Z00 rq.words
 have ap:=Z0F rp.kids
 have aq:=Z0F rq.kids
 have g1:=ZB gp
 have g2:=ZB gq
 have hw:∀ a∈p.words,∀ b∈q.words,∀ x,isW x->(∀ w,(YY a b).2=true->doW (YY a b).1 x=some w->∃ u v,doW a x=some u/\doW b u=some v/\w=v)/\
   (∀ u v,doW a x=some u->doW b u=some v->(YY a b).2=true/\∃ w,doW (YY a b).1 x=some w/\w=v):=by
  intro a s b hb x hx
  have oa:=Yj rp.words a s
  have ob:=Yj rq.words b hb
  exact Zw9 (g1.2.2.1 a s) (g2.2.2.1 b hb) oa.2.2.2 ob.2.2.2 hx
 have hk:∀ a∈p.kids,∀ b∈q.kids,ComOk (f a.e b.e) a.e b.e:=by
  intro a s b hb
  have:=ZF s
  have:=ZF hb
  exact ih _ _ V1 ⟨_,(Zk rp.kids a s).2⟩ ⟨_,(Zk rq.kids b hb).2⟩ (YB g1.2.2.2.1 s).2 (YB g2.2.2.2.1 hb).2
 have ae:∀ a b:Kid,a.at_=b.at_->(Z0g f a b).2=true->(Z0g f a b).1.at_=a.at_:=fun a b _ _=> rfl
 have af:∀ a b:WEdit,a.at_=b.at_->(YY a b).2=true->(YY a b).1.at_=a.at_:=fun a b _ h=> Ztu a b h
 refine ⟨fun {t w} ht hc ab=> ?_,fun {t u v} ht hu hv=> ?_⟩
 .cases hm:Zf WEdit.at_ YY p.words q.words with
  | none=> grind
  | some L=>
   cases hn:Zf KidOf.at_ (Z0g f) p.kids q.kids with
   | none=> grind
   | some M=>
    rw [hm,hn] at ab
    rw [if_pos (show (some L).isSome=true from rfl)] at ab
    rw [Ztn] at ab
    split at ab
    .rename_i t1
     obtain ⟨a,s,ab⟩:=Qn.1 ab
     obtain ⟨b,hb,rfl⟩:=Qd.1 ab
     have s:wsD t.words L t.words=some a:=s
     have hb:JC false t.kids M t.kids=some b:=hb
     rw [Zbi] at s
     rw [Z8n] at hb
     obtain ⟨a1,a2,x1,x2,x3⟩:=ZkW (R:=Eq) af (fun x=> rfl) wp wq (fun a s b hb e w hc ah=> (hw a s b hb _ (ZkF (ZkX ht.2).2.1 _)).1 w hc ah) hm s
     obtain ⟨b1,b2,y1,y2,y3⟩:=ZkW (R:=Eqv) ae (fun x=> rfl) ap aq (fun a s b hb e w hc ah=> (hk a s b hb).fwd (Zey (Zm6 ht) _) hc ah) hn hb
     refine ⟨.mk 1 a1 b1,.mk 1 a2 b2,?_,?_,?_⟩
     .rw [Zov k2,if_pos t1,Zbi,x1,Z8n,y1];try rfl
     .rw [Zov l2,if_pos (show (Tree.mk 1 a1 b1).kind=1 from rfl)]
      simp only [Tree.words_mk,Tree.kids_mk]
      rw [Zbi,x2,Z8n,y2];try rfl
     .exact (Z4x rfl rfl).2 ⟨x3,y3⟩
    .cases ab
 .rw [Zov k2] at hu
  split at hu
  .rename_i t1
   obtain ⟨a1,x1,hu⟩:=Qn.1 hu
   obtain ⟨b1,y1,rfl⟩:=Qd.1 hu
   rw [Zov l2,if_pos (show (Tree.mk 1 a1 b1).kind=1 from rfl)] at hv
   simp only [Tree.words_mk,Tree.kids_mk] at hv
   obtain ⟨a2,x2,hv⟩:=Qn.1 hv
   obtain ⟨b2,y2,rfl⟩:=Qd.1 hv
   rw [Zbi] at x1 x2
   rw [Z8n] at y1 y2
   obtain ⟨L,a,hm,s,x3⟩:=ZrF (R:=Eq) af (fun x=> rfl) wp wq (fun a s b hb e u v h1 h2=> (hw a s b hb _ (ZkF (ZkX ht.2).2.1 _)).2 u v h1 h2) x1 x2
   obtain ⟨M,b,hn,hb,y3⟩:=ZrF (R:=Eqv) ae (fun x=> rfl) ap aq (fun a s b hb e u v h1 h2=> (hk a s b hb).bwd (Zey (Zm6 ht) _) h1 h2) y1 y2
   rw [hm,hn,if_pos (show (some L).isSome=true from rfl)]
   refine ⟨rfl,.mk 1 a b,?_,(Z4x rfl rfl).2 ⟨x3,y3⟩⟩
   rw [Ztn,if_pos t1]
   show (wsD t.words L t.words).bind _=_
   rw [Zbi,s]
   show (JC false t.kids M t.kids).map _=_
   rw [Z8n,hb];try rfl
  .cases hu
theorem ZvC {p q:Edit} {d d':Int} (hp:Z1 p d=true) (hq:Z1 q d'=true) (p0:¬p.kind=0) (p1:¬p.kind=1) (q0:¬q.kind=0) (q1:¬q.kind=1) (hd:p.kind≠q.kind\/p.list≠q.list)
  {t u v:Tree} (hu:doE false p t=some u) (hv:doE false q u=some v):False:=by
 have rp:=Zd hp
 have h:=Zd hq
 have pk:=rp.kind
 have qk:=h.kind
 obtain ⟨_,s,a3,_⟩:=Z71 hp hu
 obtain ⟨_,b2,b3,_⟩:=Z71 hq hv
 by_cases p2:p.kind=2
 .have u1:=(s p2).1
  by_cases q2:q.kind=2
  .have e1:=(rp.ops0 V1).1
   have e2:=(h.ops0 V1).1
   omega
  .have e1:=(b3 V1).2
   have e2:=h.list V1
   omega
 .have u1:=(a3 V1).1
  have e0:=rp.list V1
  grind
theorem ZD8:∀ (n:Nat) (p q:Edit) (d d':Int),Z0 p+Z0 q<=n->Z1 p d=true->Z1 q d'=true->ZX p->ZX q->ComOk (Z7k n p q) p q:=by
 intro n
 induction n with
 | zero=> intro p q d d' h;obtain ⟨k,o,nw,w,ks,l,os⟩:=p;simp only [Z0] at h;omega
 | succ n ih=>
  intro p q d d' hn hp hq gp gq
  have rp:=Zd hp
  have rq:=Zd hq
  have ah:∀ a b,Z0 a+Z0 b < Z0 p+Z0 q->(∃ d,Z1 a d=true)->(∃ d,Z1 b d=true)->ZX a->ZX b->ComOk (Z7k n a b) a b:=by
   rintro a b hm ⟨d1,h1⟩ ⟨d2,h2⟩ g1 g2
   exact ih a b d1 d2 V1 h1 h2 g1 g2
  show ComOk (JW (Z7k n) p q) p q
  unfold JW
  by_cases p0:p.kind=0
  .rw [if_pos p0]
   exact ⟨fun {t w} _ _ hw=> ⟨t,w,Zqz p0 t,hw,rfl⟩,fun {t u v} _ hu s=> by rw [Zqz p0] at hu;cases hu;exact ⟨rfl,v,s,rfl⟩⟩
  rw [if_neg p0]
  by_cases q0:q.kind=0
  .rw [if_pos q0]
   exact ⟨fun {t w} _ _ hw=> ⟨w,w,hw,Zqz q0 w,rfl⟩,fun {t u v} _ hu s=> by rw [Zqz q0] at s;cases s;exact ⟨rfl,u,hu,rfl⟩⟩
  rw [if_neg q0]
  by_cases p1:p.kind=1
  .rw [if_pos p1]
   refine ⟨fun {t w} _ hc hw=> ?_,fun {t u v} _ hu s=> ?_⟩
   .rw [Zto] at hw
    split at hw
    .rename_i hs
     cases s:doE false q p.new with
     | none=> rw [Zoz s] at hc;cases hc
     | some v=>
      rw [Zdb s] at hw
      cases hw
      exact ⟨p.new,v,by rw [Zvu p1,if_pos hs],s,Zor v⟩
    .cases hw
   .rw [Zvu p1] at hu
    split at hu
    .rename_i hs
     cases hu
     rw [Zdb s]
     refine ⟨rfl,Z6 v,?_,Zor v⟩
     rw [Zto,if_pos hs]
    .cases hu
  rw [if_neg p1]
  by_cases q1:q.kind=1
  .rw [if_pos q1]
   have ho:RT_ q.old:=⟨⟨_,(rq.rep q1).1⟩,(ZB gq).1⟩
   refine ⟨fun {t w} ht hc hw=> ?_,fun {t u v} ht hu s=> ?_⟩
   .rw [Zto] at hw
    split at hw
    .rename_i hs
     cases hw
     cases hz:doE false (Zp (Zt p)) q.old with
     | none=> rw [Zoz hz] at hc;cases hc
     | some z=>
      rw [Zdb hz,Yk,J9] at hs
      obtain ⟨y,hy,aq⟩:=ZmO hp gp ho hz hs
      refine ⟨y,q.new,hy,?_,rfl⟩
      rw [Zvu q1,if_pos]
      rw [Yk]
      exact aq.symm
    .cases hw
   .rw [Zvu q1] at s
    split at s
    .rename_i hs
     cases s
     rw [Yk] at hs
     obtain ⟨z,hz,ao⟩:=ZmN hp gp ht ho hu hs.symm
     rw [Zdb hz]
     refine ⟨rfl,q.new,?_,rfl⟩
     rw [Zto,if_pos]
     rw [Yk,J9]
     exact ao
    .cases s
  rw [if_neg q1]
  have pk:=rp.kind
  have qk:=rq.kind
  by_cases hd:p.kind≠q.kind\/p.list≠q.list
  .rw [if_pos hd]
   exact ⟨fun {t w} _ hc _=> (by cases hc),fun {t u v} _ hu s=> (ZvC hp hq p0 p1 q0 q1 hd hu s).elim⟩
  rw [if_neg hd]
  by_cases p2:p.kind=2
  .rw [if_pos p2]
   exact ZqG hp hq gp gq p2 V1 ah
  .rw [if_neg p2]
   exact ZAb hp hq gp gq V1 V1 V1 ah
theorem ZAa{p q:Edit}{d d':Int}(hp:Z1 p d=true)(hq:Z1 q d'=true)(gp:ZX p)(gq:ZX q):ComOk (YA p q) p q:=ZD8 _ p q d d' (Q9 _) hp hq gp gq
theorem Ze1(list:Int):∀ (a b:List Op) (w:Wst),Zv list (a++b) w=Zv list b (Zv list a w)
 | [],_,_=> rfl
 | o ::r,b,w=> by simp only [Qj,Zv,Ze1 list r b]
theorem Zvq(x:List Op):(Zb ⟨x,[],[]⟩).out=x:=by simp [Zb,JZ]
theorem Zog(w:Wst)(a b:Int):Y2 (Y2 w a) b=Y2 w (a+b):=by
 unfold Y2
 rw [Zvq,Zfs]
theorem Zkb(list:Int):∀ (n:Nat) (w:Wst),Zv list (List.replicate (n+1) ⟨0,1,[],Edit.nil⟩) w=Y2 w ((n:Int)+1)
 | 0,w=> by rfl
 | n+1,w=> by
  rw [Xz,Zv,YV,if_pos rfl,Zkb list n,Zog]
  grind
theorem Zke(list:Int):∀ (l:List Tree) (w:Wst),Zv list (l.map fun t=> ⟨1,0,[t],Edit.nil⟩) w=⟨w.out,w.gone++Z8 l,w.brought⟩
 | [],w=> by simp [Zv,Z8]
 | t ::r,w=> by
  rw [Qm,Zv,Zke list r,YV,if_neg (show ¬(1:Int)=0 by decide),if_pos rfl]
  simp [Z8]
theorem Zkr(list:Int):∀ (l:List Tree) (w:Wst),Zv list (l.map fun t=> ⟨2,0,[t],Edit.nil⟩) w=⟨w.out,w.gone,w.brought++Z8 l⟩
 | [],w=> by simp [Zv,Z8]
 | t ::r,w=> by
  rw [Qm,Zv,Zkr list r,YV,if_neg (show ¬(2:Int)=0 by decide),if_neg (show ¬(2:Int)=1 by decide),if_pos rfl]
  simp [Z8]
def ux(o:Op):List Op:=(J5 0 0 o).map opU
theorem Zxg(i a:Int)(o:Op):(J5 i a o).map opU=ux o:=by
 simp only [ux,J5,XB,QO]
 congr 1
 .split <;> simp [opU]
 .congr 1
  split <;> simp [opU]
theorem Z5I(u:AUnit):(opU u).kind=u.kind:=by
 unfold opU
 grind
theorem Zxi{o:Op}(h:ZZ o)(k:o.kind=0):ux o=List.replicate o.n.toNat ⟨0,1,[],Edit.nil⟩/\1<=o.n:=by
 have hl:o.l=[]:=by rcases h with h | h | h <;> first | exact h.2.1 | omega
 refine ⟨?_,by rcases h with h | h | h <;> omega⟩
 simp only [ux,J5,hl,if_pos k]
 rw [Jv]
 simp [opU]
theorem Z2o{o:Op}(k:o.kind=1\/o.kind=2):ux o=o.l.map fun t=> ⟨o.kind,0,[t],Edit.nil⟩:=by
 simp only [ux,J5]
 rw [Jv,Jv]
 simp only [Qo,Qi,QO]
 refine List.map_congr_left fun t _=> ?_
 simp only [Function.comp,opU]
 grind
theorem Zgk{o:Op}(h:ZZ o)(k:o.kind=3):ux o=[⟨3,0,[],o.e⟩]/\o=⟨3,0,[],o.e⟩:=by
 have hl:o.l=[]/\o.n=0:=by rcases h with h | h | h <;> first | exact ⟨h.2.2,h.2.1⟩ | omega
 constructor
 .simp only [ux,J5,hl.1]
  rw [Jv,if_pos k]
  simp [opU]
 .obtain ⟨a,b,c,d⟩:=o
  grind
theorem ZfQ{o x:Op}(h:x∈ux o):x.kind=o.kind:=by
 simp only [ux,Qy] at h
 obtain ⟨u,d,rfl⟩:=h
 rw [Z5I]
 simp only [J5,Qg,Qy] at d
 grind
theorem ZFS(list:Int){o:Op}(h:ZZ o)(w:Wst):Zv list (ux o) w=Z04 list o w:=by
 rcases Y8 h with k | k | k | k
 .obtain ⟨e,s⟩:=Zxi h k.1
  rw [e,YV,if_pos k.1]
  obtain ⟨m,d⟩:∃ m:Nat,o.n.toNat=m+1:=⟨o.n.toNat - 1,V1⟩
  rw [d,Zkb]
  congr 1;omega
 .rw [Z2o (.inl k),k,Zke,YV,Jv,if_pos k]
 .rw [Z2o (.inr k),k,Zkr,YV,Jv,Jv,if_pos k]
 .obtain ⟨e1,e2⟩:=Zgk h k
  rw [e1]
  conv=> rhs;rw [e2]
  try rfl
noncomputable def rp(f:Edit->Edit->Edit × Bool)(x:APair):List Op × Bool:=
 if x.of=1 then ([opU x.p],true) else if x.of=2 then ([opU x.q],true) else Z0E f x.p x.q
theorem Z0B(f:Edit->Edit->Edit × Bool)(x:APair)(r:List APair):YI f (x ::r)=if (rp f x).2 then (YI f r).map ((rp f x).1++·) else none:=by
 rw [YI,rp]
 grind
theorem ZdG(f:Edit->Edit->Edit × Bool):∀ (a b:List APair),YI f (a++b)=(YI f a).bind fun l=> (YI f b).map (l++·)
 | [],b=> by
  rw [Qo,YI,Qb]
  simp_all
 | x ::a,b=> by
  rw [Qj,Z0B,Z0B,ZdG f a b]
  split
  .cases YI f a with
   | none=> rfl
   | some l=> cases YI f b <;> simp
  .try rfl
theorem ZdH(f:Edit->Edit->Edit × Bool)(h:APair->Op):∀ (m:List APair),(∀ y∈m,rp f y=([h y],true))->YI f m=some (m.map h)
 | [],_=> rfl
 | y ::r,hy=> by
  rw [Z0B,hy y Q1,ZdH f h r fun z d=> hy z (Q0 _ d)]
  try rfl
theorem Z2T{o:Op}{a:Int}{l:List AUnit}(h:Z7d o a l):l.map opU=ux o:=by
 unfold Z7d at h
 rw [Zgo,Zxg] at h
 exact h.symm
theorem ZK1{k:Int}{u:AUnit}(hk:u.kind=k)(h:k=1\/k=2):opU u=⟨k,0,[u.t],Edit.nil⟩:=by
 unfold opU
 grind
theorem Z22{k:Int}(hk:k=1\/k=2):∀ {l:List Tree} {m:List AUnit},m.map opU=l.map (fun t=> (⟨k,0,[t],Edit.nil⟩:Op))->l=m.map AUnit.t/\∀ u∈m,u.kind=k
 | [],[],_=> ⟨rfl,fun u s=> (by cases s)⟩
 | [],_ ::_,h=> by simp at h
 | _ ::_,[],h=> by simp at h
 | t ::l,u ::m,h=> by
  simp only [Qm,List.cons.injEq] at h
  obtain ⟨i1,i2⟩:=Z22 hk h.2
  have d:u.kind=k:=by have:=congrArg OpOf.kind h.1;rwa [Z5I] at this
  have e:=h.1
  rw [ZK1 d hk] at e
  grind
theorem ZdF(f:Edit->Edit->Edit × Bool):∀ (m:List APair),(∀ y∈m,y.of=0/\y.p.kind=2/\y.q.kind=1)->
  ((Z8 (m.map fun y=> y.p.t)=Z8 (m.map fun y=> y.q.t)->YI f m=some [])/\(¬Z8 (m.map fun y=> y.p.t)=Z8 (m.map fun y=> y.q.t)->YI f m=none))
 | [],_=> ⟨fun _=> rfl,fun h=> absurd rfl h⟩
 | y ::r,h=> by
  obtain ⟨h0,h1,h2⟩:=h y Q1
  obtain ⟨s,i2⟩:=ZdF f r fun z hz=> h z (Q0 _ hz)
  have e:rp f y=([],YM (Z6 y.p.t) (Z6 y.q.t)):=by
   unfold rp Z0E
   grind
  have hc:Z8 ((y ::r).map fun y=> y.p.t)=Z8 ((y ::r).map fun y=> y.q.t)↔Z6 y.p.t=Z6 y.q.t/\Z8 (r.map fun y=> y.p.t)=Z8 (r.map fun y=> y.q.t):=by
   simp [Z8]
  rw [hc,Z0B,e]
  dsimp only
  refine ⟨fun d=> ?_,fun d=> ?_⟩
  .rw [if_pos (Yk.2 d.1),s d.2];try rfl
  .by_cases ht:Z6 y.p.t=Z6 y.q.t
   .grind
   .rw [if_neg (by rw [Yk];exact ht)]
structure Alike (c r:Edit × Bool):Prop where
 ok:c.2=r.2
 nrm:c.2=true->Zp c.1=Zp r.1
theorem Zyx{list:Int}{e f:Edit}(h:Zp e=Zp f)(w:Wst):Z04 list ⟨3,0,[],e⟩ w=Z04 list ⟨3,0,[],f⟩ w:=by
 rw [YV,YV]
 grind
theorem ZpI {f g:Edit->Edit->Edit × Bool} {alone:Int} {x:Piece} {m:List APair} (hof:x.of=0\/x.of=1\/x.of=2) (hm:m≠[]) (ha:∀ y∈m,y.of=x.of)
  (hp:x.of≠2->ZZ x.p/\Z2 x.p=m.length/\Z7d x.p alone (m.map APair.p)) (hq:x.of≠1->ZZ x.q/\Z2 x.q=m.length/\Z7d x.q 2 (m.map APair.q))
  (hb:x.of=0->x.p.kind≠1/\x.q.kind≠2) (hf:x.of=0->x.p.kind=3->x.q.kind=3->Alike (f x.p.e x.q.e) (g x.p.e x.q.e)):
  (Zx f x).ok=(YI g m).isSome/\∀ L,YI g m=some L->∀ list w,Zv list (if (Zx f x).is then [(Zx f x).op] else []) w=Zv list L w:=by
 have d:∀ (o:Op),ZZ o->∀ (h:APair->Op),(∀ y∈m,rp g y=([h y],true))->m.map h=ux o->Zx f x=⟨o,true,true⟩->
   (Zx f x).ok=(YI g m).isSome/\∀ L,YI g m=some L->∀ list w,Zv list (if (Zx f x).is then [(Zx f x).op] else []) w=Zv list L w:=by
  intro o ho h h1 h2 h3
  rw [ZdH g h m h1,h2,h3]
  refine ⟨rfl,fun L hL list w=> ?_⟩
  cases hL
  rw [ZFS list ho]
  try rfl
 by_cases c1:x.of=1
 .obtain ⟨o1,o2,o3⟩:=hp V1
  refine d x.p o1 (fun y=> opU y.p) (fun y s=> ?_) ?_ (by unfold Zx;grind)
  .unfold rp;grind
  .rw [<-Z2T o3,QO];try rfl
 by_cases c2:x.of=2
 .obtain ⟨o1,o2,o3⟩:=hq V1
  refine d x.q o1 (fun y=> opU y.q) (fun y s=> ?_) ?_ (by unfold Zx;grind)
  .unfold rp;grind
  .rw [<-Z2T o3,QO];try rfl
 have c0:x.of=0:=V1
 obtain ⟨p1,p2,p3⟩:=hp V1
 obtain ⟨q1,q2,q3⟩:=hq V1
 obtain ⟨b1,b2⟩:=hb c0
 have up:=Z2T p3
 have uq:=Z2T q3
 have kp:∀ y∈m,y.p.kind=x.p.kind:=fun y s=> by
  have:opU y.p∈ux x.p:=by rw [<-up];exact X8 (X8 s)
  rw [<-Z5I];exact ZfQ this
 have kq:∀ y∈m,y.q.kind=x.q.kind:=fun y s=> by
  have:opU y.q∈ux x.q:=by rw [<-uq];exact X8 (X8 s)
  rw [<-Z5I];exact ZfQ this
 have hr:∀ y∈m,rp g y=Z0E g y.p y.q:=fun y s=> by
  unfold rp;grind
 by_cases q0:x.q.kind=0
 .refine d x.p p1 (fun y=> opU y.p) (fun y s=> ?_) ?_ (by unfold Zx;grind)
  .rw [hr y s,Z0E,if_pos (by grind)]
  .rw [<-up,QO];try rfl
 by_cases p0:x.p.kind=0
 .refine d x.q q1 (fun y=> opU y.q) (fun y s=> ?_) ?_ (by unfold Zx;grind)
  .rw [hr y s,Z0E,if_neg (by grind),if_pos (by grind)]
  .rw [<-uq,QO];try rfl
 have av:x.p.kind=2\/x.p.kind=3:=by rcases Y8 p1 with k | k | k | k <;> omega
 have ba:x.q.kind=1\/x.q.kind=3:=by rcases Y8 q1 with k | k | k | k <;> omega
 by_cases pq:x.p.kind=2/\x.q.kind=1
 .obtain ⟨t1,_⟩:=Z22 (k:=2) (.inr rfl) (l:=x.p.l) (m:=m.map APair.p) (by rw [up,Z2o (.inr pq.1),pq.1])
  obtain ⟨t2,_⟩:=Z22 (k:=1) (.inl rfl) (l:=x.q.l) (m:=m.map APair.q) (by rw [uq,Z2o (.inl pq.2),pq.2])
  rw [QO] at t1 t2
  have hc:Zx f x=⟨Op.nil,false,Zeq x.p.l x.q.l⟩:=by
   unfold Zx
   rw [Jv,Jv,if_pos pq]
   congr 1
   rw [Qq (by rw [t1,t2];simp)]
  obtain ⟨e1,e2⟩:=ZdF g m fun y s=> ⟨by grind,by grind,by grind⟩
  rw [hc]
  dsimp only
  unfold Zeq
  rw [t1,t2]
  by_cases he:Z8 (m.map fun y=> y.p.t)=Z8 (m.map fun y=> y.q.t)
  .rw [e1 he]
   refine ⟨Z07.2 he,fun L hL list w=> ?_⟩
   grind
  .rw [e2 he]
   refine ⟨?_,fun L hL=> by cases hL⟩
   rw [Option.isSome_none,<-Xx,Z07]
   exact he
 have ak:m.length=1:=by
  have:Z2 x.p=1\/Z2 x.q=1:=by
   by_cases h:x.p.kind=3
   .exact .inl (JS h)
   .exact .inr (JS V1)
  omega
 obtain ⟨y,rfl⟩:∃ y,m=[y]:=by
  match m,ak with
  | [y],_=> grind
 have ky:=kp y Q1
 have kz:=kq y Q1
 have e1:YI g [y]=if (Z0E g y.p y.q).2 then some (Z0E g y.p y.q).1 else none:=by
  rw [Z0B,hr y Q1]
  split
  .simp [YI]
  .try rfl
 rw [e1]
 simp only [Qm,QJ] at up uq
 by_cases p2':x.p.kind=2
 .have ab:x.q.kind=3:=V1
  rw [Z2o (.inr p2')] at up
  obtain ⟨e2,_⟩:=Zgk q1 ab
  rw [e2] at uq
  have et:x.p.l=[y.p.t]:=by
   have:=(Z22 (k:=2) (.inr rfl) (l:=x.p.l) (m:=[y.p]) (by grind)).1
   simpa using this
  have ee:y.q.e=x.q.e:=by
   have:=List.cons.inj uq
   have h:=this.1
   unfold opU at h
   rw [Jv,V0] at h
   injection h
  have hc:Zx f x=⟨⟨2,0,[YP (doE true y.q.e y.p.t)],Edit.nil⟩,true,(doE true y.q.e y.p.t).isSome⟩:=by
   unfold Zx
   rw [Jv,Jv,if_neg pq,if_pos p2',et,ee]
   simp only [Qr,doB,Z67,Xr]
  have hu:Z0E g y.p y.q=([⟨2,0,[YP (doE true y.q.e y.p.t)],Edit.nil⟩],(doE true y.q.e y.p.t).isSome):=by
   unfold Z0E
   grind
  grind
 have af:x.p.kind=3:=V1
 obtain ⟨e2,_⟩:=Zgk p1 af
 rw [e2] at up
 have am:y.p.e=x.p.e:=by
  have h:=(List.cons.inj up).1
  unfold opU at h
  rw [Jv,V0] at h
  injection h
 by_cases q1':x.q.kind=1
 .rw [Z2o (.inl q1')] at uq
  have et:x.q.l=[y.q.t]:=by
   have:=(Z22 (k:=1) (.inl rfl) (l:=x.q.l) (m:=[y.q]) (by grind)).1
   simpa using this
  have hc:Zx f x=⟨⟨1,0,[YP (doE true (Zp (Zt y.p.e)) y.q.t)],Edit.nil⟩,true,(doE true (Zp (Zt y.p.e)) y.q.t).isSome⟩:=by
   unfold Zx
   rw [Jv,Jv,if_neg pq,if_neg p2',if_pos q1',et,am]
   simp only [Qr,doB,Z67,Xr]
  have hu:Z0E g y.p y.q=([⟨1,0,[YP (doE true (Zp (Zt y.p.e)) y.q.t)],Edit.nil⟩],(doE true (Zp (Zt y.p.e)) y.q.t).isSome):=by
   unfold Z0E
   grind
  grind
 have ab:x.q.kind=3:=V1
 obtain ⟨e3,_⟩:=Zgk q1 ab
 rw [e3] at uq
 have a7:y.q.e=x.q.e:=by
  have h:=(List.cons.inj uq).1
  unfold opU at h
  rw [Jv,V0] at h
  injection h
 have hc:Zx f x=⟨⟨3,0,[],(f x.p.e x.q.e).1⟩,true,(f x.p.e x.q.e).2⟩:=by
  unfold Zx
  grind
 have hu:Z0E g y.p y.q=([⟨3,0,[],(g x.p.e x.q.e).1⟩],(g x.p.e x.q.e).2):=by
  unfold Z0E
  grind
 obtain ⟨a1,a2⟩:=hf c0 af ab
 rw [hc,hu]
 dsimp only
 rw [<-a1]
 by_cases hs:(f x.p.e x.q.e).2=true
 .rw [if_pos hs]
  refine ⟨hs,fun L hL list w=> ?_⟩
  cases hL
  rw [if_pos rfl,Zv,Zv,Zyx (a2 hs)]
  try rfl
 grind
theorem Zc7{f g:Edit->Edit->Edit × Bool}{alone:Int}{p0 q0:List Op}:∀ {ps:List Piece} {m:List APair},Zex alone ps m->(∀ x∈ps,POk p0 q0 x)->
  (∀ x∈ps,x.of=0->x.p.kind=3->x.q.kind=3->Alike (f x.p.e x.q.e) (g x.p.e x.q.e))->
  (Jx f ps).isSome=(YI g m).isSome/\∀ a b,Jx f ps=some a->YI g m=some b->∀ list w,Zv list a w=Zv list b w
 | [],m,h,_,_=> by
  have h:m=[]:=h
  subst h
  refine ⟨rfl,fun a b d hb=> ?_⟩
  cases d;cases hb
  simp
 | x ::r,m,h,hok,hf=> by
  rw [Z31] at h
  obtain ⟨m1,m2,rfl,hm,⟨ae,_,d,hp,hq⟩,hr⟩:=h
  obtain ⟨i1,i2⟩:=Zc7 hr (fun y hy=> hok y (Q0 _ hy)) fun y hy=> hf y (Q0 _ hy)
  have hx:=hok x Q1
  obtain ⟨j1,j2⟩:=ZpI (f:=f) (g:=g) ae hm d (fun h=> ⟨(hp h).1,(hp h).2.2⟩) (fun h=> ⟨(hq h).1,(hq h).2.2⟩) (fun h=> ⟨(hx.both h).1,(hx.both h).2.1⟩) (hf x Q1)
  rw [Jx,ZdG]
  cases hs:YI g m1 with
  | none=>
   grind
  | some L=>
   rw [hs] at j1
   rw [if_pos (by rw [j1];rfl),Qb,Xr,Xr]
   refine ⟨i1,fun a b d hb list w=> ?_⟩
   obtain ⟨a',s,rfl⟩:=Qd.1 d
   obtain ⟨b',ab,rfl⟩:=Qd.1 hb
   rw [Ze1,Ze1,j2 L hs,i2 a' b' s ab]
theorem Zo5 {f g:Edit->Edit->Edit × Bool} {p q:List Op} (hp:okL p) (hq:okL q)
  (hf:∀ a b:Op,Part p a->Part q b->a.kind=3->b.kind=3->Alike (f a.e b.e) (g a.e b.e)):
  (Z09 f p q).isSome=(Z4Q g p q).isSome/\∀ a b,Z09 f p q=some a->Z4Q g p q=some b->∀ list w,Zv list a w=Zv list b w:=by
 obtain ⟨ok,l,m,e1,e2,e3,e4⟩:=ZnD 1 (.inl rfl) _ p q [] (ZO 0 1 p) (ZO 0 2 q) [] (Q9 _) hp hq (Z5q 1 p 0) (Z5q 2 q 0)
 obtain ⟨i1,_⟩:=Z4m _ p q [] (Q9 _) (fun o h=> (hp o h).1) (fun o h=> (hq o h).1)
 unfold Z09 Z4Q
 rw [e2,e3,e1]
 cases ok with
 | false=> grind
 | true=>
  obtain ⟨ps,e,d,_,_⟩:=i1 e2
  rw [e1,if_pos rfl] at e
  simp only [Qo] at e
  subst e
  simp only [if_true,Qo]
  exact Zc7 (e4 rfl).1 d fun x s h0 h1 h2=> hf x.p x.q ((d x s).pp V1).1 ((d x s).qq V1).1 h1 h2
theorem Zkc{last n:Int}(hn:n<=last){l:List WEdit}(h:asc WEdit.at_ last l):Z2C l n=none:=by
 unfold Z2C
 rw [List.find?_eq_none]
 intro w d
 have:=Z2M h w d
 grind
theorem Z3N(a:WEdit)(r:List WEdit):Z2C (a ::r) a.at_=some a:=by simp [Z2C]
theorem Z3M{a:WEdit}{n:Int}(h:a.at_ < n)(r:List WEdit):Z2C (a ::r) n=Z2C r n:=by
 unfold Z2C
 grind
theorem Z4r(l:List Int):YJ l []=l:=by cases l <;> rw [YJ]
theorem Z8Y:∀ (k:Nat) (a b:List Int) (d:Int),a.length+b.length<=k->asc id d a->asc id d b->∀ n∈YJ a b,d < n:=by
 intro k
 induction k with
 | zero=>
  intro a b d hk ha hb n h
  have e1:a=[]:=Q3 V1
  have e2:b=[]:=Q3 V1
  subst e1 e2
  rw [YJ] at h;cases h
 | succ k ih=>
  intro a b d hk ha hb n h
  match a,b with
  | [],b=> rw [YJ] at h;exact Z2M hb n h
  | x ::a,[]=> rw [Z4r] at h;exact Z2M ha n h
  | x ::a,y ::b=>
   simp only [Q8] at hk
   have h1:d < x:=ha.1
   have h2:d < y:=hb.1
   rw [YJ] at h
   split at h
   .rename_i s
    rcases Qa.1 h with rfl | h
    .exact h1
    .have:=ih a (y ::b) x (by grind) ha.2 ⟨s,hb.2⟩ n h;omega
   .split at h
    .rename_i s
     rcases Qa.1 h with rfl | h
     .exact h2
     .have:=ih (x ::a) b y (by grind) ⟨s,ha.2⟩ hb.2 n h;omega
    .have s:x=y:=V1
     subst s
     rcases Qa.1 h with rfl | h
     .exact h1
     .have:=ih a b x V1 ha.2 hb.2 n h;omega
theorem Z0a{β:Type}{at_:β->Int}:∀ {l:List β} {last:Int},asc at_ last l->asc id last (l.map at_)
 | [],_,_=> trivial
 | _ ::_,_,h=> ⟨h.1,Z0a h.2⟩
theorem Z1R{p q p' q':List WEdit}:∀ {l:List Int},(∀ n∈l,Z2C p n=Z2C p' n/\Z2C q n=Z2C q' n)->Z0p p q l=Z0p p' q' l
 | [],_=> rfl
 | n ::r,h=> by
  rw [Z0p,Z0p,(h n Q1).1,(h n Q1).2,Z1R fun m d=> h m (Q0 _ d)]
theorem Zhf:∀ {p:List WEdit} {last:Int},asc WEdit.at_ last p->Z0p p [] (p.map WEdit.at_)=some p
 | [],_,_=> rfl
 | a ::r,last,h=> by
  rw [Qm,Z0p,Z3N,show Z2C [] a.at_=none from rfl]
  dsimp only
  rw [Z1R (p':=r) (q':=[]) (fun n d=> ⟨Z3M (Z2M (Z0a h.2) n d) r,rfl⟩),Zhf h.2]
  try rfl
theorem ZeU:∀ {q:List WEdit} {last:Int},asc WEdit.at_ last q->Z0p [] q (q.map WEdit.at_)=some q
 | [],_,_=> rfl
 | a ::r,last,h=> by
  rw [Qm,Z0p,Z3N,show Z2C [] a.at_=none from rfl]
  dsimp only
  rw [Z1R (p':=[]) (q':=r) (fun n d=> ⟨rfl,Z3M (Z2M (Z0a h.2) n d) r⟩),ZeU h.2]
  try rfl
theorem ZeV:∀ (k:Nat) (p q:List WEdit) (d:Int),p.length+q.length<=k->asc WEdit.at_ d p->asc WEdit.at_ d q->
  Z0p p q (YJ (p.map WEdit.at_) (q.map WEdit.at_))=Zf WEdit.at_ YY p q:=by
 intro k
 induction k with
 | zero=>
  intro p q d hk h s
  have e1:p=[]:=Q3 V1
  have e2:q=[]:=Q3 V1
  subst e1 e2
  rw [QJ,YJ,Zf];try rfl
 | succ k ih=>
  intro p q d hk h s
  match p,q with
  | [],q=> rw [QJ,YJ,Zf,ZeU s]
  | a ::p,[]=> rw [QJ,Z4r,Zf,Zhf h]
  | a ::p,b ::q=>
   simp only [Q8] at hk
   rw [Qm,Qm,YJ,Zf]
   by_cases h1:a.at_ < b.at_
   .rw [if_pos h1,if_pos h1,Z0p,Z3N,Zkc (QS _) (l:=b ::q) ⟨h1,s.2⟩]
    dsimp only
    have hb:asc WEdit.at_ a.at_ (b ::q):=⟨h1,s.2⟩
    rw [show b.at_ ::q.map WEdit.at_=(b ::q).map WEdit.at_ from rfl]
    rw [Z1R (p':=p) (q':=b ::q) (fun n hn=> ⟨Z3M (Z8Y _ _ _ a.at_ (Q9 _) (Z0a h.2) (Z0a hb) n hn) p,rfl⟩)]
    rw [ih p (b ::q) a.at_ (by simp only [Q8];omega) h.2 hb]
   .rw [if_neg h1,if_neg h1]
    by_cases h2:b.at_ < a.at_
    .rw [if_pos h2,if_pos h2,Z0p,Z3N,Zkc (QS _) (l:=a ::p) ⟨h2,h.2⟩]
     dsimp only
     have ha:asc WEdit.at_ b.at_ (a ::p):=⟨h2,h.2⟩
     rw [show a.at_ ::p.map WEdit.at_=(a ::p).map WEdit.at_ from rfl]
     rw [Z1R (p':=a ::p) (q':=q) (fun n hn=> ⟨rfl,Z3M (Z8Y _ _ _ b.at_ (Q9 _) (Z0a ha) (Z0a s.2) n hn) q⟩)]
     rw [ih (a ::p) q b.at_ (by simp only [Q8];omega) ha s.2]
    .rw [if_neg h2,if_neg h2,Z0p]
     have e:a.at_=b.at_:=V1
     have aa:asc WEdit.at_ a.at_ q:=by rw [e];exact s.2
     rw [Z3N,e,Z3N]
     dsimp only
     rw [Z1R (p':=p) (q':=q) (fun n hn=> by
      have:=Z8Y _ _ _ a.at_ (Q9 _) (Z0a h.2) (Z0a aa) n hn
      exact ⟨Z3M this p,Z3M V1 q⟩)]
     rw [ih p q a.at_ V1 h.2 aa]
theorem Zkd{last n:Int}(hn:n<=last){l:List Kid}(h:asc KidOf.at_ last l):Z0x l n=Edit.nil:=by
 unfold Z0x
 rw [List.find?_eq_none.2]
 .try rfl
 .intro w d
  have:=Z2M h w d
  grind
theorem Z3P(a:Kid)(r:List Kid):Z0x (a ::r) a.at_=a.e:=by simp [Z0x]
theorem Z3O{a:Kid}{n:Int}(h:a.at_ < n)(r:List Kid):Z0x (a ::r) n=Z0x r n:=by
 unfold Z0x
 grind
theorem Z1S{g:Edit->Edit->Edit × Bool}{p q p' q':List Kid}:∀ {l:List Int},(∀ n∈l,Z0x p n=Z0x p' n/\Z0x q n=Z0x q' n)->Z03 g p q l=Z03 g p' q' l
 | [],_=> rfl
 | n ::r,h=> by
  rw [Z03,Z03,(h n Q1).1,(h n Q1).2,Z1S fun m d=> h m (Q0 _ d)]
section
variable {g:Edit->Edit->Edit × Bool}
theorem Zhi:∀ {p:List Kid} {last:Int},asc KidOf.at_ last p->(∀ k∈p,g k.e Edit.nil=(k.e,true))->Z03 g p [] (p.map KidOf.at_)=some p
 | [],_,_,_=> rfl
 | a ::r,last,h,hg=> by
  rw [Qm,Z03,Z3P,show Z0x [] a.at_=Edit.nil from rfl,hg a Q1]
  dsimp only
  rw [if_pos rfl,Z1S (p':=r) (q':=[]) (fun n s=> ⟨Z3O (Z2M (Z0a h.2) n s) r,rfl⟩),Zhi h.2 fun k d=> hg k (Q0 _ d)]
  try rfl
theorem ZeW:∀ {q:List Kid} {last:Int},asc KidOf.at_ last q->(∀ k∈q,g Edit.nil k.e=(k.e,true))->Z03 g [] q (q.map KidOf.at_)=some q
 | [],_,_,_=> rfl
 | a ::r,last,h,hg=> by
  rw [Qm,Z03,Z3P,show Z0x [] a.at_=Edit.nil from rfl,hg a Q1]
  dsimp only
  rw [if_pos rfl,Z1S (p':=[]) (q':=r) (fun n s=> ⟨rfl,Z3O (Z2M (Z0a h.2) n s) r⟩),ZeW h.2 fun k d=> hg k (Q0 _ d)]
  try rfl
theorem ZeX:∀ (k:Nat) (p q:List Kid) (d:Int),p.length+q.length<=k->asc KidOf.at_ d p->asc KidOf.at_ d q->(∀ k∈p,g k.e Edit.nil=(k.e,true))->(∀ k∈q,g Edit.nil k.e=(k.e,true))->
  Z03 g p q (YJ (p.map KidOf.at_) (q.map KidOf.at_))=Zf KidOf.at_ (Z0g g) p q:=by
 intro k
 induction k with
 | zero=>
  intro p q d hk h s gp gq
  have e1:p=[]:=Q3 V1
  have e2:q=[]:=Q3 V1
  subst e1 e2
  rw [QJ,YJ,Zf];try rfl
 | succ k ih=>
  intro p q d hk h s gp gq
  match p,q with
  | [],q=> rw [QJ,YJ,Zf,ZeW s gq]
  | a ::p,[]=> rw [QJ,Z4r,Zf,Zhi h gp]
  | a ::p,b ::q=>
   simp only [Q8] at hk
   have af:∀ k∈p,g k.e Edit.nil=(k.e,true):=fun k hk=> gp k (Q0 _ hk)
   have aj:∀ k∈q,g Edit.nil k.e=(k.e,true):=fun k hk=> gq k (Q0 _ hk)
   rw [Qm,Qm,YJ,Zf]
   by_cases h1:a.at_ < b.at_
   .rw [if_pos h1,if_pos h1,Z03,Z3P,Zkd (QS _) (l:=b ::q) ⟨h1,s.2⟩,gp a Q1]
    dsimp only
    have hb:asc KidOf.at_ a.at_ (b ::q):=⟨h1,s.2⟩
    rw [show b.at_ ::q.map KidOf.at_=(b ::q).map KidOf.at_ from rfl]
    rw [if_pos rfl,Z1S (p':=p) (q':=b ::q) (fun n hn=> ⟨Z3O (Z8Y _ _ _ a.at_ (Q9 _) (Z0a h.2) (Z0a hb) n hn) p,rfl⟩)]
    rw [ih p (b ::q) a.at_ (by simp only [Q8];omega) h.2 hb af gq]
   .rw [if_neg h1,if_neg h1]
    by_cases h2:b.at_ < a.at_
    .rw [if_pos h2,if_pos h2,Z03,Z3P,Zkd (QS _) (l:=a ::p) ⟨h2,h.2⟩,gq b Q1]
     dsimp only
     have ha:asc KidOf.at_ b.at_ (a ::p):=⟨h2,h.2⟩
     rw [show a.at_ ::p.map KidOf.at_=(a ::p).map KidOf.at_ from rfl]
     rw [if_pos rfl,Z1S (p':=a ::p) (q':=q) (fun n hn=> ⟨rfl,Z3O (Z8Y _ _ _ b.at_ (Q9 _) (Z0a ha) (Z0a s.2) n hn) q⟩)]
     rw [ih (a ::p) q b.at_ (by simp only [Q8];omega) ha s.2 gp aj]
    .rw [if_neg h2,if_neg h2,Z03]
     have e:a.at_=b.at_:=V1
     have ai:asc KidOf.at_ a.at_ q:=by rw [e];exact s.2
     rw [Z3P,show Z0x (b ::q) a.at_=b.e by rw [e];exact Z3P b q]
     rw [Z1S (p':=p) (q':=q) (fun n hn=> by
      have:=Z8Y _ _ _ a.at_ (Q9 _) (Z0a h.2) (Z0a ai) n hn
      exact ⟨Z3O this p,Z3O V1 q⟩)]
     rw [ih p q a.at_ V1 h.2 ai af aj]
     try rfl
end
theorem Zqt{f g:Edit->Edit->Edit × Bool}:∀ (k:Nat) (p q:List Kid),p.length+q.length<=k->(∀ a∈p,∀ b∈q,Alike (f a.e b.e) (g a.e b.e))->
  (Zf KidOf.at_ (Z0g f) p q).isSome=(Zf KidOf.at_ (Z0g g) p q).isSome/\∀ a b,Zf KidOf.at_ (Z0g f) p q=some a->Zf KidOf.at_ (Z0g g) p q=some b->YR a=YR b:=by
 intro k
 induction k with
 | zero=>
  intro p q hk _
  have e1:p=[]:=Q3 V1
  have e2:q=[]:=Q3 V1
  subst e1 e2
  rw [Zf,Zf]
  grind
 | succ k ih=>
  intro p q hk h
  match p,q with
  | [],q=> rw [Zf,Zf];grind
  | a ::p,[]=> rw [Zf,Zf];grind
  | a ::p,b ::q=>
   simp only [Q8] at hk
   rw [Zf,Zf]
   have step:∀ (x y:Kid) (s t:Option (List Kid)),Z0X x=Z0X y->(s.isSome=t.isSome/\∀ a b,s=some a->t=some b->YR a=YR b)->
     (s.map (x ::·)).isSome=(t.map (y ::·)).isSome/\∀ a b,s.map (x ::·)=some a->t.map (y ::·)=some b->YR a=YR b:=by
    intro x y s t ae ⟨i1,i2⟩
    refine ⟨by grind,fun c d hc hd=> ?_⟩
    obtain ⟨c',ah,rfl⟩:=Qd.1 hc
    obtain ⟨d',af,rfl⟩:=Qd.1 hd
    rw [YR,YR,ae,i2 c' d' ah af]
   by_cases h1:a.at_ < b.at_
   .rw [if_pos h1,if_pos h1]
    exact step a a _ _ rfl (ih p (b ::q) (by grind) fun x hx y hy=> h x (Q0 _ hx) y hy)
   .rw [if_neg h1,if_neg h1]
    by_cases h2:b.at_ < a.at_
    .rw [if_pos h2,if_pos h2]
     exact step b b _ _ rfl (ih (a ::p) q (by grind) fun x hx y hy=> h x hx y (Q0 _ hy))
    .rw [if_neg h2,if_neg h2]
     obtain ⟨o1,o2⟩:=h a Q1 b Q1
     have e:(Z0g f a b).2=(Z0g g a b).2:=o1
     rw [<-e]
     by_cases hc:(Z0g f a b).2=true
     .rw [if_pos hc,if_pos hc]
      refine step _ _ _ _ ?_ (ih p q V1 fun x hx y hy=> h x (Q0 _ hx) y (Q0 _ hy))
      show (⟨a.at_,Zp (f a.e b.e).1⟩:Kid)=⟨a.at_,Zp (g a.e b.e).1⟩
      rw [o2 hc]
     grind
theorem ZbY(n:Nat){e:Edit}(h:e.kind≠0):Z0N (n+1) e Edit.nil=(e,true)/\Z0N (n+1) Edit.nil e=(e,true):=by
 constructor
 .show Z02 _ _ _=_
  unfold Z02
  rw [if_neg h,if_pos (show Edit.nil.kind=0 from rfl)]
 try rfl
theorem ZyA(w:List WEdit)(a:List Kid):Zp (.mk 2 Tree.nil Tree.nil w a 0 [])= .mk 2 Tree.nil Tree.nil w (YR a) 0 []:=by rfl
theorem Zyz(l:Int)(os:List Op):Zp (.mk 3 Tree.nil Tree.nil [] [] l os)= .mk 3 Tree.nil Tree.nil [] [] l (Zb (Zv l os ⟨[],[],[]⟩)).out:=by rfl
theorem ZvD:∀ (n:Nat) (p q:Edit) (d d':Int),Z0 p+Z0 q<=n->n<=18000000000->Z1 p d=true->Z1 q d'=true->Alike (Z7k n p q) (Z0N n p q):=by
 intro n
 induction n with
 | zero=> intro p q d d' h;obtain ⟨k,o,nw,w,ks,l,os⟩:=p;simp only [Z0] at h;omega
 | succ n ih=>
  intro p q d d' hn hN hp hq
  have rp:=Zd hp
  have rq:=Zd hq
  show Alike (JW (Z7k n) p q) (Z02 (Z0N n) p q)
  unfold JW Z02
  by_cases p0:p.kind=0
  .rw [if_pos p0,if_pos p0];exact ⟨rfl,fun _=> rfl⟩
  rw [if_neg p0,if_neg p0]
  by_cases q0:q.kind=0
  .rw [if_pos q0,if_pos q0];exact ⟨rfl,fun _=> rfl⟩
  rw [if_neg q0,if_neg q0]
  have hB:∀ (e:Edit) (t:Tree),doB e t=(YP (doE true e t),(doE true e t).isSome):=fun e t=> by
   unfold doB;rw [Z67,Option.isSome_map]
  by_cases p1:p.kind=1
  .rw [if_pos p1,if_pos p1,hB];exact ⟨rfl,fun _=> rfl⟩
  rw [if_neg p1,if_neg p1]
  by_cases q1:q.kind=1
  .rw [if_pos q1,if_pos q1,hB];exact ⟨rfl,fun _=> rfl⟩
  rw [if_neg q1,if_neg q1]
  by_cases s:p.kind=q.kind
  .by_cases p2:p.kind=2
   .have l1:=(rp.ops0 V1).1
    have l2:=(rq.ops0 V1).1
    rw [Jv,if_neg (show ¬p.kind≠q.kind by omega),if_pos p2,if_pos p2]
    rw [ZeV _ p.words q.words (-1) (Q9 _) (Z00 rp.words) (Z00 rq.words)]
    have am:1<=n\/(p.kids=[]/\q.kids=[]):=by
     by_cases h1:p.kids=[]
     .by_cases h2:q.kids=[]
      .grind
      .obtain ⟨k,s⟩:=Xt _ h2
       have:=ZF s
       left
       obtain ⟨_,⟨k,o,nw,w,ks,l,os⟩⟩:=k
       simp only [Z0] at this
       omega
     .obtain ⟨k,s⟩:=Xt _ h1
      have:=ZF s
      left
      obtain ⟨_,⟨k,o,nw,w,ks,l,os⟩⟩:=k
      simp only [Z0] at this
      omega
    have hm:Z03 (Z0N n) p.kids q.kids (YJ (p.kids.map KidOf.at_) (q.kids.map KidOf.at_))=Zf KidOf.at_ (Z0g (Z0N n)) p.kids q.kids:=by
     rcases am with h | ⟨h1,h2⟩
     .obtain ⟨m,rfl⟩:∃ m,n=m+1:=⟨n - 1,V1⟩
      exact ZeX _ p.kids q.kids (-1) (Q9 _) (Z0F rp.kids) (Z0F rq.kids) (fun k s=> (ZbY m (Zk rp.kids k s).1.2.2).1) (fun k s=> (ZbY m (Zk rq.kids k s).1.2.2).2)
     .rw [h1,h2,QJ,YJ,Zf];try rfl
    rw [hm]
    obtain ⟨i1,i2⟩:=Zqt (f:=Z7k n) (g:=Z0N n) _ p.kids q.kids (Q9 _) fun a ha b hb=> by
     have:=ZF ha
     have:=ZF hb
     exact ih a.e b.e _ _ V1 V1 (Zk rp.kids a ha).2 (Zk rq.kids b hb).2
    cases hw:Zf WEdit.at_ YY p.words q.words with
    | none=> exact ⟨rfl,fun h=> by cases h⟩
    | some L=>
     rw [if_pos (show (some L).isSome=true from rfl)]
     cases hf:Zf KidOf.at_ (Z0g (Z7k n)) p.kids q.kids with
     | none=>
      rw [hf] at i1
      cases hg:Zf KidOf.at_ (Z0g (Z0N n)) p.kids q.kids with
      | none=> exact ⟨rfl,fun h=> by cases h⟩
      | some b=> grind
     | some a=>
      rw [hf] at i1
      cases hg:Zf KidOf.at_ (Z0g (Z0N n)) p.kids q.kids with
      | none=> grind
      | some b=>
       refine ⟨rfl,fun _=> ?_⟩
       show Zp (.mk 2 Tree.nil Tree.nil L a 0 [])=Zp (.mk 2 Tree.nil Tree.nil L b 0 [])
       rw [ZyA,ZyA,i2 a b hf hg]
   .have ay:p.kind=3:=by have:=rp.kind;omega
    have az:q.kind=3:=V1
    rw [if_neg (show ¬p.kind≠q.kind by omega),if_neg p2]
    by_cases hl:p.list=q.list
    .rw [Jv,if_neg p2,Jv]
     have ok:∀ (e:Edit) (d:Int),Z1 e d=true->Z0 e<=18000000000->okL e.ops:=fun e d h hm o ho=> by
      refine ⟨ZG h o ho,?_⟩
      obtain ⟨kk,ol,nn,w,ks,l,os⟩:=e
      have:=Z1V (os:=os) ho
      simp only [Z0] at hm
      omega
     obtain ⟨i1,i2⟩:=Zo5 (f:=Z7k n) (g:=Z0N n) (ok p d hp V1) (ok q d' hq V1) fun a b ha hb h1 h2=> by
      obtain ⟨o1,m1,k1,e1,_⟩:=ha
      obtain ⟨o2,m2,k2,e2,_⟩:=hb
      have:=YD m1
      have:=YD m2
      rw [e1,e2]
      exact ih _ _ _ _ V1 V1 (Ye (rightOs_mem rp.ops m1) V1) (Ye (rightOs_mem rq.ops m2) V1)
     cases hf:Z09 (Z7k n) p.ops q.ops with
     | none=>
      rw [hf] at i1
      cases hg:Z4Q (Z0N n) p.ops q.ops with
      | none=> exact ⟨rfl,fun h=> by cases h⟩
      | some b=> grind
     | some a=>
      rw [hf] at i1
      cases hg:Z4Q (Z0N n) p.ops q.ops with
      | none=> grind
      | some b=>
       refine ⟨rfl,fun _=> ?_⟩
       show Zp (.mk 3 Tree.nil Tree.nil [] [] p.list a)=Zp (.mk 3 Tree.nil Tree.nil [] [] p.list b)
       rw [Zyz,Zyz,i2 a b hf hg]
    .rw [if_pos (.inr hl),if_neg p2,if_pos hl]
     exact ⟨rfl,fun h=> by cases h⟩
  .rw [if_pos (.inl s),if_pos s]
   exact ⟨rfl,fun h=> by cases h⟩
theorem ZAe{p q:Edit}{d d':Int}(hm:Z0 p+Z0 q<=18000000000)(hp:Z1 p d=true)(hq:Z1 q d'=true):Alike (YA p q) (JM p q):=
 ZvD _ p q d d' (Q9 _) hm hp hq
end Go.AM.YtpjenobkibfpcaaGreat
namespace Go.AM.YtpjenobkibfpcaaGreat
open Go.AM Go.Proofs
theorem Zer(e:Edit):18<=ctE e:=by
 have:=Z0f e
 have:=Y9 e.old
 have:=Y9 e.new
 omega
theorem Ztt(o n:Tree):ctE (.mk 1 o n [] [] 0 [])=16+Zq o+Zq n:=by rfl
mutual
theorem Z72:∀ (e:Edit),ctE (Zt e)=ctE e
 | .mk k o n w ks l os=> by
  have d:=Zkn ks
  have h:=Zkm os
  simp only [Zt,ctE,Qt]
  omega
theorem Zkn:∀ (ks:List (KidOf Edit)),Z08 (Yv ks)=Z08 ks
 | []=> rfl
 | k ::r=> by
  have d:=ZqB k
  have h:=Zkn r
  simp only [Yv,Z08]
  omega
theorem ZqB:∀ (k:KidOf Edit),Z2s (Jr k)=Z2s k
 | ⟨a,e⟩=> by
  have:=Z72 e
  simp only [Jr,Z2s]
  omega
theorem Zkm:∀ (os:List (OpOf Edit)),YF (YC os)=YF os
 | []=> rfl
 | o ::r=> by
  have d:=Zvw o
  have h:=Zkm r
  simp only [YC,YF]
  omega
theorem Zvw:∀ (o:OpOf Edit),Z1x (Yu o)=Z1x o
 | ⟨k,n,l,e⟩=> by
  have:=Z72 e
  rw [Z0l]
  dsimp only
  split
  .try rfl
  .split
   .try rfl
   .split
    .simp only [Z1x];omega
    .try rfl
end
theorem Z68:∀ (a b:List Op),YF (a++b)=YF a+YF b
 | [],b=> by simp [YF]
 | o ::r,b=> by simp only [Qj,YF,Z68 r b];omega
def ctW(w:Wst):Nat:=YF w.out+(Ze w.gone+if w.gone.length=0 then 0 else 34)+(Ze w.brought+if w.brought.length=0 then 0 else 34)
theorem Z4y:ctE Edit.nil=18:=rfl
theorem ZiD(w:Wst):YF (Zb w).out=ctW w:=by
 simp only [Zb,JZ,ctW,Z68]
 by_cases h1:w.gone.length=0
 .rw [if_pos h1,if_pos h1,Q3 h1]
  by_cases h2:w.brought.length=0
  .rw [if_pos h2,if_pos h2,Q3 h2];try rfl
  .rw [if_neg h2,if_neg h2];simp only [YF,Z1x,Z4y,Ze];omega
 .rw [if_neg h1,if_neg h1]
  by_cases h2:w.brought.length=0
  .rw [if_pos h2,if_pos h2,Q3 h2];simp only [YF,Z1x,Z4y,Ze];omega
  .rw [if_neg h2,if_neg h2];simp only [YF,Z1x,Z4y];omega
theorem Ztr(w:Wst)(n:Int):ctW (Y2 w n)<=ctW w+34:=by
 have h:=ZiD w
 have e:ctW (Y2 w n)=YF (JK (Zb w).out n):=rfl
 rw [e,<-h]
 rcases Jq (Zb w).out n with e | ⟨a,q,e1,_,e3⟩
 .rw [e,Z68];simp only [YF,Z1x,Z4y,Ze];omega
 .rw [e3,e1,Z68,Z68];simp only [YF,Z1x,Z52];omega
mutual
theorem Z5n:∀ (e:Edit),ctE (Zp e)<=ctE e
 | .mk k o n w ks l os=> by
  have h1:=ZoC ks
  have d:=ZoB l os ⟨[],[],[]⟩
  have h:=Y5 o
  have s:=Y5 n
  have:=Y9 o
  have:=Y9 n
  have hf:=ZiD (Zv l os ⟨[],[],[]⟩)
  have hz:ctW ⟨[],[],[]⟩=0:=rfl
  rw [Zp]
  split
  .simp only [ctE,Z08,YF,Qh];omega
  .split
   .simp only [ctE,YF,JO];omega
   .split
    .simp only [ctE,Z08,JO,Qh];omega
    .simp only [ctE,Z08,YF,JO,Qh];omega
theorem ZoC:∀ (ks:List (KidOf Edit)),Z08 (YR ks)<=Z08 ks
 | []=> Q9 _
 | k ::r=> by
  have d:=Zvx k
  have h:=ZoC r
  simp only [YR,Z08]
  omega
theorem Zvx:∀ (k:KidOf Edit),Z2s (Z0X k)<=Z2s k
 | ⟨a,e⟩=> by
  have:=Z5n e
  simp only [Z0X,Z2s]
  omega
theorem ZoB(list:Int):∀ (os:List (OpOf Edit)) (w:Wst),ctW (Zv list os w)<=ctW w+YF os
 | [],w=> Q9 _
 | o ::r,w=> by
  have d:=ZA8 list o w
  have h:=ZoB list r (Z04 list o w)
  simp only [Zv,YF]
  omega
theorem ZA8(list:Int):∀ (o:OpOf Edit) (w:Wst),ctW (Z04 list o w)<=ctW w+Z1x o
 | ⟨k,n,l,e⟩,w=> by
  have h:=Z5n e
  have d:=Zer e
  have hl:=Z4W l
  have hc:=fun a b=> JP a b
  rw [Z04]
  simp only [Z1x]
  split
  .have:=Ztr w n;omega
  .split
   .have:=JP w.gone (Z8 l)
    simp only [ctW]
    grind
   .split
    .have:=JP w.brought (Z8 l)
     simp only [ctW]
     grind
    .split
     .split
      .have:=Ztr w 1;omega
      .have hf:=ZiD w
       show YF ((Zb w).out++[⟨3,0,[],Zp e⟩])+_+_<=_
       rw [Z68,hf]
       simp only [YF,Z1x,Ze,Qh,if_pos]
       omega
     .omega
end
def Ys(φ:Op->Int):List Op->Int
 | []=> 0
 | o ::r=> φ o+Ys φ r
theorem ZmX(φ:Op->Int):∀ a b:List Op,Ys φ (a++b)=Ys φ a+Ys φ b
 | [],b=> by simp [Ys]
 | o ::r,b=> by simp only [Qj,Ys,ZmX φ r b];omega
def ZqZ(φ:Op->Int):Prop:=∀ o n,ZZ o->1<=n->¬Z2 o<=n->φ (ZK o n)+φ (Z0M o n)=φ o
theorem ZmU{φ:Op->Int}(hφ:ZqZ φ){p:List Op}{n:Int}(hp:∀ o∈p,ZZ o)(hl:p.length≠0)(h1:1<=n):φ (ZK (p.getD 0 Op.nil) n)+Ys φ (Yd p n)=Ys φ p/\∀ o∈Yd p n,ZZ o:=by
 cases p with
 | nil=> grind
 | cons o r=>
  have s:=hp o Q1
  unfold Yd
  simp only [Qr,QC,QZ]
  by_cases h:Z2 o<=n
  .rw [if_pos h]
   have e:ZK o n=o:=by unfold ZK;rw [if_pos h]
   rw [e]
   exact ⟨rfl,fun x d=> hp x (Q0 _ d)⟩
  .rw [if_neg h]
   refine ⟨by simp only [Ys];have:=hφ o n s h1 h;omega,fun x d=> ?_⟩
   rcases Qa.1 d with rfl | d
   .exact (Zdg s h1 h).1
   grind
theorem Zcc{φ ψ:Op->Int}(hφ:ZqZ φ)(hψ:ZqZ ψ)(a:Int):∀ (k:Nat) (p q:List Op) (out:List Piece),p.length+q.length<=k->(∀ o∈p,ZZ o)->(∀ o∈q,ZZ o)->(Y7 a 2 p q out).2.1=true->
  ∃ d,(Y7 a 2 p q out).1=out++d/\Ys φ (Z2q d)=Ys φ p/\Ys ψ (Z2p d)=Ys ψ q/\d.length<=p.length+q.length:=by
 intro k
 induction k with
 | zero=>
  intro p q out hk s hq h
  have e1:p=[]:=Q3 V1
  have e2:q=[]:=Q3 V1
  subst e1 e2
  rw [Y7,dif_neg (by simp [sgl]),dif_neg (by simp [sgl]),dif_pos (by simp)]
  exact ⟨[],by simp,rfl,rfl,by simp⟩
 | succ k ih=>
  intro p q out hk s hq h
  rw [Y7] at h ⊢
  by_cases h1:sgl a p=true
  .rw [dif_pos h1] at h ⊢
   obtain ⟨g1,_⟩:=Z1C.1 h1
   cases p with
   | nil=> grind
   | cons o r=>
    simp only [Qr,QC,QZ] at h ⊢
    obtain ⟨d,e,f1,f2,f3⟩:=ih r q _ (by grind) (fun x hx=> s x (Q0 _ hx)) hq h
    refine ⟨⟨1,o,Op.nil⟩ ::d,by grind,?_,?_,by grind⟩
    .show Ys φ (o ::Z2q d)=_
     simp only [Ys];omega
    .exact f2
  .rw [dif_neg h1] at h ⊢
   by_cases h2:sgl 2 q=true
   .rw [dif_pos h2] at h ⊢
    obtain ⟨g1,_⟩:=Z1C.1 h2
    cases q with
    | nil=> grind
    | cons o r=>
     simp only [Qr,QC,QZ] at h ⊢
     obtain ⟨d,e,f1,f2,f3⟩:=ih p r _ (by grind) s (fun x hx=> hq x (Q0 _ hx)) h
     refine ⟨⟨2,Op.nil,o⟩ ::d,by grind,f1,?_,by grind⟩
     show Ys ψ (o ::Z2p d)=_
     simp only [Ys];omega
   .rw [dif_neg h2] at h ⊢
    by_cases h3:p.length=0\/q.length=0
    .rw [dif_pos h3] at h ⊢
     by_cases h4:decide (p.length=0)=decide (q.length=0)
     .rw [if_pos h4]
      have h5:p.length=0/\q.length=0:=by
       have:=decide_eq_decide.1 h4
       omega
      rw [Q3 h5.1,Q3 h5.2]
      exact ⟨[],by simp,rfl,rfl,by simp⟩
     grind
    .rw [dif_neg h3] at h ⊢
     have l1:p.length≠0:=V1
     have l2:q.length≠0:=V1
     have p1:=Yh (s _ (Zh (l:=p) (i:=0) V1 Op.nil))
     have p2:=Yh (hq _ (Zh (l:=q) (i:=0) V1 Op.nil))
     generalize hn:min (Z2 (p.getD 0 Op.nil)) (Z2 (q.getD 0 Op.nil))=n at h ⊢
     obtain ⟨s1,s2⟩:=ZmU hφ s l1 (n:=n) V1
     obtain ⟨t1,t2⟩:=ZmU hψ hq l2 (n:=n) V1
     have c1:=Jg p n l1
     have c2:=Jg q n l2
     have c3:Z2 (p.getD 0 Op.nil)<=n->(Yd p n).length < p.length:=fun h=> Jf p _ l1 h
     have c4:Z2 (q.getD 0 Op.nil)<=n->(Yd q n).length < q.length:=fun h=> Jf q _ l2 h
     obtain ⟨d,e,f1,f2,f3⟩:=ih (Yd p n) (Yd q n) _ V1 s2 t2 h
     refine ⟨⟨0,ZK (p.getD 0 Op.nil) n,ZK (q.getD 0 Op.nil) n⟩ ::d,by grind,?_,?_,by grind⟩
     .show Ys φ (ZK (p.getD 0 Op.nil) n ::Z2q d)=_
      simp only [Ys];omega
     .show Ys ψ (ZK (q.getD 0 Op.nil) n ::Z2p d)=_
      simp only [Ys];omega
def φA(o:Op):Int:=if o.kind=2 then 0 else Z2 o
def φB(o:Op):Int:=if o.kind=1 then 0 else Z2 o
def φC(o:Op):Int:=Ze o.l+ctE o.e - 18
theorem Zgy:∀ l,Ys φA l=YL l
 | []=> rfl
 | o ::r=> by simp only [Ys,YL,φA,Zgy r]
theorem Zgx:∀ l,Ys φB l=JY l
 | []=> rfl
 | o ::r=> by simp only [Ys,JY,φB,Zgx r]
theorem ZkN:∀ l,Ys φC l+34*l.length=YF l
 | []=> rfl
 | o ::r=> by
  have:=ZkN r
  simp only [Ys,YF,φC,Z52,Q8]
  omega
theorem Zbf(o:Op)(n:Int):(Z0M o n).kind=o.kind:=by unfold Z0M;split <;> rfl
theorem ZoL{o:Op}{n:Int}(ho:ZZ o)(h1:1<=n)(hn:¬Z2 o<=n):Z2 (Z0M o n)=Z2 o - n:=by
 obtain ⟨_,_,d,_⟩:=Z7n (a:=1) ho h1 hn
 have hl:=Jm o
 rcases ho with ⟨k0,k1,k2,k3⟩ | ⟨k0,k1,k2,k3⟩ | ⟨k0,k1,k2⟩
 .unfold Z0M
  rw [if_pos k0,Jm]
  grind
 .unfold Z0M
  rw [Jv,Jm]
  grind
 omega
theorem ZFo:ZqZ φA:=by
 intro o n s d h
 obtain ⟨_,_,v3,_⟩:=Z7n (a:=1) s d h
 have:=ZoL s d h
 unfold φA
 rw [Z1F,Zbf,v3,this]
 omega
theorem ZFn:ZqZ φB:=by
 intro o n s d h
 obtain ⟨_,_,v3,_⟩:=Z7n (a:=1) s d h
 have:=ZoL s d h
 unfold φB
 rw [Z1F,Zbf,v3,this]
 omega
theorem ZFm:ZqZ φC:=by
 intro o n h s d
 have hl:=Jm o
 unfold φC ZK Z0M
 rw [if_neg d]
 rcases h with ⟨k0,k1,k2,k3⟩ | ⟨k0,k1,k2,k3⟩ | ⟨k0,k1,k2⟩
 .rw [if_pos k0,if_pos k0]
  dsimp only
  rw [k3,k1,Z4y]
  simp [Ze]
 .rw [Jv,Jv]
  dsimp only
  have:=JP (o.l.take n.toNat) (o.l.drop n.toNat)
  rw [QI] at this
  rw [k3,Z4y]
  omega
 omega
theorem Zgu{D list:Int}:∀ {l:List Tree},J7 D list l=true->J7 (-1) list l=true
 | [],_=> rfl
 | t ::r,h=> by
  simp only [J7,Q2] at h ⊢
  exact ⟨Z0o _ _ _ V3 h.1,Zgu h.2⟩
mutual
theorem Z0T:∀ (e:Edit) (d m:Int),m < 0->Z1 e d=true->Z1 e m=true
 | .mk k o n w ks l os,d,m,hm,h=> by
  have h1:=ZeP ks
  have s:=ZeM l os
  rw [Z1] at h ⊢
  split at h
  .cases h
  .rename_i a
   rw [Jv]
   split at h
   .cases h
   .rename_i b
    rw [if_neg b]
    split at h
    .rename_i c
     rw [if_pos c,ZiB hm]
     simp only [Q2] at h ⊢
     exact ⟨⟨Z0o _ _ _ V3 h.1.1,Z0o _ _ _ V3 h.1.2⟩,h.2⟩
    grind
theorem ZeP:∀ (ks:List (KidOf Edit)) (last d m:Int),m < 0->ZC last ks d=true->ZC last ks m=true
 | [],_,_,_,_,_=> rfl
 | k ::r,last,d,m,hm,h=> by
  simp only [ZC,Q2] at h ⊢
  exact ⟨Zl2 k last d m hm h.1,ZeP r k.at_ d m hm h.2⟩
theorem Zl2:∀ (k:KidOf Edit) (last d m:Int),m < 0->JA last k d=true->JA last k m=true
 | ⟨a,e⟩,last,d,m,hm,h=> by
  simp only [JA,Q2] at h ⊢
  exact ⟨h.1,Z0T e d m hm h.2⟩
theorem ZeM(list:Int):∀ (os:List (OpOf Edit)) (d m:Int),m < 0->ZA list os d=true->ZA list os m=true
 | [],_,_,_,_=> rfl
 | o ::r,d,m,hm,h=> by
  simp only [ZA,Q2] at h ⊢
  exact ⟨Zni list o d m hm h.1,ZeM list r d m hm h.2⟩
theorem Zni(list:Int):∀ (o:OpOf Edit) (d m:Int),m < 0->Za list o d=true->Za list o m=true
 | ⟨k,n,l,e⟩,d,m,hm,h=> by
  have he:=Z0T e d m hm
  rw [Za] at h ⊢
  split at h
  .grind
  .rename_i s
   rw [if_neg s]
   split at h
   .cases h
   .rename_i h1
    rw [if_neg h1]
    split at h
    .rename_i h2
     rw [if_pos h2,ZiB hm]
     simp only [Q2] at h ⊢
     exact ⟨⟨Zgu h.1.1,h.1.2⟩,h.2⟩
    grind
end
structure Wk (e:Edit):Prop where
 r:Z1 e (-1)=true
 g:ZX e
theorem Wk.of{e:Edit}{d:Int}(h:Z1 e d=true)(g:ZX e):Wk e:=⟨Z0T e d _ V3 h,g⟩
theorem Z0t{n:Int}(h0:0<=n)(h9:n<=9):InR n:=V5
theorem ZjE{o n:Tree}(h1:Zr o (-1)=true)(h2:Zr n (-1)=true)(h3:o.kind≠10)(h4:n.kind≠10):Z1 (.mk 1 o n [] [] 0 []) (-1)=true:=by
 rw [Z1,if_neg V3,if_neg (by simp),if_pos rfl,ZiB V3,h1,h2]
 grind
theorem ZuF{w:List WEdit}{ks:List Kid}(h1:ZM (-1) w=true)(h2:ZC (-1) ks (-2)=true):Z1 (.mk 2 Tree.nil Tree.nil w ks 0 []) (-1)=true:=by
 rw [Z1,if_neg V3,if_neg (by simp [Z0r,Tree.nil]),if_neg V3,h1,show (-1:Int) - 1= -2 from rfl,h2]
 try rfl
theorem ZjD{l:Int}{os:List Op}(hl:2<=l/\l<=9)(h:ZA l os (-2)=true)(h1:Jp os 0 < 1048576)(h2:Z11 os 0 < 1048576):Z1 (.mk 3 Tree.nil Tree.nil [] [] l os) (-1)=true:=by
 rw [Z1,if_neg V3,if_neg (by simp [Z0r,Tree.nil]),if_neg V3,show (-1:Int) - 1= -2 from rfl,h]
 simp only [ZM,ZC,X2,Xf,Q2,decide_eq_true_eq]
 omega
theorem Zgi:∀ {l:List WEdit} {last:Int},asc WEdit.at_ last l->(∀ w∈l,w.at_<=65534/\w.mask≠0/\Ya w.old w.mask=true/\Ya w.new w.mask=true)->ZM last l=true
 | [],_,_,_=> rfl
 | a ::r,last,h,hw=> by
  obtain ⟨h1,s,h3,h4⟩:=hw a Q1
  simp only [ZM,Q2,decide_eq_true_eq]
  exact ⟨⟨⟨⟨h.1,h1,s⟩,h3⟩,h4⟩,Zgi h.2 fun w d=> hw w (Q0 _ d)⟩
theorem Zh6{d:Int}:∀ {l:List Kid} {last:Int},asc KidOf.at_ last l->(∀ k∈l,k.at_<=65534/\k.e.kind≠0/\Z1 k.e d=true)->ZC last l d=true
 | [],_,_,_=> rfl
 | a ::r,last,h,hw=> by
  obtain ⟨h1,h2,h3⟩:=hw a Q1
  simp only [ZC,Z4P,Q2,decide_eq_true_eq]
  exact ⟨⟨⟨h.1,h1,h2⟩,h3⟩,Zh6 h.2 fun w s=> hw w (Q0 _ s)⟩
theorem ZaG{list d:Int}:∀ {l:List Op},(∀ o∈l,Za list o d=true)->ZA list l d=true
 | [],_=> rfl
 | a ::r,h=> by
  simp only [ZA,Q2]
  exact ⟨h a Q1,ZaG fun o s=> h o (Q0 _ s)⟩
theorem Z2v{D list:Int}:∀ {l:List Tree},(∀ t∈l,Zr (.mk list [] [t]) D=true)->J7 D list l=true
 | [],_=> rfl
 | t ::r,h=> by
  simp only [J7,Q2]
  exact ⟨h t Q1,Z2v fun x d=> h x (Q0 _ d)⟩
theorem ZjC{list:Int}(hl:2<=list/\list<=9){t:Tree}(h1:Z2n list t=true)(h2:Zr t (-1)=true):Zr (.mk list [] [t]) (-1)=true:=
 ZaF hl (by simp) fun k d=> by grind
theorem Zsc{list n:Int}(h1:1<=n)(h2:n<=1048576)(d:Int):Za list ⟨0,n,[],Edit.nil⟩ d=true:=by
 rw [Za,if_pos rfl,Z48]
 grind
theorem Z5H{list k d:Int}{l:List Tree}(hk:k=1\/k=2)(h:J7 (dT d) list l=true)(hl:l≠[]):Za list ⟨k,0,l,Edit.nil⟩ d=true:=by
 rw [Za,Jv,Jv,V0,Z48,h]
 have:=List.length_pos_iff.2 hl
 grind
theorem Zsd{list d:Int}{e:Edit}(h:Z1 e d=true)(h0:e.kind≠0)(hl:7 < list)(hw:list=8\/e.kind=2\/e.kind=1/\e.old.kind=1/\e.new.kind=1):Za list ⟨3,0,[],e⟩ d=true:=by
 rw [Za,if_neg V3,if_neg V3,if_neg V3,h]
 grind
def Wl(list:Int)(e:Edit):Prop:=list=8\/e.kind=2\/e.kind=1/\e.old.kind=1/\e.new.kind=1
theorem Z1N(t:Tree):(Z6 t).kind=t.kind:=Z3L t
theorem Zjd{w m:Int}(h:∀ i,i < 8->Zz m (i:Nat)=false->Z4 w i=0):Ya w m=true:=by
 unfold Ya mix of8
 rw [decide_eq_true_eq]
 have z:∀ i,i < 8->Jn w 0 m i=0:=by
  intro i d
  unfold Jn
  split
  .exact ZiK i
  .grind
 grind
theorem ZAX {a b:WEdit} (ra:Z2a a) (rb:Z2a b) (ha:a.at_<=65534/\a.mask≠0/\Ya a.old a.mask=true/\Ya a.new a.mask=true) (hb:Ya b.old b.mask=true/\Ya b.new b.mask=true)
  (hc:(YY a b).2=true):((YY a b).1.at_<=65534/\(YY a b).1.mask≠0/\Ya (YY a b).1.old (YY a b).1.mask=true/\Ya (YY a b).1.new (YY a b).1.mask=true)/\Z2a (YY a b).1:=by
 have hw:Z5o a b=true:=by
  unfold YY at hc
  split at hc
  .assumption
  .cases hc
 have e:(YY a b).1=⟨a.at_,orM a.mask b.mask,mix b.old a.old a.mask,mix a.new b.new b.mask⟩:=by unfold YY;rw [if_pos hw]
 obtain ⟨m1,m2⟩:=ZpL ra.2.1 rb.2.1
 rw [e]
 dsimp only
 refine ⟨⟨ha.1,fun h=> ?_,Zjd fun i s d=> ?_,Zjd fun i s d=> ?_⟩,ra.1,m1,Z1J _ _ _,Z1J _ _ _⟩
 .refine ha.2.1 ?_
  have z:∀ i:Nat,Zz a.mask (i:Int)=false:=by
   intro i
   have:=m2 i
   rw [h] at this
   have z0:Zz 0 (i:Int)=false:=by unfold Zz;simp
   rw [z0] at this
   cases d:Zz a.mask (i:Int) with
   | false=> rfl
   | true=> grind
  have h0:=z 0;have h1:=z 1;have h2:=z 2;have h3:=z 3;have h4:=z 4;have h5:=z 5;have h6:=z 6;have h7:=z 7
  have:=ra.2.1
  simp only [Zz,decide_eq_false_iff_not,Xb] at h0 h1 h2 h3 h4 h5 h6 h7
  omega
 .rw [m2 i] at d
  simp only [QH] at d
  rw [Z0s s,if_neg (by grind)]
  exact Z0O hb.1 s d.2
 .rw [m2 i] at d
  simp only [QH] at d
  rw [Z0s s,if_neg (by grind)]
  exact Z0O ha.2.2.2 s d.1
def Zdu{β:Type}(φ:β->Nat):List β->Nat
 | []=> 0
 | a ::r=> φ a+Zdu φ r
theorem Z91{β:Type}{at_:β->Int}{one:β->β->β × Bool}(φ:β->Nat):∀ (k:Nat) (p q L:List β),p.length+q.length<=k->(∀ a∈p,∀ b∈q,(one a b).2=true->φ (one a b).1<=φ a+φ b)->Zf at_ one p q=some L->Zdu φ L<=Zdu φ p+Zdu φ q:=by
 intro k
 induction k with
 | zero=>
  intro p q L hk _ h
  have e1:p=[]:=Q3 V1
  have e2:q=[]:=Q3 V1
  subst e1 e2
  rw [Zf] at h
  grind
 | succ k ih=>
  intro p q L hk ho h
  match p,q with
  | [],q=> rw [Zf] at h;grind
  | a ::p,[]=> rw [Zf] at h;grind
  | a ::p,b ::q=>
   simp only [Q8] at hk
   rw [Zf] at h
   split at h
   .obtain ⟨L',d,rfl⟩:=Qd.1 h
    have:=ih p (b ::q) L' (by grind) (fun x hx y s=> ho x (Q0 _ hx) y s) d
    simp only [Zdu] at this ⊢;omega
   .split at h
    .obtain ⟨L',d,rfl⟩:=Qd.1 h
     have:=ih (a ::p) q L' (by grind) (fun x hx y s=> ho x hx y (Q0 _ s)) d
     simp only [Zdu] at this ⊢;omega
    .split at h
     .rename_i hc
      obtain ⟨L',d,rfl⟩:=Qd.1 h
      have:=ih p q L' V1 (fun x hx y s=> ho x (Q0 _ hx) y (Q0 _ s)) d
      have:=ho a Q1 b Q1 hc
      simp only [Zdu] at*;omega
     .cases h
theorem ZfS:∀ l:List Kid,Zdu Z2s l=Z08 l
 | []=> rfl
 | k ::r=> by simp only [Zdu,Z08,ZfS r]
theorem Z41{β:Type}:∀ l:List β,Zdu (fun _=> 1) l=l.length
 | []=> rfl
 | k ::r=> by simp only [Zdu,Q8,Z41 r];omega
theorem Znc:∀ {l:List Kid},(∀ k∈l,InR k.at_/\ZX k.e)->Z1r l
 | [],_=> trivial
 | ⟨a,e⟩ ::r,h=> ⟨h _ Q1,Znc fun k d=> h k (Q0 _ d)⟩
theorem Zh4:∀ {l:List Op},(∀ o∈l,YH o)->Z0D l
 | [],_=> trivial
 | o ::r,h=> ⟨h _ Q1,Zh4 fun k d=> h k (Q0 _ d)⟩
structure ComWk (K:Prop) (c:Edit × Bool) (p q:Edit):Prop where
 wk:c.2=true->Wk c.1
 ct:K->c.2=true->ctE c.1+18<=ctE p+ctE q
 kind:p.kind≠0->q.kind≠0->c.2=true->c.1.kind≠0
 wl:∀ list,7 < list->list<=9->p.kind≠0->q.kind≠0->c.2=true->Wl list p->Wl list q->Wl list c.1
theorem Z8o{e:Edit}{t:Tree}(h:(doB e t).2=true):∃ v,doE false e t=some v/\(doB e t).1=Z6 v:=by
 unfold doB at h ⊢
 cases hv:doE false e t with
 | none=> grind
 | some v=> exact ⟨v,rfl,rfl⟩
theorem Z4N{t:Tree}{d:Int}(h:Zr t d=true):Zr (Z6 t) d=true:=Z4O t d h
theorem Wk.turn{p:Edit}(h:Wk p):Wk (Zp (Zt p)):=⟨Jy _ _ (J1 _ _ h.r),Z16 _ _ (J1 _ _ h.r) (Z5C _ h.g)⟩
theorem Zfr{list:Int}(hl:2<=list/\list<=9){e:Edit}{t u:Tree}{d:Int}(hr:Z1 e d=true)(hd:doE false e t=some u)(h7:7 < list)(hw:Wl list e)(h0:e.kind≠0)(ht:Zr t (-1)=true):Z2n list u=true:=by
 obtain ⟨s,h,_,_⟩:=Z71 hr hd
 unfold Z2n
 rw [Jv]
 by_cases hl9:list=9
 .rw [if_pos hl9]
  refine decide_eq_true ?_
  rcases hw with q | q | q
  .omega
  .exact (h q).1
  .rw [s q.1];exact q.2.2
 .rw [if_neg hl9]
  exact decide_eq_true ((Z65 _ e d t u (Q9 _) hr ht hd).2 h0)
theorem Zik{list:Int}(h7:7 < list){u:Tree}(h:Z2n list u=true):Z2n list (Z6 u)=true:=by
 unfold Z2n at h ⊢
 rw [Jv] at h ⊢
 rw [Z1N]
 exact h
theorem ZsK {K:Prop} {f:Edit->Edit->Edit × Bool} {p q:Edit} (wp:Wk p) (wq:Wk q) (p3:p.kind=3) (hl:p.list=q.list)
  (ih:∀ a b,Z0 a+Z0 b < Z0 p+Z0 q->Wk a->Wk b->ComWk K (f a b) a b) {ps:List Piece} (e:(Y7 1 2 p.ops q.ops []).1=ps) (hb1:(Y7 1 2 p.ops q.ops []).2.1=true) {ops:List Op} (hc:Jx f ps=some ops):
  (∀ o∈ops,Za p.list o (-2)=true/\YH o)/\YL ops=YL p.ops/\JY ops=JY q.ops/\(K->YF ops<=YF p.ops+YF q.ops):=by
 have rp:=Zd wp.r
 have rq:=Zd wq.r
 have gp:=ZB wp.g
 have gq:=ZB wq.g
 have aa:=rp.list p3
 have op:=ZG wp.r
 have oq:=ZG wq.r
 have br:ZA p.list p.ops (-2)=true:=rp.ops
 have bv:ZA p.list q.ops (-2)=true:=by rw [hl];exact rq.ops
 obtain ⟨i1,_⟩:=Z4m _ p.ops q.ops [] (Q9 _) op oq
 obtain ⟨cx,e0,bd,_,_⟩:=i1 hb1
 obtain ⟨cn,e1,sA,sB,bg⟩:=Zcc ZFo ZFn 1 _ p.ops q.ops [] (Q9 _) op oq hb1
 obtain ⟨cp,e2,sC,sD,_⟩:=Zcc ZFm ZFm 1 _ p.ops q.ops [] (Q9 _) op oq hb1
 rw [e,Qo] at e0 e1 e2
 subst e0 e1 e2
 have bc:∀ x∈ps,(x.of≠2->Za p.list x.p (-2)=true/\YH x.p)/\(x.of≠1->Za p.list x.q (-2)=true/\YH x.q):=by
  have one:∀ (l:List Op) (o:Op),(∀ o'∈l,Za p.list o' (-2)=true)->Z0D l->Part l o->ZZ o->Za p.list o (-2)=true/\YH o:=by
   intro l o hr hg ⟨o',m,k,e1,_,lt⟩ ho
   have R:=Zu (hr o' m)
   have G:=Z0j (JL hg m)
   obtain ⟨kk,nn,ll,ee⟩:=o
   have k:kk=o'.kind:=k
   have e1:ee=o'.e:=e1
   have lt:∀ t∈ll,t∈o'.l:=lt
   have gl:J6 ll:=Z6A fun t s=> Jl G.2.2.1 (lt t s)
   cases R with
   | keep n1 a1 a2=>
    have k:kk=0:=k
    have e1:ee=Edit.nil:=e1
    subst k e1
    rcases ho with h | h | h
    .have hl:ll=[]:=h.2.1
     subst hl
     have h3:1<=nn/\nn<=1048576:=h.2.2.1
     exact ⟨Zsc h3.1 h3.2 _,Z0t V3 V3,V5,trivial,G.2.2.2⟩
    .have:=h.1;omega
    .have:=h.1;omega
   | gone l1 a1 a2=>
    have k:kk=1:=k
    have e1:ee=Edit.nil:=e1
    subst k e1
    rcases ho with h | h | h
    .have:=h.1;omega
    .have hn:nn=0:=h.2.1
     subst hn
     exact ⟨Z5H (.inl rfl) (Z2v fun t s=> Z1Q a1 t (lt t s)) h.2.2.1,Z0t V3 V3,Z0t V3 V3,gl,G.2.2.2⟩
    .have:=h.1;omega
   | come l1 a1 a2=>
    have k:kk=2:=k
    have e1:ee=Edit.nil:=e1
    subst k e1
    rcases ho with h | h | h
    .have:=h.1;omega
    .have hn:nn=0:=h.2.1
     subst hn
     exact ⟨Z5H (.inr rfl) (Z2v fun t s=> Z1Q a1 t (lt t s)) h.2.2.1,Z0t V3 V3,Z0t V3 V3,gl,G.2.2.2⟩
    .have:=h.1;omega
   | into e2 a1 a2 a3 a4=>
    have k:kk=3:=k
    have e1:ee=e2:=e1
    subst k e1
    rcases ho with h | h | h
    .have:=h.1;omega
    .have:=h.1;omega
    .have hn:nn=0:=h.2.1
     have hl:ll=[]:=h.2.2
     subst hn hl
     exact ⟨Zsd a1 a2 a3 a4,Z0t V3 V3,Z0t V3 V3,trivial,G.2.2.2⟩
  intro x hx
  have X:=bd x hx
  exact ⟨fun h=> one p.ops x.p (fun o ho=> rightOs_mem br ho) gp.2.2.2.2 (X.pp h).1 (X.pp h).2,fun h=> one q.ops x.q (fun o ho=> rightOs_mem bv ho) gq.2.2.2.2 (X.qq h).1 (X.qq h).2⟩
 have one:∀ x∈ps,(Zx f x).ok=true->((Zx f x).is=true->Za p.list (Zx f x).op (-2)=true/\YH (Zx f x).op)/\
   (φA (Zx f x).op*(if (Zx f x).is then 1 else 0)=(if x.of=2 then 0 else φA x.p))/\(φB (Zx f x).op*(if (Zx f x).is then 1 else 0)=(if x.of=1 then 0 else φB x.q))/\
   (K->(Zx f x).is=true->φC (Zx f x).op<=(if x.of=2 then 0 else φC x.p)+(if x.of=1 then 0 else φC x.q)):=by
  intro x hx d
  have X:=bd x hx
  obtain ⟨s1,s2⟩:=bc x hx
  have ak:∀ o:Op,0<=φC o:=fun o=> by unfold φC;have:=Zer o.e;omega
  unfold Zx at d ⊢
  by_cases c1:x.of=1\/(x.of=0/\x.q.kind=0)
  .rw [if_pos c1] at d ⊢
   dsimp only
   have h2:x.of≠2:=V1
   rw [if_pos rfl,if_neg h2,if_neg h2]
   refine ⟨fun _=> s1 h2,V1,?_,fun _ _=> ?_⟩
   .rcases c1 with c | ⟨c,c'⟩
    .rw [if_pos c];unfold φB;rw [if_pos (X.one c)];try rfl
    .rw [Jv]
     obtain ⟨b1,b2,b3⟩:=X.both c
     unfold φB
     rw [if_neg b1,Jv,b3];omega
   .have:=ak x.q
    split <;> omega
  rw [if_neg c1] at d ⊢
  by_cases c2:x.of=2\/x.p.kind=0
  .rw [if_pos c2] at d ⊢
   dsimp only
   have h2:x.of≠1:=V1
   rw [if_pos rfl,if_neg h2,if_neg h2]
   refine ⟨fun _=> s2 h2,?_,V1,fun _ _=> ?_⟩
   .by_cases c:x.of=2
    .rw [if_pos c];unfold φA;rw [if_pos (X.two c)];try rfl
    .rw [if_neg c]
     have c0:x.of=0:=by rcases X.of with h | h | h <;> omega
     obtain ⟨b1,b2,b3⟩:=X.both c0
     unfold φA
     rw [if_neg b2,Jv,b3];omega
   .have:=ak x.p
    split <;> omega
  rw [if_neg c2] at d ⊢
  have c0:x.of=0:=by rcases X.of with h | h | h <;> omega
  obtain ⟨b1,b2,b3⟩:=X.both c0
  have h1:x.of≠1:=V1
  have h2:x.of≠2:=V1
  obtain ⟨u1,u2⟩:=s1 h2
  obtain ⟨v1,v2⟩:=s2 h1
  have bf:=(X.pp h2).2
  have a8:=(X.qq h1).2
  have kp:x.p.kind=2\/x.p.kind=3:=by rcases Y8 bf with k | k | k | k <;> omega
  have kq:x.q.kind=1\/x.q.kind=3:=by rcases Y8 a8 with k | k | k | k <;> omega
  rw [if_neg h2,if_neg h2,if_neg h1,if_neg h1]
  by_cases c3:x.p.kind=2/\x.q.kind=1
  .rw [if_pos c3] at d ⊢
   dsimp only
   refine ⟨fun h=> (by cases h),?_,?_,fun _ h=> by cases h⟩
   .unfold φA;rw [if_pos c3.1];try rfl
   .unfold φB;rw [if_pos c3.2];try rfl
  rw [if_neg c3] at d ⊢
  have ah:∀ o:Op,o.kind=3->Za p.list o (-2)=true->YH o->(7 < p.list/\o.e.kind≠0/\Wl p.list o.e/\Wk o.e)/\o.l=[]:=by
   intro o k hr hg
   have R:=Zu hr
   cases R with
   | keep | gone | come=> exact absurd k (by simp)
   | into e a1 a2 a3 a4=> exact ⟨⟨a3,a2,a4,⟨Z0T _ _ _ V3 a1,(Z0j hg).2.2.2⟩⟩,rfl⟩
  have ai:∀ o:Op,(o.kind=1\/o.kind=2)->Z2 o=1->ZZ o->Za p.list o (-2)=true->YH o->∃ t,o.l=[t]/\Z2n p.list t=true/\Zr t (-1)=true/\rng t/\o.e=Edit.nil:=by
   intro o k h1 ho hr hg
   have bg:=ZU ho k
   have aj:o.l.length=1:=V1
   obtain ⟨t,s⟩:∃ t,o.l=[t]:=by
    match h:o.l,aj with
    | [t],_=> exact ⟨t,rfl⟩
   have R:=Zu hr
   have gt:=(Z0j hg).2.2.1
   rw [s] at gt
   refine ⟨t,s,?_⟩
   cases R with
   | keep=> exact absurd k (by simp)
   | into=> exact absurd k (by simp)
   | gone l a1 a2=> exact ⟨(JH aa a1 t (by have s:l=[t]:=s;rw [s];simp)).1,(JH aa a1 t (by have s:l=[t]:=s;rw [s];simp)).2,gt.1,rfl⟩
   | come l a1 a2=> exact ⟨(JH aa a1 t (by have s:l=[t]:=s;rw [s];simp)).1,(JH aa a1 t (by have s:l=[t]:=s;rw [s];simp)).2,gt.1,rfl⟩
  by_cases c4:x.p.kind=2
  .rw [if_pos c4] at d ⊢
   have al:x.q.kind=3:=V1
   have aj:Z2 x.q=1:=JS al
   obtain ⟨t,s,t1,t2,t3,t4⟩:=ai x.p (.inr c4) V1 bf u1 u2
   obtain ⟨⟨e1,e2,e3,e4⟩,e5⟩:=ah x.q al v1 v2
   dsimp only at d ⊢
   rw [s,Qr] at d ⊢
   obtain ⟨v,hv,ev⟩:=Z8o d
   rw [if_pos rfl,ev]
   have kv:=Zfr aa e4.r hv e1 e3 e2 t2
   have rv:=(Z65 _ _ _ t v (Q9 _) e4.r t2 hv).1
   refine ⟨fun _=> ⟨Z5H (.inr rfl) ?_ (by simp),Z0t V3 V3,Z0t V3 V3,⟨Z29 _ (ZdA false _ _ v e4.g t3 hv),trivial⟩,?_⟩,?_,?_,fun _ _=> ?_⟩
   .rw [ZiB V3]
    exact Z2v fun y hy=> by rw [Qe.1 hy];exact ZjC aa (Zik e1 kv) (Z4N rv)
   .rw [<-t4];exact (Z0j u2).2.2.2
   .unfold φA;rw [if_pos c4];try rfl
   .show (if (2:Int)=1 then (0:Int) else Z2 _)*1=(if x.q.kind=1 then 0 else Z2 x.q)
    rw [if_neg V3,Jv,aj];simp [Z2]
   .unfold φC
    dsimp only
    rw [s,t4,e5]
    have:=Z3r false _ _ _ v e4.r hv
    have:=Y5 v
    simp only [Ze,Z4y]
    omega
  rw [if_neg c4] at d ⊢
  have a6:x.p.kind=3:=V1
  have be:Z2 x.p=1:=JS a6
  obtain ⟨⟨e1,e2,e3,e4⟩,e5⟩:=ah x.p a6 u1 u2
  by_cases c5:x.q.kind=1
  .rw [if_pos c5] at d ⊢
   obtain ⟨t,s,t1,t2,t3,t4⟩:=ai x.q (.inl c5) V1 a8 v1 v2
   dsimp only at d ⊢
   rw [s,Qr] at d ⊢
   obtain ⟨v,hv,ev⟩:=Z8o d
   have wt:=e4.turn
   have kt:(Zp (Zt x.p.e)).kind=x.p.e.kind:=by rw [Z5K,Z2u]
   have bx:Wl p.list (Zp (Zt x.p.e)):=by
    rcases e3 with h | h | h
    .exact .inl h
    .exact .inr (.inl V1)
    .refine .inr (.inr ⟨V1,?_,?_⟩)
     .rw [(Zcf (Zt x.p.e) (by rw [Z2u];exact h.1)).1,Z1N,Zji];exact h.2.2
     .rw [(Zcf (Zt x.p.e) (by rw [Z2u];exact h.1)).2,Z1N,Zjj];exact h.2.1
   rw [if_pos rfl,ev]
   have kv:=Zfr aa wt.r hv e1 bx V1 t2
   have rv:=(Z65 _ _ _ t v (Q9 _) wt.r t2 hv).1
   refine ⟨fun _=> ⟨Z5H (.inl rfl) ?_ (by simp),Z0t V3 V3,Z0t V3 V3,⟨Z29 _ (ZdA false _ _ v wt.g t3 hv),trivial⟩,?_⟩,?_,?_,fun _ _=> ?_⟩
   .rw [ZiB V3]
    exact Z2v fun y hy=> by rw [Qe.1 hy];exact ZjC aa (Zik e1 kv) (Z4N rv)
   .rw [<-t4];exact (Z0j v2).2.2.2
   .show (if (1:Int)=2 then (0:Int) else Z2 _)*1=(if x.p.kind=2 then 0 else Z2 x.p)
    rw [if_neg V3,Jv,be];simp [Z2]
   .unfold φB;rw [if_pos c5];try rfl
   .unfold φC
    dsimp only
    rw [s,t4,e5]
    have:=Z3r false _ _ _ v wt.r hv
    have:=Y5 v
    have:=Z5n (Zt x.p.e)
    rw [Z72] at this
    simp only [Ze,Z4y]
    omega
  rw [if_neg c5] at d ⊢
  have al:x.q.kind=3:=V1
  have aj:Z2 x.q=1:=JS al
  obtain ⟨⟨f1,f2,f3,f4⟩,f5⟩:=ah x.q al v1 v2
  dsimp only at d ⊢
  rw [if_pos rfl]
  obtain ⟨o1,m1,_,k1,_⟩:=(X.pp h2).1
  obtain ⟨o2,m2,_,k2,_⟩:=(X.qq h1).1
  have:=YD m1
  have:=YD m2
  have H:=ih x.p.e x.q.e (by rw [k1,k2];omega) e4 f4
  refine ⟨fun _=> ⟨Zsd (Z0T _ _ _ V3 (H.wk d).r) (H.kind e2 f2 d) e1 (H.wl p.list e1 aa.2 e2 f2 d e3 f3),Z0t V3 V3,Z0t V3 V3,trivial,(H.wk d).g⟩,?_,?_,fun hK _=> ?_⟩
  .show (if (3:Int)=2 then (0:Int) else Z2 _)*1=(if x.p.kind=2 then 0 else Z2 x.p)
   rw [if_neg V3,Jv,be];simp [Z2]
  .show (if (3:Int)=1 then (0:Int) else Z2 _)*1=(if x.q.kind=1 then 0 else Z2 x.q)
   rw [if_neg V3,Jv,aj];simp [Z2]
  .unfold φC
   dsimp only
   rw [e5,f5]
   have:=H.ct hK d
   simp only [Ze]
   omega
 have all:∀ (ps:List Piece) (ops:List Op),(∀ x∈ps,(Zx f x).ok=true->((Zx f x).is=true->Za p.list (Zx f x).op (-2)=true/\YH (Zx f x).op)/\
   (φA (Zx f x).op*(if (Zx f x).is then 1 else 0)=(if x.of=2 then 0 else φA x.p))/\(φB (Zx f x).op*(if (Zx f x).is then 1 else 0)=(if x.of=1 then 0 else φB x.q))/\
   (K->(Zx f x).is=true->φC (Zx f x).op<=(if x.of=2 then 0 else φC x.p)+(if x.of=1 then 0 else φC x.q)))->Jx f ps=some ops->
   (∀ o∈ops,Za p.list o (-2)=true/\YH o)/\Ys φA ops=Ys φA (Z2q ps)/\Ys φB ops=Ys φB (Z2p ps)/\(K->Ys φC ops<=Ys φC (Z2q ps)+Ys φC (Z2p ps))/\ops.length<=ps.length:=by
  intro ps
  induction ps with
  | nil=> intro ops _ h;cases h;exact ⟨fun o ho=> (by cases ho),rfl,rfl,fun _=> (by simp [Z2q,Z2p,Ys]),by simp⟩
  | cons x r ihp=>
   intro ops hx h
   rw [Jx] at h
   split at h
   .rename_i d
    obtain ⟨l,b7,rfl⟩:=Qd.1 h
    obtain ⟨j1,j2,j3,j4,j5⟩:=ihp l (fun y hy=> hx y (Q0 _ hy)) b7
    obtain ⟨k1,k2,k3,k4⟩:=hx x Q1 d
    have ak:∀ o:Op,0<=φC o:=fun o=> by unfold φC;have:=Zer o.e;omega
    have c1:=ak x.p
    have c2:=ak x.q
    have a7:∀ φ:Op->Int,Ys φ (Z2q (x ::r))=(if x.of=2 then 0 else φ x.p)+Ys φ (Z2q r):=fun φ=> by
     simp only [Z2q]
     split <;> simp [Ys]
    have az:∀ φ:Op->Int,Ys φ (Z2p (x ::r))=(if x.of=1 then 0 else φ x.q)+Ys φ (Z2p r):=fun φ=> by
     simp only [Z2p]
     split <;> simp [Ys]
    rw [a7,az,a7,az]
    by_cases his:(Zx f x).is=true
    .rw [if_pos his] at k2 k3
     rw [if_pos his]
     have k4:=fun hK=> k4 hK his
     simp only [Qj,Qo,Ys,Q8]
     refine ⟨fun o ho=> ?_,V1,V1,fun hK=> (by have:=k4 hK;have:=j4 hK;omega),V1⟩
     rcases Qa.1 ho with rfl | ho
     .exact k1 his
     .exact j1 o ho
    .rw [if_neg his] at k2 k3
     rw [if_neg his]
     simp only [Qo,Q8]
     refine ⟨j1,V1,V1,fun hK=> ?_,V1⟩
     have:=j4 hK
     have:0<=(if x.of=2 then 0 else φC x.p)+(if x.of=1 then 0 else φC x.q):=by split <;> split <;> omega
     omega
   .cases h
 obtain ⟨j1,j2,j3,j4,j5⟩:=all ps ops one hc
 rw [Zgy] at j2
 rw [Zgx] at j3
 rw [sA,Zgy] at j2
 rw [sB,Zgx] at j3
 have x1:=ZkN ops
 have x2:=ZkN p.ops
 have x3:=ZkN q.ops
 exact ⟨j1,j2,j3,fun hK=> (by have:=j4 hK;omega)⟩
theorem Zrh {K:Prop} {f:Edit->Edit->Edit × Bool} {p q:Edit} (wp:Wk p) (wq:Wk q)
  (ih:∀ a b,Z0 a+Z0 b < Z0 p+Z0 q->Wk a->Wk b->ComWk K (f a b) a b):ComWk K (JW f p q) p q:=by
 have rp:=Zd wp.r
 have rq:=Zd wq.r
 have gp:=ZB wp.g
 have gq:=ZB wq.g
 have cp:=Zer p
 have cq:=Zer q
 have ap:=Z0f p
 have aq:=Z0f q
 unfold JW
 by_cases p0:p.kind=0
 .rw [if_pos p0]
  exact ⟨fun _=> wq,fun _ _=> by dsimp only;omega,fun h=> absurd p0 h,fun _ _ _ h=> absurd p0 h⟩
 rw [if_neg p0]
 by_cases q0:q.kind=0
 .rw [if_pos q0]
  exact ⟨fun _=> wp,fun _ _=> by dsimp only;omega,fun _ h=> absurd q0 h,fun _ _ _ _ h=> absurd q0 h⟩
 rw [if_neg q0]
 by_cases p1:p.kind=1
 .rw [if_pos p1]
  obtain ⟨r1,r2,r3,r4⟩:=rp.rep p1
  have s:(doB q p.new).2=true->(Zr (doB q p.new).1 (-1)=true/\(doB q p.new).1.kind≠10)/\rng (doB q p.new).1/\Zq (doB q p.new).1+18<=Zq p.new+ctE q/\∀ list,7 < list->list<=9->p.new.kind=1->list=9->Wl list q->(doB q p.new).1.kind=1:=by
   intro d
   obtain ⟨v,hv,e⟩:=Z8o d
   rw [e]
   obtain ⟨x1,x2⟩:=Z65 _ q _ p.new v (Q9 _) wq.r r2 hv
   refine ⟨⟨Z4N x1,by rw [Z1N];exact x2 q0⟩,Z29 _ (ZdA false q _ v wq.g gp.2.1 hv),?_,fun list h7 h9 hk bm hw=> ?_⟩
   .have:=Z3r false q _ _ v wq.r hv
    have:=Y5 v
    omega
   .rw [Z1N]
    obtain ⟨j1,j2,_,_⟩:=Z71 wq.r hv
    rcases hw with h | h | h
    .omega
    .exact (j2 h).1
    .rw [j1 h.1];exact h.2.2
  refine ⟨fun d=> ?_,fun _ d=> ?_,fun _ _ _=> (show (1:Int)≠0 by decide),fun list h7 h9 _ _ d hp hq=> ?_⟩
  .obtain ⟨⟨k1,k2⟩,k3,_,_⟩:=s d
   exact ⟨ZjE r1 k1 r3 k2,Z0t V3 V3,gp.1,k3,by simp,Z0t V3 V3,trivial,trivial⟩
  .obtain ⟨_,_,k4,_⟩:=s d
   rw [Ztt]
   omega
  .by_cases h8:list=8
   .exact .inl h8
   .have ah:p.kind=1/\p.old.kind=1/\p.new.kind=1:=by
     rcases hp with h | h | h
     .exact absurd h h8
     .omega
     .exact h
    exact .inr (.inr ⟨rfl,ah.2.1,(s d).2.2.2 list h7 h9 ah.2.2 V1 hq⟩)
 rw [if_neg p1]
 by_cases q1:q.kind=1
 .rw [if_pos q1]
  obtain ⟨r1,r2,r3,r4⟩:=rq.rep q1
  have wt:=wp.turn
  have kt:(Zp (Zt p)).kind=p.kind:=by rw [Z5K,Z2u]
  have s:(doB (Zp (Zt p)) q.old).2=true->(Zr (doB (Zp (Zt p)) q.old).1 (-1)=true/\(doB (Zp (Zt p)) q.old).1.kind≠10)/\rng (doB (Zp (Zt p)) q.old).1/\Zq (doB (Zp (Zt p)) q.old).1+18<=Zq q.old+ctE p/\(p.kind=2->(doB (Zp (Zt p)) q.old).1.kind=1):=by
   intro d
   obtain ⟨v,hv,e⟩:=Z8o d
   rw [e]
   obtain ⟨x1,x2⟩:=Z65 _ _ _ q.old v (Q9 _) wt.r r1 hv
   refine ⟨⟨Z4N x1,by rw [Z1N];exact x2 V1⟩,Z29 _ (ZdA false _ _ v wt.g gq.1 hv),?_,fun hk=> ?_⟩
   .have:=Z3r false _ _ _ v wt.r hv
    have:=Y5 v
    have:=Z5n (Zt p)
    rw [Z72] at this
    omega
   .rw [Z1N]
    exact ((Z71 wt.r hv).2.1 V1).1
  refine ⟨fun d=> ?_,fun _ d=> ?_,fun _ _ _=> (show (1:Int)≠0 by decide),fun list h7 h9 _ _ d hp hq=> ?_⟩
  .obtain ⟨⟨k1,k2⟩,k3,_,_⟩:=s d
   exact ⟨ZjE k1 r2 k2 r4,Z0t V3 V3,k3,gq.2.1,by simp,Z0t V3 V3,trivial,trivial⟩
  .obtain ⟨_,_,k4,_⟩:=s d
   rw [Ztt]
   omega
  .by_cases h8:list=8
   .exact .inl h8
   .have ar:q.kind=1/\q.old.kind=1/\q.new.kind=1:=by
     rcases hq with h | h | h
     .exact absurd h h8
     .omega
     .exact h
    refine .inr (.inr ⟨rfl,(s d).2.2.2 ?_,ar.2.2⟩)
    rcases hp with h | h | h
    .exact absurd h h8
    .exact h
    .exact absurd h.1 p1
 rw [if_neg q1]
 by_cases hd:p.kind≠q.kind\/p.list≠q.list
 .rw [if_pos hd]
  exact ⟨fun h=> (by cases h),fun _ h=> (by cases h),fun _ _ h=> (by cases h),fun _ _ _ _ _ h=> (by cases h)⟩
 rw [if_neg hd]
 by_cases p2:p.kind=2
 .rw [if_pos p2]
  have q2:q.kind=2:=V1
  have awp:=Yj rp.words
  have ao:=Yj rq.words
  have aa:=Zk rp.kids
  have ae:=Zk rq.kids
  have ax:∀ a b:WEdit,a.at_=b.at_->(YY a b).2=true->(YY a b).1.at_=a.at_:=fun a b _ h=> Ztu a b h
  have au:∀ a b:Kid,a.at_=b.at_->(Z0g f a b).2=true->(Z0g f a b).1.at_=a.at_:=fun a b _ _=> rfl
  have hk:∀ a∈p.kids,∀ b∈q.kids,ComWk K (f a.e b.e) a.e b.e:=by
   intro a ha b d
   have:=ZF ha
   have:=ZF d
   exact ih a.e b.e V1 (.of (aa a ha).2 (YB gp.2.2.2.1 ha).2) (.of (ae b d).2 (YB gq.2.2.2.1 d).2)
  cases hL:Zf WEdit.at_ YY p.words q.words with
  | none=> exact ⟨fun h=> (by cases h),fun _ h=> (by cases h),fun _ _ h=> (by cases h),fun _ _ _ _ _ h=> (by cases h)⟩
  | some L=>
   rw [if_pos (show (some L).isSome=true from rfl)]
   cases hM:Zf KidOf.at_ (Z0g f) p.kids q.kids with
   | none=> exact ⟨fun h=> (by cases h),fun _ h=> (by cases h),fun _ _ h=> (by cases h),fun _ _ _ _ _ h=> (by cases h)⟩
   | some M=>
    have S:=(Z4s ax _ p.words q.words (-1) (Q9 _) (Z00 rp.words) (Z00 rq.words)).2 L hL
    have T:=(Z4s au _ p.kids q.kids (-1) (Q9 _) (Z0F rp.kids) (Z0F rq.kids)).2 M hM
    have hw:∀ w∈L,(w.at_<=65534/\w.mask≠0/\Ya w.old w.mask=true/\Ya w.new w.mask=true)/\Z2a w:=by
     intro w hw
     rcases S.of w hw with ⟨h,_⟩ | ⟨h,_⟩ | ⟨a,ha,b,d,_,hc,rfl⟩
     .exact ⟨(awp w h).2,gp.2.2.1 w h⟩
     .exact ⟨(ao w h).2,gq.2.2.1 w h⟩
     .exact ZAX (gp.2.2.1 a ha) (gq.2.2.1 b d) (awp a ha).2 (ao b d).2.2.2 hc
    have hm:∀ k∈M,(k.at_<=65534/\k.e.kind≠0/\Z1 k.e (-2)=true)/\InR k.at_/\ZX k.e:=by
     intro k bf
     rcases T.of k bf with ⟨h,_⟩ | ⟨h,_⟩ | ⟨a,ha,b,d,_,hc,rfl⟩
     .exact ⟨⟨(aa k h).1.2.1,(aa k h).1.2.2,Z0T _ _ _ V3 (aa k h).2⟩,YB gp.2.2.2.1 h⟩
     .exact ⟨⟨(ae k h).1.2.1,(ae k h).1.2.2,Z0T _ _ _ V3 (ae k h).2⟩,YB gq.2.2.2.1 h⟩
     .have H:=hk a ha b d
      have hc:(f a.e b.e).2=true:=hc
      exact ⟨⟨(aa a ha).1.2.1,H.kind (aa a ha).1.2.2 (ae b d).1.2.2 hc,Z0T _ _ _ V3 (H.wk hc).r⟩,(YB gp.2.2.2.1 ha).1,(H.wk hc).g⟩
    refine ⟨fun _=> ⟨ZuF (Zgi S.asc_ fun w h=> (hw w h).1) (Zh6 T.asc_ fun k h=> (hm k h).1),?_⟩,fun hK _=> ?_,fun _ _ _=> (show (2:Int)≠0 by decide),fun _ _ _ _ _ _ _ _=> .inr (.inl rfl)⟩
    .exact ⟨Z0t V3 V3,Js,Js,fun w h=> (hw w h).2,Z0t V3 V3,Znc fun k h=> (hm k h).2,trivial⟩
    .have c1:=Z91 (fun _=> 1) _ _ _ _ (Q9 _) (fun a _ b _ _=> by omega) hL
     have c2:=Z91 Z2s _ _ _ _ (Q9 _) (fun a ha b d hc=> by
      have H:=hk a ha b d
      have hc:(f a.e b.e).2=true:=hc
      have:=H.ct hK hc
      rw [Z30,Z30,Z30]
      show 65600+ctE (f a.e b.e).1<=_
      omega) hM
     rw [Z41,Z41,Z41] at c1
     rw [ZfS,ZfS,ZfS] at c2
     have mo:=Y9 p.old;have mn:=Y9 p.new;have ba:=Y9 q.old;have a9:=Y9 q.new
     simp only [ctE,YF,ofO,Xh,JO]
     omega
 .rw [if_neg p2]
  have p3:p.kind=3:=by have:=rp.kind;omega
  have q3:q.kind=3:=V1
  have hl:p.list=q.list:=V1
  have a3:=rp.list p3
  have op:=ZG wp.r
  have oq:=ZG wq.r
  unfold Z09
  by_cases hb1:(Y7 1 2 p.ops q.ops []).2.1=true
  .rw [if_pos hb1]
   cases hc:Jx f (Y7 1 2 p.ops q.ops []).1 with
   | none=> exact ⟨fun h=> (by cases h),fun _ h=> (by cases h),fun _ _ h=> (by cases h),fun _ _ _ _ _ h=> (by cases h)⟩
   | some ops=>
    obtain ⟨j1,j2,j3,j4⟩:=ZsK wp wq p3 hl ih rfl hb1 hc
    have av:∀ o∈ops,0<=Z2 o:=fun o ho=> JD (Yl (j1 o ho).1)
    have lA:=Yt ops 0 av V3 V3
    have lB:=Jo ops 0 av V3 V3
    have mA:=Yt p.ops 0 (fun o ho=> JD (op o ho)) V3 V3
    have mB:=Jo q.ops 0 (fun o ho=> JD (oq o ho)) V3 V3
    have t1:=rp.len.1
    have t2:=rq.len.2
    refine ⟨fun _=> ⟨?_,?_⟩,fun hK _=> ?_,fun _ _ _=> (show (3:Int)≠0 by decide),fun list h7 h9 _ _ _ ah ar=> ?_⟩
    .refine ZjD a3 (ZaG fun o ho=> (j1 o ho).1) ?_ ?_
     .rw [show ofO (some ops)=ops from rfl];omega
     .rw [show ofO (some ops)=ops from rfl];omega
    .refine ⟨Z0t V3 V3,Js,Js,by simp,?_,trivial,Zh4 fun o ho=> (j1 o ho).2⟩
     unfold InR;omega
    .have j4:=j4 hK;have mo:=Y9 p.old;have mn:=Y9 p.new;have ba:=Y9 q.old;have a9:=Y9 q.new
     simp only [ctE,Z08,ofO,Xh,JO,Qh]
     omega
    .rcases ah with h | h | h
     .exact .inl h
     .omega
     .omega
  .rw [if_neg hb1]
   exact ⟨fun h=> (by cases h),fun _ h=> (by cases h),fun _ _ h=> (by cases h),fun _ _ _ _ _ h=> (by cases h)⟩
theorem ZGW:∀ (n:Nat) (p q:Edit),Z0 p+Z0 q<=n->Wk p->Wk q->ComWk True (Z7k n p q) p q:=by
 intro n
 induction n with
 | zero=> intro p q h;obtain ⟨k,o,nw,w,ks,l,os⟩:=p;simp only [Z0] at h;omega
 | succ n ih=>
  intro p q hn wp wq
  exact Zrh wp wq fun a b s d wb=> ih a b V1 d wb
theorem ZjQ:∀ (k:Nat) (P Q:List AUnit) (out:List APair),P.length+Q.length<=k->∀ x∈(Yg P Q out).1,x∈out\/
  (x.of=0/\(x.p∈P/\x.p.alone=false)/\x.q∈Q/\x.q.alone=false)\/(x.of=1/\x.p∈P)\/(x.of=2/\x.q∈Q):=by
 intro k
 induction k with
 | zero=>
  intro P Q out hk x s
  have e1:P=[]:=Q3 V1
  have e2:Q=[]:=Q3 V1
  subst e1 e2
  rw [Yg,dif_neg (by simp [alo]),dif_neg (by simp [alo]),dif_pos (by simp),if_pos rfl] at s
  exact .inl s
 | succ k ih=>
  intro P Q out hk x s
  have ab:∀ (P' Q':List AUnit),(∀ u∈P',u∈P)->(∀ u∈Q',u∈Q)->((x.of=0/\(x.p∈P'/\x.p.alone=false)/\x.q∈Q'/\x.q.alone=false)\/(x.of=1/\x.p∈P')\/(x.of=2/\x.q∈Q'))->
    ((x.of=0/\(x.p∈P/\x.p.alone=false)/\x.q∈Q/\x.q.alone=false)\/(x.of=1/\x.p∈P)\/(x.of=2/\x.q∈Q)):=by
   rintro P' Q' hP hQ (⟨h,⟨a,b⟩,c,d⟩ | ⟨h,a⟩ | ⟨h,a⟩)
   .grind
   .grind
   .grind
  rw [Yg] at s
  by_cases h1:alo P=true
  .rw [dif_pos h1] at s
   cases P with
   | nil=> cases h1
   | cons a P'=>
    simp only [Q8] at hk
    rcases ih P' Q _ V1 x s with h | h
    .grind
    .exact .inr (ab P' Q (fun u hu=> Q0 _ hu) (fun u hu=> hu) h)
  .rw [dif_neg h1] at s
   by_cases h2:alo Q=true
   .rw [dif_pos h2] at s
    cases Q with
    | nil=> cases h2
    | cons a Q'=>
     simp only [Q8] at hk
     rcases ih P Q' _ V1 x s with h | h
     .grind
     .exact .inr (ab P Q' (fun u hu=> hu) (fun u hu=> Q0 _ hu) h)
   .rw [dif_neg h2] at s
    by_cases h3:P.length=0\/Q.length=0
    .grind
    .rw [dif_neg h3] at s
     cases P with
     | nil=> simp at h3
     | cons a P'=>
      cases Q with
      | nil=> simp at h3
      | cons b Q'=>
       simp only [Q8] at hk
       rcases ih P' Q' _ V1 x s with h | h
       .rcases Qg.1 h with h | h
        .exact .inl h
        .rw [Qe.1 h]
         rw [Z6c] at h1 h2
         grind
       .exact .inr (ab P' Q' (fun u hu=> Q0 _ hu) (fun u hu=> Q0 _ hu) h)
structure UnitOf (o:Op) (a:Int) (u:AUnit):Prop where
 kind:u.kind=o.kind
 t:u.t=Tree.nil\/u.t∈o.l
 e:u.e=Edit.nil\/u.e=o.e
 into:u.kind=3->u.e=o.e
 alone:u.kind=1\/u.kind=2->u.alone=decide (u.kind=a)
theorem Z5s{a:Int}:∀ {l:List Op} {i:Int} {u:AUnit},(∀ o∈l,ZZ o)->u∈ZO i a l->∃ o∈l,UnitOf o a u
 | o ::r,i,u,hl,h=> by
  rw [ZO] at h
  rcases Qg.1 h with h | h
  .simp only [J5,Qg,Qy] at h
   refine ⟨o,Q1,?_⟩
   rcases h with h | ⟨t,ht,rfl⟩ | h
   .split at h
    .rename_i d
     rw [Xw h]
     exact ⟨d.symm,.inl rfl,.inl rfl,fun h=> (by cases h),fun h=> (by rcases h with h | h <;> cases h)⟩
    .cases h
   .refine ⟨rfl,.inr ht,.inl rfl,fun h3=> ?_,fun _=> rfl⟩
    have h3:o.kind=3:=h3
    rcases hl o Q1 with k | k | k
    .omega
    .omega
    .rw [k.2.2] at ht;cases ht
   .split at h
    .rename_i d
     rw [Qe.1 h]
     exact ⟨d.symm,.inl rfl,.inr rfl,fun _=> rfl,fun h=> (by rcases h with h | h <;> cases h)⟩
    .cases h
  .obtain ⟨o',s,h'⟩:=Z5s (fun x hx=> hl x (Q0 _ hx)) h
   exact ⟨o',Q0 _ s,h'⟩
theorem Zyw:∀ (k:Nat) (a b:List Int),a.length+b.length<=k->∀ n∈YJ a b,n∈a\/n∈b:=by
 intro k
 induction k with
 | zero=>
  intro a b s n d
  have e1:a=[]:=Q3 V1
  have e2:b=[]:=Q3 V1
  subst e1 e2
  rw [YJ] at d;cases d
 | succ k ih=>
  intro a b s n d
  match a,b with
  | [],b=> rw [YJ] at d;exact .inr d
  | x ::a,[]=> rw [Z4r] at d;exact .inl d
  | x ::a,y ::b=>
   simp only [Q8] at s
   rw [YJ] at d
   split at d
   .rcases Qa.1 d with rfl | d
    .exact .inl Q1
    .rcases ih a (y ::b) (by simp only [Q8];omega) n d with h | h
     .exact .inl (Q0 _ h)
     .exact .inr h
   .split at d
    .rcases Qa.1 d with rfl | d
     .exact .inr Q1
     .rcases ih (x ::a) b (by simp only [Q8];omega) n d with h | h
      .exact .inl h
      .exact .inr (Q0 _ h)
    .rcases Qa.1 d with rfl | d
     .exact .inl Q1
     .rcases ih a b V1 n d with h | h
      .exact .inl (Q0 _ h)
      .exact .inr (Q0 _ h)
theorem Z8b:∀ (l:List Kid) (n:Int),(Z0x l n=Edit.nil/\n∉l.map KidOf.at_)\/∃ k∈l,Z0x l n=k.e
 | [],n=> .inl ⟨rfl,by simp⟩
 | a ::r,n=> by
  rw [idxK_cons']
  split
  .exact .inr ⟨a,Q1,rfl⟩
  .rename_i h
   rcases Z8b r n with ⟨h1,h2⟩ | ⟨k,hk,h1⟩
   .refine .inl ⟨h1,?_⟩
    simp only [Qm,Qa,not_or]
    exact ⟨fun e=> h e.symm,h2⟩
   .exact .inr ⟨k,Q0 _ hk,h1⟩
where
 idxK_cons' (a:Kid) (r:List Kid) (n:Int):Z0x (a ::r) n=if a.at_=n then a.e else Z0x r n:=by
  unfold Z0x
  by_cases h:a.at_=n
  .rw [if_pos h,List.find?_cons_of_pos];rfl;simpa using h
  .rw [if_neg h,List.find?_cons_of_neg];simpa using h
theorem Zb8:Z0 Edit.nil=3:=rfl
theorem Z2R(e:Edit):3<=Z0 e:=by
 obtain ⟨k,o,n,w,ks,l,os⟩:=e
 have:=Y9 o
 have:=Y9 n
 simp only [Z0];omega
theorem Z5M:Z1 Edit.nil 1=true:=rfl
theorem Zof{p q:Edit}{d d':Int}(hp:Z1 p d=true)(hq:Z1 q d'=true){n:Int}(hn:n∈YJ (p.kids.map KidOf.at_) (q.kids.map KidOf.at_)):
  Z0 (Z0x p.kids n)+Z0 (Z0x q.kids n) < Z0 p+Z0 q/\(∃ d,Z1 (Z0x p.kids n) d=true)/\∃ d,Z1 (Z0x q.kids n) d=true:=by
 have rp:=Zd hp
 have s:=Zd hq
 have m1:=Z2R p
 have m2:=Z2R q
 rcases Z8b p.kids n with ⟨e1,h1⟩ | ⟨k1,hk1,e1⟩
 .rcases Z8b q.kids n with ⟨e2,h2⟩ | ⟨k2,hk2,e2⟩
  .rcases Zyw _ _ _ (Q9 _) n hn with h | h
   .exact absurd h h1
   .exact absurd h h2
  .have:=ZF hk2
   rw [e1,e2,Zb8]
   exact ⟨V1,⟨1,Z5M⟩,_,(Zk s.kids k2 hk2).2⟩
 .have:=ZF hk1
  rcases Z8b q.kids n with ⟨e2,h2⟩ | ⟨k2,hk2,e2⟩
  .rw [e1,e2,Zb8]
   exact ⟨V1,⟨_,(Zk rp.kids k1 hk1).2⟩,1,Z5M⟩
  .have:=ZF hk2
   rw [e1,e2]
   exact ⟨V1,⟨_,(Zk rp.kids k1 hk1).2⟩,_,(Zk s.kids k2 hk2).2⟩
theorem Zhh{f g:Edit->Edit->Edit × Bool}{p q:List Kid}:∀ {l:List Int},(∀ n∈l,f (Z0x p n) (Z0x q n)=g (Z0x p n) (Z0x q n))->Z03 f p q l=Z03 g p q l
 | [],_=> rfl
 | n ::r,h=> by rw [Z03,Z03,h n Q1,Zhh fun m d=> h m (Q0 _ d)]
theorem Z8u{p:Edit}{d:Int}(hp:Z1 p d=true){o:Op}(ho:o∈p.ops){a:Int}{u:AUnit}(hu:UnitOf o a u):Z0 u.e < Z0 p/\∃ d,Z1 u.e d=true:=by
 have:=YD ho
 have s:=Z2R o.e
 rcases hu.e with e | e
 .rw [e,Zb8];exact ⟨V1,1,Z5M⟩
 .rw [e]
  refine ⟨this,?_⟩
  have R:=Zu (rightOs_mem (Zd hp).ops ho)
  cases R with
  | keep | gone | come=> exact ⟨1,Z5M⟩
  | into e h=> grind
theorem Zpr{f g:Edit->Edit->Edit × Bool}{p q:AUnit}(h:f p.e q.e=g p.e q.e):Z0E f p q=Z0E g p q:=by unfold Z0E;rw [h]
theorem Zhg{f g:Edit->Edit->Edit × Bool}:∀ {m:List APair},(∀ x∈m,x.of≠1->x.of≠2->f x.p.e x.q.e=g x.p.e x.q.e)->YI f m=YI g m
 | [],_=> rfl
 | x ::r,h=> by
  rw [Z0B,Z0B,Zhg fun y d=> h y (Q0 _ d)]
  have:rp f x=rp g x:=by
   unfold rp
   split
   .try rfl
   .split
    .try rfl
    .exact Zpr (h x Q1 (by assumption) (by assumption))
  rw [this]
theorem Zad {f g:Edit->Edit->Edit × Bool} {p q:Edit} {d d':Int} (hp:Z1 p d=true) (hq:Z1 q d'=true)
  (h:∀ a b,Z0 a+Z0 b < Z0 p+Z0 q->(∃ d,Z1 a d=true)->(∃ d,Z1 b d=true)->f a b=g a b):Z02 f p q=Z02 g p q:=by
 have hk:Z03 f p.kids q.kids (YJ (p.kids.map KidOf.at_) (q.kids.map KidOf.at_))=Z03 g p.kids q.kids (YJ (p.kids.map KidOf.at_) (q.kids.map KidOf.at_)):=
  Zhh fun n hn=> by obtain ⟨a,b,c⟩:=Zof hp hq hn;exact h _ _ a b c
 have ho:Z4Q f p.ops q.ops=Z4Q g p.ops q.ops:=by
  unfold Z4Q
  split
  .refine Zhg fun x hx h1 h2=> ?_
   rcases ZjQ _ _ _ _ (Q9 _) x hx with m | ⟨_,⟨m1,_⟩,m2,_⟩ | ⟨m,_⟩ | ⟨m,_⟩
   .cases m
   .obtain ⟨o1,s,u1⟩:=Z5s (ZG hp) m1
    obtain ⟨o2,aa,u2⟩:=Z5s (ZG hq) m2
    obtain ⟨a1,b1⟩:=Z8u hp s u1
    obtain ⟨a2,b2⟩:=Z8u hq aa u2
    exact h _ _ V1 b1 b2
   .exact absurd m h1
   .exact absurd m h2
  .try rfl
 unfold Z02
 rw [hk,ho]
theorem ZuH:∀ (n m:Nat) (p q:Edit) (d s:Int),Z1 p d=true->Z1 q s=true->Z0 p+Z0 q<=n->n<=m->Z0N m p q=Z0N n p q:=by
 intro n
 induction n with
 | zero=> intro m p q d s _ _ h;obtain ⟨k,o,nw,w,ks,l,os⟩:=p;simp only [Z0] at h;omega
 | succ n ih=>
  intro m p q d s hp hq h hm
  obtain ⟨m,rfl⟩:∃ k,m=k+1:=⟨m - 1,V1⟩
  show Z02 (Z0N m) p q=Z02 (Z0N n) p q
  exact Zad hp hq fun a b ai ⟨d1,h1⟩ ⟨d2,h2⟩=> ih m a b d1 d2 h1 h2 V1 V1
theorem ZuI{p q:Edit}{d d':Int}(hp:Z1 p d=true)(hq:Z1 q d'=true):JM p q=Z02 JM p q:=by
 have m1:=Z2R p
 unfold JM
 obtain ⟨n,hn⟩:∃ n,Z0 p+Z0 q=n+1:=⟨Z0 p+Z0 q - 1,V1⟩
 rw [hn]
 show Z02 (Z0N n) p q=_
 exact Zad hp hq fun a b aa ⟨s,h1⟩ ⟨d2,h⟩=> ZuH _ _ a b s d2 h1 h (Q9 _) V1
mutual
def utE:Edit->Nat
 | .mk _ o n w ks _ os=> 16+Zq o+Zq n+65600*w.length+Z7i ks+Z0P os
def Z7i:List (KidOf Edit)->Nat
 | []=> 0
 | k ::r=> Zgm k+Z7i r
def Zgm:KidOf Edit->Nat
 | ⟨_,e⟩=> 65600+utE e
def Z0P:List (OpOf Edit)->Nat
 | []=> 0
 | o ::r=> Zap o+Z0P r
def Zap:OpOf Edit->Nat
 | ⟨k,n,l,e⟩=> if k=3 then 16+utE e else 34*(n.toNat+l.length)+Ze l
end
theorem Zgn(e:Edit):utE e=16+Zq e.old+Zq e.new+65600*e.words.length+Z7i e.kids+Z0P e.ops:=by cases e;rfl
theorem Z7o(k:Kid):Zgm k=65600+utE k.e:=by cases k;rfl
theorem Z2P(o:Op):Zap o=if o.kind=3 then 16+utE o.e else 34*(o.n.toNat+o.l.length)+Ze o.l:=by cases o;rfl
theorem ZkH(e:Edit):18<=utE e:=by
 have:=Zgn e
 have:=Y9 e.old
 have:=Y9 e.new
 omega
theorem Z5r:∀ (a b:List Op),Z0P (a++b)=Z0P a+Z0P b
 | [],b=> by simp [Z0P]
 | o ::r,b=> by simp only [Qj,Z0P,Z5r r b];omega
theorem ZiC:∀ (n:Nat) (e:Edit),Z0 e<=n->(∃ d,Z1 e d=true)->ctE e<=utE e:=by
 intro n
 induction n with
 | zero=> intro e h;have:=Z2R e;omega
 | succ n ih=>
  intro e hn ⟨d,hr⟩
  have R:=Zd hr
  have s:∀ l:List Kid,(∀ k∈l,k∈e.kids)->Z08 l<=Z7i l:=by
   intro l
   induction l with
   | nil=> intro _;trivial
   | cons a r ihl=>
    intro h
    have ha:=h a Q1
    have:=ZF ha
    have:=ih a.e V1 ⟨_,(Zk R.kids a ha).2⟩
    have:=ihl fun k s=> h k (Q0 _ s)
    simp only [Z08,Z7i,Z30,Z7o];omega
  have ho:∀ l:List Op,(∀ o∈l,o∈e.ops)->YF l<=Z0P l:=by
   intro l
   induction l with
   | nil=> intro _;trivial
   | cons a r ihl=>
    intro h
    have ha:=h a Q1
    have:=ihl fun k s=> h k (Q0 _ s)
    have hr:=rightOs_mem R.ops ha
    have af:Z1x a<=Zap a:=by
     have me:=YD ha
     rw [Z52,Z2P]
     have rt:=Zu hr
     cases rt with
     | keep n h1 h2=> rw [if_neg (show ¬(0:Int)=3 by decide),Z4y];grind
     | gone l h1 h2=> rw [if_neg (show ¬(1:Int)=3 by decide),Z4y];grind
     | come l h1 h2=> rw [if_neg (show ¬(2:Int)=3 by decide),Z4y];grind
     | into e' h1 h2=>
      rw [if_pos rfl]
      have:=ih e' (by grind) ⟨_,h1⟩
      simp only [Ze];omega
    simp only [YF,Z0P];omega
  have:=s e.kids fun k h=> h
  have:=ho e.ops fun k h=> h
  rw [Z0f,Zgn];omega
theorem ZmL:∀ (n:Nat) (e:Edit),Z0 e<=n->(∃ d,Z1 e d=true)->Jz e=true->utE e+131100<=65600*Z0 e+150000*Z0 e:=by
 intro n
 induction n with
 | zero=> intro e h;have:=Z2R e;omega
 | succ n ih=>
  intro e hn ⟨d,hr⟩ hl
  have R:=Zd hr
  have hm:=Z2R e
  have me:Z0 e=1+Zq e.old+Zq e.new+e.words.length+e.ops.length+Zw e.kids+Zg e.ops:=by cases e;rfl
  have mo:=Y9 e.old
  have mn:=Y9 e.new
  rw [Z96,Q2,Q2,decide_eq_true_eq] at hl
  obtain ⟨⟨l1,l2⟩,l3⟩:=hl
  have hk:∀ l:List Kid,(∀ k∈l,k∈e.kids)->Z0C l=true->Z7i l<=215600*Zw l:=by
   intro l
   induction l with
   | nil=> intro _ _;trivial
   | cons a r ihl=>
    intro h hl
    simp only [Z0C,Q2,Zfm] at hl
    have ha:=h a Q1
    have:=ZF ha
    have:=ih a.e V1 ⟨_,(Zk R.kids a ha).2⟩ hl.1
    have:=ihl (fun k hk=> h k (Q0 _ hk)) hl.2
    simp only [Z7i,Zw,Z7o,Z5Q];omega
  have aa:=ZG hr
  have ho:∀ l:List Op,(∀ o∈l,o∈e.ops)->Yp l=true->(Z0P l:Int)<=215600*Zg l+34*Z5l l+16*l.length:=by
   intro l
   induction l with
   | nil=> intro _ _;trivial
   | cons a r ihl=>
    intro h hl
    simp only [Yp,Q2,Zih] at hl
    have ha:=h a Q1
    have:=ihl (fun k hk=> h k (Q0 _ hk)) hl.2
    have hr:=rightOs_mem R.ops ha
    have am:(Zap a:Int)<=215600*Zs a+34*Z2 a+16:=by
     have me:=YD ha
     have ml:=ZD a.l
     rw [Z2P,ZR]
     have rt:=Zu hr
     have hp:=Jm a
     cases rt with
     | keep n s h2=> grind
     | gone l s h2=> grind
     | come l s h2=> grind
     | into e' s h2=>
      rw [if_pos rfl] at hp ⊢
      have:=ih e' (by grind) ⟨_,s⟩ hl.1
      grind
    simp only [Z0P,Zg,Z5l,Q8];omega
  have s:=hk e.kids (fun k h=> h) l2
  have h2:=ho e.ops (fun k h=> h) l3
  have h3:=kids_sum aa
  have h4:YL e.ops<=2000/\JY e.ops<=2000:=by
   have ok:∀ o∈e.ops,0<=Z2 o:=fun o ho=> JD (aa o ho)
   have a:=Yt e.ops 0 ok V3 V3
   have b:=Jo e.ops 0 ok V3 V3
   omega
  rw [Zgn,me]
  omega
where
 kids_sum:∀ {l:List Op},(∀ o∈l,ZZ o)->Z5l l<=YL l+JY l
  | [],_=> by trivial
  | o ::r,h=> by
   have s:=Yh (h o Q1)
   have h2:=kids_sum fun x hx=> h x (Q0 _ hx)
   simp only [Z5l,YL,JY]
   omega
theorem ZBA(e:Edit):ux ⟨3,0,[],e⟩=[⟨3,0,[],e⟩]:=(Zgk (o:=⟨3,0,[],e⟩) (.inr (.inr ⟨rfl,rfl,rfl⟩)) rfl).1
theorem ZpH {f:Edit->Edit->Edit × Bool} {alone:Int} {x:Piece} {m:List APair} (hof:x.of=0\/x.of=1\/x.of=2) (ha:∀ y∈m,y.of=x.of)
  (hp:x.of≠2->ZZ x.p/\Z2 x.p=m.length/\Z7d x.p alone (m.map APair.p)) (hq:x.of≠1->ZZ x.q/\Z2 x.q=m.length/\Z7d x.q 2 (m.map APair.q))
  (hb:x.of=0->x.p.kind≠1/\x.q.kind≠2):
  YI f m=if (Zx f x).ok then some (if (Zx f x).is then ux (Zx f x).op else []) else none:=by
 have d:∀ (o:Op) (h:APair->Op),(∀ y∈m,rp f y=([h y],true))->m.map h=ux o->Zx f x=⟨o,true,true⟩->YI f m=if (Zx f x).ok then some (if (Zx f x).is then ux (Zx f x).op else []) else none:=by
  intro o h h1 h2 h3
  rw [ZdH f h m h1,h2,h3]
  try rfl
 by_cases c1:x.of=1
 .obtain ⟨o1,o2,o3⟩:=hp V1
  refine d x.p (fun y=> opU y.p) (fun y s=> ?_) ?_ (by unfold Zx;grind)
  .unfold rp;grind
  .rw [<-Z2T o3,QO];try rfl
 by_cases c2:x.of=2
 .obtain ⟨o1,o2,o3⟩:=hq V1
  refine d x.q (fun y=> opU y.q) (fun y s=> ?_) ?_ (by unfold Zx;grind)
  .unfold rp;grind
  .rw [<-Z2T o3,QO];try rfl
 have c0:x.of=0:=V1
 obtain ⟨p1,p2,p3⟩:=hp V1
 obtain ⟨q1,q2,q3⟩:=hq V1
 obtain ⟨b1,b2⟩:=hb c0
 have up:=Z2T p3
 have uq:=Z2T q3
 have kp:∀ y∈m,y.p.kind=x.p.kind:=fun y s=> by
  have:opU y.p∈ux x.p:=by rw [<-up];exact X8 (X8 s)
  rw [<-Z5I];exact ZfQ this
 have kq:∀ y∈m,y.q.kind=x.q.kind:=fun y s=> by
  have:opU y.q∈ux x.q:=by rw [<-uq];exact X8 (X8 s)
  rw [<-Z5I];exact ZfQ this
 have hr:∀ y∈m,rp f y=Z0E f y.p y.q:=fun y s=> by
  unfold rp;grind
 by_cases q0:x.q.kind=0
 .refine d x.p (fun y=> opU y.p) (fun y s=> ?_) ?_ (by unfold Zx;grind)
  .rw [hr y s,Z0E,if_pos (by grind)]
  .rw [<-up,QO];try rfl
 by_cases p0:x.p.kind=0
 .refine d x.q (fun y=> opU y.q) (fun y s=> ?_) ?_ (by unfold Zx;grind)
  .rw [hr y s,Z0E,if_neg (by grind),if_pos (by grind)]
  .rw [<-uq,QO];try rfl
 have au:x.p.kind=2\/x.p.kind=3:=by rcases Y8 p1 with k | k | k | k <;> omega
 have a4:x.q.kind=1\/x.q.kind=3:=by rcases Y8 q1 with k | k | k | k <;> omega
 by_cases pq:x.p.kind=2/\x.q.kind=1
 .obtain ⟨t1,_⟩:=Z22 (k:=2) (.inr rfl) (l:=x.p.l) (m:=m.map APair.p) (by rw [up,Z2o (.inr pq.1),pq.1])
  obtain ⟨t2,_⟩:=Z22 (k:=1) (.inl rfl) (l:=x.q.l) (m:=m.map APair.q) (by rw [uq,Z2o (.inl pq.2),pq.2])
  have t1:x.p.l=m.map fun y=> y.p.t:=by rw [QO] at t1;exact t1
  have t2:x.q.l=m.map fun y=> y.q.t:=by rw [QO] at t2;exact t2
  have hc:Zx f x=⟨Op.nil,false,Zeq x.p.l x.q.l⟩:=by
   unfold Zx
   rw [Jv,Jv,if_pos pq]
   congr 1
   rw [Qq (by rw [t1,t2];simp)]
  obtain ⟨e1,e2⟩:=ZdF f m fun y s=> ⟨by grind,by grind,by grind⟩
  rw [hc]
  dsimp only
  unfold Zeq
  rw [t1,t2]
  by_cases he:Z8 (m.map fun y=> y.p.t)=Z8 (m.map fun y=> y.q.t)
  .simp_all
  .rw [e2 he,if_neg (by rw [Z07];exact he)]
 have ak:m.length=1:=by
  have:Z2 x.p=1\/Z2 x.q=1:=by
   by_cases h:x.p.kind=3
   .exact .inl (JS h)
   .exact .inr (JS V1)
  omega
 obtain ⟨y,rfl⟩:∃ y,m=[y]:=by
  match m,ak with
  | [y],_=> grind
 have ky:=kp y Q1
 have kz:=kq y Q1
 have e1:YI f [y]=if (Z0E f y.p y.q).2 then some (Z0E f y.p y.q).1 else none:=by
  rw [Z0B,hr y Q1]
  split
  .simp [YI]
  .try rfl
 rw [e1]
 simp only [Qm,QJ] at up uq
 by_cases p2':x.p.kind=2
 .have ab:x.q.kind=3:=V1
  rw [Z2o (.inr p2')] at up
  obtain ⟨e2,_⟩:=Zgk q1 ab
  rw [e2] at uq
  have et:x.p.l=[y.p.t]:=by
   have:=(Z22 (k:=2) (.inr rfl) (l:=x.p.l) (m:=[y.p]) (by grind)).1
   simpa using this
  have ee:y.q.e=x.q.e:=by
   have h:=(List.cons.inj uq).1
   unfold opU at h
   rw [Jv,V0] at h
   injection h
  have hc:Zx f x=⟨⟨2,0,[YP (doE true y.q.e y.p.t)],Edit.nil⟩,true,(doE true y.q.e y.p.t).isSome⟩:=by
   unfold Zx
   rw [Jv,Jv,if_neg pq,if_pos p2',et,ee]
   simp only [Qr,doB,Z67,Xr]
  have hu:Z0E f y.p y.q=([⟨2,0,[YP (doE true y.q.e y.p.t)],Edit.nil⟩],(doE true y.q.e y.p.t).isSome):=by
   unfold Z0E
   grind
  rw [hc,hu]
  try rfl
 have al:x.p.kind=3:=V1
 obtain ⟨e2,_⟩:=Zgk p1 al
 rw [e2] at up
 have am:y.p.e=x.p.e:=by
  have h:=(List.cons.inj up).1
  unfold opU at h
  rw [Jv,V0] at h
  injection h
 by_cases q1':x.q.kind=1
 .rw [Z2o (.inl q1')] at uq
  have et:x.q.l=[y.q.t]:=by
   have:=(Z22 (k:=1) (.inl rfl) (l:=x.q.l) (m:=[y.q]) (by grind)).1
   simpa using this
  have hc:Zx f x=⟨⟨1,0,[YP (doE true (Zp (Zt y.p.e)) y.q.t)],Edit.nil⟩,true,(doE true (Zp (Zt y.p.e)) y.q.t).isSome⟩:=by
   unfold Zx
   rw [Jv,Jv,if_neg pq,if_neg p2',if_pos q1',et,am]
   simp only [Qr,doB,Z67,Xr]
  have hu:Z0E f y.p y.q=([⟨1,0,[YP (doE true (Zp (Zt y.p.e)) y.q.t)],Edit.nil⟩],(doE true (Zp (Zt y.p.e)) y.q.t).isSome):=by
   unfold Z0E
   grind
  rw [hc,hu]
  try rfl
 have ab:x.q.kind=3:=V1
 obtain ⟨e3,_⟩:=Zgk q1 ab
 rw [e3] at uq
 have a2:y.q.e=x.q.e:=by
  have h:=(List.cons.inj uq).1
  unfold opU at h
  rw [Jv,V0] at h
  injection h
 have hc:Zx f x=⟨⟨3,0,[],(f x.p.e x.q.e).1⟩,true,(f x.p.e x.q.e).2⟩:=by
  unfold Zx
  grind
 have hu:Z0E f y.p y.q=([⟨3,0,[],(f x.p.e x.q.e).1⟩],(f x.p.e x.q.e).2):=by
  unfold Z0E
  grind
 rw [hc,hu]
 try rfl
theorem Zc6{f:Edit->Edit->Edit × Bool}{alone:Int}{p0 q0:List Op}:∀ {ps:List Piece} {m:List APair},Zex alone ps m->(∀ x∈ps,POk p0 q0 x)->YI f m=(Jx f ps).map fun l=> l.flatMap ux
 | [],m,h,_=> by
  have h:m=[]:=h
  subst h
  try rfl
 | x ::r,m,h,hok=> by
  rw [Z31] at h
  obtain ⟨m1,m2,rfl,hm,⟨d,_,ha,s,hq⟩,hr⟩:=h
  have ih:=Zc6 (f:=f) hr (fun y hy=> hok y (Q0 _ hy))
  have hx:=hok x Q1
  have j:=ZpH (f:=f) d ha (fun h=> ⟨(s h).1,(s h).2.2⟩) (fun h=> ⟨(hq h).1,(hq h).2.2⟩) (fun h=> ⟨(hx.both h).1,(hx.both h).2.1⟩)
  rw [ZdG,j,Jx]
  by_cases hc:(Zx f x).ok=true
  .rw [if_pos hc,if_pos hc,Qb,ih]
   cases Jx f r with
   | none=> rfl
   | some l=>
    grind
  grind
theorem Zo4{f:Edit->Edit->Edit × Bool}{p q:List Op}(hp:okL p)(hq:okL q):Z4Q f p q=(Z09 f p q).map fun l=> l.flatMap ux:=by
 obtain ⟨ok,l,m,e1,e2,e3,e4⟩:=ZnD 1 (.inl rfl) _ p q [] (ZO 0 1 p) (ZO 0 2 q) [] (Q9 _) hp hq (Z5q 1 p 0) (Z5q 2 q 0)
 obtain ⟨s,_⟩:=Z4m _ p q [] (Q9 _) (fun o d=> (hp o d).1) (fun o d=> (hq o d).1)
 unfold Z09 Z4Q
 rw [e2,e3,e1]
 cases ok with
 | false=> rfl
 | true=>
  obtain ⟨ps,e,h,_,_⟩:=s e2
  rw [e1,if_pos rfl] at e
  simp only [Qo] at e
  subst e
  simp only [if_true,Qo]
  exact Zc6 (e4 rfl).1 h
theorem Zxh{list:Int}{o:Op}(h:Za list o (-2)=true)(g:YH o):∀ y∈ux o,Za list y (-2)=true/\YH y:=by
 have ho:=Yl h
 have G:=Z0j g
 have R:=Zu h
 intro y d
 cases R with
 | keep n h1 h2=>
  rw [(Zxi ho rfl).1] at d
  rw [Xw d]
  exact ⟨Zsc V3 V3 _,Z0t V3 V3,Z0t V3 V3,trivial,G.2.2.2⟩
 | gone l h1 h2=>
  rw [Z2o (.inl rfl)] at d
  obtain ⟨t,s,rfl⟩:=Qy.1 d
  exact ⟨Z5H (.inl rfl) (Z2v fun x hx=> by rw [Qe.1 hx];exact Z1Q h1 t s) (by simp),G.1,Z0t V3 V3,⟨Jl G.2.2.1 s,trivial⟩,G.2.2.2⟩
 | come l h1 h2=>
  rw [Z2o (.inr rfl)] at d
  obtain ⟨t,s,rfl⟩:=Qy.1 d
  exact ⟨Z5H (.inr rfl) (Z2v fun x hx=> by rw [Qe.1 hx];exact Z1Q h1 t s) (by simp),G.1,Z0t V3 V3,⟨Jl G.2.2.1 s,trivial⟩,G.2.2.2⟩
 | into e h1 h2=>
  rw [ZBA] at d
  grind
theorem Z42(φ:Op->Int)(h:Tree->Op)(c:Tree->Int)(hc:∀ t,φ (h t)=c t):∀ l:List Tree,Ys φ (l.map h)=(l.map c).sum
 | []=> rfl
 | t ::r=> by simp only [Qm,Ys,hc,List.sum_cons,Z42 φ h c hc r]
theorem Zbt(φ:Op->Int)(o:Op):∀ n:Nat,Ys φ (List.replicate n o)=n*φ o
 | 0=> by simp [Ys]
 | n+1=> by
  rw [Xz,Ys,Zbt φ o n]
  grind
theorem Z8z(φ:Op->Int)(h:∀ o,ZZ o->Ys φ (ux o)=φ o):∀ {l:List Op},(∀ o∈l,ZZ o)->Ys φ (l.flatMap ux)=Ys φ l
 | [],_=> rfl
 | o ::r,hl=> by
  rw [Xj,ZmX,h o (hl o Q1),Z8z φ h fun x d=> hl x (Q0 _ d)];try rfl
theorem Z69(c:Int):∀ l:List Tree,(l.map fun _=> c).sum=l.length*c
 | []=> by simp
 | t ::r=> by
  rw [Qm,List.sum_cons,Z69 c r,Q8]
  grind
theorem ZLg{o:Op}(h:ZZ o):Ys φA (ux o)=φA o:=by
 rcases Y8 h with k | k | k | k
 .obtain ⟨e,d⟩:=Zxi h k.1
  rw [e,Zbt]
  have e1:φA ⟨0,1,[],Edit.nil⟩=1:=rfl
  rw [e1]
  unfold φA
  rw [Jv,Z3p h k.1]
  omega
 .rw [Z2o (.inl k),Z42 φA _ (fun _=> 1) (fun t=> by unfold φA;rw [if_neg (by grind)];unfold Z2;grind),Z69]
  unfold φA
  rw [Jv,ZU h (.inl k)];omega
 .rw [Z2o (.inr k),Z42 φA _ (fun _=> 0) (fun t=> by unfold φA;rw [if_pos k]),Z69]
  unfold φA
  omega
 .obtain ⟨e1,e2⟩:=Zgk h k
  rw [e1,<-e2];simp [Ys]
theorem ZLf{o:Op}(h:ZZ o):Ys φB (ux o)=φB o:=by
 rcases Y8 h with k | k | k | k
 .obtain ⟨e,d⟩:=Zxi h k.1
  rw [e,Zbt]
  have e1:φB ⟨0,1,[],Edit.nil⟩=1:=rfl
  rw [e1]
  unfold φB
  rw [Jv,Z3p h k.1]
  omega
 .rw [Z2o (.inl k),Z42 φB _ (fun _=> 0) (fun t=> by unfold φB;rw [if_pos k]),Z69]
  unfold φB
  omega
 .rw [Z2o (.inr k),Z42 φB _ (fun _=> 1) (fun t=> by unfold φB;rw [if_neg (by grind)];unfold Z2;grind),Z69]
  unfold φB
  rw [Jv,ZU h (.inr k)];omega
 .obtain ⟨e1,e2⟩:=Zgk h k
  rw [e1,<-e2];simp [Ys]
def φU(o:Op):Int:=Zap o
theorem Zdv:∀ l,Ys φU l=Z0P l
 | []=> rfl
 | o ::r=> by simp only [Ys,Z0P,φU,Zdv r];omega
theorem Zi3:∀ l:List Tree,(l.map fun t=> ((34+Zq t:Nat):Int)).sum=34*l.length+Ze l
 | []=> rfl
 | t ::r=> by rw [Qm,List.sum_cons,Zi3 r];simp only [Ze,Q8];omega
theorem ZLe{o:Op}(h:ZZ o):Ys φU (ux o)=φU o:=by
 have s:=Z2P o
 rcases Y8 h with k | k | k | k
 .obtain ⟨e,d⟩:=Zxi h k.1
  have hl:o.l=[]:=by rcases h with h | h | h <;> first | exact h.2.1 | omega
  rw [e,Zbt]
  have e1:φU ⟨0,1,[],Edit.nil⟩=34:=rfl
  rw [e1]
  unfold φU
  rw [s,Jv,hl]
  simp only [Ze,Qh]
  omega
 .have d:o.n=0:=by rcases h with h | h | h <;> first | exact h.2.1 | omega
  rw [Z2o (.inl k),Z42 φU _ (fun t=> ((34+Zq t:Nat):Int)) (fun t=> by unfold φU;rw [Z2P,if_neg (by grind)];simp [Ze]),Zi3]
  unfold φU
  grind
 .have d:o.n=0:=by rcases h with h | h | h <;> first | exact h.2.1 | omega
  rw [Z2o (.inr k),Z42 φU _ (fun t=> ((34+Zq t:Nat):Int)) (fun t=> by unfold φU;rw [Z2P,if_neg (by grind)];simp [Ze]),Zi3]
  unfold φU
  grind
 .obtain ⟨e1,e2⟩:=Zgk h k
  rw [e1,<-e2];simp [Ys]
theorem ZFl:ZqZ φU:=by
 intro o n h s d
 have hl:=Jm o
 unfold φU
 rw [Z2P,Z2P,Z2P,Z1F,Zbf]
 unfold ZK Z0M
 rw [if_neg d]
 rcases h with ⟨k0,k1,k2,k3⟩ | ⟨k0,k1,k2,k3⟩ | ⟨k0,k1,k2⟩
 .rw [if_pos k0,if_pos k0,Jv,Jv,Jv]
  rw [Jv,k1] at hl
  dsimp only
  rw [k1]
  simp only [Ze,Qh] at*
  omega
 .rw [Jv,Jv,Jv,Jv,Jv]
  rw [Jv] at hl
  dsimp only
  have:=JP (o.l.take n.toNat) (o.l.drop n.toNat)
  rw [QI] at this
  grind
 omega
theorem ZG3{l:List Op}{o:Op}(h:Part l o):∃ d∈l,o.kind=d.kind/\o.e=d.e:=by obtain ⟨d,a,b,c,_⟩:=h;grind
theorem ZCS {f:Edit->Edit->Edit × Bool} {p q:Edit} (wp:Wk p) (wq:Wk q)
  (ih:∀ a b,Z0 a+Z0 b < Z0 p+Z0 q->Wk a->Wk b->(f a b).2=true->utE (f a b).1+18<=utE a+utE b) {ps:List Piece} (e:(Y7 1 2 p.ops q.ops []).1=ps) (hb1:(Y7 1 2 p.ops q.ops []).2.1=true) {ops:List Op} (hc:Jx f ps=some ops):
  Z0P ops<=Z0P p.ops+Z0P q.ops:=by
 have gp:=ZB wp.g
 have gq:=ZB wq.g
 have op:=ZG wp.r
 have oq:=ZG wq.r
 have ah:∀ {e:Edit},Wk e->∀ {o:Op},Part e.ops o->o.kind=3->Z0 o.e < Z0 e/\Wk o.e:=by
  intro e w o h k
  obtain ⟨o',m,k1,e1⟩:=ZG3 h
  rw [e1]
  exact ⟨YD m,.of (Ye (rightOs_mem (Zd w.r).ops m) V1) (Z0j (JL (ZB w.g).2.2.2.2 m)).2.2.2⟩
 obtain ⟨i1,_⟩:=Z4m _ p.ops q.ops [] (Q9 _) op oq
 obtain ⟨a9,e0,ar,_,_⟩:=i1 hb1
 obtain ⟨bc,e1,sA,sB,_⟩:=Zcc ZFl ZFl 1 _ p.ops q.ops [] (Q9 _) op oq hb1
 rw [e,Qo] at e0 e1
 subst e0 e1
 have one:∀ x∈ps,(Zx f x).ok=true->(Zx f x).is=true->φU (Zx f x).op<=(if x.of=2 then 0 else φU x.p)+(if x.of=1 then 0 else φU x.q):=by
  intro x hx d
  have X:=ar x hx
  have ab:∀ o:Op,0<=φU o:=fun o=> by unfold φU;omega
  have n1:=ab x.p
  have n2:=ab x.q
  unfold Zx at d ⊢
  by_cases c1:x.of=1\/(x.of=0/\x.q.kind=0)
  .grind
  rw [if_neg c1] at d ⊢
  by_cases c2:x.of=2\/x.p.kind=0
  .grind
  rw [if_neg c2] at d ⊢
  have c0:x.of=0:=by rcases X.of with h | h | h <;> omega
  obtain ⟨b1,b2,b3⟩:=X.both c0
  have h1:x.of≠1:=V1
  have h2:x.of≠2:=V1
  obtain ⟨pp,am⟩:=X.pp h2
  obtain ⟨pq,al⟩:=X.qq h1
  have kp:x.p.kind=2\/x.p.kind=3:=by rcases Y8 am with k | k | k | k <;> omega
  have kq:x.q.kind=1\/x.q.kind=3:=by rcases Y8 al with k | k | k | k <;> omega
  rw [if_neg h2,if_neg h1]
  have up:φU x.p=Zap x.p:=rfl
  have uq:φU x.q=Zap x.q:=rfl
  rw [Z2P] at up uq
  by_cases c3:x.p.kind=2/\x.q.kind=1
  .grind
  rw [if_neg c3] at d ⊢
  have aa:∀ {o:Op},(o.kind=1\/o.kind=2)->Z2 o=1->ZZ o->∃ t,o.l=[t]:=by
   intro o k h1 ho
   have az:=ZU ho k
   have ak:o.l.length=1:=V1
   match h:o.l,ak with
   | [t],_=> exact ⟨t,rfl⟩
  by_cases c4:x.p.kind=2
  .rw [if_pos c4] at d ⊢
   have s:x.q.kind=3:=V1
   have ak:Z2 x.q=1:=JS s
   obtain ⟨t,ht⟩:=aa (.inr c4) V1 am
   obtain ⟨_,w⟩:=ah wq pq s
   rw [ht,Qr] at d ⊢
   dsimp only at d ⊢
   obtain ⟨v,hv,ev⟩:=Z8o d
   intro _
   rw [ev]
   have m1:=Z3r false _ _ _ v w.r hv
   have m2:=Y5 v
   have m3:=ZiC _ x.q.e (Q9 _) ⟨_,w.r⟩
   rw [Jv,ht] at up
   rw [if_pos s] at uq
   have:φU ⟨2,0,[Z6 v],Edit.nil⟩=34+Zq (Z6 v):=rfl
   rw [this]
   simp only [Ze,Q8,Qh] at up
   omega
  rw [if_neg c4] at d ⊢
  have af:x.p.kind=3:=V1
  have be:Z2 x.p=1:=JS af
  obtain ⟨mp,w⟩:=ah wp pp af
  by_cases c5:x.q.kind=1
  .rw [if_pos c5] at d ⊢
   obtain ⟨t,ht⟩:=aa (.inl c5) V1 al
   rw [ht,Qr] at d ⊢
   dsimp only at d ⊢
   obtain ⟨v,hv,ev⟩:=Z8o d
   intro _
   rw [ev]
   have m1:=Z3r false _ _ _ v w.turn.r hv
   have m2:=Y5 v
   have m3:=ZiC _ x.p.e (Q9 _) ⟨_,w.r⟩
   have m4:=Z5n (Zt x.p.e)
   rw [Z72] at m4
   rw [Jv,ht] at uq
   rw [if_pos af] at up
   have:φU ⟨1,0,[Z6 v],Edit.nil⟩=34+Zq (Z6 v):=rfl
   rw [this]
   simp only [Ze,Q8,Qh] at uq
   omega
  rw [if_neg c5] at d ⊢
  have s:x.q.kind=3:=V1
  obtain ⟨mq,w'⟩:=ah wq pq s
  dsimp only at d ⊢
  intro _
  have H:=ih x.p.e x.q.e V1 w w' d
  rw [if_pos af] at up
  rw [if_pos s] at uq
  have:φU ⟨3,0,[],(f x.p.e x.q.e).1⟩=16+utE (f x.p.e x.q.e).1:=rfl
  rw [this]
  omega
 have all:∀ (ps:List Piece) (ops:List Op),(∀ x∈ps,(Zx f x).ok=true->(Zx f x).is=true->φU (Zx f x).op<=(if x.of=2 then 0 else φU x.p)+(if x.of=1 then 0 else φU x.q))->Jx f ps=some ops->
   Ys φU ops<=Ys φU (Z2q ps)+Ys φU (Z2p ps):=by
  intro ps
  induction ps with
  | nil=> intro ops _ h;cases h;trivial
  | cons x r ihp=>
   intro ops hx h
   rw [Jx] at h
   split at h
   .rename_i d
    obtain ⟨l,ax,rfl⟩:=Qd.1 h
    have j:=ihp l (fun y hy=> hx y (Q0 _ hy)) ax
    have k:=hx x Q1 d
    have ab:∀ o:Op,0<=φU o:=fun o=> by unfold φU;omega
    have n1:=ab x.p
    have n2:=ab x.q
    have av:Ys φU (Z2q (x ::r))=(if x.of=2 then 0 else φU x.p)+Ys φU (Z2q r):=by
     simp only [Z2q]
     split <;> simp [Ys]
    have aq:Ys φU (Z2p (x ::r))=(if x.of=1 then 0 else φU x.q)+Ys φU (Z2p r):=by
     simp only [Z2p]
     split <;> simp [Ys]
    rw [av,aq]
    by_cases his:(Zx f x).is=true
    .rw [if_pos his]
     have k:=k his
     simp only [Qj,Qo,Ys]
     omega
    grind
   .cases h
 have a:=all ps ops one hc
 rw [sA,sB,Zdv,Zdv,Zdv] at a
 omega
theorem Zrc(o n:Tree):utE (.mk 1 o n [] [] 0 [])=16+Zq o+Zq n:=by rfl
theorem Zya:∀ (n:Nat) (p q:Edit),Z0 p+Z0 q<=n->n<=18000000000->Wk p->Wk q->ComWk False (Z0N n p q) p q/\((Z0N n p q).2=true->utE (Z0N n p q).1+18<=utE p+utE q):=by
 intro n
 induction n with
 | zero=> intro p q h;have:=Z2R p;omega
 | succ n ih=>
  intro p q hn hN wp wq
  have rp:=Zd wp.r
  have rq:=Zd wq.r
  have aj:∀ a b,Z0 a+Z0 b < Z0 p+Z0 q->Wk a->Wk b->ComWk False (Z0N n a b) a b:=fun a b h wa wb=> (ih a b V1 V1 wa wb).1
  have ai:∀ a b,Z0 a+Z0 b < Z0 p+Z0 q->Wk a->Wk b->(Z0N n a b).2=true->utE (Z0N n a b).1+18<=utE a+utE b:=fun a b h wa wb=> (ih a b V1 V1 wa wb).2
  have S:=Zrh wp wq aj
  have up:=Zgn p
  have uq:=Zgn q
  have u1:=ZkH p
  have u2:=ZkH q
  have gp:=ZB wp.g
  have gq:=ZB wq.g
  have c1:=ZiC _ p (Q9 _) ⟨_,wp.r⟩
  have c2:=ZiC _ q (Q9 _) ⟨_,wq.r⟩
  have mo:=Y9 p.old;have mn:=Y9 p.new;have bg:=Y9 q.old;have bf:=Y9 q.new
  have hB:∀ (e:Edit) (t:Tree),doB e t=(YP (doE true e t),(doE true e t).isSome):=fun e t=> by
   unfold doB;rw [Z67,Option.isSome_map]
  have no:∀ e:Edit,ComWk False (e,false) p q/\((e,false).2=true->utE (e,false).1+18<=utE p+utE q):=fun e=> ⟨⟨fun h=> (by cases h),fun h=> h.elim,fun _ _ h=> (by cases h),fun _ _ _ _ _ h=> (by cases h)⟩,fun h=> by cases h⟩
  show ComWk False (Z02 (Z0N n) p q) p q/\((Z02 (Z0N n) p q).2=true->utE (Z02 (Z0N n) p q).1+18<=utE p+utE q)
  unfold JW at S
  unfold Z02
  by_cases p0:p.kind=0
  .rw [if_pos p0] at S ⊢
   exact ⟨S,fun _=> by dsimp only;omega⟩
  rw [if_neg p0] at S ⊢
  by_cases q0:q.kind=0
  .rw [if_pos q0] at S ⊢
   exact ⟨S,fun _=> by dsimp only;omega⟩
  rw [if_neg q0] at S ⊢
  by_cases p1:p.kind=1
  .rw [if_pos p1] at S ⊢
   refine ⟨by rw [hB] at S;exact S,fun h=> ?_⟩
   have h:(doB q p.new).2=true:=by rw [hB];exact h
   obtain ⟨v,hv,e⟩:=Z8o h
   have e':YP (doE true q p.new)=Z6 v:=by rw [<-e,hB]
   have:=Z3r false q _ _ v wq.r hv
   have:=Y5 v
   dsimp only
   rw [Zrc,e']
   omega
  rw [if_neg p1] at S ⊢
  by_cases q1:q.kind=1
  .rw [if_pos q1] at S ⊢
   refine ⟨by rw [hB] at S;exact S,fun h=> ?_⟩
   have h:(doB (Zp (Zt p)) q.old).2=true:=by rw [hB];exact h
   obtain ⟨v,hv,e⟩:=Z8o h
   have e':YP (doE true (Zp (Zt p)) q.old)=Z6 v:=by rw [<-e,hB]
   have:=Z3r false _ _ _ v wp.turn.r hv
   have:=Y5 v
   have:=Z5n (Zt p)
   rw [Z72] at this
   dsimp only
   rw [Zrc,e']
   omega
  rw [if_neg q1] at S ⊢
  by_cases s:p.kind=q.kind
  .rw [if_neg (show ¬p.kind≠q.kind by omega)]
   by_cases p2:p.kind=2
   .have l1:=(rp.ops0 V1).1
    have l2:=(rq.ops0 V1).1
    rw [if_neg (by rintro (h | h);exact h s;exact h (l1.trans l2.symm)),if_pos p2] at S
    rw [if_pos p2]
    rw [ZeV _ p.words q.words (-1) (Q9 _) (Z00 rp.words) (Z00 rq.words)]
    have aw:1<=n\/(p.kids=[]/\q.kids=[]):=by
     by_cases h1:p.kids=[]
     .by_cases h2:q.kids=[]
      .exact .inr ⟨h1,h2⟩
      .obtain ⟨k,s⟩:=Xt _ h2
       have:=ZF s
       have:=Z2R k.e
       exact .inl V1
     .obtain ⟨k,s⟩:=Xt _ h1
      have:=ZF s
      have:=Z2R k.e
      exact .inl V1
    have hm:Z03 (Z0N n) p.kids q.kids (YJ (p.kids.map KidOf.at_) (q.kids.map KidOf.at_))=Zf KidOf.at_ (Z0g (Z0N n)) p.kids q.kids:=by
     rcases aw with h | ⟨h1,h2⟩
     .obtain ⟨m,rfl⟩:∃ m,n=m+1:=⟨n - 1,V1⟩
      exact ZeX _ p.kids q.kids (-1) (Q9 _) (Z0F rp.kids) (Z0F rq.kids) (fun k s=> (ZbY m (Zk rp.kids k s).1.2.2).1) (fun k s=> (ZbY m (Zk rq.kids k s).1.2.2).2)
     .rw [h1,h2,QJ,YJ,Zf];try rfl
    rw [hm]
    cases hw:Zf WEdit.at_ YY p.words q.words with
    | none=> exact no Edit.nil
    | some L=>
     rw [hw,if_pos (show (some L).isSome=true from rfl)] at S
     cases hf:Zf KidOf.at_ (Z0g (Z0N n)) p.kids q.kids with
     | none=> exact no Edit.nil
     | some M=>
      rw [hf] at S
      refine ⟨S,fun _=> ?_⟩
      have al:=Zk rp.kids
      have am:=Zk rq.kids
      have d1:=Z91 (fun _=> 1) _ _ _ _ (Q9 _) (fun a _ b _ _=> by omega) hw
      have d2:=Z91 Zgm _ _ _ _ (Q9 _) (fun a ha b hb hc=> by
       have hc:(Z0N n a.e b.e).2=true:=hc
       have m1:=ZF ha
       have m2:=ZF hb
       have:=ai a.e b.e V1 (.of (al a ha).2 (YB gp.2.2.2.1 ha).2) (.of (am b hb).2 (YB gq.2.2.2.1 hb).2) hc
       rw [Z7o,Z7o,Z7o]
       show 65600+utE (Z0N n a.e b.e).1<=_
       omega) hf
      rw [Z41,Z41,Z41] at d1
      have su:∀ l:List Kid,Zdu Zgm l=Z7i l:=by
       intro l
       induction l with
       | nil=> rfl
       | cons a r ihl=> simp only [Zdu,Z7i,ihl]
      rw [su,su,su] at d2
      simp only [utE,Z0P,JO]
      omega
   .have p3:p.kind=3:=by have:=rp.kind;omega
    have q3:q.kind=3:=V1
    rw [if_neg p2]
    by_cases hl:p.list=q.list
    .rw [Jv]
     have ok:∀ (e:Edit),Wk e->Z0 e<=18000000000->okL e.ops:=fun e h hm o d=> by
      refine ⟨ZG h.r o d,?_⟩
      have:=Z1V d
      obtain ⟨kk,ol,nn,w,ks,l,os⟩:=e
      simp only [Z0,Edit.ops_mk] at*
      omega
     rw [Zo4 (ok p wp V1) (ok q wq V1)]
     unfold Z09
     by_cases hb1:(Y7 1 2 p.ops q.ops []).2.1=true
     .rw [if_pos hb1]
      cases hc:Jx (Z0N n) (Y7 1 2 p.ops q.ops []).1 with
      | none=> exact no Edit.nil
      | some ops=>
       obtain ⟨j1,j2,j3,_⟩:=ZsK wp wq p3 hl aj rfl hb1 hc
       have ju:=ZCS wp wq ai rfl hb1 hc
       have ab:∀ o∈ops,ZZ o:=fun o d=> Yl (j1 o d).1
       have fr:∀ y∈ops.flatMap ux,Za p.list y (-2)=true/\YH y:=by
        intro y hy
        obtain ⟨o,d,hy⟩:=K2.1 hy
        exact Zxh (j1 o d).1 (j1 o d).2 y hy
       have fA:=Z8z φA (fun o h=> ZLg h) ab
       have fB:=Z8z φB (fun o h=> ZLf h) ab
       have fU:=Z8z φU (fun o h=> ZLe h) ab
       rw [Zgy,Zgy] at fA
       rw [Zgx,Zgx] at fB
       rw [Zdv,Zdv] at fU
       have ak:∀ o∈ops.flatMap ux,0<=Z2 o:=fun o d=> JD (Yl (fr o d).1)
       have lA:=Yt _ 0 ak V3 V3
       have lB:=Jo _ 0 ak V3 V3
       have mA:=Yt p.ops 0 (fun o d=> JD (ZG wp.r o d)) V3 V3
       have mB:=Jo q.ops 0 (fun o d=> JD (ZG wq.r o d)) V3 V3
       have t1:=rp.len.1
       have t2:=rq.len.2
       have ao:=rp.list p3
       show ComWk False (.mk 3 Tree.nil Tree.nil [] [] p.list (ops.flatMap ux),true) p q/\_
       refine ⟨⟨fun _=> ⟨ZjD ao (ZaG fun o d=> (fr o d).1) V1 V1,?_⟩,fun h=> h.elim,fun _ _ _=> (show (3:Int)≠0 by decide),fun list h7 h9 _ _ _ ay a9=> ?_⟩,fun _=> ?_⟩
       .exact ⟨Z0t V3 V3,Js,Js,by simp,V5,trivial,Zh4 fun o d=> (fr o d).2⟩
       .rcases ay with h | h | h
        .exact .inl h
        .omega
        .omega
       .show utE (.mk 3 Tree.nil Tree.nil [] [] p.list (ops.flatMap ux))+18<=_
        simp only [utE,Z7i,JO,Qh]
        omega
     .rw [if_neg hb1];exact no Edit.nil
    .rw [if_pos hl];exact no Edit.nil
  .rw [if_pos s];exact no Edit.nil
def refOk(e:Edit):Prop:=utE e<=9000000000/\ZX e/\∃ d,Z1 e d=true
theorem refOk.re{e:Edit}(h:refOk e):YT e:=⟨QN (ZiC _ e (Q9 _) h.2.2) h.1,h.2⟩
end Go.AM.YtpjenobkibfpcaaGreat
