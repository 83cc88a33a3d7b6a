import Derived.Test.YtnfbomhidainjaaGreatTKG24
set_option linter.unusedSimpArgs false
set_option linter.unusedVariables false
namespace Go.AM.YtnfbomhidainjaaGreat
open Go.AM Go.Proofs
theorem ZuE{o:Op}(h:Zs o<=20000000000):o.l.length<=20000000000:=by
 have:=Y4 o.l
 rw [YQ] at h
 omega
theorem ZaV{o:Op}(h:YW o):0<=o.n/\o.n<=1048576:=by
 unfold YW at h
 omega
theorem JG(o:Op):Z5 o=if o.kind=3 then 1 else o.n+o.l.length:=rfl
theorem c99:Contract Tryz.prog cfg 99 Z5E:=by
 refine ZCM ?_
 intro o _ hp
 simp only [ZbW] at hp
 have hl:=ZuE hp.1
 refine ZIl _ _ ?_;(try simp only [iB,vcT,forall_eq])
 (simp only [iB,vcS]);(try simp only [iB,vcT])
 exact ⟨fun d=> ZE rfl (by rw [JG,if_pos d]),fun d=> ⟨V4,ZE rfl (by rw [JG,if_neg d])⟩⟩
theorem Zsf:Contract Tryz.prog cfg 100 Z3g:=by
 refine ZzJ ?_
 intro l d _ hp
 refine ZH3 _ _ _ ?_;(try simp only [iB,vcT,forall_eq])
 have e:((l.length:Int)==0)=decide (l.length=0):=by rw [Xb];(simp only [iB,vcS]);omega
 rw [e]
 exact V1
theorem c97:Contract Tryz.prog cfg 97 Zdx:=by
 refine ZCO Zsf ?_
 intro l d _ hp
 refine ZIn _ _ _ ?_;(try simp only [iB,vcT,forall_eq])
 have e:(bif (!(decide (l.length=0))) then ((OpOf.kind (List.getD l (Int.toNat 0) Op.nil))==d) else false)=sgl d l:=by
  rw [Xb]
  simp only [sgl]
  (simp only [iB,vcS])
  try rfl
 rw [e]
 refine ⟨hp,fun h=> ⟨V0,?_⟩,V1⟩
 grind
theorem c56(c80:Contract Tryz.prog cfg 80 Zay):Contract Tryz.prog cfg 56 Z4K:=by
 refine ZDg c80 ?_
 intro p q _ d
 refine ZIS _ _ _ ?_;(try simp only [iB,vcT,forall_eq])
 refine ⟨d,?_⟩
 exact V1
theorem c98:Contract Tryz.prog cfg 98 Zdw:=by
 refine ZCN c99 ?_
 intro l al n _ hp
 simp only [Zeo] at hp
 obtain ⟨⟨ho,hm⟩,hl,h1,h2⟩:=hp
 have d:=Zi (l:=l) (i:=0) V0 Op.nil
 have ab:=ho _ d
 have ak:=Z0m d
 have ai:=YO l
 refine ZIm _ _ _ _ ?_;(try simp only [iB,vcT])
 rintro y rfl _ rfl _ rfl
 have e0:(Int.toNat 0)=0:=rfl
 have e1:(Int.toNat 1)=1:=rfl
 simp only [e0,e1]
 have hT:∀ o r,ZK (l.getD 0 Op.nil) n=o->Y8 l n=r->True:=fun _ _ _ _=> trivial
 have ah:=ZaV ab
 have ao:=JG (l.getD 0 Op.nil)
 (simp only [iB,vcS])
 generalize hy:l.getD 0 Op.nil=y at*
 refine ⟨⟨V0,V0⟩,⟨by grind,ah⟩,fun hc=> ⟨⟨V0,V0⟩,?_⟩,fun hc=> ⟨fun hk=> ⟨V4,⟨V0,V0⟩,by simp;omega,?_⟩,fun hk=> ?_⟩⟩
 .have t1:ZK y n=y:=by rw [ZK,if_pos hc]
  have t2:Y8 l n=l.drop 1:=by rw [Y8,hy,if_pos hc]
  simp only [Zk5,Zeg,hy,t1,t2]
  exact V1
 .have t1:ZK y n=⟨y.kind,n,y.l,y.e⟩:=by rw [ZK,if_neg hc,if_pos hk]
  have t2:Y8 l n=⟨y.kind,y.n - n,y.l,y.e⟩ ::l.drop 1:=by rw [Y8,hy,if_neg hc,Z0t,if_pos hk]
  simp only [Zk5,Zeg,hy,t1,t2]
  exact V1
 .have t1:ZK y n=⟨y.kind,y.n,y.l.take n.toNat,y.e⟩:=by rw [ZK,if_neg hc,if_neg hk]
  have t2:Y8 l n=⟨y.kind,y.n,y.l.drop n.toNat,y.e⟩ ::l.drop 1:=by rw [Y8,hy,if_neg hc,Z0t,if_neg hk]
  simp only [Zk5,Zeg,hy,t1,t2]
  unfold YW at ab
  refine ⟨?_,?_,⟨V0,V0⟩,by simp;omega,?_⟩
  .omega
  .omega
  ·exact V1
theorem J4(n:Nat):∀ (l:List Tree),Z6 (l.drop n)<=Z6 l:=by
 induction n with
 | zero=> intro l;simp
 | succ n ih=>
  intro l
  cases l with
  | nil=> simp
  | cons t r=> simp only [X2,Z6];grind
theorem Z4Z(n:Nat):∀ (l:List Tree),Z6 (l.take n)<=Z6 l:=by
 induction n with
 | zero=> intro l;simp [Z6]
 | succ n ih=>
  intro l
  cases l with
  | nil=> simp
  | cons t r=> simp only [List.take_succ_cons,Z6];grind
theorem JF{o:Op}(h:YW o):1<=Z5 o:=by
 have:=JG o
 unfold YW at h
 have hl:o.l≠[]->0 < o.l.length:=XA.2
 grind
theorem Z9h{o:Op}(h:YW o)(hm:Zs o<=20000000000):Z5 o<=20000000000:=by
 have:=JG o
 have:=ZuE hm
 have:=ZaV h
 unfold YW at h
 grind
theorem Z65(o:Op)(r:List Op):Ze (o ::r)=Zs o+Ze r:=rfl
theorem Z6I{l:List Op}(h:ZaZ l):ZaZ (l.drop 1):=by
 cases l with
 | nil=> exact h
 | cons o r=>
  obtain ⟨h1,h2⟩:=h
  rw [Z65] at h2
  exact ⟨fun x d=> h1 x (Q3 _ d),by grind⟩
theorem ZaY{l:List Op}(h:ZaZ l)(hl:l.length≠0):YW (l.getD 0 Op.nil)/\Zs (l.getD 0 Op.nil)<=20000000000/\Zs (l.getD 0 Op.nil)<=Ze l:=by
 have d:=Zi (l:=l) (i:=0) V0 Op.nil
 have:=Z0m d
 exact ⟨h.1 _ d,by have:=h.2;omega,this⟩
theorem Zfr{o:Op}{n:Int}(h:YW o)(h1:1<=n)(h2:¬Z5 o<=n):YW (Z0t o n)/\Zs (Z0t o n)<=Zs o:=by
 have hl:=JG o
 unfold Z0t
 unfold YW at*
 by_cases hk:o.kind=0
 .rw [if_pos hk]
  refine ⟨Or.inl ?_,by simp only [YQ];omega⟩
  grind
 .rw [if_neg hk]
  have:=J4 n.toNat o.l
  refine ⟨Or.inr ?_,by simp only [YQ];omega⟩
  rcases h with h | h | h
  .omega
  .obtain ⟨a,b,c,d⟩:=h
   rw [Yo] at hl
   refine Or.inl ⟨a,b,?_,d⟩
   intro he
   have:=congrArg List.length he
   grind
  omega
theorem ZeD{l:List Op}{n:Int}(h:ZaZ l)(hl:l.length≠0)(h1:1<=n):ZaZ (Y8 l n):=by
 unfold Y8
 split
 .exact Z6I h
 .rename_i hc
  obtain ⟨a,b,c⟩:=ZaY h hl
  obtain ⟨d,e⟩:=Zfr a h1 hc
  have hd:=Z6I h
  refine ⟨fun x hx=> ?_,?_⟩
  .rcases Q9.1 hx with rfl | hx
   .exact d
   .exact hd.1 _ hx
  .rw [Z65]
   obtain _ | ⟨o,r⟩:=l
   .simp at hl
   .have:=h.2
    rw [Z65] at this
    grind
theorem Zg4(l:List Op):Y8 l (Z5 (l.getD 0 Op.nil))=l.drop 1:=by rw [Y8,if_pos (Xe _)]
theorem Zg6(o:Op):ZK o (Z5 o)=o:=by rw [ZK,if_pos (Xe _)]
theorem ZoD{a:Int}{l:List Op}(h:sgl a l=true):l.length≠0:=(of_decide_eq_true h).1
theorem ZfQ{α:Type}(b:Bool)(x:α):(bif b then x else x)=x:=by grind
theorem c80:Contract Tryz.prog cfg 80 Zay:=by
 refine ZD0 c97 c98 c99 Zsf ?_
 intro pl pa ql qa _ hp
 simp only [Zpe] at hp
 have bq:=YO pl
 have br:=YO ql
 have hP:=hp.1.2
 have hQ:=hp.2.2
 refine ZIA _ _ _ _ _ ?_;(try simp only [iB,vcT,forall_eq])
 refine Z8 (ι:=List Op × List Op × List Piece) (fun s=> Z4g pl pa ql qa s.1 s.2.1 qa s.2.2) (fun s=> ZaZ s.1/\ZaZ s.2.1/\s.2.2.length+s.1.length+s.2.1.length<=40000000000/\Yf pa qa s.1 s.2.1 s.2.2=Yf pa qa pl ql []) (fun s=> s.1.length+s.2.1.length) (pl,ql,[]) rfl ⟨hp.1,hp.2,by simp;omega,rfl⟩ ?_
 rintro ⟨p,q,out⟩ ⟨h1,h2,h3,d⟩
 refine ZxX _ _ _ _ _ _ _ _ _ _ ?_;(try simp only [iB,vcT])
 have e0:(Int.toNat 0)=0:=rfl
 simp only [e0,ZfQ]
 dsimp only at h1 h2 h3 d
 rintro z1 ak z2 aj y3 bc z4 be y1 rfl y2 rfl y4 rfl y8 av y9 aw a7 af ba ai
 have ey:y4=y2:=be.trans aj.symm
 rw [ey] at af ai ⊢
 have e3:(OpOf.mk 0 0 [] y3:Op)=Op.nil:=by rw [bc];try rfl
 rw [<-ak,Zg6] at av
 rw [<-aj,Zg6] at aw
 have ah:∀ a b:Int,(if a < b then a else b)=min b a:=by intro a b;omega
 rw [<-ak,ah] at af
 rw [<-aj,ah] at ai
 simp only [ah,e3,av,aw]
 (simp only [iB,vcS])
 have o1:p.length≠0->YW y1/\Zs y1<=20000000000:=fun h=> by have:=ZaY h1 h;grind
 have o2:q.length≠0->YW y2/\Zs y2<=20000000000:=fun h=> by have:=ZaY h2 h;grind
 have tp:Y8 p (Z5 y1)=p.drop 1:=by rw [ak];exact Zg4 p
 have tq:Y8 q (Z5 y2)=q.drop 1:=by rw [aj];exact Zg4 q
 have bp:=YO p
 have bt:=YO q
 have bu:=h1.2
 have bk:=h2.2
 rw [Yf] at d
 rw [<-ak,<-aj] at d
 refine ⟨by simp only [Z3K];omega,fun hs=> ?_,fun hs=> ?_⟩
 .have hl:=ZoD hs
  obtain ⟨oa,ob⟩:=o1 hl
  have oc:=JF oa
  have od:=Z9h oa ob
  rw [dif_pos hs] at d
  refine ⟨⟨V0,V0⟩,⟨ob,ZaV oa⟩,⟨h1,hl,oc,by grind⟩,by simp;omega,(p.drop 1,q,out++[⟨1,y1,Op.nil⟩]),by rw [tp],⟨Z6I h1,h2,by simp;omega,d⟩,by simp;omega⟩
 .rw [dif_neg (by grind)] at d
  refine ⟨by simp only [Z3K];omega,fun aq=> ?_,fun aq=> ?_⟩
  .have hl:=ZoD aq
   obtain ⟨oa,ob⟩:=o2 hl
   have oc:=JF oa
   have od:=Z9h oa ob
   rw [dif_pos aq] at d
   refine ⟨⟨V0,V0⟩,⟨ob,ZaV oa⟩,⟨h2,hl,oc,by grind⟩,by simp;omega,(p,q.drop 1,out++[⟨2,Op.nil,y2⟩]),by rw [tq],⟨h1,Z6I h2,by simp;omega,d⟩,by simp;omega⟩
  .rw [dif_neg (by grind)] at d
   refine ⟨by simp only [Z3K];omega,fun _=> by simp only [Z3K];omega,fun h=> h,fun hd=> ⟨by simp only [Z3K];omega,by simp only [Z3K];omega,fun he=> ?_,fun he=> ?_⟩,fun hd=> ?_⟩
   .rw [dif_pos hd,if_neg he] at d
    simp only [ZoY,Zi5,<-d]
    exact V1
   .rw [dif_pos hd,if_pos he] at d
    simp only [ZoY,Zi5,<-d]
    exact V1
   .obtain ⟨oa,ob⟩:=o1 hd.1
    obtain ⟨oc,od⟩:=o2 hd.2
    have a1:=JF oa
    have a2:=Z9h oa ob
    have a3:=JF oc
    have a4:=Z9h oc od
    rw [dif_neg V0,<-af,<-ai] at d
    have c1:=Je p (min (Z5 y1) (Z5 y2)) hd.1
    have c2:=Je q (min (Z5 y1) (Z5 y2)) hd.2
    have c3:Z5 y1<=min (Z5 y1) (Z5 y2)->(Y8 p (min (Z5 y1) (Z5 y2))).length < p.length:=fun h=> Jd p _ hd.1 (by grind)
    have c4:Z5 y2<=min (Z5 y1) (Z5 y2)->(Y8 q (min (Z5 y1) (Z5 y2))).length < q.length:=fun h=> Jd q _ hd.2 (by grind)
    refine ⟨⟨V0,V0⟩,⟨ob,ZaV oa⟩,⟨V0,V0⟩,⟨od,ZaV oc⟩,⟨h1,hd.1,by grind,by grind⟩,⟨h2,hd.2,by grind,by grind⟩,by simp;omega,
     (Y8 p (min (Z5 y1) (Z5 y2)),Y8 q (min (Z5 y1) (Z5 y2)),out++[⟨0,a7,ba⟩]),rfl,⟨ZeD h1 hd.1 V0,ZeD h2 hd.2 V0,by simp;omega,d⟩,by grind⟩
theorem Zwm{α:Type}{a b:α}(h:¬a=b):eqX a b=false:=by rw [<-Kg,Z3y];exact h
def vu(u:AUnit):Op × Bool:=(opU u,u.alone)
def vs(a:Int)(o:Op):List (Op × Bool):=(ZhG 0 a o).map vu
theorem Z8m{a n:Int}{o:Op}(h:YW o)(h1:1<=n)(hn:¬Z5 o<=n):vs a o=vs a (ZK o n)++vs a (Z0t o n)/\YW (ZK o n)/\Z5 (ZK o n)=n/\Zs (ZK o n)<=Zs o:=by
 have hl:=JG o
 rcases h with ⟨k0,k1,k2,k3⟩ | ⟨k0,k1,k2,k3⟩ | ⟨k0,k1,k2⟩
 .have d:ZK o n=⟨o.kind,n,o.l,o.e⟩:=by rw [ZK,if_neg hn,if_pos k0]
  have e2:Z0t o n=⟨o.kind,o.n - n,o.l,o.e⟩:=by rw [Z0t,if_pos k0]
  rw [Yo,k1] at hl
  simp only [Qr] at hl
  rw [d,e2]
  refine ⟨?_,Or.inl ⟨k0,k1,by grind,k3⟩,?_,by simp [YQ]⟩
  .simp only [vs,ZhG,k0,k1]
   simp only [if_true,XW,Qn,X7,List.map_replicate]
   rw [if_neg V2]
   simp only [XW,Qh]
   rw [List.replicate_append_replicate]
   grind
  .rw [JG]
   grind
 .have d:ZK o n=⟨o.kind,o.n,o.l.take n.toNat,o.e⟩:=by rw [ZK,if_neg hn,Yo]
  have e2:Z0t o n=⟨o.kind,o.n,o.l.drop n.toNat,o.e⟩:=by rw [Z0t,Yo]
  rw [Yo] at hl
  have hm:=Z4Z n.toNat o.l
  rw [d,e2]
  refine ⟨?_,Or.inr (Or.inl ⟨k0,k1,?_,k3⟩),?_,by simp only [YQ];omega⟩
  .simp only [vs,ZhG]
   rw [Yo,Yo]
   simp_all
  .intro he
   have:=congrArg List.length he
   grind
  .rw [JG]
   grind
 omega
theorem Z3j{a:Int}{l:List Op}:sgl a l=true↔(l.length≠0/\(l.getD 0 Op.nil).kind=a):=by unfold sgl;grind
theorem Z4I(o:Op)(n:Int):(ZK o n).kind=o.kind:=by
 unfold ZK;grind
theorem ZkN{t:Tree}(h:Z2j t=true):t=Tree.nil:=by
 obtain ⟨k,w,ks⟩:=t
 have:=of_decide_eq_true h
 simp at this
 obtain ⟨rfl,rfl,rfl⟩:=this
 try rfl
theorem Zgc{e:Edit}(h:Z5L e=true):e=Edit.nil:=by
 obtain ⟨h1,d,h3,h4,h5,h6,h7⟩:=Ztl h
 obtain ⟨k,o,n,w,ks,l,os⟩:=e
 simp at h1 d h3 h4 h5 h6 h7
 subst h1 h4 h5 h6 h7
 rw [ZkN d,ZkN h3]
 try rfl
theorem Z7Q{list:Int}{o:Op}{d:Int}(h:Za list o d=true):YW o:=by
 rw [Z1E] at h
 unfold YW
 split at h
 .rename_i h0
  simp only [Q2,decide_eq_true_eq] at h
  exact Or.inl ⟨h0,Xj.1 h.1.2.2,⟨h.1.1,h.1.2.1⟩,Zgc h.2⟩
 .split at h
  .cases h
  .rename_i h0 h1
   split at h
   .simp only [Q2,decide_eq_true_eq] at h
    refine Or.inr (Or.inl ⟨V0,V0,?_,Zgc h.2⟩)
    grind
   grind
end Go.AM.YtnfbomhidainjaaGreat
namespace Go.AM
def Z4f(list:Int)(e:Edit):Bool:=decide (e.kind=0\/(list=9/\e.kind=2/\e.words.length=0/\e.kids.length=0))
def Z4(l:List Tree):List Tree:=l.map Z0
def YZ(w:WEdit):WEdit:=⟨w.at_,w.mask,w.new,w.old⟩
mutual
def Zp:Edit->Edit
 | .mk k o n w ks l os=> .mk k n o (w.map YZ) (Yh ks) l (Yn os)
def Yh:List (KidOf Edit)->List (KidOf Edit)
 | []=> []
 | k ::r=> J6 k ::Yh r
def J6:KidOf Edit->KidOf Edit
 | ⟨a,e⟩=> ⟨a,Zp e⟩
def Yn:List (OpOf Edit)->List (OpOf Edit)
 | []=> []
 | o ::r=> Yg o ::Yn r
def Yg:OpOf Edit->OpOf Edit
 | ⟨k,n,l,e⟩=> if k=1 then ⟨2,n,l,e⟩ else if k=2 then ⟨1,n,l,e⟩ else if k=3 then ⟨k,n,l,Zp e⟩ else ⟨k,n,l,e⟩
end
def ZH{α:Type}(z:α)(l:List α)(i:Nat)(x:α):List α:=(l++List.replicate (i+1 - l.length) z).set i x
def wsD(tw:List Int):List WEdit->List Int->Option (List Int)
 | [],out=> some out
 | w ::r,out=> if mix 0 (tw.getD w.at_.toNat 0) w.mask=w.old then wsD tw r (ZH 0 out w.at_.toNat (mix (tw.getD w.at_.toNat 0) w.new w.mask)) else none
noncomputable def JP(l rest:List Tree):Bool:=decide (l.length<=rest.length) && eqX (Z4 l) (Z4 (rest.take l.length))
def Z28(r:Option (List Tree × List Tree)):Option (List Tree):=r.bind fun x=> if x.2.length=0 then some x.1 else none
def nrD(r:Bool)(t:Tree):Tree:=if r then Z0 t else t
mutual
noncomputable def doE(r:Bool):Edit->Tree->Option Tree
 | .mk k o n w ks l os,t=>
  (if k=0 then some t
  else if k=1 then (if ZU (Z0 o) (Z0 t)=true then some n else none)
  else if k=2 then (if t.kind=1 then (wsD t.words w t.words).bind fun a=> (Jx r t.kids ks t.kids).map fun b=> .mk 1 a b else none)
  else if k=3 then (if t.kind=l then (Z28 (Zy r os t.kids [])).map fun b=> .mk l [] b else none)
  else none).map (nrD r)
noncomputable def Jx(r:Bool)(tk:List Tree):List (KidOf Edit)->List Tree->Option (List Tree)
 | [],out=> some out
 | k ::s,out=> (Z2a r tk k).bind fun u=> Jx r tk s (ZH Tree.nil out k.at_.toNat u)
noncomputable def Z2a(r:Bool)(tk:List Tree):KidOf Edit->Option Tree
 | ⟨a,e⟩=> doE r e (tk.getD a.toNat Tree.nil)
noncomputable def Zy(r:Bool):List (OpOf Edit)->List Tree->List Tree->Option (List Tree × List Tree)
 | [],rest,out=> some (out,rest)
 | o ::s,rest,out=> (Z2g r o rest out).bind fun x=> Zy r s x.2 x.1
noncomputable def Z2g(r:Bool):OpOf Edit->List Tree->List Tree->Option (List Tree × List Tree)
 | ⟨k,n,l,e⟩,rest,out=>
  if k=0 then (if n.toNat<=rest.length then some (out++rest.take n.toNat,rest.drop n.toNat) else none)
  else if k=1 then (if JP l rest=true then some (out,rest.drop l.length) else none)
  else if k=2 then some (out++l,rest)
  else if rest.length=0 then none else (doE r e (rest.getD 0 Tree.nil)).map fun u=> (out++[u],rest.drop 1)
end
theorem JK(r:Bool)(e:Edit)(t:Tree):doE r e t=(if e.kind=0 then some t
  else if e.kind=1 then (if ZU (Z0 e.old) (Z0 t)=true then some e.new else none)
  else if e.kind=2 then (if t.kind=1 then (wsD t.words e.words t.words).bind fun a=> (Jx r t.kids e.kids t.kids).map fun b=> .mk 1 a b else none)
  else if e.kind=3 then (if t.kind=e.list then (Z28 (Zy r e.ops t.kids [])).map fun b=> .mk e.list [] b else none)
  else none).map (nrD r):=by cases e;rfl
noncomputable def Zid(r:Bool)(e:Edit)(t:Tree):Option Tree:=
 if e.kind=0 then some t
 else if e.kind=1 then (if ZU (Z0 e.old) (Z0 t)=true then some e.new else none)
 else if e.kind=2 then (if t.kind=1 then (wsD t.words e.words t.words).bind fun a=> (Jx r t.kids e.kids t.kids).map fun b=> .mk 1 a b else none)
 else if e.kind=3 then (if t.kind=e.list then (Z28 (Zy r e.ops t.kids [])).map fun b=> .mk e.list [] b else none)
 else none
theorem Z5a(r:Bool)(e:Edit)(t:Tree):doE r e t=(Zid r e t).map (nrD r):=JK r e t
theorem Z4u(r:Bool)(tk:List Tree)(k:Kid):Z2a r tk k=doE r k.e (tk.getD k.at_.toNat Tree.nil):=by cases k;rfl
theorem Ym(r:Bool)(o:Op)(rest out:List Tree):Z2g r o rest out=if o.kind=0 then (if o.n.toNat<=rest.length then some (out++rest.take o.n.toNat,rest.drop o.n.toNat) else none)
  else if o.kind=1 then (if JP o.l rest=true then some (out,rest.drop o.l.length) else none)
  else if o.kind=2 then some (out++o.l,rest)
  else if rest.length=0 then none else (doE r o.e (rest.getD 0 Tree.nil)).map fun u=> (out++[u],rest.drop 1):=by cases o;rfl
noncomputable def ZcE(r:Bool)(e:Edit)(t:Tree):Option Tree:=
 if t.kind=1 then (wsD t.words e.words t.words).bind fun a=> (Jx r t.kids e.kids t.kids).map fun b=> .mk 1 a b else none
noncomputable def Z7h(r:Bool)(e:Edit)(t:Tree):Option (List Tree × List Tree):=if t.kind=e.list then Zy r e.ops t.kids [] else none
def Z3q(o:Option Tree):Tree:=o.getD Tree.nil
def Zvo(e:Edit)(o:Option (List Tree × List Tree)):Tree:=match o with | some x=> .mk e.list [] x.1 | none=> Tree.nil
noncomputable def ZcG(e:Edit)(t:Tree):Tree:=
 if e.kind=0 then t else if e.kind=1 then e.new else if e.kind=2 then Z3q (ZcE false e t) else if e.kind=3 then Zvo e (Z7h false e t) else Tree.nil
theorem ZR(o:Option Tree):o.map (nrD false)=o:=by cases o <;> rfl
theorem ZaW{e:Edit}{t u:Tree}(h:doE false e t=some u):ZcG e t=u:=by
 rw [JK,ZR] at h
 unfold ZcG
 split
 .grind
 .rename_i h0;rw [if_neg h0] at h
  split
  .grind
  .rename_i h1;rw [if_neg h1] at h
   split
   .rename_i d;rw [if_pos d] at h
    unfold Z3q ZcE
    rw [h];try rfl
   .rename_i d;rw [if_neg d] at h
    split
    .rename_i h3;rw [if_pos h3] at h
     unfold Zvo Z7h
     split at h
     .rename_i h4;rw [if_pos h4]
      revert h
      cases Zy false e.ops t.kids [] with
      | none=> intro h;cases h
      | some x=>
       intro h
       simp only [Z28,Qo] at h
       grind
     .cases h
    grind
def Z1t(m:Nat):Nat->Nat
 | 0=> 0
 | i+1=> Z1t m i+if m / 2 ^ i % 2=1 then 255*2 ^ (8*i) else 0
def ZfC:Nat->Nat->Nat
 | 0,_=> 0
 | k+1,m=> (if m % 2=1 then 255 else 0)+256*ZfC k (m / 2)
def Zc3:Nat->Nat->Nat->Nat
 | 0,_,_=> 0
 | k+1,a,m=> (if m % 2=1 then a % 256 else 0)+256*Zc3 k (a / 256) (m / 2)
def ZkR:Nat->Nat->Nat->Nat->Nat
 | 0,_,_,_=> 0
 | k+1,a,b,m=> (if m % 2=1 then b % 256 else a % 256)+256*ZkR k (a / 256) (b / 256) (m / 2)
theorem Zsk(x y u v:Nat)(hu:u < 256)(hv:v < 256):(u+256*x) &&& (v+256*y)=(u &&& v)+256*(x &&& y):=by
 have h:u &&& v < 256:=Nat.and_lt_two_pow (n:=8) u hv
 apply Nat.eq_of_testBit_eq
 intro j
 rw [Xx u,Xx v,Xx (u &&& v),Nat.testBit_and]
 rw [show (256:Nat)=2 ^ 8 from rfl,X9 _ hu,X9 _ hv,X9 _ h]
 grind
theorem ZuC(x y u v:Nat)(hu:u < 256)(hv:v < 256):(u+256*x) ||| (v+256*y)=(u ||| v)+256*(x ||| y):=by
 have h:u ||| v < 256:=Nat.or_lt_two_pow (n:=8) hu hv
 apply Nat.eq_of_testBit_eq
 intro j
 rw [Xx u,Xx v,Xx (u ||| v),Nat.testBit_or]
 rw [show (256:Nat)=2 ^ 8 from rfl,X9 _ hu,X9 _ hv,X9 _ h]
 grind
theorem Zfy:∀ (k a m:Nat),a &&& ZfC k m=Zc3 k a m
 | 0,a,m=> by simp [ZfC,Zc3]
 | k+1,a,m=> by
  have e:a=a % 256+256*(a / 256):=V0
  simp only [ZfC,Zc3]
  rw [<-Zfy k (a / 256) (m / 2)]
  have h:a &&& ((if m % 2=1 then 255 else 0)+256*ZfC k (m / 2))=(a % 256+256*(a / 256)) &&& ((if m % 2=1 then 255 else 0)+256*ZfC k (m / 2)):=by rw [<-e]
  rw [h,Zsk _ _ _ _ V0 (by grind)]
  congr 1
  split
  .have:=Nat.and_two_pow_sub_one_eq_mod (a % 256) 8
   grind
  .simp
theorem Zps:∀ (k a b m n:Nat),(∀ i < k,m / 2 ^ i % 2+n / 2 ^ i % 2=1)->Zc3 k a n ||| Zc3 k b m=ZkR k a b m
 | 0,a,b,m,n,_=> by simp [Zc3,ZkR]
 | k+1,a,b,m,n,h=> by
  simp only [Zc3,ZkR]
  have d:=h 0 V0
  simp only [Nat.pow_zero,Nat.div_one] at d
  rw [ZuC _ _ _ _ (by grind) (by grind),Zps k (a / 256) (b / 256) (m / 2) (n / 2) (fun i hi=> by
   have:=h (i+1) V0
   rw [Xm,Xm]
   grind)]
  grind
theorem Zos:∀ m:Fin 256,Z1t m.1 8=ZfC 8 m.1:=by decide+kernel
theorem ZsD:∀ m:Fin 256,2 ^ 64 - 1 - ZfC 8 m.1=ZfC 8 (255 - m.1):=by decide+kernel
theorem ZwI:∀ m:Fin 256,∀ i:Fin 8,m.1 / 2 ^ i.1 % 2+(255 - m.1) / 2 ^ i.1 % 2=1:=by decide+kernel
theorem ZxM:∀ m:Fin 256,ZfC 8 m.1 < 2 ^ 64:=by decide+kernel
theorem ZuU(a b m:Nat)(hm:m < 256):(a &&& (2 ^ 64 - 1 - Z1t m 8)) ||| (b &&& Z1t m 8)=ZkR 8 a b m:=by
 have h1:=Zos ⟨m,hm⟩
 have d:=ZsD ⟨m,hm⟩
 simp only at h1 d
 rw [h1,d,Zfy,Zfy]
 exact Zps 8 a b m (255 - m) (fun i hi=> ZwI ⟨m,hm⟩ ⟨i,hi⟩)
def ofK:Nat->(Nat->Nat)->Nat
 | 0,_=> 0
 | k+1,f=> f 0+256*ofK k (fun i=> f (i+1))
theorem ZgO:∀ (k:Nat) {f g:Nat->Nat},(∀ i,f i=g i)->ofK k f=ofK k g
 | 0,_,_,_=> rfl
 | k+1,f,g,h=> by simp only [ofK,h 0,ZgO k (fun i=> h (i+1))]
theorem ZpA:∀ (k a b m:Nat),ZkR k a b m=ofK k (fun i=> if m / 2 ^ i % 2=1 then b / 256 ^ i % 256 else a / 256 ^ i % 256)
 | 0,_,_,_=> rfl
 | k+1,a,b,m=> by
  simp only [ZkR,ofK,Nat.pow_zero,Nat.div_one]
  rw [ZpA k,ZgO k (g:=fun i=> if m / 2 ^ (i+1) % 2=1 then b / 256 ^ (i+1) % 256 else a / 256 ^ (i+1) % 256) (fun i=> ?_)]
  rw [Xm,Xm,Xm,Nat.pow_succ',Nat.pow_succ']
theorem ZuV(a b m:Nat):((ZkR 8 a b m:Nat):Int)=mix a b m:=by
 have nm:∀ i:Nat,YK (m:Int) (i:Int)=decide (m / 2 ^ i % 2=1):=by
  intro i
  unfold YK
  rw [decide_eq_decide,QU]
  have:((m:Int) / 2 ^ i % 2:Int)=((m / 2 ^ i % 2:Nat):Int):=by rw [Ke,Kf,Ki];try rfl
  rw [this];omega
 have d:∀ (x i:Nat),Zl (x:Int) i=((x / 256 ^ i % 256:Nat):Int):=by
  intro x i
  unfold Zl
  rw [Ke,Kf,Ki]
  try rfl
 have mx:∀ i:Nat,Z26 (a:Int) (b:Int) (m:Int) i=((if m / 2 ^ i % 2=1 then b / 256 ^ i % 256 else a / 256 ^ i % 256:Nat):Int):=by
  intro i
  unfold Z26
  rw [nm,d,d]
  by_cases h:m / 2 ^ i % 2=1
  .grind
  .grind
 rw [ZpA]
 generalize hf:(fun i=> if m / 2 ^ i % 2=1 then b / 256 ^ i % 256 else a / 256 ^ i % 256)=f
 have hx:∀ i,Z26 (a:Int) (b:Int) (m:Int) i=(f i:Int):=by intro i;rw [mx,<-hf]
 have e:ofK 8 f=f 0+256*(f 1+256*(f 2+256*(f 3+256*(f 4+256*(f 5+256*(f 6+256*(f 7+256*0))))))):=rfl
 rw [e]
 simp only [mix,of8,hx]
 omega
structure Wst where
 out:List Op
 gone:List Tree
 brought:List Tree
def Z0F(out:List Op)(g b:List Tree):List Op:=
 out++((if g.length=0 then [] else [⟨1,0,g,Edit.nil⟩])++(if b.length=0 then [] else [⟨2,0,b,Edit.nil⟩]))
def Z1w:List Op->Int->List Op
 | [],n=> [⟨0,n,[],Edit.nil⟩]
 | [o],n=> if o.kind=0 then [⟨o.kind,o.n+n,o.l,o.e⟩] else [o,⟨0,n,[],Edit.nil⟩]
 | o ::p ::r,n=> o ::Z1w (p ::r) n
def Z9(w:Wst):Wst:=⟨Z0F w.out w.gone w.brought,[],[]⟩
def Zx(w:Wst)(n:Int):Wst:=⟨Z1w (Z9 w).out n,[],[]⟩
mutual
def Zv:Edit->Edit
 | .mk k o n w ks l os=>
  if k=1 then .mk k (Z0 o) (Z0 n) [] [] l []
  else if k=2 then .mk k Tree.nil Tree.nil w (Jv ks) l []
  else if k=3 then .mk k Tree.nil Tree.nil [] [] l (Z9 (ZD l os ⟨[],[],[]⟩)).out
  else .mk k Tree.nil Tree.nil [] [] l []
def Jv:List (KidOf Edit)->List (KidOf Edit)
 | []=> []
 | k ::r=> Z0D k ::Jv r
def Z0D:KidOf Edit->KidOf Edit
 | ⟨a,e⟩=> ⟨a,Zv e⟩
def ZD(list:Int):List (OpOf Edit)->Wst->Wst
 | [],s=> s
 | o ::r,s=> ZD list r (JN list o s)
def JN(list:Int):OpOf Edit->Wst->Wst
 | ⟨k,n,l,e⟩,s=>
  if k=0 then Zx s n
  else if k=1 then ⟨s.out,s.gone++Z4 l,s.brought⟩
  else if k=2 then ⟨s.out,s.gone,s.brought++Z4 l⟩
  else if k=3 then (if Z4f list (Zv e)=true then Zx s 1 else ⟨(Z9 s).out++[⟨3,0,[],Zv e⟩],[],[]⟩)
  else s
end
theorem Z4W(e:Edit):Zv e=if e.kind=1 then .mk e.kind (Z0 e.old) (Z0 e.new) [] [] e.list []
  else if e.kind=2 then .mk e.kind Tree.nil Tree.nil e.words (Jv e.kids) e.list []
  else if e.kind=3 then .mk e.kind Tree.nil Tree.nil [] [] e.list (Z9 (ZD e.list e.ops ⟨[],[],[]⟩)).out
  else .mk e.kind Tree.nil Tree.nil [] [] e.list []:=by cases e;rfl
theorem Zb2(k:Kid):Z0D k=⟨k.at_,Zv k.e⟩:=by cases k;rfl
theorem Z23(list:Int)(o:Op)(s:Wst):JN list o s=if o.kind=0 then Zx s o.n
  else if o.kind=1 then ⟨s.out,s.gone++Z4 o.l,s.brought⟩
  else if o.kind=2 then ⟨s.out,s.gone,s.brought++Z4 o.l⟩
  else if o.kind=3 then (if Z4f list (Zv o.e)=true then Zx s 1 else ⟨(Z9 s).out++[⟨3,0,[],Zv o.e⟩],[],[]⟩)
  else s:=by cases o;rfl
def ZcN(a b:Int):Int:=IntKind.wrap .u8 (BitVec.ofInt (IntKind.bits .u8) a &&& BitVec.ofInt (IntKind.bits .u8) b).toNat
def orM(a b:Int):Int:=IntKind.wrap .u8 (BitVec.ofInt (IntKind.bits .u8) a ||| BitVec.ofInt (IntKind.bits .u8) b).toNat
def Zbr(p q:WEdit):Bool:=decide (mix 0 p.new (ZcN p.mask q.mask)=mix 0 q.old (ZcN p.mask q.mask))
def YY(p q:WEdit):WEdit × Bool:=
 if Zbr p q then (⟨p.at_,orM p.mask q.mask,mix q.old p.old p.mask,mix p.new q.new q.mask⟩,true) else (⟨0,0,0,0⟩,false)
def Zj{α:Type}(at_:α->Int)(one:α->α->α × Bool):List α->List α->Option (List α)
 | [],q=> some q
 | a ::p,[]=> some (a ::p)
 | a ::p,b ::q=>
  if at_ a < at_ b then (Zj at_ one p (b ::q)).map (a ::·)
  else if at_ b < at_ a then (Zj at_ one (a ::p) q).map (b ::·)
  else if (one a b).2 then (Zj at_ one p q).map ((one a b).1 ::·) else none
termination_by p q=> p.length+q.length
def ofO{α:Type}(o:Option (List α)):List α:=o.getD []
structure PRes where
 op:Op
 is:Bool
 ok:Bool
noncomputable def doB(e:Edit)(t:Tree):Tree × Bool:=(Z3q ((doE false e t).map Z0),(doE false e t).isSome)
noncomputable def ZiT(a b:List Tree):Bool:=eqX (Z4 a) (Z4 b)
noncomputable def ZA(f:Edit->Edit->Edit × Bool)(x:Piece):PRes:=
 if x.of=1\/(x.of=0/\x.q.kind=0) then ⟨x.p,true,true⟩
 else if x.of=2\/x.p.kind=0 then ⟨x.q,true,true⟩
 else if x.p.kind=2/\x.q.kind=1 then ⟨Op.nil,false,ZiT x.p.l (x.q.l.take x.p.l.length)⟩
 else if x.p.kind=2 then ⟨⟨2,0,[(doB x.q.e (x.p.l.getD 0 Tree.nil)).1],Edit.nil⟩,true,(doB x.q.e (x.p.l.getD 0 Tree.nil)).2⟩
 else if x.q.kind=1 then ⟨⟨1,0,[(doB (Zv (Zp x.p.e)) (x.q.l.getD 0 Tree.nil)).1],Edit.nil⟩,true,(doB (Zv (Zp x.p.e)) (x.q.l.getD 0 Tree.nil)).2⟩
 else ⟨⟨3,0,[],(f x.p.e x.q.e).1⟩,true,(f x.p.e x.q.e).2⟩
noncomputable def Z0r(f:Edit->Edit->Edit × Bool):List Piece->Option (List Op)
 | []=> some []
 | x ::r=> if (ZA f x).ok then (Z0r f r).map ((if (ZA f x).is then [(ZA f x).op] else [])++·) else none
noncomputable def Z0A(f:Edit->Edit->Edit × Bool)(p q:List Op):Option (List Op):=
 if (Yf 1 2 p q []).2.1 then Z0r f (Yf 1 2 p q []).1 else none
def Z1p(f:Edit->Edit->Edit × Bool)(a b:Kid):Kid × Bool:=(⟨a.at_,(f a.e b.e).1⟩,(f a.e b.e).2)
noncomputable def JV(f:Edit->Edit->Edit × Bool)(p q:Edit):Edit × Bool:=
 if p.kind=0 then (q,true)
 else if q.kind=0 then (p,true)
 else if p.kind=1 then (.mk 1 p.old (doB q p.new).1 [] [] 0 [],(doB q p.new).2)
 else if q.kind=1 then (.mk 1 (doB (Zv (Zp p)) q.old).1 q.new [] [] 0 [],(doB (Zv (Zp p)) q.old).2)
 else if p.kind≠q.kind\/p.list≠q.list then (Edit.nil,false)
 else if p.kind=2 then
  if (Zj WEdit.at_ YY p.words q.words).isSome then
   (.mk 2 Tree.nil Tree.nil (ofO (Zj WEdit.at_ YY p.words q.words)) (ofO (Zj KidOf.at_ (Z1p f) p.kids q.kids)) 0 [],(Zj KidOf.at_ (Z1p f) p.kids q.kids).isSome)
  else (Edit.nil,false)
 else (.mk 3 Tree.nil Tree.nil [] [] p.list (ofO (Z0A f p.ops q.ops)),(Z0A f p.ops q.ops).isSome)
noncomputable def ZcL:Nat->Edit->Edit->Edit × Bool
 | 0,_,_=> (Edit.nil,false)
 | n+1,p,q=> JV (ZcL n) p q
noncomputable def Yy(p q:Edit):Edit × Bool:=ZcL (Zc p+Zc q) p q
noncomputable def ZJy(f:Edit->Edit->Edit × Bool)(p q:AUnit):List Op × Bool:=
 if q.kind=0 then ([opU p],true)
 else if p.kind=0 then ([opU q],true)
 else if p.kind=2/\q.kind=1 then ([],ZU (Z0 p.t) (Z0 q.t))
 else if p.kind=2 then ([⟨2,0,[Z3q (doE true q.e p.t)],Edit.nil⟩],(doE true q.e p.t).isSome)
 else if q.kind=1 then ([⟨1,0,[Z3q (doE true (Zv (Zp p.e)) q.t)],Edit.nil⟩],(doE true (Zv (Zp p.e)) q.t).isSome)
 else ([⟨3,0,[],(f p.e q.e).1⟩],(f p.e q.e).2)
def Z21(e:Edit):Prop:=ctE e<=9000000000/\Yi e/\∃ d,Z7 e d=true
def Zwe(k:Kid):Prop:=Z2b k<=9000000000/\Z1D k/\∃ d,Z7 k.e d=true
def ZcF(l:List Kid):Prop:=Z0W l<=9000000000/\Z1h l/\∀ k∈l,∃ d,Z7 k.e d=true
def Zrc(l:List Op):Prop:=J5 l<=9000000000/\Z0k l/\∀ o∈l,∃ list d,Za list o d=true
def Zti(o:Op):Prop:=YW o/\Z2h o<=9000000000/\YV o/\(o.kind=3->∃ d,Z7 o.e d=true)
structure PcOk (x:Piece):Prop where
 of:x.of=0\/x.of=1\/x.of=2
 pp:x.of≠2->Zti x.p
 qq:x.of≠1->Zti x.q
 both:x.of=0->x.p.kind≠1/\x.q.kind≠2/\Z5 x.p=Z5 x.q
noncomputable def Z2u(p q:Edit):Edit × Bool:=if (Yy p q).2=true then (Zv (Yy p q).1,true) else (Edit.nil,false)
end Go.AM
namespace Go.AM.YtnfbomhidainjaaGreat
open Go.AM Go.Proofs
noncomputable section
def Zjb:ArgL (Edit × Unit):=(.cons (aEl .edit) .nil)
def Z5X(a:Edit × Unit):Prop:=Zc a.1<=20000000000
def Zix(a:Edit × Unit):Nat:=2*Zc a.1
def Zkc(a:Edit × Unit):V U:= .agg (enc .edit (Zp a.1))
def ZdP:Fs U:=fs Zjb (fun a=> [Z5X a]) Zkc
def Zeq(a:Op × Unit):Prop:=Zs a.1<=20000000000
def Zn0(a:Op × Unit):Nat:=2*Zs a.1+1
def ZbS(a:Op × Unit):V U:= .agg (enc .op (Yg a.1))
def Zta:Fs U:=fs ZwM (fun a=> [Zeq a]) ZbS
def Z1l(N:Nat):List (FuncId × Fs U):=(33,fs Zjb (fun a=> [Z5X a,Zix a < N]) Zkc) ::(49,fs ZwM (fun a=> [Zeq a,Zn0 a < N]) ZbS) ::[]
def Z8a:Zb U:=lvk [([1,2],[1,2]),([1,2,3],[1,2,3]),([1,2,3,20,21,22],[1,2,((.loc 3),(an 7 [.own .wedit]))]),([1,2,3,20,21,22,23],[1,2,3]),([1,2,3,5,20,21,22],[1,2,3,5]),([1,2,3,20,21,22],[1,2,3]),([1,2,3,20,21,22],[1,2,((.loc 3),(an 7 [.own .wedit]))]),([1,2,3,42,43,44],[1,2,((.loc 3),(an 8 [.own .kid]))]),([1,2,3,42,43,44,45],[1,2,3]),([1,2,3,7,42,43,44],[1,2,3,7]),([1,2,3,42,43,44],[1,2,3]),([1,2,3,42,43,44],[1,2,((.loc 3),(an 8 [.own .kid]))]),([2,3,61,62,63],[2,((.loc 3),(an 10 [.own .op]))]),([2,3,61,62,63,64],[2,3]),([2,3,9,61,62,63],[2,3,9]),([2,3,61,62,63],[2,3]),([2,3,61,62,63],[2,((.loc 3),(an 10 [.own .op]))]),([2],[2])]
def Z9Z(e:Edit)(aa:Int)(d:List WEdit):LSt U:=(L2 [pL 1,pL 2,pL 3,(20,.c (sU .wedit e.words .unk)),pI 21 (e.words.length:Int),pI 22 aa] [(.loc 1,(enc .edit e)),(.loc 2,zc0),(.loc 3,([ci e.kind]++enc .tree e.new++enc .tree e.old++[sU .wedit d (.own (.l 3 7)),.nils,ci e.list,.nils]))])
def Z9Y(e:Edit)(ab:List WEdit)(aa:Int)(d:List Kid):LSt U:=(L2 [pL 1,pL 2,pL 3,(42,.c (sU .kid e.kids .unk)),pI 43 (e.kids.length:Int),pI 44 aa] [(.loc 1,(enc .edit e)),(.loc 2,zc0),(.loc 3,([ci e.kind]++enc .tree e.new++enc .tree e.old++[sU .wedit ab (.own (.l 3 7)),sU .kid d (.own (.l 3 8)),ci e.list,.nils]))])
def Z9X(e:Edit)(ae:List WEdit)(aa:List Kid)(ab:Int)(d:List Op):LSt U:=(L2 [pL 2,pL 3,(61,.c (sU .op e.ops .unk)),pI 62 (e.ops.length:Int),pI 63 ab] [(.loc 2,zc0),(.loc 3,([ci e.kind]++enc .tree e.new++enc .tree e.old++[sU .wedit ae (.own (.l 3 7)),sU .kid aa (.own (.l 3 8)),ci e.list,sU .op d (.own (.l 3 10))]))])
abbrev W33(N:Nat)(e:Edit)(Q:QT):=AW (Z1 (Z1l N)) Tryz.f33 Z8a [] (L2 [(0,.agg (enc .edit e))] []) Q
theorem ZJd(N:Nat)(e:Edit)(Q:QT)(h:Zk (AW (Z1 (Z1l N)) Tryz.f33 Z8a [1,1,0,1,0,0]) (Z9Z e 0 []) (xB 0 (SW (Z1 (Z1l N)) Tryz.f33 Z8a [1,1,1] Q))):
  W33 N e Q:=
 Eq.mpr V5 h
abbrev ZF8(N:Nat)(e:Edit)(aa:Int)(d:List WEdit)(N0:NT)(Q:QT):=AW (Z1 (Z1l N)) Tryz.f33 Z8a [1,1,0,1,0,0] (Z9Z e aa d) (xT N0 (xB 0 (SW (Z1 (Z1l N)) Tryz.f33 Z8a [1,1,1] Q)))
theorem Zyo(N:Nat)(e:Edit)(aa:Int)(d:List WEdit)(N0:NT)(Q:QT)(h:let z0:=e.words.getD aa.toNat (WEdit.mk 0 0 0 0);let z1:=WEdit.mk (WEdit.at_ z0) (WEdit.mask z0) (WEdit.new z0) (WEdit.old z0);iB (decide (aa < (e.words.length:Int))) (((0:Int)<=aa/\aa < (e.words.length:Int))/\(((d.length+([z1]).length)*32<=140737488355328)/\((InR (aa+1))/\(N0 (Z9Z e (aa+1) (d++([z1]))))))) (Zk (AW (Z1 (Z1l N)) Tryz.f33 Z8a [1,1,1,0,1,0,0]) (Z9Y e d 0 []) (xB 2 (SW (Z1 (Z1l N)) Tryz.f33 Z8a [1,1,1,1] Q)))):
  ZF8 N e aa d N0 Q:=
 Eq.mpr V5 h
abbrev ZF7(N:Nat)(e:Edit)(ab:List WEdit)(aa:Int)(d:List Kid)(N1:NT)(Q:QT):=AW (Z1 (Z1l N)) Tryz.f33 Z8a [1,1,1,0,1,0,0] (Z9Y e ab aa d) (xT N1 (xB 2 (SW (Z1 (Z1l N)) Tryz.f33 Z8a [1,1,1,1] Q)))
theorem Zyn(N:Nat)(e:Edit)(ab:List WEdit)(d:Int)(aa:List Kid)(N1:NT)(Q:QT)(h:∀ af,af=(e.kids.getD d.toNat (KidOf.mk 0 Edit.nil))->∀ ae,ae=(af.e)->∀ ah,ah=(Zp ae)->iB (decide (d < (e.kids.length:Int))) (((0:Int)<=d/\d < (e.kids.length:Int))/\((Z5X (ae,()))/\(Zix (ae,()) < N)/\((aa.length+([(KidOf.mk af.at_ ah:Kid)]).length)*208<=140737488355328)/\((InR (d+1))/\(N1 (Z9Y e ab (d+1) (aa++([(KidOf.mk af.at_ ah:Kid)]))))))) (Zk (AW (Z1 (Z1l N)) Tryz.f33 Z8a [1,1,1,1,0,1,0,0]) (Z9X e ab aa 0 []) (xB 4 (SW (Z1 (Z1l N)) Tryz.f33 Z8a [1,1,1,1,1] Q)))):
  ZF7 N e ab d aa N1 Q:=
 Eq.mpr V5 (h _ rfl _ (Zg _) _ (Zg _))
abbrev ZF6(N:Nat)(e:Edit)(ae:List WEdit)(aa:List Kid)(ab:Int)(d:List Op)(N2:NT)(Q:QT):=AW (Z1 (Z1l N)) Tryz.f33 Z8a [1,1,1,1,0,1,0,0] (Z9X e ae aa ab d) (xT N2 (xB 4 (SW (Z1 (Z1l N)) Tryz.f33 Z8a [1,1,1,1,1] Q)))
theorem Zym(N:Nat)(e:Edit)(ae:List WEdit)(ab:List Kid)(aa:Int)(d:List Op)(N2:NT)(Q:QT)(h:∀ ai,ai=(e.ops.getD aa.toNat Op.nil)->∀ af,af=ai->∀ ah,ah=(Yg af)->iB (decide (aa < (e.ops.length:Int))) (((0:Int)<=aa/\aa < (e.ops.length:Int))/\((Zeq (af,()))/\(Zn0 (af,()) < N)/\((d.length+([ah]).length)*240<=140737488355328)/\((InR (aa+1))/\(N2 (Z9X e ae ab (aa+1) (d++([ah]))))))) (Q .ret (L2 [pL 2] [(.loc 2,([ci e.kind]++enc .tree e.new++enc .tree e.old++[sU .wedit ae (.own (.l 2 7)),sU .kid ab (.own (.l 2 8)),ci e.list,sU .op d (.own (.l 2 10))]))]))):
  ZF6 N e ae ab aa d N2 Q:=
 Eq.mpr V5 (h _ rfl _ (Z0v _) _ (Z0v _))
def ZG5(N:Nat)(e:Edit):Prop:=AW (Z1 (Z1l N)) Tryz.f33 Z8a [] (Zf (Zjb.can (e,())) []) (EQ Tryz.f33 (Zkc (e,())) [])
abbrev ZI7:Prop:=∀ (N:Nat) (e:Edit) (_:Unit),Z5X (e,())->Zix (e,()) < N+1->ZG5 N e
def ZE4:Zb U:=lvl [([1,2],[1,2]),([1,2,4],[1,2]),([1,2,4,5],[1,2]),([1,2],[1,2]),([1,2,4,8],[1,2]),([1,2],[1,2]),([1,2,11],[1,2]),([1,2],[1,2]),([2],[2])]
abbrev W49(N:Nat)(o:Op)(Q:QT):=AW (Z1 (Z1l N)) Tryz.f49 ZE4 [] (L2 [(0,.agg (enc .op o))] []) Q
theorem ZIZ(N:Nat)(o:Op)(Q:QT)(h:∀ d,d=(o.e)->iB (o.kind==1) (Q .ret (L2 [pL 2] [(.loc 2,([ci 2,ci o.n,sU .tree o.l .unk]++enc .edit o.e))])) (iB (o.kind==2) (Q .ret (L2 [pL 2] [(.loc 2,([ci 1,ci o.n,sU .tree o.l .unk]++enc .edit o.e))])) (iB (o.kind==3) ((Z5X (d,()))/\(Zix (d,()) < N)/\(Q .ret (L2 [pL 2] [(.loc 2,([ci o.kind,ci o.n,sU .tree o.l .unk]++enc .edit (Zp d)))]))) (Q .ret (L2 [pL 2] [(.loc 2,(enc .op o))]))))):
  W49 N o Q:=
 Eq.mpr V5 (h _ (Zg _))
def ZFR(N:Nat)(o:Op):Prop:=AW (Z1 (Z1l N)) Tryz.f49 ZE4 [] (Zf (ZwM.can (o,())) []) (EQ Tryz.f49 (ZbS (o,())) [])
abbrev ZHZ:Prop:=∀ (N:Nat) (o:Op) (_:Unit),Zeq (o,())->Zn0 (o,()) < N+1->ZFR N o
theorem Zn8(ha:ZI7)(hb:ZHZ):CT 33 ZdP/\CT 49 Zta:=
 Z3R (μA:=Zix) (μB:=Zn0) (l:=[]) Zd rfl trivial Z8a ZE4 Tryz.func33 Tryz.func49 rfl rfl rfl rfl 1 1 (fun _=> rfl) (fun _=> rfl) V2 V2 (fun N ⟨e,_⟩=> ha N e ()) (fun N ⟨o,_⟩=> hb N o ())
end
theorem Z00(o:Op):Yg o=if o.kind=1 then ⟨2,o.n,o.l,o.e⟩ else if o.kind=2 then ⟨1,o.n,o.l,o.e⟩ else if o.kind=3 then ⟨o.kind,o.n,o.l,Zp o.e⟩ else ⟨o.kind,o.n,o.l,o.e⟩:=by cases o;rfl
theorem Zt1(e:Edit):Zp e= .mk e.kind e.new e.old (e.words.map YZ) (Yh e.kids) e.list (Yn e.ops):=by cases e;rfl
theorem Zdn(k:Kid):J6 k=⟨k.at_,Zp k.e⟩:=by cases k;rfl
theorem b49:ZHZ:=by
 intro N o _ hp hN
 simp only [Zeq,Zn0] at hp hN
 rw [YQ] at hp hN
 have af:=Zb7 o.e
 refine ZIZ _ _ _ ?_
 rintro y hy
 (simp only [iB,vcS])
 refine ⟨fun h=> ?_,fun h=> ⟨fun d=> ?_,fun d=> ⟨fun h3=> ⟨by simp only [Z5X,hy];omega,by simp only [Zix,hy];omega,?_⟩,fun h3=> ?_⟩⟩⟩
 .have e:Yg o=⟨2,o.n,o.l,o.e⟩:=by rw [Z00,if_pos h]
  simp only [ZbS,e]
  exact V1
 .have e:Yg o=⟨1,o.n,o.l,o.e⟩:=by rw [Z00,if_neg h,if_pos d]
  simp only [ZbS,e]
  exact V1
 .have e:Yg o=⟨o.kind,o.n,o.l,Zp o.e⟩:=by rw [Z00,if_neg h,if_neg d,if_pos h3]
  simp only [ZbS,e]
  rw [hy]
  exact V1
 .have e:Yg o=⟨o.kind,o.n,o.l,o.e⟩:=by rw [Z00,if_neg h,if_neg d,if_neg h3]
  simp only [ZbS,e]
  exact V1
theorem b33:ZI7:=by
 intro N e _ hp hN
 simp only [Z5X,Zix] at hp hN
 have h1:=Z14 e
 have h2:=JT e.kids
 have h3:=YO e.ops
 have ha:=Zt1 e
 refine ZJd _ _ _ ?_
 refine Z8 (ι:=Int × List WEdit) (fun s=> Z9Z e s.1 s.2) (fun s=> 0<=s.1/\s.1<=e.words.length/\s.2.length=s.1/\s.2++(e.words.drop s.1.toNat).map YZ=e.words.map YZ) (fun s=> ((e.words.length:Int) - s.1).toNat) (0,[]) rfl ⟨by simp,by simp,by simp,by simp⟩ ?_
 rintro ⟨i,ws⟩ ⟨g1,g2,g3,g4⟩
 dsimp only at g1 g2 g3 g4
 refine Zyo _ _ _ _ _ _ ?_
 (simp only [iB,vcS])
 refine ⟨fun hi=> ?_,fun hi=> ?_⟩
 .rw [Jj g1 hi (WEdit.mk 0 0 0 0)] at g4
  simp only [X3] at g4
  refine ⟨⟨g1,hi⟩,by simp;omega,V4,(i+1,ws++[YZ (e.words.getD i.toNat (WEdit.mk 0 0 0 0))]),rfl,⟨V0,V0,by simp;omega,?_⟩,V0⟩
  grind
 .rw [Qe V0] at g4
  simp only [XW,Qh] at g4
  refine Z8 (ι:=Int × List Kid) (fun s=> Z9Y e ws s.1 s.2) (fun s=> 0<=s.1/\s.1<=e.kids.length/\s.2.length=s.1/\s.2++Yh (e.kids.drop s.1.toNat)=Yh e.kids) (fun s=> ((e.kids.length:Int) - s.1).toNat) (0,[]) rfl ⟨by simp,by simp,by simp,by simp⟩ ?_
  rintro ⟨j,ks⟩ ⟨f1,f2,f3,d⟩
  dsimp only at f1 f2 f3 d
  refine Zyn _ _ _ _ _ _ _ ?_
  rintro y1 ak y2 aq y3 ao
  (simp only [iB,vcS])
  refine ⟨fun hj=> ?_,fun hj=> ?_⟩
  .have hm:=Z2U (Zi (l:=e.kids) (i:=j.toNat) V0 (KidOf.mk 0 Edit.nil))
   rw [Jj f1 hj (KidOf.mk 0 Edit.nil)] at d
   rw [<-ak] at d hm
   simp only [Yh,Zdn] at d
   rw [<-aq] at d hm
   rw [<-ao] at d
   refine ⟨⟨f1,hj⟩,by simp only [Z5X];omega,by simp only [Zix];omega,by simp;omega,V4,(j+1,ks++[⟨y1.at_,y3⟩]),rfl,⟨V0,V0,by simp;omega,?_⟩,V0⟩
   grind
  .rw [Qe V0] at d
   simp only [Yh,Qh] at d
   refine Z8 (ι:=Int × List Op) (fun s=> Z9X e ws ks s.1 s.2) (fun s=> 0<=s.1/\s.1<=e.ops.length/\s.2.length=s.1/\s.2++Yn (e.ops.drop s.1.toNat)=Yn e.ops) (fun s=> ((e.ops.length:Int) - s.1).toNat) (0,[]) rfl ⟨by simp,by simp,by simp,by simp⟩ ?_
   rintro ⟨k,os⟩ ⟨d1,d2,d3,d4⟩
   dsimp only at d1 d2 d3 d4
   refine Zym _ _ _ _ _ _ _ _ ?_
   rintro z1 ar z2 am z3 au
   (simp only [iB,vcS])
   refine ⟨fun hj=> ?_,fun hj=> ?_⟩
   .have hm:=Z0m (Zi (l:=e.ops) (i:=k.toNat) V0 Op.nil)
    rw [Jj d1 hj Op.nil] at d4
    rw [<-ar,<-am] at d4 hm
    simp only [Yn] at d4
    rw [<-au] at d4
    refine ⟨⟨d1,hj⟩,by simp only [Zeq];omega,by simp only [Zn0];omega,by simp;omega,V4,(k+1,os++[z3]),rfl,⟨V0,V0,by simp;omega,?_⟩,V0⟩
    grind
   .rw [Qe V0] at d4
    simp only [Yn,Qh] at d4
    rw [g4,d,d4]
    simp only [Zkc,ha]
    exact V1
theorem ZAu:Contract Tryz.prog cfg 33 ZdP/\Contract Tryz.prog cfg 49 Zta:=Zn8 b33 b49
theorem ZkY{α β:Type}{f:α->β}(d:α){a b:List α}(hl:a.length=b.length)(h:∀ i:Nat,i < a.length->f (a.getD i d)=f (b.getD i d)):a.map f=b.map f:=by
 apply List.ext_getElem (by simpa using hl)
 grind
theorem Zct{α β:Type}{f:α->β}{d:α}{a b:List α}(h:a.map f=b.map f)(i:Nat):f (a.getD i d)=f (b.getD i d):=by
 have e:=congrArg (fun l=> l[i]?.getD (f d)) h
 grind
noncomputable section
def ZwP:ArgL (Int × Unit):=(.cons (Y6 .u8) .nil)
def Zko(a:Int × Unit):Prop:=0<=a.1/\a.1 < 256
def ZBm(a:Int × Unit):V U:= .c (.int .u64 ((Z1t (a.1).toNat 8:Nat):Int))
def ZdA:Fs U:=fs ZwP (fun a=> [Zko a]) ZBm
def ZwW:ArgL (Int × Int × Int × Unit):=(.cons (Y6 .u64) (.cons (Y6 .u64) (.cons (Y6 .u8) .nil)))
def JE(a:Int × Int × Int × Unit):Prop:=(0<=a.1/\a.1 < 18446744073709551616)/\(0<=a.2.1/\a.2.1 < 18446744073709551616)/\(0<=a.2.2.1/\a.2.2.1 < 256)
def ZBu(a:Int × Int × Int × Unit):V U:= .c (.int .u64 (mix a.1 a.2.1 a.2.2.1))
def Z0P:Fs U:=fs ZwW (fun a=> [JE a]) ZBu
def Zn9:Zb U:=lvl [([0],[]),([0,3],[]),([0,3,5],[]),([0,3,5,6],[]),([0,3,4,5],[]),([0,3,4,5,12],[]),([0,3,5],[]),([0,3,5],[]),([2],[])]
def Z6b(m x3 d:Int):LSt U:=(L2 [(0,.c (.int .u8 m)),(3,.c (.int .u64 x3)),pI 5 d] [])
abbrev W89(m:Int)(Q:QT):=AW (Z1 ZnF) Tryz.f89 Zn9 [] (L2 [(0,.c (.int .u8 m))] []) Q
theorem ZIr(m:Int)(Q:QT)(h:Zk (AW (Z1 ZnF) Tryz.f89 Zn9 [1,1,0,1,0,0]) (Z6b m 0 0) (xB 0 (SW (Z1 ZnF) Tryz.f89 Zn9 [1,1,1] Q))):
  W89 m Q:=
 Eq.mpr V5 h
abbrev ZF2(m x3 d:Int)(N0:NT)(Q:QT):=AW (Z1 ZnF) Tryz.f89 Zn9 [1,1,0,1,0,0] (Z6b m x3 d) (xT N0 (xB 0 (SW (Z1 ZnF) Tryz.f89 Zn9 [1,1,1] Q)))
theorem ZxO(m x3 d:Int)(N0:NT)(Q:QT)(h:let z1:=IntKind.bits .u8;let z0:=IntKind.bits .u64;iB (decide (d < 8)) (((0:Int)<=d)/\(iB (((IntKind.wrap .u8 (BitVec.ofInt z1 (Int.fdiv m (2 ^ (min d.toNat z1))) &&& BitVec.ofInt z1 1).toNat):Int)==1) ((InR ((8:Int)*d))/\((0:Int)<=((8:Int)*d))/\((InR (d+1))/\(N0 (Z6b m (IntKind.wrap .u64 (BitVec.ofInt z0 x3 ||| BitVec.ofInt z0 (IntKind.wrap .u64 ((255:Int)*2 ^ (min (Int.toNat ((8:Int)*d)) z0)))).toNat) (d+1))))) ((InR (d+1))/\(N0 (Z6b m x3 (d+1)))))) (Q .ret (L2 [(2,.c (.int .u64 x3))] []))):
  ZF2 m x3 d N0 Q:=
 Eq.mpr V5 h
def ZFj(m:Int):Prop:=AW (Z1 ZnF) Tryz.f89 Zn9 [] (Zf (ZwP.can (m,())) []) (EQ Tryz.f89 (ZBm (m,())) [])
theorem ZCS(hb:∀ (m:Int) (_:Unit),Zko (m,())->ZFj m):CT 89 ZdA:=
 Z2 (l:=[]) Zd rfl trivial Zn9 Tryz.func89 rfl rfl 1 (fun _=> rfl) V2 (fun ⟨m,_⟩=> hb m ())
def ZvN:List (FuncId × Fs U):=[(89,ZdA)]
def ZDR:Zb U:=lvl [([0,1,2],[]),([6],[])]
abbrev W71(a b m:Int)(Q:QT):=AW (Z1 ZvN) Tryz.f71 ZDR [] (L2 [(0,.c (.int .u64 a)),(1,.c (.int .u64 b)),(2,.c (.int .u8 m))] []) Q
theorem ZIE(a b m:Int)(Q:QT)(h:let z0:=IntKind.bits .u64;(Zko (m,()))/\(Zko (m,()))/\(Q .ret (L2 [(6,.c (.int .u64 (IntKind.wrap .u64 (BitVec.ofInt z0 (IntKind.wrap .u64 (BitVec.ofInt z0 a &&& ~~~(BitVec.ofInt z0 ((Z1t m.toNat 8:Nat):Int))).toNat) ||| BitVec.ofInt z0 (IntKind.wrap .u64 (BitVec.ofInt z0 b &&& BitVec.ofInt z0 ((Z1t m.toNat 8:Nat):Int)).toNat)).toNat)))] []))):
  W71 a b m Q:=
 Eq.mpr V5 h
def ZFw(a b m:Int):Prop:=AW (Z1 ZvN) Tryz.f71 ZDR [] (Zf (ZwW.can (a,b,m,())) []) (EQ Tryz.f71 (ZBu (a,b,m,())) [])
theorem ZD4(c89:CT 89 ZdA)(hb:∀ (a:Int) (b:Int) (m:Int) (_:Unit),JE (a,b,m,())->ZFw a b m):CT 71 Z0P:=
 Z2 (l:=[(89,ZdA)]) Zd rfl (⟨c89,trivial⟩) ZDR Tryz.func71 rfl rfl 3 (fun _=> rfl) V2 (fun ⟨a,b,m,_⟩=> hb a b m ())
end
theorem ZwJ:∀ n:Fin 256,∀ i:Fin 8,IntKind.wrap .u8 (BitVec.ofInt (IntKind.bits .u8) (Int.fdiv (n.1:Int) (2 ^ (min (Int.toNat (i.1:Int)) (IntKind.bits .u8)))) &&& BitVec.ofInt (IntKind.bits .u8) 1).toNat=((n.1 / 2 ^ i.1 % 2:Nat):Int):=by decide+kernel
theorem ZyZ:∀ n:Fin 256,∀ i:Fin 8,IntKind.wrap .u64 (BitVec.ofInt (IntKind.bits .u64) ((Z1t n.1 i.1:Nat):Int) ||| BitVec.ofInt (IntKind.bits .u64) (IntKind.wrap .u64 (255*2 ^ (min (Int.toNat (8*(i.1:Int))) (IntKind.bits .u64))))).toNat=((Z1t n.1 i.1+255*2 ^ (8*i.1):Nat):Int):=by decide+kernel
theorem c89:Contract Tryz.prog cfg 89 ZdA:=by
 refine ZCS ?_
 intro m _ hp
 simp only [Zko] at hp
 obtain ⟨n,rfl⟩:=QD hp.1
 have hn:n < 256:=V0
 refine ZIr _ _ ?_
 refine Z8 (ι:=Nat) (fun i=> Z6b n ((Z1t n i:Nat):Int) i) (fun i=> i<=8) (fun i=> 8 - i) 0 rfl V0 ?_
 intro i hi
 refine ZxO _ _ _ _ _ ?_
 (simp only [iB,vcS])
 refine ⟨fun hc=> ⟨V0,fun hq=> ⟨V4,V0,V4,i+1,?_,V0,V0⟩,fun hq=> ⟨V4,i+1,?_,V0,V0⟩⟩,fun hc=> ?_⟩
 .have d:=ZwJ ⟨n,hn⟩ ⟨i,V0⟩
  have h2:=ZyZ ⟨n,hn⟩ ⟨i,V0⟩
  simp only at d h2
  rw [d] at hq
  rw [h2]
  have e:Z1t n (i+1)=Z1t n i+255*2 ^ (8*i):=by simp only [Z1t];grind
  rw [e]
  try rfl
 .have d:=ZwJ ⟨n,hn⟩ ⟨i,V0⟩
  simp only at d
  rw [d] at hq
  have e:Z1t n (i+1)=Z1t n i:=by simp only [Z1t];rw [Yo];omega
  rw [e]
  try rfl
 .have:i=8:=V0
  subst this
  trivial
theorem Z6J(a:Nat)(h:a < 2 ^ 64):(BitVec.ofInt 64 (a:Int)).toNat=a:=by
 grind
theorem c71:Contract Tryz.prog cfg 71 Z0P:=by
 refine ZD4 c89 ?_
 intro a b m _ hp
 simp only [JE] at hp
 obtain ⟨⟨a0,a1⟩,⟨b0,b1⟩,m0,m1⟩:=hp
 obtain ⟨x,rfl⟩:=QD a0
 obtain ⟨y,rfl⟩:=QD b0
 obtain ⟨n,rfl⟩:=QD m0
 have hn:n < 256:=V0
 have hx:x < 2 ^ 64:=V0
 have hy:y < 2 ^ 64:=V0
 have hw:=ZxM ⟨n,hn⟩
 have d:=Zos ⟨n,hn⟩
 simp only at hw d
 rw [<-d] at hw
 refine ZIE _ _ _ _ ?_
 refine ⟨⟨m0,m1⟩,⟨m0,m1⟩,ZE rfl ?_⟩
 have em:mix x y n=(((x &&& (2 ^ 64 - 1 - Z1t n 8)) ||| (y &&& Z1t n 8):Nat):Int):=by rw [<-ZuV,<-ZuU x y n hn]
 have e1:(BitVec.ofInt 64 (x:Int) &&& ~~~(BitVec.ofInt 64 ((Z1t n 8:Nat):Int))).toNat=x &&& (2 ^ 64 - 1 - Z1t n 8):=by
  rw [BitVec.toNat_and,BitVec.toNat_not,Z6J x hx,Z6J _ hw]
 have e2:(BitVec.ofInt 64 (y:Int) &&& BitVec.ofInt 64 ((Z1t n 8:Nat):Int)).toNat=y &&& Z1t n 8:=by
  rw [BitVec.toNat_and,Z6J y hy,Z6J _ hw]
 have l1:x &&& (2 ^ 64 - 1 - Z1t n 8) < 2 ^ 64:=Nat.lt_of_le_of_lt Nat.and_le_left hx
 have l2:y &&& Z1t n 8 < 2 ^ 64:=Nat.lt_of_le_of_lt Nat.and_le_left hy
 have l3:(x &&& (2 ^ 64 - 1 - Z1t n 8)) ||| (y &&& Z1t n 8) < 2 ^ 64:=Nat.or_lt_two_pow l1 l2
 have ae:IntKind.wrap .u64 ((BitVec.ofInt 64 (IntKind.wrap .u64 ((BitVec.ofInt 64 (x:Int) &&& ~~~(BitVec.ofInt 64 ((Z1t n 8:Nat):Int))).toNat:Int)) ||| BitVec.ofInt 64 (IntKind.wrap .u64 ((BitVec.ofInt 64 (y:Int) &&& BitVec.ofInt 64 ((Z1t n 8:Nat):Int)).toNat:Int))).toNat:Int)=mix x y n:=by
  have w1:∀ k:Nat,k < 2 ^ 64->IntKind.wrap .u64 (k:Int)=k:=fun k hk=> ZsA V0 V0
  grind
 exact ae
end Go.AM.YtnfbomhidainjaaGreat
namespace Go.AM
def wr(n:Int):Int:=IntKind.wrap .i64 n
end Go.AM
namespace Go.AM.YtnfbomhidainjaaGreat
open Go.AM Go.Proofs
noncomputable section
def ZwV:ArgL (List Tree × List Tree × Unit × Unit):=(.cons (aSl .tree) (.cons (aSl .tree) (.cons (aFn 38) .nil)))
def Zkt(a:List Tree × List Tree × Unit × Unit):Prop:=Z6 a.1<=1000000000000/\Z6 a.2.1<=1000000000000
def ZBt(a:List Tree × List Tree × Unit × Unit):V U:= .c (.bool (eqX (Z4 a.1) (Z4 a.2.1)))
def Zaz:Fs U:=fs ZwV (fun a=> [Zkt a]) ZBt
def Zbd:List (FuncId × Fs U):=[(38,Yw)]
def Zna:Zb U:=lvl [([0,1,2],[]),([0,1,2,14],[]),([6],[]),([1,2,15,16,17],[]),([1,2,15,16,17,18],[]),([1,2,7,8,15,16,17],[8]),([1,2,8,9,15,16,17],[8,9]),([1,2,15,16,17,30],[]),([6],[]),([1,2,15,16,17],[]),([6],[])]
def Z9K(a b:List Tree)(f:Unit)(d:Int):LSt U:=(L2 [(1,.c (sU .tree b .unk)),(2,.fn 38),(15,.c (sU .tree a .unk)),pI 16 (a.length:Int),pI 17 d] [])
abbrev W72(a b:List Tree)(f:Unit)(Q:QT):=AW (Z1 Zbd) Tryz.f72 Zna [] (L2 [(0,.c (sU .tree a .unk)),(1,.c (sU .tree b .unk)),(2,.fn 38)] []) Q
theorem ZID(a b:List Tree)(f:Unit)(Q:QT)(h:iB (((a.length:Int):Int) !=(b.length:Int)) (Q .ret (L2 [pB 6 false] [])) (Zk (AW (Z1 Zbd) Tryz.f72 Zna [1,1,0,1,0,0]) (Z9K a b f 0) (xB 0 (SW (Z1 Zbd) Tryz.f72 Zna [1,1,1] Q)))):
  W72 a b f Q:=
 Eq.mpr V5 h
abbrev ZF3(a b:List Tree)(f:Unit)(d:Int)(N0:NT)(Q:QT):=AW (Z1 Zbd) Tryz.f72 Zna [1,1,0,1,0,0] (Z9K a b f d) (xT N0 (xB 0 (SW (Z1 Zbd) Tryz.f72 Zna [1,1,1] Q)))
theorem Zy0(a b:List Tree)(f:Unit)(d:Int)(N0:NT)(Q:QT)(h:let z3:=a.getD d.toNat Tree.nil;let z2:=b.getD d.toNat Tree.nil;let z1:=Tree.mk (Tree.kind z2) (Tree.words z2) (Tree.kids z2);let z0:=Tree.mk (Tree.kind z3) (Tree.words z3) (Tree.kids z3);iB (decide (d < (a.length:Int))) (((0:Int)<=d/\d < (a.length:Int))/\(((0:Int)<=d/\d < (b.length:Int))/\((Z2M (z0,z1,()))/\(iB (!(ZU (Z0 z0) (Z0 z1))) (Q .ret (L2 [pB 6 false] [])) ((InR (d+1))/\(N0 (Z9K a b f (d+1)))))))) (Q .ret (L2 [pB 6 true] []))):
  ZF3 a b f d N0 Q:=
 Eq.mpr V5 h
def ZFv(a b:List Tree)(f:Unit):Prop:=AW (Z1 Zbd) Tryz.f72 Zna [] (Zf (ZwV.can (a,b,f,())) []) (EQ Tryz.f72 (ZBt (a,b,f,())) [])
theorem ZD3(c38:CT 38 Yw)(hb:∀ (a:List Tree) (b:List Tree) (f:Unit) (_:Unit),Zkt (a,b,f,())->ZFv a b f):CT 72 Zaz:=
 Z2 (l:=[(38,Yw)]) Zd rfl (⟨c38,trivial⟩) Zna Tryz.func72 rfl rfl 3 (fun _=> rfl) V2 (fun ⟨a,b,f,_⟩=> hb a b f ())
end
theorem c72:Contract Tryz.prog cfg 72 Zaz:=by
 refine ZD3 c38 ?_
 intro a b f _ hp
 simp only [Zkt] at hp
 refine ZID a b f _ ?_
 (simp only [iB,vcS])
 refine ⟨fun hc=> ZG rfl (Zwm (a:=Z4 a) (b:=Z4 b) (fun h=> hc (by have:=congrArg List.length h;simp [Z4] at this;omega))).symm,fun hc=> ?_⟩
 have hl:a.length=b.length:=V0
 have ah:=Y4 a
 refine Z8 (ι:=Int) (fun i=> Z9K a b f i) (fun i=> 0<=i/\i<=a.length/\∀ j:Nat,(j:Int) < i->Z0 (a.getD j Tree.nil)=Z0 (b.getD j Tree.nil)) (fun i=> ((a.length:Int) - i).toNat) 0 rfl ⟨V0,V0,V0⟩ ?_
 rintro i ⟨h1,h2,h3⟩
 refine Zy0 a b f _ _ _ ?_
 (simp only [iB,vcS])
 (simp only [vE])
 refine ⟨fun hi=> ⟨⟨h1,hi⟩,⟨h1,V0⟩,?_,fun hq=> ?_,fun hq=> ⟨V4,i+1,rfl,⟨V0,V0,?_⟩,V0⟩⟩,fun hi=> ?_⟩
 .have:=Y3 (Zi (l:=a) (i:=i.toNat) V0 Tree.nil)
  have:=Y3 (Zi (l:=b) (i:=i.toNat) V0 Tree.nil)
  simp only [Z2M];omega
 .refine ZG rfl (Zwm (a:=Z4 a) (b:=Z4 b) (fun h=> ?_)).symm
  have h5:=Zct (d:=Tree.nil) h i.toNat
  rw [JM] at hq
  exact hq h5
 .intro j hj
  by_cases hj2:(j:Int) < i
  .exact h3 j hj2
  .rw [ZX,show i.toNat=j by omega] at hq
   exact hq
 .exact ZG rfl (Z3y (a:=Z4 a) (b:=Z4 b).2 (ZkY Tree.nil hl (fun j hj=> h3 j V0))).symm
theorem Zme(a:Tree):ZU a a=true:=by simp [ZU]
theorem Zr4(l:List Int):trim (trim l)=trim l:=by
 induction l with
 | nil=> rfl
 | cons x r ih=>
  rw [Z2w]
  split
  .try rfl
  .rename_i h
   rw [Z2w,ih,if_neg h]
theorem Zm2(l:List Tree):Yp (Yp l)=Yp l:=by
 induction l with
 | nil=> rfl
 | cons x r ih=>
  rw [Z0g]
  split
  .try rfl
  .rename_i h
   rw [Z0g,ih,if_neg h]
def Normed:List Tree->Prop
 | []=> True
 | t ::r=> Z0 t=t/\Normed r
theorem Normed.eq:∀ {l:List Tree},Normed l->Yr l=l
 | [],_=> rfl
 | t ::r,h=> by simp only [Yr,h.1,Normed.eq h.2]
theorem Normed.trim:∀ {l:List Tree},Normed l->Normed (Yp l)
 | [],_=> trivial
 | t ::r,h=> by
  rw [Z0g]
  split
  .trivial
  .exact ⟨h.1,Normed.trim h.2⟩
mutual
theorem YN:∀ (t:Tree),Z0 (Z0 t)=Z0 t
 | .mk k w ks=> by
  have h:=Z9n ks
  by_cases h0:k=0
  .simp [Z0,h0,Tree.nil]
  .by_cases h1:k=1
   .subst h1
    simp only [Z0,if_neg h0,if_true,Zr4,h.trim.eq,Zm2]
   .simp only [Z0,if_neg h0,if_neg h1,h.eq]
theorem Z9n:∀ (ks:List Tree),Normed (Yr ks)
 | []=> trivial
 | t ::r=> ⟨YN t,Z9n r⟩
end
theorem JO:∀ (l:List Op) (n:Int),Z1w l n=l++[⟨0,n,[],Edit.nil⟩]\/∃ a o,l=a++[o]/\o.kind=0/\Z1w l n=a++[⟨o.kind,o.n+n,o.l,o.e⟩]
 | [],n=> Or.inl rfl
 | [o],n=> by
  by_cases h:o.kind=0
  .exact Or.inr ⟨[],o,rfl,h,by simp [Z1w,h]⟩
  .exact Or.inl (by simp [Z1w,h])
 | o ::p ::r,n=> by
  rcases JO (p ::r) n with h | ⟨a,q,h1,h2,h3⟩
  .exact Or.inl (by simp only [Z1w,h,Qp])
  .exact Or.inr ⟨o ::a,q,by rw [h1];rfl,h2,by simp only [Z1w,h3,Qp]⟩
def W0:Wst:=⟨[],[],[]⟩
theorem Zc6(l:List Tree):Z4 (Z4 l)=Z4 l:=by
 simp only [Z4,List.map_map]
 congr 1
 funext t
 exact YN t
theorem Yq(a b:List Tree):Z4 (a++b)=Z4 a++Z4 b:=by simp [Z4]
end Go.AM.YtnfbomhidainjaaGreat
namespace Go.AM
theorem Z9p{t:Tree}(h:Z2j t=true):t=Tree.nil:=by
 obtain ⟨k,w,ks⟩:=t
 simp only [Z2j,decide_eq_true_eq] at h
 obtain ⟨d,h2,h3⟩:=h
 have d:k=0:=d
 rw [d,Q1 (l:=w) h2,Q1 (l:=ks) h3]
 try rfl
theorem Ze4{e:Edit}(h:Z5L e=true):e=Edit.nil:=by
 obtain ⟨k,o,n,w,ks,l,os⟩:=e
 simp only [Z5L,Q2,decide_eq_true_eq] at h
 obtain ⟨⟨⟨d,h2⟩,h3⟩,h4,h5,h6,h7⟩:=h
 have d:k=0:=d
 have h7:l=0:=h7
 rw [d,h7,Z9p (t:=o) h2,Z9p (t:=n) h3,Q1 (l:=w) h4,Q1 (l:=ks) h5,Q1 (l:=os) h6]
 try rfl
structure RightE (e:Edit) (d:Int):Prop where
 d0:d≠0
 kind:0<=e.kind/\e.kind<=3
 none:e.kind≠1->e.old=Tree.nil/\e.new=Tree.nil
 words0:e.kind≠2->e.words=[]/\e.kids=[]
 ops0:e.kind≠3->e.list=0/\e.ops=[]
 rep:e.kind=1->Zh e.old (dT d)=true/\Zh e.new (dT d)=true/\e.old.kind≠10/\e.new.kind≠10
 words:YA (-1) e.words=true
 kids:ZJ (-1) e.kids (d - 1)=true
 list:e.kind=3->2<=e.list/\e.list<=9
 ops:ZO e.list e.ops (d - 1)=true
 len:Z2s e.ops 0 < 1048576/\Z2r e.ops 0 < 1048576
theorem Zq{e:Edit}{d:Int}(h:Z7 e d=true):RightE e d:=by
 obtain ⟨k,o,n,w,ks,l,os⟩:=e
 rw [Z7] at h
 split at h
 .cases h
 .rename_i a
  split at h
  .cases h
  .rename_i b
   have b1:k≠1->o=Tree.nil/\n=Tree.nil:=by
    intro hk
    by_cases x:Z2j o=true/\Z2j n=true
    .exact ⟨Z9p x.1,Z9p x.2⟩
    .grind
   have b2:k≠2->w=[]/\ks=[]:=by
    intro hk
    by_cases x:w.length=0/\ks.length=0
    .exact ⟨Q1 x.1,Q1 x.2⟩
    .exact absurd (.inr (.inl ⟨hk,x⟩)) b
   have b3:k≠3->l=0/\os=[]:=by
    intro hk
    by_cases x:l≠0\/os.length≠0
    .exact absurd (.inr (.inr ⟨hk,x⟩)) b
    .exact ⟨V0,Q1 V0⟩
   split at h
   .rename_i c
    simp only [Q2,decide_eq_true_eq] at h
    obtain ⟨⟨h1,h2⟩,h3,h4⟩:=h
    have c2:=b2 V0
    have c3:=b3 V0
    obtain ⟨rfl,rfl⟩:=c2
    obtain ⟨rfl,rfl⟩:=c3
    exact ⟨V0,⟨by simp_all,by simp_all⟩,b1,b2,b3,fun _=> ⟨h1,h2,h3,h4⟩,rfl,rfl,fun e=> by simp_all,rfl,by show Z2s [] 0 < _/\Z2r [] 0 < _;trivial⟩
   .rename_i c
    simp only [Q2,decide_eq_true_eq] at h
    obtain ⟨⟨⟨⟨h1,h2⟩,h3⟩,h4⟩,h5⟩:=h
    exact ⟨V0,⟨by simp_all,by simp_all⟩,b1,b2,b3,fun e=> absurd e c,h1,h2,fun e=> by simp_all,h4,h5⟩
theorem Ya:∀ {ks:List Kid} {last d:Int},ZJ last ks d=true->∀ k∈ks,(last < k.at_/\k.at_<=65534/\k.e.kind≠0)/\Z7 k.e d=true
 | [],_,_,_,_,hk=> by cases hk
 | ⟨a,e⟩ ::r,last,d,h,k,hk=> by
  simp only [ZJ,J3,Q2,decide_eq_true_eq] at h
  obtain ⟨⟨h1,h2⟩,h3⟩:=h
  rcases Q9.1 hk with rfl | hk
  .grind
  .have:=Ya h3 k hk
   grind
theorem rightOs_mem{list:Int}:∀ {os:List Op} {d:Int},ZO list os d=true->∀ o∈os,Za list o d=true
 | [],_,_,_,ho=> by cases ho
 | a ::r,d,h,o,ho=> by
  simp only [ZO,Q2] at h
  rcases Q9.1 ho with rfl | ho
  .exact h.1
  .exact rightOs_mem h.2 o ho
theorem Jc:∀ {ws:List WEdit} {last:Int},YA last ws=true->∀ w∈ws,last < w.at_/\w.at_<=65534/\w.mask≠0/\Y7 w.old w.mask=true/\Y7 w.new w.mask=true
 | [],_,_,_,hw=> by cases hw
 | a ::r,last,h,w,hw=> by
  simp only [YA,Q2,decide_eq_true_eq] at h
  obtain ⟨⟨⟨h1,h2⟩,h3⟩,d⟩:=h
  rcases Q9.1 hw with rfl | hw
  .grind
  .have:=Jc d w hw
   grind
inductive RightOp (list:Int) (d:Int):Op->Prop
 | keep (n:Int):1<=n->n<=1048576->RightOp list d ⟨0,n,[],Edit.nil⟩
 | gone (l:List Tree):YB (dT d) list l=true->0 < l.length->RightOp list d ⟨1,0,l,Edit.nil⟩
 | come (l:List Tree):YB (dT d) list l=true->0 < l.length->RightOp list d ⟨2,0,l,Edit.nil⟩
 | into (e:Edit):Z7 e d=true->e.kind≠0->7 < list->(list=8\/e.kind=2\/e.kind=1/\e.old.kind=1/\e.new.kind=1)->RightOp list d ⟨3,0,[],e⟩
theorem Y9{list:Int}{o:Op}{d:Int}(h:Za list o d=true):RightOp list d o:=by
 obtain ⟨k,n,l,e⟩:=o
 rw [Za] at h
 split at h
 .rename_i hk
  simp only [Q2,decide_eq_true_eq] at h
  obtain ⟨⟨h1,h2,h3⟩,h4⟩:=h
  rw [hk,Ze4 h4,Q1 h3]
  exact .keep n h1 h2
 .rename_i h0
  split at h
  .cases h
  .rename_i h1
   have hn:n=0:=V0
   subst hn
   split at h
   .rename_i h2
    simp only [Q2,decide_eq_true_eq] at h
    obtain ⟨⟨h3,h4⟩,h5⟩:=h
    rw [Ze4 h5]
    by_cases hk:k=1
    .rw [hk];exact .gone l h3 h4
    .rw [show k=2 by omega];exact .come l h3 h4
   .rename_i h2
    simp only [Q2,decide_eq_true_eq] at h
    obtain ⟨⟨⟨h3,h4,h5⟩,h6⟩,h7⟩:=h
    rw [show k=3 by omega,Q1 h3]
    exact .into e h6 h4 h5 h7
theorem Zmm{e:Edit}{d:Int}(h:Z7 e d=true):(∀ k∈e.kids,∃ d,Z7 k.e d=true)/\(∀ o∈e.ops,∃ l d,Za l o d=true)/\(e.kind=3->2<=e.list/\e.list<=9):=by
 have r:=Zq h
 exact ⟨fun k hk=> ⟨_,(Ya r.kids k hk).2⟩,fun o ho=> ⟨_,_,rightOs_mem r.ops o ho⟩,r.list⟩
theorem JR{l d:Int}{o:Op}(h:Za l o d=true)(hk:o.kind=3):Z7 o.e d=true:=by
 have r:=Y9 h
 cases r with
 | into e h1=> exact h1
 | keep | gone | come=> grind
end Go.AM
namespace Go.AM.YtnfbomhidainjaaGreat
open Go.AM Go.Proofs
theorem Z3H{α:Type}(z:α)(l:List α)(i:Nat)(x:α):(ZH z l i x).length=max l.length (i+1):=by
 simp only [ZH,List.length_set,Q8,Xr];omega
theorem YC{α:Type}(z:α)(l:List α)(i:Nat)(x:α)(j:Nat):(ZH z l i x).getD j z=if j=i then x else l.getD j z:=by
 simp only [ZH,Q6,Ka,Q8,Xr]
 grind
theorem Zma{α β:Type}(f:α->β)(z:α)(l:List α)(i:Nat)(x:α):(ZH z l i x).map f=ZH (f z) (l.map f) i (f x):=by
 simp [ZH,List.map_set]
theorem Z44:∀ l:List Tree,Yr l=Z4 l
 | []=> rfl
 | t ::r=> by simp [Yr,Z4,Z44 r]
theorem ZeJ(l:List Tree)(i:Nat)(x:Tree):Z4 (ZH Tree.nil l i x)=ZH Tree.nil (Z4 l) i (Z0 x):=by
 rw [Z4,Zma,Zrw];try rfl
theorem Zrv{a b:List Tree}{i:Nat}{x y:Tree}(h:Z4 a=Z4 b)(hx:Z0 x=Z0 y):Z4 (ZH Tree.nil a i x)=Z4 (ZH Tree.nil b i y):=by
 rw [ZeJ,ZeJ,h,hx]
theorem Z10{a b c d:List Tree}(h:Z4 a=Z4 b)(hx:Z4 c=Z4 d):Z4 (a++c)=Z4 (b++d):=by
 rw [Yq,Yq,h,hx]
theorem Z61(k:Int)(w:List Int){a b:List Tree}(h:Z4 a=Z4 b):Z0 (.mk k w a)=Z0 (.mk k w b):=by
 simp only [Z0,Z44,h]
theorem Z2z{a b:List Tree}(h:Z4 a=Z4 b):a.length=b.length:=by
 have:=congrArg List.length h
 simpa [Z4] using this
theorem YX{a b:Tree}:Z4 [a]=Z4 [b]↔Z0 a=Z0 b:=by simp [Z4]
def OptR{α β:Type}(R:α->β->Prop):Option α->Option β->Prop
 | none,none=> True
 | some a,some b=> R a b
 | _,_=> False
theorem OptR.rfl'{α:Type}(a:Option α):OptR Eq a a:=by cases a;exact trivial;exact rfl
theorem OptR.bind{α β γ δ:Type}{R:α->β->Prop}{S:γ->δ->Prop}{a:Option α}{b:Option β}{f:α->Option γ}{g:β->Option δ}(h:OptR R a b)(hf:∀ x y,R x y->OptR S (f x) (g y)):OptR S (a.bind f) (b.bind g):=by
 cases a <;> cases b <;> first | exact trivial | exact h.elim | exact hf _ _ h
theorem OptR.map{α β γ δ:Type}{R:α->β->Prop}{S:γ->δ->Prop}{a:Option α}{b:Option β}{f:α->γ}{g:β->δ}(h:OptR R a b)(hf:∀ x y,R x y->S (f x) (g y)):OptR S (a.map f) (b.map g):=by
 cases a <;> cases b <;> first | exact trivial | exact h.elim | exact hf _ _ h
theorem OptR.ite{α β:Type}{R:α->β->Prop}{p q:Prop} [Decidable p] [Decidable q] {a c:Option α}{b d:Option β}(h:p↔q)(h1:p->OptR R a b)(h2:¬p->OptR R c d):OptR R (if p then a else c) (if q then b else d):=by
 grind
def Eqv(x y:Tree):Prop:=Z0 x=Z0 y
def EqvL(x y:List Tree):Prop:=Z4 x=Z4 y
theorem EqvL.take{x y:List Tree}(h:EqvL x y)(n:Nat):EqvL (x.take n) (y.take n):=by unfold EqvL Z4 at*;simp_all
theorem EqvL.drop{x y:List Tree}(h:EqvL x y)(n:Nat):EqvL (x.drop n) (y.drop n):=by unfold EqvL Z4 at*;simp_all
theorem EqvL.len{x y:List Tree}(h:EqvL x y):x.length=y.length:=Z2z h
theorem ZeI(l:List Tree)(i:Nat):(Z4 l).getD i Tree.nil=Z0 (l.getD i Tree.nil):=by rw [<-Z44];exact Z0R l i
theorem EqvL.get{x y:List Tree}(h:EqvL x y)(i:Nat):Eqv (x.getD i Tree.nil) (y.getD i Tree.nil):=by
 unfold Eqv;rw [<-ZeI,<-ZeI,h]
theorem Zlq{a b:Option (List Tree × List Tree)}(h:OptR (fun x y=> EqvL x.1 y.1/\EqvL x.2 y.2) a b):OptR EqvL (Z28 a) (Z28 b):=by
 unfold Z28
 refine h.bind fun x y d=> ?_
 exact OptR.ite (by rw [d.2.len]) (fun _=> d.1) (fun _=> trivial)
def Zoo(a b:List Int):Prop:=∀ i:Nat,a.getD i 0=b.getD i 0
def ZlT(a b:List Tree):Prop:=∀ i:Nat,Eqv (a.getD i Tree.nil) (b.getD i Tree.nil)
theorem Z1P{a b:Tree}(ha:a.kind=1)(hb:b.kind=1):Eqv a b↔Zoo a.words b.words/\ZlT a.kids b.kids:=by
 unfold Eqv Zoo ZlT
 rw [YR,ha,hb]
 simp [Eqv]
theorem Zff{a b:Tree}(h0:a.kind≠0)(h1:a.kind≠1):Eqv a b↔a.kind=b.kind/\a.words=b.words/\EqvL a.kids b.kids:=by
 unfold Eqv EqvL
 rw [YR,if_neg h1,<-Z44,<-Z44,Z9o]
 grind
theorem Eqv.kind{a b:Tree}(h:Eqv a b):a.kind=b.kind:=((YR a b).1 h).1
theorem Zoq{tw tv:List Int}(h:Zoo tw tv):∀ (ws:List WEdit) (a b:List Int),Zoo a b->OptR Zoo (wsD tw ws a) (wsD tv ws b)
 | [],_,_,hab=> hab
 | w ::r,a,b,hab=> by
  rw [wsD,wsD,h w.at_.toNat]
  refine OptR.ite QN (fun _=> Zoq h r _ _ fun i=> ?_) (fun _=> trivial)
  rw [YC,YC]
  split
  .try rfl
  .exact hab i
theorem ZrX(l:List Tree){a b:List Tree}(h:EqvL a b):JP l a=JP l b:=by
 unfold JP
 rw [h.len,show Z4 (a.take l.length)=Z4 (b.take l.length) from h.take _]
mutual
theorem Z7a:∀ (e:Edit) (d:Int) (t s:Tree),Z7 e d=true->Eqv t s->OptR Eqv (doE false e t) (doE false e s)
 | .mk k o n w ks l os,d,t,s,hr,h=> by
  have h1:=Zlu ks t.kids s.kids
  have h2:=Zfi os t.kids s.kids [] []
  have hk:=h.kind
  have ab:=Zmm hr
  rw [JK,JK,ZR,ZR]
  show OptR Eqv (if k=0 then _ else _) (if k=0 then _ else _)
  refine OptR.ite QN (fun _=> h) fun _=> OptR.ite QN (fun _=> ?_) fun _=> OptR.ite QN (fun k2=> ?_) fun _=> OptR.ite QN (fun k3=> ?_) (fun _=> trivial)
  .rw [show Z0 t=Z0 s from h]
   exact OptR.ite QN (fun _=> rfl) (fun _=> trivial)
  .refine OptR.ite (by rw [hk]) (fun ht=> ?_) (fun _=> trivial)
   have hs:s.kind=1:=by rw [<-hk];exact ht
   obtain ⟨hw,aa⟩:=(Z1P ht hs).1 h
   refine (Zoq hw w t.words s.words hw).bind fun a b aj=> ?_
   refine (h1 aa ab.1 t.kids s.kids aa).map fun x y ae=> ?_
   exact (Z1P rfl rfl).2 ⟨aj,ae⟩
  .refine OptR.ite (by rw [hk]) (fun ht=> ?_) (fun _=> trivial)
   have hl:=ab.2.2
   have ai:=ab.2.1
   replace ht:t.kind=l:=ht
   replace hl:2<=l/\l<=9:=hl k3
   obtain ⟨_,_,aa⟩:=(Zff V0 V0).1 h
   exact (Zlq (h2 aa rfl ai)).map fun x y ae=> Z61 _ _ ae
theorem Zlu:∀ (ks:List (KidOf Edit)) (tk sk:List Tree),ZlT tk sk->(∀ k∈ks,∃ d,Z7 k.e d=true)->∀ a b,ZlT a b->OptR ZlT (Jx false tk ks a) (Jx false sk ks b)
 | [],_,_,_,_,_,_,hab=> hab
 | k ::r,tk,sk,h,hr,a,b,hab=> by
  rw [Jx,Jx]
  obtain ⟨d,hd⟩:=hr k Q5
  refine (Zs5 k d tk sk h hd).bind fun x y aa=> Zlu r tk sk h (fun q hq=> hr q (Q3 _ hq)) _ _ fun i=> ?_
  rw [YC,YC]
  split
  .exact aa
  .exact hab i
theorem Zs5:∀ (k:KidOf Edit) (d:Int) (tk sk:List Tree),ZlT tk sk->Z7 k.e d=true->OptR Eqv (Z2a false tk k) (Z2a false sk k)
 | ⟨a,e⟩,d,tk,sk,h,hr=> by rw [Z2a,Z2a];exact Z7a e d _ _ hr (h _)
theorem Zfi:∀ (os:List (OpOf Edit)) (rt rs a b:List Tree),EqvL rt rs->EqvL a b->(∀ o∈os,∃ l d,Za l o d=true)->OptR (fun x y=> EqvL x.1 y.1/\EqvL x.2 y.2) (Zy false os rt a) (Zy false os rs b)
 | [],_,_,_,_,h,hab,_=> ⟨hab,h⟩
 | o ::r,rt,rs,a,b,h,hab,hr=> by
  rw [Zy,Zy]
  refine (Zwu o rt rs a b h hab (hr o Q5)).bind fun x y aa=> Zfi r _ _ _ _ aa.2 aa.1 (fun q hq=> hr q (Q3 _ hq))
theorem Zwu:∀ (o:OpOf Edit) (rt rs a b:List Tree),EqvL rt rs->EqvL a b->(∃ l d,Za l o d=true)->OptR (fun x y=> EqvL x.1 y.1/\EqvL x.2 y.2) (Z2g false o rt a) (Z2g false o rs b)
 | ⟨k,n,l,e⟩,rt,rs,a,b,h,hab,hr=> by
  obtain ⟨li,d,hr⟩:=hr
  have he:=fun h3=> Z7a e d (rt.getD 0 Tree.nil) (rs.getD 0 Tree.nil) (JR hr h3) (h.get 0)
  have aa:=h.len
  rw [Z2g,Z2g]
  refine OptR.ite QN (fun _=> OptR.ite (by rw [aa]) (fun _=> ⟨Z10 hab (h.take _),h.drop _⟩) (fun _=> trivial)) fun k0=> OptR.ite QN (fun _=> ?_) fun k1=> OptR.ite QN (fun _=> ⟨Z10 hab rfl,h⟩) fun k2=> OptR.ite (by rw [aa]) (fun _=> trivial) fun _=> ?_
  .rw [ZrX l h]
   exact OptR.ite QN (fun _=> ⟨hab,h.drop _⟩) (fun _=> trivial)
  .have ai:k=0\/k=1\/k=2\/k=3:=by
    have r:=Y9 hr
    generalize ho:OpOf.mk k n l e=o at r
    cases r <;> (injection ho with h1;subst h1;decide)
   exact (he (by grind)).map fun x y h'=> ⟨Z10 hab (YX.2 h'),h.drop _⟩
end
noncomputable section
def Z94(a:List Int × Unit):List Int:=a.1
def Z1f:Fs U:=fsL Zxk (fun a=> [Zkz a]) .u64 Z94
def ZwX:ArgL (List Tree × Unit):=(.cons (aSl .tree) .nil)
def Zku(a:List Tree × Unit):Prop:=a.1.length<=1000000000000
def Zi7(a:List Tree × Unit):List Tree:=a.1
def ZaA:Fs U:=fsL ZwX (fun a=> [Zku a]) .tree Zi7
def Zbz:ArgL (Edit × Tree × Unit):=(.cons (aEl .edit) (.cons (aEl .tree) .nil))
def Z40(a:Edit × Tree × Unit):Prop:=(Zc a.1<=20000000000/\Yi a.1/\∃ d,Z7 a.1 d=true)/\mass a.2.1+ctE a.1<=200000000000/\rng a.2.1
def ZfH(a:Edit × Tree × Unit):Nat:=2*Zc a.1+1
def Z5S(a:Edit × Tree × Unit):V U:= .tup [(true,(enc .tree (ZcG a.1 a.2.1))),(false,[.bool ((doE false a.1 a.2.1).isSome)])]
def ZaB:Fs U:=fs Zbz (fun a=> [Z40 a]) Z5S
def Z9c(a:Edit × Tree × Unit):Prop:=Edit.kind a.1=2/\(Zc a.1<=20000000000/\Yi a.1/\∃ d,Z7 a.1 d=true)/\mass a.2.1+ctE a.1<=200000000000/\rng a.2.1
def ZkQ(a:Edit × Tree × Unit):Nat:=2*Zc a.1
def Z96(a:Edit × Tree × Unit):V U:= .tup [(true,(enc .tree (Z3q (ZcE false a.1 a.2.1)))),(false,[.bool ((ZcE false a.1 a.2.1).isSome)])]
def Ztc:Fs U:=fs Zbz (fun a=> [Z9c a]) Z96
def Z9b(a:Edit × Tree × Unit):Prop:=Edit.kind a.1=3/\(Zc a.1<=20000000000/\Yi a.1/\∃ d,Z7 a.1 d=true)/\mass a.2.1+ctE a.1<=200000000000/\rng a.2.1
def Z95(a:Edit × Tree × Unit):V U:= .tup [(true,(enc .tree (Zvo a.1 (Z7h false a.1 a.2.1)))),(false,[.bool ((Z28 (Z7h false a.1 a.2.1)).isSome)])]
def Ztb:Fs U:=fs Zbz (fun a=> [Z9b a]) Z95
def Znf:Zb U:=lvk [([0],[]),([0,4],[]),([(2,[.wr .u64])],[]),([(2,[.wr .u64])],[])]
abbrev ZIj(p:List Nat):=AW (Z0L ZnF) Tryz.f42 Znf p
theorem ZCn(l:List Int)(Q:QT)(h:(((l=[])->(Q .ret (⟨[(2,.c (.mref (.e 2 0)))],[],[(.e 2 0,LC.mk (U:=U) .u64 [] 0)]⟩:LSt U)))/\(True->((([]:List Int).length+l.length)*8<=140737488355328)/\(Q .ret (⟨[(2,.c (.mref (.e 2 0)))],[],[(.e 2 0,LC.mk (U:=U) .u64 (([]:List Int)++l) (([]:List Int).length))]⟩:LSt U))))):
  ZIj [] (L2 [(0,.c (sU .u64 l .unk))] []) Q:=
 Eq.mpr V5 h
def ZxE(l:List Int):Prop:=AW (Z0L ZnF) Tryz.f42 Znf [] (Zf (Zxk.can (l,())) []) (JX cfg Tryz.f42.ntmps Tryz.f42.results.toList (.c (.mref (.r 0 0))) [] [(.r 0 0,LC.mk (U:=U) .u64 (Z94 (l,())) 0)])
theorem Zv2(hb:∀ (l:List Int) (_:Unit),Zkz (l,())->ZxE l):CT 42 Z1f:=
 Z6v (l:=[]) Zd rfl trivial Znf Tryz.func42 rfl rfl 1 (fun _=> rfl) V2 (fun ⟨l,_⟩=> hb l ())
def ZDS:Zb U:=lvk [([0],[]),([0,4],[]),([(2,[.wr .tree])],[]),([(2,[.wr .tree])],[])]
abbrev A70(p:List Nat):=AW (Z0L ZnF) Tryz.f70 ZDS p
theorem ZIF(l:List Tree)(Q:QT)(h:(((l=[])->(Q .ret (⟨[(2,.c (.mref (.e 2 0)))],[],[(.e 2 0,LC.mk (U:=U) .tree [] 0)]⟩:LSt U)))/\(True->((([]:List Tree).length+l.length)*56<=140737488355328)/\(Q .ret (⟨[(2,.c (.mref (.e 2 0)))],[],[(.e 2 0,LC.mk (U:=U) .tree (([]:List Tree)++l) (([]:List Tree).length))]⟩:LSt U))))):
  A70 [] (L2 [(0,.c (sU .tree l .unk))] []) Q:=
 Eq.mpr V5 h
def ZFx(l:List Tree):Prop:=AW (Z0L ZnF) Tryz.f70 ZDS [] (Zf (ZwX.can (l,())) []) (JX cfg Tryz.f70.ntmps Tryz.f70.results.toList (.c (.mref (.r 0 0))) [] [(.r 0 0,LC.mk (U:=U) .tree (Zi7 (l,())) 0)])
theorem ZD5(hb:∀ (l:List Tree) (_:Unit),Zku (l,())->ZFx l):CT 70 ZaA:=
 Z6v (l:=[]) Zd rfl trivial ZDS Tryz.func70 rfl rfl 1 (fun _=> rfl) V2 (fun ⟨l,_⟩=> hb l ())
def Zbf(N:Nat):List (FuncId × Fs U):=(23,fs Zbz (fun a=> [Z40 a,ZfH a < N]) Z5S) ::(43,fs Zbz (fun a=> [Z9c a,ZkQ a < N]) Z96) ::(44,fs Zbz (fun a=> [Z9b a,ZkQ a < N]) Z95) ::[(38,Yw),(63,Z1b),(64,Z1a),(72,Zaz),(70,ZaA),(71,Z0P),(42,Z1f)]
def ZEd:Zb U:=lvl [([2,3,4],[2,3,4]),([2,3,4,7],[2,3,4]),([2,3,4,7,8],[2,3,4]),([4,5],[4]),([2,3,4,7,11],[2,3,4]),([4,5],[4]),([2,3,4,7,19],[2,3,4]),([4,5],[4]),([2,3,4,26],[2,3,4]),([4,5],[4]),([4,5],[4])]
abbrev A23(N:Nat)(p:List Nat):=AW (Z1 (Zbf N)) Tryz.f23 ZEd p
theorem ZJj(N:Nat)(e:Edit)(t:Tree)(Q:QT)(h:∀ aa,aa=e->∀ d,d=t->∀ ab,ab=(e.old)->(iB (e.kind==0) ((Q .ret (L2 [pL 4,pB 5 true] [(.loc 4,(enc .tree t))]))) ((iB (e.kind==1) ((Z2M (ab,d,()))/\(Q .ret (L2 [pL 4,pB 5 (ZU (Z0 ab) (Z0 d))] [(.loc 4,(enc .tree e.new))]))) ((iB (e.kind==2) ((Z9c (aa,d,()))/\(ZkQ (aa,d,()) < N)/\(Q .ret (L2 [pL 4,pB 5 ((ZcE false aa d).isSome)] [(.loc 4,(enc .tree (Z3q (ZcE false aa d))))]))) ((iB (e.kind==3) ((Z9b (aa,d,()))/\(ZkQ (aa,d,()) < N)/\(Q .ret (L2 [pL 4,pB 5 ((Z28 (Z7h false aa d)).isSome)] [(.loc 4,(enc .tree (Zvo aa (Z7h false aa d))))]))) ((Q .ret (L2 [pL 4,pB 5 false] [(.loc 4,[ci 0,.nils,.nils])]))))))))))):
  A23 N [] (L2 [(0,.agg (enc .edit e)),(1,.agg (enc .tree t))] []) Q:=
 Eq.mpr V5 (h _ (Zg _) _ (Z3 _) _ (Z3 _))
def ZGb(N:Nat)(e:Edit)(t:Tree):Prop:=AW (Z1 (Zbf N)) Tryz.f23 ZEd [] (Zf (Zbz.can (e,t,())) []) (EQ Tryz.f23 (Z5S (e,t,())) [])
abbrev ZI8:Prop:=∀ (N:Nat) (e:Edit) (t:Tree) (_:Unit),Z40 (e,t,())->ZfH (e,t,()) < N+1->ZGb N e t
def ZzX:Zb U:=lvk [([2,3,4],[2,3,4]),([2,3,4,16],[2,3,4]),([4,5],[4]),([2,3,4,6],[2,3,4,((.loc 6),[.any,.wr .u64,.wr .tree])]),([2,3,4,6,26,27,28],[2,3,4,((.loc 6),[.any,.wr .u64,.wr .tree])]),([2,3,4,6,26,27,28,29],[2,3,4,((.loc 6),[.any,.wr .u64,.wr .tree])]),([2,3,4,6,8,26,27,28],[2,3,4,((.loc 6),[.any,.wr .u64,.wr .tree]),8]),([2,3,4,6,8,9,26,27,28],[2,3,4,((.loc 6),[.any,.wr .u64,.wr .tree]),8]),([2,3,4,6,8,9,26,27,28,42],[2,3,4,((.loc 6),[.any,.wr .u64,.wr .tree]),8]),([4,5],[4]),([2,3,4,6,8,9,26,27,28,42,49],[2,3,4,((.loc 6),[.any,.wr .u64,.wr .tree]),8]),([2,3,4,6,8,9,26,27,28,42],[2,3,4,((.loc 6),[.any,.wr .u64,.wr .tree]),8]),([2,3,4,6,26,27,28],[2,3,4,((.loc 6),[.any,.wr .u64,.wr .tree])]),([2,3,4,6,26,27,28],[2,3,4,((.loc 6),[.any,.wr .u64,.wr .tree])]),([3,4,6,68,69,70],[3,4,((.loc 6),[.any,.wr .u64,.wr .tree])]),([3,4,6,68,69,70,71],[3,4,((.loc 6),[.any,.wr .u64,.wr .tree])]),([3,4,6,11,68,69,70],[3,4,((.loc 6),[.any,.wr .u64,.wr .tree]),11]),([3,4,6,11,12,13,68,69,70],[3,4,((.loc 6),[.any,.wr .u64,.wr .tree]),11,12]),([3,4,6,11,12,68,69,70,85],[3,4,((.loc 6),[.any,.wr .u64,.wr .tree]),11,12]),([4,5],[4]),([3,4,6,11,12,68,69,70,85,92],[3,4,((.loc 6),[.any,.wr .u64,.wr .tree]),11,12]),([3,4,6,11,12,68,69,70,85],[3,4,((.loc 6),[.any,.wr .u64,.wr .tree]),11,12]),([3,4,6,68,69,70],[3,4,((.loc 6),[.any,.wr .u64,.wr .tree])]),([3,4,6,68,69,70],[3,4,((.loc 6),[.any,.wr .u64,.wr .tree])]),([4,5],[4])]
def Z9U(e:Edit)(t:Tree)(aa:Int)(d:List Int):LSt U:=(⟨[pL 2,pL 3,pL 4,pL 6,(26,.c (sU .wedit e.words .unk)),pI 27 (e.words.length:Int),pI 28 aa],[(.loc 2,(enc .edit e)),(.loc 3,(enc .tree t)),(.loc 4,[ci 0,.nils,.nils]),(.loc 6,[ci 1,.mref (.l 6 1),.mref (.l 6 2)])],[(.l 6 1,LC.mk (U:=U) .u64 d 0),(.l 6 2,LC.mk (U:=U) .tree t.kids 0)]⟩:LSt U)
def Z9T(e:Edit)(t:Tree)(d:Int)(aa:List Int):LSt U:=(⟨[pL 2,pL 3,pL 4,pL 6,pL 8,(9,.c (.int .u64 (Zm (Tree.mk t.kind t.words t.kids) (WEdit.at_ (e.words.getD d.toNat (WEdit.mk 0 0 0 0)))))),(26,.c (sU .wedit e.words .unk)),pI 27 (e.words.length:Int),pI 28 d,(42,.c (.bool (((mix 0 (Zm (Tree.mk t.kind t.words t.kids) (WEdit.at_ (e.words.getD d.toNat (WEdit.mk 0 0 0 0)))) (WEdit.mask (e.words.getD d.toNat (WEdit.mk 0 0 0 0)))):Int) !=(WEdit.old (e.words.getD d.toNat (WEdit.mk 0 0 0 0))))))],[(.loc 2,(enc .edit e)),(.loc 3,(enc .tree t)),(.loc 4,[ci 0,.nils,.nils]),(.loc 6,[ci 1,.mref (.l 6 1),.mref (.l 6 2)]),(.loc 8,(enc .wedit (e.words.getD d.toNat (WEdit.mk 0 0 0 0))))],[(.l 6 1,LC.mk (U:=U) .u64 aa 0),(.l 6 2,LC.mk (U:=U) .tree t.kids 0)]⟩:LSt U)
def Z9S(e:Edit)(t:Tree)(aa:List Int)(ab:Int)(d:List Tree):LSt U:=(⟨[pL 3,pL 4,pL 6,(68,.c (sU .kid e.kids .unk)),pI 69 (e.kids.length:Int),pI 70 ab],[(.loc 3,(enc .tree t)),(.loc 4,[ci 0,.nils,.nils]),(.loc 6,[ci 1,.mref (.l 6 1),.mref (.l 6 2)])],[(.l 6 1,LC.mk (U:=U) .u64 aa 0),(.l 6 2,LC.mk (U:=U) .tree d 0)]⟩:LSt U)
def Z9R(e:Edit)(t:Tree)(ab:List Int)(d:Int)(aa:List Tree):LSt U:=(⟨[pL 3,pL 4,pL 6,pL 11,pL 12,(68,.c (sU .kid e.kids .unk)),pI 69 (e.kids.length:Int),pI 70 d,(85,.c (.bool (!((doE false (Edit.mk (Edit.kind (KidOf.e (e.kids.getD d.toNat (KidOf.mk 0 Edit.nil)))) (Tree.mk (Tree.kind (Edit.old (KidOf.e (e.kids.getD d.toNat (KidOf.mk 0 Edit.nil))))) (Tree.words (Edit.old (KidOf.e (e.kids.getD d.toNat (KidOf.mk 0 Edit.nil))))) (Tree.kids (Edit.old (KidOf.e (e.kids.getD d.toNat (KidOf.mk 0 Edit.nil)))))) (Tree.mk (Tree.kind (Edit.new (KidOf.e (e.kids.getD d.toNat (KidOf.mk 0 Edit.nil))))) (Tree.words (Edit.new (KidOf.e (e.kids.getD d.toNat (KidOf.mk 0 Edit.nil))))) (Tree.kids (Edit.new (KidOf.e (e.kids.getD d.toNat (KidOf.mk 0 Edit.nil)))))) (Edit.words (KidOf.e (e.kids.getD d.toNat (KidOf.mk 0 Edit.nil)))) (Edit.kids (KidOf.e (e.kids.getD d.toNat (KidOf.mk 0 Edit.nil)))) (Edit.list (KidOf.e (e.kids.getD d.toNat (KidOf.mk 0 Edit.nil)))) (Edit.ops (KidOf.e (e.kids.getD d.toNat (KidOf.mk 0 Edit.nil))))) (Tree.mk (Tree.kind (Zr (Tree.mk t.kind t.words t.kids) (KidOf.at_ (e.kids.getD d.toNat (KidOf.mk 0 Edit.nil))))) (Tree.words (Zr (Tree.mk t.kind t.words t.kids) (KidOf.at_ (e.kids.getD d.toNat (KidOf.mk 0 Edit.nil))))) (Tree.kids (Zr (Tree.mk t.kind t.words t.kids) (KidOf.at_ (e.kids.getD d.toNat (KidOf.mk 0 Edit.nil))))))).isSome))))],[(.loc 3,(enc .tree t)),(.loc 4,[ci 0,.nils,.nils]),(.loc 6,[ci 1,.mref (.l 6 1),.mref (.l 6 2)]),(.loc 11,(enc .kid (e.kids.getD d.toNat (KidOf.mk 0 Edit.nil)))),(.loc 12,(enc .tree (ZcG (Edit.mk (Edit.kind (KidOf.e (e.kids.getD d.toNat (KidOf.mk 0 Edit.nil)))) (Tree.mk (Tree.kind (Edit.old (KidOf.e (e.kids.getD d.toNat (KidOf.mk 0 Edit.nil))))) (Tree.words (Edit.old (KidOf.e (e.kids.getD d.toNat (KidOf.mk 0 Edit.nil))))) (Tree.kids (Edit.old (KidOf.e (e.kids.getD d.toNat (KidOf.mk 0 Edit.nil)))))) (Tree.mk (Tree.kind (Edit.new (KidOf.e (e.kids.getD d.toNat (KidOf.mk 0 Edit.nil))))) (Tree.words (Edit.new (KidOf.e (e.kids.getD d.toNat (KidOf.mk 0 Edit.nil))))) (Tree.kids (Edit.new (KidOf.e (e.kids.getD d.toNat (KidOf.mk 0 Edit.nil)))))) (Edit.words (KidOf.e (e.kids.getD d.toNat (KidOf.mk 0 Edit.nil)))) (Edit.kids (KidOf.e (e.kids.getD d.toNat (KidOf.mk 0 Edit.nil)))) (Edit.list (KidOf.e (e.kids.getD d.toNat (KidOf.mk 0 Edit.nil)))) (Edit.ops (KidOf.e (e.kids.getD d.toNat (KidOf.mk 0 Edit.nil))))) (Tree.mk (Tree.kind (Zr (Tree.mk t.kind t.words t.kids) (KidOf.at_ (e.kids.getD d.toNat (KidOf.mk 0 Edit.nil))))) (Tree.words (Zr (Tree.mk t.kind t.words t.kids) (KidOf.at_ (e.kids.getD d.toNat (KidOf.mk 0 Edit.nil))))) (Tree.kids (Zr (Tree.mk t.kind t.words t.kids) (KidOf.at_ (e.kids.getD d.toNat (KidOf.mk 0 Edit.nil)))))))))],[(.l 6 1,LC.mk (U:=U) .u64 ab 0),(.l 6 2,LC.mk (U:=U) .tree aa 0)]⟩:LSt U)
abbrev A43(N:Nat)(p:List Nat):=AW (Z1 (Zbf N)) Tryz.f43 ZzX p
abbrev S43(N:Nat)(p:List Nat):=SW (Z1 (Zbf N)) Tryz.f43 ZzX p
theorem ZJ3(N:Nat)(e:Edit)(t:Tree)(Q:QT)(h:(iB (t.kind !=1) ((Q .ret (L2 [pL 4,pB 5 false] [(.loc 4,[ci 0,.nils,.nils])]))) ((Zkz (t.words,()))/\(Zku (t.kids,()))/\(Zk (A43 N [1,1,1,0,1,0,0]) (Z9U e t 0 t.words) (xB 0 (S43 N [1,1,1,1] Q)))))):
  A43 N [] (L2 [(0,.agg (enc .edit e)),(1,.agg (enc .tree t))] []) Q:=
 Eq.mpr V5 h
theorem Zyf(N:Nat)(e:Edit)(t:Tree)(ab:Int)(d:List Int)(N0:NT)(Q:QT)(h:∀ ae,ae=t->∀ aa,aa=(e.words.getD ab.toNat (WEdit.mk 0 0 0 0))->(iB (decide (ab < (e.words.length:Int))) (((0:Int)<=ab/\ab < (e.words.length:Int))/\((Z5W (ae,aa.at_,()))/\((JE (0,(Zm ae aa.at_),aa.mask,()))/\(iB (((mix 0 (Zm ae aa.at_) aa.mask):Int) !=aa.old) ((Q .ret (L2 [pL 4,pB 5 false] [(.loc 4,[ci 0,.nils,.nils])]))) (Zk (A43 N [1,1,1,0,1,0,0,1,1,0,0,1,1,1,0,0,0]) (Z9T e t ab d) (xB 2 (S43 N [1,1,1,0,1,0,0,1,1,0,0,1,1,1,1] (xB 1 (S43 N [1,1,1,0,1,0,0,1,1,1] (xT N0 (xB 0 (S43 N [1,1,1,1] Q)))))))))))) ((Zk (A43 N [1,1,1,1,0,1,0,0]) (Z9S e t d 0 t.kids) (xB 4 (S43 N [1,1,1,1,1] Q)))))):
  A43 N [1,1,1,0,1,0,0] (Z9U e t ab d) (xT N0 (xB 0 (S43 N [1,1,1,1] Q))):=
 Eq.mpr V5 (h _ (Z3 _) _ rfl)
theorem Zye(N:Nat)(e:Edit)(t:Tree)(aa:Int)(d:List Int)(N1 N0:NT)(Q:QT)(h:let z0:=e.words.getD aa.toNat (WEdit.mk 0 0 0 0);let z1:=Zm (Tree.mk t.kind t.words t.kids) (WEdit.at_ z0);(iB (decide (((d.length:Int):Int)<=(WEdit.at_ z0))) (((d.length+([0]).length)*8<=140737488355328)/\(N1 (Z9T e t aa (d++([0]))))) ((JE (z1,(WEdit.new z0),(WEdit.mask z0),()))/\((0:Int)<=(WEdit.at_ z0)/\(WEdit.at_ z0) < (d.length:Int))/\((0:Nat)<=(Int.toNat (WEdit.at_ z0)))/\((InR (aa+1))/\(N0 (Z9U e t (aa+1) (List.set d (Int.toNat (WEdit.at_ z0)) (mix z1 (WEdit.new z0) (WEdit.mask z0))))))))):
  A43 N [1,1,1,0,1,0,0,1,1,0,0,1,1,1,0,0,0] (Z9T e t aa d) (xT N1 (xB 2 (S43 N [1,1,1,0,1,0,0,1,1,0,0,1,1,1,1] (xB 1 (S43 N [1,1,1,0,1,0,0,1,1,1] (xT N0 (xB 0 (S43 N [1,1,1,1] Q)))))))):=
 Eq.mpr V5 h
theorem Zyd(N:Nat)(e:Edit)(t:Tree)(ab:List Int)(aa:Int)(d:List Tree)(N2:NT)(Q:QT)(h:∀ ai,ai=t->∀ ae,ae=(e.kids.getD aa.toNat (KidOf.mk 0 Edit.nil))->∀ ah,ah=(ae.e)->∀ af,af=(Zr ai ae.at_)->(iB (decide (aa < (e.kids.length:Int))) (((0:Int)<=aa/\aa < (e.kids.length:Int))/\((Z5W (ai,ae.at_,()))/\(Z40 (ah,af,()))/\(ZfH (ah,af,()) < N)/\(iB (!((doE false ah af).isSome)) ((Q .ret (L2 [pL 4,pB 5 false] [(.loc 4,[ci 0,.nils,.nils])]))) (Zk (A43 N [1,1,1,1,0,1,0,0,1,1,0,0,1,1,1,0,0,0]) (Z9R e t ab aa d) (xB 6 (S43 N [1,1,1,1,0,1,0,0,1,1,0,0,1,1,1,1] (xB 5 (S43 N [1,1,1,1,0,1,0,0,1,1,1] (xT N2 (xB 4 (S43 N [1,1,1,1,1] Q))))))))))) ((Q .ret (L2 [pL 4,pB 5 true] [(.loc 4,[ci 1,sU .u64 ab (.own (.l 4 1)),sU .tree d (.own (.l 4 2))])]))))):
  A43 N [1,1,1,1,0,1,0,0] (Z9S e t ab aa d) (xT N2 (xB 4 (S43 N [1,1,1,1,1] Q))):=
 Eq.mpr V5 (h _ (Z3 _) _ rfl _ (Zg _) _ (Z3 _))
theorem Zyc(N:Nat)(e:Edit)(t:Tree)(ab:List Int)(aa:Int)(d:List Tree)(N3 N2:NT)(Q:QT)(h:∀ ai,ai=t->∀ ae,ae=(e.kids.getD aa.toNat (KidOf.mk 0 Edit.nil))->∀ aj,aj=(ae.e)->∀ ah,ah=(Zr ai ae.at_)->∀ af,af=(ZcG aj ah)->(iB (decide (((d.length:Int):Int)<=ae.at_)) (((d.length+([(Tree.mk 0 [] [])]).length)*56<=140737488355328)/\(N3 (Z9R e t ab aa (d++([(Tree.mk 0 [] [])]))))) (((0:Int)<=ae.at_/\ae.at_ < (d.length:Int))/\((0:Nat)<=(Int.toNat ae.at_))/\((InR (aa+1))/\(N2 (Z9S e t ab (aa+1) (List.set d (Int.toNat ae.at_) af))))))):
  A43 N [1,1,1,1,0,1,0,0,1,1,0,0,1,1,1,0,0,0] (Z9R e t ab aa d) (xT N3 (xB 6 (S43 N [1,1,1,1,0,1,0,0,1,1,0,0,1,1,1,1] (xB 5 (S43 N [1,1,1,1,0,1,0,0,1,1,1] (xT N2 (xB 4 (S43 N [1,1,1,1,1] Q)))))))):=
 Eq.mpr V5 (h _ (Z3 _) _ rfl _ (Zg _) _ (Z3 _) _ (Z3 _))
def ZFV(N:Nat)(e:Edit)(t:Tree):Prop:=AW (Z1 (Zbf N)) Tryz.f43 ZzX [] (Zf (Zbz.can (e,t,())) []) (EQ Tryz.f43 (Z96 (e,t,())) [])
abbrev ZI1:Prop:=∀ (N:Nat) (e:Edit) (t:Tree) (_:Unit),Z9c (e,t,())->ZkQ (e,t,()) < N+1->ZFV N e t
def ZzW:Zb U:=lvk [([2,3,4],[2,3,4]),([2,3,4,18],[2,3,4]),([4,5],[4]),([2,3,4,6],[2,3,4,6]),([2,4,6,7],[2,4,6]),([4,6,7,26,27,28],[4,((.loc 6),[.any,.any,.own .tree])]),([4,6,7,26,27,28,29],[4,6]),([4,6,7,9,26,27,28],[4,6,9]),([4,6,7,9,10,26,27,28],[4,6,9]),([4,6,7,9,10,26,27,28,35],[4,6,9]),([4,6,7,9,10,26,27,28,35,36],[4,6,9]),([4,6,7,26,27,28,97],[4,6]),([4,6,7,9,10,26,27,28,35,44],[4,6,9]),([4,6,7,9,10,26,27,28,49],[4,6,9]),([4,6,7,9,10,26,27,28,49],[4,6,9]),([4,6,7,9,10,26,27,28,49],[4,6,9]),([4,6,7,9,10,26,27,28,54],[4,6,9]),([4,5],[4]),([4,6,7,9,10,26,27,28],[4,6,9]),([4,6,7,9,11,26,27,28],[4,6,9]),([4,6,7,12,13,26,27,28],[4,6,12]),([4,6,7,12,26,27,28,72],[4,6,12]),([4,5],[4]),([4,6,7,26,27,28,97],[4,6]),([4,6,7,9,11,26,27,28,80],[4,6,9]),([4,6,7,26,27,28,97],[4,6]),([4,6,7,9,11,26,27,28,89],[4,6,9]),([4,6,7,26,27,28,97],[4,6]),([4,5],[4]),([4,6,7,26,27,28],[4,((.loc 6),[.any,.any,.own .tree])]),([4,5],[4])]
def Z30(e:Edit)(t:Tree)(aa:Int)(x7 d:List Tree):LSt U:=(L2 [pL 4,pL 6,(7,.c (sU .tree x7 .unk)),(26,.c (sU .op e.ops .unk)),pI 27 (e.ops.length:Int),pI 28 aa] [(.loc 4,[ci 0,.nils,.nils]),(.loc 6,[ci t.kind,.nils,sU .tree d (.own (.l 6 2))])])
def Z4j(e:Edit)(t:Tree)(ae:Int)(ab d:List Tree)(aa:V U):LSt U:=(L2 [pL 4,pL 6,(7,.c (sU .tree ab .unk)),(26,.c (sU .op e.ops .unk)),pI 27 (e.ops.length:Int),pI 28 ae,(97,aa)] [(.loc 4,[ci 0,.nils,.nils]),(.loc 6,[ci t.kind,.nils,sU .tree d (.own (.l 6 2))])])
def Z9Q(e:Edit)(t:Tree)(ae:Int)(x7 ab:List Tree)(d:Int)(aa:V U):LSt U:=(L2 [pL 4,pL 6,(7,.c (sU .tree x7 .unk)),pL 9,pI 10 d,(26,.c (sU .op e.ops .unk)),pI 27 (e.ops.length:Int),pI 28 ae,(49,aa)] [(.loc 4,[ci 0,.nils,.nils]),(.loc 6,[ci t.kind,.nils,sU .tree ab (.own (.l 6 2))]),(.loc 9,(enc .op (e.ops.getD ae.toNat Op.nil)))])
abbrev A44(N:Nat)(p:List Nat):=AW (Z1 (Zbf N)) Tryz.f44 ZzW p
abbrev S44(N:Nat)(p:List Nat):=SW (Z1 (Zbf N)) Tryz.f44 ZzW p
theorem ZJ2(N:Nat)(e:Edit)(t:Tree)(Q:QT)(h:(iB (t.kind !=e.list) ((Q .ret (L2 [pL 4,pB 5 false] [(.loc 4,[ci 0,.nils,.nils])]))) ((Zk (A44 N [1,1,1,1,0,1,0,0]) (Z30 e t 0 t.kids []) (xB 0 (S44 N [1,1,1,1,1] Q)))))):
  A44 N [] (L2 [(0,.agg (enc .edit e)),(1,.agg (enc .tree t))] []) Q:=
 Eq.mpr V5 h
theorem Zya(N:Nat)(e:Edit)(t:Tree)(ab:Int)(x7 d:List Tree)(N0:NT)(Q:QT)(h:∀ aa,aa=(e.ops.getD ab.toNat Op.nil)->let z1:=xT N0 (xB 0 (S44 N [1,1,1,1,1] Q));let z0:=xB 1 (S44 N [1,1,1,1,0,1,0,0,1,1,1] z1);(iB (decide (ab < (e.ops.length:Int))) (((0:Int)<=ab/\ab < (e.ops.length:Int))/\(iB (aa.kind==2) (((d.length+aa.l.length)*56<=140737488355328)/\(A44 N [1,1,1,1,0,1,0,0,1,1,1] (Z4j e t ab x7 (d++aa.l) .junk) z1)) ((iB (aa.kind==1) ((A44 N [1,1,1,1,0,1,0,0,1,1,0,0,1,1,1] (Z9Q e t ab x7 d (aa.l.length:Int) .junk) z0)) ((iB (aa.kind==3) ((A44 N [1,1,1,1,0,1,0,0,1,1,0,0,1,1,1] (Z9Q e t ab x7 d 1 (.c (.bool (aa.kind==3)))) z0)) (A44 N [1,1,1,1,0,1,0,0,1,1,0,0,1,1,1] (Z9Q e t ab x7 d aa.n (.c (.bool (aa.kind==3)))) z0))))))) ((Q .ret (L2 [pL 4,pB 5 (((x7.length:Int):Int)==0)] [(.loc 4,[ci t.kind,.nils,sU .tree d (.own (.l 4 2))])]))))):
  A44 N [1,1,1,1,0,1,0,0] (Z30 e t ab x7 d) (xT N0 (xB 0 (S44 N [1,1,1,1,1] Q))):=
 Eq.mpr V5 (h _ rfl)
theorem Zyb(N:Nat)(e:Edit)(t:Tree)(ab:Int)(aa d:List Tree)(ae:V U)(N0:NT)(Q:QT)(h:(InR (ab+1))/\(N0 (Z30 e t (ab+1) aa d))):
  A44 N [1,1,1,1,0,1,0,0,1,1,1] (Z4j e t ab aa d ae) (xT N0 (xB 0 (S44 N [1,1,1,1,1] Q))):=
 Eq.mpr V5 h
theorem ZhD(N:Nat)(e:Edit)(t:Tree)(ae:Int)(x7 aa:List Tree)(d:Int)(ak:V U)(N0:NT)(Q:QT)(h:∀ ab,ab=(e.ops.getD ae.toNat Op.nil)->∀ am,am=(List.getD (List.take d.toNat x7) (Int.toNat 0) Tree.nil)->∀ ah,ah=am->∀ af,af=(ab.e)->∀ aj,aj=(eqX (Z4 ab.l) (Z4 (List.take d.toNat x7)))->∀ al,al=(ZcG af ah)->let z3:=List.drop d.toNat x7;let z2:=List.take d.toNat x7;let z1:=xT N0 (xB 0 (S44 N [1,1,1,1,1] Q));let z0:=(Q .ret (L2 [pL 4,pB 5 false] [(.loc 4,[ci 0,.nils,.nils])]));(iB (decide (((x7.length:Int):Int) < d)) z0 ((((0:Int)<=d/\d<=(x7.length:Int))/\((0:Int)<=d/\d<=(x7.length:Int))/\(iB (ab.kind==0) (((aa.length+z2.length)*56<=140737488355328)/\(A44 N [1,1,1,1,0,1,0,0,1,1,1] (Z4j e t ae z3 (aa++z2) .junk) z1)) ((iB (ab.kind==1) ((Zkt (ab.l,z2,(),()))/\(iB (!aj) z0 (A44 N [1,1,1,1,0,1,0,0,1,1,1] (Z4j e t ae z3 aa (.c (.bool (!aj)))) z1))) (((0:Int)<=0/\0 < (z2.length:Int))/\(Z40 (af,ah,()))/\(ZfH (af,ah,()) < N)/\(iB (!((doE false af ah).isSome)) z0 (((aa.length+([al]).length)*56<=140737488355328)/\(A44 N [1,1,1,1,0,1,0,0,1,1,1] (Z4j e t ae z3 (aa++([al])) .junk) z1))))))))))):
  A44 N [1,1,1,1,0,1,0,0,1,1,0,0,1,1,1] (Z9Q e t ae x7 aa d ak) (xB 1 (S44 N [1,1,1,1,0,1,0,0,1,1,1] (xT N0 (xB 0 (S44 N [1,1,1,1,1] Q))))):=
 Eq.mpr V5 (h _ rfl _ rfl _ (Z3 _) _ (Zg _) _ rfl _ (Z3 _))
def ZFU(N:Nat)(e:Edit)(t:Tree):Prop:=AW (Z1 (Zbf N)) Tryz.f44 ZzW [] (Zf (Zbz.can (e,t,())) []) (EQ Tryz.f44 (Z95 (e,t,())) [])
abbrev ZI0:Prop:=∀ (N:Nat) (e:Edit) (t:Tree) (_:Unit),Z9b (e,t,())->ZkQ (e,t,()) < N+1->ZFU N e t
theorem Zzc(c38:CT 38 Yw)(c63:CT 63 Z1b)(c64:CT 64 Z1a)(c72:CT 72 Zaz)(c70:CT 70 ZaA)(c71:CT 71 Z0P)(Zhp:CT 42 Z1f)(b23:ZI8)(b43:ZI1)(b44:ZI0):
  CT 23 ZaB/\CT 43 Ztc/\CT 44 Ztb:=by
 have ae:FK 23:=⟨Tryz.f23,Tryz.func23,rfl,rfl⟩
 have aa:FK 43:=⟨Tryz.f43,Tryz.func43,rfl,rfl⟩
 have d:FK 44:=⟨Tryz.f44,Tryz.func44,rfl,rfl⟩
 have ab:∀ N,CT 23 (fs Zbz (fun a=> [Z40 a,ZfH a < N]) Z5S)/\CT 43 (fs Zbz (fun a=> [Z9c a,ZkQ a < N]) Z96)/\CT 44 (fs Zbz (fun a=> [Z9b a,ZkQ a < N]) Z95):=by
  intro N
  induction N with
  | zero=> exact ⟨Jz ae,Jz aa,Jz d⟩
  | succ N ih=>
   have kn:=Z0w (l:=Zbf N) ⟨ih.1,ih.2.1,ih.2.2,c38,c63,c64,c72,c70,c71,Zhp,trivial⟩
   exact ⟨Zw (Γ:=Z1 (Zbf N)) Zd rfl kn ZEd Tryz.func23 rfl rfl (fun a=> by show 2<=_;decide) (fun ⟨e,t,_⟩ h=> b23 N e t () h.1 h.2.1),
    Zw (Γ:=Z1 (Zbf N)) Zd rfl kn ZzX Tryz.func43 rfl rfl (fun a=> by show 2<=_;decide) (fun ⟨e,t,_⟩ h=> b43 N e t () h.1 h.2.1),
    Zw (Γ:=Z1 (Zbf N)) Zd rfl kn ZzW Tryz.func44 rfl rfl (fun a=> by show 2<=_;decide) (fun ⟨e,t,_⟩ h=> b44 N e t () h.1 h.2.1)⟩
 exact ⟨JA ae fun N=> (ab N).1,JA aa fun N=> (ab N).2.1,JA d fun N=> (ab N).2.2⟩
end
noncomputable section
def Zp8(a:Edit × Tree × Unit):V U:= .tup [(true,(enc .tree (Z3q ((doE false a.1 a.2.1).map Z0)))),(false,[.bool ((doE false a.1 a.2.1).isSome)])]
def Z04:Fs U:=fs Zbz (fun a=> [Z40 a]) Zp8
def Zwd:List (FuncId × Fs U):=[(22,ZdZ),(23,ZaB)]
def ZEk:Zb U:=lvl [([2,3,4],[2,3,4]),([4,6,7],[4,6]),([4,6,15],[4,6]),([4,5],[4]),([4,5],[4])]
abbrev A10(p:List Nat):=AW (Z1 Zwd) Tryz.f10 ZEk p
theorem ZJv(e:Edit)(t:Tree)(Q:QT)(h:∀ aa,aa=e->∀ d,d=t->∀ ab,ab=(ZcG aa d)->((Z40 (aa,d,()))/\(iB (!((doE false aa d).isSome)) ((Q .ret (L2 [pL 4,pB 5 false] [(.loc 4,[ci 0,.nils,.nils])]))) ((Zc1 (ab,()))/\(Q .ret (L2 [pL 4,pB 5 true] [(.loc 4,(enc .tree (Z0 ab)))])))))):
  A10 [] (L2 [(0,.agg (enc .edit e)),(1,.agg (enc .tree t))] []) Q:=
 Eq.mpr V5 (h _ (Zg _) _ (Z3 _) _ (Z3 _))
def ZGn(e:Edit)(t:Tree):Prop:=AW (Z1 Zwd) Tryz.f10 ZEk [] (Zf (Zbz.can (e,t,())) []) (EQ Tryz.f10 (Zp8 (e,t,())) [])
theorem ZDE(c22:CT 22 ZdZ)(c23:CT 23 ZaB)(hb:∀ (e:Edit) (t:Tree) (_:Unit),Z40 (e,t,())->ZGn e t):CT 10 Z04:=
 Z2 (l:=[(22,ZdZ),(23,ZaB)]) Zd rfl (⟨c22,c23,trivial⟩) ZEk Tryz.func10 rfl rfl 2 (fun _=> rfl) V2 (fun ⟨e,t,_⟩=> hb e t ())
end
theorem Zhp:Contract Tryz.prog cfg 42 Z1f:=by
 refine Zv2 ?_
 intro l _ d
 simp only [Zkz] at d
 refine ZCn _ _ ⟨fun h=> ?_,fun _=> ⟨by simp only [Qr];omega,?_⟩⟩
 .subst h
  simp only [Z94]
  exact V1
 .simp only [Z94]
  exact V1
theorem c70:Contract Tryz.prog cfg 70 ZaA:=by
 refine ZD5 ?_
 intro l _ d
 simp only [Zku] at d
 refine ZIF _ _ ⟨fun h=> ?_,fun _=> ⟨by simp only [Qr];omega,?_⟩⟩
 .subst h
  simp only [Zi7]
  exact V1
 .simp only [Zi7]
  exact V1
theorem Zgb{α:Type}(z:α){l:List α}{i:Nat}(h:i < l.length)(x:α):ZH z l i x=l.set i x:=by
 simp only [ZH];rw [show i+1 - l.length=0 by omega];simp
theorem ZbJ{α:Type}(z:α){l:List α}{i:Nat}(h:l.length<=i)(x:α):ZH z (l++[z]) i x=ZH z l i x:=by
 simp only [ZH,Q8,QG,Qb]
 rw [show i+1 - l.length=(i+1 - (l.length+1))+1 by omega,XZ]
 try rfl
theorem ZuY(t:Tree):t.words.length+Z6 t.kids+1=mass t:=by obtain ⟨k,w,ks⟩:=t;simp only [mass,Tree.words_mk,Tree.kids_mk];omega
theorem ZhZ{t:Tree}(h:rng t):InR t.kind/\(∀ x∈t.words,isW x)/\Yd t.kids:=by obtain ⟨k,w,ks⟩:=t;exact h
theorem ZhX{ks:List Tree}(h:Yd ks)(i:Nat):rng (ks.getD i Tree.nil):=by
 by_cases hi:i < ks.length
 .exact J2 h (Zi hi _)
 .rw [Q6,Qu V0]
  trivial
theorem ZkT(ks:List Tree)(i:Nat):mass (ks.getD i Tree.nil)<=Z6 ks+1:=by
 by_cases hi:i < ks.length
 .have:=Y3 (Zi hi Tree.nil);omega
 .rw [Q6,Qu V0]
  simp [Tree.nil,mass,Z6]
theorem Z1L(t:Tree){i:Int}(h:0<=i):Zr t i=t.kids.getD i.toNat Tree.nil:=by unfold Zr;grind
theorem Z2G(t:Tree){i:Int}(h:0<=i):Zm t i=t.words.getD i.toNat 0:=by unfold Zm;omega
theorem ZxK{l:List Int}(h:∀ x∈l,isW x)(i:Nat):isW (l.getD i 0):=by
 by_cases hi:i < l.length
 .grind
 .rw [Q6,Qu V0];trivial
theorem b23:ZI8:=by
 intro N e t _ hp hN
 simp only [Z40,ZfH] at hp hN
 obtain ⟨⟨p1,p2,d,p3⟩,p4,p5⟩:=hp
 have h1:=Z14 e
 have h2:=Zi0 p2
 have hd:=JK false e t
 rw [ZR] at hd
 refine ZJj _ _ _ _ ?_
 rintro y1 ak y2 am y3 al
 subst ak am al
 (simp only [iB,vcT,vcS])
 refine ⟨fun hk=> ?_,fun hk=> ⟨fun aa=> ⟨by simp only [Z2M];omega,?_⟩,fun aa=> ⟨fun ab=> ⟨by simp only [Z9c];grind,by simp only [ZkQ];omega,?_⟩,fun ab=> ⟨fun ae=> ⟨by simp only [Z9b];grind,by simp only [ZkQ];omega,?_⟩,fun ae=> ?_⟩⟩⟩⟩
 .rw [if_pos hk] at hd
  simp only [Z5S,ZcG,if_pos hk,hd]
  exact V1
 .rw [if_neg hk,if_pos aa] at hd
  simp only [Z5S,ZcG,if_neg hk,if_pos aa,hd]
  cases ZU (Z0 y1.old) (Z0 y2) <;> (repeat' (first | exact trivial | exact rfl | apply And.intro))
 .rw [if_neg hk,if_neg aa,if_pos ab] at hd
  simp only [Z5S,ZcG,if_neg hk,if_neg aa,if_pos ab,hd]
  exact V1
 .rw [if_neg hk,if_neg aa,if_neg ab,if_pos ae] at hd
  simp only [Z5S,ZcG,if_neg hk,if_neg aa,if_neg ab,if_pos ae,hd]
  have e2:(if y2.kind=y1.list then (Z28 (Zy false y1.ops y2.kids [])).map fun b=> Tree.mk y1.list [] b else none).isSome=(Z28 (Z7h false y1 y2)).isSome:=by
   unfold Z7h
   split
   .grind
   .try rfl
  rw [e2]
  exact V1
 .rw [if_neg hk,if_neg aa,if_neg ab,if_neg ae] at hd
  simp only [Z5S,ZcG,if_neg hk,if_neg aa,if_neg ab,if_neg ae,hd]
  exact V1
theorem b43:ZI1:=by
 intro N e t _ hp hN
 simp only [Z9c,ZkQ] at hp hN
 obtain ⟨k2,⟨p1,p2,d,p3⟩,p4,p5⟩:=hp
 have h1:=Z14 e
 have h2:=JT e.kids
 have h3:=ZuY t
 have h4:=Y4 t.kids
 have r2:=Zi0 p2
 have rt:=ZhZ p5
 have ri:=Zq p3
 refine ZJ3 _ _ _ _ ?_
 (simp only [iB,vcT,vcS])
 have no:ZcE false e t=none->JZ cfg Tryz.f43.ntmps Tryz.f43.results.toList (Z96 (e,t,())) [] .ret (⟨[(4,.ptr (.loc 4) 0),(5,.c (.bool false))],[((.loc 4),[.int .i64 0,.nils,.nils])],[]⟩:LSt U):=by
  intro hs
  simp only [Z96,hs]
  exact V1
 refine ⟨fun hk=> no (by unfold ZcE;rw [if_neg hk]),fun hk=> ?_⟩
 have hk:t.kind=1:=by simpa using hk
 refine ⟨by simp only [Zkz];omega,by simp only [Zku];omega,?_⟩
 refine Z8 (ι:=Int × List Int) (fun s=> Z9U e t s.1 s.2) (fun s=> 0<=s.1/\s.1<=e.words.length/\wsD t.words (e.words.drop s.1.toNat) s.2=wsD t.words e.words t.words/\s.2.length<=t.words.length+65536) (fun s=> ((e.words.length:Int) - s.1).toNat) (0,t.words) rfl ⟨by simp,by simp,by simp,by simp⟩ ?_
 rintro ⟨i,out⟩ ⟨f1,f2,f3,f4⟩
 dsimp only at f1 f2 f3 f4
 refine Zyf _ _ _ _ _ _ _ ?_
 rintro y1 ao y2 af
 subst ao
 (simp only [iB,vcT,vcS])
 refine ⟨fun hi=> ?_,fun hi=> ?_⟩
 .have aa:=Zi (l:=e.words) (i:=i.toNat) V0 (WEdit.mk 0 0 0 0)
  rw [Jj f1 hi (WEdit.mk 0 0 0 0),<-af] at f3
  rw [<-af] at aa
  have hw:=Jc ri.words y2 aa
  obtain ⟨g1,g2,g3,g4⟩:=r2.2.2.2.1 y2 aa
  have aj:Zm y1 y2.at_=y1.words.getD y2.at_.toNat 0:=Z2G y1 V0
  have a8:=ZxK rt.2.1 y2.at_.toNat
  rw [wsD] at f3
  rw [aj]
  unfold isW at g3 g4 a8
  refine ⟨⟨f1,hi⟩,by simp only [Z5W],by simp only [JE];omega,fun ah=> no ?_,fun ai=> ?_⟩
  .rw [if_neg ah] at f3
   unfold ZcE
   rw [if_pos hk,<-f3]
   try rfl
  .have ai:mix 0 (y1.words.getD y2.at_.toNat 0) y2.mask=y2.old:=by simpa using ai
   rw [if_pos ai] at f3
   refine Z8 (ι:=List Int) (fun s=> Z9T e y1 i s) (fun s=> (∀ v,ZH 0 s y2.at_.toNat v=ZH 0 out y2.at_.toNat v)/\s.length<=y1.words.length+65536) (fun s=> (y2.at_+1 - s.length).toNat) out rfl ⟨fun v=> rfl,f4⟩ ?_
   rintro s ⟨q1,q2⟩
   refine Zye _ _ _ _ _ _ _ _ ?_
   (simp only [vE])
   rw [<-af,aj]
   (simp only [iB,vcT,vcS])
   refine ⟨fun hl=> ⟨by simp;omega,s++[0],rfl,⟨fun v=> ?_,by simp;omega⟩,by simp;omega⟩,fun hl=> ?_⟩
   .rw [ZbJ 0 V0,q1]
   .have hl:y2.at_ < s.length:=V0
    refine ⟨by simp only [JE];omega,V0,V0,V4,(i+1,s.set y2.at_.toNat (mix (y1.words.getD y2.at_.toNat 0) y2.new y2.mask)),rfl,⟨V3,V3,?_,by simp only [List.length_set];omega⟩,V3⟩
    dsimp only
    rw [<-f3,<-Zgb 0 V0,q1]
 .rw [Qe V0,wsD] at f3
  refine Z8 (ι:=Int × List Tree) (fun s=> Z9S e y1 out s.1 s.2) (fun s=> 0<=s.1/\s.1<=e.kids.length/\Jx false y1.kids (e.kids.drop s.1.toNat) s.2=Jx false y1.kids e.kids y1.kids/\s.2.length<=y1.kids.length+65536) (fun s=> ((e.kids.length:Int) - s.1).toNat) (0,y1.kids) rfl ⟨by simp,by simp,by simp,by simp⟩ ?_
  rintro ⟨j,ks⟩ ⟨e1,e2,e3,e4⟩
  dsimp only at e1 e2 e3 e4
  refine Zyd _ _ _ _ _ _ _ _ ?_
  rintro y1 ao y2 af y3 ar y4 am
  subst ao
  (simp only [iB,vcT,vcS])
  refine ⟨fun hj=> ?_,fun hj=> ?_⟩
  .have aa:=Zi (l:=e.kids) (i:=j.toNat) V0 (KidOf.mk 0 Edit.nil)
   rw [Jj e1 hj (KidOf.mk 0 Edit.nil),<-af] at e3
   rw [<-af] at aa
   have az:=Ya ri.kids y2 aa
   have hm:=Z2U aa
   have be:=ZlA aa
   have bz:=Z5d e
   have hr:=(Z0u r2.2.2.2.2.2.1 aa).2
   have aj:Zr y1 y2.at_=y1.kids.getD y2.at_.toNat Tree.nil:=Z1L y1 V0
   rw [aj] at am
   have a7:=ZkT y1.kids y2.at_.toNat
   have ay:=ZhX rt.2.2 y2.at_.toNat
   rw [Jx,Z4u,<-am,<-ar] at e3
   rw [<-am] at a7 ay
   rw [<-ar] at hm hr az be
   refine ⟨⟨e1,hj⟩,by simp only [Z5W],by simp only [Z40];exact ⟨⟨V0,hr,_,az.2⟩,V0,ay⟩,by simp only [ZfH];omega,fun ah=> no ?_,fun ai=> ?_⟩
   .have ah:doE false y3 y4=none:=by simpa using ah
    rw [ah] at e3
    unfold ZcE
    rw [if_pos hk,<-f3,<-e3]
    try rfl
   .obtain ⟨u,hu⟩:=QY.1 ai
    rw [hu,Qo] at e3
    refine Z8 (ι:=List Tree) (fun s=> Z9R e y1 out j s) (fun s=> (∀ v,ZH Tree.nil s y2.at_.toNat v=ZH Tree.nil ks y2.at_.toNat v)/\s.length<=y1.kids.length+65536) (fun s=> (y2.at_+1 - s.length).toNat) ks rfl ⟨fun v=> rfl,e4⟩ ?_
    rintro s ⟨q1,q2⟩
    refine Zyc _ _ _ _ _ _ _ _ _ ?_
    rintro z1 bd z2 aw z3 a1 z4 ax z5 av
    rw [<-af] at aw
    subst bd aw
    rw [<-ar] at a1
    subst a1
    rw [aj,<-am] at ax
    subst ax
    rw [ZaW hu] at av
    subst av
    (simp only [iB,vcT,vcS])
    refine ⟨fun hl=> ⟨by simp;omega,s++[Tree.nil],rfl,⟨fun v=> ?_,by simp;omega⟩,by simp;omega⟩,fun hl=> ?_⟩
    .rw [ZbJ Tree.nil V0,q1]
    .have hl:z2.at_ < s.length:=V0
     refine ⟨V0,V0,V4,(j+1,s.set z2.at_.toNat z5),rfl,⟨V3,V3,?_,by simp only [List.length_set];omega⟩,V3⟩
     dsimp only
     rw [<-e3,<-Zgb Tree.nil V0,q1]
  .rw [Qe V0,Jx] at e3
   have hs:ZcE false e y1=some (.mk 1 out ks):=by
    unfold ZcE
    rw [if_pos hk,<-f3,<-e3]
    try rfl
   simp only [Z96,hs]
   exact V1
theorem Zs4(r:Bool)(o:Op)(s:List Op)(rest out:List Tree):Zy r (o ::s) rest out=(Z2g r o rest out).bind fun x=> Zy r s x.2 x.1:=by rw [Zy]
theorem Jb{ks:List Tree}(h:Yd ks)(n:Nat):Yd (ks.drop n):=by
 induction n generalizing ks with
 | zero=> exact h
 | succ n ih=> cases ks with
  | nil=> exact h
  | cons a r=> exact ih h.2
theorem b44:ZI0:=by
 intro N e t _ hp hN
 simp only [Z9b,ZkQ] at hp hN
 obtain ⟨k3,⟨p1,p2,d,p3⟩,p4,p5⟩:=hp
 have h1:=Z14 e
 have h2:=YO e.ops
 have h3:=ZuY t
 have h4:=Y4 t.kids
 have r2:=Zi0 p2
 have rt:=ZhZ p5
 have ri:=Zq p3
 refine ZJ2 _ _ _ _ ?_
 (simp only [iB,vcT,vcS])
 have no:Z7h false e t=none->JZ cfg Tryz.f44.ntmps Tryz.f44.results.toList (Z95 (e,t,())) [] .ret (⟨[(4,.ptr (.loc 4) 0),(5,.c (.bool false))],[((.loc 4),[.int .i64 0,.nils,.nils])],[]⟩:LSt U):=by
  intro hs
  simp only [Z95,hs]
  exact V1
 refine ⟨fun hk=> no (by unfold Z7h;rw [if_neg hk]),fun hk=> ?_⟩
 have hk:t.kind=e.list:=by simpa using hk
 have bl:Z7h false e t=Zy false e.ops t.kids []:=by unfold Z7h;rw [if_pos hk]
 refine Z8 (ι:=Int × List Tree × List Tree) (fun s=> Z30 e t s.1 s.2.2 s.2.1)
  (fun s=> 0<=s.1/\s.1<=e.ops.length/\Zy false (e.ops.drop s.1.toNat) s.2.2 s.2.1=Z7h false e t/\s.2.1.length+s.2.2.length+Ze (e.ops.drop s.1.toNat)<=t.kids.length+Ze e.ops/\Z6 s.2.2<=Z6 t.kids/\Yd s.2.2)
  (fun s=> ((e.ops.length:Int) - s.1).toNat) (0,[],t.kids) rfl ⟨by simp,by simp,by simp [bl],by simp,by simp,rt.2.2⟩ ?_
 rintro ⟨i,out,aa⟩ ⟨f1,f2,f3,f4,f5,f6⟩
 dsimp only at f1 f2 f3 f4 f5 f6
 refine Zya _ _ _ _ _ _ _ _ ?_
 rintro y1 ak
 (simp only [iB,vcT,vcS])
 refine ⟨fun hi=> ?_,fun hi=> ?_⟩
 .have ae:=Zi (l:=e.ops) (i:=i.toNat) V0 Op.nil
  rw [Jj f1 hi Op.nil,<-ak] at f3 f4
  rw [<-ak] at ae
  have hr:=Go.AM.rightOs_mem ri.ops y1 ae
  have hm:=Z0m ae
  have bn:=Zfm ae
  have b7:=Z5d e
  have bi:=YQ y1
  have bb:=Z1T (Z3X r2.2.2.2.2.2.2 ae)
  have bz:=Y4 y1.l
  simp only [Ze] at f4
  rw [Zs4,Ym] at f3
  have go:∀ (x:List Tree) (m:List Tree) (v:V U) N0 Q',Zy false (e.ops.drop (i+1).toNat) x m=Z7h false e t->m.length+x.length+Ze (e.ops.drop (i+1).toNat)<=t.kids.length+Ze e.ops->Z6 x<=Z6 t.kids->Yd x->
    (∀ s2,s2=Z30 e t (i+1) x m->N0 s2)->A44 N [1,1,1,1,0,1,0,0,1,1,1] (Z4j e t i x m v) (AExit.then N0 (AExit.inBlock 0 (S44 N [1,1,1,1,1] Q'))):=by
   intro x m v N0 Q' a1 a2 a3 a4 a5
   exact Zyb _ _ _ _ _ _ _ _ _ ⟨V4,a5 _ rfl⟩
  have am:∀ (x m:List Tree),Zy false (e.ops.drop (i+1).toNat) x m=Z7h false e t->m.length+x.length+Ze (e.ops.drop (i+1).toNat)<=t.kids.length+Ze e.ops->Z6 x<=Z6 t.kids->Yd x->∀ s2,s2=Z30 e t (i+1) x m->
    ∃ j:Int × List Tree × List Tree,s2=Z30 e t j.1 j.2.2 j.2.1/\(0<=j.1/\j.1<=e.ops.length/\Zy false (e.ops.drop j.1.toNat) j.2.2 j.2.1=Z7h false e t/\j.2.1.length+j.2.2.length+Ze (e.ops.drop j.1.toNat)<=t.kids.length+Ze e.ops/\Z6 j.2.2<=Z6 t.kids/\Yd j.2.2)/\((e.ops.length:Int) - j.1).toNat < ((e.ops.length:Int) - i).toNat:=by
   rintro x m a1 a2 a3 a4 _ rfl
   exact ⟨(i+1,m,x),rfl,⟨V3,V3,a1,a2,a3,a4⟩,V3⟩
  have r1:=Y9 hr
  have ht:∀ n:Nat,(aa.take n).length<=aa.length/\(aa.take n).length+(aa.drop n).length=aa.length:=by
   intro n
   simp only [Qq,Qx];omega
  refine ⟨⟨f1,hi⟩,fun al=> ⟨V0,?_⟩,fun al=> ⟨fun ah=> ?_,fun ah=> ⟨fun aq=> ?_,fun aq=> ?_⟩⟩⟩
  .rw [Yo,Yo,if_pos al,Qo] at f3
   exact go _ _ _ _ _ f3 (by simp only [Q8];omega) f5 f6 (am _ _ f3 (by simp only [Q8];omega) f5 f6)
  .refine ZhD _ _ _ _ _ _ _ _ _ _ ?_
   rintro z1 af z2 au z3 ax z4 ao z5 aj z6 ar
   rw [<-ak] at af
   subst af
   rw [Yo,if_pos ah] at f3
   (simp only [iB,vcT,vcS])
   rw [QU] at aj
   rw [QU]
   refine ⟨fun hs=> no ?_,fun hs=> ⟨V0,V0,fun h=> by omega,fun _=> ⟨fun _=> ⟨?_,fun hq=> no ?_,fun hq=> ?_⟩,fun h=> absurd ah h⟩⟩⟩
   .have:JP z1.l aa=false:=by unfold JP;rw [decide_eq_false V0];try rfl
    rw [this,if_neg (by simp)] at f3
    exact f3.symm
   .have:=Z4Z z1.l.length aa
    simp only [Zkt];omega
   .have:JP z1.l aa=false:=by unfold JP;rw [<-aj,hq];simp
    rw [this,if_neg (by simp)] at f3
    exact f3.symm
   .have:JP z1.l aa=true:=by unfold JP;rw [<-aj,hq,decide_eq_true V0];try rfl
    rw [this,if_pos rfl,Qo] at f3
    have hd:=J4 z1.l.length aa
    have a8:=ht z1.l.length
    exact go _ _ _ _ _ f3 V0 V0 (Jb f6 _) (am _ _ f3 V0 V0 (Jb f6 _))
  .refine ZhD _ _ _ _ _ _ _ _ _ _ ?_
   rintro z1 af z2 au z3 ax z4 ao z5 aj z6 ar
   rw [<-ak] at af
   subst af
   rw [Yo,if_neg ah,if_neg al] at f3
   (simp only [iB,vcT,vcS])
   rw [show Int.toNat 1=1 from rfl]
   refine ⟨fun hs=> no ?_,fun hs=> ⟨V0,V0,fun h=> by omega,fun _=> ⟨fun h=> absurd h ah,fun _=> ?_⟩⟩⟩
   .rw [Yz] at f3
    exact f3.symm
   .have hz:z3=aa.getD 0 Tree.nil:=by
     rw [ax,au]
     cases aa with
     | nil=> rfl
     | cons a r=> rfl
    rw [Yo,<-hz,<-ao] at f3
    have bj:=ZkT aa 0
    have ba:=ZhX f6 0
    rw [<-hz] at bj ba
    have bc:=JR hr aq
    rw [<-ao] at bc bi bb bn
    refine ⟨?_,by simp only [Z40];exact ⟨⟨V0,bb.2.2.2,_,bc⟩,V0,ba⟩,by simp only [ZfH];omega,fun av=> no ?_,fun bm=> ?_⟩
    .simp only [Qq];omega
    .have av:doE false z4 z3=none:=by simpa using av
     rw [av] at f3
     exact f3.symm
    .obtain ⟨u,hu⟩:=QY.1 bm
     rw [ZaW hu] at ar
     subst ar
     rw [hu,Qi,Qo] at f3
     have hd:=J4 1 aa
     have a8:=ht 1
     have b1:(aa.take 1).length=1:=by simp only [Qq];omega
     refine ⟨by simp only [QG];omega,?_⟩
     exact go _ _ _ _ _ f3 (by simp only [Q8,QG];omega) V0 (Jb f6 _) (am _ _ f3 (by simp only [Q8,QG];omega) V0 (Jb f6 _))
  .have ay:y1.kind=0:=by cases r1 <;> first | rfl | (exfalso;simp at ah al aq)
   refine ZhD _ _ _ _ _ _ _ _ _ _ ?_
   rintro z1 af z2 au z3 ax z4 ao z5 aj z6 ar
   rw [<-ak] at af
   subst af
   rw [if_pos ay] at f3
   have hn:1<=z1.n/\z1.n<=1048576:=by cases r1 <;> first | (constructor <;> assumption) | (exfalso;simp at ah al aq ay)
   (simp only [iB,vcT,vcS])
   refine ⟨fun hs=> no ?_,fun hs=> ⟨V0,V0,fun _=> ⟨?_,?_⟩,fun h=> absurd ay h⟩⟩
   .rw [Yo] at f3
    exact f3.symm
   .have:=(ht z1.n.toNat).1
    omega
   .rw [Yz,Qo] at f3
    have hd:=J4 z1.n.toNat aa
    have a8:=ht z1.n.toNat
    exact go _ _ _ _ _ f3 (by simp only [Q8];omega) V0 (Jb f6 _) (am _ _ f3 (by simp only [Q8];omega) V0 (Jb f6 _))
 .rw [Qe V0,Zy] at f3
  simp only [Z95,<-f3,Zvo,Z28,Qo,hk]
  by_cases hr:aa.length=0
  .rw [if_pos hr,hr]
   exact V1
  .rw [if_neg hr,show ((aa.length:Int)==0)=false by rw [beq_eq_false_iff_ne];omega]
   exact V1
theorem ZJA:Contract Tryz.prog cfg 23 ZaB/\Contract Tryz.prog cfg 43 Ztc/\Contract Tryz.prog cfg 44 Ztb:=Zzc c38 c63 c64 c72 c70 c71 Zhp b23 b43 b44
theorem c23:Contract Tryz.prog cfg 23 ZaB:=ZJA.1
theorem ZrJ(l:List WEdit):(l.map YZ).map YZ=l:=by
 rw [List.map_map]
 have:YZ ∘ YZ=id:=rfl
 simp_all
theorem Zdm:∀ (ks:List Kid),(Yh ks).length=ks.length
 | []=> rfl
 | k ::r=> by simp only [Yh,Qd,Zdm r]
theorem Z1K(t:Tree):(Z0 t).kind=t.kind:=by
 obtain ⟨k,w,ks⟩:=t
 simp only [Z0]
 by_cases h0:k=0
 .rw [if_pos h0,h0];try rfl
 .rw [if_neg h0]
  by_cases h1:k=1
  .rw [if_pos h1,h1];try rfl
  .rw [if_neg h1];try rfl
theorem Zdo:∀ (l:List Int),∃ r,l=trim l++r
 | []=> ⟨[],rfl⟩
 | x ::r=> by
  obtain ⟨s,d⟩:=Zdo r
  simp only [trim]
  split
  .rename_i e
   split
   .exact ⟨x ::r,rfl⟩
   .exact ⟨r,rfl⟩
  .rename_i y t e
   rw [e] at d
   exact ⟨s,by rw [d];rfl⟩
theorem Zau:∀ (l:List Tree),∃ r,l=Yp l++r
 | []=> ⟨[],rfl⟩
 | x ::r=> by
  obtain ⟨s,d⟩:=Zau r
  simp only [Yp]
  split
  .rename_i e
   split
   .exact ⟨x ::r,rfl⟩
   .exact ⟨r,rfl⟩
  .rename_i y t e
   rw [e] at d
   exact ⟨s,by rw [d];rfl⟩
theorem Zef{list d:Int}:∀ (a b:List Tree),Ys list (a++b) d=true->Ys list a d=true
 | [],_,_=> rfl
 | t ::r,b,h=> by
  simp only [Qp,Ys,Q2] at h ⊢
  exact ⟨h.1,Zef r b h.2⟩
theorem Z2q:∀ (l:List Tree),(Yr l).length=l.length
 | []=> rfl
 | t ::r=> by simp only [Yr,Qd,Z2q r]
theorem ZrR{list:Int}{t:Tree}(h:Z1m list t=true):Z1m list (Z0 t)=true:=by
 unfold Z1m at h ⊢
 rw [Z1K]
 split at h
 .rename_i hl
  rw [if_pos hl]
  simp only [Q2,decide_eq_true_eq] at h ⊢
  obtain ⟨⟨h1,d,h3⟩,h4⟩:=h
  obtain ⟨k,w,ks⟩:=t
  simp only [Tree.kind_mk,Tree.kids_mk,Tree.words_mk] at h1 d h3 h4
  have:ks=[]:=Xj.1 d
  subst this
  subst h1
  trivial
 grind
mutual
theorem Z20:∀ (t:Tree) (d:Int),Zh t d=true->Zh (Z0 t) d=true
 | .mk k w ks,d,h=> by
  have ih:=fun (list:Int) (h:Ys list ks (d - 1)=true)=> Z5P ks list (d - 1) h
  simp only [Zh] at h
  simp only [Z0]
  by_cases h0:k=0
  .rw [if_pos h0];try rfl
  .rw [if_neg h0] at h ⊢
   by_cases h10:k=10
   .subst h10
    rw [if_pos rfl] at h
    rw [if_neg V2]
    simp only [decide_eq_true_eq] at h
    simp only [Zh]
    rw [if_neg V2,if_pos trivial,Z2q]
    simpa using h
   .rw [if_neg h10] at h
    by_cases hd:d=0
    .grind
    .rw [if_neg hd] at h
     by_cases h1:k=1
     .subst h1
      rw [if_pos rfl] at h
      rw [if_pos rfl]
      simp only [Q2,decide_eq_true_eq] at h
      simp only [Zh]
      rw [if_neg V2,if_neg V2,if_neg hd,if_pos trivial]
      simp only [Q2,decide_eq_true_eq]
      obtain ⟨r1,e1⟩:=Zdo w
      obtain ⟨r2,e2⟩:=Zau (Yr ks)
      have l1:=congrArg List.length e1
      have l2:=congrArg List.length e2
      rw [Z2q] at l2
      simp only [Q8] at l1 l2
      refine ⟨⟨V0,V0⟩,?_⟩
      have:=ih 1 h.2
      rw [e2] at this
      exact Zef _ _ this
     .rw [if_neg h1] at h ⊢
      simp only [Q2,decide_eq_true_eq] at h
      simp only [Zh]
      rw [if_neg h0,if_neg h10,if_neg hd,if_neg h1,Z2q]
      grind
theorem Z5P:∀ (l:List Tree) (list d:Int),Ys list l d=true->Ys list (Yr l) d=true
 | [],_,_,_=> rfl
 | t ::r,list,d,h=> by
  simp only [Ys,Q2] at h
  have h1:=Z20 t d h.1.2
  have h2:=Z5P r list d h.2
  simp only [Yr,Ys,Q2]
  exact ⟨⟨ZrR h.1.1,h1⟩,h2⟩
end
theorem Z1z(e:Edit):(Zp e).kind=e.kind:=by cases e;rfl
theorem Zg0(e:Edit):(Zp e).old=e.new:=by cases e;rfl
theorem Zg1(e:Edit):(Zp e).new=e.old:=by cases e;rfl
theorem Z4F:∀ (l:List WEdit) (last:Int),YA last (l.map YZ)=YA last l
 | [],_=> rfl
 | w ::r,last=> by
  simp only [X3,YA,Z4F r]
  have h1:(YZ w).at_=w.at_:=rfl
  have h2:(YZ w).mask=w.mask:=rfl
  have d:(YZ w).old=w.new:=rfl
  have h4:(YZ w).new=w.old:=rfl
  grind
theorem Zm0(o:Op):Z5 (Yg o)=Z5 o/\((Yg o).kind=2↔o.kind=1)/\((Yg o).kind=1↔o.kind=2):=by
 rw [Z00]
 by_cases h1:o.kind=1
 .rw [if_pos h1];simp [Z5,h1]
 .rw [if_neg h1]
  by_cases h2:o.kind=2
  .rw [if_pos h2];simp [Z5,h2]
  .rw [if_neg h2]
   by_cases h3:o.kind=3
   .rw [if_pos h3];simp [Z5,h3]
   simp_all
theorem Z9x:∀ (l:List Op) (n:Int),Z2s (Yn l) n=Z2r l n/\Z2r (Yn l) n=Z2s l n
 | [],_=> ⟨rfl,rfl⟩
 | o ::r,n=> by
  obtain ⟨d,h2,h3⟩:=Zm0 o
  simp only [Yn,Z2s,Z2r]
  rw [d]
  constructor
  .rw [(Z9x r _).1]
   grind
  .rw [(Z9x r _).2]
   grind
theorem Z7D:∀ (l:List Op),(Yn l).length=l.length
 | []=> rfl
 | o ::r=> by simp only [Yn,Qd,Z7D r]
theorem Zz2{list d:Int}{o:Op}(h:Za list o d=true)(hi:Z7 o.e d=true->Z7 (Zp o.e) d=true):Za list (Yg o) d=true:=by
 have h':=h
 rw [Z1E] at h
 by_cases k0:o.kind=0
 .have e:Yg o=o:=by rw [Z00,Yo,Yo,Yo]
  grind
 .rw [if_neg k0] at h
  split at h
  .cases h
  .rename_i hk
   by_cases k3:o.kind=3
   .rw [Yo] at h
    have e:Yg o=⟨o.kind,o.n,o.l,Zp o.e⟩:=by rw [Z00,Yo,Yo,if_pos k3]
    rw [e,Z1E]
    simp only
    rw [if_neg k0,if_neg hk,Yo,Z1z,Zg0,Zg1]
    grind
   .rw [Yz] at h
    have aa:o.kind=1\/o.kind=2:=V0
    rcases aa with k | k
    .have e:Yg o=⟨2,o.n,o.l,o.e⟩:=by rw [Z00,if_pos k]
     rw [e,Z1E]
     grind
    .have e:Yg o=⟨1,o.n,o.l,o.e⟩:=by rw [Z00,Yo,if_pos k]
     rw [e,Z1E]
     grind
mutual
theorem YF:∀ (e:Edit) (d:Int),Z7 e d=true->Z7 (Zp e) d=true
 | .mk k o n w ks l os,d,h=> by
  have h1:=Z4P ks
  have h2:=Z90 l os
  simp only [Z7] at h
  simp only [Zp,Z7]
  split at h
  .cases h
  .rename_i a
   rw [if_neg a]
   split at h
   .cases h
   .rename_i b
    rw [if_neg (by rw [QX,Zdm,Z7D];grind)]
    split at h
    .grind
    .rename_i c
     rw [if_neg c]
     simp only [Q2,decide_eq_true_eq] at h ⊢
     obtain ⟨⟨⟨⟨x1,x2⟩,x3⟩,x4⟩,x5⟩:=h
     refine ⟨⟨⟨⟨by rw [Z4F];exact x1,h1 _ _ x2⟩,x3⟩,h2 _ x4⟩,?_⟩
     rw [(Z9x os 0).1,(Z9x os 0).2]
     omega
theorem Z4P:∀ (ks:List (KidOf Edit)) (last d:Int),ZJ last ks d=true->ZJ last (Yh ks) d=true
 | [],_,_,_=> rfl
 | k ::r,last,d,h=> by
  simp only [ZJ,Q2] at h
  have h1:=ZfE k last d h.1
  have h2:=Z4P r k.at_ d h.2
  simp only [Yh,ZJ,Q2]
  exact ⟨h1,by rw [Zdn];exact h2⟩
theorem ZfE:∀ (k:KidOf Edit) (last d:Int),J3 last k d=true->J3 last (J6 k) d=true
 | ⟨a,e⟩,last,d,h=> by
  simp only [J3,Q2] at h
  have h1:=YF e d h.2
  simp only [J6,J3,Q2]
  rw [Z1z]
  grind
theorem Z90(list:Int):∀ (os:List (OpOf Edit)) (d:Int),ZO list os d=true->ZO list (Yn os) d=true
 | [],_,_=> rfl
 | o ::r,d,h=> by
  simp only [ZO,Q2] at h
  have h1:=Zi2 list o d h.1
  have h2:=Z90 list r d h.2
  simp only [Yn,ZO,Q2]
  grind
theorem Zi2(list:Int):∀ (o:OpOf Edit) (d:Int),Za list o d=true->Za list (Yg o) d=true
 | ⟨k,n,l,e⟩,d,h=> Zz2 (o:=⟨k,n,l,e⟩) h (fun he=> YF e d he)
end
theorem Z46:∀ (a b:List Tree),Z6 (a++b)=Z6 a+Z6 b
 | [],b=> by simp [Z6]
 | t ::r,b=> by simp only [Qp,Z6,Z46 r b];omega
theorem Z0T:∀ (a b:List Op),Ze (a++b)=Ze a+Ze b
 | [],b=> by simp [Ze]
 | t ::r,b=> by simp only [Qp,Ze,Z0T r b];omega
theorem Z66:∀ (l:List Tree),Z6 (Z4 l)<=Z6 l
 | []=> by trivial
 | t ::r=> by
  have h:=Z66 r
  have d:=ZY t
  simp only [Z4] at h
  simp only [Z4,X3,Z6]
  omega
theorem Z6O:Zc Edit.nil=3:=by rfl
theorem Z12:mass Tree.nil=1:=by rfl
theorem Z6N(t:Tree):1<=mass t:=by cases t;simp only [mass];omega
theorem ZkX:∀ (e:Edit),3<=Zc e
 | .mk k o n w ks l os=> by
  have h1:=Z6N o
  have d:=Z6N n
  simp only [Zc];omega
def Z7X(w:Wst):Nat:=Ze w.out+w.out.length+Z6 w.gone+Z6 w.brought+(if w.gone.length=0 then 0 else 4)+(if w.brought.length=0 then 0 else 4)
theorem Z0S(o:Op):Ze [o]=Zs o:=by rfl
theorem Z2B(k n:Int)(l:List Tree)(e:Edit):Zs (OpOf.mk k n l e)=Z6 l+Zc e:=rfl
theorem ZaU(w:Wst):Ze (Z9 w).out+(Z9 w).out.length=Z7X w:=by
 simp only [Z9,Z0F,Z7X]
 rw [Z0T,Z0T,Q8,Q8]
 by_cases hg:w.gone.length=0
 .have e:w.gone=[]:=Xj.1 hg
  rw [if_pos hg,if_pos hg,e]
  by_cases hb:w.brought.length=0
  .have d:w.brought=[]:=Xj.1 hb
   rw [if_pos hb,if_pos hb,d];try rfl
  .rw [if_neg hb,if_neg hb,Z0S,Z2B,Z6O];simp [Ze,Z6];omega
 .rw [if_neg hg,if_neg hg,Z0S,Z2B,Z6O]
  by_cases hb:w.brought.length=0
  .have d:w.brought=[]:=Xj.1 hb
   rw [if_pos hb,if_pos hb,d];simp [Ze,Z6];omega
  .rw [if_neg hb,if_neg hb,Z0S,Z2B,Z6O];simp;omega
theorem ZkA(w:Wst)(n:Int):Z7X (Zx w n)<=Z7X w+4:=by
 have h:=ZaU w
 have e:Z7X (Zx w n)=Ze (Z1w (Z9 w).out n)+(Z1w (Z9 w).out n).length:=rfl
 rw [e]
 rcases JO (Z9 w).out n with e | ⟨a,o,e1,_,e3⟩
 .rw [e,Z0T,Q8,Z0S,Z2B,Z6O];simp [Z6];omega
 .rw [e3,Z0T,Q8,Z0S]
  rw [e1,Z0T,Q8,Z0S] at h
  obtain ⟨k,m,l,e⟩:=o
  simp only [Z2B] at h ⊢
  grind
theorem ZCA{list:Int}{w:Wst}{o:Op}(hi:Zc (Zv o.e)<=Zc o.e):Z7X (JN list o w)<=Z7X w+Zs o+1:=by
 have h3:=ZkX o.e
 have hm:Zs o=Z6 o.l+Zc o.e:=by cases o;rfl
 have d:=Z66 o.l
 have hl:(Z4 o.l).length=o.l.length:=by simp [Z4]
 rw [Z23]
 split
 .have:=ZkA w o.n;omega
 .split
  .simp only [Z7X,Z46,Q8,hl]
   grind
  .split
   .simp only [Z7X,Z46,Q8,hl]
    grind
   .split
    .split
     .have:=ZkA w 1;omega
     .have:=ZaU w
      have e:Z7X ⟨(Z9 w).out++[⟨3,0,[],Zv o.e⟩],[],[]⟩=Ze ((Z9 w).out++[(⟨3,0,[],Zv o.e⟩:Op)])+((Z9 w).out++[(⟨3,0,[],Zv o.e⟩:Op)]).length:=rfl
      rw [e,Z0T,Q8,Z0S,Z2B]
      simp [Z6];omega
    .omega
mutual
theorem Zb8:∀ (e:Edit),Zc (Zv e)<=Zc e
 | .mk k o n w ks l os=> by
  have h1:=ZeS ks
  have d:=Zpq l os W0
  have h3:=ZaU (ZD l os W0)
  have e0:Z7X W0=0:=rfl
  have po:=Z6N o
  have pn:=Z6N n
  have mo:=ZY o
  have mn:=ZY n
  rw [Zv]
  split
  .simp only [Zc,Zo,Ze,Qr];omega
  .split
   .simp only [Zc,Zo,Ze,Qr,Z12];omega
   .split
    .simp only [Zc,Zo,Qr,Z12]
     show 1+1+1+0+(Z9 (ZD l os W0)).out.length+0+Ze (Z9 (ZD l os W0)).out<=_
     omega
    .simp only [Zc,Zo,Ze,Qr,Z12];omega
theorem ZeS:∀ (ks:List (KidOf Edit)),Zo (Jv ks)<=Zo ks
 | []=> Qg _
 | k ::r=> by
  have h1:=ZkV k
  have d:=ZeS r
  simp only [Jv,Zo];omega
theorem ZkV:∀ (k:KidOf Edit),Ye (Z0D k)<=Ye k
 | ⟨a,e⟩=> by
  have h:=Zb8 e
  trivial
theorem Zpq(list:Int):∀ (os:List (OpOf Edit)) (w:Wst),Z7X (ZD list os w)<=Z7X w+Ze os+os.length
 | [],w=> by simp [ZD,Ze]
 | o ::r,w=> by
  have h1:=Zrm list o w
  have d:=Zpq list r (JN list o w)
  simp only [ZD,Ze,Qd];omega
theorem Zrm(list:Int):∀ (o:OpOf Edit) (w:Wst),Z7X (JN list o w)<=Z7X w+Zs o+1
 | ⟨k,n,l,e⟩,_=> ZCA (o:=⟨k,n,l,e⟩) (Zb8 e)
end
theorem Z43(e:Edit):(Zv e).kind=e.kind:=by
 rw [Z4W]
 split
 .try rfl
 .split
  .try rfl
  .split <;> rfl
theorem Z9m(e:Edit)(h:e.kind=1):(Zv e).old=Z0 e.old/\(Zv e).new=Z0 e.new:=by
 rw [Z4W,if_pos h]
 simp_all
theorem Zmn{D list:Int}{t:Tree}(hD:D≠0)(h:Zh (.mk list [] [t]) D=true):Zh (.mk list [] [Z0 t]) D=true:=by
 have aa:=fun (k d:Int) (h:Ys k [t] d=true)=> Z5P [t] k d h
 simp only [Yr] at aa
 simp only [Zh] at h ⊢
 grind
theorem Z3F{D list:Int}(hD:D≠0):∀ {l:List Tree},YB D list l=true->YB D list (Z4 l)=true
 | [],_=> rfl
 | t ::r,h=> by
  simp only [YB,Q2] at h
  have d:=Z3F hD h.2
  simp only [Z4] at d
  simp only [Z4,X3,YB,Q2]
  exact ⟨Zmn hD h.1,d⟩
theorem Z5C{D list:Int}:∀ {a b:List Tree},YB D list a=true->YB D list b=true->YB D list (a++b)=true
 | [],_,_,h=> h
 | t ::r,b,h,h2=> by
  simp only [YB,Q2] at h
  simp only [Qp,YB,Q2]
  exact ⟨h.1,Z5C h.2 h2⟩
def rOp(list:Int)(d:Int)(o:Op):Prop:=(o.kind=0->1<=o.n/\o.l.length=0/\Z5L o.e=true)/\(o.kind≠0->Za list o d=true)
theorem Zuf{list d:Int}{o:Op}(h:Za list o d=true):rOp list d o:=by
 refine ⟨fun hk=> ?_,fun _=> h⟩
 obtain ⟨k,n,l,e⟩:=o
 simp only at hk
 subst hk
 simp only [Za,if_true,Q2,decide_eq_true_eq] at h
 grind
theorem ZCx{list d:Int}{o:Op}(h:rOp list d o)(hn:o.kind=0->o.n<=1048576):Za list o d=true:=by
 by_cases hk:o.kind=0
 .have h1:=h.1 hk
  have h2:=hn hk
  obtain ⟨k,n,l,e⟩:=o
  simp only at hk h1 h2
  subst hk
  simp only [Za,if_true,Q2,decide_eq_true_eq]
  grind
 .exact h.2 hk
theorem Z5N{list:Int}:∀ {os:List Op} {d:Int},ZO list os d=true↔∀ o∈os,Za list o d=true
 | [],d=> by simp [ZO]
 | o ::r,d=> by
  simp only [ZO,Q2,Q9,forall_eq_or_imp]
  rw [Z5N (os:=r)]
theorem Z2I:Z5L Edit.nil=true:=rfl
structure OkW (list d:Int) (w:Wst):Prop where
 out:∀ o∈w.out,rOp list d o
 gone:YB (dT d) list w.gone=true
 brought:YB (dT d) list w.brought=true
theorem ZaX{list d:Int}{w:Wst}(h:OkW list d w):OkW list d (Z9 w):=by
 refine ⟨?_,rfl,rfl⟩
 simp only [Z9,Z0F]
 intro o ho
 rcases Qj.1 ho with ho | ho
 .exact h.out o ho
 rcases Qj.1 ho with ho | ho
 .split at ho
  .cases ho
  .rename_i hl
   simp only [Q7] at ho
   subst ho
   refine ⟨fun hk=> (by cases hk),fun _=> ?_⟩
   simp only [Za]
   rw [if_neg V2,if_neg V2,if_pos V2,h.gone,Z2I]
   grind
 .split at ho
  .cases ho
  .rename_i hl
   simp only [Q7] at ho
   subst ho
   refine ⟨fun hk=> (by cases hk),fun _=> ?_⟩
   simp only [Za]
   rw [if_neg V2,if_neg V2,if_pos V2,h.brought,Z2I]
   grind
theorem ZkJ{list d:Int}{w:Wst}{n:Int}(h:OkW list d w)(hn:1<=n):OkW list d (Zx w n):=by
 have hf:=ZaX h
 refine ⟨?_,rfl,rfl⟩
 simp only [Zx]
 intro o ho
 rcases JO (Z9 w).out n with e | ⟨a,q,e1,e2,e3⟩
 .rw [e] at ho
  rcases Qj.1 ho with ho | ho
  .exact hf.out o ho
  .simp only [Q7] at ho
   subst ho
   exact ⟨fun _=> ⟨hn,rfl,Z2I⟩,fun hk=> absurd rfl hk⟩
 .rw [e3] at ho
  rcases Qj.1 ho with ho | ho
  .exact hf.out o (by grind)
  .simp only [Q7] at ho
   subst ho
   have hq:=(hf.out q (by rw [e1];simp)).1 e2
   exact ⟨fun _=> ⟨by grind,hq.2⟩,fun hk=> absurd e2 hk⟩
theorem ZCG{list d:Int}{w:Wst}{o:Op}(h:OkW list d w)(hr:Za list o d=true)(hi:Z7 o.e d=true->Z7 (Zv o.e) d=true):OkW list d (JN list o w):=by
 obtain ⟨k,n,l,e⟩:=o
 have ae:=hr
 rw [Za] at hr
 rw [Z23]
 simp only at hi ⊢
 split at hr
 .rename_i hk
  rw [if_pos hk]
  simp only [Q2,decide_eq_true_eq] at hr
  exact ZkJ h hr.1.1
 .rename_i hk
  rw [if_neg hk]
  split at hr
  .cases hr
  .rename_i hn
   split at hr
   .rename_i h3
    simp only [Q2,decide_eq_true_eq] at hr
    by_cases k1:k=1
    .rw [if_pos k1]
     exact ⟨h.out,Z5C h.gone (Z3F (ZC2 d) hr.1.1),h.brought⟩
    .rw [if_neg k1,Yz]
     exact ⟨h.out,h.gone,Z5C h.brought (Z3F (ZC2 d) hr.1.1)⟩
   .rename_i h3
    rw [Yo,Yo,Yz]
    split
    .exact ZkJ h V2
    .have hf:=ZaX h
     refine ⟨?_,rfl,rfl⟩
     intro o ho
     rcases Qj.1 ho with ho | ho
     .exact hf.out o ho
     .simp only [Q7] at ho
      subst ho
      refine ⟨fun hk=> (by cases hk),fun _=> ?_⟩
      simp only [Q2,decide_eq_true_eq] at hr
      simp only [Za]
      rw [if_neg V2,if_neg V2,if_neg V2,Z43,hi hr.1.2]
      simp only [Bool.and_true,Q2,decide_eq_true_eq]
      refine ⟨⟨rfl,hr.1.1.2⟩,?_⟩
      rcases hr.2 with h | h | h
      .exact Or.inl h
      .omega
      .rw [(Z9m e h.1).1,(Z9m e h.1).2,Z1K,Z1K]
       omega
def Z0h:List Op->Int
 | []=> 0
 | o ::r=> (if o.kind=2 then 0 else Z5 o)+Z0h r
def Z0B:List Op->Int
 | []=> 0
 | o ::r=> (if o.kind=1 then 0 else Z5 o)+Z0B r
theorem Z3T:∀ (a b:List Op),Z0h (a++b)=Z0h a+Z0h b
 | [],b=> by simp [Z0h]
 | o ::r,b=> by simp only [Qp,Z0h,Z3T r b];omega
theorem Z3S:∀ (a b:List Op),Z0B (a++b)=Z0B a+Z0B b
 | [],b=> by simp [Z0B]
 | o ::r,b=> by simp only [Qp,Z0B,Z3S r b];omega
theorem Z4d:∀ (l:List Op) (n:Int),(∀ o∈l,0<=Z5 o)->0<=n->n<=1048576->Z2s l n=min (n+Z0h l) 1048576/\0<=Z0h l
 | [],n,_,h1,h2=> by simp only [Z2s,Z0h];omega
 | o ::r,n,h,h1,h2=> by
  have ho:=h o (Q5 ..)
  simp only [Z2s,Z0h]
  have d:0<=(if o.kind=2 then n else n+Z5 o)/\(if o.kind=2 then n else n+Z5 o)=n+(if o.kind=2 then 0 else Z5 o):=by split <;> omega
  have hy:0<=(if o.kind=2 then 0 else Z5 o):=by split <;> omega
  rw [d.2]
  rw [d.2] at d
  generalize (if o.kind=2 then 0 else Z5 o)=y at*
  obtain ⟨e1,e2⟩:=Z4d r (min (n+y) 1048576) (fun x d=> h x (Q3 _ d)) V0 V0
  omega
theorem Z4c:∀ (l:List Op) (n:Int),(∀ o∈l,0<=Z5 o)->0<=n->n<=1048576->Z2r l n=min (n+Z0B l) 1048576/\0<=Z0B l
 | [],n,_,h1,h2=> by simp only [Z2r,Z0B];omega
 | o ::r,n,h,h1,h2=> by
  have ho:=h o (Q5 ..)
  simp only [Z2r,Z0B]
  have d:0<=(if o.kind=1 then n else n+Z5 o)/\(if o.kind=1 then n else n+Z5 o)=n+(if o.kind=1 then 0 else Z5 o):=by split <;> omega
  have hy:0<=(if o.kind=1 then 0 else Z5 o):=by split <;> omega
  rw [d.2]
  rw [d.2] at d
  generalize (if o.kind=1 then 0 else Z5 o)=y at*
  obtain ⟨e1,e2⟩:=Z4c r (min (n+y) 1048576) (fun x d=> h x (Q3 _ d)) V0 V0
  omega
theorem Z98{list d:Int}{o:Op}(h:rOp list d o):0<=Z5 o:=by
 unfold Z5
 split
 .decide
 .by_cases hk:o.kind=0
  .have:=(h.1 hk).1;omega
  .have hr:=h.2 hk
   obtain ⟨k,n,l,e⟩:=o
   simp only at hk ⊢
   rw [Za,if_neg hk] at hr
   grind
theorem ZjH:∀ {l:List Op} {o:Op},(∀ o∈l,0<=Z5 o)->o∈l->o.kind≠2->Z5 o<=Z0h l
 | a ::r,o,h,ho,hk=> by
  have hr:=(Z4d r 0 (fun x d=> h x (Q3 _ d)) V2 V2).2
  have ha:=h a (Q5 ..)
  simp only [Z0h]
  rcases Q9.1 ho with rfl | ho
  .omega
  .have:=ZjH (fun x d=> h x (Q3 _ d)) ho hk
   omega
def sA(w:Wst):Int:=Z0h w.out+w.gone.length
def sB(w:Wst):Int:=Z0B w.out+w.brought.length
theorem Zax(w:Wst):Z0h (Z9 w).out=sA w/\Z0B (Z9 w).out=sB w:=by
 simp only [Z9,Z0F,sA,sB,Z3T,Z3S]
 constructor
 .by_cases hg:w.gone.length=0
  .rw [if_pos hg]
   by_cases hb:w.brought.length=0
   .rw [if_pos hb];simp [Z0h];omega
   .rw [if_neg hb];simp [Z0h];omega
  .rw [if_neg hg]
   by_cases hb:w.brought.length=0
   .rw [if_pos hb];simp [Z0h,Z5]
   .rw [if_neg hb];simp [Z0h,Z5]
 .by_cases hg:w.gone.length=0
  .rw [if_pos hg]
   by_cases hb:w.brought.length=0
   .rw [if_pos hb];simp [Z0B];omega
   .rw [if_neg hb];simp [Z0B,Z5]
  .rw [if_neg hg]
   by_cases hb:w.brought.length=0
   .rw [if_pos hb];simp [Z0B];omega
   .rw [if_neg hb];simp [Z0B,Z5]
theorem ZjG(w:Wst)(n:Int):sA (Zx w n)=sA w+n/\sB (Zx w n)=sB w+n:=by
 have hf:=Zax w
 simp only [Zx]
 have d:∀ x,sA ⟨x,[],[]⟩=Z0h x:=fun x=> by simp [sA]
 have e2:∀ x,sB ⟨x,[],[]⟩=Z0B x:=fun x=> by simp [sB]
 rw [d,e2,<-hf.1,<-hf.2]
 rcases JO (Z9 w).out n with e | ⟨a,q,d,e2,e3⟩
 .rw [e,Z3T,Z3S]
  simp [Z0h,Z0B,Z5]
 .rw [e3,d,Z3T,Z3S,Z3T,Z3S]
  simp only [Z0h,Z0B,Z5,e2]
  simp
  omega
theorem ZCo{list d:Int}{w:Wst}{o:Op}(hr:Za list o d=true):sA (JN list o w)=sA w+(if o.kind=2 then 0 else Z5 o)/\sB (JN list o w)=sB w+(if o.kind=1 then 0 else Z5 o):=by
 have hl:∀ l,((Z4 l).length:Int)=l.length:=fun l=> by simp [Z4]
 obtain ⟨k,n,l,e⟩:=o
 rw [Za] at hr
 rw [Z23]
 simp only [Z5]
 split at hr
 .rename_i hk
  subst hk
  rw [if_pos rfl]
  simp only [Q2,decide_eq_true_eq] at hr
  have:=ZjG w n
  simp
  omega
 .rename_i hk
  rw [if_neg hk]
  split at hr
  .cases hr
  .rename_i hn
   split at hr
   .rename_i h3
    by_cases k1:k=1
    .subst k1
     rw [if_pos rfl]
     simp only [sA,sB,Q8]
     grind
    .have k2:k=2:=V0
     subst k2
     rw [if_neg k1,if_pos rfl]
     simp only [sA,sB,Q8]
     grind
   .rename_i h3
    have k3:k=3:=V0
    subst k3
    rw [Yo,Yo,if_pos rfl]
    split
    .have:=ZjG w 1
     omega
    .have:=Zax w
     simp only [sA,sB,Z3T,Z3S,Z0h,Z0B,Z5] at this ⊢
     grind
mutual
theorem Z0Q:∀ (e:Edit) (d:Int),Z7 e d=true->Z7 (Zv e) d=true
 | .mk k o n w ks l os,d,h=> by
  have h1:=ZbO ks
  have h2:=Zpw l os
  have h4:=ZoA l os
  rw [Z7] at h
  split at h
  .cases h
  .rename_i a
   split at h
   .cases h
   .rename_i b
    have nn:Z2j Tree.nil=true:=rfl
    by_cases k1:k=1
    .subst k1
     rw [if_pos rfl] at h
     have hl:l=0:=by
      apply XG
      intro hl
      exact b (.inr (.inr ⟨V2,.inl hl⟩))
     simp only [Q2,decide_eq_true_eq] at h
     rw [Zv,if_pos rfl,Z7,if_neg a,if_neg (by simp [hl]),if_pos rfl]
     simp only [Q2,decide_eq_true_eq]
     rw [Z1K,Z1K]
     exact ⟨⟨Z20 _ _ h.1.1,Z20 _ _ h.1.2⟩,h.2⟩
    .rw [if_neg k1] at h
     simp only [Q2,decide_eq_true_eq] at h
     obtain ⟨⟨⟨⟨x1,x2⟩,x3⟩,x4⟩,x5⟩:=h
     rw [Zv,if_neg k1]
     by_cases k2:k=2
     .have hl:l=0:=by
       apply XG
       intro hl
       exact b (.inr (.inr ⟨V0,.inl hl⟩))
      rw [if_pos k2,Z7,if_neg a,if_neg (by grind),if_neg k1]
      grind
     .rw [if_neg k2]
      by_cases k3:k=3
      .rw [if_pos k3,Z7,if_neg a,if_neg (by simp [nn,k3]),if_neg k1]
       simp only [Q2,decide_eq_true_eq]
       have ae:=Z5N.1 x4
       obtain ⟨y1,y2⟩:=Z4d os 0 (fun o ho=> Z98 (Zuf (ae o ho))) V2 V2
       obtain ⟨z1,z2⟩:=Z4c os 0 (fun o ho=> Z98 (Zuf (ae o ho))) V2 V2
       have hw:=h2 (d - 1) W0 x4 ⟨fun o ho=> (by cases ho),rfl,rfl⟩
       have hs:=h4 (d - 1) W0 x4
       have ab:=ZaX hw
       have al:=Zax (ZD l os W0)
       have e0:sA W0=0/\sB W0=0:=⟨rfl,rfl⟩
       have hA:=Z4d (Z9 (ZD l os W0)).out 0 (fun o ho=> Z98 (ab.out o ho)) V2 V2
       have hB:=Z4c (Z9 (ZD l os W0)).out 0 (fun o ho=> Z98 (ab.out o ho)) V2 V2
       refine ⟨⟨⟨⟨rfl,rfl⟩,x3⟩,Z5N.2 (fun o ho=> ZCx (ab.out o ho) (fun hk=> ?_))⟩,?_,?_⟩
       .have hm:=ZjH (fun o ho=> Z98 (ab.out o ho)) ho V0
        unfold Z5 at hm
        omega
       .show Z2s (Z9 (ZD l os W0)).out 0 < 1048576
        omega
       .show Z2r (Z9 (ZD l os W0)).out 0 < 1048576
        omega
      .have hl:l=0:=by
        apply XG
        intro hl
        exact b (.inr (.inr ⟨k3,.inl hl⟩))
       rw [if_neg k3,Z7,if_neg a,if_neg (by simp [nn,hl]),if_neg k1]
       grind
theorem ZbO:∀ (ks:List (KidOf Edit)) (last d:Int),ZJ last ks d=true->ZJ last (Jv ks) d=true
 | [],_,_,_=> rfl
 | k ::r,last,d,h=> by
  simp only [ZJ,Q2] at h
  have h1:=Zi3 k last d h.1
  have h2:=ZbO r k.at_ d h.2
  simp only [Jv,ZJ,Q2]
  exact ⟨h1,by rw [Zb2];exact h2⟩
theorem Zi3:∀ (k:KidOf Edit) (last d:Int),J3 last k d=true->J3 last (Z0D k) d=true
 | ⟨a,e⟩,last,d,h=> by
  simp only [J3,Q2] at h
  have h1:=Z0Q e d h.2
  simp only [Z0D,J3,Q2]
  rw [Z43]
  grind
theorem Zpw(list:Int):∀ (os:List (OpOf Edit)) (d:Int) (w:Wst),ZO list os d=true->OkW list d w->OkW list d (ZD list os w)
 | [],_,_,_,hw=> hw
 | o ::r,d,w,h,hw=> by
  simp only [ZO,Q2] at h
  have h1:=Zrt list o d w h.1 hw
  exact Zpw list r d _ h.2 h1
theorem Zrt(list:Int):∀ (o:OpOf Edit) (d:Int) (w:Wst),Za list o d=true->OkW list d w->OkW list d (JN list o w)
 | ⟨k,n,l,e⟩,d,w,h,hw=> ZCG (o:=⟨k,n,l,e⟩) hw h (fun he=> Z0Q e d he)
theorem ZoA(list:Int):∀ (os:List (OpOf Edit)) (d:Int) (w:Wst),ZO list os d=true->sA (ZD list os w)=sA w+Z0h os/\sB (ZD list os w)=sB w+Z0B os
 | [],_,_,_=> by simp [ZD,Z0h,Z0B]
 | o ::r,d,w,h=> by
  simp only [ZO,Q2] at h
  have h1:=ZCo (w:=w) h.1
  have h2:=ZoA list r d (JN list o w) h.2
  simp only [ZD,Z0h,Z0B]
  omega
end
end Go.AM.YtnfbomhidainjaaGreat
