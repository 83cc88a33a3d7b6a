import Derived.Test.YtpjenobkibfpcaaGreatZKG20z
import Derived.Test.YtpjenobkibfpcaaGreatZKL22
import Derived.Test.YtpjenobkibfpcaaGreatZKG20c
set_option linter.unusedSimpArgs false
set_option linter.unusedVariables false
namespace Go.AM.YtpjenobkibfpcaaGreat
open Go.AM Go.Proofs
theorem ZpY{e:Edit}:(Z5 e 1=true/\e.kind=0)↔Z0U e=true:=by
 rw [Z3f]
 simp only [Z0U,Q4,decide_eq_true_eq]
 by_cases hk:e.kind=0
 .rw [Jk]
  by_cases hb:Ye e.old=true/\Ye e.new=true
  .by_cases hw:e.words.length=0/\e.kids.length=0
   .by_cases hl:e.list=0/\e.ops.length=0
    .have u:e.words=[]:=Qq.1 hw.1
     have d:e.kids=[]:=Qq.1 hw.2
     have s:e.ops=[]:=Qq.1 hl.2
     rw [if_neg (fun h=> by grind),Jk,u,d,s]
     simp only [ZK,Zw,Zz,Z0Q,Z0P,QB,Xm,Q4,decide_eq_true_eq]
     grind
    grind
   grind
  grind
 omega
theorem b78:ZGO:=by
 intro N e d _ hp hN
 simp only [Z0z,Z6S] at hp hN
 obtain ⟨⟨hm,hr⟩,ar,a0⟩:=hp
 obtain ⟨ik,ro,rn,aw,il,rk,ay⟩:=Z3X hr
 have a1:=Yt e
 have a3:=Yz e.kids
 have ax:=Y5 e.ops
 have u:=Z3f e d
 rw [ZoR ar] at u
 refine ZH6 N e d _ ?_
 rintro s al y2 aq y3 ao
 subst al aq ao
 simp only [iB,vcT,vcS,aiT,true_and]
 have ab:Z3G s=true↔¬((s.kind≠1/\¬(Ye s.old=true/\Ye s.new=true))\/(s.kind≠2/\¬(s.words.length=0/\s.kids.length=0))\/(s.kind≠3/\(s.list≠0\/s.ops.length≠0))):=by
  unfold Z3G
  split
  .grind
  .grind
 refine ⟨by simp only [Z7y];omega,fun hc=> Z4 rfl ?_,fun hc=> ?_⟩
 .grind
 have hb:=ab.1 hc.1
 have am:¬(s.kind=0\/s.kind=1\/s.kind=2\/s.kind=3)->Z5 s d=false:=fun h=> by grind
 by_cases hk:s.kind=0\/s.kind=1\/s.kind=2\/s.kind=3
 .rw [Jk,if_neg hb] at u
  have hw:s.kind≠2->s.words=[]/\s.kids=[]:=by
   intro h
   have:s.words.length=0/\s.kids.length=0:=Xd fun h2=> hb (Or.inr (Or.inl ⟨h,h2⟩))
   exact ⟨Qq.1 this.1,Qq.1 this.2⟩
  have ho:s.kind≠3->s.list=0/\s.ops=[]:=by
   intro h
   have:s.list=0/\s.ops.length=0:=by
    constructor
    .exact Xd fun h2=> hb (Or.inr (Or.inr ⟨h,Or.inl h2⟩))
    .exact Xd fun h2=> hb (Or.inr (Or.inr ⟨h,Or.inr h2⟩))
   exact ⟨this.1,Qq.1 this.2⟩
  refine ⟨fun h0=> Z4 rfl ?_,fun h0=> ⟨fun h1=> ⟨by simp only [ZfP];grind,fun _=> by simp only [ZfP];grind,Z4 rfl ?_⟩,fun h1=> ⟨fun h2=> ⟨by simp only [ZdZ];grind,fun _=> by unfold InR;omega,fun _=> by simp only [Z33];grind,fun _=> by simp only [Z8W];omega,Z4 rfl ?_⟩,fun h2=> ⟨fun h3=> ⟨trivial,fun _=> by unfold InR;omega,fun hl=> by simp only [Z32];grind,fun _=> by simp only [Z8V];omega,Z4 rfl ?_⟩,fun h3=> ?_⟩⟩⟩⟩
  .rw [u,Jk,(hw V0).1,(hw V0).2,(ho V0).1,(ho V0).2]
   simp [ZK,Zw,Zz,Z0Q,Z0P]
   omega
  .rw [u,if_pos h1,Qo]
   grind
  .rw [u,if_neg h1,(ho V0).1,(ho V0).2,Qo]
   simp only [Zz,Z0Q,Z0P]
   grind
  .rw [u,if_neg h1,(hw V0).1,(hw V0).2,Qo]
   simp only [ZK,Zw]
   grind
  .omega
 .have he:=am hk
  refine ⟨fun h0=> by omega,fun h0=> ⟨fun h1=> by omega,fun h1=> ⟨fun h2=> by omega,fun h2=> ⟨fun h3=> by omega,fun h3=> Z4 rfl ?_⟩⟩⟩⟩
  rw [he]
theorem ZDF:ZAX:=by
 intro N l d _ hp hN
 simp only [Z33,Z8W] at hp hN
 obtain ⟨⟨hm,hr⟩,aw,ax⟩:=hp
 have hl:=Yz l
 refine ZFA N l d _ ?_
 refine Ze (ι:=Int) (fun i=> Z6o l d i) (fun i=> 0<=i/\i<=l.length/\∃ s,-1<=s/\(i=0->s= -1)/\(0 < i->s=(l.getD (i - 1).toNat (KidOf.mk 0 Edit.nil)).at_)/\Zw s (l.drop i.toNat) d=Zw (-1) l d) (fun i=> ((l.length:Int) - i).toNat) 0 rfl ⟨V0,V0,-1,V0,fun _=> rfl,fun h=> by omega,by simp⟩ ?_
 rintro i ⟨g1,g2,s,g3,g4,g5,g6⟩
 refine ZrI N l d i _ _ ?_
 rintro u ai y2 aj y3 ab
 simp only [iB,vcT,vcS,aiT,true_and]
 refine ⟨fun hi=> ?_,fun hi=> ?_⟩
 .have aa:=Zo (l:=l) (i:=i.toNat) V0 (KidOf.mk 0 Edit.nil)
  have af:=Z0f aa
  have ah:=Ys hr aa
  rw [YJ g1 hi (KidOf.mk 0 Edit.nil)] at g6
  rw [<-ai] at g6 af ah
  rw [<-aj] at g5
  rw [<-ab] at af ah
  simp only [Zw,Z2Q] at g6
  rw [<-ab] at g6
  have hk:u.e.kind=y3.kind:=by rw [ab]
  rw [hk]
  have gl:(¬0 < i\/¬u.at_<=y2.at_)/\¬u.at_ < 0↔s < u.at_/\¬u.at_ < 0:=by
   by_cases h0:0 < i
   .have:=g5 h0;omega
   .have:=g4 V0;omega
  refine ⟨⟨g1,hi⟩,fun _=> by unfold InR;omega,fun _=> by omega,fun _=> ?_,fun _=> by simp only [Z6S];omega,fun hc=> Z4 rfl ?_,fun hc=> ⟨V2,i+1,rfl,⟨V0,V0,u.at_,V0,fun h=> by omega,fun _=> by grind,?_⟩,V0⟩⟩
  .simp only [Z0z]
   grind
  .grind
  .rw [<-g6,hc.2,decide_eq_true (show s < u.at_/\u.at_<=65534/\y3.kind≠0 by
    omega)]
   try rfl
 .rw [Qd V0] at g6
  simp only [Z4X]
  rw [<-g6]
  exact Z4 rfl rfl
theorem Z72{list d:Int}:∀ {os:List Op},(∀ o∈os,Zg list o d=true)->Zz list os d=true
 | [],_=> rfl
 | o ::r,h=> by
  simp only [Zz,Q4]
  exact ⟨h o (Q8 ..),Z72 (fun x s=> h x (Q7 _ s))⟩
theorem ZDE:ZAW:=by
 intro N e d _ hp hN
 simp only [Z32,Z8V] at hp hN
 obtain ⟨⟨hm,hr,hl⟩,ay,az⟩:=hp
 obtain ⟨ik,ro,rn,av,il,rk,ah⟩:=Z3X hr
 have a0:=Yt e
 have aw:=Y5 e.ops
 refine ZFy N e d _ ?_
 refine Ze (ι:=Int) (fun i=> Z6n e d i) (fun i=> 0<=i/\i<=e.ops.length/\∀ o∈e.ops.take i.toNat,Zg e.list o d=true) (fun i=> ((e.ops.length:Int) - i).toNat) 0 rfl ⟨V0,V0,by simp⟩ ?_
 rintro i ⟨g1,g2,g3⟩
 refine ZrH N e d i _ _ ?_
 rintro u ai y2 ak y3 aj
 subst ai aj
 simp only [iB,vcT,vcS,aiT,true_and]
 refine ⟨fun hi=> ?_,fun hi=> ?_⟩
 .have s:=Zo (l:=u.ops) (i:=i.toNat) V0 Op.nil
  have af:=Yy s
  have al:=Z0Z ah s
  rw [<-ak] at s af al
  refine ⟨⟨g1,hi⟩,?_,by simp only [Z8U];omega,fun hc=> Z4 rfl ?_,fun hc=> ⟨V2,i+1,rfl,⟨V0,V0,fun o ho=> ?_⟩,V0⟩⟩
  .simp only [Z31]
   grind
  .have:Zz u.list u.ops d=false:=by
    rw [<-Kh]
    intro h
    have:=rightOs_mem h s
    rw [hc] at this;cases this
   grind
  .rw [show (i+1).toNat=i.toNat+1 by omega,XT] at ho
   grind
 .rw [QU V0] at g3
  have aa:Zz u.list u.ops d=true:=Z72 g3
  have hb:∀ o∈u.ops,(0<=o.n/\o.n<=1048576)/\o.l.length<=20000000000:=by
   intro o ho
   refine ⟨Z5S (g3 o ho),?_⟩
   have h1:=Yy ho
   rw [ZV] at h1
   have h2:=Zs o.l
   omega
  refine ⟨by simp only [Z7y];omega,Z4 rfl ?_⟩
  rw [ZjX _ _ hb V3 V3,ZjW _ _ hb V3 V3,aa,QB]
  grind
theorem ZDC:ZAU:=by
 intro N list o d _ hp hN
 simp only [Z31,Z8U] at hp hN
 obtain ⟨⟨hm,hr,az⟩,aq,a0⟩:=hp
 obtain ⟨ik,a1,rl,re⟩:=Z1d hr
 rw [ZV] at hm hN
 have aw:=Zs o.l
 have ay:=Z65 o.e
 have ab:=Z2i list o d
 rw [ZoR aq,Z9M] at ab
 have hs:=ZpY (e:=o.e)
 refine ZF9 N list o d _ ?_
 rintro y1 ak y2 am
 subst ak
 simp only [iB,vcT,vcS,aiT,true_and]
 have u:Z0z (o.e,1,()):=by simp only [Z0z];exact ⟨⟨V0,re⟩,V0,V0⟩
 have aa:Z6S (o.e,1,()) < N:=by simp only [Z6S];omega
 have s:ZdK (o.l,(list,()),()):=by simp only [ZdK];exact ⟨V0,rl,V2⟩
 have af:o.kind=1\/o.kind=2->y2= .bool (Zg list o d):=by
  intro hk
  rw [am,ab,Jk]
  congr 1
  rw [Qo]
  (simp only [iB,vcS])
  by_cases hn:o.n=0
  .rw [Jk,Yu]
   (simp only [iB,vcS])
   constructor
   .rintro ⟨⟨⟨⟨h1,h2⟩,h3⟩,h4⟩,h5⟩
    exact ⟨⟨h5,V0⟩,hs.1 ⟨h3,h4⟩⟩
   .rintro ⟨⟨h5,h2⟩,h3⟩
    have:=hs.2 h3
    exact ⟨⟨⟨⟨hn,V0⟩,this.1⟩,this.2⟩,h5⟩
  .rw [Yu]
   exact ⟨fun h=> absurd h.1.1.1.1 hn,fun h=> (nomatch h)⟩
 refine ⟨fun hk=> ⟨fun _=> u,fun _=> aa,Z4 rfl ?_⟩,fun hk=> ⟨fun ah=> ⟨fun _=> u,fun _=> aa,fun _=> s,?_⟩,fun ah=> ⟨fun ae=> ⟨fun _=> u,fun _=> aa,fun _=> s,?_⟩,fun ae=> ⟨fun aj=> ⟨fun _=> trivial,fun _=> ?_,fun _=> by simp only [Z6S];omega,Z4 rfl ?_⟩,fun aj=> Z4 rfl ?_⟩⟩⟩⟩
 .grind
 .rw [af (Or.inl ah)]
  trivial
 .rw [af (Or.inr ae)]
  trivial
 .simp only [Z0z];grind
 .rw [ab,if_neg hk,Qo]
  by_cases hn:o.n=0
  .rw [Jk,Jk]
   have hw:Z1b list o.e=true↔(o.e.kind≠0/\7 < list)/\(list=8\/o.e.kind=2\/o.e.kind=1/\o.e.old.kind=1/\o.e.new.kind=1):=by
    unfold Z1b
    split
    .grind
    .grind
   grind
  grind
 grind
theorem ZHz:Contract Tryz.prog cfg 78 ZcZ/\Contract Tryz.prog cfg 124 ZmM/\Contract Tryz.prog cfg 126 ZmL/\Contract Tryz.prog cfg 179 ZmJ:=
 Zxe ZDu ZDt ZDs Zr3 ZCX ZCU ZDe b78 ZDF ZDE ZDC
theorem c28:Contract Tryz.prog cfg 28 Z4L:=by
 refine ZC4 ZHz.1 ?_
 intro e _ d
 simp only [ZfT] at d
 refine ZHr _ _ ?_
 (simp only [vE])
 refine ⟨by simp only [Z0z];grind,?_⟩
 trivial
theorem Zce{e:Edit}(h:Jx e):Wk e:=by obtain ⟨d,s⟩:=h.2.2;exact .of s h.2.1
theorem kids_sum:∀ {l:List Op},(∀ o∈l,ZP o)->Z7N l<=YK l+Yi l
 | [],_=> by trivial
 | o ::r,h=> by
  have u:=ZB (h o Q8)
  have s:=kids_sum fun x d=> h x (Q7 _ d)
  simp only [Z7N,YK,Yi]
  omega
theorem Z2m:Jx Edit.nil:=by
 refine ⟨V3,?_,1,Zqn⟩
 exact ⟨JV V3 V3,Z1Z,Z1Z,by grind,JV V3 V3,trivial,trivial⟩
theorem Zve{t:Tree}(h:Z4r t=true)(hr:rng t):Zj t<=20000000000/\RT_ t/\Zb t 64=true/\t.kind≠10:=by
 unfold Z4r at h
 simp only [Q4,decide_eq_true_eq] at h
 exact ⟨Zgj h.1.1,⟨⟨64,h.1.2⟩,hr⟩,h.1.2,h.2⟩
theorem ZGq{t:Tree}(h:Z4r t=true):Zj t<=3000:=by
 unfold Z4r at h
 simp only [Q4,decide_eq_true_eq] at h
 have:=Z0v t 80 3000 h.1.1
 omega
theorem Zvd{e:Edit}(h:Z0R e=true):Za e<=3000/\Z5 e 64=true:=by
 simp only [Z0R,Q4,decide_eq_true_eq] at h
 exact ⟨ZaA h.1.1,h.1.2⟩
theorem Zlv{r:Bool}{e:Edit}{t:Tree}(hr:∃ d,Z5 e d=true)(ht:Zj t+ctE e<=200000000000):Zj (Z1o (doE r e t))<=1000000000000:=by
 cases h:doE r e t with
 | none=> trivial
 | some u=> exact Zks hr ht h
theorem Zlu(o:Option Tree):Z1o (o.map Z3)=Z3 (Z1o o):=by cases o;exact ZfZ.symm;rfl
theorem ZlB{e:Edit}{t:Tree}(hr:∃ d,Z5 e d=true)(ht:Zj t+ctE e<=200000000000):Zj (Z1o ((doE false e t).map Z3))<=1000000000000:=by
 rw [Zlu]
 exact X5 (Yx _) (Zlv hr ht)
theorem Zkb{e:Edit}(h:Z0R e=true)(g:Yp e):ZG1 e/\Za e<=3000/\Z5 e 64=true:=by
 obtain ⟨m,r⟩:=Zvd h
 have hl:Yn e=true:=by
  simp only [Z0R,Q4] at h
  exact h.2
 have:=Zs4 _ e (Qf _) ⟨64,r⟩ hl
 exact ⟨⟨V0,g,64,r⟩,m,r⟩
noncomputable section
def Zgd(w:WEdit)(m:Int):WEdit × Bool:=
 (⟨w.at_,Z0S m w.mask,mix 0 w.old (Z0S m w.mask),mix 0 w.new (Z0S m w.mask)⟩,decide (Z0S m w.mask≠0))
def Yw(p q:WEdit):Bool:=decide (mix 0 p.old (Z0S p.mask q.mask)≠mix 0 q.old (Z0S p.mask q.mask))
def Z0a(p q:WEdit):Bool:=decide (mix 0 p.new (Z0S p.mask q.mask)≠mix 0 q.new (Z0S p.mask q.mask))
def Z4c(l:List Tree):List Op:=if l=[] then [] else [⟨2,0,l,Edit.nil⟩]
def Z4q(e:Edit):Op:=if e.kind=0 then ⟨0,1,[],Edit.nil⟩ else ⟨3,0,[],e⟩
end
end Go.AM.YtpjenobkibfpcaaGreat
namespace Go.AM
instance:Inhabited PStep:=⟨⟨0,0⟩⟩
def JU(n:Int):List Op:=if n=0 then [] else [⟨0,n,[],Edit.nil⟩]
def ZAE(s:PStep)(t:Tree):Prop:=s.kind=0/\0<=s.at_/\(t.kind=1/\s.at_ < 65535\/(2<=t.kind/\t.kind<=9)/\s.at_ < t.kids.length)
instance (s:PStep) (t:Tree):Decidable (ZAE s t):=by unfold ZAE;infer_instance
end Go.AM
namespace Go.AM.YtpjenobkibfpcaaGreat
open Go.AM Go.Proofs
noncomputable section
structure Lft where
 x:Edit
 y:Edit
 c:Bool
 a:Bool
def Z4z(m:Int):Int:=IntKind.wrap .u8 (BitVec.ofInt (IntKind.bits .u8) 255 ^^^ BitVec.ofInt (IntKind.bits .u8) m).toNat
def Z2y{α:Type}(at_:α->Int)(l:List α)(n:Int):Option α:=l.foldl (fun o b=> if at_ b=n then some b else o) none
def Yq{α:Type}(at_:α->Int)(f:α->α->α)(q:List α)(a:α):α:=match Z2y at_ q (at_ a) with
 | some b=> f a b
 | none=> a
def JO{α:Type}(at_:α->Int)(g:α->α->Bool)(p q:List α):Bool:=p.any fun a=> q.any fun b=> decide (at_ a=at_ b) && g a b
def Z0H(a b:WEdit):WEdit:=(Zgd a (Z4z b.mask)).1
def Z3b(e:Edit):Edit:=
 if (e.words.filter fun w=> !decide (w.mask=0)).length+(e.kids.filter fun k=> !decide (k.e.kind=0)).length=0 then Edit.nil
 else .mk e.kind e.old e.new (e.words.filter fun w=> !decide (w.mask=0)) (e.kids.filter fun k=> !decide (k.e.kind=0)) e.list e.ops
def Z09(e:Edit)(o n:Tree):Lft:=⟨Edit.nil,Edit.nil,(doB e o).2 && !ZY (Z3 (doB e o).1) (Z3 n),!(doB e o).2⟩
def Z4x(f:Edit->Edit->Lft)(p q:Edit):Lft:=
 ⟨Z3b (.mk 2 Tree.nil Tree.nil (p.words.map (Yq WEdit.at_ Z0H q.words)) (p.kids.map (Yq KidOf.at_ (fun a b=> ⟨a.at_,(f a.e b.e).x⟩) q.kids)) 0 []),
  Z3b (.mk 2 Tree.nil Tree.nil (q.words.map (Yq WEdit.at_ Z0H p.words)) (q.kids.map (Yq KidOf.at_ (fun b a=> ⟨b.at_,(f a.e b.e).y⟩) p.kids)) 0 []),
  JO WEdit.at_ (fun a b=> !Yw a b && Z0a a b) p.words q.words || JO KidOf.at_ (fun a b=> (f a.e b.e).c) p.kids q.kids,
  JO WEdit.at_ Yw p.words q.words || JO KidOf.at_ (fun a b=> (f a.e b.e).a) p.kids q.kids⟩
structure PL where
 x:List Op
 y:List Op
 c:Bool
 a:Bool
def PL.app(s t:PL):PL:=⟨s.x++t.x,s.y++t.y,s.c || t.c,s.a || t.a⟩
def JL(m h:List Tree):PL:=
 if m≠[]/\h≠[] then ⟨JU h.length,JU m.length,!Z7Q m h,false⟩
 else ⟨Z4c m++JU h.length,JU m.length++Z4c h,false,false⟩
def ZE(f:Edit->Edit->Lft)(p q:Op):PL:=
 if p.kind=0/\q.kind=1 then ⟨[],[q],false,false⟩
 else if p.kind=1/\q.kind=0 then ⟨[p],[],false,false⟩
 else if p.kind=0 then ⟨[⟨0,if q.n < 1 then 1 else q.n,[],Edit.nil⟩],[q],false,false⟩
 else if q.kind=0 then ⟨[p],[⟨0,1,[],Edit.nil⟩],false,false⟩
 else if p.kind=1/\q.kind=1 then ⟨[],[],false,!Z7Q p.l q.l⟩
 else if p.kind=1 then ⟨[],[],true,!(doE false q.e (p.l.getD 0 Tree.nil)).isSome⟩
 else if q.kind=1 then ⟨[],[],true,!(doE false p.e (q.l.getD 0 Tree.nil)).isSome⟩
 else ⟨[Z4q (f p.e q.e).x],[Z4q (f p.e q.e).y],(f p.e q.e).c,(f p.e q.e).a⟩
def Z1n(f:Edit->Edit->Lft):List Piece->List Tree->List Tree->PL
 | [],m,h=> JL m h
 | x ::r,m,h=>
  if x.of=1 then Z1n f r (m++x.p.l) h
  else if x.of=2 then Z1n f r m (h++x.q.l)
  else ((JL m h).app (ZE f x.p x.q)).app (Z1n f r [] [])
def Z0y(list:Int)(l:List Op):Edit:=if (l.any fun o=> !decide (o.kind=0))=true then .mk 3 Tree.nil Tree.nil [] [] list l else Edit.nil
def Z3o(f:Edit->Edit->Lft)(p q:Edit):Lft:=
 if (ZM 2 2 p.ops q.ops []).2.1=true then
  ⟨Z0y p.list (Z1n f (ZM 2 2 p.ops q.ops []).1 [] []).x,Z0y p.list (Z1n f (ZM 2 2 p.ops q.ops []).1 [] []).y,(Z1n f (ZM 2 2 p.ops q.ops []).1 [] []).c,(Z1n f (ZM 2 2 p.ops q.ops []).1 [] []).a⟩
 else ⟨Edit.nil,Edit.nil,false,true⟩
def Yo(f:Edit->Edit->Lft)(p q:Edit):Lft:=
 if p.kind=0\/q.kind=0 then ⟨p,q,false,false⟩
 else if p.kind=1 then Z09 q p.old p.new
 else if q.kind=1 then Z09 p q.old q.new
 else if p.kind≠q.kind\/p.list≠q.list then ⟨Edit.nil,Edit.nil,false,true⟩
 else if p.kind=2 then Z4x f p q
 else Z3o f p q
def lbF:Nat->Edit->Edit->Lft
 | 0,_,_=> ⟨Edit.nil,Edit.nil,false,false⟩
 | n+1,p,q=> Yo (lbF n) p q
def lbE(p q:Edit):Lft:=lbF (Za p+Za q) p q
def lbN(p q:Edit):Edit × Edit × Int:=
 if (lbE (Zi p) (Zi q)).a=true then (Edit.nil,Edit.nil,14)
 else if (lbE (Zi p) (Zi q)).c=true then (Edit.nil,Edit.nil,13)
 else (Zi (lbE (Zi p) (Zi q)).x,Zi (lbE (Zi p) (Zi q)).y,0)
def Jd{α:Type}(f:α->Bool):List α->Int->Int
 | [],_=> -1
 | a ::r,i=> if f a=true then i else Jd f r (i+1)
end
structure POk2 (p q:List Op) (x:Piece):Prop where
 of:x.of=0\/x.of=1\/x.of=2
 pp:x.of≠2->Part p x.p/\ZP x.p
 qq:x.of≠1->Part q x.q/\ZP x.q
 one:x.of=1->x.p.kind=2
 two:x.of=2->x.q.kind=2
 both:x.of=0->x.p.kind≠2/\x.q.kind≠2/\Z2 x.p=Z2 x.q
 pn:x.of=2->x.p=Op.nil
 qn:x.of=1->x.q=Op.nil
theorem POk2.mono{p q p' q':List Op}{x:Piece}(h:POk2 p q x)(hp:∀ x∈p,Part p' x)(hq:∀ x∈q,Part q' x):POk2 p' q' x:=
 ⟨h.of,fun e=> ⟨(h.pp e).1.mono hp,(h.pp e).2⟩,fun e=> ⟨(h.qq e).1.mono hq,(h.qq e).2⟩,h.one,h.two,h.both,h.pn,h.qn⟩
theorem ZfU:∀ (k:Nat) (p q:List Op) (out:List Piece),p.length+q.length<=k->(∀ o∈p,ZP o)->(∀ o∈q,ZP o)->
  ((ZM 2 2 p q out).2.1=true->∃ ps,(ZM 2 2 p q out).1=out++ps/\(∀ x∈ps,POk2 p q x)/\(∀ s m,Run p s m↔Run (Z6X ps) s m)/\∀ s m,Run q s m↔Run (Z6W ps) s m)/\
  ((ZM 2 2 p q out).2.1=false->∀ s u v,Run p s u->Run q s v->False):=by
 intro k
 induction k with
 | zero=>
  intro p q out hk hp hq
  have e1:p=[]:=Q6 V0
  have e2:q=[]:=Q6 V0
  subst e1 e2
  have e:ZM 2 2 [] [] out=(out,true,[],[]):=by
   rw [ZM,dif_neg (by simp [sgl]),dif_neg (by simp [sgl]),dif_pos (by simp)]
   try rfl
  rw [e]
  exact ⟨fun _=> ⟨[],by simp,fun x hx=> (by cases hx),fun s m=> QJ,fun s m=> QJ⟩,fun h=> by cases h⟩
 | succ k ih=>
  intro p q out hk hp hq
  rw [ZM]
  by_cases h1:sgl 2 p=true
  .rw [dif_pos h1]
   obtain ⟨g1,g2⟩:=YT.1 h1
   cases p with
   | nil=> grind
   | cons a p'=>
    simp only [Qk] at g2
    simp only [Qk,QH,X6]
    have ha:=hp a Q8
    obtain ⟨i1,i2⟩:=ih p' q (out++[⟨1,a,Op.nil⟩]) (by grind) (fun o ho=> hp o (Q7 _ ho)) hq
    refine ⟨fun h=> ?_,fun h s u v r1 r2=> ?_⟩
    .obtain ⟨ps,e,af,hP,hQ⟩:=i1 h
     refine ⟨⟨1,a,Op.nil⟩ ::ps,by grind,fun x hx=> ?_,fun s m=> ?_,fun s m=> hQ s m⟩
     .rcases Q9.1 hx with rfl | hx
      .exact ⟨.inr (.inl rfl),fun _=> ⟨Part.self Q8,ha⟩,fun e=> absurd rfl e,fun _=> g2,fun e=> (by cases e),fun e=> (by cases e),fun e=> (by cases e),fun _=> rfl⟩
      .exact (af x hx).mono (fun x hx=> Part.self (Q7 _ hx)) (fun x hx=> Part.self hx)
     .show _↔Run (a ::Z6X ps) s m
      exact Z5P hP (J6 ha) s m
    .obtain ⟨d',_,hr⟩:=(YU g2).1 r1
     grind
  .rw [dif_neg h1]
   by_cases h2:sgl 2 q=true
   .rw [dif_pos h2]
    obtain ⟨g1,g2⟩:=YT.1 h2
    cases q with
    | nil=> grind
    | cons a q'=>
     simp only [Qk] at g2
     simp only [Qk,QH,X6]
     have ha:=hq a Q8
     obtain ⟨i1,i2⟩:=ih p q' (out++[⟨2,Op.nil,a⟩]) (by grind) hp (fun o ho=> hq o (Q7 _ ho))
     refine ⟨fun h=> ?_,fun h s u v r1 r2=> ?_⟩
     .obtain ⟨ps,e,af,hP,hQ⟩:=i1 h
      refine ⟨⟨2,Op.nil,a⟩ ::ps,by grind,fun x hx=> ?_,fun s m=> hP s m,fun s m=> ?_⟩
      .rcases Q9.1 hx with rfl | hx
       .exact ⟨.inr (.inr rfl),fun e=> absurd rfl e,fun _=> ⟨Part.self Q8,ha⟩,fun e=> (by cases e),fun _=> g2,fun e=> (by cases e),fun _=> rfl,fun e=> (by cases e)⟩
       .exact (af x hx).mono (fun x hx=> Part.self hx) (fun x hx=> Part.self (Q7 _ hx))
      .show _↔Run (a ::Z6W ps) s m
       exact Z5P hQ (J6 ha) s m
     .obtain ⟨d',_,hr⟩:=(YU g2).1 r2
      grind
   .rw [dif_neg h2]
    by_cases h3:p.length=0\/q.length=0
    .rw [dif_pos h3]
     by_cases h4:p.length=0
     .have e1:p=[]:=Q6 h4
      subst e1
      by_cases h5:q.length=0
      .have e2:q=[]:=Q6 h5
       subst e2
       rw [if_pos rfl]
       exact ⟨fun _=> ⟨[],by simp,fun x hx=> (by cases hx),fun s m=> QJ,fun m d=> QJ⟩,fun h=> by cases h⟩
      .rw [if_neg (by grind)]
       refine ⟨fun h=> (by cases h),fun _ s u v r1 r2=> ?_⟩
       cases q with
       | nil=> exact h5 rfl
       | cons a q'=>
        have ha:=hq a Q8
        obtain ⟨rfl,_⟩:=Y8 r1
        obtain ⟨m1,m',d',e,hl,_⟩:=Z7e ha (fun e=> h2 (YT.2 ⟨by simp,by simpa using e⟩)) r2
        have:=ZB ha
        have e:=congrArg List.length e
        grind
     .have h5:q.length=0:=V0
      have e2:q=[]:=Q6 h5
      subst e2
      rw [if_neg (by grind)]
      refine ⟨fun h=> (by cases h),fun _ s u v r1 r2=> ?_⟩
      cases p with
      | nil=> exact h4 rfl
      | cons a p'=>
       have ha:=hp a Q8
       obtain ⟨rfl,_⟩:=Y8 r2
       obtain ⟨m1,m',d',e,hl,_⟩:=Z7e ha (fun e=> h1 (YT.2 ⟨by simp,by simpa using e⟩)) r1
       have:=ZB ha
       have e:=congrArg List.length e
       grind
    .rw [dif_neg h3]
     cases p with
     | nil=> simp at h3
     | cons a p'=>
      cases q with
      | nil=> simp at h3
      | cons b q'=>
       have ha:=hp a Q8
       have hb:=hq b Q8
       have ka:a.kind≠2:=fun e=> h1 (YT.2 ⟨by simp,by simpa using e⟩)
       have kb:b.kind≠2:=fun e=> h2 (YT.2 ⟨by simp,by simpa using e⟩)
       have la:=ZB ha
       have lb:=ZB hb
       simp only [Qk]
       generalize hn:min (Z2 a) (Z2 b)=n
       have au:1<=n:=V0
       have ay:n<=Z2 a:=V0
       have az:n<=Z2 b:=V0
       obtain ⟨a1,a2,a3,a4,a5,a6⟩:=Z36 hp au ay
       obtain ⟨b1,b2,b3,b4,b5,b6⟩:=Z36 hq au az
       have a0:(ZC (a ::p') n).length+(ZC (b ::q') n).length<=k:=by
        have x1:=Yh (a ::p') n (by simp)
        have x2:=Yh (b ::q') n (by simp)
        simp only [Qs] at hk x1 x2
        rcases Int.le_total (Z2 a) (Z2 b) with h | h
        .have:=Yg (a ::p') n (by simp) (by grind)
         grind
        .have:=Yg (b ::q') n (by simp) (by grind)
         grind
       obtain ⟨i1,i2⟩:=ih (ZC (a ::p') n) (ZC (b ::q') n) (out++[⟨0,Zt a n,Zt b n⟩]) a0 (fun o ho=> (a5 o ho).1) (fun o ho=> (b5 o ho).1)
       refine ⟨fun h=> ?_,fun h s u v r1 r2=> ?_⟩
       .obtain ⟨ps,e,af,hP,hQ⟩:=i1 h
        refine ⟨⟨0,Zt a n,Zt b n⟩ ::ps,by grind,fun x hx=> ?_,fun s m=> ?_,fun s m=> ?_⟩
        .rcases Q9.1 hx with rfl | hx
         .exact ⟨.inl rfl,fun _=> ⟨a4,a1⟩,fun _=> ⟨b4,b1⟩,fun e=> (by cases e),fun e=> (by cases e),fun _=> ⟨by grind,by grind,by grind⟩,fun e=> (by cases e),fun e=> (by cases e)⟩
         .exact (af x hx).mono (fun x hx=> (a5 x hx).2) (fun x hx=> (b5 x hx).2)
        .rw [a6 s m]
         exact Z5P hP (J6 a1) s m
        .rw [b6 s m]
         exact Z5P hQ (J6 b1) s m
       .rw [a6] at r1
        rw [b6] at r2
        obtain ⟨m1,s1,d1,e,hl,r3⟩:=Z7e a1 V0 r1
        obtain ⟨m2,s2,d2,e',bn,r4⟩:=Z7e b1 V0 r2
        obtain ⟨_,e2⟩:=Ki (e.symm.trans e') V0
        grind
theorem Z4a{α:Type}(at_:α->Int)(n:Int):∀ (l:List α) (o:Option α),l.foldl (fun o b=> if at_ b=n then some b else o) o=match Z2y at_ l n with
  | some b=> some b
  | none=> o
 | [],o=> rfl
 | a ::r,o=> by
  unfold Z2y
  simp only [K5]
  rw [Z4a at_ n r,Z4a at_ n r (if at_ a=n then some a else none)]
  grind
theorem Z3r{α:Type}(at_:α->Int)(n:Int):∀ (l:List α) (b:α),Z2y at_ l n=some b->b∈l/\at_ b=n
 | [],b,h=> by cases h
 | a ::r,b,h=> by
  unfold Z2y at h
  rw [K5,Z4a] at h
  cases hr:Z2y at_ r n with
  | some c=>
   rw [hr] at h;cases h
   obtain ⟨s,d⟩:=Z3r at_ n r b hr
   grind
  | none=>
   grind
theorem Z4i{α:Type}{at_:α->Int}{f g:α->α->α}{q:List α}{a:α}(h:∀ b∈q,f a b=g a b):Yq at_ f q a=Yq at_ g q a:=by
 unfold Yq
 cases hb:Z2y at_ q (at_ a) with
 | none=> rfl
 | some b=> exact h b (Z3r at_ _ q b hb).1
theorem Zf7{α:Type}{at_:α->Int}{f g:α->α->Bool}{p q:List α}(h:∀ a∈p,∀ b∈q,f a b=g a b):JO at_ f p q=JO at_ g p q:=by
 unfold JO
 grind
theorem ZqH{p q:List Op}{x:Piece}(hx:POk2 p q x)(h0:x.of=0)(kp:x.p.kind=3)(kq:x.q.kind=3):∃ a∈p,∃ b∈q,a.kind=3/\b.kind=3/\x.p.e=a.e/\x.q.e=b.e:=by
 obtain ⟨⟨a,ma,d,ea,_⟩,_⟩:=hx.pp V0
 obtain ⟨⟨b,h,s,u,_⟩,_⟩:=hx.qq V0
 grind
theorem ZhJ{f g:Edit->Edit->Lft}{p q:Op}(h:p.kind=3->q.kind=3->f p.e q.e=g p.e q.e)(hp:kOk p)(hq:kOk q)(p2:p.kind≠2)(q2:q.kind≠2):ZE f p q=ZE g p q:=by
 unfold ZE
 by_cases h1:p.kind=0/\q.kind=1
 .grind
 by_cases h2:p.kind=1/\q.kind=0
 .grind
 by_cases h3:p.kind=0
 .grind
 by_cases h4:q.kind=0
 .grind
 rw [if_neg h1,if_neg h1,if_neg h2,if_neg h2,if_neg h3,if_neg h3,if_neg h4,if_neg h4]
 by_cases h5:p.kind=1/\q.kind=1
 .grind
 by_cases h6:p.kind=1
 .grind
 by_cases h7:q.kind=1
 .grind
 have d:p.kind=3:=by unfold kOk at hp;omega
 have s:q.kind=3:=by unfold kOk at hq;omega
 rw [h d s]
theorem Ze5{f g:Edit->Edit->Lft}{p q:List Op}(h:∀ a∈p,∀ b∈q,a.kind=3->b.kind=3->f a.e b.e=g a.e b.e):∀ {ps:List Piece},(∀ x∈ps,POk2 p q x)->∀ m n,Z1n f ps m n=Z1n g ps m n
 | [],_,_,_=> rfl
 | x ::r,hps,m,n=> by
  have ih:=fun m n=> Ze5 h (fun y hy=> hps y (Q7 _ hy)) (ps:=r) m n
  have d:=hps x Q8
  simp only [Z1n,ih]
  by_cases h1:x.of=1
  .grind
  by_cases h2:x.of=2
  .grind
  have s:x.of=0:=by rcases d.of with h | h | h <;> omega
  obtain ⟨u,b2,_⟩:=d.both s
  rw [if_neg h1,if_neg h1,if_neg h2,if_neg h2,ZhJ (f:=f) (g:=g) (fun kp kq=> ?_) (J6 (d.pp h2).2) (J6 (d.qq h1).2) u b2]
  obtain ⟨a,ma,b,mb,ka,kb,ea,eb⟩:=ZqH d s kp kq
  grind
theorem Z95 {f g:Edit->Edit->Lft} {p q:Edit} {d d':Int} (hp:Z5 p d=true) (hq:Z5 q d'=true)
  (h:∀ a b,Za a+Za b < Za p+Za q->(∃ d,Z5 a d=true)->(∃ d,Z5 b d=true)->f a b=g a b):Yo f p q=Yo g p q:=by
 have rp:=Zn hp
 have rq:=Zn hq
 have hk:∀ a∈p.kids,∀ b∈q.kids,f a.e b.e=g a.e b.e:=by
  intro a u b s
  have:=Yc u
  have:=Yc s
  exact h _ _ V0 ⟨_,(Zv rp.kids a u).2⟩ ⟨_,(Zv rq.kids b s).2⟩
 have hs:Z4x f p q=Z4x g p q:=by
  unfold Z4x
  rw [Zf7 (at_:=KidOf.at_) (f:=fun a b:Kid=> (f a.e b.e).c) (g:=fun a b=> (g a.e b.e).c) fun a u b s=> by rw [hk a u b s],
   Zf7 (at_:=KidOf.at_) (f:=fun a b:Kid=> (f a.e b.e).a) (g:=fun a b=> (g a.e b.e).a) fun a u b s=> by rw [hk a u b s],
   Xz (f:=Yq KidOf.at_ (fun a b:Kid=> ⟨a.at_,(f a.e b.e).x⟩) q.kids) (g:=Yq KidOf.at_ (fun a b:Kid=> ⟨a.at_,(g a.e b.e).x⟩) q.kids) fun a u=> Z4i fun b s=> by rw [hk a u b s],
   Xz (f:=Yq KidOf.at_ (fun b a:Kid=> ⟨b.at_,(f a.e b.e).y⟩) p.kids) (g:=Yq KidOf.at_ (fun b a:Kid=> ⟨b.at_,(g a.e b.e).y⟩) p.kids) fun b s=> Z4i fun a u=> by rw [hk a u b s]]
 have ho:Z3o f p q=Z3o g p q:=by
  unfold Z3o
  obtain ⟨i1,_⟩:=ZfU _ p.ops q.ops [] (Qf _) (JE hp) (JE hq)
  by_cases s:(ZM 2 2 p.ops q.ops []).2.1=true
  .rw [if_pos s,if_pos s]
   obtain ⟨ps,e,ab,_,_⟩:=i1 s
   rw [e,QV,Ze5 (f:=f) (g:=g) (fun a u b s ka kb=> ?_) ab]
   have:=YY u
   have:=YY s
   exact h _ _ V0 ⟨_,J4 (rightOs_mem rp.ops u) ka⟩ ⟨_,J4 (rightOs_mem rq.ops s) kb⟩
  .grind
 unfold Yo
 rw [hs,ho]
theorem Zk0:∀ (n m:Nat) (p q:Edit) (d s:Int),Z5 p d=true->Z5 q s=true->Za p+Za q<=n->n<=m->lbF m p q=lbF n p q:=by
 intro n
 induction n with
 | zero=> intro m p q d s _ _ h;obtain ⟨k,o,nw,w,ks,l,os⟩:=p;simp only [Za] at h;omega
 | succ n ih=>
  intro m p q d s hp hq h hm
  obtain ⟨m,rfl⟩:∃ k,m=k+1:=⟨m - 1,V0⟩
  show Yo (lbF m) p q=Yo (lbF n) p q
  exact Z95 hp hq fun a b ab ⟨d1,u⟩ ⟨d2,h2⟩=> ih m a b d1 d2 u h2 V0 V0
theorem ZuN{p q:Edit}{d d':Int}(hp:Z5 p d=true)(hq:Z5 q d'=true):lbE p q=Yo lbE p q:=by
 have e:lbE p q=lbF (Za p+Za q+1) p q:=(Zk0 _ _ p q d d' hp hq (Qf _) V0).symm
 rw [e]
 show Yo (lbF (Za p+Za q)) p q=Yo lbE p q
 exact Z95 hp hq fun a b s ⟨d1,h⟩ ⟨d2,u⟩=> Zk0 _ _ a b d1 d2 h u (Qf _) V0
section
variable {α:Type} {at_:α->Int}
theorem Zet{β:Type}{F G:Nat->α->β}{l:List α}{i:Nat}{v:β}(hF:∀ k a,k≠i->l[k]?=some a->F k a=G k a)(hv:∀ a,l[i]?=some a->G i a=v):(l.mapIdx F).set i v=l.mapIdx G:=by
 apply XB
 grind
theorem Ji{β:Type}{F G:Nat->α->β}{l:List α}(hF:∀ k a,l[k]?=some a->F k a=G k a):l.mapIdx F=l.mapIdx G:=by
 apply XB
 grind
theorem Z48{β:Type}(F:α->β)(l:List α):l.mapIdx (fun _ a=> F a)=l.map F:=by
 apply XB
 grind
def ZyF(at_:α->Int)(f:α->α->α)(p q:List α)(i j:Nat):List α:=p.mapIdx fun k a=> if k < i then Yq at_ f q a else if k=i then Yq at_ f (q.take j) a else a
def ZyE(at_:α->Int)(f:α->α->α)(p q:List α)(i j:Nat):List α:=q.mapIdx fun k b=> Yq at_ f (p.take (if k < j then i+1 else i)) b
def ZbN(at_:α->Int)(g:α->α->Bool)(p q:List α)(i j:Nat):Bool:=JO at_ g (p.take i) q || JO at_ g ((p.drop i).take 1) (q.take j)
theorem Z6H(f:α->α->α)(q:List α)(b a:α):Yq at_ f (q++[b]) a=if at_ b=at_ a then f a b else Yq at_ f q a:=by
 unfold Yq Z2y
 grind
theorem Z0J{f:α->α->α}(hf:∀ a b,at_ (f a b)=at_ a)(q:List α)(a:α):at_ (Yq at_ f q a)=at_ a:=by
 unfold Yq
 grind
theorem getD_some{l:List α}{i:Nat}{a:α}(h:l[i]?=some a)(z:α):l.getD i z=a:=by grind
structure SInv (at_:α->Int) (f fy:α->α->α) (gc ga:α->α->Bool) (mc ma:Bool) (p q:List α) (i j:Nat) (c a:Bool) (X Y:List α):Prop where
 ec:c=(mc || ZbN at_ gc p q i j)
 ea:a=(ma || ZbN at_ ga p q i j)
 eX:X=ZyF at_ f p q i j
 eY:Y=ZyE at_ fy p q i j
variable {f fy:α->α->α} {gc ga:α->α->Bool} {mc ma:Bool} {p q:List α} {i j:Nat} {c a:Bool} {X Y:List α}
theorem SInv.lx(h:SInv at_ f fy gc ga mc ma p q i j c a X Y):X.length=p.length:=by rw [h.eX];exact List.length_mapIdx
theorem SInv.ly(h:SInv at_ f fy gc ga mc ma p q i j c a X Y):Y.length=q.length:=by rw [h.eY];exact List.length_mapIdx
theorem SInv.init:SInv at_ f fy gc ga mc ma p q 0 0 mc ma p q:=by
 refine ⟨?_,?_,?_,?_⟩
 .cases p <;> simp [ZbN,JO]
 .cases p <;> simp [ZbN,JO]
 .unfold ZyF
  rw [Ji (G:=fun _ a=> id a) fun k a d=> ?_,Z48,List.map_id]
  .rw [Jk];split <;> rfl
 .unfold ZyE
  rw [Ji (G:=fun _ a=> id a) fun k a d=> ?_,Z48,List.map_id]
  try rfl
theorem Zw6(g:α->α->Bool)(p:List α)(q:List α)(b:α):JO at_ g p (q++[b])=(JO at_ g p q || JO at_ g p [b]):=by
 rw [Qo]
 simp only [JO,XZ,XM,Qg,Qp,Q4,decide_eq_true_eq]
 grind
theorem ZyK(g:α->α->Bool)(p p' q:List α):JO at_ g (p++p') q=(JO at_ g p q || JO at_ g p' q):=by unfold JO;grind
theorem ZcQ{l:List α}{i:Nat}(h:i < l.length):(l.drop i).take 1=[l[i]]:=by rw [QI h];try rfl
theorem Z6L(g:α->α->Bool){p q:List α}{i j:Nat}(hi:i < p.length)(hj:j < q.length):ZbN at_ g p q i (j+1)=(ZbN at_ g p q i j || decide (at_ p[i]=at_ q[j]) && g p[i] q[j]):=by
 unfold ZbN
 rw [Xa hj,Zw6,ZcQ hi,<-XW]
 congr 1
 simp [JO]
theorem SInv.step(h:SInv at_ f fy gc ga mc ma p q i j c a X Y)(hi:i < p.length)(hj:j < q.length)(z:α):
  (at_ (p.getD i z)=at_ (q.getD j z)->SInv at_ f fy gc ga mc ma p q i (j+1) (c || gc (p.getD i z) (q.getD j z)) (a || ga (p.getD i z) (q.getD j z)) (X.set i (f (p.getD i z) (q.getD j z))) (Y.set j (fy (q.getD j z) (p.getD i z))))/\
  (¬at_ (p.getD i z)=at_ (q.getD j z)->SInv at_ f fy gc ga mc ma p q i (j+1) c a X Y):=by
 have ep:p.getD i z=p[i]:=getD_some (Q0 hi) z
 have eq:q.getD j z=q[j]:=getD_some (Q0 hj) z
 rw [ep,eq]
 obtain ⟨ec,ea,eX,eY⟩:=h
 have u:p.take (i+1)=p.take i++[p[i]]:=Xa hi
 have s:q.take (j+1)=q.take j++[q[j]]:=Xa hj
 refine ⟨fun e=> ⟨?_,?_,?_,?_⟩,fun e=> ⟨?_,?_,?_,?_⟩⟩
 .rw [Z6L gc hi hj,ec,decide_eq_true e,QB,XW]
 .rw [Z6L ga hi hj,ea,decide_eq_true e,QB,XW]
 .rw [eX]
  refine Zet (fun k b hk _=> ?_) fun b d=> ?_
  .grind
  .rw [Q0 hi] at d
   cases d
   rw [Jk,if_pos rfl,s,Z6H,if_pos e.symm]
 .rw [eY]
  refine Zet (fun k b hk _=> ?_) fun b d=> ?_
  .grind
  .rw [Q0 hj] at d
   cases d
   rw [Yu,u,Z6H,if_pos e]
 .rw [Z6L gc hi hj,ec,decide_eq_false e,XP,Qx]
 .rw [Z6L ga hi hj,ea,decide_eq_false e,XP,Qx]
 .rw [eX]
  refine Ji fun k b d=> ?_
  by_cases h:k=i
  .subst h
   rw [Q0 hi] at d
   cases d
   rw [Jk,if_pos rfl,Jk,if_pos rfl,s,Z6H,if_neg (fun x=> e x.symm)]
  grind
 .rw [eY]
  refine Ji fun k b d=> ?_
  by_cases h:k=j
  .subst h
   rw [Q0 hj] at d
   cases d
   rw [Jk,Yu,u,Z6H,if_neg e]
  grind
theorem SInv.next(h:SInv at_ f fy gc ga mc ma p q i q.length c a X Y)(hi:i < p.length):SInv at_ f fy gc ga mc ma p q (i+1) 0 c a X Y:=by
 obtain ⟨ec,ea,eX,eY⟩:=h
 have d:∀ g:α->α->Bool,ZbN at_ g p q i q.length=ZbN at_ g p q (i+1) 0:=by
  intro g
  unfold ZbN
  rw [Kd,List.take_zero,Xa hi,ZyK,ZcQ hi]
  have:JO at_ g ((p.drop (i+1)).take 1) []=false:=by simp [JO]
  grind
 refine ⟨by rw [ec,d],by rw [ea,d],?_,?_⟩
 .rw [eX]
  refine Ji fun k b s=> ?_
  by_cases h:k < i
  .grind
  .by_cases h2:k=i
   .grind
   .rw [if_neg h,if_neg h2,Jk]
    split <;> rfl
 .rw [eY]
  refine Ji fun k b s=> ?_
  grind
theorem SInv.fin(h:SInv at_ f fy gc ga mc ma p q p.length 0 c a X Y):c=(mc || JO at_ gc p q)/\a=(ma || JO at_ ga p q)/\X=p.map (Yq at_ f q)/\Y=q.map (Yq at_ fy p):=by
 obtain ⟨ec,ea,eX,eY⟩:=h
 have d:∀ g:α->α->Bool,ZbN at_ g p q p.length 0=JO at_ g p q:=by
  intro g
  unfold ZbN
  rw [Kd,List.drop_length]
  simp [JO]
 refine ⟨by rw [ec,d],by rw [ea,d],?_,?_⟩
 .rw [eX]
  unfold ZyF
  rw [Ji (G:=fun _ a=> Yq at_ f q a) fun k b s=> by rw [if_pos (Q5.1 s).1],Z48]
 .rw [eY]
  unfold ZyE
  rw [Ji (G:=fun _ a=> Yq at_ fy p a) fun k b s=> by rw [Jk,Kd],Z48]
theorem SInv.at_x(h:SInv at_ f fy gc ga mc ma p q i j c a X Y)(hf:∀ a b,at_ (f a b)=at_ a)(hi:i < p.length)(z:α):at_ (X.getD i z)=at_ (p.getD i z):=by
 rw [h.eX,getD_some (a:=Yq at_ f (q.take j) p[i]) (by rw [ZyF,List.getElem?_mapIdx,Q0 hi,Qe,Jk,if_pos rfl]),getD_some (Q0 hi),Z0J hf]
theorem SInv.at_y(h:SInv at_ f fy gc ga mc ma p q i j c a X Y)(hf:∀ a b,at_ (fy a b)=at_ a)(hj:j < q.length)(z:α):at_ (Y.getD j z)=at_ (q.getD j z):=by
 rw [h.eY,getD_some (a:=Yq at_ fy (p.take i) q[j]) (by rw [ZyE,List.getElem?_mapIdx,Q0 hj,Qe,Jk]),getD_some (Q0 hj),Z0J hf]
end
end Go.AM.YtpjenobkibfpcaaGreat
namespace Go.AM.YtpjenobkibfpcaaGreat
open Go.AM Go.Proofs
def Lft.swap(L:Lft):Lft:=⟨L.y,L.x,L.c,L.a⟩
def PL.swap(L:PL):PL:=⟨L.y,L.x,L.c,L.a⟩
inductive Lay (f:Edit->Edit->Lft):List Op->List Op->List Tree->List Tree->PL->Prop
 | nil (m h):Lay f [] [] m h (JL m h)
 | left {a p q m h S}:a.kind=2->Lay f p q (m++a.l) h S->Lay f (a ::p) q m h S
 | right {p b q m h S}:(∀ a∈p.head?,a.kind≠2)->b.kind=2->Lay f p q m (h++b.l) S->Lay f p (b ::q) m h S
 | both {a p b q m h S n}:a.kind≠2->b.kind≠2->n=min (Z2 a) (Z2 b)->Lay f (ZC (a ::p) n) (ZC (b ::q) n) [] [] S->
   Lay f (a ::p) (b ::q) m h (((JL m h).app (ZE f (Zt a n) (Zt b n))).app S)
section
variable {f:Edit->Edit->Lft}
theorem Z5F{p:List Op}{n:Int}(h:∀ x∈p,ZP x)(hl:p.length≠0)(h1:1<=n):∀ o∈ZC p n,ZP o:=by
 cases p with
 | nil=> grind
 | cons o r=>
  unfold ZC
  simp only [Qk,QH,X6]
  split
  .grind
  .rename_i s
   intro x d
   rcases Q9.1 d with rfl | d
   .exact (Z9G (h o Q8) h1 s).1
   grind
theorem Jq{a:Op}{p:List Op}{n:Int}{o:Op}(h:o∈ZC (a ::p) n):o∈p\/o=YR a n:=by
 unfold ZC at h
 grind
theorem Z1f(a:Op)(n:Int):(YR a n).e=a.e:=by unfold YR;split <;> rfl
theorem Z1I(a:Op)(n:Int):(Zt a n).e=a.e:=by unfold Zt;grind
theorem ZmH{a b:Op}{p q:List Op}{n:Int}(hn:n=min (Z2 a) (Z2 b)):(ZC (a ::p) n).length+(ZC (b ::q) n).length < (a ::p).length+(b ::q).length:=by
 have d:=Yh (a ::p) n (by simp)
 have s:=Yh (b ::q) n (by simp)
 rcases Int.le_total (Z2 a) (Z2 b) with h | h
 .have:=Yg (a ::p) n (by simp) (by grind)
  omega
 .have:=Yg (b ::q) n (by simp) (by grind)
  omega
theorem ZeE:∀ (k:Nat) (p q:List Op) (out:List Piece),p.length+q.length<=k->(ZM 2 2 p q out).2.1=true->∃ s,(ZM 2 2 p q out).1=out++s/\∀ m h,Lay f p q m h (Z1n f s m h):=by
 intro k
 induction k with
 | zero=>
  intro p q out hk d
  have e1:p=[]:=Q6 V0
  have e2:q=[]:=Q6 V0
  subst e1 e2
  rw [ZM,dif_neg (by simp [sgl]),dif_neg (by simp [sgl]),dif_pos (by simp)]
  exact ⟨[],by simp,fun m h=> .nil m h⟩
 | succ k ih=>
  intro p q out hk d
  rw [ZM] at d ⊢
  by_cases h1:sgl 2 p=true
  .rw [dif_pos h1] at d ⊢
   obtain ⟨g1,u⟩:=YT.1 h1
   cases p with
   | nil=> grind
   | cons a p'=>
    simp only [Qk,QH,X6] at u d ⊢
    obtain ⟨s,e,hL⟩:=ih p' q _ (by grind) d
    exact ⟨⟨1,a,Op.nil⟩ ::s,by grind,fun m h=> .left u (hL _ _)⟩
  .rw [dif_neg h1] at d ⊢
   have np:∀ a∈p.head?,a.kind≠2:=by
    intro a ha e
    cases p with
    | nil=> cases ha
    | cons a' p'=> cases ha;exact h1 (YT.2 ⟨by simp,by simpa using e⟩)
   by_cases h2:sgl 2 q=true
   .rw [dif_pos h2] at d ⊢
    obtain ⟨g1,u⟩:=YT.1 h2
    cases q with
    | nil=> grind
    | cons b q'=>
     simp only [Qk,QH,X6] at u d ⊢
     obtain ⟨s,e,hL⟩:=ih p q' _ (by grind) d
     exact ⟨⟨2,Op.nil,b⟩ ::s,by grind,fun m h=> .right np u (hL _ _)⟩
   .rw [dif_neg h2] at d ⊢
    by_cases h3:p.length=0\/q.length=0
    .rw [dif_pos h3] at d ⊢
     by_cases h4:decide (p.length=0)=decide (q.length=0)
     .rw [if_pos h4]
      have h5:p.length=0/\q.length=0:=by
       have:=decide_eq_decide.1 h4
       omega
      rw [Q6 h5.1,Q6 h5.2]
      exact ⟨[],by simp,fun m h=> .nil m h⟩
     grind
    .rw [dif_neg h3] at d ⊢
     cases p with
     | nil=> simp at h3
     | cons a p'=>
      cases q with
      | nil=> simp at h3
      | cons b q'=>
       simp only [Qk] at d ⊢
       have aj:=ZmH (a:=a) (b:=b) (p:=p') (q:=q') rfl
       obtain ⟨s,e,hL⟩:=ih _ _ _ V0 d
       exact ⟨⟨0,_,_⟩ ::s,by rw [e,Qi];rfl,fun m h=> .both (np a rfl) (fun e=> h2 (YT.2 ⟨by simp,by simpa using e⟩)) rfl (hL [] [])⟩
theorem ZlR{p q:List Op}{m h:List Tree}{S:PL}(H:Lay f p q m h S):∀ out,(ZM 2 2 p q out).2.1=true/\∃ d,(ZM 2 2 p q out).1=out++d/\S=Z1n f d m h:=by
 induction H with
 | nil m h=>
  intro out
  rw [ZM,dif_neg (by simp [sgl]),dif_neg (by simp [sgl]),dif_pos (by simp)]
  exact ⟨rfl,[],by simp,rfl⟩
 | left k2 _ ih=>
  intro out
  rw [ZM,dif_pos (YT.2 ⟨by simp,by simpa using k2⟩)]
  simp only [Qk,QH,X6]
  obtain ⟨u,d,h2,s⟩:=ih (out++[⟨1,_,Op.nil⟩])
  exact ⟨u,⟨1,_,Op.nil⟩ ::d,by grind,s⟩
 | right np k2 _ ih=>
  rename_i p b q m h S _
  intro out
  have n1:¬sgl 2 p=true:=by
   intro e
   obtain ⟨g1,g2⟩:=YT.1 e
   cases p with
   | nil=> exact g1 rfl
   | cons a p'=> grind
  rw [ZM,dif_neg n1,dif_pos (YT.2 ⟨by simp,by simpa using k2⟩)]
  simp only [Qk,QH,X6]
  obtain ⟨u,d,h2,s⟩:=ih (out++[⟨2,Op.nil,_⟩])
  exact ⟨u,⟨2,Op.nil,_⟩ ::d,by grind,s⟩
 | both ka kb hn _ ih=>
  intro out
  subst hn
  rw [ZM,dif_neg (fun e=> ka (by simpa using (YT.1 e).2)),dif_neg (fun e=> kb (by simpa using (YT.1 e).2)),dif_neg (by simp)]
  simp only [Qk]
  obtain ⟨u,d,h2,s⟩:=ih (out++[⟨0,_,_⟩])
  exact ⟨u,⟨0,_,_⟩ ::d,by rw [h2,Qi];rfl,by rw [s];rfl⟩
theorem Lay.right'{b:Op}{q:List Op}(k2:b.kind=2):∀ {p:List Op} {m h:List Tree} {S:PL},Lay f p q m (h++b.l) S->Lay f p (b ::q) m h S
 | [],m,h,S,H=> .right (fun a d=> by cases d) k2 H
 | a ::p,m,h,S,H=> by
  by_cases ka:a.kind=2
  .cases H with
   | left _ H'=> exact .left ka (H'.right' k2)
   | right np _ _=> grind
   | both k _ _ _=> omega
  .exact .right (fun x s=> by grind) k2 H
theorem Zgh(m h:List Tree):JL h m=(JL m h).swap:=by
 unfold JL PL.swap
 by_cases e:m≠[]/\h≠[]
 .rw [if_pos e,if_pos e.symm]
  have:Z7Q h m=Z7Q m h:=by unfold Z7Q;rw [Bool.eq_iff_iff,Z1e,Z1e,eq_comm]
  rw [this]
 .rw [if_neg e,if_neg (fun x=> e x.symm)]
  have:m=[]\/h=[]:=by
   by_cases hm:m=[]
   .exact .inl hm
   .by_cases hh:h=[]
    .exact .inr hh
    .exact absurd ⟨hm,hh⟩ e
  rcases this with rfl | rfl <;> simp [Z4c,JU]
theorem Z24{o:Op}(h:ZP o)(k:o.kind=0):o=⟨0,o.n,[],Edit.nil⟩/\1<=o.n/\Z2 o=o.n:=by
 have:=Zck h k
 rcases h with h | h | h
 .obtain ⟨kk,nn,l,e⟩:=o
  obtain ⟨d,s,h3,u⟩:=h
  dsimp only at d s u
  subst d s u
  exact ⟨rfl,h3.1,this⟩
 .omega
 .omega
theorem Zx7{p q:Op}(a:p.kind=0)(b:q.kind=1):ZE f p q=⟨[],[q],false,false⟩:=by unfold ZE;grind
theorem Zx6{p q:Op}(a:p.kind=1)(b:q.kind=0):ZE f p q=⟨[p],[],false,false⟩:=by unfold ZE;grind
theorem pL0{p q:Op}(a:p.kind=0)(b:q.kind≠1):ZE f p q=⟨[⟨0,if q.n < 1 then 1 else q.n,[],Edit.nil⟩],[q],false,false⟩:=by unfold ZE;grind
theorem Zx3{p q:Op}(a:p.kind≠0)(a1:p.kind≠1)(b:q.kind=0):ZE f p q=⟨[p],[⟨0,1,[],Edit.nil⟩],false,false⟩:=by unfold ZE;grind
theorem Zx5{p q:Op}(a:p.kind=1)(b:q.kind=1):ZE f p q=⟨[],[],false,!Z7Q p.l q.l⟩:=by unfold ZE;grind
theorem pL1{p q:Op}(a:p.kind=1)(b:q.kind≠0)(b1:q.kind≠1):ZE f p q=⟨[],[],true,!(doE false q.e (p.l.getD 0 Tree.nil)).isSome⟩:=by unfold ZE;grind
theorem Zx2{p q:Op}(a:p.kind≠0)(a1:p.kind≠1)(b:q.kind=1):ZE f p q=⟨[],[],true,!(doE false p.e (q.l.getD 0 Tree.nil)).isSome⟩:=by unfold ZE;grind
theorem Zx4{p q:Op}(a:p.kind≠0)(a1:p.kind≠1)(b:q.kind≠0)(b1:q.kind≠1):ZE f p q=⟨[Z4q (f p.e q.e).x],[Z4q (f p.e q.e).y],(f p.e q.e).c,(f p.e q.e).a⟩:=by
 unfold ZE;grind
theorem Zcj{o:Op}(h:ZP o)(k:o.kind≠0):o.n=0:=by
 rcases h with h | h | h
 .exact absurd h.1 k
 .exact h.2.1
 .exact h.2.1
theorem ZqN(a b:List Tree):Z7Q a b=Z7Q b a:=by unfold Z7Q;rw [Bool.eq_iff_iff,Z1e,Z1e,eq_comm]
theorem Ztt{p q:Op}(op:ZP p)(oq:ZP q)(hl:Z2 p=Z2 q)(a:p.kind=0)(b:q.kind=0):p=q/\1<=p.n:=by
 obtain ⟨ep,s,h⟩:=Z24 op a
 obtain ⟨eq,u,d⟩:=Z24 oq b
 grind
theorem Zju{g:Edit->Edit->Lft}{p q:Op}(hf:p.kind=3->q.kind=3->g q.e p.e=(f p.e q.e).swap)(op:ZP p)(oq:ZP q)(hl:Z2 p=Z2 q)(p2:p.kind≠2)(q2:q.kind≠2):ZE g q p=(ZE f p q).swap:=by
 have d:=J6 op
 have h:=J6 oq
 unfold kOk at d h
 by_cases a0:p.kind=0
 .by_cases b0:q.kind=0
  .obtain ⟨e,s⟩:=Ztt op oq hl a0 b0
   subst e
   rw [pL0 a0 V0,pL0 a0 V0,if_neg (show ¬p.n < 1 by omega),<-(Z24 op a0).1]
   try rfl
  .by_cases b1:q.kind=1
   .rw [Zx6 b1 a0,Zx7 a0 b1];try rfl
   .rw [Zx3 b0 b1 a0,pL0 a0 b1,Zcj oq b0];try rfl
 .by_cases b0:q.kind=0
  .by_cases a1:p.kind=1
   .rw [Zx7 b0 a1,Zx6 a1 b0];try rfl
   .rw [pL0 b0 a1,Zx3 a0 a1 b0,Zcj op a0];try rfl
  .by_cases a1:p.kind=1
   .by_cases b1:q.kind=1
    .rw [Zx5 b1 a1,Zx5 a1 b1,ZqN];try rfl
    .rw [Zx2 b0 b1 a1,pL1 a1 b0 b1];try rfl
   .by_cases b1:q.kind=1
    .rw [pL1 b1 a0 a1,Zx2 a0 a1 b1];try rfl
    .rw [Zx4 b0 b1 a0 a1,Zx4 a0 a1 b0 b1,hf V0 V0];try rfl
theorem PL.app_swap(a b:PL):(a.app b).swap=a.swap.app b.swap:=rfl
theorem ZmG{a:Op}{p:List Op}{n:Int}(h:∀ x∈a ::p,ZP x)(h1:1<=n)(hn:n<=Z2 a):ZP (Zt a n)/\Z2 (Zt a n)=n:=by
 obtain ⟨d,s,_⟩:=Z36 h h1 hn
 grind
theorem Lay.swap{g:Edit->Edit->Lft}{p q:List Op}{m h:List Tree}{S:PL}(H:Lay f p q m h S):(∀ o∈p,ZP o)->(∀ o∈q,ZP o)->(∀ a∈p,∀ b∈q,a.kind=3->b.kind=3->g b.e a.e=(f a.e b.e).swap)->
  Lay g q p h m S.swap:=by
 induction H with
 | nil m h=> intro _ _ _;rw [<-Zgh];exact .nil h m
 | left k2 _ s=>
  intro op d hf
  exact (s (fun o ho=> op o (Q7 _ ho)) d fun a ha b hb=> hf a (Q7 _ ha) b hb).right' k2
 | right np k2 _ s=>
  intro op d hf
  exact .left k2 (s op (fun o ho=> d o (Q7 _ ho)) fun a ha b hb=> hf a ha b (Q7 _ hb))
 | both ka kb hn _ s=>
  rename_i a p b q m h S n _
  intro op d hf
  have la:=ZB (op a Q8)
  have lb:=ZB (d b Q8)
  have h1:1<=n:=V0
  obtain ⟨t1,t2⟩:=ZmG op h1 V0
  obtain ⟨t3,t4⟩:=ZmG d h1 V0
  have s:=s (Z5F op (by simp) h1) (Z5F d (by simp) h1) fun x hx y u kx ky=> by
   rcases Jq hx with hx | rfl
   .rcases Jq u with u | rfl
    .grind
    .rw [Z1f];rw [YP] at ky;grind
   .rw [Z1f];rw [YP] at kx
    rcases Jq u with u | rfl
    .grind
    .rw [Z1f];rw [YP] at ky;grind
  rw [PL.app_swap,PL.app_swap,<-Zgh,<-Zju (f:=f) (g:=g) (fun kx ky=> ?_) t1 t3 V0 (by rw [JA];exact ka) (by rw [JA];exact kb)]
  .exact .both kb ka (by rw [hn];omega) s
  .rw [JA] at kx ky
   rw [Z1I,Z1I]
   grind
end
theorem Zgt(a b:Int):Z0S a b=Z0S b a:=by unfold Z0S;grind
theorem ZaJ(p q:WEdit):Yw p q=Yw q p:=by
 unfold Yw
 rw [Zgt,decide_eq_decide,ne_comm]
theorem ZiM(p q:WEdit):Z0a p q=Z0a q p:=by
 unfold Z0a
 rw [Zgt,decide_eq_decide,ne_comm]
theorem Z6M{α:Type}{at_:α->Int}{f g:α->α->Bool}{p q:List α}(h:∀ a∈p,∀ b∈q,g b a=f a b):JO at_ g q p=JO at_ f p q:=by
 unfold JO
 grind
section
variable {f:Edit->Edit->Lft} {p q:Edit}
theorem lb0(h:p.kind=0\/q.kind=0):Yo f p q=⟨p,q,false,false⟩:=by unfold Yo;rw [if_pos h]
theorem lb1(p1:p.kind=1)(q0:q.kind≠0):Yo f p q=Z09 q p.old p.new:=by unfold Yo;grind
theorem Zyu(p0:p.kind≠0)(p1:p.kind≠1)(q1:q.kind=1):Yo f p q=Z09 p q.old q.new:=by unfold Yo;grind
theorem lbd(p0:p.kind≠0)(p1:p.kind≠1)(q0:q.kind≠0)(q1:q.kind≠1)(h:p.kind≠q.kind\/p.list≠q.list):Yo f p q=⟨Edit.nil,Edit.nil,false,true⟩:=by
 unfold Yo;grind
theorem lb2(p2:p.kind=2)(q2:q.kind=2)(h:p.list=q.list):Yo f p q=Z4x f p q:=by unfold Yo;grind
theorem lb3(p2:p.kind=q.kind)(p0:p.kind≠0)(p1:p.kind≠1)(q2:p.kind≠2)(h:p.list=q.list):Yo f p q=Z3o f p q:=by unfold Yo;grind
end
theorem ZjZ {f g:Edit->Edit->Lft} {p q:Edit} {d d':Int} (hp:Z5 p d=true) (hq:Z5 q d'=true)
  (h:∀ a b,Za a+Za b < Za p+Za q->(∃ d,Z5 a d=true)->(∃ d,Z5 b d=true)->g b a=(f a b).swap):Yo g q p=(Yo f p q).swap:=by
 have rp:=Zn hp
 have rq:=Zn hq
 by_cases p0:p.kind=0
 .rw [lb0 (.inl p0),lb0 (.inr p0)];try rfl
 by_cases q0:q.kind=0
 .rw [lb0 (.inr q0),lb0 (.inl q0)];try rfl
 by_cases p1:p.kind=1
 .by_cases q1:q.kind=1
  .rw [lb1 p1 q0,lb1 q1 p0]
   unfold Z09 doB
   rw [ZCL p1,ZCL q1,Zdk (Z3 p.old)]
   by_cases e:ZY (Z3 q.old) (Z3 p.old)=true
   .rw [if_pos e,if_pos e]
    show (⟨_,_,true && !ZY (Z3 (Z3 p.new)) (Z3 q.new),_⟩:Lft)=⟨_,_,true && !ZY (Z3 (Z3 q.new)) (Z3 p.new),_⟩
    rw [Yb,Yb,Zdk]
    try rfl
   .rw [if_neg e,if_neg e]
    try rfl
  .rw [lb1 p1 q0,Zyu q0 q1 p1];try rfl
 by_cases q1:q.kind=1
 .rw [Zyu p0 p1 q1,lb1 q1 p0];try rfl
 by_cases c2:p.kind≠q.kind\/p.list≠q.list
 .rw [lbd p0 p1 q0 q1 c2,lbd q0 q1 p0 p1 (c2.imp Ne.symm Ne.symm)];try rfl
 have hk:q.kind=p.kind:=V0
 have aa:q.list=p.list:=V0
 by_cases p2:p.kind=2
 .rw [lb2 p2 V0 aa.symm,lb2 V0 p2 aa]
  have ab:∀ a∈p.kids,∀ b∈q.kids,g b.e a.e=(f a.e b.e).swap:=by
   intro a u b s
   have:=Yc u
   have:=Yc s
   exact h _ _ V0 ⟨_,(Zv rp.kids a u).2⟩ ⟨_,(Zv rq.kids b s).2⟩
  unfold Z4x Lft.swap
  rw [Z6M (at_:=WEdit.at_) (f:=fun a b=> !Yw a b && Z0a a b) (g:=fun a b=> !Yw a b && Z0a a b) fun a _ b _=> by rw [ZaJ,ZiM],
   Z6M (at_:=WEdit.at_) (f:=Yw) (g:=Yw) fun a _ b _=> ZaJ b a,
   Z6M (at_:=KidOf.at_) (f:=fun a b:Kid=> (f a.e b.e).c) (g:=fun a b=> (g a.e b.e).c) fun a u b s=> by rw [ab a u b s];rfl,
   Z6M (at_:=KidOf.at_) (f:=fun a b:Kid=> (f a.e b.e).a) (g:=fun a b=> (g a.e b.e).a) fun a u b s=> by rw [ab a u b s];rfl,
   Xz (f:=Yq KidOf.at_ (fun a b:Kid=> ⟨a.at_,(g a.e b.e).x⟩) p.kids) (g:=Yq KidOf.at_ (fun b a:Kid=> ⟨b.at_,(f a.e b.e).y⟩) p.kids) fun b s=> Z4i fun a u=> by rw [ab a u b s];rfl,
   Xz (f:=Yq KidOf.at_ (fun b a:Kid=> ⟨b.at_,(g a.e b.e).y⟩) q.kids) (g:=Yq KidOf.at_ (fun a b:Kid=> ⟨a.at_,(f a.e b.e).x⟩) q.kids) fun a u=> Z4i fun b s=> by rw [ab a u b s];rfl]
 .rw [lb3 hk.symm p0 p1 p2 aa.symm,lb3 hk q0 q1 V0 aa]
  have hf:∀ a∈p.ops,∀ b∈q.ops,a.kind=3->b.kind=3->g b.e a.e=(f a.e b.e).swap:=by
   intro a u b s ka kb
   have:=YY u
   have:=YY s
   exact h _ _ V0 ⟨_,J4 (rightOs_mem rp.ops u) ka⟩ ⟨_,J4 (rightOs_mem rq.ops s) kb⟩
  have aj:∀ b∈q.ops,∀ a∈p.ops,b.kind=3->a.kind=3->f a.e b.e=(g b.e a.e).swap:=fun b s a u kb ka=> by rw [hf a u b s ka kb];try rfl
  unfold Z3o
  by_cases s:(ZM 2 2 p.ops q.ops []).2.1=true
  .obtain ⟨ps,e,hL⟩:=ZeE (f:=f) _ p.ops q.ops [] (Qf _) s
   obtain ⟨b1,aq,e',hS⟩:=ZlR ((hL [] []).swap (g:=g) (JE hp) (JE hq) hf) []
   rw [if_pos s,if_pos b1,e,e',QV,QV,<-hS,aa]
   try rfl
  .rw [if_neg s,if_neg]
   .try rfl
   .intro b1
    obtain ⟨ps,e,hL⟩:=ZeE (f:=g) _ q.ops p.ops [] (Qf _) b1
    exact s (ZlR ((hL [] []).swap (g:=f) (JE hq) (JE hp) aj) []).1
theorem Zyt:∀ (n:Nat) (p q:Edit) (d s:Int),Za p+Za q<=n->Z5 p d=true->Z5 q s=true->lbF n q p=(lbF n p q).swap:=by
 intro n
 induction n with
 | zero=> intro p q d s h;obtain ⟨k,o,nw,w,ks,l,os⟩:=p;simp only [Za] at h;omega
 | succ n ih=>
  intro p q d s h hp hq
  exact ZjZ hp hq fun a b ab ⟨d1,u⟩ ⟨d2,h2⟩=> ih a b d1 d2 V0 u h2
theorem Zk1{p q:Edit}{d d':Int}(hp:Z5 p d=true)(hq:Z5 q d'=true):lbE q p=(lbE p q).swap:=by
 unfold lbE
 rw [XE]
 exact Zyt _ p q d d' (Qf _) hp hq
end Go.AM.YtpjenobkibfpcaaGreat
namespace Go.AM.YtpjenobkibfpcaaGreat
open Go.AM Go.Proofs
mutual
def YB(k:Int):Edit->Prop
 | .mk _ _ _ _ ks _ os=> (YK os<=k/\Yi os<=k)/\ZcP k ks/\ZcN k os
def ZcP(k:Int):List (KidOf Edit)->Prop
 | []=> True
 | x ::r=> ZmF k x/\ZcP k r
def ZmF(k:Int):KidOf Edit->Prop
 | ⟨_,e⟩=> YB k e
def ZcN(k:Int):List (OpOf Edit)->Prop
 | []=> True
 | x ::r=> Zsb k x/\ZcN k r
def Zsb(k:Int):OpOf Edit->Prop
 | ⟨_,_,_,e⟩=> YB k e
end
theorem ZcO{k:Int}:∀ {l:List Kid},ZcP k l↔∀ x∈l,YB k x.e
 | []=> by simp [ZcP]
 | ⟨a,e⟩ ::r=> by simp only [ZcP,ZmF,ZcO (l:=r),Q9,forall_eq_or_imp]
theorem ZcM{k:Int}:∀ {l:List Op},ZcN k l↔∀ x∈l,YB k x.e
 | []=> by simp [ZcN]
 | ⟨a,n,l,e⟩ ::r=> by simp only [ZcN,Zsb,ZcM (l:=r),Q9,forall_eq_or_imp]
theorem Z0r{k:Int}{e:Edit}:YB k e↔(YK e.ops<=k/\Yi e.ops<=k)/\(∀ x∈e.kids,YB k x.e)/\∀ o∈e.ops,YB k o.e:=by
 obtain ⟨d,o,n,w,ks,l,os⟩:=e
 simp only [YB,ZcO,ZcM]
 try rfl
theorem Z3O:∀ (n:Nat) {k m:Int} (e:Edit),Za e<=n->k<=m->YB k e->YB m e:=by
 intro n
 induction n with
 | zero=> intro k m e h;obtain ⟨k,o,nw,w,ks,l,os⟩:=e;simp only [Za] at h;omega
 | succ n ih=>
  intro k m e hn d h
  rw [Z0r] at h ⊢
  exact ⟨⟨V0,V0⟩,fun x u=> ih x.e (by have:=Yc u;omega) d (h.2.1 x u),fun o s=> ih o.e (by have:=YY s;omega) d (h.2.2 o s)⟩
theorem Z4D{k:Int}(h:0<=k):YB k Edit.nil:=by
 trivial
def owL(l:List Tree):Nat:=100*l.length+Zd l
mutual
def owE(K:Nat):Edit->Nat
 | .mk _ o n w ks _ os=> K+Zj o+Zj n+65600*w.length+Z4y K ks+Z45 K os
def Z4y(K:Nat):List (KidOf Edit)->Nat
 | []=> 0
 | k ::r=> Ztp K k+Z4y K r
def Ztp(K:Nat):KidOf Edit->Nat
 | ⟨_,e⟩=> 65600+owE K e
def Z45(K:Nat):List (OpOf Edit)->Nat
 | []=> 0
 | o ::r=> Zlt K o+Z45 K r
def Zlt(K:Nat):OpOf Edit->Nat
 | ⟨k,_,l,e⟩=> owL l+if k=3 then 100+owE K e else 0
end
section
variable {K:Nat}
theorem ZhL(e:Edit):owE K e=K+Zj e.old+Zj e.new+65600*e.words.length+Z4y K e.kids+Z45 K e.ops:=by cases e;rfl
theorem Zjz(k:Kid):Ztp K k=65600+owE K k.e:=by cases k;rfl
theorem Z1R(o:Op):Zlt K o=owL o.l+if o.kind=3 then 100+owE K o.e else 0:=by cases o;rfl
theorem Zx9:owE K Edit.nil=K+2:=by rfl
theorem Zx8(e:Edit):K+2<=owE K e:=by rw [ZhL];have:=Zg8 e.old;have:=Zg8 e.new;omega
theorem Znt(a b:List Tree):owL (a++b)=owL a+owL b:=by unfold owL;rw [List.length_append,YM];omega
theorem Zjy:∀ a b:List Op,Z45 K (a++b)=Z45 K a+Z45 K b
 | [],b=> by simp [Z45]
 | o ::r,b=> by simp only [Qw,Z45,Zjy r b];omega
def OkO(list:Int)(o:Op):Prop:=ZP o/\Zg list o (-2)=true/\Z1j o
theorem Zjx{list:Int}{l:List Op}{o:Op}(hl:∀ d∈l,OkO list d)(hp:Part l o)(ho:ZP o):OkO list o:=by
 obtain ⟨d,m,k,e1,_,lt⟩:=hp
 obtain ⟨_,hr,hg⟩:=hl d m
 refine ⟨ho,?_⟩
 have R:=ZS hr
 have G:=Z1d hg
 obtain ⟨s,nn,ll,ee⟩:=o
 have k:s=d.kind:=k
 have e1:ee=d.e:=e1
 have lt:∀ t∈ll,t∈d.l:=lt
 have gl:Y6 ll:=Z5Q fun t ht=> YV G.2.2.1 (lt t ht)
 cases R with
 | keep n1 a1 a2=>
  have k:s=0:=k
  have e1:ee=Edit.nil:=e1
  subst k e1
  rcases ho with h | h | h
  .have hl:ll=[]:=h.2.1
   subst hl
   have h3:1<=nn/\nn<=1048576:=h.2.2.1
   exact ⟨Znv h3.1 h3.2 _,JV V3 V3,V2,trivial,G.2.2.2⟩
  .have:=h.1;omega
  .have:=h.1;omega
 | gone l1 a1 a2=>
  have k:s=1:=k
  have e1:ee=Edit.nil:=e1
  subst k e1
  rcases ho with h | h | h
  .have:=h.1;omega
  .have u:nn=0:=h.2.1
   subst u
   exact ⟨Ze8 (.inl rfl) (Z5E fun t ht=> Z0l a1 t (lt t ht)) h.2.2.1,JV V3 V3,JV V3 V3,gl,G.2.2.2⟩
  .have:=h.1;omega
 | come l1 a1 a2=>
  have k:s=2:=k
  have e1:ee=Edit.nil:=e1
  subst k e1
  rcases ho with h | h | h
  .have:=h.1;omega
  .have u:nn=0:=h.2.1
   subst u
   exact ⟨Ze8 (.inr rfl) (Z5E fun t ht=> Z0l a1 t (lt t ht)) h.2.2.1,JV V3 V3,JV V3 V3,gl,G.2.2.2⟩
  .have:=h.1;omega
 | into e2 a1 a2 a3 a4=>
  have k:s=3:=k
  have e1:ee=e2:=e1
  subst k e1
  rcases ho with h | h | h
  .have:=h.1;omega
  .have:=h.1;omega
  .have u:nn=0:=h.2.1
   have hl:ll=[]:=h.2.2
   subst u hl
   exact ⟨Znw a1 a2 a3 a4,JV V3 V3,JV V3 V3,trivial,G.2.2.2⟩
theorem ZiS{list:Int}{a:Op}{p:List Op}{n:Int}(h:∀ x∈a ::p,OkO list x)(h1:1<=n)(hn:n<=Z2 a):OkO list (Zt a n)/\(Zt a n).kind=a.kind/\Z2 (Zt a n)=n/\∀ o∈ZC (a ::p) n,OkO list o:=by
 obtain ⟨u,g2,g3,g4,d,_⟩:=Z36 (fun x hx=> (h x hx).1) h1 hn
 exact ⟨Zjx h g4 u,g3,g2,fun o s=> Zjx h (d o s).2 (d o s).1⟩
theorem ZGA:Zrh fun o=> ((Zlt K o:Nat):Int):=by
 intro o n h s d
 have hl:=Y4 o
 rcases h with ⟨k0,k1,k2,k3⟩ | ⟨k0,k1,k2,k3⟩ | ⟨k0,k1,k2⟩
 .have e1:Zt o n=⟨o.kind,n,o.l,o.e⟩:=by rw [Zt,if_neg d,if_pos k0]
  have e2:YR o n=⟨o.kind,o.n - n,o.l,o.e⟩:=by rw [YR,if_pos k0]
  simp only [Z1R,e1,e2]
  rw [Jk,k1]
  try rfl
 .have e1:Zt o n=⟨o.kind,o.n,o.l.take n.toNat,o.e⟩:=by rw [Zt,if_neg d,Jk]
  have e2:YR o n=⟨o.kind,o.n,o.l.drop n.toNat,o.e⟩:=by rw [YR,Jk]
  have u:¬o.kind=3:=V0
  have:=Znt (o.l.take n.toNat) (o.l.drop n.toNat)
  rw [QY] at this
  simp only [Z1R,e1,e2]
  grind
 omega
end
end Go.AM.YtpjenobkibfpcaaGreat
namespace Go.AM.YtpjenobkibfpcaaGreat
open Go.AM Go.Proofs
variable {K:Nat}
structure LbX (K:Nat) (T:Int) (X p:Edit):Prop where
 wk:Wk X
 th:YB T X
 ow:owE K X<=owE K p
 kx:X.kind=0\/X=p\/(X.kind=p.kind/\(p.kind=2\/p.kind=3))
theorem ZkO:Wk Edit.nil:=by
 obtain ⟨_,s,d,h⟩:=Z2m
 exact .of h s
theorem LbX.nil{T:Int}(hT:0<=T)(p:Edit):LbX K T Edit.nil p:=⟨ZkO,Z4D hT,by rw [Zx9];exact Zx8 p,.inl rfl⟩
theorem LbX.self{T:Int}{p:Edit}(h:Wk p)(ht:YB T p):LbX K T p p:=⟨h,ht,Qf _,.inr (.inl rfl)⟩
theorem Z3i(n:Int):Z2 ⟨0,n,[],Edit.nil⟩=n:=by rw [Y4];simp
theorem Zqg(l:List Tree):Z2 ⟨2,0,l,Edit.nil⟩=l.length:=by rw [Y4];simp
theorem φB_nn{o:Op}(h:ZP o):0<=φB o:=by unfold φB;have:=ZB h;omega
theorem ZgJ:∀ {l:List Op},(∀ o∈l,ZP o)->0<=Yi l
 | [],_=> X7 _
 | o ::r,h=> by
  have u:=φB_nn (h o Q8)
  have d:=ZgJ (l:=r) fun x s=> h x (Q7 _ s)
  rw [<-Z1v] at d ⊢
  simp only [YS];omega
def Zw8(list:Int)(l:List Tree):Prop:=∀ t∈l,Zb (.mk list [] [t]) (-1)=true/\rng t
theorem Zea{list n:Int}(h1:1<=n)(h2:n<=1048576):OkO list ⟨0,n,[],Edit.nil⟩:=by
 refine ⟨.inl ⟨rfl,rfl,⟨h1,h2⟩,rfl⟩,Znv h1 h2 _,JV V3 V3,V2,trivial,?_⟩
 exact ZkO.g
theorem Zxb{list:Int}{l:List Tree}(h:Zw8 list l)(hl:l≠[]):OkO list ⟨2,0,l,Edit.nil⟩:=by
 refine ⟨.inr (.inl ⟨.inr rfl,rfl,hl,rfl⟩),Ze8 (.inr rfl) ?_ hl,JV V3 V3,JV V3 V3,Z5Q fun t d=> (h t d).2,ZkO.g⟩
 rw [ZeT V3]
 exact Z5E fun t d=> (h t d).1
theorem Zqj{list:Int}{o:Op}(h:OkO list o)(k:o.kind=1\/o.kind=2):Zw8 list o.l:=by
 have R:=ZS h.2.1
 have G:=(Z1d h.2.2).2.2.1
 intro t d
 refine ⟨?_,YV G d⟩
 cases R with
 | keep=> grind
 | into=> grind
 | gone l a1=> rw [ZeT V3] at a1;exact Z0l a1 t d
 | come l a1=> rw [ZeT V3] at a1;exact Z0l a1 t d
theorem Z0C{list:Int}{o:Op}(h:OkO list o)(k:o.kind=3):(7 < list/\o.e.kind≠0/\Wl list o.e/\Wk o.e)/\o.l=[]:=by
 have R:=ZS h.2.1
 cases R with
 | keep | gone | come=> grind
 | into e a1 a2 a3 a4=> exact ⟨⟨a3,a2,a4,⟨Ya _ _ _ V3 a1,(Z1d h.2.2).2.2.2⟩⟩,rfl⟩
structure OpsX (K:Nat) (list T:Int) (l:List Op) (A B:Int) (W:Nat):Prop where
 ok:∀ o∈l,OkO list o/\YB T o.e
 la:YK l<=A
 lb:Yi l<=B
 ow:Z45 K l<=W
theorem OpsX.app{list T:Int}{l l':List Op}{A B A' B':Int}{W W':Nat}(h:OpsX K list T l A B W)(h':OpsX K list T l' A' B' W'):OpsX K list T (l++l') (A+A') (B+B') (W+W'):=by
 refine ⟨fun o d=> (Qg.1 d).elim (h.ok o) (h'.ok o),?_,?_,?_⟩
 .rw [<-ZcT,ZcS,ZcT,ZcT];have:=h.la;have:=h'.la;omega
 .rw [<-Z1v,ZcS,Z1v,Z1v];have:=h.lb;have:=h'.lb;omega
 .rw [Zjy];have:=h.ow;have:=h'.ow;omega
theorem OpsX.none{list T A B:Int}{W:Nat}(ha:0<=A)(hb:0<=B):OpsX K list T [] A B W:=⟨fun o d=> (by cases d),ha,hb,QQ _⟩
theorem OpsX.mono{list T:Int}{l:List Op}{A B A' B':Int}{W W':Nat}(h:OpsX K list T l A B W)(ha:A<=A')(hb:B<=B')(hw:W<=W'):OpsX K list T l A' B' W':=
 ⟨h.ok,Int.le_trans h.la ha,Int.le_trans h.lb hb,X5 h.ow hw⟩
theorem OpsX.one{list T:Int}{o:Op}(h:OkO list o)(ht:YB T o.e):OpsX K list T [o] (φA o) (φB o) (Zlt K o):=by
 refine ⟨fun x d=> by grind,?_,?_,?_⟩
 .rw [<-ZcT];simp [YS]
 .rw [<-Z1v];simp [YS]
 .simp [Z45]
theorem Zva{list T:Int}(hT:0<=T){n:Nat}(hn:n<=1048576):OpsX K list T (JU n) n n 0:=by
 unfold JU
 split
 .exact .none V0 V0
 .refine (OpsX.one (Zea V0 V0) (Z4D hT)).mono ?_ ?_ ?_
  .unfold φA;rw [if_neg (by simp),Z3i];omega
  .unfold φB;rw [if_neg (by simp),Z3i];omega
  .simp [Z1R,owL,Zd]
theorem ZGk{list T:Int}(hT:0<=T){l:List Tree}(h:Zw8 list l):OpsX K list T (Z4c l) 0 l.length (owL l):=by
 unfold Z4c
 split
 .exact .none V0 V0
 .rename_i hl
  refine (OpsX.one (Zxb h hl) (Z4D hT)).mono ?_ ?_ ?_
  .unfold φA;grind
  .unfold φB;rw [if_neg (by simp),Zqg];omega
  .simp [Z1R]
theorem ZAD{list T:Int}(hT:0<=T){m h:List Tree}(hm:Zw8 list m)(hh:h.length<=1048576):OpsX K list T (JL m h).x h.length (m.length+h.length) (owL m):=by
 unfold JL
 split
 .exact (Zva hT hh).mono V0 V0 (QQ _)
 .exact ((ZGk hT hm).app (Zva hT hh)).mono V0 V0 V0
theorem Zx1 {f:Edit->Edit->Lft} {list a b:Int} (hli:2<=list/\list<=9) (ha:0<=a) (hb:0<=b) {p q:Op} (op:OkO list p) (oq:OkO list q) (tp:YB a p.e) (hl:Z2 p=Z2 q) (p2:p.kind≠2) (q2:q.kind≠2)
  (hf:p.kind=3->q.kind=3->LbX K (a+b) (f p.e q.e).x p.e):OpsX K list (a+b) (ZE f p q).x (φB q) (φB p) (Zlt K p):=by
 have kp:=J6 op.1
 have kq:=J6 oq.1
 unfold kOk at kp kq
 have np:=φB_nn op.1
 have nq:=φB_nn oq.1
 have lp:=ZB op.1
 have s:=Z3O _ p.e (Qf _) (show a<=a+b by omega) tp
 by_cases a0:p.kind=0
 .by_cases b1:q.kind=1
  .rw [Zx7 a0 b1];exact .none nq np
  .rw [pL0 a0 b1]
   have e:(if q.n < 1 then 1 else q.n)=Z2 q:=by
    by_cases b0:q.kind=0
    .obtain ⟨_,h1,h2⟩:=Z24 oq.1 b0
     rw [Jk,h2]
    .rw [Zcj oq.1 b0,if_pos V3,Z0A V0]
   have h1:=Z24 op.1 a0
   rw [e,<-hl]
   refine (OpsX.one (Zea lp ?_) (Z4D V0)).mono ?_ ?_ (by simp [Z1R,owL,Zd])
   .rw [h1.2.2]
    rcases op.1 with h | h | h
    .exact h.2.2.1.2
    .omega
    .omega
   .unfold φA φB;rw [if_neg (by simp),if_neg b1,Z3i];omega
   .unfold φB;rw [if_neg (by simp),Jk,Z3i];omega
 .by_cases b0:q.kind=0
  .by_cases a1:p.kind=1
   .rw [Zx6 a1 b0]
    refine (OpsX.one op s).mono ?_ (X7 _) (Qf _)
    unfold φA φB;rw [if_neg p2,Jk];omega
   .rw [Zx3 a0 a1 b0]
    refine (OpsX.one op s).mono ?_ (X7 _) (Qf _)
    unfold φA φB;rw [if_neg p2,Jk];omega
  .by_cases a1:p.kind=1
   .by_cases b1:q.kind=1
    .rw [Zx5 a1 b1];exact .none nq np
    .rw [pL1 a1 b0 b1];exact .none nq np
   .by_cases b1:q.kind=1
    .rw [Zx2 a0 a1 b1];exact .none nq np
    .rw [Zx4 a0 a1 b0 b1]
     have u:p.kind=3:=V0
     obtain ⟨hw,ht,am,hk⟩:=hf u V0
     obtain ⟨⟨e1,e2,e3,e4⟩,e5⟩:=Z0C op u
     have l1:=Z0A u
     have hB:φB q=1:=by unfold φB;rw [if_neg b1];omega
     have af:φB p=1:=by unfold φB;rw [if_neg a1];omega
     rw [hB,af]
     dsimp only
     unfold Z4q
     split
     .refine (OpsX.one (Zea V3 V3) (Z4D V0)).mono ?_ ?_ (by simp [Z1R,owL,Zd])
      .unfold φA;rw [if_neg (by simp),Z3i];omega
      .unfold φB;rw [if_neg (by simp),Z3i];omega
     .rename_i d
      have ae:Wl list (f p.e q.e).x:=by
       rcases hk with h | h | ⟨h,h'⟩
       .exact absurd h d
       .rw [h];exact e3
       .rcases h' with h' | h'
        .exact .inr (.inl V0)
        .rcases e3 with g | g | g
         .exact .inl g
         .omega
         .omega
      refine (OpsX.one ⟨.inr (.inr ⟨rfl,rfl,rfl⟩),Znw (Ya _ _ _ V3 hw.r) d e1 ae,JV V3 V3,JV V3 V3,trivial,hw.g⟩ ht).mono ?_ ?_ ?_
      .unfold φA;rw [if_neg (show ¬(3:Int)=2 by decide),Z0A rfl];omega
      .unfold φB;rw [if_neg (show ¬(3:Int)=1 by decide),Z0A rfl];omega
      .simp only [Z1R,if_true];rw [if_pos u,e5];simp only [owL,Zd,Qh];omega
theorem ZGg{f:Edit->Edit->Lft}{list a b:Int}(hli:2<=list/\list<=9)(ha:0<=a)(hb:0<=b){p q:List Op}{m h:List Tree}{S:PL}(H:Lay f p q m h S):
  (∀ o∈p,OkO list o/\YB a o.e)->(∀ o∈q,OkO list o)->(∀ x∈p,∀ y∈q,x.kind=3->y.kind=3->LbX K (a+b) (f x.e y.e).x x.e)->Zw8 list m->(h.length:Int)+Yi q<=1048576->
  OpsX K list (a+b) S.x (h.length+Yi q) (m.length+h.length+Yi p+Yi q) (owL m+Z45 K p):=by
 induction H with
 | nil m h=>
  intro _ _ _ hm hh
  simp only [Yi] at hh
  exact (ZAD V0 hm V0).mono (by simp only [Yi];omega) (by simp only [Yi];omega) V0
 | left u _ ih=>
  rename_i x p q m h S _
  intro op oq hf hm hh
  have o1:=op _ Q8
  have e:=ih (fun o d=> op o (Q7 _ d)) oq (fun x hx=> hf x (Q7 _ hx)) (fun t ht=> (Qg.1 ht).elim (hm t) (Zqj o1.1 (.inr u) t)) hh
  have l2:=Z2q o1.1.1 (.inr u)
  refine e.mono (X7 _) ?_ ?_
  .rw [<-Z1v (_ ::_)]
   simp only [YS,Z1v,φB]
   grind
  .rw [Znt]
   simp only [Z45,Z1R]
   omega
 | right np u _ ih=>
  intro op oq hf hm hh
  have o1:=oq _ Q8
  have l2:=Z2q o1.1 (.inr u)
  have e1:∀ (b:Op) (q:List Op),b.kind=2->Yi (b ::q)=Z2 b+Yi q:=by
   intro b q hb
   rw [<-Z1v (_ ::_)]
   simp only [YS,Z1v,φB]
   omega
  rw [e1 _ _ u] at hh
  have e:=ih op (fun o d=> oq o (Q7 _ d)) (fun x hx y hy=> hf x hx y (Q7 _ hy)) hm (by grind)
  grind
 | both ka kb hn _ ih=>
  rename_i x p y q m h S n _
  intro op oq hf hm hh
  have ab:∀ o∈x ::p,OkO list o:=fun o d=> (op o d).1
  have lx:=ZB (ab x Q8).1
  have ly:=ZB (oq y Q8).1
  have h1:1<=n:=V0
  obtain ⟨t1,t2,t3,t4⟩:=ZiS ab h1 V0
  obtain ⟨u1,u2,u3,u4⟩:=ZiS oq h1 V0
  obtain ⟨s1,_⟩:=Z4E ZAQ (p:=x ::p) (fun o d=> (ab o d).1) (by simp) h1
  obtain ⟨s2,_⟩:=Z4E ZAQ (p:=y ::q) (fun o d=> (oq o d).1) (by simp) h1
  obtain ⟨s3,_⟩:=Z4E ZGA (p:=x ::p) (fun o d=> (ab o d).1) (by simp) h1
  have so:∀ l:List Op,YS (fun o=> ((Zlt K o:Nat):Int)) l=Z45 K l:=by
   intro l
   induction l with
   | nil=> rfl
   | cons o r ih=> simp only [YS,Z45,ih];omega
  rw [so,so,Qk] at s3
  rw [Z1v,Z1v,Qk] at s1 s2
  have nq:=ZgJ (l:=ZC (y ::q) n) fun o d=> (u4 o d).1
  have np:=ZgJ (l:=ZC (x ::p) n) fun o d=> (t4 o d).1
  have fq:=φB_nn u1.1
  have ee:∀ o∈ZC (x ::p) n,o.e=x.e/\o.kind=x.kind\/o∈p:=fun o d=> (Jq d).symm.imp (fun h=> by rw [h];exact ⟨Z1f _ _,YP _ _⟩) id
  have ai:∀ o∈ZC (y ::q) n,o.e=y.e/\o.kind=y.kind\/o∈q:=fun o d=> (Jq d).symm.imp (fun h=> by rw [h];exact ⟨Z1f _ _,YP _ _⟩) id
  have aa:∀ o∈x ::p,∀ o'∈y ::q,∀ r s:Op,r.e=o.e->s.e=o'.e->r.kind=o.kind->s.kind=o'.kind->r.kind=3->s.kind=3->LbX K (a+b) (f r.e s.e).x r.e:=by
   intro o d o' au r s e1 e2 k1 u k3 k4
   rw [e1,e2]
   exact hf o d o' au V0 V0
  have e:=ih (fun o d=> ⟨t4 o d,by rcases ee o d with ⟨h,_⟩ | h;rw [h];exact (op x Q8).2;exact (op o (Q7 _ h)).2⟩) u4
   (fun r hr s am k3 k4=> by
    rcases ee r hr with ⟨e1,k1⟩ | e1
    .rcases ai s am with ⟨e2,u⟩ | e2
     .exact aa x Q8 y Q8 r s e1 e2 k1 u k3 k4
     .exact aa x Q8 s (Q7 _ e2) r s e1 rfl k1 rfl k3 k4
    .rcases ai s am with ⟨e2,u⟩ | e2
     .exact aa r (Q7 _ e1) y Q8 r s rfl e2 rfl u k3 k4
     .exact hf r (Q7 _ e1) s (Q7 _ e2) k3 k4)
   (fun t ht=> by cases ht) (by grind)
  have g:=ZAD (K:=K) (T:=a+b) V0 hm (h:=h) V0
  have pc:=Zx1 (f:=f) hli ha hb t1 u1 (by rw [Z1I];grind) V0 V0 V0 (aa x Q8 y Q8 _ _ (Z1I _ _) (Z1I _ _) (JA _ _) (JA _ _))
  refine ((g.app pc).app e).mono ?_ ?_ ?_
  .grind
  .grind
  .simp only [owL,Zd,Qh] at s3 ⊢;omega
end Go.AM.YtpjenobkibfpcaaGreat
namespace Go.AM.YtpjenobkibfpcaaGreat
open Go.AM Go.Proofs
variable {K:Nat}
theorem Z8v:rng Tree.nil:=by trivial
theorem Z18{α:Type}{at_:α->Int}{f:α->α}(hf:∀ a,at_ (f a)=at_ a):∀ {l:List α} {last:Int},asc at_ last l->asc at_ last (l.map f)
 | [],_,_=> trivial
 | a ::r,last,h=> by
  refine ⟨by rw [hf];exact h.1,?_⟩
  rw [hf]
  exact Z18 hf h.2
theorem Z0i{α:Type}{at_:α->Int}{g:α->Bool}:∀ {l:List α} {last:Int},asc at_ last l->asc at_ last (l.filter g)
 | [],_,_=> trivial
 | a ::r,last,h=> by
  rw [Kf]
  split
  .exact ⟨h.1,Z0i h.2⟩
  .exact Zr7 (XN h.1) (Z0i h.2)
theorem Z94(a b:WEdit):(Z0H a b).at_=a.at_:=rfl
theorem ZuJ{a b:WEdit}(ra:Zdo a):Zdo (Z0H a b)/\Yf (Z0H a b).old (Z0H a b).mask=true/\Yf (Z0H a b).new (Z0H a b).mask=true:=by
 obtain ⟨d,_⟩:=Z6N (a:=Z4z b.mask) (b:=a.mask) (by
  have h:=(BitVec.ofInt (IntKind.bits .u8) 255 ^^^ BitVec.ofInt (IntKind.bits .u8) b.mask).isLt
  have e:(2:Nat) ^ IntKind.bits .u8=256:=rfl
  unfold Z4z
  rw [Z5C V0 V0]
  omega) ra.2.1
 have w:∀ x m:Int,Yf (mix 0 x m) m=true:=fun x m=> ZpM fun i s u=> by rw [Z13 s,if_neg (by grind)];exact ZAN i
 exact ⟨⟨ra.1,d,Z12 _ _ _,Z12 _ _ _⟩,w _ _,w _ _⟩
theorem ZBm {T:Int} {W:List WEdit} {Ks:List Kid} {p:Edit} (hT:0<=T) (p2:p.kind=2) (aw:asc WEdit.at_ (-1) W) (ak:asc KidOf.at_ (-1) Ks)
  (hw:∀ w∈W,Zdo w/\w.at_<=65534/\Yf w.old w.mask=true/\Yf w.new w.mask=true) (hk:∀ k∈Ks,k.at_<=65534/\InR k.at_/\Wk k.e/\YB T k.e)
  (ow:65600*W.length+Z4y K Ks<=65600*p.words.length+Z4y K p.kids):LbX K T (Z3b (.mk 2 Tree.nil Tree.nil W Ks 0 [])) p:=by
 unfold Z3b
 split
 .exact .nil hT p
 .show LbX K T (.mk 2 Tree.nil Tree.nil (W.filter fun w=> !decide (w.mask=0)) (Ks.filter fun k:Kid=> !decide (k.e.kind=0)) 0 []) p
  refine ⟨⟨Zq4 (ZcD (Z0i aw) fun w h=> ?_) (Zdt (Z0i ak) fun k h=> ?_),?_⟩,?_,?_,.inr (.inr ⟨by rw [p2];rfl,.inl p2⟩)⟩
  .grind
  .obtain ⟨h1,h2⟩:=Xc.1 h
   obtain ⟨g1,_,s,_⟩:=hk k h1
   exact ⟨g1,by simpa using h2,Ya _ _ _ V3 s.r⟩
  .refine ⟨JV V3 V3,Z8v,Z8v,fun w h=> (hw w (Xc.1 h).1).1,JV V3 V3,Zj9 fun k h=> ?_,trivial⟩
   obtain ⟨_,g2,s,_⟩:=hk k (Xc.1 h).1
   exact ⟨g2,s.g⟩
  .rw [Z0r]
   refine ⟨⟨hT,hT⟩,fun k h=> (hk k (Xc.1 h).1).2.2.2,fun o h=> (by cases h)⟩
  .have l1:=K1 (fun w:WEdit=> !decide (w.mask=0)) W
   have u:∀ l:List Kid,Z4y K (l.filter fun k=> !decide (k.e.kind=0))<=Z4y K l:=by
    intro l
    induction l with
    | nil=> grind
    | cons k r ih=>
     rw [Kf]
     split
     .simp only [Z4y];omega
     .simp only [Z4y];omega
   have u:=u Ks
   have e:=ZhL (K:=K) p
   have m1:=Zg8 p.old;have m2:=Zg8 p.new
   have d:∀ w k:Nat,w<=W.length->k<=Z4y K Ks->K+1+1+65600*w+k+0<=owE K p:=by intro w k h1 h2;omega
   exact d _ _ l1 u
theorem Zgm{α:Type}{at_:α->Int}{f:α->α->α}{q:List α}{a:α}:Yq at_ f q a=a\/∃ b∈q,at_ b=at_ a/\Yq at_ f q a=f a b:=by
 unfold Yq
 cases h:Z2y at_ q (at_ a) with
 | none=> simp
 | some b=> obtain ⟨s,d⟩:=Z3r at_ _ q b h;grind
theorem ZFY {f:Edit->Edit->Lft} {a b:Int} (ha:0<=a) (hb:0<=b) {p q:Edit} (wp:Wk p) (wq:Wk q) (tp:YB a p) (p2:p.kind=2)
  (hf:∀ x∈p.kids,∀ y∈q.kids,LbX K (a+b) (f x.e y.e).x x.e):LbX K (a+b) (Z4x f p q).x p:=by
 have rp:=Zn wp.r
 have gp:=Y0 wp.g
 rw [Z0r] at tp
 have d:∀ k∈p.kids,LbX K (a+b) (Yq KidOf.at_ (fun a b:Kid=> ⟨a.at_,(f a.e b.e).x⟩) q.kids k).e k.e:=by
  intro k s
  rcases Zgm (at_:=KidOf.at_) (f:=fun a b:Kid=> ⟨a.at_,(f a.e b.e).x⟩) (q:=q.kids) (a:=k) with e | ⟨y,hy,_,e⟩
  .rw [e]
   exact .self ⟨Ya _ _ _ V3 (Zv rp.kids k s).2,(Ys gp.2.2.2.1 s).2⟩ (Z3O _ _ (Qf _) V0 (tp.2.1 k s))
  .grind
 have u:∀ k:Kid,(Yq KidOf.at_ (fun a b:Kid=> ⟨a.at_,(f a.e b.e).x⟩) q.kids k).at_=k.at_:=fun k=> Z0J (at_:=KidOf.at_) (f:=fun a b:Kid=> ⟨a.at_,(f a.e b.e).x⟩) (fun _ _=> rfl) q.kids k
 refine ZBm V0 p2 (Z18 (Z0J Z94 _) (Z5D rp.words)) (Z18 u (Z97 rp.kids)) (fun w hw=> ?_) (fun k s=> ?_) ?_
 .obtain ⟨v,h,rfl⟩:=Xb.1 hw
  have A:=Z0k rp.words v h
  have R:=gp.2.2.1 v h
  rcases Zgm (at_:=WEdit.at_) (f:=Z0H) (q:=q.words) (a:=v) with e | ⟨y,hy,_,e⟩
  .grind
  .rw [e]
   obtain ⟨r1,r2,r3⟩:=ZuJ (b:=y) R
   exact ⟨r1,by rw [Z94];exact A.2.1,r2,r3⟩
 .obtain ⟨v,h,rfl⟩:=Xb.1 s
  have A:=(Zv rp.kids v h).1
  have H:=d v h
  rw [u]
  exact ⟨A.2.1,(Ys gp.2.2.2.1 h).1,H.wk,H.th⟩
 .rw [Xj]
  have ai:∀ l:List Kid,(∀ k∈l,k∈p.kids)->Z4y K (l.map (Yq KidOf.at_ (fun a b:Kid=> ⟨a.at_,(f a.e b.e).x⟩) q.kids))<=Z4y K l:=by
   intro l
   induction l with
   | nil=> grind
   | cons k r ih=>
    intro hl
    have:=(d k (hl k Q8)).ow
    have:=ih fun x hx=> hl x (Q7 _ hx)
    simp only [Xk,Z4y,Zjz]
    omega
  grind
theorem ZlM{l:List Op}(h:∀ o∈l,ZP o)(hs:YK l < 1048576/\Yi l < 1048576):Z0Q l 0 < 1048576/\Z0P l 0 < 1048576:=by
 have d:∀ o∈l,0<=Z2 o:=fun o s=> by have:=ZB (h o s);omega
 have a:=(Z0F l 0 d V3 V3).1
 have b:=(Z0E l 0 d V3 V3).1
 omega
theorem Z06{e:Edit}(w:Wk e):∀ o∈e.ops,OkO e.list o:=by
 intro o d
 have r:=rightOs_mem (Zn w.r).ops d
 exact ⟨JE w.r o d,r,Z0Z (Y0 w.g).2.2.2.2 d⟩
theorem ZBn{list T:Int}{l:List Op}{A B:Int}{W:Nat}{p:Edit}(hT:0<=T)(hli:2<=list/\list<=9)(h:OpsX K list T l A B W)(hA:A<=T)(hB:B<=T)(h1:T < 1048576)(p3:p.kind=3)(hp:p.list=list)(hW:W<=Z45 K p.ops):LbX K T (Z0y list l) p:=by
 unfold Z0y
 split
 .have la:=h.la;have lb:=h.lb
  obtain ⟨k1,u⟩:=ZlM (fun o d=> (h.ok o d).1.1) (l:=l) ⟨V0,V0⟩
  refine ⟨⟨Zq3 hli (Zdq fun o d=> (h.ok o d).1.2.1) k1 u,?_⟩,?_,?_,.inr (.inr ⟨by rw [p3];rfl,.inr p3⟩)⟩
  .exact ⟨JV V3 V3,Z8v,Z8v,fun w hw=> (by cases hw),JV V0 V0,trivial,Zj8 fun o d=> (h.ok o d).1.2.2⟩
  .rw [Z0r]
   exact ⟨⟨by show YK l<=T;omega,by show Yi l<=T;omega⟩,fun k s=> (by cases s),fun o d=> (h.ok o d).2⟩
  .have e:=ZhL (K:=K) p
   have m1:=Zg8 p.old;have m2:=Zg8 p.new
   have:=h.ow
   simp only [owE,Z4y,Tree.nil,Zj,Zd,Qh]
   omega
 .exact .nil hT p
theorem ZGa {f:Edit->Edit->Lft} {a b:Int} (ha:0<=a) (hb:0<=b) (hab:a+b < 1048576) {p q:Edit} (wp:Wk p) (wq:Wk q) (tp:YB a p) (tq:YB b q) (p3:p.kind=3) (hl:p.list=q.list)
  (hf:∀ x∈p.ops,∀ y∈q.ops,x.kind=3->y.kind=3->LbX K (a+b) (f x.e y.e).x x.e):LbX K (a+b) (Z3o f p q).x p:=by
 have rp:=Zn wp.r
 have d:=rp.list p3
 rw [Z0r] at tp tq
 unfold Z3o
 by_cases hc:(ZM 2 2 p.ops q.ops []).2.1=true
 .rw [if_pos hc]
  obtain ⟨ps,e,s⟩:=ZeE (f:=f) _ p.ops q.ops [] (Qf _) hc
  rw [e,QV]
  have S:=ZGg (K:=K) d ha hb (s [] []) (fun o h=> ⟨Z06 wp o h,tp.2.2 o h⟩) (fun o h=> by rw [hl];exact Z06 wq o h) hf (fun t u=> by cases u) (by grind)
  simp only [Qh,owL,Zd] at S
  exact ZBn V0 d S V0 V0 hab p3 rfl V0
 .rw [if_neg hc]
  exact .nil V0 p
theorem ZBk {f:Edit->Edit->Lft} {a b:Int} (ha:0<=a) (hb:0<=b) (hab:a+b < 1048576) {p q:Edit} (wp:Wk p) (wq:Wk q) (tp:YB a p) (tq:YB b q)
  (hf:∀ x y,Za x+Za y < Za p+Za q->Wk x->Wk y->YB a x->YB b y->LbX K (a+b) (f x y).x x):LbX K (a+b) (Yo f p q).x p:=by
 by_cases p0:p.kind=0
 .rw [lb0 (.inl p0)];exact .self wp (Z3O _ _ (Qf _) V0 tp)
 by_cases q0:q.kind=0
 .rw [lb0 (.inr q0)];exact .self wp (Z3O _ _ (Qf _) V0 tp)
 by_cases p1:p.kind=1
 .rw [lb1 p1 q0];exact .nil V0 p
 by_cases q1:q.kind=1
 .rw [Zyu p0 p1 q1];exact .nil V0 p
 by_cases hd:p.kind≠q.kind\/p.list≠q.list
 .rw [lbd p0 p1 q0 q1 hd];exact .nil V0 p
 have hk:p.kind=q.kind:=V0
 have hl:p.list=q.list:=V0
 have rp:=Zn wp.r
 have rq:=Zn wq.r
 have s:=Z0r.1 tp
 have u:=Z0r.1 tq
 by_cases p2:p.kind=2
 .rw [lb2 p2 V0 hl]
  refine ZFY ha hb wp wq tp p2 fun x d y h=> ?_
  have:=Yc d;have:=Yc h
  exact hf _ _ V0 ⟨Ya _ _ _ V3 (Zv rp.kids x d).2,(Ys (Y0 wp.g).2.2.2.1 d).2⟩ ⟨Ya _ _ _ V3 (Zv rq.kids y h).2,(Ys (Y0 wq.g).2.2.2.1 h).2⟩ (s.2.1 x d) (u.2.1 y h)
 .have kp:=rp.kind
  rw [lb3 hk p0 p1 p2 hl]
  refine ZGa ha hb hab wp wq tp tq V0 hl fun x d y h kx ky=> ?_
  have:=YY d;have:=YY h
  exact hf _ _ V0 ((Z0C (Z06 wp x d) kx).1.2.2.2) ((Z0C (Z06 wq y h) ky).1.2.2.2) (s.2.2 x d) (u.2.2 y h)
theorem ZGd{a b:Int}(ha:0<=a)(hb:0<=b)(hab:a+b < 1048576):∀ (n:Nat) (p q:Edit),Za p+Za q<=n->Wk p->Wk q->YB a p->YB b q->LbX K (a+b) (lbF n p q).x p:=by
 intro n
 induction n with
 | zero=> intro p q h;obtain ⟨k,o,nw,w,ks,l,os⟩:=p;simp only [Za] at h;omega
 | succ n ih=>
  intro p q hn wp wq tp tq
  exact ZBk ha hb hab wp wq tp tq fun x y aa s u d ty=> ih x y V0 s u d ty
theorem ZGf{a b:Int}(ha:0<=a)(hb:0<=b)(hab:a+b < 1048576){p q:Edit}(wp:Wk p)(wq:Wk q)(tp:YB a p)(tq:YB b q):LbX K (a+b) (lbE p q).x p/\LbX K (a+b) (lbE p q).y q:=by
 refine ⟨ZGd ha hb hab _ p q (Qf _) wp wq tp tq,?_⟩
 have h:=ZGd (K:=K) hb ha V0 _ q p (Qf _) wq wp tq tp
 rw [show lbF (Za q+Za p) q p=lbE q p from rfl,Zk1 wp.r wq.r] at h
 rw [Int.add_comm]
 exact h
theorem Zvs{T:Int}(hT:0<=T)(hK:16+68*T.toNat<=K):∀ (n:Nat) (e:Edit),Za e<=n->Wk e->YB T e->ctE e<=owE K e:=by
 intro n
 induction n with
 | zero=> intro e h;obtain ⟨k,o,nw,w,ks,l,os⟩:=e;simp only [Za] at h;omega
 | succ n ih=>
  intro e hn we te
  have re:=Zn we.r
  have d:=Z0r.1 te
  have hc:=Z5x e
  have ho:=ZhL (K:=K) e
  have kids:∀ l:List Kid,(∀ k∈l,k∈e.kids)->Z35 l<=Z4y K l:=by
   intro l
   induction l with
   | nil=> intro _;exact Qf _
   | cons k r ihl=>
    intro hl
    have s:=hl k Q8
    have:=Yc s
    have h1:=ih k.e V0 ⟨Ya _ _ _ V3 (Zv re.kids k s).2,(Ys (Y0 we.g).2.2.2.1 s).2⟩ (d.2.1 k s)
    have h2:=ihl fun x hx=> hl x (Q7 _ hx)
    simp only [Z35,Z4y,Zjz,Zkw]
    omega
  have af:∀ l:List Op,(∀ o∈l,o∈e.ops)->(l.length:Int)<=YK l+Yi l/\Jh l<=Z45 K l+34*l.length:=by
   intro l
   induction l with
   | nil=> intro _;simp [Jh,YK,Yi]
   | cons o r ihl=>
    intro hl
    obtain ⟨h1,h2⟩:=ihl fun x hx=> hl x (Q7 _ hx)
    have hm:=hl o Q8
    have u:=Z06 we o hm
    have h4:=ZB u.1
    simp only [Jh,Z45,YK,Yi,Qs]
    refine ⟨?_,?_⟩
    .omega
    .have e1:=Z2V o
     have e2:=Z1R (K:=K) o
     by_cases k3:o.kind=3
     .have:=YY hm
      obtain ⟨⟨_,_,_,w⟩,hl⟩:=Z0C u k3
      have h1:=ih o.e V0 w (d.2.2 o hm)
      rw [if_pos k3] at e2
      have:Zd o.l=0:=by rw [hl];try rfl
      omega
     .have he:ctE o.e=18:=by
       rcases u.1 with h | h | h
       .rw [h.2.2.2];try rfl
       .rw [h.2.2.2];try rfl
       .omega
      rw [if_neg k3] at e2
      unfold owL at e2
      omega
  grind
mutual
theorem Z8M(K:Nat):∀ e:Edit,owE K e+65700<=(131402+K)*Za e
 | .mk k o n w ks l os=> by
  have d:=Zto K ks
  have h:=Ztn K os
  have w1:Zj o<=(131402+K)*Zj o:=Nat.le_mul_of_pos_left _ V0
  have w2:Zj n<=(131402+K)*Zj n:=Nat.le_mul_of_pos_left _ V0
  have w3:65600*w.length<=(131402+K)*w.length:=Qc _ V0
  simp only [owE,Za,Nat.mul_add]
  omega
theorem Zto(K:Nat):∀ ks:List (KidOf Edit),Z4y K ks<=(131402+K)*ZR ks
 | []=> QQ _
 | ⟨a,e⟩ ::r=> by
  have h:=Z8M K e
  have d:=Zto K r
  simp only [Z4y,Ztp,ZR,Z07,Nat.mul_add]
  omega
theorem Ztn(K:Nat):∀ os:List (OpOf Edit),Z45 K os<=(131402+K)*Zl os
 | []=> QQ _
 | ⟨k,n,l,e⟩ ::r=> by
  have s:=Z8M K e
  have d:=Ztn K r
  have h:=Zs l
  have w1:101*Zd l<=(131402+K)*Zd l:=Qc _ V0
  simp only [Z45,Zlt,owL,Zl,Zy,Nat.mul_add]
  grind
end
end Go.AM.YtpjenobkibfpcaaGreat
namespace Go.AM.YtpjenobkibfpcaaGreat
open Go.AM Go.Proofs
theorem Z6e(n:Int):(JU n).length<=1:=by unfold JU;split <;> simp
theorem Z5l:∀ {ks:List Kid},Jm ks=true->∀ k∈ks,Yn k.e=true
 | [],_,k,hk=> by cases hk
 | a ::r,h,k,hk=> by
  rw [Jm,Q4] at h
  rcases Q9.1 hk with rfl | hk
  .obtain ⟨_,e⟩:=k;exact h.1
  .exact Z5l h.2 k hk
theorem Z5k:∀ {os:List Op},ZQ os=true->∀ o∈os,Yn o.e=true
 | [],_,k,hk=> by cases hk
 | a ::r,h,k,hk=> by
  rw [ZQ,Q4] at h
  rcases Q9.1 hk with rfl | hk
  .obtain ⟨_,_,_,e⟩:=k;exact h.1
  .exact Z5k h.2 k hk
theorem Z49:∀ (n:Nat) (e:Edit) (d:Int),Za e<=n->Z5 e d=true->Yn e=true->Yn (Zi e)=true
 | 0,e,d,hn,_,_=> by
  have:3<=Za e:=Zbe e
  omega
 | n+1,e,d,hn,hr,hl=> by
  have ra:=Zn hr
  have aa:=Z1k.1 ra.ops
  rw [Z66] at hl
  simp only [Q4,decide_eq_true_eq] at hl
  have hz:∀ (k:Int) (o m:Tree) (w:List WEdit) (l:Int),Yn (.mk k o m w [] l [])=true:=by
   intro k o m w l
   rw [Yn]
   simp [Z0Q,Z0P,Jm,ZQ]
  rw [Z46]
  split
  .grind
  .split
   .rw [Yn]
    simp only [Z0Q,Z0P,ZQ,Xm,Q4,decide_eq_true_eq]
    refine ⟨by simp,?_⟩
    have:∀ ks:List Kid,(∀ k∈ks,k∈e.kids)->Jm (Jc ks)=true:=by
     intro ks
     induction ks with
     | nil=> intro _;rfl
     | cons k r ih=>
      intro h
      rw [Jc,Jm,ih fun x s=> h x (Q7 _ s),Xm]
      have hk:=h k Q8
      have hm:=Yc hk
      obtain ⟨a,x⟩:=k
      exact Z49 n x (d - 1) (by grind) (Zv ra.kids _ hk).2 (Z5l hl.1.2 _ hk)
    grind
   .split
    .rename_i k3
     have aw:=Z0F e.ops 0 (fun x s=> Z1P (Z9W (aa x s))) V0 V0
     have al:=Z0E e.ops 0 (fun x s=> Z1P (Z9W (aa x s))) V0 V0
     have ak:=ra.len
     have am:=ZgH e.list e.ops (d - 1) ⟨[],[],[]⟩ ra.ops
     have ao:=Z5G (ZA e.list e.ops ⟨[],[],[]⟩)
     have ae:=J5 e d hr
     rw [Z46,Jk,Jk,if_pos k3] at ae
     have rn:=Zn ae
     have u:=Z1k.1 rn.ops
     simp only [Edit.ops_mk,Edit.list_mk] at u
     have ax:=Z0F (Z9 (ZA e.list e.ops ⟨[],[],[]⟩)).out 0 (fun x s=> Z1P (Z9W (u x s))) V0 V0
     have aq:=Z0E (Z9 (ZA e.list e.ops ⟨[],[],[]⟩)).out 0 (fun x s=> Z1P (Z9W (u x s))) V0 V0
     have ar:sA ⟨[],[],[]⟩=0/\sB ⟨[],[],[]⟩=0:=⟨rfl,rfl⟩
     rw [Yn]
     simp only [Jm,Xm,Q4,decide_eq_true_eq]
     refine ⟨V0,?_⟩
     have hw:∀ (os:List Op),(∀ o∈os,o∈e.ops)->∀ w:Wst,ZQ w.out=true->ZQ (ZA e.list os w).out=true:=by
      intro os
      induction os with
      | nil=> intro _ w hw;exact hw
      | cons o r ih=>
       intro h w hw
       rw [ZA]
       refine ih (fun x s=> h x (Q7 _ s)) _ ?_
       have hm:=h o Q8
       rw [YW]
       split
       .exact light_keep _ _ hw
       .split
        .exact hw
        .split
         .exact hw
         .split
          .rename_i aj
           split
           .exact light_keep _ _ hw
           .dsimp only
            rw [light_app,light_flush _ hw,QB,ZQ,ZQ,Xm]
            have:=YY hm
            exact Z49 n o.e (d - 1) V0 (J4 (aa o hm) aj) (Z5k hl.2 _ hm)
          .exact hw
     exact light_flush _ (hw e.ops (fun _ h=> h) _ rfl)
    grind
where
 light_app:∀ (a b:List Op),ZQ (a++b)=(ZQ a && ZQ b)
  | [],b=> rfl
  | o ::r,b=> by rw [Qw,ZQ,ZQ,light_app r b,Bool.and_assoc]
 light_nil:Yn Edit.nil=true:=V3
 light_flush (w:Wst) (h:ZQ w.out=true):ZQ (Z9 w).out=true:=by
  unfold Z9 Jo
  dsimp only
  rw [light_app,light_app,h,QB]
  split <;> split <;> simp [ZQ,Zcn,light_nil]
 light_keep (w:Wst) (n:Int) (h:ZQ w.out=true):ZQ (ZU w n).out=true:=by
  unfold ZU
  dsimp only
  have h:=light_flush w h
  rcases YI (Z9 w).out n with e | ⟨a,o,e1,e2,e3⟩
  .rw [e,light_app,h];try rfl
  .rw [e3,light_app]
   rw [e1,light_app,Q4] at h
   rw [h.1]
   obtain ⟨_,_,_,x⟩:=o
   simpa [ZQ,Zcn] using h.2
instance decStep:DecidableEq PStep:=fun a b=> decidable_of_iff (a.kind=b.kind/\a.at_=b.at_) (by cases a;cases b;simp)
def Zff(p q:Edit):Prop:=Jx p/\Jx q/\∃ a b:Int,(0<=a/\0<=b/\a+b < 1048576)/\(YB a (Zi p)/\YB b (Zi q))/\owE (16+68*(a+b).toNat) (Zi p)<=9000000000/\owE (16+68*(a+b).toNat) (Zi q)<=9000000000
theorem Z1l{e:Edit}(h:Jx e):Jx (Zi e):=by
 obtain ⟨c,g,d,r⟩:=h
 exact ⟨X5 (Zm9 e) c,Z21 e d r g,d,J5 e d r⟩
theorem Zhk{p q:Edit}(h:Zff p q):(Jx (Zi p)/\Jx (Zi q))/\Jx (lbE (Zi p) (Zi q)).x/\Jx (lbE (Zi p) (Zi q)).y:=by
 obtain ⟨hp,hq,a,b,⟨ha,hb,u⟩,⟨tp,tq⟩,wp,wq⟩:=h
 have s:=Z1l hp
 have d:=Z1l hq
 obtain ⟨X,Y⟩:=ZGf (K:=16+68*(a+b).toNat) ha hb u (Zce s) (Zce d) tp tq
 have c1:=Zvs (K:=16+68*(a+b).toNat) (show 0<=a+b by omega) (Qf _) _ _ (Qf _) X.wk X.th
 have c2:=Zvs (K:=16+68*(a+b).toNat) (show 0<=a+b by omega) (Qf _) _ _ (Qf _) Y.wk Y.th
 have o1:=X.ow
 have o2:=Y.ow
 exact ⟨⟨s,d⟩,⟨V0,X.wk.g,-1,X.wk.r⟩,⟨V0,Y.wk.g,-1,Y.wk.r⟩⟩
theorem ZcL:∀ (n:Nat) (e:Edit),Za e<=n->Wk e->Yn e=true->YB 2000 e:=by
 intro n
 induction n with
 | zero=> intro e h;obtain ⟨k,o,nw,w,ks,l,os⟩:=e;simp only [Za] at h;omega
 | succ n ih=>
  intro e hn s h
  have re:=Zn s.r
  rw [Z66,Q4,Q4,decide_eq_true_eq] at h
  obtain ⟨⟨⟨h1,h2⟩,h3⟩,h4⟩:=h
  have nn:∀ o∈e.ops,0<=Z2 o:=fun o d=> by have:=ZB (Z06 s o d).1;omega
  have a:=(Z0F e.ops 0 nn V3 V3).1
  have b:=(Z0E e.ops 0 nn V3 V3).1
  rw [Z0r]
  refine ⟨⟨V0,V0⟩,fun k u=> ?_,fun o d=> ?_⟩
  .have:=Yc u
   exact ih k.e V0 ⟨Ya _ _ _ V3 (Zv re.kids k u).2,(Ys (Y0 s.g).2.2.2.1 u).2⟩ (Z5l h3 k u)
  .have:=YY d
   by_cases k3:o.kind=3
   .exact ih o.e V0 (Z0C (Z06 s o d) k3).1.2.2.2 (Z5k h4 o d)
   .have:o.e=Edit.nil:=by
     rcases (Z06 s o d).1 with h | h | h
     .exact h.2.2.2
     .exact h.2.2.2
     .omega
    rw [this];trivial
theorem ZwZ{p q:Edit}{d d':Int}(rp:Z5 p d=true)(rq:Z5 q d'=true)(gp:Yp p)(gq:Yp q)(lp:Yn p=true)(lq:Yn q=true)(mp:Za p<=20000)(mq:Za q<=20000):Zff p q:=by
 have cp:=Z9C p
 have cq:=Z9C q
 have s:=Z3n p
 have u:=Z3n q
 have op:=Z8M (16+68*((2000:Int)+2000).toNat) (Zi p)
 have h:=Z8M (16+68*((2000:Int)+2000).toNat) (Zi q)
 have e:((2000:Int)+2000).toNat=4000:=rfl
 rw [e] at op h
 refine ⟨⟨V0,gp,d,rp⟩,⟨V0,gq,d',rq⟩,2000,2000,⟨V3,V3,V3⟩,⟨?_,?_⟩,?_,?_⟩
 .exact ZcL _ _ (Qf _) (.of (J5 p d rp) (Z21 p d rp gp)) (Z49 _ p d (Qf _) rp lp)
 .exact ZcL _ _ (Qf _) (.of (J5 q d' rq) (Z21 q d' rq gq)) (Z49 _ q d' (Qf _) rq lq)
 .rw [e];omega
 .rw [e];omega
theorem Z2x{α:Type}{at_:α->Int}:∀ {l:List α} {last:Int},asc at_ last l->∀ a∈l,Z2y at_ l (at_ a)=some a
 | x ::r,last,h,a,ha=> by
  unfold Z2y
  rw [K5,Z4a]
  have d:∀ (r:List α) (n m:Int),asc at_ m r->n<=m->Z2y at_ r n=none:=by
   intro r n m u hn
   cases e:Z2y at_ r n with
   | none=> rfl
   | some b=>
    obtain ⟨s,h2⟩:=Z3r at_ n r b e
    have:=Zik u b s
    omega
  rcases Q9.1 ha with rfl | ha
  .rw [d r _ _ h.2 (X7 _)]
   grind
  .rw [Z2x h.2 a ha]
theorem ZyI{α:Type}{at_:α->Int}{l:List α}{last:Int}(h:asc at_ last l){a b:α}(ha:a∈l)(hb:b∈l)(e:at_ a=at_ b):a=b:=by
 have d:=Z2x h a ha
 rw [e,Z2x h b hb] at d
 grind
theorem ZuM{p q:Edit}{d d':Int}(hp:Z5 p d=true)(hq:Z5 q d'=true):lbN q p=((lbN p q).2.1,(lbN p q).1,(lbN p q).2.2):=by
 unfold lbN
 rw [Zk1 (J5 p d hp) (J5 q d' hq)]
 show (if (lbE (Zi p) (Zi q)).a=true then _ else _)=_
 split
 .try rfl
 .show (if (lbE (Zi p) (Zi q)).c=true then _ else _)=_
  split <;> rfl
def Sq(L:Lft)(p q:Edit):Prop:=∀ t u v,RT_ t->doE false p t=some u->doE false q t=some v->
 L.a=false/\(L.c=false->∃ w1 w2,doE false L.y u=some w1/\doE false L.x v=some w2/\Eqv w1 w2)
section
variable {α β:Type} {z:α} {F:β->α->Option α} {at_:β->Int} {V:α->Prop}
theorem ZuP{l:List β}{n:Int}{last:Int}(h:asc at_ last l)(e:Z2y at_ l n=none):∀ b∈l,at_ b≠n:=by
 intro b d s
 have:=Z2x h b d
 grind
theorem Zj4 {c:β->β->β} {g:β->Bool} {p q:List β} {l u v:List α} (hc:∀ a b,at_ (c a b)=at_ a) (hp:asc at_ (-1) p) (hq:asc at_ (-1) q)
  (hu:mg z (Z7f z F at_ l) at_ p l=some u) (hv:mg z (Z7f z F at_ l) at_ q l=some v) (hV:∀ i,V (v.getD i z))
  (hg:∀ w y x,g w=false->V y->F w y=some x->x=y)
  (hb:∀ a∈p,∀ b∈q,at_ a=at_ b->∃ w,F (c a b) (v.getD (at_ a).toNat z)=some w):
  ∃ r,mg z (Z7f z F at_ v) at_ ((p.map (Yq at_ c q)).filter g) v=some r/\
   (∀ a∈p,∀ b∈q,at_ a=at_ b->F (c a b) (v.getD (at_ a).toNat z)=some (r.getD (at_ a).toNat z))/\
   ∀ i:Nat,(∀ b∈q,(at_ b).toNat≠i)->r.getD i z=u.getD i z:=by
 have ac:=Z0i (g:=g) (Z18 (f:=Yq at_ c q) (Z0J hc q) hp)
 have np:=Z4m V3 hp
 have nq:=Z4m V3 hq
 obtain ⟨a1,a2⟩:=Z1w V3 hp hu
 obtain ⟨b1,b2⟩:=Z1w V3 hq hv
 have af:∀ a∈p,(∃ b∈q,at_ b=at_ a/\Yq at_ c q a=c a b)\/(Yq at_ c q a=a/\∀ b∈q,(at_ b).toNat≠(at_ a).toNat):=by
  intro a d
  unfold Yq
  cases e:Z2y at_ q (at_ a) with
  | some b=>
   obtain ⟨h1,h2⟩:=Z3r at_ _ _ _ e
   grind
  | none=>
   refine .inr ⟨rfl,fun b hb h=> ZuP hq e b hb ?_⟩
   grind
 have ex:∀ a∈p,∃ w,F (Yq at_ c q a) (v.getD (at_ a).toNat z)=some w:=by
  intro a d
  rcases af a d with ⟨b,aa,e1,e2⟩ | ⟨e,hn⟩
  .grind
  .rw [e,b2 _ hn]
   obtain ⟨x,s,_⟩:=a1 a d
   exact ⟨x,s⟩
 obtain ⟨r,hr⟩:=ZnE (z:=z) (f:=Z7f z F at_ v) (p:=at_) (ws:=(p.map (Yq at_ c q)).filter g) (out:=v) (by
  intro w hw
  obtain ⟨a,d,rfl⟩:=Xb.1 (Xc.1 hw).1
  show ∃ x,F (Yq at_ c q a) (v.getD (at_ (Yq at_ c q a)).toNat z)=some x
  grind)
 obtain ⟨r1,r2⟩:=Z1w V3 ac hr
 have at1:∀ a∈p,F (Yq at_ c q a) (v.getD (at_ a).toNat z)=some (r.getD (at_ a).toNat z):=by
  intro a d
  by_cases hga:g (Yq at_ c q a)=true
  .obtain ⟨x,s,hr⟩:=r1 _ (Xc.2 ⟨Xb.2 ⟨a,d,rfl⟩,hga⟩)
   unfold Z7f at s
   rw [Z0J hc] at s hr
   rw [hr,s]
  .rw [Kh] at hga
   obtain ⟨x,s⟩:=ex a d
   rw [s,hg _ _ _ hga (hV _) s,r2 _ fun w hw e=> ?_]
   obtain ⟨h1,h2⟩:=Xc.1 hw
   obtain ⟨a',ab,rfl⟩:=Xb.1 h1
   rw [Z0J hc] at e
   have:=np a d
   have:=np a' ab
   have:a'=a:=ZyI hp ab d V0
   grind
 refine ⟨r,hr,fun a d b aa e=> ?_,fun i hn=> ?_⟩
 .have:Yq at_ c q a=c a b:=by
   unfold Yq
   rw [e,Z2x hq b aa]
  grind
 .by_cases hi:∃ a∈p,(at_ a).toNat=i
  .obtain ⟨a,d,rfl⟩:=hi
   have h:=at1 a d
   rcases af a d with ⟨b,aa,e1,_⟩ | ⟨e,_⟩
   .grind
   .obtain ⟨x,s,ax⟩:=a1 a d
    unfold Z7f at s
    grind
  .have hi:∀ a∈p,(at_ a).toNat≠i:=fun a d e=> hi ⟨a,d,e⟩
   rw [r2 i,b2 i hn,a2 i hi]
   intro w hw
   obtain ⟨a,d,rfl⟩:=Xb.1 (Xc.1 hw).1
   grind
theorem Zdm {R:α->α->Prop} (Rr:∀ x,R x x) {cx cy:β->β->β} {g:β->Bool} {p q:List β} {l u v:List α} (hx:∀ a b,at_ (cx a b)=at_ a) (hy:∀ a b,at_ (cy a b)=at_ a)
  (hp:asc at_ (-1) p) (hq:asc at_ (-1) q) (hu:mg z (Z7f z F at_ l) at_ p l=some u) (hv:mg z (Z7f z F at_ l) at_ q l=some v)
  (hVu:∀ i,V (u.getD i z)) (hVv:∀ i,V (v.getD i z)) (hg:∀ w y x,g w=false->V y->F w y=some x->x=y)
  (hb:∀ a∈p,∀ b∈q,at_ a=at_ b->∀ x y,F a (l.getD (at_ a).toNat z)=some x->F b (l.getD (at_ a).toNat z)=some y->∃ w1 w2,F (cy b a) x=some w1/\F (cx a b) y=some w2/\R w1 w2):
  ∃ w1 w2,mg z (Z7f z F at_ u) at_ ((q.map (Yq at_ cy p)).filter g) u=some w1/\mg z (Z7f z F at_ v) at_ ((p.map (Yq at_ cx q)).filter g) v=some w2/\∀ i,R (w1.getD i z) (w2.getD i z):=by
 have np:=Z4m V3 hp
 have nq:=Z4m V3 hq
 obtain ⟨a1,a2⟩:=Z1w V3 hp hu
 obtain ⟨b1,b2⟩:=Z1w V3 hq hv
 have bb:∀ a∈p,∀ b∈q,at_ a=at_ b->∃ w1 w2,F (cy b a) (u.getD (at_ a).toNat z)=some w1/\F (cx a b) (v.getD (at_ a).toNat z)=some w2/\R w1 w2:=by
  intro a s b d e
  obtain ⟨x,af,ai⟩:=a1 a s
  obtain ⟨y,aa,ae⟩:=b1 b d
  unfold Z7f at af aa
  rw [<-e] at aa ae
  rw [ai,ae]
  exact hb a s b d e x y af aa
 obtain ⟨w2,e2,t2,s2⟩:=Zj4 (c:=cx) (g:=g) (V:=V) hx hp hq hu hv hVv hg fun a s b d e=> by
  grind
 obtain ⟨w1,e1,t1,s1⟩:=Zj4 (c:=cy) (g:=g) (V:=V) hy hq hp hv hu hVu hg fun b d a s e=> by
  obtain ⟨w,_,h,_⟩:=bb a s b d e.symm
  grind
 refine ⟨w1,w2,e1,e2,fun i=> ?_⟩
 by_cases s:∃ a∈p,(at_ a).toNat=i
 .by_cases d:∃ b∈q,(at_ b).toNat=i
  .obtain ⟨a,s,ea⟩:=s
   obtain ⟨b,d,eb⟩:=d
   have:=np a s
   have:=nq b d
   have e:at_ a=at_ b:=V0
   obtain ⟨x,y,h1,h2,hR⟩:=bb a s b d e
   grind
  .have d:∀ b∈q,(at_ b).toNat≠i:=fun b h e=> d ⟨b,h,e⟩
   rw [s2 i d]
   have hw:w1.getD i z=u.getD i z:=by
    have ac:=Z0i (g:=g) (Z18 (f:=Yq at_ cy p) (Z0J hy p) hq)
    refine (Z1w V3 ac e1).2 i fun w hw=> ?_
    obtain ⟨b,aj,rfl⟩:=Xb.1 (Xc.1 hw).1
    rw [Z0J hy]
    exact d b aj
   grind
 .have s:∀ a∈p,(at_ a).toNat≠i:=fun a h e=> s ⟨a,h,e⟩
  rw [s1 i s]
  have hw:w2.getD i z=v.getD i z:=by
   have ac:=Z0i (g:=g) (Z18 (f:=Yq at_ cx q) (Z0J hx q) hp)
   refine (Z1w V3 ac e2).2 i fun w hw=> ?_
   obtain ⟨a,ah,rfl⟩:=Xb.1 (Xc.1 hw).1
   rw [Z0J hx]
   exact s a ah
  grind
end
theorem ZfY{m:Int}(hm:0<=m/\m < 256):(0<=Z4z m/\Z4z m < 256)/\∀ i:Nat,i < 8->Z0n (Z4z m) (i:Int)= !Z0n m (i:Int):=by
 have d:(BitVec.ofInt 8 255 ^^^ BitVec.ofInt 8 m).toNat < 256:=(BitVec.ofInt 8 255 ^^^ BitVec.ofInt 8 m).isLt
 have e:Z4z m=((BitVec.ofInt 8 255 ^^^ BitVec.ofInt 8 m).toNat:Int):=by
  show IntKind.wrap .u8 ((BitVec.ofInt 8 255 ^^^ BitVec.ofInt 8 m).toNat:Int)=_
  exact Z5C V0 V0
 refine ⟨by rw [e];omega,fun i h=> ?_⟩
 rw [Z5h _ (by rw [e];omega) (by rw [e];omega),e,Z5h m hm.1 hm.2]
 have:(BitVec.ofInt 8 (((BitVec.ofInt 8 255 ^^^ BitVec.ofInt 8 m).toNat:Nat):Int)).toNat=(BitVec.ofInt 8 255 ^^^ BitVec.ofInt 8 m).toNat:=by
  generalize (BitVec.ofInt 8 255 ^^^ BitVec.ofInt 8 m).toNat=k at d ⊢
  simp
  omega
 rw [this,BitVec.toNat_xor,Nat.testBit_xor]
 have:(BitVec.ofInt 8 255).toNat.testBit i=true:=by
  revert i
  decide
 grind
theorem Zmx{a b:WEdit}(ra:Zdo a)(rb:Zdo b){x u v:Int}(hu:doW a x=some u)(hv:doW b x=some v):
  Yw a b=false/\(Z0a a b=false->∃ w1 w2,doW (Z0H b a) u=some w1/\doW (Z0H a b) v=some w2/\w1=w2):=by
 unfold doW at hu hv
 split at hu
 .rename_i ea
  split at hv
  .rename_i eb
   cases hu
   cases hv
   have A:=Z6N ra.2.1 rb.2.1
   have s:=ZfY ra.2.1
   have nb:=ZfY rb.2.1
   have A1:=Z6N s.1 rb.2.1
   have A2:=Z6N nb.1 ra.2.1
   have oa:∀ i:Nat,i < 8->Z0n a.mask (i:Int)=true->Zk a.old i=Zk x i:=fun i d h=> by rw [<-ea,Z13 d,if_pos h]
   have ob:∀ i:Nat,i < 8->Z0n b.mask (i:Int)=true->Zk b.old i=Zk x i:=fun i d h=> by rw [<-eb,Z13 d,if_pos h]
   refine ⟨decide_eq_false (Classical.not_not.2 (Z5A (Z12 _ _ _) (Z12 _ _ _) fun i d=> ?_)),fun hc=> ?_⟩
   .rw [Z13 d,Z13 d,A.2]
    grind
   .have hc:mix 0 a.new (Z0S a.mask b.mask)=mix 0 b.new (Z0S a.mask b.mask):=Classical.not_not.1 (of_decide_eq_false hc)
    have c1:mix 0 (mix x a.new a.mask) (Z0H b a).mask=(Z0H b a).old:=by
     show mix 0 (mix x a.new a.mask) (Z0S (Z4z a.mask) b.mask)=mix 0 b.old (Z0S (Z4z a.mask) b.mask)
     refine Z5A (Z12 _ _ _) (Z12 _ _ _) fun i d=> ?_
     rw [Z13 d,Z13 d,Z13 d,A1.2,s.2 i d]
     cases ha:Z0n a.mask (i:Int) with
     | true=> simp
     | false=>
      grind
    have c2:mix 0 (mix x b.new b.mask) (Z0H a b).mask=(Z0H a b).old:=by
     show mix 0 (mix x b.new b.mask) (Z0S (Z4z b.mask) a.mask)=mix 0 a.old (Z0S (Z4z b.mask) a.mask)
     refine Z5A (Z12 _ _ _) (Z12 _ _ _) fun i d=> ?_
     rw [Z13 d,Z13 d,Z13 d,A2.2,nb.2 i d]
     cases hb:Z0n b.mask (i:Int) with
     | true=> simp
     | false=>
      grind
    unfold doW
    rw [if_pos c1,if_pos c2]
    refine ⟨_,_,rfl,rfl,?_⟩
    show mix (mix x a.new a.mask) (mix 0 b.new (Z0S (Z4z a.mask) b.mask)) (Z0S (Z4z a.mask) b.mask)=mix (mix x b.new b.mask) (mix 0 a.new (Z0S (Z4z b.mask) a.mask)) (Z0S (Z4z b.mask) a.mask)
    refine Z5A (Z12 _ _ _) (Z12 _ _ _) fun i d=> ?_
    have e:=congrArg (fun x=> Zk x i) hc
    simp only [Z13 d,A.2,A1.2,A2.2,s.2 i d,nb.2 i d] at e ⊢
    grind
  .cases hv
 .cases hu
theorem Zvp{w:WEdit}{y x:Int}(h:(!decide (w.mask=0))=false)(hy:isW y)(e:doW w y=some x):x=y:=by
 have h:w.mask=0:=by simpa using h
 unfold doW at e
 rw [h] at e
 split at e
 .rw [<-Option.some.inj e]
  refine Z5A (Z12 _ _ _) hy fun i s=> ?_
  have d:Z0n 0 (i:Int)=false:=by unfold Z0n;simp
  rw [Z13 s,d,if_neg V3]
 .cases e
theorem Zc0{a:List Op}{s d:List Tree}(h:Run a s d):∀ {b:List Op} {u d':List Tree},Run b u d'->Run (a++b) (s++u) (d++d'):=by
 induction h with
 | nil=> grind
 | keep k n _ ih=> intro b u d' h;rw [Qi,Qi];exact .keep k n (ih h)
 | gone k n _ ih=> intro b u d' h;rw [Qi];exact .gone k n (ih h)
 | come k _ ih=> intro b u d' h;rw [Qi];exact .come k (ih h)
 | into k e _ ih=> intro b u d' h;exact .into k e (ih h)
theorem Z5O(l:List Tree):Run (JU l.length) l l:=by
 unfold JU
 split
 .rename_i h
  have:l=[]:=Q6 V0
  rw [this];exact .nil
 .exact Z1O rfl rfl
theorem Zj2(l:List Tree):Run (Z4c l) [] l:=by
 unfold Z4c
 split
 .rename_i h
  rw [h];exact .nil
 .have:=Run.come (o:=⟨2,0,l,Edit.nil⟩) (r:=[]) (s:=[]) (d:=[]) rfl .nil
  grind
def SqL(S:PL)(u v:List Tree):Prop:=S.a=false/\(S.c=false->∃ w1 w2,Run S.y u w1/\Run S.x v w2/\EqvL w1 w2)
theorem SqL.app{S T:PL}{u v u' v':List Tree}(h:SqL S u v)(k:SqL T u' v'):SqL (S.app T) (u++u') (v++v'):=by
 refine ⟨by show (S.a || T.a)=false;rw [h.1,k.1];rfl,fun c=> ?_⟩
 have c:(S.c || T.c)=false:=c
 rw [QD] at c
 obtain ⟨w1,w2,d,h2,s⟩:=h.2 c.1
 obtain ⟨x1,x2,k1,k2,k3⟩:=k.2 c.2
 exact ⟨_,_,Zc0 d k1,Zc0 h2 k2,Zvi s k3⟩
theorem Zm5(m h:List Tree):SqL (JL m h) m h:=by
 unfold JL
 by_cases e:m≠[]/\h≠[]
 .rw [if_pos e]
  refine ⟨rfl,fun c=> ⟨m,h,Z5O m,Z5O h,?_⟩⟩
  have c:(!Z7Q m h)=false:=c
  rw [Xr] at c
  exact Z1e.1 c
 .rw [if_neg e]
  have d:m=[]\/h=[]:=by
   by_cases d:m=[]
   .exact .inl d
   .by_cases hh:h=[]
    .exact .inr hh
    .exact absurd ⟨d,hh⟩ e
  refine ⟨rfl,fun _=> ⟨m++h,m++h,?_,?_,rfl⟩⟩
  .have:=Zc0 (Z5O m) (Zj2 h)
   grind
  .have:=Zc0 (Zj2 m) (Z5O h)
   exact this
theorem Zj1{e:Edit}{x y:Tree}(h:doE false e x=some y):Run [Z4q e] [x] [y]:=by
 unfold Z4q
 split
 .rename_i k
  rw [Zfm k] at h
  cases h
  exact Z1O rfl rfl
 .exact .into rfl h .nil
theorem Zti {f:Edit->Edit->Lft} {p q:Op} {s u v:List Tree} (op:ZP p) (oq:ZP q) (hl:Z2 p=Z2 q) (p2:p.kind≠2) (q2:q.kind≠2) (hs:∀ t∈s,RT_ t)
  (rp:p.kind=3->∃ d,Z5 p.e d=true) (rq:q.kind=3->∃ d,Z5 q.e d=true)
  (hf:p.kind=3->q.kind=3->Sq (f p.e q.e) p.e q.e) (hp:Run [p] s u) (hq:Run [q] s v):SqL (ZE f p q) u v:=by
 have kp:=J6 op
 have kq:=J6 oq
 unfold kOk at kp kq
 by_cases a0:p.kind=0
 .have eu:=Z71 a0 hp
  subst eu
  by_cases b1:q.kind=1
  .rw [Zx7 a0 b1]
   obtain ⟨a,s',rfl,hn,hr⟩:=(YN b1).1 hq
   obtain ⟨rfl,rfl⟩:=Y8 hr
   exact ⟨rfl,fun _=> ⟨[],[],hq,.nil,rfl⟩⟩
  .rw [pL0 a0 b1]
   refine ⟨rfl,fun _=> ⟨v,v,hq,Z1O rfl ?_,rfl⟩⟩
   have l1:=ZaQ oq b1 hq
   show (v.length:Int)=if q.n < 1 then 1 else q.n
   by_cases b0:q.kind=0
   .have:=(Z24 oq b0).2
    omega
   .have:=Zcj oq b0
    rw [Yu]
    have:=Z0A (o:=q) V0
    omega
 by_cases b0:q.kind=0
 .have ev:=Z71 b0 hq
  subst ev
  by_cases a1:p.kind=1
  .rw [Zx6 a1 b0]
   obtain ⟨a,s',rfl,hn,hr⟩:=(YN a1).1 hp
   obtain ⟨rfl,rfl⟩:=Y8 hr
   exact ⟨rfl,fun _=> ⟨[],[],.nil,hp,rfl⟩⟩
  .rw [Zx3 a0 a1 b0]
   refine ⟨rfl,fun _=> ⟨u,u,Z1O rfl ?_,hp,rfl⟩⟩
   have l1:=ZaQ op a1 hp
   have:=Z0A (o:=p) V0
   grind
 by_cases a1:p.kind=1
 .obtain ⟨a,s',rfl,hn,hr⟩:=(YN a1).1 hp
  obtain ⟨rfl,rfl⟩:=Y8 hr
  by_cases b1:q.kind=1
  .obtain ⟨a',s',es,ak,h⟩:=(YN b1).1 hq
   obtain ⟨e0,rfl⟩:=Y8 h
   subst e0
   rw [Zx5 a1 b1]
   rw [Qn,Qn] at es
   subst es
   refine ⟨?_,fun _=> ⟨[],[],.nil,.nil,rfl⟩⟩
   show (!Z7Q p.l q.l)=false
   rw [Xr]
   exact Z1e.2 (hn.trans ak.symm)
  .have b3:q.kind=3:=V0
   rw [pL1 a1 b0 b1]
   obtain ⟨x,s',y,d',e1,_,he,h⟩:=(Z0x b3).1 hq
   obtain ⟨rfl,_⟩:=Y8 h
   rw [Qn] at e1
   subst e1
   obtain ⟨d,rq⟩:=rq b3
   have hx:Eqv x (p.l.getD 0 Tree.nil):=by
    have:=EqvL.get (show EqvL p.l [x] from hn) 0
    exact this.symm
   have:=(Z6G q.e d x _ rq hx).isSome
   rw [he] at this
   refine ⟨?_,fun c=> by cases c⟩
   grind
 have a3:p.kind=3:=V0
 obtain ⟨x,s',y,d',rfl,rfl,he,hr⟩:=(Z0x a3).1 hp
 obtain ⟨rfl,rfl⟩:=Y8 hr
 by_cases b1:q.kind=1
 .obtain ⟨a,s',e1,hn,h⟩:=(YN b1).1 hq
  obtain ⟨rfl,rfl⟩:=Y8 h
  rw [Qn] at e1
  subst e1
  rw [Zx2 a0 a1 b1]
  obtain ⟨d,rp⟩:=rp a3
  have hx:Eqv x (q.l.getD 0 Tree.nil):=by
   have:=EqvL.get (show EqvL q.l [x] from hn) 0
   exact this.symm
  have:=(Z6G p.e d x _ rp hx).isSome
  rw [he] at this
  refine ⟨?_,fun c=> by cases c⟩
  grind
 .have b3:q.kind=3:=V0
  obtain ⟨x',s',y',d',e1,rfl,al,h⟩:=(Z0x b3).1 hq
  cases e1
  obtain ⟨_,rfl⟩:=Y8 h
  rw [Zx4 a0 a1 b0 b1]
  obtain ⟨h1,h2⟩:=hf a3 b3 x y y' (hs x Q8) he al
  refine ⟨h1,fun c=> ?_⟩
  obtain ⟨w1,w2,g1,g2,g3⟩:=h2 c
  exact ⟨[w1],[w2],Zj1 g1,Zj1 g2,Zae.2 g3⟩
theorem ZCB{f:Edit->Edit->Lft}:∀ (k:Nat) (p q:List Op) (m h s u v:List Tree),p.length+q.length<=k->(∀ o∈p,ZP o/\(o.kind=3->∃ d,Z5 o.e d=true))->(∀ o∈q,ZP o/\(o.kind=3->∃ d,Z5 o.e d=true))->
  (∀ a∈p,∀ b∈q,a.kind=3->b.kind=3->Sq (f a.e b.e) a.e b.e)->(∀ t∈s,RT_ t)->Run p s u->Run q s v->∃ S,Lay f p q m h S/\SqL S (m++u) (h++v):=by
 intro k
 induction k with
 | zero=>
  intro p q m h s u v hk _ _ _ _ hp hq
  have e1:p=[]:=Q6 V0
  have e2:q=[]:=Q6 V0
  subst e1 e2
  obtain ⟨_,rfl⟩:=Y8 hp
  obtain ⟨_,rfl⟩:=Y8 hq
  rw [Qn,Qn]
  exact ⟨_,.nil m h,Zm5 m h⟩
 | succ k ih=>
  intro p q m h s u v hk op oq hf hs hp hq
  by_cases h1:∃ a p',p=a ::p'/\a.kind=2
  .obtain ⟨a,p',rfl,k2⟩:=h1
   obtain ⟨u',rfl,a4⟩:=(YU k2).1 hp
   obtain ⟨S,L,H⟩:=ih p' q (m++a.l) h s u' v (by grind) (fun o ho=> op o (Q7 _ ho)) oq (fun x hx=> hf x (Q7 _ hx)) hs a4 hq
   rw [Qi] at H
   exact ⟨S,.left k2 L,H⟩
  have np:∀ a∈p.head?,a.kind≠2:=by
   intro a ha e
   cases p with
   | nil=> cases ha
   | cons a' p'=> grind
  by_cases h2:∃ b q',q=b ::q'/\b.kind=2
  .obtain ⟨b,q',rfl,k2⟩:=h2
   obtain ⟨v',rfl,aw⟩:=(YU k2).1 hq
   obtain ⟨S,L,H⟩:=ih p q' m (h++b.l) s u v' (by grind) op (fun o ho=> oq o (Q7 _ ho)) (fun x hx y hy=> hf x hx y (Q7 _ hy)) hs hp aw
   rw [Qi] at H
   exact ⟨S,.right np k2 L,H⟩
  have a5:(s.length:Int)=YK p:=(ZgR hp fun o ho=> (op o ho).1).1
  have a9:(s.length:Int)=YK q:=(ZgR hq fun o ho=> (oq o ho).1).1
  cases p with
  | nil=>
   obtain ⟨rfl,rfl⟩:=Y8 hp
   cases q with
   | nil=>
    obtain ⟨_,rfl⟩:=Y8 hq
    rw [Qn,Qn]
    exact ⟨_,.nil m h,Zm5 m h⟩
   | cons b q'=>
    exfalso
    have kb:b.kind≠2:=fun e=> h2 ⟨_,_,rfl,e⟩
    have ob:=(oq b Q8).1
    obtain ⟨m1,m',d',e,hl,_⟩:=Z7e ob kb hq
    have:=ZB ob
    grind
  | cons a p'=>
   have ka:a.kind≠2:=fun e=> h1 ⟨_,_,rfl,e⟩
   have oa:=(op a Q8).1
   have la:=ZB oa
   cases q with
   | nil=>
    exfalso
    obtain ⟨rfl,_⟩:=Y8 hq
    obtain ⟨m1,m',d',e,hl,_⟩:=Z7e oa ka hp
    grind
   | cons b q'=>
    have kb:b.kind≠2:=fun e=> h2 ⟨_,_,rfl,e⟩
    have ob:=(oq b Q8).1
    have lb:=ZB ob
    generalize hn:min (Z2 a) (Z2 b)=n
    have n1:1<=n:=V0
    have a0:n<=Z2 a:=V0
    have a1:n<=Z2 b:=V0
    obtain ⟨P1,P2,P3,_,_,PR⟩:=Z36 (fun o ho=> (op o ho).1) n1 a0
    obtain ⟨Q1,Q2,Q3,_,_,QR⟩:=Z36 (fun o ho=> (oq o ho).1) n1 a1
    obtain ⟨s1,s2,u1,u2,rfl,rfl,al,az⟩:=(Zj3 (J6 P1)).1 ((PR s u).1 hp)
    obtain ⟨bc,bn,v1,v2,es,rfl,am,ax⟩:=(Zj3 (J6 Q1)).1 ((QR _ v).1 hq)
    have l1:=Zdl P1 V0 al
    have l2:=Zdl Q1 V0 am
    obtain ⟨rfl,rfl⟩:=Ki es V0
    have bi:=ZmH (a:=a) (b:=b) (p:=p') (q:=q') hn.symm
    have tp:∀ o∈ZC (a ::p') n,ZP o/\(o.kind=3->∃ d,Z5 o.e d=true):=fun o ho=> ⟨Z5F (fun o ho=> (op o ho).1) (by simp) n1 o ho,fun k3=> by
     rcases Jq ho with h | rfl
     .grind
     .rw [Z1f];rw [YP] at k3;grind⟩
    have tq:∀ o∈ZC (b ::q') n,ZP o/\(o.kind=3->∃ d,Z5 o.e d=true):=fun o ho=> ⟨Z5F (fun o ho=> (oq o ho).1) (by simp) n1 o ho,fun k3=> by
     rcases Jq ho with h | rfl
     .grind
     .rw [Z1f];rw [YP] at k3;grind⟩
    obtain ⟨S,L,H⟩:=ih _ _ [] [] s2 u2 v2 V0 tp tq (fun x hx y hy kx ky=> by
     rcases Jq hx with hx | rfl
     .rcases Jq hy with hy | rfl
      .grind
      .rw [Z1f];rw [YP] at ky;grind
     .rw [Z1f];rw [YP] at kx
      rcases Jq hy with hy | rfl
      .grind
      .rw [Z1f];rw [YP] at ky;grind) (fun t ht=> hs t (Xl _ ht)) az ax
    refine ⟨_,.both ka kb hn.symm L,?_⟩
    have av:SqL (ZE f (Zt a n) (Zt b n)) u1 v1:=by
     refine Zti P1 Q1 V0 V0 V0 (fun t ht=> hs t (QO _ ht)) ?_ ?_ ?_ al am
     .rw [P3,Z1I];grind
     .rw [Q3,Z1I];grind
     .rw [P3,Q3,Z1I,Z1I];grind
    have:=((Zm5 m h).app av).app H
    grind
theorem Zq0{os:List Op}{s d:List Tree}(h:Run os s d):(∀ o∈os,o.kind=0)->d=s:=by
 induction h with
 | nil=> intro _;rfl
 | keep k n _ ih=> grind
 | gone k n _ ih=> grind
 | come k _ ih=> grind
 | into k e _ ih=> grind
theorem Zn2{list:Int}{os:List Op}{s d:List Tree}(h:Run os s d):doE false (Z0y list os) (.mk list [] s)=some (.mk list [] d):=by
 unfold Z0y
 split
 .rw [ZGu,if_pos (show (Tree.mk list [] s).kind=list from rfl)]
  show (Z3B (ZL false os s [])).map _=_
  rw [Zsh h]
  try rfl
 .rename_i e
  rw [Zfm rfl,Zq0 h]
  grind
end Go.AM.YtpjenobkibfpcaaGreat
namespace Go.AM.YtpjenobkibfpcaaGreat
open Go.AM Go.Proofs
theorem Sq.swap{L:Lft}{p q:Edit}(h:Sq L.swap q p):Sq L p q:=by
 intro t u v ht hu hv
 obtain ⟨h1,h2⟩:=h t v u ht hv hu
 refine ⟨h1,fun c=> ?_⟩
 obtain ⟨w1,w2,d,s,g3⟩:=h2 c
 exact ⟨w2,w1,s,d,Eq.symm g3⟩
theorem ZfB{a b:Tree}:ZY a b=true↔a=b:=by unfold ZY;grind
theorem ZcA{α:Type}{at_:α->Int}{g:α->α->Bool}{p q:List α}:JO at_ g p q=false↔∀ a∈p,∀ b∈q,at_ a=at_ b->g a b=false:=by
 unfold JO
 grind
theorem ZmU {ws:List WEdit} {ks:List Kid} {tw a:List Int} {tk b:List Tree} (h1:wsD tw (ws.filter fun w=> !decide (w.mask=0)) tw=some a)
  (h2:JQ false tk (ks.filter fun k=> !decide (k.e.kind=0)) tk=some b):doE false (Z3b (.mk 2 Tree.nil Tree.nil ws ks 0 [])) (.mk 1 tw tk)=some (.mk 1 a b):=by
 unfold Z3b
 split
 .rename_i h
  have h:(ws.filter fun w=> !decide (w.mask=0)).length+(ks.filter fun k=> !decide (k.e.kind=0)).length=0:=h
  rw [Q6 (show (ws.filter fun w=> !decide (w.mask=0)).length=0 by omega)] at h1
  rw [Q6 (show (ks.filter fun k=> !decide (k.e.kind=0)).length=0 by omega)] at h2
  rw [Zfm rfl]
  cases h1
  rw [JQ] at h2
  grind
 .show doE false (.mk 2 Tree.nil Tree.nil (ws.filter fun w=> !decide (w.mask=0)) (ks.filter fun k=> !decide (k.e.kind=0)) 0 []) (.mk 1 tw tk)=_
  rw [Zvo,if_pos (show (Tree.mk 1 tw tk).kind=1 from rfl)]
  simp_all
theorem ZBj{f:Edit->Edit->Lft}{p q:Edit}(wp:Wk p)(wq:Wk q)(p2:p.kind=2)(q2:q.kind=2)(hf:∀ a∈p.kids,∀ b∈q.kids,Sq (f a.e b.e) a.e b.e):Sq (Z4x f p q) p q:=by
 intro t u v ht hu hv
 have rp:=Zn wp.r
 have rq:=Zn wq.r
 rw [ZCK p2] at hu
 rw [ZCK q2] at hv
 split at hu
 .rename_i t1
  rw [if_pos t1] at hv
  obtain ⟨uw,u1,hu⟩:=Ql.1 hu
  obtain ⟨uk,u2,rfl⟩:=Qj.1 hu
  obtain ⟨vw,v1,hv⟩:=Ql.1 hv
  obtain ⟨vk,v2,rfl⟩:=Qj.1 hv
  have iw:=(ZwR ht.2).2.1
  have iu:=ZgB iw u1
  have iv:=ZgB iw v1
  have hk:=ht.kids.1
  rw [Zmv] at u1 v1
  rw [Zkp] at u2 v2
  have pw:=Z5D rp.words
  have qw:=Z5D rq.words
  have pk:=Z97 rp.kids
  have qk:=Z97 rq.kids
  obtain ⟨a1,_⟩:=Z1w V3 pw u1
  obtain ⟨b1,_⟩:=Z1w V3 qw v1
  obtain ⟨c1,_⟩:=Z1w V3 pk u2
  obtain ⟨d1,_⟩:=Z1w V3 qk v2
  have gp:=Y0 wp.g
  have gq:=Y0 wq.g
  have W:∀ a∈p.words,∀ b∈q.words,a.at_=b.at_->Yw a b=false:=by
   intro a h b d e
   obtain ⟨x,hx,_⟩:=a1 a h
   obtain ⟨y,s,_⟩:=b1 b d
   unfold Z7f at hx s
   rw [<-e] at s
   exact (Zmx (gp.2.2.1 a h) (gq.2.2.1 b d) hx s).1
  have K:∀ a∈p.kids,∀ b∈q.kids,a.at_=b.at_->(f a.e b.e).a=false:=by
   intro a h b d e
   obtain ⟨x,hx,_⟩:=c1 a h
   obtain ⟨y,s,_⟩:=d1 b d
   unfold Z7f at hx s
   rw [<-e] at s
   exact (hf a h b d _ _ _ (ZiH hk _) hx s).1
  refine ⟨?_,fun c=> ?_⟩
  .show (JO WEdit.at_ Yw p.words q.words || JO KidOf.at_ (fun a b=> (f a.e b.e).a) p.kids q.kids)=false
   rw [ZcA.2 W,ZcA.2 K]
   try rfl
  .have c:(JO WEdit.at_ (fun a b=> !Yw a b && Z0a a b) p.words q.words || JO KidOf.at_ (fun a b=> (f a.e b.e).c) p.kids q.kids)=false:=c
   rw [QD,ZcA,ZcA] at c
   obtain ⟨w1,w2,e1,e2,e3⟩:=Zdm (R:=Eq) (V:=isW) (cx:=Z0H) (cy:=Z0H) (g:=fun w:WEdit=> !decide (w.mask=0)) (fun _=> rfl) Z94 Z94 pw qw u1 v1
    (fun i=> Zmy iu i) (fun i=> Zmy iv i) (fun w y x h1 h2 h3=> Zvp h1 h2 h3) (fun a h b d e x y hx s=> by
     have cc:=c.1 a h b d e
     rw [W a h b d e] at cc
     exact (Zmx (gp.2.2.1 a h) (gq.2.2.1 b d) hx s).2 cc)
   obtain ⟨k1,k2,f1,f2,f3⟩:=Zdm (R:=Eqv) (V:=fun _=> True) (F:=fun k:Kid=> doE false k.e) (cx:=fun a b:Kid=> ⟨a.at_,(f a.e b.e).x⟩) (cy:=fun b a:Kid=> ⟨b.at_,(f a.e b.e).y⟩) (g:=fun k:Kid=> !decide (k.e.kind=0)) (fun _=> rfl) (fun _ _=> rfl) (fun _ _=> rfl) pk qk u2 v2
    (fun _=> trivial) (fun _=> trivial) (fun w y x h1 _ h3=> by
     have h1:w.e.kind=0:=by simpa using h1
     have h3:doE false w.e y=some x:=h3
     rw [Zfm h1] at h3
     grind) (fun a h b d e x y hx s=> (hf a h b d _ x y (ZiH hk _) hx s).2 (c.2 a h b d e))
   rw [<-Zmv] at e1 e2
   rw [<-Zkp] at f1 f2
   exact ⟨_,_,ZmU e1 f1,ZmU e2 f2,(Z7P rfl rfl).2 ⟨e3,f3⟩⟩
 .cases hu
theorem ZCw{f:Edit->Edit->Lft}{p q:Edit}(wp:Wk p)(wq:Wk q)(p3:p.kind=3)(q3:q.kind=3)(hl:p.list=q.list)(hf:∀ a∈p.ops,∀ b∈q.ops,a.kind=3->b.kind=3->Sq (f a.e b.e) a.e b.e):Sq (Z3o f p q) p q:=by
 intro t u v ht h hv
 have rp:=Zn wp.r
 have rq:=Zn wq.r
 rw [ZCJ p3] at h
 rw [ZCJ q3] at hv
 split at h
 .rename_i t1
  rw [if_pos (by rw [t1,hl])] at hv
  obtain ⟨ul,u1,rfl⟩:=Qj.1 h
  obtain ⟨vl,v1,rfl⟩:=Qj.1 hv
  have op:=Z06 wp
  have s:=Z06 wq
  rw [ZhS fun o d=> J6 (op o d).1] at u1
  rw [ZhS fun o d=> J6 (s o d).1] at v1
  obtain ⟨S,L,H⟩:=ZCB (f:=f) _ p.ops q.ops [] [] t.kids ul vl (Qf _) (fun o d=> ⟨(op o d).1,fun k=> ⟨_,(Z0C (op o d) k).1.2.2.2.r⟩⟩) (fun o d=> ⟨(s o d).1,fun k=> ⟨_,(Z0C (s o d) k).1.2.2.2.r⟩⟩) hf ht.kids.1 u1 v1
  obtain ⟨b,ps,e1,e2⟩:=ZlR L []
  have e:Z3o f p q=⟨Z0y p.list S.x,Z0y p.list S.y,S.c,S.a⟩:=by
   unfold Z3o
   grind
  rw [e]
  refine ⟨H.1,fun c=> ?_⟩
  obtain ⟨w1,w2,h1,h2,h3⟩:=H.2 c
  have ak:=rp.list p3
  refine ⟨_,.mk p.list [] w2,Zn2 h1,?_,?_⟩
  .rw [<-hl];exact Zn2 h2
  .exact (Zkk (show (Tree.mk p.list [] w1).kind≠0 from fun e=> by simp_all) (fun e=> by simp_all)).2 ⟨rfl,rfl,h3⟩
 .cases h
theorem ZiL{p q:Edit}{d:Int}(rq:Z5 q d=true)(p1:p.kind=1):Sq (Z09 q p.old p.new) p q:=by
 intro t u v ht s hv
 rw [ZCL p1] at s
 split at s
 .rename_i h
  cases s
  have h:Eqv p.old t:=ZfB.1 h
  have R:=Z6G q d p.old t rq h
  rw [hv] at R
  cases e:doE false q p.old with
  | none=> rw [e] at R;exact R.elim
  | some w=>
   rw [e] at R
   have R:Eqv w v:=R
   have hd:=Zvr e
   refine ⟨?_,fun c=> ?_⟩
   .show (!(doB q p.old).2)=false
    rw [hd];try rfl
   .have c:((doB q p.old).2 && !ZY (Z3 (doB q p.old).1) (Z3 p.new))=false:=c
    rw [hd,QB,Xr,ZfB,Yb] at c
    exact ⟨p.new,v,Zfm rfl _,Zfm rfl _,c.symm.trans R⟩
 .cases s
theorem ZGe:∀ (n:Nat) (p q:Edit),Za p+Za q<=n->Wk p->Wk q->Sq (lbF n p q) p q:=by
 intro n
 induction n with
 | zero=> intro p q h;obtain ⟨k,o,nw,w,ks,l,os⟩:=p;simp only [Za] at h;omega
 | succ n ih=>
  intro p q hn wp d
  have rp:=Zn wp.r
  have rq:=Zn d.r
  show Sq (Yo (lbF n) p q) p q
  by_cases p0:p.kind=0
  .rw [lb0 (.inl p0)]
   intro t u v ht hu hv
   rw [Zfm p0] at hu
   cases hu
   exact ⟨rfl,fun _=> ⟨v,v,hv,Zfm p0 v,rfl⟩⟩
  by_cases q0:q.kind=0
  .rw [lb0 (.inr q0)]
   intro t u v ht hu hv
   rw [Zfm q0] at hv
   cases hv
   exact ⟨rfl,fun _=> ⟨u,u,Zfm q0 u,hu,rfl⟩⟩
  by_cases p1:p.kind=1
  .rw [lb1 p1 q0]
   exact ZiL d.r p1
  by_cases q1:q.kind=1
  .rw [Zyu p0 p1 q1]
   exact Sq.swap (ZiL wp.r q1)
  by_cases c2:p.kind≠q.kind\/p.list≠q.list
  .intro t u v ht hu hv
   exfalso
   obtain ⟨x1,x2,x3,x4⟩:=Zcr wp.r hu
   obtain ⟨y1,y2,y3,y4⟩:=Zcr d.r hv
   have hp:=rp.kind
   have hq:=rq.kind
   by_cases p2:p.kind=2
   .have e1:=(x2 p2).2
    by_cases q2:q.kind=2
    .have:=(rp.ops0 V0).1
     have:=(rq.ops0 V0).1
     omega
    .have q3:q.kind=3:=V0
     have:=(y3 q3).2
     have:=rq.list q3
     omega
   .have p3:p.kind=3:=V0
    have e1:=(x3 p3).2
    have:=rp.list p3
    grind
  have hk:q.kind=p.kind:=V0
  have s:p.list=q.list:=V0
  by_cases p2:p.kind=2
  .rw [lb2 p2 V0 s]
   refine ZBj wp d p2 V0 fun a ha b hb=> ih _ _ ?_ ?_ ?_
   .have:=Yc ha
    have:=Yc hb
    omega
   .exact ⟨Ya _ _ _ V3 (Zv rp.kids a ha).2,(Ys (Y0 wp.g).2.2.2.1 ha).2⟩
   .exact ⟨Ya _ _ _ V3 (Zv rq.kids b hb).2,(Ys (Y0 d.g).2.2.2.1 hb).2⟩
  .have hp:=rp.kind
   rw [lb3 hk.symm p0 p1 p2 s]
   refine ZCw wp d V0 V0 s fun a ha b hb ka kb=> ih _ _ ?_ ?_ ?_
   .have:=YY ha
    have:=YY hb
    omega
   .exact (Z0C (Z06 wp a ha) ka).1.2.2.2
   .exact (Z0C (Z06 d b hb) kb).1.2.2.2
theorem ZCA{p q:Edit}(wp:Wk p)(wq:Wk q):Sq (lbE p q) p q:=ZGe _ p q (Qf _) wp wq
theorem Ztw{e:Edit}{d:Int}{u s w:Tree}(r:Z5 e d=true)(hu:RT_ u)(h:doE false e u=some w)(he:Eqv u s):∃ z,doE false (Zi e) s=some z/\Eqv z w:=by
 have h1:=Z5a e d u r hu
 rw [h] at h1
 have h2:=Z6G (Zi e) d u s (J5 e d r) he
 cases e1:doE false (Zi e) u with
 | none=> rw [e1] at h1;exact h1.elim
 | some x=>
  rw [e1] at h1 h2
  cases e2:doE false (Zi e) s with
  | none=> rw [e2] at h2;exact h2.elim
  | some z=>
   rw [e2] at h2
   have h1:Eqv x w:=h1
   have h2:Eqv x z:=h2
   exact ⟨z,rfl,h2.symm.trans h1⟩
theorem ZCz{p q:Edit}{t u v:Tree}(h:Zff p q)(ht:RT_ t)(hu:doE false p t=some u)(hv:doE false q t=some v):
  (lbN p q).2.2=13\/((lbN p q).2.2=0/\∃ w1 w2,doE false (lbN p q).2.1 (Z3 u)=some w1/\doE false (lbN p q).1 (Z3 v)=some w2/\Eqv w1 w2):=by
 obtain ⟨⟨h1,h2⟩,h3,h4⟩:=Zhk h
 obtain ⟨⟨_,gp,dp,rp⟩,⟨_,gq,dq,rq⟩,_⟩:=h
 have wp:Wk (Zi p):=Zce h1
 have d:Wk (Zi q):=Zce h2
 have e1:=Z5a p dp t rp ht
 have e2:=Z5a q dq t rq ht
 rw [hu] at e1
 rw [hv] at e2
 cases hu':doE false (Zi p) t with
 | none=> rw [hu'] at e1;exact e1.elim
 | some u'=>
  cases hv':doE false (Zi q) t with
  | none=> rw [hv'] at e2;exact e2.elim
  | some v'=>
   rw [hu'] at e1
   rw [hv'] at e2
   have e1:Eqv u' u:=e1
   have e2:Eqv v' v:=e2
   obtain ⟨ha,hc⟩:=ZCA wp d t u' v' ht hu' hv'
   unfold lbN
   rw [if_neg (by grind)]
   by_cases c:(lbE (Zi p) (Zi q)).c=true
   .grind
   .rw [if_neg c]
    refine .inr ⟨rfl,?_⟩
    obtain ⟨w1,w2,s,g2,g3⟩:=hc (by simpa using c)
    obtain ⟨_,_,dx,rx⟩:=h3
    obtain ⟨_,_,dy,ry⟩:=h4
    obtain ⟨z1,k1,k2⟩:=Ztw ry (Zko wp.r ht wp.g hu') s (show Eqv u' (Z3 u) from e1.trans (Yb u).symm)
    obtain ⟨z2,k3,k4⟩:=Ztw rx (Zko d.r ht d.g hv') g2 (show Eqv v' (Z3 v) from e2.trans (Yb v).symm)
    exact ⟨z1,z2,k1,k3,k2.trans (g3.trans k4.symm)⟩
noncomputable section
def Zpq:ArgL (WEdit × Int × Unit):=(.cons (aEl .wedit) (.cons (Yr .u8) .nil))
def ZdX(a:WEdit × Int × Unit):Prop:=wOk a.1/\0<=a.2.1/\a.2.1 < 256
def Zle(a:WEdit × Int × Unit):V U:= .tup [(true,(enc .wedit ((Zgd a.1 a.2.1).1))),(false,[.bool ((Zgd a.1 a.2.1).2)])]
def ZbV:Fs U:=fs Zpq (fun a=> [ZdX a]) Zle
def Ziw:ArgM ((Bool × Bool × Unit) × WEdit × WEdit × Unit):=(.obj 0 (.cons Z1E (.cons Z1E .nil)) (.cons (aEl .wedit) (.cons (aEl .wedit) .nil)))
def ZhF(a:(Bool × Bool × Unit) × WEdit × WEdit × Unit):Prop:=wOk a.2.1/\wOk a.2.2.1
def ZsP(a:(Bool × Bool × Unit) × WEdit × WEdit × Unit):V U:= .tup []
def Z8A(a:(Bool × Bool × Unit) × WEdit × WEdit × Unit):List (List (C U)):=[[.bool (a.1.1 || (!(Yw a.2.1 a.2.2.1) && Z0a a.2.1 a.2.2.1)),.bool (a.1.2.1 || Yw a.2.1 a.2.2.1)]]
def ZbW:Fs U:=fsX Ziw (fun a=> [ZhF a]) ZsP Z8A
def Zhv(a:List Tree × Unit):Prop:=True
def Zh7(a:List Tree × Unit):V U:= .c (sU .op (Z4c a.1) (.own (.r 0 0)))
def Z8e:Fs U:=fs Zpi (fun a=> [Zhv a]) Zh7
def Zhu(a:Edit × Unit):Prop:=True
def Zh6(a:Edit × Unit):V U:= .agg (enc .op (Z4q a.1))
def ZbO:Fs U:=fs Zps (fun a=> [Zhu a]) Zh6
def ZpA:ArgL Unit:= .nil
def Za3(a:Unit):Prop:=True
def Zlf(a:Unit):V U:= .tup [(true,(enc .edit Edit.nil)),(true,(enc .edit Edit.nil))]
def ZbY:Fs U:=fs ZpA (fun a=> [Za3 a]) Zlf
def Zit:ArgM ((Unit × List Op × List Op × List Tree × List Tree × Unit) × Edit × Tree × (Bool × Bool × Unit) × Unit):=(.obj 0 (.cons (cXp 1) (.cons (Z3F .op 0 1) (.cons (Z3F .op 0 2) (.cons (Z3F .tree 0 3) (.cons (Z3F .tree 0 4) .nil))))) (.cons (aEl .edit) (.cons (aEl .tree) (.hid (.cons Z1E (.cons Z1E .nil)) .nil))))
def ZdO(a:(Unit × List Op × List Op × List Tree × List Tree × Unit) × Edit × Tree × (Bool × Bool × Unit) × Unit):Prop:=(Za a.2.1<=20000000000/\Yp a.2.1/\∃ d,Z5 a.2.1 d=true)/\Zj a.2.2.1+ctE a.2.1<=200000000000/\rng a.2.2.1
def ZsE(a:(Unit × List Op × List Op × List Tree × List Tree × Unit) × Edit × Tree × (Bool × Bool × Unit) × Unit):V U:= .tup []
def Zc2(a:(Unit × List Op × List Op × List Tree × List Tree × Unit) × Edit × Tree × (Bool × Bool × Unit) × Unit):List (List (C U)):=[[.xp 1,sU .op a.1.2.1 (.own (.x 0 1)),sU .op a.1.2.2.1 (.own (.x 0 2)),sU .tree a.1.2.2.2.1 (.own (.x 0 3)),sU .tree a.1.2.2.2.2.1 (.own (.x 0 4))],[.bool true,.bool (a.2.2.2.1.2.1 || !(doE false a.2.1 a.2.2.1).isSome)]]
def ZbP:Fs U:=fsX Zit (fun a=> [ZdO a]) ZsE Zc2
def Zup:Zc U:=lvl [([1,2,4],[2,4]),([1,2,4],[2,4]),([4,5],[4])]
abbrev ZIp(p:List Nat):=AW (Z1 Z6c) Tryz.f140 Zup p
theorem ZFr(w:WEdit)(m:Int)(Q:QT)(h:let z0:=IntKind.wrap .u8 (BitVec.ofInt (IntKind.bits .u8) m &&& BitVec.ofInt (IntKind.bits .u8) w.mask).toNat;((ZhG (0,w.old,z0,()))/\(ZhG (0,w.new,z0,()))/\(Q .ret (L2 [pL 4,(5,.c (.bool ((z0:Int) !=0)))] [(.loc 4,[ci w.at_,.int .u8 z0,.int .u64 (mix 0 w.old z0),.int .u64 (mix 0 w.new z0)])])))):
  ZIp [] (L2 [(0,.agg (enc .wedit w)),(1,.c (.int .u8 m))] []) Q:=
 Eq.mpr V4 h
def ZzQ(w:WEdit)(m:Int):Prop:=AW (Z1 Z6c) Tryz.f140 Zup [] (Zf (Zpq.can (w,m,())) []) (EQ Tryz.f140 (Zle (w,m,())) [])
theorem Zy1(ZbK:CT 176 Z8o)(hb:∀ (w:WEdit) (m:Int) (_:Unit),ZdX (w,m,())->ZzQ w m):CT 140 ZbV:=
 Z0 (l:=[(176,Z8o)]) Zh rfl (⟨ZbK,trivial⟩) Zup Tryz.func140 rfl rfl 2 (fun _=> rfl) V3 (fun ⟨w,m,_⟩=> hb w m ())
def Zuq:Zc U:=lvk [([0,4,5],[4,5,((.x 0),[])]),([0,4,5,6],[4,5,((.x 0),[])]),([0,4,5,6,12],[4,5,((.x 0),[])]),([],[((.x 0),[])]),([0,25],[((.x 0),[])]),([],[((.x 0),[])])]
abbrev ZIq(p:List Nat):=AW (Z1 Z6c) Tryz.f139 Zuq p
theorem ZFs(mc ma:Bool)(p q:WEdit)(Q:QT)(h:∀ d,d=(BitVec.ofInt (IntKind.bits .u8) p.mask &&& BitVec.ofInt (IntKind.bits .u8) q.mask)->let z0:=IntKind.wrap .u8 d.toNat;let z1:=((mix 0 p.new z0):Int) !=(mix 0 q.new z0);((ZhG (0,p.old,z0,()))/\(ZhG (0,q.old,z0,()))/\(iB (((mix 0 p.old z0):Int) !=(mix 0 q.old z0)) ((Q .normal (L2 [] [(.x 0,[.bool mc,.bool true])]))) ((ZhG (0,p.new,z0,()))/\(ZhG (0,q.new,z0,()))/\(iB z1 ((Q .normal (L2 [] [(.x 0,[.bool true,.bool ma])]))) (Q .normal (L2 [(0,.ptr (.x 0) 0),(25,.c (.bool z1))] [(.x 0,[.bool mc,.bool ma])]))))))):
  ZIq [] (L2 [(0,.ptr (.x 0) 0),(1,.agg (enc .wedit p)),(2,.agg (enc .wedit q))] [(.x 0,[.bool mc,.bool ma])]) Q:=
 Eq.mpr V4 (h _ rfl)
def ZzR(mc ma:Bool)(p q:WEdit):Prop:=AW (Z1 Z6c) Tryz.f139 Zuq [] (Zf (Ziw.can ((mc,ma,()),p,q,())) (Ziw.canX ((mc,ma,()),p,q,()))) (EQ Tryz.f139 (ZsP ((mc,ma,()),p,q,())) (Z8A ((mc,ma,()),p,q,())))
theorem Zy2(ZbK:CT 176 Z8o)(hb:∀ (mc:Bool) (ma:Bool) (p:WEdit) (q:WEdit) (_:Unit),ZhF ((mc,ma,()),p,q,())->ZzR mc ma p q):CT 139 ZbW:=
 Zq (l:=[(176,Z8o)]) Zh rfl (⟨ZbK,trivial⟩) Zuq Tryz.func139 rfl rfl 3 (fun _=> rfl) V3 (fun ⟨⟨mc,ma,_⟩,p,q,_⟩=> hb mc ma p q ())
def Zu5:Zc U:=lvl [([0],[]),([0,5],[]),([2],[]),([2],[])]
abbrev ZIb(p:List Nat):=AW (Z1 ZlW) Tryz.f195 Zu5 p
theorem ZEY(l:List Tree)(Q:QT)(h:(iB (((l.length:Int):Int)==0) ((Q .ret (L2 [(2,.c (.nils))] []))) ((Q .ret (L2 [(2,.c (sU .op ([(OpOf.mk 2 0 l (Edit.mk 0 (Tree.mk 0 [] []) (Tree.mk 0 [] []) [] [] 0 []))]) .full))] []))))):
  ZIb [] (L2 [(0,.c (sU .tree l .unk))] []) Q:=
 Eq.mpr V4 h
def Zzn(l:List Tree):Prop:=AW (Z1 ZlW) Tryz.f195 Zu5 [] (Zf (Zpi.can (l,())) []) (EQ Tryz.f195 (Zh7 (l,())) [])
theorem ZxA(hb:∀ (l:List Tree) (_:Unit),Zhv (l,())->Zzn l):CT 195 Z8e:=
 Z0 (l:=[]) Zh rfl trivial Zu5 Tryz.func195 rfl rfl 1 (fun _=> rfl) V3 (fun ⟨l,_⟩=> hb l ())
def Zu3:Zc U:=lvl [([1,2],[1,2]),([1,2,5],[1,2]),([2],[2]),([2],[2])]
abbrev ZI9(p:List Nat):=AW (Z1 ZlW) Tryz.f197 Zu3 p
theorem ZEW(e:Edit)(Q:QT)(h:(iB (e.kind==0) ((Q .ret (L2 [pL 2] [(.loc 2,[ci 0,ci 1,.nils,ci 0,ci 0,.nils,.nils,ci 0,.nils,.nils,.nils,.nils,ci 0,.nils])]))) ((Q .ret (L2 [pL 2] [(.loc 2,([ci 3,ci 0,.nils]++enc .edit e))]))))):
  ZI9 [] (L2 [(0,.agg (enc .edit e))] []) Q:=
 Eq.mpr V4 h
def Zzl(e:Edit):Prop:=AW (Z1 ZlW) Tryz.f197 Zu3 [] (Zf (Zps.can (e,())) []) (EQ Tryz.f197 (Zh6 (e,())) [])
theorem Zxy(hb:∀ (e:Edit) (_:Unit),Zhu (e,())->Zzl e):CT 197 ZbO:=
 Z0 (l:=[]) Zh rfl trivial Zu3 Tryz.func197 rfl rfl 1 (fun _=> rfl) V3 (fun ⟨e,_⟩=> hb e ())
def Zuy:Zc U:=lvl [([0,1],[0,1]),([0,1],[0,1])]
abbrev ZIw(p:List Nat):=AW (Z1 ZlW) Tryz.f104 Zuy p
theorem ZFL(Q:QT)(h:(Q .ret (L2 [pL 0,pL 1] [(.loc 0,zc1),(.loc 1,zc1)]))):
  ZIw [] (L2 [] []) Q:=
 Eq.mpr V4 h
def ZAa:Prop:=AW (Z1 ZlW) Tryz.f104 Zuy [] (Zf (ZpA.can ()) []) (EQ Tryz.f104 (Zlf ()) [])
theorem Zye(hb:∀ (_:Unit),Za3 ()->ZAa):CT 104 ZbY:=
 Z0 (l:=[]) Zh rfl trivial Zuy Tryz.func104 rfl rfl 0 (fun _=> rfl) V3 (fun _=> hb ())
def Zoe:List (FuncId × Fs U):=[(25,Z0t)]
def Zu4:Zc U:=lvk [([0,4,5],[4,5,((.x 0),[]),((.x 1),[])]),([0,7],[((.x 0),[]),((.x 1),[])]),([0,15],[((.x 0),[]),((.x 1),[])]),([0],[((.x 0),[]),((.x 1),[])]),([],[((.x 0),[]),((.x 1),[])])]
abbrev ZIa(p:List Nat):=AW (Z1 Zoe) Tryz.f196 Zu4 p
theorem ZEX(sm_:Unit)(sx sy:List Op)(si sh:List Tree)(e:Edit)(t:Tree)(mc ma:Bool)(Q:QT)(h:let z1:=Tree.mk t.kind t.words t.kids;let z0:=Edit.mk e.kind (Tree.mk e.old.kind e.old.words e.old.kids) (Tree.mk e.new.kind e.new.words e.new.kids) e.words e.kids e.list e.ops;((Z3g (z0,z1,()))/\(iB (!((doE false z0 z1).isSome)) ((Q .normal (L2 [] [(.x 0,[.xp 1,sU .op sx (.own (.x 0 1)),sU .op sy (.own (.x 0 2)),sU .tree si (.own (.x 0 3)),sU .tree sh (.own (.x 0 4))]),(.x 1,[.bool true,.bool true])]))) ((Q .normal (L2 [] [(.x 0,[.xp 1,sU .op sx (.own (.x 0 1)),sU .op sy (.own (.x 0 2)),sU .tree si (.own (.x 0 3)),sU .tree sh (.own (.x 0 4))]),(.x 1,[.bool true,.bool ma])])))))):
  ZIa [] (L2 [(0,.ptr (.x 0) 0),(1,.agg (enc .edit e)),(2,.agg (enc .tree t))] [(.x 0,[.xp 1,sU .op sx (.own (.x 0 1)),sU .op sy (.own (.x 0 2)),sU .tree si (.own (.x 0 3)),sU .tree sh (.own (.x 0 4))]),(.x 1,[.bool mc,.bool ma])]) Q:=
 Eq.mpr V4 h
def Zzm(sm_:Unit)(sx sy:List Op)(si sh:List Tree)(e:Edit)(t:Tree)(mc ma:Bool):Prop:=AW (Z1 Zoe) Tryz.f196 Zu4 [] (Zf (Zit.can ((sm_,sx,sy,si,sh,()),e,t,(mc,ma,()),())) (Zit.canX ((sm_,sx,sy,si,sh,()),e,t,(mc,ma,()),()))) (EQ Tryz.f196 (ZsE ((sm_,sx,sy,si,sh,()),e,t,(mc,ma,()),())) (Zc2 ((sm_,sx,sy,si,sh,()),e,t,(mc,ma,()),())))
theorem Zxz(c25:CT 25 Z0t)(hb:∀ (d:Unit) (h:List Op) (u:List Op) (si:List Tree) (s:List Tree) (e:Edit) (t:Tree) (mc:Bool) (ma:Bool) (_:Unit),ZdO ((d,h,u,si,s,()),e,t,(mc,ma,()),())->Zzm d h u si s e t mc ma):CT 196 ZbP:=
 Zq (l:=[(25,Z0t)]) Zh rfl (⟨c25,trivial⟩) Zu4 Tryz.func196 rfl rfl 3 (fun _=> rfl) V3 (fun ⟨⟨d,h,u,si,s,_⟩,e,t,⟨mc,ma,_⟩,_⟩=> hb d h u si s e t mc ma ())
end
theorem ZDl:Contract Tryz.prog cfg 140 ZbV:=by
 refine Zy1 ZbK ?_
 intro w m _ hp
 simp only [ZdX] at hp
 obtain ⟨h,d,s⟩:=hp
 refine ZFr _ _ _ ?_
 intros;(simp only [iB,vcT,vcS])
 have u:=(Z6N ⟨d,s⟩ h.1.2.1).1
 refine ⟨⟨⟨V0,V0⟩,h.1.2.2.1,u⟩,⟨⟨V0,V0⟩,h.1.2.2.2,u⟩,?_⟩
 have e:(IntKind.u8.wrap (BitVec.ofInt (IntKind.bits .u8) m &&& BitVec.ofInt (IntKind.bits .u8) w.mask).toNat !=0)=decide (Z0S m w.mask≠0):=by
  show (Z0S m w.mask !=0)=_
  grind
 rw [e]
 simp only [Zle,Zgd]
 exact V1
theorem ZDm:Contract Tryz.prog cfg 139 ZbW:=by
 refine Zy2 ZbK ?_
 intro mc ma p q _ d
 simp only [ZhF] at d
 obtain ⟨d,hq⟩:=d
 refine ZFs _ _ _ _ _ ?_
 intro y1 ae
 have e:IntKind.wrap .u8 y1.toNat=Z0S p.mask q.mask:=by rw [ae];try rfl
 (simp only [iB,vcT,vcS])
 rw [e]
 have rm:=(Z6N d.1.2.1 hq.1.2.1).1
 have u:(0:Int)<=0/\(0:Int) < 18446744073709551616:=⟨V0,V0⟩
 refine ⟨⟨u,d.1.2.2.1,rm⟩,⟨u,hq.1.2.2.1,rm⟩,fun h=> ?_,fun h=> ⟨⟨u,d.1.2.2.2,rm⟩,⟨u,hq.1.2.2.2,rm⟩,fun h2=> ?_,fun h2=> ?_⟩⟩
 .have s:Yw p q=true:=by simp [Yw,h]
  simp only [Z8A,s,Xu,XP,Qx,Xg]
  exact V1
 .have s:Yw p q=false:=by simp [Yw,h]
  have a2:Z0a p q=true:=by simp [Z0a,h2]
  simp only [Z8A,s,a2,Xx,QB,Qx,Xg]
  exact V1
 .have s:Yw p q=false:=by simp [Yw,h]
  have a2:Z0a p q=false:=by simp [Z0a,h2]
  simp only [Z8A,s,a2,Xx,QB,Qx]
  exact V1
theorem ZD3:Contract Tryz.prog cfg 195 Z8e:=by
 refine ZxA ?_
 intro l _ d
 refine ZEY _ _ ?_
 (simp only [iB,vcT,vcS])
 refine ⟨fun h=> ?_,fun h=> ?_⟩
 .have:l=[]:=Qq.1 V0
  simp only [Zh7,Z4c,if_pos this]
  exact V1
 .have:l≠[]:=fun e=> h (by rw [e];rfl)
  simp only [Zh7,Z4c,if_neg this]
  exact V1
theorem ZD1:Contract Tryz.prog cfg 197 ZbO:=by
 refine Zxy ?_
 intro e _ d
 refine ZEW _ _ ?_
 (simp only [iB,vcT,vcS])
 refine ⟨fun h=> ?_,fun h=> ?_⟩
 .simp only [Zh6,Z4q,if_pos h]
  exact V1
 .simp only [Zh6,Z4q,if_neg h]
  exact V1
theorem ZDw:Contract Tryz.prog cfg 104 ZbY:=by
 refine Zye ?_
 intro _ d
 refine ZFL _ ?_
 simp only [Zlf]
 exact V1
theorem ZD2:Contract Tryz.prog cfg 196 ZbP:=by
 refine Zxz c25 ?_
 intro d u sy si sh e t mc ma _ s
 simp only [ZdO] at s
 refine ZEX d _ _ _ _ _ _ _ _ _ ?_
 (simp only [iB,vcT,vcS])
 simp only [Tree.eta,Edit.eta]
 refine ⟨s,fun h=> ?_,fun h=> ?_⟩
 .simp only [Zc2,h,Xx,Xg]
  exact V1
 .simp only [Zc2,h,Xu,Qx]
  exact V1
end Go.AM.YtpjenobkibfpcaaGreat
