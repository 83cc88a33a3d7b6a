import Derived.Test.YtfapacabjkhepaaGreatWmX
import Derived.Test.YtfapacabjkhepaaGreatChecked
import Derived.Test.YtfapacabjkhepaaGreatRows
import Derived.ProofKit
set_option linter.unusedSimpArgs false
set_option linter.unusedVariables false
namespace Go.AM
def Zu(w:Int)(i:Nat):Int:=w / 256 ^ i % 256
def Z0j(m:Int)(i:Int):Bool:=decide (m / 2 ^ i.toNat % 2=1)
def of8(f:Nat->Int):Int:=f 0+256*(f 1+256*(f 2+256*(f 3+256*(f 4+256*(f 5+256*(f 6+256*f 7))))))
def Jo(a b m:Int)(i:Nat):Int:=if Z0j m i then Zu b i else Zu a i
def mix(a b m:Int):Int:=of8 (Jo a b m)
theorem aiT{p q:Prop}:(p->q->p/\q)=True:=eq_true fun a b=> ⟨a,b⟩
mutual
def Zd:Edit->Nat
 | .mk _ o n w ks _ os=> 1+Zh o+Zh n+w.length+os.length+Zp ks+Zj os
def Zp:List (KidOf Edit)->Nat
 | []=> 0
 | k ::r=> Ym k+Zp r
def Ym:KidOf Edit->Nat
 | ⟨_,e⟩=> Zd e
def Zj:List (OpOf Edit)->Nat
 | []=> 0
 | o ::r=> Zx o+Zj r
def Zx:OpOf Edit->Nat
 | ⟨_,_,l,e⟩=> Ze l+Zd e
end
mutual
def Z3p:Edit->Prop
 | .mk _ o n w ks _ os=> Z2t o/\Z2t n/\w.length<=17592186044416/\ks.length<=17592186044416/\os.length<=17592186044416/\Z66 ks/\Z65 os
def Z66:List (KidOf Edit)->Prop
 | []=> True
 | k ::r=> ZiP k/\Z66 r
def ZiP:KidOf Edit->Prop
 | ⟨_,e⟩=> Z3p e
def Z65:List (OpOf Edit)->Prop
 | []=> True
 | o ::r=> Zng o/\Z65 r
def Zng:OpOf Edit->Prop
 | ⟨_,_,l,e⟩=> l.length<=17592186044416/\Z3o l/\Z3p e
end
def isW(n:Int):Prop:=0<=n/\n < 18446744073709551616
def Z2T(w:WEdit):Prop:=InR w.at_/\(0<=w.mask/\w.mask < 256)/\isW w.old/\isW w.new
mutual
def Y0:Edit->Prop
 | .mk k o n w ks l os=> InR k/\rng o/\rng n/\(∀ x∈w,Z2T x)/\InR l/\Z0N ks/\Z05 os
def Z0N:List (KidOf Edit)->Prop
 | []=> True
 | k ::r=> Z1b k/\Z0N r
def Z1b:KidOf Edit->Prop
 | ⟨a,e⟩=> InR a/\Y0 e
def Z05:List (OpOf Edit)->Prop
 | []=> True
 | o ::r=> YF o/\Z05 r
def YF:OpOf Edit->Prop
 | ⟨k,n,l,e⟩=> InR k/\InR n/\Ya l/\Y0 e
end
def sh1(t:Tree)(n:Int):Int:=if n < 0 then n else ZD t 80 n
mutual
def Z0H:Edit->Int->Int->Int
 | .mk _ o nw w ks _ os,d,n=> if d=0\/n - 1 - w.length - os.length < 0 then -1 else Z0f os (d - 1) (JS ks (d - 1) (sh1 nw (ZD o 80 (n - 1 - w.length - os.length))))
def JS:List (KidOf Edit)->Int->Int->Int
 | [],_,n=> n
 | k ::r,d,n=> if n < 0 then n else JS r d (Z3f k d n)
def Z3f:KidOf Edit->Int->Int->Int
 | ⟨_,e⟩,d,n=> Z0H e d n
def Z0f:List (OpOf Edit)->Int->Int->Int
 | [],_,n=> n
 | o ::r,d,n=> if n < 0 then n else Z0f r d (Z5y o d n)
def Z5y:OpOf Edit->Int->Int->Int
 | ⟨_,_,l,e⟩,d,n=> if ZB l 80 n < 0 then ZB l 80 n else Z0H e d (ZB l 80 n)
end
def Ys(t:Tree):Bool:=decide (t.kind=0/\t.words.length=0/\t.kids.length=0)
def Z14(e:Edit):Bool:=decide (e.kind=0) && Ys e.old && Ys e.new && decide (e.words.length=0/\e.kids.length=0/\e.ops.length=0/\e.list=0)
def Yg(w m:Int):Bool:=decide (mix w 0 m=0)
def ZN(last:Int):List WEdit->Bool
 | []=> true
 | w ::r=> decide (last < w.at_/\w.at_<=65534/\w.mask≠0) && Yg w.old w.mask && Yg w.new w.mask && ZN w.at_ r
def Z7(o:Op):Int:=if o.kind=3 then 1 else o.n+o.l.length
def Z13:List Op->Int->Int
 | [],n=> n
 | o ::r,n=> Z13 r (min (if o.kind=2 then n else n+Z7 o) 1048576)
def Z12:List Op->Int->Int
 | [],n=> n
 | o ::r,n=> Z12 r (min (if o.kind=1 then n else n+Z7 o) 1048576)
def JE(list:Int):List Tree->Bool
 | []=> true
 | t ::r=> Za (.mk list [] [t]) 64 && JE list r
def dT(d:Int):Int:=if d < 0 then -1 else 64
theorem ZoY{d:Int}(h:0<=d):dT d=64:=by unfold dT;omega
theorem Zf9{d:Int}(h:d < 0):dT d= -1:=by unfold dT;rw [if_pos h]
theorem ZAF(d:Int):dT d≠0:=by unfold dT;omega
def Yp(D list:Int):List Tree->Bool
 | []=> true
 | t ::r=> Za (.mk list [] [t]) D && Yp D list r
theorem Zat(list:Int):∀ l:List Tree,Yp 64 list l=JE list l
 | []=> rfl
 | t ::r=> by simp only [Yp,JE,Zat list r]
mutual
def Z6:Edit->Int->Bool
 | .mk k o n w ks l os,d=>
  if d=0\/k < 0\/3 < k then false
  else if (k≠1/\¬(Ys o=true/\Ys n=true))\/(k≠2/\¬(w.length=0/\ks.length=0))\/(k≠3/\(l≠0\/os.length≠0)) then false
  else if k=1 then Za o (dT d) && Za n (dT d) && decide (o.kind≠10/\n.kind≠10)
  else ZN (-1) w && Zz (-1) ks (d - 1) && decide (¬(k=3/\(l < 2\/9 < l))) && Zy l os (d - 1) && decide (Z13 os 0 < 1048576/\Z12 os 0 < 1048576)
def Zz(last:Int):List (KidOf Edit)->Int->Bool
 | [],_=> true
 | k ::r,d=> YM last k d && Zz k.at_ r d
def YM(last:Int):KidOf Edit->Int->Bool
 | ⟨a,e⟩,d=> decide (last < a/\a<=65534/\e.kind≠0) && Z6 e d
def Zy(list:Int):List (OpOf Edit)->Int->Bool
 | [],_=> true
 | o ::r,d=> Zf list o d && Zy list r d
def Zf(list:Int):OpOf Edit->Int->Bool
 | ⟨k,n,l,e⟩,d=>
  if k=0 then decide (1<=n/\n<=1048576/\l.length=0) && Z14 e
  else if n≠0\/k < 0\/3 < k then false
  else if k < 3 then Yp (dT d) list l && decide (0 < l.length) && Z14 e
  else decide (l.length=0/\e.kind≠0/\7 < list) && Z6 e d && decide (list=8\/e.kind=2\/e.kind=1/\e.old.kind=1/\e.new.kind=1)
end
mutual
def ctE:Edit->Nat
 | .mk _ o n w ks _ os=> 16+Zh o+Zh n+65600*w.length+Z0Y ks+YZ os
def Z0Y:List (KidOf Edit)->Nat
 | []=> 0
 | k ::r=> Z2Q k+Z0Y r
def Z2Q:KidOf Edit->Nat
 | ⟨_,e⟩=> 65600+ctE e
def YZ:List (OpOf Edit)->Nat
 | []=> 0
 | o ::r=> Z2V o+YZ r
def Z2V:OpOf Edit->Nat
 | ⟨_,_,l,e⟩=> 16+Ze l+ctE e
end
theorem Z2R(e:Edit):ctE e=16+Zh e.old+Zh e.new+65600*e.words.length+Z0Y e.kids+YZ e.ops:=by cases e;rfl
theorem Z4d(k:Kid):Z2Q k=65600+ctE k.e:=by cases k;rfl
theorem Z4H(o:Op):Z2V o=16+Ze o.l+ctE o.e:=by cases o;rfl
theorem Zfc:∀ {ks:List Kid} {k:Kid},k∈ks->ctE k.e+65600<=Z0Y ks
 | a ::r,k,h=> by
  rcases Q7.1 h with rfl | h
  .simp only [Z0Y,Z4d];omega
  .have:=Zfc h;simp only [Z0Y];omega
theorem Zam:∀ {os:List Op} {o:Op},o∈os->ctE o.e+Ze o.l+16<=YZ os
 | a ::r,o,h=> by
  rcases Q7.1 h with rfl | h
  .simp only [YZ,Z4H];omega
  .have:=Zam h;simp only [YZ];omega
theorem Zk0(t:Tree):1<=Zh t:=by obtain ⟨k,w,ks⟩:=t;simp only [Zh];omega
mutual
theorem Z9c:∀ (e:Edit),Zd e<=ctE e
 | .mk k o n w ks l os=> by
  have d:=Z6s ks
  have h:os.length+Zj os<=YZ os:=Z3U os
  simp only [Zd,ctE]
  omega
theorem Z6s:∀ (ks:List (KidOf Edit)),Zp ks<=Z0Y ks
 | []=> Qc _
 | k ::r=> by
  have d:=ZlC k
  have h:=Z6s r
  simp only [Zp,Z0Y]
  omega
theorem ZlC:∀ (k:KidOf Edit),Ym k<=Z2Q k
 | ⟨a,e⟩=> by
  have:=Z9c e
  simp only [Ym,Z2Q]
  omega
theorem Z3U:∀ (os:List (OpOf Edit)),os.length+Zj os<=YZ os
 | []=> Qc _
 | o ::r=> by
  have d:=Zqr o
  have h:=Z3U r
  simp only [Zj,YZ,Qe]
  omega
theorem Zqr:∀ (o:OpOf Edit),Zx o+1<=Z2V o
 | ⟨k,n,l,e⟩=> by
  have:=Z9c e
  simp only [Zx,Z2V]
  omega
end
mutual
theorem Z6Q:∀ (e:Edit),ctE e+131100<=65600*Zd e
 | .mk k o n w ks l os=> by
  have d:=ZgL ks
  have h:=ZgK os
  have:=Zk0 o
  have:=Zk0 n
  simp only [Zd,ctE]
  omega
theorem ZgL:∀ (ks:List (KidOf Edit)),Z0Y ks<=65600*Zp ks
 | []=> Qc _
 | k ::r=> by
  have d:=Zmz k
  have h:=ZgL r
  simp only [Zp,Z0Y]
  omega
theorem Zmz:∀ (k:KidOf Edit),Z2Q k<=65600*Ym k
 | ⟨a,e⟩=> by
  have:=Z6Q e
  simp only [Ym,Z2Q]
  omega
theorem ZgK:∀ (os:List (OpOf Edit)),YZ os<=65600*(os.length+Zj os)
 | []=> Qc _
 | o ::r=> by
  have d:=ZqT o
  have h:=ZgK r
  simp only [Zj,YZ,Qe]
  omega
theorem ZqT:∀ (o:OpOf Edit),Z2V o<=65600*(Zx o+1)
 | ⟨k,n,l,e⟩=> by
  have:=Z6Q e
  simp only [Zx,Z2V]
  omega
end
mutual
def Z2J:Edit->Bool
 | .mk _ _ _ _ ks _ os=> decide (Z13 os 0<=2000/\Z12 os 0<=2000) && Z4B ks && Z6v os
def Z4B:List (KidOf Edit)->Bool
 | []=> true
 | k ::r=> Zka k && Z4B r
def Zka:KidOf Edit->Bool
 | ⟨_,e⟩=> Z2J e
def Z6v:List (OpOf Edit)->Bool
 | []=> true
 | o ::r=> Zoj o && Z6v r
def Zoj:OpOf Edit->Bool
 | ⟨_,_,_,e⟩=> Z2J e
end
def Z4E(e:Edit):Bool:=decide (0<=Z0H e 80 3000) && Z6 e 64 && Z2J e
end Go.AM
namespace Go.AM
open Go.ChangeShapes Go.WideShapes Go.RowKit
def inE(e:Edit):Prop:=Z3p e/\Y0 e
def ZGM(k:Kid):Prop:=ZiP k/\Z1b k
def inO(o:Op):Prop:=Zng o/\YF o
theorem ZuE{ks:List Kid}(h:∀ k∈ks,ZGM k):Z66 ks/\Z0N ks:=by
 induction ks with
 | nil=> trivial
 | cons t r ih=>
  have d:=h t (Q5 ..)
  have s:=ih fun x u=> h x (Q1 _ u)
  exact ⟨⟨d.1,s.1⟩,d.2,s.2⟩
theorem ZyI{os:List Op}(h:∀ o∈os,inO o):Z65 os/\Z05 os:=by
 induction os with
 | nil=> trivial
 | cons t r ih=>
  have d:=h t (Q5 ..)
  have s:=ih fun x u=> h x (Q1 _ u)
  exact ⟨⟨d.1,s.1⟩,d.2,s.2⟩
section
variable {P:Program} {cfg:Cfg U} {w:World} {H:Type} {henc:TypeId × Value->H}
structure EditTypes (cfg:Cfg U):Prop where
 wvar:∃ zs,cfg.var (cfg.elT .wedit)=some (true,zs)/\zs.length=4
 w0:∃ t n,cfg.fld (cfg.elT .wedit) 0=some (0,t)/\cfg.var t=some (false,[.int .i64 n])
 w1:∃ t n,cfg.fld (cfg.elT .wedit) 1=some (1,t)/\cfg.var t=some (false,[.int .u8 n])
 w2:∃ t n,cfg.fld (cfg.elT .wedit) 2=some (2,t)/\cfg.var t=some (false,[.int .u64 n])
 w3:∃ t n,cfg.fld (cfg.elT .wedit) 3=some (3,t)/\cfg.var t=some (false,[.int .u64 n])
 kvar:∃ zs,cfg.var (cfg.elT .kid)=some (true,zs)/\zs.length=12
 k0:∃ t n,cfg.fld (cfg.elT .kid) 0=some (0,t)/\cfg.var t=some (false,[.int .i64 n])
 k1:cfg.fld (cfg.elT .kid) 1=some (1,cfg.elT .edit)
 ovar:∃ zs,cfg.var (cfg.elT .op)=some (true,zs)/\zs.length=14
 o0:∃ t n,cfg.fld (cfg.elT .op) 0=some (0,t)/\cfg.var t=some (false,[.int .i64 n])
 o1:∃ t n,cfg.fld (cfg.elT .op) 1=some (1,t)/\cfg.var t=some (false,[.int .i64 n])
 o2:∃ t c,cfg.fld (cfg.elT .op) 2=some (2,t)/\cfg.var t=some (false,[c])/\cfg.slT t=some .tree
 o3:cfg.fld (cfg.elT .op) 3=some (3,cfg.elT .edit)
 evar:∃ zs,cfg.var (cfg.elT .edit)=some (true,zs)/\zs.length=11
 e0:∃ t n,cfg.fld (cfg.elT .edit) 0=some (0,t)/\cfg.var t=some (false,[.int .i64 n])
 e1:cfg.fld (cfg.elT .edit) 1=some (1,cfg.elT .tree)
 e2:cfg.fld (cfg.elT .edit) 2=some (4,cfg.elT .tree)
 e3:∃ t c,cfg.fld (cfg.elT .edit) 3=some (7,t)/\cfg.var t=some (false,[c])/\cfg.slT t=some .wedit
 e4:∃ t c,cfg.fld (cfg.elT .edit) 4=some (8,t)/\cfg.var t=some (false,[c])/\cfg.slT t=some .kid
 e5:∃ t n,cfg.fld (cfg.elT .edit) 5=some (9,t)/\cfg.var t=some (false,[.int .i64 n])
 e6:∃ t c,cfg.fld (cfg.elT .edit) 6=some (10,t)/\cfg.var t=some (false,[c])/\cfg.slT t=some .op
theorem ZsE(ok:CfgOk P cfg)(T:TreeTypes cfg)(E:EditTypes cfg)(n:Nat)(cs:List Value)(h:Rdd henc P w n (cfg.elT .wedit) cs):∃ e:WEdit,RelS cfg w.cell? cs (cfg.enc .wedit e)/\Z2T e:=by
 obtain ⟨zs,hz,u⟩:=E.wvar
 obtain ⟨t0,n0,f0,v0⟩:=E.w0
 obtain ⟨t1,n1,f1,v1⟩:=E.w1
 obtain ⟨t2,n2,f2,v2⟩:=E.w2
 obtain ⟨t3,n3,f3,v3⟩:=E.w3
 obtain ⟨m,rfl,hl,r0⟩:=YY ok f0 v0 h
 obtain ⟨m',s,_,r1⟩:=YY ok f1 v1 h
 cases s
 obtain ⟨m',s,_,r2⟩:=YY ok f2 v2 h
 cases s
 obtain ⟨m',s,_,r3⟩:=YY ok f3 v3 h
 cases s
 have aa:cs.length=4:=by rw [hl,JX ok hz,u]
 obtain ⟨a,a1,a2,a3⟩:=Z2A ok v0 r0
 obtain ⟨b,b1,b2,b3⟩:=Z2A ok v1 r1
 obtain ⟨c,c1,c2,c3⟩:=Z2A ok v2 r2
 obtain ⟨d,d1,d2,d3⟩:=Z2A ok v3 r3
 have g:=a1.glue rfl (by simp;omega) (b1.glue rfl (by simp;omega) (c1.glue rfl (by simp;omega) (d1.glue rfl (by simp;omega) (RelS.done (n:=4) aa))))
 refine ⟨⟨a,b,c,d⟩,by rw [T.enc];exact g,⟨a2,a3⟩,⟨b2,?_⟩,⟨c2,?_⟩,d2,?_⟩
 .have:b<=255:=b3
  grind
 .have:c<=18446744073709551615:=c3
  grind
 .have:d<=18446744073709551615:=d3
  grind
theorem ZBn (ok:CfgOk P cfg) (T:TreeTypes cfg) (E:EditTypes cfg) (n:Nat) (IH:∀ m,m < n->∀ cs,Rdd henc P w m (cfg.elT .edit) cs->∃ e:Edit,RelS cfg w.cell? cs (cfg.enc .edit e)/\inE e)
  (cs:List Value) (h:Rdd henc P w n (cfg.elT .kid) cs):∃ e:Kid,RelS cfg w.cell? cs (cfg.enc .kid e)/\ZGM e:=by
 obtain ⟨zs,hz,aa⟩:=E.kvar
 obtain ⟨t0,n0,f0,v0⟩:=E.k0
 obtain ⟨ez,s,d⟩:=E.evar
 obtain ⟨m,rfl,hl,r0⟩:=YY ok f0 v0 h
 obtain ⟨m',e',_,r1⟩:=YY ok E.k1 s h
 cases e'
 have ab:cs.length=12:=by rw [hl,JX ok hz,aa]
 obtain ⟨a,a1,a2,a3⟩:=Z2A ok v0 r0
 obtain ⟨b,u,b2⟩:=IH m V0 _ r1
 rw [d] at u
 rw [T.enc] at u
 have g:=a1.glue rfl (by simp;omega) (u.glue rfl V0 (RelS.done (n:=12) ab))
 exact ⟨⟨a,b⟩,by rw [T.enc];exact g,b2.1,⟨a2,a3⟩,b2.2⟩
theorem ZGx (ok:CfgOk P cfg) (T:TreeTypes cfg) (E:EditTypes cfg) (n:Nat) (IH:∀ m,m < n->∀ cs,Rdd henc P w m (cfg.elT .edit) cs->∃ e:Edit,RelS cfg w.cell? cs (cfg.enc .edit e)/\inE e)
  (cs:List Value) (h:Rdd henc P w n (cfg.elT .op) cs):∃ e:Op,RelS cfg w.cell? cs (cfg.enc .op e)/\inO e:=by
 obtain ⟨zs,hz,ae⟩:=E.ovar
 obtain ⟨t0,n0,f0,v0⟩:=E.o0
 obtain ⟨t1,n1,f1,v1⟩:=E.o1
 obtain ⟨t2,c2,f2,v2,s2⟩:=E.o2
 obtain ⟨ez,ab,u⟩:=E.evar
 obtain ⟨m,rfl,hl,r0⟩:=YY ok f0 v0 h
 obtain ⟨m',s,_,r1⟩:=YY ok f1 v1 h
 cases s
 obtain ⟨m',s,_,r2⟩:=YY ok f2 v2 h
 cases s
 obtain ⟨m',s,_,r3⟩:=YY ok E.o3 ab h
 cases s
 have af:cs.length=14:=by rw [hl,JX ok hz,ae]
 obtain ⟨a,a1,a2,a3⟩:=Z2A ok v0 r0
 obtain ⟨b,b1,b2,b3⟩:=Z2A ok v1 r1
 obtain ⟨c,c1,c2,c3⟩:=ZdW ok s2 (fun m _ cs h=> Z8J ok T m cs h) r2
 obtain ⟨d,d1,d2⟩:=IH m V0 _ r3
 rw [u] at d1
 rw [T.enc] at d1
 rw [T.bytes] at c2
 have hk:=ZAy c3
 have g:=a1.glue rfl (by simp;omega) (b1.glue rfl (by simp;omega) (c1.glue rfl (by simp;omega) (d1.glue rfl V0 (RelS.done (n:=14) af))))
 exact ⟨⟨a,b,c,d⟩,by rw [T.enc];exact g,⟨Z1f c2 V2,hk.1,d2.1⟩,⟨a2,a3⟩,⟨b2,b3⟩,hk.2,d2.2⟩
theorem Zxk(ok:CfgOk P cfg)(T:TreeTypes cfg)(E:EditTypes cfg):∀ (n:Nat) (cs:List Value),Rdd henc P w n (cfg.elT .edit) cs->∃ e:Edit,RelS cfg w.cell? cs (cfg.enc .edit e)/\inE e:=by
 intro n
 induction n using Nat.strongRecOn with
 | ind n IH=>
  intro cs h
  obtain ⟨zs,hz,ah⟩:=E.evar
  obtain ⟨t0,n0,f0,v0⟩:=E.e0
  obtain ⟨tz,aa,u⟩:=T.var
  obtain ⟨t3,c3,f3,v3,s3⟩:=E.e3
  obtain ⟨t4,c4,f4,v4,s4⟩:=E.e4
  obtain ⟨t5,n5,f5,v5⟩:=E.e5
  obtain ⟨t6,c6,f6,v6,s6⟩:=E.e6
  obtain ⟨m,rfl,hl,r0⟩:=YY ok f0 v0 h
  obtain ⟨s,d,_,r1⟩:=YY ok E.e1 aa h
  cases d
  obtain ⟨s,d,_,r2⟩:=YY ok E.e2 aa h
  cases d
  obtain ⟨s,d,_,r3⟩:=YY ok f3 v3 h
  cases d
  obtain ⟨s,d,_,r4⟩:=YY ok f4 v4 h
  cases d
  obtain ⟨s,d,_,r5⟩:=YY ok f5 v5 h
  cases d
  obtain ⟨s,d,_,r6⟩:=YY ok f6 v6 h
  cases d
  have ab:cs.length=11:=by rw [hl,JX ok hz,ah]
  obtain ⟨k,a1,a2,a3⟩:=Z2A ok v0 r0
  obtain ⟨o,b1,b2⟩:=Z8J ok T _ _ r1
  obtain ⟨nw,d1,d2⟩:=Z8J ok T _ _ r2
  obtain ⟨ws,p1,p2,p3⟩:=ZdW ok s3 (fun m _ cs h=> ZsE ok T E m cs h) r3
  obtain ⟨ks,q1,q2,q3⟩:=ZdW ok s4 (fun s hm cs h=> ZBn ok T E s (fun m2 af cs h=> IH m2 V0 cs h) cs h) r4
  obtain ⟨l,i1,i2,i3⟩:=Z2A ok v5 r5
  obtain ⟨os,j1,j2,j3⟩:=ZdW ok s6 (fun s hm cs h=> ZGx ok T E s (fun m2 af cs h=> IH m2 V0 cs h) cs h) r6
  rw [T.bytes] at p2 q2 j2
  rw [u,T.enc] at b1 d1
  have hk:=ZuE q3
  have ho:=ZyI j3
  have g:=a1.glue rfl (by simp;omega) (b1.glue rfl V0 (d1.glue rfl V0 (p1.glue rfl (by simp;omega) (q1.glue rfl (by simp;omega) (i1.glue rfl (by simp;omega) (j1.glue rfl (by simp;omega) (RelS.done (n:=11) ab)))))))
  refine ⟨.mk k o nw ws ks l os,by rw [T.enc];exact g,⟨b2.1,d2.1,Z1f p2 V2,Z1f q2 V2,Z1f j2 V2,hk.1,ho.1⟩,⟨a2,a3⟩,b2.2,d2.2,p3,⟨i2,i3⟩,hk.2,ho.2⟩
end
end Go.AM
namespace Go.AM
variable {P:Program} {cfg:Cfg U}
structure CellR (α:Type) where
 get:List (Tok × LC U)->C U->Option α
 can:α->C U
 canL:α->List (Tok × LC U)
 ok:∀ (cfg:Cfg U) L c a,get L c=some a->ZcP cfg c (can a)/\∀ y∈canL a,ZE (fun _=> none) L y.1=some y.2
theorem ZmF{a b:C U}(h:Wk a b):ZcP cfg a b:=fun g v d=> Zbg (cfg:=cfg) h g (fun _=> false) v d
def ZkG(k:IntKind):CellR Int:=
 {get:=fun _ c=> match c with
   | .int k' n=> if k=k' then some n else none
   | _=> none
  can:=fun n=> .int k n
  canL:=fun _=> []
  ok:=by
   intro cfg L c a h
   refine ⟨?_,fun y hy=> by cases hy⟩
   split at h
   .split at h
    .rename_i hk;subst hk;cases h;exact fun _ _ h=> h
    .cases h
   .cases h }
def cSl(T:Ty):CellR (List (El T)):=
 {get:=fun _ c=> match rSl T [c] with
   | some (l,_)=> some l
   | none=> none
  can:=fun l=> sl T l
  canL:=fun _=> []
  ok:=by
   intro cfg L c a h
   refine ⟨?_,fun y hy=> by cases hy⟩
   split at h
   .rename_i l r hr
    cases h
    exact ZmF (ZsL hr)
   .cases h }
def Zn2(t:Tok)(k j:Nat):Bool:=
 match t with
 | .x k' j'=> Nat.beq k' k && Nat.beq j' j
 | _=> false
theorem ZrL{t:Tok}{k j:Nat}(h:Zn2 t k j=true):t= .x k j:=by
 unfold Zn2 at h
 split at h
 .rw [Q0] at h
  rw [Qb h.1,Qb h.2]
 .cases h
def ZkF(T:Ty)(k j:Nat):CellR (List (El T)):=
 {get:=fun _ c=> match c with
   | .nils=> some []
   | .slice S l .full=> if h:S=T then some (h▸l) else none
   | .slice S l (.own t)=> if h:S=T then (bif Zn2 t k j then some (h▸l) else none) else none
   | _=> none
  can:=fun l=> .slice (U:=U) T l (.own (.x k j))
  canL:=fun _=> []
  ok:=by
   intro cfg L c a h
   refine ⟨?_,fun y hy=> by cases hy⟩
   split at h
   .cases h
    intro g v hr
    have h1:=hr.1
    cases h1
    exact ⟨SimC.snil (cfg:=cfg) (U:=U) T _,fun _ b len cap hv=> by cases hv⟩
   .split at h
    .rename_i hT
     subst hT
     cases h
     intro g v hr
     refine ⟨hr.1.tl _,fun _ b len cap hv i h3 h4=> ?_⟩
     have:=hr.2 _ _ _ hv
     grind
    .cases h
   .split at h
    .rename_i hT
     subst hT
     rename_i t
     cases ht:Zn2 t k j with
     | false=> grind
     | true=>
      rw [ht] at h
      have:=ZrL ht
      subst this
      cases h
      exact fun _ _ hr=> hr
    .cases h
   .cases h }
def cWt(T:Ty)(n:Tok):CellR (List (El T)):=
 {get:=fun L c=> match c with
   | .mref t=> if t=n then match ZE (fun _=> none) L t with
    | some x=> if h:x.T=T/\x.f=0 then some (h.1▸x.l) else none
    | none=> none
    else none
   | _=> none
  can:=fun _=> .mref n
  canL:=fun l=> [(n,LC.mk (U:=U) T l 0)]
  ok:=by
   intro cfg L c a h
   split at h
   .rename_i t
    split at h
    .rename_i ht
     subst ht
     split at h
     .rename_i x hx
      split at h
      .rename_i hT
       obtain ⟨T',l,f⟩:=x
       obtain ⟨hT1,hT2⟩:=hT
       simp only at hT1 hT2
       subst hT1 hT2
       cases h
       refine ⟨fun _ _ hr=> hr,fun y hy=> ?_⟩
       grind
      .cases h
     .cases h
    .cases h
   .cases h }
def cWr(T:Ty)(k j:Nat):CellR (List (El T)):=cWt T (.x k j)
structure ObjL (α:Type) where
 get:List (Tok × LC U)->List (C U)->Option α
 can:α->List (C U)
 canL:α->List (Tok × LC U)
 ok:∀ (cfg:Cfg U) L cs a,get L cs=some a->(∀ y∈canL a,ZE (fun _=> none) L y.1=some y.2)/\cs.length=(can a).length/\∀ (j:Nat) c c',cs[j]?=some c->(can a)[j]?=some c'->ZcP cfg c c'
def ObjL.nil:ObjL Unit:=
 {get:=fun _ cs=> match cs with
   | []=> some ()
   | _ ::_=> none
  can:=fun _=> []
  canL:=fun _=> []
  ok:=by
   grind }
def ObjL.cons{α β:Type}(A:CellR α)(B:ObjL β):ObjL (α × β):=
 {get:=fun L cs=> match cs with
   | c ::r=> match A.get L c with
    | some a=> match B.get L r with
     | some b=> some (a,b)
     | none=> none
    | none=> none
   | []=> none
  can:=fun p=> A.can p.1 ::B.can p.2
  canL:=fun p=> A.canL p.1++B.canL p.2
  ok:=by
   intro cfg L cs p h
   cases cs with
   | nil=> cases h
   | cons c r=>
    simp only at h
    split at h
    .rename_i a ha
     split at h
     .rename_i b hb
      cases h
      obtain ⟨h0,h1,h2⟩:=B.ok cfg L r b hb
      obtain ⟨h3,h4⟩:=A.ok cfg L c a ha
      grind
     .cases h
    .cases h }
structure ArgM (α:Type) where
 get:List (Tok × LC U)->List (V U)->List (List (C U))->Option α
 can:α->List (V U)
 canX:α->List (List (C U))
 canL:α->List (Tok × LC U)
 ok:∀ cfg:Cfg U,cfg.enc=enc->∀ L xs X a,get L xs X=some a->BetterAll cfg xs (can a) X (canX a)/\∀ y∈canL a,ZE (fun _=> none) L y.1=some y.2
def ArgM.nil:ArgM Unit:=
 {get:=fun _ xs X=> match xs,X with
   | [],[]=> some ()
   | _,_=> none
  can:=fun _=> []
  canX:=fun _=> []
  canL:=fun _=> []
  ok:=by
   intro cfg _ L xs X a h
   split at h
   .exact ⟨BetterAll.refl [] [],fun y hy=> by cases hy⟩
   .cases h }
def ArgM.cons{α β:Type}(A:Arg α)(B:ArgM β):ArgM (α × β):=
 {get:=fun L xs X=> match xs with
   | x ::r=> match A.get x with
    | some a=> match B.get L r X with
     | some b=> some (a,b)
     | none=> none
    | none=> none
   | []=> none
  can:=fun p=> A.can p.1 ::B.can p.2
  canX:=fun p=> B.canX p.2
  canL:=fun p=> B.canL p.2
  ok:=by
   intro cfg hc L xs X p h
   cases xs with
   | nil=> cases h
   | cons x r=>
    simp only at h
    split at h
    .rename_i a ha
     split at h
     .rename_i b hb
      cases h
      obtain ⟨hB,hBL⟩:=B.ok cfg hc L r X b hb
      refine ⟨?_,hBL⟩
      refine ⟨by simp [hB.len],fun j x' y hx hy=> ?_,hB.xlen,hB.xl,hB.x⟩
      cases j with
      | zero=> simp at hx hy;subst hx hy;exact A.ok cfg hc x a ha
      | succ j=> exact hB.args j x' y (by simpa using hx) (by simpa using hy)
     .cases h
    .cases h }
def isX(k o:Nat):V U->Bool
 | .ptr (.x k') off=> Nat.beq k k' && Nat.beq off o
 | _=> false
theorem ZD4{k o:Nat}{v:V U}(h:isX k o v=true):v= .ptr (.x k) o:=by
 unfold isX at h
 split at h
 .rw [Q0] at h
  rw [Qb h.1,Qb h.2]
 .cases h
def ArgM.objAt{α β:Type}(k o:Nat)(A:ObjL α)(B:ArgM β):ArgM (α × β):=
 {get:=fun L xs X=> match xs,X with
   | x ::r,cs ::X'=> bif isX k o x then match A.get L cs with
    | some a=> match B.get L r X' with
     | some b=> some (a,b)
     | none=> none
    | none=> none
    else none
   | _,_=> none
  can:=fun p=> .ptr (.x k) o ::B.can p.2
  canX:=fun p=> A.can p.1 ::B.canX p.2
  canL:=fun p=> A.canL p.1++B.canL p.2
  ok:=by
   intro cfg hc L xs X p h
   split at h
   .rename_i x r cs X'
    cases hx:isX k o x with
    | false=> grind
    | true=>
     rw [hx] at h
     simp only [cond_true] at h
     have ex:=ZD4 hx
     subst ex
     split at h
     .rename_i a ha
      split at h
      .rename_i b hb
       cases h
       obtain ⟨hB,hBL⟩:=B.ok cfg hc L r X' b hb
       obtain ⟨hAL,hA⟩:=A.ok cfg L cs a ha
       refine ⟨?_,fun y hy=> (Qk.1 hy).elim (hAL y) (hBL y)⟩
       refine ⟨by simp [hB.len],fun j x' y hx hy=> ?_,by simp [hB.xlen],fun j x' y hx hy=> ?_,fun j x' y hx hy i c c' hcc hc'=> ?_⟩
       .cases j with
        | zero=> simp at hx hy;subst hx hy;exact fun _ _ _ h=> h
        | succ j=> exact hB.args j x' y (by simpa using hx) (by simpa using hy)
       .cases j with
        | zero=> simp at hx hy;subst hx hy;exact hA.1
        | succ j=> exact hB.xl j x' y (by simpa using hx) (by simpa using hy)
       .cases j with
        | zero=>
         simp at hx hy
         subst hx hy
         exact hA.2 i c c' hcc hc'
        | succ j=> exact hB.x j x' y (by simpa using hx) (by simpa using hy) i c c' hcc hc'
      .cases h
     .cases h
   .cases h }
def ArgM.obj{α β:Type}(k:Nat)(A:ObjL α)(B:ArgM β):ArgM (α × β):=ArgM.objAt k 0 A B
def ArgM.clo{α β:Type}(f:FuncId)(k:Nat)(A:ObjL α)(B:ArgM β):ArgM (α × β):=
 {get:=fun L xs X=> match xs,X with
   | .clo g [.x k'] ::r,cs ::X'=> bif Nat.beq g f && Nat.beq k' k then match A.get L cs with
    | some a=> match B.get L r X' with
     | some b=> some (a,b)
     | none=> none
    | none=> none
    else none
   | _,_=> none
  can:=fun p=> .clo f [.x k] ::B.can p.2
  canX:=fun p=> A.can p.1 ::B.canX p.2
  canL:=fun p=> A.canL p.1++B.canL p.2
  ok:=by
   intro cfg hc L xs X p h
   split at h
   .rename_i g k' r cs X'
    cases hx:(Nat.beq g f && Nat.beq k' k) with
    | false=> grind
    | true=>
     rw [hx] at h
     simp only [cond_true] at h
     rw [Q0] at hx
     have e1:=Qb hx.1
     have e2:=Qb hx.2
     subst e1 e2
     split at h
     .rename_i a ha
      split at h
      .rename_i b hb
       cases h
       obtain ⟨hB,hBL⟩:=B.ok cfg hc L r X' b hb
       obtain ⟨hAL,hA⟩:=A.ok cfg L cs a ha
       refine ⟨?_,fun y hy=> (Qk.1 hy).elim (hAL y) (hBL y)⟩
       refine ⟨by simp [hB.len],fun j x' y hx hy=> ?_,by simp [hB.xlen],fun j x' y hx hy=> ?_,fun j x' y hx hy i c c' hcc hc'=> ?_⟩
       .cases j with
        | zero=> simp at hx hy;subst hx hy;exact fun _ _ _ h=> h
        | succ j=> exact hB.args j x' y (by simpa using hx) (by simpa using hy)
       .cases j with
        | zero=> simp at hx hy;subst hx hy;exact hA.1
        | succ j=> exact hB.xl j x' y (by simpa using hx) (by simpa using hy)
       .cases j with
        | zero=>
         simp at hx hy
         subst hx hy
         exact hA.2 i c c' hcc hc'
        | succ j=> exact hB.x j x' y (by simpa using hx) (by simpa using hy) i c c' hcc hc'
      .cases h
     .cases h
   .cases h }
def fsX{α:Type}(A:ArgM α)(pre:α->List Prop)(res:α->V U)(resX:α->List (List (C U))):Fs U:=
 {fn:=fun xs X=> match A.get [] xs X with
   | some a=> some (pre a,res a,resX a)
   | none=> none }
theorem Zic {Γ:Known U} {α:Type} {A:ArgM α} {pre:α->List Prop} {res:α->V U} {resX:α->List (List (C U))} (ok:CfgOk P cfg) (henc:cfg.enc=enc) (hΓ:∀ f s,Γ f=some s->Contract P cfg f s) {f:FuncId} {fn:Func} (lv:Zg U)
  (hf : P.funcs[f]? = some fn) (hb : fn.body = some (cd fn [])) (hname : (fn.name == "runtime.NumGoroutine") = false) (hn : ∀ a, (A.can a).length ≤ fn.ntmps)
  (hbody:∀ a,All (pre a)->awp cfg Γ (JU cfg Γ) fn.ntmps lv (cd fn []) (Zi (A.can a) (A.canX a)) (ZF cfg fn.ntmps fn.results.toList (res a) (resX a))):Contract P cfg f (fsX A pre res resX):=by
 refine Zcd ok hΓ (Z26 ok hΓ) lv hf hb hname ?_
 intro args X ps r X' d u
 unfold fsX at d
 simp only at d
 split at d
 .rename_i a ha
  cases d
  exact ⟨A.can a,A.canX a,(A.ok cfg henc [] args X a ha).1,hn a,hbody a u⟩
 .cases d
theorem YP {l:List (FuncId × Fs U)} {α:Type} {A:ArgM α} {pre:α->Prop} {res:α->V U} {resX:α->List (List (C U))} (ok:CfgOk P cfg) (henc:cfg.enc=enc) (hl:Z4L P cfg l) {f:FuncId} {fn:Func} (lv:Zg U)
  (hf : P.funcs[f]? = some fn) (hb : fn.body = some (cd fn [])) (hname : (fn.name == "runtime.NumGoroutine") = false) (n : Nat) (hn : ∀ a, (A.can a).length = n) (hn' : n ≤ fn.ntmps)
  (hbody:∀ a,pre a->awp cfg (Z2 l) (JU cfg (Z2 l)) fn.ntmps lv (cd fn []) (Zi (A.can a) (A.canX a)) (ZF cfg fn.ntmps fn.results.toList (res a) (resX a))):Contract P cfg f (fsX A (fun a=> [pre a]) res resX):=
 Zic ok henc (Z03 hl) lv hf hb hname (fun a=> by grind) (fun a h=> hbody a h.1)
def Zmu{α:Type}(A:ArgM α)(pre:α->List Prop)(res:α->V U)(resX:α->List (List (C U)))(resL:α->List (Tok × LC U)):Fs U:=
 {wr:=true
  mkl:=true
  fn:=fun _ _=> none
  fn2:=fun xs X L=> match A.get L xs X with
   | some a=> some (pre a,res a,resX a,resL a)
   | none=> none }
theorem Z98:∀ {L:List (Tok × LC U)} {t:Tok} {x:LC U},ZE (fun _=> none) L t=some x->(t,x)∈L
 | [],t,x,h=> by trivial
 | (a,y) ::L,t,x,h=> by
  simp only [ZE] at h
  split at h
  .grind
  .exact Q1 _ (Z98 h)
theorem ZfF {Γ:Known U} {α:Type} {A:ArgM α} {pre:α->List Prop} {res:α->V U} {resX:α->List (List (C U))} {resL:α->List (Tok × LC U)} (ok:CfgOk P cfg) (henc:cfg.enc=enc) (hΓ:∀ f s,Γ f=some s->Contract P cfg f s) {f:FuncId} {fn:Func} (lv:Zg U)
  (hf : P.funcs[f]? = some fn) (hb : fn.body = some (cd fn [])) (hname : (fn.name == "runtime.NumGoroutine") = false) (hn : ∀ a, (A.can a).length ≤ fn.ntmps)
  (hbody:∀ a,All (pre a)->awp cfg Γ (JU cfg Γ) fn.ntmps lv (cd fn []) (Z0W (A.can a) (A.canX a) (A.canL a)) (Z3B cfg fn.ntmps fn.results.toList (res a) (resX a) (resL a))):Contract P cfg f (Zmu A pre res resX resL):=by
 refine Z4I ok hΓ (Z26 ok hΓ) lv hf hb hname ?_
 intro args X L ps r X' L' d u
 unfold Zmu at d
 simp only at d
 split at d
 .rename_i a ha
  cases d
  obtain ⟨h1,h2⟩:=A.ok cfg henc L args X a ha
  exact ⟨A.can a,A.canX a,A.canL a,h1,fun t x hx=> h2 _ (Z98 hx),hn a,hbody a u⟩
 .cases d
theorem Z0s {l:List (FuncId × Fs U)} {α:Type} {A:ArgM α} {pre:α->Prop} {res:α->V U} {resX:α->List (List (C U))} {resL:α->List (Tok × LC U)} (ok:CfgOk P cfg) (henc:cfg.enc=enc) (hl:Z4L P cfg l) {f:FuncId} {fn:Func} (lv:Zg U)
  (hf : P.funcs[f]? = some fn) (hb : fn.body = some (cd fn [])) (hname : (fn.name == "runtime.NumGoroutine") = false) (n : Nat) (hn : ∀ a, (A.can a).length = n) (hn' : n ≤ fn.ntmps)
  (hbody:∀ a,pre a->awp cfg (Z2 l) (JU cfg (Z2 l)) fn.ntmps lv (cd fn []) (Z0W (A.can a) (A.canX a) (A.canL a)) (Z3B cfg fn.ntmps fn.results.toList (res a) (resX a) (resL a))):Contract P cfg f (Zmu A (fun a=> [pre a]) res resX resL):=
 ZfF (Γ:=Z2 l) ok henc (Z03 hl) lv hf hb hname (fun a=> by grind) (fun a h=> hbody a h.1)
def fsL{α:Type}(A:ArgL α)(pre:α->List Prop)(T:Ty)(res:α->List (El T)):Fs U:=
 {mkl:=true
  fn:=fun _ _=> none
  fn2:=fun xs X L=> match X,L with
   | [],[]=> match A.get xs with
    | some a=> some (pre a,.c (.mref (.r 0 0)),[],[(.r 0 0,LC.mk (U:=U) T (res a) 0)])
    | none=> none
   | _,_=> none }
theorem Z5U {l:List (FuncId × Fs U)} {α:Type} {A:ArgL α} {pre:α->Prop} {T:Ty} {res:α->List (El T)} (ok:CfgOk P cfg) (henc:cfg.enc=enc) (hl:Z4L P cfg l) {f:FuncId} {fn:Func} (lv:Zg U)
  (hf : P.funcs[f]? = some fn) (hb : fn.body = some (cd fn [])) (hname : (fn.name == "runtime.NumGoroutine") = false) (n : Nat) (hn : ∀ a, (A.can a).length = n) (hn' : n ≤ fn.ntmps)
  (hbody:∀ a,pre a->awp cfg (ZeR l) (JU cfg (ZeR l)) fn.ntmps lv (cd fn []) (Zi (A.can a) []) (Z3B cfg fn.ntmps fn.results.toList (.c (.mref (.r 0 0))) [] [(.r 0 0,LC.mk (U:=U) T (res a) 0)])):Contract P cfg f (fsL A (fun a=> [pre a]) T res):=by
 have kn:∀ f s,(ZeR l) f=some s->Contract P cfg f s:=Z03 hl
 refine Z4I ok kn (Z26 ok kn) lv hf hb hname ?_
 intro args X L ps r X' L' d u
 unfold fsL at d
 simp only at d
 split at d
 .split at d
  .rename_i a ha
   cases d
   obtain ⟨h1,h2⟩:=A.ok cfg henc args a ha
   exact ⟨A.can a,[],[],⟨h1,h2,rfl,fun k x y h=> by simp at h,fun k x y h=> by simp at h⟩,fun t x h=> h,by grind,hbody a u.1⟩
  .cases d
 .cases d
def ZD6(s s':Fs U):Fs U:=
 {wr:=s.wr
  mkl:=s.mkl
  fn:=fun _ _=> none
  fn2:=fun xs X L=> match s.fn2 xs X L with
   | some r=> some r
   | none=> s'.fn2 xs X L }
theorem ZkD{f:FuncId}{s s':Fs U}(h:Contract P cfg f s)(h':Contract P cfg f s'):Contract P cfg f (ZD6 s s'):=by
 refine ⟨h.1,fun args X L ps r X' L' u d hX w g vs E=> ?_⟩
 simp only [ZD6] at u
 split at u
 .rename_i r0 h0
  cases u
  exact h.2 args X L ps r X' L' h0 d hX w g vs E
 .exact h'.2 args X L ps r X' L' u d hX w g vs E
end Go.AM
namespace Go.AM
def aFn(f:FuncId):Arg Unit:=
 {get:=fun v=> match v with
   | .fn g=> if Nat.beq g f then some () else none
   | _=> none
  can:=fun _=> .fn f
  ok:=by
   intro cfg _ v a h
   split at h
   .split at h
    .rename_i hb
     rw [Qb hb]
     exact fun _ _ _ h=> h
    .cases h
   .cases h }
end Go.AM
namespace Go.AM.YtfapacabjkhepaaGreat
open Go.AM Go.Proofs
def el:Ty->TypeId
 | .u64=> 64
 | .u8=> 5
 | .int=> 3
 | .tree=> 25
 | .wedit=> 66
 | .edit=> 40
 | .kid=> 72
 | .op=> 74
 | .piece=> 188
 | .unit=> 203
 | .pair=> 205
 | .bundle=> 31
 | .rbundle=> 28
def tb:Tables U:=
 {el:=el
  sl:=[(22,.u64),(23,.tree),(26,.edit),(36,.wedit),(37,.kid),(38,.op),(154,.u8),(184,.piece),(191,.int),(197,.pair),(200,.unit)]
  var:=[(2,false,[.int .i64 0]),
   (3,false,[.int .i64 0]),
   (4,false,[.bool false]),
   (5,false,[.int .u8 0]),
   (6,false,[.int .u8 0]),
   (7,true,[.int .i64 0,.int .i64 0,.bool false,.int .u8 0]),
   (8,true,[.int .i64 0,.int .i64 0,.bool false,.int .u8 0]),
   (12,false,[.int .u64 0]),
   (15,false,[.nilp]),
   (16,false,[.nilp]),
   (17,false,[.nilp]),
   (18,true,[.nilp]),
   (19,true,[.nilp]),
   (21,false,[.int .i32 0]),
   (22,false,[.nils]),
   (23,false,[.nils]),
   (24,true,[.int .i64 0,.nils,.nils]),
   (25,true,[.int .i64 0,.nils,.nils]),
   (26,false,[.nils]),
   (27,true,[.int .i64 0,.nils,.nils,.nils]),
   (28,true,[.int .i64 0,.nils,.nils,.nils]),
   (31,true,[.int .i64 0,.nils,.nils,.nils]),
   (36,false,[.nils]),
   (37,false,[.nils]),
   (38,false,[.nils]),
   (39,true,[.int .i64 0,.int .i64 0,.nils,.nils,.int .i64 0,.nils,.nils,.nils,.nils,.int .i64 0,.nils]),
   (40,true,[.int .i64 0,.int .i64 0,.nils,.nils,.int .i64 0,.nils,.nils,.nils,.nils,.int .i64 0,.nils]),
   (57,false,[.int .i64 0]),
   (64,false,[.int .u64 0]),
   (65,true,[.int .i64 0,.int .u8 0,.int .u64 0,.int .u64 0]),
   (66,true,[.int .i64 0,.int .u8 0,.int .u64 0,.int .u64 0]),
   (71,true,[.int .i64 0,.int .i64 0,.int .i64 0,.nils,.nils,.int .i64 0,.nils,.nils,.nils,.nils,.int .i64 0,.nils]),
   (72,true,[.int .i64 0,.int .i64 0,.int .i64 0,.nils,.nils,.int .i64 0,.nils,.nils,.nils,.nils,.int .i64 0,.nils]),
   (73,true,[.int .i64 0,.int .i64 0,.nils,.int .i64 0,.int .i64 0,.nils,.nils,.int .i64 0,.nils,.nils,.nils,.nils,.int .i64 0,.nils]),
   (74,true,[.int .i64 0,.int .i64 0,.nils,.int .i64 0,.int .i64 0,.nils,.nils,.int .i64 0,.nils,.nils,.nils,.nils,.int .i64 0,.nils]),
   (84,false,[.nilp]),
   (86,false,[.nils]),
   (87,true,[.int .i64 0,.int .i64 0,.int .i64 0,.int .i64 0]),
   (88,true,[.int .i64 0,.int .i64 0,.int .i64 0,.int .i64 0]),
   (108,false,[.nilp]),
   (109,true,[.nils]),
   (110,true,[.nils]),
   (113,true,[.nilp,.int .i64 0,.int .i64 0,.int .i64 0,.int .i64 0,.int .i64 0,.int .i64 0,.int .u64 0]),
   (114,true,[.nilp,.int .i64 0,.int .i64 0,.int .i64 0,.int .i64 0,.int .i64 0,.int .i64 0,.int .u64 0]),
   (117,false,[.nilp]),
   (118,true,[.int .i64 0,.int .i64 0]),
   (119,true,[.int .i64 0,.int .i64 0]),
   (121,true,[.nils,.int .i64 0,.int .i64 0,.int .i64 0]),
   (122,true,[.nils,.int .i64 0,.int .i64 0,.int .i64 0]),
   (129,false,[.nilp]),
   (130,true,[.nils,.nils,.nils]),
   (131,true,[.nils,.nils,.nils]),
   (134,false,[.nilp]),
   (141,true,[.int .i64 0,.int .i64 0,.int .i64 0,.int .i64 0,.int .i64 0,.int .i64 0,.int .i64 0,.bool false]),
   (142,true,[.int .i64 0,.int .i64 0,.int .i64 0,.int .i64 0,.int .i64 0,.int .i64 0,.int .i64 0,.bool false]),
   (150,true,[.int .u8 0,.int .u8 0,.int .u8 0,.int .u8 0,.int .u8 0,.int .u8 0,.int .u8 0,.int .u8 0]),
   (154,false,[.nils]),
   (169,true,[.int .i64 0,.int .i64 0,.int .i64 0,.int .i64 0,.int .i64 0,.int .i64 0,.int .i64 0,.bool false,.int .i64 0,.int .i64 0]),
   (170,true,[.int .i64 0,.int .i64 0,.int .i64 0,.int .i64 0,.int .i64 0,.int .i64 0,.int .i64 0,.bool false,.int .i64 0,.int .i64 0]),
   (184,false,[.nils]),
   (187,true,[.int .i64 0,.int .i64 0,.int .i64 0,.nils,.int .i64 0,.int .i64 0,.nils,.nils,.int .i64 0,.nils,.nils,.nils,.nils,.int .i64 0,.nils,.int .i64 0,.int .i64 0,.nils,.int .i64 0,.int .i64 0,.nils,.nils,.int .i64 0,.nils,.nils,.nils,.nils,.int .i64 0,.nils]),
   (188,true,[.int .i64 0,.int .i64 0,.int .i64 0,.nils,.int .i64 0,.int .i64 0,.nils,.nils,.int .i64 0,.nils,.nils,.nils,.nils,.int .i64 0,.nils,.int .i64 0,.int .i64 0,.nils,.int .i64 0,.int .i64 0,.nils,.nils,.int .i64 0,.nils,.nils,.nils,.nils,.int .i64 0,.nils]),
   (191,false,[.nils]),
   (197,false,[.nils]),
   (200,false,[.nils]),
   (202,true,[.int .i64 0,.int .i64 0,.int .i64 0,.nils,.nils,.int .i64 0,.int .i64 0,.nils,.nils,.int .i64 0,.nils,.nils,.nils,.nils,.int .i64 0,.nils,.bool false]),
   (203,true,[.int .i64 0,.int .i64 0,.int .i64 0,.nils,.nils,.int .i64 0,.int .i64 0,.nils,.nils,.int .i64 0,.nils,.nils,.nils,.nils,.int .i64 0,.nils,.bool false]),
   (204,true,[.int .i64 0,.int .i64 0,.int .i64 0,.int .i64 0,.nils,.nils,.int .i64 0,.int .i64 0,.nils,.nils,.int .i64 0,.nils,.nils,.nils,.nils,.int .i64 0,.nils,.bool false,.int .i64 0,.int .i64 0,.int .i64 0,.nils,.nils,.int .i64 0,.int .i64 0,.nils,.nils,.int .i64 0,.nils,.nils,.nils,.nils,.int .i64 0,.nils,.bool false]),
   (205,true,[.int .i64 0,.int .i64 0,.int .i64 0,.int .i64 0,.nils,.nils,.int .i64 0,.int .i64 0,.nils,.nils,.int .i64 0,.nils,.nils,.nils,.nils,.int .i64 0,.nils,.bool false,.int .i64 0,.int .i64 0,.int .i64 0,.nils,.nils,.int .i64 0,.int .i64 0,.nils,.nils,.int .i64 0,.nils,.nils,.nils,.nils,.int .i64 0,.nils,.bool false]),
   (210,false,[.int .u64 0]),
   (212,true,[.int .i64 0,.int .i64 0,.int .i64 0,.int .i64 0,.int .i64 0,.int .i64 0]),
   (218,false,[.nilp]),
   (219,true,[.nils,.int .i64 0]),
   (220,true,[.nils,.int .i64 0]),
   (222,false,[.int .u32 0]),
   (230,true,[.int .i64 0,.int .i64 0,.int .i64 0,.int .i64 0,.int .i64 0,.int .i64 0,.int .i64 0]),
   (237,false,[.int .u8 0]),
   (238,false,[.int .u8 0]),
   (240,false,[.nilp]),
   (241,false,[.int .i32 0]),
   (242,false,[.int .i32 0])]
  fld:=[(7,0,0,2),(7,1,1,3),(7,2,2,4),(7,3,3,6),(8,0,0,2),(8,1,1,3),(8,2,2,4),(8,3,3,6),(18,0,0,17),(19,0,0,17),(24,0,0,3),(24,1,1,22),(24,2,2,23),(25,0,0,3),(25,1,1,22),(25,2,2,23),(27,0,0,25),(27,1,3,26),(28,0,0,25),(28,1,3,26),(31,0,0,25),(31,1,3,26),(39,0,0,3),(39,1,1,25),(39,2,4,25),(39,3,7,36),(39,4,8,37),(39,5,9,3),(39,6,10,38),(40,0,0,3),(40,1,1,25),(40,2,4,25),(40,3,7,36),(40,4,8,37),(40,5,9,3),(40,6,10,38),(65,0,0,3),(65,1,1,5),(65,2,2,64),(65,3,3,64),(66,0,0,3),(66,1,1,5),(66,2,2,64),(66,3,3,64),(71,0,0,3),(71,1,1,40),(72,0,0,3),(72,1,1,40),(73,0,0,3),(73,1,1,3),(73,2,2,23),(73,3,3,40),(74,0,0,3),(74,1,1,3),(74,2,2,23),(74,3,3,40),(87,0,0,3),(87,1,1,3),(87,2,2,3),(87,3,3,3),(88,0,0,3),(88,1,1,3),(88,2,2,3),(88,3,3,3),(109,0,0,22),(110,0,0,22),(113,0,0,84),(113,1,1,3),(113,2,2,3),(113,3,3,3),(113,4,4,3),(113,5,5,3),(113,6,6,3),(113,7,7,64),(114,0,0,84),(114,1,1,3),(114,2,2,3),(114,3,3,3),(114,4,4,3),(114,5,5,3),(114,6,6,3),(114,7,7,64),(118,0,0,3),(118,1,1,3),(119,0,0,3),(119,1,1,3),(121,0,0,86),(121,1,1,3),(121,2,2,3),(121,3,3,3),(122,0,0,86),(122,1,1,3),(122,2,2,3),(122,3,3,3),(130,0,0,38),(130,1,1,23),(130,2,2,23),(131,0,0,38),(131,1,1,23),(131,2,2,23),(141,0,0,3),(141,1,1,3),(141,2,2,3),(141,3,3,3),(141,4,4,3),(141,5,5,3),(141,6,6,3),(141,7,7,4),(142,0,0,3),(142,1,1,3),(142,2,2,3),(142,3,3,3),(142,4,4,3),(142,5,5,3),(142,6,6,3),(142,7,7,4),(169,0,0,142),(169,1,8,3),(169,2,9,3),(170,0,0,142),(170,1,8,3),(170,2,9,3),(187,0,0,3),(187,1,1,74),(187,2,15,74),(188,0,0,3),(188,1,1,74),(188,2,15,74),(202,0,0,3),(202,1,1,3),(202,2,2,25),(202,3,5,40),(202,4,16,4),(203,0,0,3),(203,1,1,3),(203,2,2,25),(203,3,5,40),(203,4,16,4),(204,0,0,3),(204,1,1,203),(204,2,18,203),(205,0,0,3),(205,1,1,203),(205,2,18,203),(219,0,0,38),(219,1,1,3),(220,0,0,38),(220,1,1,3)]
  arr:=[(150,8,5),(212,6,3),(230,7,3)]
  eqs:=[7,8,65,66,87,88,118,119,141,142] }
def cfg:Cfg U:=tb.cfg K
theorem ZGj:tb.var.all (Zx9 Tryz.prog)=true:=V5
theorem ZID:tb.sl.all (slB Tryz.prog tb.el)=true:=V5
theorem ZGR:tb.fld.all (ZD7 Tryz.prog)=true:=V5
theorem ZGX:tb.arr.all (ZDU Tryz.prog)=true:=V5
theorem ZIE:∀ t,elB Tryz.prog K tb t=true:=by
 intro t
 cases t
 .kernel_rfl
 .kernel_rfl
 .kernel_rfl
 .kernel_rfl
 .kernel_rfl
 .kernel_rfl
 .kernel_rfl
 .kernel_rfl
 .kernel_rfl
 .kernel_rfl
 .kernel_rfl
 .kernel_rfl
 .kernel_rfl
theorem Zk:CfgOk Tryz.prog cfg:=ZpO ZJ3 ZGj ZID ZGR ZGX ZIE V5 V5
abbrev sU(T:Ty)(l:List (El T))(t:Tail):C U:= .slice (U:=U) T l t
noncomputable abbrev AW(K:Known U)(f:Func)(lv:Zg U)(p:List Nat):=awp cfg K (JU cfg K) f.ntmps lv (cd f p)
noncomputable abbrev SW(K:Known U)(f:Func)(lv:Zg U)(p:List Nat):=ZGo cfg K (JU cfg K) f.ntmps lv (cd f p)
abbrev EQ(f:Func):=ZF cfg f.ntmps f.results.toList
abbrev QT:=AExit->LSt U->Prop
abbrev NT:=LSt U->Prop
abbrev CT(k:FuncId)(s:Fs U):Prop:=Contract Tryz.prog cfg k s
abbrev xB:=@AExit.inBlock U
abbrev xT:=@AExit.then U
abbrev ci(x:Int):C U:= .int .i64 x
abbrev L2(e:List (Nat × V U))(m:List (Name × List (C U))):LSt U:=⟨e,m,[]⟩
abbrev zb8(f:Int->Nat->Int)(x:Int):List (C U):=[.int .u8 (f x 0),.int .u8 (f x 1),.int .u8 (f x 2),.int .u8 (f x 3),.int .u8 (f x 4),.int .u8 (f x 5),.int .u8 (f x 6),.int .u8 (f x 7)]
abbrev zi8(l:List Int):List (C U):=l.map fun x=> .int .u8 x
abbrev FK (k : FuncId) : Prop := ∃ fn, Tryz.prog.funcs[k]? = some fn ∧ fn.body.isSome = true ∧ (fn.name == "runtime.NumGoroutine") = false
abbrev pL(n:Nat):Nat × V U:=(n,.ptr (.loc n) 0)
abbrev pB(n:Nat)(b:Bool):Nat × V U:=(n,.c (.bool b))
abbrev pI(n:Nat)(x:Int):Nat × V U:=(n,.c (.int .i64 x))
def lvl(l:List (List Nat × List Nat)):Zg U:=fun i=> ((l.getD i ([],[])).1.map fun k=> (k,[]),(l.getD i ([],[])).2.map fun k=> (.loc k,[]))
instance (n:Nat):OfNat (Nat × List (Sk U)) n:=⟨(n,[])⟩
instance (n:Nat):OfNat (Name × List (Sk U)) n:=⟨(.loc n,[])⟩
abbrev an(n:Nat)(l:List (Sk U)):List (Sk U):=List.replicate n .any++l
def lvk(l:List (List (Nat × List (Sk U)) × List (Name × List (Sk U)))):Zg U:=fun i=> l.getD i ([],[])
abbrev zc0:List (C U):=[.int .u8 0,.int .u8 0,.int .u8 0,.int .u8 0,.int .u8 0,.int .u8 0,.int .u8 0,.int .u8 0]
abbrev zc1:List (C U):=[.int .i64 0,.int .i64 0,.nils,.nils,.int .i64 0,.nils,.nils,.nils,.nils,.int .i64 0,.nils]
abbrev zc2:List (C U):=[.int .i64 0,.int .i64 0,.nils,.int .i64 0,.int .i64 0,.nils,.nils,.int .i64 0,.nils,.nils,.nils,.nils,.int .i64 0,.nils]
end Go.AM.YtfapacabjkhepaaGreat
namespace Go.AM.YtfapacabjkhepaaGreat
open Go.AM Go.Proofs Go.Proofs.YtfapacabjkhepaaGreat Go.ChangeShapes Go.WideShapes Go.RowKit
theorem own:ownKnob Tryz.prog.godebug=none:=V5
theorem ZyE:laidOutB Tryz.prog=true:=V5
theorem Z5W:TreeTypes cfg:=⟨rfl,rfl,⟨_,rfl⟩,⟨_,rfl⟩,⟨_,rfl,rfl⟩,⟨_,_,rfl,rfl⟩,⟨_,_,rfl,rfl,rfl⟩,⟨_,_,rfl,rfl,rfl⟩⟩
theorem ZqO:EditTypes cfg:=⟨⟨_,rfl,rfl⟩,⟨_,_,rfl,rfl⟩,⟨_,_,rfl,rfl⟩,⟨_,_,rfl,rfl⟩,⟨_,_,rfl,rfl⟩,⟨_,rfl,rfl⟩,⟨_,_,rfl,rfl⟩,rfl,⟨_,rfl,rfl⟩,⟨_,_,rfl,rfl⟩,⟨_,_,rfl,rfl⟩,⟨_,_,rfl,rfl,rfl⟩,rfl,⟨_,rfl,rfl⟩,⟨_,_,rfl,rfl⟩,rfl,rfl,⟨_,_,rfl,rfl,rfl⟩,⟨_,_,rfl,rfl,rfl⟩,⟨_,_,rfl,rfl⟩,⟨_,_,rfl,rfl,rfl⟩⟩
theorem ZBo{H:Type}{henc:TypeId × Value->H}{w:World}{n:Nat}{cs:List Value}(h:Rdd henc Tryz.prog w n (cfg.elT .rbundle) cs):
  ∃ e:Bnd,RelS cfg w.cell? cs (cfg.enc .rbundle e)/\inT e.first/\e.log.length*cfg.bytes .edit<=reachBytes/\∀ x∈e.log,inE x:=by
 obtain ⟨tz,u,d⟩:=Z5W.var
 obtain ⟨m,rfl,hl,r0⟩:=YY Zk (t:=cfg.elT .rbundle) (i:=0) (off:=0) (ft:=cfg.elT .tree) rfl u h
 obtain ⟨m',e',_,r1⟩:=YY Zk (t:=cfg.elT .rbundle) (i:=1) (off:=3) (ft:=26) (ag:=false) (zs:=[.nils]) rfl rfl h
 cases e'
 have s:cs.length=4:=by rw [hl,JX Zk (t:=cfg.elT .rbundle) (ag:=true) rfl];try rfl
 obtain ⟨a,a1,a2⟩:=Z8J Zk Z5W _ _ r0
 obtain ⟨l,p1,p2,p3⟩:=ZdW Zk (S:= .edit) rfl (fun m _ cs h=> Zxk Zk Z5W ZqO m cs h) r1
 rw [d] at a1
 exact ⟨⟨a,l⟩,a1.glue rfl V0 (p1.glue rfl (by simp;omega) (RelS.done (n:=4) s)),a2,p2,p3⟩
theorem ZmW{H:Type}{henc:TypeId × Value->H}:ZzY henc Tryz.prog cfg (aEl .rbundle) 28 (fun e=> inT e.first/\e.log.length*cfg.bytes .edit<=reachBytes/\∀ x∈e.log,inE x):=
 Zpz Zk rfl ⟨_,_,rfl⟩ (fun _ n cs h=> ZBo h)
theorem ZyX{H:Type}{henc:TypeId × Value->H}:ZzY henc Tryz.prog cfg (aEl .tree) 25 inT:=Zpz Zk rfl ⟨_,_,rfl⟩ (fun _ n cs h=> Z8J Zk Z5W n cs h)
end Go.AM.YtfapacabjkhepaaGreat
namespace Go.AM.YtfapacabjkhepaaGreat
open Go.AM Go.Proofs
noncomputable section
def ZmM:ArgL (Tree × Int × Int × Unit):=(.cons (aEl .tree) (.cons (Yc .i64) (.cons (Yc .i64) .nil)))
def Z8O(a:Tree × Int × Int × Unit):Prop:=Z2t a.1/\0<=a.2.1/\a.2.1<=4611686018427387904/\-1<=a.2.2.1/\a.2.2.1<=4611686018427387904
def Zql(a:Tree × Int × Int × Unit):Nat:=Zh a.1
def Zjb(a:Tree × Int × Int × Unit):V U:= .c (ci (ZD a.1 a.2.1 a.2.2.1))
def Z4X:Fs U:=fs ZmM (fun a=> [Z8O a]) Zjb
def ZvE:ArgL (Tree × Unit):=(.cons (aEl .tree) .nil)
def Zjz(a:Tree × Unit):Prop:=Z2t a.1
def ZAl(a:Tree × Unit):V U:= .c (.bool (decide (0<=ZD a.1 80 3000)))
def Z52:Fs U:=fs ZvE (fun a=> [Zjz a]) ZAl
def ZvC:ArgL (List Int × List Int × Unit):=(.cons (aSl .u64) (.cons (aSl .u64) .nil))
def Zgi(a:List Int × List Int × Unit):Prop:=a.1.length<=1000000000000
def Zjd(a:List Int × List Int × Unit):V U:= .c (.bool (decide (a.1=a.2.1)))
def Zds:Fs U:=fs ZvC (fun a=> [Zgi a]) Zjd
def Zvm:ArgL (List Int × Unit):=(.cons (aSl .u64) .nil)
def Zjt(a:List Int × Unit):Prop:=a.1.length<=1000000000000
def Zs2(a:List Int × Unit):V U:= .c (sU .u64 (trim a.1) .unk)
def Zdg:Fs U:=fs Zvm (fun a=> [Zjt a]) Zs2
def ZAc(a:List Int × Unit):V U:= .c (sU .u64 a.1 .unk)
def Zdh:Fs U:=fs Zvm (fun a=> [Zjt a]) ZAc
def Zvf:ArgL (Tree × Int × Unit):=(.cons (aEl .tree) (.cons (Yc .i64) .nil))
def Z4O(a:Tree × Int × Unit):Prop:=True
def Znt(a:Tree × Int × Unit):V U:= .c (.int .u64 (Zw a.1 a.2.1))
def Z1F:Fs U:=fs Zvf (fun a=> [Z4O a]) Znt
def ZnC(a:Tree × Int × Unit):V U:= .agg (enc .tree (ZI a.1 a.2.1))
def Z0v:Fs U:=fs Zvf (fun a=> [Z4O a]) ZnC
def Jv(a:Tree × Unit):Prop:=Zh a.1<=1000000000000
def Zqn(a:Tree × Unit):Nat:=Zh a.1
def Zg9(a:Tree × Unit):V U:= .agg (enc .tree (Z3 a.1))
def Jr:Fs U:=fs ZvE (fun a=> [Jv a]) Zg9
def ZmV:ArgL (Tree × Tree × Unit):=(.cons (aEl .tree) (.cons (aEl .tree) .nil))
def Z1y(a:Tree × Tree × Unit):Prop:=Zh a.1<=1000000000000
def Zqp(a:Tree × Tree × Unit):Nat:=Zh a.1
def Zgb(a:Tree × Tree × Unit):V U:= .c (.bool (Yd a.1 a.2.1))
def JL:Fs U:=fs ZmV (fun a=> [Z1y a]) Zgb
def Z39(a:Tree × Tree × Unit):Prop:=Zh a.1<=1000000000000/\Zh a.2.1<=1000000000000
def Zqm(a:Tree × Tree × Unit):Nat:=Zh a.1+Zh a.2.1
def ZdQ(a:Tree × Tree × Unit):V U:= .c (.bool (Yd (Z3 a.1) (Z3 a.2.1)))
def YX:Fs U:=fs ZmV (fun a=> [Z39 a]) ZdQ
def Zm6(N:Nat):List (FuncId × Fs U):=(50,fs ZmM (fun a=> [Z8O a,Zql a < N]) Zjb) ::[]
def Zyh:Zg U:=lvl [([1,2,3],[3]),([1,2,3],[3]),([1,2,3,19],[3]),([6],[]),([1,2,3,7],[3]),([1,2,3,7,28],[3]),([1,2,3,7],[3]),([1,2,3,7],[3]),([6],[])]
def Z9G(t:Tree)(d l h s:Int):LSt U:=(L2 [pI 1 d,pI 2 h,pL 3,pI 7 s] [(.loc 3,(enc .tree t))])
abbrev A50(N:Nat)(p:List Nat):=AW (Z2 (Zm6 N)) Tryz.f50 Zyh p
abbrev S50(N:Nat)(p:List Nat):=SW (Z2 (Zm6 N)) Tryz.f50 Zyh p
theorem ZI3(N:Nat)(t:Tree)(d l:Int)(Q:QT)(h:((InR (l - 1))/\(InR (((l - 1):Int) - (t.words.length:Int)))/\((Tt (!(d==0)))/\((d==0)=false->(!(d==0))=true)/\(iB (bif (d==0) then true else (decide (((((l - 1):Int) - (t.words.length:Int)):Int) < 0))) ((Q .ret (L2 [pI 6 (-1)] []))) ((Zl (A50 N [1,1,1,0,1,0,0]) (Z9G t d l (((l - 1):Int) - (t.words.length:Int)) 0) (xB 0 (S50 N [1,1,1,1] Q)))))))):
  A50 N [] (L2 [(0,.agg (enc .tree t)),pI 1 d,pI 2 l] []) Q:=
 Eq.mpr V5 h
theorem Zwz(N:Nat)(t:Tree)(d l u s:Int)(N0:NT)(Q:QT)(h:let z2:=t.kids.getD s.toNat Tree.nil;let z1:=decide (s < (t.kids.length:Int));let z0:=Tree.mk (Tree.kind z2) (Tree.words z2) (Tree.kids z2);(Tt z1)/\(Tt z1)/\(iB (bif z1 then (decide ((0:Int)<=u)) else false) (((0:Int)<=s/\s < (t.kids.length:Int))/\(InR (d - 1))/\(Z8O (z0,(d - 1),u,()))/\(Zql (z0,(d - 1),u,()) < N)/\((InR (s+1))/\(N0 (Z9G t d l (ZD z0 (d - 1) u) (s+1))))) ((Q .ret (L2 [pI 6 u] []))))):
  A50 N [1,1,1,0,1,0,0] (Z9G t d l u s) (xT N0 (xB 0 (S50 N [1,1,1,1] Q))):=
 Eq.mpr V5 h
def ZEN(N:Nat)(t:Tree)(d l:Int):Prop:=AW (Z2 (Zm6 N)) Tryz.f50 Zyh [] (Zi (ZmM.can (t,d,l,())) []) (EQ Tryz.f50 (Zjb (t,d,l,())) [])
theorem ZC1(hb:∀ (N:Nat) (t:Tree) (d:Int) (l:Int) (_:Unit),Z8O (t,d,l,())->Zql (t,d,l,()) < N+1->ZEN N t d l):CT 50 Z4X:=
 Y8 (μ:=Zql) (l:=[]) Zk rfl trivial Zyh Tryz.func50 rfl rfl 3 (fun _=> rfl) V2 (fun N ⟨t,d,l,_⟩=> hb N t d l ())
def Zuy:List (FuncId × Fs U):=[(50,Z4X)]
def ZCY:Zg U:=lvl [([1],[1]),([2],[])]
abbrev A22(p:List Nat):=AW (Z2 Zuy) Tryz.f22 ZCY p
theorem ZIr(t:Tree)(Q:QT)(h:let z0:=Tree.mk t.kind t.words t.kids;((Z8O (z0,80,3000,()))/\(Q .ret (L2 [(2,.c (.bool (decide ((0:Int)<=(ZD z0 80 3000)))))] [])))):
  A22 [] (L2 [(0,.agg (enc .tree t))] []) Q:=
 Eq.mpr V5 h
def ZFb(t:Tree):Prop:=AW (Z2 Zuy) Tryz.f22 ZCY [] (Zi (ZvE.can (t,())) []) (EQ Tryz.f22 (ZAl (t,())) [])
theorem ZCk(c50:CT 50 Z4X)(hb:∀ (t:Tree) (_:Unit),Zjz (t,())->ZFb t):CT 22 Z52:=
 Z1 (l:=[(50,Z4X)]) Zk rfl (⟨c50,trivial⟩) ZCY Tryz.func22 rfl rfl 1 (fun _=> rfl) V2 (fun ⟨t,_⟩=> hb t ())
def Zmg:List (FuncId × Fs U):=[]
def Zys:Zg U:=lvl [([0,1],[]),([0,1,10],[]),([4],[]),([0,1,5],[]),([0,1,5,14],[]),([0,1,5],[]),([0,1,5,25],[]),([4],[]),([4],[])]
def Za3(a b:List Int)(d:Int):LSt U:=(L2 [(0,.c (sU .u64 a .unk)),(1,.c (sU .u64 b .unk)),pI 5 d] [])
abbrev A26(p:List Nat):=AW (Z2 Zmg) Tryz.f26 Zys p
abbrev S26(p:List Nat):=SW (Z2 Zmg) Tryz.f26 Zys p
theorem ZIp(a b:List Int)(Q:QT)(h:(iB (((a.length:Int):Int) !=(b.length:Int)) ((Q .ret (L2 [pB 4 false] []))) ((Zl (A26 [1,1,0,1,0,0]) (Za3 a b 0) (xB 0 (S26 [1,1,1] Q)))))):
  A26 [] (L2 [(0,.c (sU .u64 a .unk)),(1,.c (sU .u64 b .unk))] []) Q:=
 Eq.mpr V5 h
theorem ZwX(a b:List Int)(d:Int)(N0:NT)(Q:QT)(h:(iB (decide (d < (a.length:Int))) (((0:Int)<=d/\d < (a.length:Int))/\((0:Int)<=d/\d < (b.length:Int))/\(iB (((a.getD d.toNat (0:Int)):Int) !=(b.getD d.toNat (0:Int))) ((Q .ret (L2 [pB 4 false] []))) ((InR (d+1))/\(N0 (Za3 a b (d+1)))))) ((Q .ret (L2 [pB 4 true] []))))):
  A26 [1,1,0,1,0,0] (Za3 a b d) (xT N0 (xB 0 (S26 [1,1,1] Q))):=
 Eq.mpr V5 h
def ZF9(a b:List Int):Prop:=AW (Z2 Zmg) Tryz.f26 Zys [] (Zi (ZvC.can (a,b,())) []) (EQ Tryz.f26 (Zjd (a,b,())) [])
theorem ZCi(hb:∀ (a:List Int) (b:List Int) (_:Unit),Zgi (a,b,())->ZF9 a b):CT 26 Zds:=
 Z1 (l:=[]) Zk rfl trivial Zys Tryz.func26 rfl rfl 2 (fun _=> rfl) V2 (fun ⟨a,b,_⟩=> hb a b ())
def Zyd:Zg U:=lvl [([0],[]),([0,3],[]),([0,3,16],[]),([0,3],[]),([0,3,4],[]),([2],[])]
def Z9x(l:List Int)(d:Int):LSt U:=(L2 [(0,.c (sU .u64 l .unk)),pI 3 d] [])
abbrev A65(p:List Nat):=AW (Z2 Zmg) Tryz.f65 Zyd p
abbrev S65(p:List Nat):=SW (Z2 Zmg) Tryz.f65 Zyd p
theorem ZHT(l:List Int)(Q:QT)(h:(Zl (A65 [1,1,0,0,0]) (Z9x l (l.length:Int)) (xB 0 (S65 [1,1,1] Q)))):
  A65 [] (L2 [(0,.c (sU .u64 l .unk))] []) Q:=
 Eq.mpr V5 h
theorem Zwn(l:List Int)(d:Int)(N0:NT)(Q:QT)(h:let z0:=decide ((0:Int) < d);(Tt z0)/\(z0=true->InR (d - 1))/\(Tt z0)/\(Tt z0)/\(z0=true->(0:Int)<=(d - 1)/\(d - 1) < (l.length:Int))/\(Tt z0)/\(Tt z0)/\(Tt z0)/\(iB (bif z0 then (((List.getD l (Int.toNat (d - 1)) (0:Int)):Int)==0) else false) ((InR (d - 1))/\(N0 (Z9x l (d - 1)))) ((((0:Int)<=d/\d<=(l.length:Int))/\((([]:List Int).length+(List.take d.toNat l).length)*8<=140737488355328)/\(Q .ret (L2 [(2,.c (sU .u64 (([]:List Int)++(List.take d.toNat l)) (.own (.e 2 0))))] [])))))):
  A65 [1,1,0,0,0] (Z9x l d) (xT N0 (xB 0 (S65 [1,1,1] Q))):=
 Eq.mpr V5 h
def ZED(l:List Int):Prop:=AW (Z2 Zmg) Tryz.f65 Zyd [] (Zi (Zvm.can (l,())) []) (EQ Tryz.f65 (Zs2 (l,())) [])
theorem ZBU(hb:∀ (l:List Int) (_:Unit),Zjt (l,())->ZED l):CT 65 Zdg:=
 Z1 (l:=[]) Zk rfl trivial Zyd Tryz.func65 rfl rfl 1 (fun _=> rfl) V2 (fun ⟨l,_⟩=> hb l ())
def ZCJ:Zg U:=lvl [([0],[]),([0,4],[]),([2],[]),([2],[])]
abbrev A64(p:List Nat):=AW (Z2 Zmg) Tryz.f64 ZCJ p
theorem ZHU(l:List Int)(Q:QT)(h:(((l=[])->(Q .ret (L2 [(2,.c (.nils))] [])))/\(True->((([]:List Int).length+l.length)*8<=140737488355328)/\(Q .ret (L2 [(2,.c (sU .u64 (([]:List Int)++l) (.own (.e 2 0))))] []))))):
  A64 [] (L2 [(0,.c (sU .u64 l .unk))] []) Q:=
 Eq.mpr V5 h
def ZEE(l:List Int):Prop:=AW (Z2 Zmg) Tryz.f64 ZCJ [] (Zi (Zvm.can (l,())) []) (EQ Tryz.f64 (ZAc (l,())) [])
theorem ZBV(hb:∀ (l:List Int) (_:Unit),Zjt (l,())->ZEE l):CT 64 Zdh:=
 Z1 (l:=[]) Zk rfl trivial ZCJ Tryz.func64 rfl rfl 1 (fun _=> rfl) V2 (fun ⟨l,_⟩=> hb l ())
def Zy9:Zg U:=lvl [([0,1],[]),([0,1,10],[]),([4],[]),([0,1,12,13],[]),([0,1,12,13,14],[]),([0,1,5,12,13],[]),([0,1,12,13,24],[]),([4],[]),([0,1,12,13],[]),([4],[])]
def Z9q(a b:List Int)(d:Int):LSt U:=(L2 [(0,.c (sU .u64 a .unk)),(1,.c (sU .u64 b .unk)),pI 12 (a.length:Int),pI 13 d] [])
abbrev A80(p:List Nat):=AW (Z2 Zmg) Tryz.f80 Zy9 p
abbrev S80(p:List Nat):=SW (Z2 Zmg) Tryz.f80 Zy9 p
theorem ZHG(a b:List Int)(Q:QT)(h:(iB (((a.length:Int):Int) !=(b.length:Int)) ((Q .ret (L2 [pB 4 false] []))) ((Zl (A80 [1,1,0,1,0,0]) (Z9q a b 0) (xB 0 (S80 [1,1,1] Q)))))):
  A80 [] (L2 [(0,.c (sU .u64 a .unk)),(1,.c (sU .u64 b .unk))] []) Q:=
 Eq.mpr V5 h
theorem Zwa(a b:List Int)(d:Int)(N0:NT)(Q:QT)(h:(iB (decide (d < (a.length:Int))) ((((0:Int)<=d/\d < (a.length:Int))/\((0:Int)<=d/\d < (b.length:Int))/\(iB (((a.getD d.toNat (0:Int)):Int) !=(b.getD d.toNat (0:Int))) ((Q .ret (L2 [pB 4 false] []))) ((InR (d+1))/\(N0 (Z9q a b (d+1))))))) ((Q .ret (L2 [pB 4 true] []))))):
  A80 [1,1,0,1,0,0] (Z9q a b d) (xT N0 (xB 0 (S80 [1,1,1] Q))):=
 Eq.mpr V5 h
def ZEq(a b:List Int):Prop:=AW (Z2 Zmg) Tryz.f80 Zy9 [] (Zi (ZvC.can (a,b,())) []) (EQ Tryz.f80 (Zjd (a,b,())) [])
theorem ZBO(hb:∀ (a:List Int) (b:List Int) (_:Unit),Zgi (a,b,())->ZEq a b):CT 80 Zds:=
 Z1 (l:=[]) Zk rfl trivial Zy9 Tryz.func80 rfl rfl 2 (fun _=> rfl) V2 (fun ⟨a,b,_⟩=> hb a b ())
def ZCC:Zg U:=lvl [([1,2],[2]),([1,2,13],[2]),([4],[]),([4],[])]
abbrev A81(p:List Nat):=AW (Z2 Zmg) Tryz.f81 ZCC p
theorem ZHF(t:Tree)(i:Int)(Q:QT)(h:let z0:= !(decide (i < 0));((Tt z0)/\(Tt z0)/\(Tt z0)/\(Tt z0)/\((decide (i < 0))=false->z0=true)/\(iB (bif (decide (i < 0)) then true else (decide (((t.words.length:Int):Int)<=i))) ((Q .ret (L2 [(4,.c (.int .u64 0))] []))) (((0:Int)<=i/\i < (t.words.length:Int))/\(Q .ret (L2 [(4,.c (.int .u64 (t.words.getD i.toNat (0:Int))))] [])))))):
  A81 [] (L2 [(0,.agg (enc .tree t)),pI 1 i] []) Q:=
 Eq.mpr V5 h
def ZEp(t:Tree)(i:Int):Prop:=AW (Z2 Zmg) Tryz.f81 ZCC [] (Zi (Zvf.can (t,i,())) []) (EQ Tryz.f81 (Znt (t,i,())) [])
theorem ZBN(hb:∀ (t:Tree) (i:Int) (_:Unit),Z4O (t,i,())->ZEp t i):CT 81 Z1F:=
 Z1 (l:=[]) Zk rfl trivial ZCC Tryz.func81 rfl rfl 2 (fun _=> rfl) V2 (fun ⟨t,i,_⟩=> hb t i ())
def ZCQ:Zg U:=lvl [([1,2,4],[2,4]),([1,2,4,13],[2,4]),([4],[4]),([4],[4])]
abbrev A45(p:List Nat):=AW (Z2 Zmg) Tryz.f45 ZCQ p
theorem ZI8(t:Tree)(i:Int)(Q:QT)(h:let z0:= !(decide (i < 0));((Tt z0)/\(Tt z0)/\(Tt z0)/\(Tt z0)/\((decide (i < 0))=false->z0=true)/\(iB (bif (decide (i < 0)) then true else (decide (((t.kids.length:Int):Int)<=i))) ((Q .ret (L2 [pL 4] [(.loc 4,[ci 0,.nils,.nils])]))) (((0:Int)<=i/\i < (t.kids.length:Int))/\(Q .ret (L2 [pL 4] [(.loc 4,(enc .tree (t.kids.getD i.toNat Tree.nil)))])))))):
  A45 [] (L2 [(0,.agg (enc .tree t)),pI 1 i] []) Q:=
 Eq.mpr V5 h
def ZES(t:Tree)(i:Int):Prop:=AW (Z2 Zmg) Tryz.f45 ZCQ [] (Zi (Zvf.can (t,i,())) []) (EQ Tryz.f45 (ZnC (t,i,())) [])
theorem ZC6(hb:∀ (t:Tree) (i:Int) (_:Unit),Z4O (t,i,())->ZES t i):CT 45 Z0v:=
 Z1 (l:=[]) Zk rfl trivial ZCQ Tryz.func45 rfl rfl 2 (fun _=> rfl) V2 (fun ⟨t,i,_⟩=> hb t i ())
def Zmc(N:Nat):List (FuncId × Fs U):=(34,fs ZvE (fun a=> [Jv a,Zqn a < N]) Zg9) ::[(65,Zdg)]
def Zyo:Zg U:=lvk [([1,2],[1,2]),([1,2,10],[1,2]),([2],[2]),([1,2,3],[1,2]),([1,2,3,4],[1,2]),([1,2,(3,[.own .tree]),4,5],[1,2]),([1,2,3,4,5,16],[1,2]),([1,2,(3,[.own .tree]),4,5],[1,2]),([1,2,3,4,5,6],[1,2,6]),([1,2,3,4,5,6],[1,2,6]),([1,2,3,4,5,31],[1,2]),([1,2,3,4,5],[1,2]),([1,2,3,4,36],[1,2]),([2],[2]),([1,2,3,7],[1,2]),([1,2,3,7],[1,2]),([2],[2])]
def Z5I(t:Tree)(s h:Int)(d:List Tree):LSt U:=(L2 [pL 1,pL 2,(3,.c (sU .tree d (.own (.e 3 0)))),pI 4 s,pI 5 h] [(.loc 1,(enc .tree t)),(.loc 2,[ci 0,.nils,.nils])])
abbrev A34(N:Nat)(p:List Nat):=AW (Z2 (Zmc N)) Tryz.f34 Zyo p
abbrev S34(N:Nat)(p:List Nat):=SW (Z2 (Zmc N)) Tryz.f34 Zyo p
theorem ZIh(N:Nat)(t:Tree)(Q:QT)(h:(iB (t.kind==0) ((Q .ret (L2 [pL 2] [(.loc 2,[ci 0,.nils,.nils])]))) ((Zl (A34 N [1,1,1,1,0,1,0,0]) (Z5I t 0 0 []) (xB 0 (S34 N [1,1,1,1,1] Q)))))):
  A34 N [] (L2 [(0,.agg (enc .tree t))] []) Q:=
 Eq.mpr V5 h
theorem ZwO(N:Nat)(t:Tree)(x4 d:Int)(x3:List Tree)(N0:NT)(Q:QT)(h:∀ ae,ae=(t.kids.getD d.toNat Tree.nil)->∀ s,s=ae->∀ u,u=(Z3 s)->(iB (decide (d < (t.kids.length:Int))) (((0:Int)<=d/\d < (t.kids.length:Int))/\(Jv (s,()))/\(Zqn (s,()) < N)/\(((x3.length+([u]).length)*56<=140737488355328)/\(iB (((Tree.kind (Z3 s)):Int) !=0) ((InR (d+1))/\((InR (d+1))/\(N0 (Z5I t (d+1) (d+1) (x3++([u])))))) ((InR (d+1))/\(N0 (Z5I t x4 (d+1) (x3++([u])))))))) ((iB (t.kind==1) ((Zjt (t.words,()))/\((0:Int)<=x4/\x4<=(x3.length:Int))/\(Q .ret (L2 [pL 2] [(.loc 2,[ci 1,sU .u64 (trim t.words) .unk,sU .tree (List.take x4.toNat x3) .unk])]))) ((((([]:List Int).length+t.words.length)*8<=140737488355328)/\(Q .ret (L2 [pL 2] [(.loc 2,[ci t.kind,sU .u64 (([]:List Int)++t.words) (.own (.l 2 1)),sU .tree x3 (.own (.l 2 2))])])))))))):
  A34 N [1,1,1,1,0,1,0,0] (Z5I t x4 d x3) (xT N0 (xB 0 (S34 N [1,1,1,1,1] Q))):=
 Eq.mpr V5 (h _ rfl _ (Z0 _) _ (Z0 _))
def ZF1(N:Nat)(t:Tree):Prop:=AW (Z2 (Zmc N)) Tryz.f34 Zyo [] (Zi (ZvE.can (t,())) []) (EQ Tryz.f34 (Zg9 (t,())) [])
theorem ZCb(c65:CT 65 Zdg)(hb:∀ (N:Nat) (t:Tree) (_:Unit),Jv (t,())->Zqn (t,()) < N+1->ZF1 N t):CT 34 Jr:=
 Y8 (μ:=Zqn) (l:=[(65,Zdg)]) Zk rfl (⟨c65,trivial⟩) Zyo Tryz.func34 rfl rfl 1 (fun _=> rfl) V2 (fun N ⟨t,_⟩=> hb N t ())
def Zmd(N:Nat):List (FuncId × Fs U):=(33,fs ZvE (fun a=> [Jv a,Zqn a < N]) Zg9) ::[(64,Zdh)]
def Zyp:Zg U:=lvk [([1,2],[1,2]),([1,2,8],[1,2]),([2],[2]),([1,2,3],[1,2,3]),([1,2,3,17,18,19],[1,2,((.loc 3),[.any,.any,.own .tree])]),([1,2,3,17,18,19,20],[1,2,3]),([1,2,3,5,17,18,19],[1,2,3,5]),([1,2,3,17,18,19],[1,2,3]),([1,2,3,17,18,19],[1,2,((.loc 3),[.any,.any,.own .tree])]),([2,3,33],[2,((.loc 3),[.any,.any,.unk .tree])]),([2,3,33,48],[2,((.loc 3),[.any,.any,.unk .tree])]),([2,3,33],[2,((.loc 3),[.any,.any,.unk .tree])]),([2,3,33,48,72],[2,3]),([2,3,33,48],[2,((.loc 3),[.any,.any,.unk .tree])]),([2],[2])]
def Z9X(t:Tree)(h:Int)(d:List Tree):LSt U:=(L2 [pL 1,pL 2,pL 3,(17,.c (sU .tree t.kids .unk)),pI 18 (t.kids.length:Int),pI 19 h] [(.loc 1,(enc .tree t)),(.loc 2,[ci 0,.nils,.nils]),(.loc 3,[ci t.kind,sU .u64 t.words .unk,sU .tree d (.own (.l 3 2))])])
def Z9W(t:Tree)(h:List Tree)(d:List Int):LSt U:=(L2 [pL 2,pL 3,pB 33 ((t.kind:Int)==1)] [(.loc 2,[ci 0,.nils,.nils]),(.loc 3,[ci t.kind,sU .u64 d .unk,sU .tree h .unk])])
def Z9V(t:Tree)(d:List Int)(h:List Tree):LSt U:=(L2 [pL 2,pL 3,pB 33 ((t.kind:Int)==1),(48,.c (.bool (bif (decide ((0:Int) < (d.length:Int))) then (((List.getD d (Int.toNat (((d.length:Int):Int) - 1)) (0:Int)):Int)==0) else false)))] [(.loc 2,[ci 0,.nils,.nils]),(.loc 3,[ci t.kind,sU .u64 d .unk,sU .tree h .unk])])
abbrev A33(N:Nat)(p:List Nat):=AW (Z2 (Zmd N)) Tryz.f33 Zyp p
abbrev S33(N:Nat)(p:List Nat):=SW (Z2 (Zmd N)) Tryz.f33 Zyp p
theorem ZIi(N:Nat)(t:Tree)(Q:QT)(h:(iB (t.kind==0) ((Q .ret (L2 [pL 2] [(.loc 2,[ci 0,.nils,.nils])]))) ((Zjt (t.words,()))/\(Zl (A33 N [1,1,1,0,1,0,0]) (Z9X t 0 []) (xB 0 (S33 N [1,1,1,1] Q)))))):
  A33 N [] (L2 [(0,.agg (enc .tree t))] []) Q:=
 Eq.mpr V5 h
theorem ZwR(N:Nat)(t:Tree)(s:Int)(d:List Tree)(N0:NT)(Q:QT)(h:∀ ab,ab=(t.kids.getD s.toNat Tree.nil)->∀ u,u=ab->∀ aa,aa=(Z3 u)->(iB (decide (s < (t.kids.length:Int))) (((0:Int)<=s/\s < (t.kids.length:Int))/\((Jv (u,()))/\(Zqn (u,()) < N)/\((d.length+([aa]).length)*56<=140737488355328)/\((InR (s+1))/\(N0 (Z9X t (s+1) (d++([aa]))))))) ((iB (t.kind==1) (Zl (A33 N [1,1,1,1,0,1,0,0,0,0]) (Z9W t d t.words) (xB 2 (S33 N [1,1,1,1,0,1,0,1] (S33 N [1,1,1,1,1] Q)))) ((Q .ret (L2 [pL 2] [(.loc 2,[ci t.kind,sU .u64 t.words .unk,sU .tree d .unk])]))))))):
  A33 N [1,1,1,0,1,0,0] (Z9X t s d) (xT N0 (xB 0 (S33 N [1,1,1,1] Q))):=
 Eq.mpr V5 (h _ rfl _ (Z0 _) _ (Z0 _))
theorem ZwQ(N:Nat)(t:Tree)(s:List Tree)(d:List Int)(N1:NT)(Q:QT)(h:let z0:=decide ((0:Int) < (d.length:Int));(Tt z0)/\(Tt z0)/\(Tt z0)/\(Tt z0)/\(z0=true->InR (((d.length:Int):Int) - 1))/\(Tt z0)/\(Tt z0)/\(z0=true->(0:Int)<=(((d.length:Int):Int) - 1)/\(((d.length:Int):Int) - 1) < (d.length:Int))/\(Tt z0)/\(Tt z0)/\(Tt z0)/\(iB (bif z0 then (((List.getD d (Int.toNat (((d.length:Int):Int) - 1)) (0:Int)):Int)==0) else false) ((InR (((d.length:Int):Int) - 1))/\((0:Int)<=(((d.length:Int):Int) - 1)/\(((d.length:Int):Int) - 1)<=(d.length:Int))/\(N1 (Z9W t s (List.take (Int.toNat (((d.length:Int):Int) - 1)) d)))) (Zl (A33 N [1,1,1,1,0,1,0,1,0,0]) (Z9V t d s) (xB 4 (S33 N [1,1,1,1,1] Q))))):
  A33 N [1,1,1,1,0,1,0,0,0,0] (Z9W t s d) (xT N1 (xB 2 (S33 N [1,1,1,1,0,1,0,1] (S33 N [1,1,1,1,1] Q)))):=
 Eq.mpr V5 h
theorem ZwP(N:Nat)(t:Tree)(s:List Int)(d:List Tree)(N2:NT)(Q:QT)(h:let z0:=decide ((0:Int) < (d.length:Int));(Tt z0)/\(Tt z0)/\(Tt z0)/\(Tt z0)/\(z0=true->InR (((d.length:Int):Int) - 1))/\(Tt z0)/\(Tt z0)/\(z0=true->(0:Int)<=(((d.length:Int):Int) - 1)/\(((d.length:Int):Int) - 1) < (d.length:Int))/\(Tt z0)/\(Tt z0)/\(Tt z0)/\(Tt z0)/\(iB (bif z0 then (((Tree.kind (List.getD d (Int.toNat (((d.length:Int):Int) - 1)) Tree.nil)):Int)==0) else false) ((InR (((d.length:Int):Int) - 1))/\((0:Int)<=(((d.length:Int):Int) - 1)/\(((d.length:Int):Int) - 1)<=(d.length:Int))/\(N2 (Z9V t s (List.take (Int.toNat (((d.length:Int):Int) - 1)) d)))) ((Q .ret (L2 [pL 2] [(.loc 2,[ci t.kind,sU .u64 s .unk,sU .tree d .unk])]))))):
  A33 N [1,1,1,1,0,1,0,1,0,0] (Z9V t s d) (xT N2 (xB 4 (S33 N [1,1,1,1,1] Q))):=
 Eq.mpr V5 h
def ZF2(N:Nat)(t:Tree):Prop:=AW (Z2 (Zmd N)) Tryz.f33 Zyp [] (Zi (ZvE.can (t,())) []) (EQ Tryz.f33 (Zg9 (t,())) [])
theorem ZCc(c64:CT 64 Zdh)(hb:∀ (N:Nat) (t:Tree) (_:Unit),Jv (t,())->Zqn (t,()) < N+1->ZF2 N t):CT 33 Jr:=
 Y8 (μ:=Zqn) (l:=[(64,Zdh)]) Zk rfl (⟨c64,trivial⟩) Zyp Tryz.func33 rfl rfl 1 (fun _=> rfl) V2 (fun N ⟨t,_⟩=> hb N t ())
def Zmo(N:Nat):List (FuncId × Fs U):=(11,fs ZmV (fun a=> [Z1y a,Zqp a < N]) Zgb) ::[(26,Zds)]
def ZyA:Zg U:=lvl [([2,3],[2,3]),([2,3,27],[2,3]),([4],[]),([2,3,5],[2,3]),([2,3,5,32],[2,3]),([2,3,5],[2,3]),([2,3,5,46],[2,3]),([4],[]),([4],[])]
def Zad(a b:Tree)(d:Int):LSt U:=(L2 [pL 2,pL 3,pI 5 d] [(.loc 2,(enc .tree a)),(.loc 3,(enc .tree b))])
abbrev A11(N:Nat)(p:List Nat):=AW (Z2 (Zmo N)) Tryz.f11 ZyA p
abbrev S11(N:Nat)(p:List Nat):=SW (Z2 (Zmo N)) Tryz.f11 ZyA p
theorem ZIB(N:Nat)(a b:Tree)(Q:QT)(h:let z1:=a.kind !=b.kind;let z0:=bif z1 then true else (!(decide (a.words=b.words)));((Tt (!z1))/\(Tt (!z1))/\(Tt (!z1))/\(Tt (!z1))/\((!z1)=true->Zgi (a.words,b.words,()))/\(Tt (!z1))/\(z1=false->(!z1)=true)/\(Tt (!z0))/\(Tt (!z0))/\(Tt (!z0))/\(Tt (!z0))/\(Tt (!z0))/\(Tt (!z0))/\(z0=false->(!z0)=true)/\(iB (bif z0 then true else (((a.kids.length:Int):Int) !=(b.kids.length:Int))) ((Q .ret (L2 [pB 4 false] []))) ((Zl (A11 N [1,1,0,1,0,0]) (Zad a b 0) (xB 0 (S11 N [1,1,1] Q))))))):
  A11 N [] (L2 [(0,.agg (enc .tree a)),(1,.agg (enc .tree b))] []) Q:=
 Eq.mpr V5 h
theorem Zx7(N:Nat)(a b:Tree)(d:Int)(N0:NT)(Q:QT)(h:∀ ab,ab=(a.kids.getD d.toNat Tree.nil)->∀ aa,aa=(b.kids.getD d.toNat Tree.nil)->∀ s,s=ab->∀ u,u=aa->(iB (decide (d < (a.kids.length:Int))) (((0:Int)<=d/\d < (a.kids.length:Int))/\((0:Int)<=d/\d < (b.kids.length:Int))/\(Z1y (s,u,()))/\(Zqp (s,u,()) < N)/\(iB (!(Yd s u)) ((Q .ret (L2 [pB 4 false] []))) ((InR (d+1))/\(N0 (Zad a b (d+1)))))) ((Q .ret (L2 [pB 4 true] []))))):
  A11 N [1,1,0,1,0,0] (Zad a b d) (xT N0 (xB 0 (S11 N [1,1,1] Q))):=
 Eq.mpr V5 (h _ rfl _ rfl _ (Z0 _) _ (Z0 _))
def ZFl(N:Nat)(a b:Tree):Prop:=AW (Z2 (Zmo N)) Tryz.f11 ZyA [] (Zi (ZmV.can (a,b,())) []) (EQ Tryz.f11 (Zgb (a,b,())) [])
theorem ZCu(c26:CT 26 Zds)(hb:∀ (N:Nat) (a:Tree) (b:Tree) (_:Unit),Z1y (a,b,())->Zqp (a,b,()) < N+1->ZFl N a b):CT 11 JL:=
 Y8 (μ:=Zqp) (l:=[(26,Zds)]) Zk rfl (⟨c26,trivial⟩) ZyA Tryz.func11 rfl rfl 2 (fun _=> rfl) V2 (fun N ⟨a,b,_⟩=> hb N a b ())
def Zm8(N:Nat):List (FuncId × Fs U):=(47,fs ZmV (fun a=> [Z39 a,Zqm a < N]) ZdQ) ::[(80,Zds),(81,Z1F),(45,Z0v)]
def Zyj:Zg U:=lvl [([2,3],[2,3]),([2,3,16],[2,3]),([4],[]),([2,3,41],[2,3]),([4],[]),([2,3,48,49],[2,3]),([2,3,48,49,50],[2,3]),([2,3,5,48,49],[2,3]),([2,3,48,49,58],[2,3]),([4],[]),([2,3,48,49],[2,3]),([2,3,66,67],[2,3]),([2,3,66,67,68],[2,3]),([2,3,6,66,67],[2,3]),([2,3,66,67,77],[2,3]),([4],[]),([2,3,66,67],[2,3]),([4],[])]
def Z9J(a b:Tree)(d:Int):LSt U:=(L2 [pL 2,pL 3,pI 48 (if ((a.words.length:Int):Int) < (b.words.length:Int) then (b.words.length:Int) else (a.words.length:Int)),pI 49 d] [(.loc 2,(enc .tree a)),(.loc 3,(enc .tree b))])
def Z9I(a b:Tree)(d:Int):LSt U:=(L2 [pL 2,pL 3,pI 66 (if ((a.kids.length:Int):Int) < (b.kids.length:Int) then (b.kids.length:Int) else (a.kids.length:Int)),pI 67 d] [(.loc 2,(enc .tree a)),(.loc 3,(enc .tree b))])
abbrev A47(N:Nat)(p:List Nat):=AW (Z2 (Zm8 N)) Tryz.f47 Zyj p
abbrev S47(N:Nat)(p:List Nat):=SW (Z2 (Zm8 N)) Tryz.f47 Zyj p
theorem ZI6(N:Nat)(a b:Tree)(Q:QT)(h:let z2:=a.kind !=b.kind;let z1:=((a.kids.length:Int):Int) !=(b.kids.length:Int);let z0:=(a.kind !=1) && (!z1);((Tt (!z2))/\(Tt (!z2))/\(z2=false->(!z2)=true)/\(iB (bif z2 then true else (a.kind==0)) ((Q .ret (L2 [pB 4 (a.kind==b.kind)] []))) ((Tt (a.kind !=1))/\(Tt (a.kind !=1))/\(Tt (a.kind !=1))/\(Tt (a.kind !=1))/\(Tt (a.kind !=1))/\(Tt (a.kind !=1))/\(Tt (a.kind !=1))/\(Tt z0)/\(Tt z0)/\(Tt z0)/\(Tt z0)/\(z0=true->Zgi (a.words,b.words,()))/\(Tt z0)/\((a.kind !=1)=true->(True->(a.kind !=1)=true))/\((a.kind !=1)=true->(z1=false->z0=true))/\(Tt (a.kind !=1))/\(iB (bif (a.kind !=1) then (bif z1 then true else (!(decide (a.words=b.words)))) else false) ((Q .ret (L2 [pB 4 false] []))) ((Zl (A47 N [1,1,1,0,1,0,0]) (Z9J a b 0) (xB 0 (S47 N [1,1,1,1] Q))))))))):
  A47 N [] (L2 [(0,.agg (enc .tree a)),(1,.agg (enc .tree b))] []) Q:=
 Eq.mpr V5 h
theorem ZwC(N:Nat)(a b:Tree)(d:Int)(N0:NT)(Q:QT)(h:let z1:=Tree.mk b.kind b.words b.kids;let z0:=Tree.mk a.kind a.words a.kids;(iB (decide (d < (if ((a.words.length:Int):Int) < (b.words.length:Int) then (b.words.length:Int) else (a.words.length:Int)))) (((Z4O (z0,d,()))/\(Z4O (z1,d,()))/\(iB (((Zw z0 d):Int) !=(Zw z1 d)) ((Q .ret (L2 [pB 4 false] []))) ((InR (d+1))/\(N0 (Z9J a b (d+1))))))) ((Zl (A47 N [1,1,1,1,0,1,0,0]) (Z9I a b 0) (xB 2 (S47 N [1,1,1,1,1] Q)))))):
  A47 N [1,1,1,0,1,0,0] (Z9J a b d) (xT N0 (xB 0 (S47 N [1,1,1,1] Q))):=
 Eq.mpr V5 h
theorem ZwB(N:Nat)(a b:Tree)(d:Int)(N1:NT)(Q:QT)(h:∀ ab,ab=a->∀ aa,aa=b->∀ s,s=(ZI ab d)->∀ u,u=(ZI aa d)->(iB (decide (d < (if ((a.kids.length:Int):Int) < (b.kids.length:Int) then (b.kids.length:Int) else (a.kids.length:Int)))) (((Z4O (ab,d,()))/\(Z4O (aa,d,()))/\(Z39 (s,u,()))/\(Zqm (s,u,()) < N)/\(iB (!(Yd (Z3 s) (Z3 u))) ((Q .ret (L2 [pB 4 false] []))) ((InR (d+1))/\(N1 (Z9I a b (d+1))))))) ((Q .ret (L2 [pB 4 true] []))))):
  A47 N [1,1,1,1,0,1,0,0] (Z9I a b d) (xT N1 (xB 2 (S47 N [1,1,1,1,1] Q))):=
 Eq.mpr V5 (h _ (Z0 _) _ (Z0 _) _ (Z0 _) _ (Z0 _))
def ZEQ(N:Nat)(a b:Tree):Prop:=AW (Z2 (Zm8 N)) Tryz.f47 Zyj [] (Zi (ZmV.can (a,b,())) []) (EQ Tryz.f47 (ZdQ (a,b,())) [])
theorem ZC4(c80:CT 80 Zds)(c81:CT 81 Z1F)(c45:CT 45 Z0v)(hb:∀ (N:Nat) (a:Tree) (b:Tree) (_:Unit),Z39 (a,b,())->Zqm (a,b,()) < N+1->ZEQ N a b):CT 47 YX:=
 Y8 (μ:=Zqm) (l:=[(80,Zds),(81,Z1F),(45,Z0v)]) Zk rfl (⟨c80,c81,c45,trivial⟩) Zyj Tryz.func47 rfl rfl 2 (fun _=> rfl) V2 (fun N ⟨a,b,_⟩=> hb N a b ())
def Zux:List (FuncId × Fs U):=[(34,Jr),(11,JL)]
def ZCX:Zg U:=lvl [([2,3],[2,3]),([4],[])]
abbrev A25(p:List Nat):=AW (Z2 Zux) Tryz.f25 ZCX p
theorem ZIq(a b:Tree)(Q:QT)(h:let z5:=Tree.mk a.kind a.words a.kids;let z4:=Tree.mk b.kind b.words b.kids;let z1:=Z3 z4;let z3:=Tree.mk (Tree.kind z1) (Tree.words z1) (Tree.kids z1);let z0:=Z3 z5;let z2:=Tree.mk (Tree.kind z0) (Tree.words z0) (Tree.kids z0);((Jv (z5,()))/\(Jv (z4,()))/\(Z1y (z2,z3,()))/\(Q .ret (L2 [(4,.c (.bool (Yd z2 z3)))] [])))):
  A25 [] (L2 [(0,.agg (enc .tree a)),(1,.agg (enc .tree b))] []) Q:=
 Eq.mpr V5 h
def ZFa(a b:Tree):Prop:=AW (Z2 Zux) Tryz.f25 ZCX [] (Zi (ZmV.can (a,b,())) []) (EQ Tryz.f25 (ZdQ (a,b,())) [])
theorem ZCj(c34:CT 34 Jr)(c11:CT 11 JL)(hb:∀ (a:Tree) (b:Tree) (_:Unit),Z39 (a,b,())->ZFa a b):CT 25 YX:=
 Z1 (l:=[(34,Jr),(11,JL)]) Zk rfl (⟨c34,c11,trivial⟩) ZCX Tryz.func25 rfl rfl 2 (fun _=> rfl) V2 (fun ⟨a,b,_⟩=> hb a b ())
end
theorem vcU:(∀ {p q:Prop},(p->q->p/\q)=True)/\(∀ {p:Prop},(True/\p)=p)/\(∀ {p:Prop},(p/\True)=p)/\(∀ {p:Prop},(p->True)=True):=
 ⟨by grind,by simp,by simp,by simp⟩
theorem ZdB:∀ {ks:List Tree} {i:Nat},Z3o ks->i < ks.length->Z2t (ks.getD i Tree.nil)
 | t ::_,0,h,_=> by simp only [Z3o] at h;exact h.1
 | _ ::r,i+1,h,hi=> by simp only [Z3o] at h;exact ZdB (ks:=r) (i:=i) h.2 (by simpa using hi)
theorem Z01:∀ {ks:List Tree} {i:Nat},i < ks.length->Zh (ks.getD i Tree.nil)<=Ze ks
 | t ::_,0,_=> by simp only [Ze,QB];omega
 | t ::r,i+1,h=> by
  have:=Z01 (ks:=r) (i:=i) (by simpa using h)
  simp only [Ze,List.getD_cons_succ]
  omega
mutual
theorem YK:∀ (t:Tree) (d l:Int),-1<=ZD t d l/\ZD t d l<=max l (-1)
 | .mk _ w ks,d,l=> by
  simp only [ZD]
  split
  .omega
  .have:=Z0L ks (d - 1) (l - 1 - w.length) V0
   omega
theorem Z0L:∀ (ks:List Tree) (d l:Int),-1<=l->-1<=ZB ks d l/\ZB ks d l<=l
 | [],d,l,h=> by simp only [ZB];omega
 | t ::r,d,l,h=> by
  simp only [ZB]
  split
  .omega
  .have s:=YK t d l
   have u:=Z0L r d (ZD t d l) s.1
   omega
end
theorem Zfr{ks:List Tree}{i:Nat}{d l:Int}(h:i < ks.length)(hl:0<=l):ZB (ks.drop i) d l=ZB (ks.drop (i+1)) d (ZD (ks.getD i Tree.nil) d l):=by
 rw [QH h]
 simp only [ZB]
 grind
theorem c50:Contract Tryz.prog cfg 50 Z4X:=by
 refine ZC1 ?_
 rintro N ⟨k,h,ks⟩ d l _ ⟨u,h1,h2,h3,h4⟩ hN
 simp only [Z2t,Zql,Zh] at*
 refine ZI3 N _ _ _ _ ?_;(try simp only [iB,vcT,forall_eq])
 (simp only [iB,vcS]);(try simp only [iB,vcT])
 try (simp only [vE])
 refine ⟨V4,V4,fun hc=> ?_,fun hc=> ?_⟩
 .have e:ZD (.mk k h ks) d l= -1:=by
   simp only [ZD]
   omega
  simp only [Zjb,e]
  exact ⟨⟨rfl,⟨⟨rfl,rfl⟩,trivial⟩,trivial⟩,trivial⟩
 .have e:ZD (.mk k h ks) d l=ZB ks (d - 1) (l - 1 - h.length):=by
   simp only [ZD]
   omega
  simp only [Zjb,e]
  refine Z4 (ι:=Int × Int) (fun p=> Z9G (.mk k h ks) d l p.1 p.2) (fun p=> 0<=p.2/\p.2<=ks.length/\-1<=p.1/\p.1<=l/\ZB (ks.drop p.2.toNat) (d - 1) p.1=ZB ks (d - 1) (l - 1 - h.length)) (fun p=> ((ks.length:Int) - p.2).toNat) (l - 1 - h.length,0) rfl ⟨V0,V0,V0,V0,by simp⟩ ?_
  rintro ⟨l',i⟩ ⟨h5,h6,h7,h8,h9⟩
  dsimp only at*
  refine Zwz N _ _ _ _ _ _ _ ?_;(try simp only [iB,vcT,forall_eq])
  (simp only [iB,vcS]);(try simp only [iB,vcT])
  try (simp only [vE])
  refine ⟨fun hc=> ?_,fun hc=> ?_⟩
  .have s:i.toNat < ks.length:=V0
   have hr:=YK (ks.getD i.toNat Tree.nil) (d - 1) l'
   have hn:=Z01 s
   have hd:=Zfr (d:=d - 1) s hc.2
   refine ⟨V0,V4,⟨ZdB u.2.2 s,by grind,by grind,V0,by grind⟩,by simp only [Zql];omega,V4,⟨(ZD (ks.getD i.toNat Tree.nil) (d - 1) l',i+1),rfl,⟨V0,V0,V0,V0,?_⟩,V0⟩⟩
   grind
  .have e:ZB ks (d - 1) (l - 1 - h.length)=l':=by
    rw [<-h9]
    by_cases s:i < ks.length
    .rw [QH V0]
     simp only [ZB]
     omega
    .rw [QA V0]
     try rfl
   rw [e]
   trivial
theorem c22:Contract Tryz.prog cfg 22 Z52:=by
 refine ZCk c50 ?_
 intro t _ d
 refine ZIr _ _ ?_;(try simp only [iB,vcT,forall_eq])
 try (simp only [vE])
 refine ⟨⟨d,by grind,by grind,by grind,by grind⟩,?_⟩
 trivial
theorem c64:Contract Tryz.prog cfg 64 Zdh:=by
 refine ZBV ?_
 intro l _ d
 refine ZHU _ _ ?_;(try simp only [iB,vcT,forall_eq])
 simp only [Zjt] at d
 refine ⟨fun h=> ?_,⟨by simp only [Qj];omega,?_⟩⟩
 .subst h
  exact ⟨⟨rfl,⟨rfl,trivial⟩,trivial⟩,trivial⟩
 .exact ⟨⟨rfl,⟨⟨rfl,trivial⟩,trivial⟩,trivial⟩,trivial⟩
theorem ZcI{a b:List Int}{i:Int}(hi:0<=i)(ha:i < a.length)(hb:i < b.length):(a.drop i.toNat=b.drop i.toNat)↔(a.getD i.toNat 0=b.getD i.toNat 0/\a.drop (i+1).toNat=b.drop (i+1).toNat):=by
 have e:(i+1).toNat=i.toNat+1:=V0
 rw [QH V0,QH (l:=b) V0,e]
 simp only [List.cons.injEq,List.getD,Q2 (show i.toNat < a.length by omega),Q2 (show i.toNat < b.length by omega),Xb]
theorem c26:Contract Tryz.prog cfg 26 Zds:=by
 refine ZCi ?_
 intro a b _ hp
 simp only [Zgi] at hp
 refine ZIp _ _ _ ?_;(try simp only [iB,vcT,forall_eq])
 (simp only [iB,vcS]);(try simp only [iB,vcT])
 refine ⟨fun hc=> ?_,fun hc=> ?_⟩
 .have e:decide (a=b)=false:=by
   simp only [decide_eq_false_iff_not]
   rintro rfl
   omega
  simp only [Zjd,e]
  exact ⟨⟨rfl,⟨rfl,trivial⟩,trivial⟩,trivial⟩
 .have hl:a.length=b.length:=V0
  refine Z4 (ι:=Int) (fun p=> Za3 a b p) (fun p=> 0<=p/\p<=a.length/\(a=b↔a.drop p.toNat=b.drop p.toNat)) (fun p=> ((a.length:Int) - p).toNat) 0 rfl ⟨V0,V0,by simp⟩ ?_
  rintro i ⟨s,h2,d⟩
  refine ZwX _ _ _ _ _ ?_;(try simp only [iB,vcT,forall_eq])
  (simp only [iB,vcS]);(try simp only [iB,vcT])
  refine ⟨fun hc=> ⟨V0,V0,fun hn=> ?_,fun u=> ⟨V4,i+1,rfl,⟨V0,V0,?_⟩,V0⟩⟩,fun hc=> ?_⟩
  .have e:decide (a=b)=false:=by
    simp only [decide_eq_false_iff_not,d]
    rw [ZcI s hc V0]
    exact fun h=> hn h.1
   simp only [Zjd,e]
   exact ⟨⟨rfl,⟨rfl,trivial⟩,trivial⟩,trivial⟩
  .rw [d,ZcI s hc V0]
   exact ⟨fun h=> h.2,fun h=> ⟨by simpa using u,h⟩⟩
  .have e:decide (a=b)=true:=by
    simp only [decide_eq_true_eq,d]
    rw [QA V0,QA V0]
   simp only [Zjd,e]
   exact ⟨⟨rfl,⟨rfl,trivial⟩,trivial⟩,trivial⟩
theorem c81:Contract Tryz.prog cfg 81 Z1F:=by
 refine ZBN ?_
 intro t i _ d
 refine ZHF _ _ _ ?_;(try simp only [iB,vcT,forall_eq])
 (simp only [iB,vcS]);(try simp only [iB,vcT])
 (repeat (refine And.intro (by first | omega | (unfold InR;omega) | (dsimp only;omega)) ?_))
 refine ⟨fun hc=> ?_,fun hc=> ⟨V0,?_⟩⟩
 .have e:Zw t i=0:=by
   unfold Zw
   split
   .try rfl
   .grind
  simp only [Znt,e]
  exact ⟨⟨rfl,⟨⟨rfl,rfl⟩,trivial⟩,trivial⟩,trivial⟩
 .have e:Zw t i=t.words.getD i.toNat 0:=by
   unfold Zw
   omega
  simp only [Znt,e]
  exact ⟨⟨rfl,⟨⟨rfl,rfl⟩,trivial⟩,trivial⟩,trivial⟩
theorem c45:Contract Tryz.prog cfg 45 Z0v:=by
 refine ZC6 ?_
 intro t i _ d
 refine ZI8 _ _ _ ?_;(try simp only [iB,vcT,forall_eq])
 (simp only [iB,vcS]);(try simp only [iB,vcT])
 (repeat (refine And.intro (by first | omega | (unfold InR;omega) | (dsimp only;omega)) ?_))
 refine ⟨fun hc=> ?_,fun hc=> ⟨V0,?_⟩⟩
 .have e:ZI t i=Tree.nil:=by
   unfold ZI
   split
   .try rfl
   .grind
  simp only [ZnC,e]
  exact ⟨⟨rfl,⟨⟨rfl,rfl⟩,⟨rfl,⟨rfl,trivial⟩⟩⟩,trivial⟩,trivial⟩
 .have e:ZI t i=t.kids.getD i.toNat Tree.nil:=by
   unfold ZI
   grind
  simp only [ZnC,e]
  exact ⟨⟨rfl,⟨⟨rfl,rfl⟩,⟨rfl,trivial⟩,⟨rfl,trivial⟩,trivial⟩,trivial⟩,trivial⟩
theorem c80:Contract Tryz.prog cfg 80 Zds:=by
 refine ZBO ?_
 intro a b _ hp
 simp only [Zgi] at hp
 refine ZHG _ _ _ ?_;(try simp only [iB,vcT,forall_eq])
 (simp only [iB,vcS]);(try simp only [iB,vcT])
 refine ⟨fun hc=> ?_,fun hc=> ?_⟩
 .have e:decide (a=b)=false:=by
   simp only [decide_eq_false_iff_not]
   rintro rfl
   omega
  simp only [Zjd,e]
  exact ⟨⟨rfl,⟨rfl,trivial⟩,trivial⟩,trivial⟩
 .have hl:a.length=b.length:=V0
  refine Z4 (ι:=Int) (fun p=> Z9q a b p) (fun p=> 0<=p/\p<=a.length/\(a=b↔a.drop p.toNat=b.drop p.toNat)) (fun p=> ((a.length:Int) - p).toNat) 0 rfl ⟨V0,V0,by simp⟩ ?_
  rintro i ⟨s,h2,d⟩
  refine Zwa _ _ _ _ _ ?_;(try simp only [iB,vcT,forall_eq])
  (simp only [iB,vcS]);(try simp only [iB,vcT])
  refine ⟨fun hc=> ⟨V0,V0,fun hn=> ?_,fun u=> ⟨V4,i+1,rfl,⟨V0,V0,?_⟩,V0⟩⟩,fun hc=> ?_⟩
  .have e:decide (a=b)=false:=by
    simp only [decide_eq_false_iff_not,d]
    rw [ZcI s hc V0]
    exact fun h=> hn h.1
   simp only [Zjd,e]
   exact ⟨⟨rfl,⟨rfl,trivial⟩,trivial⟩,trivial⟩
  .rw [d,ZcI s hc V0]
   exact ⟨fun h=> h.2,fun h=> ⟨by simpa using u,h⟩⟩
  .have e:decide (a=b)=true:=by
    simp only [decide_eq_true_eq,d]
    rw [QA V0,QA V0]
   simp only [Zjd,e]
   exact ⟨⟨rfl,⟨rfl,trivial⟩,trivial⟩,trivial⟩
theorem Zkx{a b:List Tree}{i:Int}(hi:0<=i)(ha:i < a.length)(hb:i < b.length):(a.drop i.toNat=b.drop i.toNat)↔(a.getD i.toNat Tree.nil=b.getD i.toNat Tree.nil/\a.drop (i+1).toNat=b.drop (i+1).toNat):=by
 have e:(i+1).toNat=i.toNat+1:=V0
 rw [QH V0,QH (l:=b) V0,e]
 simp only [List.cons.injEq,List.getD,Q2 (show i.toNat < a.length by omega),Q2 (show i.toNat < b.length by omega),Xb]
theorem Yh{a b:Tree}:Yd a b=true↔a=b:=by simp [Yd]
theorem Yy{a b:Tree}:Yd a b=false↔¬a=b:=by simp [Yd]
theorem Zs:∀ (ks:List Tree),ks.length<=Ze ks
 | []=> by simp [Ze]
 | t ::r=> by
  have:=Zs r
  have:1<=Zh t:=by cases t;simp only [Zh];omega
  simp only [Ze,Qe]
  omega
theorem c11:Contract Tryz.prog cfg 11 JL:=by
 refine ZCu c26 ?_
 rintro N ⟨k,s,ks⟩ ⟨k',u,d⟩ _ hp hN
 have aj:=Zs ks
 simp only [Z1y,Zqp,Zh] at hp hN
 refine ZIB N _ _ _ ?_;(try simp only [iB,vcT,forall_eq])
 (simp only [iB,vcS]);(try simp only [iB,vcT])
 try (simp only [vE])
 have ab:Zgi (s,u,()):=by simp only [Zgi];omega
 refine ⟨fun _=> ab,fun hc=> ?_,fun hc=> ?_⟩
 .have e:Yd (.mk k s ks) (.mk k' u d)=false:=by
   rw [Yy]
   intro h
   cases h
   simp at hc
  simp only [Zgb,e]
  exact ⟨⟨rfl,⟨rfl,trivial⟩,trivial⟩,trivial⟩
 .have aa:(k=k'/\s=u)/\ks.length=d.length:=⟨hc.1,V0⟩
  obtain ⟨⟨rfl,rfl⟩,hl⟩:=aa
  refine Z4 (ι:=Int) (fun p=> Zad (.mk k s ks) (.mk k s d) p) (fun p=> 0<=p/\p<=ks.length/\(Tree.mk k s ks= .mk k s d↔ks.drop p.toNat=d.drop p.toNat)) (fun p=> ((ks.length:Int) - p).toNat) 0 rfl ⟨V0,V0,by simp⟩ ?_
  rintro i ⟨h1,h2,h3⟩
  refine Zx7 N _ _ _ _ _ ?_;(try simp only [iB,vcT,forall_eq])
  (simp only [iB,vcS]);(try simp only [iB,vcT])
  try (simp only [vE])
  refine ⟨fun hc=> ⟨V0,V0,?_,?_,fun hn=> ?_,fun he=> ⟨V4,i+1,rfl,⟨V0,V0,?_⟩,V0⟩⟩,fun hc=> ?_⟩
  .have:=Z01 (ks:=ks) (i:=i.toNat) V0
   simp only [Z1y]
   omega
  .have:=Z01 (ks:=ks) (i:=i.toNat) V0
   simp only [Zqp]
   omega
  .have e:Yd (.mk k s ks) (.mk k s d)=false:=by
    rw [Yy,h3,Zkx h1 hc V0]
    rw [Yy] at hn
    exact fun h=> hn h.1
   simp only [Zgb,e]
   exact ⟨⟨rfl,⟨rfl,trivial⟩,trivial⟩,trivial⟩
  .rw [h3,Zkx h1 hc V0]
   exact ⟨fun h=> h.2,fun h=> ⟨Yh.1 he,h⟩⟩
  .have e:Yd (.mk k s ks) (.mk k s d)=true:=by
    rw [Yh,h3]
    rw [QA V0,QA V0]
   simp only [Zgb,e]
   exact ⟨⟨rfl,⟨rfl,trivial⟩,trivial⟩,trivial⟩
theorem Zar:∀ (l:List Int),trim (l++[0])=trim l
 | []=> rfl
 | x ::r=> by
  show (match trim (r++[0]) with | []=> if x=0 then [] else [x] | y ::s=> x ::y ::s)=_
  rw [Zar r]
  try rfl
theorem Zh3{x:Int}(hx:x≠0):∀ (l:List Int),trim (l++[x])=l++[x]
 | []=> by simp [trim,hx]
 | y ::r=> by
  show (match trim (r++[x]) with | []=> if y=0 then [] else [y] | z ::s=> y ::z ::s)=_
  rw [Zh3 hx r]
  cases r <;> rfl
theorem Zau{l:List Int}{i:Int}(h0:0 < i)(hi:i<=l.length):l.take i.toNat=l.take (i - 1).toNat++[l.getD (i - 1).toNat 0]:=by
 have e:i.toNat=(i - 1).toNat+1:=V0
 rw [e,XH]
 simp only [List.getD,Q2 (show (i - 1).toNat < l.length by omega),Option.toList,Xb]
theorem c65:Contract Tryz.prog cfg 65 Zdg:=by
 refine ZBU ?_
 intro l _ u
 simp only [Zjt] at u
 refine ZHT _ _ ?_;(try simp only [iB,vcT,forall_eq])
 refine Z4 (ι:=Int) (fun p=> Z9x l p) (fun p=> 0<=p/\p<=l.length/\trim (l.take p.toNat)=trim l) (fun p=> p.toNat) (l.length:Int) rfl ⟨V0,V0,by simp⟩ ?_
 rintro i ⟨h1,s,d⟩
 refine Zwn _ _ _ _ ?_;(try simp only [iB,vcT,forall_eq])
 (simp only [iB,vcS]);(try simp only [iB,vcT])
 refine ⟨fun h=> by unfold InR;omega,fun h=> by omega,fun hc=> ⟨V4,i - 1,rfl,⟨V0,V0,?_⟩,V0⟩,fun hc=> ⟨V0,?_,?_⟩⟩
 .rw [Zau hc.1 s,hc.2,Zar] at d
  exact d
 .simp only [Qj,Qm]
  omega
 .have e:trim l=[]++l.take i.toNat:=by
   rw [<-d]
   by_cases h0:0 < i
   .rw [Zau h0 s,Zh3 V0]
    try rfl
   .have:i.toNat=0:=V0
    rw [this]
    try rfl
  simp only [Zs2,e]
  exact ⟨⟨rfl,⟨⟨rfl,trivial⟩,trivial⟩,trivial⟩,trivial⟩
theorem ZiF:∀ (l:List Int),(trim l).length<=l.length
 | []=> by simp [trim]
 | x ::r=> by
  have:=ZiF r
  simp only [trim]
  grind
theorem ZcY:∀ (l:List Tree),Ze (Yf l)<=Ze l
 | []=> by simp [Yf]
 | x ::r=> by
  have:=ZcY r
  simp only [Yf]
  split
  .split
   .simp [Ze]
   .simp [Ze]
  .rename_i h
   rw [h] at this
   simp only [Ze] at*
   omega
mutual
theorem Yj:∀ (t:Tree),Zh (Z3 t)<=Zh t
 | .mk k w ks=> by
  have d:=Zey ks
  have s:=ZiF w
  have h:=ZcY (Yl ks)
  simp only [Z3]
  split
  .simp only [Tree.nil,Zh,Ze,Qj];omega
  .split
   .simp only [Zh];omega
   .simp only [Zh];omega
theorem Zey:∀ (ks:List Tree),Ze (Yl ks)<=Ze ks
 | []=> by simp [Yl]
 | t ::r=> by
  have d:=Yj t
  have h:=Zey r
  simp only [Yl,Ze]
  omega
end
theorem ZaR:∀ (l:List Tree) (x:Tree),Yl (l++[x])=Yl l++[Z3 x]
 | [],x=> rfl
 | y ::r,x=> by simp only [Qt,Yl,ZaR r x]
theorem Z1j:∀ (l:List Tree),(Yl l).length=l.length
 | []=> rfl
 | y ::r=> by simp only [Yl,Qe,Z1j r]
theorem Z7p{x:Tree}(hx:x.kind=0):∀ (l:List Tree),Yf (l++[x])=Yf l
 | []=> by simp [Yf,hx]
 | y ::r=> by
  show (match Yf (r++[x]) with | []=> if y.kind=0 then [] else [y] | z ::s=> y ::z ::s)=_
  rw [Z7p hx r]
  try rfl
theorem ZcX{x:Tree}(hx:x.kind≠0):∀ (l:List Tree),Yf (l++[x])=l++[x]
 | []=> by simp [Yf,hx]
 | y ::r=> by
  show (match Yf (r++[x]) with | []=> if y.kind=0 then [] else [y] | z ::s=> y ::z ::s)=_
  rw [ZcX hx r]
  cases r <;> rfl
theorem Z7q{l:List Tree}{i:Int}(h0:0<=i)(hi:i < l.length):l.take (i+1).toNat=l.take i.toNat++[l.getD i.toNat Tree.nil]:=by
 have e:(i+1).toNat=i.toNat+1:=V0
 simp_all
theorem c34:Contract Tryz.prog cfg 34 Jr:=by
 refine ZCb c65 ?_
 rintro N ⟨k,u,ks⟩ _ hp hN
 have ai:=Zs ks
 simp only [Jv,Zqn,Zh] at hp hN
 refine ZIh N _ _ ?_;(try simp only [iB,vcT,forall_eq])
 (simp only [iB,vcS]);(try simp only [iB,vcT])
 try (simp only [vE])
 refine ⟨fun hc=> ?_,fun af=> ?_⟩
 .have e:Z3 (.mk k u ks)=Tree.nil:=by simp [Z3,hc]
  simp only [Zg9,e]
  exact ⟨⟨rfl,⟨⟨rfl,rfl⟩,⟨rfl,⟨rfl,trivial⟩⟩⟩,trivial⟩,trivial⟩
 .refine Z4 (ι:=Int × Int × List Tree) (fun p=> Z5I (.mk k u ks) p.1 p.2.1 p.2.2) (fun p=> 0<=p.2.1/\p.2.1<=ks.length/\0<=p.1/\p.1<=p.2.1/\p.2.2=Yl (ks.take p.2.1.toNat)/\Yf (Yl (ks.take p.2.1.toNat))=p.2.2.take p.1.toNat) (fun p=> ((ks.length:Int) - p.2.1).toNat) (0,0,[]) rfl ⟨by grind,by grind,V0,by grind,rfl,rfl⟩ ?_
  rintro ⟨h,i,l⟩ ⟨h1,h2,h3,h4,s,h6⟩
  dsimp only at*
  have hl:l.length=i.toNat:=by rw [s,Z1j,Qm];omega
  refine ZwO N _ _ _ _ _ _ ?_;(try simp only [iB,vcT,forall_eq])
  (simp only [iB,vcS]);(try simp only [iB,vcT])
  try (simp only [vE])
  refine ⟨fun hc=> ?_,fun hc=> ⟨fun h1=> ⟨?_,V0,?_⟩,fun hk=> ⟨?_,?_⟩⟩⟩
  .have hm:=Z01 (ks:=ks) (i:=i.toNat) V0
   have d:Yl (ks.take (i+1).toNat)=l++[Z3 (ks.getD i.toNat Tree.nil)]:=by rw [Z7q h1 hc,ZaR,s]
   refine ⟨V0,by simp only [Jv];omega,by simp only [Zqn];omega,by simp only [Qe,Qj];omega,fun hk=> ⟨V4,V4,(i+1,i+1,_),rfl,⟨by grind,by grind,V0,by grind,d.symm,?_⟩,by grind⟩,fun hk=> ⟨V4,(h,i+1,_),rfl,⟨by grind,by grind,V0,by grind,d.symm,?_⟩,by grind⟩⟩
   .dsimp only
    rw [d,ZcX hk,Qw (by simp;omega)]
   .dsimp only
    rw [d,Z7p hk,List.take_append_of_le_length V0,<-h6,s]
  .simp only [Zjt];omega
  .have hi:ks.take i.toNat=ks:=Qw V0
   rw [hi] at s h6
   have e:Z3 (.mk k u ks)= .mk 1 (trim u) (l.take h.toNat):=by
    subst h1
    simp only [Z3,<-h6]
    try rfl
   simp only [Zg9,e]
   exact ⟨⟨rfl,⟨⟨rfl,rfl⟩,⟨rfl,trivial⟩,⟨rfl,trivial⟩,trivial⟩,trivial⟩,trivial⟩
  .grind
  .have hi:ks.take i.toNat=ks:=Qw V0
   rw [hi] at s
   have e:Z3 (.mk k u ks)= .mk k ([]++u) l:=by
    simp only [Z3,if_neg af,if_neg hk,s]
    try rfl
   simp only [Zg9,e]
   exact ⟨⟨rfl,⟨⟨rfl,rfl⟩,⟨rfl,trivial⟩,⟨rfl,trivial⟩,trivial⟩,trivial⟩,trivial⟩
theorem c25:Contract Tryz.prog cfg 25 YX:=by
 refine ZCj c34 c11 ?_
 intro a b _ d
 have h:=Yj a
 simp only [Z39] at d
 refine ZIq _ _ _ ?_;(try simp only [iB,vcT,forall_eq])
 try (simp only [vE])
 refine ⟨d.1,d.2,?_,?_⟩
 .simp only [Z1y];omega
 trivial
theorem Zok{l:List Int}(h0:0 < (l.length:Int)):l=l.take ((l.length:Int) - 1).toNat++[l.getD ((l.length:Int) - 1).toNat 0]:=by
 have:=Zau h0 (Xq _)
 rw [Qw V0] at this
 exact this
theorem Zkf{l:List Tree}(h0:0 < (l.length:Int)):l=l.take ((l.length:Int) - 1).toNat++[l.getD ((l.length:Int) - 1).toNat Tree.nil]:=by
 have:=Z7q (l:=l) (i:=(l.length:Int) - 1) V0 V0
 rw [Qw V0] at this
 exact this
theorem ZpK{l:List Int}(h0:0 < (l.length:Int))(hz:l.getD ((l.length:Int) - 1).toNat 0=0):trim (l.take ((l.length:Int) - 1).toNat)=trim l:=by
 have e:=Zar (l.take ((l.length:Int) - 1).toNat)
 have h:=Zok h0
 grind
theorem ZpM{l:List Int}(h:¬0 < (l.length:Int)\/¬l.getD ((l.length:Int) - 1).toNat 0=0):trim l=l:=by
 by_cases h0:0 < (l.length:Int)
 .have e:=Zh3 (x:=l.getD ((l.length:Int) - 1).toNat 0) V0 (l.take ((l.length:Int) - 1).toNat)
  rw [<-Zok h0] at e
  exact e
 .have:l=[]:=Q3 V0
  subst this
  try rfl
theorem ZkT{l:List Tree}(h0:0 < (l.length:Int))(hz:(l.getD ((l.length:Int) - 1).toNat Tree.nil).kind=0):Yf (l.take ((l.length:Int) - 1).toNat)=Yf l:=by
 have e:=Z7p hz (l.take ((l.length:Int) - 1).toNat)
 rw [<-Zkf h0] at e
 exact e.symm
theorem ZkV{l:List Tree}(h:¬0 < (l.length:Int)\/¬(l.getD ((l.length:Int) - 1).toNat Tree.nil).kind=0):Yf l=l:=by
 by_cases h0:0 < (l.length:Int)
 .have e:=ZcX (x:=l.getD ((l.length:Int) - 1).toNat Tree.nil) V0 (l.take ((l.length:Int) - 1).toNat)
  rw [<-Zkf h0] at e
  exact e
 .have:l=[]:=Q3 V0
  subst this
  try rfl
theorem c33:Contract Tryz.prog cfg 33 Jr:=by
 refine ZCc c64 ?_
 rintro N ⟨k,ws,ks⟩ _ hp hN
 have af:=Zs ks
 simp only [Jv,Zqn,Zh] at hp hN
 refine ZIi N _ _ ?_;(try simp only [iB,vcT,forall_eq])
 (simp only [iB,vcS]);(try simp only [iB,vcT])
 try (simp only [vE])
 refine ⟨fun hc=> ?_,fun ab=> ⟨by simp only [Zjt];omega,?_⟩⟩
 .have e:Z3 (.mk k ws ks)=Tree.nil:=by simp [Z3,hc]
  simp only [Zg9,e]
  exact ⟨⟨rfl,⟨⟨rfl,rfl⟩,⟨rfl,⟨rfl,trivial⟩⟩⟩,trivial⟩,trivial⟩
 .refine Z4 (ι:=Int × List Tree) (fun p=> Z9X (.mk k ws ks) p.1 p.2) (fun p=> 0<=p.1/\p.1<=ks.length/\p.2=Yl (ks.take p.1.toNat)) (fun p=> ((ks.length:Int) - p.1).toNat) (0,[]) rfl ⟨V0,V0,rfl⟩ ?_
  rintro ⟨i,l⟩ ⟨h1,h2,d⟩
  dsimp only at*
  have hl:l.length=i.toNat:=by rw [d,Z1j,Qm];omega
  refine ZwR N _ _ _ _ _ ?_;(try simp only [iB,vcT,forall_eq])
  (simp only [iB,vcS]);(try simp only [iB,vcT])
  try (simp only [vE])
  refine ⟨fun hc=> ?_,fun hc=> ⟨fun u=> ?_,fun u=> ?_⟩⟩
  .have hm:=Z01 (ks:=ks) (i:=i.toNat) V0
   have s:Yl (ks.take (i+1).toNat)=l++[Z3 (ks.getD i.toNat Tree.nil)]:=by rw [Z7q h1 hc,ZaR,d]
   exact ⟨V0,by simp only [Jv];omega,by simp only [Zqn];omega,by simp only [Qe,Qj];omega,V4,(i+1,_),rfl,⟨V0,V0,s.symm⟩,V0⟩
  .have hi:ks.take i.toNat=ks:=Qw V0
   rw [hi] at d
   refine Z4 (ι:=List Int) (fun p=> Z9W (.mk k ws ks) l p) (fun p=> p.length<=ws.length/\trim p=trim ws) (fun p=> p.length) ws rfl ⟨V0,rfl⟩ ?_
   rintro w ⟨h6,h7⟩
   refine ZwQ N _ _ _ _ _ ?_;(try simp only [iB,vcT,forall_eq])
   (simp only [iB,vcS]);(try simp only [iB,vcT])
   refine ⟨fun h=> by unfold InR;omega,fun h=> by omega,fun hc=> ⟨V4,V0,_,rfl,⟨by rw [List.length_take];omega,?_⟩,by rw [List.length_take];omega⟩,fun hc=> ?_⟩
   .rw [ZpK hc.1 hc.2,h7]
   .have hw:w=trim ws:=by rw [<-h7,ZpM hc]
    refine Z4 (ι:=List Tree) (fun p=> Z9V (.mk k ws ks) w p) (fun p=> p.length<=l.length/\Yf p=Yf l) (fun p=> p.length) l rfl ⟨V0,rfl⟩ ?_
    rintro q ⟨h8,h9⟩
    refine ZwP N _ _ _ _ _ ?_;(try simp only [iB,vcT,forall_eq])
    (simp only [iB,vcS]);(try simp only [iB,vcT])
    refine ⟨fun h=> by unfold InR;omega,fun h=> by omega,fun hc=> ⟨V4,V0,_,rfl,⟨by rw [List.length_take];omega,?_⟩,by rw [List.length_take];omega⟩,fun hc=> ?_⟩
    .rw [ZkT hc.1 hc.2,h9]
    .have hq:q=Yf (Yl ks):=by rw [<-d,<-h9,ZkV hc]
     have e:Z3 (.mk k ws ks)= .mk k w q:=by
      subst u
      simp only [Z3,hw,hq]
      try rfl
     simp only [Zg9,e]
     trivial
  .have hi:ks.take i.toNat=ks:=Qw V0
   rw [hi] at d
   have e:Z3 (.mk k ws ks)= .mk k ws l:=by simp only [Z3,if_neg ab,if_neg u,d]
   simp only [Zg9,e]
   trivial
noncomputable section
def Zve:ArgL (Int × Unit):=(.cons (Yc .i64) .nil)
def ZsR(a:Int × Unit):Prop:=True
def ZA9(a:Int × Unit):V U:= .c (ci (wd a.1))
def Zd6:Fs U:=fs Zve (fun a=> [ZsR a]) ZA9
def Zvr:ArgL (Int × Int × Unit):=(.cons (Yc .i64) (.cons (Yc .u64) .nil))
def ZnW(a:Int × Int × Unit):Prop:=0<=a.2.1/\a.2.1 < 18446744073709551616
def ZAf(a:Int × Int × Unit):V U:= .c (.bool (Zi4 a.1 a.2.1))
def Zdl:Fs U:=fs Zvr (fun a=> [ZnW a]) ZAf
def Zl9(a:Int × Unit):V U:= .tup [(false,[ci (if wd a.1 < 0 then 0 else wd a.1)]),(false,[.bool (decide (0<=wd a.1))])]
def Z8l:Fs U:=fs Zve (fun a=> [ZsR a]) Zl9
def ZA6(a:Int × Unit):V U:= .c (.bool (decide (2<=a.1/\a.1<=9)))
def Z3n:Fs U:=fs Zve (fun a=> [ZsR a]) ZA6
def Zsx(a:Int × Unit):V U:= .c (.bool (decide (2<=a.1/\a.1<=7)))
def Z30:Fs U:=fs Zve (fun a=> [ZsR a]) Zsx
def Zva:ArgL (Int × Tree × Unit):=(.cons (Yc .i64) (.cons (aEl .tree) .nil))
def ZnS(a:Int × Tree × Unit):Prop:=rng a.2.1
def ZA5(a:Int × Tree × Unit):V U:= .c (.bool (Z0n a.1 a.2.1))
def Zd5:Fs U:=fs Zva (fun a=> [ZnS a]) ZA5
def ZbI(a:Tree × Int × Unit):Prop:=Zh a.1<=20000000000/\rng a.1/\0<=a.2.1/\a.2.1<=1000
def ZjT(a:Tree × Int × Unit):Nat:=Zh a.1
def Znz(a:Tree × Int × Unit):V U:= .c (.bool (Za a.1 a.2.1))
def Zdj:Fs U:=fs Zvf (fun a=> [ZbI a]) Znz
def Zgh(a:Tree × Unit):Prop:=Zh a.1<=20000000000/\rng a.1
def ZAi(a:Tree × Unit):V U:= .c (.bool (Za a.1 64))
def Z2r:Fs U:=fs ZvE (fun a=> [Zgh a]) ZAi
def ZCB:Zg U:=lvl [([0],[]),([3],[]),([3,4],[]),([2],[]),([3,6],[]),([2],[]),([3,8],[]),([2],[]),([3,10],[]),([2],[]),([3,12],[]),([2],[]),([14],[]),([2],[]),([2],[])]
abbrev A83(p:List Nat):=AW (Z2 Zmg) Tryz.f83 ZCB p
theorem ZHD(c:Int)(Q:QT)(h:(iB (c==0) ((Q .ret (L2 [pI 2 0] []))) ((iB (c==1) ((Q .ret (L2 [pI 2 1] []))) ((iB (c==2) ((Q .ret (L2 [pI 2 8] []))) ((iB (c==3) ((Q .ret (L2 [pI 2 16] []))) ((iB (c==4) ((Q .ret (L2 [pI 2 32] []))) ((iB (c==5) ((Q .ret (L2 [pI 2 64] []))) ((Q .ret (L2 [pI 2 (-1)] []))))))))))))))):
  A83 [] (L2 [pI 0 c] []) Q:=
 Eq.mpr V5 h
def ZEn(c:Int):Prop:=AW (Z2 Zmg) Tryz.f83 ZCB [] (Zi (Zve.can (c,())) []) (EQ Tryz.f83 (ZA9 (c,())) [])
theorem ZBL(hb:∀ (c:Int) (_:Unit),ZsR (c,())->ZEn c):CT 83 Zd6:=
 Z1 (l:=[]) Zk rfl trivial ZCB Tryz.func83 rfl rfl 1 (fun _=> rfl) V2 (fun ⟨c,_⟩=> hb c ())
def Zm7:List (FuncId × Fs U):=[(83,Zd6)]
def Zyi:Zg U:=lvl [([0,1],[]),([1,5],[]),([1,5,10],[]),([4],[]),([1,5,6],[]),([1,5,6,13],[]),([1,5,6],[]),([1,5,6],[]),([4],[])]
def Z9H(c n h d:Int):LSt U:=(L2 [(1,.c (.int .u64 h)),pI 5 (wd c),pI 6 d] [])
abbrev A49(p:List Nat):=AW (Z2 Zm7) Tryz.f49 Zyi p
abbrev S49(p:List Nat):=SW (Z2 Zm7) Tryz.f49 Zyi p
theorem ZI4(c n:Int)(Q:QT)(h:((ZsR (c,()))/\(iB (decide (((wd c):Int) < 0)) ((Q .ret (L2 [pB 4 false] []))) ((Zl (A49 [1,1,1,0,1,0,0]) (Z9H c n n 0) (xB 0 (S49 [1,1,1,1] Q))))))):
  A49 [] (L2 [pI 0 c,(1,.c (.int .u64 n))] []) Q:=
 Eq.mpr V5 h
theorem ZwA(c n s d:Int)(N0:NT)(Q:QT)(h:(iB (decide (d < (wd c))) (((2:Int)≠0)/\((InR (d+1))/\(N0 (Z9H c n (IntKind.wrap .u64 (Int.tdiv s 2)) (d+1))))) ((Q .ret (L2 [pB 4 (s==0)] []))))):
  A49 [1,1,1,0,1,0,0] (Z9H c n s d) (xT N0 (xB 0 (S49 [1,1,1,1] Q))):=
 Eq.mpr V5 h
def ZEO(c n:Int):Prop:=AW (Z2 Zm7) Tryz.f49 Zyi [] (Zi (Zvr.can (c,n,())) []) (EQ Tryz.f49 (ZAf (c,n,())) [])
theorem ZC2(c83:CT 83 Zd6)(hb:∀ (c:Int) (n:Int) (_:Unit),ZnW (c,n,())->ZEO c n):CT 49 Zdl:=
 Z1 (l:=[(83,Zd6)]) Zk rfl (⟨c83,trivial⟩) Zyi Tryz.func49 rfl rfl 2 (fun _=> rfl) V2 (fun ⟨c,n,_⟩=> hb c n ())
def ZtD:Zg U:=lvl [([0],[]),([0,4],[4]),([0,4,11],[4]),([2,3],[]),([2,3],[])]
abbrev ZJd(p:List Nat):=AW (Z2 Zmg) Tryz.f150 ZtD p
theorem ZFP(c:Int)(Q:QT)(h:((Tt (!(decide (c < 0))))/\((decide (c < 0))=false->(!(decide (c < 0)))=true)/\(iB (bif (decide (c < 0)) then true else (decide ((6:Int)<=c))) ((Q .ret (L2 [pI 2 0,pB 3 false] []))) (((0:Int)<=c/\c < ((6:Nat):Int))/\(Q .ret (L2 [pI 2 (List.getD [0,1,8,16,32,64] c.toNat 0),pB 3 true] [])))))):
  ZJd [] (L2 [pI 0 c] []) Q:=
 Eq.mpr V5 h
def Zzu(c:Int):Prop:=AW (Z2 Zmg) Tryz.f150 ZtD [] (Zi (Zve.can (c,())) []) (EQ Tryz.f150 (Zl9 (c,())) [])
theorem ZxL(hb:∀ (c:Int) (_:Unit),ZsR (c,())->Zzu c):CT 150 Z8l:=
 Z1 (l:=[]) Zk rfl trivial ZtD Tryz.func150 rfl rfl 1 (fun _=> rfl) V2 (fun ⟨c,_⟩=> hb c ())
def ZoG:List (FuncId × Fs U):=[(150,Z8l)]
def ZtK:Zg U:=lvl [([0,1],[]),([1,5,6],[]),([4],[])]
abbrev ZJh(p:List Nat):=AW (Z2 ZoG) Tryz.f134 ZtK p
theorem ZG0(c n:Int)(Q:QT)(h:let z2:=((if wd c < 0 then 0 else wd c):Int)==64;let z1:=decide (0<=wd c);let z0:=z1 && (!z2);((ZsR (c,()))/\((Tt z1)/\(Tt z1)/\(Tt z0)/\(Tt z0)/\(z0=true->(0:Int)<=(if wd c < 0 then 0 else wd c))/\(Tt z0)/\(z1=true->(True->z1=true))/\(z1=true->(z2=false->z0=true))/\(Tt z1)/\(Q .ret (L2 [(4,.c (.bool (bif z1 then (bif z2 then true else (((Int.fdiv n (2 ^ (min (Int.toNat (if wd c < 0 then 0 else wd c)) (IntKind.bits .u64)))):Int)==0)) else false)))] []))))):
  ZJh [] (L2 [pI 0 c,(1,.c (.int .u64 n))] []) Q:=
 Eq.mpr V5 h
def ZzF(c n:Int):Prop:=AW (Z2 ZoG) Tryz.f134 ZtK [] (Zi (Zvr.can (c,n,())) []) (EQ Tryz.f134 (ZAf (c,n,())) [])
theorem ZxT(ZDo:CT 150 Z8l)(hb:∀ (c:Int) (n:Int) (_:Unit),ZnW (c,n,())->ZzF c n):CT 134 Zdl:=
 Z1 (l:=[(150,Z8l)]) Zk rfl (⟨ZDo,trivial⟩) ZtK Tryz.func134 rfl rfl 2 (fun _=> rfl) V2 (fun ⟨c,n,_⟩=> hb c n ())
def ZCz:Zg U:=lvl [([0],[]),([2],[])]
abbrev A93(p:List Nat):=AW (Z2 Zmg) Tryz.f93 ZCz p
theorem ZHA(k:Int)(Q:QT)(h:let z0:=decide ((2:Int)<=k);((Tt z0)/\(Tt z0)/\(Q .ret (L2 [(2,.c (.bool (bif z0 then (decide (k<=9)) else false)))] [])))):
  A93 [] (L2 [pI 0 k] []) Q:=
 Eq.mpr V5 h
def ZEk(k:Int):Prop:=AW (Z2 Zmg) Tryz.f93 ZCz [] (Zi (Zve.can (k,())) []) (EQ Tryz.f93 (ZA6 (k,())) [])
theorem ZBI(hb:∀ (k:Int) (_:Unit),ZsR (k,())->ZEk k):CT 93 Z3n:=
 Z1 (l:=[]) Zk rfl trivial ZCz Tryz.func93 rfl rfl 1 (fun _=> rfl) V2 (fun ⟨k,_⟩=> hb k ())
abbrev ZJi(p:List Nat):=AW (Z2 Zmg) Tryz.f128 ZCz p
theorem ZG4(k:Int)(Q:QT)(h:let z0:=decide ((2:Int)<=k);((Tt z0)/\(Tt z0)/\(Q .ret (L2 [(2,.c (.bool (bif z0 then (decide (k<=7)) else false)))] [])))):
  ZJi [] (L2 [pI 0 k] []) Q:=
 Eq.mpr V5 h
def ZzJ(k:Int):Prop:=AW (Z2 Zmg) Tryz.f128 ZCz [] (Zi (Zve.can (k,())) []) (EQ Tryz.f128 (Zsx (k,())) [])
theorem ZxX(hb:∀ (k:Int) (_:Unit),ZsR (k,())->ZzJ k):CT 128 Z30:=
 Z1 (l:=[]) Zk rfl trivial ZCz Tryz.func128 rfl rfl 1 (fun _=> rfl) V2 (fun ⟨k,_⟩=> hb k ())
def Zu9:List (FuncId × Fs U):=[(128,Z30),(134,Zdl)]
def ZCy:Zg U:=lvl [([0,3],[3]),([0,3,5],[3]),([4],[]),([3,32],[3]),([4],[]),([4],[])]
abbrev A94(p:List Nat):=AW (Z2 Zu9) Tryz.f94 ZCy p
theorem ZHz(l:Int)(t:Tree)(Q:QT)(h:let z2:=List.getD t.words (Int.toNat 0) (0:Int);let z1:=bif (t.kind==10) then (((t.kids.length:Int):Int)==0) else false;let z0:=bif z1 then (((t.words.length:Int):Int)==1) else false;((ZsR (l,()))/\(iB (decide (2<=l/\l<=7)) ((Tt (t.kind==10))/\(Tt (t.kind==10))/\(Tt (t.kind==10))/\(Tt (t.kind==10))/\(Tt z1)/\(Tt z1)/\(Tt z1)/\(Tt z1)/\(Tt z0)/\(z0=true->InR (l - 2))/\(Tt z0)/\(Tt z0)/\(z0=true->(0:Int)<=0/\0 < (t.words.length:Int))/\(Tt z0)/\(Tt z0)/\(Tt z0)/\(z0=true->ZnW ((l - 2),z2,()))/\(Tt z0)/\(Q .ret (L2 [(4,.c (.bool (bif z0 then (Zi4 (l - 2) z2) else false)))] []))) ((iB (l==9) ((Q .ret (L2 [pB 4 (t.kind==1)] []))) ((Q .ret (L2 [pB 4 (t.kind !=10)] [])))))))):
  A94 [] (L2 [pI 0 l,(1,.agg (enc .tree t))] []) Q:=
 Eq.mpr V5 h
def ZEj(l:Int)(t:Tree):Prop:=AW (Z2 Zu9) Tryz.f94 ZCy [] (Zi (Zva.can (l,t,())) []) (EQ Tryz.f94 (ZA5 (l,t,())) [])
theorem ZBH(ZqX:CT 128 Z30)(ZDv:CT 134 Zdl)(hb:∀ (l:Int) (t:Tree) (_:Unit),ZnS (l,t,())->ZEj l t):CT 94 Zd5:=
 Z1 (l:=[(128,Z30),(134,Zdl)]) Zk rfl (⟨ZqX,ZDv,trivial⟩) ZCy Tryz.func94 rfl rfl 2 (fun _=> rfl) V2 (fun ⟨l,t,_⟩=> hb l t ())
def Z80(N:Nat):List (FuncId × Fs U):=(61,fs Zvf (fun a=> [ZbI a,ZjT a < N]) Znz) ::[(93,Z3n),(94,Zd5)]
def ZqA:Zg U:=lvl [([1,2],[2]),([1,2,8],[2]),([4],[]),([1,2,22],[2]),([4],[]),([1,2,36],[2]),([4],[]),([1,2,39],[2]),([1,2,52],[2]),([4],[]),([1,2,53],[2]),([4],[]),([1,2,71,72,73],[2]),([1,2,71,72,73,74],[2]),([1,2,6,71,72,73],[2,6]),([1,2,6,7,71,72,73],[2,6]),([1,2,6,7,71,72,73,82],[2,6]),([1,2,6,7,71,72,73],[2,6]),([1,2,71,72,73,95],[2]),([4],[]),([1,2,71,72,73],[2]),([4],[])]
def Z44(t:Tree)(d h:Int):LSt U:=(L2 [pI 1 d,pL 2,(71,.c (sU .tree t.kids .unk)),pI 72 (t.kids.length:Int),pI 73 h] [(.loc 2,(enc .tree t))])
abbrev A61(N:Nat)(p:List Nat):=AW (Z2 (Z80 N)) Tryz.f61 ZqA p
abbrev S61(N:Nat)(p:List Nat):=SW (Z2 (Z80 N)) Tryz.f61 ZqA p
theorem ZHX(N:Nat)(t:Tree)(d:Int)(Q:QT)(h:let z7:=((t.kids.length:Int):Int)==0;let z6:=(Q .ret (L2 [pB 4 false] []));let z5:=(Zl (A61 N [1,1,0,1,0,0]) (Z44 t d 0) (xB 1 (S61 N [1,1,1] Q)));let z4:=((t.words.length:Int):Int)==1;let z3:=((t.words.length:Int):Int)==0;let z2:= !(decide (2<=t.kind/\t.kind<=9));let z1:=decide ((65536:Int)<=(t.words.length:Int));let z0:=bif z2 then true else (decide ((0:Int) < (t.words.length:Int)));(iB (t.kind==0) ((Tt z3)/\(Tt z3)/\(Tt z3)/\(Tt z3)/\(Q .ret (L2 [(4,.c (.bool (bif z3 then z7 else false)))] []))) ((iB (t.kind==10) ((Tt z4)/\(Tt z4)/\(Tt z4)/\(Tt z4)/\(Q .ret (L2 [(4,.c (.bool (bif z4 then z7 else false)))] []))) ((iB (d==0) z6 ((iB (t.kind==1) ((Tt (!z1))/\(Tt (!z1))/\(Tt (!z1))/\(z1=false->(!z1)=true)/\(iB (bif z1 then true else (decide ((65536:Int)<=(t.kids.length:Int)))) z6 z5)) ((ZsR (t.kind,()))/\(Tt (!z2))/\(Tt (!z2))/\(Tt (!z2))/\(z2=false->(!z2)=true)/\(Tt (!z0))/\(Tt (!z0))/\(Tt (!z0))/\(z0=false->(!z0)=true)/\(iB (bif z0 then true else (decide ((1048576:Int)<=(t.kids.length:Int)))) z6 z5)))))))))):
  A61 N [] (L2 [(0,.agg (enc .tree t)),pI 1 d] []) Q:=
 Eq.mpr V5 h
theorem Zwo(N:Nat)(t:Tree)(d u:Int)(N0:NT)(Q:QT)(h:∀ aa,aa=(t.kids.getD u.toNat Tree.nil)->∀ s,s=aa->let z2:=(Q .ret (L2 [pB 4 false] []));let z1:= !(aa.kind !=10);let z0:= !(Z0n t.kind s);(iB (decide (u < (t.kids.length:Int))) (((0:Int)<=u/\u < (t.kids.length:Int))/\(iB (t.kind !=1) ((ZnS (t.kind,s,()))/\((Tt (!z0))/\((!z0)=true->InR (d - 1))/\(Tt (!z0))/\(Tt (!z0))/\((!z0)=true->ZbI (s,(d - 1),()))/\((!z0)=true->ZjT (s,(d - 1),()) < N)/\(Tt (!z0))/\(z0=false->(!z0)=true)/\(iB (bif z0 then true else (!(Za s (d - 1)))) z2 ((InR (u+1))/\(N0 (Z44 t d (u+1))))))) ((Tt (!z1))/\((!z1)=true->InR (d - 1))/\(Tt (!z1))/\(Tt (!z1))/\((!z1)=true->ZbI (s,(d - 1),()))/\((!z1)=true->ZjT (s,(d - 1),()) < N)/\(Tt (!z1))/\(z1=false->(!z1)=true)/\(iB (bif z1 then true else (!(Za s (d - 1)))) z2 ((InR (u+1))/\(N0 (Z44 t d (u+1)))))))) ((Q .ret (L2 [pB 4 true] []))))):
  A61 N [1,1,0,1,0,0] (Z44 t d u) (xT N0 (xB 1 (S61 N [1,1,1] Q))):=
 Eq.mpr V5 (h _ rfl _ (Z0 _))
def ZEH(N:Nat)(t:Tree)(d:Int):Prop:=AW (Z2 (Z80 N)) Tryz.f61 ZqA [] (Zi (Zvf.can (t,d,())) []) (EQ Tryz.f61 (Znz (t,d,())) [])
theorem ZBW(c93:CT 93 Z3n)(c94:CT 94 Zd5)(hb:∀ (N:Nat) (t:Tree) (d:Int) (_:Unit),ZbI (t,d,())->ZjT (t,d,()) < N+1->ZEH N t d):CT 61 Zdj:=
 Y8 (μ:=ZjT) (l:=[(93,Z3n),(94,Zd5)]) Zk rfl (⟨c93,c94,trivial⟩) ZqA Tryz.func61 rfl rfl 2 (fun _=> rfl) V2 (fun N ⟨t,d,_⟩=> hb N t d ())
def Zuv:List (FuncId × Fs U):=[(61,Zdj)]
abbrev A30(p:List Nat):=AW (Z2 Zuv) Tryz.f30 ZCY p
theorem ZIl(t:Tree)(Q:QT)(h:let z0:=Tree.mk t.kind t.words t.kids;((ZbI (z0,64,()))/\(Q .ret (L2 [pB 2 (Za z0 64)] [])))):
  A30 [] (L2 [(0,.agg (enc .tree t))] []) Q:=
 Eq.mpr V5 h
def ZF5(t:Tree):Prop:=AW (Z2 Zuv) Tryz.f30 ZCY [] (Zi (ZvE.can (t,())) []) (EQ Tryz.f30 (ZAi (t,())) [])
theorem ZCf(c61:CT 61 Zdj)(hb:∀ (t:Tree) (_:Unit),Zgh (t,())->ZF5 t):CT 30 Z2r:=
 Z1 (l:=[(61,Zdj)]) Zk rfl (⟨c61,trivial⟩) ZCY Tryz.func30 rfl rfl 1 (fun _=> rfl) V2 (fun ⟨t,_⟩=> hb t ())
def Zmi(N:Nat):List (FuncId × Fs U):=(20,fs Zvf (fun a=> [ZbI a,ZjT a < N]) Znz) ::[(49,Zdl)]
def Zyu:Zg U:=lvl [([1,2],[2]),([1,2,10],[2]),([4],[]),([1,2,23],[2]),([4],[]),([1,2,68],[2]),([4],[]),([1,2,77],[2]),([4],[]),([1,2,5],[2]),([1,2,5,82],[2]),([1,2,5],[2]),([1,2,5,6],[2,6]),([1,2,5,6,94],[2,6]),([4],[]),([1,2,5,6,7],[2,6]),([1,2,5,131],[2]),([4],[]),([4],[])]
def Za5(t:Tree)(d h:Int):LSt U:=(L2 [pI 1 d,pL 2,pI 5 h] [(.loc 2,(enc .tree t))])
abbrev A20(N:Nat)(p:List Nat):=AW (Z2 (Zmi N)) Tryz.f20 Zyu p
abbrev S20(N:Nat)(p:List Nat):=SW (Z2 (Zmi N)) Tryz.f20 Zyu p
theorem ZIt(N:Nat)(t:Tree)(d:Int)(Q:QT)(h:let z10:=(Q .ret (L2 [pB 4 false] []));let z9:=((t.kids.length:Int):Int)==0;let z7:=decide (t.kind < 0);let z6:=decide ((1:Int) < t.kind);let z5:=((t.words.length:Int):Int)==1;let z4:=((t.words.length:Int):Int)==0;let z1:=bif z7 then true else (decide ((10:Int) < t.kind));let z3:=bif z1 then true else (d==0);let z0:=bif z3 then true else (decide ((65536:Int)<=(t.words.length:Int)));let z8:=(!z0) && (t.kind==1);let z2:=bif z0 then true else (bif (t.kind==1) then (decide ((65536:Int)<=(t.kids.length:Int))) else false);(iB (t.kind==0) ((Tt z4)/\(Tt z4)/\(Tt z4)/\(Tt z4)/\(Q .ret (L2 [(4,.c (.bool (bif z4 then z9 else false)))] []))) ((iB (t.kind==10) ((Tt z5)/\(Tt z5)/\(Tt z5)/\(Tt z5)/\(Q .ret (L2 [(4,.c (.bool (bif z5 then z9 else false)))] []))) ((Tt (!z7))/\(Tt (!z7))/\(z7=false->(!z7)=true)/\(Tt (!z1))/\(z1=false->(!z1)=true)/\(Tt (!z3))/\(Tt (!z3))/\(Tt (!z3))/\(z3=false->(!z3)=true)/\(Tt (!z0))/\(Tt (!z0))/\(Tt (!z0))/\(Tt z8)/\(Tt z8)/\(Tt z8)/\((!z0)=true->(True->(!z0)=true))/\((!z0)=true->((t.kind==1)=true->z8=true))/\(z0=false->(!z0)=true)/\(Tt (!z2))/\(Tt (!z2))/\(Tt (!z2))/\(z2=false->(!z2)=true)/\(iB (bif z2 then true else (decide ((1048576:Int)<=(t.kids.length:Int)))) z10 ((Tt z6)/\(Tt z6)/\(Tt z6)/\(Tt z6)/\(iB (bif z6 then (decide ((0:Int) < (t.words.length:Int))) else false) z10 ((Zl (A20 N [1,1,1,1,1,0,1,0,0]) (Za5 t d 0) (xB 0 (S20 N [1,1,1,1,1,1] Q)))))))))))):
  A20 N [] (L2 [(0,.agg (enc .tree t)),pI 1 d] []) Q:=
 Eq.mpr V5 h
theorem ZwZ(N:Nat)(t:Tree)(d x5:Int)(N0:NT)(Q:QT)(h:∀ s,s=(t.kids.getD x5.toNat Tree.nil)->∀ u,u=s->∀ ab,ab=(List.getD s.words (Int.toNat 0) (0:Int))->let z5:=(Q .ret (L2 [pB 4 false] []));let z3:=decide ((2:Int)<=t.kind);let z0:=bif z3 then (decide (t.kind<=7)) else false;let z2:=z0 !=(s.kind==10);let z4:=(!z2) && (t.kind==9);let z1:=bif z2 then true else (bif (t.kind==9) then (s.kind !=1) else false);(iB (decide (x5 < (t.kids.length:Int))) (((0:Int)<=x5/\x5 < (t.kids.length:Int))/\((InR (d - 1))/\(ZbI (u,(d - 1),()))/\(ZjT (u,(d - 1),()) < N)/\(iB (!(Za u (d - 1))) z5 ((Tt z3)/\(Tt z3)/\(Tt z3)/\((Tt (!z2))/\(Tt (!z2))/\(Tt (!z2))/\(Tt z4)/\(Tt z4)/\((!z2)=true->(True->(!z2)=true))/\((!z2)=true->((t.kind==9)=true->z4=true))/\(z2=false->(!z2)=true)/\(Tt (!z1))/\(Tt ((!z1) && z0))/\(Tt ((!z1) && z0))/\(((!z1) && z0)=true->InR (t.kind - 2))/\(Tt ((!z1) && z0))/\(Tt ((!z1) && z0))/\(((!z1) && z0)=true->(0:Int)<=0/\0 < (s.words.length:Int))/\(Tt ((!z1) && z0))/\(Tt ((!z1) && z0))/\(Tt ((!z1) && z0))/\(((!z1) && z0)=true->ZnW ((t.kind - 2),ab,()))/\(Tt ((!z1) && z0))/\((!z1)=true->(True->(!z1)=true))/\((!z1)=true->(z0=true->((!z1) && z0)=true))/\(z1=false->(!z1)=true)/\(iB (bif z1 then true else (bif z0 then (!(Zi4 (t.kind - 2) ab)) else false)) z5 ((InR (x5+1))/\(N0 (Za5 t d (x5+1)))))))))) ((Q .ret (L2 [pB 4 true] []))))):
  A20 N [1,1,1,1,1,0,1,0,0] (Za5 t d x5) (xT N0 (xB 0 (S20 N [1,1,1,1,1,1] Q))):=
 Eq.mpr V5 (h _ rfl _ (Z0 _) _ rfl)
def ZFd(N:Nat)(t:Tree)(d:Int):Prop:=AW (Z2 (Zmi N)) Tryz.f20 Zyu [] (Zi (Zvf.can (t,d,())) []) (EQ Tryz.f20 (Znz (t,d,())) [])
theorem ZCm(c49:CT 49 Zdl)(hb:∀ (N:Nat) (t:Tree) (d:Int) (_:Unit),ZbI (t,d,())->ZjT (t,d,()) < N+1->ZFd N t d):CT 20 Zdj:=
 Y8 (μ:=ZjT) (l:=[(49,Zdl)]) Zk rfl (⟨c49,trivial⟩) Zyu Tryz.func20 rfl rfl 2 (fun _=> rfl) V2 (fun N ⟨t,d,_⟩=> hb N t d ())
end
theorem Z4k:∀ (l:List Int),trim l=[]↔∀ i:Nat,l.getD i 0=0
 | []=> by simp [trim]
 | x ::r=> by
  have s:=Z4k r
  constructor
  .intro h i
   simp only [trim] at h
   split at h
   .rename_i d
    split at h
    .cases i with
     | zero=> simpa
     | succ i=> simp_all
    .cases h
   .cases h
  .intro h
   have u:=h 0
   have d:trim r=[]:=s.2 fun i=> by simpa using h (i+1)
   simp only [trim,d]
   grind
theorem Z2f(x:Int)(r:List Int):trim (x ::r)=if trim r=[]/\x=0 then [] else x ::trim r:=by
 simp only [trim]
 grind
theorem Zbp:∀ (a b:List Int),trim a=trim b↔∀ i:Nat,a.getD i 0=b.getD i 0
 | [],b=> by
  rw [show trim []=[] from rfl,eq_comm,Z4k]
  simp [eq_comm]
 | x ::r,[]=> by
  rw [show trim []=[] from rfl,Z4k]
  simp
 | x ::r,y ::s=> by
  have d:=Zbp r s
  constructor
  .intro h i
   have ab:x=y/\trim r=trim s:=by
    rw [Z2f,Z2f] at h
    grind
   cases i with
   | zero=> grind
   | succ i=> simp_all
  .intro h
   have u:x=y:=by simpa using h 0
   have hr:trim r=trim s:=d.2 fun i=> by simpa using h (i+1)
   rw [Z2f,Z2f,u,hr]
def Zza(l:List Tree):Prop:=∀ x∈l,x.kind=0->x=Tree.nil
theorem JI(x:Tree)(r:List Tree):Yf (x ::r)=if Yf r=[]/\x.kind=0 then [] else x ::Yf r:=by
 simp only [Yf]
 grind
theorem Z3l:∀ (l:List Tree),Zza l->(Yf l=[]↔∀ i:Nat,l.getD i Tree.nil=Tree.nil)
 | [],_=> by simp [Yf]
 | x ::r,hn=> by
  have d:=Z3l r (fun y hy=> hn y (Q1 _ hy))
  have hx:=hn x (Q5 ..)
  rw [JI]
  constructor
  .intro h i
   split at h
   .rename_i hc
    cases i with
    | zero=> grind
    | succ i=> simp_all
   .cases h
  .intro h
   have s:x=Tree.nil:=by simpa using h 0
   have u:Yf r=[]:=d.2 fun i=> by simpa using h (i+1)
   rw [if_pos ⟨u,by rw [s];rfl⟩]
theorem Z88:∀ (a b:List Tree),Zza a->Zza b->(Yf a=Yf b↔∀ i:Nat,a.getD i Tree.nil=b.getD i Tree.nil)
 | [],b,_,hb=> by
  rw [show Yf []=[] from rfl,eq_comm,Z3l b hb]
  simp [eq_comm]
 | x ::r,[],ha,_=> by
  rw [show Yf []=[] from rfl,Z3l _ ha]
  simp
 | x ::r,y ::s,ha,hb=> by
  have u:=Z88 r s (fun y d=> ha y (Q1 _ d)) (fun y d=> hb y (Q1 _ d))
  have hx:=ha x (Q5 ..)
  have d:=hb y (Q5 ..)
  constructor
  .intro h i
   have ae:x=y/\Yf r=Yf s:=by
    rw [JI,JI] at h
    split at h <;> split at h
    .grind
    .cases h
    .cases h
    .simpa using h
   cases i with
   | zero=> grind
   | succ i=> simp_all
  .intro h
   have h0:x=y:=by simpa using h 0
   have hr:Yf r=Yf s:=u.2 fun i=> by simpa using h (i+1)
   rw [JI,JI,h0,hr]
theorem Zqg:Z3 Tree.nil=Tree.nil:=by rfl
theorem Z7S(t:Tree):(Z3 t).kind=t.kind:=by
 obtain ⟨k,w,ks⟩:=t
 simp only [Z3]
 split
 .rename_i h;simp [h,Tree.nil]
 .split
  .rename_i h;simp [h]
  .try rfl
theorem Z7U:∀ (l:List Tree),Zza (Yl l)
 | []=> by intro x d;trivial
 | t ::r=> by
  intro x d h
  simp only [Yl,Q7] at d
  rcases d with rfl | d
  .rw [Z7S] at h
   obtain ⟨k,w,ks⟩:=t
   simp only [Tree.kind_mk] at h
   simp [Z3,h]
  .exact Z7U r x d h
theorem Z0x:∀ (l:List Tree) (i:Nat),(Yl l).getD i Tree.nil=Z3 (l.getD i Tree.nil)
 | [],i=> by rfl
 | t ::r,0=> by simp [Yl]
 | t ::r,i+1=> by simpa [Yl] using Z0x r i
theorem Z8Z(a b:List Tree):Yl a=Yl b↔a.length=b.length/\∀ i:Nat,Z3 (a.getD i Tree.nil)=Z3 (b.getD i Tree.nil):=by
 constructor
 .intro h
  refine ⟨by rw [<-Z1j a,h,Z1j],fun i=> ?_⟩
  rw [<-Z0x,h,Z0x]
 .rintro ⟨hl,h⟩
  apply K1 (by rw [Z1j,Z1j,hl])
  intro i s d
  have:=h i
  rw [<-Z0x,<-Z0x] at this
  grind
theorem YH(a b:Tree):Z3 a=Z3 b↔a.kind=b.kind/\(a.kind=0\/(if a.kind=1 then (∀ i:Nat,a.words.getD i 0=b.words.getD i 0) else a.words=b.words/\a.kids.length=b.kids.length)/\∀ i:Nat,Z3 (a.kids.getD i Tree.nil)=Z3 (b.kids.getD i Tree.nil)):=by
 obtain ⟨k,w,ks⟩:=a
 obtain ⟨s,u,d⟩:=b
 show _↔k=s/\(k=0\/(if k=1 then (∀ i:Nat,w.getD i 0=u.getD i 0) else w=u/\ks.length=d.length)/\∀ i:Nat,Z3 (ks.getD i Tree.nil)=Z3 (d.getD i Tree.nil))
 by_cases hk:k=s
 .subst hk
  simp only [true_and]
  by_cases h0:k=0
  .simp [Z3,h0]
  .by_cases h1:k=1
   .subst h1
    simp only [Z3,if_neg h0,if_true,Tree.mk.injEq,true_and,Zbp,Z88 _ _ (Z7U _) (Z7U _),Z0x]
    simp
   .simp only [Z3,if_neg h0,if_neg h1,Tree.mk.injEq,true_and,Z8Z]
    grind
 .simp only [hk,false_and,iff_false]
  intro h
  have:=congrArg Tree.kind h
  rw [Z7S,Z7S] at this
  exact hk this
theorem ZiE{a b:Tree}(h:Z3 a=Z3 b)(h0:a.kind≠0)(i:Nat):a.words.getD i 0=b.words.getD i 0:=by
 obtain ⟨_,d⟩:=(YH a b).1 h
 grind
theorem Zmq{a b:Tree}(h:Z3 a=Z3 b)(h0:a.kind≠0)(i:Nat):Z3 (a.kids.getD i Tree.nil)=Z3 (b.kids.getD i Tree.nil):=by
 obtain ⟨_,d⟩:=(YH a b).1 h
 grind
theorem ZeU(t:Tree)(i:Int):Zh (ZI t i)<=Zh t/\(i < t.kids.length->0<=i->Zh (ZI t i) < Zh t):=by
 obtain ⟨k,w,ks⟩:=t
 unfold ZI
 have d:Zh Tree.nil=1:=rfl
 split
 .simp only [d,Zh];omega
 .simp only [Tree.kids_mk]
  by_cases hi:i.toNat < ks.length
  .have:=Z01 hi
   simp only [Zh];omega
  .rw [List.getD,Qp V0]
   simp only [Option.getD_none,d,Zh];omega
theorem c47:Contract Tryz.prog cfg 47 YX:=by
 refine ZC4 c80 c81 c45 ?_
 rintro N a b _ hp hN
 have la:a.words.length+a.kids.length < Zh a:=by obtain ⟨k,w,ks⟩:=a;have:=Zs ks;simp only [Zh,Tree.words_mk,Tree.kids_mk];omega
 have lb:b.words.length+b.kids.length < Zh b:=by obtain ⟨k,w,ks⟩:=b;have:=Zs ks;simp only [Zh,Tree.words_mk,Tree.kids_mk];omega
 simp only [Z39,Zqm] at hp hN
 have no:¬Z3 a=Z3 b->ZF cfg Tryz.f47.ntmps Tryz.f47.results.toList (ZdQ (a,b,())) [] .ret (⟨[(4,.c (.bool false))],[],[]⟩:LSt U):=by
  intro h
  have e:Yd (Z3 a) (Z3 b)=false:=Yy.2 h
  simp only [ZdQ,e]
  exact ⟨⟨rfl,⟨rfl,trivial⟩,trivial⟩,trivial⟩
 refine ZI6 N _ _ _ ?_;(try simp only [iB,vcT,forall_eq])
 (simp only [iB,vcS]);(try simp only [iB,vcT])
 refine ⟨fun hc=> ?_,fun hc=> ?_⟩
 .have e:Yd (Z3 a) (Z3 b)=(a.kind==b.kind):=by
   by_cases d:a.kind=b.kind
   .have h0:a.kind=0:=by rcases hc with h | h;exact absurd d h;exact h
    rw [Yh.2 ((YH a b).2 ⟨d,.inl h0⟩)]
    simp [d]
   .rw [Yy.2 (fun h=> d ((YH a b).1 h).1)]
    simp [d]
  simp only [ZdQ,e]
  exact ⟨⟨rfl,⟨rfl,trivial⟩,trivial⟩,trivial⟩
 .refine ⟨fun _=> by simp only [Zgi];omega,fun h h'=> ⟨h,h'⟩,fun hd=> no ?_,fun hd=> ?_⟩
  .intro h
   obtain ⟨_,h2⟩:=(YH a b).1 h
   grind
  .refine Z4 (ι:=Int) (fun p=> Z9J a b p) (fun p=> 0<=p/\p<=2000000000000/\∀ j:Nat,j < p.toNat->a.words.getD j 0=b.words.getD j 0) (fun p=> (2000000000000 - p).toNat) 0 rfl ⟨V0,V0,fun j s=> by simp at s⟩ ?_
   rintro i ⟨h1,h2,h3⟩
   refine ZwC N _ _ _ _ _ ?_;(try simp only [iB,vcT,forall_eq])
   (simp only [iB,vcS]);(try simp only [iB,vcT])
   have wa:∀ t:Tree,Zw t i=t.words.getD i.toNat 0:=fun t=> by unfold Zw;omega
   refine ⟨fun hi=> ⟨trivial,trivial,fun u=> no fun h=> u ?_,fun he=> ⟨?_,?_⟩⟩,fun hi=> ?_⟩
   .rw [wa,wa]
    exact ZiE h hc.2 _
   .unfold InR;omega
   .refine ⟨i+1,rfl,⟨V0,V0,fun j s=> ?_⟩,V0⟩
    by_cases hj':j < i.toNat
    .exact h3 j hj'
    .have:j=i.toNat:=V0
     simp_all
   .have hw:∀ j:Nat,a.words.getD j 0=b.words.getD j 0:=fun j=> by
     grind
    refine Z4 (ι:=Int) (fun p=> Z9I a b p) (fun p=> 0<=p/\p<=2000000000000/\∀ j:Nat,j < p.toNat->Z3 (a.kids.getD j Tree.nil)=Z3 (b.kids.getD j Tree.nil)) (fun p=> (2000000000000 - p).toNat) 0 rfl ⟨V0,V0,fun j s=> by simp at s⟩ ?_
    rintro q ⟨h5,h6,h7⟩
    refine ZwB N _ _ _ _ _ ?_;(try simp only [iB,vcT,forall_eq])
    (simp only [iB,vcS]);(try simp only [iB,vcT])
    have ka:∀ t:Tree,ZI t q=t.kids.getD q.toNat Tree.nil:=fun t=> by unfold ZI;grind
    have ma:=ZeU a q
    have mb:=ZeU b q
    try (simp only [vE])
    refine ⟨fun hq=> ⟨trivial,trivial,?_,?_,fun u=> no fun h=> ?_,fun he=> ⟨?_,?_⟩⟩,fun hq=> ?_⟩
    .simp only [Z39];omega
    .simp only [Zqm];omega
    .rw [Yy] at u
     apply u
     rw [ka,ka]
     exact Zmq h hc.2 _
    .unfold InR;omega
    .refine ⟨q+1,rfl,⟨V0,V0,fun j s=> ?_⟩,V0⟩
     by_cases hj':j < q.toNat
     .exact h7 j hj'
     .have:j=q.toNat:=V0
      rw [this,<-ka,<-ka]
      exact Yh.1 he
    .have d:∀ j:Nat,Z3 (a.kids.getD j Tree.nil)=Z3 (b.kids.getD j Tree.nil):=fun j=> by
      grind
     have e:Yd (Z3 a) (Z3 b)=true:=by
      rw [Yh,YH]
      refine ⟨hc.1,.inr ⟨?_,d⟩⟩
      split
      .exact hw
      .grind
     simp only [ZdQ,e]
     trivial
mutual
theorem Z0K:∀ (t:Tree) (d l:Int),0<=ZD t d l->(Zh t:Int)+ZD t d l<=l
 | .mk _ w ks,d,l,h=> by
  simp only [ZD] at h ⊢
  split at h
  .omega
  .rename_i hc
   rw [if_neg hc]
   have:=Z3q ks (d - 1) (l - 1 - w.length) h
   simp only [Zh]
   omega
theorem Z3q:∀ (ks:List Tree) (d l:Int),0<=ZB ks d l->(Ze ks:Int)+ZB ks d l<=l
 | [],d,l,h=> by simp [ZB,Ze]
 | t ::r,d,l,h=> by
  simp only [ZB] at h ⊢
  split at h
  .omega
  .rename_i hc
   rw [if_neg hc]
   have u:=Z3q r d (ZD t d l) h
   have s:=(Z0L r d (ZD t d l) (YK t d l).1).2
   have h2:=Z0K t d l V0
   simp only [Ze]
   omega
end
theorem Z5{n k:Nat}{rs:List ResultVar}{b b':Bool}(hr:rs=[ResultVar.tmp k])(h:b=b'):ZF cfg n rs (.c (.bool b')) [] .ret (⟨[(k,.c (.bool b))],[],[]⟩:LSt U):=by
 subst hr h
 have d:Nat.beq k k=true:=Nat.beq_refl k
 simp [ZF,ZEd,ZgW,ZgV,Z7A,ZaE,LSt.toF,ZfB,d,Zej,Z4s,YU,Z0b,leR,leL,leC,Zr9]
theorem Y3{n k:Nat}{rs:List ResultVar}{K:IntKind}{b b':Int}(hr:rs=[ResultVar.tmp k])(h:b=b'):ZF cfg n rs (.c (.int K b')) [] .ret (⟨[(k,.c (.int K b))],[],[]⟩:LSt U):=by
 subst hr h
 have d:Nat.beq k k=true:=Nat.beq_refl k
 simp [ZF,ZEd,ZgW,ZgV,Z7A,ZaE,LSt.toF,ZfB,d,Zej,Z4s,YU,Z0b,leR,leL,leC,Zr9]
theorem c83:Contract Tryz.prog cfg 83 Zd6:=by
 refine ZBL ?_
 intro c _ _
 refine ZHD _ _ ?_;(try simp only [iB,vcT,forall_eq])
 (simp only [iB,vcS]);(try simp only [iB,vcT])
 refine ⟨fun h=> Y3 rfl ?_,fun h=> ⟨fun h=> Y3 rfl ?_,fun h=> ⟨fun h=> Y3 rfl ?_,fun h=> ⟨fun h=> Y3 rfl ?_,fun h=> ⟨fun h=> Y3 rfl ?_,fun h=> ⟨fun h=> Y3 rfl ?_,fun h=> Y3 rfl ?_⟩⟩⟩⟩⟩⟩ <;> simp only [wd] <;> simp [*]
theorem Zrm(c:Int): -1<=wd c/\wd c<=64:=by
 unfold wd
 omega
theorem ZkQ(n:Int)(h0:0<=n)(h1:n < 18446744073709551616):IntKind.wrap .u64 (Int.tdiv n 2)=n / 2:=by
 rw [Xn h0]
 simp [IntKind.wrap,IntKind.signed,IntKind.bits]
 omega
theorem c49:Contract Tryz.prog cfg 49 Zdl:=by
 refine ZC2 c83 ?_
 intro c n _ hp
 simp only [ZnW] at hp
 have hw:=Zrm c
 refine ZI4 _ _ _ ?_;(try simp only [iB,vcT,forall_eq])
 (simp only [iB,vcS]);(try simp only [iB,vcT])
 refine ⟨trivial,fun h=> Z5 rfl ?_,fun h=> ?_⟩
 .simp only [Zi4]
  simp
  omega
 .refine Z4 (ι:=Int × Int) (fun p=> Z9H c n p.1 p.2) (fun p=> 0<=p.2/\p.2<=wd c/\0<=p.1/\p.1 < 18446744073709551616/\(n < 2 ^ (wd c).toNat↔p.1 < 2 ^ (wd c - p.2).toNat)) (fun p=> (wd c - p.2).toNat) (n,0) rfl ⟨V0,V0,V0,V0,by simp⟩ ?_
  rintro ⟨m,i⟩ ⟨h1,h2,u,s,d⟩
  dsimp only at*
  refine ZwA _ _ _ _ _ _ ?_;(try simp only [iB,vcT,forall_eq])
  (simp only [iB,vcS]);(try simp only [iB,vcT])
  refine ⟨fun hc=> ⟨V0,V4,(IntKind.wrap .u64 (Int.tdiv m 2),i+1),rfl,?_,V0⟩,fun hc=> Z5 rfl ?_⟩
  .rw [ZkQ m u s]
   refine ⟨V0,V0,V0,V0,?_⟩
   dsimp only
   rw [d,show (wd c - i).toNat=(wd c - (i+1)).toNat+1 by omega]
   omega
  .have e:(wd c - i).toNat=0:=V0
   rw [e] at d
   simp only [Zi4]
   grind
theorem ZDo:Contract Tryz.prog cfg 150 Z8l:=by
 refine ZxL ?_
 intro c _ _
 refine ZFP _ _ ?_;(try simp only [iB,vcT,forall_eq])
 (simp only [iB,vcS]);(try simp only [iB,vcT])
 have d:=Zrm c
 refine ⟨fun h=> ?_,fun h=> ⟨V0,?_⟩⟩
 .have e:wd c= -1:=by unfold wd;omega
  simp only [Zl9,e]
  exact ⟨⟨rfl,⟨⟨rfl,rfl⟩,trivial⟩,rfl,⟨rfl,trivial⟩,trivial⟩,trivial⟩
 .have hc:c=0\/c=1\/c=2\/c=3\/c=4\/c=5:=V0
  rcases hc with rfl | rfl | rfl | rfl | rfl | rfl <;> exact ⟨⟨rfl,⟨⟨rfl,rfl⟩,trivial⟩,rfl,⟨rfl,trivial⟩,trivial⟩,trivial⟩
theorem ZuJ(n:Int)(w:Nat)(h:0<=n):(Int.fdiv n (2 ^ w)=0)↔n < 2 ^ w:=by
 have s:(0:Int) < 2 ^ w:=XB V0
 rw [Int.fdiv_eq_ediv_of_nonneg _ V0]
 constructor
 .intro d
  have:=Int.lt_ediv_add_one_mul_self n s
  grind
 .intro d
  exact Int.ediv_eq_zero_of_lt h d
theorem ZDv:Contract Tryz.prog cfg 134 Zdl:=by
 refine ZxT ZDo ?_
 intro c n _ d
 simp only [ZnW] at d
 have u:=Zrm c
 refine ZG0 _ _ _ ?_;(try simp only [iB,vcT,forall_eq])
 refine ⟨trivial,fun h=> by omega,fun a b=> by grind,Z5 rfl ?_⟩
 simp only [Zi4]
 by_cases h0:0<=wd c
 .rw [JC]
  simp only [h0,decide_true,cond_true,true_and]
  by_cases h64:wd c=64
  .grind
  .have:((wd c)==64)=false:=by simpa using h64
   rw [this,cond_false,Qn]
   have s:min (wd c).toNat (IntKind.bits .u64)=(wd c).toNat:=by
    show min (wd c).toNat 64=_
    omega
   rw [s]
   simp only [beq_iff_eq,decide_eq_true_eq]
   exact ZuJ n _ d.1
 .simp [h0]
theorem c93:Contract Tryz.prog cfg 93 Z3n:=by
 refine ZBI ?_
 intro c _ _
 refine ZHA _ _ ?_;(try simp only [iB,vcT,forall_eq])
 refine Z5 rfl ?_
 rw [Qn]
 (simp only [iB,vcS])
theorem ZqX:Contract Tryz.prog cfg 128 Z30:=by
 refine ZxX ?_
 intro c _ _
 refine ZG4 _ _ ?_;(try simp only [iB,vcT,forall_eq])
 refine Z5 rfl ?_
 rw [Qn]
 (simp only [iB,vcS])
theorem ZiU{t:Tree}(h:rng t){i:Nat}(hi:i < t.words.length):0<=t.words.getD i 0/\t.words.getD i 0 < 18446744073709551616:=by
 obtain ⟨k,w,ks⟩:=t
 simp only [rng] at h
 simp_all
theorem c94:Contract Tryz.prog cfg 94 Zd5:=by
 refine ZBH ZqX ZDv ?_
 intro l t _ s
 simp only [ZnS] at s
 refine ZHz _ _ _ ?_;(try simp only [iB,vcT,forall_eq])
 (simp only [iB,vcS]);(try simp only [iB,vcT])
 refine ⟨trivial,fun d=> ⟨fun _=> by unfold InR;omega,fun h=> by omega,fun h=> ZiU s V0,Z5 rfl ?_⟩,fun d=> ⟨fun h=> Z5 rfl ?_,fun h=> Z5 rfl ?_⟩⟩
 .simp only [Z0n,if_pos d,Int.toNat_zero]
  grind
 .simp only [Z0n,if_neg d,if_pos h]
  grind
 .simp only [Z0n,if_neg d,if_neg h]
  grind
theorem ZbC{l:Int}{ks:List Tree}{i:Int}{d:Int}(h0:0<=i)(h:i < ks.length):
  Yb l (ks.drop i.toNat) d=((Z0n l (ks.getD i.toNat Tree.nil) && Za (ks.getD i.toNat Tree.nil) d) && Yb l (ks.drop (i+1).toNat) d):=by
 have e:(i+1).toNat=i.toNat+1:=V0
 rw [QH V0,e]
 simp only [Yb,List.getD,Q2 (show i.toNat < ks.length by omega),Xb]
theorem ZdH:∀ {ks:List Tree} {i:Nat},Ya ks->i < ks.length->rng (ks.getD i Tree.nil)
 | t ::_,0,h,_=> by simp only [Ya] at h;exact h.1
 | _ ::r,i+1,h,hi=> by simp only [Ya] at h;exact ZdH (ks:=r) (i:=i) h.2 (by simpa using hi)
theorem Zkj(t:Tree):Z0n 1 t=decide (t.kind≠10):=by simp [Z0n]
theorem c61:Contract Tryz.prog cfg 61 Zdj:=by
 refine ZBW c93 c94 ?_
 rintro N ⟨k,ws,ks⟩ d _ hp hN
 simp only [ZbI,ZjT,Zh,rng] at hp hN
 have ai:∀ b,d≠0->Za (.mk k ws ks) d=(b && Yb k ks (d - 1))->b=true->
   Zl (awp cfg (Z2 (Z80 N)) (JU cfg (Z2 (Z80 N))) Tryz.f61.ntmps ZqA (cd Tryz.f61 [1,1,0,1,0,0])) (Z44 (.mk k ws ks) d 0) (AExit.inBlock 1 (ZGo cfg (Z2 (Z80 N)) (JU cfg (Z2 (Z80 N))) Tryz.f61.ntmps ZqA (cd Tryz.f61 [1,1,1]) (ZF cfg Tryz.f61.ntmps Tryz.f61.results.toList (Znz (.mk k ws ks,d,())) []))):=by
  intro b aw hb ak
  subst ak
  rw [QK] at hb
  refine Z4 (ι:=Int) (fun p=> Z44 (.mk k ws ks) d p) (fun p=> 0<=p/\p<=ks.length/\Za (.mk k ws ks) d=Yb k (ks.drop p.toNat) (d - 1)) (fun p=> ((ks.length:Int) - p).toNat) 0 rfl ⟨V0,V0,by simpa using hb⟩ ?_
  rintro i ⟨h1,h2,h3⟩
  refine Zwo N _ _ _ _ _ ?_;(try simp only [iB,vcT,forall_eq])
  (simp only [iB,vcS]);(try simp only [iB,vcT])
  try (simp only [vE])
  refine ⟨fun hi=> ⟨⟨V0,hi⟩,?_⟩,fun hi=> ?_⟩
  .have u:=ZbC (l:=k) (d:=d - 1) h1 hi
   have hm:=Z01 (ks:=ks) (i:=i.toNat) V0
   have hr:=ZdH (i:=i.toNat) hp.2.1.2.2 V0
   rw [u] at h3
   have av:=Zs ks
   generalize ks.getD i.toNat Tree.nil=y at*
   have ab:ZbI (y,d - 1,()):=⟨V3,hr,V3,V3⟩
   have ah:ZjT (y,d - 1,()) < N:=by simp only [ZjT];omega
   have aj:InR (d - 1):=V4
   refine ⟨fun hk=> ⟨hr,fun _=> aj,fun _=> ab,fun _=> ah,fun hc=> Z5 rfl ?_,fun hc=> ⟨V4,i+1,rfl,⟨V0,V0,?_⟩,V0⟩⟩,fun hk=> ⟨fun _=> aj,fun _=> ab,fun _=> ah,fun hc=> Z5 rfl ?_,fun hc=> ⟨V4,i+1,rfl,⟨V0,V0,?_⟩,V0⟩⟩⟩
   .grind
   .grind
   .subst hk
    rw [h3,Zkj]
    grind
   .subst hk
    rw [h3,Zkj,hc.2]
    simp [hc.1]
  .rw [QA V0] at h3
   simp only [Yb] at h3
   exact Z5 rfl h3.symm
 refine ZHX N _ _ _ ?_;(try simp only [iB,vcT,forall_eq])
 (simp only [iB,vcS]);(try simp only [iB,vcT])
 try (simp only [vE])
 have ax:∀ s:k=0,Za (.mk k ws ks) d=decide (ws.length=0/\ks.length=0):=fun s=> by simp only [Za,if_pos s]
 have ar:∀ (_:¬k=0) (h:k=10),Za (.mk k ws ks) d=decide (ws.length=1/\ks.length=0):=fun s h=> by simp only [Za,if_neg s,if_pos h]
 refine ⟨fun s=> Z5 rfl ?_,fun s=> ⟨fun h=> Z5 rfl ?_,fun h=> ⟨fun u=> Z5 rfl ?_,fun u=> ⟨fun h1=> ⟨fun hc=> Z5 rfl ?_,fun hc=> ai true u ?_ rfl⟩,fun h1=> ⟨trivial,fun hc=> Z5 rfl ?_,fun hc=> ai true u ?_ rfl⟩⟩⟩⟩⟩
 .grind
 .grind
 .simp only [Za,if_neg s,if_neg h,if_pos u]
 .simp only [Za,if_neg s,if_neg h,if_neg u,if_pos h1]
  grind
 .simp only [Za,if_neg s,if_neg h,if_neg u,if_pos h1]
  grind
 .simp only [Za,if_neg s,if_neg h,if_neg u,if_neg h1]
  grind
 .simp only [Za,if_neg s,if_neg h,if_neg u,if_neg h1]
  grind
theorem c30:Contract Tryz.prog cfg 30 Z2r:=by
 refine ZCf c61 ?_
 intro t _ d
 refine ZIl _ _ ?_;(try simp only [iB,vcT,forall_eq])
 try (simp only [vE])
 exact ⟨⟨d.1,d.2,by grind,by grind⟩,Z5 rfl rfl⟩
theorem Zj2{y:Tree}{d:Int}(h:Za y d=true)(hk:y.kind=10):y.words.length=1/\y.kids.length=0:=by
 obtain ⟨k,w,ks⟩:=y
 simp only [Tree.kind_mk] at hk
 subst hk
 simpa [Za] using h
theorem c20:Contract Tryz.prog cfg 20 Zdj:=by
 refine ZCm c49 ?_
 rintro N ⟨k,ws,ks⟩ d _ hp hN
 simp only [ZbI,ZjT,Zh,rng] at hp hN
 refine ZIt N _ _ _ ?_;(try simp only [iB,vcT,forall_eq])
 (simp only [iB,vcS]);(try simp only [iB,vcT])
 try (simp only [vE])
 refine ⟨fun h0=> Z5 rfl ?_,fun h0=> ⟨fun u=> Z5 rfl ?_,fun u=> ⟨fun a b=> ⟨a,b⟩,fun hc=> Z5 rfl ?_,fun hc=> ⟨fun hw=> Z5 rfl ?_,fun hw=> ?_⟩⟩⟩⟩
 .simp only [Za,if_pos h0]
  rw [Qn];(simp only [iB,vcS]);omega
 .simp only [Za,if_neg h0,if_pos u]
  rw [Qn];(simp only [iB,vcS]);omega
 .simp only [Za,if_neg h0,if_neg u]
  split
  .try rfl
  .split
   .rw [decide_eq_false V0];try rfl
   .have:¬(2<=k/\k<=9/\ws.length=0/\ks.length < 1048576):=V0
    rw [decide_eq_false this];try rfl
 .simp only [Za,if_neg h0,if_neg u]
  rw [JC,JC]
  have:¬(2<=k/\k<=9/\ws.length=0/\ks.length < 1048576):=V0
  rw [decide_eq_false this];try rfl
 .have hb:Za (.mk k ws ks) d=Yb k ks (d - 1):=by
   simp only [Za,if_neg h0,if_neg u]
   rw [JC]
   split
   .rename_i h1
    rw [decide_eq_true V0,h1];try rfl
   .have:2<=k/\k<=9/\ws.length=0/\ks.length < 1048576:=V0
    rw [decide_eq_true this];try rfl
  refine Z4 (ι:=Int) (fun p=> Za5 (.mk k ws ks) d p) (fun p=> 0<=p/\p<=ks.length/\Za (.mk k ws ks) d=Yb k (ks.drop p.toNat) (d - 1)) (fun p=> ((ks.length:Int) - p).toNat) 0 rfl ⟨V0,V0,by simpa using hb⟩ ?_
  rintro i ⟨h1,h2,h3⟩
  refine ZwZ N _ _ _ _ _ ?_;(try simp only [iB,vcT,forall_eq])
  (simp only [iB,vcS]);(try simp only [iB,vcT])
  try (simp only [vE])
  refine ⟨fun hi=> ?_,fun hi=> ?_⟩
  .have hd:=ZbC (l:=k) (d:=d - 1) h1 hi
   have hm:=Z01 (ks:=ks) (i:=i.toNat) V0
   have hr:=ZdH (i:=i.toNat) hp.2.1.2.2 V0
   rw [hd] at h3
   have ax:=Zs ks
   generalize ks.getD i.toNat Tree.nil=y at*
   have ai:ZbI (y,d - 1,()):=⟨V3,hr,V3,V3⟩
   have ao:ZjT (y,d - 1,()) < N:=by simp only [ZjT];omega
   have au:InR (d - 1):=V4
   refine ⟨⟨h1,hi⟩,au,ai,ao,fun hf=> Z5 rfl ?_,fun hf=> ?_⟩
   .rw [h3,hf];simp
   .have s:((bif decide (2<=k) then decide (k<=7) else false)=(y.kind==10))↔((2<=k/\k<=7)↔y.kind=10):=by
     rw [Qn];(simp only [iB,vcS])
    have aj:=Zj2 hf
    have al:Z0n k y=true↔(((2<=k/\k<=7)↔y.kind=10)/\(¬k=9\/y.kind=1))/\((¬2<=k\/¬k<=7)\/Zi4 (k - 2) (y.words.getD 0 0)=true):=by
     unfold Z0n
     by_cases hk:2<=k/\k<=7
     .rw [if_pos hk]
      (simp only [iB,vcS])
      constructor
      .rintro ⟨h,h5⟩;exact ⟨⟨V0,V0⟩,.inr h5⟩
      .rintro ⟨⟨h,_⟩,h5⟩
       have:=aj V0
       exact ⟨V0,by rcases h5 with h5 | h5;omega;exact h5⟩
     .rw [if_neg hk]
      by_cases h9:k=9
      .rw [if_pos h9]
       (simp only [iB,vcS])
       constructor
       .intro h;exact ⟨⟨V0,V0⟩,.inl V0⟩
       .rintro ⟨⟨_,h⟩,_⟩;omega
      .rw [if_neg h9]
       (simp only [iB,vcS])
       constructor
       .intro h;exact ⟨⟨V0,V0⟩,.inl V0⟩
       .rintro ⟨⟨h,_⟩,_⟩;omega
    have aa:∀ (h:(((bif decide (2<=k) then decide (k<=7) else false)=(y.kind==10)/\(¬k=9\/y.kind=1))/\2<=k/\k<=7)),y.words.length=1:=fun h=> (aj ((s.1 h.1.1).1 h.2)).1
    simp only [Int.toNat_zero]
    refine ⟨fun a b=> ⟨a,b⟩,fun h=> by unfold InR;omega,fun h=> by have:=aa h;omega,fun h=> ZiU hr (by have:=aa h;omega),fun a b=> ⟨a,b⟩,fun h=> Z5 rfl ?_,fun h=> ⟨V4,i+1,rfl,⟨V0,V0,?_⟩,V0⟩⟩
    .have aq:Z0n k y=false:=by
      cases hkk:Z0n k y with
      | false=> rfl
      | true=>
       exfalso
       obtain ⟨h5,h6⟩:=al.1 hkk
       rcases h with h | ⟨h,h7⟩
       .rcases h with h | h
        .exact h (s.2 h5.1)
        .omega
       .rcases h6 with h6 | h6
        .omega
        .rw [h7] at h6;cases h6
     rw [h3,aq];try rfl
    .rw [h3,al.2 ⟨⟨s.1 h.1.1,h.1.2⟩,h.2⟩,hf];try rfl
  .rw [QA V0] at h3
   simp only [Yb] at h3
   exact Z5 rfl h3.symm
end Go.AM.YtfapacabjkhepaaGreat
