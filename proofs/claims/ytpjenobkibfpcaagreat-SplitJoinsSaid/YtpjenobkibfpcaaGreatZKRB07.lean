import Derived.Test.YtpjenobkibfpcaaGreatZmX
import Derived.Test.YtpjenobkibfpcaaGreatChecked
import Derived.Test.YtpjenobkibfpcaaGreatRows
import Derived.ProofKit
set_option linter.unusedSimpArgs false
set_option linter.unusedVariables false
namespace Go.AM
def Z4(w:Int)(i:Nat):Int:=w / 256 ^ i % 256
def Zz(m:Int)(i:Int):Bool:=decide (m / 2 ^ i.toNat % 2=1)
def of8(f:Nat->Int):Int:=f 0+256*(f 1+256*(f 2+256*(f 3+256*(f 4+256*(f 5+256*(f 6+256*f 7))))))
def Jn(a b m:Int)(i:Nat):Int:=if Zz m i then Z4 b i else Z4 a i
def mix(a b m:Int):Int:=of8 (Jn a b m)
theorem aiT{p q:Prop}:(p->q->p/\q)=True:=eq_true fun a b=> ⟨a,b⟩
mutual
def Z0:Edit->Nat
 | .mk _ o n w ks _ os=> 1+Zq o+Zq n+w.length+os.length+Zw ks+Zg os
def Zw:List (KidOf Edit)->Nat
 | []=> 0
 | k ::r=> Yo k+Zw r
def Yo:KidOf Edit->Nat
 | ⟨_,e⟩=> Z0 e
def Zg:List (OpOf Edit)->Nat
 | []=> 0
 | o ::r=> Zs o+Zg r
def Zs:OpOf Edit->Nat
 | ⟨_,_,l,e⟩=> Ze l+Z0 e
end
mutual
def Z2w:Edit->Prop
 | .mk _ o n w ks _ os=> Z0R o/\Z0R n/\w.length<=17592186044416/\ks.length<=17592186044416/\os.length<=17592186044416/\Z6y ks/\Z6x os
def Z6y:List (KidOf Edit)->Prop
 | []=> True
 | k ::r=> ZmZ k/\Z6y r
def ZmZ:KidOf Edit->Prop
 | ⟨_,e⟩=> Z2w e
def Z6x:List (OpOf Edit)->Prop
 | []=> True
 | o ::r=> Zrz o/\Z6x r
def Zrz:OpOf Edit->Prop
 | ⟨_,_,l,e⟩=> l.length<=17592186044416/\Z1H l/\Z2w e
end
def isW(n:Int):Prop:=0<=n/\n < 18446744073709551616
def Z2a(w:WEdit):Prop:=InR w.at_/\(0<=w.mask/\w.mask < 256)/\isW w.old/\isW w.new
mutual
def ZX:Edit->Prop
 | .mk k o n w ks l os=> InR k/\rng o/\rng n/\(∀ x∈w,Z2a x)/\InR l/\Z1r ks/\Z0D os
def Z1r:List (KidOf Edit)->Prop
 | []=> True
 | k ::r=> Z2b k/\Z1r r
def Z2b:KidOf Edit->Prop
 | ⟨a,e⟩=> InR a/\ZX e
def Z0D:List (OpOf Edit)->Prop
 | []=> True
 | o ::r=> YH o/\Z0D r
def YH:OpOf Edit->Prop
 | ⟨k,n,l,e⟩=> InR k/\InR n/\J6 l/\ZX e
end
def sh1(t:Tree)(n:Int):Int:=if n < 0 then n else ZT t 80 n
mutual
def Z2g:Edit->Int->Int->Int
 | .mk _ o nw w ks _ os,d,n=> if d=0\/n - 1 - w.length - os.length < 0 then -1 else Z1l os (d - 1) (Z12 ks (d - 1) (sh1 nw (ZT o 80 (n - 1 - w.length - os.length))))
def Z12:List (KidOf Edit)->Int->Int->Int
 | [],_,n=> n
 | k ::r,d,n=> if n < 0 then n else Z12 r d (Z4Z k d n)
def Z4Z:KidOf Edit->Int->Int->Int
 | ⟨_,e⟩,d,n=> Z2g e d n
def Z1l:List (OpOf Edit)->Int->Int->Int
 | [],_,n=> n
 | o ::r,d,n=> if n < 0 then n else Z1l r d (Z87 o d n)
def Z87:OpOf Edit->Int->Int->Int
 | ⟨_,_,l,e⟩,d,n=> if ZI l 80 n < 0 then ZI l 80 n else Z2g e d (ZI l 80 n)
end
def Z0r(t:Tree):Bool:=decide (t.kind=0/\t.words.length=0/\t.kids.length=0)
def Z36(e:Edit):Bool:=decide (e.kind=0) && Z0r e.old && Z0r e.new && decide (e.words.length=0/\e.kids.length=0/\e.ops.length=0/\e.list=0)
def Ya(w m:Int):Bool:=decide (mix w 0 m=0)
def ZM(last:Int):List WEdit->Bool
 | []=> true
 | w ::r=> decide (last < w.at_/\w.at_<=65534/\w.mask≠0) && Ya w.old w.mask && Ya w.new w.mask && ZM w.at_ r
def Z2(o:Op):Int:=if o.kind=3 then 1 else o.n+o.l.length
def Jp:List Op->Int->Int
 | [],n=> n
 | o ::r,n=> Jp r (min (if o.kind=2 then n else n+Z2 o) 1048576)
def Z11:List Op->Int->Int
 | [],n=> n
 | o ::r,n=> Z11 r (min (if o.kind=1 then n else n+Z2 o) 1048576)
def Z6k(list:Int):List Tree->Bool
 | []=> true
 | t ::r=> Zr (.mk list [] [t]) 64 && Z6k list r
def dT(d:Int):Int:=if d < 0 then -1 else 64
theorem ZFh{d:Int}(h:0<=d):dT d=64:=by unfold dT;omega
theorem ZiB{d:Int}(h:d < 0):dT d= -1:=by unfold dT;rw [if_pos h]
theorem ZFi(d:Int):dT d≠0:=by unfold dT;omega
def J7(D list:Int):List Tree->Bool
 | []=> true
 | t ::r=> Zr (.mk list [] [t]) D && J7 D list r
theorem Zjk(list:Int):∀ l:List Tree,J7 64 list l=Z6k list l
 | []=> rfl
 | t ::r=> by simp only [J7,Z6k,Zjk list r]
mutual
def Z1:Edit->Int->Bool
 | .mk k o n w ks l os,d=>
  if d=0\/k < 0\/3 < k then false
  else if (k≠1/\¬(Z0r o=true/\Z0r n=true))\/(k≠2/\¬(w.length=0/\ks.length=0))\/(k≠3/\(l≠0\/os.length≠0)) then false
  else if k=1 then Zr o (dT d) && Zr n (dT d) && decide (o.kind≠10/\n.kind≠10)
  else ZM (-1) w && ZC (-1) ks (d - 1) && decide (¬(k=3/\(l < 2\/9 < l))) && ZA l os (d - 1) && decide (Jp os 0 < 1048576/\Z11 os 0 < 1048576)
def ZC(last:Int):List (KidOf Edit)->Int->Bool
 | [],_=> true
 | k ::r,d=> JA last k d && ZC k.at_ r d
def JA(last:Int):KidOf Edit->Int->Bool
 | ⟨a,e⟩,d=> decide (last < a/\a<=65534/\e.kind≠0) && Z1 e d
def ZA(list:Int):List (OpOf Edit)->Int->Bool
 | [],_=> true
 | o ::r,d=> Za list o d && ZA list r d
def Za(list:Int):OpOf Edit->Int->Bool
 | ⟨k,n,l,e⟩,d=>
  if k=0 then decide (1<=n/\n<=1048576/\l.length=0) && Z36 e
  else if n≠0\/k < 0\/3 < k then false
  else if k < 3 then J7 (dT d) list l && decide (0 < l.length) && Z36 e
  else decide (l.length=0/\e.kind≠0/\7 < list) && Z1 e d && decide (list=8\/e.kind=2\/e.kind=1/\e.old.kind=1/\e.new.kind=1)
end
mutual
def ctE:Edit->Nat
 | .mk _ o n w ks _ os=> 16+Zq o+Zq n+65600*w.length+Z08 ks+YF os
def Z08:List (KidOf Edit)->Nat
 | []=> 0
 | k ::r=> Z2s k+Z08 r
def Z2s:KidOf Edit->Nat
 | ⟨_,e⟩=> 65600+ctE e
def YF:List (OpOf Edit)->Nat
 | []=> 0
 | o ::r=> Z1x o+YF r
def Z1x:OpOf Edit->Nat
 | ⟨_,_,l,e⟩=> 16+Ze l+ctE e
end
theorem Z0f(e:Edit):ctE e=16+Zq e.old+Zq e.new+65600*e.words.length+Z08 e.kids+YF e.ops:=by cases e;rfl
theorem Z30(k:Kid):Z2s k=65600+ctE k.e:=by cases k;rfl
theorem Z52(o:Op):Z1x o=16+Ze o.l+ctE o.e:=by cases o;rfl
theorem Zde:∀ {ks:List Kid} {k:Kid},k∈ks->ctE k.e+65600<=Z08 ks
 | a ::r,k,h=> by
  rcases Qa.1 h with rfl | h
  .simp only [Z08,Z30];omega
  .have:=Zde h;simp only [Z08];omega
theorem Z8r:∀ {os:List Op} {o:Op},o∈os->ctE o.e+Ze o.l+16<=YF os
 | a ::r,o,h=> by
  rcases Qa.1 h with rfl | h
  .simp only [YF,Z52];omega
  .have:=Z8r h;simp only [YF];omega
theorem Z5N(t:Tree):1<=Zq t:=by obtain ⟨k,w,ks⟩:=t;simp only [Zq];omega
mutual
theorem Zcv:∀ (e:Edit),Z0 e<=ctE e
 | .mk k o n w ks l os=> by
  have d:=Z5P ks
  have h:os.length+Zg os<=YF os:=Z2B os
  simp only [Z0,ctE]
  omega
theorem Z5P:∀ (ks:List (KidOf Edit)),Zw ks<=Z08 ks
 | []=> Q9 _
 | k ::r=> by
  have d:=ZpW k
  have h:=Z5P r
  simp only [Zw,Z08]
  omega
theorem ZpW:∀ (k:KidOf Edit),Yo k<=Z2s k
 | ⟨a,e⟩=> by
  have:=Zcv e
  simp only [Yo,Z2s]
  omega
theorem Z2B:∀ (os:List (OpOf Edit)),os.length+Zg os<=YF os
 | []=> Q9 _
 | o ::r=> by
  have d:=Zv5 o
  have h:=Z2B r
  simp only [Zg,YF,Q8]
  omega
theorem Zv5:∀ (o:OpOf Edit),Zs o+1<=Z1x o
 | ⟨k,n,l,e⟩=> by
  have:=Zcv e
  simp only [Zs,Z1x]
  omega
end
mutual
theorem Zdd:∀ (e:Edit),ctE e+131100<=65600*Z0 e
 | .mk k o n w ks l os=> by
  have d:=Zkp ks
  have h:=Zko os
  have:=Z5N o
  have:=Z5N n
  simp only [Z0,ctE]
  omega
theorem Zkp:∀ (ks:List (KidOf Edit)),Z08 ks<=65600*Zw ks
 | []=> Q9 _
 | k ::r=> by
  have d:=ZqC k
  have h:=Zkp r
  simp only [Zw,Z08]
  omega
theorem ZqC:∀ (k:KidOf Edit),Z2s k<=65600*Yo k
 | ⟨a,e⟩=> by
  have:=Zdd e
  simp only [Yo,Z2s]
  omega
theorem Zko:∀ (os:List (OpOf Edit)),YF os<=65600*(os.length+Zg os)
 | []=> Q9 _
 | o ::r=> by
  have d:=Zvy o
  have h:=Zko r
  simp only [Zg,YF,Q8]
  omega
theorem Zvy:∀ (o:OpOf Edit),Z1x o<=65600*(Zs o+1)
 | ⟨k,n,l,e⟩=> by
  have:=Zdd e
  simp only [Zs,Z1x]
  omega
end
mutual
def Jz:Edit->Bool
 | .mk _ _ _ _ ks _ os=> decide (Jp os 0<=2000/\Z11 os 0<=2000) && Z0C ks && Yp os
def Z0C:List (KidOf Edit)->Bool
 | []=> true
 | k ::r=> Zo6 k && Z0C r
def Zo6:KidOf Edit->Bool
 | ⟨_,e⟩=> Jz e
def Yp:List (OpOf Edit)->Bool
 | []=> true
 | o ::r=> Zg3 o && Yp r
def Zg3:OpOf Edit->Bool
 | ⟨_,_,_,e⟩=> Jz e
end
def Z0y(e:Edit):Bool:=decide (0<=Z2g e 80 3000) && Z1 e 64 && Jz e
end Go.AM
namespace Go.AM
open Go.ChangeShapes Go.WideShapes Go.RowKit
def inE(e:Edit):Prop:=Z2w e/\ZX e
def ZK9(k:Kid):Prop:=ZmZ k/\Z2b k
def inO(o:Op):Prop:=Zrz o/\YH o
theorem ZzS{ks:List Kid}(h:∀ k∈ks,ZK9 k):Z6y ks/\Z1r ks:=by
 induction ks with
 | nil=> trivial
 | cons t r ih=>
  have d:=h t (Q1 ..)
  have s:=ih fun x hx=> h x (Q0 _ hx)
  exact ⟨⟨d.1,s.1⟩,d.2,s.2⟩
theorem ZCX{os:List Op}(h:∀ o∈os,inO o):Z6x os/\Z0D os:=by
 induction os with
 | nil=> trivial
 | cons t r ih=>
  have d:=h t (Q1 ..)
  have s:=ih fun x hx=> h x (Q0 _ hx)
  exact ⟨⟨d.1,s.1⟩,d.2,s.2⟩
section
variable {P:Program} {cfg:Cfg U} {w:World} {H:Type} {henc:TypeId × Value->H}
structure EditTypes (cfg:Cfg U):Prop where
 wvar:∃ zs,cfg.var (cfg.elT .wedit)=some (true,zs)/\zs.length=4
 w0:∃ t n,cfg.fld (cfg.elT .wedit) 0=some (0,t)/\cfg.var t=some (false,[.int .i64 n])
 w1:∃ t n,cfg.fld (cfg.elT .wedit) 1=some (1,t)/\cfg.var t=some (false,[.int .u8 n])
 w2:∃ t n,cfg.fld (cfg.elT .wedit) 2=some (2,t)/\cfg.var t=some (false,[.int .u64 n])
 w3:∃ t n,cfg.fld (cfg.elT .wedit) 3=some (3,t)/\cfg.var t=some (false,[.int .u64 n])
 kvar:∃ zs,cfg.var (cfg.elT .kid)=some (true,zs)/\zs.length=12
 k0:∃ t n,cfg.fld (cfg.elT .kid) 0=some (0,t)/\cfg.var t=some (false,[.int .i64 n])
 k1:cfg.fld (cfg.elT .kid) 1=some (1,cfg.elT .edit)
 ovar:∃ zs,cfg.var (cfg.elT .op)=some (true,zs)/\zs.length=14
 o0:∃ t n,cfg.fld (cfg.elT .op) 0=some (0,t)/\cfg.var t=some (false,[.int .i64 n])
 o1:∃ t n,cfg.fld (cfg.elT .op) 1=some (1,t)/\cfg.var t=some (false,[.int .i64 n])
 o2:∃ t c,cfg.fld (cfg.elT .op) 2=some (2,t)/\cfg.var t=some (false,[c])/\cfg.slT t=some .tree
 o3:cfg.fld (cfg.elT .op) 3=some (3,cfg.elT .edit)
 evar:∃ zs,cfg.var (cfg.elT .edit)=some (true,zs)/\zs.length=11
 e0:∃ t n,cfg.fld (cfg.elT .edit) 0=some (0,t)/\cfg.var t=some (false,[.int .i64 n])
 e1:cfg.fld (cfg.elT .edit) 1=some (1,cfg.elT .tree)
 e2:cfg.fld (cfg.elT .edit) 2=some (4,cfg.elT .tree)
 e3:∃ t c,cfg.fld (cfg.elT .edit) 3=some (7,t)/\cfg.var t=some (false,[c])/\cfg.slT t=some .wedit
 e4:∃ t c,cfg.fld (cfg.elT .edit) 4=some (8,t)/\cfg.var t=some (false,[c])/\cfg.slT t=some .kid
 e5:∃ t n,cfg.fld (cfg.elT .edit) 5=some (9,t)/\cfg.var t=some (false,[.int .i64 n])
 e6:∃ t c,cfg.fld (cfg.elT .edit) 6=some (10,t)/\cfg.var t=some (false,[c])/\cfg.slT t=some .op
theorem Zye(ok:CfgOk P cfg)(T:TreeTypes cfg)(E:EditTypes cfg)(n:Nat)(cs:List Value)(h:Rdd henc P w n (cfg.elT .wedit) cs):∃ e:WEdit,RelS cfg w.cell? cs (cfg.enc .wedit e)/\Z2a e:=by
 obtain ⟨zs,hz,ab⟩:=E.wvar
 obtain ⟨t0,n0,f0,v0⟩:=E.w0
 obtain ⟨t1,n1,f1,v1⟩:=E.w1
 obtain ⟨t2,n2,f2,v2⟩:=E.w2
 obtain ⟨t3,n3,f3,v3⟩:=E.w3
 obtain ⟨m,rfl,hl,r0⟩:=Z0q ok f0 v0 h
 obtain ⟨m',s,_,r1⟩:=Z0q ok f1 v1 h
 cases s
 obtain ⟨m',s,_,r2⟩:=Z0q ok f2 v2 h
 cases s
 obtain ⟨m',s,_,r3⟩:=Z0q ok f3 v3 h
 cases s
 have aa:cs.length=4:=by rw [hl,Z20 ok hz,ab]
 obtain ⟨a,a1,a2,a3⟩:=Z4e ok v0 r0
 obtain ⟨b,b1,b2,b3⟩:=Z4e ok v1 r1
 obtain ⟨c,c1,c2,c3⟩:=Z4e ok v2 r2
 obtain ⟨d,d1,d2,d3⟩:=Z4e ok v3 r3
 have g:=a1.glue rfl (by simp;omega) (b1.glue rfl (by simp;omega) (c1.glue rfl (by simp;omega) (d1.glue rfl (by simp;omega) (RelS.done (n:=4) aa))))
 refine ⟨⟨a,b,c,d⟩,by rw [T.enc];exact g,⟨a2,a3⟩,⟨b2,?_⟩,⟨c2,?_⟩,d2,?_⟩
 .have:b<=255:=b3
  grind
 .have:c<=18446744073709551615:=c3
  grind
 .have:d<=18446744073709551615:=d3
  grind
theorem ZFY (ok:CfgOk P cfg) (T:TreeTypes cfg) (E:EditTypes cfg) (n:Nat) (IH:∀ m,m < n->∀ cs,Rdd henc P w m (cfg.elT .edit) cs->∃ e:Edit,RelS cfg w.cell? cs (cfg.enc .edit e)/\inE e)
  (cs:List Value) (h:Rdd henc P w n (cfg.elT .kid) cs):∃ e:Kid,RelS cfg w.cell? cs (cfg.enc .kid e)/\ZK9 e:=by
 obtain ⟨zs,hz,ab⟩:=E.kvar
 obtain ⟨t0,n0,f0,v0⟩:=E.k0
 obtain ⟨ez,ae,d⟩:=E.evar
 obtain ⟨m,rfl,hl,r0⟩:=Z0q ok f0 v0 h
 obtain ⟨m',e',_,r1⟩:=Z0q ok E.k1 ae h
 cases e'
 have s:cs.length=12:=by rw [hl,Z20 ok hz,ab]
 obtain ⟨a,a1,a2,a3⟩:=Z4e ok v0 r0
 obtain ⟨b,b1,b2⟩:=IH m V1 _ r1
 rw [d] at b1
 rw [T.enc] at b1
 have g:=a1.glue rfl (by simp;omega) (b1.glue rfl V1 (RelS.done (n:=12) s))
 exact ⟨⟨a,b⟩,by rw [T.enc];exact g,b2.1,⟨a2,a3⟩,b2.2⟩
theorem ZJX (ok:CfgOk P cfg) (T:TreeTypes cfg) (E:EditTypes cfg) (n:Nat) (IH:∀ m,m < n->∀ cs,Rdd henc P w m (cfg.elT .edit) cs->∃ e:Edit,RelS cfg w.cell? cs (cfg.enc .edit e)/\inE e)
  (cs:List Value) (h:Rdd henc P w n (cfg.elT .op) cs):∃ e:Op,RelS cfg w.cell? cs (cfg.enc .op e)/\inO e:=by
 obtain ⟨zs,hz,ah⟩:=E.ovar
 obtain ⟨t0,n0,f0,v0⟩:=E.o0
 obtain ⟨t1,n1,f1,v1⟩:=E.o1
 obtain ⟨t2,c2,f2,v2,s2⟩:=E.o2
 obtain ⟨ez,ai,s⟩:=E.evar
 obtain ⟨m,rfl,hl,r0⟩:=Z0q ok f0 v0 h
 obtain ⟨m',e',_,r1⟩:=Z0q ok f1 v1 h
 cases e'
 obtain ⟨m',e',_,r2⟩:=Z0q ok f2 v2 h
 cases e'
 obtain ⟨m',e',_,r3⟩:=Z0q ok E.o3 ai h
 cases e'
 have ab:cs.length=14:=by rw [hl,Z20 ok hz,ah]
 obtain ⟨a,a1,a2,a3⟩:=Z4e ok v0 r0
 obtain ⟨b,b1,b2,b3⟩:=Z4e ok v1 r1
 obtain ⟨c,c1,c2,c3⟩:=Zhm ok s2 (fun m _ cs h=> ZfX ok T m cs h) r2
 obtain ⟨d,d1,d2⟩:=IH m V1 _ r3
 rw [s] at d1
 rw [T.enc] at d1
 rw [T.bytes] at c2
 have hk:=ZF8 c3
 have g:=a1.glue rfl (by simp;omega) (b1.glue rfl (by simp;omega) (c1.glue rfl (by simp;omega) (d1.glue rfl V1 (RelS.done (n:=14) ab))))
 exact ⟨⟨a,b,c,d⟩,by rw [T.enc];exact g,⟨Z3I c2 V3,hk.1,d2.1⟩,⟨a2,a3⟩,⟨b2,b3⟩,hk.2,d2.2⟩
theorem Zs2(ok:CfgOk P cfg)(T:TreeTypes cfg)(E:EditTypes cfg):∀ (n:Nat) (cs:List Value),Rdd henc P w n (cfg.elT .edit) cs->∃ e:Edit,RelS cfg w.cell? cs (cfg.enc .edit e)/\inE e:=by
 intro n
 induction n using Nat.strongRecOn with
 | ind n IH=>
  intro cs h
  obtain ⟨zs,hz,ai⟩:=E.evar
  obtain ⟨t0,n0,f0,v0⟩:=E.e0
  obtain ⟨tz,aa,ab⟩:=T.var
  obtain ⟨t3,c3,f3,v3,s3⟩:=E.e3
  obtain ⟨t4,c4,f4,v4,s4⟩:=E.e4
  obtain ⟨t5,n5,f5,v5⟩:=E.e5
  obtain ⟨t6,c6,f6,v6,s6⟩:=E.e6
  obtain ⟨m,rfl,hl,r0⟩:=Z0q ok f0 v0 h
  obtain ⟨s,d,_,r1⟩:=Z0q ok E.e1 aa h
  cases d
  obtain ⟨s,d,_,r2⟩:=Z0q ok E.e2 aa h
  cases d
  obtain ⟨s,d,_,r3⟩:=Z0q ok f3 v3 h
  cases d
  obtain ⟨s,d,_,r4⟩:=Z0q ok f4 v4 h
  cases d
  obtain ⟨s,d,_,r5⟩:=Z0q ok f5 v5 h
  cases d
  obtain ⟨s,d,_,r6⟩:=Z0q ok f6 v6 h
  cases d
  have ae:cs.length=11:=by rw [hl,Z20 ok hz,ai]
  obtain ⟨k,a1,a2,a3⟩:=Z4e ok v0 r0
  obtain ⟨o,b1,b2⟩:=ZfX ok T _ _ r1
  obtain ⟨nw,d1,d2⟩:=ZfX ok T _ _ r2
  obtain ⟨ws,p1,p2,p3⟩:=Zhm ok s3 (fun m _ cs h=> Zye ok T E m cs h) r3
  obtain ⟨ks,q1,q2,q3⟩:=Zhm ok s4 (fun s hm cs h=> ZFY ok T E s (fun m2 ah cs h=> IH m2 V1 cs h) cs h) r4
  obtain ⟨l,i1,i2,i3⟩:=Z4e ok v5 r5
  obtain ⟨os,j1,j2,j3⟩:=Zhm ok s6 (fun s hm cs h=> ZJX ok T E s (fun m2 ah cs h=> IH m2 V1 cs h) cs h) r6
  rw [T.bytes] at p2 q2 j2
  rw [ab,T.enc] at b1 d1
  have hk:=ZzS q3
  have ho:=ZCX j3
  have g:=a1.glue rfl (by simp;omega) (b1.glue rfl V1 (d1.glue rfl V1 (p1.glue rfl (by simp;omega) (q1.glue rfl (by simp;omega) (i1.glue rfl (by simp;omega) (j1.glue rfl (by simp;omega) (RelS.done (n:=11) ae)))))))
  refine ⟨.mk k o nw ws ks l os,by rw [T.enc];exact g,⟨b2.1,d2.1,Z3I p2 V3,Z3I q2 V3,Z3I j2 V3,hk.1,ho.1⟩,⟨a2,a3⟩,b2.2,d2.2,p3,⟨i2,i3⟩,hk.2,ho.2⟩
end
end Go.AM
namespace Go.AM
variable {P:Program} {cfg:Cfg U}
structure CellR (α:Type) where
 get:List (Tok × LC U)->C U->Option α
 can:α->C U
 canL:α->List (Tok × LC U)
 ok:∀ (cfg:Cfg U) L c a,get L c=some a->Zgh cfg c (can a)/\∀ y∈canL a,ZL (fun _=> none) L y.1=some y.2
theorem ZqM{a b:C U}(h:Wk a b):Zgh cfg a b:=fun g v d=> Zeu (cfg:=cfg) h g (fun _=> false) v d
def ZiJ(k:IntKind):CellR Int:=
 {get:=fun _ c=> match c with
   | .int k' n=> if k=k' then some n else none
   | _=> none
  can:=fun n=> .int k n
  canL:=fun _=> []
  ok:=by
   intro cfg L c a h
   refine ⟨?_,fun y hy=> by cases hy⟩
   split at h
   .split at h
    .rename_i hk;subst hk;cases h;exact fun _ _ h=> h
    .cases h
   .cases h }
def cSl(T:Ty):CellR (List (El T)):=
 {get:=fun _ c=> match rSl T [c] with
   | some (l,_)=> some l
   | none=> none
  can:=fun l=> sl T l
  canL:=fun _=> []
  ok:=by
   intro cfg L c a h
   refine ⟨?_,fun y hy=> by cases hy⟩
   split at h
   .rename_i l r hr
    cases h
    exact ZqM (Zyh hr)
   .cases h }
def Zre(t:Tok)(k j:Nat):Bool:=
 match t with
 | .x k' j'=> Nat.beq k' k && Nat.beq j' j
 | _=> false
theorem Zxo{t:Tok}{k j:Nat}(h:Zre t k j=true):t= .x k j:=by
 unfold Zre at h
 split at h
 .rw [Q2] at h
  rw [Ql h.1,Ql h.2]
 .cases h
def Zmg(T:Ty)(k j:Nat):CellR (List (El T)):=
 {get:=fun _ c=> match c with
   | .nils=> some []
   | .slice S l .full=> if h:S=T then some (h▸l) else none
   | .slice S l (.own t)=> if h:S=T then (bif Zre t k j then some (h▸l) else none) else none
   | _=> none
  can:=fun l=> .slice (U:=U) T l (.own (.x k j))
  canL:=fun _=> []
  ok:=by
   intro cfg L c a h
   refine ⟨?_,fun y hy=> by cases hy⟩
   split at h
   .cases h
    intro g v hr
    have h1:=hr.1
    cases h1
    exact ⟨SimC.snil (cfg:=cfg) (U:=U) T _,fun _ b len cap hv=> by cases hv⟩
   .split at h
    .rename_i hT
     subst hT
     cases h
     intro g v hr
     refine ⟨hr.1.tl _,fun _ b len cap hv i h3 h4=> ?_⟩
     have:=hr.2 _ _ _ hv
     grind
    .cases h
   .split at h
    .rename_i hT
     subst hT
     rename_i t
     cases ht:Zre t k j with
     | false=> grind
     | true=>
      rw [ht] at h
      have:=Zxo ht
      subst this
      cases h
      exact fun _ _ hr=> hr
    .cases h
   .cases h }
def cWt(T:Ty)(n:Tok):CellR (List (El T)):=
 {get:=fun L c=> match c with
   | .mref t=> if t=n then match ZL (fun _=> none) L t with
    | some x=> if h:x.T=T/\x.f=0 then some (h.1▸x.l) else none
    | none=> none
    else none
   | _=> none
  can:=fun _=> .mref n
  canL:=fun l=> [(n,LC.mk (U:=U) T l 0)]
  ok:=by
   intro cfg L c a h
   split at h
   .rename_i t
    split at h
    .rename_i ht
     subst ht
     split at h
     .rename_i x hx
      split at h
      .rename_i hT
       obtain ⟨T',l,f⟩:=x
       obtain ⟨hT1,hT2⟩:=hT
       simp only at hT1 hT2
       subst hT1 hT2
       cases h
       refine ⟨fun _ _ hr=> hr,fun y hy=> ?_⟩
       grind
      .cases h
     .cases h
    .cases h
   .cases h }
def cWr(T:Ty)(k j:Nat):CellR (List (El T)):=cWt T (.x k j)
structure ObjL (α:Type) where
 get:List (Tok × LC U)->List (C U)->Option α
 can:α->List (C U)
 canL:α->List (Tok × LC U)
 ok:∀ (cfg:Cfg U) L cs a,get L cs=some a->(∀ y∈canL a,ZL (fun _=> none) L y.1=some y.2)/\cs.length=(can a).length/\∀ (j:Nat) c c',cs[j]?=some c->(can a)[j]?=some c'->Zgh cfg c c'
def ObjL.nil:ObjL Unit:=
 {get:=fun _ cs=> match cs with
   | []=> some ()
   | _ ::_=> none
  can:=fun _=> []
  canL:=fun _=> []
  ok:=by
   grind }
def ObjL.cons{α β:Type}(A:CellR α)(B:ObjL β):ObjL (α × β):=
 {get:=fun L cs=> match cs with
   | c ::r=> match A.get L c with
    | some a=> match B.get L r with
     | some b=> some (a,b)
     | none=> none
    | none=> none
   | []=> none
  can:=fun p=> A.can p.1 ::B.can p.2
  canL:=fun p=> A.canL p.1++B.canL p.2
  ok:=by
   intro cfg L cs p h
   cases cs with
   | nil=> cases h
   | cons c r=>
    simp only at h
    split at h
    .rename_i a ha
     split at h
     .rename_i b hb
      cases h
      obtain ⟨h0,h1,h2⟩:=B.ok cfg L r b hb
      obtain ⟨h3,h4⟩:=A.ok cfg L c a ha
      grind
     .cases h
    .cases h }
structure ArgM (α:Type) where
 get:List (Tok × LC U)->List (V U)->List (List (C U))->Option α
 can:α->List (V U)
 canX:α->List (List (C U))
 canL:α->List (Tok × LC U)
 ok:∀ cfg:Cfg U,cfg.enc=enc->∀ L xs X a,get L xs X=some a->BetterAll cfg xs (can a) X (canX a)/\∀ y∈canL a,ZL (fun _=> none) L y.1=some y.2
def ArgM.nil:ArgM Unit:=
 {get:=fun _ xs X=> match xs,X with
   | [],[]=> some ()
   | _,_=> none
  can:=fun _=> []
  canX:=fun _=> []
  canL:=fun _=> []
  ok:=by
   intro cfg _ L xs X a h
   split at h
   .exact ⟨BetterAll.refl [] [],fun y hy=> by cases hy⟩
   .cases h }
def ArgM.cons{α β:Type}(A:Arg α)(B:ArgM β):ArgM (α × β):=
 {get:=fun L xs X=> match xs with
   | x ::r=> match A.get x with
    | some a=> match B.get L r X with
     | some b=> some (a,b)
     | none=> none
    | none=> none
   | []=> none
  can:=fun p=> A.can p.1 ::B.can p.2
  canX:=fun p=> B.canX p.2
  canL:=fun p=> B.canL p.2
  ok:=by
   intro cfg hc L xs X p h
   cases xs with
   | nil=> cases h
   | cons x r=>
    simp only at h
    split at h
    .rename_i a ha
     split at h
     .rename_i b hb
      cases h
      obtain ⟨hB,hBL⟩:=B.ok cfg hc L r X b hb
      refine ⟨?_,hBL⟩
      refine ⟨by simp [hB.len],fun j x' y hx hy=> ?_,hB.xlen,hB.xl,hB.x⟩
      cases j with
      | zero=> simp at hx hy;subst hx hy;exact A.ok cfg hc x a ha
      | succ j=> exact hB.args j x' y (by simpa using hx) (by simpa using hy)
     .cases h
    .cases h }
def isX(k o:Nat):V U->Bool
 | .ptr (.x k') off=> Nat.beq k k' && Nat.beq off o
 | _=> false
theorem ZGQ{k o:Nat}{v:V U}(h:isX k o v=true):v= .ptr (.x k) o:=by
 unfold isX at h
 split at h
 .rw [Q2] at h
  rw [Ql h.1,Ql h.2]
 .cases h
def ArgM.objAt{α β:Type}(k o:Nat)(A:ObjL α)(B:ArgM β):ArgM (α × β):=
 {get:=fun L xs X=> match xs,X with
   | x ::r,cs ::X'=> bif isX k o x then match A.get L cs with
    | some a=> match B.get L r X' with
     | some b=> some (a,b)
     | none=> none
    | none=> none
    else none
   | _,_=> none
  can:=fun p=> .ptr (.x k) o ::B.can p.2
  canX:=fun p=> A.can p.1 ::B.canX p.2
  canL:=fun p=> A.canL p.1++B.canL p.2
  ok:=by
   intro cfg hc L xs X p h
   split at h
   .rename_i x r cs X'
    cases hx:isX k o x with
    | false=> grind
    | true=>
     rw [hx] at h
     simp only [cond_true] at h
     have ex:=ZGQ hx
     subst ex
     split at h
     .rename_i a ha
      split at h
      .rename_i b hb
       cases h
       obtain ⟨hB,hBL⟩:=B.ok cfg hc L r X' b hb
       obtain ⟨hAL,hA⟩:=A.ok cfg L cs a ha
       refine ⟨?_,fun y hy=> (Qg.1 hy).elim (hAL y) (hBL y)⟩
       refine ⟨by simp [hB.len],fun j x' y hx hy=> ?_,by simp [hB.xlen],fun j x' y hx hy=> ?_,fun j x' y hx hy i c c' hcc hc'=> ?_⟩
       .cases j with
        | zero=> simp at hx hy;subst hx hy;exact fun _ _ _ h=> h
        | succ j=> exact hB.args j x' y (by simpa using hx) (by simpa using hy)
       .cases j with
        | zero=> simp at hx hy;subst hx hy;exact hA.1
        | succ j=> exact hB.xl j x' y (by simpa using hx) (by simpa using hy)
       .cases j with
        | zero=>
         simp at hx hy
         subst hx hy
         exact hA.2 i c c' hcc hc'
        | succ j=> exact hB.x j x' y (by simpa using hx) (by simpa using hy) i c c' hcc hc'
      .cases h
     .cases h
   .cases h }
def ArgM.obj{α β:Type}(k:Nat)(A:ObjL α)(B:ArgM β):ArgM (α × β):=ArgM.objAt k 0 A B
def fsX{α:Type}(A:ArgM α)(pre:α->List Prop)(res:α->V U)(resX:α->List (List (C U))):Fs U:=
 {fn:=fun xs X=> match A.get [] xs X with
   | some a=> some (pre a,res a,resX a)
   | none=> none }
theorem Zmf {Γ:Known U} {α:Type} {A:ArgM α} {pre:α->List Prop} {res:α->V U} {resX:α->List (List (C U))} (ok:CfgOk P cfg) (henc:cfg.enc=enc) (hΓ:∀ f s,Γ f=some s->Contract P cfg f s) {f:FuncId} {fn:Func} (lv:Zj U)
  (hf : P.funcs[f]? = some fn) (hb : fn.body = some (cd fn [])) (hname : (fn.name == "runtime.NumGoroutine") = false) (hn : ∀ a, (A.can a).length ≤ fn.ntmps)
  (hbody:∀ a,All (pre a)->awp cfg Γ (Z1P cfg Γ) fn.ntmps lv (cd fn []) (Zm (A.can a) (A.canX a)) (YZ cfg fn.ntmps fn.results.toList (res a) (resX a))):Contract P cfg f (fsX A pre res resX):=by
 refine ZfC ok hΓ (Z3w ok hΓ) lv hf hb hname ?_
 intro args X ps r X' d aa
 unfold fsX at d
 simp only at d
 split at d
 .rename_i a ha
  cases d
  exact ⟨A.can a,A.canX a,(A.ok cfg henc [] args X a ha).1,hn a,hbody a aa⟩
 .cases d
theorem Z14 {l:List (FuncId × Fs U)} {α:Type} {A:ArgM α} {pre:α->Prop} {res:α->V U} {resX:α->List (List (C U))} (ok:CfgOk P cfg) (henc:cfg.enc=enc) (hl:Z7c P cfg l) {f:FuncId} {fn:Func} (lv:Zj U)
  (hf : P.funcs[f]? = some fn) (hb : fn.body = some (cd fn [])) (hname : (fn.name == "runtime.NumGoroutine") = false) (n : Nat) (hn : ∀ a, (A.can a).length = n) (hn' : n ≤ fn.ntmps)
  (hbody:∀ a,pre a->awp cfg (Z3 l) (Z1P cfg (Z3 l)) fn.ntmps lv (cd fn []) (Zm (A.can a) (A.canX a)) (YZ cfg fn.ntmps fn.results.toList (res a) (resX a))):Contract P cfg f (fsX A (fun a=> [pre a]) res resX):=
 Zmf ok henc (Z19 hl) lv hf hb hname (fun a=> by grind) (fun a h=> hbody a h.1)
def Zqx{α:Type}(A:ArgM α)(pre:α->List Prop)(res:α->V U)(resX:α->List (List (C U)))(resL:α->List (Tok × LC U)):Fs U:=
 {wr:=true
  mkl:=true
  fn:=fun _ _=> none
  fn2:=fun xs X L=> match A.get L xs X with
   | some a=> some (pre a,res a,resX a,resL a)
   | none=> none }
theorem Zcr:∀ {L:List (Tok × LC U)} {t:Tok} {x:LC U},ZL (fun _=> none) L t=some x->(t,x)∈L
 | [],t,x,h=> by trivial
 | (a,y) ::L,t,x,h=> by
  simp only [ZL] at h
  split at h
  .grind
  .exact Q0 _ (Zcr h)
theorem Zj5 {Γ:Known U} {α:Type} {A:ArgM α} {pre:α->List Prop} {res:α->V U} {resX:α->List (List (C U))} {resL:α->List (Tok × LC U)} (ok:CfgOk P cfg) (henc:cfg.enc=enc) (hΓ:∀ f s,Γ f=some s->Contract P cfg f s) {f:FuncId} {fn:Func} (lv:Zj U)
  (hf : P.funcs[f]? = some fn) (hb : fn.body = some (cd fn [])) (hname : (fn.name == "runtime.NumGoroutine") = false) (hn : ∀ a, (A.can a).length ≤ fn.ntmps)
  (hbody:∀ a,All (pre a)->awp cfg Γ (Z1P cfg Γ) fn.ntmps lv (cd fn []) (Z2i (A.can a) (A.canX a) (A.canL a)) (Z5p cfg fn.ntmps fn.results.toList (res a) (resX a) (resL a))):Contract P cfg f (Zqx A pre res resX resL):=by
 refine Z75 ok hΓ (Z3w ok hΓ) lv hf hb hname ?_
 intro args X L ps r X' L' d aa
 unfold Zqx at d
 simp only at d
 split at d
 .rename_i a ha
  cases d
  obtain ⟨h1,h2⟩:=A.ok cfg henc L args X a ha
  exact ⟨A.can a,A.canX a,A.canL a,h1,fun t x hx=> h2 _ (Zcr hx),hn a,hbody a aa⟩
 .cases d
theorem Z1D {l:List (FuncId × Fs U)} {α:Type} {A:ArgM α} {pre:α->Prop} {res:α->V U} {resX:α->List (List (C U))} {resL:α->List (Tok × LC U)} (ok:CfgOk P cfg) (henc:cfg.enc=enc) (hl:Z7c P cfg l) {f:FuncId} {fn:Func} (lv:Zj U)
  (hf : P.funcs[f]? = some fn) (hb : fn.body = some (cd fn [])) (hname : (fn.name == "runtime.NumGoroutine") = false) (n : Nat) (hn : ∀ a, (A.can a).length = n) (hn' : n ≤ fn.ntmps)
  (hbody:∀ a,pre a->awp cfg (Z3 l) (Z1P cfg (Z3 l)) fn.ntmps lv (cd fn []) (Z2i (A.can a) (A.canX a) (A.canL a)) (Z5p cfg fn.ntmps fn.results.toList (res a) (resX a) (resL a))):Contract P cfg f (Zqx A (fun a=> [pre a]) res resX resL):=
 Zj5 (Γ:=Z3 l) ok henc (Z19 hl) lv hf hb hname (fun a=> by grind) (fun a h=> hbody a h.1)
def fsL{α:Type}(A:ArgL α)(pre:α->List Prop)(T:Ty)(res:α->List (El T)):Fs U:=
 {mkl:=true
  fn:=fun _ _=> none
  fn2:=fun xs X L=> match X,L with
   | [],[]=> match A.get xs with
    | some a=> some (pre a,.c (.mref (.r 0 0)),[],[(.r 0 0,LC.mk (U:=U) T (res a) 0)])
    | none=> none
   | _,_=> none }
theorem Z8t {l:List (FuncId × Fs U)} {α:Type} {A:ArgL α} {pre:α->Prop} {T:Ty} {res:α->List (El T)} (ok:CfgOk P cfg) (henc:cfg.enc=enc) (hl:Z7c P cfg l) {f:FuncId} {fn:Func} (lv:Zj U)
  (hf : P.funcs[f]? = some fn) (hb : fn.body = some (cd fn [])) (hname : (fn.name == "runtime.NumGoroutine") = false) (n : Nat) (hn : ∀ a, (A.can a).length = n) (hn' : n ≤ fn.ntmps)
  (hbody:∀ a,pre a->awp cfg (Zij l) (Z1P cfg (Zij l)) fn.ntmps lv (cd fn []) (Zm (A.can a) []) (Z5p cfg fn.ntmps fn.results.toList (.c (.mref (.r 0 0))) [] [(.r 0 0,LC.mk (U:=U) T (res a) 0)])):Contract P cfg f (fsL A (fun a=> [pre a]) T res):=by
 have kn:∀ f s,(Zij l) f=some s->Contract P cfg f s:=Z19 hl
 refine Z75 ok kn (Z3w ok kn) lv hf hb hname ?_
 intro args X L ps r X' L' d aa
 unfold fsL at d
 simp only at d
 split at d
 .split at d
  .rename_i a ha
   cases d
   obtain ⟨h1,h2⟩:=A.ok cfg henc args a ha
   exact ⟨A.can a,[],[],⟨h1,h2,rfl,fun k x y h=> by simp at h,fun k x y h=> by simp at h⟩,fun t x h=> h,by grind,hbody a aa.1⟩
  .cases d
 .cases d
def ZGS(s s':Fs U):Fs U:=
 {wr:=s.wr
  mkl:=s.mkl
  fn:=fun _ _=> none
  fn2:=fun xs X L=> match s.fn2 xs X L with
   | some r=> some r
   | none=> s'.fn2 xs X L }
theorem ZoH{f:FuncId}{s s':Fs U}(h:Contract P cfg f s)(h':Contract P cfg f s'):Contract P cfg f (ZGS s s'):=by
 refine ⟨h.1,fun args X L ps r X' L' he d hX w g vs E=> ?_⟩
 simp only [ZGS] at he
 split at he
 .rename_i r0 h0
  cases he
  exact h.2 args X L ps r X' L' h0 d hX w g vs E
 .exact h'.2 args X L ps r X' L' he d hX w g vs E
end Go.AM
namespace Go.AM
def aFn(f:FuncId):Arg Unit:=
 {get:=fun v=> match v with
   | .fn g=> if Nat.beq g f then some () else none
   | _=> none
  can:=fun _=> .fn f
  ok:=by
   intro cfg _ v a h
   split at h
   .split at h
    .rename_i hb
     rw [Ql hb]
     exact fun _ _ _ h=> h
    .cases h
   .cases h }
end Go.AM
namespace Go.AM.YtpjenobkibfpcaaGreat
open Go.AM Go.Proofs
def el:Ty->TypeId
 | .u64=> 101
 | .u8=> 5
 | .int=> 3
 | .tree=> 25
 | .wedit=> 113
 | .edit=> 30
 | .kid=> 115
 | .op=> 103
 | .piece=> 173
 | .unit=> 200
 | .pair=> 202
 | .left=> 110
 | .deed=> 56
 | .hdeed=> 82
def tb:Tables U:=
 {el:=el
  sl:=[(22,.u64),(23,.tree),(26,.wedit),(27,.kid),(28,.op),(39,.edit),(50,.deed),(78,.hdeed),(166,.piece),(182,.int),(188,.pair),(191,.unit),(221,.u8)]
  var:=[(2,false,[.int .i64 0]),
   (3,false,[.int .i64 0]),
   (4,false,[.bool false]),
   (5,false,[.int .u8 0]),
   (6,false,[.int .u8 0]),
   (7,true,[.int .i64 0,.int .i64 0,.bool false,.int .u8 0]),
   (8,true,[.int .i64 0,.int .i64 0,.bool false,.int .u8 0]),
   (12,false,[.int .u64 0]),
   (15,false,[.nilp]),
   (16,false,[.nilp]),
   (17,false,[.nilp]),
   (18,true,[.nilp]),
   (19,true,[.nilp]),
   (21,false,[.int .i32 0]),
   (22,false,[.nils]),
   (23,false,[.nils]),
   (24,true,[.int .i64 0,.nils,.nils]),
   (25,true,[.int .i64 0,.nils,.nils]),
   (26,false,[.nils]),
   (27,false,[.nils]),
   (28,false,[.nils]),
   (29,true,[.int .i64 0,.int .i64 0,.nils,.nils,.int .i64 0,.nils,.nils,.nils,.nils,.int .i64 0,.nils]),
   (30,true,[.int .i64 0,.int .i64 0,.nils,.nils,.int .i64 0,.nils,.nils,.nils,.nils,.int .i64 0,.nils]),
   (33,false,[.int .i64 0]),
   (39,false,[.nils]),
   (50,false,[.nils]),
   (52,false,[.nilp]),
   (55,true,[.int .i64 0,.int .i64 0,.int .i64 0,.int .i64 0,.nils,.nils,.int .i64 0,.nils,.nils,.nils,.nils,.int .i64 0,.nils]),
   (56,true,[.int .i64 0,.int .i64 0,.int .i64 0,.int .i64 0,.nils,.nils,.int .i64 0,.nils,.nils,.nils,.nils,.int .i64 0,.nils]),
   (62,false,[.nilp]),
   (64,true,[.int .i64 0,.nils,.nils,.int .i64 0,.nils,.nils,.nils,.nils]),
   (65,true,[.int .i64 0,.nils,.nils,.int .i64 0,.nils,.nils,.nils,.nils]),
   (71,false,[.nilp]),
   (78,false,[.nils]),
   (79,false,[.nilp]),
   (81,true,[.int .i64 0,.int .i64 0,.int .i64 0,.int .i64 0,.int .i64 0,.nils,.nils,.int .i64 0,.nils,.nils,.nils,.nils,.int .i64 0,.nils]),
   (82,true,[.int .i64 0,.int .i64 0,.int .i64 0,.int .i64 0,.int .i64 0,.nils,.nils,.int .i64 0,.nils,.nils,.nils,.nils,.int .i64 0,.nils]),
   (85,false,[.nilp]),
   (86,true,[.nilp,.nilp,.nilp,.nilp]),
   (87,false,[.nilp]),
   (88,false,[.nilp]),
   (89,true,[.nilp,.nilp,.nilp,.nilp]),
   (90,true,[.nilp,.nilp,.nilp,.nilp,.nilp,.nilp,.nilp,.nilp,.nilp,.nilp]),
   (91,true,[.nilp,.nilp,.nilp,.nilp,.nilp,.nilp,.nilp,.nilp,.nilp,.nilp]),
   (101,false,[.int .u64 0]),
   (102,true,[.int .i64 0,.int .i64 0,.nils,.int .i64 0,.int .i64 0,.nils,.nils,.int .i64 0,.nils,.nils,.nils,.nils,.int .i64 0,.nils]),
   (103,true,[.int .i64 0,.int .i64 0,.nils,.int .i64 0,.int .i64 0,.nils,.nils,.int .i64 0,.nils,.nils,.nils,.nils,.int .i64 0,.nils]),
   (104,false,[.nilp]),
   (105,true,[.bool false,.bool false]),
   (106,true,[.bool false,.bool false]),
   (109,true,[.int .i64 0,.int .i64 0,.nils,.nils,.int .i64 0,.nils,.nils,.nils,.nils,.int .i64 0,.nils,.int .i64 0,.int .i64 0,.nils,.nils,.int .i64 0,.nils,.nils,.nils,.nils,.int .i64 0,.nils,.bool false,.bool false]),
   (110,true,[.int .i64 0,.int .i64 0,.nils,.nils,.int .i64 0,.nils,.nils,.nils,.nils,.int .i64 0,.nils,.int .i64 0,.int .i64 0,.nils,.nils,.int .i64 0,.nils,.nils,.nils,.nils,.int .i64 0,.nils,.bool false,.bool false]),
   (112,true,[.int .i64 0,.int .u8 0,.int .u64 0,.int .u64 0]),
   (113,true,[.int .i64 0,.int .u8 0,.int .u64 0,.int .u64 0]),
   (114,true,[.int .i64 0,.int .i64 0,.int .i64 0,.nils,.nils,.int .i64 0,.nils,.nils,.nils,.nils,.int .i64 0,.nils]),
   (115,true,[.int .i64 0,.int .i64 0,.int .i64 0,.nils,.nils,.int .i64 0,.nils,.nils,.nils,.nils,.int .i64 0,.nils]),
   (123,true,[.int .i64 0,.nils,.nils,.nils,.nils]),
   (124,true,[.int .i64 0,.nils,.nils,.nils,.nils]),
   (130,true,[.int .i64 0,.nils,.nils,.nils]),
   (131,true,[.int .i64 0,.nils,.nils,.nils]),
   (136,true,[.int .i64 0,.nils,.nils,.int .i64 0,.nils,.nils,.nils]),
   (137,true,[.int .i64 0,.nils,.nils,.int .i64 0,.nils,.nils,.nils]),
   (138,true,[.int .i64 0,.nils,.nils,.int .i64 0,.int .i64 0,.int .i64 0,.nils,.nils,.int .i64 0,.nils,.nils,.nils,.nils,.int .i64 0,.nils]),
   (139,true,[.int .i64 0,.nils,.nils,.int .i64 0,.int .i64 0,.int .i64 0,.nils,.nils,.int .i64 0,.nils,.nils,.nils,.nils,.int .i64 0,.nils]),
   (141,true,[.int .i64 0,.nils,.nils,.int .i64 0,.int .i64 0,.int .i64 0,.nils,.nils,.int .i64 0,.nils,.nils,.nils,.nils,.int .i64 0,.nils]),
   (142,true,[.int .i64 0,.nils,.nils,.int .i64 0,.int .i64 0,.int .i64 0,.nils,.nils,.int .i64 0,.nils,.nils,.nils,.nils,.int .i64 0,.nils]),
   (166,false,[.nils]),
   (169,false,[.nilp]),
   (170,true,[.nilp,.nils,.nils,.nils,.nils]),
   (171,true,[.nilp,.nils,.nils,.nils,.nils]),
   (172,true,[.int .i64 0,.int .i64 0,.int .i64 0,.nils,.int .i64 0,.int .i64 0,.nils,.nils,.int .i64 0,.nils,.nils,.nils,.nils,.int .i64 0,.nils,.int .i64 0,.int .i64 0,.nils,.int .i64 0,.int .i64 0,.nils,.nils,.int .i64 0,.nils,.nils,.nils,.nils,.int .i64 0,.nils]),
   (173,true,[.int .i64 0,.int .i64 0,.int .i64 0,.nils,.int .i64 0,.int .i64 0,.nils,.nils,.int .i64 0,.nils,.nils,.nils,.nils,.int .i64 0,.nils,.int .i64 0,.int .i64 0,.nils,.int .i64 0,.int .i64 0,.nils,.nils,.int .i64 0,.nils,.nils,.nils,.nils,.int .i64 0,.nils]),
   (176,false,[.nilp]),
   (177,true,[.nils,.nils,.nils]),
   (178,true,[.nils,.nils,.nils]),
   (181,false,[.nilp]),
   (182,false,[.nils]),
   (188,false,[.nils]),
   (191,false,[.nils]),
   (199,true,[.int .i64 0,.int .i64 0,.int .i64 0,.nils,.nils,.int .i64 0,.int .i64 0,.nils,.nils,.int .i64 0,.nils,.nils,.nils,.nils,.int .i64 0,.nils,.bool false]),
   (200,true,[.int .i64 0,.int .i64 0,.int .i64 0,.nils,.nils,.int .i64 0,.int .i64 0,.nils,.nils,.int .i64 0,.nils,.nils,.nils,.nils,.int .i64 0,.nils,.bool false]),
   (201,true,[.int .i64 0,.int .i64 0,.int .i64 0,.int .i64 0,.nils,.nils,.int .i64 0,.int .i64 0,.nils,.nils,.int .i64 0,.nils,.nils,.nils,.nils,.int .i64 0,.nils,.bool false,.int .i64 0,.int .i64 0,.int .i64 0,.nils,.nils,.int .i64 0,.int .i64 0,.nils,.nils,.int .i64 0,.nils,.nils,.nils,.nils,.int .i64 0,.nils,.bool false]),
   (202,true,[.int .i64 0,.int .i64 0,.int .i64 0,.int .i64 0,.nils,.nils,.int .i64 0,.int .i64 0,.nils,.nils,.int .i64 0,.nils,.nils,.nils,.nils,.int .i64 0,.nils,.bool false,.int .i64 0,.int .i64 0,.int .i64 0,.nils,.nils,.int .i64 0,.int .i64 0,.nils,.nils,.int .i64 0,.nils,.nils,.nils,.nils,.int .i64 0,.nils,.bool false]),
   (217,true,[.int .u8 0,.int .u8 0,.int .u8 0,.int .u8 0,.int .u8 0,.int .u8 0,.int .u8 0,.int .u8 0]),
   (221,false,[.nils]),
   (227,false,[.nilp]),
   (228,true,[.nils,.int .i64 0]),
   (229,true,[.nils,.int .i64 0]),
   (259,true,[.int .i64 0,.int .i64 0,.int .i64 0,.int .i64 0,.int .i64 0,.int .i64 0]),
   (267,false,[.int .u32 0]),
   (268,false,[.int .u8 0]),
   (269,false,[.int .u8 0]),
   (271,false,[.nilp]),
   (272,false,[.int .i32 0]),
   (273,false,[.int .i32 0])]
  fld:=[(7,0,0,2),(7,1,1,3),(7,2,2,4),(7,3,3,6),(8,0,0,2),(8,1,1,3),(8,2,2,4),(8,3,3,6),(18,0,0,17),(19,0,0,17),(24,0,0,3),(24,1,1,22),(24,2,2,23),(25,0,0,3),(25,1,1,22),(25,2,2,23),(29,0,0,3),(29,1,1,25),(29,2,4,25),(29,3,7,26),(29,4,8,27),(29,5,9,3),(29,6,10,28),(30,0,0,3),(30,1,1,25),(30,2,4,25),(30,3,7,26),(30,4,8,27),(30,5,9,3),(30,6,10,28),(55,0,0,3),(55,1,1,3),(55,2,2,30),(56,0,0,3),(56,1,1,3),(56,2,2,30),(64,0,0,25),(64,1,3,25),(64,2,6,39),(64,3,7,39),(65,0,0,25),(65,1,3,25),(65,2,6,39),(65,3,7,39),(81,0,0,3),(81,1,1,3),(81,2,2,3),(81,3,3,30),(82,0,0,3),(82,1,1,3),(82,2,2,3),(82,3,3,30),(90,0,0,71),(90,1,1,86),(90,2,5,87),(90,3,6,89),(91,0,0,71),(91,1,1,86),(91,2,5,87),(91,3,6,89),(102,0,0,3),(102,1,1,3),(102,2,2,23),(102,3,3,30),(103,0,0,3),(103,1,1,3),(103,2,2,23),(103,3,3,30),(105,0,0,4),(105,1,1,4),(106,0,0,4),(106,1,1,4),(109,0,0,30),(109,1,11,30),(109,2,22,4),(109,3,23,4),(110,0,0,30),(110,1,11,30),(110,2,22,4),(110,3,23,4),(112,0,0,3),(112,1,1,5),(112,2,2,101),(112,3,3,101),(113,0,0,3),(113,1,1,5),(113,2,2,101),(113,3,3,101),(114,0,0,3),(114,1,1,30),(115,0,0,3),(115,1,1,30),(123,0,0,25),(123,1,3,39),(123,2,4,39),(124,0,0,25),(124,1,3,39),(124,2,4,39),(130,0,0,25),(130,1,3,39),(131,0,0,25),(131,1,3,39),(136,0,0,25),(136,1,3,25),(136,2,6,39),(137,0,0,25),(137,1,3,25),(137,2,6,39),(138,0,0,25),(138,1,3,3),(138,2,4,30),(139,0,0,25),(139,1,3,3),(139,2,4,30),(141,0,0,25),(141,1,3,3),(141,2,4,30),(142,0,0,25),(142,1,3,3),(142,2,4,30),(170,0,0,104),(170,1,1,28),(170,2,2,28),(170,3,3,23),(170,4,4,23),(171,0,0,104),(171,1,1,28),(171,2,2,28),(171,3,3,23),(171,4,4,23),(172,0,0,3),(172,1,1,103),(172,2,15,103),(173,0,0,3),(173,1,1,103),(173,2,15,103),(177,0,0,28),(177,1,1,23),(177,2,2,23),(178,0,0,28),(178,1,1,23),(178,2,2,23),(199,0,0,3),(199,1,1,3),(199,2,2,25),(199,3,5,30),(199,4,16,4),(200,0,0,3),(200,1,1,3),(200,2,2,25),(200,3,5,30),(200,4,16,4),(201,0,0,3),(201,1,1,200),(201,2,18,200),(202,0,0,3),(202,1,1,200),(202,2,18,200),(228,0,0,28),(228,1,1,3),(229,0,0,28),(229,1,1,3)]
  arr:=[(86,4,85),(89,4,88),(217,8,5),(259,6,3)]
  eqs:=[7,8,105,106,112,113] }
def cfg:Cfg U:=tb.cfg K
theorem ZJW:tb.var.all (ZBz Tryz.prog)=true:=V6
theorem ZLh:tb.sl.all (slB Tryz.prog tb.el)=true:=V6
theorem ZKc:tb.fld.all (ZGT Tryz.prog)=true:=V6
theorem ZKk:tb.arr.all (ZHQ Tryz.prog)=true:=V6
theorem ZLj:∀ t,elB Tryz.prog K tb t=true:=by
 intro t
 cases t
 .kernel_rfl
 .kernel_rfl
 .kernel_rfl
 .kernel_rfl
 .kernel_rfl
 .kernel_rfl
 .kernel_rfl
 .kernel_rfl
 .kernel_rfl
 .kernel_rfl
 .kernel_rfl
 .kernel_rfl
 .kernel_rfl
 .kernel_rfl
theorem Zo:CfgOk Tryz.prog cfg:=Zut ZLF ZJW ZLh ZKc ZKk ZLj V6 V6
abbrev sU(T:Ty)(l:List (El T))(t:Tail):C U:= .slice (U:=U) T l t
noncomputable abbrev AW(K:Known U)(f:Func)(lv:Zj U)(p:List Nat):=awp cfg K (Z1P cfg K) f.ntmps lv (cd f p)
noncomputable abbrev SW(K:Known U)(f:Func)(lv:Zj U)(p:List Nat):=ZLi cfg K (Z1P cfg K) f.ntmps lv (cd f p)
abbrev EQ(f:Func):=YZ cfg f.ntmps f.results.toList
abbrev QT:=AExit->LSt U->Prop
abbrev NT:=LSt U->Prop
abbrev CT(k:FuncId)(s:Fs U):Prop:=Contract Tryz.prog cfg k s
abbrev xB:=@AExit.inBlock U
abbrev xT:=@AExit.then U
abbrev ci(x:Int):C U:= .int .i64 x
abbrev L2(e:List (Nat × V U))(m:List (Name × List (C U))):LSt U:=⟨e,m,[]⟩
abbrev zb8(f:Int->Nat->Int)(x:Int):List (C U):=[.int .u8 (f x 0),.int .u8 (f x 1),.int .u8 (f x 2),.int .u8 (f x 3),.int .u8 (f x 4),.int .u8 (f x 5),.int .u8 (f x 6),.int .u8 (f x 7)]
abbrev zi8(l:List Int):List (C U):=l.map fun x=> .int .u8 x
abbrev FK (k : FuncId) : Prop := ∃ fn, Tryz.prog.funcs[k]? = some fn ∧ fn.body.isSome = true ∧ (fn.name == "runtime.NumGoroutine") = false
abbrev pL(n:Nat):Nat × V U:=(n,.ptr (.loc n) 0)
abbrev pB(n:Nat)(b:Bool):Nat × V U:=(n,.c (.bool b))
abbrev pI(n:Nat)(x:Int):Nat × V U:=(n,.c (.int .i64 x))
def lvl(l:List (List Nat × List Nat)):Zj U:=fun i=> ((l.getD i ([],[])).1.map fun k=> (k,[]),(l.getD i ([],[])).2.map fun k=> (.loc k,[]))
instance (n:Nat):OfNat (Nat × List (Sk U)) n:=⟨(n,[])⟩
instance (n:Nat):OfNat (Name × List (Sk U)) n:=⟨(.loc n,[])⟩
abbrev an(n:Nat)(l:List (Sk U)):List (Sk U):=List.replicate n .any++l
def lvk(l:List (List (Nat × List (Sk U)) × List (Name × List (Sk U)))):Zj U:=fun i=> l.getD i ([],[])
abbrev zc0:List (C U):=[.int .u8 0,.int .u8 0,.int .u8 0,.int .u8 0,.int .u8 0,.int .u8 0,.int .u8 0,.int .u8 0]
abbrev zc1:List (C U):=[.int .i64 0,.int .i64 0,.nils,.nils,.int .i64 0,.nils,.nils,.nils,.nils,.int .i64 0,.nils]
abbrev zc2:List (C U):=[.int .i64 0,.int .i64 0,.nils,.int .i64 0,.int .i64 0,.nils,.nils,.int .i64 0,.nils,.nils,.nils,.nils,.int .i64 0,.nils]
end Go.AM.YtpjenobkibfpcaaGreat
namespace Go.AM.YtpjenobkibfpcaaGreat
open Go.AM Go.Proofs Go.Proofs.YtpjenobkibfpcaaGreat Go.ChangeShapes Go.WideShapes Go.RowKit
theorem own:ownKnob Tryz.prog.godebug=none:=V6
theorem ZCT:laidOutB Tryz.prog=true:=V6
theorem Zdq:TreeTypes cfg:=⟨rfl,rfl,⟨_,rfl⟩,⟨_,rfl⟩,⟨_,rfl,rfl⟩,⟨_,_,rfl,rfl⟩,⟨_,_,rfl,rfl,rfl⟩,⟨_,_,rfl,rfl,rfl⟩⟩
theorem Zkk:EditTypes cfg:=⟨⟨_,rfl,rfl⟩,⟨_,_,rfl,rfl⟩,⟨_,_,rfl,rfl⟩,⟨_,_,rfl,rfl⟩,⟨_,_,rfl,rfl⟩,⟨_,rfl,rfl⟩,⟨_,_,rfl,rfl⟩,rfl,⟨_,rfl,rfl⟩,⟨_,_,rfl,rfl⟩,⟨_,_,rfl,rfl⟩,⟨_,_,rfl,rfl,rfl⟩,rfl,⟨_,rfl,rfl⟩,⟨_,_,rfl,rfl⟩,rfl,rfl,⟨_,_,rfl,rfl,rfl⟩,⟨_,_,rfl,rfl,rfl⟩,⟨_,_,rfl,rfl⟩,⟨_,_,rfl,rfl,rfl⟩⟩
theorem ZDf{H:Type}{henc:TypeId × Value->H}:Zw1 henc Tryz.prog cfg (aEl .tree) 25 inT:=Zua Zo rfl ⟨_,_,rfl⟩ (fun _ n cs h=> ZfX Zo Zdq n cs h)
theorem ZDh{H:Type}{henc:TypeId × Value->H}:Zw1 henc Tryz.prog cfg (aEl .edit) 30 inE:=Zua Zo rfl ⟨_,_,rfl⟩ (fun _ n cs h=> Zs2 Zo Zdq Zkk n cs h)
theorem ZAH{H:Type}{henc:TypeId × Value->H}:Zw1 henc Tryz.prog cfg (aSl .edit) 39 (fun l=> l.length*cfg.bytes .edit<=reachBytes/\∀ e∈l,inE e):=
 ZDg Zo rfl (fun _ n cs h=> Zs2 Zo Zdq Zkk n cs h)
end Go.AM.YtpjenobkibfpcaaGreat
namespace Go.AM.YtpjenobkibfpcaaGreat
open Go.AM Go.Proofs
noncomputable section
def ZqO:ArgL (Tree × Int × Int × Unit):=(.cons (aEl .tree) (.cons (Z0h .i64) (.cons (Z0h .i64) .nil)))
def Zc0(a:Tree × Int × Int × Unit):Prop:=Z0R a.1/\0<=a.2.1/\a.2.1<=4611686018427387904/\-1<=a.2.2.1/\a.2.2.1<=4611686018427387904
def ZuY(a:Tree × Int × Int × Unit):Nat:=Zq a.1
def Znn(a:Tree × Int × Int × Unit):V U:= .c (ci (ZT a.1 a.2.1 a.2.2.1))
def Z7t:Fs U:=fs ZqO (fun a=> [Zc0 a]) Znn
def ZAz:ArgL (Tree × Unit):=(.cons (aEl .tree) .nil)
def Zs6(a:Tree × Unit):Prop:=Z0R a.1
def ZEW(a:Tree × Unit):V U:= .c (.bool (decide (0<=ZT a.1 80 3000)))
def ZgN:Fs U:=fs ZAz (fun a=> [Zs6 a]) ZEW
def ZAt:ArgL (List Int × List Int × Unit):=(.cons (aSl .u64) (.cons (aSl .u64) .nil))
def ZjM(a:List Int × List Int × Unit):Prop:=a.1.length<=1000000000000
def Zno(a:List Int × List Int × Unit):V U:= .c (.bool (decide (a.1=a.2.1)))
def ZgE:Fs U:=fs ZAt (fun a=> [ZjM a]) Zno
def ZAq:ArgL (List Int × Unit):=(.cons (aSl .u64) .nil)
def Znw(a:List Int × Unit):Prop:=a.1.length<=1000000000000
def ZxE(a:List Int × Unit):V U:= .c (sU .u64 (trim a.1) .unk)
def ZgC:Fs U:=fs ZAq (fun a=> [Znw a]) ZxE
def Zy8(a:List Int × Unit):V U:= .c (sU .u64 a.1 .unk)
def ZbI:Fs U:=fs ZAq (fun a=> [Znw a]) Zy8
def ZtT:ArgL (Tree × Int × Unit):=(.cons (aEl .tree) (.cons (Z0h .i64) .nil))
def ZdQ(a:Tree × Int × Unit):Prop:=True
def Zlf(a:Tree × Int × Unit):V U:= .c (.int .u64 (Ji a.1 a.2.1))
def Z3h:Fs U:=fs ZtT (fun a=> [ZdQ a]) Zlf
def Zle(a:Tree × Int × Unit):V U:= .agg (enc .tree (Z0z a.1 a.2.1))
def Z3g:Fs U:=fs ZtT (fun a=> [ZdQ a]) Zle
def Z0W(a:Tree × Unit):Prop:=Zq a.1<=1000000000000
def Zv0(a:Tree × Unit):Nat:=Zq a.1
def ZjI(a:Tree × Unit):V U:= .agg (enc .tree (Z6 a.1))
def Z1g:Fs U:=fs ZAz (fun a=> [Z0W a]) ZjI
def ZqT:ArgL (Tree × Tree × Unit):=(.cons (aEl .tree) (.cons (aEl .tree) .nil))
def Z4g(a:Tree × Tree × Unit):Prop:=Zq a.1<=1000000000000
def Zv1(a:Tree × Tree × Unit):Nat:=Zq a.1
def ZjJ(a:Tree × Tree × Unit):V U:= .c (.bool (YM a.1 a.2.1))
def Z25:Fs U:=fs ZqT (fun a=> [Z4g a]) ZjJ
def Z4j(a:Tree × Tree × Unit):Prop:=Zq a.1<=1000000000000/\Zq a.2.1<=1000000000000
def ZjX(a:Tree × Tree × Unit):Nat:=Zq a.1+Zq a.2.1
def ZaK(a:Tree × Tree × Unit):V U:= .c (.bool (YM (Z6 a.1) (Z6 a.2.1)))
def Z0i:Fs U:=fs ZqT (fun a=> [Z4j a]) ZaK
def Zqf(N:Nat):List (FuncId × Fs U):=(80,fs ZqO (fun a=> [Zc0 a,ZuY a < N]) Znn) ::[]
def ZCF:Zj U:=lvl [([1,2,3],[3]),([1,2,3],[3]),([1,2,3,19],[3]),([6],[]),([1,2,3,7],[3]),([1,2,3,7,28],[3]),([1,2,3,7],[3]),([1,2,3,7],[3]),([6],[])]
def ZcH(t:Tree)(d l h s:Int):LSt U:=(L2 [pI 1 d,pI 2 h,pL 3,pI 7 s] [(.loc 3,(enc .tree t))])
abbrev A80(N:Nat)(p:List Nat):=AW (Z3 (Zqf N)) Tryz.f80 ZCF p
abbrev S80(N:Nat)(p:List Nat):=SW (Z3 (Zqf N)) Tryz.f80 ZCF p
theorem ZKM(N:Nat)(t:Tree)(d l:Int)(Q:QT)(h:((InR (l - 1))/\(InR (((l - 1):Int) - (t.words.length:Int)))/\((Tt (!(d==0)))/\((d==0)=false->(!(d==0))=true)/\(iB (bif (d==0) then true else (decide (((((l - 1):Int) - (t.words.length:Int)):Int) < 0))) ((Q .ret (L2 [pI 6 (-1)] []))) ((Zi (A80 N [1,1,1,0,1,0,0]) (ZcH t d l (((l - 1):Int) - (t.words.length:Int)) 0) (xB 0 (S80 N [1,1,1,1] Q)))))))):
  A80 N [] (L2 [(0,.agg (enc .tree t)),pI 1 d,pI 2 l] []) Q:=
 Eq.mpr V6 h
theorem ZB7(N:Nat)(t:Tree)(d l x2 s:Int)(N0:NT)(Q:QT)(h:let z2:=t.kids.getD s.toNat Tree.nil;let z1:=decide (s < (t.kids.length:Int));let z0:=Tree.mk (Tree.kind z2) (Tree.words z2) (Tree.kids z2);(Tt z1)/\(Tt z1)/\(iB (bif z1 then (decide ((0:Int)<=x2)) else false) (((0:Int)<=s/\s < (t.kids.length:Int))/\(InR (d - 1))/\(Zc0 (z0,(d - 1),x2,()))/\(ZuY (z0,(d - 1),x2,()) < N)/\((InR (s+1))/\(N0 (ZcH t d l (ZT z0 (d - 1) x2) (s+1))))) ((Q .ret (L2 [pI 6 x2] []))))):
  A80 N [1,1,1,0,1,0,0] (ZcH t d l x2 s) (xT N0 (xB 0 (S80 N [1,1,1,1] Q))):=
 Eq.mpr V6 h
def ZI5(N:Nat)(t:Tree)(d l:Int):Prop:=AW (Z3 (Zqf N)) Tryz.f80 ZCF [] (Zm (ZqO.can (t,d,l,())) []) (EQ Tryz.f80 (Znn (t,d,l,())) [])
theorem ZGf(hb:∀ (N:Nat) (t:Tree) (d:Int) (l:Int) (_:Unit),Zc0 (t,d,l,())->ZuY (t,d,l,()) < N+1->ZI5 N t d l):CT 80 Z7t:=
 YX (μ:=ZuY) (l:=[]) Zo rfl trivial ZCF Tryz.func80 rfl rfl 3 (fun _=> rfl) V3 (fun N ⟨t,d,l,_⟩=> hb N t d l ())
def ZzI:List (FuncId × Fs U):=[(80,Z7t)]
def ZGI:Zj U:=lvl [([1],[1]),([2],[])]
abbrev A30(p:List Nat):=AW (Z3 ZzI) Tryz.f30 ZGI p
theorem ZL2(t:Tree)(Q:QT)(h:let z0:=Tree.mk t.kind t.words t.kids;((Zc0 (z0,80,3000,()))/\(Q .ret (L2 [(2,.c (.bool (decide ((0:Int)<=(ZT z0 80 3000)))))] [])))):
  A30 [] (L2 [(0,.agg (enc .tree t))] []) Q:=
 Eq.mpr V6 h
def ZIl(t:Tree):Prop:=AW (Z3 ZzI) Tryz.f30 ZGI [] (Zm (ZAz.can (t,())) []) (EQ Tryz.f30 (ZEW (t,())) [])
theorem ZGq(c80:CT 80 Z7t)(hb:∀ (t:Tree) (_:Unit),Zs6 (t,())->ZIl t):CT 30 ZgN:=
 Z9 (l:=[(80,Z7t)]) Zo rfl (⟨c80,trivial⟩) ZGI Tryz.func30 rfl rfl 1 (fun _=> rfl) V3 (fun ⟨t,_⟩=> hb t ())
def Zqg:List (FuncId × Fs U):=[]
def ZCG:Zj U:=lvl [([0,1],[]),([0,1,10],[]),([4],[]),([0,1,5],[]),([0,1,5,14],[]),([0,1,5],[]),([0,1,5,25],[]),([4],[]),([4],[])]
def ZcI(a b:List Int)(d:Int):LSt U:=(L2 [(0,.c (sU .u64 a .unk)),(1,.c (sU .u64 b .unk)),pI 5 d] [])
abbrev A76(p:List Nat):=AW (Z3 Zqg) Tryz.f76 ZCG p
abbrev S76(p:List Nat):=SW (Z3 Zqg) Tryz.f76 ZCG p
theorem ZKO(a b:List Int)(Q:QT)(h:(iB (((a.length:Int):Int) !=(b.length:Int)) ((Q .ret (L2 [pB 4 false] []))) ((Zi (A76 [1,1,0,1,0,0]) (ZcI a b 0) (xB 0 (S76 [1,1,1] Q)))))):
  A76 [] (L2 [(0,.c (sU .u64 a .unk)),(1,.c (sU .u64 b .unk))] []) Q:=
 Eq.mpr V6 h
theorem ZBa(a b:List Int)(d:Int)(N0:NT)(Q:QT)(h:(iB (decide (d < (a.length:Int))) (((0:Int)<=d/\d < (a.length:Int))/\((0:Int)<=d/\d < (b.length:Int))/\(iB (((a.getD d.toNat (0:Int)):Int) !=(b.getD d.toNat (0:Int))) ((Q .ret (L2 [pB 4 false] []))) ((InR (d+1))/\(N0 (ZcI a b (d+1)))))) ((Q .ret (L2 [pB 4 true] []))))):
  A76 [1,1,0,1,0,0] (ZcI a b d) (xT N0 (xB 0 (S76 [1,1,1] Q))):=
 Eq.mpr V6 h
def ZI7(a b:List Int):Prop:=AW (Z3 Zqg) Tryz.f76 ZCG [] (Zm (ZAt.can (a,b,())) []) (EQ Tryz.f76 (Zno (a,b,())) [])
theorem ZGg(hb:∀ (a:List Int) (b:List Int) (_:Unit),ZjM (a,b,())->ZI7 a b):CT 76 ZgE:=
 Z9 (l:=[]) Zo rfl trivial ZCG Tryz.func76 rfl rfl 2 (fun _=> rfl) V3 (fun ⟨a,b,_⟩=> hb a b ())
def ZCD:Zj U:=lvl [([0],[]),([0,3],[]),([0,3,16],[]),([0,3],[]),([0,3,4],[]),([2],[])]
def ZcF(l:List Int)(d:Int):LSt U:=(L2 [(0,.c (sU .u64 l .unk)),pI 3 d] [])
abbrev A86(p:List Nat):=AW (Z3 Zqg) Tryz.f86 ZCD p
abbrev S86(p:List Nat):=SW (Z3 Zqg) Tryz.f86 ZCD p
theorem ZKJ(l:List Int)(Q:QT)(h:(Zi (A86 [1,1,0,0,0]) (ZcF l (l.length:Int)) (xB 0 (S86 [1,1,1] Q)))):
  A86 [] (L2 [(0,.c (sU .u64 l .unk))] []) Q:=
 Eq.mpr V6 h
theorem ZB5(l:List Int)(d:Int)(N0:NT)(Q:QT)(h:let z0:=decide ((0:Int) < d);(Tt z0)/\(z0=true->InR (d - 1))/\(Tt z0)/\(Tt z0)/\(z0=true->(0:Int)<=(d - 1)/\(d - 1) < (l.length:Int))/\(Tt z0)/\(Tt z0)/\(Tt z0)/\(iB (bif z0 then (((List.getD l (Int.toNat (d - 1)) (0:Int)):Int)==0) else false) ((InR (d - 1))/\(N0 (ZcF l (d - 1)))) ((((0:Int)<=d/\d<=(l.length:Int))/\((([]:List Int).length+(List.take d.toNat l).length)*8<=140737488355328)/\(Q .ret (L2 [(2,.c (sU .u64 (([]:List Int)++(List.take d.toNat l)) (.own (.e 2 0))))] [])))))):
  A86 [1,1,0,0,0] (ZcF l d) (xT N0 (xB 0 (S86 [1,1,1] Q))):=
 Eq.mpr V6 h
def ZI2(l:List Int):Prop:=AW (Z3 Zqg) Tryz.f86 ZCD [] (Zm (ZAq.can (l,())) []) (EQ Tryz.f86 (ZxE (l,())) [])
theorem ZGc(hb:∀ (l:List Int) (_:Unit),Znw (l,())->ZI2 l):CT 86 ZgC:=
 Z9 (l:=[]) Zo rfl trivial ZCD Tryz.func86 rfl rfl 1 (fun _=> rfl) V3 (fun ⟨l,_⟩=> hb l ())
def Zzl:Zj U:=lvl [([0],[]),([0,4],[]),([2],[]),([2],[])]
abbrev ZM4(p:List Nat):=AW (Z3 Zqg) Tryz.f117 Zzl p
theorem ZJL(l:List Int)(Q:QT)(h:(((l=[])->(Q .ret (L2 [(2,.c (.nils))] [])))/\(True->((([]:List Int).length+l.length)*8<=140737488355328)/\(Q .ret (L2 [(2,.c (sU .u64 (([]:List Int)++l) (.own (.e 2 0))))] []))))):
  ZM4 [] (L2 [(0,.c (sU .u64 l .unk))] []) Q:=
 Eq.mpr V6 h
def ZED(l:List Int):Prop:=AW (Z3 Zqg) Tryz.f117 Zzl [] (Zm (ZAq.can (l,())) []) (EQ Tryz.f117 (Zy8 (l,())) [])
theorem ZCy(hb:∀ (l:List Int) (_:Unit),Znw (l,())->ZED l):CT 117 ZbI:=
 Z9 (l:=[]) Zo rfl trivial Zzl Tryz.func117 rfl rfl 1 (fun _=> rfl) V3 (fun ⟨l,_⟩=> hb l ())
def Zsv:Zj U:=lvl [([0,1],[]),([0,1,10],[]),([4],[]),([0,1,12,13],[]),([0,1,12,13,14],[]),([0,1,5,12,13],[]),([0,1,12,13,24],[]),([4],[]),([0,1,12,13],[]),([4],[])]
def Z9s(a b:List Int)(d:Int):LSt U:=(L2 [(0,.c (sU .u64 a .unk)),(1,.c (sU .u64 b .unk)),pI 12 (a.length:Int),pI 13 d] [])
abbrev ZIG(p:List Nat):=AW (Z3 Zqg) Tryz.f172 Zsv p
abbrev ZKv(p:List Nat):=SW (Z3 Zqg) Tryz.f172 Zsv p
theorem ZJo(a b:List Int)(Q:QT)(h:(iB (((a.length:Int):Int) !=(b.length:Int)) ((Q .ret (L2 [pB 4 false] []))) ((Zi (ZIG [1,1,0,1,0,0]) (Z9s a b 0) (xB 0 (ZKv [1,1,1] Q)))))):
  ZIG [] (L2 [(0,.c (sU .u64 a .unk)),(1,.c (sU .u64 b .unk))] []) Q:=
 Eq.mpr V6 h
theorem ZwB(a b:List Int)(d:Int)(N0:NT)(Q:QT)(h:(iB (decide (d < (a.length:Int))) ((((0:Int)<=d/\d < (a.length:Int))/\((0:Int)<=d/\d < (b.length:Int))/\(iB (((a.getD d.toNat (0:Int)):Int) !=(b.getD d.toNat (0:Int))) ((Q .ret (L2 [pB 4 false] []))) ((InR (d+1))/\(N0 (Z9s a b (d+1))))))) ((Q .ret (L2 [pB 4 true] []))))):
  ZIG [1,1,0,1,0,0] (Z9s a b d) (xT N0 (xB 0 (ZKv [1,1,1] Q))):=
 Eq.mpr V6 h
def ZEg(a b:List Int):Prop:=AW (Z3 Zqg) Tryz.f172 Zsv [] (Zm (ZAt.can (a,b,())) []) (EQ Tryz.f172 (Zno (a,b,())) [])
theorem ZCh(hb:∀ (a:List Int) (b:List Int) (_:Unit),ZjM (a,b,())->ZEg a b):CT 172 ZgE:=
 Z9 (l:=[]) Zo rfl trivial Zsv Tryz.func172 rfl rfl 2 (fun _=> rfl) V3 (fun ⟨a,b,_⟩=> hb a b ())
def Zz9:Zj U:=lvl [([1,2],[2]),([1,2,13],[2]),([4],[]),([4],[])]
abbrev ZLV(p:List Nat):=AW (Z3 Zqg) Tryz.f173 Zz9 p
theorem ZJn(t:Tree)(i:Int)(Q:QT)(h:let z0:= !(decide (i < 0));((Tt z0)/\(Tt z0)/\(Tt z0)/\(Tt z0)/\((decide (i < 0))=false->z0=true)/\(iB (bif (decide (i < 0)) then true else (decide (((t.words.length:Int):Int)<=i))) ((Q .ret (L2 [(4,.c (.int .u64 0))] []))) (((0:Int)<=i/\i < (t.words.length:Int))/\(Q .ret (L2 [(4,.c (.int .u64 (t.words.getD i.toNat (0:Int))))] [])))))):
  ZLV [] (L2 [(0,.agg (enc .tree t)),pI 1 i] []) Q:=
 Eq.mpr V6 h
def ZEf(t:Tree)(i:Int):Prop:=AW (Z3 Zqg) Tryz.f173 Zz9 [] (Zm (ZtT.can (t,i,())) []) (EQ Tryz.f173 (Zlf (t,i,())) [])
theorem ZCg(hb:∀ (t:Tree) (i:Int) (_:Unit),ZdQ (t,i,())->ZEf t i):CT 173 Z3h:=
 Z9 (l:=[]) Zo rfl trivial Zz9 Tryz.func173 rfl rfl 2 (fun _=> rfl) V3 (fun ⟨t,i,_⟩=> hb t i ())
def Zz8:Zj U:=lvl [([1,2,4],[2,4]),([1,2,4,13],[2,4]),([4],[4]),([4],[4])]
abbrev ZLU(p:List Nat):=AW (Z3 Zqg) Tryz.f174 Zz8 p
theorem ZJm(t:Tree)(i:Int)(Q:QT)(h:let z0:= !(decide (i < 0));((Tt z0)/\(Tt z0)/\(Tt z0)/\(Tt z0)/\((decide (i < 0))=false->z0=true)/\(iB (bif (decide (i < 0)) then true else (decide (((t.kids.length:Int):Int)<=i))) ((Q .ret (L2 [pL 4] [(.loc 4,[ci 0,.nils,.nils])]))) (((0:Int)<=i/\i < (t.kids.length:Int))/\(Q .ret (L2 [pL 4] [(.loc 4,(enc .tree (t.kids.getD i.toNat Tree.nil)))])))))):
  ZLU [] (L2 [(0,.agg (enc .tree t)),pI 1 i] []) Q:=
 Eq.mpr V6 h
def ZEe(t:Tree)(i:Int):Prop:=AW (Z3 Zqg) Tryz.f174 Zz8 [] (Zm (ZtT.can (t,i,())) []) (EQ Tryz.f174 (Zle (t,i,())) [])
theorem ZCf(hb:∀ (t:Tree) (i:Int) (_:Unit),ZdQ (t,i,())->ZEe t i):CT 174 Z3g:=
 Z9 (l:=[]) Zo rfl trivial Zz8 Tryz.func174 rfl rfl 2 (fun _=> rfl) V3 (fun ⟨t,i,_⟩=> hb t i ())
def Zqm(N:Nat):List (FuncId × Fs U):=(41,fs ZAz (fun a=> [Z0W a,Zv0 a < N]) ZjI) ::[(86,ZgC)]
def ZCM:Zj U:=lvk [([1,2],[1,2]),([1,2,10],[1,2]),([2],[2]),([1,2,3],[1,2]),([1,2,3,4],[1,2]),([1,2,(3,[.own .tree]),4,5],[1,2]),([1,2,3,4,5,16],[1,2]),([1,2,(3,[.own .tree]),4,5],[1,2]),([1,2,3,4,5,6],[1,2,6]),([1,2,3,4,5,6],[1,2,6]),([1,2,3,4,5,31],[1,2]),([1,2,3,4,5],[1,2]),([1,2,3,4,36],[1,2]),([2],[2]),([1,2,3,7],[1,2]),([1,2,3,7],[1,2]),([2],[2])]
def Z8f(t:Tree)(h s:Int)(d:List Tree):LSt U:=(L2 [pL 1,pL 2,(3,.c (sU .tree d (.own (.e 3 0)))),pI 4 h,pI 5 s] [(.loc 1,(enc .tree t)),(.loc 2,[ci 0,.nils,.nils])])
abbrev A41(N:Nat)(p:List Nat):=AW (Z3 (Zqm N)) Tryz.f41 ZCM p
abbrev S41(N:Nat)(p:List Nat):=SW (Z3 (Zqm N)) Tryz.f41 ZCM p
theorem ZL0(N:Nat)(t:Tree)(Q:QT)(h:(iB (t.kind==0) ((Q .ret (L2 [pL 2] [(.loc 2,[ci 0,.nils,.nils])]))) ((Zi (A41 N [1,1,1,1,0,1,0,0]) (Z8f t 0 0 []) (xB 0 (S41 N [1,1,1,1,1] Q)))))):
  A41 N [] (L2 [(0,.agg (enc .tree t))] []) Q:=
 Eq.mpr V6 h
theorem ZBo(N:Nat)(t:Tree)(x4 s:Int)(x3:List Tree)(N0:NT)(Q:QT)(h:∀ af,af=(t.kids.getD s.toNat Tree.nil)->∀ d,d=af->∀ aa,aa=(Z6 d)->(iB (decide (s < (t.kids.length:Int))) (((0:Int)<=s/\s < (t.kids.length:Int))/\(Z0W (d,()))/\(Zv0 (d,()) < N)/\(((x3.length+([aa]).length)*56<=140737488355328)/\(iB (((Tree.kind (Z6 d)):Int) !=0) ((InR (s+1))/\((InR (s+1))/\(N0 (Z8f t (s+1) (s+1) (x3++([aa])))))) ((InR (s+1))/\(N0 (Z8f t x4 (s+1) (x3++([aa])))))))) ((iB (t.kind==1) ((Znw (t.words,()))/\((0:Int)<=x4/\x4<=(x3.length:Int))/\(Q .ret (L2 [pL 2] [(.loc 2,[ci 1,sU .u64 (trim t.words) .unk,sU .tree (List.take x4.toNat x3) .unk])]))) ((((([]:List Int).length+t.words.length)*8<=140737488355328)/\(Q .ret (L2 [pL 2] [(.loc 2,[ci t.kind,sU .u64 (([]:List Int)++t.words) (.own (.l 2 1)),sU .tree x3 (.own (.l 2 2))])])))))))):
  A41 N [1,1,1,1,0,1,0,0] (Z8f t x4 s x3) (xT N0 (xB 0 (S41 N [1,1,1,1,1] Q))):=
 Eq.mpr V6 (h _ rfl _ (Zc _) _ (Zc _))
def ZIj(N:Nat)(t:Tree):Prop:=AW (Z3 (Zqm N)) Tryz.f41 ZCM [] (Zm (ZAz.can (t,())) []) (EQ Tryz.f41 (ZjI (t,())) [])
theorem ZGo(c86:CT 86 ZgC)(hb:∀ (N:Nat) (t:Tree) (_:Unit),Z0W (t,())->Zv0 (t,()) < N+1->ZIj N t):CT 41 Z1g:=
 YX (μ:=Zv0) (l:=[(86,ZgC)]) Zo rfl (⟨c86,trivial⟩) ZCM Tryz.func41 rfl rfl 1 (fun _=> rfl) V3 (fun N ⟨t,_⟩=> hb N t ())
def Zqh(N:Nat):List (FuncId × Fs U):=(75,fs ZAz (fun a=> [Z0W a,Zv0 a < N]) ZjI) ::[(117,ZbI)]
def ZCH:Zj U:=lvk [([1,2],[1,2]),([1,2,8],[1,2]),([2],[2]),([1,2,3],[1,2,3]),([1,2,3,17,18,19],[1,2,((.loc 3),[.any,.any,.own .tree])]),([1,2,3,17,18,19,20],[1,2,3]),([1,2,3,5,17,18,19],[1,2,3,5]),([1,2,3,17,18,19],[1,2,3]),([1,2,3,17,18,19],[1,2,((.loc 3),[.any,.any,.own .tree])]),([2,3,33],[2,((.loc 3),[.any,.any,.unk .tree])]),([2,3,33,48],[2,((.loc 3),[.any,.any,.unk .tree])]),([2,3,33],[2,((.loc 3),[.any,.any,.unk .tree])]),([2,3,33,48,72],[2,3]),([2,3,33,48],[2,((.loc 3),[.any,.any,.unk .tree])]),([2],[2])]
def ZcL(t:Tree)(h:Int)(d:List Tree):LSt U:=(L2 [pL 1,pL 2,pL 3,(17,.c (sU .tree t.kids .unk)),pI 18 (t.kids.length:Int),pI 19 h] [(.loc 1,(enc .tree t)),(.loc 2,[ci 0,.nils,.nils]),(.loc 3,[ci t.kind,sU .u64 t.words .unk,sU .tree d (.own (.l 3 2))])])
def ZcK(t:Tree)(h:List Tree)(d:List Int):LSt U:=(L2 [pL 2,pL 3,pB 33 ((t.kind:Int)==1)] [(.loc 2,[ci 0,.nils,.nils]),(.loc 3,[ci t.kind,sU .u64 d .unk,sU .tree h .unk])])
def ZcJ(t:Tree)(d:List Int)(h:List Tree):LSt U:=(L2 [pL 2,pL 3,pB 33 ((t.kind:Int)==1),(48,.c (.bool (bif (decide ((0:Int) < (d.length:Int))) then (((List.getD d (Int.toNat (((d.length:Int):Int) - 1)) (0:Int)):Int)==0) else false)))] [(.loc 2,[ci 0,.nils,.nils]),(.loc 3,[ci t.kind,sU .u64 d .unk,sU .tree h .unk])])
abbrev A75(N:Nat)(p:List Nat):=AW (Z3 (Zqh N)) Tryz.f75 ZCH p
abbrev S75(N:Nat)(p:List Nat):=SW (Z3 (Zqh N)) Tryz.f75 ZCH p
theorem ZKP(N:Nat)(t:Tree)(Q:QT)(h:(iB (t.kind==0) ((Q .ret (L2 [pL 2] [(.loc 2,[ci 0,.nils,.nils])]))) ((Znw (t.words,()))/\(Zi (A75 N [1,1,1,0,1,0,0]) (ZcL t 0 []) (xB 0 (S75 N [1,1,1,1] Q)))))):
  A75 N [] (L2 [(0,.agg (enc .tree t))] []) Q:=
 Eq.mpr V6 h
theorem ZBd(N:Nat)(t:Tree)(s:Int)(d:List Tree)(N0:NT)(Q:QT)(h:∀ ae,ae=(t.kids.getD s.toNat Tree.nil)->∀ aa,aa=ae->∀ ab,ab=(Z6 aa)->(iB (decide (s < (t.kids.length:Int))) (((0:Int)<=s/\s < (t.kids.length:Int))/\((Z0W (aa,()))/\(Zv0 (aa,()) < N)/\((d.length+([ab]).length)*56<=140737488355328)/\((InR (s+1))/\(N0 (ZcL t (s+1) (d++([ab]))))))) ((iB (t.kind==1) (Zi (A75 N [1,1,1,1,0,1,0,0,0,0]) (ZcK t d t.words) (xB 2 (S75 N [1,1,1,1,0,1,0,1] (S75 N [1,1,1,1,1] Q)))) ((Q .ret (L2 [pL 2] [(.loc 2,[ci t.kind,sU .u64 t.words .unk,sU .tree d .unk])]))))))):
  A75 N [1,1,1,0,1,0,0] (ZcL t s d) (xT N0 (xB 0 (S75 N [1,1,1,1] Q))):=
 Eq.mpr V6 (h _ rfl _ (Zc _) _ (Zc _))
theorem ZBc(N:Nat)(t:Tree)(s:List Tree)(d:List Int)(N1:NT)(Q:QT)(h:let z0:=decide ((0:Int) < (d.length:Int));(Tt z0)/\(Tt z0)/\(Tt z0)/\(Tt z0)/\(z0=true->InR (((d.length:Int):Int) - 1))/\(Tt z0)/\(Tt z0)/\(z0=true->(0:Int)<=(((d.length:Int):Int) - 1)/\(((d.length:Int):Int) - 1) < (d.length:Int))/\(Tt z0)/\(Tt z0)/\(Tt z0)/\(iB (bif z0 then (((List.getD d (Int.toNat (((d.length:Int):Int) - 1)) (0:Int)):Int)==0) else false) ((InR (((d.length:Int):Int) - 1))/\((0:Int)<=(((d.length:Int):Int) - 1)/\(((d.length:Int):Int) - 1)<=(d.length:Int))/\(N1 (ZcK t s (List.take (Int.toNat (((d.length:Int):Int) - 1)) d)))) (Zi (A75 N [1,1,1,1,0,1,0,1,0,0]) (ZcJ t d s) (xB 4 (S75 N [1,1,1,1,1] Q))))):
  A75 N [1,1,1,1,0,1,0,0,0,0] (ZcK t s d) (xT N1 (xB 2 (S75 N [1,1,1,1,0,1,0,1] (S75 N [1,1,1,1,1] Q)))):=
 Eq.mpr V6 h
theorem ZBb(N:Nat)(t:Tree)(s:List Int)(d:List Tree)(N2:NT)(Q:QT)(h:let z0:=decide ((0:Int) < (d.length:Int));(Tt z0)/\(Tt z0)/\(Tt z0)/\(Tt z0)/\(z0=true->InR (((d.length:Int):Int) - 1))/\(Tt z0)/\(Tt z0)/\(z0=true->(0:Int)<=(((d.length:Int):Int) - 1)/\(((d.length:Int):Int) - 1) < (d.length:Int))/\(Tt z0)/\(Tt z0)/\(Tt z0)/\(Tt z0)/\(iB (bif z0 then (((Tree.kind (List.getD d (Int.toNat (((d.length:Int):Int) - 1)) Tree.nil)):Int)==0) else false) ((InR (((d.length:Int):Int) - 1))/\((0:Int)<=(((d.length:Int):Int) - 1)/\(((d.length:Int):Int) - 1)<=(d.length:Int))/\(N2 (ZcJ t s (List.take (Int.toNat (((d.length:Int):Int) - 1)) d)))) ((Q .ret (L2 [pL 2] [(.loc 2,[ci t.kind,sU .u64 s .unk,sU .tree d .unk])]))))):
  A75 N [1,1,1,1,0,1,0,1,0,0] (ZcJ t s d) (xT N2 (xB 4 (S75 N [1,1,1,1,1] Q))):=
 Eq.mpr V6 h
def ZI8(N:Nat)(t:Tree):Prop:=AW (Z3 (Zqh N)) Tryz.f75 ZCH [] (Zm (ZAz.can (t,())) []) (EQ Tryz.f75 (ZjI (t,())) [])
theorem ZGh(ZHv:CT 117 ZbI)(hb:∀ (N:Nat) (t:Tree) (_:Unit),Z0W (t,())->Zv0 (t,()) < N+1->ZI8 N t):CT 75 Z1g:=
 YX (μ:=Zv0) (l:=[(117,ZbI)]) Zo rfl (⟨ZHv,trivial⟩) ZCH Tryz.func75 rfl rfl 1 (fun _=> rfl) V3 (fun N ⟨t,_⟩=> hb N t ())
def Zqo(N:Nat):List (FuncId × Fs U):=(26,fs ZqT (fun a=> [Z4g a,Zv1 a < N]) ZjJ) ::[(76,ZgE)]
def ZCO:Zj U:=lvl [([2,3],[2,3]),([2,3,27],[2,3]),([4],[]),([2,3,5],[2,3]),([2,3,5,32],[2,3]),([2,3,5],[2,3]),([2,3,5,46],[2,3]),([4],[]),([4],[])]
def ZcY(a b:Tree)(d:Int):LSt U:=(L2 [pL 2,pL 3,pI 5 d] [(.loc 2,(enc .tree a)),(.loc 3,(enc .tree b))])
abbrev A26(N:Nat)(p:List Nat):=AW (Z3 (Zqo N)) Tryz.f26 ZCO p
abbrev S26(N:Nat)(p:List Nat):=SW (Z3 (Zqo N)) Tryz.f26 ZCO p
theorem ZL4(N:Nat)(a b:Tree)(Q:QT)(h:let z1:=a.kind !=b.kind;let z0:=bif z1 then true else (!(decide (a.words=b.words)));((Tt (!z1))/\(Tt (!z1))/\(Tt (!z1))/\(Tt (!z1))/\((!z1)=true->ZjM (a.words,b.words,()))/\(Tt (!z1))/\(z1=false->(!z1)=true)/\(Tt (!z0))/\(Tt (!z0))/\(Tt (!z0))/\(Tt (!z0))/\(Tt (!z0))/\(Tt (!z0))/\(z0=false->(!z0)=true)/\(iB (bif z0 then true else (((a.kids.length:Int):Int) !=(b.kids.length:Int))) ((Q .ret (L2 [pB 4 false] []))) ((Zi (A26 N [1,1,0,1,0,0]) (ZcY a b 0) (xB 0 (S26 N [1,1,1] Q))))))):
  A26 N [] (L2 [(0,.agg (enc .tree a)),(1,.agg (enc .tree b))] []) Q:=
 Eq.mpr V6 h
theorem ZBr(N:Nat)(a b:Tree)(d:Int)(N0:NT)(Q:QT)(h:∀ ab,ab=(a.kids.getD d.toNat Tree.nil)->∀ ae,ae=(b.kids.getD d.toNat Tree.nil)->∀ s,s=ab->∀ aa,aa=ae->(iB (decide (d < (a.kids.length:Int))) (((0:Int)<=d/\d < (a.kids.length:Int))/\((0:Int)<=d/\d < (b.kids.length:Int))/\(Z4g (s,aa,()))/\(Zv1 (s,aa,()) < N)/\(iB (!(YM s aa)) ((Q .ret (L2 [pB 4 false] []))) ((InR (d+1))/\(N0 (ZcY a b (d+1)))))) ((Q .ret (L2 [pB 4 true] []))))):
  A26 N [1,1,0,1,0,0] (ZcY a b d) (xT N0 (xB 0 (S26 N [1,1,1] Q))):=
 Eq.mpr V6 (h _ rfl _ rfl _ (Zc _) _ (Zc _))
def ZIn(N:Nat)(a b:Tree):Prop:=AW (Z3 (Zqo N)) Tryz.f26 ZCO [] (Zm (ZqT.can (a,b,())) []) (EQ Tryz.f26 (ZjJ (a,b,())) [])
theorem ZGr(c76:CT 76 ZgE)(hb:∀ (N:Nat) (a:Tree) (b:Tree) (_:Unit),Z4g (a,b,())->Zv1 (a,b,()) < N+1->ZIn N a b):CT 26 Z25:=
 YX (μ:=Zv1) (l:=[(76,ZgE)]) Zo rfl (⟨c76,trivial⟩) ZCO Tryz.func26 rfl rfl 2 (fun _=> rfl) V3 (fun N ⟨a,b,_⟩=> hb N a b ())
def Zm2(N:Nat):List (FuncId × Fs U):=(114,fs ZqT (fun a=> [Z4j a,ZjX a < N]) ZaK) ::[(172,ZgE),(173,Z3h),(174,Z3g)]
def ZsF:Zj U:=lvl [([2,3],[2,3]),([2,3,16],[2,3]),([4],[]),([2,3,41],[2,3]),([4],[]),([2,3,48,49],[2,3]),([2,3,48,49,50],[2,3]),([2,3,5,48,49],[2,3]),([2,3,48,49,58],[2,3]),([4],[]),([2,3,48,49],[2,3]),([2,3,66,67],[2,3]),([2,3,66,67,68],[2,3]),([2,3,6,66,67],[2,3]),([2,3,66,67,77],[2,3]),([4],[]),([2,3,66,67],[2,3]),([4],[])]
def Z9K(a b:Tree)(d:Int):LSt U:=(L2 [pL 2,pL 3,pI 48 (if ((a.words.length:Int):Int) < (b.words.length:Int) then (b.words.length:Int) else (a.words.length:Int)),pI 49 d] [(.loc 2,(enc .tree a)),(.loc 3,(enc .tree b))])
def Z9J(a b:Tree)(d:Int):LSt U:=(L2 [pL 2,pL 3,pI 66 (if ((a.kids.length:Int):Int) < (b.kids.length:Int) then (b.kids.length:Int) else (a.kids.length:Int)),pI 67 d] [(.loc 2,(enc .tree a)),(.loc 3,(enc .tree b))])
abbrev ZAV(N:Nat)(p:List Nat):=AW (Z3 (Zm2 N)) Tryz.f114 ZsF p
abbrev ZDE(N:Nat)(p:List Nat):=SW (Z3 (Zm2 N)) Tryz.f114 ZsF p
theorem ZJO(N:Nat)(a b:Tree)(Q:QT)(h:let z2:=a.kind !=b.kind;let z1:=((a.kids.length:Int):Int) !=(b.kids.length:Int);let z0:=(a.kind !=1) && (!z1);((Tt (!z2))/\(Tt (!z2))/\(z2=false->(!z2)=true)/\(iB (bif z2 then true else (a.kind==0)) ((Q .ret (L2 [pB 4 (a.kind==b.kind)] []))) ((Tt (a.kind !=1))/\(Tt (a.kind !=1))/\(Tt (a.kind !=1))/\(Tt (a.kind !=1))/\(Tt (a.kind !=1))/\(Tt (a.kind !=1))/\(Tt (a.kind !=1))/\(Tt z0)/\(Tt z0)/\(Tt z0)/\(Tt z0)/\(z0=true->ZjM (a.words,b.words,()))/\(Tt z0)/\((a.kind !=1)=true->(True->(a.kind !=1)=true))/\((a.kind !=1)=true->(z1=false->z0=true))/\(Tt (a.kind !=1))/\(iB (bif (a.kind !=1) then (bif z1 then true else (!(decide (a.words=b.words)))) else false) ((Q .ret (L2 [pB 4 false] []))) ((Zi (ZAV N [1,1,1,0,1,0,0]) (Z9K a b 0) (xB 0 (ZDE N [1,1,1,1] Q))))))))):
  ZAV N [] (L2 [(0,.agg (enc .tree a)),(1,.agg (enc .tree b))] []) Q:=
 Eq.mpr V6 h
theorem Zx6(N:Nat)(a b:Tree)(d:Int)(N0:NT)(Q:QT)(h:let z1:=Tree.mk b.kind b.words b.kids;let z0:=Tree.mk a.kind a.words a.kids;(iB (decide (d < (if ((a.words.length:Int):Int) < (b.words.length:Int) then (b.words.length:Int) else (a.words.length:Int)))) (((ZdQ (z0,d,()))/\(ZdQ (z1,d,()))/\(iB (((Ji z0 d):Int) !=(Ji z1 d)) ((Q .ret (L2 [pB 4 false] []))) ((InR (d+1))/\(N0 (Z9K a b (d+1))))))) ((Zi (ZAV N [1,1,1,1,0,1,0,0]) (Z9J a b 0) (xB 2 (ZDE N [1,1,1,1,1] Q)))))):
  ZAV N [1,1,1,0,1,0,0] (Z9K a b d) (xT N0 (xB 0 (ZDE N [1,1,1,1] Q))):=
 Eq.mpr V6 h
theorem Zx5(N:Nat)(a b:Tree)(d:Int)(N1:NT)(Q:QT)(h:∀ ab,ab=a->∀ ae,ae=b->∀ s,s=(Z0z ab d)->∀ aa,aa=(Z0z ae d)->(iB (decide (d < (if ((a.kids.length:Int):Int) < (b.kids.length:Int) then (b.kids.length:Int) else (a.kids.length:Int)))) (((ZdQ (ab,d,()))/\(ZdQ (ae,d,()))/\(Z4j (s,aa,()))/\(ZjX (s,aa,()) < N)/\(iB (!(YM (Z6 s) (Z6 aa))) ((Q .ret (L2 [pB 4 false] []))) ((InR (d+1))/\(N1 (Z9J a b (d+1))))))) ((Q .ret (L2 [pB 4 true] []))))):
  ZAV N [1,1,1,1,0,1,0,0] (Z9J a b d) (xT N1 (xB 2 (ZDE N [1,1,1,1,1] Q))):=
 Eq.mpr V6 (h _ (Zc _) _ (Zc _) _ (Zc _) _ (Zc _))
def ZEG(N:Nat)(a b:Tree):Prop:=AW (Z3 (Zm2 N)) Tryz.f114 ZsF [] (Zm (ZqT.can (a,b,())) []) (EQ Tryz.f114 (ZaK (a,b,())) [])
theorem ZCz(ZHh:CT 172 ZgE)(ZvL:CT 173 Z3h)(ZvK:CT 174 Z3g)(hb:∀ (N:Nat) (a:Tree) (b:Tree) (_:Unit),Z4j (a,b,())->ZjX (a,b,()) < N+1->ZEG N a b):CT 114 Z0i:=
 YX (μ:=ZjX) (l:=[(172,ZgE),(173,Z3h),(174,Z3g)]) Zo rfl (⟨ZHh,ZvL,ZvK,trivial⟩) ZsF Tryz.func114 rfl rfl 2 (fun _=> rfl) V3 (fun N ⟨a,b,_⟩=> hb N a b ())
def Zt9:List (FuncId × Fs U):=[(41,Z1g),(26,Z25)]
def Zze:Zj U:=lvl [([2,3],[2,3]),([4],[])]
abbrev ZM0(p:List Nat):=AW (Z3 Zt9) Tryz.f151 Zze p
theorem ZJA(a b:Tree)(Q:QT)(h:let z5:=Tree.mk a.kind a.words a.kids;let z4:=Tree.mk b.kind b.words b.kids;let z1:=Z6 z4;let z3:=Tree.mk (Tree.kind z1) (Tree.words z1) (Tree.kids z1);let z0:=Z6 z5;let z2:=Tree.mk (Tree.kind z0) (Tree.words z0) (Tree.kids z0);((Z0W (z5,()))/\(Z0W (z4,()))/\(Z4g (z2,z3,()))/\(Q .ret (L2 [(4,.c (.bool (YM z2 z3)))] [])))):
  ZM0 [] (L2 [(0,.agg (enc .tree a)),(1,.agg (enc .tree b))] []) Q:=
 Eq.mpr V6 h
def ZEs(a b:Tree):Prop:=AW (Z3 Zt9) Tryz.f151 Zze [] (Zm (ZqT.can (a,b,())) []) (EQ Tryz.f151 (ZaK (a,b,())) [])
theorem ZCp(c41:CT 41 Z1g)(c26:CT 26 Z25)(hb:∀ (a:Tree) (b:Tree) (_:Unit),Z4j (a,b,())->ZEs a b):CT 151 Z0i:=
 Z9 (l:=[(41,Z1g),(26,Z25)]) Zo rfl (⟨c41,c26,trivial⟩) Zze Tryz.func151 rfl rfl 2 (fun _=> rfl) V3 (fun ⟨a,b,_⟩=> hb a b ())
end
theorem vcU:(∀ {p q:Prop},(p->q->p/\q)=True)/\(∀ {p:Prop},(True/\p)=p)/\(∀ {p:Prop},(p/\True)=p)/\(∀ {p:Prop},(p->True)=True):=
 ⟨by grind,by simp,by simp,by simp⟩
theorem ZgW:∀ {ks:List Tree} {i:Nat},Z1H ks->i < ks.length->Z0R (ks.getD i Tree.nil)
 | t ::_,0,h,_=> by simp only [Z1H] at h;exact h.1
 | _ ::r,i+1,h,hi=> by simp only [Z1H] at h;exact ZgW (ks:=r) (i:=i) h.2 (by simpa using hi)
theorem Z1W:∀ {ks:List Tree} {i:Nat},i < ks.length->Zq (ks.getD i Tree.nil)<=Ze ks
 | t ::_,0,_=> by simp only [Ze,Qr];omega
 | t ::r,i+1,h=> by
  have:=Z1W (ks:=r) (i:=i) (by simpa using h)
  simp only [Ze,List.getD_cons_succ]
  omega
mutual
theorem JI:∀ (t:Tree) (d l:Int),-1<=ZT t d l/\ZT t d l<=max l (-1)
 | .mk _ w ks,d,l=> by
  simp only [ZT]
  split
  .omega
  .have:=Z28 ks (d - 1) (l - 1 - w.length) V1
   omega
theorem Z28:∀ (ks:List Tree) (d l:Int),-1<=l->-1<=ZI ks d l/\ZI ks d l<=l
 | [],d,l,h=> by simp only [ZI];omega
 | t ::r,d,l,h=> by
  simp only [ZI]
  split
  .omega
  .have s:=JI t d l
   have h2:=Z28 r d (ZT t d l) s.1
   omega
end
theorem ZiT{ks:List Tree}{i:Nat}{d l:Int}(h:i < ks.length)(hl:0<=l):ZI (ks.drop i) d l=ZI (ks.drop (i+1)) d (ZT (ks.getD i Tree.nil) d l):=by
 rw [QP h]
 simp only [ZI]
 grind
theorem c80:Contract Tryz.prog cfg 80 Z7t:=by
 refine ZGf ?_
 rintro N ⟨k,h,ks⟩ d l _ ⟨hs,h1,h2,h3,h4⟩ hN
 simp only [Z0R,ZuY,Zq] at*
 refine ZKM N _ _ _ _ ?_;(try simp only [iB,vcT,forall_eq])
 (simp only [iB,vcS]);(try simp only [iB,vcT])
 try (simp only [vE])
 refine ⟨V5,V5,fun hc=> ?_,fun hc=> ?_⟩
 .have e:ZT (.mk k h ks) d l= -1:=by
   simp only [ZT]
   omega
  simp only [Znn,e]
  exact ⟨⟨rfl,⟨⟨rfl,rfl⟩,trivial⟩,trivial⟩,trivial⟩
 .have e:ZT (.mk k h ks) d l=ZI ks (d - 1) (l - 1 - h.length):=by
   simp only [ZT]
   omega
  simp only [Znn,e]
  refine Z7 (ι:=Int × Int) (fun p=> ZcH (.mk k h ks) d l p.1 p.2) (fun p=> 0<=p.2/\p.2<=ks.length/\-1<=p.1/\p.1<=l/\ZI (ks.drop p.2.toNat) (d - 1) p.1=ZI ks (d - 1) (l - 1 - h.length)) (fun p=> ((ks.length:Int) - p.2).toNat) (l - 1 - h.length,0) rfl ⟨V1,V1,V1,V1,by simp⟩ ?_
  rintro ⟨l',i⟩ ⟨h5,h6,h7,h8,h9⟩
  dsimp only at*
  refine ZB7 N _ _ _ _ _ _ _ ?_;(try simp only [iB,vcT,forall_eq])
  (simp only [iB,vcS]);(try simp only [iB,vcT])
  try (simp only [vE])
  refine ⟨fun hc=> ?_,fun hc=> ?_⟩
  .have s:i.toNat < ks.length:=V1
   have hr:=JI (ks.getD i.toNat Tree.nil) (d - 1) l'
   have hn:=Z1W s
   have hd:=ZiT (d:=d - 1) s hc.2
   refine ⟨V1,V5,⟨ZgW hs.2.2 s,by grind,by grind,V1,by grind⟩,by simp only [ZuY];omega,V5,⟨(ZT (ks.getD i.toNat Tree.nil) (d - 1) l',i+1),rfl,⟨V1,V1,V1,V1,?_⟩,V1⟩⟩
   grind
  .have e:ZI ks (d - 1) (l - 1 - h.length)=l':=by
    rw [<-h9]
    by_cases s:i < ks.length
    .rw [QP V1]
     simp only [ZI]
     omega
    .rw [QF V1]
     try rfl
   rw [e]
   trivial
theorem c30:Contract Tryz.prog cfg 30 ZgN:=by
 refine ZGq c80 ?_
 intro t _ d
 refine ZL2 _ _ ?_;(try simp only [iB,vcT,forall_eq])
 try (simp only [vE])
 refine ⟨⟨d,by grind,by grind,by grind,by grind⟩,?_⟩
 trivial
theorem ZHv:Contract Tryz.prog cfg 117 ZbI:=by
 refine ZCy ?_
 intro l _ d
 refine ZJL _ _ ?_;(try simp only [iB,vcT,forall_eq])
 simp only [Znw] at d
 refine ⟨fun h=> ?_,⟨by simp only [Qh];omega,?_⟩⟩
 .subst h
  exact ⟨⟨rfl,⟨rfl,trivial⟩,trivial⟩,trivial⟩
 .exact ⟨⟨rfl,⟨⟨rfl,trivial⟩,trivial⟩,trivial⟩,trivial⟩
theorem Zg6{a b:List Int}{i:Int}(hi:0<=i)(ha:i < a.length)(hb:i < b.length):(a.drop i.toNat=b.drop i.toNat)↔(a.getD i.toNat 0=b.getD i.toNat 0/\a.drop (i+1).toNat=b.drop (i+1).toNat):=by
 have e:(i+1).toNat=i.toNat+1:=V1
 rw [QP V1,QP (l:=b) V1,e]
 simp only [List.cons.injEq,List.getD,Q4 (show i.toNat < a.length by omega),Q4 (show i.toNat < b.length by omega),Xh]
theorem c76:Contract Tryz.prog cfg 76 ZgE:=by
 refine ZGg ?_
 intro a b _ hp
 simp only [ZjM] at hp
 refine ZKO _ _ _ ?_;(try simp only [iB,vcT,forall_eq])
 (simp only [iB,vcS]);(try simp only [iB,vcT])
 refine ⟨fun hc=> ?_,fun hc=> ?_⟩
 .have e:decide (a=b)=false:=by
   simp only [decide_eq_false_iff_not]
   rintro rfl
   omega
  simp only [Zno,e]
  exact ⟨⟨rfl,⟨rfl,trivial⟩,trivial⟩,trivial⟩
 .have hl:a.length=b.length:=V1
  refine Z7 (ι:=Int) (fun p=> ZcI a b p) (fun p=> 0<=p/\p<=a.length/\(a=b↔a.drop p.toNat=b.drop p.toNat)) (fun p=> ((a.length:Int) - p).toNat) 0 rfl ⟨V1,V1,by simp⟩ ?_
  rintro i ⟨s,h2,d⟩
  refine ZBa _ _ _ _ _ ?_;(try simp only [iB,vcT,forall_eq])
  (simp only [iB,vcS]);(try simp only [iB,vcT])
  refine ⟨fun hc=> ⟨V1,V1,fun hn=> ?_,fun he=> ⟨V5,i+1,rfl,⟨V1,V1,?_⟩,V1⟩⟩,fun hc=> ?_⟩
  .have e:decide (a=b)=false:=by
    simp only [decide_eq_false_iff_not,d]
    rw [Zg6 s hc V1]
    exact fun h=> hn h.1
   simp only [Zno,e]
   exact ⟨⟨rfl,⟨rfl,trivial⟩,trivial⟩,trivial⟩
  .rw [d,Zg6 s hc V1]
   exact ⟨fun h=> h.2,fun h=> ⟨by simpa using he,h⟩⟩
  .have e:decide (a=b)=true:=by
    simp only [decide_eq_true_eq,d]
    rw [QF V1,QF V1]
   simp only [Zno,e]
   exact ⟨⟨rfl,⟨rfl,trivial⟩,trivial⟩,trivial⟩
theorem ZvL:Contract Tryz.prog cfg 173 Z3h:=by
 refine ZCg ?_
 intro t i _ d
 refine ZJn _ _ _ ?_;(try simp only [iB,vcT,forall_eq])
 (simp only [iB,vcS]);(try simp only [iB,vcT])
 (repeat (refine And.intro (by first | omega | (unfold InR;omega) | (dsimp only;omega)) ?_))
 refine ⟨fun hc=> ?_,fun hc=> ⟨V1,?_⟩⟩
 .have e:Ji t i=0:=by
   unfold Ji
   split
   .try rfl
   .grind
  simp only [Zlf,e]
  exact ⟨⟨rfl,⟨⟨rfl,rfl⟩,trivial⟩,trivial⟩,trivial⟩
 .have e:Ji t i=t.words.getD i.toNat 0:=by
   unfold Ji
   omega
  simp only [Zlf,e]
  exact ⟨⟨rfl,⟨⟨rfl,rfl⟩,trivial⟩,trivial⟩,trivial⟩
theorem ZvK:Contract Tryz.prog cfg 174 Z3g:=by
 refine ZCf ?_
 intro t i _ d
 refine ZJm _ _ _ ?_;(try simp only [iB,vcT,forall_eq])
 (simp only [iB,vcS]);(try simp only [iB,vcT])
 (repeat (refine And.intro (by first | omega | (unfold InR;omega) | (dsimp only;omega)) ?_))
 refine ⟨fun hc=> ?_,fun hc=> ⟨V1,?_⟩⟩
 .have e:Z0z t i=Tree.nil:=by
   unfold Z0z
   split
   .try rfl
   .grind
  simp only [Zle,e]
  exact ⟨⟨rfl,⟨⟨rfl,rfl⟩,⟨rfl,⟨rfl,trivial⟩⟩⟩,trivial⟩,trivial⟩
 .have e:Z0z t i=t.kids.getD i.toNat Tree.nil:=by
   unfold Z0z
   grind
  simp only [Zle,e]
  exact ⟨⟨rfl,⟨⟨rfl,rfl⟩,⟨rfl,trivial⟩,⟨rfl,trivial⟩,trivial⟩,trivial⟩,trivial⟩
theorem ZHh:Contract Tryz.prog cfg 172 ZgE:=by
 refine ZCh ?_
 intro a b _ hp
 simp only [ZjM] at hp
 refine ZJo _ _ _ ?_;(try simp only [iB,vcT,forall_eq])
 (simp only [iB,vcS]);(try simp only [iB,vcT])
 refine ⟨fun hc=> ?_,fun hc=> ?_⟩
 .have e:decide (a=b)=false:=by
   simp only [decide_eq_false_iff_not]
   rintro rfl
   omega
  simp only [Zno,e]
  exact ⟨⟨rfl,⟨rfl,trivial⟩,trivial⟩,trivial⟩
 .have hl:a.length=b.length:=V1
  refine Z7 (ι:=Int) (fun p=> Z9s a b p) (fun p=> 0<=p/\p<=a.length/\(a=b↔a.drop p.toNat=b.drop p.toNat)) (fun p=> ((a.length:Int) - p).toNat) 0 rfl ⟨V1,V1,by simp⟩ ?_
  rintro i ⟨s,h2,d⟩
  refine ZwB _ _ _ _ _ ?_;(try simp only [iB,vcT,forall_eq])
  (simp only [iB,vcS]);(try simp only [iB,vcT])
  refine ⟨fun hc=> ⟨V1,V1,fun hn=> ?_,fun he=> ⟨V5,i+1,rfl,⟨V1,V1,?_⟩,V1⟩⟩,fun hc=> ?_⟩
  .have e:decide (a=b)=false:=by
    simp only [decide_eq_false_iff_not,d]
    rw [Zg6 s hc V1]
    exact fun h=> hn h.1
   simp only [Zno,e]
   exact ⟨⟨rfl,⟨rfl,trivial⟩,trivial⟩,trivial⟩
  .rw [d,Zg6 s hc V1]
   exact ⟨fun h=> h.2,fun h=> ⟨by simpa using he,h⟩⟩
  .have e:decide (a=b)=true:=by
    simp only [decide_eq_true_eq,d]
    rw [QF V1,QF V1]
   simp only [Zno,e]
   exact ⟨⟨rfl,⟨rfl,trivial⟩,trivial⟩,trivial⟩
theorem Zou{a b:List Tree}{i:Int}(hi:0<=i)(ha:i < a.length)(hb:i < b.length):(a.drop i.toNat=b.drop i.toNat)↔(a.getD i.toNat Tree.nil=b.getD i.toNat Tree.nil/\a.drop (i+1).toNat=b.drop (i+1).toNat):=by
 have e:(i+1).toNat=i.toNat+1:=V1
 rw [QP V1,QP (l:=b) V1,e]
 simp only [List.cons.injEq,List.getD,Q4 (show i.toNat < a.length by omega),Q4 (show i.toNat < b.length by omega),Xh]
theorem Yk{a b:Tree}:YM a b=true↔a=b:=by simp [YM]
theorem Jk{a b:Tree}:YM a b=false↔¬a=b:=by simp [YM]
theorem ZD:∀ (ks:List Tree),ks.length<=Ze ks
 | []=> by simp [Ze]
 | t ::r=> by
  have:=ZD r
  have:1<=Zq t:=by cases t;simp only [Zq];omega
  simp only [Ze,Q8]
  omega
theorem c26:Contract Tryz.prog cfg 26 Z25:=by
 refine ZGr c76 ?_
 rintro N ⟨k,s,ks⟩ ⟨k',aa,d⟩ _ hp hN
 have aj:=ZD ks
 simp only [Z4g,Zv1,Zq] at hp hN
 refine ZL4 N _ _ _ ?_;(try simp only [iB,vcT,forall_eq])
 (simp only [iB,vcS]);(try simp only [iB,vcT])
 try (simp only [vE])
 have ae:ZjM (s,aa,()):=by simp only [ZjM];omega
 refine ⟨fun _=> ae,fun hc=> ?_,fun hc=> ?_⟩
 .have e:YM (.mk k s ks) (.mk k' aa d)=false:=by
   rw [Jk]
   intro h
   cases h
   simp at hc
  simp only [ZjJ,e]
  exact ⟨⟨rfl,⟨rfl,trivial⟩,trivial⟩,trivial⟩
 .have af:(k=k'/\s=aa)/\ks.length=d.length:=⟨hc.1,V1⟩
  obtain ⟨⟨rfl,rfl⟩,hl⟩:=af
  refine Z7 (ι:=Int) (fun p=> ZcY (.mk k s ks) (.mk k s d) p) (fun p=> 0<=p/\p<=ks.length/\(Tree.mk k s ks= .mk k s d↔ks.drop p.toNat=d.drop p.toNat)) (fun p=> ((ks.length:Int) - p).toNat) 0 rfl ⟨V1,V1,by simp⟩ ?_
  rintro i ⟨h1,h2,h3⟩
  refine ZBr N _ _ _ _ _ ?_;(try simp only [iB,vcT,forall_eq])
  (simp only [iB,vcS]);(try simp only [iB,vcT])
  try (simp only [vE])
  refine ⟨fun hc=> ⟨V1,V1,?_,?_,fun hn=> ?_,fun he=> ⟨V5,i+1,rfl,⟨V1,V1,?_⟩,V1⟩⟩,fun hc=> ?_⟩
  .have:=Z1W (ks:=ks) (i:=i.toNat) V1
   simp only [Z4g]
   omega
  .have:=Z1W (ks:=ks) (i:=i.toNat) V1
   simp only [Zv1]
   omega
  .have e:YM (.mk k s ks) (.mk k s d)=false:=by
    rw [Jk,h3,Zou h1 hc V1]
    rw [Jk] at hn
    exact fun h=> hn h.1
   simp only [ZjJ,e]
   exact ⟨⟨rfl,⟨rfl,trivial⟩,trivial⟩,trivial⟩
  .rw [h3,Zou h1 hc V1]
   exact ⟨fun h=> h.2,fun h=> ⟨Yk.1 he,h⟩⟩
  .have e:YM (.mk k s ks) (.mk k s d)=true:=by
    rw [Yk,h3]
    rw [QF V1,QF V1]
   simp only [ZjJ,e]
   exact ⟨⟨rfl,⟨rfl,trivial⟩,trivial⟩,trivial⟩
theorem Zdo:∀ (l:List Int),trim (l++[0])=trim l
 | []=> rfl
 | x ::r=> by
  show (match trim (r++[0]) with | []=> if x=0 then [] else [x] | y ::s=> x ::y ::s)=_
  rw [Zdo r]
  try rfl
theorem ZkJ{x:Int}(hx:x≠0):∀ (l:List Int),trim (l++[x])=l++[x]
 | []=> by simp [trim,hx]
 | y ::r=> by
  show (match trim (r++[x]) with | []=> if y=0 then [] else [y] | z ::s=> y ::z ::s)=_
  rw [ZkJ hx r]
  cases r <;> rfl
theorem Zdt{l:List Int}{i:Int}(h0:0 < i)(hi:i<=l.length):l.take i.toNat=l.take (i - 1).toNat++[l.getD (i - 1).toNat 0]:=by
 have e:i.toNat=(i - 1).toNat+1:=V1
 rw [e,List.take_add_one]
 simp only [List.getD,Q4 (show (i - 1).toNat < l.length by omega),Option.toList,Xh]
theorem c86:Contract Tryz.prog cfg 86 ZgC:=by
 refine ZGc ?_
 intro l _ hp
 simp only [Znw] at hp
 refine ZKJ _ _ ?_;(try simp only [iB,vcT,forall_eq])
 refine Z7 (ι:=Int) (fun p=> ZcF l p) (fun p=> 0<=p/\p<=l.length/\trim (l.take p.toNat)=trim l) (fun p=> p.toNat) (l.length:Int) rfl ⟨V1,V1,by simp⟩ ?_
 rintro i ⟨h1,s,d⟩
 refine ZB5 _ _ _ _ ?_;(try simp only [iB,vcT,forall_eq])
 (simp only [iB,vcS]);(try simp only [iB,vcT])
 refine ⟨fun h=> by unfold InR;omega,fun h=> by omega,fun hc=> ⟨V5,i - 1,rfl,⟨V1,V1,?_⟩,V1⟩,fun hc=> ⟨V1,?_,?_⟩⟩
 .rw [Zdt hc.1 s,hc.2,Zdo] at d
  exact d
 .simp only [Qh,Qu]
  omega
 .have e:trim l=[]++l.take i.toNat:=by
   rw [<-d]
   by_cases h0:0 < i
   .rw [Zdt h0 s,ZkJ V1]
    try rfl
   .have:i.toNat=0:=V1
    rw [this]
    try rfl
  simp only [ZxE,e]
  exact ⟨⟨rfl,⟨⟨rfl,trivial⟩,trivial⟩,trivial⟩,trivial⟩
theorem ZmQ:∀ (l:List Int),(trim l).length<=l.length
 | []=> by simp [trim]
 | x ::r=> by
  have:=ZmQ r
  simp only [trim]
  grind
theorem Zgt:∀ (l:List Tree),Ze (YQ l)<=Ze l
 | []=> by simp [YQ]
 | x ::r=> by
  have:=Zgt r
  simp only [YQ]
  split
  .split
   .simp [Ze]
   .simp [Ze]
  .rename_i h
   rw [h] at this
   simp only [Ze] at*
   omega
mutual
theorem Y5:∀ (t:Tree),Zq (Z6 t)<=Zq t
 | .mk k w ks=> by
  have d:=ZhQ ks
  have h:=ZmQ w
  have s:=Zgt (J2 ks)
  simp only [Z6]
  split
  .simp only [Tree.nil,Zq,Ze,Qh];omega
  .split
   .simp only [Zq];omega
   .simp only [Zq];omega
theorem ZhQ:∀ (ks:List Tree),Ze (J2 ks)<=Ze ks
 | []=> by simp [J2]
 | t ::r=> by
  have d:=Y5 t
  have h:=ZhQ r
  simp only [J2,Ze]
  omega
end
theorem Ze4:∀ (l:List Tree) (x:Tree),J2 (l++[x])=J2 l++[Z6 x]
 | [],x=> rfl
 | y ::r,x=> by simp only [Qj,J2,Ze4 r x]
theorem Z2A:∀ (l:List Tree),(J2 l).length=l.length
 | []=> rfl
 | y ::r=> by simp only [J2,Q8,Z2A r]
theorem Zas{x:Tree}(hx:x.kind=0):∀ (l:List Tree),YQ (l++[x])=YQ l
 | []=> by simp [YQ,hx]
 | y ::r=> by
  show (match YQ (r++[x]) with | []=> if y.kind=0 then [] else [y] | z ::s=> y ::z ::s)=_
  rw [Zas hx r]
  try rfl
theorem Zgs{x:Tree}(hx:x.kind≠0):∀ (l:List Tree),YQ (l++[x])=l++[x]
 | []=> by simp [YQ,hx]
 | y ::r=> by
  show (match YQ (r++[x]) with | []=> if y.kind=0 then [] else [y] | z ::s=> y ::z ::s)=_
  rw [Zgs hx r]
  cases r <;> rfl
theorem Zaz{l:List Tree}{i:Int}(h0:0<=i)(hi:i < l.length):l.take (i+1).toNat=l.take i.toNat++[l.getD i.toNat Tree.nil]:=by
 have e:(i+1).toNat=i.toNat+1:=V1
 simp_all
theorem c41:Contract Tryz.prog cfg 41 Z1g:=by
 refine ZGo c86 ?_
 rintro N ⟨k,s,ks⟩ _ hp hN
 have aj:=ZD ks
 simp only [Z0W,Zv0,Zq] at hp hN
 refine ZL0 N _ _ ?_;(try simp only [iB,vcT,forall_eq])
 (simp only [iB,vcS]);(try simp only [iB,vcT])
 try (simp only [vE])
 refine ⟨fun hc=> ?_,fun af=> ?_⟩
 .have e:Z6 (.mk k s ks)=Tree.nil:=by simp [Z6,hc]
  simp only [ZjI,e]
  exact ⟨⟨rfl,⟨⟨rfl,rfl⟩,⟨rfl,⟨rfl,trivial⟩⟩⟩,trivial⟩,trivial⟩
 .refine Z7 (ι:=Int × Int × List Tree) (fun p=> Z8f (.mk k s ks) p.1 p.2.1 p.2.2) (fun p=> 0<=p.2.1/\p.2.1<=ks.length/\0<=p.1/\p.1<=p.2.1/\p.2.2=J2 (ks.take p.2.1.toNat)/\YQ (J2 (ks.take p.2.1.toNat))=p.2.2.take p.1.toNat) (fun p=> ((ks.length:Int) - p.2.1).toNat) (0,0,[]) rfl ⟨by grind,by grind,V1,by grind,rfl,rfl⟩ ?_
  rintro ⟨h,i,l⟩ ⟨h1,h2,h3,h4,h5,h6⟩
  dsimp only at*
  have hl:l.length=i.toNat:=by rw [h5,Z2A,Qu];omega
  refine ZBo N _ _ _ _ _ _ ?_;(try simp only [iB,vcT,forall_eq])
  (simp only [iB,vcS]);(try simp only [iB,vcT])
  try (simp only [vE])
  refine ⟨fun hc=> ?_,fun hc=> ⟨fun h1=> ⟨?_,V1,?_⟩,fun hk=> ⟨?_,?_⟩⟩⟩
  .have hm:=Z1W (ks:=ks) (i:=i.toNat) V1
   have d:J2 (ks.take (i+1).toNat)=l++[Z6 (ks.getD i.toNat Tree.nil)]:=by rw [Zaz h1 hc,Ze4,h5]
   refine ⟨V1,by simp only [Z0W];omega,by simp only [Zv0];omega,by simp only [Q8,Qh];omega,fun hk=> ⟨V5,V5,(i+1,i+1,_),rfl,⟨by grind,by grind,V1,by grind,d.symm,?_⟩,by grind⟩,fun hk=> ⟨V5,(h,i+1,_),rfl,⟨by grind,by grind,V1,by grind,d.symm,?_⟩,by grind⟩⟩
   .dsimp only
    rw [d,Zgs hk,Qq (by simp;omega)]
   .dsimp only
    rw [d,Zas hk,List.take_append_of_le_length V1,<-h6,h5]
  .simp only [Znw];omega
  .have hi:ks.take i.toNat=ks:=Qq V1
   rw [hi] at h5 h6
   have e:Z6 (.mk k s ks)= .mk 1 (trim s) (l.take h.toNat):=by
    subst h1
    simp only [Z6,<-h6]
    try rfl
   simp only [ZjI,e]
   exact ⟨⟨rfl,⟨⟨rfl,rfl⟩,⟨rfl,trivial⟩,⟨rfl,trivial⟩,trivial⟩,trivial⟩,trivial⟩
  .grind
  .have hi:ks.take i.toNat=ks:=Qq V1
   rw [hi] at h5
   have e:Z6 (.mk k s ks)= .mk k ([]++s) l:=by
    simp only [Z6,if_neg af,if_neg hk,h5]
    try rfl
   simp only [ZjI,e]
   exact ⟨⟨rfl,⟨⟨rfl,rfl⟩,⟨rfl,trivial⟩,⟨rfl,trivial⟩,trivial⟩,trivial⟩,trivial⟩
theorem ZvM:Contract Tryz.prog cfg 151 Z0i:=by
 refine ZCp c41 c26 ?_
 intro a b _ d
 have h:=Y5 a
 simp only [Z4j] at d
 refine ZJA _ _ _ ?_;(try simp only [iB,vcT,forall_eq])
 try (simp only [vE])
 refine ⟨d.1,d.2,?_,?_⟩
 .simp only [Z4g];omega
 trivial
theorem ZsL{l:List Int}(h0:0 < (l.length:Int)):l=l.take ((l.length:Int) - 1).toNat++[l.getD ((l.length:Int) - 1).toNat 0]:=by
 have:=Zdt h0 (QS _)
 rw [Qq V1] at this
 exact this
theorem Zob{l:List Tree}(h0:0 < (l.length:Int)):l=l.take ((l.length:Int) - 1).toNat++[l.getD ((l.length:Int) - 1).toNat Tree.nil]:=by
 have:=Zaz (l:=l) (i:=(l.length:Int) - 1) V1 V1
 rw [Qq V1] at this
 exact this
theorem Zuo{l:List Int}(h0:0 < (l.length:Int))(hz:l.getD ((l.length:Int) - 1).toNat 0=0):trim (l.take ((l.length:Int) - 1).toNat)=trim l:=by
 have e:=Zdo (l.take ((l.length:Int) - 1).toNat)
 have h:=ZsL h0
 grind
theorem Zuq{l:List Int}(h:¬0 < (l.length:Int)\/¬l.getD ((l.length:Int) - 1).toNat 0=0):trim l=l:=by
 by_cases h0:0 < (l.length:Int)
 .have e:=ZkJ (x:=l.getD ((l.length:Int) - 1).toNat 0) V1 (l.take ((l.length:Int) - 1).toNat)
  rw [<-ZsL h0] at e
  exact e
 .have:l=[]:=Q3 V1
  subst this
  try rfl
theorem Zp2{l:List Tree}(h0:0 < (l.length:Int))(hz:(l.getD ((l.length:Int) - 1).toNat Tree.nil).kind=0):YQ (l.take ((l.length:Int) - 1).toNat)=YQ l:=by
 have e:=Zas hz (l.take ((l.length:Int) - 1).toNat)
 rw [<-Zob h0] at e
 exact e.symm
theorem Zp4{l:List Tree}(h:¬0 < (l.length:Int)\/¬(l.getD ((l.length:Int) - 1).toNat Tree.nil).kind=0):YQ l=l:=by
 by_cases h0:0 < (l.length:Int)
 .have e:=Zgs (x:=l.getD ((l.length:Int) - 1).toNat Tree.nil) V1 (l.take ((l.length:Int) - 1).toNat)
  rw [<-Zob h0] at e
  exact e
 .have:l=[]:=Q3 V1
  subst this
  try rfl
theorem c75:Contract Tryz.prog cfg 75 Z1g:=by
 refine ZGh ZHv ?_
 rintro N ⟨k,ws,ks⟩ _ hp hN
 have af:=ZD ks
 simp only [Z0W,Zv0,Zq] at hp hN
 refine ZKP N _ _ ?_;(try simp only [iB,vcT,forall_eq])
 (simp only [iB,vcS]);(try simp only [iB,vcT])
 try (simp only [vE])
 refine ⟨fun hc=> ?_,fun ab=> ⟨by simp only [Znw];omega,?_⟩⟩
 .have e:Z6 (.mk k ws ks)=Tree.nil:=by simp [Z6,hc]
  simp only [ZjI,e]
  exact ⟨⟨rfl,⟨⟨rfl,rfl⟩,⟨rfl,⟨rfl,trivial⟩⟩⟩,trivial⟩,trivial⟩
 .refine Z7 (ι:=Int × List Tree) (fun p=> ZcL (.mk k ws ks) p.1 p.2) (fun p=> 0<=p.1/\p.1<=ks.length/\p.2=J2 (ks.take p.1.toNat)) (fun p=> ((ks.length:Int) - p.1).toNat) (0,[]) rfl ⟨V1,V1,rfl⟩ ?_
  rintro ⟨i,l⟩ ⟨h1,h2,d⟩
  dsimp only at*
  have hl:l.length=i.toNat:=by rw [d,Z2A,Qu];omega
  refine ZBd N _ _ _ _ _ ?_;(try simp only [iB,vcT,forall_eq])
  (simp only [iB,vcS]);(try simp only [iB,vcT])
  try (simp only [vE])
  refine ⟨fun hc=> ?_,fun hc=> ⟨fun s=> ?_,fun s=> ?_⟩⟩
  .have hm:=Z1W (ks:=ks) (i:=i.toNat) V1
   have aa:J2 (ks.take (i+1).toNat)=l++[Z6 (ks.getD i.toNat Tree.nil)]:=by rw [Zaz h1 hc,Ze4,d]
   exact ⟨V1,by simp only [Z0W];omega,by simp only [Zv0];omega,by simp only [Q8,Qh];omega,V5,(i+1,_),rfl,⟨V1,V1,aa.symm⟩,V1⟩
  .have hi:ks.take i.toNat=ks:=Qq V1
   rw [hi] at d
   refine Z7 (ι:=List Int) (fun p=> ZcK (.mk k ws ks) l p) (fun p=> p.length<=ws.length/\trim p=trim ws) (fun p=> p.length) ws rfl ⟨V1,rfl⟩ ?_
   rintro w ⟨h6,h7⟩
   refine ZBc N _ _ _ _ _ ?_;(try simp only [iB,vcT,forall_eq])
   (simp only [iB,vcS]);(try simp only [iB,vcT])
   refine ⟨fun h=> by unfold InR;omega,fun h=> by omega,fun hc=> ⟨V5,V1,_,rfl,⟨by rw [List.length_take];omega,?_⟩,by rw [List.length_take];omega⟩,fun hc=> ?_⟩
   .rw [Zuo hc.1 hc.2,h7]
   .have hw:w=trim ws:=by rw [<-h7,Zuq hc]
    refine Z7 (ι:=List Tree) (fun p=> ZcJ (.mk k ws ks) w p) (fun p=> p.length<=l.length/\YQ p=YQ l) (fun p=> p.length) l rfl ⟨V1,rfl⟩ ?_
    rintro q ⟨h8,h9⟩
    refine ZBb N _ _ _ _ _ ?_;(try simp only [iB,vcT,forall_eq])
    (simp only [iB,vcS]);(try simp only [iB,vcT])
    refine ⟨fun h=> by unfold InR;omega,fun h=> by omega,fun hc=> ⟨V5,V1,_,rfl,⟨by rw [List.length_take];omega,?_⟩,by rw [List.length_take];omega⟩,fun hc=> ?_⟩
    .rw [Zp2 hc.1 hc.2,h9]
    .have hq:q=YQ (J2 ks):=by rw [<-d,<-h9,Zp4 hc]
     have e:Z6 (.mk k ws ks)= .mk k w q:=by
      subst s
      simp only [Z6,hw,hq]
      try rfl
     simp only [ZjI,e]
     trivial
  .have hi:ks.take i.toNat=ks:=Qq V1
   rw [hi] at d
   have e:Z6 (.mk k ws ks)= .mk k ws l:=by simp only [Z6,if_neg ab,if_neg s,d]
   simp only [ZjI,e]
   trivial
noncomputable section
def Zu5:ArgL (Int × Unit):=(.cons (Z0h .i64) .nil)
def ZpE(a:Int × Unit):Prop:=True
def Zy7(a:Int × Unit):V U:= .c (ci (wd a.1))
def ZbH:Fs U:=fs Zu5 (fun a=> [ZpE a]) Zy7
def ZAs:ArgL (Int × Int × Unit):=(.cons (Z0h .i64) (.cons (Z0h .u64) .nil))
def Zs4(a:Int × Int × Unit):Prop:=0<=a.2.1/\a.2.1 < 18446744073709551616
def ZET(a:Int × Int × Unit):V U:= .c (.bool (Zvs a.1 a.2.1))
def ZgD:Fs U:=fs ZAs (fun a=> [Zs4 a]) ZET
def mu130(a:Tree × Int × Unit):Nat:=Zq a.1
def Z7J(a:Tree × Int × Unit):Prop:=Zq a.1<=20000000000/\rng a.1/\0<=a.2.1/\a.2.1<=1000
def ZxI(a:Tree × Int × Unit):V U:= .c (.bool (Zr a.1 a.2.1))
def Z6o:Fs U:=fs ZtT (fun a=> [Z7J a]) ZxI
def Zzk:Zj U:=lvl [([0],[]),([3],[]),([3,4],[]),([2],[]),([3,6],[]),([2],[]),([3,8],[]),([2],[]),([3,10],[]),([2],[]),([3,12],[]),([2],[]),([14],[]),([2],[]),([2],[])]
abbrev ZM3(p:List Nat):=AW (Z3 Zqg) Tryz.f129 Zzk p
theorem ZJJ(c:Int)(Q:QT)(h:(iB (c==0) ((Q .ret (L2 [pI 2 0] []))) ((iB (c==1) ((Q .ret (L2 [pI 2 1] []))) ((iB (c==2) ((Q .ret (L2 [pI 2 8] []))) ((iB (c==3) ((Q .ret (L2 [pI 2 16] []))) ((iB (c==4) ((Q .ret (L2 [pI 2 32] []))) ((iB (c==5) ((Q .ret (L2 [pI 2 64] []))) ((Q .ret (L2 [pI 2 (-1)] []))))))))))))))):
  ZM3 [] (L2 [pI 0 c] []) Q:=
 Eq.mpr V6 h
def ZEB(c:Int):Prop:=AW (Z3 Zqg) Tryz.f129 Zzk [] (Zm (Zu5.can (c,())) []) (EQ Tryz.f129 (Zy7 (c,())) [])
theorem ZCw(hb:∀ (c:Int) (_:Unit),ZpE (c,())->ZEB c):CT 129 ZbH:=
 Z9 (l:=[]) Zo rfl trivial Zzk Tryz.func129 rfl rfl 1 (fun _=> rfl) V3 (fun ⟨c,_⟩=> hb c ())
def Zqe:List (FuncId × Fs U):=[(129,ZbH)]
def ZCE:Zj U:=lvl [([0,1],[]),([1,5],[]),([1,5,10],[]),([4],[]),([1,5,6],[]),([1,5,6,13],[]),([1,5,6],[]),([1,5,6],[]),([4],[])]
def ZcG(c n h d:Int):LSt U:=(L2 [(1,.c (.int .u64 h)),pI 5 (wd c),pI 6 d] [])
abbrev A81(p:List Nat):=AW (Z3 Zqe) Tryz.f81 ZCE p
abbrev S81(p:List Nat):=SW (Z3 Zqe) Tryz.f81 ZCE p
theorem ZKL(c n:Int)(Q:QT)(h:((ZpE (c,()))/\(iB (decide (((wd c):Int) < 0)) ((Q .ret (L2 [pB 4 false] []))) ((Zi (A81 [1,1,1,0,1,0,0]) (ZcG c n n 0) (xB 0 (S81 [1,1,1,1] Q))))))):
  A81 [] (L2 [pI 0 c,(1,.c (.int .u64 n))] []) Q:=
 Eq.mpr V6 h
theorem ZB6(c n s d:Int)(N0:NT)(Q:QT)(h:(iB (decide (d < (wd c))) (((2:Int)≠0)/\((InR (d+1))/\(N0 (ZcG c n (IntKind.wrap .u64 (Int.tdiv s 2)) (d+1))))) ((Q .ret (L2 [pB 4 (s==0)] []))))):
  A81 [1,1,1,0,1,0,0] (ZcG c n s d) (xT N0 (xB 0 (S81 [1,1,1,1] Q))):=
 Eq.mpr V6 h
def ZI4(c n:Int):Prop:=AW (Z3 Zqe) Tryz.f81 ZCE [] (Zm (ZAs.can (c,n,())) []) (EQ Tryz.f81 (ZET (c,n,())) [])
theorem ZGe(ZHt:CT 129 ZbH)(hb:∀ (c:Int) (n:Int) (_:Unit),Zs4 (c,n,())->ZI4 c n):CT 81 ZgD:=
 Z9 (l:=[(129,ZbH)]) Zo rfl (⟨ZHt,trivial⟩) ZCE Tryz.func81 rfl rfl 2 (fun _=> rfl) V3 (fun ⟨c,n,_⟩=> hb c n ())
def Zqn(N:Nat):List (FuncId × Fs U):=(31,fs ZtT (fun a=> [Z7J a,mu130 a < N]) ZxI) ::[(81,ZgD)]
def ZCN:Zj U:=lvl [([1,2],[2]),([1,2,10],[2]),([4],[]),([1,2,23],[2]),([4],[]),([1,2,68],[2]),([4],[]),([1,2,77],[2]),([4],[]),([1,2,5],[2]),([1,2,5,82],[2]),([1,2,5],[2]),([1,2,5,6],[2,6]),([1,2,5,6,94],[2,6]),([4],[]),([1,2,5,6,7],[2,6]),([1,2,5,131],[2]),([4],[]),([4],[])]
def ZcW(t:Tree)(d h:Int):LSt U:=(L2 [pI 1 d,pL 2,pI 5 h] [(.loc 2,(enc .tree t))])
abbrev A31(N:Nat)(p:List Nat):=AW (Z3 (Zqn N)) Tryz.f31 ZCN p
abbrev S31(N:Nat)(p:List Nat):=SW (Z3 (Zqn N)) Tryz.f31 ZCN p
theorem ZL1(N:Nat)(t:Tree)(d:Int)(Q:QT)(h:let z10:=(Q .ret (L2 [pB 4 false] []));let z9:=((t.kids.length:Int):Int)==0;let z7:=decide (t.kind < 0);let z6:=decide ((1:Int) < t.kind);let z5:=((t.words.length:Int):Int)==1;let z4:=((t.words.length:Int):Int)==0;let z1:=bif z7 then true else (decide ((10:Int) < t.kind));let z3:=bif z1 then true else (d==0);let z0:=bif z3 then true else (decide ((65536:Int)<=(t.words.length:Int)));let z8:=(!z0) && (t.kind==1);let z2:=bif z0 then true else (bif (t.kind==1) then (decide ((65536:Int)<=(t.kids.length:Int))) else false);(iB (t.kind==0) ((Tt z4)/\(Tt z4)/\(Tt z4)/\(Tt z4)/\(Q .ret (L2 [(4,.c (.bool (bif z4 then z9 else false)))] []))) ((iB (t.kind==10) ((Tt z5)/\(Tt z5)/\(Tt z5)/\(Tt z5)/\(Q .ret (L2 [(4,.c (.bool (bif z5 then z9 else false)))] []))) ((Tt (!z7))/\(Tt (!z7))/\(z7=false->(!z7)=true)/\(Tt (!z1))/\(z1=false->(!z1)=true)/\(Tt (!z3))/\(Tt (!z3))/\(Tt (!z3))/\(z3=false->(!z3)=true)/\(Tt (!z0))/\(Tt (!z0))/\(Tt (!z0))/\(Tt z8)/\(Tt z8)/\(Tt z8)/\((!z0)=true->(True->(!z0)=true))/\((!z0)=true->((t.kind==1)=true->z8=true))/\(z0=false->(!z0)=true)/\(Tt (!z2))/\(Tt (!z2))/\(Tt (!z2))/\(z2=false->(!z2)=true)/\(iB (bif z2 then true else (decide ((1048576:Int)<=(t.kids.length:Int)))) z10 ((Tt z6)/\(Tt z6)/\(Tt z6)/\(Tt z6)/\(iB (bif z6 then (decide ((0:Int) < (t.words.length:Int))) else false) z10 ((Zi (A31 N [1,1,1,1,1,0,1,0,0]) (ZcW t d 0) (xB 0 (S31 N [1,1,1,1,1,1] Q)))))))))))):
  A31 N [] (L2 [(0,.agg (enc .tree t)),pI 1 d] []) Q:=
 Eq.mpr V6 h
theorem ZBp(N:Nat)(t:Tree)(d x5:Int)(N0:NT)(Q:QT)(h:∀ s,s=(t.kids.getD x5.toNat Tree.nil)->∀ aa,aa=s->∀ ae,ae=(List.getD s.words (Int.toNat 0) (0:Int))->let z5:=(Q .ret (L2 [pB 4 false] []));let z3:=decide ((2:Int)<=t.kind);let z0:=bif z3 then (decide (t.kind<=7)) else false;let z2:=z0 !=(s.kind==10);let z4:=(!z2) && (t.kind==9);let z1:=bif z2 then true else (bif (t.kind==9) then (s.kind !=1) else false);(iB (decide (x5 < (t.kids.length:Int))) (((0:Int)<=x5/\x5 < (t.kids.length:Int))/\((InR (d - 1))/\(Z7J (aa,(d - 1),()))/\(mu130 (aa,(d - 1),()) < N)/\(iB (!(Zr aa (d - 1))) z5 ((Tt z3)/\(Tt z3)/\(Tt z3)/\((Tt (!z2))/\(Tt (!z2))/\(Tt (!z2))/\(Tt z4)/\(Tt z4)/\((!z2)=true->(True->(!z2)=true))/\((!z2)=true->((t.kind==9)=true->z4=true))/\(z2=false->(!z2)=true)/\(Tt (!z1))/\(Tt ((!z1) && z0))/\(Tt ((!z1) && z0))/\(((!z1) && z0)=true->InR (t.kind - 2))/\(Tt ((!z1) && z0))/\(Tt ((!z1) && z0))/\(((!z1) && z0)=true->(0:Int)<=0/\0 < (s.words.length:Int))/\(Tt ((!z1) && z0))/\(Tt ((!z1) && z0))/\(Tt ((!z1) && z0))/\(((!z1) && z0)=true->Zs4 ((t.kind - 2),ae,()))/\(Tt ((!z1) && z0))/\((!z1)=true->(True->(!z1)=true))/\((!z1)=true->(z0=true->((!z1) && z0)=true))/\(z1=false->(!z1)=true)/\(iB (bif z1 then true else (bif z0 then (!(Zvs (t.kind - 2) ae)) else false)) z5 ((InR (x5+1))/\(N0 (ZcW t d (x5+1)))))))))) ((Q .ret (L2 [pB 4 true] []))))):
  A31 N [1,1,1,1,1,0,1,0,0] (ZcW t d x5) (xT N0 (xB 0 (S31 N [1,1,1,1,1,1] Q))):=
 Eq.mpr V6 (h _ rfl _ (Zc _) _ rfl)
def ZIk(N:Nat)(t:Tree)(d:Int):Prop:=AW (Z3 (Zqn N)) Tryz.f31 ZCN [] (Zm (ZtT.can (t,d,())) []) (EQ Tryz.f31 (ZxI (t,d,())) [])
theorem ZGp(c81:CT 81 ZgD)(hb:∀ (N:Nat) (t:Tree) (d:Int) (_:Unit),Z7J (t,d,())->mu130 (t,d,()) < N+1->ZIk N t d):CT 31 Z6o:=
 YX (μ:=mu130) (l:=[(81,ZgD)]) Zo rfl (⟨c81,trivial⟩) ZCN Tryz.func31 rfl rfl 2 (fun _=> rfl) V3 (fun N ⟨t,d,_⟩=> hb N t d ())
end
theorem Z6j:∀ (l:List Int),trim l=[]↔∀ i:Nat,l.getD i 0=0
 | []=> by simp [trim]
 | x ::r=> by
  have s:=Z6j r
  constructor
  .intro h i
   simp only [trim] at h
   split at h
   .rename_i d
    split at h
    .cases i with
     | zero=> simpa
     | succ i=> simp_all
    .cases h
   .cases h
  .intro h
   have h0:=h 0
   have d:trim r=[]:=s.2 fun i=> by simpa using h (i+1)
   simp only [trim,d]
   grind
theorem Z3E(x:Int)(r:List Int):trim (x ::r)=if trim r=[]/\x=0 then [] else x ::trim r:=by
 simp only [trim]
 grind
theorem ZeD:∀ (a b:List Int),trim a=trim b↔∀ i:Nat,a.getD i 0=b.getD i 0
 | [],b=> by
  rw [show trim []=[] from rfl,eq_comm,Z6j]
  simp [eq_comm]
 | x ::r,[]=> by
  rw [show trim []=[] from rfl,Z6j]
  simp
 | x ::r,y ::s=> by
  have ih:=ZeD r s
  constructor
  .intro h i
   have ab:x=y/\trim r=trim s:=by
    rw [Z3E,Z3E] at h
    grind
   cases i with
   | zero=> grind
   | succ i=> simp_all
  .intro h
   have d:x=y:=by simpa using h 0
   have hr:trim r=trim s:=ih.2 fun i=> by simpa using h (i+1)
   rw [Z3E,Z3E,d,hr]
def ZDG(l:List Tree):Prop:=∀ x∈l,x.kind=0->x=Tree.nil
theorem Z0Q(x:Tree)(r:List Tree):YQ (x ::r)=if YQ r=[]/\x.kind=0 then [] else x ::YQ r:=by
 simp only [YQ]
 grind
theorem Z54:∀ (l:List Tree),ZDG l->(YQ l=[]↔∀ i:Nat,l.getD i Tree.nil=Tree.nil)
 | [],_=> by simp [YQ]
 | x ::r,hn=> by
  have ih:=Z54 r (fun y hy=> hn y (Q0 _ hy))
  have hx:=hn x (Q1 ..)
  rw [Z0Q]
  constructor
  .intro h i
   split at h
   .rename_i hc
    cases i with
    | zero=> grind
    | succ i=> simp_all
   .cases h
  .intro h
   have d:x=Tree.nil:=by simpa using h 0
   have s:YQ r=[]:=ih.2 fun i=> by simpa using h (i+1)
   rw [if_pos ⟨s,by rw [d];rfl⟩]
theorem Zbp:∀ (a b:List Tree),ZDG a->ZDG b->(YQ a=YQ b↔∀ i:Nat,a.getD i Tree.nil=b.getD i Tree.nil)
 | [],b,_,hb=> by
  rw [show YQ []=[] from rfl,eq_comm,Z54 b hb]
  simp [eq_comm]
 | x ::r,[],ha,_=> by
  rw [show YQ []=[] from rfl,Z54 _ ha]
  simp
 | x ::r,y ::s,ha,hb=> by
  have ih:=Zbp r s (fun y d=> ha y (Q0 _ d)) (fun y d=> hb y (Q0 _ d))
  have hx:=ha x (Q1 ..)
  have d:=hb y (Q1 ..)
  constructor
  .intro h i
   have ae:x=y/\YQ r=YQ s:=by
    rw [Z0Q,Z0Q] at h
    split at h <;> split at h
    .grind
    .cases h
    .cases h
    .simpa using h
   cases i with
   | zero=> grind
   | succ i=> simp_all
  .intro h
   have h0:x=y:=by simpa using h 0
   have hr:YQ r=YQ s:=ih.2 fun i=> by simpa using h (i+1)
   rw [Z0Q,Z0Q,h0,hr]
theorem ZjU:Z6 Tree.nil=Tree.nil:=by rfl
theorem Zb5(t:Tree):(Z6 t).kind=t.kind:=by
 obtain ⟨k,w,ks⟩:=t
 simp only [Z6]
 split
 .rename_i h;simp [h,Tree.nil]
 .split
  .rename_i h;simp [h]
  .try rfl
theorem Zb7:∀ (l:List Tree),ZDG (J2 l)
 | []=> by intro x d;trivial
 | t ::r=> by
  intro x d h
  simp only [J2,Qa] at d
  rcases d with rfl | d
  .rw [Zb5] at h
   obtain ⟨k,w,ks⟩:=t
   simp only [Tree.kind_mk] at h
   simp [Z6,h]
  .exact Zb7 r x d h
theorem Z1I:∀ (l:List Tree) (i:Nat),(J2 l).getD i Tree.nil=Z6 (l.getD i Tree.nil)
 | [],i=> by rfl
 | t ::r,0=> by simp [J2]
 | t ::r,i+1=> by simpa [J2] using Z1I r i
theorem Zci(a b:List Tree):J2 a=J2 b↔a.length=b.length/\∀ i:Nat,Z6 (a.getD i Tree.nil)=Z6 (b.getD i Tree.nil):=by
 constructor
 .intro h
  refine ⟨by rw [<-Z2A a,h,Z2A],fun i=> ?_⟩
  rw [<-Z1I,h,Z1I]
 .rintro ⟨hl,h⟩
  apply K3 (by rw [Z2A,Z2A,hl])
  intro i s d
  have:=h i
  rw [<-Z1I,<-Z1I] at this
  grind
theorem JE(a b:Tree):Z6 a=Z6 b↔a.kind=b.kind/\(a.kind=0\/(if a.kind=1 then (∀ i:Nat,a.words.getD i 0=b.words.getD i 0) else a.words=b.words/\a.kids.length=b.kids.length)/\∀ i:Nat,Z6 (a.kids.getD i Tree.nil)=Z6 (b.kids.getD i Tree.nil)):=by
 obtain ⟨k,w,ks⟩:=a
 obtain ⟨s,w',d⟩:=b
 show _↔k=s/\(k=0\/(if k=1 then (∀ i:Nat,w.getD i 0=w'.getD i 0) else w=w'/\ks.length=d.length)/\∀ i:Nat,Z6 (ks.getD i Tree.nil)=Z6 (d.getD i Tree.nil))
 by_cases hk:k=s
 .subst hk
  simp only [true_and]
  by_cases h0:k=0
  .simp [Z6,h0]
  .by_cases h1:k=1
   .subst h1
    simp only [Z6,if_neg h0,if_true,Tree.mk.injEq,true_and,ZeD,Zbp _ _ (Zb7 _) (Zb7 _),Z1I]
    simp
   .simp only [Z6,if_neg h0,if_neg h1,Tree.mk.injEq,true_and,Zci]
    grind
 .simp only [hk,false_and,iff_false]
  intro h
  have:=congrArg Tree.kind h
  rw [Zb5,Zb5] at this
  exact hk this
theorem ZmH{a b:Tree}(h:Z6 a=Z6 b)(h0:a.kind≠0)(i:Nat):a.words.getD i 0=b.words.getD i 0:=by
 obtain ⟨_,d⟩:=(JE a b).1 h
 grind
theorem Zqs{a b:Tree}(h:Z6 a=Z6 b)(h0:a.kind≠0)(i:Nat):Z6 (a.kids.getD i Tree.nil)=Z6 (b.kids.getD i Tree.nil):=by
 obtain ⟨_,d⟩:=(JE a b).1 h
 grind
theorem Zil(t:Tree)(i:Int):Zq (Z0z t i)<=Zq t/\(i < t.kids.length->0<=i->Zq (Z0z t i) < Zq t):=by
 obtain ⟨k,w,ks⟩:=t
 unfold Z0z
 have d:Zq Tree.nil=1:=rfl
 split
 .simp only [d,Zq];omega
 .simp only [Tree.kids_mk]
  by_cases hi:i.toNat < ks.length
  .have:=Z1W hi
   simp only [Zq];omega
  .rw [List.getD,QK V1]
   simp only [Option.getD_none,d,Zq];omega
theorem Zmi:Contract Tryz.prog cfg 114 Z0i:=by
 refine ZCz ZHh ZvL ZvK ?_
 rintro N a b _ hp hN
 have la:a.words.length+a.kids.length < Zq a:=by obtain ⟨k,w,ks⟩:=a;have:=ZD ks;simp only [Zq,Tree.words_mk,Tree.kids_mk];omega
 have lb:b.words.length+b.kids.length < Zq b:=by obtain ⟨k,w,ks⟩:=b;have:=ZD ks;simp only [Zq,Tree.words_mk,Tree.kids_mk];omega
 simp only [Z4j,ZjX] at hp hN
 have no:¬Z6 a=Z6 b->YZ cfg Tryz.f114.ntmps Tryz.f114.results.toList (ZaK (a,b,())) [] .ret (⟨[(4,.c (.bool false))],[],[]⟩:LSt U):=by
  intro h
  have e:YM (Z6 a) (Z6 b)=false:=Jk.2 h
  simp only [ZaK,e]
  exact ⟨⟨rfl,⟨rfl,trivial⟩,trivial⟩,trivial⟩
 refine ZJO N _ _ _ ?_;(try simp only [iB,vcT,forall_eq])
 (simp only [iB,vcS]);(try simp only [iB,vcT])
 refine ⟨fun hc=> ?_,fun hc=> ?_⟩
 .have e:YM (Z6 a) (Z6 b)=(a.kind==b.kind):=by
   by_cases d:a.kind=b.kind
   .have h0:a.kind=0:=by rcases hc with h | h;exact absurd d h;exact h
    rw [Yk.2 ((JE a b).2 ⟨d,.inl h0⟩)]
    simp [d]
   .rw [Jk.2 (fun h=> d ((JE a b).1 h).1)]
    simp [d]
  simp only [ZaK,e]
  exact ⟨⟨rfl,⟨rfl,trivial⟩,trivial⟩,trivial⟩
 .refine ⟨fun _=> by simp only [ZjM];omega,fun h h'=> ⟨h,h'⟩,fun hd=> no ?_,fun hd=> ?_⟩
  .intro h
   obtain ⟨_,h2⟩:=(JE a b).1 h
   grind
  .refine Z7 (ι:=Int) (fun p=> Z9K a b p) (fun p=> 0<=p/\p<=2000000000000/\∀ j:Nat,j < p.toNat->a.words.getD j 0=b.words.getD j 0) (fun p=> (2000000000000 - p).toNat) 0 rfl ⟨V1,V1,fun j s=> by simp at s⟩ ?_
   rintro i ⟨h1,h2,h3⟩
   refine Zx6 N _ _ _ _ _ ?_;(try simp only [iB,vcT,forall_eq])
   (simp only [iB,vcS]);(try simp only [iB,vcT])
   have wa:∀ t:Tree,Ji t i=t.words.getD i.toNat 0:=fun t=> by unfold Ji;omega
   refine ⟨fun hi=> ⟨trivial,trivial,fun hn=> no fun h=> hn ?_,fun he=> ⟨?_,?_⟩⟩,fun hi=> ?_⟩
   .rw [wa,wa]
    exact ZmH h hc.2 _
   .unfold InR;omega
   .refine ⟨i+1,rfl,⟨V1,V1,fun j s=> ?_⟩,V1⟩
    by_cases hj':j < i.toNat
    .exact h3 j hj'
    .have:j=i.toNat:=V1
     simp_all
   .have hw:∀ j:Nat,a.words.getD j 0=b.words.getD j 0:=fun j=> by
     grind
    refine Z7 (ι:=Int) (fun p=> Z9J a b p) (fun p=> 0<=p/\p<=2000000000000/\∀ j:Nat,j < p.toNat->Z6 (a.kids.getD j Tree.nil)=Z6 (b.kids.getD j Tree.nil)) (fun p=> (2000000000000 - p).toNat) 0 rfl ⟨V1,V1,fun j s=> by simp at s⟩ ?_
    rintro q ⟨h5,h6,h7⟩
    refine Zx5 N _ _ _ _ _ ?_;(try simp only [iB,vcT,forall_eq])
    (simp only [iB,vcS]);(try simp only [iB,vcT])
    have ka:∀ t:Tree,Z0z t q=t.kids.getD q.toNat Tree.nil:=fun t=> by unfold Z0z;grind
    have ma:=Zil a q
    have mb:=Zil b q
    try (simp only [vE])
    refine ⟨fun hq=> ⟨trivial,trivial,?_,?_,fun hn=> no fun h=> ?_,fun he=> ⟨?_,?_⟩⟩,fun hq=> ?_⟩
    .simp only [Z4j];omega
    .simp only [ZjX];omega
    .rw [Jk] at hn
     apply hn
     rw [ka,ka]
     exact Zqs h hc.2 _
    .unfold InR;omega
    .refine ⟨q+1,rfl,⟨V1,V1,fun j s=> ?_⟩,V1⟩
     by_cases hj':j < q.toNat
     .exact h7 j hj'
     .have:j=q.toNat:=V1
      rw [this,<-ka,<-ka]
      exact Yk.1 he
    .have d:∀ j:Nat,Z6 (a.kids.getD j Tree.nil)=Z6 (b.kids.getD j Tree.nil):=fun j=> by
      grind
     have e:YM (Z6 a) (Z6 b)=true:=by
      rw [Yk,JE]
      refine ⟨hc.1,.inr ⟨?_,d⟩⟩
      split
      .exact hw
      .grind
     simp only [ZaK,e]
     trivial
mutual
theorem Z27:∀ (t:Tree) (d l:Int),0<=ZT t d l->(Zq t:Int)+ZT t d l<=l
 | .mk _ w ks,d,l,h=> by
  simp only [ZT] at h ⊢
  split at h
  .omega
  .rename_i hc
   rw [if_neg hc]
   have:=Z56 ks (d - 1) (l - 1 - w.length) h
   simp only [Zq]
   omega
theorem Z56:∀ (ks:List Tree) (d l:Int),0<=ZI ks d l->(Ze ks:Int)+ZI ks d l<=l
 | [],d,l,h=> by simp [ZI,Ze]
 | t ::r,d,l,h=> by
  simp only [ZI] at h ⊢
  split at h
  .omega
  .rename_i hc
   rw [if_neg hc]
   have h1:=Z56 r d (ZT t d l) h
   have h3:=(Z28 r d (ZT t d l) (JI t d l).1).2
   have s:=Z27 t d l V1
   simp only [Ze]
   omega
end
theorem Zl{n k:Nat}{rs:List ResultVar}{b b':Bool}(hr:rs=[ResultVar.tmp k])(h:b=b'):YZ cfg n rs (.c (.bool b')) [] .ret (⟨[(k,.c (.bool b))],[],[]⟩:LSt U):=by
 subst hr h
 have d:Nat.beq k k=true:=Nat.beq_refl k
 simp [YZ,ZHZ,ZkC,ZkB,ZaJ,ZdD,LSt.toF,Zj1,d,ZhF,Z6D,JX,Z1i,leR,leL,leC,ZvY]
theorem YW{n k:Nat}{rs:List ResultVar}{K:IntKind}{b b':Int}(hr:rs=[ResultVar.tmp k])(h:b=b'):YZ cfg n rs (.c (.int K b')) [] .ret (⟨[(k,.c (.int K b))],[],[]⟩:LSt U):=by
 subst hr h
 have d:Nat.beq k k=true:=Nat.beq_refl k
 simp [YZ,ZHZ,ZkC,ZkB,ZaJ,ZdD,LSt.toF,Zj1,d,ZhF,Z6D,JX,Z1i,leR,leL,leC,ZvY]
theorem ZHt:Contract Tryz.prog cfg 129 ZbH:=by
 refine ZCw ?_
 intro c _ _
 refine ZJJ _ _ ?_;(try simp only [iB,vcT,forall_eq])
 (simp only [iB,vcS]);(try simp only [iB,vcT])
 refine ⟨fun h=> YW rfl ?_,fun h=> ⟨fun h=> YW rfl ?_,fun h=> ⟨fun h=> YW rfl ?_,fun h=> ⟨fun h=> YW rfl ?_,fun h=> ⟨fun h=> YW rfl ?_,fun h=> ⟨fun h=> YW rfl ?_,fun h=> YW rfl ?_⟩⟩⟩⟩⟩⟩ <;> simp only [wd] <;> simp [*]
theorem ZIO(c:Int): -1<=wd c/\wd c<=64:=by
 unfold wd
 omega
theorem ZoX(n:Int)(h0:0<=n)(h1:n < 18446744073709551616):IntKind.wrap .u64 (Int.tdiv n 2)=n / 2:=by
 rw [XF h0]
 simp [IntKind.wrap,IntKind.signed,IntKind.bits]
 omega
theorem c81:Contract Tryz.prog cfg 81 ZgD:=by
 refine ZGe ZHt ?_
 intro c n _ hp
 simp only [Zs4] at hp
 have hw:=ZIO c
 refine ZKL _ _ _ ?_;(try simp only [iB,vcT,forall_eq])
 (simp only [iB,vcS]);(try simp only [iB,vcT])
 refine ⟨trivial,fun h=> Zl rfl ?_,fun h=> ?_⟩
 .simp only [Zvs]
  simp
  omega
 .refine Z7 (ι:=Int × Int) (fun p=> ZcG c n p.1 p.2) (fun p=> 0<=p.2/\p.2<=wd c/\0<=p.1/\p.1 < 18446744073709551616/\(n < 2 ^ (wd c).toNat↔p.1 < 2 ^ (wd c - p.2).toNat)) (fun p=> (wd c - p.2).toNat) (n,0) rfl ⟨V1,V1,V1,V1,by simp⟩ ?_
  rintro ⟨m,i⟩ ⟨h1,h2,s,h4,d⟩
  dsimp only at*
  refine ZB6 _ _ _ _ _ _ ?_;(try simp only [iB,vcT,forall_eq])
  (simp only [iB,vcS]);(try simp only [iB,vcT])
  refine ⟨fun hc=> ⟨V1,V5,(IntKind.wrap .u64 (Int.tdiv m 2),i+1),rfl,?_,V1⟩,fun hc=> Zl rfl ?_⟩
  .rw [ZoX m s h4]
   refine ⟨V1,V1,V1,V1,?_⟩
   dsimp only
   rw [d,show (wd c - i).toNat=(wd c - (i+1)).toNat+1 by omega]
   omega
  .have e:(wd c - i).toNat=0:=V1
   rw [e] at d
   simp only [Zvs]
   grind
theorem ZxC{t:Tree}(h:rng t){i:Nat}(hi:i < t.words.length):0<=t.words.getD i 0/\t.words.getD i 0 < 18446744073709551616:=by
 obtain ⟨k,w,ks⟩:=t
 simp only [rng] at h
 simp_all
theorem Znj{l:Int}{ks:List Tree}{i:Int}{d:Int}(h0:0<=i)(h:i < ks.length):
  J4 l (ks.drop i.toNat) d=((Z2n l (ks.getD i.toNat Tree.nil) && Zr (ks.getD i.toNat Tree.nil) d) && J4 l (ks.drop (i+1).toNat) d):=by
 have e:(i+1).toNat=i.toNat+1:=V1
 rw [QP V1,e]
 simp only [J4,List.getD,Q4 (show i.toNat < ks.length by omega),Xh]
theorem Znf:∀ {ks:List Tree} {i:Nat},J6 ks->i < ks.length->rng (ks.getD i Tree.nil)
 | t ::_,0,h,_=> by simp only [J6] at h;exact h.1
 | _ ::r,i+1,h,hi=> by simp only [J6] at h;exact Znf (ks:=r) (i:=i) h.2 (by simpa using hi)
theorem Zng{y:Tree}{d:Int}(h:Zr y d=true)(hk:y.kind=10):y.words.length=1/\y.kids.length=0:=by
 obtain ⟨k,w,ks⟩:=y
 simp only [Tree.kind_mk] at hk
 subst hk
 simpa [Zr] using h
theorem c31:Contract Tryz.prog cfg 31 Z6o:=by
 refine ZGp c81 ?_
 rintro N ⟨k,ws,ks⟩ d _ hp hN
 simp only [Z7J,mu130,Zq,rng] at hp hN
 refine ZL1 N _ _ _ ?_;(try simp only [iB,vcT,forall_eq])
 (simp only [iB,vcS]);(try simp only [iB,vcT])
 try (simp only [vE])
 refine ⟨fun h0=> Zl rfl ?_,fun h0=> ⟨fun aa=> Zl rfl ?_,fun aa=> ⟨fun a b=> ⟨a,b⟩,fun hc=> Zl rfl ?_,fun hc=> ⟨fun hw=> Zl rfl ?_,fun hw=> ?_⟩⟩⟩⟩
 .simp only [Zr,if_pos h0]
  rw [QM];(simp only [iB,vcS]);omega
 .simp only [Zr,if_neg h0,if_pos aa]
  rw [QM];(simp only [iB,vcS]);omega
 .simp only [Zr,if_neg h0,if_neg aa]
  split
  .try rfl
  .split
   .rw [decide_eq_false V1];try rfl
   .have:¬(2<=k/\k<=9/\ws.length=0/\ks.length < 1048576):=V1
    rw [decide_eq_false this];try rfl
 .simp only [Zr,if_neg h0,if_neg aa]
  rw [Jv,Jv]
  have:¬(2<=k/\k<=9/\ws.length=0/\ks.length < 1048576):=V1
  rw [decide_eq_false this];try rfl
 .have hb:Zr (.mk k ws ks) d=J4 k ks (d - 1):=by
   simp only [Zr,if_neg h0,if_neg aa]
   rw [Jv]
   split
   .rename_i h1
    rw [decide_eq_true V1,h1];try rfl
   .have:2<=k/\k<=9/\ws.length=0/\ks.length < 1048576:=V1
    rw [decide_eq_true this];try rfl
  refine Z7 (ι:=Int) (fun p=> ZcW (.mk k ws ks) d p) (fun p=> 0<=p/\p<=ks.length/\Zr (.mk k ws ks) d=J4 k (ks.drop p.toNat) (d - 1)) (fun p=> ((ks.length:Int) - p).toNat) 0 rfl ⟨V1,V1,by simpa using hb⟩ ?_
  rintro i ⟨h1,h2,h3⟩
  refine ZBp N _ _ _ _ _ ?_;(try simp only [iB,vcT,forall_eq])
  (simp only [iB,vcS]);(try simp only [iB,vcT])
  try (simp only [vE])
  refine ⟨fun hi=> ?_,fun hi=> ?_⟩
  .have hd:=Znj (l:=k) (d:=d - 1) h1 hi
   have hm:=Z1W (ks:=ks) (i:=i.toNat) V1
   have hr:=Znf (i:=i.toNat) hp.2.1.2.2 V1
   rw [hd] at h3
   have ay:=ZD ks
   generalize ks.getD i.toNat Tree.nil=y at*
   have ak:Z7J (y,d - 1,()):=⟨V4,hr,V4,V4⟩
   have av:mu130 (y,d - 1,()) < N:=by simp only [mu130];omega
   have ar:InR (d - 1):=V5
   refine ⟨⟨h1,hi⟩,ar,ak,av,fun hf=> Zl rfl ?_,fun hf=> ?_⟩
   .rw [h3,hf];simp
   .have s:((bif decide (2<=k) then decide (k<=7) else false)=(y.kind==10))↔((2<=k/\k<=7)↔y.kind=10):=by
     rw [QM];(simp only [iB,vcS])
    have al:=Zng hf
    have aj:Z2n k y=true↔(((2<=k/\k<=7)↔y.kind=10)/\(¬k=9\/y.kind=1))/\((¬2<=k\/¬k<=7)\/Zvs (k - 2) (y.words.getD 0 0)=true):=by
     unfold Z2n
     by_cases hk:2<=k/\k<=7
     .rw [if_pos hk]
      (simp only [iB,vcS])
      constructor
      .rintro ⟨h,h5⟩;exact ⟨⟨V1,V1⟩,.inr h5⟩
      .rintro ⟨⟨h,_⟩,h5⟩
       have:=al V1
       exact ⟨V1,by rcases h5 with h5 | h5;omega;exact h5⟩
     .rw [if_neg hk]
      by_cases h9:k=9
      .rw [if_pos h9]
       (simp only [iB,vcS])
       constructor
       .intro h;exact ⟨⟨V1,V1⟩,.inl V1⟩
       .rintro ⟨⟨_,h⟩,_⟩;omega
      .rw [if_neg h9]
       (simp only [iB,vcS])
       constructor
       .intro h;exact ⟨⟨V1,V1⟩,.inl V1⟩
       .rintro ⟨⟨h,_⟩,_⟩;omega
    have ae:∀ (h:(((bif decide (2<=k) then decide (k<=7) else false)=(y.kind==10)/\(¬k=9\/y.kind=1))/\2<=k/\k<=7)),y.words.length=1:=fun h=> (al ((s.1 h.1.1).1 h.2)).1
    simp only [Int.toNat_zero]
    refine ⟨fun a b=> ⟨a,b⟩,fun h=> by unfold InR;omega,fun h=> by have:=ae h;omega,fun h=> ZxC hr (by have:=ae h;omega),fun a b=> ⟨a,b⟩,fun h=> Zl rfl ?_,fun h=> ⟨V5,i+1,rfl,⟨V1,V1,?_⟩,V1⟩⟩
    .have aq:Z2n k y=false:=by
      cases hkk:Z2n k y with
      | false=> rfl
      | true=>
       exfalso
       obtain ⟨h5,h6⟩:=aj.1 hkk
       rcases h with h | ⟨h,h7⟩
       .rcases h with h | h
        .exact h (s.2 h5.1)
        .omega
       .rcases h6 with h6 | h6
        .omega
        .rw [h7] at h6;cases h6
     rw [h3,aq];try rfl
    .rw [h3,aj.2 ⟨⟨s.1 h.1.1,h.1.2⟩,h.2⟩,hf];try rfl
  .rw [QF V1] at h3
   simp only [J4] at h3
   exact Zl rfl h3.symm
theorem Zkj{t:Tree}(h:0<=ZT t 80 3000):Zq t<=20000000000:=by
 have:=Z27 t 80 3000 h
 omega
end Go.AM.YtpjenobkibfpcaaGreat
