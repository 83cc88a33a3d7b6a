import Derived.Test.YtfapacabjkhepaaGreatWmX
import Derived.Test.YtfapacabjkhepaaGreatWKD20
set_option linter.unusedSimpArgs false
set_option linter.unusedVariables false
namespace Go.AM
open Go.ChangeShapes Go.WideShapes Go.RowKit
def inE(e:Edit):Prop:=Z3V e/\YI e
def ZHU(k:Kid):Prop:=Zke k/\Z1v k
def inO(o:Op):Prop:=ZoC o/\YJ o
theorem Zwh{ks:List Kid}(h:∀ k∈ks,ZHU k):Z78 ks/\Z1l ks:=by
 induction ks with
 | nil=> trivial
 | cons t r ih=>
  have h1:=h t (Q3 ..)
  have h2:=ih fun x hx=> h x (Q0 _ hx)
  exact ⟨⟨h1.1,h2.1⟩,h1.2,h2.2⟩
theorem ZA0{os:List Op}(h:∀ o∈os,inO o):Z77 os/\Z0Q os:=by
 induction os with
 | nil=> trivial
 | cons t r ih=>
  have h1:=h t (Q3 ..)
  have h2:=ih fun x hx=> h x (Q0 _ hx)
  exact ⟨⟨h1.1,h2.1⟩,h1.2,h2.2⟩
section
variable {P:Program} {cfg:Cfg U} {w:World} {H:Type} {henc:TypeId × Value->H}
structure EditTypes (cfg:Cfg U):Prop where
 wvar:∃ zs,cfg.var (cfg.elT .wedit)=some (true,zs)/\zs.length=4
 w0:∃ t n,cfg.fld (cfg.elT .wedit) 0=some (0,t)/\cfg.var t=some (false,[.int .i64 n])
 w1:∃ t n,cfg.fld (cfg.elT .wedit) 1=some (1,t)/\cfg.var t=some (false,[.int .u8 n])
 w2:∃ t n,cfg.fld (cfg.elT .wedit) 2=some (2,t)/\cfg.var t=some (false,[.int .u64 n])
 w3:∃ t n,cfg.fld (cfg.elT .wedit) 3=some (3,t)/\cfg.var t=some (false,[.int .u64 n])
 kvar:∃ zs,cfg.var (cfg.elT .kid)=some (true,zs)/\zs.length=12
 k0:∃ t n,cfg.fld (cfg.elT .kid) 0=some (0,t)/\cfg.var t=some (false,[.int .i64 n])
 k1:cfg.fld (cfg.elT .kid) 1=some (1,cfg.elT .edit)
 ovar:∃ zs,cfg.var (cfg.elT .op)=some (true,zs)/\zs.length=14
 o0:∃ t n,cfg.fld (cfg.elT .op) 0=some (0,t)/\cfg.var t=some (false,[.int .i64 n])
 o1:∃ t n,cfg.fld (cfg.elT .op) 1=some (1,t)/\cfg.var t=some (false,[.int .i64 n])
 o2:∃ t c,cfg.fld (cfg.elT .op) 2=some (2,t)/\cfg.var t=some (false,[c])/\cfg.slT t=some .tree
 o3:cfg.fld (cfg.elT .op) 3=some (3,cfg.elT .edit)
 evar:∃ zs,cfg.var (cfg.elT .edit)=some (true,zs)/\zs.length=11
 e0:∃ t n,cfg.fld (cfg.elT .edit) 0=some (0,t)/\cfg.var t=some (false,[.int .i64 n])
 e1:cfg.fld (cfg.elT .edit) 1=some (1,cfg.elT .tree)
 e2:cfg.fld (cfg.elT .edit) 2=some (4,cfg.elT .tree)
 e3:∃ t c,cfg.fld (cfg.elT .edit) 3=some (7,t)/\cfg.var t=some (false,[c])/\cfg.slT t=some .wedit
 e4:∃ t c,cfg.fld (cfg.elT .edit) 4=some (8,t)/\cfg.var t=some (false,[c])/\cfg.slT t=some .kid
 e5:∃ t n,cfg.fld (cfg.elT .edit) 5=some (9,t)/\cfg.var t=some (false,[.int .i64 n])
 e6:∃ t c,cfg.fld (cfg.elT .edit) 6=some (10,t)/\cfg.var t=some (false,[c])/\cfg.slT t=some .op
theorem Zup(ok:CfgOk P cfg)(T:TreeTypes cfg)(E:EditTypes cfg)(n:Nat)(cs:List Value)(h:Rdd henc P w n (cfg.elT .wedit) cs):∃ e:WEdit,RelS cfg w.cell? cs (cfg.enc .wedit e)/\Z28 e:=by
 obtain ⟨zs,hz,hzl⟩:=E.wvar
 obtain ⟨t0,n0,f0,v0⟩:=E.w0
 obtain ⟨t1,n1,f1,v1⟩:=E.w1
 obtain ⟨t2,n2,f2,v2⟩:=E.w2
 obtain ⟨t3,n3,f3,v3⟩:=E.w3
 obtain ⟨m,rfl,hl,r0⟩:=J7 ok f0 v0 h
 obtain ⟨m',e',_,r1⟩:=J7 ok f1 v1 h
 cases e'
 obtain ⟨m',e',_,r2⟩:=J7 ok f2 v2 h
 cases e'
 obtain ⟨m',e',_,r3⟩:=J7 ok f3 v3 h
 cases e'
 have hl4:cs.length=4:=by rw [hl,Z0a ok hz,hzl]
 obtain ⟨a,a1,a2,a3⟩:=Z2a ok v0 r0
 obtain ⟨b,b1,b2,b3⟩:=Z2a ok v1 r1
 obtain ⟨c,c1,c2,c3⟩:=Z2a ok v2 r2
 obtain ⟨d,d1,d2,d3⟩:=Z2a ok v3 r3
 have g:=a1.glue rfl (by simp;omega) (b1.glue rfl (by simp;omega) (c1.glue rfl (by simp;omega) (d1.glue rfl (by simp;omega) (RelS.done (n:=4) hl4))))
 refine ⟨⟨a,b,c,d⟩,by rw [T.enc];exact g,⟨a2,a3⟩,⟨b2,?_⟩,⟨c2,?_⟩,d2,?_⟩
 .have:b<=255:=b3
  grind
 .have:c<=18446744073709551615:=c3
  grind
 .have:d<=18446744073709551615:=d3
  grind
theorem ZCJ (ok:CfgOk P cfg) (T:TreeTypes cfg) (E:EditTypes cfg) (n:Nat) (IH:∀ m,m < n->∀ cs,Rdd henc P w m (cfg.elT .edit) cs->∃ e:Edit,RelS cfg w.cell? cs (cfg.enc .edit e)/\inE e)
  (cs:List Value) (h:Rdd henc P w n (cfg.elT .kid) cs):∃ e:Kid,RelS cfg w.cell? cs (cfg.enc .kid e)/\ZHU e:=by
 obtain ⟨zs,hz,hzl⟩:=E.kvar
 obtain ⟨t0,n0,f0,v0⟩:=E.k0
 obtain ⟨ez,hez,hezl⟩:=E.evar
 obtain ⟨m,rfl,hl,r0⟩:=J7 ok f0 v0 h
 obtain ⟨m',e',_,r1⟩:=J7 ok E.k1 hez h
 cases e'
 have hl4:cs.length=12:=by rw [hl,Z0a ok hz,hzl]
 obtain ⟨a,a1,a2,a3⟩:=Z2a ok v0 r0
 obtain ⟨b,b1,b2⟩:=IH m YL _ r1
 rw [hezl] at b1
 rw [T.enc] at b1
 have g:=a1.glue rfl (by simp;omega) (b1.glue rfl YL (RelS.done (n:=12) hl4))
 exact ⟨⟨a,b⟩,by rw [T.enc];exact g,b2.1,⟨a2,a3⟩,b2.2⟩
theorem ZHE (ok:CfgOk P cfg) (T:TreeTypes cfg) (E:EditTypes cfg) (n:Nat) (IH:∀ m,m < n->∀ cs,Rdd henc P w m (cfg.elT .edit) cs->∃ e:Edit,RelS cfg w.cell? cs (cfg.enc .edit e)/\inE e)
  (cs:List Value) (h:Rdd henc P w n (cfg.elT .op) cs):∃ e:Op,RelS cfg w.cell? cs (cfg.enc .op e)/\inO e:=by
 obtain ⟨zs,hz,hzl⟩:=E.ovar
 obtain ⟨t0,n0,f0,v0⟩:=E.o0
 obtain ⟨t1,n1,f1,v1⟩:=E.o1
 obtain ⟨t2,c2,f2,v2,s2⟩:=E.o2
 obtain ⟨ez,hez,hezl⟩:=E.evar
 obtain ⟨m,rfl,hl,r0⟩:=J7 ok f0 v0 h
 obtain ⟨m',e',_,r1⟩:=J7 ok f1 v1 h
 cases e'
 obtain ⟨m',e',_,r2⟩:=J7 ok f2 v2 h
 cases e'
 obtain ⟨m',e',_,r3⟩:=J7 ok E.o3 hez h
 cases e'
 have hl4:cs.length=14:=by rw [hl,Z0a ok hz,hzl]
 obtain ⟨a,a1,a2,a3⟩:=Z2a ok v0 r0
 obtain ⟨b,b1,b2,b3⟩:=Z2a ok v1 r1
 obtain ⟨c,c1,c2,c3⟩:=Zfj ok s2 (fun m _ cs h=> ZdU ok T m cs h) r2
 obtain ⟨d,d1,d2⟩:=IH m YL _ r3
 rw [hezl] at d1
 rw [T.enc] at d1
 rw [T.bytes] at c2
 have hk:=ZBR c3
 have g:=a1.glue rfl (by simp;omega) (b1.glue rfl (by simp;omega) (c1.glue rfl (by simp;omega) (d1.glue rfl YL (RelS.done (n:=14) hl4))))
 exact ⟨⟨a,b,c,d⟩,by rw [T.enc];exact g,⟨Z1x c2 V2,hk.1,d2.1⟩,⟨a2,a3⟩,⟨b2,b3⟩,hk.2,d2.2⟩
theorem ZyJ(ok:CfgOk P cfg)(T:TreeTypes cfg)(E:EditTypes cfg):∀ (n:Nat) (cs:List Value),Rdd henc P w n (cfg.elT .edit) cs->∃ e:Edit,RelS cfg w.cell? cs (cfg.enc .edit e)/\inE e:=by
 intro n
 induction n using Nat.strongRecOn with
 | ind n IH=>
  intro cs h
  obtain ⟨zs,hz,hzl⟩:=E.evar
  obtain ⟨t0,n0,f0,v0⟩:=E.e0
  obtain ⟨tz,htz,htzl⟩:=T.var
  obtain ⟨t3,c3,f3,v3,s3⟩:=E.e3
  obtain ⟨t4,c4,f4,v4,s4⟩:=E.e4
  obtain ⟨t5,n5,f5,v5⟩:=E.e5
  obtain ⟨t6,c6,f6,v6,s6⟩:=E.e6
  obtain ⟨m,rfl,hl,r0⟩:=J7 ok f0 v0 h
  obtain ⟨m',e',_,r1⟩:=J7 ok E.e1 htz h
  cases e'
  obtain ⟨m',e',_,r2⟩:=J7 ok E.e2 htz h
  cases e'
  obtain ⟨m',e',_,r3⟩:=J7 ok f3 v3 h
  cases e'
  obtain ⟨m',e',_,r4⟩:=J7 ok f4 v4 h
  cases e'
  obtain ⟨m',e',_,r5⟩:=J7 ok f5 v5 h
  cases e'
  obtain ⟨m',e',_,r6⟩:=J7 ok f6 v6 h
  cases e'
  have hl3:cs.length=11:=by rw [hl,Z0a ok hz,hzl]
  obtain ⟨k,a1,a2,a3⟩:=Z2a ok v0 r0
  obtain ⟨o,b1,b2⟩:=ZdU ok T _ _ r1
  obtain ⟨nw,d1,d2⟩:=ZdU ok T _ _ r2
  obtain ⟨ws,p1,p2,p3⟩:=Zfj ok s3 (fun m _ cs h=> Zup ok T E m cs h) r3
  obtain ⟨ks,q1,q2,q3⟩:=Zfj ok s4 (fun m' hm cs h=> ZCJ ok T E m' (fun m2 hm2 cs h=> IH m2 YL cs h) cs h) r4
  obtain ⟨l,i1,i2,i3⟩:=Z2a ok v5 r5
  obtain ⟨os,j1,j2,j3⟩:=Zfj ok s6 (fun m' hm cs h=> ZHE ok T E m' (fun m2 hm2 cs h=> IH m2 YL cs h) cs h) r6
  rw [T.bytes] at p2 q2 j2
  rw [htzl,T.enc] at b1 d1
  have hk:=Zwh q3
  have ho:=ZA0 j3
  have g:=a1.glue rfl (by simp;omega) (b1.glue rfl YL (d1.glue rfl YL (p1.glue rfl (by simp;omega) (q1.glue rfl (by simp;omega) (i1.glue rfl (by simp;omega) (j1.glue rfl (by simp;omega) (RelS.done (n:=11) hl3)))))))
  refine ⟨.mk k o nw ws ks l os,by rw [T.enc];exact g,⟨b2.1,d2.1,Z1x p2 V2,Z1x q2 V2,Z1x j2 V2,hk.1,ho.1⟩,⟨a2,a3⟩,b2.2,d2.2,p3,⟨i2,i3⟩,hk.2,ho.2⟩
end
end Go.AM
