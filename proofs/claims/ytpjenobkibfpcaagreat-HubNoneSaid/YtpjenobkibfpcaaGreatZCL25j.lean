import Derived.Test.YtpjenobkibfpcaaGreatZKRB07
set_option linter.unusedSimpArgs false
set_option linter.unusedVariables false
namespace Go.AM.YtpjenobkibfpcaaGreat
open Go.AM Go.Proofs
noncomputable section
def Zk4:ArgL (Edit × Int × Int × Unit):=(.cons (aEl .edit) (.cons (YR .i64) (.cons (YR .i64) .nil)))
def ZbF(a:Edit × Int × Int × Unit):Prop:=Z2T a.1/\0<=a.2.1/\a.2.1<=4611686018427387904/\-1<=a.2.2.1/\a.2.2.1<=4611686018427387904
def ZhM(a:Edit × Int × Int × Unit):Nat:=Z8 a.1
def ZkM(a:Edit × Int × Int × Unit):V U:= .c (ci (Z1y a.1 a.2.1 a.2.2.1))
def ZaY:Fs U:=fs Zk4 (fun a=> [ZbF a]) ZkM
def Zt6:ArgL (Edit × Unit):=(.cons (aEl .edit) .nil)
def Zqe(a:Edit × Unit):Prop:=Z2T a.1
def ZwV(a:Edit × Unit):V U:= .c (.bool (decide (0<=Z1y a.1 80 3000)))
def Zba:Fs U:=fs Zt6 (fun a=> [Zqe a]) ZwV
def ZjL(N:Nat):List (FuncId × Fs U):=(91,fs Zk4 (fun a=> [ZbF a,ZhM a < N]) ZkM) ::[(80,ZaZ)]
def Zvc:Z6 U:=lvl [([1,2,3],[3]),([1,2,3],[3]),([1,2,3,25],[3]),([6],[]),([1,2,3],[3]),([1,2,3,31],[3]),([1,2,3,31],[3]),([1,2,3,7],[3]),([1,2,3,7,44],[3]),([1,2,3,7],[3]),([1,2,3,7],[3]),([1,2,3,8],[3]),([1,2,3,8,65],[3]),([1,2,3,8],[3]),([1,2,3,8,9],[3]),([1,2,3,8,9,80],[3]),([1,2,3,8,9],[3]),([1,2,3,8,9],[3]),([1,2,3,8,95],[3]),([1,2,3,8],[3]),([6],[])]
def Z7F(e:Edit)(d n b:Int):LSt U:=(L2 [pI 1 d,pI 2 b,pL 3,(31,.c (.bool (decide ((0:Int)<=(ZZ (Tree.mk e.old.kind e.old.words e.old.kids) 80 ((((((n:Int) - 1):Int) - (e.words.length:Int)):Int) - (e.ops.length:Int)))))))] [(.loc 3,(enc .edit e))])
def Z7E(e:Edit)(d n b h:Int):LSt U:=(L2 [pI 1 d,pI 2 b,pL 3,pI 7 h] [(.loc 3,(enc .edit e))])
def Z4h(e:Edit)(d n h b:Int):LSt U:=(L2 [pI 1 d,pI 2 h,pL 3,pI 8 b] [(.loc 3,(enc .edit e))])
def Z7D(e:Edit)(d n h b s:Int):LSt U:=(L2 [pI 1 d,pI 2 b,pL 3,pI 8 h,pI 9 s] [(.loc 3,(enc .edit e))])
abbrev A91(N:Nat)(p:List Nat):=AW (Z1 (ZjL N)) Tryz.f91 Zvc p
abbrev S91(N:Nat)(p:List Nat):=SW (Z1 (ZjL N)) Tryz.f91 Zvc p
theorem ZDb(N:Nat)(e:Edit)(d n:Int)(Q:QT)(h:∀ s,s=(e.new)->∀ u,u=(e.old)->∀ b,b=(ZZ u 80 (((((n - 1):Int) - (e.words.length:Int)):Int) - (e.ops.length:Int)))->((InR (n - 1))/\(InR (((n - 1):Int) - (e.words.length:Int)))/\(InR (((((n - 1):Int) - (e.words.length:Int)):Int) - (e.ops.length:Int)))/\((Tt (!(d==0)))/\((d==0)=false->(!(d==0))=true)/\(iB (bif (d==0) then true else (decide (((((((n - 1):Int) - (e.words.length:Int)):Int) - (e.ops.length:Int)):Int) < 0))) ((Q .ret (L2 [pI 6 (-1)] []))) ((Z9b (u,80,(((((n - 1):Int) - (e.words.length:Int)):Int) - (e.ops.length:Int)),()))/\(iB (decide ((0:Int)<=b)) ((Z9b (s,80,b,()))/\(A91 N [1,1,1,1,1] (Z7F e d n (ZZ s 80 b)) Q)) (A91 N [1,1,1,1,1] (Z7F e d n b) Q))))))):
  A91 N [] (L2 [(0,.agg (enc .edit e)),pI 1 d,pI 2 n] []) Q:=
 Eq.mpr V6 (h _ (Z7 _) _ (Z7 _) _ rfl)
abbrev ZAa(N:Nat)(e:Edit)(d n b:Int)(Q:QT):Prop:=A91 N [1,1,1,1,1] (Z7F e d n b) Q
theorem ZtI(N:Nat)(e:Edit)(d n b:Int)(Q:QT)(h:(Zp (A91 N [1,1,1,1,1,0,1,0,0]) (Z7E e d n b 0) (xB 0 (S91 N [1,1,1,1,1,1] Q)))):
  A91 N [1,1,1,1,1] (Z7F e d n b) Q:=
 Eq.mpr V6 h
theorem ZtH(N:Nat)(e:Edit)(d n s b:Int)(N1:NT)(Q:QT)(h:∀ aa,aa=(e.kids.getD b.toNat (KidOf.mk 0 Edit.nil))->∀ u,u=(aa.e)->let z0:=decide (b < (e.kids.length:Int));(Tt z0)/\(Tt z0)/\(iB (bif z0 then (decide ((0:Int)<=s)) else false) (((0:Int)<=b/\b < (e.kids.length:Int))/\(InR (d - 1))/\(ZbF (u,(d - 1),s,()))/\(ZhM (u,(d - 1),s,()) < N)/\((InR (b+1))/\(N1 (Z7E e d n (Z1y u (d - 1) s) (b+1))))) ((Zp (A91 N [1,1,1,1,1,1,0,1,0,0]) (Z4h e d n s 0) (xB 2 (S91 N [1,1,1,1,1,1,1] Q)))))):
  A91 N [1,1,1,1,1,0,1,0,0] (Z7E e d n s b) (xT N1 (xB 0 (S91 N [1,1,1,1,1,1] Q))):=
 Eq.mpr V6 (h _ rfl _ (Z3 _))
theorem ZtG(N:Nat)(e:Edit)(d n b s:Int)(N2:NT)(Q:QT)(h:let z0:=decide (s < (e.ops.length:Int));(Tt z0)/\(Tt z0)/\(iB (bif z0 then (decide ((0:Int)<=b)) else false) ((Zp (A91 N [1,1,1,1,1,1,0,1,0,0,1,0,0,0,1,0,0]) (Z7D e d n s b 0) (xB 4 (S91 N [1,1,1,1,1,1,0,1,0,0,1,0,0,1] (xB 3 (S91 N [1,1,1,1,1,1,0,1,0,0,1,1] (xT N2 (xB 2 (S91 N [1,1,1,1,1,1,1] Q))))))))) ((Q .ret (L2 [pI 6 b] []))))):
  A91 N [1,1,1,1,1,1,0,1,0,0] (Z4h e d n b s) (xT N2 (xB 2 (S91 N [1,1,1,1,1,1,1] Q))):=
 Eq.mpr V6 h
theorem ZtF(N:Nat)(e:Edit)(d n b s u:Int)(N3 N2:NT)(Q:QT)(h:∀ aa,aa=(e.ops.getD b.toNat Op.nil)->∀ ab,ab=(aa.e)->∀ ae,ae=(aa.l.getD u.toNat Tree.nil)->let z0:=decide (u < (aa.l.length:Int));((0:Int)<=b/\b < (e.ops.length:Int))/\(Tt z0)/\(Tt z0)/\(iB (bif z0 then (decide ((0:Int)<=s)) else false) (((0:Int)<=b/\b < (e.ops.length:Int))/\((0:Int)<=u/\u < (aa.l.length:Int))/\(Z9b (ae,80,s,()))/\((InR (u+1))/\(N3 (Z7D e d n b (ZZ ae 80 s) (u+1))))) ((iB (decide ((0:Int)<=s)) (((0:Int)<=b/\b < (e.ops.length:Int))/\(InR (d - 1))/\(ZbF (ab,(d - 1),s,()))/\(ZhM (ab,(d - 1),s,()) < N)/\((InR (b+1))/\(N2 (Z4h e d n (Z1y ab (d - 1) s) (b+1))))) ((InR (b+1))/\(N2 (Z4h e d n s (b+1)))))))):
  A91 N [1,1,1,1,1,1,0,1,0,0,1,0,0,0,1,0,0] (Z7D e d n b s u) (xT N3 (xB 4 (S91 N [1,1,1,1,1,1,0,1,0,0,1,0,0,1] (xB 3 (S91 N [1,1,1,1,1,1,0,1,0,0,1,1] (xT N2 (xB 2 (S91 N [1,1,1,1,1,1,1] Q)))))))):=
 Eq.mpr V6 (h _ rfl _ (Z3 _) _ (Z7 _))
def ZAh(N:Nat)(e:Edit)(d n:Int):Prop:=AW (Z1 (ZjL N)) Tryz.f91 Zvc [] (Zb (Zk4.can (e,d,n,())) []) (EQ Tryz.f91 (ZkM (e,d,n,())) [])
theorem Zyw(c80:CT 80 ZaZ)(hb:∀ (N:Nat) (e:Edit) (d:Int) (n:Int) (_:Unit),ZbF (e,d,n,())->ZhM (e,d,n,()) < N+1->ZAh N e d n):CT 91 ZaY:=
 Jj (μ:=ZhM) (l:=[(80,ZaZ)]) Za rfl (⟨c80,trivial⟩) Zvc Tryz.func91 rfl rfl 3 (fun _=> rfl) V5 (fun N ⟨e,d,n,_⟩=> hb N e d n ())
def Zs9:List (FuncId × Fs U):=[(91,ZaY)]
abbrev A45(p:List Nat):=AW (Z1 Zs9) Tryz.f45 ZyU p
theorem ZDu(e:Edit)(Q:QT)(h:let z0:=Edit.mk e.kind (Tree.mk e.old.kind e.old.words e.old.kids) (Tree.mk e.new.kind e.new.words e.new.kids) e.words e.kids e.list e.ops;((ZbF (z0,80,3000,()))/\(Q .ret (L2 [(2,.c (.bool (decide ((0:Int)<=(Z1y z0 80 3000)))))] [])))):
  A45 [] (L2 [(0,.agg (enc .edit e))] []) Q:=
 Eq.mpr V6 h
def ZAA(e:Edit):Prop:=AW (Z1 Zs9) Tryz.f45 ZyU [] (Zb (Zt6.can (e,())) []) (EQ Tryz.f45 (ZwV (e,())) [])
theorem ZyL(c91:CT 91 ZaY)(hb:∀ (e:Edit) (_:Unit),Zqe (e,())->ZAA e):CT 45 Zba:=
 Z0 (l:=[(91,ZaY)]) Za rfl (⟨c91,trivial⟩) ZyU Tryz.func45 rfl rfl 1 (fun _=> rfl) V5 (fun ⟨e,_⟩=> hb e ())
end
theorem ZoH{n:Int}(h0:0<=n)(h1:n < 18446744073709551616):IntKind.wrap .u64 n=n:=by
 simp [IntKind.wrap,IntKind.signed,IntKind.bits];omega
theorem ZeA{n:Int}(h0:0<=n)(h1:n < 256):IntKind.wrap .u8 n=n:=by
 simp [IntKind.wrap,IntKind.signed,IntKind.bits];omega
theorem Z3g(w:Int)(i:Nat):0<=Jr w i/\Jr w i < 256:=by
 unfold Jr
 omega
theorem Z9n(a b m:Int)(i:Nat):0<=Z5H a b m i/\Z5H a b m i < 256:=by
 unfold Z5H
 split
 .exact Z3g _ _
 .exact Z3g _ _
theorem Zob{α:Type}{l:List α}{i:Nat}(h:i < l.length)(d:α):l.drop i=l.getD i d ::l.drop (i+1):=by
 simp_all
theorem Jd{α:Type}{l:List α}{i:Int}(h0:0<=i)(h:i < l.length)(d:α):l.drop i.toNat=l.getD i.toNat d ::l.drop (i+1).toNat:=by
 rw [Zob V1 d,show i.toNat+1=(i+1).toNat by omega]
theorem Zq{α:Type}{l:List α}{i:Nat}(h:i < l.length)(d:α):l.getD i d∈l:=by
 grind
theorem Z1q(t:Tree):1<=Zk t:=by cases t;simp only [Zk];omega
theorem Z8w(e:Edit):1<=Z8 e:=by cases e;simp only [Z8];omega
theorem Ze2(k:Kid):Z0n k=Z8 k.e:=by cases k;rfl
theorem Y4(o:Op):Zx o=Z9 o.l+Z8 o.e:=by cases o;rfl
theorem Jh:∀ {ks:List Tree} {t:Tree},t∈ks->Zk t<=Z9 ks
 | x ::r,t,h=> by
  simp only [Z9]
  rcases Q8.1 h with rfl | h
  .omega
  .have:=Jh h;omega
theorem Z1r:∀ {ks:List Kid} {k:Kid},k∈ks->Z8 k.e<=ZV ks
 | x ::r,k,h=> by
  simp only [ZV,Ze2]
  rcases Q8.1 h with rfl | h
  .omega
  .have:=Z1r h;omega
theorem YM:∀ {os:List Op} {o:Op},o∈os->Zx o<=Zj os
 | x ::r,o,h=> by
  simp only [Zj]
  rcases Q8.1 h with rfl | h
  .omega
  .have:=YM h;omega
theorem YN:∀ (ks:List Kid),ks.length<=ZV ks
 | []=> by simp [ZV]
 | k ::r=> by
  have:=YN r
  have:=Z8w k.e
  simp only [ZV,Ze2,Qm]
  omega
theorem Y8:∀ (os:List Op),os.length<=Zj os
 | []=> by simp [Zj]
 | o ::r=> by
  have:=Y8 r
  have:=Z8w o.e
  simp only [Zj,Y4,Qm]
  omega
theorem Zbh:∀ {ks:List Tree} {t:Tree},Z20 ks->t∈ks->Z3K t
 | x ::r,t,hs,h=> by
  simp only [Z20] at hs
  rcases Q8.1 h with rfl | h
  .exact hs.1
  .exact Zbh hs.2 h
theorem Z91:∀ {ks:List Kid} {k:Kid},Z4A ks->k∈ks->Z2T k.e
 | x ::r,k,hs,h=> by
  simp only [Z4A] at hs
  rcases Q8.1 h with rfl | h
  .have:=hs.1;obtain ⟨a,e⟩:=k;exact this
  .exact Z91 hs.2 h
theorem Z90:∀ {os:List Op} {o:Op},Z4z os->o∈os->o.l.length<=17592186044416/\Z20 o.l/\Z2T o.e
 | x ::r,o,hs,h=> by
  simp only [Z4z] at hs
  rcases Q8.1 h with rfl | h
  .have:=hs.1;obtain ⟨a,b,c,e⟩:=o;exact this
  .exact Z90 hs.2 h
theorem YQ:∀ {ks:List Tree} {t:Tree},ZR ks->t∈ks->rng t
 | x ::r,t,hs,h=> by
  simp only [ZR] at hs
  rcases Q8.1 h with rfl | h
  .exact hs.1
  .exact YQ hs.2 h
theorem YT:∀ {ks:List Kid} {k:Kid},Z1Q ks->k∈ks->InR k.at_/\Yh k.e
 | x ::r,k,hs,h=> by
  simp only [Z1Q] at hs
  rcases Q8.1 h with rfl | h
  .have:=hs.1;obtain ⟨a,e⟩:=k;exact this
  .exact YT hs.2 h
theorem Z2i:∀ {os:List Op} {o:Op},Z0H os->o∈os->Z0I o
 | x ::r,o,hs,h=> by
  simp only [Z0H] at hs
  rcases Q8.1 h with rfl | h
  .exact hs.1
  .exact Z2i hs.2 h
theorem Z1P{o:Op}(h:Z0I o):InR o.kind/\InR o.n/\ZR o.l/\Yh o.e:=by obtain ⟨a,b,c,e⟩:=o;exact h
theorem Zo0(k:Kid)(d n:Int):Z7w k d n=Z1y k.e d n:=by cases k;rfl
theorem ZrN(o:Op)(d n:Int):Zcu o d n=if Zw o.l 80 n < 0 then Zw o.l 80 n else Z1y o.e d (Zw o.l 80 n):=by cases o;rfl
theorem Zdx(t:Tree)(n:Int)(h: -1<=n): -1<=sh1 t n/\sh1 t n<=n:=by
 unfold sh1
 split
 .omega
 .have:=YS t 80 n;omega
mutual
theorem Z1V:∀ (e:Edit) (d n:Int),-1<=Z1y e d n/\Z1y e d n<=max n (-1)
 | .mk _ o nw w ks _ os,d,n=> by
  simp only [Z1y]
  split
  .omega
  .have h:=YS o 80 (n - 1 - w.length - os.length)
   have b:=Zdx nw _ h.1
   have s:=Z7v ks (d - 1) _ b.1
   have u:=Z7u os (d - 1) _ s.1
   omega
theorem Z7v:∀ (ks:List (KidOf Edit)) (d n:Int),-1<=n->-1<=Z0d ks d n/\Z0d ks d n<=n
 | [],d,n,h=> by simp only [Z0d];omega
 | k ::r,d,n,h=> by
  simp only [Z0d]
  split
  .omega
  .have b:=Zde k d n
   have s:=Z7v r d _ b.1
   omega
theorem Zde:∀ (k:KidOf Edit) (d n:Int),-1<=Z7w k d n/\Z7w k d n<=max n (-1)
 | ⟨_,e⟩,d,n=> by
  simp only [Z7w]
  exact Z1V e d n
theorem Z7u:∀ (os:List (OpOf Edit)) (d n:Int),-1<=n->-1<=Z0D os d n/\Z0D os d n<=n
 | [],d,n,h=> by simp only [Z0D];omega
 | o ::r,d,n,h=> by
  simp only [Z0D]
  split
  .omega
  .have b:=Zgd o d n h
   have s:=Z7u r d _ b.1
   omega
theorem Zgd:∀ (o:OpOf Edit) (d n:Int),-1<=n->-1<=Zcu o d n/\Zcu o d n<=n
 | ⟨_,_,l,e⟩,d,n,h=> by
  simp only [Zcu]
  have s:=Z1f l 80 n h
  split
  .omega
  .have b:=Z1V e d (Zw l 80 n)
   omega
end
theorem ZrM(t:Tree):t.words.length+t.kids.length < Zk t:=by
 obtain ⟨k,w,ks⟩:=t
 have:=Zt ks
 simp only [Zk,Tree.words_mk,Tree.kids_mk]
 omega
theorem YU(e:Edit):Zk e.old+Zk e.new+e.words.length+e.ops.length+ZV e.kids+Zj e.ops < Z8 e:=by
 obtain ⟨k,o,n,w,ks,l,os⟩:=e
 simp only [Z8,Edit.old_mk,Edit.new_mk,Edit.words_mk,Edit.ops_mk,Edit.kids_mk]
 omega
theorem ZjJ{l:List Kid}{d n:Int}(h:n < 0):Z0d l d n=n:=by cases l <;> simp [Z0d,h]
theorem ZjI{l:List Op}{d n:Int}(h:n < 0):Z0D l d n=n:=by cases l <;> simp [Z0D,h]
theorem ZeP{l:List Tree}{d n:Int}(h:n < 0):Zw l d n=n:=by cases l <;> simp [Zw,h]
theorem Znn{e:Edit}(h:Z2T e):Z3K e.old/\Z3K e.new/\e.words.length<=17592186044416/\e.kids.length<=17592186044416/\e.ops.length<=17592186044416/\Z4A e.kids/\Z4z e.ops:=by
 obtain ⟨k,o,n,w,ks,l,os⟩:=e;exact h
theorem ZrO(e:Edit)(d n:Int):Z1y e d n=if d=0\/n - 1 - e.words.length - e.ops.length < 0 then -1 else Z0D e.ops (d - 1) (Z0d e.kids (d - 1) (sh1 e.new (ZZ e.old 80 (n - 1 - e.words.length - e.ops.length)))):=by
 obtain ⟨k,o,b,w,ks,l,os⟩:=e;rfl
theorem c91:Contract Tryz.prog cfg 91 ZaY:=by
 refine Zyw c80 ?_
 rintro N e d n _ hp hN
 simp only [ZbF,ZhM] at hp hN
 obtain ⟨hs,a8,a3,bd,a9⟩:=hp
 obtain ⟨so,sn,lw,lk,lo,sk,ar⟩:=Znn hs
 have bi:=YU e
 have s:=ZrO e d n
 refine ZDb N e d n _ ?_;(try simp only [iB,vcT,forall_eq])
 (simp only [iB,vcS]);(try simp only [iB,vcT])
 try (simp only [vE])
 refine ⟨V4,V4,V4,fun hc=> Z4n rfl (by rw [s,if_pos hc]),fun hc=> ?_⟩
 rw [Y7] at s
 have r1:=YS e.old 80 (n - 1 - e.words.length - e.ops.length)
 have ab:∀ t m,Z3K t->-1<=m->m<=4611686018427387904->Z9b (t,80,m,()):=fun t m h1 h2 h3=> ⟨h1,V3,V3,h2,h3⟩
 have k0:∀ x,x=sh1 e.new (ZZ e.old 80 (n - 1 - e.words.length - e.ops.length))->ZAa N e d n x (ZK cfg Tryz.f91.ntmps Tryz.f91.results.toList (ZkM (e,d,n,())) []):=by
  intro x hx
  have rx:=Zdx e.new _ r1.1
  rw [<-hx] at rx s
  refine ZtI N e d n x _ ?_;(try simp only [iB,vcT,forall_eq])
  refine Zf (ι:=Int × Int) (fun p=> Z7E e d n p.1 p.2) (fun p=> 0<=p.2/\p.2<=e.kids.length/\-1<=p.1/\p.1<=4611686018427387904/\Z0d (e.kids.drop p.2.toNat) (d - 1) p.1=Z0d e.kids (d - 1) x) (fun p=> ((e.kids.length:Int) - p.2).toNat) (x,0) rfl ⟨V3,V3,V3,V3,by simp⟩ ?_
  rintro ⟨y,i⟩ ⟨h1,h2,h3,h4,h5⟩
  dsimp only at*
  refine ZtH N e d n y i _ _ ?_;(try simp only [iB,vcT,forall_eq])
  (simp only [iB,vcS]);(try simp only [iB,vcT])
  try (simp only [vE])
  refine ⟨fun hi=> ?_,fun hi=> ?_⟩
  .have h:=Zq (l:=e.kids) (i:=i.toNat) V1 (KidOf.mk 0 Edit.nil)
   have aa:=Z91 sk h
   have ai:=Z1r h
   rw [Jd h1 hi.1 (KidOf.mk 0 Edit.nil)] at h5
   simp only [Z0d] at h5
   rw [Y7,Zo0] at h5
   have rr:=Z1V (e.kids.getD i.toNat (KidOf.mk 0 Edit.nil)).e (d - 1) y
   exact ⟨⟨h1,hi.1⟩,V4,⟨aa,V3,V3,h3,h4⟩,by simp only [ZhM];omega,V4,(_,i+1),rfl,⟨V3,V3,V3,V3,h5⟩,V3⟩
  .have hy:Z0d e.kids (d - 1) x=y:=by
    rw [<-h5]
    by_cases hlt:i < e.kids.length
    .exact ZjJ V1
    .rw [Qd V1];try rfl
   rw [hy] at s
   refine Zf (ι:=Int × Int) (fun p=> Z4h e d n p.1 p.2) (fun p=> 0<=p.2/\p.2<=e.ops.length/\-1<=p.1/\p.1<=4611686018427387904/\Z0D (e.ops.drop p.2.toNat) (d - 1) p.1=Z0D e.ops (d - 1) y) (fun p=> ((e.ops.length:Int) - p.2).toNat) (y,0) rfl ⟨V3,V3,h3,h4,by simp⟩ ?_
   rintro ⟨z,j⟩ ⟨h6,h7,h8,h9,b⟩
   dsimp only at*
   refine ZtG N e d n z j _ _ ?_;(try simp only [iB,vcT,forall_eq])
   (simp only [iB,vcS]);(try simp only [iB,vcT])
   refine ⟨fun hj=> ?_,fun hj=> ?_⟩
   .have h:=Zq (l:=e.ops) (i:=j.toNat) V1 Op.nil
    have aa:=Z90 ar h
    have ai:=YM h
    rw [Y4] at ai
    rw [Jd h6 hj.1 Op.nil] at b
    simp only [Z0D] at b
    rw [Y7,ZrN] at b
    refine Zf (ι:=Int × Int) (fun p=> Z7D e d n j p.1 p.2) (fun p=> 0<=p.2/\p.2<=(e.ops.getD j.toNat Op.nil).l.length/\-1<=p.1/\p.1<=4611686018427387904/\Zw ((e.ops.getD j.toNat Op.nil).l.drop p.2.toNat) 80 p.1=Zw (e.ops.getD j.toNat Op.nil).l 80 z) (fun p=> (((e.ops.getD j.toNat Op.nil).l.length:Int) - p.2).toNat) (z,0) rfl ⟨V3,V3,h8,h9,by simp⟩ ?_
    rintro ⟨u,k⟩ ⟨g1,g2,g3,g4,g5⟩
    dsimp only at*
    refine ZtF N e d n j u k _ _ _ ?_;(try simp only [iB,vcT,forall_eq])
    (simp only [iB,vcS]);(try simp only [iB,vcT])
    try (simp only [vE])
    refine ⟨⟨h6,hj.1⟩,fun hk=> ?_,fun hk=> ?_⟩
    .have ao:=Zq (l:=(e.ops.getD j.toNat Op.nil).l) (i:=k.toNat) V1 Tree.nil
     rw [Jd g1 hk.1 Tree.nil] at g5
     simp only [Zw] at g5
     rw [Y7] at g5
     have rr:=YS ((e.ops.getD j.toNat Op.nil).l.getD k.toNat Tree.nil) 80 u
     exact ⟨⟨h6,hj.1⟩,⟨g1,hk.1⟩,ab _ _ (Zbh aa.2.1 ao) g3 g4,V4,(_,k+1),rfl,⟨V3,V3,V3,V3,g5⟩,V3⟩
    .have hu:Zw (e.ops.getD j.toNat Op.nil).l 80 z=u:=by
      rw [<-g5]
      by_cases hlt:k < (e.ops.getD j.toNat Op.nil).l.length
      .exact ZeP V1
      .rw [Qd V1];try rfl
     rw [hu] at b
     have rr:=Z1V (e.ops.getD j.toNat Op.nil).e (d - 1) u
     refine ⟨fun hq=> ⟨⟨h6,hj.1⟩,V4,⟨aa.2.2,V3,V3,g3,g4⟩,by simp only [ZhM];omega,V4,(_,j+1),rfl,⟨V3,V3,V3,V3,?_⟩,V3⟩,
      fun hq=> ⟨V4,(_,j+1),rfl,⟨V3,V3,V3,V3,?_⟩,V3⟩⟩
     .rw [Y7] at b;exact b
     .rw [V0] at b;exact b
   .refine Z4n rfl ?_
    rw [s,<-b]
    by_cases hlt:j < e.ops.length
    .exact (ZjI V1).symm
    .rw [Qd V1];try rfl
 refine ⟨ab _ _ so V1 V1,fun hq=> ⟨ab _ _ sn r1.1 V1,k0 _ ?_⟩,fun hq=> k0 _ ?_⟩
 .unfold sh1;rw [Y7]
 .unfold sh1;rw [V0]
theorem c45:Contract Tryz.prog cfg 45 Zba:=by
 refine ZyL c91 ?_
 intro e _ b
 refine ZDu e _ ?_;(try simp only [iB,vcT,forall_eq])
 try (simp only [vE])
 exact ⟨⟨b,by grind,by grind,by grind,by grind⟩,Zc rfl rfl⟩
theorem Z89(e:Edit)(d:Int):Z4 e d=
  if d=0\/e.kind < 0\/3 < e.kind then false
  else if (e.kind≠1/\¬(Yz e.old=true/\Yz e.new=true))\/(e.kind≠2/\¬(e.words.length=0/\e.kids.length=0))\/(e.kind≠3/\(e.list≠0\/e.ops.length≠0)) then false
  else if e.kind=1 then Zi e.old (dT d) && Zi e.new (dT d) && decide (e.old.kind≠10/\e.new.kind≠10)
  else ZL (-1) e.words && Zs (-1) e.kids (d - 1) && decide (¬(e.kind=3/\(e.list < 2\/9 < e.list))) && Zu e.list e.ops (d - 1) && decide (Z1D e.ops 0 < 1048576/\Z1C e.ops 0 < 1048576):=by
 obtain ⟨k,o,b,w,ks,l,os⟩:=e;rfl
theorem Z3Q(last:Int)(k:Kid)(d:Int):J5 last k d=(decide (last < k.at_/\k.at_<=65534/\k.e.kind≠0) && Z4 k.e d):=by cases k;rfl
theorem Z5R(list:Int)(o:Op)(d:Int):Zg list o d=
  if o.kind=0 then decide (1<=o.n/\o.n<=1048576/\o.l.length=0) && Z2d o.e
  else if o.n≠0\/o.kind < 0\/3 < o.kind then false
  else if o.kind < 3 then Y0 (dT d) list o.l && decide (0 < o.l.length) && Z2d o.e
  else decide (o.l.length=0/\o.e.kind≠0/\7 < list) && Z4 o.e d && decide (list=8\/o.e.kind=2\/o.e.kind=1/\o.e.old.kind=1/\o.e.new.kind=1):=by
 cases o;rfl
theorem ZdE{list:Int}{o:Op}{d:Int}(h:Zg list o d=true):0<=o.n/\o.n<=1048576:=by
 rw [Z5R] at h
 grind
theorem rightOs_mem{list d:Int}:∀ {os:List Op} {o:Op},Zu list os d=true->o∈os->Zg list o d=true
 | x ::r,o,h,hm=> by
  simp only [Zu,Q1] at h
  rcases Q8.1 hm with rfl | hm
  .exact h.1
  .exact rightOs_mem h.2 hm
theorem Z98{d:Int}:∀ {ks:List Kid} {last:Int} {k:Kid},Zs last ks d=true->k∈ks->Z4 k.e d=true/\k.e.kind≠0
 | x ::r,last,k,h,hm=> by
  simp only [Zs,Q1] at h
  rcases Q8.1 hm with rfl | hm
  .have:=h.1;rw [Z3Q] at this;grind
  .exact Z98 h.2 hm
theorem Z71{e:Edit}(h:Yh e):InR e.kind/\rng e.old/\rng e.new/\(∀ x∈e.words,ZeS x)/\InR e.list/\Z1Q e.kids/\Z0H e.ops:=by
 obtain ⟨k,o,n,w,ks,l,os⟩:=e;exact h
theorem Ze8(e:Edit):YO e=(decide (Z1D e.ops 0<=2000/\Z1C e.ops 0<=2000) && Z0Y e.kids && ZS e.ops):=by
 obtain ⟨k,o,b,w,ks,l,os⟩:=e;rfl
theorem ZdF{e:Edit}{d:Int}(h:Z4 e d=true):(∀ k∈e.kids,Z4 k.e (d - 1)=true/\k.e.kind≠0)/\∀ o∈e.ops,Zg e.list o (d - 1)=true:=by
 rw [Z89] at h
 split at h
 .cases h
 .split at h
  .cases h
  .rename_i h1 u
   split at h
   .grind
   .simp only [Q1] at h
    exact ⟨fun k b=> Z98 h.1.1.1.2 b,fun o s=> rightOs_mem h.1.2 s⟩
theorem Zpm{e:Edit}(h:Z2d e=true):e.kind=0/\Yz e.old=true/\Yz e.new=true/\e.words=[]/\e.kids=[]/\e.ops=[]/\e.list=0:=by
 simp only [Z2d,Q1,decide_eq_true_eq] at h
 grind
end Go.AM.YtpjenobkibfpcaaGreat
namespace Go.AM
noncomputable def eqX{α:Type}(a b:α):Bool:=@decide (a=b) (Classical.propDecidable _)
theorem Z3b{α:Type}{a b:α}:eqX a b=true↔a=b:=by unfold eqX;grind
@[simp] theorem ZCu {α:Type} (a:α):eqX a a=true:=Z3b.2 rfl
def Zo(o:Op)(n:Int):Op:=if Z2 o<=n then o else if o.kind=0 then ⟨o.kind,n,o.l,o.e⟩ else ⟨o.kind,o.n,o.l.take n.toNat,o.e⟩
def Yo(o:Op)(n:Int):Op:=if o.kind=0 then ⟨o.kind,o.n - n,o.l,o.e⟩ else ⟨o.kind,o.n,o.l.drop n.toNat,o.e⟩
def Zv(l:List Op)(n:Int):List Op:=if Z2 (l.getD 0 Op.nil)<=n then l.drop 1 else Yo (l.getD 0 Op.nil) n ::l.drop 1
def sgl(a:Int)(l:List Op):Bool:=decide (l.length≠0/\(l.getD 0 Op.nil).kind=a)
def ZO(o:Op):Prop:=
 (o.kind=0/\o.l=[]/\(1<=o.n/\o.n<=1048576)/\o.e=Edit.nil)\/((o.kind=1\/o.kind=2)/\o.n=0/\o.l≠[]/\o.e=Edit.nil)\/(o.kind=3/\o.n=0/\o.l=[])
def Z8r(l:List Op):Prop:=(∀ o∈l,ZO o)/\Zj l<=20000000000
theorem ZY(l:List Op)(n:Int)(h:l.length≠0):(Zv l n).length<=l.length:=by
 unfold Zv
 grind
theorem ZX(l:List Op)(n:Int)(h:l.length≠0)(hn:Z2 (l.getD 0 Op.nil)<=n):(Zv l n).length < l.length:=by
 unfold Zv
 grind
def ZE(ap aq:Int)(p q:List Op)(out:List Piece):List Piece × Bool × List Op × List Op:=
 if h:sgl ap p=true then ZE ap aq (p.drop 1) q (out++[⟨1,p.getD 0 Op.nil,Op.nil⟩])
 else if h2:sgl aq q=true then ZE ap aq p (q.drop 1) (out++[⟨2,Op.nil,q.getD 0 Op.nil⟩])
 else if h3:p.length=0\/q.length=0 then
  if decide (p.length=0)=decide (q.length=0) then (out,true,p,q) else ([],false,p,q)
 else
  ZE ap aq (Zv p (min (Z2 (p.getD 0 Op.nil)) (Z2 (q.getD 0 Op.nil)))) (Zv q (min (Z2 (p.getD 0 Op.nil)) (Z2 (q.getD 0 Op.nil))))
   (out++[⟨0,Zo (p.getD 0 Op.nil) (min (Z2 (p.getD 0 Op.nil)) (Z2 (q.getD 0 Op.nil))),Zo (q.getD 0 Op.nil) (min (Z2 (p.getD 0 Op.nil)) (Z2 (q.getD 0 Op.nil)))⟩])
termination_by p.length+q.length
decreasing_by
 .have:=(of_decide_eq_true h).1;grind
 .have:=(of_decide_eq_true h2).1;grind
 .rcases Int.le_total (Z2 (p.getD 0 Op.nil)) (Z2 (q.getD 0 Op.nil)) with hm | hm
  .have a:=ZX p _ V1 (Xb (Z2 (p.getD 0 Op.nil)))
   have b:=ZY q (Z2 (p.getD 0 Op.nil)) V1
   grind
  .have a:=ZX q _ V1 (Xb (Z2 (q.getD 0 Op.nil)))
   have b:=ZY p (Z2 (q.getD 0 Op.nil)) V1
   grind
def ZeE(i alone:Int)(o:Op):List AUnit:=
 (if o.kind=0 then List.replicate o.n.toNat ⟨i,0,Tree.nil,Edit.nil,false⟩ else [])
  ++(o.l.map (fun t=> ⟨i,o.kind,t,Edit.nil,decide (o.kind=alone)⟩)
  ++(if o.kind=3 then [⟨i,3,Tree.nil,o.e,false⟩] else []))
def opU(u:AUnit):Op:=if u.kind=0 then ⟨0,1,[],Edit.nil⟩ else if u.kind=3 then ⟨3,0,[],u.e⟩ else ⟨u.kind,0,[u.t],Edit.nil⟩
end Go.AM
namespace Go.AM.YtpjenobkibfpcaaGreat
open Go.AM Go.Proofs
noncomputable section
def Zmz:ArgL (Op × Unit):=(.cons (aEl .op) .nil)
def Z3V(a:Op × Unit):Prop:=Zx a.1<=20000000000/\0<=OpOf.n a.1/\OpOf.n a.1<=1048576
def ZpB(a:Op × Unit):V U:= .c (ci (Z2 a.1))
def Z1H:Fs U:=fs Zmz (fun a=> [Z3V a]) ZpB
def Zgx:ArgM ((List Op × Int × Unit) × Unit):=(.obj 0 (.cons (cSl .op) (.cons (Yk .i64) .nil)) .nil)
def Z21(a:(List Op × Int × Unit) × Unit):Prop:=(a.1.1).length<=120000000000
def ZpA(a:(List Op × Int × Unit) × Unit):V U:= .c (.bool (decide ((a.1.1).length=0)))
def ZkH(a:(List Op × Int × Unit) × Unit):List (List (C U)):=[[sU .op a.1.1 .unk,ci a.1.2.1]]
def Z1G:Fs U:=fsX Zgx (fun a=> [Z21 a]) ZpA ZkH
def ZpC(a:(List Op × Int × Unit) × Unit):V U:= .c (.bool (sgl a.1.2.1 a.1.1))
def Z6G:Fs U:=fsX Zgx (fun a=> [Z21 a]) ZpC ZkH
def Zgy:ArgM ((List Op × Int × Unit) × Int × Unit):=(.obj 0 (.cons (cSl .op) (.cons (Yk .i64) .nil)) (.cons (YR .i64) .nil))
def Z60(a:(List Op × Int × Unit) × Int × Unit):Prop:=Z8r a.1.1/\(a.1.1).length≠0/\1<=a.2.1/\a.2.1<=120000000000
def Zbw(a:(List Op × Int × Unit) × Int × Unit):V U:= .agg (enc .op (Zo ((a.1.1).getD 0 Op.nil) a.2.1))
def Z73(a:(List Op × Int × Unit) × Int × Unit):List (List (C U)):=[[sU .op (Zv a.1.1 a.2.1) .unk,ci a.1.2.1]]
def Z6F:Fs U:=fsX Zgy (fun a=> [Z60 a]) Zbw Z73
def ZgD:ArgM ((List Op × Int × Unit) × (List Op × Int × Unit) × Unit):=(.obj 0 (.cons (cSl .op) (.cons (Yk .i64) .nil)) (.obj 1 (.cons (cSl .op) (.cons (Yk .i64) .nil)) .nil))
def ZfH(a:(List Op × Int × Unit) × (List Op × Int × Unit) × Unit):Prop:=Z8r a.1.1/\Z8r a.2.1.1
def Zfb(a:(List Op × Int × Unit) × (List Op × Int × Unit) × Unit):V U:= .tup [(false,[sU .piece ((ZE a.1.2.1 a.2.1.2.1 a.1.1 a.2.1.1 []).1) .unk]),(false,[.bool ((ZE a.1.2.1 a.2.1.2.1 a.1.1 a.2.1.1 []).2.1)])]
def Zac(a:(List Op × Int × Unit) × (List Op × Int × Unit) × Unit):List (List (C U)):=[[sU .op ((ZE a.1.2.1 a.2.1.2.1 a.1.1 a.2.1.1 []).2.2.1) .unk,ci a.1.2.1],[sU .op ((ZE a.1.2.1 a.2.1.2.1 a.1.1 a.2.1.1 []).2.2.2) .unk,ci a.2.1.2.1]]
def Z4w:Fs U:=fsX ZgD (fun a=> [ZfH a]) Zfb Zac
def ZmX:ArgL (List Op × List Op × Unit):=(.cons (aSl .op) (.cons (aSl .op) .nil))
def Zjk(a:List Op × List Op × Unit):Prop:=Z8r a.1/\Z8r a.2.1
def ZpQ(a:List Op × List Op × Unit):V U:= .tup [(false,[sU .piece ((ZE 2 2 a.1 a.2.1 []).1) .unk]),(false,[.bool ((ZE 2 2 a.1 a.2.1 []).2.1)])]
def Za2:Fs U:=fs ZmX (fun a=> [Zjk a]) ZpQ
def ZqZ:Z6 U:=lvl [([1],[1]),([1,5],[1]),([2],[]),([2],[])]
abbrev ZE6(p:List Nat):=AW (Z1 ZjN) Tryz.f228 ZqZ p
theorem ZAW(o:Op)(Q:QT)(h:(iB (o.kind==3) ((Q .ret (L2 [pI 2 1] []))) ((InR (o.n+(o.l.length:Int)))/\(Q .ret (L2 [pI 2 (o.n+(o.l.length:Int))] []))))):
  ZE6 [] (L2 [(0,.agg (enc .op o))] []) Q:=
 Eq.mpr V6 h
def ZvQ(o:Op):Prop:=AW (Z1 ZjN) Tryz.f228 ZqZ [] (Zb (Zmz.can (o,())) []) (EQ Tryz.f228 (ZpB (o,())) [])
theorem Zum(hb:∀ (o:Op) (_:Unit),Z3V (o,())->ZvQ o):CT 228 Z1H:=
 Z0 (l:=[]) Za rfl trivial ZqZ Tryz.func228 rfl rfl 1 (fun _=> rfl) V5 (fun ⟨o,_⟩=> hb o ())
def ZqY:Z6 U:=lvk [([0],[((.x 0),[])]),([2],[((.x 0),[])])]
abbrev ZE5(p:List Nat):=AW (Z1 ZjN) Tryz.f229 ZqY p
theorem ZAV(l:List Op)(alone:Int)(Q:QT)(h:(Q .ret (L2 [pB 2 (((l.length:Int):Int)==0)] [(.x 0,[sU .op l .unk,ci alone])]))):
  ZE5 [] (L2 [(0,.ptr (.x 0) 0)] [(.x 0,[sU .op l .unk,ci alone])]) Q:=
 Eq.mpr V6 h
def ZvP(l:List Op)(alone:Int):Prop:=AW (Z1 ZjN) Tryz.f229 ZqY [] (Zb (Zgx.can ((l,alone,()),())) (Zgx.canX ((l,alone,()),()))) (EQ Tryz.f229 (ZpA ((l,alone,()),())) (ZkH ((l,alone,()),())))
theorem Zul(hb:∀ (l:List Op) (alone:Int) (_:Unit),Z21 ((l,alone,()),())->ZvP l alone):CT 229 Z1G:=
 Zl (l:=[]) Za rfl trivial ZqY Tryz.func229 rfl rfl 1 (fun _=> rfl) V5 (fun ⟨⟨l,alone,_⟩,_⟩=> hb l alone ())
def ZlM:List (FuncId × Fs U):=[(229,Z1G)]
abbrev ZE8(p:List Nat):=AW (Z1 ZlM) Tryz.f226 ZqY p
theorem ZAY(l:List Op)(alone:Int)(Q:QT)(h:let z0:= !(decide (l.length=0));((Z21 ((l,alone,()),()))/\(Tt z0)/\(Tt z0)/\(Tt z0)/\(Tt z0)/\(z0=true->(0:Int)<=0/\0 < (l.length:Int))/\(Tt z0)/\(Tt z0)/\(Tt z0)/\(Tt z0)/\(Tt z0)/\(Tt z0)/\(Tt z0)/\(Tt z0)/\(Q .ret (L2 [(2,.c (.bool (bif z0 then (((OpOf.kind (List.getD l (Int.toNat 0) Op.nil)):Int)==alone) else false)))] [(.x 0,[sU .op l .unk,ci alone])])))):
  ZE8 [] (L2 [(0,.ptr (.x 0) 0)] [(.x 0,[sU .op l .unk,ci alone])]) Q:=
 Eq.mpr V6 h
def ZvS(l:List Op)(alone:Int):Prop:=AW (Z1 ZlM) Tryz.f226 ZqY [] (Zb (Zgx.can ((l,alone,()),())) (Zgx.canX ((l,alone,()),()))) (EQ Tryz.f226 (ZpC ((l,alone,()),())) (ZkH ((l,alone,()),())))
theorem Zuo(Zog:CT 229 Z1G)(hb:∀ (l:List Op) (alone:Int) (_:Unit),Z21 ((l,alone,()),())->ZvS l alone):CT 226 Z6G:=
 Zl (l:=[(229,Z1G)]) Za rfl (⟨Zog,trivial⟩) ZqY Tryz.func226 rfl rfl 1 (fun _=> rfl) V5 (fun ⟨⟨l,alone,_⟩,_⟩=> hb l alone ())
def ZlL:List (FuncId × Fs U):=[(228,Z1H)]
def Zr0:Z6 U:=lvk [([0,1,4],[4,((.x 0),[])]),([0,1,4,5],[4,5,((.x 0),[])]),([0,1,4,5,17],[4,5,((.x 0),[])]),([4,5],[4,5,((.x 0),[])]),([4],[4,((.x 0),[])]),([0,1,4,5,6,7],[4,5,6,7,((.x 0),[])]),([0,1,4,5,6,7,31],[4,5,6,7,((.x 0),[])]),([0,4,6,7],[4,6,7,((.x 0),[])]),([0,4,6,7],[4,6,7,((.x 0),[])]),([4,6],[4,6,((.x 0),[])]),([4],[4,((.x 0),[])])]
abbrev ZE7(p:List Nat):=AW (Z1 ZlL) Tryz.f227 Zr0 p
theorem ZAX(l:List Op)(alone n:Int)(Q:QT)(h:∀ b,b=(List.getD l (Int.toNat 0) Op.nil)->∀ u,u=b->∀ s,s=(b.e)->let z0:=List.drop (Int.toNat 1) l;(((0:Int)<=0/\0 < (l.length:Int))/\((Z3V (u,()))/\(iB (decide (((Z2 u):Int)<=n)) (((0:Int)<=1/\1<=(l.length:Int))/\(Q .ret (L2 [pL 4] [(.loc 4,(enc .op b)),(.x 0,[sU .op z0 .unk,ci alone])]))) ((iB (b.kind==0) ((InR (b.n - n))/\(((0:Int)<=1/\1<=(l.length:Int))/\((([(OpOf.mk b.kind (b.n - n) b.l s)]).length+z0.length)*240<=140737488355328)/\(Q .ret (L2 [pL 4] [(.loc 4,([ci b.kind,ci n,sU .tree b.l .unk]++enc .edit b.e)),(.x 0,[sU .op (([(OpOf.mk b.kind (b.n - n) b.l s)])++z0) (.own (.x 0 0)),ci alone])])))) (((0:Int)<=n/\n<=(b.l.length:Int))/\(n=n)/\((0:Int)<=n/\n<=(b.l.length:Int))/\(((0:Int)<=1/\1<=(l.length:Int))/\((([(OpOf.mk b.kind b.n (List.drop n.toNat b.l) s)]).length+z0.length)*240<=140737488355328)/\(Q .ret (L2 [pL 4] [(.loc 4,([ci b.kind,ci b.n,sU .tree (List.take n.toNat b.l) .full]++enc .edit b.e)),(.x 0,[sU .op (([(OpOf.mk b.kind b.n (List.drop n.toNat b.l) s)])++z0) (.own (.x 0 0)),ci alone])])))))))))):
  ZE7 [] (L2 [(0,.ptr (.x 0) 0),pI 1 n] [(.x 0,[sU .op l .unk,ci alone])]) Q:=
 Eq.mpr V6 (h _ rfl _ (Ym _) _ (Z3 _))
def ZvR(l:List Op)(alone n:Int):Prop:=AW (Z1 ZlL) Tryz.f227 Zr0 [] (Zb (Zgy.can ((l,alone,()),n,())) (Zgy.canX ((l,alone,()),n,()))) (EQ Tryz.f227 (Zbw ((l,alone,()),n,())) (Z73 ((l,alone,()),n,())))
theorem Zun(Zoh:CT 228 Z1H)(hb:∀ (l:List Op) (alone:Int) (n:Int) (_:Unit),Z60 ((l,alone,()),n,())->ZvR l alone n):CT 227 Z6F:=
 Zl (l:=[(228,Z1H)]) Za rfl (⟨Zoh,trivial⟩) Zr0 Tryz.func227 rfl rfl 2 (fun _=> rfl) V5 (fun ⟨⟨l,alone,_⟩,n,_⟩=> hb l alone n ())
def ZlZ:List (FuncId × Fs U):=[(226,Z6G),(227,Z6F),(228,Z1H),(229,Z1G)]
def Zre:Z6 U:=lvk [([0,1],[((.x 0),[]),((.x 1),[])]),([0,1,(6,[.own .piece])],[((.x 0),[]),((.x 1),[])]),([0,1,6,7],[((.x 0),[]),((.x 1),[])]),([0,1,(6,[.own .piece])],[((.x 0),[]),((.x 1),[])]),([0,1,6,33],[((.x 0),[]),((.x 1),[])]),([0,1,(6,[.own .piece])],[((.x 0),[]),((.x 1),[])]),([0,1,6,49],[((.x 0),[]),((.x 1),[])]),([0,1,(6,[.own .piece])],[((.x 0),[]),((.x 1),[])]),([0,1,6,65],[((.x 0),[]),((.x 1),[])]),([6,76],[((.x 0),[]),((.x 1),[])]),([4,5],[((.x 0),[]),((.x 1),[])]),([4,5],[((.x 0),[]),((.x 1),[])])]
def Z1a(pl:List Op)(pa:Int)(ql:List Op)(qa:Int)(mx0_0 mx1_0:List Op)(mx1_1:Int)(b:List Piece):LSt U:=(L2 [(0,.ptr (.x 0) 0),(1,.ptr (.x 1) 0),(6,.c (sU .piece b (.own (.e 6 0))))] [(.x 0,[sU .op mx0_0 .unk,ci pa]),(.x 1,[sU .op mx1_0 .unk,ci mx1_1])])
abbrev ZAJ(p:List Nat):=AW (Z1 ZlZ) Tryz.f193 Zre p
theorem ZBd(pl:List Op)(pa:Int)(ql:List Op)(qa:Int)(Q:QT)(h:(Zp (ZAJ [1,1,0,0]) (Z1a pl pa ql qa pl ql qa []) (xB 0 Q))):
  ZAJ [] (L2 [(0,.ptr (.x 0) 0),(1,.ptr (.x 1) 0)] [(.x 0,[sU .op pl .unk,ci pa]),(.x 1,[sU .op ql .unk,ci qa])]) Q:=
 Eq.mpr V6 h
theorem ZoN(pl:List Op)(pa:Int)(ql:List Op)(qa:Int)(mx0_0 mx1_0:List Op)(mx1_1:Int)(x6:List Piece)(N0:NT)(Q:QT)(h:∀ ai,ai=(List.getD mx0_0 (Int.toNat 0) Op.nil)->∀ al,al=(List.getD mx1_0 (Int.toNat 0) Op.nil)->∀ af,af=(Edit.mk 0 (Tree.mk 0 [] []) (Tree.mk 0 [] []) [] [] 0 [])->∀ ah,ah=(List.getD (bif (!(decide (mx0_0.length=0))) then mx1_0 else mx1_0) (Int.toNat 0) Op.nil)->∀ b,b=ai->∀ aa,aa=al->∀ s,s=ah->∀ ak,ak=(Zo (mx0_0.getD 0 Op.nil) (Z2 b))->∀ aj,aj=(Zo (mx1_0.getD 0 Op.nil) (Z2 aa))->∀ u,u=(Zo (mx0_0.getD 0 Op.nil) (if ((Z2 s):Int) < (Z2 b) then (Z2 s) else (Z2 b)))->∀ ab,ab=(Zo ((bif (!(decide (mx0_0.length=0))) then mx1_0 else mx1_0).getD 0 Op.nil) (if ((Z2 s):Int) < (Z2 b) then (Z2 s) else (Z2 b)))->let z5:=Z21 ((mx0_0,pa,()),());let z4:=Piece.mk 2 (OpOf.mk 0 0 [] af) aj;let z3:=Piece.mk 1 ak (OpOf.mk 0 0 [] af);let z0:=decide (mx0_0.length=0);let z2:=bif (!z0) then mx1_1 else mx1_1;let z1:=bif (!z0) then mx1_0 else mx1_0;(Z21 ((mx0_0,pa,()),()))/\(iB (sgl pa mx0_0) (((0:Int)<=0/\0 < (mx0_0.length:Int))/\(Z3V (b,()))/\(Z60 ((mx0_0,pa,()),(Z2 b),()))/\((x6.length+([z3]).length)*488<=140737488355328)/\(N0 (Z1a pl pa ql qa (Zv mx0_0 (Z2 b)) mx1_0 mx1_1 (x6++([z3]))))) ((Z21 ((mx1_0,mx1_1,()),()))/\(iB (sgl mx1_1 mx1_0) (((0:Int)<=0/\0 < (mx1_0.length:Int))/\(Z3V (aa,()))/\(Z60 ((mx1_0,mx1_1,()),(Z2 aa),()))/\((x6.length+([z4]).length)*488<=140737488355328)/\(N0 (Z1a pl pa ql qa mx0_0 (Zv mx1_0 (Z2 aa)) mx1_1 (x6++([z4]))))) (z5/\(Tt (!z0))/\((!z0)=true->Z21 ((mx1_0,mx1_1,()),()))/\(z0=false->(!z0)=true)/\(iB (bif z0 then true else (decide (mx1_0.length=0))) (z5/\(Z21 ((z1,z2,()),()))/\(iB (z0 !=(decide (z1.length=0))) ((Q .ret (L2 [(4,.c (.nils)),pB 5 false] [(.x 0,[sU .op mx0_0 .unk,ci pa]),(.x 1,[sU .op z1 .unk,ci z2])]))) ((Q .ret (L2 [(4,.c (sU .piece x6 (.own (.e 4 0)))),pB 5 true] [(.x 0,[sU .op mx0_0 .unk,ci pa]),(.x 1,[sU .op z1 .unk,ci z2])]))))) (((0:Int)<=0/\0 < (mx0_0.length:Int))/\(Z3V (b,()))/\((0:Int)<=0/\0 < (z1.length:Int))/\(Z3V (s,()))/\((Z60 ((mx0_0,pa,()),(if ((Z2 s):Int) < (Z2 b) then (Z2 s) else (Z2 b)),()))/\(Z60 ((z1,z2,()),(if ((Z2 s):Int) < (Z2 b) then (Z2 s) else (Z2 b)),()))/\((x6.length+([(Piece.mk 0 u ab)]).length)*488<=140737488355328)/\(N0 (Z1a pl pa ql qa (Zv mx0_0 (if ((Z2 s):Int) < (Z2 b) then (Z2 s) else (Z2 b))) (Zv z1 (if ((Z2 s):Int) < (Z2 b) then (Z2 s) else (Z2 b))) z2 (x6++([(Piece.mk 0 u ab)])))))))))))):
  ZAJ [1,1,0,0] (Z1a pl pa ql qa mx0_0 mx1_0 mx1_1 x6) (xT N0 (xB 0 Q)):=
 Eq.mpr V6 (h _ rfl _ rfl _ rfl _ rfl _ (Ym _) _ (Ym _) _ (Ym _) _ (Ym _) _ (Ym _) _ (Ym _) _ (Ym _))
def Zw7(pl:List Op)(pa:Int)(ql:List Op)(qa:Int):Prop:=AW (Z1 ZlZ) Tryz.f193 Zre [] (Zb (ZgD.can ((pl,pa,()),(ql,qa,()),())) (ZgD.canX ((pl,pa,()),(ql,qa,()),()))) (EQ Tryz.f193 (Zfb ((pl,pa,()),(ql,qa,()),())) (Zac ((pl,pa,()),(ql,qa,()),())))
theorem ZuD(Zzm:CT 226 Z6G)(Zzl:CT 227 Z6F)(Zoh:CT 228 Z1H)(Zog:CT 229 Z1G)(hb:∀ (b:List Op) (h:Int) (s:List Op) (u:Int) (_:Unit),ZfH ((b,h,()),(s,u,()),())->Zw7 b h s u):CT 193 Z4w:=
 Zl (l:=[(226,Z6G),(227,Z6F),(228,Z1H),(229,Z1G)]) Za rfl (⟨Zzm,Zzl,Zoh,Zog,trivial⟩) Zre Tryz.func193 rfl rfl 2 (fun _=> rfl) V5 (fun ⟨⟨b,h,_⟩,⟨s,u,_⟩,_⟩=> hb b h s u ())
def Zme:List (FuncId × Fs U):=[(193,Z4w)]
def Zrt:Z6 U:=lvl [([0,1],[]),([4,5],[])]
abbrev ZEq(p:List Nat):=AW (Z1 Zme) Tryz.f143 Zrt p
theorem ZBy(p q:List Op)(Q:QT)(h:((ZfH ((p,2,()),(q,2,()),()))/\(Q .ret (L2 [(4,.c (sU .piece ((ZE 2 2 p q []).1) .unk)),pB 5 ((ZE 2 2 p q []).2.1)] [])))):
  ZEq [] (L2 [(0,.c (sU .op p .unk)),(1,.c (sU .op q .unk))] []) Q:=
 Eq.mpr V6 h
def Zws(p q:List Op):Prop:=AW (Z1 Zme) Tryz.f143 Zrt [] (Zb (ZmX.can (p,q,())) []) (EQ Tryz.f143 (ZpQ (p,q,())) [])
theorem ZuW(ZsK:CT 193 Z4w)(hb:∀ (p:List Op) (q:List Op) (_:Unit),Zjk (p,q,())->Zws p q):CT 143 Za2:=
 Z0 (l:=[(193,Z4w)]) Za rfl (⟨ZsK,trivial⟩) Zrt Tryz.func143 rfl rfl 2 (fun _=> rfl) V5 (fun ⟨p,q,_⟩=> hb p q ())
end
theorem Zqr{o:Op}(h:Zx o<=20000000000):o.l.length<=20000000000:=by
 have:=Zt o.l
 rw [Y4] at h
 omega
theorem Z8n{o:Op}(h:ZO o):0<=o.n/\o.n<=1048576:=by
 unfold ZO at h
 omega
theorem ZT(o:Op):Z2 o=if o.kind=3 then 1 else o.n+o.l.length:=rfl
theorem Zoh:Contract Tryz.prog cfg 228 Z1H:=by
 refine Zum ?_
 intro o _ h
 simp only [Z3V] at h
 have hl:=Zqr h.1
 refine ZAW _ _ ?_;(try simp only [iB,vcT,forall_eq])
 (simp only [iB,vcS]);(try simp only [iB,vcT])
 exact ⟨fun b=> Z4n rfl (by rw [ZT,if_pos b]),fun b=> ⟨V4,Z4n rfl (by rw [ZT,if_neg b])⟩⟩
theorem Zog:Contract Tryz.prog cfg 229 Z1G:=by
 refine Zul ?_
 intro l b _ h
 refine ZAV _ _ _ ?_;(try simp only [iB,vcT,forall_eq])
 have e:((l.length:Int)==0)=decide (l.length=0):=by rw [QC];(simp only [iB,vcS]);omega
 rw [e]
 exact V2
theorem Zzm:Contract Tryz.prog cfg 226 Z6G:=by
 refine Zuo Zog ?_
 intro l b _ s
 refine ZAY _ _ _ ?_;(try simp only [iB,vcT,forall_eq])
 have e:(bif (!(decide (l.length=0))) then ((OpOf.kind (List.getD l (Int.toNat 0) Op.nil))==b) else false)=sgl b l:=by
  rw [QC]
  simp only [sgl]
  (simp only [iB,vcS])
  try rfl
 rw [e]
 refine ⟨s,fun h=> ⟨V1,?_⟩,V2⟩
 grind
theorem ZzK(ZsK:Contract Tryz.prog cfg 193 Z4w):Contract Tryz.prog cfg 143 Za2:=by
 refine ZuW ZsK ?_
 intro p q _ b
 refine ZBy _ _ _ ?_;(try simp only [iB,vcT,forall_eq])
 refine ⟨b,?_⟩
 exact V2
theorem Zzl:Contract Tryz.prog cfg 227 Z6F:=by
 refine Zun Zoh ?_
 intro l al n _ hp
 simp only [Z60] at hp
 obtain ⟨⟨ho,hm⟩,hl,h1,h2⟩:=hp
 have b:=Zq (l:=l) (i:=0) V1 Op.nil
 have aa:=ho _ b
 have ai:=YM b
 have ae:=Y8 l
 refine ZAX _ _ _ _ ?_;(try simp only [iB,vcT])
 rintro y rfl _ rfl _ rfl
 have e0:(Int.toNat 0)=0:=rfl
 have e1:(Int.toNat 1)=1:=rfl
 simp only [e0,e1]
 have hT:∀ o r,Zo (l.getD 0 Op.nil) n=o->Zv l n=r->True:=fun _ _ _ _=> trivial
 have ab:=Z8n aa
 have ah:=ZT (l.getD 0 Op.nil)
 (simp only [iB,vcS])
 generalize hy:l.getD 0 Op.nil=y at*
 refine ⟨⟨V1,V1⟩,⟨by grind,ab⟩,fun hc=> ⟨⟨V1,V1⟩,?_⟩,fun hc=> ⟨fun h=> ⟨V4,⟨V1,V1⟩,by simp;omega,?_⟩,fun h=> ?_⟩⟩
 .have u:Zo y n=y:=by rw [Zo,if_pos hc]
  have s:Zv l n=l.drop 1:=by rw [Zv,hy,if_pos hc]
  simp only [Zbw,Z73,hy,u,s]
  exact V2
 .have u:Zo y n=⟨y.kind,n,y.l,y.e⟩:=by rw [Zo,if_neg hc,if_pos h]
  have s:Zv l n=⟨y.kind,y.n - n,y.l,y.e⟩ ::l.drop 1:=by rw [Zv,hy,if_neg hc,Yo,if_pos h]
  simp only [Zbw,Z73,hy,u,s]
  exact V2
 .have u:Zo y n=⟨y.kind,y.n,y.l.take n.toNat,y.e⟩:=by rw [Zo,if_neg hc,if_neg h]
  have s:Zv l n=⟨y.kind,y.n,y.l.drop n.toNat,y.e⟩ ::l.drop 1:=by rw [Zv,hy,if_neg hc,Yo,if_neg h]
  simp only [Zbw,Z73,hy,u,s]
  unfold ZO at aa
  refine ⟨?_,?_,⟨V1,V1⟩,by simp;omega,?_⟩
  .omega
  .omega
  ·exact V2
theorem Z1s(n:Nat):∀ (l:List Tree),Z9 (l.drop n)<=Z9 l:=by
 induction n with
 | zero=> intro l;simp
 | succ n ih=>
  intro l
  cases l with
  | nil=> simp
  | cons t r=> simp only [Qw,Z9];grind
theorem Zch(n:Nat):∀ (l:List Tree),Z9 (l.take n)<=Z9 l:=by
 induction n with
 | zero=> intro l;simp [Z9]
 | succ n ih=>
  intro l
  cases l with
  | nil=> simp
  | cons t r=> simp only [List.take_succ_cons,Z9];grind
theorem ZH{o:Op}(h:ZO o):1<=Z2 o:=by
 have:=ZT o
 unfold ZO at h
 have hl:o.l≠[]->0 < o.l.length:=XA.2
 grind
theorem Z7h{o:Op}(h:ZO o)(hm:Zx o<=20000000000):Z2 o<=20000000000:=by
 have:=ZT o
 have:=Zqr hm
 have:=Z8n h
 unfold ZO at h
 grind
theorem Z47(o:Op)(r:List Op):Zj (o ::r)=Zx o+Zj r:=rfl
theorem Z4J{l:List Op}(h:Z8r l):Z8r (l.drop 1):=by
 cases l with
 | nil=> exact h
 | cons o r=>
  obtain ⟨s,b⟩:=h
  rw [Z47] at b
  exact ⟨fun x u=> s x (Q4 _ u),by grind⟩
theorem Z8q{l:List Op}(h:Z8r l)(hl:l.length≠0):ZO (l.getD 0 Op.nil)/\Zx (l.getD 0 Op.nil)<=20000000000/\Zx (l.getD 0 Op.nil)<=Zj l:=by
 have b:=Zq (l:=l) (i:=0) V1 Op.nil
 have:=YM b
 exact ⟨h.1 _ b,by have:=h.2;omega,this⟩
theorem Z7Y{o:Op}{n:Int}(h:ZO o)(h1:1<=n)(h2:¬Z2 o<=n):ZO (Yo o n)/\Zx (Yo o n)<=Zx o:=by
 have hl:=ZT o
 unfold Yo
 unfold ZO at*
 by_cases hk:o.kind=0
 .rw [if_pos hk]
  refine ⟨Or.inl ?_,by simp only [Y4];omega⟩
  grind
 .rw [if_neg hk]
  have:=Z1s n.toNat o.l
  refine ⟨Or.inr ?_,by simp only [Y4];omega⟩
  rcases h with h | h | h
  .omega
  .obtain ⟨a,b,c,d⟩:=h
   rw [Y7] at hl
   refine Or.inl ⟨a,b,?_,d⟩
   intro s
   have:=congrArg List.length s
   grind
  omega
theorem Zc4{l:List Op}{n:Int}(h:Z8r l)(hl:l.length≠0)(h1:1<=n):Z8r (Zv l n):=by
 unfold Zv
 split
 .exact Z4J h
 .rename_i hc
  obtain ⟨a,b,c⟩:=Z8q h hl
  obtain ⟨d,e⟩:=Z7Y a h1 hc
  have u:=Z4J h
  refine ⟨fun x s=> ?_,?_⟩
  .rcases Q8.1 s with rfl | s
   .exact d
   .exact u.1 _ s
  .rw [Z47]
   obtain _ | ⟨o,r⟩:=l
   .simp at hl
   .have:=h.2
    rw [Z47] at this
    grind
theorem Zdv(l:List Op):Zv l (Z2 (l.getD 0 Op.nil))=l.drop 1:=by rw [Zv,if_pos (Xb _)]
theorem Zdw(o:Op):Zo o (Z2 o)=o:=by rw [Zo,if_pos (Xb _)]
theorem ZkC{a:Int}{l:List Op}(h:sgl a l=true):l.length≠0:=(of_decide_eq_true h).1
theorem Zdk{α:Type}(b:Bool)(x:α):(bif b then x else x)=x:=by grind
theorem ZsK:Contract Tryz.prog cfg 193 Z4w:=by
 refine ZuD Zzm Zzl Zoh Zog ?_
 intro pl pa ql qa _ hp
 simp only [ZfH] at hp
 have bk:=Y8 pl
 have bf:=Y8 ql
 have hP:=hp.1.2
 have hQ:=hp.2.2
 refine ZBd _ _ _ _ _ ?_;(try simp only [iB,vcT,forall_eq])
 refine Zf (ι:=List Op × List Op × List Piece) (fun s=> Z1a pl pa ql qa s.1 s.2.1 qa s.2.2) (fun s=> Z8r s.1/\Z8r s.2.1/\s.2.2.length+s.1.length+s.2.1.length<=40000000000/\ZE pa qa s.1 s.2.1 s.2.2=ZE pa qa pl ql []) (fun s=> s.1.length+s.2.1.length) (pl,ql,[]) rfl ⟨hp.1,hp.2,by simp;omega,rfl⟩ ?_
 rintro ⟨p,q,out⟩ ⟨h1,h2,h3,u⟩
 refine ZoN _ _ _ _ _ _ _ _ _ _ ?_;(try simp only [iB,vcT])
 have e0:(Int.toNat 0)=0:=rfl
 simp only [e0,Zdk]
 dsimp only at h1 h2 h3 u
 rintro z1 ak z2 ai y3 a5 z4 ba y1 rfl y2 rfl y4 rfl y8 aw y9 au a8 aj a7 ae
 have ey:y4=y2:=ba.trans ai.symm
 rw [ey] at aj ae ⊢
 have e3:(OpOf.mk 0 0 [] y3:Op)=Op.nil:=by rw [a5];try rfl
 rw [<-ak,Zdw] at aw
 rw [<-ai,Zdw] at au
 have af:∀ a b:Int,(if a < b then a else b)=min b a:=by intro a b;omega
 rw [<-ak,af] at aj
 rw [<-ai,af] at ae
 simp only [af,e3,aw,au]
 (simp only [iB,vcS])
 have o1:p.length≠0->ZO y1/\Zx y1<=20000000000:=fun h=> by have:=Z8q h1 h;grind
 have o2:q.length≠0->ZO y2/\Zx y2<=20000000000:=fun h=> by have:=Z8q h2 h;grind
 have tp:Zv p (Z2 y1)=p.drop 1:=by rw [ak];exact Zdv p
 have tq:Zv q (Z2 y2)=q.drop 1:=by rw [ai];exact Zdv q
 have bg:=Y8 p
 have bi:=Y8 q
 have bl:=h1.2
 have bj:=h2.2
 rw [ZE] at u
 rw [<-ak,<-ai] at u
 refine ⟨by simp only [Z21];omega,fun hs=> ?_,fun hs=> ?_⟩
 .have hl:=ZkC hs
  obtain ⟨oa,ob⟩:=o1 hl
  have oc:=ZH oa
  have od:=Z7h oa ob
  rw [dif_pos hs] at u
  refine ⟨⟨V1,V1⟩,⟨ob,Z8n oa⟩,⟨h1,hl,oc,by grind⟩,by simp;omega,(p.drop 1,q,out++[⟨1,y1,Op.nil⟩]),by rw [tp],⟨Z4J h1,h2,by simp;omega,u⟩,by simp;omega⟩
 .rw [dif_neg (by grind)] at u
  refine ⟨by simp only [Z21];omega,fun aq=> ?_,fun aq=> ?_⟩
  .have hl:=ZkC aq
   obtain ⟨oa,ob⟩:=o2 hl
   have oc:=ZH oa
   have od:=Z7h oa ob
   rw [dif_pos aq] at u
   refine ⟨⟨V1,V1⟩,⟨ob,Z8n oa⟩,⟨h2,hl,oc,by grind⟩,by simp;omega,(p,q.drop 1,out++[⟨2,Op.nil,y2⟩]),by rw [tq],⟨h1,Z4J h2,by simp;omega,u⟩,by simp;omega⟩
  .rw [dif_neg (by grind)] at u
   refine ⟨by simp only [Z21];omega,fun _=> by simp only [Z21];omega,fun h=> h,fun hd=> ⟨by simp only [Z21];omega,by simp only [Z21];omega,fun he=> ?_,fun he=> ?_⟩,fun hd=> ?_⟩
   .rw [dif_pos hd,if_neg he] at u
    simp only [Zfb,Zac,<-u]
    exact V2
   .rw [dif_pos hd,if_pos he] at u
    simp only [Zfb,Zac,<-u]
    exact V2
   .obtain ⟨oa,ob⟩:=o1 hd.1
    obtain ⟨oc,od⟩:=o2 hd.2
    have a1:=ZH oa
    have a2:=Z7h oa ob
    have a3:=ZH oc
    have a4:=Z7h oc od
    rw [dif_neg V1,<-aj,<-ae] at u
    have c1:=ZY p (min (Z2 y1) (Z2 y2)) hd.1
    have c2:=ZY q (min (Z2 y1) (Z2 y2)) hd.2
    have c3:Z2 y1<=min (Z2 y1) (Z2 y2)->(Zv p (min (Z2 y1) (Z2 y2))).length < p.length:=fun h=> ZX p _ hd.1 (by grind)
    have c4:Z2 y2<=min (Z2 y1) (Z2 y2)->(Zv q (min (Z2 y1) (Z2 y2))).length < q.length:=fun h=> ZX q _ hd.2 (by grind)
    refine ⟨⟨V1,V1⟩,⟨ob,Z8n oa⟩,⟨V1,V1⟩,⟨od,Z8n oc⟩,⟨h1,hd.1,by grind,by grind⟩,⟨h2,hd.2,by grind,by grind⟩,by simp;omega,
     (Zv p (min (Z2 y1) (Z2 y2)),Zv q (min (Z2 y1) (Z2 y2)),out++[⟨0,a8,a7⟩]),rfl,⟨Zc4 h1 hd.1 V1,Zc4 h2 hd.2 V1,by simp;omega,u⟩,by grind⟩
theorem Zsm{α:Type}{a b:α}(h:¬a=b):eqX a b=false:=by rw [<-Bool.not_eq_true,Z3b];exact h
def vu(u:AUnit):Op × Bool:=(opU u,u.alone)
def vs(a:Int)(o:Op):List (Op × Bool):=(ZeE 0 a o).map vu
theorem ZaG{a n:Int}{o:Op}(h:ZO o)(h1:1<=n)(hn:¬Z2 o<=n):vs a o=vs a (Zo o n)++vs a (Yo o n)/\ZO (Zo o n)/\Z2 (Zo o n)=n/\Zx (Zo o n)<=Zx o:=by
 have hl:=ZT o
 rcases h with ⟨k0,k1,k2,k3⟩ | ⟨k0,k1,k2,k3⟩ | ⟨k0,k1,k2⟩
 .have e1:Zo o n=⟨o.kind,n,o.l,o.e⟩:=by rw [Zo,if_neg hn,if_pos k0]
  have e2:Yo o n=⟨o.kind,o.n - n,o.l,o.e⟩:=by rw [Yo,if_pos k0]
  rw [Y7,k1] at hl
  simp only [Qe] at hl
  rw [e1,e2]
  refine ⟨?_,Or.inl ⟨k0,k1,by grind,k3⟩,?_,by simp [Y4]⟩
  .simp only [vs,ZeE,k0,k1]
   simp only [if_true,K4,QL,List.map_append,List.map_replicate]
   rw [if_neg V5]
   simp only [K4,QM]
   rw [List.replicate_append_replicate]
   grind
  .rw [ZT]
   grind
 .have e1:Zo o n=⟨o.kind,o.n,o.l.take n.toNat,o.e⟩:=by rw [Zo,if_neg hn,Y7]
  have e2:Yo o n=⟨o.kind,o.n,o.l.drop n.toNat,o.e⟩:=by rw [Yo,Y7]
  rw [Y7] at hl
  have s:=Zch n.toNat o.l
  rw [e1,e2]
  refine ⟨?_,Or.inr (Or.inl ⟨k0,k1,?_,k3⟩),?_,by simp only [Y4];omega⟩
  .simp only [vs,ZeE]
   rw [Y7,Y7]
   simp_all
  .intro b
   have:=congrArg List.length b
   grind
  .rw [ZT]
   grind
 omega
theorem Yq{a:Int}{l:List Op}:sgl a l=true↔(l.length≠0/\(l.getD 0 Op.nil).kind=a):=by unfold sgl;grind
theorem J1(o:Op)(n:Int):(Zo o n).kind=o.kind:=by
 unfold Zo;grind
theorem ZhL{t:Tree}(h:Yz t=true):t=Tree.nil:=by
 obtain ⟨k,w,ks⟩:=t
 have:=of_decide_eq_true h
 simp at this
 obtain ⟨rfl,rfl,rfl⟩:=this
 try rfl
theorem Zdz{e:Edit}(h:Z2d e=true):e=Edit.nil:=by
 obtain ⟨h1,s,h3,h4,u,b,h7⟩:=Zpm h
 obtain ⟨k,o,n,w,ks,l,os⟩:=e
 simp at h1 s h3 h4 u b h7
 subst h1 h4 u b h7
 rw [ZhL s,ZhL h3]
 try rfl
theorem Zbp{list:Int}{o:Op}{d:Int}(h:Zg list o d=true):ZO o:=by
 rw [Z5R] at h
 unfold ZO
 split at h
 .rename_i b
  simp only [Q1,decide_eq_true_eq] at h
  exact Or.inl ⟨b,Qp.1 h.1.2.2,⟨h.1.1,h.1.2.1⟩,Zdz h.2⟩
 .split at h
  .cases h
  .rename_i b s
   split at h
   .simp only [Q1,decide_eq_true_eq] at h
    refine Or.inr (Or.inl ⟨V1,V1,?_,Zdz h.2⟩)
    grind
   grind
end Go.AM.YtpjenobkibfpcaaGreat
namespace Go.AM
def Zi9(list:Int)(e:Edit):Bool:=decide (e.kind=0\/(list=9/\e.kind=2/\e.words.length=0/\e.kids.length=0))
def Zd(l:List Tree):List Tree:=l.map Z5
def ZBZ(w:WEdit):WEdit:=⟨w.at_,w.mask,w.new,w.old⟩
mutual
def Zkl:Edit->Edit
 | .mk k o n w ks l os=> .mk k n o (w.map ZBZ) (Zpf ks) l (Zpe os)
def Zpf:List (KidOf Edit)->List (KidOf Edit)
 | []=> []
 | k ::r=> ZtS k ::Zpf r
def ZtS:KidOf Edit->KidOf Edit
 | ⟨a,e⟩=> ⟨a,Zkl e⟩
def Zpe:List (OpOf Edit)->List (OpOf Edit)
 | []=> []
 | o ::r=> ZxY o ::Zpe r
def ZxY:OpOf Edit->OpOf Edit
 | ⟨k,n,l,e⟩=> if k=1 then ⟨2,n,l,e⟩ else if k=2 then ⟨1,n,l,e⟩ else if k=3 then ⟨k,n,l,Zkl e⟩ else ⟨k,n,l,e⟩
end
def YW{α:Type}(z:α)(l:List α)(i:Nat)(x:α):List α:=(l++List.replicate (i+1 - l.length) z).set i x
def wsD(tw:List Int):List WEdit->List Int->Option (List Int)
 | [],out=> some out
 | w ::r,out=> if mix 0 (tw.getD w.at_.toNat 0) w.mask=w.old then wsD tw r (YW 0 out w.at_.toNat (mix (tw.getD w.at_.toNat 0) w.new w.mask)) else none
noncomputable def Z9B(l rest:List Tree):Bool:=decide (l.length<=rest.length) && eqX (Zd l) (Zd (rest.take l.length))
def ZcN(r:Option (List Tree × List Tree)):Option (List Tree):=r.bind fun x=> if x.2.length=0 then some x.1 else none
def nrD(r:Bool)(t:Tree):Tree:=if r then Z5 t else t
mutual
noncomputable def doE(r:Bool):Edit->Tree->Option Tree
 | .mk k o n w ks l os,t=>
  (if k=0 then some t
  else if k=1 then (if ZW (Z5 o) (Z5 t)=true then some n else none)
  else if k=2 then (if t.kind=1 then (wsD t.words w t.words).bind fun a=> (Z4o r t.kids ks t.kids).map fun b=> .mk 1 a b else none)
  else if k=3 then (if t.kind=l then (ZcN (Z1E r os t.kids [])).map fun b=> .mk l [] b else none)
  else none).map (nrD r)
noncomputable def Z4o(r:Bool)(tk:List Tree):List (KidOf Edit)->List Tree->Option (List Tree)
 | [],out=> some out
 | k ::s,out=> (Zej r tk k).bind fun u=> Z4o r tk s (YW Tree.nil out k.at_.toNat u)
noncomputable def Zej(r:Bool)(tk:List Tree):KidOf Edit->Option Tree
 | ⟨a,e⟩=> doE r e (tk.getD a.toNat Tree.nil)
noncomputable def Z1E(r:Bool):List (OpOf Edit)->List Tree->List Tree->Option (List Tree × List Tree)
 | [],rest,out=> some (out,rest)
 | o ::s,rest,out=> (ZjX r o rest out).bind fun x=> Z1E r s x.2 x.1
noncomputable def ZjX(r:Bool):OpOf Edit->List Tree->List Tree->Option (List Tree × List Tree)
 | ⟨k,n,l,e⟩,rest,out=>
  if k=0 then (if n.toNat<=rest.length then some (out++rest.take n.toNat,rest.drop n.toNat) else none)
  else if k=1 then (if Z9B l rest=true then some (out,rest.drop l.length) else none)
  else if k=2 then some (out++l,rest)
  else if rest.length=0 then none else (doE r e (rest.getD 0 Tree.nil)).map fun u=> (out++[u],rest.drop 1)
end
theorem Z8O(r:Bool)(e:Edit)(t:Tree):doE r e t=(if e.kind=0 then some t
  else if e.kind=1 then (if ZW (Z5 e.old) (Z5 t)=true then some e.new else none)
  else if e.kind=2 then (if t.kind=1 then (wsD t.words e.words t.words).bind fun a=> (Z4o r t.kids e.kids t.kids).map fun b=> .mk 1 a b else none)
  else if e.kind=3 then (if t.kind=e.list then (ZcN (Z1E r e.ops t.kids [])).map fun b=> .mk e.list [] b else none)
  else none).map (nrD r):=by cases e;rfl
noncomputable def Zya(r:Bool)(e:Edit)(t:Tree):Option Tree:=
 if e.kind=0 then some t
 else if e.kind=1 then (if ZW (Z5 e.old) (Z5 t)=true then some e.new else none)
 else if e.kind=2 then (if t.kind=1 then (wsD t.words e.words t.words).bind fun a=> (Z4o r t.kids e.kids t.kids).map fun b=> .mk 1 a b else none)
 else if e.kind=3 then (if t.kind=e.list then (ZcN (Z1E r e.ops t.kids [])).map fun b=> .mk e.list [] b else none)
 else none
theorem Zgr(r:Bool)(e:Edit)(t:Tree):doE r e t=(Zya r e t).map (nrD r):=Z8O r e t
theorem Zsr(r:Bool)(tk:List Tree)(k:Kid):Zej r tk k=doE r k.e (tk.getD k.at_.toNat Tree.nil):=by cases k;rfl
theorem Zvr(r:Bool)(o:Op)(rest out:List Tree):ZjX r o rest out=if o.kind=0 then (if o.n.toNat<=rest.length then some (out++rest.take o.n.toNat,rest.drop o.n.toNat) else none)
  else if o.kind=1 then (if Z9B o.l rest=true then some (out,rest.drop o.l.length) else none)
  else if o.kind=2 then some (out++o.l,rest)
  else if rest.length=0 then none else (doE r o.e (rest.getD 0 Tree.nil)).map fun u=> (out++[u],rest.drop 1):=by cases o;rfl
noncomputable def Z9L(r:Bool)(e:Edit)(t:Tree):Option Tree:=
 if t.kind=1 then (wsD t.words e.words t.words).bind fun a=> (Z4o r t.kids e.kids t.kids).map fun b=> .mk 1 a b else none
noncomputable def Z5v(r:Bool)(e:Edit)(t:Tree):Option (List Tree × List Tree):=if t.kind=e.list then Z1E r e.ops t.kids [] else none
def Z0x(o:Option Tree):Tree:=o.getD Tree.nil
def ZrF(e:Edit)(o:Option (List Tree × List Tree)):Tree:=match o with | some x=> .mk e.list [] x.1 | none=> Tree.nil
noncomputable def Z9M(e:Edit)(t:Tree):Tree:=
 if e.kind=0 then t else if e.kind=1 then e.new else if e.kind=2 then Z0x (Z9L false e t) else if e.kind=3 then ZrF e (Z5v false e t) else Tree.nil
theorem Z4M(o:Option Tree):o.map (nrD false)=o:=by cases o <;> rfl
theorem Z8o{e:Edit}{t u:Tree}(h:doE false e t=some u):Z9M e t=u:=by
 rw [Z8O,Z4M] at h
 unfold Z9M
 split
 .grind
 .rename_i h0;rw [if_neg h0] at h
  split
  .grind
  .rename_i h1;rw [if_neg h1] at h
   split
   .rename_i b;rw [if_pos b] at h
    unfold Z0x Z9L
    rw [h];try rfl
   .rename_i b;rw [if_neg b] at h
    split
    .rename_i s;rw [if_pos s] at h
     unfold ZrF Z5v
     split at h
     .rename_i h4;rw [if_pos h4]
      revert h
      cases Z1E false e.ops t.kids [] with
      | none=> intro h;cases h
      | some x=>
       intro h
       simp only [ZcN,QX] at h
       grind
     .cases h
    grind
structure Wst where
 out:List Op
 gone:List Tree
 brought:List Tree
def Z0h(out:List Op)(g b:List Tree):List Op:=
 out++((if g.length=0 then [] else [⟨1,0,g,Edit.nil⟩])++(if b.length=0 then [] else [⟨2,0,b,Edit.nil⟩]))
def Z0L:List Op->Int->List Op
 | [],n=> [⟨0,n,[],Edit.nil⟩]
 | [o],n=> if o.kind=0 then [⟨o.kind,o.n+n,o.l,o.e⟩] else [o,⟨0,n,[],Edit.nil⟩]
 | o ::p ::r,n=> o ::Z0L (p ::r) n
def Ze(w:Wst):Wst:=⟨Z0h w.out w.gone w.brought,[],[]⟩
def ZU(w:Wst)(n:Int):Wst:=⟨Z0L (Ze w).out n,[],[]⟩
mutual
def Zm:Edit->Edit
 | .mk k o n w ks l os=>
  if k=1 then .mk k (Z5 o) (Z5 n) [] [] l []
  else if k=2 then .mk k Tree.nil Tree.nil w (JV ks) l []
  else if k=3 then .mk k Tree.nil Tree.nil [] [] l (Ze (ZP l os ⟨[],[],[]⟩)).out
  else .mk k Tree.nil Tree.nil [] [] l []
def JV:List (KidOf Edit)->List (KidOf Edit)
 | []=> []
 | k ::r=> Z32 k ::JV r
def Z32:KidOf Edit->KidOf Edit
 | ⟨a,e⟩=> ⟨a,Zm e⟩
def ZP(list:Int):List (OpOf Edit)->Wst->Wst
 | [],s=> s
 | o ::r,s=> ZP list r (Z03 list o s)
def Z03(list:Int):OpOf Edit->Wst->Wst
 | ⟨k,n,l,e⟩,s=>
  if k=0 then ZU s n
  else if k=1 then ⟨s.out,s.gone++Zd l,s.brought⟩
  else if k=2 then ⟨s.out,s.gone,s.brought++Zd l⟩
  else if k=3 then (if Zi9 list (Zm e)=true then ZU s 1 else ⟨(Ze s).out++[⟨3,0,[],Zm e⟩],[],[]⟩)
  else s
end
theorem Z4L(e:Edit):Zm e=if e.kind=1 then .mk e.kind (Z5 e.old) (Z5 e.new) [] [] e.list []
  else if e.kind=2 then .mk e.kind Tree.nil Tree.nil e.words (JV e.kids) e.list []
  else if e.kind=3 then .mk e.kind Tree.nil Tree.nil [] [] e.list (Ze (ZP e.list e.ops ⟨[],[],[]⟩)).out
  else .mk e.kind Tree.nil Tree.nil [] [] e.list []:=by cases e;rfl
theorem ZdT(k:Kid):Z32 k=⟨k.at_,Zm k.e⟩:=by cases k;rfl
theorem Z2p(list:Int)(o:Op)(s:Wst):Z03 list o s=if o.kind=0 then ZU s o.n
  else if o.kind=1 then ⟨s.out,s.gone++Zd o.l,s.brought⟩
  else if o.kind=2 then ⟨s.out,s.gone,s.brought++Zd o.l⟩
  else if o.kind=3 then (if Zi9 list (Zm o.e)=true then ZU s 1 else ⟨(Ze s).out++[⟨3,0,[],Zm o.e⟩],[],[]⟩)
  else s:=by cases o;rfl
end Go.AM
namespace Go.AM.YtpjenobkibfpcaaGreat
open Go.AM Go.Proofs
theorem Zbm(a b:Tree):ZW a b=ZW b a:=by simp [ZW,eq_comm]
theorem ZiQ(a:Tree):ZW a a=true:=by simp [ZW]
theorem Znh(l:List Int):trim (trim l)=trim l:=by
 induction l with
 | nil=> rfl
 | cons x r ih=>
  rw [Z12]
  split
  .try rfl
  .rename_i h
   rw [Z12,ih,if_neg h]
theorem ZiM(l:List Tree):ZN (ZN l)=ZN l:=by
 induction l with
 | nil=> rfl
 | cons x r ih=>
  rw [J0]
  split
  .try rfl
  .rename_i h
   rw [J0,ih,if_neg h]
def Normed:List Tree->Prop
 | []=> True
 | t ::r=> Z5 t=t/\Normed r
theorem Normed.eq:∀ {l:List Tree},Normed l->Y6 l=l
 | [],_=> rfl
 | t ::r,h=> by simp only [Y6,h.1,Normed.eq h.2]
theorem Normed.trim:∀ {l:List Tree},Normed l->Normed (ZN l)
 | [],_=> trivial
 | t ::r,h=> by
  rw [J0]
  split
  .trivial
  .exact ⟨h.1,Normed.trim h.2⟩
mutual
theorem Z6d:∀ (t:Tree),Z5 (Z5 t)=Z5 t
 | .mk k w ks=> by
  have h:=Z7j ks
  by_cases h0:k=0
  .simp [Z5,h0,Tree.nil]
  .by_cases h1:k=1
   .subst h1
    simp only [Z5,if_neg h0,if_true,Znh,h.trim.eq,ZiM]
   .simp only [Z5,if_neg h0,if_neg h1,h.eq]
theorem Z7j:∀ (ks:List Tree),Normed (Y6 ks)
 | []=> trivial
 | t ::r=> ⟨Z6d t,Z7j r⟩
end
theorem Ja:∀ (l:List Op) (n:Int),Z0L l n=l++[⟨0,n,[],Edit.nil⟩]\/∃ a o,l=a++[o]/\o.kind=0/\Z0L l n=a++[⟨o.kind,o.n+n,o.l,o.e⟩]
 | [],n=> Or.inl rfl
 | [o],n=> by
  by_cases h:o.kind=0
  .exact Or.inr ⟨[],o,rfl,h,by simp [Z0L,h]⟩
  .exact Or.inl (by simp [Z0L,h])
 | o ::p ::r,n=> by
  rcases Ja (p ::r) n with h | ⟨a,q,h1,h2,h3⟩
  .exact Or.inl (by simp only [Z0L,h,Qq])
  .exact Or.inr ⟨o ::a,q,by rw [h1];rfl,h2,by simp only [Z0L,h3,Qq]⟩
def W0:Wst:=⟨[],[],[]⟩
theorem Z5E(a b:List Tree):Zd (a++b)=Zd a++Zd b:=by simp [Zd]
end Go.AM.YtpjenobkibfpcaaGreat
namespace Go.AM
theorem Z7k{t:Tree}(h:Yz t=true):t=Tree.nil:=by
 obtain ⟨k,w,ks⟩:=t
 simp only [Yz,decide_eq_true_eq] at h
 obtain ⟨b,s,u⟩:=h
 have b:k=0:=b
 rw [b,Q3 (l:=w) s,Q3 (l:=ks) u]
 try rfl
theorem Zh7{e:Edit}(h:Z2d e=true):e=Edit.nil:=by
 obtain ⟨k,o,n,w,ks,l,os⟩:=e
 simp only [Z2d,Q1,decide_eq_true_eq] at h
 obtain ⟨⟨⟨s,h2⟩,h3⟩,h4,h5,u,b⟩:=h
 have s:k=0:=s
 have b:l=0:=b
 rw [s,b,Z7k (t:=o) h2,Z7k (t:=n) h3,Q3 (l:=w) h4,Q3 (l:=ks) h5,Q3 (l:=os) u]
 try rfl
structure RightE (e:Edit) (d:Int):Prop where
 d0:d≠0
 kind:0<=e.kind/\e.kind<=3
 none:e.kind≠1->e.old=Tree.nil/\e.new=Tree.nil
 words0:e.kind≠2->e.words=[]/\e.kids=[]
 ops0:e.kind≠3->e.list=0/\e.ops=[]
 rep:e.kind=1->Zi e.old (dT d)=true/\Zi e.new (dT d)=true/\e.old.kind≠10/\e.new.kind≠10
 words:ZL (-1) e.words=true
 kids:Zs (-1) e.kids (d - 1)=true
 list:e.kind=3->2<=e.list/\e.list<=9
 ops:Zu e.list e.ops (d - 1)=true
 len:Z1D e.ops 0 < 1048576/\Z1C e.ops 0 < 1048576
theorem Zr{e:Edit}{d:Int}(h:Z4 e d=true):RightE e d:=by
 obtain ⟨k,o,n,w,ks,l,os⟩:=e
 rw [Z4] at h
 split at h
 .cases h
 .rename_i a
  split at h
  .cases h
  .rename_i b
   have b1:k≠1->o=Tree.nil/\n=Tree.nil:=by
    intro s
    by_cases x:Yz o=true/\Yz n=true
    .exact ⟨Z7k x.1,Z7k x.2⟩
    .grind
   have u:k≠2->w=[]/\ks=[]:=by
    intro s
    by_cases x:w.length=0/\ks.length=0
    .exact ⟨Q3 x.1,Q3 x.2⟩
    .exact absurd (.inr (.inl ⟨s,x⟩)) b
   have b3:k≠3->l=0/\os=[]:=by
    intro s
    by_cases x:l≠0\/os.length≠0
    .exact absurd (.inr (.inr ⟨s,x⟩)) b
    .exact ⟨V1,Q3 V1⟩
   split at h
   .rename_i c
    simp only [Q1,decide_eq_true_eq] at h
    obtain ⟨⟨h1,h2⟩,h3,h4⟩:=h
    have c2:=u V1
    have c3:=b3 V1
    obtain ⟨rfl,rfl⟩:=c2
    obtain ⟨rfl,rfl⟩:=c3
    exact ⟨V1,⟨by simp_all,by simp_all⟩,b1,u,b3,fun _=> ⟨h1,h2,h3,h4⟩,rfl,rfl,fun e=> by simp_all,rfl,by show Z1D [] 0 < _/\Z1C [] 0 < _;trivial⟩
   .rename_i c
    simp only [Q1,decide_eq_true_eq] at h
    obtain ⟨⟨⟨⟨h1,h2⟩,h3⟩,h4⟩,h5⟩:=h
    exact ⟨V1,⟨by simp_all,by simp_all⟩,b1,u,b3,fun e=> absurd e c,h1,h2,fun e=> by simp_all,h4,h5⟩
theorem ZG:∀ {ks:List Kid} {last d:Int},Zs last ks d=true->∀ k∈ks,(last < k.at_/\k.at_<=65534/\k.e.kind≠0)/\Z4 k.e d=true
 | [],_,_,_,_,hk=> by cases hk
 | ⟨a,e⟩ ::r,last,d,h,k,hk=> by
  simp only [Zs,J5,Q1,decide_eq_true_eq] at h
  obtain ⟨⟨u,s⟩,b⟩:=h
  rcases Q8.1 hk with rfl | hk
  .grind
  .have:=ZG b k hk
   grind
theorem rightOs_mem{list:Int}:∀ {os:List Op} {d:Int},Zu list os d=true->∀ o∈os,Zg list o d=true
 | [],_,_,_,ho=> by cases ho
 | a ::r,d,h,o,ho=> by
  simp only [Zu,Q1] at h
  rcases Q8.1 ho with rfl | ho
  .exact h.1
  .exact rightOs_mem h.2 o ho
theorem JH:∀ {ws:List WEdit} {last:Int},ZL last ws=true->∀ w∈ws,last < w.at_/\w.at_<=65534/\w.mask≠0/\Yl w.old w.mask=true/\Yl w.new w.mask=true
 | [],_,_,_,hw=> by cases hw
 | a ::r,last,h,w,hw=> by
  simp only [ZL,Q1,decide_eq_true_eq] at h
  obtain ⟨⟨⟨u,s⟩,h3⟩,b⟩:=h
  rcases Q8.1 hw with rfl | hw
  .grind
  .have:=JH b w hw
   grind
inductive RightOp (list:Int) (d:Int):Op->Prop
 | keep (n:Int):1<=n->n<=1048576->RightOp list d ⟨0,n,[],Edit.nil⟩
 | gone (l:List Tree):Y0 (dT d) list l=true->0 < l.length->RightOp list d ⟨1,0,l,Edit.nil⟩
 | come (l:List Tree):Y0 (dT d) list l=true->0 < l.length->RightOp list d ⟨2,0,l,Edit.nil⟩
 | into (e:Edit):Z4 e d=true->e.kind≠0->7 < list->(list=8\/e.kind=2\/e.kind=1/\e.old.kind=1/\e.new.kind=1)->RightOp list d ⟨3,0,[],e⟩
theorem JI{list:Int}{o:Op}{d:Int}(h:Zg list o d=true):RightOp list d o:=by
 obtain ⟨k,n,l,e⟩:=o
 rw [Zg] at h
 split at h
 .rename_i u
  simp only [Q1,decide_eq_true_eq] at h
  obtain ⟨⟨h1,h2,b⟩,s⟩:=h
  rw [u,Zh7 s,Q3 b]
  exact .keep n h1 h2
 .rename_i h0
  split at h
  .cases h
  .rename_i h1
   have hn:n=0:=V1
   subst hn
   split at h
   .rename_i h2
    simp only [Q1,decide_eq_true_eq] at h
    obtain ⟨⟨b,s⟩,h5⟩:=h
    rw [Zh7 h5]
    by_cases u:k=1
    .rw [u];exact .gone l b s
    .rw [show k=2 by omega];exact .come l b s
   .rename_i h2
    simp only [Q1,decide_eq_true_eq] at h
    obtain ⟨⟨⟨b,s,h5⟩,h6⟩,h7⟩:=h
    rw [show k=3 by omega,Q3 b]
    exact .into e h6 s h5 h7
theorem J4{l d:Int}{o:Op}(h:Zg l o d=true)(hk:o.kind=3):Z4 o.e d=true:=by
 have r:=JI h
 cases r with
 | into e h1=> exact h1
 | keep | gone | come=> grind
end Go.AM
namespace Go.AM.YtpjenobkibfpcaaGreat
open Go.AM Go.Proofs
theorem Zdb{α:Type}(z:α)(l:List α)(i:Nat)(x:α):(YW z l i x).length=max l.length (i+1):=by
 simp only [YW,List.length_set,Qa,X5];omega
theorem Zh5{α:Type}(z:α)(l:List α)(i:Nat)(x:α)(j:Nat):(YW z l i x).getD j z=if j=i then x else l.getD j z:=by
 simp only [YW,QD,K0,Qa,X5]
 grind
theorem ZnM{a b c d:List Tree}(h:Zd a=Zd b)(hx:Zd c=Zd d):Zd (a++c)=Zd (b++d):=by
 rw [Z5E,Z5E,h,hx]
theorem ZdV{a b:List Tree}(h:Zd a=Zd b):a.length=b.length:=by
 have:=congrArg List.length h
 simpa [Zd] using this
def EqvL(x y:List Tree):Prop:=Zd x=Zd y
theorem EqvL.take{x y:List Tree}(h:EqvL x y)(n:Nat):EqvL (x.take n) (y.take n):=by unfold EqvL Zd at*;simp_all
theorem EqvL.drop{x y:List Tree}(h:EqvL x y)(n:Nat):EqvL (x.drop n) (y.drop n):=by unfold EqvL Zd at*;simp_all
theorem ZhR{α β:Type}{f:α->β}(d:α){a b:List α}(hl:a.length=b.length)(h:∀ i:Nat,i < a.length->f (a.getD i d)=f (b.getD i d)):a.map f=b.map f:=by
 apply List.ext_getElem (by simpa using hl)
 grind
theorem Zib{α β:Type}{f:α->β}{d:α}{a b:List α}(h:a.map f=b.map f)(i:Nat):f (a.getD i d)=f (b.getD i d):=by
 have e:=congrArg (fun l=> l[i]?.getD (f d)) h
 grind
theorem Z2u(t:Tree):(Z5 t).kind=t.kind:=by
 obtain ⟨k,w,ks⟩:=t
 simp only [Z5]
 by_cases h0:k=0
 .rw [if_pos h0,h0];try rfl
 .rw [if_neg h0]
  by_cases h1:k=1
  .rw [if_pos h1,h1];try rfl
  .rw [if_neg h1];try rfl
theorem ZaI:∀ (l:List Int),∃ r,l=trim l++r
 | []=> ⟨[],rfl⟩
 | x ::r=> by
  obtain ⟨s,b⟩:=ZaI r
  simp only [trim]
  split
  .rename_i e
   split
   .exact ⟨x ::r,rfl⟩
   .exact ⟨r,rfl⟩
  .rename_i y t e
   rw [e] at b
   exact ⟨s,by rw [b];rfl⟩
theorem Z84:∀ (l:List Tree),∃ r,l=ZN l++r
 | []=> ⟨[],rfl⟩
 | x ::r=> by
  obtain ⟨s,b⟩:=Z84 r
  simp only [ZN]
  split
  .rename_i e
   split
   .exact ⟨x ::r,rfl⟩
   .exact ⟨r,rfl⟩
  .rename_i y t e
   rw [e] at b
   exact ⟨s,by rw [b];rfl⟩
theorem Zbr{list d:Int}:∀ (a b:List Tree),Yy list (a++b) d=true->Yy list a d=true
 | [],_,_=> rfl
 | t ::r,b,h=> by
  simp only [Qq,Yy,Q1] at h ⊢
  exact ⟨h.1,Zbr r b h.2⟩
theorem Z0X:∀ (l:List Tree),(Y6 l).length=l.length
 | []=> rfl
 | t ::r=> by simp only [Y6,Qm,Z0X r]
theorem Zo3{list:Int}{t:Tree}(h:Z9P list t=true):Z9P list (Z5 t)=true:=by
 unfold Z9P at h ⊢
 rw [Z2u]
 split at h
 .rename_i hl
  rw [if_pos hl]
  simp only [Q1,decide_eq_true_eq] at h ⊢
  obtain ⟨⟨s,b,u⟩,h4⟩:=h
  obtain ⟨k,w,ks⟩:=t
  simp only [Tree.kind_mk,Tree.kids_mk,Tree.words_mk] at s b u h4
  have:ks=[]:=Qp.1 b
  subst this
  subst s
  trivial
 grind
mutual
theorem Z3P:∀ (t:Tree) (d:Int),Zi t d=true->Zi (Z5 t) d=true
 | .mk k w ks,d,h=> by
  have s:=fun (list:Int) (h:Yy list ks (d - 1)=true)=> Z3R ks list (d - 1) h
  simp only [Zi] at h
  simp only [Z5]
  by_cases h0:k=0
  .rw [if_pos h0];try rfl
  .rw [if_neg h0] at h ⊢
   by_cases h10:k=10
   .subst h10
    rw [if_pos rfl] at h
    rw [if_neg V5]
    simp only [decide_eq_true_eq] at h
    simp only [Zi]
    rw [if_neg V5,if_pos trivial,Z0X]
    simpa using h
   .rw [if_neg h10] at h
    by_cases hd:d=0
    .grind
    .rw [if_neg hd] at h
     by_cases h1:k=1
     .subst h1
      rw [if_pos rfl] at h
      rw [if_pos rfl]
      simp only [Q1,decide_eq_true_eq] at h
      simp only [Zi]
      rw [if_neg V5,if_neg V5,if_neg hd,if_pos trivial]
      simp only [Q1,decide_eq_true_eq]
      obtain ⟨r1,e1⟩:=ZaI w
      obtain ⟨r2,e2⟩:=Z84 (Y6 ks)
      have u:=congrArg List.length e1
      have b:=congrArg List.length e2
      rw [Z0X] at b
      simp only [Qa] at u b
      refine ⟨⟨V1,V1⟩,?_⟩
      have:=s 1 h.2
      rw [e2] at this
      exact Zbr _ _ this
     .rw [if_neg h1] at h ⊢
      simp only [Q1,decide_eq_true_eq] at h
      simp only [Zi]
      rw [if_neg h0,if_neg h10,if_neg hd,if_neg h1,Z0X]
      grind
theorem Z3R:∀ (l:List Tree) (list d:Int),Yy list l d=true->Yy list (Y6 l) d=true
 | [],_,_,_=> rfl
 | t ::r,list,d,h=> by
  simp only [Yy,Q1] at h
  have s:=Z3P t d h.1.2
  have b:=Z3R r list d h.2
  simp only [Y6,Yy,Q1]
  exact ⟨⟨Zo3 h.1.1,s⟩,b⟩
end
theorem Z8v:∀ (a b:List Tree),Z9 (a++b)=Z9 a+Z9 b
 | [],b=> by simp [Z9]
 | t ::r,b=> by simp only [Qq,Z9,Z8v r b];omega
theorem JD:∀ (a b:List Op),Zj (a++b)=Zj a+Zj b
 | [],b=> by simp [Zj]
 | t ::r,b=> by simp only [Qq,Zj,JD r b];omega
theorem Z48:∀ (l:List Tree),Z9 (Zd l)<=Z9 l
 | []=> by trivial
 | t ::r=> by
  have h:=Z48 r
  have b:=YL t
  simp only [Zd] at h
  simp only [Zd,Xc,Z9]
  omega
theorem Z4R:Z8 Edit.nil=3:=by rfl
theorem Z18:Zk Tree.nil=1:=by rfl
theorem Z4Q(t:Tree):1<=Zk t:=by cases t;simp only [Zk];omega
theorem Z9r:∀ (e:Edit),3<=Z8 e
 | .mk k o n w ks l os=> by
  have h:=Z4Q o
  have b:=Z4Q n
  simp only [Z8];omega
def Z66(w:Wst):Nat:=Zj w.out+w.out.length+Z9 w.gone+Z9 w.brought+(if w.gone.length=0 then 0 else 4)+(if w.brought.length=0 then 0 else 4)
theorem JC(o:Op):Zj [o]=Zx o:=by rfl
theorem Z19(k n:Int)(l:List Tree)(e:Edit):Zx (OpOf.mk k n l e)=Z9 l+Z8 e:=rfl
theorem Z8m(w:Wst):Zj (Ze w).out+(Ze w).out.length=Z66 w:=by
 simp only [Ze,Z0h,Z66]
 rw [JD,JD,Qa,Qa]
 by_cases hg:w.gone.length=0
 .have e:w.gone=[]:=Qp.1 hg
  rw [if_pos hg,if_pos hg,e]
  by_cases hb:w.brought.length=0
  .have e2:w.brought=[]:=Qp.1 hb
   rw [if_pos hb,if_pos hb,e2];try rfl
  .rw [if_neg hb,if_neg hb,JC,Z19,Z4R];simp [Zj,Z9];omega
 .rw [if_neg hg,if_neg hg,JC,Z19,Z4R]
  by_cases hb:w.brought.length=0
  .have e2:w.brought=[]:=Qp.1 hb
   rw [if_pos hb,if_pos hb,e2];simp [Zj,Z9];omega
  .rw [if_neg hb,if_neg hb,JC,Z19,Z4R];simp;omega
theorem Zhy(w:Wst)(n:Int):Z66 (ZU w n)<=Z66 w+4:=by
 have h:=Z8m w
 have e:Z66 (ZU w n)=Zj (Z0L (Ze w).out n)+(Z0L (Ze w).out n).length:=rfl
 rw [e]
 rcases Ja (Ze w).out n with e | ⟨a,o,e1,_,e3⟩
 .rw [e,JD,Qa,JC,Z19,Z4R];simp [Z9];omega
 .rw [e3,JD,Qa,JC]
  rw [e1,JD,Qa,JC] at h
  obtain ⟨k,m,l,e⟩:=o
  simp only [Z19] at h ⊢
  grind
theorem Zye{list:Int}{w:Wst}{o:Op}(hi:Z8 (Zm o.e)<=Z8 o.e):Z66 (Z03 list o w)<=Z66 w+Zx o+1:=by
 have s:=Z9r o.e
 have b:Zx o=Z9 o.l+Z8 o.e:=by cases o;rfl
 have h:=Z48 o.l
 have hl:(Zd o.l).length=o.l.length:=by simp [Zd]
 rw [Z2p]
 split
 .have:=Zhy w o.n;omega
 .split
  .simp only [Z66,Z8v,Qa,hl]
   grind
  .split
   .simp only [Z66,Z8v,Qa,hl]
    grind
   .split
    .split
     .have:=Zhy w 1;omega
     .have:=Z8m w
      have e:Z66 ⟨(Ze w).out++[⟨3,0,[],Zm o.e⟩],[],[]⟩=Zj ((Ze w).out++[(⟨3,0,[],Zm o.e⟩:Op)])+((Ze w).out++[(⟨3,0,[],Zm o.e⟩:Op)]).length:=rfl
      rw [e,JD,Qa,JC,Z19]
      simp [Z9];omega
    .omega
mutual
theorem Z2r:∀ (e:Edit),Z8 (Zm e)<=Z8 e
 | .mk k o n w ks l os=> by
  have u:=Zcg ks
  have h:=Zlh l os W0
  have s:=Z8m (ZP l os W0)
  have e0:Z66 W0=0:=rfl
  have po:=Z4Q o
  have pn:=Z4Q n
  have b:=YL o
  have mn:=YL n
  rw [Zm]
  split
  .simp only [Z8,ZV,Zj,Qe];omega
  .split
   .simp only [Z8,ZV,Zj,Qe,Z18];omega
   .split
    .simp only [Z8,ZV,Qe,Z18]
     show 1+1+1+0+(Ze (ZP l os W0)).out.length+0+Zj (Ze (ZP l os W0)).out<=_
     omega
    .simp only [Z8,ZV,Zj,Qe,Z18];omega
theorem Zcg:∀ (ks:List (KidOf Edit)),ZV (JV ks)<=ZV ks
 | []=> Qb _
 | k ::r=> by
  have h:=ZhQ k
  have b:=Zcg r
  simp only [JV,ZV];omega
theorem ZhQ:∀ (k:KidOf Edit),Z0n (Z32 k)<=Z0n k
 | ⟨a,e⟩=> by
  have h:=Z2r e
  trivial
theorem Zlh(list:Int):∀ (os:List (OpOf Edit)) (w:Wst),Z66 (ZP list os w)<=Z66 w+Zj os+os.length
 | [],w=> by simp [ZP,Zj]
 | o ::r,w=> by
  have h:=ZnB list o w
  have b:=Zlh list r (Z03 list o w)
  simp only [ZP,Zj,Qm];omega
theorem ZnB(list:Int):∀ (o:OpOf Edit) (w:Wst),Z66 (Z03 list o w)<=Z66 w+Zx o+1
 | ⟨k,n,l,e⟩,_=> Zye (o:=⟨k,n,l,e⟩) (Z2r e)
end
theorem ZdU(e:Edit):(Zm e).kind=e.kind:=by
 rw [Z4L]
 split
 .try rfl
 .split
  .try rfl
  .split <;> rfl
theorem ZhK(e:Edit)(h:e.kind=1):(Zm e).old=Z5 e.old/\(Zm e).new=Z5 e.new:=by
 rw [Z4L,if_pos h]
 simp_all
theorem ZiT{D list:Int}{t:Tree}(hD:D≠0)(h:Zi (.mk list [] [t]) D=true):Zi (.mk list [] [Z5 t]) D=true:=by
 have b:=fun (k d:Int) (h:Yy k [t] d=true)=> Z3R [t] k d h
 simp only [Y6] at b
 simp only [Zi] at h ⊢
 grind
theorem Z1Z{D list:Int}(hD:D≠0):∀ {l:List Tree},Y0 D list l=true->Y0 D list (Zd l)=true
 | [],_=> rfl
 | t ::r,h=> by
  simp only [Y0,Q1] at h
  have b:=Z1Z hD h.2
  simp only [Zd] at b
  simp only [Zd,Xc,Y0,Q1]
  exact ⟨ZiT hD h.1,b⟩
theorem Z3s{D list:Int}:∀ {a b:List Tree},Y0 D list a=true->Y0 D list b=true->Y0 D list (a++b)=true
 | [],_,_,h=> h
 | t ::r,b,h,h2=> by
  simp only [Y0,Q1] at h
  simp only [Qq,Y0,Q1]
  exact ⟨h.1,Z3s h.2 h2⟩
def rOp(list:Int)(d:Int)(o:Op):Prop:=(o.kind=0->1<=o.n/\o.l.length=0/\Z2d o.e=true)/\(o.kind≠0->Zg list o d=true)
theorem Z8d{list d:Int}{o:Op}(h:Zg list o d=true):rOp list d o:=by
 refine ⟨fun b=> ?_,fun _=> h⟩
 obtain ⟨k,n,l,e⟩:=o
 simp only at b
 subst b
 simp only [Zg,if_true,Q1,decide_eq_true_eq] at h
 grind
theorem Zyb{list d:Int}{o:Op}(h:rOp list d o)(hn:o.kind=0->o.n<=1048576):Zg list o d=true:=by
 by_cases hk:o.kind=0
 .have s:=h.1 hk
  have b:=hn hk
  obtain ⟨k,n,l,e⟩:=o
  simp only at hk s b
  subst hk
  simp only [Zg,if_true,Q1,decide_eq_true_eq]
  grind
 .exact h.2 hk
theorem Z0u{list:Int}:∀ {os:List Op} {d:Int},Zu list os d=true↔∀ o∈os,Zg list o d=true
 | [],d=> by simp [Zu]
 | o ::r,d=> by
  simp only [Zu,Q1,Q8,forall_eq_or_imp]
  rw [Z0u (os:=r)]
theorem Z1g:Z2d Edit.nil=true:=rfl
structure OkW (list d:Int) (w:Wst):Prop where
 out:∀ o∈w.out,rOp list d o
 gone:Y0 (dT d) list w.gone=true
 brought:Y0 (dT d) list w.brought=true
theorem Z8p{list d:Int}{w:Wst}(h:OkW list d w):OkW list d (Ze w):=by
 refine ⟨?_,rfl,rfl⟩
 simp only [Ze,Z0h]
 intro o b
 rcases Qc.1 b with b | b
 .exact h.out o b
 rcases Qc.1 b with b | b
 .split at b
  .cases b
  .rename_i hl
   simp only [Qh] at b
   subst b
   refine ⟨fun s=> (by cases s),fun _=> ?_⟩
   simp only [Zg]
   rw [if_neg V5,if_neg V5,if_pos V5,h.gone,Z1g]
   grind
 .split at b
  .cases b
  .rename_i hl
   simp only [Qh] at b
   subst b
   refine ⟨fun s=> (by cases s),fun _=> ?_⟩
   simp only [Zg]
   rw [if_neg V5,if_neg V5,if_pos V5,h.brought,Z1g]
   grind
theorem ZhJ{list d:Int}{w:Wst}{n:Int}(h:OkW list d w)(hn:1<=n):OkW list d (ZU w n):=by
 have hf:=Z8p h
 refine ⟨?_,rfl,rfl⟩
 simp only [ZU]
 intro o b
 rcases Ja (Ze w).out n with e | ⟨a,q,e1,e2,e3⟩
 .rw [e] at b
  rcases Qc.1 b with b | b
  .exact hf.out o b
  .simp only [Qh] at b
   subst b
   exact ⟨fun _=> ⟨hn,rfl,Z1g⟩,fun s=> absurd rfl s⟩
 .rw [e3] at b
  rcases Qc.1 b with b | b
  .exact hf.out o (by grind)
  .simp only [Qh] at b
   subst b
   have u:=(hf.out q (by rw [e1];simp)).1 e2
   exact ⟨fun _=> ⟨by grind,u.2⟩,fun s=> absurd e2 s⟩
theorem Zym{list d:Int}{w:Wst}{o:Op}(h:OkW list d w)(hr:Zg list o d=true)(hi:Z4 o.e d=true->Z4 (Zm o.e) d=true):OkW list d (Z03 list o w):=by
 obtain ⟨k,n,l,e⟩:=o
 have u:=hr
 rw [Zg] at hr
 rw [Z2p]
 simp only at hi ⊢
 split at hr
 .rename_i s
  rw [if_pos s]
  simp only [Q1,decide_eq_true_eq] at hr
  exact ZhJ h hr.1.1
 .rename_i s
  rw [if_neg s]
  split at hr
  .cases hr
  .rename_i hn
   split at hr
   .rename_i h3
    simp only [Q1,decide_eq_true_eq] at hr
    by_cases k1:k=1
    .rw [if_pos k1]
     exact ⟨h.out,Z3s h.gone (Z1Z (Zxh d) hr.1.1),h.brought⟩
    .rw [if_neg k1,V0]
     exact ⟨h.out,h.gone,Z3s h.brought (Z1Z (Zxh d) hr.1.1)⟩
   .rename_i h3
    rw [Y7,Y7,V0]
    split
    .exact ZhJ h V5
    .have hf:=Z8p h
     refine ⟨?_,rfl,rfl⟩
     intro o b
     rcases Qc.1 b with b | b
     .exact hf.out o b
     .simp only [Qh] at b
      subst b
      refine ⟨fun s=> (by cases s),fun _=> ?_⟩
      simp only [Q1,decide_eq_true_eq] at hr
      simp only [Zg]
      rw [if_neg V5,if_neg V5,if_neg V5,ZdU,hi hr.1.2]
      simp only [Xm,Q1,decide_eq_true_eq]
      refine ⟨⟨rfl,hr.1.1.2⟩,?_⟩
      rcases hr.2 with h | h | h
      .exact Or.inl h
      .omega
      .rw [(ZhK e h.1).1,(ZhK e h.1).2,Z2u,Z2u]
       omega
def J2:List Op->Int
 | []=> 0
 | o ::r=> (if o.kind=2 then 0 else Z2 o)+J2 r
def Yw:List Op->Int
 | []=> 0
 | o ::r=> (if o.kind=1 then 0 else Z2 o)+Yw r
theorem Z29:∀ (a b:List Op),J2 (a++b)=J2 a+J2 b
 | [],b=> by simp [J2]
 | o ::r,b=> by simp only [Qq,J2,Z29 r b];omega
theorem Z28:∀ (a b:List Op),Yw (a++b)=Yw a+Yw b
 | [],b=> by simp [Yw]
 | o ::r,b=> by simp only [Qq,Yw,Z28 r b];omega
theorem Z0A:∀ (l:List Op) (n:Int),(∀ o∈l,0<=Z2 o)->0<=n->n<=1048576->Z1D l n=min (n+J2 l) 1048576/\0<=J2 l
 | [],n,_,h1,h2=> by simp only [Z1D,J2];omega
 | o ::r,n,h,h1,h2=> by
  have s:=h o (Q5 ..)
  simp only [Z1D,J2]
  have b:0<=(if o.kind=2 then n else n+Z2 o)/\(if o.kind=2 then n else n+Z2 o)=n+(if o.kind=2 then 0 else Z2 o):=by split <;> omega
  have u:0<=(if o.kind=2 then 0 else Z2 o):=by split <;> omega
  rw [b.2]
  rw [b.2] at b
  generalize (if o.kind=2 then 0 else Z2 o)=y at*
  obtain ⟨e1,e2⟩:=Z0A r (min (n+y) 1048576) (fun x b=> h x (Q4 _ b)) V1 V1
  omega
theorem Z1v:∀ (l:List Op) (n:Int),(∀ o∈l,0<=Z2 o)->0<=n->n<=1048576->Z1C l n=min (n+Yw l) 1048576/\0<=Yw l
 | [],n,_,h1,h2=> by simp only [Z1C,Yw];omega
 | o ::r,n,h,h1,h2=> by
  have s:=h o (Q5 ..)
  simp only [Z1C,Yw]
  have b:0<=(if o.kind=1 then n else n+Z2 o)/\(if o.kind=1 then n else n+Z2 o)=n+(if o.kind=1 then 0 else Z2 o):=by split <;> omega
  have u:0<=(if o.kind=1 then 0 else Z2 o):=by split <;> omega
  rw [b.2]
  rw [b.2] at b
  generalize (if o.kind=1 then 0 else Z2 o)=y at*
  obtain ⟨e1,e2⟩:=Z1v r (min (n+y) 1048576) (fun x b=> h x (Q4 _ b)) V1 V1
  omega
theorem Z0U{list d:Int}{o:Op}(h:rOp list d o):0<=Z2 o:=by
 unfold Z2
 split
 .decide
 .by_cases hk:o.kind=0
  .have:=(h.1 hk).1;omega
  .have b:=h.2 hk
   obtain ⟨k,n,l,e⟩:=o
   simp only at hk ⊢
   rw [Zg,if_neg hk] at b
   grind
theorem Zh2:∀ {l:List Op} {o:Op},(∀ o∈l,0<=Z2 o)->o∈l->o.kind≠2->Z2 o<=J2 l
 | a ::r,o,h,ho,hk=> by
  have u:=(Z0A r 0 (fun x b=> h x (Q4 _ b)) V5 V5).2
  have s:=h a (Q5 ..)
  simp only [J2]
  rcases Q8.1 ho with rfl | ho
  .omega
  .have:=Zh2 (fun x b=> h x (Q4 _ b)) ho hk
   omega
def sA(w:Wst):Int:=J2 w.out+w.gone.length
def sB(w:Wst):Int:=Yw w.out+w.brought.length
theorem Z4v(w:Wst):J2 (Ze w).out=sA w/\Yw (Ze w).out=sB w:=by
 simp only [Ze,Z0h,sA,sB,Z29,Z28]
 constructor
 .by_cases hg:w.gone.length=0
  .rw [if_pos hg]
   by_cases hb:w.brought.length=0
   .rw [if_pos hb];simp [J2];omega
   .rw [if_neg hb];simp [J2];omega
  .rw [if_neg hg]
   by_cases hb:w.brought.length=0
   .rw [if_pos hb];simp [J2,Z2]
   .rw [if_neg hb];simp [J2,Z2]
 .by_cases hg:w.gone.length=0
  .rw [if_pos hg]
   by_cases hb:w.brought.length=0
   .rw [if_pos hb];simp [Yw];omega
   .rw [if_neg hb];simp [Yw,Z2]
  .rw [if_neg hg]
   by_cases hb:w.brought.length=0
   .rw [if_pos hb];simp [Yw];omega
   .rw [if_neg hb];simp [Yw,Z2]
theorem Zh1(w:Wst)(n:Int):sA (ZU w n)=sA w+n/\sB (ZU w n)=sB w+n:=by
 have hf:=Z4v w
 simp only [ZU]
 have e1:∀ x,sA ⟨x,[],[]⟩=J2 x:=fun x=> by simp [sA]
 have e2:∀ x,sB ⟨x,[],[]⟩=Yw x:=fun x=> by simp [sB]
 rw [e1,e2,<-hf.1,<-hf.2]
 rcases Ja (Ze w).out n with e | ⟨a,q,e1,e2,e3⟩
 .rw [e,Z29,Z28]
  simp [J2,Yw,Z2]
 .rw [e3,e1,Z29,Z28,Z29,Z28]
  simp only [J2,Yw,Z2,e2]
  simp
  omega
theorem Zy1{list d:Int}{w:Wst}{o:Op}(hr:Zg list o d=true):sA (Z03 list o w)=sA w+(if o.kind=2 then 0 else Z2 o)/\sB (Z03 list o w)=sB w+(if o.kind=1 then 0 else Z2 o):=by
 have hl:∀ l,((Zd l).length:Int)=l.length:=fun l=> by simp [Zd]
 obtain ⟨k,n,l,e⟩:=o
 rw [Zg] at hr
 rw [Z2p]
 simp only [Z2]
 split at hr
 .rename_i b
  subst b
  rw [if_pos rfl]
  simp only [Q1,decide_eq_true_eq] at hr
  have:=Zh1 w n
  simp
  omega
 .rename_i b
  rw [if_neg b]
  split at hr
  .cases hr
  .rename_i hn
   split at hr
   .rename_i s
    by_cases k1:k=1
    .subst k1
     rw [if_pos rfl]
     simp only [sA,sB,Qa]
     grind
    .have u:k=2:=V1
     subst u
     rw [if_neg k1,if_pos rfl]
     simp only [sA,sB,Qa]
     grind
   .rename_i s
    have h:k=3:=V1
    subst h
    rw [Y7,Y7,if_pos rfl]
    split
    .have:=Zh1 w 1
     omega
    .have:=Z4v w
     simp only [sA,sB,Z29,Z28,J2,Yw,Z2] at this ⊢
     grind
mutual
theorem JA:∀ (e:Edit) (d:Int),Z4 e d=true->Z4 (Zm e) d=true
 | .mk k o n w ks l os,d,h=> by
  have h1:=Z96 ks
  have h2:=Zln l os
  have h4:=ZeG l os
  rw [Z4] at h
  split at h
  .cases h
  .rename_i a
   split at h
   .cases h
   .rename_i b
    have nn:Yz Tree.nil=true:=rfl
    by_cases k1:k=1
    .subst k1
     rw [if_pos rfl] at h
     have hl:l=0:=by
      apply X4
      intro hl
      exact b (.inr (.inr ⟨V5,.inl hl⟩))
     simp only [Q1,decide_eq_true_eq] at h
     rw [Zm,if_pos rfl,Z4,if_neg a,if_neg (by simp [hl]),if_pos rfl]
     simp only [Q1,decide_eq_true_eq]
     rw [Z2u,Z2u]
     exact ⟨⟨Z3P _ _ h.1.1,Z3P _ _ h.1.2⟩,h.2⟩
    .rw [if_neg k1] at h
     simp only [Q1,decide_eq_true_eq] at h
     obtain ⟨⟨⟨⟨x1,x2⟩,x3⟩,x4⟩,x5⟩:=h
     rw [Zm,if_neg k1]
     by_cases k2:k=2
     .have hl:l=0:=by
       apply X4
       intro hl
       exact b (.inr (.inr ⟨V1,.inl hl⟩))
      rw [if_pos k2,Z4,if_neg a,if_neg (by grind),if_neg k1]
      grind
     .rw [if_neg k2]
      by_cases k3:k=3
      .rw [if_pos k3,Z4,if_neg a,if_neg (by simp [nn,k3]),if_neg k1]
       simp only [Q1,decide_eq_true_eq]
       have aa:=Z0u.1 x4
       obtain ⟨y1,y2⟩:=Z0A os 0 (fun o s=> Z0U (Z8d (aa o s))) V5 V5
       obtain ⟨z1,z2⟩:=Z1v os 0 (fun o s=> Z0U (Z8d (aa o s))) V5 V5
       have hw:=h2 (d - 1) W0 x4 ⟨fun o s=> (by cases s),rfl,rfl⟩
       have hs:=h4 (d - 1) W0 x4
       have u:=Z8p hw
       have ah:=Z4v (ZP l os W0)
       have e0:sA W0=0/\sB W0=0:=⟨rfl,rfl⟩
       have hA:=Z0A (Ze (ZP l os W0)).out 0 (fun o s=> Z0U (u.out o s)) V5 V5
       have hB:=Z1v (Ze (ZP l os W0)).out 0 (fun o s=> Z0U (u.out o s)) V5 V5
       refine ⟨⟨⟨⟨rfl,rfl⟩,x3⟩,Z0u.2 (fun o s=> Zyb (u.out o s) (fun hk=> ?_))⟩,?_,?_⟩
       .have hm:=Zh2 (fun o s=> Z0U (u.out o s)) s V1
        unfold Z2 at hm
        omega
       .show Z1D (Ze (ZP l os W0)).out 0 < 1048576
        omega
       .show Z1C (Ze (ZP l os W0)).out 0 < 1048576
        omega
      .have hl:l=0:=by
        apply X4
        intro hl
        exact b (.inr (.inr ⟨k3,.inl hl⟩))
       rw [if_neg k3,Z4,if_neg a,if_neg (by simp [nn,hl]),if_neg k1]
       grind
theorem Z96:∀ (ks:List (KidOf Edit)) (last d:Int),Zs last ks d=true->Zs last (JV ks) d=true
 | [],_,_,_=> rfl
 | k ::r,last,d,h=> by
  simp only [Zs,Q1] at h
  have s:=ZeV k last d h.1
  have b:=Z96 r k.at_ d h.2
  simp only [JV,Zs,Q1]
  exact ⟨s,by rw [ZdT];exact b⟩
theorem ZeV:∀ (k:KidOf Edit) (last d:Int),J5 last k d=true->J5 last (Z32 k) d=true
 | ⟨a,e⟩,last,d,h=> by
  simp only [J5,Q1] at h
  have b:=JA e d h.2
  simp only [Z32,J5,Q1]
  rw [ZdU]
  grind
theorem Zln(list:Int):∀ (os:List (OpOf Edit)) (d:Int) (w:Wst),Zu list os d=true->OkW list d w->OkW list d (ZP list os w)
 | [],_,_,_,hw=> hw
 | o ::r,d,w,h,hw=> by
  simp only [Zu,Q1] at h
  have b:=ZnI list o d w h.1 hw
  exact Zln list r d _ h.2 b
theorem ZnI(list:Int):∀ (o:OpOf Edit) (d:Int) (w:Wst),Zg list o d=true->OkW list d w->OkW list d (Z03 list o w)
 | ⟨k,n,l,e⟩,d,w,h,hw=> Zym (o:=⟨k,n,l,e⟩) hw h (fun b=> JA e d b)
theorem ZeG(list:Int):∀ (os:List (OpOf Edit)) (d:Int) (w:Wst),Zu list os d=true->sA (ZP list os w)=sA w+J2 os/\sB (ZP list os w)=sB w+Yw os
 | [],_,_,_=> by simp [ZP,J2,Yw]
 | o ::r,d,w,h=> by
  simp only [Zu,Q1] at h
  have s:=Zy1 (w:=w) h.1
  have b:=ZeG list r d (Z03 list o w) h.2
  simp only [ZP,J2,Yw]
  omega
end
theorem Z3O:∀ {a b:List Tree},ZR (a++b)↔ZR a/\ZR b
 | [],b=> by simp [ZR]
 | t ::r,b=> by simp only [Qq,ZR];rw [Z3O (a:=r),and_assoc]
mutual
theorem Z2f:∀ (t:Tree),rng t->rng (Z5 t)
 | .mk k w ks,h=> by
  simp only [rng] at h
  obtain ⟨h1,s,u⟩:=h
  have b:=ZdD ks u
  simp only [Z5]
  split
  .trivial
  .split
   .obtain ⟨r1,e1⟩:=ZaI w
    obtain ⟨r2,e2⟩:=Z84 (Y6 ks)
    simp only [rng]
    refine ⟨V5,fun x hx=> s x (by grind),?_⟩
    rw [e2] at b
    exact (Z3O.1 b).1
   trivial
theorem ZdD:∀ (l:List Tree),ZR l->ZR (Y6 l)
 | [],_=> trivial
 | t ::r,h=> by
  simp only [ZR] at h
  have s:=Z2f t h.1
  have b:=ZdD r h.2
  trivial
end
theorem Z5Q:∀ {l:List Tree},ZR l->ZR (Zd l)
 | [],_=> trivial
 | t ::r,h=> by
  simp only [ZR] at h
  have b:=Z5Q h.2
  simp only [Zd] at b
  simp only [Zd,Xc,ZR]
  exact ⟨Z2f t h.1,b⟩
theorem Z2h:rng Tree.nil:=by
 trivial
structure RngW (w:Wst):Prop where
 out:∀ o∈w.out,ZR o.l/\Yh o.e
 gone:ZR w.gone
 brought:ZR w.brought
theorem Z4D:Yh Edit.nil:=by
 simp only [Edit.nil,Yh,Z1Q,Z0H]
 exact ⟨by trivial,Z2h,Z2h,by simp,by trivial,trivial,trivial⟩
theorem Z5O{w:Wst}(h:RngW w):RngW (Ze w):=by
 refine ⟨?_,trivial,trivial⟩
 simp only [Ze,Z0h]
 intro o b
 rcases Qc.1 b with b | b
 .exact h.out o b
 rcases Qc.1 b with b | b
 .split at b
  .cases b
  .simp only [Qh] at b
   subst b
   exact ⟨h.gone,Z4D⟩
 .split at b
  .cases b
  .simp only [Qh] at b
   subst b
   exact ⟨h.brought,Z4D⟩
theorem ZdA{w:Wst}{n:Int}(h:RngW w):RngW (ZU w n):=by
 have hf:=Z5O h
 refine ⟨?_,trivial,trivial⟩
 simp only [ZU]
 intro o b
 rcases Ja (Ze w).out n with e | ⟨a,q,e1,e2,e3⟩
 .rw [e] at b
  rcases Qc.1 b with b | b
  .exact hf.out o b
  .simp only [Qh] at b
   subst b
   exact ⟨trivial,Z4D⟩
 .rw [e3] at b
  rcases Qc.1 b with b | b
  .exact hf.out o (by grind)
  .simp only [Qh] at b
   subst b
   exact hf.out q (by rw [e1];simp)
theorem ZkG{list:Int}{w:Wst}{o:Op}(h:RngW w)(hl:ZR o.l)(he:Yh (Zm o.e)):RngW (Z03 list o w):=by
 rw [Z2p]
 split
 .exact ZdA h
 .split
  .exact ⟨h.out,Z3O.2 ⟨h.gone,Z5Q hl⟩,h.brought⟩
  .split
   .exact ⟨h.out,h.gone,Z3O.2 ⟨h.brought,Z5Q hl⟩⟩
   .split
    .split
     .exact ZdA h
     .refine ⟨?_,trivial,trivial⟩
      intro o b
      rcases Qc.1 b with b | b
      .exact (Z5O h).out o b
      .simp only [Qh] at b
       subst b
       trivial
    .exact h
theorem Z94:∀ {os:List Op},(∀ o∈os,Z0I o)->Z0H os
 | [],_=> trivial
 | o ::r,h=> by
  simp only [Z0H]
  exact ⟨h o (Q5 ..),Z94 (fun x b=> h x (Q4 _ b))⟩
theorem Zhd{list d:Int}{o:Op}(h:Zg list o d=true)(hl:ZR o.l)(he:Yh o.e):Z0I o:=by
 have b:=ZdE h
 obtain ⟨k,n,l,e⟩:=o
 simp only at b hl he
 simp only [Z0I]
 refine ⟨?_,V4,hl,he⟩
 rw [Zg] at h
 unfold InR
 grind
mutual
theorem Z14:∀ (e:Edit) (d:Int),Z4 e d=true->Yh e->Yh (Zm e)
 | .mk k o n w ks l os,d,hr,h=> by
  have s:=ZdF hr
  have b:=ZdF (JA _ _ hr)
  simp only [Edit.kids_mk,Edit.ops_mk,Edit.list_mk] at s
  simp only [Yh] at h
  obtain ⟨h1,h2,h3,h4,u,h6,h7⟩:=h
  have i6:=ZdC ks (d - 1) (fun k hk=> (s.1 k hk).1) h6
  have i7:=ZdB l os (d - 1) s.2 h7 W0 ⟨fun o ho=> (by cases ho),trivial,trivial⟩
  rw [Zm] at b ⊢
  by_cases k1:k=1
  .rw [if_pos k1]
   simp only [Yh]
   exact ⟨h1,Z2f o h2,Z2f n h3,by simp,u,trivial,trivial⟩
  .rw [if_neg k1] at b ⊢
   by_cases k2:k=2
   .rw [if_pos k2]
    trivial
   .rw [if_neg k2] at b ⊢
    by_cases k3:k=3
    .rw [if_pos k3] at b ⊢
     simp only [Yh]
     refine ⟨h1,Z2h,Z2h,by simp,u,trivial,Z94 (fun q hq=> ?_)⟩
     have hx:=b.2 q hq
     have hy:=(Z5O i7).out q hq
     exact Zhd hx hy.1 hy.2
    .rw [if_neg k3]
     simp only [Yh]
     exact ⟨h1,Z2h,Z2h,by simp,u,trivial,trivial⟩
theorem ZdC:∀ (ks:List (KidOf Edit)) (d:Int),(∀ k∈ks,Z4 k.e d=true)->Z1Q ks->Z1Q (JV ks)
 | [],_,_,_=> trivial
 | k ::r,d,hr,h=> by
  simp only [Z1Q] at h
  have u:=ZiS k d (hr k (Q5 ..)) h.1
  have s:=ZdC r d (fun x b=> hr x (Q4 _ b)) h.2
  trivial
theorem ZiS:∀ (k:KidOf Edit) (d:Int),Z4 k.e d=true->Z5P k->Z5P (Z32 k)
 | ⟨a,e⟩,d,hr,h=> by
  simp only [Z5P] at h
  have b:=Z14 e d hr h.2
  simp only [Z32,Z5P]
  grind
theorem ZdB(list:Int):∀ (os:List (OpOf Edit)) (d:Int),(∀ o∈os,Zg list o d=true)->Z0H os->∀ (w:Wst),RngW w->RngW (ZP list os w)
 | [],_,_,_,w,hw=> hw
 | o ::r,d,hr,h,w,hw=> by
  simp only [Z0H] at h
  have b:=Znt list o d (hr o (Q5 ..)) h.1 w hw
  exact ZdB list r d (fun x s=> hr x (Q4 _ s)) h.2 _ b
theorem Znt(list:Int):∀ (o:OpOf Edit) (d:Int),Zg list o d=true->Z0I o->∀ (w:Wst),RngW w->RngW (Z03 list o w)
 | ⟨k,n,l,e⟩,d,hr,h,w,hw=> by
  simp only [Z0I] at h
  by_cases k3:k=3
  .have s:Z4 e d=true:=by
    rw [Zg,Y7,] at hr
    split at hr
    .cases hr
    .grind
   exact ZkG (o:=⟨k,n,l,e⟩) hw h.2.2.1 (Z14 e d s h.2.2.2)
  .have b:Yh (Zm Edit.nil):=by
    show Yh (.mk 0 Tree.nil Tree.nil [] [] 0 [])
    exact Z4D
   have e2:Z03 list ⟨k,n,l,e⟩ w=Z03 list ⟨k,n,l,Edit.nil⟩ w:=by
    simp only [Z03]
    grind
   rw [e2]
   exact ZkG (o:=⟨k,n,l,Edit.nil⟩) hw h.2.2.1 b
end
theorem Zys(t:Tree):t.words.length+Z9 t.kids+1=Zk t:=by obtain ⟨k,w,ks⟩:=t;simp only [Zk,Tree.words_mk,Tree.kids_mk];omega
theorem Ze3:∀ (l:List Tree) (i:Nat) (x:Tree),i < l.length->Z9 (l.set i x)+Zk (l.getD i Tree.nil)=Z9 l+Zk x
 | [],i,x,h=> by simp at h
 | a ::r,0,x,_=> by simp only [List.set_cons_zero,Z9,Qf];omega
 | a ::r,i+1,x,h=> by
  have:=Ze3 r i x (by simpa using h)
  simp only [List.set_cons_succ,Z9,List.getD_cons_succ];omega
theorem Zjx(n:Nat):Z9 (List.replicate n Tree.nil)=n:=by
 induction n with
 | zero=> rfl
 | succ n ih=> rw [List.replicate_succ,Z9,ih];simp [Tree.nil,Zk,Z9];omega
theorem Yf:∀ (a b:List Tree),Z9 (a++b)=Z9 a+Z9 b
 | [],b=> by simp [Z9]
 | t ::r,b=> by simp only [Qq,Z9,Yf r b];omega
theorem ZnW(l:List Tree)(i:Nat)(x:Tree):Z9 (YW Tree.nil l i x)+Zk (l.getD i Tree.nil)<=Z9 l+Zk x+(i+1):=by
 have h:=Ze3 (l++List.replicate (i+1 - l.length) Tree.nil) i x (by simp;omega)
 have e:(l++List.replicate (i+1 - l.length) Tree.nil).getD i Tree.nil=l.getD i Tree.nil:=by
  by_cases hi:i < l.length
  .simp only [QD];rw [Qv hi]
  .simp only [QD]
   rw [Qj V1,Xd (l:=l) V1,List.getElem?_replicate]
   split <;> rfl
 rw [e,Yf,Zjx] at h
 simp only [YW]
 omega
theorem Zki{tw:List Int}:∀ {ws:List WEdit} {last:Int} {out a:List Int},ZL last ws=true->wsD tw ws out=some a->a.length<=max out.length 65535
 | [],_,out,a,_,h=> by rw [wsD] at h;cases h;omega
 | w ::r,last,out,a,hw,h=> by
  have b:=JH hw w Q5
  simp only [ZL,Q1] at hw
  rw [wsD] at h
  split at h
  .have:=Zki hw.2 h
   rw [Zdb] at this
   omega
  .cases h
theorem Z72{last d:Int}{k:Kid}{r:List Kid}(h:Zs last (k ::r) d=true):(last < k.at_/\k.at_<=65534)/\Z4 k.e d=true/\Zs k.at_ r d=true:=by
 have:=ZG h k Q5
 simp only [Zs,Q1] at h
 grind
theorem ZoF{tw:List Int}{ws:List WEdit}{last:Int}{out a:List Int}(hw:ZL last ws=true)(h:wsD tw ws out=some a):a.length<=out.length+65600*ws.length:=by
 cases ws with
 | nil=> rw [wsD] at h;cases h;omega
 | cons w r=>
  have:=Zki hw h
  grind
theorem Zc8(r:Bool)(v:Tree):Zk (nrD r v)<=Zk v:=by
 unfold nrD
 split
 .exact YL v
 omega
mutual
theorem Zcf(r:Bool):∀ (e:Edit) (d:Int) (t v:Tree),Z4 e d=true->Zya r e t=some v->Zk v+18<=Zk t+ctE e
 | .mk k o n w ks l os,d,t,v,hr,hv=> by
  have u:=Zr hr
  have h1:=Ze0 r ks t.kids
  have h2:=ZdZ r l os
  have ht:=Zys t
  have po:=Z1q o
  have pn:=Z1q n
  have pt:=Z1q t
  unfold Zya at hv
  simp only [ctE]
  split at hv
  .grind
  .split at hv
   .split at hv
    .cases hv
     show Zk n+18<=_
     omega
    .cases hv
   .split at hv
    .split at hv
     .obtain ⟨a,ha,h⟩:=QF.1 hv
      obtain ⟨b,h,e⟩:=Qy.1 h
      have l1:=ZoF u.words ha
      simp only [Edit.words_mk] at l1
      have l2:=h1 t.kids b _ (-1) V1 u.kids (fun j _=> rfl) h
      rw [<-e]
      simp only [Zk]
      omega
     .cases hv
    .split at hv
     .split at hv
      .obtain ⟨b,h,e⟩:=Qy.1 hv
       unfold ZcN at h
       obtain ⟨x,hx,s⟩:=QF.1 h
       have l2:=h2 _ t.kids [] x (fun o ho=> Go.AM.rightOs_mem u.ops o ho) hx
       split at s
       .cases s
        rw [<-e]
        simp only [Zk,Qe]
        grind
       .cases s
      .cases hv
     .cases hv
theorem Ze0(r:Bool):∀ (ks:List (KidOf Edit)) (tk out b:List Tree) (d last:Int),-1<=last->Zs last ks d=true->(∀ j:Nat,last < (j:Int)->out.getD j Tree.nil=tk.getD j Tree.nil)->Z4o r tk ks out=some b->Z9 b<=Z9 out+Z26 ks
 | [],tk,out,b,d,last,_,_,_,h=> by rw [Z4o] at h;cases h;simp
 | k ::s,tk,out,b,d,last,hl,hr,hj,h=> by
  obtain ⟨h1,h2,h3⟩:=Z72 hr
  rw [Z4o] at h
  obtain ⟨u,hu,hb⟩:=QF.1 h
  have m1:=Zjv r k tk u d h2 hu
  have m2:=ZnW out k.at_.toNat u
  rw [hj k.at_.toNat V1] at m2
  have m3:=Ze0 r s tk _ b d k.at_ V1 h3 (fun j ab=> by
   rw [Zh5,Y7]
   grind) hb
  have m4:k.at_.toNat+1<=65600:=V1
  have e1:Z26 (k ::s)=65600+ctE k.e+Z26 s:=by obtain ⟨a,e⟩:=k;rfl
  omega
theorem Zjv(r:Bool):∀ (k:KidOf Edit) (tk:List Tree) (u:Tree) (d:Int),Z4 k.e d=true->Zej r tk k=some u->Zk u+18<=Zk (tk.getD k.at_.toNat Tree.nil)+ctE k.e
 | ⟨a,e⟩,tk,u,d,hr,h=> by
  rw [Zej,Zgr] at h
  obtain ⟨v,s,hu⟩:=Qy.1 h
  have:=Zcf r e d (tk.getD a.toNat Tree.nil) v hr s
  have b:=Zc8 r v
  grind
theorem ZdZ(r:Bool)(l:Int):∀ (os:List (OpOf Edit)) (d:Int) (rest out:List Tree) (x:List Tree × List Tree),(∀ o∈os,Zg l o d=true)->Z1E r os rest out=some x->Z9 x.1+Z9 x.2<=Z9 out+Z9 rest+YH os
 | [],d,rest,out,x,_,h=> by rw [Z1E] at h;cases h;simp
 | o ::s,d,rest,out,x,hr,h=> by
  rw [Z1E] at h
  obtain ⟨y,b,u⟩:=QF.1 h
  have m1:=ZnT r l o d rest out y (hr o Q5) b
  have m2:=ZdZ r l s d _ _ x (fun q hq=> hr q (Q4 _ hq)) u
  rw [YH]
  omega
theorem ZnT(r:Bool)(l:Int):∀ (o:OpOf Edit) (d:Int) (rest out:List Tree) (x:List Tree × List Tree),Zg l o d=true->ZjX r o rest out=some x->Z9 x.1+Z9 x.2<=Z9 out+Z9 rest+Z3d o
 | ⟨k,n,L,e⟩,d,rest,out,x,hr,h=> by
  have he:=Zcf r e d (rest.getD 0 Tree.nil)
  rw [ZjX] at h
  simp only [Z3d]
  split at h
  .split at h
   .cases h
    have:=Yf (rest.take n.toNat) (rest.drop n.toNat)
    rw [QO] at this
    dsimp only
    rw [Yf];omega
   .cases h
  .split at h
   .split at h
    .cases h
     have:=Z1s L.length rest
     grind
    .cases h
   .split at h
    .cases h
     dsimp only
     rw [Yf];omega
    .split at h
     .cases h
     .obtain ⟨u,b,e2⟩:=Qy.1 h
      cases e2
      have hk:k=3:=by
       have ra:=JI hr
       generalize ho:OpOf.mk k n L e=o at ra
       cases ra <;> (injection ho with h1;try omega)
      rw [Zgr] at b
      obtain ⟨v,hv,b⟩:=Qy.1 b
      have:=he v (J4 hr hk) hv
      have s:=Zc8 r v
      rw [b] at s
      cases rest with
      | nil=> contradiction
      | cons a q=>
       rw [Yf]
       simp only [Z9,Qw,QU,Qf] at this ⊢
       omega
end
theorem Zlv(r:Bool)(e:Edit)(d:Int)(t u:Tree)(hr:Z4 e d=true)(h:doE r e t=some u):Zk u+18<=Zk t+ctE e:=by
 rw [Zgr] at h
 obtain ⟨v,s,hu⟩:=Qy.1 h
 have:=Zcf r e d t v hr s
 have b:=Zc8 r v
 grind
theorem Zyn{f:Nat->Int}(h:∀ i,0<=f i/\f i < 256):isW (of8 f):=by
 have h0:=h 0;have h1:=h 1;have s:=h 2;have h3:=h 3;have h4:=h 4;have u:=h 5;have b:=h 6;have h7:=h 7
 unfold isW of8
 omega
theorem ZfZ(a b m:Int):isW (mix a b m):=Zyn (Z9n a b m)
theorem Z4C{l:List Tree}(h:∀ t∈l,rng t):ZR l:=by
 induction l with
 | nil=> exact trivial
 | cons a r ih=> exact ⟨h a Q5,ih fun t b=> h t (Q4 _ b)⟩
theorem Z2g:rng Tree.nil:=⟨V5,by simp,trivial⟩
theorem Zbl{α:Type}{z x y:α}{l:List α}{i:Nat}(h:y∈YW z l i x):y∈l\/y=z\/y=x:=by
 rcases List.mem_or_eq_of_mem_set h with h | h
 .rcases Qc.1 h with h | h
  .exact .inl h
  .exact .inr (.inl (List.eq_of_mem_replicate h))
 .exact .inr (.inr h)
theorem ZkF{ks:List Tree}(h:ZR ks)(i:Nat):rng (ks.getD i Tree.nil):=by
 by_cases hi:i < ks.length
 .exact YQ h (Zq hi _)
 .rw [QD,Xd V1]
  exact Z2g
theorem ZoG{tw:List Int}:∀ {ws:List WEdit} {out a:List Int},(∀ x∈out,isW x)->wsD tw ws out=some a->∀ x∈a,isW x
 | [],out,a,h,hw=> by rw [wsD] at hw;grind
 | w ::r,out,a,h,hw=> by
  rw [wsD] at hw
  split at hw
  .refine ZoG (fun x b=> ?_) hw
   rcases Zbl b with b | rfl | rfl
   .exact h x b
   .trivial
   .exact ZfZ _ _ _
  .cases hw
mutual
theorem ZiR(r:Bool):∀ (e:Edit) (t u:Tree),Yh e->rng t->doE r e t=some u->rng u
 | .mk k o n w ks l os,t,u,hr,ht,h=> by
  have h1:=Zh9 r ks
  have h2:=Zh8 r os
  simp only [Yh] at hr
  obtain ⟨r1,r2,r3,r4,r5,r6,r7⟩:=hr
  have aa:InR t.kind/\(∀ x∈t.words,isW x)/\ZR t.kids:=by obtain ⟨k,w,ks⟩:=t;exact ht
  rw [Z8O] at h
  obtain ⟨v,s,hu⟩:=Qy.1 h
  suffices rng v by
   rw [<-hu];unfold nrD
   split
   .exact Z2f v this
   .exact this
  clear h hu
  split at s
  .grind
  .split at s
   .simp_all
   .split at s
    .split at s
     .obtain ⟨a,ha,hb⟩:=QF.1 s
      obtain ⟨b,hb,e⟩:=Qy.1 hb
      rw [<-e]
      exact ⟨V5,ZoG aa.2.1 ha,h1 _ _ _ r6 aa.2.2 aa.2.2 hb⟩
     .cases s
    .split at s
     .split at s
      .obtain ⟨b,hb,e⟩:=Qy.1 s
       unfold ZcN at hb
       obtain ⟨x,hx,hy⟩:=QF.1 hb
       split at hy
       .cases hy
        rw [<-e]
        exact ⟨r5,by simp,(h2 _ [] _ r7 aa.2.2 trivial hx).1⟩
       .cases hy
      .cases s
     .cases s
theorem Zh9(r:Bool):∀ (ks:List (KidOf Edit)) (tk out b:List Tree),Z1Q ks->ZR tk->ZR out->Z4o r tk ks out=some b->ZR b
 | [],tk,out,b,_,_,ho,h=> by rw [Z4o] at h;cases h;exact ho
 | k ::s,tk,out,b,hk,ht,ho,h=> by
  rw [Z4o] at h
  obtain ⟨u,hu,hb⟩:=QF.1 h
  have m1:=Zns r k tk u hk.1 ht hu
  refine Zh9 r s tk _ b hk.2 ht (Z4C fun x hx=> ?_) hb
  rcases Zbl hx with hx | rfl | rfl
  .exact YQ ho hx
  .exact Z2g
  .exact m1
theorem Zns(r:Bool):∀ (k:KidOf Edit) (tk:List Tree) (u:Tree),Z5P k->ZR tk->Zej r tk k=some u->rng u
 | ⟨a,e⟩,tk,u,hr,ht,h=> by
  rw [Zej] at h
  exact ZiR r e _ u hr.2 (ZkF ht _) h
theorem Zh8(r:Bool):∀ (os:List (OpOf Edit)) (rest out:List Tree) (x:List Tree × List Tree),Z0H os->ZR rest->ZR out->Z1E r os rest out=some x->ZR x.1/\ZR x.2
 | [],rest,out,x,_,hr,ho,h=> by rw [Z1E] at h;grind
 | o ::s,rest,out,x,hs,hr,ho,h=> by
  rw [Z1E] at h
  obtain ⟨y,u,hx⟩:=QF.1 h
  have b:=Zpo r o rest out y hs.1 hr ho u
  exact Zh8 r s _ _ x hs.2 b.2 b.1 hx
theorem Zpo(r:Bool):∀ (o:OpOf Edit) (rest out:List Tree) (x:List Tree × List Tree),Z0I o->ZR rest->ZR out->ZjX r o rest out=some x->ZR x.1/\ZR x.2
 | ⟨k,n,L,e⟩,rest,out,x,hs,hr,ho,h=> by
  have he:=ZiR r e (rest.getD 0 Tree.nil)
  simp only [Z0I] at hs
  have hd:∀ n,ZR (rest.drop n):=fun n=> Z4C fun t s=> YQ hr (XV s)
  have b:∀ l,ZR l->ZR (out++l):=fun l hl=> Z3O.2 ⟨ho,hl⟩
  rw [ZjX] at h
  split at h
  .split at h
   .cases h
    exact ⟨b _ (Z4C fun t s=> YQ hr (XU s)),hd _⟩
   .cases h
  .split at h
   .grind
   .split at h
    .grind
    .split at h
     .cases h
     .obtain ⟨u,hu,e2⟩:=Qy.1 h
      cases e2
      exact ⟨b _ ⟨he u hs.2.2.2 (ZkF hr 0) hu,trivial⟩,hd _⟩
end
section
variable {α β:Type} (z:α) (f:β->Option α) (p:β->Int)
def asc(last:Int):List β->Prop
 | []=> True
 | w ::r=> last < p w/\asc (p w) r
variable {z f p} {l0:List α} {ws:List β} {n a i:Int} {out:List α}
theorem Zor{m last:Int}(h:m<=last):∀ {l:List β},asc p last l->asc p m l
 | [],_=> trivial
 | _ ::_,g=> ⟨by have:=g.1;omega,g.2⟩
end
theorem Zdo:∀ {ws:List WEdit} {last:Int},ZL last ws=true->asc WEdit.at_ last ws
 | [],_,_=> trivial
 | w ::r,last,h=> by
  have b:=JH h w Q5
  simp only [ZL,Q1] at h
  exact ⟨b.1,Zdo h.2⟩
theorem Zi5:∀ {ks:List Kid} {last d:Int},Zs last ks d=true->asc KidOf.at_ last ks
 | [],_,_,_=> trivial
 | k ::r,last,d,h=> by
  obtain ⟨b,_,s⟩:=Z72 h
  exact ⟨b.1,Zi5 s⟩
end Go.AM.YtpjenobkibfpcaaGreat
namespace Go.AM.YtpjenobkibfpcaaGreat
open Go.AM Go.Proofs
theorem Zud{f g:Nat->Int}(hf:∀ i,0<=f i/\f i < 256)(hg:∀ i,0<=g i/\g i < 256)(h:of8 f=of8 g):∀ i,i < 8->f i=g i:=by
 unfold of8 at h
 grind
theorem ZnK{a:Int}(h:isW a):of8 (Jr a)=a:=by
 obtain ⟨s,b⟩:=h
 simp only [of8,Jr]
 omega
theorem ZqD{a b m:Int}{i:Nat}(h:i < 8):Jr (mix a b m) i=Z5H a b m i:=
 Zud (fun i=> Z3g _ i) (Z9n a b m) (by rw [ZnK (ZfZ a b m)];rfl) i h
section
variable {α β:Type} {z:α} {f:β->Option α} {p:β->Int}
end
end Go.AM.YtpjenobkibfpcaaGreat
namespace Go.AM.YtpjenobkibfpcaaGreat
open Go.AM Go.Proofs
theorem Z9q:∀ {ks:List Kid} {k:Kid},k∈ks->Z8 k.e<=ZV ks
 | ⟨_,_⟩ ::r,k,h=> by
  rcases Q8.1 h with rfl | h
  .simp only [ZV,Z0n];omega
  .have:=Z9q h;simp only [ZV];omega
theorem Z9p:∀ {os:List Op} {o:Op},o∈os->Zx o<=Zj os
 | a ::r,o,h=> by
  rcases Q8.1 h with rfl | h
  .simp only [Zj];omega
  .have:=Z9p h;simp only [Zj];omega
theorem ZnV(o:Op):Z8 o.e<=Zx o:=by obtain ⟨k,n,l,e⟩:=o;simp only [Zx];omega
theorem YC{e:Edit}{k:Kid}(h:k∈e.kids):Z8 k.e < Z8 e:=by
 obtain ⟨b,o,n,w,ks,l,os⟩:=e
 have:=Z9q (ks:=ks) h
 simp only [Z8];omega
theorem Jv{e:Edit}{o:Op}(h:o∈e.ops):Z8 o.e < Z8 e:=by
 obtain ⟨b,s,n,w,ks,l,os⟩:=e
 have:=Z9p (os:=os) h
 have:=ZnV o
 simp only [Z8];omega
mutual
theorem Z4E:∀ (t:Tree) (d m:Int),m < 0->Zi t d=true->Zi t m=true
 | .mk k w ks,d,m,hm,h=> by
  rw [Zi] at h ⊢
  by_cases h0:k=0
  .grind
  .rw [if_neg h0] at h ⊢
   by_cases h1:k=10
   .grind
   .rw [if_neg h1] at h ⊢
    by_cases h2:d=0
    .grind
    .rw [if_neg h2] at h
     rw [Y7]
     by_cases h3:k=1
     .rw [if_pos h3,Q1] at h ⊢
      exact ⟨h.1,Z5S 1 ks (d - 1) (m - 1) V1 h.2⟩
     .rw [if_neg h3,Q1] at h ⊢
      exact ⟨h.1,Z5S k ks (d - 1) (m - 1) V1 h.2⟩
theorem Z5S(list:Int):∀ (ks:List Tree) (d m:Int),m < 0->Yy list ks d=true->Yy list ks m=true
 | [],_,_,_,_=> rfl
 | t ::r,d,m,hm,h=> by
  simp only [Yy,Q1] at h ⊢
  exact ⟨⟨h.1.1,Z4E t d m hm h.1.2⟩,Z5S list r d m hm h.2⟩
end
theorem Z0p{D list:Int}:∀ {l:List Tree},Y0 D list l=true->∀ t∈l,Zi (.mk list [] [t]) D=true
 | a ::r,h,t,ht=> by
  simp only [Y0,Q1] at h
  rcases Q8.1 ht with rfl | ht
  .exact h.1
  .exact Z0p h.2 t ht
inductive Run:List Op->List Tree->List Tree->Prop
 | nil:Run [] [] []
 | keep {o r a s d}:o.kind=0->(a.length:Int)=o.n->Run r s d->Run (o ::r) (a++s) (a++d)
 | gone {o r a s d}:o.kind=1->Zd o.l=Zd a->Run r s d->Run (o ::r) (a++s) d
 | come {o r s d}:o.kind=2->Run r s d->Run (o ::r) s (o.l++d)
 | into {o r x y s d}:o.kind=3->doE false o.e x=some y->Run r s d->Run (o ::r) (x ::s) (y ::d)
def kOk(o:Op):Prop:=(o.kind=0/\0<=o.n)\/o.kind=1\/o.kind=2\/o.kind=3
theorem Zjp{list d:Int}{os:List Op}(h:Zu list os d=true):∀ o∈os,ZO o:=fun o b=> Zbp (rightOs_mem h b)
end Go.AM.YtpjenobkibfpcaaGreat
namespace Go.AM
def Z01(m:Nat):Nat->Nat
 | 0=> 0
 | i+1=> Z01 m i+if m / 2 ^ i % 2=1 then 255*2 ^ (8*i) else 0
def Zd9:Nat->Nat->Nat
 | 0,_=> 0
 | k+1,m=> (if m % 2=1 then 255 else 0)+256*Zd9 k (m / 2)
def Z9f:Nat->Nat->Nat->Nat
 | 0,_,_=> 0
 | k+1,a,m=> (if m % 2=1 then a % 256 else 0)+256*Z9f k (a / 256) (m / 2)
def ZhN:Nat->Nat->Nat->Nat->Nat
 | 0,_,_,_=> 0
 | k+1,a,b,m=> (if m % 2=1 then b % 256 else a % 256)+256*ZhN k (a / 256) (b / 256) (m / 2)
theorem Zou(x y u v:Nat)(hu:u < 256)(hv:v < 256):(u+256*x) &&& (v+256*y)=(u &&& v)+256*(x &&& y):=by
 have h:u &&& v < 256:=Nat.and_lt_two_pow (n:=8) u hv
 apply Nat.eq_of_testBit_eq
 intro j
 rw [Xv u,Xv v,Xv (u &&& v),Nat.testBit_and]
 rw [show (256:Nat)=2 ^ 8 from rfl,QV _ hu,QV _ hv,QV _ h]
 grind
theorem Zqp(x y u v:Nat)(hu:u < 256)(hv:v < 256):(u+256*x) ||| (v+256*y)=(u ||| v)+256*(x ||| y):=by
 have h:u ||| v < 256:=Nat.or_lt_two_pow (n:=8) hu hv
 apply Nat.eq_of_testBit_eq
 intro j
 rw [Xv u,Xv v,Xv (u ||| v),Nat.testBit_or]
 rw [show (256:Nat)=2 ^ 8 from rfl,QV _ hu,QV _ hv,QV _ h]
 grind
theorem Zd6:∀ (k a m:Nat),a &&& Zd9 k m=Z9f k a m
 | 0,a,m=> by simp [Zd9,Z9f]
 | k+1,a,m=> by
  have e:a=a % 256+256*(a / 256):=V1
  simp only [Zd9,Z9f]
  rw [<-Zd6 k (a / 256) (m / 2)]
  have h:a &&& ((if m % 2=1 then 255 else 0)+256*Zd9 k (m / 2))=(a % 256+256*(a / 256)) &&& ((if m % 2=1 then 255 else 0)+256*Zd9 k (m / 2)):=by rw [<-e]
  rw [h,Zou _ _ _ _ V1 (by grind)]
  congr 1
  split
  .have:=Nat.and_two_pow_sub_one_eq_mod (a % 256) 8
   grind
  .simp
theorem Zlk:∀ (k a b m n:Nat),(∀ i < k,m / 2 ^ i % 2+n / 2 ^ i % 2=1)->Z9f k a n ||| Z9f k b m=ZhN k a b m
 | 0,a,b,m,n,_=> by simp [Z9f,ZhN]
 | k+1,a,b,m,n,h=> by
  simp only [Z9f,ZhN]
  have s:=h 0 V1
  simp only [Nat.pow_zero,Nat.div_one] at s
  rw [Zqp _ _ _ _ (by grind) (by grind),Zlk k (a / 256) (b / 256) (m / 2) (n / 2) (fun i u=> by
   have:=h (i+1) V1
   rw [Xf,Xf]
   grind)]
  grind
theorem Zkj:∀ m:Fin 256,Z01 m.1 8=Zd9 8 m.1:=by decide+kernel
theorem ZoI:∀ m:Fin 256,2 ^ 64 - 1 - Zd9 8 m.1=Zd9 8 (255 - m.1):=by decide+kernel
theorem ZsO:∀ m:Fin 256,∀ i:Fin 8,m.1 / 2 ^ i.1 % 2+(255 - m.1) / 2 ^ i.1 % 2=1:=by decide+kernel
theorem ZtD:∀ m:Fin 256,Zd9 8 m.1 < 2 ^ 64:=by decide+kernel
theorem ZqE(a b m:Nat)(hm:m < 256):(a &&& (2 ^ 64 - 1 - Z01 m 8)) ||| (b &&& Z01 m 8)=ZhN 8 a b m:=by
 have s:=Zkj ⟨m,hm⟩
 have h:=ZoI ⟨m,hm⟩
 simp only at s h
 rw [s,h,Zd6,Zd6]
 exact Zlk 8 a b m (255 - m) (fun i u=> ZsO ⟨m,hm⟩ ⟨i,u⟩)
def ofK:Nat->(Nat->Nat)->Nat
 | 0,_=> 0
 | k+1,f=> f 0+256*ofK k (fun i=> f (i+1))
theorem ZdS:∀ (k:Nat) {f g:Nat->Nat},(∀ i,f i=g i)->ofK k f=ofK k g
 | 0,_,_,_=> rfl
 | k+1,f,g,h=> by simp only [ofK,h 0,ZdS k (fun i=> h (i+1))]
theorem Zlt:∀ (k a b m:Nat),ZhN k a b m=ofK k (fun i=> if m / 2 ^ i % 2=1 then b / 256 ^ i % 256 else a / 256 ^ i % 256)
 | 0,_,_,_=> rfl
 | k+1,a,b,m=> by
  simp only [ZhN,ofK,Nat.pow_zero,Nat.div_one]
  rw [Zlt k,ZdS k (g:=fun i=> if m / 2 ^ (i+1) % 2=1 then b / 256 ^ (i+1) % 256 else a / 256 ^ (i+1) % 256) (fun i=> ?_)]
  rw [Xf,Xf,Xf,Nat.pow_succ',Nat.pow_succ']
theorem ZqF(a b m:Nat):((ZhN 8 a b m:Nat):Int)=mix a b m:=by
 have nm:∀ i:Nat,Z5G (m:Int) (i:Int)=decide (m / 2 ^ i % 2=1):=by
  intro i
  unfold Z5G
  rw [decide_eq_decide,X9]
  have:((m:Int) / 2 ^ i % 2:Int)=((m / 2 ^ i % 2:Nat):Int):=by rw [Int.natCast_emod,Int.natCast_ediv,Int.natCast_pow];try rfl
  rw [this];omega
 have s:∀ (x i:Nat),Jr (x:Int) i=((x / 256 ^ i % 256:Nat):Int):=by
  intro x i
  unfold Jr
  rw [Int.natCast_emod,Int.natCast_ediv,Int.natCast_pow]
  try rfl
 have mx:∀ i:Nat,Z5H (a:Int) (b:Int) (m:Int) i=((if m / 2 ^ i % 2=1 then b / 256 ^ i % 256 else a / 256 ^ i % 256:Nat):Int):=by
  intro i
  unfold Z5H
  rw [nm,s,s]
  by_cases h:m / 2 ^ i % 2=1
  .grind
  .grind
 rw [Zlt]
 generalize hf:(fun i=> if m / 2 ^ i % 2=1 then b / 256 ^ i % 256 else a / 256 ^ i % 256)=f
 have u:∀ i,Z5H (a:Int) (b:Int) (m:Int) i=(f i:Int):=by intro i;rw [mx,<-hf]
 have e:ofK 8 f=f 0+256*(f 1+256*(f 2+256*(f 3+256*(f 4+256*(f 5+256*(f 6+256*(f 7+256*0))))))):=rfl
 rw [e]
 simp only [mix,of8,u]
 omega
def Z0k(list:Int)(e:Edit):Bool:=
 if (2<=list/\list<=7)\/e.kind=0 then false else if list=8\/e.kind=2 then true else decide (e.kind=1/\e.old.kind=1/\e.new.kind=1)
end Go.AM
namespace Go.AM
def Z3r(a b:Int):Int:=IntKind.wrap .u8 (BitVec.ofInt (IntKind.bits .u8) a &&& BitVec.ofInt (IntKind.bits .u8) b).toNat
noncomputable def doB(e:Edit)(t:Tree):Tree × Bool:=(Z0x ((doE false e t).map Z5),(doE false e t).isSome)
noncomputable def Z8N(a b:List Tree):Bool:=eqX (Zd a) (Zd b)
noncomputable def ZDB(f:Edit->Edit->Edit × Bool)(p q:AUnit):List Op × Bool:=
 if q.kind=0 then ([opU p],true)
 else if p.kind=0 then ([opU q],true)
 else if p.kind=2/\q.kind=1 then ([],ZW (Z5 p.t) (Z5 q.t))
 else if p.kind=2 then ([⟨2,0,[Z0x (doE true q.e p.t)],Edit.nil⟩],(doE true q.e p.t).isSome)
 else if q.kind=1 then ([⟨1,0,[Z0x (doE true (Zm (Zkl p.e)) q.t)],Edit.nil⟩],(doE true (Zm (Zkl p.e)) q.t).isSome)
 else ([⟨3,0,[],(f p.e q.e).1⟩],(f p.e q.e).2)
def Yr(e:Edit):Prop:=ctE e<=9000000000/\Yh e/\∃ d,Z4 e d=true
def ZtV(l:List Op):Prop:=YH l<=9000000000/\Z0H l/\∀ o∈l,∃ list d,Zg list o d=true
def ZeN(o:Op):Prop:=ZO o/\Z3d o<=9000000000/\Z0I o/\(o.kind=3->∃ d,Z4 o.e d=true)
end Go.AM
namespace Go.AM.YtpjenobkibfpcaaGreat
open Go.AM Go.Proofs
theorem Z1h{o:Op}{r:List Op}{s d:List Tree}(h0:o.kind=0):Run (o ::r) s d↔∃ a b d',s=a++b/\d=a++d'/\(a.length:Int)=o.n/\Run r b d':=by
 constructor
 .intro h
  cases h with
  | keep _ u h3=> grind
  | gone h1=> omega
  | come h1=> omega
  | into h1=> omega
 .rintro ⟨a,b,d',rfl,rfl,u,h3⟩
  exact .keep h0 u h3
theorem Z1i{o:Op}{r:List Op}{s d:List Tree}(h0:o.kind=1):Run (o ::r) s d↔∃ a b,s=a++b/\Zd o.l=Zd a/\Run r b d:=by
 constructor
 .intro h
  cases h with
  | gone _ u h3=> grind
  | keep h1=> omega
  | come h1=> omega
  | into h1=> omega
 .rintro ⟨a,b,rfl,u,h3⟩
  exact .gone h0 u h3
theorem Z0t{o:Op}{r:List Op}{s d:List Tree}(h0:o.kind=2):Run (o ::r) s d↔∃ d',d=o.l++d'/\Run r s d':=by
 constructor
 .intro h
  cases h with
  | come _ b=> grind
  | keep h1=> omega
  | gone h1=> omega
  | into h1=> omega
 .rintro ⟨d',rfl,b⟩
  exact .come h0 b
theorem Zbn{o:Op}{r:List Op}{s d:List Tree}(h0:o.kind=3):Run (o ::r) s d↔∃ x b y d',s=x ::b/\d=y ::d'/\doE false o.e x=some y/\Run r b d':=by
 constructor
 .intro h
  cases h with
  | into _ u h3=> grind
  | keep h1=> omega
  | gone h1=> omega
  | come h1=> omega
 .rintro ⟨x,b,y,d',rfl,rfl,u,h3⟩
  exact .into h0 u h3
theorem Z4B{o:Op}{p r:List Op}(h:∀ s d,Run p s d↔Run r s d)(hk:kOk o)(s d:List Tree):Run (o ::p) s d↔Run (o ::r) s d:=by
 rcases hk with h0 | h1 | h2 | h3
 .rw [Z1h h0.1,Z1h h0.1];simp only [h]
 .rw [Z1i h1,Z1i h1];simp only [h]
 .rw [Z0t h2,Z0t h2];simp only [h]
 .rw [Zbn h3,Zbn h3];simp only [h]
theorem JT{o:Op}(h:ZO o):kOk o:=by
 rcases h with h | h | h
 .exact .inl ⟨h.1,V1⟩
 .rcases h.1 with h1 | h1
  .exact .inr (.inl h1)
  .exact .inr (.inr (.inl h1))
 .exact .inr (.inr (.inr h.1))
theorem ZfU{o:Op}(h:ZO o)(h0:o.kind=0):Z2 o=o.n:=by
 rcases h with h | h | h
 .unfold Z2;rw [Y7,h.2.1];simp
 .omega
 .omega
theorem Z2o{o:Op}(h:ZO o)(h0:o.kind=1\/o.kind=2):Z2 o=o.l.length:=by
 rcases h with h | h | h
 .omega
 .unfold Z2;omega
 .omega
theorem Z1S{o:Op}(h0:o.kind=3):Z2 o=1:=by unfold Z2;rw [if_pos h0]
theorem ZeR{o:Op}{r:List Op}{m d:List Tree}(ho:ZO o)(hk:o.kind≠2)(h:Run (o ::r) m d):∃ m1 m' d',m=m1++m'/\(m1.length:Int)=Z2 o/\Run r m' d':=by
 rcases JT ho with h0 | h1 | h2 | h3
 .obtain ⟨a,b,d',rfl,_,hl,s⟩:=(Z1h h0.1).1 h
  exact ⟨a,b,d',rfl,by rw [ZfU ho h0.1];exact hl,s⟩
 .obtain ⟨a,b,rfl,u,s⟩:=(Z1i h1).1 h
  exact ⟨a,b,d,rfl,by rw [Z2o ho (.inl h1),ZdV u],s⟩
 .omega
 .obtain ⟨x,b,y,d',rfl,_,_,s⟩:=(Zbn h3).1 h
  exact ⟨[x],b,d',rfl,by rw [Z1S h3];rfl,s⟩
theorem Znr{o:Op}{r:List Op}{n:Int}(ho:ZO o)(h1:1<=n)(hn:¬Z2 o<=n)(s d:List Tree):Run (o ::r) s d↔Run (Zo o n ::Yo o n ::r) s d:=by
 unfold Zo Yo
 rw [if_neg hn]
 rcases JT ho with h0 | hg | hc | hi
 .have hl:=ZfU ho h0.1
  rw [if_pos h0.1,if_pos h0.1,Z1h h0.1,Z1h (o:=⟨o.kind,n,o.l,o.e⟩) h0.1]
  constructor
  .rintro ⟨a,s',d',rfl,rfl,ha,h⟩
   refine ⟨a.take n.toNat,a.drop n.toNat++s',a.drop n.toNat++d',by rw [<-Ql,QO],by rw [<-Ql,QO],by grind,?_⟩
   exact (Z1h (o:=⟨o.kind,o.n - n,o.l,o.e⟩) h0.1).2 ⟨a.drop n.toNat,s',d',rfl,rfl,by grind,h⟩
  .rintro ⟨a,s',d',rfl,rfl,ha,h⟩
   obtain ⟨b,s2,d2,rfl,rfl,hb,u⟩:=(Z1h (o:=⟨o.kind,o.n - n,o.l,o.e⟩) h0.1).1 h
   grind
 .have hl:=Z2o ho (.inl hg)
  rw [Y7,Y7,Z1i hg,Z1i (o:=⟨o.kind,o.n,o.l.take n.toNat,o.e⟩) hg]
  constructor
  .rintro ⟨a,s',rfl,ha,h⟩
   have aj:=ZdV ha
   refine ⟨a.take n.toNat,a.drop n.toNat++s',by rw [<-Ql,QO],EqvL.take ha _,?_⟩
   exact (Z1i (o:=⟨o.kind,o.n,o.l.drop n.toNat,o.e⟩) hg).2 ⟨a.drop n.toNat,s',rfl,EqvL.drop ha _,h⟩
  .rintro ⟨a,s',rfl,ha,h⟩
   obtain ⟨b,s2,rfl,hb,u⟩:=(Z1i (o:=⟨o.kind,o.n,o.l.drop n.toNat,o.e⟩) hg).1 h
   refine ⟨a++b,s2,by grind,?_,u⟩
   have:=ZnM ha hb
   simp_all
 .rw [Y7,Y7,Z0t hc,Z0t (o:=⟨o.kind,o.n,o.l.take n.toNat,o.e⟩) hc]
  constructor
  .rintro ⟨d',rfl,h⟩
   refine ⟨o.l.drop n.toNat++d',by rw [<-Ql,QO],?_⟩
   exact (Z0t (o:=⟨o.kind,o.n,o.l.drop n.toNat,o.e⟩) hc).2 ⟨d',rfl,h⟩
  .rintro ⟨d',rfl,h⟩
   obtain ⟨d2,rfl,u⟩:=(Z0t (o:=⟨o.kind,o.n,o.l.drop n.toNat,o.e⟩) hc).1 h
   exact ⟨d2,by rw [<-Ql,QO],u⟩
 .rw [Z1S hi] at hn
  omega
def Z5A:List Piece->List Op
 | []=> []
 | x ::r=> (if x.of=2 then [] else [x.p])++Z5A r
def Z5z:List Piece->List Op
 | []=> []
 | x ::r=> (if x.of=1 then [] else [x.q])++Z5z r
def Part(l:List Op)(o:Op):Prop:=∃ o'∈l,o.kind=o'.kind/\o.e=o'.e/\Zx o<=Zx o'/\∀ t∈o.l,t∈o'.l
theorem Part.mono{l l':List Op}{o:Op}(h:Part l o)(hl:∀ x∈l,Part l' x):Part l' o:=by
 obtain ⟨o',h1,s,h3,u,h4⟩:=h
 obtain ⟨o2,g1,g2,b,g5,g4⟩:=hl o' h1
 exact ⟨o2,g1,s.trans g2,h3.trans b,X3 u g5,fun t ht=> g4 t (h4 t ht)⟩
theorem Part.self{l:List Op}{o:Op}(h:o∈l):Part l o:=⟨o,h,rfl,rfl,Qb _,fun _ h=> h⟩
theorem Z6r{o:Op}{r:List Op}{n:Int}(h:∀ x∈o ::r,ZO x)(h1:1<=n)(hn:n<=Z2 o):
  ZO (Zo o n)/\Z2 (Zo o n)=n/\(Zo o n).kind=o.kind/\Part (o ::r) (Zo o n)/\(∀ x∈Zv (o ::r) n,ZO x/\Part (o ::r) x)/\∀ s d,Run (o ::r) s d↔Run (Zo o n ::Zv (o ::r) n) s d:=by
 have ho:=h o Q5
 have hr:∀ x∈r,ZO x/\Part (o ::r) x:=fun x u=> ⟨h x (Q4 _ u),Part.self (Q4 _ u)⟩
 unfold Zv
 simp only [Qf,Qw,QU]
 by_cases hl:Z2 o<=n
 .rw [if_pos hl]
  have e:Zo o n=o:=by unfold Zo;rw [if_pos hl]
  rw [e]
  exact ⟨ho,V1,rfl,Part.self Q5,hr,fun s d=> XQ⟩
 .rw [if_neg hl]
  obtain ⟨_,v2,v3,v4⟩:=ZaG (a:=1) ho h1 hl
  obtain ⟨b1,b2⟩:=Z7Y ho h1 hl
  refine ⟨v2,v3,J1 o n,?_,?_,Znr ho h1 hl⟩
  .refine ⟨o,Q5,J1 o n,?_,v4,?_⟩
   .unfold Zo;split;rfl;split <;> rfl
   .intro t b
    unfold Zo at b
    split at b
    .exact b
    .split at b
     .exact b
     .exact XU b
  .intro x u
   rcases Q8.1 u with rfl | u
   .refine ⟨b1,o,Q5,?_,?_,b2,?_⟩
    .unfold Yo;split <;> rfl
    .unfold Yo;split <;> rfl
    .intro t b
     unfold Yo at b
     split at b
     .exact b
     .exact XV b
   .exact hr x u
theorem ZkD{d:List Tree}{s:List Tree}(h:Run [] s d):s=[]/\d=[]:=by cases h;grind
theorem Zci(m:Int)(h0:0<=m)(h1:m < 256)(i:Nat):Z5G m (i:Int)=(BitVec.ofInt 8 m).toNat.testBit i:=by
 obtain ⟨n,rfl⟩:=QP h0
 have e:(BitVec.ofInt 8 ((n:Nat):Int)).toNat=n:=by simp;omega
 rw [e,Nat.testBit_eq_decide_div_mod_eq]
 unfold Z5G
 grind
theorem ZgK{a b:Int}(ha:0<=a/\a < 256)(hb:0<=b/\b < 256):(0<=Z3r a b/\Z3r a b < 256)/\∀ i:Nat,Z5G (Z3r a b) (i:Int)=(Z5G a (i:Int) && Z5G b (i:Int)):=by
 have h:(BitVec.ofInt 8 a &&& BitVec.ofInt 8 b).toNat < 256:=(BitVec.ofInt 8 a &&& BitVec.ofInt 8 b).isLt
 have e:Z3r a b=((BitVec.ofInt 8 a &&& BitVec.ofInt 8 b).toNat:Int):=by
  show IntKind.wrap .u8 ((BitVec.ofInt 8 a &&& BitVec.ofInt 8 b).toNat:Int)=_
  exact ZeA V1 V1
 refine ⟨by rw [e];omega,fun i=> ?_⟩
 rw [Zci _ (by rw [e];omega) (by rw [e];omega),e,Zci a ha.1 ha.2,Zci b hb.1 hb.2]
 grind
theorem Zxi(i:Nat):Jr 0 i=0:=by unfold Jr;simp
theorem Zyr{a b m:Int}{i:Nat}(hi:i < 8):Jr (mix a b m) i=if Z5G m i=true then Jr b i else Jr a i:=by rw [ZqD hi];try rfl
theorem Jz{e:Edit}{d:Int}(h:Z4 e d=true):∀ o∈e.ops,ZO o:=Zjp (Zr h).ops
theorem ZCw{e:Edit}(h:e.kind=1)(t:Tree):doE false e t=if ZW (Z5 e.old) (Z5 t)=true then some e.new else none:=by rw [Z8O,Z4M,Y7,if_pos h]
theorem ZDD{e:Edit}(h:e.kind=2)(t:Tree):doE false e t=if t.kind=1 then (wsD t.words e.words t.words).bind fun a=> (Z4o false t.kids e.kids t.kids).map fun b=> .mk 1 a b else none:=by
 rw [Z8O,Z4M,Y7,Y7,if_pos h]
theorem Zxf(w:List WEdit)(ks:List Kid)(t:Tree):doE false (.mk 2 Tree.nil Tree.nil w ks 0 []) t=if t.kind=1 then (wsD t.words w t.words).bind fun a=> (Z4o false t.kids ks t.kids).map fun b=> .mk 1 a b else none:=ZDD rfl t
theorem Yg{e:Edit}(h:Yh e):rng e.old/\rng e.new/\(∀ x∈e.words,ZeS x)/\Z1Q e.kids/\Z0H e.ops:=by
 obtain ⟨k,o,n,w,ks,l,os⟩:=e
 exact ⟨h.2.1,h.2.2.1,h.2.2.2.1,h.2.2.2.2.2.1,h.2.2.2.2.2.2⟩
noncomputable def rp(f:Edit->Edit->Edit × Bool)(x:APair):List Op × Bool:=
 if x.of=1 then ([opU x.p],true) else if x.of=2 then ([opU x.q],true) else ZDB f x.p x.q
structure Alike (c r:Edit × Bool):Prop where
 ok:c.2=r.2
 nrm:c.2=true->Zm c.1=Zm r.1
section
variable {g:Edit->Edit->Edit × Bool}
end
theorem Zyo(w:List WEdit)(a:List Kid):Zm (.mk 2 Tree.nil Tree.nil w a 0 [])= .mk 2 Tree.nil Tree.nil w (JV a) 0 []:=by rfl
end Go.AM.YtpjenobkibfpcaaGreat
namespace Go.AM.YtpjenobkibfpcaaGreat
open Go.AM Go.Proofs
theorem Zsu(e:Edit):18<=ctE e:=by
 have:=Z4q e
 have:=Z1q e.old
 have:=Z1q e.new
 omega
theorem Z2B:∀ (a b:List Op),YH (a++b)=YH a+YH b
 | [],b=> by simp [YH]
 | o ::r,b=> by simp only [Qq,YH,Z2B r b];omega
def ctW(w:Wst):Nat:=YH w.out+(Z9 w.gone+if w.gone.length=0 then 0 else 34)+(Z9 w.brought+if w.brought.length=0 then 0 else 34)
theorem Z8P:ctE Edit.nil=18:=rfl
theorem ZcQ(w:Wst):YH (Ze w).out=ctW w:=by
 simp only [Ze,Z0h,ctW,Z2B]
 by_cases h1:w.gone.length=0
 .rw [if_pos h1,if_pos h1,Q3 h1]
  by_cases h2:w.brought.length=0
  .rw [if_pos h2,if_pos h2,Q3 h2];try rfl
  .rw [if_neg h2,if_neg h2];simp only [YH,Z3d,Z8P,Z9];omega
 .rw [if_neg h1,if_neg h1]
  by_cases h2:w.brought.length=0
  .rw [if_pos h2,if_pos h2,Q3 h2];simp only [YH,Z3d,Z8P,Z9];omega
  .rw [if_neg h2,if_neg h2];simp only [YH,Z3d,Z8P];omega
theorem Zmu(w:Wst)(n:Int):ctW (ZU w n)<=ctW w+34:=by
 have h:=ZcQ w
 have e:ctW (ZU w n)=YH (Z0L (Ze w).out n):=rfl
 rw [e,<-h]
 rcases Ja (Ze w).out n with e | ⟨a,q,e1,_,e3⟩
 .rw [e,Z2B];simp only [YH,Z3d,Z8P,Z9];omega
 .rw [e3,e1,Z2B,Z2B];simp only [YH,Z3d,Z1W];omega
mutual
theorem ZjY:∀ (e:Edit),ctE (Zm e)<=ctE e
 | .mk k o n w ks l os=> by
  have h1:=Zil ks
  have h:=Zik l os ⟨[],[],[]⟩
  have s:=YL o
  have u:=YL n
  have:=Z1q o
  have:=Z1q n
  have hf:=ZcQ (ZP l os ⟨[],[],[]⟩)
  have b:ctW ⟨[],[],[]⟩=0:=rfl
  rw [Zm]
  split
  .simp only [ctE,Z26,YH,Qe];omega
  .split
   .simp only [ctE,YH,Z18];omega
   .split
    .simp only [ctE,Z26,Z18,Qe];omega
    .simp only [ctE,Z26,YH,Z18,Qe];omega
theorem Zil:∀ (ks:List (KidOf Edit)),Z26 (JV ks)<=Z26 ks
 | []=> Qb _
 | k ::r=> by
  have h:=Zoe k
  have b:=Zil r
  simp only [JV,Z26]
  omega
theorem Zoe:∀ (k:KidOf Edit),Z7V (Z32 k)<=Z7V k
 | ⟨a,e⟩=> by
  have:=ZjY e
  simp only [Z32,Z7V]
  omega
theorem Zik(list:Int):∀ (os:List (OpOf Edit)) (w:Wst),ctW (ZP list os w)<=ctW w+YH os
 | [],w=> Qb _
 | o ::r,w=> by
  have h:=Zst list o w
  have b:=Zik list r (Z03 list o w)
  simp only [ZP,YH]
  omega
theorem Zst(list:Int):∀ (o:OpOf Edit) (w:Wst),ctW (Z03 list o w)<=ctW w+Z3d o
 | ⟨k,n,l,e⟩,w=> by
  have s:=ZjY e
  have h:=Zsu e
  have hl:=Z48 l
  have hc:=fun a b=> Yf a b
  rw [Z03]
  simp only [Z3d]
  split
  .have:=Zmu w n;omega
  .split
   .have:=Yf w.gone (Zd l)
    simp only [ctW]
    grind
   .split
    .have:=Yf w.brought (Zd l)
     simp only [ctW]
     grind
    .split
     .split
      .have:=Zmu w 1;omega
      .have hf:=ZcQ w
       show YH ((Ze w).out++[⟨3,0,[],Zm e⟩])+_+_<=_
       rw [Z2B,hf]
       simp only [YH,Z3d,Z9,Qe,if_pos]
       omega
     .omega
end
def Yp(φ:Op->Int):List Op->Int
 | []=> 0
 | o ::r=> φ o+Yp φ r
theorem ZaT(φ:Op->Int):∀ a b:List Op,Yp φ (a++b)=Yp φ a+Yp φ b
 | [],b=> by simp [Yp]
 | o ::r,b=> by simp only [Qq,Yp,ZaT φ r b];omega
def ZoB(φ:Op->Int):Prop:=∀ o n,ZO o->1<=n->¬Z2 o<=n->φ (Zo o n)+φ (Yo o n)=φ o
theorem Z3v{φ:Op->Int}(hφ:ZoB φ){p:List Op}{n:Int}(hp:∀ o∈p,ZO o)(hl:p.length≠0)(h1:1<=n):φ (Zo (p.getD 0 Op.nil) n)+Yp φ (Zv p n)=Yp φ p/\∀ o∈Zv p n,ZO o:=by
 cases p with
 | nil=> grind
 | cons o r=>
  have s:=hp o Q5
  unfold Zv
  simp only [Qf,Qw,QU]
  by_cases h:Z2 o<=n
  .rw [if_pos h]
   have e:Zo o n=o:=by unfold Zo;rw [if_pos h]
   rw [e]
   exact ⟨rfl,fun x b=> hp x (Q4 _ b)⟩
  .rw [if_neg h]
   refine ⟨by simp only [Yp];have:=hφ o n s h1 h;omega,fun x b=> ?_⟩
   rcases Q8.1 b with rfl | b
   .exact (Z7Y s h1 h).1
   grind
theorem Zqk{φ ψ:Op->Int}(hφ:ZoB φ)(hψ:ZoB ψ)(a:Int):∀ (k:Nat) (p q:List Op) (out:List Piece),p.length+q.length<=k->(∀ o∈p,ZO o)->(∀ o∈q,ZO o)->(ZE a 2 p q out).2.1=true->
  ∃ b,(ZE a 2 p q out).1=out++b/\Yp φ (Z5A b)=Yp φ p/\Yp ψ (Z5z b)=Yp ψ q/\b.length<=p.length+q.length:=by
 intro k
 induction k with
 | zero=>
  intro p q out hk s u h
  have e1:p=[]:=Q3 V1
  have e2:q=[]:=Q3 V1
  subst e1 e2
  rw [ZE,dif_neg (by simp [sgl]),dif_neg (by simp [sgl]),dif_pos (by simp)]
  exact ⟨[],by simp,rfl,rfl,by simp⟩
 | succ k ih=>
  intro p q out hk s u h
  rw [ZE] at h ⊢
  by_cases h1:sgl a p=true
  .rw [dif_pos h1] at h ⊢
   obtain ⟨g1,_⟩:=Yq.1 h1
   cases p with
   | nil=> grind
   | cons o r=>
    simp only [Qf,Qw,QU] at h ⊢
    obtain ⟨b,e,f1,f2,f3⟩:=ih r q _ (by grind) (fun x hx=> s x (Q4 _ hx)) u h
    refine ⟨⟨1,o,Op.nil⟩ ::b,by grind,?_,?_,by grind⟩
    .show Yp φ (o ::Z5A b)=_
     simp only [Yp];omega
    .exact f2
  .rw [dif_neg h1] at h ⊢
   by_cases h2:sgl 2 q=true
   .rw [dif_pos h2] at h ⊢
    obtain ⟨g1,_⟩:=Yq.1 h2
    cases q with
    | nil=> grind
    | cons o r=>
     simp only [Qf,Qw,QU] at h ⊢
     obtain ⟨b,e,f1,f2,f3⟩:=ih p r _ (by grind) s (fun x hx=> u x (Q4 _ hx)) h
     refine ⟨⟨2,Op.nil,o⟩ ::b,by grind,f1,?_,by grind⟩
     show Yp ψ (o ::Z5z b)=_
     simp only [Yp];omega
   .rw [dif_neg h2] at h ⊢
    by_cases h3:p.length=0\/q.length=0
    .rw [dif_pos h3] at h ⊢
     by_cases h4:decide (p.length=0)=decide (q.length=0)
     .rw [if_pos h4]
      have h5:p.length=0/\q.length=0:=by
       have:=decide_eq_decide.1 h4
       omega
      rw [Q3 h5.1,Q3 h5.2]
      exact ⟨[],by simp,rfl,rfl,by simp⟩
     grind
    .rw [dif_neg h3] at h ⊢
     have l1:p.length≠0:=V1
     have l2:q.length≠0:=V1
     have p1:=ZH (s _ (Zq (l:=p) (i:=0) V1 Op.nil))
     have p2:=ZH (u _ (Zq (l:=q) (i:=0) V1 Op.nil))
     generalize hn:min (Z2 (p.getD 0 Op.nil)) (Z2 (q.getD 0 Op.nil))=n at h ⊢
     obtain ⟨s1,s2⟩:=Z3v hφ s l1 (n:=n) V1
     obtain ⟨t1,t2⟩:=Z3v hψ u l2 (n:=n) V1
     have c1:=ZY p n l1
     have c2:=ZY q n l2
     have c3:Z2 (p.getD 0 Op.nil)<=n->(Zv p n).length < p.length:=fun h=> ZX p _ l1 h
     have c4:Z2 (q.getD 0 Op.nil)<=n->(Zv q n).length < q.length:=fun h=> ZX q _ l2 h
     obtain ⟨b,e,f1,f2,f3⟩:=ih (Zv p n) (Zv q n) _ V1 s2 t2 h
     refine ⟨⟨0,Zo (p.getD 0 Op.nil) n,Zo (q.getD 0 Op.nil) n⟩ ::b,by grind,?_,?_,by grind⟩
     .show Yp φ (Zo (p.getD 0 Op.nil) n ::Z5A b)=_
      simp only [Yp];omega
     .show Yp ψ (Zo (q.getD 0 Op.nil) n ::Z5z b)=_
      simp only [Yp];omega
def φA(o:Op):Int:=if o.kind=2 then 0 else Z2 o
def φB(o:Op):Int:=if o.kind=1 then 0 else Z2 o
def φC(o:Op):Int:=Z9 o.l+ctE o.e - 18
theorem ZaU:∀ l,Yp φA l=J2 l
 | []=> rfl
 | o ::r=> by simp only [Yp,J2,φA,ZaU r]
theorem Z0C:∀ l,Yp φB l=Yw l
 | []=> rfl
 | o ::r=> by simp only [Yp,Yw,φB,Z0C r]
theorem ZiO:∀ l,Yp φC l+34*l.length=YH l
 | []=> rfl
 | o ::r=> by
  have:=ZiO r
  simp only [Yp,YH,φC,Z1W,Qm]
  omega
theorem Z0i(o:Op)(n:Int):(Yo o n).kind=o.kind:=by unfold Yo;split <;> rfl
theorem ZsR{o:Op}{n:Int}(ho:ZO o)(h1:1<=n)(hn:¬Z2 o<=n):Z2 (Yo o n)=Z2 o - n:=by
 obtain ⟨_,_,b,_⟩:=ZaG (a:=1) ho h1 hn
 have hl:=ZT o
 rcases ho with ⟨k0,k1,k2,k3⟩ | ⟨k0,k1,k2,k3⟩ | ⟨k0,k1,k2⟩
 .unfold Yo
  rw [if_pos k0,ZT]
  grind
 .unfold Yo
  rw [Y7,ZT]
  grind
 omega
theorem Zxk:ZoB φB:=by
 intro o n b s h
 obtain ⟨_,_,u,_⟩:=ZaG (a:=1) b s h
 have:=ZsR b s h
 unfold φB
 rw [J1,Z0i,u,this]
 omega
theorem Zxj:ZoB φC:=by
 intro o n b s h
 have hl:=ZT o
 unfold φC Zo Yo
 rw [if_neg h]
 rcases b with ⟨k0,k1,k2,k3⟩ | ⟨k0,k1,k2,k3⟩ | ⟨k0,k1,k2⟩
 .rw [if_pos k0,if_pos k0]
  dsimp only
  rw [k3,k1,Z8P]
  simp [Z9]
 .rw [Y7,Y7]
  dsimp only
  have:=Yf (o.l.take n.toNat) (o.l.drop n.toNat)
  rw [QO] at this
  rw [k3,Z8P]
  omega
 omega
end Go.AM.YtpjenobkibfpcaaGreat
