import Derived.Test.YtfapacabjkhepaaVB44a
set_option linter.unusedSimpArgs false
set_option linter.unusedVariables false
namespace Go.AM.Ytfapacabjkhepaa
open Go.AM Go.Proofs
noncomputable section
def ZuO:ArgL Unit:= .nil
def Zmi(a:Unit):Prop:=True
def Zzg(a:Unit):V U:= .c (.bool true)
def Zgz:Fs U:=fs ZuO (fun a=> [Zmi a]) Zzg
def ZuQ:ArgL (Bnd × Int × Int × Unit):=(.cons (aEl .rbundle) (.cons (Yu .u8) (.cons (Yu .u8) .nil)))
def Zvm(a:Bnd × Int × Int × Unit):Prop:=(Z23 (Bnd.first a.1)/\rng (Bnd.first a.1)/\(∀ e∈Bnd.log a.1,Z1z e/\ZK e)/\(Bnd.log a.1).length<=17592186044416)/\(0<=a.2.1/\a.2.1 < 256)/\0<=a.2.2.1/\a.2.2.1 < 256
def Zzi(a:Bnd × Int × Int × Unit):V U:= .c (.bool true)
def ZkD:Fs U:=fs ZuQ (fun a=> [Zvm a]) Zzi
def Zux:List (FuncId × Fs U):=[(8,Za5),(9,Za4)]
def lv5:Ze U:=lvl [([],[]),([1],[1]),([1,2,3],[1,2]),([2,3,4,5],[2,4]),([0],[])]
abbrev A5(p:List Nat):=AW (Z2 Zux) Try.f5 lv5 p
theorem vc5(Q:QT)(h:∀ y_1,y_1=(Edit.mk 2 (Tree.mk 0 [] []) (Tree.mk 0 [] []) ([(WEdit.mk 0 1 1 2)]) [] 0 [])->∀ y_2,y_2=(Z9P (Bnd.log (Bnd.mk (Tree.mk 1 ([1]) []) ([y_1]))) 1 0)->∀ y_3,y_3=(atN (Bnd.first (Bnd.mk (Tree.mk 1 ([1]) []) ([y_1]))) (Bnd.log (Bnd.mk (Tree.mk 1 ([1]) []) ([y_1]))) 1)->∀ y_4,y_4=(List.getD (Tree.words (y_3.1)) (Int.toNat 0) (0:Int))->∀ y_5,y_5=(List.getD (Edit.words (y_2.1)) (Int.toNat 0) (WEdit.mk 0 0 0 0))->let z6:=Bnd.mk (Tree.mk 1 ([1]) []) ([y_1]);let z5:=Edit.words (y_2.1);let z3:=bif (y_3.2) then (y_2.2) else false;let z1:=bif z3 then ((((Tree.words (y_3.1)).length:Int):Int)==1) else false;let z4:=bif z1 then (y_4==2) else false;let z0:=bif z4 then (((z5.length:Int):Int)==1) else false;let z2:=bif z0 then (y_5.old==2) else false;((pre6 (z6,1,()))/\((ZsG (z6,1,0,()))/\((Tt (y_3.2))/\(Tt z3)/\(Tt z3)/\(Tt z3)/\(Tt z3)/\(Tt z1)/\(Tt z1)/\(z1=true->(0:Int)<=0/\0 < ((Tree.words (y_3.1)).length:Int))/\(Tt z1)/\(Tt z1)/\(Tt z1)/\(Tt z4)/\(Tt z4)/\(Tt z4)/\(Tt z4)/\(Tt z0)/\(Tt z0)/\(z0=true->(0:Int)<=0/\0 < (z5.length:Int))/\(Tt z0)/\(Tt z0)/\(Tt z0)/\(Tt z0)/\(Tt z2)/\(Tt z2)/\(z2=true->(0:Int)<=0/\0 < (z5.length:Int))/\(Tt z2)/\(Tt z2)/\(Tt z2)/\(Tt z2)/\(Q .ret (L2 [(0,.c (.bool (bif z2 then (y_5.new==1) else false)))] [])))))):
  A5 [] (L2 [] []) Q:=
 (Eq.mpr V5 (h _ rfl _ rfl _ rfl _ rfl _ rfl):)
abbrev ZAa:Prop:=AW (Z2 Zux) Try.f5 lv5 [] (Zj (ZuO.can ()) []) (EQ Try.f5 (Zzg ()) [])
theorem Zzs(c8:CT 8 Za5)(c9:CT 9 Za4)(hb:∀ (_:Unit),Zmi ()->ZAa):CT 5 Zgz:=
 Z3 (l:=[(8,Za5),(9,Za4)]) Zk rfl (⟨c8,c9,trivial⟩) lv5 Try.func5 rfl rfl 0 (fun _=> rfl) V2 (fun _=> hb ())
def Zuy:List (FuncId × Fs U):=[(4,ZgA),(5,Zgz),(6,Zgy),(7,Zgx),(8,Za5),(9,Za4),(10,Zc3),(11,Z4W),(12,Z0z),(13,Z4V)]
def lv3:Ze U:=lvl [([1,2,3],[3]),([1,2,3,22],[3]),([6],[]),([1,2,3,8],[3]),([1,2,3,33],[3]),([6],[]),([1,2,3,9],[3,9]),([9,10,11],[9]),([9,10,11,12,13],[9,12]),([9,10,11,12,13,14,15],[9,12,14]),([12,13,14,15,16,17],[12,14,16]),([12,14,16,79],[12,14,16]),([6],[]),([12,14,16,87],[12,14,16]),([6],[]),([14,18,19],[14,18]),([6],[])]
abbrev A3(p:List Nat):=AW (Z2 Zuy) Try.f3 lv3 p
theorem vc3(b:Bnd)(from_ to:Int)(Q:QT)(h:∀ y_1,y_1=b->∀ y_2,y_2=(Int.tmod (IntKind.wrap .i64 to) ((((Bnd.log b).length:Int):Int)+1))->∀ y_3,y_3=(Int.tmod (IntKind.wrap .i64 from_) ((((Bnd.log b).length:Int):Int)+1))->∀ y_4,y_4=y_1->∀ y_5,y_5=((Z9P (Bnd.log y_4) y_3 y_2).1)->∀ y_6,y_6=((atN (Bnd.first y_4) (Bnd.log y_4) y_2).1)->∀ y_7,y_7=((atN (Bnd.first y_4) (Bnd.log y_4) y_3).1)->∀ y_8,y_8=(Z00 ((doE false y_5 y_7).map Z1))->let z5:=InR ((((Bnd.log b).length:Int):Int)+1);let z4:=Q .ret (L2 [pB 6 true] []);let z3:=doE false y_5 y_7;let z2:=bif (z3.isSome) then (Yp y_8 y_6) else false;let z1:= !((atN (Bnd.first y_4) (Bnd.log y_4) y_3).2);let z0:=bif z1 then true else (!((atN (Bnd.first y_4) (Bnd.log y_4) y_2).2));((Zvl (y_1,()))/\(iB (!(ZmY (Bnd.first y_1) (Bnd.log y_1))) ((Zmi ())/\z4) ((pre6 (y_1,((Bnd.log b).length:Int),()))/\(iB (!((atM (Bnd.first y_1) (Bnd.log y_1) ((Bnd.log b).length:Int)).2)) ((Zmi ())/\z4) ((Zvk (y_1,()))/\(z5/\((((((Bnd.log b).length:Int):Int)+1):Int)≠0)/\z5/\((((((Bnd.log b).length:Int):Int)+1):Int)≠0)/\((pre6 (y_4,y_3,()))/\((pre6 (y_4,y_2,()))/\((ZsG (y_4,y_3,y_2,()))/\((Tt (!z1))/\(z1=false->(!z1)=true)/\(Tt (!z0))/\(z0=false->(!z0)=true)/\(iB (bif z0 then true else (!((Z9P (Bnd.log y_4) y_3 y_2).2))) ((Q .ret (L2 [pB 6 false] []))) ((Zli (y_5,()))/\(Tt (!(!(Z10 y_5))))/\((!(!(Z10 y_5)))=true->Zlh (y_7,()))/\(Tt (!(!(Z10 y_5))))/\((!(Z10 y_5))=false->(!(!(Z10 y_5)))=true)/\(iB (bif (!(Z10 y_5)) then true else (!(decide (0<=ZF y_7 80 3000)))) ((Zmi ())/\z4) ((Z3j (y_5,y_7,()))/\((Tt (z3.isSome))/\(Tt (z3.isSome))/\((z3.isSome)=true->Z6o (y_8,y_6,()))/\(Tt (z3.isSome))/\(z2=true->Zmi ())/\(Tt z2)/\(Q .ret (L2 [(6,.c (.bool (bif z2 then true else false)))] [])))))))))))))))))):
  A3 [] (L2 [(0,.agg (enc .bundle b)),(1,.c (.int .u8 from_)),(2,.c (.int .u8 to))] []) Q:=
 (Eq.mpr V5 (h _ (Zal _) _ rfl _ rfl _ (Zal _) _ (Zf _) _ (Za _) _ (Za _) _ (Za _)):)
abbrev ZAc(b:Bnd)(from_ to:Int):Prop:=AW (Z2 Zuy) Try.f3 lv3 [] (Zj (ZuQ.can (b,from_,to,())) []) (EQ Try.f3 (Zzi (b,from_,to,())) [])
theorem Zzu(c4:CT 4 ZgA)(c5:CT 5 Zgz)(c6:CT 6 Zgy)(c7:CT 7 Zgx)(c8:CT 8 Za5)(c9:CT 9 Za4)(c10:CT 10 Zc3)(c11:CT 11 Z4W)(c12:CT 12 Z0z)(c13:CT 13 Z4V)(hb:∀ (b:Bnd) (from_:Int) (to:Int) (_:Unit),Zvm (b,from_,to,())->ZAc b from_ to):CT 3 ZkD:=
 Z3 (l:=[(4,ZgA),(5,Zgz),(6,Zgy),(7,Zgx),(8,Za5),(9,Za4),(10,Zc3),(11,Z4W),(12,Z0z),(13,Z4V)]) Zk rfl (⟨c4,c5,c6,c7,c8,c9,c10,c11,c12,c13,trivial⟩) lv3 Try.func3 rfl rfl 3 (fun _=> rfl) V2 (fun ⟨b,from_,to,_⟩=> hb b from_ to ())
end
def atT(n:Int):Tree:= .mk 1 [n] []
def Z1A(n m:Int):Edit:= .mk 2 Tree.nil Tree.nil [⟨0,1,n,m⟩] [] 0 []
theorem Zv9:doE false (Z1A 1 2) (atT 1)=some (atT 2):=by
 unfold Z1A atT
 rw [Zq2,if_pos (show (Tree.mk 1 [1] []).kind=1 from rfl)]
 try rfl
theorem Zfg(n m:Int):ZE (Z1A n m)=Z1A n m:=by
 unfold Z1A
 rw [ZE,if_neg V2,if_pos rfl]
 try rfl
theorem Zv8:YI (Z1A 1 2):=by
 have z:=JD
 have i0:InR 0:=Jk V2 V2
 refine ⟨V2,⟨Jk V2 V2,z,z,fun w hw=> ?_,i0,trivial,trivial⟩,64,rfl⟩
 rw [Q9.1 hw]
 exact ⟨Jk V2 V2,⟨V2,V2⟩,⟨V2,V2⟩,⟨V2,V2⟩⟩
theorem Zxv{n:Int}(h:isW n):rng (atT n):=⟨Jk V2 V2,fun x hx=> by rw [Q9.1 hx];exact h,trivial⟩
theorem Zva:atN (atT 1) [Z1A 1 2] 1=(atT 2,true):=by
 have h:atO (atT 1) [Z1A 1 2] 1:=⟨rfl,V2,V2,V2⟩
 unfold atN
 rw [if_pos h]
 show oT (atF [Z1A 1 2] (atT 1))=_
 rw [atF,if_pos (by rfl),Zv9]
 dsimp only
 rw [if_pos (by rfl),atF]
 try rfl
theorem ZsA:Z9P [Z1A 1 2] 1 0=(Z1A 2 1,true):=by
 have c:Y7 Edit.nil (Z1A 1 2)=(Z1A 1 2,true):=by
  unfold Y7
  rw [show Zd Edit.nil+Zd (Z1A 1 2)=6+1 by decide]
  show Jm (Z9N 6) Edit.nil (Z1A 1 2)=_
  unfold Jm
  exact if_pos rfl
 have n:Z0W Edit.nil (Z1A 1 2)=(Z1A 1 2,true):=by
  unfold Z0W
  rw [c,if_pos rfl]
  dsimp only
  rw [Zfg]
 have j:YZ [Z1A 1 2]=(Z1A 1 2,true):=by
  unfold YZ
  rw [Z0T,n,if_pos rfl,Z0T,if_pos rfl]
  dsimp only
  rw [Zfg]
 unfold Z9P
 rw [if_neg V2,if_neg V2]
 show (ZE (Zq (YZ [Z1A 1 2]).1),(YZ [Z1A 1 2]).2)=_
 rw [j]
 show (ZE (Z1A 2 1),true)=_
 rw [Zfg]
theorem c5:Contract Try.prog cfg 5 Zgz:=by
 refine Zzs c8 c9 ?_
 intro _ _
 refine vc5 _ ?_
 intro y1 e1 y2 e2 y3 e3 y4 e4 y5 e5
 have e1:y1=Z1A 1 2:=e1
 subst e1
 have e2:y2=(Z1A 2 1,true):=e2.trans ZsA
 have e3:y3=(atT 2,true):=e3.trans Zva
 subst e2 e3 e4 e5
 have m:Zd (Z1A 1 2)<=10000:=V2
 have r:=Zv8
 refine ⟨⟨⟨⟨V2,Zxv (n:=1) ⟨V2,V2⟩⟩,V2⟩,fun e he=> ?_⟩,⟨fun e he=> ?_,V2⟩,?_⟩
 .rw [Q9.1 he];exact ⟨m,r.2.1⟩
 .rw [Q9.1 he];exact r
 .simp only [Tr]
  repeat' (first | exact (fun x=> x) | exact (fun _=> ⟨V2,V2⟩) | exact Z4 rfl rfl | apply And.intro)
theorem Zdm:∀ {l:List Edit} {t u:Tree},(∀ e∈l,Zd e<=10000)->atG l t=some u->Zn u<=Zn t+l.length*660000000
 | [],t,u,_,h=> by
  injection h with h
  subst h
  simp
 | e ::r,t,u,he,h=> by
  rw [atG] at h
  by_cases hr:Z0 e 64=true
  .rw [if_pos hr,Z8P] at h
   cases hd:doE false e t with
   | none=> rw [hd] at h;cases h
   | some v=>
    rw [hd] at h
    dsimp only [Option.map] at h
    by_cases hv:Z9 (Z1 v) 64=true
    .rw [if_pos hv] at h
     have h1:=Zdm (fun x hx=> he x (Q0 _ hx)) h
     have h2:=Z9y hr (he e Q4) hd
     rw [Q7,Qx];omega
    .rw [if_neg hv] at h;cases h
  .rw [if_neg hr] at h;cases h
mutual
theorem Z9j:∀ e:Edit,Zd e<=17592186044416->Z1z e
 | .mk k o n w ks l os,h=> by
  simp only [Zd] at h
  have h1:=Yb ks
  have h2:=ZU os
  exact ⟨Z1e o V0,Z1e n V0,V0,V0,V0,Zc5 ks V0,Zc4 os V0⟩
theorem Zc5:∀ ks:List (KidOf Edit),Zx ks<=17592186044416->Z4e ks
 | [],_=> trivial
 | k ::r,h=> by
  simp only [Zx] at h
  exact ⟨ZgB k V0,Zc5 r V0⟩
theorem ZgB:∀ k:KidOf Edit,Yw k<=17592186044416->Zc6 k
 | ⟨_,e⟩,h=> Z9j e (by simp only [Yw] at h;omega)
theorem Zc4:∀ os:List (OpOf Edit),Zr os<=17592186044416->Z4d os
 | [],_=> trivial
 | o ::r,h=> by
  simp only [Zr] at h
  exact ⟨ZiB o V0,Zc4 r V0⟩
theorem ZiB:∀ o:OpOf Edit,ZA o<=17592186044416->Zfc o
 | ⟨_,_,l,e⟩,h=> by
  simp only [ZA] at h
  have:=Zw l
  exact ⟨V0,Z21 l V0,Z9j e V0⟩
end
theorem ZkB{a n:Int}(ha:0<=a)(hn:0<=n):0<=Int.tmod a (n+1)/\Int.tmod a (n+1)<=n:=by
 have h1:=Int.tmod_nonneg (n+1) ha
 have h2:=Int.tmod_lt_of_pos a (show 0 < n+1 by omega)
 exact ⟨h1,V0⟩
theorem c3:Contract Try.prog cfg 3 ZkD:=by
 refine Zzu c4 c5 c6 c7 c8 c9 c10 c11 c12 c13 ?_
 intro b fr to _ hp
 obtain ⟨⟨h1,h2,h3,h4⟩,hf,ht⟩:=hp
 dsimp only at h1 h2 h3 h4 hf ht
 refine vc3 _ _ _ _ ?_
 intro y1 e1 y2 e2 y3 e3 y4 e4 y5 e5 y6 e6 y7 e7 y8 e8
 subst e1 e4
 (simp only [iB,vcT,vcS])
 refine ⟨⟨h1,h2,h3,h4⟩,fun _=> ⟨trivial,Z4 rfl rfl⟩,fun hfew=> ?_⟩
 unfold ZmY at hfew
 simp only [Q1,decide_eq_true_eq,QA] at hfew
 obtain ⟨⟨w1,w2⟩,w3⟩:=hfew
 have mf:=Z1J y4.first 80 3000 w1
 have me:∀ e∈y4.log,Zd e<=3000:=fun e he=> by
  have:=w3 e he
  unfold Zd4 at this
  simp only [Q1,decide_eq_true_eq] at this
  exact Z3N this.1
 have hb:∀ e∈y4.log,ZK e/\Zd e<=10000:=fun e he=> ⟨(h3 e he).2,by have:=me e he;omega⟩
 have bok:((Zn y4.first<=1000000000/\rng y4.first)/\y4.log.length<=8)/\∀ e∈y4.log,Zd e<=10000/\ZK e:=⟨⟨⟨V0,h2⟩,w2⟩,fun e he=> ⟨(hb e he).2,(hb e he).1⟩⟩
 refine ⟨bok,fun _=> ⟨trivial,Z4 rfl rfl⟩,fun hall=> ?_⟩
 have hA:atO y4.first y4.log y4.log.length:=by
  unfold atM at hall
  by_cases c:atO y4.first y4.log y4.log.length
  .exact c
  .rw [if_neg c] at hall;cases hall
 obtain ⟨T,hT⟩:∃ T,atG y4.log (Z1 y4.first)=some T:=by
  unfold atM at hall
  rw [if_pos hA,QY,List.take_length] at hall
  cases h:atG y4.log (Z1 y4.first) with
  | none=> rw [h] at hall;cases hall
  | some T=> exact ⟨T,rfl⟩
 have rf:RowT (Z1 y4.first):=⟨ZZ _,Z1k _ _ hA.1,J9 _ h2⟩
 have all:=(Z8V rf (fun e he=> (hb e he).1) hT).2.1
 have wr:∀ n:Int,0<=n->n < 256->IntKind.wrap .i64 n=n:=fun n a c=> by
  have e:n % 18446744073709551616=n:=Int.emod_eq_of_lt a V0
  simp [IntKind.wrap,IntKind.signed,IntKind.bits,e]
  omega
 rw [wr _ hf.1 hf.2] at e3
 rw [wr _ ht.1 ht.2] at e2
 obtain ⟨i0,i1⟩:=ZkB hf.1 (show (0:Int)<=(y4.log.length:Int) by omega)
 obtain ⟨j0,j1⟩:=ZkB ht.1 (show (0:Int)<=(y4.log.length:Int) by omega)
 rw [<-e3] at i0 i1
 rw [<-e2] at j0 j1
 obtain ⟨t,u,⟨g1,g2⟩,r1,r2,k1,k2,k3⟩:=Z4H rf hb w2 hT (i:=y3.toNat) (j:=y2.toNat) V0 V0
 rw [Int.toNat_of_nonneg i0,Int.toNat_of_nonneg j0] at k1 k2 k3
 have a3:atN y4.first y4.log y3=(t,true):=by
  rw [ZuJ]
  unfold atM
  rw [if_pos ⟨hA.1,hA.2.1,i0,i1⟩,g1];try rfl
 have a2:atN y4.first y4.log y2=(u,true):=by
  rw [ZuJ]
  unfold atM
  rw [if_pos ⟨hA.1,hA.2.1,j0,j1⟩,g2];try rfl
 rw [a3] at e7
 rw [a2] at e6
 have e7:y7=t:=e7
 have e6:y6=u:=e6
 subst e7 e6
 rw [a3,a2,k1]
 rw [<-e5] at k2 k3
 have nm:=Yt y4.first
 have mt:=Zdm (fun e he=> (hb e (X9 he)).2) g1
 have mu:=Zdm (fun e he=> (hb e (X9 he)).2) g2
 rw [Qj] at mt mu
 have mt:Zn y7<=6000000000:=V0
 have mu:Zn y6<=6000000000:=V0
 have k8:y8=y6:=by rw [e8,k3];try rfl
 have kS:(doE false y5 y7).isSome=true:=by
  cases h:doE false y5 y7 with
  | none=> rw [h] at k3;cases k3
  | some _=> rfl
 have km:=Z3i k2
 have kc:=k2.1
 have ne1:(y4.log.length:Int)+1≠0:=V0
 have ir:InR ((y4.log.length:Int)+1):=V4
 have hre:∀ e∈y4.log,YI e:=fun e he=> by
  have:=Z2P e
  have:=me e he
  exact ⟨V0,(hb e he).1,64,all e he⟩
 have hct:=Zg0 fun e he=> (hb e he).2
 rw [k8,kS]
 refine ⟨trivial,ir,ne1,ir,ne1,bok,bok,⟨hre,V3⟩,fun h=> ?_,fun _=> ⟨⟨Z9j y5 V0,k2.2.1⟩,fun _=> Z1e y7 V0,fun _=> ⟨trivial,Z4 rfl rfl⟩,fun _=> ⟨⟨⟨V3,k2.2⟩,V3,r1.g⟩,fun _=> by dsimp only [Z6o];omega,fun _=> trivial,Z4 rfl ?_⟩⟩⟩
 .simp at h
 .rw [(Yk (a:=y6) (b:=y6)).2 rfl];try rfl
end Go.AM.Ytfapacabjkhepaa
