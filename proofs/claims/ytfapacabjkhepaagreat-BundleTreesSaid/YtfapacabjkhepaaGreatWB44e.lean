import Derived.Test.YtfapacabjkhepaaGreatWG44e
set_option linter.unusedSimpArgs false
set_option linter.unusedVariables false
namespace Go.AM.YtfapacabjkhepaaGreat
open Go.AM Go.Proofs
theorem Zeq{t:Tree}(h:(bif !decide (0<=ZD t 80 3000) then true else !Za t 64)=false):0<=ZD t 80 3000:=by
 by_cases c:0<=ZD t 80 3000
 .exact c
 .rw [decide_eq_false c] at h;cases h
set_option maxHeartbeats 1000000 in
theorem c4:Contract Tryz.prog cfg 4 Zn5:=by
 refine ZGG c6 c7 c8 c10 c11 c16 c17 c18 c19 c20 c21 c22 ?_
 intro b t _ hp
 obtain ⟨⟨h1,h2,h3,h4⟩,h5,h6⟩:=hp
 dsimp only at h1 h2 h3 h4 h5 h6
 have u:0<=ZD t 80 3000->Zgj (t,())/\Ze6 (Bnd.mk (rdB t).1 (rdB t).2.1,Bnd.mk (rdB t).1 (rdB t).2.1,())/\ZbI (t,64,()):=fun hs=> by
  have mt:=Z0K t 80 3000 hs
  have mK:Ze (Zm t 1).kids<=Zh t:=by have:=JD (Zm t 1);have:=Yk t 1;omega
  have ct:∀ l,rdL (Zm t 1).kids=some l->ctL l<=9000000000:=fun l h=> by
   have:=(Zhv h fun k hk=> Z0M (Y5 h6 1) hk).2
   omega
  refine ⟨⟨⟨V3,h6⟩,ct⟩,?_,⟨V3,h6,V3,V3⟩⟩
  have m0:=Yk t 0
  have nl:Zh Tree.nil<=1:=V2
  have no:((Bnd.mk Tree.nil []).log.length<=100000000)/\Zh (Bnd.mk Tree.nil []).first<=1000000000000/\∀ e∈(Bnd.mk Tree.nil []).log,Zd e<=20000000000:=⟨V2,V3,fun e s=> by cases s⟩
  suffices H:((Bnd.mk (rdB t).1 (rdB t).2.1).log.length<=100000000)/\Zh (Bnd.mk (rdB t).1 (rdB t).2.1).first<=1000000000000/\∀ e∈(Bnd.mk (rdB t).1 (rdB t).2.1).log,Zd e<=20000000000 from ⟨⟨rfl,H.1⟩,H.2⟩
  unfold rdB
  split
  .cases hl:rdL (Zm t 1).kids with
   | none=> exact no
   | some l=>
    dsimp only
    obtain ⟨F1,F2,F3⟩:=ZdX V0 h6 ct hl
    split
    .exact ⟨by have:=F2.2;dsimp only;omega,V3,fun e s=> by have:=(F2.1 e s).1.1;omega⟩
    .exact no
  .exact no
 refine vc4 b t _ ?_
 intro y1 e1 y2 e2 y3 e3 y4 e4 y5 e5 y6 e6 y7 e7
 subst y1
 subst y3
 subst y2
 have ax:y6=y5:=e6.trans e5.symm
 subst ax
 subst e4
 refine ⟨⟨h1,h2,h3,h4⟩,fun _=> ⟨trivial,Z5 rfl rfl⟩,fun aa=> ?_⟩
 have aa:Zmw b.first b.log=true:=by simpa using aa
 unfold Zmw at aa
 simp only [Q0,decide_eq_true_eq,Qz] at aa
 obtain ⟨⟨w1,w2⟩,w3⟩:=aa
 have mf:=Z0K b.first 80 3000 w1
 have me:∀ e∈b.log,Zd e<=3000:=fun e s=> by
  have:=w3 e s
  unfold ZeZ at this
  simp only [Q0,decide_eq_true_eq] at this
  exact Zbc this.1
 have a9:=Zia fun e s=> (show Zd e<=10000 by have:=me e s;omega)
 have aw:((Zh b.first<=1000000000/\rng b.first)/\ctL b.log<=9000000000)/\∀ e∈b.log,Zd e<=1000000000/\Y0 e:=⟨⟨⟨V0,h2⟩,V0⟩,fun e s=> ⟨by have:=me e s;omega,(h3 e s).2⟩⟩
 refine ⟨aw,fun hr=> ?_,fun hr=> ?_⟩
 .obtain ⟨all,hB⟩:=ZsJ h2 (fun e s=> (h3 e s).2) hr
  have al:(∀ e∈b.log,(Zd e<=100000000/\Y0 e)/\∃ d,Z6 e d=true)/\b.log.length<=10000000:=⟨fun e s=> ⟨⟨by have:=me e s;omega,(h3 e s).2⟩,64,all e s⟩,V0⟩
  have mb:=ZqZ (f:=b.first) me
  have gb:=Zv4 h2 (fun e s=> ⟨(h3 e s).2,64,all e s⟩) (show b.log.length < 18446744073709551616 by omega)
  have e6:y6=Z1o b.first b.log:=e6
  rw [<-e6] at mb gb hB
  have ai:(Zh y6<=10000000/\rng y6)/\∀ l,rdL (Zm y6 1).kids=some l->ctL l<=9000000000:=⟨⟨V0,gb⟩,fun l hl=> by
   rw [e6,show (Zm (Z1o b.first b.log) 1).kids=b.log.map fun e=> ZT (Zq e) from rfl,ZdY fun e s=> ⟨all e s,(h3 e s).2⟩] at hl
   injection hl with hl
   have c:=Zia (l:=l) fun e s=> by
    rw [<-hl] at s
    obtain ⟨x,hx,rfl⟩:=X3.1 s
    have:=Z02 x
    have:=me x hx
    omega
   rw [<-hl,X5] at c
   rw [<-hl]
   omega⟩
  have ay:Ze6 (y7,y7,()):=by
   rw [e7,hB]
   exact ⟨⟨rfl,by dsimp only;rw [List.length_map];omega⟩,V3,fun e s=> by
    obtain ⟨x,hx,rfl⟩:=X3.1 s
    have:=Z02 x
    have:=me x hx
    omega⟩
  have au:(rdB y6).2.2=true:=by rw [hB]
  rw [au,Yh.2 (rfl:y6=y6)]
  exact ⟨trivial,al,al,by dsimp only [Z1y];omega,fun h=> absurd h V2,fun _=> ⟨ai,ai,⟨V3,gb,V3,V3⟩,fun x=> x,fun x=> x,fun x=> x,fun h _=> h,fun h _=> by rw [h];rfl,fun x=> x,fun x=> x,fun x=> x,fun _=> ay,fun x=> x,fun h _=> h,fun h _=> by rw [h];rfl,fun x=> x,fun h=> absurd h (by cases Za y6 64 <;> exact Bool.false_ne_true),fun _=> ⟨h5,fun x=> x,fun h=> (u (by simpa using h)).2.2,fun x=> x,fun h=> by rw [h];rfl,fun _=> ⟨trivial,Z5 rfl rfl⟩,fun h=> (fun hs=> ⟨(u hs).1,(u hs).1,fun x=> x,fun x=> x,fun _=> (u hs).2.1,fun x=> x,fun _=> trivial,fun x=> x,Z5 rfl (by rw [beq_self_eq_true];rfl)⟩) (Zeq h)⟩⟩⟩
 .exact ⟨h5,fun x=> x,fun h=> (u (by simpa using h)).2.2,fun x=> x,fun h=> by rw [h];rfl,fun _=> ⟨trivial,Z5 rfl rfl⟩,fun h=> (fun hs=> ⟨(u hs).1,(u hs).1,fun x=> x,fun x=> x,fun _=> (u hs).2.1,fun x=> x,fun _=> trivial,fun x=> x,Z5 rfl (by rw [beq_self_eq_true];rfl)⟩) (Zeq h)⟩
end Go.AM.YtfapacabjkhepaaGreat
