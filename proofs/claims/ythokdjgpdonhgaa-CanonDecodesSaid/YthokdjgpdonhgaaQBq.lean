import Derived.Test.YthokdjgpdonhgaaQGq
set_option linter.unusedSimpArgs false
set_option linter.unusedVariables false
namespace Go.AM.Ythokdjgpdonhgaa
open Go.AM Go.Proofs
theorem Zda{l:List (List Int)}(hl:ZX l)(x:Limits):Z8 (ZV l x).1 64=true/\rng (ZV l x).1/\Zh (ZV l x).1<=140000:=by
 by_cases he:(ZV l x).2.2=0
 ·have:=Zfb hl x he
  exact ⟨this.1,this.2.1,this.2.2.2.2.2⟩
 ·rw [Zd9 he]
  exact ⟨rfl,⟨by decide,(by intro x hx;cases hx),trivial⟩,by decide⟩
theorem c53:Contract Try.prog cfg 53 Z73:=by
 refine Zof c20 c48 c35 c81 ?_
 intro l x _ hl
 simp only [ZdO] at hl
 refine ZsP _ _ _ ?_
 intro y1 e1 y2 e2
 replace e1:=e1.symm
 subst e1
 have hA:Z2 (some (Arena.mk [l] 0 0 0))=[l]:=rfl
 rw [hA] at e2 ⊢
 obtain ⟨u1,u2,u3⟩:=Zda hl x
 have hn:=JB (ZV [l] x).1
 have fin:∀ {T:Tree} {e:Int},Z4G l x=(T,e)->∀ {s:LSt U},Zx cfg Try.f53.ntmps Try.f53.results.toList (.tup [(true,enc .tree T),(false,[.int .i64 e])]) [] .ret s->Zx cfg Try.f53.ntmps Try.f53.results.toList (Zdv (l,x,())) [] .ret s:=by
  intro T e h s hs
  refine ZG ?_ hs
  simp only [Zdv]
  rw [h]
  try rfl
 have m2:Zh y2<=1000000:=by rw [e2];show Zh (Ze (ZV [l] x).1)<=_;omega
 (simp only [vcT,vcS])
 refine ⟨hl,hl,fun h=> fin (T:=Tree.nil) (by unfold Z4G;rw [if_neg h]) (by (repeat' (first | exact trivial | exact rfl | apply And.intro))),fun h=> ⟨⟨m2,by rw [e2];exact Z1V _ u2⟩,fun h2=> ?_,fun h2=> fin (T:=Tree.nil) ?_ (by (repeat' (first | exact trivial | exact rfl | apply And.intro))),fun h2=> ?_⟩⟩
 ·exact (hl.2 l (Qp.2 rfl)).1
 ·unfold Z4G
  rw [if_pos h,<-e2,if_neg]
  rintro ⟨h3,h4⟩
  rcases h2 with h2 | h2
  ·rw [h3] at h2;cases h2
  ·exact h2 h4
 ·refine fin (T:=Ze (ZV [l] x).1) ?_ (by (repeat' (first | exact trivial | exact rfl | apply And.intro)))
  unfold Z4G
  rw [if_pos h,<-e2,if_pos h2]
theorem c16:Contract Try.prog cfg 16 Z9M:=by
 refine ZoF c39 c53 c41 c50 c36 c37 c49 c34 ?_
 intro l x _ hl
 simp only [ZdO] at hl
 refine Ztf _ _ _ ?_
 intro y1 e1 y2 e2 y3 e3 y4 e4 y5 e5
 obtain ⟨u1,u2,u3⟩:=Zda hl y2
 have hn:=JB y4
 rw [<-e4] at u1 u2 u3
 have hlen:=(hl.2 l (Qp.2 rfl)).1
 have hq:Ze y5=y5:=by rw [e5];exact Z3s _
 have m5:Zh y5<=140000:=by rw [e5];omega
 have q4:Zh y4<=1000000000000:=by omega
 have q5:Zh y5<=1000000:=by omega
 have g5:rng y5:=by rw [e5];exact Z1V _ u2
 have snil:JS Tree.nil (Tree.mk 0 [] [])=true:=by simp [JS,Tree.nil]
 (simp only [vcT,vcS])
 by_cases h0:(ZV [l] y2).2.2=0
 ·have ed:Z4G l y2=if (YN y5 131072).2=true/\l=(YN y5 131072).1 then (y5,0) else (Tree.nil,5):=by
   unfold Z4G
   rw [if_pos h0,<-e4,<-e5]
  have hne:l≠[]:=by
   intro hh
   subst hh
   have:(ZV [[]] y2).2.2=7:=by
    unfold ZV
    rw [if_neg (by decide)]
    try rfl
   omega
  refine ⟨trivial,hl,hl,fun h=> absurd h0 h,fun _=> ⟨q4,⟨q5,g5⟩,hlen,fun h=> ?_,fun h=> ?_⟩⟩
  ·rw [if_neg (fun hh=> h hh.2)] at ed
   have e3':y3=Tree.nil:=by rw [e3,ed]
   rw [ed,e3']
   refine ⟨fun _=> by show Zh Tree.nil<=_;decide,fun _=> trivial,Zj rfl ?_⟩
   rw [snil];try rfl
  ·have h2:(YN y5 131072).2=true:=by
    cases hh:(YN y5 131072).2 with
    | true=> rfl
    | false=>
     rw [Zj9 hh] at h
     exact absurd h hne
   rw [if_pos ⟨h2,h⟩] at ed
   have e3':y3=y5:=by rw [e3,ed]
   rw [ed,e3']
   refine ⟨fun _=> by show Zh y5<=_;omega,fun _=> trivial,Zj rfl ?_⟩
   have:JS y5 y5=true:=by simp [JS]
   rw [this];try rfl
 ·have ed:Z4G l y2=(Tree.nil,(ZV [l] y2).2.2):=by
   unfold Z4G
   rw [if_neg h0]
  have e3':y3=Tree.nil:=by rw [e3,ed]
  rw [ed,e3']
  refine ⟨trivial,hl,hl,fun _=> ⟨fun _=> by show Zh Tree.nil<=_;decide,fun _=> trivial,Zj rfl ?_⟩,fun h=> absurd h h0⟩
  rw [snil]
  simp
end Go.AM.Ythokdjgpdonhgaa
