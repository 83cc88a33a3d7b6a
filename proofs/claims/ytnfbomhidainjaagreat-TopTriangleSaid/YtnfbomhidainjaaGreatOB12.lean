import Derived.Test.YtnfbomhidainjaaGreatOL8
set_option linter.unusedSimpArgs false
set_option linter.unusedVariables false
namespace Go.AM.YtnfbomhidainjaaGreat
open Go.AM Go.Proofs
theorem Zpx{o:Tree}{p:Edit}(h:OkM o p):Z40 (p,o,()):=by
 obtain ⟨⟨m,g,r⟩,⟨mo,d,_⟩,_⟩:=h
 have:=Z5b p
 simp only [Z40]
 exact ⟨⟨V0,g,r⟩,V0,d⟩
theorem OkM.len{o:Tree}{p:Edit}(h:OkM o p):p.words.length<=1000:=by
 have d:=h.1.1
 cases p
 simp only [Zc] at d
 show List.length _<=_
 dsimp only [Edit.words]
 omega
theorem Z4G(o:Tree)(at_:List PStep):∀ (n:Nat) (p q:List WEdit) (s:List Int × List Conflict),(∀ w∈p,w.at_<=65534)->(∀ w∈q,w.at_<=65534)->s.1.length<=65535->(ZV o at_ n p q s).1.length<=65535
 | 0,_,_,_,_,_,h=> h
 | n+1,p,q,s,hp,hq,h=> by
  have d:∀ a b i,i<=65534->(Z1u o at_ a b i s).1.length<=65535:=fun a b i hi=> (Zg9 o at_ a b i s hi s.2.length ⟨h,Qg _⟩).1
  have dp:∀ w∈p.drop 1,w.at_<=65534:=fun w hw=> hp w (Qm hw)
  have dq:∀ w∈q.drop 1,w.at_<=65534:=fun w hw=> hq w (Qm hw)
  have g:∀ l:List WEdit,(∀ w∈l,w.at_<=65534)->(l.getD 0 Z0f).at_<=65534:=fun l hl=> by
   cases l with
   | nil=> decide
   | cons a r=> exact hl a Q5
  rw [ZV]
  split
  .exact h
  .split
   .exact Z4G o at_ n _ _ _ dp hq (d _ _ _ (g p hp))
   .split
    .exact Z4G o at_ n _ _ _ hp dq (d _ _ _ (g q hq))
    .exact Z4G o at_ n _ _ _ dp dq (d _ _ _ (g p hp))
theorem c26:Contract Tryz.prog cfg 26 ZdS:=by
 refine ZDt c10 c45 c22 ?_
 intro o p q _ hp
 simp only [Zpn] at hp
 obtain ⟨hp,hq⟩:=hp
 refine ZJg _ _ _ _ ?_
 rintro y1 rfl y2 rfl d rfl y4 ae y5 aa
 (simp only [iB,vcT,vcS])
 have lp:=hp.len
 have lq:=hq.len
 obtain ⟨a1,⟨a2,a3,a4⟩,⟨a5,a6⟩,a7,a8⟩:=hp
 obtain ⟨b1,⟨b2,b3,b4⟩,⟨b5,b6⟩,b7,b8⟩:=hq
 have hw:d.words.length<=1000:=by have:=Jt d;omega
 have hm:mass y5<=70000:=by
  have h1:=Z4G d [] (y1.words.length+y2.words.length) y1.words y2.words (d.words,[]) (fun w hw=> (a7 w hw).2.2) (fun w hw=> (b7 w hw).2.2) V3
  rw [aa,ae]
  simp only [Jf,mass,Z6]
  omega
 refine ⟨Zpx ⟨a1,⟨a2,a3,a4⟩,⟨a5,a6⟩,a7,a8⟩,Zpx ⟨b1,⟨b2,b3,b4⟩,⟨b5,b6⟩,b7,b8⟩,fun h=> ?_,fun h=> ⟨?_,by simp only [Zc1];omega,?_⟩⟩
 .rw [a8,b8] at h
  rcases h with h | h <;> cases h
 .exact ⟨⟨⟨by show 0<=1000;omega,by show 0<=1000;omega⟩,a3,by show d.words.length<=_;omega⟩,a4,⟨a5,a6,a7,by show y1.words.length<=_;omega⟩,b5,b6,b7,by show y2.words.length<=_;omega⟩
 .subst aa
  subst ae
  simp only [ZtD]
  exact V1
theorem c13:Contract Tryz.prog cfg 13 ZdY:=by
 refine ZDB c22 c9 c26 ?_
 intro o x y d _ hp
 simp only [Zpo] at hp
 obtain ⟨⟨m1,m2⟩,⟨t1,t2,t3⟩,k1,k2⟩:=hp
 have n1:=ZY o
 refine ZJs _ _ _ _ _ ?_
 rintro y1 rfl y2 rfl y3 rfl y4 rfl y5 rfl y6 rfl
 refine ⟨by simp only [Zc1];omega,⟨t1,t2,by show mass y1+mass y2<=_;omega⟩,⟨t1,t3,by show mass y1+mass y3<=_;omega⟩,⟨k1,k2⟩,?_⟩
 simp only [ZtN]
 exact V1
theorem c18:Contract Tryz.prog cfg 18 ZdV:=by
 refine ZDx ?_
 intro a b _ _
 refine ZJo _ _ _ ?_
 exact V1
theorem c16:Contract Tryz.prog cfg 16 ZdW:=by
 refine ZDz c32 c15 ?_
 intro t _ d
 simp only [ZgM] at d
 refine ZJq _ _ ?_
 (simp only [vE])
 (simp only [iB,vcT,vcS])
 refine ⟨by simp only [ZgK];exact ⟨d.1,V0,V0,V0,V0⟩,fun h=> ?_,?_⟩
 .have:=Z4N t 70 400 h
  simp only [Zc0]
  exact ⟨V0,d.2,V0,V0⟩
 .refine ZG rfl ?_
  unfold Z2m
  rw [Xb]
  simp only [Zj0,Q2,decide_eq_true_eq,bne_iff_ne]
theorem c5:Contract Tryz.prog cfg 5 ZjK:=by
 refine ZHm c16 ?_
 intro o x y _ d
 simp only [ZyX] at d
 refine vc5 _ _ _ _ ?_
 (simp only [vE])
 (simp only [iB,vcT,vcS])
 refine ⟨d.1,fun _=> d.2.1,fun _=> d.2.2,?_⟩
 refine ZG rfl ?_
 rw [Xb]
 simp only [Zj0,Q2]
theorem c7:Contract Tryz.prog cfg 7 ZjI:=by
 refine ZHk c13 c9 c18 c11 ?_
 intro _ _
 refine vc7 _ ?_
 intro y1 h1 y2 h2 y3 h3 y4 h4 y5 d y6 h6
 have e1:y1=s2 1 1:=h1
 have e2:y2=s2 1 3:=h2
 have e3:y3=s2 2 1:=h3
 have e4:y4=s2 2 3:=h4
 subst e1 e2 e3 e4
 rw [ZuW] at d
 subst d
 have e6:y6=s2 2 3:=h6
 subst e6
 rw [ZEu]
 refine ⟨trivial,trivial,trivial,⟨⟨V2,V2⟩,⟨Ze5 1 1 V2 V2,Ze5 2 1 V2 V2,Ze5 1 3 V2 V2⟩,ZHe,ZHd⟩,trivial,trivial,⟨Ze5 1 1 V2 V2,Ze5 2 3 V2 V2,V2⟩,?_⟩
 have es:ZU (s2 2 3) (s2 2 3)=true:=by simp [ZU]
 rw [es]
 have m:mass (s2 2 3)=3:=rfl
 repeat' (first | exact (fun x=> x) | exact (fun _=> trivial) | exact (fun _=> by show mass (s2 2 3)<=_;omega) | exact ZG rfl rfl | apply And.intro)
theorem Zwf:Z40 (.mk 3 Tree.nil Tree.nil [] [] 4 [⟨0,1,[],Edit.nil⟩],.mk 4 [] [Z6y],()):=by
 have zn:Yi Edit.nil:=⟨ZZ V2 V2,Zed,Zed,by simp,ZZ V2 V2,trivial,trivial⟩
 have i4:(-9223372036854775808:Int)<=4/\(4:Int)<=9223372036854775807:=V0
 have d:(-9223372036854775808:Int)<=10/\(10:Int)<=9223372036854775807:=V0
 refine ⟨⟨V2,⟨ZZ V2 V2,Zed,Zed,by simp,ZZ V2 V2,trivial,⟨ZZ V2 V2,ZZ V2 V2,trivial,zn⟩,trivial⟩,64,by rfl⟩,V2,⟨i4,by simp,⟨d,?_,trivial⟩,trivial⟩⟩
 intro x hx
 rw [Q7] at hx
 subst hx
 exact Z8d V2 V2
theorem c6:Contract Tryz.prog cfg 6 ZjI:=by
 refine ZHl c17 c8 c10 ?_
 intro _ _
 refine vc6 _ ?_
 intro y1 h1 y2 h2 y3 h3 y4 h4 y5 d y6 h6
 have e1:y1=Edit.nil:=h1
 subst e1
 have e2:y2=YU 2:=h2
 subst e2
 rw [Zla] at h3
 subst h3
 rw [Zf3] at h4 d ⊢
 subst h4
 have e5:y5=⟨0,1,[],Edit.nil⟩:=d
 subst e5
 have e6:y6=some (.mk 4 [] [Z6y]):=h6.trans ZrT
 subst e6
 have c2:ctE (YU 2)<=1000:=V2
 have m2:Zc (YU 2)<=1000:=V2
 have R2:=Zkk 2 (.inr rfl)
 have R1:=Zkk 1 (.inl rfl)
 have hc:(Z2u (YU 2) (YU 1)).2=true:=by rw [Zf3]
 have hk:=Zwf
 refine ⟨⟨by show Zc (YU 2)<=_;omega,R2.2.2⟩,⟨R2,R1⟩,hk,?_⟩
 repeat' (first | exact (fun x=> x) | exact (fun _=> ⟨V2,V2⟩) | exact ZG rfl rfl | apply And.intro)
theorem c3:Contract Tryz.prog cfg 3 ZoB:=by
 refine ZHn c5 c6 c7 c9 c8 c10 c11 c12 ?_
 intro a b c most _ hp
 simp only [ZyY] at hp
 obtain ⟨⟨sa,ga⟩,⟨sb,gb⟩,sc,gc⟩:=hp
 refine vc3 _ _ _ _ _ ?_
 intro y1 h1 y2 h2 y3 h3 y4 h4 y5 d y6 h6 y7 h7 y8 h8
 replace h1:=h1.symm
 replace h2:=h2.symm
 replace h3:=h3.symm
 subst h1 h2 h3
 (simp only [iB,vcT,vcS])
 refine ⟨⟨⟨sa,ga⟩,⟨sb,gb⟩,sc,gc⟩,fun _=> ⟨trivial,trivial,by simp only [ZCr];(repeat' (first | exact trivial | exact rfl | apply And.intro))⟩,fun hg=> ?_⟩
 obtain ⟨ta,ma⟩:=Zf8 ga hg.1.1
 obtain ⟨tb,mb⟩:=Zf8 gb hg.1.2
 obtain ⟨tc,mc⟩:=Zf8 gc hg.2
 obtain ⟨⟨r1,r2⟩,hk,⟨r3,ct⟩,hd⟩:=Zt2 (most:=most) ta tb tc V0 V0 V0
 dsimp only at h4 d h6 h7 h8
 rw [<-h6] at r2
 rw [<-d] at r1
 rw [<-d,<-h6] at hk r3 ct hd
 subst h7
 have hs:(doE false (Z2u y5 y6).1 a).isSome=true:=by
  revert hd
  cases doE false (Z2u y5 y6).1 a with
  | none=> intro h;cases h
  | some x=> intro _;rfl
 have e8:y8=Z0 c:=by rw [h8,hd];try rfl
 have mn:=ZY c
 have hm:=Z9w (Z2u y5 y6).1
 refine ⟨⟨ta,tb,by show mass a+mass b<=_;omega⟩,⟨tb,tc,by show mass b+mass c<=_;omega⟩,⟨r1,r2⟩,fun h=> (by rw [hk] at h;cases h),fun _=> ⟨⟨⟨V3,r3.2.1,r3.2.2⟩,V3,ga⟩,fun _=> by simp only [Zc1];omega,fun _=> by simp only [Z9d];rw [e8];omega,fun _=> trivial,?_⟩⟩
 rw [hs,e8,h4]
 refine ZG rfl ?_
 simp [ZU]
end Go.AM.YtnfbomhidainjaaGreat
