import Derived.Test.YtpjenobkibfpcaaCB40c
import Derived.Test.YtpjenobkibfpcaaKL21n
import Derived.Test.YtpjenobkibfpcaaKG21a
set_option linter.unusedSimpArgs false
set_option linter.unusedVariables false
namespace Go.AM.Ytpjenobkibfpcaa
open Go.AM Go.Proofs
theorem Z74(at_:Int):∀ (l:List Kid) (i:Int),(Z0i l at_ i= -1∧Z29 l at_=Edit.nil)∨(i≤Z0i l at_ i∧Z0i l at_ i < i+l.length∧(l.getD (Z0i l at_ i - i).toNat ⟨0,Edit.nil⟩).e=Z29 l at_)
 | [],i=> .inl ⟨rfl,rfl⟩
 | k ::r,i=> by
  by_cases h:k.at_=at_
  ·refine .inr ?_
   have e:Z29 (k ::r) at_=k.e:=by unfold Z29;rw [List.find?_cons_of_pos (by simpa using h)];try rfl
   rw [Z0i,if_pos h,e,show (i - i).toNat=0 by omega]
   exact ⟨by omega,by simp only [List.length_cons];omega,rfl⟩
  ·have e:Z29 (k ::r) at_=Z29 r at_:=by unfold Z29;rw [List.find?_cons_of_neg (by simpa using h)]
   rw [Z0i,if_neg h,e]
   rcases Z74 at_ r (i+1) with h1 | ⟨h1,h2,h3⟩
   ·exact .inl h1
   ·refine .inr ⟨by omega,by simp only [List.length_cons];omega,?_⟩
    rw [show (Z0i r at_ (i+1) - i).toNat=(Z0i r at_ (i+1) - (i+1)).toNat+1 by omega,List.getD_cons_succ]
    exact h3
theorem Z2f:∀ (l:List Op) (a f t:Int),(Yi l a f t).2.2=true→(Yi l a f t).1∈l
 | [],a,f,t,h=> by rw [Yi] at h;cases h
 | o ::r,a,f,t,h=> by
  rw [Yi] at h ⊢
  split at h
  ·rename_i h2;rw [if_pos h2];exact List.mem_cons_of_mem _ (Z2f r _ _ _ h)
  ·rename_i h2;rw [if_neg h2]
   split at h
   ·rename_i h3;rw [if_pos h3];exact List.mem_cons_self
   ·rename_i h3;rw [if_neg h3];exact List.mem_cons_of_mem _ (Z2f r _ _ _ h)
theorem Z0v:Z3 Edit.nil 64=true:=Z1u (by rfl) 64 (by decide)
theorem Zc2{e:Edit}{d:Int}(h:Z3 e d=true)(hg:ZL e)(at_:Int):Ze (Z29 e.kids at_)≤Ze e∧ZL (Z29 e.kids at_)∧∃ d,Z3 (Z29 e.kids at_) d=true:=by
 unfold Z29
 cases hf:e.kids.find? (fun k=> decide (k.at_=at_)) with
 | none=> exact ⟨by have:=massE_pos2 e;simp only [Option.map_none,Option.getD_none,JS];omega,Z07,64,Z0v⟩
 | some k=>
  have hm:=List.mem_of_find?_eq_some hf
  exact ⟨Nat.le_of_lt (Z6Y hm),(Z0I (Z0u hg).2.2.2.2.2.1 hm).2,d - 1,((Z1X h).1 k hm).1⟩
where
 massE_pos2 (e:Edit):3≤Ze e:=by
  obtain ⟨k,o,n,w,ks,l,os⟩:=e
  have:=Z0e o
  have:=Z0e n
  simp only [Ze];omega
theorem Zkp{e:Edit}{d:Int}(h:Z3 e d=true)(hg:ZL e){o:Op}(hm:o∈e.ops):Ze o.e≤Ze e∧ZL o.e∧∃ d,Z3 o.e d=true:=by
 refine ⟨?_,?_,?_⟩
 ·have:=Z9I hm
  omega
 ·have:=Z0H (Z0u hg).2.2.2.2.2.2 hm
  obtain ⟨k,n,l,x⟩:=o
  exact this.2.2.2
 ·have h2:=(Z1X h).2 o hm
  by_cases h3:o.kind=3
  ·exact ⟨d - 1,by
    rw [YM,if_neg (by omega)] at h2
    split at h2
    ·cases h2
    ·rw [if_neg (by omega)] at h2
     simp only [Bool.and_eq_true] at h2
     exact h2.1.2⟩
  ·refine ⟨64,Z1u ?_ 64 (by decide)⟩
   rw [YM] at h2
   split at h2
   ·simp only [Bool.and_eq_true] at h2;exact h2.2
   ·split at h2
    ·cases h2
    ·split at h2
     ·simp only [Bool.and_eq_true] at h2;exact h2.2
     ·omega
theorem Zgp{e:Edit}{l:List PStep}(h:YE l e []=(Edit.nil,[],false)):Z0d e l=(Edit.nil,[],false):=by rw [Z0d,h,if_neg (by decide)]
theorem c27:Contract Try.prog cfg 27 Z32:=by
 refine Zqf c72 c74 Zlt.1 ?_
 intro e l _ hp
 simp only [Zd5] at hp
 refine Zu0 _ _ _ ?_
 refine Zc (ι:=Int × Edit × List PStep) (fun s=> Z1m e l s.1 s.2.1.kind s.2.1.old.kind s.2.1.new.kind s.2.1.list s.2.1.old.words s.2.1.old.kids s.2.1.new.words s.2.1.new.kids s.2.1.words s.2.1.kids s.2.1.ops s.2.2) (fun s=> (0≤s.1∧s.1≤l.length)∧s.2.2.length=s.1∧(Ze s.2.1≤1000000000∧ZL s.2.1∧∃ d,Z3 s.2.1 d=true)∧YE (l.drop s.1.toNat) s.2.1 s.2.2=YE l e []) (fun s=> ((l.length:Int) - s.1).toNat) (0,e,[]) rfl ⟨⟨by dsimp only;omega,by dsimp only;omega⟩,rfl,hp.1,rfl⟩ ?_
 rintro ⟨i,f,m⟩ ⟨⟨h1,h2⟩,h3,h4,h5⟩
 dsimp only at h1 h2 h3 h4 h5
 refine ZmF _ _ _ _ _ _ _ _ _ _ _ _ _ _ _ _ _ ?_
 rintro y1 hy1 y2 hy2 y3 rfl y4 hy4
 dsimp only at hy1 hy2 hy4
 have e2:y2=f:=by rw [hy2];obtain ⟨k,⟨_,_,_⟩,⟨_,_,_⟩,w,ks,l,os⟩:=f;rfl
 subst e2
 obtain ⟨g1,g2,d,g3⟩:=h4
 (simp only [vcT,vcS])
 try simp only [vcU]
 refine ⟨fun hi=> ⟨⟨h1,hi⟩,?_⟩,fun hi=> ?_⟩
 ·rw [Yn h1 hi ⟨0,0⟩,←hy1,YE] at h5
  refine ⟨fun hb=> ?_,fun hb=> ⟨fun hk=> ⟨?_,fun hx=> ?_,fun hx=> ?_⟩,fun hk=> ⟨fun hk3=> ⟨?_,fun hx=> ?_,fun hx=> ?_⟩,fun hk3=> ?_⟩⟩⟩
  ·rw [if_pos (by omega)] at h5
   simp only [ZcU,Zgp h5.symm]
   (repeat' (first | exact trivial | exact rfl | apply And.intro))
  ·simp only [Zd2]
   have:=Yg y2.kids
   have:=massE_kidsle y2
   omega
  ·rw [if_neg (by omega),if_pos hk] at h5
   rcases Z74 y3.at_ y2.kids 0 with h | h
   ·rw [h.2] at h5
    exact ⟨by simp only [List.length_cons,List.length_nil];omega,by unfold InR;omega,(i+1,Edit.nil,m++[y3]),rfl,⟨⟨by dsimp only;omega,by dsimp only;omega⟩,by simp;omega,⟨by dsimp only;rw [JS];omega,Z07,64,Z0v⟩,h5⟩,by dsimp only;omega⟩
   ·omega
  ·rw [if_neg (by omega),if_pos hk] at h5
   rcases Z74 y3.at_ y2.kids 0 with h | h
   ·omega
   ·have e4:y4.e=Z29 y2.kids y3.at_:=by rw [hy4,←h.2.2,Int.sub_zero]
    have ok:=Zc2 g3 g2 y3.at_
    rw [←e4] at h5 ok
    exact ⟨⟨h.1,by omega⟩,by simp only [List.length_cons,List.length_nil];omega,by unfold InR;omega,(i+1,y4.e,m++[y3]),rfl,⟨⟨by dsimp only;omega,by dsimp only;omega⟩,by simp;omega,⟨by dsimp only;omega,ok.2⟩,h5⟩,by dsimp only;omega⟩
  ·exact ⟨⟨Z4J g3,by have:=massE_opsle y2;dsimp only;omega⟩,by dsimp only;omega⟩
  ·rw [if_neg (by omega),if_neg hk,if_pos hk3,if_neg (by rw [hx];decide)] at h5
   simp only [ZcU,Zgp h5.symm]
   (repeat' (first | exact trivial | exact rfl | apply And.intro))
  ·rw [if_neg (by omega),if_neg hk,if_pos hk3,if_pos hx] at h5
   have ok:=Zkp g3 g2 (Z2f _ _ _ _ hx)
   exact ⟨by simp only [List.length_cons,List.length_nil];omega,by unfold InR;omega,(i+1,(Yi y2.ops y3.at_ 0 0).1.e,m++[⟨y3.kind,(Yi y2.ops y3.at_ 0 0).2.1⟩]),rfl,⟨⟨by dsimp only;omega,by dsimp only;omega⟩,by simp;omega,⟨by dsimp only;omega,ok.2⟩,h5⟩,by dsimp only;omega⟩
  ·rw [if_neg (by omega),if_neg hk,if_neg hk3] at h5
   exact ⟨by simp only [List.length_cons,List.length_nil];omega,by unfold InR;omega,(i+1,y2,m++[y3]),rfl,⟨⟨by dsimp only;omega,by dsimp only;omega⟩,by simp;omega,⟨g1,g2,d,g3⟩,h5⟩,by dsimp only;omega⟩
 ·rw [List.drop_of_length_le (by omega),YE] at h5
  refine ⟨⟨by dsimp only;omega,d,g3⟩,?_⟩
  have en:Z0d e l=(Yb y2,m,true):=by rw [Z0d,←h5,if_pos rfl]
  simp only [ZcU,en]
  (repeat' (first | exact trivial | exact rfl | apply And.intro))
where
 massE_kidsle (e:Edit):ZK e.kids≤Ze e:=by obtain ⟨k,o,n,w,ks,l,os⟩:=e;simp only [Ze,Edit.kids_mk];omega
 massE_opsle (e:Edit):Zf e.ops≤Ze e:=by obtain ⟨k,o,n,w,ks,l,os⟩:=e;simp only [Ze,Edit.ops_mk];omega
end Go.AM.Ytpjenobkibfpcaa
namespace Go.AM.Ytpjenobkibfpcaa
open Go.AM Go.Proofs
noncomputable section
def ZlV:ArgL Unit:= .nil
def Zd7(a:Unit):Prop:=True
def ZoU(a:Unit):V U:= .c (.bool true)
def Z8X:Fs U:=fs ZlV (fun a=> [Zd7 a]) ZoU
def ZlX:ArgL (Tree × Unit):=(.cons (aEl .tree) .nil)
def Zd8(a:Tree × Unit):Prop:=Z0Y a.1∧rng a.1
def ZoW(a:Tree × Unit):V U:= .c (.bool (Z2d a.1))
def Z8Z:Fs U:=fs ZlX (fun a=> [Zd8 a]) ZoW
def Zla:List (FuncId × Fs U):=[(17,Z8W),(27,Z32)]
def Zqz:Zh U:=lvl [([],[]),([1],[1]),([2,3],[2]),([2,3,4,5,6],[2,4]),([0],[])]
abbrev A16(p:List Nat):=AW (Z0 Zla) Try.f16 Zqz p
theorem Zu4(Q:QT)(h:∀ y_1,y_1=(Tree.mk 8 [] ([(Tree.mk 0 [] []),(Tree.mk 1 ([1]) []),(Tree.mk 0 [] [])]))→∀ y_2,y_2=(Edit.mk 2 (Tree.mk 0 [] []) (Tree.mk 0 [] []) ([(WEdit.mk 0 1 1 2)]) [] 0 [])→∀ y_3,y_3=((Z4l JE y_2 ([(PStep.mk 0 1)]) y_1).1)→∀ y_4,y_4=(List.getD (Edit.ops ((Z4l JE y_2 ([(PStep.mk 0 1)]) y_1).1)) (Int.toNat 1) Op.nil)→let z7:=Z0d y_3 ([(PStep.mk 0 1)]);let z5:=Z4l JE y_2 ([(PStep.mk 0 1)]) y_1;let z4:=bif (z5.2) then (z7.2.2) else false;let z2:=bif z4 then (((Edit.kind (z5.1)):Int)==3) else false;let z0:=bif z2 then ((((Edit.ops (z5.1)).length:Int):Int)==3) else false;let z6:=bif z0 then (y_4.kind==3) else false;let z3:=bif z6 then (((Edit.kind (z7.1)):Int)==2) else false;let z1:=bif z3 then ((((z7.2.1).length:Int):Int)==1) else false;((Zgj (y_1,([(PStep.mk 0 1)]),y_2,()))∧((Zd5 (y_3,([(PStep.mk 0 1)]),()))∧((Tr ((z5.2)=true))∧(Tr (z4=true))∧(Tr (z4=true))∧(Tr (z4=true))∧(Tr (z2=true))∧(Tr (z2=true))∧(Tr (z2=true))∧(Tr (z2=true))∧(Tr (z0=true))∧(Tr (z0=true))∧(z0=true→(0:Int)≤1∧1 < ((Edit.ops (z5.1)).length:Int))∧(Tr (z0=true))∧(Tr (z0=true))∧(Tr (z0=true))∧(Tr (z0=true))∧(Tr (z6=true))∧(Tr (z6=true))∧(Tr (z6=true))∧(Tr (z3=true))∧(Tr (z3=true))∧(Tr (z3=true))∧(Tr (z1=true))∧(z1=true→(0:Int)≤0∧0 < ((z7.2.1).length:Int))∧(Tr (z1=true))∧(Tr (z1=true))∧(Tr (z1=true))∧(Tr (z1=true))∧(Q .ret (L2 [(0,.c (.bool (bif z1 then (((PStep.at_ (List.getD (z7.2.1) (Int.toNat 0) (PStep.mk 0 0))):Int)==1) else false)))] [])))))):
  A16 [] (L2 [] []) Q:=
 Eq.mpr (by kernel_rfl) (h _ rfl _ rfl _ (Zm _) _ rfl)
def Zs1:Prop:=AW (Z0 Zla) Try.f16 Zqz [] (Zl (ZlV.can ()) []) (EQ Try.f16 (ZoU ()) [])
theorem Zqi(c17:CT 17 Z8W)(c27:CT 27 Z32)(hb:∀ (_:Unit),Zd7 ()→Zs1):CT 16 Z8X:=
 Z4 (l:=[(17,Z8W),(27,Z32)]) Zk rfl (⟨c17,c27,trivial⟩) Zqz Try.func16 rfl rfl 0 (fun _=> rfl) (by decide) (fun _=> hb ())
def Zlc:List (FuncId × Fs U):=[(36,Z8R),(37,Z2p)]
def ZqB:Zh U:=lvl [([1],[1]),([2],[])]
abbrev A14(p:List Nat):=AW (Z0 Zlc) Try.f14 ZqB p
theorem Zu6(t:Tree)(Q:QT)(h:let z2:=Tree.mk t.kind t.words t.kids;let z1:=decide (0≤Zw z2 80 3000);let z0:=bif z1 then (Z9 z2 64) else false;((Zgi (z2,()))∧(Tr (z1=true))∧(z1=true→Z2Q (z2,64,()))∧(Tr (z1=true))∧(Tr (z0=true))∧(Tr (z0=true))∧(Tr (z0=true))∧(Q .ret (L2 [(2,.c (.bool (bif z0 then (t.kind !=10) else false)))] [])))):
  A14 [] (L2 [(0,.agg (enc .tree t))] []) Q:=
 Eq.mpr (by kernel_rfl) h
def Zs3(t:Tree):Prop:=AW (Z0 Zlc) Try.f14 ZqB [] (Zl (ZlX.can (t,())) []) (EQ Try.f14 (ZoW (t,())) [])
theorem Zqk(c36:CT 36 Z8R)(c37:CT 37 Z2p)(hb:∀ (t:Tree) (_:Unit),Zd8 (t,())→Zs3 t):CT 14 Z8Z:=
 Z4 (l:=[(36,Z8R),(37,Z2p)]) Zk rfl (⟨c36,c37,trivial⟩) ZqB Try.func14 rfl rfl 1 (fun _=> rfl) (by decide) (fun ⟨t,_⟩=> hb t ())
end
end Go.AM.Ytpjenobkibfpcaa
namespace Go.AM.Ytpjenobkibfpcaa
open Go.AM Go.Proofs
def awE:Edit:= .mk 2 (.mk 0 [] []) (.mk 0 [] []) [⟨0,1,1,2⟩] [] 0 []
def awT:Tree:= .mk 8 [] [.mk 0 [] [],.mk 1 [1] [],.mk 0 [] []]
def awX:Edit:= .mk 3 Tree.nil Tree.nil [] [] 8 [⟨0,1,[],Edit.nil⟩,⟨3,0,[],awE⟩,⟨0,1,[],Edit.nil⟩]
theorem Zh7:Z4l JE awE [⟨0,1⟩] awT=(awX,true):=by kernel_rfl
theorem Zre:Z0d awX [⟨0,1⟩]=(awE,[⟨0,1⟩],true):=by kernel_rfl
theorem Zlz:Z3 awX 64=true:=by kernel_rfl
theorem c16:Contract Try.prog cfg 16 Z8X:=by
 refine Zqi c17 c27 ?_
 intro _ _
 refine Zu4 _ ?_
 rintro y1 h1 y2 h2 y3 h3 y4 h4
 have e1:y1=awT:=h1
 have e2:y2=awE:=h2
 rw [e1,e2,Zh7] at h3 h4
 have e3:y3=awX:=h3
 have e4:y4=⟨3,0,[],awE⟩:=h4
 rw [e1,e2,e3,e4,Zh7,Zre]
 (simp only [vcT,vcS])
 have rn:rng (.mk 0 [] []):=⟨by decide,by simp,trivial⟩
 have re:ZL awE:=⟨by unfold isI;omega,rn,rn,by simp [ZjC,isI,isW],by unfold isI;omega,trivial,trivial⟩
 have rt:rng awT:=⟨by decide,by simp,rn,⟨by decide,by simp,trivial⟩,rn,trivial⟩
 have ro:JI ⟨0,1,[],Edit.nil⟩:=⟨by unfold isI;omega,by unfold isI;omega,trivial,Z07⟩
 have rx:ZL awX:=⟨by unfold isI;omega,rn,rn,by simp,by unfold isI;omega,trivial,ro,⟨by unfold isI;omega,by unfold isI;omega,trivial,re⟩,ro,trivial⟩
 refine ⟨⟨⟨⟨?_,rt⟩,?_,re⟩,by simp [isI],by decide⟩,⟨⟨?_,rx,64,Zlz⟩,by decide⟩,?_⟩
 ·show Zg awT≤1000000000
  rw [show Zg awT=5 by kernel_rfl];decide
 ·show Ze awE≤1000000000
  rw [show Ze awE=4 by kernel_rfl];decide
 ·show Ze awX≤1000000000
  rw [show Ze awX=16 by kernel_rfl];decide
 refine ⟨fun _=> ⟨by decide,?_⟩,fun _=> ⟨by decide,by simp⟩,Z2 rfl ?_⟩
 ·show (1:Int) < ((3:Nat):Int);decide
 ·kernel_rfl
theorem c14:Contract Try.prog cfg 14 Z8Z:=by
 refine Zqk c36 c37 ?_
 intro t _ hp
 simp only [Zd8] at hp
 refine Zu6 _ _ ?_
 (simp only [Tree.eta,Edit.eta,Tree.kind_mk,Tree.words_mk,Tree.kids_mk])
 (simp only [vcT,vcS])
 refine ⟨by simp only [Zgi];exact hp.1,fun h=> by simp only [Z2Q];exact ⟨Nat.le_trans (Zb2 h) (by decide),hp.2,by omega,by omega⟩,Z2 rfl ?_⟩
 unfold Z2d
 rw [Bool.eq_iff_iff]
 simp only [Zfl,Bool.and_eq_true,decide_eq_true_eq,bne_iff_ne]
end Go.AM.Ytpjenobkibfpcaa
namespace Go.AM
def Yh:List PStep→Tree→Tree × Bool
 | [],t=> (Z5 t,true)
 | s ::l,t=> if s.at_ < 0∨(t.kind=1∧65535≤s.at_) then (Tree.nil,false)
  else if s.kind=0 then (if s.at_ < t.kids.length then Yh l (t.kids.getD s.at_.toNat Tree.nil) else if t.kind=1 then Yh l Tree.nil else (Tree.nil,false))
  else if s.kind=1 then (if l.length=0∧t.kind=1 then (.mk 1 (if s.at_ < t.words.length∧t.words.getD s.at_.toNat 0≠0 then [t.words.getD s.at_.toNat 0] else []) [],true) else (Tree.nil,false))
  else if s.kind=2 then (if l.length=0∧(2≤t.kind∧t.kind≤9)∧s.at_≤t.kids.length then (.mk t.kind [] [],true) else (Tree.nil,false))
  else (Tree.nil,false)
end Go.AM
namespace Go.AM.Ytpjenobkibfpcaa
open Go.AM Go.Proofs
theorem Z6f{s:PStep}{l:List PStep}{t:Tree}(h0:s.kind=0):Yh (s ::l) t=if s.at_ < 0∨(t.kind=1∧65535≤s.at_)∨(¬s.at_ < t.kids.length∧¬t.kind=1) then (Tree.nil,false) else Yh l (t.kids.getD s.at_.toNat Tree.nil):=by
 rw [Yh]
 by_cases h1:s.at_ < 0∨(t.kind=1∧65535≤s.at_)
 ·rw [if_pos h1,if_pos (by omega)]
 ·rw [if_neg h1,if_pos h0]
  by_cases h2:s.at_ < t.kids.length
  ·rw [if_pos h2,if_neg (by omega)]
  ·rw [if_neg h2]
   by_cases h3:t.kind=1
   ·rw [if_pos h3,if_neg (by omega),List.getD_eq_getElem?_getD,List.getElem?_eq_none (by omega)];try rfl
   ·rw [if_neg h3,if_pos (by omega)]
theorem ZdS{tk:List Tree}{i:Nat}:∀ {ks:List Kid} {out b:List Tree},YZ false tk ks out=some b→(∀ k∈ks,k.at_.toNat≠i)→b.getD i Tree.nil=out.getD i Tree.nil
 | [],out,b,h,_=> by rw [YZ] at h;cases h;rfl
 | k ::s,out,b,h,ha=> by
  rw [YZ,Z6k] at h
  obtain ⟨v,hv,hb⟩:=Option.bind_eq_some_iff.1 h
  rw [ZdS hb fun x hx=> ha x (List.mem_cons_of_mem _ hx),Yt,if_neg]
  exact fun e=> ha k List.mem_cons_self e.symm
theorem Z4G{d:Int}:∀ {ks:List Kid} {last:Int},Zv last ks d=true→∀ k∈ks,last < k.at_∧k.at_≤65534
 | a ::r,last,h,k,hk=> by
  rw [Zv,Z09] at h
  simp only [Bool.and_eq_true,decide_eq_true_eq] at h
  rcases List.mem_cons.1 hk with rfl | hk
  ·omega
  ·have:=Z4G h.2 k hk;omega
theorem Zh2(x:Tree):doE false Edit.nil x=some x:=by rw [JB,Ye,if_pos (by rfl)]
theorem Zh1{tk:List Tree}{d:Int}:∀ {ks:List Kid} {last:Int} {out b:List Tree},-1≤last→Zv last ks d=true→YZ false tk ks out=some b→∀ i:Int,0≤i→out.getD i.toNat Tree.nil=tk.getD i.toNat Tree.nil→
  doE false (Z29 ks i) (tk.getD i.toNat Tree.nil)=some (b.getD i.toNat Tree.nil)
 | [],last,out,b,_,_,h,i,_,ho=> by
  rw [YZ] at h
  cases h
  rw [show Z29 [] i=Edit.nil from rfl,Zh2,ho]
 | k ::s,last,out,b,hl,hr,h,i,hi,ho=> by
  have hat:=Z4G hr
  rw [Zv,Z09] at hr
  simp only [Bool.and_eq_true,decide_eq_true_eq] at hr
  rw [YZ,Z6k] at h
  obtain ⟨v,hv,hb⟩:=Option.bind_eq_some_iff.1 h
  have hs:=Z4G hr.2
  by_cases hk:k.at_=i
  ·have e:Z29 (k ::s) i=k.e:=by unfold Z29;rw [List.find?_cons_of_pos (by simpa using hk)];try rfl
   rw [e,ZdS hb (fun x hx=> by have:=hs x hx;omega),Yt,hk,if_pos rfl,←hk]
   exact hv
  ·have e:Z29 (k ::s) i=Z29 s i:=by unfold Z29;rw [List.find?_cons_of_neg (by simpa using hk)]
   rw [e]
   refine Zh1 (last:=k.at_) (by omega) hr.2 hb i hi ?_
   rw [Yt,if_neg (by omega)]
   exact ho
theorem Zlj:∀ {ops:List Op} {s d:List Tree} {a f t0 t:Int} {o:Op},Run ops s d→(∀ o∈ops,Z4i o)→(∀ o∈ops,o.kind=0→o.e=Edit.nil)→f≤a→Yi ops a f t0=(o,t,true)→
  (a - f).toNat < s.length∧∃ j:Nat,t=t0+j∧j < d.length∧doE false o.e (s.getD (a - f).toNat Tree.nil)=some (d.getD j Tree.nil):=by
 intro ops s d a f t0 t o h
 induction h generalizing f t0 with
 | nil=> intro _ _ _ h;rw [Yi] at h;cases h
 | @keep p r x s d h0 hn hr ih=>
  intro hk hz hf h
  have ol:=ZmW (hk p List.mem_cons_self) h0
  rw [Yi,if_neg (by omega),ol] at h
  split at h
  ·rename_i h1
   simp only [Prod.mk.injEq] at h
   obtain ⟨rfl,rfl,_⟩:=h
   have hx:(a - f).toNat < x.length:=by omega
   refine ⟨by rw [List.length_append];omega,(a - f).toNat,by omega,by rw [List.length_append];omega,?_⟩
   rw [hz p List.mem_cons_self h0,Zh2]
   simp only [List.getD_eq_getElem?_getD,List.getElem?_append_left hx]
  ·rename_i h1
   rw [if_neg (by omega)] at h
   obtain ⟨i0,j,i1,i2,i3⟩:=ih (fun o ho=> hk o (List.mem_cons_of_mem _ ho)) (fun o ho=> hz o (List.mem_cons_of_mem _ ho)) (by omega) h
   refine ⟨by rw [List.length_append];omega,x.length+j,by omega,by rw [List.length_append];omega,?_⟩
   rw [show (a - f).toNat=x.length+(a - (f+p.n)).toNat by omega]
   simp only [List.getD_eq_getElem?_getD,List.getElem?_append_right (Nat.le_add_right _ _),Nat.add_sub_cancel_left] at i3 ⊢
   exact i3
 | @gone p r x s d h0 hn hr ih=>
  intro hk hz hf h
  have ol:=Zdc (hk p List.mem_cons_self) (.inl h0)
  have hlen:p.l.length=x.length:=by have:=congrArg List.length hn;simpa [Z8] using this
  rw [Yi,if_neg (by omega),ol] at h
  split at h
  ·simp only [Prod.mk.injEq] at h
   rw [h0] at h
   exact absurd h.2.2 (by decide)
  ·try rw [if_pos h0] at h
   obtain ⟨i0,j,i1,i2,i3⟩:=ih (fun o ho=> hk o (List.mem_cons_of_mem _ ho)) (fun o ho=> hz o (List.mem_cons_of_mem _ ho)) (by omega) h
   refine ⟨by rw [List.length_append];omega,j,i1,i2,?_⟩
   rw [show (a - f).toNat=x.length+(a - (f+p.l.length)).toNat by omega]
   simp only [List.getD_eq_getElem?_getD,List.getElem?_append_right (Nat.le_add_right _ _),Nat.add_sub_cancel_left] at i3 ⊢
   exact i3
 | @come p r s d h0 hr ih=>
  intro hk hz hf h
  have ol:=Zdc (hk p List.mem_cons_self) (.inr h0)
  rw [Yi,if_pos h0,ol] at h
  obtain ⟨i0,j,i1,i2,i3⟩:=ih (fun o ho=> hk o (List.mem_cons_of_mem _ ho)) (fun o ho=> hz o (List.mem_cons_of_mem _ ho)) hf h
  refine ⟨i0,p.l.length+j,by omega,by rw [List.length_append];omega,?_⟩
  simp only [List.getD_eq_getElem?_getD,List.getElem?_append_right (Nat.le_add_right _ _),Nat.add_sub_cancel_left] at i3 ⊢
  exact i3
 | @into p r x y s d h0 hd hr ih=>
  intro hk hz hf h
  have ol:=ZmV h0
  rw [Yi,if_neg (by omega),ol] at h
  split at h
  ·rename_i h1
   simp only [Prod.mk.injEq] at h
   obtain ⟨rfl,rfl,_⟩:=h
   refine ⟨by rw [List.length_cons];omega,0,by omega,by simp,?_⟩
   rw [show (a - f).toNat=0 by omega]
   exact hd
  ·rw [if_neg (by omega)] at h
   obtain ⟨i0,j,i1,i2,i3⟩:=ih (fun o ho=> hk o (List.mem_cons_of_mem _ ho)) (fun o ho=> hz o (List.mem_cons_of_mem _ ho)) (by omega) h
   refine ⟨by rw [List.length_cons];omega,j+1,by omega,by rw [List.length_cons];omega,?_⟩
   rw [show (a - f).toNat=(a - (f+1)).toNat+1 by omega]
   simpa using i3
theorem ZhE{t:Tree}(h:RT_ t)(h0:t.kind=0):t.kids=[]:=by
 obtain ⟨⟨d,h⟩,_⟩:=h
 obtain ⟨k,w,ks⟩:=t
 have h0:k=0:=h0
 rw [Z9,if_pos h0] at h
 simp only [decide_eq_true_eq] at h
 exact List.eq_nil_of_length_eq_zero h.2
theorem ZdL:∀ {l:List PStep} {a b:Tree},(∀ s∈l,s.kind=0)→RT_ a→RT_ b→Eqv a b→Yh l a=Yh l b
 | [],a,b,_,_,_,h=> by rw [Yh,Yh,h]
 | s ::l,a,b,hl,ha,hb,h=> by
  have h0:=hl s List.mem_cons_self
  obtain ⟨hk,hx⟩:=(ZZ a b).1 h
  rw [Z6f h0,Z6f h0]
  by_cases hz:a.kind=0
  ·rw [ZhE ha hz,ZhE hb (by omega),←hk]
  ·have hy:=hx.resolve_left hz
   have ih:=ZdL (fun x hx=> hl x (List.mem_cons_of_mem _ hx)) (Zab ha.kids.1 s.at_.toNat) (Zab hb.kids.1 s.at_.toNat) (hy.2 s.at_.toNat)
   rw [ih,←hk]
   by_cases h1:a.kind=1
   ·simp only [h1,not_true_eq_false,and_false]
   ·have h2:=hy.1
    rw [if_neg h1] at h2
    rw [h2.2]
theorem Z1f:∀ (l:List PStep) (e:Edit) (m:List PStep),(YE l e m).2.2=true→∃ m',(YE l e m).2.1=m++m'∧(∀ s∈m',s.kind=0)∧∀ m2,YE l e m2=((YE l e m).1,m2++m',true)
 | [],e,m,_=> ⟨[],by rw [YE];simp,by simp,fun m2=> by rw [YE,YE,List.append_nil]⟩
 | s ::l,e,m,h=> by
  rw [YE] at h ⊢
  split at h
  ·cases h
  ·rename_i h1
   rw [if_neg h1]
   split at h
   ·rename_i h2
    rw [if_pos h2]
    obtain ⟨m',e1,e2,e3⟩:=Z1f l _ _ h
    refine ⟨s ::m',by rw [e1];simp,?_,fun m2=> ?_⟩
    ·intro x hx
     rcases List.mem_cons.1 hx with rfl | hx
     ·omega
     ·exact e2 x hx
    ·rw [YE,if_neg h1,if_pos h2,e3];simp
   ·rename_i h2
    rw [if_neg h2]
    split at h
    ·rename_i h3
     rw [if_pos h3]
     split at h
     ·rename_i h4
      rw [if_pos h4]
      obtain ⟨m',e1,e2,e3⟩:=Z1f l _ _ h
      refine ⟨⟨s.kind,(Yi e.ops s.at_ 0 0).2.1⟩ ::m',by rw [e1];simp,?_,fun m2=> ?_⟩
      ·intro x hx
       rcases List.mem_cons.1 hx with rfl | hx
       ·show s.kind=0;omega
       ·exact e2 x hx
      ·rw [YE,if_neg h1,if_neg h2,if_pos h3,if_pos h4,e3];simp
     ·cases h
    ·rename_i h3
     rw [if_neg h3]
     obtain ⟨m',e1,e2,e3⟩:=Z1f l _ _ h
     refine ⟨s ::m',by rw [e1];simp,?_,fun m2=> ?_⟩
     ·intro x hx
      rcases List.mem_cons.1 hx with rfl | hx
      ·omega
      ·exact e2 x hx
     ·rw [YE,if_neg h1,if_neg h2,if_neg h3,e3];simp
theorem ZnU{s:PStep}{l:List PStep}{t:Tree}(h0:s.kind=0)(h:(Yh (s ::l) t).2=true):0≤s.at_∧¬(t.kind=1∧65535≤s.at_)∧(s.at_ < t.kids.length∨t.kind=1)∧Yh (s ::l) t=Yh l (t.kids.getD s.at_.toNat Tree.nil):=by
 rw [Z6f h0] at h ⊢
 split at h
 ·cases h
 ·rename_i h1
  rw [if_neg h1]
  exact ⟨by omega,by omega,by omega,rfl⟩
theorem Zc3{s:PStep}{l:List PStep}{t:Tree}(h0:s.kind=0)(h1:0≤s.at_)(h2:¬(t.kind=1∧65535≤s.at_))(h3:s.at_ < t.kids.length∨t.kind=1):Yh (s ::l) t=Yh l (t.kids.getD s.at_.toNat Tree.nil):=by
 rw [Z6f h0,if_neg (by omega)]
theorem Zc8:∀ (l:List PStep) (e:Edit) (d:Int) (t v:Tree) (x:Edit) (m:List PStep),Z3 e d=true→ZL e→RT_ t→doE false e t=some v→YE l e []=(x,m,true)→(Yh l t).2=true→
  ∃ w w',Yh l t=(Z5 w,true)∧RT_ w∧Yh m v=(Z5 w',true)∧doE false x w=some w'∧(∃ d,Z3 x d=true)∧ZL x
 | [],e,d,t,v,x,m,hr,hg,ht,hv,hn,hp=> by
  rw [YE] at hn
  cases hn
  exact ⟨t,v,rfl,ht,rfl,hv,⟨d,hr⟩,hg⟩
 | s ::l,e,d,t,v,x,m,hr,hg,ht,hv,hn,hp=> by
  rw [YE] at hn
  split at hn
  ·cases hn
  ·rename_i h1
   have h0:s.kind=0:=by omega
   obtain ⟨p1,p2,p3,p4⟩:=ZnU h0 hp
   rw [p4] at hp ⊢
   have htk:=Zab ht.kids.1 s.at_.toNat
   split at hn
   ·rename_i h2
    obtain ⟨m',e1,e2,e3⟩:=Z1f l _ _ (by rw [hn])
    rw [hn] at e1 e3
    have e1:m=s ::m':=e1
    rw [Zub h2] at hv
    split at hv
    ·rename_i hk
     obtain ⟨a,ha,hv⟩:=Option.bind_eq_some_iff.1 hv
     obtain ⟨b,hb,rfl⟩:=Option.map_eq_some_iff.1 hv
     have ra:=(Yf hr).kids
     have hd:=Zh1 (by omega) ra hb s.at_ p1 rfl
     obtain ⟨_,g2,d',g3⟩:=Zc2 hr hg s.at_
     obtain ⟨w,w',i1,i2,i3,i4⟩:=Zc8 l _ d' _ _ x m' g3 g2 htk hd (e3 []) hp
     refine ⟨w,w',i1,i2,?_,i4⟩
     rw [e1,Zc3 h0 p1 (by rw [Tree.kind_mk];omega) (.inr rfl)]
     exact i3
    ·cases hv
   ·rename_i h2
    split at hn
    ·rename_i h3
     split at hn
     ·rename_i h4
      obtain ⟨m',e1,e2,e3⟩:=Z1f l _ _ (by rw [hn])
      rw [hn] at e1 e3
      have e1:m=⟨s.kind,(Yi e.ops s.at_ 0 0).2.1⟩ ::m':=e1
      rw [Zua h3] at hv
      split at hv
      ·rename_i hk
       obtain ⟨b,hb,rfl⟩:=Option.map_eq_some_iff.1 hv
       have ra:=(Yf hr)
       have hops:∀ o∈e.ops,Zd e.list o (d - 1)=true:=Z1y.1 ra.ops
       have hrun:=(ZgF (fun o ho=> Zb0 (hops o ho))).1 hb
       obtain ⟨j0,j,j1,j2,j3⟩:=Zlj hrun (Z4J hr) (fun o ho hk0=> by
        have:=hops o ho
        rw [YM,if_pos hk0] at this
        simp only [Bool.and_eq_true] at this
        exact Z95 this.2) p1 (o:=(Yi e.ops s.at_ 0 0).1) (t:=(Yi e.ops s.at_ 0 0).2.1) (by rw [←h4])
       have hm:=Z2f _ _ _ _ h4
       obtain ⟨_,g2,d',g3⟩:=Zkp hr hg hm
       rw [Int.sub_zero] at j0 j3
       obtain ⟨w,w',i1,i2,i3,i4⟩:=Zc8 l _ d' _ _ x m' g3 g2 htk j3 (e3 []) hp
       refine ⟨w,w',i1,i2,?_,i4⟩
       have hl:=ra.list h3
       rw [e1,Zc3 (s:=⟨s.kind,(Yi e.ops s.at_ 0 0).2.1⟩) h0 (by dsimp only;omega) (by rw [Tree.kind_mk];omega) (.inl (by rw [Tree.kids_mk];dsimp only;omega))]
       dsimp only
       rw [j1,show ((0:Int)+j).toNat=j by omega]
       exact i3
      ·cases hv
     ·cases hn
    ·rename_i h3
     have hk:=(Yf hr).kind
     have hz:e.kind=0:=by omega
     obtain ⟨m',e1,e2,e3⟩:=Z1f l _ _ (by rw [hn])
     rw [hn] at e1 e3
     have e1:m=s ::m':=e1
     rw [ZsX hz] at hv
     cases hv
     obtain ⟨w,w',i1,i2,i3,i4⟩:=Zc8 l e d _ _ x m' hr hg htk (ZsX hz _) (e3 []) hp
     refine ⟨w,w',i1,i2,?_,i4⟩
     rw [e1,Zc3 h0 p1 p2 p3]
     exact i3
theorem Zlp{l m:List PStep}{e x:Edit}{d:Int}{t v was:Tree}(hr:Z3 e d=true)(hg:ZL e)(ht:RT_ t)(hv:doE false e t=some v)(hn:Z0d e l=(x,m,true))(hp:Yh l t=(was,true)):
  ∃ now z,Yh m (Z5 v)=(now,true)∧doE false x was=some z∧Z5 z=now∧RT_ was∧ZL x∧(∃ d,Z3 x d=true):=by
 have hy:(YE l e []).2.2=true:=by
  unfold Z0d at hn
  split at hn
  ·assumption
  ·cases hn
 rw [Z0d,if_pos hy] at hn
 obtain ⟨m',e1,e2,e3⟩:=Z1f l e [] hy
 have hm:m=m':=by
  have:=congrArg (fun y=> y.2.1) hn
  dsimp only at this
  rw [←this,e1];try rfl
 have hx:Yb (YE l e []).1=x:=congrArg Prod.fst hn
 obtain ⟨w,w',i1,i2,i3,i4,⟨d',i5⟩,i6⟩:=Zc8 l e d t v (YE l e []).1 m' hr hg ht hv (e3 []) (by rw [hp])
 have hv':=ZdR hr ht hg hv
 have hvn:RT_ (Z5 v):=⟨⟨_,Z08 _ _ hv'.1.choose_spec⟩,Z05 _ hv'.2⟩
 have hwn:RT_ (Z5 w):=⟨⟨_,Z08 _ _ i2.1.choose_spec⟩,Z05 _ i2.2⟩
 have hw:was=Z5 w:=by rw [hp] at i1;exact congrArg Prod.fst i1
 have q1:=ZeG _ d' (Z5 w) i5 hwn
 have q2:=Zc9 _ d' (Z5 w) w i5 (ZdO w)
 rw [i4] at q2
 cases h1:doE false (YE l e []).1 (Z5 w) with
 | none=> rw [h1] at q2;exact absurd q2 id
 | some z1=>
  rw [h1] at q1 q2
  cases h2:doE false (Yb (YE l e []).1) (Z5 w) with
  | none=> rw [h2] at q1;exact absurd q1 id
  | some z=>
   rw [h2] at q1
   refine ⟨Z5 w',z,?_,?_,Eq.trans q1 q2,?_,?_,⟨d',?_⟩⟩
   ·rw [hm,ZdL e2 hvn hv' (ZdO v)];exact i3
   ·rw [←hx,hw];exact h2
   ·rw [hw];exact hwn
   ·rw [←hx];exact Z3P _ d' i5 i6
   ·rw [←hx];exact Z11 _ _ i5
end Go.AM.Ytpjenobkibfpcaa
namespace Go.AM.Ytpjenobkibfpcaa
open Go.AM Go.Proofs
instance decStep:DecidableEq PStep:=fun a b=> decidable_of_iff (a.kind=b.kind∧a.at_=b.at_) (by cases a;cases b;simp)
end Go.AM.Ytpjenobkibfpcaa
namespace Go.AM.Ytpjenobkibfpcaa
open Go.AM Go.Proofs
noncomputable section
def Zfx:ArgL (Tree × List PStep × Unit):=(.cons (aEl .tree) (.cons (aSl .step) .nil))
def Z7x(a:Tree × List PStep × Unit):Prop:=Zg a.1≤1000000000000∧(a.2.1).length≤1000
def Zdr(a:Tree × List PStep × Unit):Nat:=(a.2.1).length
def Z1z(a:Tree × List PStep × Unit):V U:= .tup [(true,(enc .tree ((Yh a.2.1 a.1).1))),(false,[.bool ((Yh a.2.1 a.1).2)])]
def Z8T:Fs U:=fs Zfx (fun a=> [Z7x a]) Z1z
def Zfc(N:Nat):List (FuncId × Fs U):=(28,fs Zfx (fun a=> [Z7x a,Zdr a < N]) Z1z) ::[(45,Z8Q)]
def ZnL:Zh U:=fun i=> match i with
 | 0=> ([(1,[]),(2,[]),(4,[])],[(.loc 2,[]),(.loc 4,[])])
 | 1=> ([(1,[]),(2,[]),(4,[]),(11,[])],[(.loc 2,[]),(.loc 4,[])])
 | 2=> ([(4,[]),(5,[])],[(.loc 4,[])])
 | 3=> ([(1,[]),(2,[]),(4,[]),(6,[])],[(.loc 2,[]),(.loc 4,[]),(.loc 6,[])])
 | 4=> ([(1,[]),(2,[]),(4,[]),(6,[]),(7,[])],[(.loc 2,[]),(.loc 4,[]),(.loc 6,[])])
 | 5=> ([(1,[]),(2,[]),(4,[]),(6,[]),(7,[]),(37,[])],[(.loc 2,[]),(.loc 4,[]),(.loc 6,[])])
 | 6=> ([(4,[]),(5,[])],[(.loc 4,[])])
 | 7=> ([(1,[]),(2,[]),(4,[]),(6,[]),(7,[]),(40,[])],[(.loc 2,[]),(.loc 4,[]),(.loc 6,[])])
 | 8=> ([(1,[]),(2,[]),(4,[]),(6,[]),(7,[]),(40,[]),(41,[])],[(.loc 2,[]),(.loc 4,[]),(.loc 6,[])])
 | 9=> ([(1,[]),(2,[]),(4,[]),(6,[]),(48,[])],[(.loc 2,[]),(.loc 4,[]),(.loc 6,[])])
 | 10=> ([(4,[]),(5,[])],[(.loc 4,[])])
 | 11=> ([(1,[]),(2,[]),(4,[]),(6,[]),(7,[]),(62,[]),(78,[]),(104,[]),(119,[])],[(.loc 2,[]),(.loc 4,[]),(.loc 6,[])])
 | 12=> ([(4,[]),(5,[])],[(.loc 4,[])])
 | 13=> ([(1,[]),(2,[]),(4,[]),(6,[]),(7,[]),(40,[]),(69,[])],[(.loc 2,[]),(.loc 4,[]),(.loc 6,[])])
 | 14=> ([(1,[]),(2,[]),(4,[]),(6,[]),(7,[]),(62,[]),(78,[]),(104,[]),(119,[])],[(.loc 2,[]),(.loc 4,[]),(.loc 6,[])])
 | 15=> ([(2,[]),(4,[]),(6,[]),(8,[])],[(.loc 2,[]),(.loc 4,[]),(.loc 6,[]),(.loc 8,[])])
 | 16=> ([(2,[]),(4,[]),(6,[]),(8,[]),(94,[])],[(.loc 2,[]),(.loc 4,[]),(.loc 6,[]),(.loc 8,[.any,.own .u64])])
 | 17=> ([(2,[]),(4,[]),(6,[]),(8,[]),(94,[])],[(.loc 2,[]),(.loc 4,[]),(.loc 6,[]),(.loc 8,[.any,.own .u64])])
 | 18=> ([(4,[]),(5,[])],[(.loc 4,[])])
 | 19=> ([(1,[]),(2,[]),(4,[]),(6,[]),(7,[]),(62,[]),(78,[]),(104,[]),(119,[])],[(.loc 2,[]),(.loc 4,[]),(.loc 6,[])])
 | 20=> ([(1,[]),(2,[]),(4,[]),(6,[]),(7,[]),(62,[]),(78,[]),(104,[]),(119,[])],[(.loc 2,[]),(.loc 4,[]),(.loc 6,[])])
 | 21=> ([(4,[]),(5,[])],[(.loc 4,[])])
 | 22=> ([(4,[]),(5,[])],[(.loc 4,[])])
 | _=> ([],[])
def Z3x(t:Tree)(l:List PStep)(v62 v78 v119 v7 v104:V U):LSt U:=(L2 [(1,.c (sU .step l .unk)),(2,.ptr (.loc 2) 0),(4,.ptr (.loc 4) 0),(6,.ptr (.loc 6) 0),(7,v7),(62,v62),(78,v78),(104,v104),(119,v119)] [(.loc 2,(enc .tree t)),(.loc 4,[ci 0,.nils,.nils]),(.loc 6,(enc .step (List.getD l (Int.toNat 0) (PStep.mk 0 0))))])
def Z9T(t:Tree)(l:List PStep)(ml8_1_a:List Int):LSt U:=(L2 [(2,.ptr (.loc 2) 0),(4,.ptr (.loc 4) 0),(6,.ptr (.loc 6) 0),(8,.ptr (.loc 8) 0),(94,.c (.bool (bif (decide (((PStep.at_ (List.getD l (Int.toNat 0) (PStep.mk 0 0))):Int) < (t.words.length:Int))) then (((List.getD t.words (Int.toNat (PStep.at_ (List.getD l (Int.toNat 0) (PStep.mk 0 0)))) (0:Int)):Int) !=0) else false)))] [(.loc 2,(enc .tree t)),(.loc 4,[ci 0,.nils,.nils]),(.loc 6,(enc .step (List.getD l (Int.toNat 0) (PStep.mk 0 0)))),(.loc 8,[ci 1,sU .u64 ml8_1_a (.own (.l 8 1)),.nils])])
abbrev A28(N:Nat)(p:List Nat):=AW (Z0 (Zfc N)) Try.f28 ZnL p
abbrev S28(N:Nat)(p:List Nat):=SW (Z0 (Zfc N)) Try.f28 ZnL p
theorem ZtZ(N:Nat)(t:Tree)(l:List PStep)(Q:QT)(h:∀ y_1,y_1=t→∀ y_2,y_2=(List.getD l (Int.toNat 0) (PStep.mk 0 0))→∀ y_3,y_3=(.bool (bif (decide ((2:Int)≤t.kind)) then (decide (t.kind≤9)) else false))→∀ y_4,y_4=(List.getD t.kids (Int.toNat (PStep.at_ y_2)) Tree.nil)→∀ y_5,y_5=y_4→let z16:=((PStep.kind y_2):Int)==1;let z15:=((PStep.kind y_2):Int)==0;let z14:=((l.length:Int):Int)==0;let z13:=xB 0 (S28 N [1,1,1,1,1,1] Q);let z11:=decide (((PStep.at_ y_2):Int) < (t.kids.length:Int));let z9:=((PStep.kind y_2):Int)==2;let z8:=decide ((2:Int)≤t.kind);let z4:=List.drop (Int.toNat 1) l;let z3:=((l.length:Int):Int)==1;let z10:=bif z3 then (t.kind==1) else false;let z2:=decide (((PStep.at_ y_2):Int) < 0);let z12:=(!z2) && (t.kind==1);let z6:=bif z2 then true else (bif (t.kind==1) then (decide ((65535:Int)≤(PStep.at_ y_2))) else false);let z1:=decide (((PStep.at_ y_2):Int) < (t.words.length:Int));let z7:=bif z1 then (((List.getD t.words (Int.toNat (PStep.at_ y_2)) (0:Int)):Int) !=0) else false;let z0:=bif z3 then (bif z8 then (decide (t.kind≤9)) else false) else false;let z5:=bif z0 then (decide (((PStep.at_ y_2):Int)≤(t.kids.length:Int))) else false;((z14=true→(Z7w (y_1,()))∧(Q .ret (L2 [(4,.ptr (.loc 4) 0),(5,.c (.bool true))] [(.loc 4,(enc .tree (Z5 y_1)))])))∧(z14=false→((0:Int)≤0∧0 < (l.length:Int))∧((Tr (z8=true))∧(Tr (z8=true))∧(Tr (z8=true))∧((Tr ((!z2)=true))∧(Tr ((!z2)=true))∧(Tr ((!z2)=true))∧(Tr (z12=true))∧(Tr (z12=true))∧((!z2)=true→(True→(!z2)=true))∧((!z2)=true→((t.kind==1)=true→z12=true))∧(z2=false→(!z2)=true)∧((z6=true→(Q .ret (L2 [(4,.ptr (.loc 4) 0),(5,.c (.bool false))] [(.loc 4,[ci 0,.nils,.nils])])))∧(z6=false→((z15=true→((z11=true→((0:Int)≤(PStep.at_ y_2)∧(PStep.at_ y_2) < (t.kids.length:Int))∧((0:Int)≤1∧1≤(l.length:Int))∧(Z7x (y_5,z4,()))∧(Zdr (y_5,z4,()) < N)∧(Q .ret (L2 [(4,.ptr (.loc 4) 0),(5,.c (.bool ((Yh z4 y_5).2)))] [(.loc 4,(enc .tree ((Yh z4 y_5).1)))])))∧(z11=false→(((t.kind==1)=true→((0:Int)≤1∧1≤(l.length:Int))∧(Z7x ((Tree.mk 0 [] []),z4,()))∧(Zdr ((Tree.mk 0 [] []),z4,()) < N)∧(Q .ret (L2 [(4,.ptr (.loc 4) 0),(5,.c (.bool ((Yh z4 (Tree.mk 0 [] [])).2)))] [(.loc 4,(enc .tree ((Yh z4 (Tree.mk 0 [] [])).1)))])))∧((t.kind==1)=false→A28 N [1,1,1,1,1,1] (Z3x t l (.c (.bool (t.kind==1))) .junk .junk .junk .junk) Q)))))∧(z15=false→((z16=true→(Tr (z3=true))∧(Tr (z3=true))∧(Tr (z3=true))∧((z10=true→((Tr (z1=true))∧(Tr (z1=true))∧(Tr (z1=true))∧(Tr (z1=true))∧(z1=true→(0:Int)≤(PStep.at_ y_2)∧(PStep.at_ y_2) < (t.words.length:Int))∧(Tr (z1=true))∧(Tr (z1=true))∧(Tr (z1=true))∧((z7=true→((0:Int)≤(PStep.at_ y_2)∧(PStep.at_ y_2) < (t.words.length:Int))∧(A28 N [1,1,1,1,1,0,1,0,1,1,1,0,1,0,1,1] (Z9T t l ([List.getD t.words (Int.toNat (PStep.at_ y_2)) (0:Int)])) z13))∧(z7=false→A28 N [1,1,1,1,1,0,1,0,1,1,1,0,1,0,1,1] (Z9T t l []) z13))))∧(z10=false→A28 N [1,1,1,1,1,1] (Z3x t l .junk (.c (.bool z10)) .junk (.c y_3) .junk) Q)))∧(z16=false→((z9=true→(Tr (z3=true))∧(Tr (z0=true))∧(Tr (z0=true))∧(Tr (z0=true))∧(Tr (z0=true))∧(Tr (z0=true))∧(Tr (z0=true))∧((z5=true→(Q .ret (L2 [(4,.ptr (.loc 4) 0),(5,.c (.bool true))] [(.loc 4,[ci t.kind,.nils,.nils])])))∧(z5=false→A28 N [1,1,1,1,1,1] (Z3x t l .junk .junk (.c (.bool z5)) (.c y_3) (.c (.bool z9))) Q)))∧(z9=false→A28 N [1,1,1,1,1,1] (Z3x t l .junk .junk .junk (.c y_3) (.c (.bool z9))) Q))))))))))))):
  A28 N [] (L2 [(0,.agg (enc .tree t)),(1,.c (sU .step l .unk))] []) Q:=
 Eq.mpr (by kernel_rfl) (h _ (Zb _) _ rfl _ rfl _ rfl _ (Zb _))
theorem Z8e(N:Nat)(t:Tree)(l:List PStep)(v62 v78 v119 v7 v104:V U)(Q:QT)(h:(Q .ret (L2 [(4,.ptr (.loc 4) 0),(5,.c (.bool false))] [(.loc 4,[ci 0,.nils,.nils])]))):
  A28 N [1,1,1,1,1,1] (Z3x t l v62 v78 v119 v7 v104) Q:=
 Eq.mpr (by kernel_rfl) h
theorem ZfI(N:Nat)(t:Tree)(l:List PStep)(ml8_1_a:List Int)(Q:QT)(h:(Q .ret (L2 [(4,.ptr (.loc 4) 0),(5,.c (.bool true))] [(.loc 4,[ci 1,sU .u64 ml8_1_a (.own (.l 4 1)),.nils])]))):
  A28 N [1,1,1,1,1,0,1,0,1,1,1,0,1,0,1,1] (Z9T t l ml8_1_a) (xB 0 (S28 N [1,1,1,1,1,1] Q)):=
 Eq.mpr (by kernel_rfl) h
def ZrW(N:Nat)(t:Tree)(l:List PStep):Prop:=AW (Z0 (Zfc N)) Try.f28 ZnL [] (Zl (Zfx.can (t,l,())) []) (EQ Try.f28 (Z1z (t,l,())) [])
theorem Zqe(c45:CT 45 Z8Q)(hb:∀ (N:Nat) (t:Tree) (l:List PStep) (_:Unit),Z7x (t,l,())→Zdr (t,l,()) < N+1→ZrW N t l):CT 28 Z8T:=
 ZT (μ:=Zdr) (l:=[(45,Z8Q)]) Zk rfl (⟨c45,trivial⟩) ZnL Try.func28 rfl rfl 2 (fun _=> rfl) (by decide) (fun N ⟨t,l,_⟩=> hb N t l ())
end
end Go.AM.Ytpjenobkibfpcaa
namespace Go.AM.Ytpjenobkibfpcaa
open Go.AM Go.Proofs
noncomputable section
def Zpd:ArgL (Edit × Tree × List PStep × Unit):=(.cons (aEl .edit) (.cons (aEl .tree) (.cons (aSl .step) .nil)))
def pre6(a:Edit × Tree × List PStep × Unit):Prop:=((Z1J a.1∧ZL a.1)∧Z0Y a.2.1∧rng a.2.1)∧(∀ s∈a.2.2.1,isI (PStep.kind s)∧isI (PStep.at_ s))
def ZjI(a:Edit × Tree × List PStep × Unit):V U:= .c (.bool true)
def ZfM:Fs U:=fs Zpd (fun a=> [pre6 a]) ZjI
def Zp1:List (FuncId × Fs U):=[(14,Z8Z),(15,Z8Y),(16,Z8X),(26,Z8U),(27,Z32),(28,Z8T),(29,Z8S)]
def lv6:Zh U:=lvl [([2,3,4],[3,4]),([2,3,4,30],[3,4]),([6],[]),([2,3,4,7,8],[3,4,7]),([2,4,7,8,9,10,11],[4,7,9]),([7,8,9,10,11,12,13],[7,9,12]),([7,9,10,12,70],[7,9,12]),([6],[]),([9,12,14,15],[9,12,14]),([14,15,16,17],[14,16]),([6],[])]
abbrev A6(p:List Nat):=AW (Z0 Zp1) Try.f6 lv6 p
theorem vc6(e:Edit)(t:Tree)(l:List PStep)(Q:QT)(h:∀ y_1,y_1=e→∀ y_2,y_2=t→∀ y_3,y_3=((Z0d y_1 l).1)→∀ y_4,y_4=((Yh l y_2).1)→∀ y_5,y_5=(Z2R ((doE false y_1 y_2).map Z5))→∀ y_6,y_6=((Yh ((Z0d y_1 l).2.1) y_5).1)→∀ y_7,y_7=(Z2R ((doE false y_3 y_4).map Z5))→let z9:=Q .ret (L2 [(6,.c (.bool true))] []);let z5:= !((doE false y_1 y_2).isSome);let z3:=bif z5 then true else (!((Z0d y_1 l).2.2));let z2:=bif (!(Z2d y_2)) then true else (!(Jz y_1));let z8:=bif z2 then true else (decide ((70:Int) < (l.length:Int)));let z1:=bif ((Yh ((Z0d y_1 l).2.1) y_5).2) then ((doE false y_3 y_4).isSome) else false;let z6:=bif z1 then (Yr y_6 y_7) else false;let z0:=bif z3 then true else (!((Yh l y_2).2));let z4:=bif z0 then true else (!(Z2d y_5));let z7:=bif z4 then true else (((Tree.kind ((Yh l y_2).1)):Int)==10);((Zd8 (y_2,()))∧(Tr ((!(!(Z2d y_2)))=true))∧((!(!(Z2d y_2)))=true→Zgk (y_1,()))∧(Tr ((!(!(Z2d y_2)))=true))∧((!(Z2d y_2))=false→(!(!(Z2d y_2)))=true)∧(Tr ((!z2)=true))∧(Tr ((!z2)=true))∧(z2=false→(!z2)=true)∧((z8=true→(Zd7 ())∧z9)∧(z8=false→(Zd6 (y_1,y_2,()))∧((Zd5 (y_1,l,()))∧((Z7x (y_2,l,()))∧((Tr ((!z5)=true))∧(z5=false→(!z5)=true)∧(Tr ((!z3)=true))∧(z3=false→(!z3)=true)∧(Tr ((!z0)=true))∧((!z0)=true→Zd8 (y_5,()))∧(Tr ((!z0)=true))∧(z0=false→(!z0)=true)∧(Tr ((!z4)=true))∧(Tr ((!z4)=true))∧(z4=false→(!z4)=true)∧((z7=true→(Zd7 ())∧z9)∧(z7=false→(Z7x (y_5,((Z0d y_1 l).2.1),()))∧((Zd6 (y_3,y_4,()))∧((Tr (((Yh ((Z0d y_1 l).2.1) y_5).2)=true))∧(Tr (z1=true))∧(Tr (z1=true))∧(z1=true→Z9h (y_6,y_7,()))∧(Tr (z1=true))∧(z6=true→Zd7 ())∧(Tr (z6=true))∧(Q .ret (L2 [(6,.c (.bool (bif z6 then true else false)))] []))))))))))))):
  A6 [] (L2 [(0,.agg (enc .edit e)),(1,.agg (enc .tree t)),(2,.c (sU .step l .unk))] []) Q:=
 Eq.mpr (by kernel_rfl) (h _ (Zm _) _ (Zb _) _ (Zm _) _ (Zb _) _ (Zb _) _ (Zb _) _ (Zb _))
def Ztq(e:Edit)(t:Tree)(l:List PStep):Prop:=AW (Z0 Zp1) Try.f6 lv6 [] (Zl (Zpd.can (e,t,l,())) []) (EQ Try.f6 (ZjI (e,t,l,())) [])
theorem ZsM(c14:CT 14 Z8Z)(c15:CT 15 Z8Y)(c16:CT 16 Z8X)(c26:CT 26 Z8U)(c27:CT 27 Z32)(c28:CT 28 Z8T)(c29:CT 29 Z8S)(hb:∀ (e:Edit) (t:Tree) (l:List PStep) (_:Unit),pre6 (e,t,l,())→Ztq e t l):CT 6 ZfM:=
 Z4 (l:=[(14,Z8Z),(15,Z8Y),(16,Z8X),(26,Z8U),(27,Z32),(28,Z8T),(29,Z8S)]) Zk rfl (⟨c14,c15,c16,c26,c27,c28,c29,trivial⟩) lv6 Try.func6 rfl rfl 3 (fun _=> rfl) (by decide) (fun ⟨e,t,l,_⟩=> hb e t l ())
end
end Go.AM.Ytpjenobkibfpcaa
namespace Go.AM.Ytpjenobkibfpcaa
open Go.AM Go.Proofs
theorem c28:Contract Try.prog cfg 28 Z8T:=by
 refine Zqe c45 ?_
 intro N t l _ hp hN
 simp only [Z7x,Zdr] at hp hN
 refine ZtZ _ _ _ _ ?_
 rintro y1 rfl y2 hy2 y3 hy3 y4 hy4 y5 rfl
 cases l with
 | nil=>
  (simp only [vcT,vcS])
  refine ⟨fun _=> ⟨by simp only [Z7w];exact hp.1,?_⟩,fun h=> absurd rfl h⟩
  simp only [Z1z,Yh]
  (repeat' (first | exact trivial | exact rfl | apply And.intro))
 | cons s l=>
  have e2:y2=s:=hy2
  subst e2
  dsimp only at hy4
  have hm:Zg y5≤1000000000000:=by have:=Z23 y1 y2.at_.toNat;rw [hy4];omega
  rw [List.length_cons] at hp hN
  (simp only [vcT,vcS])
  have hnil:∀ a:Bool,y2.at_ < 0∨(y1.kind=1∧65535≤y2.at_)→Yh (y2 ::l) y1=(Tree.nil,false):=fun _ h=> by rw [Yh,if_pos h]
  refine ⟨fun h=> ?_,fun _=> ⟨by simp only [List.length_cons];omega,fun a b=> ⟨a,b⟩,fun h=> ?_,fun h=> ⟨fun h0=> ⟨fun hk=> ⟨⟨by omega,hk⟩,by simp only [List.length_cons];omega,⟨hm,by simp only [List.drop_succ_cons,List.drop_zero,Int.toNat_one];omega⟩,by simp only [Zdr,List.drop_succ_cons,List.drop_zero,Int.toNat_one];omega,?_⟩,fun hk=> ⟨fun h1=> ⟨by simp only [List.length_cons];omega,⟨by simp [Zg,Za],by simp only [List.drop_succ_cons,List.drop_zero,Int.toNat_one];omega⟩,by simp only [Zdr,List.drop_succ_cons,List.drop_zero,Int.toNat_one];omega,?_⟩,fun h1=> ?_⟩⟩,fun h0=> ⟨fun h1=> ⟨fun hl=> ⟨fun hw=> ⟨by omega,hw⟩,fun hw=> ⟨⟨by omega,hw.1⟩,?_⟩,fun hw=> ?_⟩,fun hl=> ?_⟩,fun h1=> ⟨fun h2=> ⟨fun hl=> ?_,fun hl=> ?_⟩,fun h2=> ?_⟩⟩⟩⟩⟩
  ·simp only [List.length_cons] at h;omega
  ·simp only [Z1z,hnil true h]
   (repeat' (first | exact trivial | exact rfl | apply And.intro))
  ·simp only [Z1z,Yh,if_neg (show ¬(y2.at_ < 0∨(y1.kind=1∧65535≤y2.at_)) by omega),if_pos h0,if_pos hk,←hy4]
   (repeat' (first | exact trivial | exact rfl | apply And.intro))
  ·simp only [Z1z,Yh,if_neg (show ¬(y2.at_ < 0∨(y1.kind=1∧65535≤y2.at_)) by omega),if_pos h0,if_neg hk,if_pos h1]
   (repeat' (first | exact trivial | exact rfl | apply And.intro))
  ·refine Z8e _ _ _ _ _ _ _ _ _ ?_
   simp only [Z1z,Yh,if_neg (show ¬(y2.at_ < 0∨(y1.kind=1∧65535≤y2.at_)) by omega),if_pos h0,if_neg hk,if_neg h1]
   (repeat' (first | exact trivial | exact rfl | apply And.intro))
  ·refine ZfI _ _ _ _ _ ?_
   simp only [List.length_cons] at hl
   simp only [Z1z,Yh,if_neg (show ¬(y2.at_ < 0∨(y1.kind=1∧65535≤y2.at_)) by omega),if_neg h0,if_pos h1,if_pos (show l.length=0∧y1.kind=1 by omega),if_pos (show y2.at_ < y1.words.length∧y1.words.getD y2.at_.toNat 0≠0 from hw)]
   (repeat' (first | exact trivial | exact rfl | apply And.intro))
  ·refine ZfI _ _ _ _ _ ?_
   simp only [List.length_cons] at hl
   simp only [Z1z,Yh,if_neg (show ¬(y2.at_ < 0∨(y1.kind=1∧65535≤y2.at_)) by omega),if_neg h0,if_pos h1,if_pos (show l.length=0∧y1.kind=1 by omega),if_neg (show ¬(y2.at_ < y1.words.length∧y1.words.getD y2.at_.toNat 0≠0) by omega)]
   (repeat' (first | exact trivial | exact rfl | apply And.intro))
  ·refine Z8e _ _ _ _ _ _ _ _ _ ?_
   simp only [List.length_cons] at hl
   simp only [Z1z,Yh,if_neg (show ¬(y2.at_ < 0∨(y1.kind=1∧65535≤y2.at_)) by omega),if_neg h0,if_pos h1,if_neg (show ¬(l.length=0∧y1.kind=1) by omega)]
   (repeat' (first | exact trivial | exact rfl | apply And.intro))
  ·simp only [List.length_cons] at hl
   simp only [Z1z,Yh,if_neg (show ¬(y2.at_ < 0∨(y1.kind=1∧65535≤y2.at_)) by omega),if_neg h0,if_neg h1,if_pos h2,if_pos (show l.length=0∧(2≤y1.kind∧y1.kind≤9)∧y2.at_≤y1.kids.length by omega)]
   (repeat' (first | exact trivial | exact rfl | apply And.intro))
  ·refine Z8e _ _ _ _ _ _ _ _ _ ?_
   simp only [List.length_cons] at hl
   simp only [Z1z,Yh,if_neg (show ¬(y2.at_ < 0∨(y1.kind=1∧65535≤y2.at_)) by omega),if_neg h0,if_neg h1,if_pos h2,if_neg (show ¬(l.length=0∧(2≤y1.kind∧y1.kind≤9)∧y2.at_≤y1.kids.length) by omega)]
   (repeat' (first | exact trivial | exact rfl | apply And.intro))
  ·refine Z8e _ _ _ _ _ _ _ _ _ ?_
   simp only [Z1z,Yh,if_neg (show ¬(y2.at_ < 0∨(y1.kind=1∧65535≤y2.at_)) by omega),if_neg h0,if_neg h1,if_neg h2]
   (repeat' (first | exact trivial | exact rfl | apply And.intro))
end Go.AM.Ytpjenobkibfpcaa
namespace Go.AM.Ytpjenobkibfpcaa
open Go.AM Go.Proofs
theorem ZbN:∀ (l:List PStep) (e:Edit) (d:Int) (m:List PStep),Z3 e d=true→ZL e→(Ze (YE l e m).1≤Ze e∧ZL (YE l e m).1∧∃ d,Z3 (YE l e m).1 d=true)∧(YE l e m).2.1.length≤m.length+l.length
 | [],e,d,m,hr,hg=> by rw [YE];exact ⟨⟨Nat.le_refl _,hg,d,hr⟩,by simp⟩
 | s ::l,e,d,m,hr,hg=> by
  have hno:(Ze Edit.nil≤Ze e∧ZL Edit.nil∧∃ d,Z3 Edit.nil d=true)∧([]:List PStep).length≤m.length+(s ::l).length:=by
   have:=Z3p e
   exact ⟨⟨by rw [JS];omega,Z07,64,Z0v⟩,by simp⟩
  rw [YE]
  split
  ·exact hno
  ·split
   ·obtain ⟨h1,h2,d',h3⟩:=Zc2 hr hg s.at_
    have ih:=ZbN l _ d' (m++[s]) h3 h2
    simp only [List.length_append,List.length_cons,List.length_nil] at ih ⊢
    exact ⟨⟨by omega,ih.1.2⟩,by omega⟩
   ·split
    ·split
     ·rename_i h4
      obtain ⟨h1,h2,d',h3⟩:=Zkp hr hg (Z2f _ _ _ _ h4)
      have ih:=ZbN l _ d' (m++[⟨s.kind,(Yi e.ops s.at_ 0 0).2.1⟩]) h3 h2
      simp only [List.length_append,List.length_cons,List.length_nil] at ih ⊢
      exact ⟨⟨by omega,ih.1.2⟩,by omega⟩
     ·exact hno
    ·have ih:=ZbN l e d (m++[s]) hr hg
     simp only [List.length_append,List.length_cons,List.length_nil] at ih ⊢
     exact ⟨ih.1,by omega⟩
theorem ZmY{l:List PStep}{e:Edit}{d:Int}(hr:Z3 e d=true)(hg:ZL e):Ze (Z0d e l).1≤Ze e∧ZL (Z0d e l).1∧(∃ d,Z3 (Z0d e l).1 d=true)∧(Z0d e l).2.1.length≤l.length:=by
 obtain ⟨⟨h1,h2,d',h3⟩,h4⟩:=ZbN l e d [] hr hg
 unfold Z0d
 split
 ·have:=Z6X (YE l e []).1
  exact ⟨by dsimp only;omega,Z3P _ d' h3 h2,⟨d',Z11 _ _ h3⟩,by simpa using h4⟩
 ·have:=Z3p e
  exact ⟨by dsimp only;rw [JS];omega,Z07,⟨64,Z0v⟩,by simp⟩
theorem Z4c:∀ (l:List PStep) (t:Tree),Zg (Yh l t).1≤Zg t+1
 | [],t=> by rw [Yh];have:=Jc t;dsimp only;omega
 | s ::l,t=> by
  have h1:=Z0e t
  have hz:Zg Tree.nil≤Zg t+1:=by simp only [Tree.nil,Zg,Za,List.length_nil];omega
  rw [Yh]
  split
  ·exact hz
  ·split
   ·split
    ·have:=Z4c l (t.kids.getD s.at_.toNat Tree.nil)
     have:=Z23 t s.at_.toNat
     omega
    ·split
     ·have:=Z4c l Tree.nil
      simp only [Tree.nil,Zg,Za,List.length_nil] at this ⊢
      omega
     ·exact hz
   ·split
    ·split
     ·simp only [Zg,Za]
      split <;> simp only [List.length_cons,List.length_nil] <;> omega
     ·exact hz
    ·split
     ·split
      ·simp only [Zg,Za,List.length_nil];omega
      ·exact hz
     ·exact hz
theorem ZfS{o:Option Tree}(h:o.isSome=true):∃ v,o=some v:=by cases o with | none=> cases h | some v=> exact ⟨v,rfl⟩
theorem c6:Contract Try.prog cfg 6 ZfM:=by
 refine ZsM c14 c15 c16 c26 c27 c28 c29 ?_
 intro e t l _ hp
 simp only [pre6] at hp
 obtain ⟨⟨⟨he,hre⟩,ht,hr⟩,hl⟩:=hp
 refine vc6 _ _ _ _ ?_
 rintro y1 rfl y2 rfl y3 hy3 y4 hy4 y5 hy5 y6 hy6 y7 hy7
 dsimp only at hy3 hy4 hy5 hy6 hy7
 (simp only [vcT,vcS])
 refine ⟨⟨ht,hr⟩,fun _=> ⟨he,hre⟩,fun _=> ⟨trivial,?_⟩,fun hg=> ?_⟩
 ·simp only [ZjI];(repeat' (first | exact trivial | exact rfl | apply And.intro))
 obtain ⟨⟨g1,g2⟩,g3⟩:=hg
 obtain ⟨_,rt,r64,_⟩:=Zlg g1 hr
 have hm:=Zp4 g1
 have P:=Zkh (t:=y2) g2 hre (by omega) hr
 obtain ⟨_,gm,gr⟩:=Zlf g2 hre
 have hn:=ZmY (l:=l) gr hre
 rw [←hy3] at hn
 have h4:=Z4c l y2
 rw [←hy4] at h4
 have h5:Zg y5≤1000000000000:=by rw [hy5];exact ZeK ⟨64,gr⟩ P.2.1
 have hx:=Z8p y3
 refine ⟨P,⟨⟨by dsimp only;omega,hre,64,gr⟩,by dsimp only;omega⟩,⟨by dsimp only;omega,by dsimp only;omega⟩,fun h=> ?_,fun _=> ⟨trivial,by simp only [ZjI];(repeat' (first | exact trivial | exact rfl | apply And.intro))⟩,fun h=> ?_⟩
 ·obtain ⟨v,hv⟩:=ZfS h.1.1
  rw [hv] at hy5
  have hv':=ZdR gr rt hre hv
  exact ⟨Z4m _ (by dsimp only;omega),by rw [hy5];exact Z05 _ hv'.2⟩
 ·obtain ⟨⟨⟨⟨k1,k2⟩,k3⟩,k4⟩,k5⟩:=h
  obtain ⟨v,hv⟩:=ZfS k1
  rw [hv] at hy5
  have hy5:y5=Z5 v:=hy5
  have n3:Z0d y1 l=(y3,(Z0d y1 l).2.1,true):=by rw [hy3,←k2]
  have n4:Yh l y2=(y4,true):=by rw [hy4,←k3]
  obtain ⟨now,z,i1,i2,i3,i4,i5,i6⟩:=Zlp gr hre rt hv n3 n4
  rw [←hy5] at i1
  have e6:y6=now:=by rw [hy6,i1]
  have e7:y7=Z5 z:=by rw [hy7,i2];try rfl
  have m6:=Z4c (Z0d y1 l).2.1 y5
  rw [←hy6] at m6
  have m5:Zg y5≤3000:=Zp4 k4
  refine ⟨⟨by dsimp only;omega,by dsimp only;omega⟩,⟨⟨by dsimp only;omega,i5,i6⟩,by dsimp only;omega,i4.2⟩,fun _=> by show Zg y6≤1000000000000;omega,fun _=> trivial,?_⟩
  rw [i1,i2,e6,e7,i3,Zef]
  simp only [ZjI]
  (repeat' (first | exact trivial | exact rfl | apply And.intro))
end Go.AM.Ytpjenobkibfpcaa
