import Derived.Test.YtcljdbpmjdgooaaEB1
set_option linter.unusedSimpArgs false
set_option linter.unusedVariables false
namespace Go.AM.Ytcljdbpmjdgooaa
open Go.AM Go.Proofs
theorem Z17(t:Tree):(Zi t).kind=t.kind:=by
 obtain ⟨k,w,ks⟩:=t
 simp only [Zi]
 split
 .rename_i h;simp [h,Tree.nil]
 .split
  .rename_i h;simp [h]
  .try rfl
theorem Z5J:∀ (l:List Int),∃ r,l=JA l++r
 | []=> ⟨[],rfl⟩
 | x ::r=> by
  obtain ⟨s,hs⟩:=Z5J r
  simp only [JA]
  split
  .rename_i e
   split
   .exact ⟨x ::r,rfl⟩
   .exact ⟨r,rfl⟩
  .rename_i y t e
   rw [e] at hs
   exact ⟨s,by rw [hs];rfl⟩
theorem Z3W:∀ (l:List Tree),∃ r,l=YS l++r
 | []=> ⟨[],rfl⟩
 | x ::r=> by
  obtain ⟨s,hs⟩:=Z3W r
  simp only [YS]
  split
  .rename_i e
   split
   .exact ⟨x ::r,rfl⟩
   .exact ⟨r,rfl⟩
  .rename_i y t e
   rw [e] at hs
   exact ⟨s,by rw [hs];rfl⟩
theorem Z6m{list d:Int}:∀ (a b:List Tree),Yf list (a++b) d=true->Yf list a d=true
 | [],_,_=> rfl
 | t ::r,b,h=> by
  simp only [Xi,Yf,Q2] at h ⊢
  exact ⟨h.1,Z6m r b h.2⟩
theorem Zdi{list:Int}{t:Tree}(h:Jj list t=true):Jj list (Zi t)=true:=by
 unfold Jj at h ⊢
 rw [Z17]
 split at h
 .rename_i hl
  rw [if_pos hl]
  simp only [Q2,decide_eq_true_eq] at h ⊢
  obtain ⟨⟨h1,h2,h3⟩,h4⟩:=h
  obtain ⟨k,w,ks⟩:=t
  simp only [Tree.kind_mk,Tree.kids_mk,Tree.words_mk] at h1 h2 h3 h4
  have:ks=[]:=QL.1 h2
  subst this
  subst h1
  exact ⟨⟨rfl,rfl,h3⟩,h4⟩
 .rename_i hl
  rw [if_neg hl]
  exact h
mutual
theorem Jw:∀ (t:Tree) (d:Int),Z6 t d=true->Z6 (Zi t) d=true
 | .mk k w ks,d,h=> by
  have ih:=fun (list:Int) (h:Yf list ks (d - 1)=true)=> Z4L ks list (d - 1) h
  simp only [Z6] at h
  simp only [Zi]
  by_cases h0:k=0
  .rw [if_pos h0];simp [Tree.nil,Z6]
  .rw [if_neg h0] at h ⊢
   by_cases h10:k=10
   .subst h10
    rw [if_pos rfl] at h
    rw [if_neg (by decide)]
    simp only [decide_eq_true_eq] at h
    simp only [Z6]
    rw [if_neg (by decide),if_pos trivial,JQ]
    simpa using h
   .rw [if_neg h10] at h
    by_cases hd:d=0
    .rw [if_pos hd] at h;cases h
    .rw [if_neg hd] at h
     by_cases h1:k=1
     .subst h1
      rw [if_pos rfl] at h
      rw [if_pos rfl]
      simp only [Q2,decide_eq_true_eq] at h
      simp only [Z6]
      rw [if_neg (by decide),if_neg (by decide),if_neg hd,if_pos trivial]
      simp only [Q2,decide_eq_true_eq]
      obtain ⟨r1,e1⟩:=Z5J w
      obtain ⟨r2,e2⟩:=Z3W (YD ks)
      have l1:=congrArg List.length e1
      have l2:=congrArg List.length e2
      rw [JQ] at l2
      simp only [Qa] at l1 l2
      refine ⟨⟨by omega,by omega⟩,?_⟩
      have:=ih 1 h.2
      rw [e2] at this
      exact Z6m _ _ this
     .rw [if_neg h1] at h ⊢
      simp only [Q2,decide_eq_true_eq] at h
      simp only [Z6]
      rw [if_neg h0,if_neg h10,if_neg hd,if_neg h1,JQ]
      simp only [Q2,decide_eq_true_eq]
      exact ⟨h.1,ih k h.2⟩
theorem Z4L:∀ (l:List Tree) (list d:Int),Yf list l d=true->Yf list (YD l) d=true
 | [],_,_,_=> rfl
 | t ::r,list,d,h=> by
  simp only [Yf,Q2] at h
  have h1:=Jw t d h.1.2
  have h2:=Z4L r list d h.2
  simp only [YD,Yf,Q2]
  exact ⟨⟨Zdi h.1.1,h1⟩,h2⟩
end
theorem Z9E:∀ {a b:List Tree},Z1p (a++b)↔Z1p a/\Z1p b
 | [],b=> by simp [Z1p]
 | t ::r,b=> by simp only [Xi,Z1p];rw [Z9E (a:=r),and_assoc]
mutual
theorem Z3n:∀ (t:Tree),rng t->rng (Zi t)
 | .mk k w ks,h=> by
  simp only [rng] at h
  obtain ⟨h1,h2,h3⟩:=h
  have h4:=Z7r ks h3
  simp only [Zi]
  split
  .simp only [Tree.nil,rng,Z1p]
   exact ⟨by decide,by simp,trivial⟩
  .split
   .obtain ⟨r1,e1⟩:=Z5J w
    obtain ⟨r2,e2⟩:=Z3W (YD ks)
    simp only [rng]
    refine ⟨by decide,fun x hx=> h2 x (by rw [e1];exact Qt.2 (Or.inl hx)),?_⟩
    rw [e2] at h4
    exact (Z9E.1 h4).1
   .simp only [rng]
    exact ⟨h1,h2,h4⟩
theorem Z7r:∀ (l:List Tree),Z1p l->Z1p (YD l)
 | [],_=> trivial
 | t ::r,h=> by
  simp only [Z1p] at h
  have h1:=Z3n t h.1
  have h2:=Z7r r h.2
  simp only [YD,Z1p]
  exact ⟨h1,h2⟩
end
theorem ZeP(t:Tree):1<=ZE t:=by cases t;rw [ZE];omega
theorem Z8R:∀ (ks:List Tree),frW ks+frK ks+ks.length<=Yo ks
 | []=> by simp [frW,frK,Yo]
 | .mk k w l ::r=> by
  have:=Z8R r
  have h:l.length<=Yo l:=by
   clear this
   induction l with
   | nil=> simp
   | cons t l ih=> rw [Yo,Qv];have:=ZeP t;omega
  rw [frW,frK,Yo,ZE,Qv]
  show max w.length _+max l.length _+_<=_
  omega
noncomputable section
noncomputable section
def Zg9:ArgL (Int × Int × Unit):=(.cons (Zv .i64) (.cons (Zv .u64) .nil))
def Z7I(a:Int × Int × Unit):Prop:=0<=a.2.1/\a.2.1 < 18446744073709551616
def Ziy(a:Int × Int × Unit):V U:= .c (.bool (J7 a.1 a.2.1))
def Z1B:Fs U:=fs Zg9 (fun a=> [Z7I a]) Ziy
def Ziv(a:Int × Unit):V U:= .c (.bool (decide (2<=a.1/\a.1<=9)))
def Z5Z:Fs U:=fs Zg0 (fun a=> [Z6w a]) Ziv
def Zg5:ArgL (Int × Tree × Unit):=(.cons (Zv .i64) (.cons (aEl .tree) .nil))
def Z9T(a:Int × Tree × Unit):Prop:=rng a.2.1
def Ziu(a:Int × Tree × Unit):V U:= .c (.bool (Jj a.1 a.2.1))
def Z5Y:Fs U:=fs Zg5 (fun a=> [Z9T a]) Ziu
def Z2M(a:Tree × Int × Unit):Prop:=ZE a.1<=1000000/\rng a.1/\0<=a.2.1/\a.2.1<=1000
def Z76(a:Tree × Int × Unit):Nat:=ZE a.1
def ZbR(a:Tree × Int × Unit):V U:= .c (.bool (Z6 a.1 a.2.1))
def Z63:Fs U:=fs Zg7 (fun a=> [Z2M a]) ZbR
def Zca(a:Tree × Unit):Prop:=ZE a.1<=1000000/\rng a.1
def ZiG(a:Tree × Unit):V U:= .c (.bool (Z6 a.1 64))
def Z6a:Fs U:=fs Zj2 (fun a=> [Zca a]) ZiG
def Jl:List (FuncId × Fs U):=[(80,JW)]
def Z5s:Zc U:=lvl [([0,1],[]),([1,5],[]),([1,5,10],[]),([4],[]),([1,5,6],[]),([1,5,6,13],[]),([1,5,6],[]),([1,5,6],[]),([4],[])]
def Z06(c n x1 x6:Int):LSt U:=(L2 [(1,.c (.int .u64 x1)),pI 5 (wd c),pI 6 x6] [])
abbrev Zbv:=awp cfg (Z1 Jl) (ZA cfg (Z1 Jl)) Try.f47.ntmps Z5s
abbrev ZaF:=Z6h cfg (Z1 Jl) (ZA cfg (Z1 Jl)) Try.f47.ntmps Z5s
theorem Zni(c n:Int)(Q:QT)(h:(Z6w (c,()))/\(((decide (((wd c):Int) < 0))=true->Q .ret (L2 [pB 4 false] []))/\((decide (((wd c):Int) < 0))=false->Zo (AW (Z1 Jl) Try.f47 Z5s [1,1,1,0,1,0,0]) (Z06 c n n 0) (xB 0 (SW (Z1 Jl) Try.f47 Z5s [1,1,1,1] Q))))):
  AW (Z1 Jl) Try.f47 Z5s [] (L2 [pI 0 c,(1,.c (.int .u64 n))] []) Q:=by
 have e:(AW (Z1 Jl) Try.f47 Z5s [] (L2 [pI 0 c,(1,.c (.int .u64 n))] []) Q)=((Z6w (c,()))/\(((decide (((wd c):Int) < 0))=true->(Q .ret (L2 [pB 4 false] [])))/\((decide (((wd c):Int) < 0))=false->(Zo (Zbv (cd Try.f47 [1,1,1,0,1,0,0])) (Z06 c n n 0) (xB 0 (ZaF (cd Try.f47 [1,1,1,1]) Q)))))):=by kernel_rfl
 exact e.mpr ⟨h.1,⟨fun c_7=> (h.2.1 c_7),fun c_7=> (h.2.2 c_7)⟩⟩
theorem ZgO(c n x1 x6:Int)(N0:NT)(Q:QT)(h:((decide (x6 < (wd c)))=true->((2:Int)≠0)/\((InR (x6+1))/\(N0 (Z06 c n (IntKind.wrap .u64 (Int.tdiv x1 2)) (x6+1)))))/\((decide (x6 < (wd c)))=false->Q .ret (L2 [pB 4 (x1==0)] []))):
  AW (Z1 Jl) Try.f47 Z5s [1,1,1,0,1,0,0] (Z06 c n x1 x6) (xT N0 (xB 0 (SW (Z1 Jl) Try.f47 Z5s [1,1,1,1] Q))):=by
 have e:(AW (Z1 Jl) Try.f47 Z5s [1,1,1,0,1,0,0] (Z06 c n x1 x6) (xT N0 (xB 0 (SW (Z1 Jl) Try.f47 Z5s [1,1,1,1] Q))))=(((decide ((x6:Int) < (wd c)))=true->((2:Int)≠0)/\((InR ((x6:Int)+1))/\(N0 (Z06 c n (IntKind.wrap .u64 (Int.tdiv x1 2)) ((x6:Int)+1)))))/\((decide ((x6:Int) < (wd c)))=false->(Q .ret (L2 [pB 4 ((x1:Int)==0)] [])))):=by kernel_rfl
 exact e.mpr ⟨fun c_8=> ⟨(h.1 c_8).1,⟨(h.1 c_8).2.1,(h.1 c_8).2.2⟩⟩,fun c_8=> (h.2 c_8)⟩
def Zly(c n:Int):Prop:=AW (Z1 Jl) Try.f47 Z5s [] (Zs (Zg9.can (c,n,())) []) (EQ Try.f47 (Ziy (c,n,())) [])
theorem ZjW(c80:CT 80 JW)(hb:∀ (c:Int) (n:Int) (_:Unit),Z7I (c,n,())->Zly c n):CT 47 Z1B:=
 Z3 (l:=[(80,JW)]) Zf rfl (⟨c80,trivial⟩) Z5s Try.func47 rfl rfl 2 (fun _=> rfl) (by decide) (fun ⟨c,n,_⟩=> hb c n ())
def Zb3:List (FuncId × Fs U):=[(88,JV)]
def Zhw:Zc U:=lvl [([0,1],[]),([1,5,6],[]),([4],[])]
theorem ZmP(c n:Int)(Q:QT)(h:(Z6w (c,()))/\((((decide (0<=wd c)) && (!(((if wd c < 0 then 0 else wd c):Int)==64)))=true->(0:Int)<=(if wd c < 0 then 0 else wd c))/\(Q .ret (L2 [(4,.c (.bool (bif (decide (0<=wd c)) then (bif (((if wd c < 0 then 0 else wd c):Int)==64) then true else (((Int.fdiv n (2 ^ (min (Int.toNat (if wd c < 0 then 0 else wd c)) (IntKind.bits .u64)))):Int)==0)) else false)))] [])))):
  AW (Z1 Zb3) Try.f89 Zhw [] (L2 [pI 0 c,(1,.c (.int .u64 n))] []) Q:=by
 have e:(AW (Z1 Zb3) Try.f89 Zhw [] (L2 [pI 0 c,(1,.c (.int .u64 n))] []) Q)=(let zz0:=(((if wd c < 0 then 0 else wd c):Int)==64);((Z6w (c,()))/\((Tr ((decide (0<=wd c))=true))/\(Tr ((decide (0<=wd c))=true))/\(Tr (((decide (0<=wd c)) && (!zz0))=true))/\(Tr (((decide (0<=wd c)) && (!zz0))=true))/\(((decide (0<=wd c)) && (!zz0))=true->(0:Int)<=(if wd c < 0 then 0 else wd c))/\(Tr (((decide (0<=wd c)) && (!zz0))=true))/\((decide (0<=wd c))=true->(True->(decide (0<=wd c))=true))/\((decide (0<=wd c))=true->(zz0=false->((decide (0<=wd c)) && (!zz0))=true))/\(Tr ((decide (0<=wd c))=true))/\(Q .ret (L2 [(4,.c (.bool (bif (decide (0<=wd c)) then (bif zz0 then true else (((Int.fdiv n (2 ^ (min (Int.toNat (if wd c < 0 then 0 else wd c)) (IntKind.bits .u64)))):Int)==0)) else false)))] []))))):=by kernel_rfl
 exact e.mpr ⟨h.1,⟨id,id,id,id,h.2.1,id,(by generalize (decide (0<=wd c))=b0;revert b0;decide),(by generalize (((if wd c < 0 then 0 else wd c):Int)==64)=b0;generalize (decide (0<=wd c))=b1;revert b0 b1;decide),(by generalize (decide (0<=wd c))=b0;revert b0;decide),h.2.2⟩⟩
def Zl5(c n:Int):Prop:=AW (Z1 Zb3) Try.f89 Zhw [] (Zs (Zg9.can (c,n,())) []) (EQ Try.f89 (Ziy (c,n,())) [])
theorem Zju(c88:CT 88 JV)(hb:∀ (c:Int) (n:Int) (_:Unit),Z7I (c,n,())->Zl5 c n):CT 89 Z1B:=
 Z3 (l:=[(88,JV)]) Zf rfl (⟨c88,trivial⟩) Zhw Try.func89 rfl rfl 2 (fun _=> rfl) (by decide) (fun ⟨c,n,_⟩=> hb c n ())
theorem Zn9(k:Int)(Q:QT)(h:Q .ret (L2 [(2,.c (.bool (bif (decide ((2:Int)<=k)) then (decide (k<=9)) else false)))] [])):
  AW (Z1 Zff) Try.f69 Zko [] (L2 [pI 0 k] []) Q:=by
 have e:(AW (Z1 Zff) Try.f69 Zko [] (L2 [pI 0 k] []) Q)=((Tr ((decide ((2:Int)<=k))=true))/\(Tr ((decide ((2:Int)<=k))=true))/\(Q .ret (L2 [(2,.c (.bool (bif (decide ((2:Int)<=k)) then (decide ((k:Int)<=9)) else false)))] []))):=by kernel_rfl
 exact e.mpr ⟨id,(by generalize (decide ((2:Int)<=k))=b0;revert b0;decide),h⟩
def Zlp(k:Int):Prop:=AW (Z1 Zff) Try.f69 Zko [] (Zs (Zg0.can (k,())) []) (EQ Try.f69 (Ziv (k,())) [])
theorem ZjO(hb:∀ (k:Int) (_:Unit),Z6w (k,())->Zlp k):CT 69 Z5Z:=
 Z3 (l:=[]) Zf rfl trivial Zko Try.func69 rfl rfl 1 (fun _=> rfl) (by decide) (fun ⟨k,_⟩=> hb k ())
def Zb5:List (FuncId × Fs U):=[(86,Z5Q),(89,Z1B)]
def Zhy:Zc U:=lvl [([0,3],[3]),([0,3,5],[3]),([4],[]),([3,32],[3]),([4],[]),([4],[])]
theorem Zn8(l:Int)(t:Tree)(Q:QT)(h:(Z6w (l,()))/\(((decide (2<=l/\l<=7))=true->((bif (bif (t.kind==10) then (((t.kids.length:Int):Int)==0) else false) then (((t.words.length:Int):Int)==1) else false)=true->InR (l - 2))/\((bif (bif (t.kind==10) then (((t.kids.length:Int):Int)==0) else false) then (((t.words.length:Int):Int)==1) else false)=true->(0:Int)<=0/\0 < (t.words.length:Int))/\((bif (bif (t.kind==10) then (((t.kids.length:Int):Int)==0) else false) then (((t.words.length:Int):Int)==1) else false)=true->Z7I ((l - 2),(List.getD t.words (Int.toNat 0) (0:Int)),()))/\(Q .ret (L2 [(4,.c (.bool (bif (bif (bif (t.kind==10) then (((t.kids.length:Int):Int)==0) else false) then (((t.words.length:Int):Int)==1) else false) then (J7 (l - 2) (List.getD t.words (Int.toNat 0) (0:Int))) else false)))] [])))/\((decide (2<=l/\l<=7))=false->((l==9)=true->Q .ret (L2 [pB 4 (t.kind==1)] []))/\((l==9)=false->Q .ret (L2 [pB 4 (t.kind !=10)] []))))):
  AW (Z1 Zb5) Try.f70 Zhy [] (L2 [pI 0 l,(1,.agg (enc .tree t))] []) Q:=by
 have e:(AW (Z1 Zb5) Try.f70 Zhy [] (L2 [pI 0 l,(1,.agg (enc .tree t))] []) Q)=(let zz1:=(bif (t.kind==10) then ((t.kids.length:Int)==0) else false);let zz0:=(bif zz1 then ((t.words.length:Int)==1) else false);((Z6w (l,()))/\(((decide (2<=l/\l<=7))=true->(Tr ((t.kind==10)=true))/\(Tr ((t.kind==10)=true))/\(Tr ((t.kind==10)=true))/\(Tr ((t.kind==10)=true))/\(Tr (zz1=true))/\(Tr (zz1=true))/\(Tr (zz1=true))/\(Tr (zz1=true))/\(Tr (zz0=true))/\(zz0=true->InR ((l:Int) - 2))/\(Tr (zz0=true))/\(Tr (zz0=true))/\(zz0=true->(0:Int)<=0/\0 < (t.words.length:Int))/\(Tr (zz0=true))/\(Tr (zz0=true))/\(Tr (zz0=true))/\(zz0=true->Z7I (((l:Int) - 2),(List.getD t.words (Int.toNat 0) (0:Int)),()))/\(Tr (zz0=true))/\(Q .ret (L2 [(4,.c (.bool (bif zz0 then (J7 ((l:Int) - 2) (List.getD t.words (Int.toNat 0) (0:Int))) else false)))] [])))/\((decide (2<=l/\l<=7))=false->((((l:Int)==9)=true->(Q .ret (L2 [pB 4 (t.kind==1)] [])))/\(((l:Int)==9)=false->(Q .ret (L2 [pB 4 (t.kind !=10)] [])))))))):=by kernel_rfl
 exact e.mpr ⟨h.1,⟨fun c_10=> ⟨id,id,id,(by generalize ((t.kind:Int)==10)=b0;revert b0;decide),id,id,id,(by generalize (((t.kids.length:Int):Int)==0)=b0;generalize ((t.kind:Int)==10)=b1;revert b0 b1;decide),id,(h.2.1 c_10).1,id,id,(h.2.1 c_10).2.1,id,id,id,(h.2.1 c_10).2.2.1,(by generalize (((t.words.length:Int):Int)==1)=b0;generalize (((t.kids.length:Int):Int)==0)=b1;generalize ((t.kind:Int)==10)=b2;revert b0 b1 b2;decide),(h.2.1 c_10).2.2.2⟩,fun c_10=> ⟨fun c_11=> ((h.2.2 c_10).1 c_11),fun c_11=> ((h.2.2 c_10).2 c_11)⟩⟩⟩
def Zlo(l:Int)(t:Tree):Prop:=AW (Z1 Zb5) Try.f70 Zhy [] (Zs (Zg5.can (l,t,())) []) (EQ Try.f70 (Ziu (l,t,())) [])
theorem ZjN(c86:CT 86 Z5Q)(c89:CT 89 Z1B)(hb:∀ (l:Int) (t:Tree) (_:Unit),Z9T (l,t,())->Zlo l t):CT 70 Z5Y:=
 Z3 (l:=[(86,Z5Q),(89,Z1B)]) Zf rfl (⟨c86,c89,trivial⟩) Zhy Try.func70 rfl rfl 2 (fun _=> rfl) (by decide) (fun ⟨l,t,_⟩=> hb l t ())
def Yv(N:Nat):List (FuncId × Fs U):=(39,fs Zg7 (fun a=> [Z2M a,Z76 a < N]) ZbR) ::[(69,Z5Z),(70,Z5Y)]
def Z2F:Zc U:=lvl [([1,2],[2]),([1,2,8],[2]),([4],[]),([1,2,22],[2]),([4],[]),([1,2,36],[2]),([4],[]),([1,2,39],[2]),([1,2,52],[2]),([4],[]),([1,2,53],[2]),([4],[]),([1,2,71,72,73],[2]),([1,2,71,72,73,74],[2]),([1,2,6,71,72,73],[2,6]),([1,2,6,7,71,72,73],[2,6]),([1,2,6,7,71,72,73,82],[2,6]),([1,2,6,7,71,72,73],[2,6]),([1,2,71,72,73,95],[2]),([4],[]),([1,2,71,72,73],[2]),([4],[])]
def Yx(t:Tree)(d x73:Int):LSt U:=(L2 [pI 1 d,pL 2,(71,.c (sU .tree t.kids .unk)),pI 72 (t.kids.length:Int),pI 73 x73] [(.loc 2,(enc .tree t))])
abbrev Z72(N:Nat):=awp cfg (Z1 (Yv N)) (ZA cfg (Z1 (Yv N))) Try.f39.ntmps Z2F
abbrev Z6j(N:Nat):=Z6h cfg (Z1 (Yv N)) (ZA cfg (Z1 (Yv N))) Try.f39.ntmps Z2F
theorem Znq(N:Nat)(t:Tree)(d:Int)(Q:QT)(h:((t.kind==0)=true->Q .ret (L2 [(4,.c (.bool (bif (((t.words.length:Int):Int)==0) then (((t.kids.length:Int):Int)==0) else false)))] []))/\((t.kind==0)=false->((t.kind==10)=true->Q .ret (L2 [(4,.c (.bool (bif (((t.words.length:Int):Int)==1) then (((t.kids.length:Int):Int)==0) else false)))] []))/\((t.kind==10)=false->((d==0)=true->Q .ret (L2 [pB 4 false] []))/\((d==0)=false->((t.kind==1)=true->((bif (decide ((65536:Int)<=(t.words.length:Int))) then true else (decide ((65536:Int)<=(t.kids.length:Int))))=true->Q .ret (L2 [pB 4 false] []))/\((bif (decide ((65536:Int)<=(t.words.length:Int))) then true else (decide ((65536:Int)<=(t.kids.length:Int))))=false->Zo (AW (Z1 (Yv N)) Try.f39 Z2F [1,1,0,1,0,0]) (Yx t d 0) (xB 1 (SW (Z1 (Yv N)) Try.f39 Z2F [1,1,1] Q))))/\((t.kind==1)=false->(Z6w (t.kind,()))/\(((bif (bif (!(decide (2<=t.kind/\t.kind<=9))) then true else (decide ((0:Int) < (t.words.length:Int)))) then true else (decide ((1048576:Int)<=(t.kids.length:Int))))=true->Q .ret (L2 [pB 4 false] []))/\((bif (bif (!(decide (2<=t.kind/\t.kind<=9))) then true else (decide ((0:Int) < (t.words.length:Int)))) then true else (decide ((1048576:Int)<=(t.kids.length:Int))))=false->Zo (AW (Z1 (Yv N)) Try.f39 Z2F [1,1,0,1,0,0]) (Yx t d 0) (xB 1 (SW (Z1 (Yv N)) Try.f39 Z2F [1,1,1] Q))))))))):
  AW (Z1 (Yv N)) Try.f39 Z2F [] (L2 [(0,.agg (enc .tree t)),pI 1 d] []) Q:=by
 have e:(AW (Z1 (Yv N)) Try.f39 Z2F [] (L2 [(0,.agg (enc .tree t)),pI 1 d] []) Q)=(let zz6:=(decide ((65536:Int)<=(t.kids.length:Int)));let zz5:=(decide ((1048576:Int)<=(t.kids.length:Int)));let zz4:=((t.words.length:Int)==1);let zz3:=((t.words.length:Int)==0);let zz2:=(!(decide (2<=t.kind/\t.kind<=9)));let zz1:=(decide ((65536:Int)<=(t.words.length:Int)));let zz0:=(bif zz2 then true else (decide ((0:Int) < (t.words.length:Int))));(((t.kind==0)=true->(Tr (zz3=true))/\(Tr (zz3=true))/\(Tr (zz3=true))/\(Tr (zz3=true))/\(Q .ret (L2 [pB 4 (bif zz3 then ((t.kids.length:Int)==0) else false)] [])))/\((t.kind==0)=false->(((t.kind==10)=true->(Tr (zz4=true))/\(Tr (zz4=true))/\(Tr (zz4=true))/\(Tr (zz4=true))/\(Q .ret (L2 [pB 4 (bif zz4 then ((t.kids.length:Int)==0) else false)] [])))/\((t.kind==10)=false->((((d:Int)==0)=true->(Q .ret (L2 [pB 4 false] [])))/\(((d:Int)==0)=false->(((t.kind==1)=true->(Tr ((!zz1)=true))/\(Tr ((!zz1)=true))/\(Tr ((!zz1)=true))/\(zz1=false->(!zz1)=true)/\(((bif zz1 then true else zz6)=true->(Q .ret (L2 [pB 4 false] [])))/\((bif zz1 then true else zz6)=false->(Zo (Z72 N (cd Try.f39 [1,1,0,1,0,0])) (Yx t d 0) (xB 1 (Z6j N (cd Try.f39 [1,1,1]) Q))))))/\((t.kind==1)=false->(Z6w (t.kind,()))/\(Tr ((!zz2)=true))/\(Tr ((!zz2)=true))/\(Tr ((!zz2)=true))/\(zz2=false->(!zz2)=true)/\(Tr ((!zz0)=true))/\(Tr ((!zz0)=true))/\(Tr ((!zz0)=true))/\(zz0=false->(!zz0)=true)/\(((bif zz0 then true else zz5)=true->(Q .ret (L2 [pB 4 false] [])))/\((bif zz0 then true else zz5)=false->(Zo (Z72 N (cd Try.f39 [1,1,0,1,0,0])) (Yx t d 0) (xB 1 (Z6j N (cd Try.f39 [1,1,1]) Q)))))))))))))):=by kernel_rfl
 exact e.mpr ⟨fun c_12=> ⟨id,id,id,(by generalize (((t.words.length:Int):Int)==0)=b0;revert b0;decide),(h.1 c_12)⟩,fun c_12=> ⟨fun c_13=> ⟨id,id,id,(by generalize (((t.words.length:Int):Int)==1)=b0;revert b0;decide),((h.2 c_12).1 c_13)⟩,fun c_13=> ⟨fun c_14=> (((h.2 c_12).2 c_13).1 c_14),fun c_14=> ⟨fun c_15=> ⟨id,id,id,(by generalize (decide ((65536:Int)<=(t.words.length:Int)))=b0;revert b0;decide),⟨fun c_16=> (((((h.2 c_12).2 c_13).2 c_14).1 c_15).1 c_16),fun c_16=> (((((h.2 c_12).2 c_13).2 c_14).1 c_15).2 c_16)⟩⟩,fun c_15=> ⟨((((h.2 c_12).2 c_13).2 c_14).2 c_15).1,id,id,id,(by generalize (decide (2<=t.kind/\t.kind<=9))=b0;revert b0;decide),id,id,id,(by generalize (decide ((0:Int) < (t.words.length:Int)))=b0;generalize (decide (2<=t.kind/\t.kind<=9))=b1;revert b0 b1;decide),⟨fun c_17=> (((((h.2 c_12).2 c_13).2 c_14).2 c_15).2.1 c_17),fun c_17=> (((((h.2 c_12).2 c_13).2 c_14).2 c_15).2.2 c_17)⟩⟩⟩⟩⟩⟩
theorem ZgT(N:Nat)(t:Tree)(d x73:Int)(N0:NT)(Q:QT)(h:((decide (x73 < (t.kids.length:Int)))=true->((0:Int)<=x73/\x73 < (t.kids.length:Int))/\(((t.kind !=1)=true->(Z9T (t.kind,(Tree.mk (Tree.kind (t.kids.getD x73.toNat Tree.nil)) (Tree.words (t.kids.getD x73.toNat Tree.nil)) (Tree.kids (t.kids.getD x73.toNat Tree.nil))),()))/\(((!(!(Jj t.kind (Tree.mk (Tree.kind (t.kids.getD x73.toNat Tree.nil)) (Tree.words (t.kids.getD x73.toNat Tree.nil)) (Tree.kids (t.kids.getD x73.toNat Tree.nil))))))=true->InR (d - 1))/\((!(!(Jj t.kind (Tree.mk (Tree.kind (t.kids.getD x73.toNat Tree.nil)) (Tree.words (t.kids.getD x73.toNat Tree.nil)) (Tree.kids (t.kids.getD x73.toNat Tree.nil))))))=true->Z2M ((Tree.mk (Tree.kind (t.kids.getD x73.toNat Tree.nil)) (Tree.words (t.kids.getD x73.toNat Tree.nil)) (Tree.kids (t.kids.getD x73.toNat Tree.nil))),(d - 1),()))/\((!(!(Jj t.kind (Tree.mk (Tree.kind (t.kids.getD x73.toNat Tree.nil)) (Tree.words (t.kids.getD x73.toNat Tree.nil)) (Tree.kids (t.kids.getD x73.toNat Tree.nil))))))=true->Z76 ((Tree.mk (Tree.kind (t.kids.getD x73.toNat Tree.nil)) (Tree.words (t.kids.getD x73.toNat Tree.nil)) (Tree.kids (t.kids.getD x73.toNat Tree.nil))),(d - 1),()) < N)/\(((bif (!(Jj t.kind (Tree.mk (Tree.kind (t.kids.getD x73.toNat Tree.nil)) (Tree.words (t.kids.getD x73.toNat Tree.nil)) (Tree.kids (t.kids.getD x73.toNat Tree.nil))))) then true else (!(Z6 (Tree.mk (Tree.kind (t.kids.getD x73.toNat Tree.nil)) (Tree.words (t.kids.getD x73.toNat Tree.nil)) (Tree.kids (t.kids.getD x73.toNat Tree.nil))) (d - 1))))=true->Q .ret (L2 [pB 4 false] []))/\((bif (!(Jj t.kind (Tree.mk (Tree.kind (t.kids.getD x73.toNat Tree.nil)) (Tree.words (t.kids.getD x73.toNat Tree.nil)) (Tree.kids (t.kids.getD x73.toNat Tree.nil))))) then true else (!(Z6 (Tree.mk (Tree.kind (t.kids.getD x73.toNat Tree.nil)) (Tree.words (t.kids.getD x73.toNat Tree.nil)) (Tree.kids (t.kids.getD x73.toNat Tree.nil))) (d - 1))))=false->(InR (x73+1))/\(N0 (Yx t d (x73+1)))))))/\((t.kind !=1)=false->((!(!(((Tree.kind (t.kids.getD x73.toNat Tree.nil)):Int) !=10)))=true->InR (d - 1))/\((!(!(((Tree.kind (t.kids.getD x73.toNat Tree.nil)):Int) !=10)))=true->Z2M ((Tree.mk (Tree.kind (t.kids.getD x73.toNat Tree.nil)) (Tree.words (t.kids.getD x73.toNat Tree.nil)) (Tree.kids (t.kids.getD x73.toNat Tree.nil))),(d - 1),()))/\((!(!(((Tree.kind (t.kids.getD x73.toNat Tree.nil)):Int) !=10)))=true->Z76 ((Tree.mk (Tree.kind (t.kids.getD x73.toNat Tree.nil)) (Tree.words (t.kids.getD x73.toNat Tree.nil)) (Tree.kids (t.kids.getD x73.toNat Tree.nil))),(d - 1),()) < N)/\(((bif (!(((Tree.kind (t.kids.getD x73.toNat Tree.nil)):Int) !=10)) then true else (!(Z6 (Tree.mk (Tree.kind (t.kids.getD x73.toNat Tree.nil)) (Tree.words (t.kids.getD x73.toNat Tree.nil)) (Tree.kids (t.kids.getD x73.toNat Tree.nil))) (d - 1))))=true->Q .ret (L2 [pB 4 false] []))/\((bif (!(((Tree.kind (t.kids.getD x73.toNat Tree.nil)):Int) !=10)) then true else (!(Z6 (Tree.mk (Tree.kind (t.kids.getD x73.toNat Tree.nil)) (Tree.words (t.kids.getD x73.toNat Tree.nil)) (Tree.kids (t.kids.getD x73.toNat Tree.nil))) (d - 1))))=false->(InR (x73+1))/\(N0 (Yx t d (x73+1))))))))/\((decide (x73 < (t.kids.length:Int)))=false->Q .ret (L2 [pB 4 true] []))):
  AW (Z1 (Yv N)) Try.f39 Z2F [1,1,0,1,0,0] (Yx t d x73) (xT N0 (xB 1 (SW (Z1 (Yv N)) Try.f39 Z2F [1,1,1] Q))):=by
 have e:(AW (Z1 (Yv N)) Try.f39 Z2F [1,1,0,1,0,0] (Yx t d x73) (xT N0 (xB 1 (SW (Z1 (Yv N)) Try.f39 Z2F [1,1,1] Q))))=(let zz2:=(!(Z6 (Tree.mk (Tree.kind (t.kids.getD x73.toNat Tree.nil)) (Tree.words (t.kids.getD x73.toNat Tree.nil)) (Tree.kids (t.kids.getD x73.toNat Tree.nil))) ((d:Int) - 1)));let zz1:=(!(((Tree.kind (t.kids.getD x73.toNat Tree.nil)):Int) !=10));let zz0:=(!(Jj t.kind (Tree.mk (Tree.kind (t.kids.getD x73.toNat Tree.nil)) (Tree.words (t.kids.getD x73.toNat Tree.nil)) (Tree.kids (t.kids.getD x73.toNat Tree.nil)))));(((decide ((x73:Int) < (t.kids.length:Int)))=true->((0:Int)<=x73/\x73 < (t.kids.length:Int))/\(((t.kind !=1)=true->(Z9T (t.kind,(Tree.mk (Tree.kind (t.kids.getD x73.toNat Tree.nil)) (Tree.words (t.kids.getD x73.toNat Tree.nil)) (Tree.kids (t.kids.getD x73.toNat Tree.nil))),()))/\((Tr ((!zz0)=true))/\((!zz0)=true->InR ((d:Int) - 1))/\(Tr ((!zz0)=true))/\(Tr ((!zz0)=true))/\((!zz0)=true->Z2M ((Tree.mk (Tree.kind (t.kids.getD x73.toNat Tree.nil)) (Tree.words (t.kids.getD x73.toNat Tree.nil)) (Tree.kids (t.kids.getD x73.toNat Tree.nil))),((d:Int) - 1),()))/\((!zz0)=true->Z76 ((Tree.mk (Tree.kind (t.kids.getD x73.toNat Tree.nil)) (Tree.words (t.kids.getD x73.toNat Tree.nil)) (Tree.kids (t.kids.getD x73.toNat Tree.nil))),((d:Int) - 1),()) < N)/\(Tr ((!zz0)=true))/\(zz0=false->(!zz0)=true)/\(((bif zz0 then true else zz2)=true->(Q .ret (L2 [pB 4 false] [])))/\((bif zz0 then true else zz2)=false->(InR ((x73:Int)+1))/\(N0 (Yx t d ((x73:Int)+1)))))))/\((t.kind !=1)=false->(Tr ((!zz1)=true))/\((!zz1)=true->InR ((d:Int) - 1))/\(Tr ((!zz1)=true))/\(Tr ((!zz1)=true))/\((!zz1)=true->Z2M ((Tree.mk (Tree.kind (t.kids.getD x73.toNat Tree.nil)) (Tree.words (t.kids.getD x73.toNat Tree.nil)) (Tree.kids (t.kids.getD x73.toNat Tree.nil))),((d:Int) - 1),()))/\((!zz1)=true->Z76 ((Tree.mk (Tree.kind (t.kids.getD x73.toNat Tree.nil)) (Tree.words (t.kids.getD x73.toNat Tree.nil)) (Tree.kids (t.kids.getD x73.toNat Tree.nil))),((d:Int) - 1),()) < N)/\(Tr ((!zz1)=true))/\(zz1=false->(!zz1)=true)/\(((bif zz1 then true else zz2)=true->(Q .ret (L2 [pB 4 false] [])))/\((bif zz1 then true else zz2)=false->(InR ((x73:Int)+1))/\(N0 (Yx t d ((x73:Int)+1))))))))/\((decide ((x73:Int) < (t.kids.length:Int)))=false->(Q .ret (L2 [pB 4 true] []))))):=by kernel_rfl
 exact e.mpr ⟨fun c_18=> ⟨(h.1 c_18).1,⟨fun c_19=> ⟨((h.1 c_18).2.1 c_19).1,⟨id,((h.1 c_18).2.1 c_19).2.1,id,id,((h.1 c_18).2.1 c_19).2.2.1,((h.1 c_18).2.1 c_19).2.2.2.1,id,(by generalize (Jj t.kind (Tree.mk (Tree.kind (t.kids.getD x73.toNat Tree.nil)) (Tree.words (t.kids.getD x73.toNat Tree.nil)) (Tree.kids (t.kids.getD x73.toNat Tree.nil))))=b0;revert b0;decide),⟨fun c_20=> (((h.1 c_18).2.1 c_19).2.2.2.2.1 c_20),fun c_20=> ⟨(((h.1 c_18).2.1 c_19).2.2.2.2.2 c_20).1,(((h.1 c_18).2.1 c_19).2.2.2.2.2 c_20).2⟩⟩⟩⟩,fun c_19=> ⟨id,((h.1 c_18).2.2 c_19).1,id,id,((h.1 c_18).2.2 c_19).2.1,((h.1 c_18).2.2 c_19).2.2.1,id,(by generalize (((Tree.kind (t.kids.getD x73.toNat Tree.nil)):Int) !=10)=b0;revert b0;decide),⟨fun c_21=> (((h.1 c_18).2.2 c_19).2.2.2.1 c_21),fun c_21=> ⟨(((h.1 c_18).2.2 c_19).2.2.2.2 c_21).1,(((h.1 c_18).2.2 c_19).2.2.2.2 c_21).2⟩⟩⟩⟩⟩,fun c_18=> (h.2 c_18)⟩
def ZlG(N:Nat)(t:Tree)(d:Int):Prop:=AW (Z1 (Yv N)) Try.f39 Z2F [] (Zs (Zg7.can (t,d,())) []) (EQ Try.f39 (ZbR (t,d,())) [])
theorem Zk2(c69:CT 69 Z5Z)(c70:CT 70 Z5Y)(hb:∀ (N:Nat) (t:Tree) (d:Int) (_:Unit),Z2M (t,d,())->Z76 (t,d,()) < N+1->ZlG N t d):CT 39 Z63:=
 Jg (μ:=Z76) (l:=[(69,Z5Z),(70,Z5Y)]) Zf rfl (⟨c69,c70,trivial⟩) Z2F Try.func39 rfl rfl 2 (fun _=> rfl) (by decide) (fun N ⟨t,d,_⟩=> hb N t d ())
def Zbc:List (FuncId × Fs U):=[(39,Z63)]
theorem ZnD(t:Tree)(Q:QT)(h:(Z2M ((Tree.mk t.kind t.words t.kids),64,()))/\(Q .ret (L2 [pB 2 (Z6 (Tree.mk t.kind t.words t.kids) 64)] []))):
  AW (Z1 Zbc) Try.f20 lv6 [] (L2 [(0,.agg (enc .tree t))] []) Q:=by
 have e:(AW (Z1 Zbc) Try.f20 lv6 [] (L2 [(0,.agg (enc .tree t))] []) Q)=(type_of% h):=by kernel_rfl
 exact e.mpr ⟨h.1,h.2⟩
def ZlT(t:Tree):Prop:=AW (Z1 Zbc) Try.f20 lv6 [] (Zs (Zj2.can (t,())) []) (EQ Try.f20 (ZiG (t,())) [])
theorem Zkd(c39:CT 39 Z63)(hb:∀ (t:Tree) (_:Unit),Zca (t,())->ZlT t):CT 20 Z6a:=
 Z3 (l:=[(39,Z63)]) Zf rfl (⟨c39,trivial⟩) lv6 Try.func20 rfl rfl 1 (fun _=> rfl) (by decide) (fun ⟨t,_⟩=> hb t ())
def Jm(N:Nat):List (FuncId × Fs U):=(25,fs Zg7 (fun a=> [Z2M a,Z76 a < N]) ZbR) ::[(47,Z1B)]
def Z5t:Zc U:=lvl [([1,2],[2]),([1,2,10],[2]),([4],[]),([1,2,23],[2]),([4],[]),([1,2,68],[2]),([4],[]),([1,2,77],[2]),([4],[]),([1,2,5],[2]),([1,2,5,82],[2]),([1,2,5],[2]),([1,2,5,6],[2,6]),([1,2,5,6,94],[2,6]),([4],[]),([1,2,5,6,7],[2,6]),([1,2,5,131],[2]),([4],[]),([4],[])]
def Z07(t:Tree)(d x5:Int):LSt U:=(L2 [pI 1 d,pL 2,pI 5 x5] [(.loc 2,(enc .tree t))])
abbrev Zbw(N:Nat):=awp cfg (Z1 (Jm N)) (ZA cfg (Z1 (Jm N))) Try.f25.ntmps Z5t
abbrev ZaG(N:Nat):=Z6h cfg (Z1 (Jm N)) (ZA cfg (Z1 (Jm N))) Try.f25.ntmps Z5t
theorem Zny(N:Nat)(t:Tree)(d:Int)(Q:QT)(h:((t.kind==0)=true->Q .ret (L2 [(4,.c (.bool (bif (((t.words.length:Int):Int)==0) then (((t.kids.length:Int):Int)==0) else false)))] []))/\((t.kind==0)=false->((t.kind==10)=true->Q .ret (L2 [(4,.c (.bool (bif (((t.words.length:Int):Int)==1) then (((t.kids.length:Int):Int)==0) else false)))] []))/\((t.kind==10)=false->((bif (bif (bif (bif (bif (decide (t.kind < 0)) then true else (decide ((10:Int) < t.kind))) then true else (d==0)) then true else (decide ((65536:Int)<=(t.words.length:Int)))) then true else (bif (t.kind==1) then (decide ((65536:Int)<=(t.kids.length:Int))) else false)) then true else (decide ((1048576:Int)<=(t.kids.length:Int))))=true->Q .ret (L2 [pB 4 false] []))/\((bif (bif (bif (bif (bif (decide (t.kind < 0)) then true else (decide ((10:Int) < t.kind))) then true else (d==0)) then true else (decide ((65536:Int)<=(t.words.length:Int)))) then true else (bif (t.kind==1) then (decide ((65536:Int)<=(t.kids.length:Int))) else false)) then true else (decide ((1048576:Int)<=(t.kids.length:Int))))=false->((bif (decide ((1:Int) < t.kind)) then (decide ((0:Int) < (t.words.length:Int))) else false)=true->Q .ret (L2 [pB 4 false] []))/\((bif (decide ((1:Int) < t.kind)) then (decide ((0:Int) < (t.words.length:Int))) else false)=false->Zo (AW (Z1 (Jm N)) Try.f25 Z5t [1,1,1,1,1,0,1,0,0]) (Z07 t d 0) (xB 0 (SW (Z1 (Jm N)) Try.f25 Z5t [1,1,1,1,1,1] Q))))))):
  AW (Z1 (Jm N)) Try.f25 Z5t [] (L2 [(0,.agg (enc .tree t)),pI 1 d] []) Q:=by
 have e:(AW (Z1 (Jm N)) Try.f25 Z5t [] (L2 [(0,.agg (enc .tree t)),pI 1 d] []) Q)=(let zz7:=(decide ((1048576:Int)<=(t.kids.length:Int)));let zz6:=(decide (t.kind < 0));let zz5:=((t.words.length:Int)==1);let zz4:=((t.words.length:Int)==0);let zz3:=(decide ((1:Int) < t.kind));let zz2:=(bif (t.kind==1) then (decide ((65536:Int)<=(t.kids.length:Int))) else false);let zz1:=(bif zz6 then true else (decide ((10:Int) < t.kind)));let zz0:=(bif (bif zz1 then true else ((d:Int)==0)) then true else (decide ((65536:Int)<=(t.words.length:Int))));(((t.kind==0)=true->(Tr (zz4=true))/\(Tr (zz4=true))/\(Tr (zz4=true))/\(Tr (zz4=true))/\(Q .ret (L2 [pB 4 (bif zz4 then ((t.kids.length:Int)==0) else false)] [])))/\((t.kind==0)=false->(((t.kind==10)=true->(Tr (zz5=true))/\(Tr (zz5=true))/\(Tr (zz5=true))/\(Tr (zz5=true))/\(Q .ret (L2 [pB 4 (bif zz5 then ((t.kids.length:Int)==0) else false)] [])))/\((t.kind==10)=false->(Tr ((!zz6)=true))/\(Tr ((!zz6)=true))/\(zz6=false->(!zz6)=true)/\(Tr ((!zz1)=true))/\(zz1=false->(!zz1)=true)/\(Tr ((!(bif zz1 then true else ((d:Int)==0)))=true))/\(Tr ((!(bif zz1 then true else ((d:Int)==0)))=true))/\(Tr ((!(bif zz1 then true else ((d:Int)==0)))=true))/\((bif zz1 then true else ((d:Int)==0))=false->(!(bif zz1 then true else ((d:Int)==0)))=true)/\(Tr ((!zz0)=true))/\(Tr ((!zz0)=true))/\(Tr ((!zz0)=true))/\(Tr (((!zz0) && (t.kind==1))=true))/\(Tr (((!zz0) && (t.kind==1))=true))/\(Tr (((!zz0) && (t.kind==1))=true))/\((!zz0)=true->(True->(!zz0)=true))/\((!zz0)=true->((t.kind==1)=true->((!zz0) && (t.kind==1))=true))/\(zz0=false->(!zz0)=true)/\(Tr ((!(bif zz0 then true else zz2))=true))/\(Tr ((!(bif zz0 then true else zz2))=true))/\(Tr ((!(bif zz0 then true else zz2))=true))/\((bif zz0 then true else zz2)=false->(!(bif zz0 then true else zz2))=true)/\(((bif (bif zz0 then true else zz2) then true else zz7)=true->(Q .ret (L2 [pB 4 false] [])))/\((bif (bif zz0 then true else zz2) then true else zz7)=false->(Tr (zz3=true))/\(Tr (zz3=true))/\(Tr (zz3=true))/\(Tr (zz3=true))/\(((bif zz3 then (decide ((0:Int) < (t.words.length:Int))) else false)=true->(Q .ret (L2 [pB 4 false] [])))/\((bif zz3 then (decide ((0:Int) < (t.words.length:Int))) else false)=false->(Zo (Zbw N (cd Try.f25 [1,1,1,1,1,0,1,0,0])) (Z07 t d 0) (xB 0 (ZaG N (cd Try.f25 [1,1,1,1,1,1]) Q)))))))))))):=by kernel_rfl
 exact e.mpr ⟨fun c_22=> ⟨id,id,id,(by generalize (((t.words.length:Int):Int)==0)=b0;revert b0;decide),(h.1 c_22)⟩,fun c_22=> ⟨fun c_23=> ⟨id,id,id,(by generalize (((t.words.length:Int):Int)==1)=b0;revert b0;decide),((h.2 c_22).1 c_23)⟩,fun c_23=> ⟨id,id,(by generalize (decide ((t.kind:Int) < 0))=b0;revert b0;decide),id,(by generalize (decide ((10:Int) < t.kind))=b0;generalize (decide ((t.kind:Int) < 0))=b1;revert b0 b1;decide),id,id,id,(by generalize (decide ((10:Int) < t.kind))=b0;generalize (decide ((t.kind:Int) < 0))=b1;generalize ((d:Int)==0)=b2;revert b0 b1 b2;decide),id,id,id,id,id,id,(by generalize (decide ((65536:Int)<=(t.words.length:Int)))=b0;generalize (decide ((10:Int) < t.kind))=b1;generalize (decide ((t.kind:Int) < 0))=b2;generalize ((d:Int)==0)=b3;revert b0 b1 b2 b3;decide),(by generalize (decide ((65536:Int)<=(t.words.length:Int)))=b0;generalize (decide ((10:Int) < t.kind))=b1;generalize (decide ((t.kind:Int) < 0))=b2;generalize ((t.kind:Int)==1)=b3;generalize ((d:Int)==0)=b4;revert b0 b1 b2 b3 b4;decide),(by generalize (decide ((65536:Int)<=(t.words.length:Int)))=b0;generalize (decide ((10:Int) < t.kind))=b1;generalize (decide ((t.kind:Int) < 0))=b2;generalize ((d:Int)==0)=b3;revert b0 b1 b2 b3;decide),id,id,id,(by generalize (decide ((65536:Int)<=(t.words.length:Int)))=b0;generalize (decide ((65536:Int)<=(t.kids.length:Int)))=b1;generalize (decide ((10:Int) < t.kind))=b2;generalize (decide ((t.kind:Int) < 0))=b3;generalize ((t.kind:Int)==1)=b4;generalize ((d:Int)==0)=b5;revert b0 b1 b2 b3 b4 b5;decide),⟨fun c_24=> (((h.2 c_22).2 c_23).1 c_24),fun c_24=> ⟨id,id,id,(by generalize (decide ((1:Int) < t.kind))=b0;revert b0;decide),⟨fun c_25=> ((((h.2 c_22).2 c_23).2 c_24).1 c_25),fun c_25=> ((((h.2 c_22).2 c_23).2 c_24).2 c_25)⟩⟩⟩⟩⟩⟩
theorem ZgZ(N:Nat)(t:Tree)(d x5:Int)(N0:NT)(Q:QT)(h:((decide (x5 < (t.kids.length:Int)))=true->((0:Int)<=x5/\x5 < (t.kids.length:Int))/\((InR (d - 1))/\(Z2M ((Tree.mk (Tree.kind (t.kids.getD x5.toNat Tree.nil)) (Tree.words (t.kids.getD x5.toNat Tree.nil)) (Tree.kids (t.kids.getD x5.toNat Tree.nil))),(d - 1),()))/\(Z76 ((Tree.mk (Tree.kind (t.kids.getD x5.toNat Tree.nil)) (Tree.words (t.kids.getD x5.toNat Tree.nil)) (Tree.kids (t.kids.getD x5.toNat Tree.nil))),(d - 1),()) < N)/\(((!(Z6 (Tree.mk (Tree.kind (t.kids.getD x5.toNat Tree.nil)) (Tree.words (t.kids.getD x5.toNat Tree.nil)) (Tree.kids (t.kids.getD x5.toNat Tree.nil))) (d - 1)))=true->Q .ret (L2 [pB 4 false] []))/\((!(Z6 (Tree.mk (Tree.kind (t.kids.getD x5.toNat Tree.nil)) (Tree.words (t.kids.getD x5.toNat Tree.nil)) (Tree.kids (t.kids.getD x5.toNat Tree.nil))) (d - 1)))=false->(((!(bif ((bif (decide ((2:Int)<=t.kind)) then (decide (t.kind<=7)) else false) !=(((Tree.kind (t.kids.getD x5.toNat Tree.nil)):Int)==10)) then true else (bif (t.kind==9) then (((Tree.kind (t.kids.getD x5.toNat Tree.nil)):Int) !=1) else false))) && (bif (decide ((2:Int)<=t.kind)) then (decide (t.kind<=7)) else false))=true->InR (t.kind - 2))/\(((!(bif ((bif (decide ((2:Int)<=t.kind)) then (decide (t.kind<=7)) else false) !=(((Tree.kind (t.kids.getD x5.toNat Tree.nil)):Int)==10)) then true else (bif (t.kind==9) then (((Tree.kind (t.kids.getD x5.toNat Tree.nil)):Int) !=1) else false))) && (bif (decide ((2:Int)<=t.kind)) then (decide (t.kind<=7)) else false))=true->(0:Int)<=0/\0 < ((Tree.words (t.kids.getD x5.toNat Tree.nil)).length:Int))/\(((!(bif ((bif (decide ((2:Int)<=t.kind)) then (decide (t.kind<=7)) else false) !=(((Tree.kind (t.kids.getD x5.toNat Tree.nil)):Int)==10)) then true else (bif (t.kind==9) then (((Tree.kind (t.kids.getD x5.toNat Tree.nil)):Int) !=1) else false))) && (bif (decide ((2:Int)<=t.kind)) then (decide (t.kind<=7)) else false))=true->Z7I ((t.kind - 2),(List.getD (Tree.words (t.kids.getD x5.toNat Tree.nil)) (Int.toNat 0) (0:Int)),()))/\(((bif (bif ((bif (decide ((2:Int)<=t.kind)) then (decide (t.kind<=7)) else false) !=(((Tree.kind (t.kids.getD x5.toNat Tree.nil)):Int)==10)) then true else (bif (t.kind==9) then (((Tree.kind (t.kids.getD x5.toNat Tree.nil)):Int) !=1) else false)) then true else (bif (bif (decide ((2:Int)<=t.kind)) then (decide (t.kind<=7)) else false) then (!(J7 (t.kind - 2) (List.getD (Tree.words (t.kids.getD x5.toNat Tree.nil)) (Int.toNat 0) (0:Int)))) else false))=true->Q .ret (L2 [pB 4 false] []))/\((bif (bif ((bif (decide ((2:Int)<=t.kind)) then (decide (t.kind<=7)) else false) !=(((Tree.kind (t.kids.getD x5.toNat Tree.nil)):Int)==10)) then true else (bif (t.kind==9) then (((Tree.kind (t.kids.getD x5.toNat Tree.nil)):Int) !=1) else false)) then true else (bif (bif (decide ((2:Int)<=t.kind)) then (decide (t.kind<=7)) else false) then (!(J7 (t.kind - 2) (List.getD (Tree.words (t.kids.getD x5.toNat Tree.nil)) (Int.toNat 0) (0:Int)))) else false))=false->(InR (x5+1))/\(N0 (Z07 t d (x5+1)))))))))/\((decide (x5 < (t.kids.length:Int)))=false->Q .ret (L2 [pB 4 true] []))):
  AW (Z1 (Jm N)) Try.f25 Z5t [1,1,1,1,1,0,1,0,0] (Z07 t d x5) (xT N0 (xB 0 (SW (Z1 (Jm N)) Try.f25 Z5t [1,1,1,1,1,1] Q))):=by
 have e:(AW (Z1 (Jm N)) Try.f25 Z5t [1,1,1,1,1,0,1,0,0] (Z07 t d x5) (xT N0 (xB 0 (SW (Z1 (Jm N)) Try.f25 Z5t [1,1,1,1,1,1] Q))))=(let zz5:=(decide ((2:Int)<=t.kind));let zz4:=(!(J7 (t.kind - 2) (List.getD (Tree.words (t.kids.getD x5.toNat Tree.nil)) (Int.toNat 0) (0:Int))));let zz3:=(!(Z6 (Tree.mk (Tree.kind (t.kids.getD x5.toNat Tree.nil)) (Tree.words (t.kids.getD x5.toNat Tree.nil)) (Tree.kids (t.kids.getD x5.toNat Tree.nil))) ((d:Int) - 1)));let zz2:=(((Tree.kind (t.kids.getD x5.toNat Tree.nil)):Int)==10);let zz1:=(bif zz5 then (decide (t.kind<=7)) else false);let zz0:=(bif (zz1 !=zz2) then true else (bif (t.kind==9) then (((Tree.kind (t.kids.getD x5.toNat Tree.nil)):Int) !=1) else false));(((decide ((x5:Int) < (t.kids.length:Int)))=true->((0:Int)<=x5/\x5 < (t.kids.length:Int))/\((InR ((d:Int) - 1))/\(Z2M ((Tree.mk (Tree.kind (t.kids.getD x5.toNat Tree.nil)) (Tree.words (t.kids.getD x5.toNat Tree.nil)) (Tree.kids (t.kids.getD x5.toNat Tree.nil))),((d:Int) - 1),()))/\(Z76 ((Tree.mk (Tree.kind (t.kids.getD x5.toNat Tree.nil)) (Tree.words (t.kids.getD x5.toNat Tree.nil)) (Tree.kids (t.kids.getD x5.toNat Tree.nil))),((d:Int) - 1),()) < N)/\((zz3=true->(Q .ret (L2 [pB 4 false] [])))/\(zz3=false->(Tr (zz5=true))/\(Tr (zz5=true))/\(Tr (zz5=true))/\((Tr ((!(zz1 !=zz2))=true))/\(Tr ((!(zz1 !=zz2))=true))/\(Tr ((!(zz1 !=zz2))=true))/\(Tr (((!(zz1 !=zz2)) && (t.kind==9))=true))/\(Tr (((!(zz1 !=zz2)) && (t.kind==9))=true))/\((!(zz1 !=zz2))=true->(True->(!(zz1 !=zz2))=true))/\((!(zz1 !=zz2))=true->((t.kind==9)=true->((!(zz1 !=zz2)) && (t.kind==9))=true))/\((zz1 !=zz2)=false->(!(zz1 !=zz2))=true)/\(Tr ((!zz0)=true))/\(Tr (((!zz0) && zz1)=true))/\(Tr (((!zz0) && zz1)=true))/\(((!zz0) && zz1)=true->InR (t.kind - 2))/\(Tr (((!zz0) && zz1)=true))/\(Tr (((!zz0) && zz1)=true))/\(((!zz0) && zz1)=true->(0:Int)<=0/\0 < ((Tree.words (t.kids.getD x5.toNat Tree.nil)).length:Int))/\(Tr (((!zz0) && zz1)=true))/\(Tr (((!zz0) && zz1)=true))/\(Tr (((!zz0) && zz1)=true))/\(((!zz0) && zz1)=true->Z7I ((t.kind - 2),(List.getD (Tree.words (t.kids.getD x5.toNat Tree.nil)) (Int.toNat 0) (0:Int)),()))/\(Tr (((!zz0) && zz1)=true))/\((!zz0)=true->(True->(!zz0)=true))/\((!zz0)=true->(zz1=true->((!zz0) && zz1)=true))/\(zz0=false->(!zz0)=true)/\(((bif zz0 then true else (bif zz1 then zz4 else false))=true->(Q .ret (L2 [pB 4 false] [])))/\((bif zz0 then true else (bif zz1 then zz4 else false))=false->(InR ((x5:Int)+1))/\(N0 (Z07 t d ((x5:Int)+1))))))))))/\((decide ((x5:Int) < (t.kids.length:Int)))=false->(Q .ret (L2 [pB 4 true] []))))):=by kernel_rfl
 exact e.mpr ⟨fun c_26=> ⟨(h.1 c_26).1,⟨(h.1 c_26).2.1,(h.1 c_26).2.2.1,(h.1 c_26).2.2.2.1,⟨fun c_27=> ((h.1 c_26).2.2.2.2.1 c_27),fun c_27=> ⟨id,id,(by generalize (decide ((2:Int)<=t.kind))=b0;revert b0;decide),⟨id,id,id,id,id,(by generalize ((bif (decide ((2:Int)<=t.kind)) then (decide ((t.kind:Int)<=7)) else false) !=(((Tree.kind (t.kids.getD x5.toNat Tree.nil)):Int)==10))=b0;revert b0;decide),(by generalize ((bif (decide ((2:Int)<=t.kind)) then (decide ((t.kind:Int)<=7)) else false) !=(((Tree.kind (t.kids.getD x5.toNat Tree.nil)):Int)==10))=b0;generalize ((t.kind:Int)==9)=b1;revert b0 b1;decide),(by generalize ((bif (decide ((2:Int)<=t.kind)) then (decide ((t.kind:Int)<=7)) else false) !=(((Tree.kind (t.kids.getD x5.toNat Tree.nil)):Int)==10))=b0;revert b0;decide),id,id,id,((h.1 c_26).2.2.2.2.2 c_27).1,id,id,((h.1 c_26).2.2.2.2.2 c_27).2.1,id,id,id,((h.1 c_26).2.2.2.2.2 c_27).2.2.1,id,(by generalize ((bif (decide ((2:Int)<=t.kind)) then (decide ((t.kind:Int)<=7)) else false) !=(((Tree.kind (t.kids.getD x5.toNat Tree.nil)):Int)==10))=b0;generalize (((Tree.kind (t.kids.getD x5.toNat Tree.nil)):Int) !=1)=b1;generalize ((t.kind:Int)==9)=b2;revert b0 b1 b2;decide),(by generalize ((bif (decide ((2:Int)<=t.kind)) then (decide ((t.kind:Int)<=7)) else false) !=(((Tree.kind (t.kids.getD x5.toNat Tree.nil)):Int)==10))=b0;generalize (((Tree.kind (t.kids.getD x5.toNat Tree.nil)):Int) !=1)=b1;generalize (decide ((2:Int)<=t.kind))=b2;generalize (decide ((t.kind:Int)<=7))=b3;generalize ((t.kind:Int)==9)=b4;revert b0 b1 b2 b3 b4;decide),(by generalize ((bif (decide ((2:Int)<=t.kind)) then (decide ((t.kind:Int)<=7)) else false) !=(((Tree.kind (t.kids.getD x5.toNat Tree.nil)):Int)==10))=b0;generalize (((Tree.kind (t.kids.getD x5.toNat Tree.nil)):Int) !=1)=b1;generalize ((t.kind:Int)==9)=b2;revert b0 b1 b2;decide),⟨fun c_28=> (((h.1 c_26).2.2.2.2.2 c_27).2.2.2.1 c_28),fun c_28=> ⟨(((h.1 c_26).2.2.2.2.2 c_27).2.2.2.2 c_28).1,(((h.1 c_26).2.2.2.2.2 c_27).2.2.2.2 c_28).2⟩⟩⟩⟩⟩⟩⟩,fun c_26=> (h.2 c_26)⟩
def ZlO(N:Nat)(t:Tree)(d:Int):Prop:=AW (Z1 (Jm N)) Try.f25 Z5t [] (Zs (Zg7.can (t,d,())) []) (EQ Try.f25 (ZbR (t,d,())) [])
theorem Zk9(c47:CT 47 Z1B)(hb:∀ (N:Nat) (t:Tree) (d:Int) (_:Unit),Z2M (t,d,())->Z76 (t,d,()) < N+1->ZlO N t d):CT 25 Z63:=
 Jg (μ:=Z76) (l:=[(47,Z1B)]) Zf rfl (⟨c47,trivial⟩) Z5t Try.func25 rfl rfl 2 (fun _=> rfl) (by decide) (fun N ⟨t,d,_⟩=> hb N t d ())
end
end
mutual
theorem Z3k:∀ (t:Tree) (d l:Int),0<=ZG t d l->(ZE t:Int)+ZG t d l<=l
 | .mk _ w ks,d,l,h=> by
  simp only [ZG] at h ⊢
  split at h
  .omega
  .rename_i hc
   rw [if_neg hc]
   have:=Z2G ks (d - 1) (l - 1 - w.length) h
   simp only [ZE]
   omega
theorem Z2G:∀ (ks:List Tree) (d l:Int),0<=ZM ks d l->(Yo ks:Int)+ZM ks d l<=l
 | [],d,l,h=> by simp [ZM,Yo]
 | t ::r,d,l,h=> by
  simp only [ZM] at h ⊢
  split at h
  .omega
  .rename_i hc
   rw [if_neg hc]
   have h1:=Z2G r d (ZG t d l) h
   have h3:=(JX r d (ZG t d l) (Z0t t d l).1).2
   have h2:=Z3k t d l (by omega)
   simp only [Yo]
   omega
end
theorem Zaz(n:Int)(h0:0<=n)(h1:n < 18446744073709551616):IntKind.wrap .u64 (Int.tdiv n 2)=n / 2:=by
 rw [QX h0]
 simp [IntKind.wrap,IntKind.signed,IntKind.bits]
 omega
theorem Zex{w:Nat}{n m:Int}(h:0<=n):(n / 2 < 2 ^ w)↔n < 2 ^ (w+1):=by
 have:(2:Int) ^ (w+1)=2 ^ w*2:=by rw [Int.pow_succ]
 omega
theorem c47:Contract Try.prog cfg 47 Z1B:=by
 refine ZjW c80 ?_
 intro c n _ hp
 simp only [Z7I] at hp
 have hw:=Zic c
 refine Zni _ _ _ ?_
 (simp only [vcS])
 refine ⟨trivial,fun h=> Zd rfl ?_,fun h=> ?_⟩
 .simp only [J7]
  simp
  omega
 .refine Zj (ι:=Int × Int) (fun p=> Z06 c n p.1 p.2) (fun p=> 0<=p.2/\p.2<=wd c/\0<=p.1/\p.1 < 18446744073709551616/\(n < 2 ^ (wd c).toNat↔p.1 < 2 ^ (wd c - p.2).toNat)) (fun p=> (wd c - p.2).toNat) (n,0) rfl ⟨by dsimp only;omega,by dsimp only;omega,by dsimp only;omega,by dsimp only;omega,by simp⟩ ?_
  rintro ⟨m,i⟩ ⟨h1,h2,h3,h4,h5⟩
  dsimp only at*
  refine ZgO _ _ _ _ _ _ ?_
  (simp only [vcS])
  refine ⟨fun hc=> ⟨by omega,by unfold InR;omega,(IntKind.wrap .u64 (Int.tdiv m 2),i+1),rfl,?_,by dsimp only;omega⟩,fun hc=> Zd rfl ?_⟩
  .rw [Zaz m h3 h4]
   refine ⟨by dsimp only;omega,by dsimp only;omega,by dsimp only;omega,by dsimp only;omega,?_⟩
   dsimp only
   rw [h5,show (wd c - i).toNat=(wd c - (i+1)).toNat+1 by omega]
   exact (Zex (m:=0) h3).symm
  .have e:(wd c - i).toNat=0:=by omega
   rw [e] at h5
   simp only [J7]
   rw [Qq]
   simp
   omega
theorem ZfH(n:Int)(w:Nat)(h:0<=n):(Int.fdiv n (2 ^ w)=0)↔n < 2 ^ w:=by
 have hp:(0:Int) < 2 ^ w:=Int.pow_pos (by omega)
 rw [Xy _ (by omega)]
 constructor
 .intro h1
  have:=Int.lt_ediv_add_one_mul_self n hp
  rw [h1] at this
  simpa using this
 .intro h1
  exact Int.ediv_eq_zero_of_lt h h1
theorem c89:Contract Try.prog cfg 89 Z1B:=by
 refine Zju c88 ?_
 intro c n _ hp
 simp only [Z7I] at hp
 have hw:=Zic c
 refine ZmP _ _ _ ?_
 refine ⟨trivial,fun h=> by split <;> omega,Zd rfl ?_⟩
 simp only [J7]
 by_cases h0:0<=wd c
 .rw [if_neg (by omega)]
  simp only [h0,decide_true,cond_true,true_and]
  by_cases h64:wd c=64
  .simp [h64]
   omega
  .have:((wd c)==64)=false:=by simpa using h64
   rw [this,cond_false,Qq]
   have hm:min (wd c).toNat (IntKind.bits .u64)=(wd c).toNat:=by
    show min (wd c).toNat 64=_
    omega
   rw [hm]
   simp only [beq_iff_eq,decide_eq_true_eq]
   exact ZfH n _ hp.1
 .simp [h0]
theorem c69:Contract Try.prog cfg 69 Z5Z:=by
 refine ZjO ?_
 intro c _ _
 refine Zn9 _ _ ?_
 refine Zd rfl ?_
 rw [Qq]
 (simp only [vcS])
theorem Z9D{t:Tree}(h:rng t){i:Nat}(hi:i < t.words.length):0<=t.words.getD i 0/\t.words.getD i 0 < 18446744073709551616:=by
 obtain ⟨k,w,ks⟩:=t
 simp only [rng] at h
 simp only [Tree.words_mk] at*
 have hg:w.getD i 0∈w:=by
  simp only [List.getD,Q0 hi,QE]
  exact X6 hi
 exact h.2.1 _ hg
theorem c70:Contract Try.prog cfg 70 Z5Y:=by
 refine ZjN c86 c89 ?_
 intro l t _ hp
 simp only [Z9T] at hp
 refine Zn8 _ _ _ ?_
 (simp only [vcS])
 refine ⟨trivial,fun hd=> ⟨fun _=> by unfold InR;omega,fun h=> by omega,fun h=> Z9D hp (by omega),Zd rfl ?_⟩,fun hd=> ⟨fun h=> Zd rfl ?_,fun h=> Zd rfl ?_⟩⟩
 .simp only [Jj,if_pos hd,Int.toNat_zero]
  rw [Qq]
  (simp only [vcS])
  constructor <;> (rintro ⟨h1,h2⟩;exact ⟨by omega,h2⟩)
 .simp only [Jj,if_neg hd,if_pos h]
  rw [Qq]
  (simp only [vcS])
 .simp only [Jj,if_neg hd,if_neg h]
  rw [Qq]
  (simp only [vcS])
theorem Z4M{l:Int}{ks:List Tree}{i:Int}{d:Int}(h0:0<=i)(h:i < ks.length):
  Yf l (ks.drop i.toNat) d=((Jj l (ks.getD i.toNat Tree.nil) && Z6 (ks.getD i.toNat Tree.nil) d) && Yf l (ks.drop (i+1).toNat) d):=by
 have e:(i+1).toNat=i.toNat+1:=by omega
 rw [Xd (by omega),e]
 simp only [Yf,List.getD,Q0 (show i.toNat < ks.length by omega),QE]
theorem Z6l:∀ {ks:List Tree} {i:Nat},Z1p ks->i < ks.length->rng (ks.getD i Tree.nil)
 | t ::_,0,h,_=> by simp only [Z1p] at h;exact h.1
 | _ ::r,i+1,h,hi=> by simp only [Z1p] at h;exact Z6l (ks:=r) (i:=i) h.2 (by simpa using hi)
theorem Za8(t:Tree):Jj 1 t=decide (t.kind≠10):=by simp [Jj]
theorem c39:Contract Try.prog cfg 39 Z63:=by
 refine Zk2 c69 c70 ?_
 rintro N ⟨k,ws,ks⟩ d _ hp hN
 simp only [Z2M,Z76,ZE,rng] at hp hN
 have key:∀ b,d≠0->Z6 (.mk k ws ks) d=(b && Yf k ks (d - 1))->b=true->
   Zo (awp cfg (Z1 (Yv N)) (ZA cfg (Z1 (Yv N))) Try.f39.ntmps Z2F (cd Try.f39 [1,1,0,1,0,0])) (Yx (.mk k ws ks) d 0) (AExit.inBlock 1 (Z6h cfg (Z1 (Yv N)) (ZA cfg (Z1 (Yv N))) Try.f39.ntmps Z2F (cd Try.f39 [1,1,1]) (YN cfg Try.f39.ntmps Try.f39.results.toList (ZbR (.mk k ws ks,d,())) []))):=by
  intro b hd0 hb hbt
  subst hbt
  rw [QY] at hb
  refine Zj (ι:=Int) (fun p=> Yx (.mk k ws ks) d p) (fun p=> 0<=p/\p<=ks.length/\Z6 (.mk k ws ks) d=Yf k (ks.drop p.toNat) (d - 1)) (fun p=> ((ks.length:Int) - p).toNat) 0 rfl ⟨by omega,by omega,by simpa using hb⟩ ?_
  rintro i ⟨h1,h2,h3⟩
  refine ZgT N _ _ _ _ _ ?_
  (simp only [vcS])
  (simp only [Tree.eta,Tree.kind_mk,Tree.words_mk,Tree.kids_mk])
  refine ⟨fun hi=> ⟨⟨by omega,hi⟩,?_⟩,fun hi=> ?_⟩
  .have hd:=Z4M (l:=k) (d:=d - 1) h1 hi
   have hm:=JR (ks:=ks) (i:=i.toNat) (by omega)
   have hr:=Z6l (i:=i.toNat) hp.2.1.2.2 (by omega)
   rw [hd] at h3
   have hlen:=Z0G ks
   generalize ks.getD i.toNat Tree.nil=y at*
   have hpre:Z2M (y,d - 1,()):=⟨by dsimp only;omega,hr,by dsimp only;omega,by dsimp only;omega⟩
   have hmu:Z76 (y,d - 1,()) < N:=by simp only [Z76];omega
   have hin:InR (d - 1):=by unfold InR;omega
   refine ⟨fun hk=> ⟨hr,fun _=> hin,fun _=> hpre,fun _=> hmu,fun hc=> Zd rfl ?_,fun hc=> ⟨by unfold InR;omega,i+1,rfl,⟨by omega,by omega,?_⟩,by omega⟩⟩,fun hk=> ⟨fun _=> hin,fun _=> hpre,fun _=> hmu,fun hc=> Zd rfl ?_,fun hc=> ⟨by unfold InR;omega,i+1,rfl,⟨by omega,by omega,?_⟩,by omega⟩⟩⟩
   .rw [h3]
    rcases hc with hc | hc <;> simp [hc]
   .rw [h3,hc.1,hc.2];try rfl
   .subst hk
    rw [h3,Za8]
    rcases hc with hc | hc <;> simp [hc]
   .subst hk
    rw [h3,Za8,hc.2]
    simp [hc.1]
  .rw [QM (by omega)] at h3
   simp only [Yf] at h3
   exact Zd rfl h3.symm
 refine Znq N _ _ _ ?_
 (simp only [vcS])
 (simp only [Tree.eta,Tree.kind_mk,Tree.words_mk,Tree.kids_mk])
 have hk0:∀ h0:k=0,Z6 (.mk k ws ks) d=decide (ws.length=0/\ks.length=0):=fun h0=> by simp only [Z6,if_pos h0]
 have hk10:∀ (_:¬k=0) (h10:k=10),Z6 (.mk k ws ks) d=decide (ws.length=1/\ks.length=0):=fun h0 h10=> by simp only [Z6,if_neg h0,if_pos h10]
 refine ⟨fun h0=> Zd rfl ?_,fun h0=> ⟨fun h10=> Zd rfl ?_,fun h10=> ⟨fun hd=> Zd rfl ?_,fun hd=> ⟨fun h1=> ⟨fun hc=> Zd rfl ?_,fun hc=> key true hd ?_ rfl⟩,fun h1=> ⟨trivial,fun hc=> Zd rfl ?_,fun hc=> key true hd ?_ rfl⟩⟩⟩⟩⟩
 .rw [hk0 h0,Qq];(simp only [vcS]);omega
 .rw [hk10 h0 h10,Qq];(simp only [vcS]);omega
 .simp only [Z6,if_neg h0,if_neg h10,if_pos hd]
 .simp only [Z6,if_neg h0,if_neg h10,if_neg hd,if_pos h1]
  rw [decide_eq_false (by omega)];try rfl
 .simp only [Z6,if_neg h0,if_neg h10,if_neg hd,if_pos h1]
  rw [decide_eq_true (by omega),h1]
 .simp only [Z6,if_neg h0,if_neg h10,if_neg hd,if_neg h1]
  rw [decide_eq_false (by omega)];try rfl
 .simp only [Z6,if_neg h0,if_neg h10,if_neg hd,if_neg h1]
  rw [decide_eq_true (by omega)]
theorem c20:Contract Try.prog cfg 20 Z6a:=by
 refine Zkd c39 ?_
 intro t _ hp
 refine ZnD _ _ ?_
 (simp only [Tree.eta,Tree.kind_mk,Tree.words_mk,Tree.kids_mk])
 exact ⟨⟨hp.1,hp.2,by dsimp only;omega,by dsimp only;omega⟩,Zd rfl rfl⟩
theorem Z9F{y:Tree}{d:Int}(h:Z6 y d=true)(hk:y.kind=10):y.words.length=1/\y.kids.length=0:=by
 obtain ⟨k,w,ks⟩:=y
 simp only [Tree.kind_mk] at hk
 subst hk
 simpa [Z6] using h
theorem c25:Contract Try.prog cfg 25 Z63:=by
 refine Zk9 c47 ?_
 rintro N ⟨k,ws,ks⟩ d _ hp hN
 simp only [Z2M,Z76,ZE,rng] at hp hN
 refine Zny N _ _ _ ?_
 (simp only [vcS])
 (simp only [Tree.eta,Tree.kind_mk,Tree.words_mk,Tree.kids_mk])
 refine ⟨fun h0=> Zd rfl ?_,fun h0=> ⟨fun h10=> Zd rfl ?_,fun h10=> ⟨fun hc=> Zd rfl ?_,fun hc=> ⟨fun hw=> Zd rfl ?_,fun hw=> ?_⟩⟩⟩⟩
 .simp only [Z6,if_pos h0]
  rw [Qq];(simp only [vcS]);omega
 .simp only [Z6,if_neg h0,if_pos h10]
  rw [Qq];(simp only [vcS]);omega
 .simp only [Z6,if_neg h0,if_neg h10]
  split
  .try rfl
  .split
   .rw [decide_eq_false (by omega)];try rfl
   .have:¬(2<=k/\k<=9/\ws.length=0/\ks.length < 1048576):=by omega
    rw [decide_eq_false this];try rfl
 .simp only [Z6,if_neg h0,if_neg h10]
  rw [if_neg (by omega),if_neg (by omega)]
  have:¬(2<=k/\k<=9/\ws.length=0/\ks.length < 1048576):=by omega
  rw [decide_eq_false this];try rfl
 .have hb:Z6 (.mk k ws ks) d=Yf k ks (d - 1):=by
   simp only [Z6,if_neg h0,if_neg h10]
   rw [if_neg (by omega)]
   split
   .rename_i h1
    rw [decide_eq_true (by omega),h1];try rfl
   .have:2<=k/\k<=9/\ws.length=0/\ks.length < 1048576:=by omega
    rw [decide_eq_true this];try rfl
  refine Zj (ι:=Int) (fun p=> Z07 (.mk k ws ks) d p) (fun p=> 0<=p/\p<=ks.length/\Z6 (.mk k ws ks) d=Yf k (ks.drop p.toNat) (d - 1)) (fun p=> ((ks.length:Int) - p).toNat) 0 rfl ⟨by omega,by omega,by simpa using hb⟩ ?_
  rintro i ⟨h1,h2,h3⟩
  refine ZgZ N _ _ _ _ _ ?_
  (simp only [vcS])
  (simp only [Tree.eta,Tree.kind_mk,Tree.words_mk,Tree.kids_mk])
  refine ⟨fun hi=> ?_,fun hi=> ?_⟩
  .have hd:=Z4M (l:=k) (d:=d - 1) h1 hi
   have hm:=JR (ks:=ks) (i:=i.toNat) (by omega)
   have hr:=Z6l (i:=i.toNat) hp.2.1.2.2 (by omega)
   rw [hd] at h3
   have hlen:=Z0G ks
   generalize ks.getD i.toNat Tree.nil=y at*
   have hpre:Z2M (y,d - 1,()):=⟨by dsimp only;omega,hr,by dsimp only;omega,by dsimp only;omega⟩
   have hmu:Z76 (y,d - 1,()) < N:=by simp only [Z76];omega
   have hin:InR (d - 1):=by unfold InR;omega
   refine ⟨⟨h1,hi⟩,hin,hpre,hmu,fun hf=> Zd rfl ?_,fun hf=> ?_⟩
   .rw [h3,hf];simp
   .have hdata:((bif decide (2<=k) then decide (k<=7) else false)=(y.kind==10))↔((2<=k/\k<=7)↔y.kind=10):=by
     rw [Qq];(simp only [vcS])
    have hat:=Z9F hf
    have hkb:Jj k y=true↔(((2<=k/\k<=7)↔y.kind=10)/\(¬k=9\/y.kind=1))/\((¬2<=k\/¬k<=7)\/J7 (k - 2) (y.words.getD 0 0)=true):=by
     unfold Jj
     by_cases hk:2<=k/\k<=7
     .rw [if_pos hk]
      (simp only [vcS])
      constructor
      .rintro ⟨h4,h5⟩;exact ⟨⟨by omega,by omega⟩,.inr h5⟩
      .rintro ⟨⟨h4,_⟩,h5⟩
       have:=hat (by omega)
       exact ⟨by omega,by rcases h5 with h5 | h5;omega;exact h5⟩
     .rw [if_neg hk]
      by_cases h9:k=9
      .rw [if_pos h9]
       (simp only [vcS])
       constructor
       .intro h4;exact ⟨⟨by omega,by omega⟩,.inl (by omega)⟩
       .rintro ⟨⟨_,h4⟩,_⟩;omega
      .rw [if_neg h9]
       (simp only [vcS])
       constructor
       .intro h4;exact ⟨⟨by omega,by omega⟩,.inl (by omega)⟩
       .rintro ⟨⟨h4,_⟩,_⟩;omega
    have hone:∀ (h4:(((bif decide (2<=k) then decide (k<=7) else false)=(y.kind==10)/\(¬k=9\/y.kind=1))/\2<=k/\k<=7)),y.words.length=1:=fun h4=> (hat ((hdata.1 h4.1.1).1 h4.2)).1
    simp only [Int.toNat_zero]
    refine ⟨fun h4=> by unfold InR;omega,fun h4=> by have:=hone h4;omega,fun h4=> Z9D hr (by have:=hone h4;omega),fun h4=> Zd rfl ?_,fun h4=> ⟨by unfold InR;omega,i+1,rfl,⟨by omega,by omega,?_⟩,by omega⟩⟩
    .have hno:Jj k y=false:=by
      cases hkk:Jj k y with
      | false=> rfl
      | true=>
       exfalso
       obtain ⟨h5,h6⟩:=hkb.1 hkk
       rcases h4 with h4 | ⟨h4,h7⟩
       .rcases h4 with h4 | h4
        .exact h4 (hdata.2 h5.1)
        .omega
       .rcases h6 with h6 | h6
        .omega
        .rw [h7] at h6;cases h6
     rw [h3,hno];try rfl
    .rw [h3,hkb.2 ⟨⟨hdata.1 h4.1.1,h4.1.2⟩,h4.2⟩,hf];try rfl
  .rw [QM (by omega)] at h3
   simp only [Yf] at h3
   exact Zd rfl h3.symm
noncomputable section
def ZbJ(a:Int × Int × Unit):V U:= .c (ci (ZU a.1 a.2.1))
def Z5R:Fs U:=fs ZfQ (fun a=> [J2 a]) ZbJ
def Zg8:ArgL (Int × List Int × Unit):=(.cons (Zv .i64) (.cons (aSl .u64) .nil))
def Zc3(a:Int × List Int × Unit):Prop:=okW a.2.1/\a.2.1.length<=1099511627776
def Z9G(a:Int × List Int × Unit):V U:= .tup [(false,[sU .u64 (ZF a.1 a.2.1) .unk]),(false,[.bool (YU a.1 a.2.1)])]
def Z8h:Fs U:=fs Zg8 (fun a=> [Zc3 a]) Z9G
def Zkp:Zc U:=lvl [([0,1],[]),([0,1,16],[]),([4],[]),([1,5],[]),([1,5,23],[]),([4],[]),([4],[])]
abbrev A85(p:List Nat):=AW (Z1 Jl) Try.f85 Zkp p
theorem ZmT(c n:Int)(Q:QT)(h:let z2:=decide (((wd c):Int) < 1);let z1:=bif z2 then true else (decide (n < 0));let z4:=bif z1 then true else (decide ((1099511627776:Int) < n));let z0:=IntKind.wrap .i64 (Int.tdiv 64 (wd c));let z5:=decide ((0:Int) < (Int.tmod n z0));let z3:=IntKind.wrap .i64 (Int.tdiv n z0);((Z6w (c,()))/\(Tr ((!z2)=true))/\(z2=false->(!z2)=true)/\(Tr ((!z1)=true))/\(z1=false->(!z1)=true)/\((z4=true->(Q .ret (L2 [pI 4 0] [])))/\(z4=false->(Z6w (c,()))/\(((wd c):Int)≠0)/\(((z0:Int)≠0)/\((z5=true->((z0:Int)≠0)/\(InR ((z3:Int)+1))/\(Q .ret (L2 [(4,.c (ci ((z3:Int)+1)))] [])))/\(z5=false->((z0:Int)≠0)/\(Q .ret (L2 [(4,.c (ci z3))] []))))))))):
  A85 [] (L2 [pI 0 c,pI 1 n] []) Q:=
 Eq.mpr (by kernel_rfl) h
def Zl9(c n:Int):Prop:=AW (Z1 Jl) Try.f85 Zkp [] (Zs (ZfQ.can (c,n,())) []) (EQ Try.f85 (ZbJ (c,n,())) [])
theorem Zjy(c80:CT 80 JW)(hb:∀ (c:Int) (n:Int) (_:Unit),J2 (c,n,())->Zl9 c n):CT 85 Z5R:=
 Z3 (l:=[(80,JW)]) Zf rfl (⟨c80,trivial⟩) Zkp Try.func85 rfl rfl 2 (fun _=> rfl) (by decide) (fun ⟨c,n,_⟩=> hb c n ())
def Zkn:Zc U:=lvl [([0,1],[]),([1,5,6],[]),([1,5,21],[]),([4],[]),([4],[])]
abbrev A87(p:List Nat):=AW (Z1 Zb3) Try.f87 Zkn p
theorem ZmR(c n:Int)(Q:QT)(h:let z1:= !(decide (0<=wd c));let z0:=bif z1 then true else (decide (n < 0));let z2:=bif z0 then true else (decide ((1099511627776:Int) < n));((Z6w (c,()))/\((Tr ((!z1)=true))/\(z1=false->(!z1)=true)/\(Tr ((!z0)=true))/\(z0=false->(!z0)=true)/\((z2=true->(Q .ret (L2 [pI 4 0] [])))/\(z2=false->(InR (n*(if wd c < 0 then 0 else wd c)))/\(InR (((n*(if wd c < 0 then 0 else wd c)):Int)+63))/\((64:Int)≠0)/\(Q .ret (L2 [(4,.c (ci (IntKind.wrap .i64 (Int.tdiv (((n*(if wd c < 0 then 0 else wd c)):Int)+63) 64))))] []))))))):
  A87 [] (L2 [pI 0 c,pI 1 n] []) Q:=
 Eq.mpr (by kernel_rfl) h
def Zl7(c n:Int):Prop:=AW (Z1 Zb3) Try.f87 Zkn [] (Zs (ZfQ.can (c,n,())) []) (EQ Try.f87 (ZbJ (c,n,())) [])
theorem Zjw(c88:CT 88 JV)(hb:∀ (c:Int) (n:Int) (_:Unit),J2 (c,n,())->Zl7 c n):CT 87 Z5R:=
 Z3 (l:=[(88,JV)]) Zf rfl (⟨c88,trivial⟩) Zkn Try.func87 rfl rfl 2 (fun _=> rfl) (by decide) (fun ⟨c,n,_⟩=> hb c n ())
def Zb9:List (FuncId × Fs U):=[(80,JW),(85,Z5R),(47,Z1B)]
def ZhC:Zc U:=fun i=> match i with
 | 0=> ([(0,[]),(1,[])],[])
 | 1=> ([(0,[]),(1,[]),(6,[])],[])
 | 2=> ([(0,[]),(1,[]),(6,[]),(14,[])],[])
 | 3=> ([(4,[]),(5,[])],[])
 | 4=> ([(0,[]),(1,[]),(6,[]),(7,[.wr .u64])],[])
 | 5=> ([(0,[]),(1,[]),(6,[]),(7,[.wr .u64]),(8,[])],[])
 | 6=> ([(0,[]),(1,[]),(6,[]),(7,[.wr .u64]),(8,[]),(23,[])],[])
 | 7=> ([(0,[]),(1,[]),(6,[]),(7,[.wr .u64]),(8,[])],[])
 | 8=> ([(0,[]),(1,[]),(6,[]),(7,[.wr .u64]),(8,[]),(9,[])],[])
 | 9=> ([(0,[]),(1,[]),(6,[]),(7,[.wr .u64]),(8,[]),(9,[]),(33,[])],[])
 | 10=> ([(4,[]),(5,[])],[])
 | 11=> ([(0,[]),(1,[]),(6,[]),(7,[.wr .u64]),(8,[]),(9,[]),(10,[])],[])
 | 12=> ([(0,[]),(1,[]),(6,[]),(7,[.wr .u64]),(8,[]),(9,[]),(10,[]),(39,[])],[])
 | 13=> ([(0,[]),(1,[]),(6,[]),(7,[.wr .u64]),(8,[]),(9,[]),(10,[])],[])
 | 14=> ([(0,[]),(1,[]),(6,[]),(7,[.wr .u64]),(8,[]),(9,[]),(10,[])],[])
 | 15=> ([(0,[]),(1,[]),(6,[]),(7,[.wr .u64]),(8,[]),(9,[]),(45,[])],[])
 | 16=> ([(0,[]),(1,[]),(6,[]),(7,[.wr .u64]),(8,[])],[])
 | 17=> ([(4,[]),(5,[])],[])
 | _=> ([],[])
def Z24(c:Int)(ns:List Int)(x8:Int)(re_7_0:List Int):LSt U:=(⟨[pI 0 c,(1,.c (sU .u64 ns .unk)),pI 6 (wd c),(7,.c (.mref (.e 7 0))),pI 8 x8],[],[(.e 7 0,LC.mk (U:=U) .u64 re_7_0 0)]⟩:LSt U)
def Z3F(c:Int)(ns:List Int)(x8:Int)(re_7_0:List Int)(x9_a x10_a:Int):LSt U:=(⟨[pI 0 c,(1,.c (sU .u64 ns .unk)),pI 6 (wd c),(7,.c (.mref (.e 7 0))),pI 8 x8,(9,.c (.int .u64 x9_a)),pI 10 x10_a],[],[(.e 7 0,LC.mk (U:=U) .u64 re_7_0 0)]⟩:LSt U)
abbrev A53(p:List Nat):=AW (Z5f Zb9) Try.f53 ZhC p
abbrev S53(p:List Nat):=SW (Z5f Zb9) Try.f53 ZhC p
theorem Znc(c:Int)(ns:List Int)(Q:QT)(h:let z0:=ZU c (ns.length:Int);((Z6w (c,()))/\(((decide (((wd c):Int) < 0))=true->(Q .ret (L2 [(4,.c (.nils)),pB 5 false] [])))/\((decide (((wd c):Int) < 0))=false->(J2 (c,(ns.length:Int),()))/\((0:Int)<=ZU c (ns.length:Int)/\(z0:Int)*((8:Nat):Int)<=140737488355328/\(ZU c (ns.length:Int):Int)<=9223372036854775807)/\((ZU c (ns.length:Int):Int)=z0)/\(Zo (A53 [1,1,1,1,0,1,0,0]) (Z24 c ns 0 (List.replicate (Int.toNat z0) (0:Int))) (xB 0 (S53 [1,1,1,1,1] Q))))))):
  A53 [] (L2 [pI 0 c,(1,.c (sU .u64 ns .unk))] []) Q:=
 Eq.mpr (by kernel_rfl) h
theorem ZgM(c:Int)(ns:List Int)(x8:Int)(re_7_0:List Int)(N0:NT)(Q:QT)(h:let z1:=decide (x8 < (ns.length:Int));let z0:=ns.getD x8.toNat (0:Int);((z1=true->((0:Int)<=x8/\x8 < (ns.length:Int))/\((Z7I (c,z0,()))/\(((!(J7 c z0))=true->(Q .ret (L2 [(4,.c (.nils)),pB 5 false] [])))/\((!(J7 c z0))=false->(Zo (A53 [1,1,1,1,0,1,0,0,1,0,0,1,1,0,1,0,0]) (Z3F c ns x8 re_7_0 z0 0) (xB 2 (S53 [1,1,1,1,0,1,0,0,1,0,0,1,1,1] (xB 1 (S53 [1,1,1,1,0,1,0,0,1,1] (xT N0 (xB 0 (S53 [1,1,1,1,1] Q))))))))))))/\(z1=false->(Q .ret (L2 [(4,.c (sU .u64 re_7_0 (.own (.e 4 0)))),pB 5 true] []))))):
  A53 [1,1,1,1,0,1,0,0] (Z24 c ns x8 re_7_0) (xT N0 (xB 0 (S53 [1,1,1,1,1] Q))):=
 Eq.mpr (by kernel_rfl) h
theorem ZgL(c:Int)(ns:List Int)(x8:Int)(re_7_0:List Int)(x9_a x10_a:Int)(N1 N0:NT)(Q:QT)(h:let z2:=InR (x8*(wd c));let z1:=decide (x10_a < (Int.tmod (x8*(wd c)) 64));let z0:=IntKind.wrap .i64 (Int.tdiv (x8*(wd c)) 64);z2/\((64:Int)≠0)/\((z1=true->((InR (x10_a+1))/\(N1 (Z3F c ns x8 re_7_0 (IntKind.wrap .u64 (x9_a*2)) (x10_a+1)))))/\(z1=false->(((decide ((0:Int) < (wd c)))=true->z2/\((64:Int)≠0)/\z2/\((64:Int)≠0)/\((0:Int)<=z0/\z0 < (re_7_0.length:Int))/\((0:Int)<=z0/\z0 < (re_7_0.length:Int))/\((0:Nat)<=(Int.toNat z0))/\((InR (x8+1))/\(N0 (Z24 c ns (x8+1) (List.set re_7_0 (Int.toNat z0) (IntKind.wrap .u64 (((List.getD re_7_0 (Int.toNat z0) (0:Int)):Int)+x9_a)))))))/\((decide ((0:Int) < (wd c)))=false->(InR (x8+1))/\(N0 (Z24 c ns (x8+1) re_7_0))))))):
  A53 [1,1,1,1,0,1,0,0,1,0,0,1,1,0,1,0,0] (Z3F c ns x8 re_7_0 x9_a x10_a) (xT N1 (xB 2 (S53 [1,1,1,1,0,1,0,0,1,0,0,1,1,1] (xB 1 (S53 [1,1,1,1,0,1,0,0,1,1] (xT N0 (xB 0 (S53 [1,1,1,1,1] Q)))))))):=
 Eq.mpr (by kernel_rfl) h
def Zls(c:Int)(ns:List Int):Prop:=AW (Z5f Zb9) Try.f53 ZhC [] (Zs (Zg8.can (c,ns,())) []) (EQ Try.f53 (Z9G (c,ns,())) [])
theorem ZjR(c80:CT 80 JW)(c85:CT 85 Z5R)(c47:CT 47 Z1B)(hb:∀ (c:Int) (ns:List Int) (_:Unit),Zc3 (c,ns,())->Zls c ns):CT 53 Z8h:=
 Z2j (l:=[(80,JW),(85,Z5R),(47,Z1B)]) Zf rfl (⟨c80,c85,c47,trivial⟩) ZhC Try.func53 rfl rfl 2 (fun _=> rfl) (by decide) (fun ⟨c,ns,_⟩=> hb c ns ())
def Zb7:List (FuncId × Fs U):=[(88,JV),(87,Z5R),(89,Z1B)]
def ZhA:Zc U:=fun i=> match i with
 | 0=> ([(0,[]),(1,[])],[])
 | 1=> ([(0,[]),(1,[]),(6,[]),(7,[])],[])
 | 2=> ([(0,[]),(1,[]),(6,[]),(17,[])],[])
 | 3=> ([(4,[]),(5,[])],[])
 | 4=> ([(0,[]),(1,[]),(6,[]),(8,[.wr .u64])],[])
 | 5=> ([(0,[]),(6,[]),(8,[.wr .u64]),(23,[]),(24,[]),(25,[])],[])
 | 6=> ([(0,[]),(6,[]),(8,[.wr .u64]),(23,[]),(24,[]),(25,[]),(26,[])],[])
 | 7=> ([(0,[]),(6,[]),(8,[.wr .u64]),(9,[]),(10,[]),(23,[]),(24,[]),(25,[])],[])
 | 8=> ([(0,[]),(6,[]),(8,[.wr .u64]),(9,[]),(10,[]),(23,[]),(24,[]),(25,[]),(33,[])],[])
 | 9=> ([(4,[]),(5,[])],[])
 | 10=> ([(0,[]),(6,[]),(8,[.wr .u64]),(9,[]),(10,[]),(23,[]),(24,[]),(25,[]),(35,[])],[])
 | 11=> ([(0,[]),(6,[]),(8,[.wr .u64]),(23,[]),(24,[]),(25,[])],[])
 | 12=> ([(0,[]),(6,[]),(8,[.wr .u64]),(23,[]),(24,[]),(25,[])],[])
 | 13=> ([(4,[]),(5,[])],[])
 | _=> ([],[])
def Z23(c:Int)(ns:List Int)(x25:Int)(re_8_0:List Int):LSt U:=(⟨[pI 0 c,pI 6 (if wd c < 0 then 0 else wd c),(8,.c (.mref (.e 8 0))),(23,.c (sU .u64 ns .unk)),pI 24 (ns.length:Int),pI 25 x25],[],[(.e 8 0,LC.mk (U:=U) .u64 re_8_0 0)]⟩:LSt U)
abbrev A60(p:List Nat):=AW (Z5f Zb7) Try.f60 ZhA p
abbrev S60(p:List Nat):=SW (Z5f Zb7) Try.f60 ZhA p
theorem Zna(c:Int)(ns:List Int)(Q:QT)(h:let z0:=ZU c (ns.length:Int);((Z6w (c,()))/\(((!(decide (0<=wd c)))=true->(Q .ret (L2 [(4,.c (.nils)),pB 5 false] [])))/\((!(decide (0<=wd c)))=false->(J2 (c,(ns.length:Int),()))/\((0:Int)<=ZU c (ns.length:Int)/\(z0:Int)*((8:Nat):Int)<=140737488355328/\(ZU c (ns.length:Int):Int)<=9223372036854775807)/\((ZU c (ns.length:Int):Int)=z0)/\(Zo (A60 [1,1,1,1,0,1,0,0]) (Z23 c ns 0 (List.replicate (Int.toNat z0) (0:Int))) (xB 0 (S60 [1,1,1,1,1] Q))))))):
  A60 [] (L2 [pI 0 c,(1,.c (sU .u64 ns .unk))] []) Q:=
 Eq.mpr (by kernel_rfl) h
theorem ZgK(c:Int)(ns:List Int)(x25:Int)(re_8_0:List Int)(N0:NT)(Q:QT)(h:∀ y_1,y_1=(ns.getD x25.toNat (0:Int))->∀ y_2,y_2=(Int.tdiv (x25*(if wd c < 0 then 0 else wd c)) 64)->let z5:=decide (x25 < (ns.length:Int));let z4:=IntKind.bits .u64;let z3:=InR (x25*(if wd c < 0 then 0 else wd c));let z2:=Int.tmod (x25*(if wd c < 0 then 0 else wd c)) 64;let z1:=decide ((0:Int) < (if wd c < 0 then 0 else wd c));let z0:=IntKind.wrap .i64 y_2;((z5=true->((0:Int)<=x25/\x25 < (ns.length:Int))/\((Z7I (c,y_1,()))/\(((!(J7 c y_1))=true->(Q .ret (L2 [(4,.c (.nils)),pB 5 false] [])))/\((!(J7 c y_1))=false->((z1=true->z3/\((64:Int)≠0)/\((0:Int)<=z0/\z0 < (re_8_0.length:Int))/\z3/\((64:Int)≠0)/\((0:Int)<=z2)/\((0:Int)<=z0/\z0 < (re_8_0.length:Int))/\((0:Nat)<=(Int.toNat z0))/\((InR (x25+1))/\(N0 (Z23 c ns (x25+1) (List.set re_8_0 (Int.toNat z0) (IntKind.wrap .u64 (BitVec.ofInt z4 (List.getD re_8_0 (Int.toNat z0) (0:Int)) ||| BitVec.ofInt z4 (IntKind.wrap .u64 (y_1*2 ^ (min (Int.toNat z2) z4)))).toNat))))))/\(z1=false->(InR (x25+1))/\(N0 (Z23 c ns (x25+1) re_8_0))))))))/\(z5=false->(Q .ret (L2 [(4,.c (sU .u64 re_8_0 (.own (.e 4 0)))),pB 5 true] []))))):
  A60 [1,1,1,1,0,1,0,0] (Z23 c ns x25 re_8_0) (xT N0 (xB 0 (S60 [1,1,1,1,1] Q))):=
 Eq.mpr (by kernel_rfl) (h _ rfl _ rfl)
def Zlq(c:Int)(ns:List Int):Prop:=AW (Z5f Zb7) Try.f60 ZhA [] (Zs (Zg8.can (c,ns,())) []) (EQ Try.f60 (Z9G (c,ns,())) [])
theorem ZjP(c88:CT 88 JV)(c87:CT 87 Z5R)(c89:CT 89 Z1B)(hb:∀ (c:Int) (ns:List Int) (_:Unit),Zc3 (c,ns,())->Zlq c ns):CT 60 Z8h:=
 Z2j (l:=[(88,JV),(87,Z5R),(89,Z1B)]) Zf rfl (⟨c88,c87,c89,trivial⟩) ZhA Try.func60 rfl rfl 2 (fun _=> rfl) (by decide) (fun ⟨c,ns,_⟩=> hb c ns ())
end
theorem Z6k{c n:Int}(h0:0<=n)(h1:n<=1099511627776):0<=ZU c n/\ZU c n<=1099511627776:=by
 unfold ZU
 split
 .omega
 .rcases Z3U c with e | e | e | e | e | e
  .omega
  all_goals (rw [e];omega)
theorem c85:Contract Try.prog cfg 85 Z5R:=by
 refine Zjy c80 ?_
 intro c n _ _
 refine ZmT _ _ _ ?_
 (simp only [vcT,vcS])
 refine ⟨trivial,fun h=> ZJ rfl ?_,fun h=> ⟨trivial,?_⟩⟩
 .show (0:Int)=ZU c n
  unfold ZU
  rw [if_pos (by omega)]
 .have hr:ZU c n=(n*wd c+63) / 64:=by unfold ZU;rw [if_neg (by omega)]
  have key:∀ w p:Int,wd c=w->IntKind.wrap .i64 (Int.tdiv 64 w)=p->1<=p->p<=64->(n*w+63) / 64=(if 0 < n % p then n / p+1 else n / p)->
    ¬wd c=0/\¬IntKind.i64.wrap (Int.tdiv 64 (wd c))=0/\(0 < n.tmod (IntKind.i64.wrap (Int.tdiv 64 (wd c)))->¬IntKind.i64.wrap (Int.tdiv 64 (wd c))=0/\InR (IntKind.i64.wrap (n.tdiv (IntKind.i64.wrap (Int.tdiv 64 (wd c))))+1)/\
     YN cfg Try.f85.ntmps Try.f85.results.toList (ZbJ (c,n,())) [] AExit.ret { env:=[(4,V.c (C.int IntKind.i64 (IntKind.i64.wrap (n.tdiv (IntKind.i64.wrap (Int.tdiv 64 (wd c))))+1)))],mem:=[],ls:=[] })/\
    (¬0 < n.tmod (IntKind.i64.wrap (Int.tdiv 64 (wd c)))->¬IntKind.i64.wrap (Int.tdiv 64 (wd c))=0/\
     YN cfg Try.f85.ntmps Try.f85.results.toList (ZbJ (c,n,())) [] AExit.ret { env:=[(4,V.c (C.int IntKind.i64 (IntKind.i64.wrap (n.tdiv (IntKind.i64.wrap (Int.tdiv 64 (wd c)))))))],mem:=[],ls:=[] }):=by
   intro w p e1 e2 p1 p2 hd
   rw [e1,e2]
   have hq:Int.tdiv n p=n / p:=QX (by omega)
   have hm:Int.tmod n p=n % p:=Xx (by omega)
   have hle:0<=n / p/\n / p<=n:=⟨Int.ediv_nonneg (by omega) (by omega),Int.ediv_le_self _ (by omega)⟩
   rw [hq,hm,Jt (n:=n / p) (by omega) (by omega)]
   refine ⟨by omega,by omega,fun h0=> ⟨by omega,by ((unfold InR;omega)),ZJ rfl ?_⟩,fun h0=> ⟨by omega,ZJ rfl ?_⟩⟩
   .show _=ZU c n
    rw [hr,e1,hd,if_pos h0]
   .show _=ZU c n
    rw [hr,e1,hd,if_neg h0]
  rcases Z3U c with e | e | e | e | e | e
  .omega
  .exact key 1 64 e (by decide) (by decide) (by decide) (by split <;> omega)
  .exact key 8 8 e (by decide) (by decide) (by decide) (by split <;> omega)
  .exact key 16 4 e (by decide) (by decide) (by decide) (by split <;> omega)
  .exact key 32 2 e (by decide) (by decide) (by decide) (by split <;> omega)
  .exact key 64 1 e (by decide) (by decide) (by decide) (by split <;> omega)
theorem c87:Contract Try.prog cfg 87 Z5R:=by
 refine Zjw c88 ?_
 intro c n _ _
 refine ZmR _ _ _ ?_
 (simp only [vcT,vcS])
 refine ⟨trivial,fun h=> ZJ rfl ?_,fun h=> ?_⟩
 .show (0:Int)=ZU c n
  unfold ZU
  rw [if_pos (by omega)]
 .rw [if_neg (show ¬wd c < 0 by omega)]
  have hb:0<=n*wd c/\n*wd c<=70368744177664:=by
   rcases Z0B c with e | e | e | e | e | e | e
   .omega
   all_goals (rw [e];omega)
  have hq:Int.tdiv (n*wd c+63) 64=(n*wd c+63) / 64:=QX (by omega)
  rw [hq,Jt (n:=(n*wd c+63) / 64) (by omega) (by omega)]
  refine ⟨by ((unfold InR;omega)),by ((unfold InR;omega)),by decide,ZJ rfl ?_⟩
  show _=ZU c n
  unfold ZU
  by_cases h0:wd c < 1
  .rw [if_pos (.inl h0),show wd c=0 by omega];simp
  .rw [if_neg (by omega)]
theorem ZbV{c:Int}{ns:List Int}(h:YU c ns=false):ZF c ns=[]:=by unfold ZF;rw [h];try rfl
theorem Z9Q{c:Int}{ns:List Int}(h:YU c ns=true):ZF c ns=J0 c ns:=by unfold ZF;rw [h];try rfl
theorem Z7Z{c:Int}{ns:List Int}(h:wd c < 0):YU c ns=false:=by
 unfold YU
 rw [decide_eq_false (by omega)];try rfl
theorem Z81{c:Int}{ns:List Int}{i:Nat}(hi:i < ns.length)(h:J7 c (ns.getD i 0)=false):YU c ns=false:=by
 cases e:YU c ns with
 | false=> rfl
 | true=> rw [Z80 e hi] at h;cases h
theorem Z82{c:Int}{ns:List Int}(h0:0<=wd c)(h:∀ i,i < ns.length->J7 c (ns.getD i 0)=true):YU c ns=true:=by
 unfold YU
 rw [Q2,Q9]
 refine ⟨decide_eq_true h0,fun x hx=> ?_⟩
 obtain ⟨i,hi,rfl⟩:=QO hx
 have:=h i hi
 rwa [Q6,Q0 hi] at this
theorem Z9R{c:Int}{ns:List Int}(hn:okW ns)(hl:(ns.length:Int)<=1099511627776){i:Int}(h0:0<=i)(h1:i < ns.length)(hf:∀ j:Nat,(j:Int) < i->J7 c (ns.getD j 0)=true)(hw:1<=wd c):Zdz c (Z1q c ns i) i:=by
 have:=Z9S hw hn hl i.toNat (by omega) fun j hj=> hf j (by omega)
 rwa [show ((i.toNat:Nat):Int)=i by omega] at this
theorem c53:Contract Try.prog cfg 53 Z8h:=by
 refine ZjR c80 c85 c47 ?_
 intro c ns _ hp
 obtain ⟨hn,hl⟩:=hp
 dsimp only at hn hl
 have no:YU c ns=false->YN cfg Try.f53.ntmps Try.f53.results.toList (Z9G (c,ns,())) [] .ret (⟨[(4,.c (.nils)),(5,.c (.bool false))],[],[]⟩:LSt U):=by
  intro h
  refine YE (r':= .tup [(false,[.slice (U:=U) .u64 [] .unk]),(false,[.bool false])]) ?_ (by (repeat' (first | exact trivial | exact rfl | apply And.intro)))
  simp only [Z9G]
  rw [h,ZbV h]
 refine Znc _ _ _ ?_
 (simp only [vcT,vcS])
 have hrm:=Z6k (c:=c) (n:=ns.length) (by omega) (by omega)
 refine ⟨trivial,fun h=> no (Z7Z h),fun hc=> ⟨trivial,⟨hrm.1,by omega,by omega⟩,?_⟩⟩
 refine Zj (ι:=Int) (fun p=> Z24 c ns p (Z1q c ns p)) (fun p=> 0<=p/\p<=ns.length/\∀ j:Nat,(j:Int) < p->J7 c (ns.getD j 0)=true) (fun p=> ((ns.length:Int) - p).toNat) 0 (by simp only [Z4a]) ⟨by omega,by omega,fun j hj=> by omega⟩ ?_
 rintro i ⟨h1,h2,h3⟩
 refine ZgM _ _ _ _ _ _ ?_
 (simp only [vcT,vcS])
 refine ⟨fun hi=> ⟨⟨h1,hi⟩,J3 hn _,fun hb=> no (Z81 (by omega) hb),fun hb=> ?_⟩,fun hi=> ?_⟩
 .have hx:=J3 hn i.toNat
  have hf:=Z8U hb
  have hin:0<=i*wd c/\i*wd c<=70368744177664:=by
   rcases Z0B c with e | e | e | e | e | e | e
   .omega
   all_goals (rw [e];omega)
  have hm:Int.tmod (i*wd c) 64=i*wd c % 64:=Xx hin.1
  have hd:Int.tdiv (i*wd c) 64=i*wd c / 64:=QX hin.1
  refine Zj (ι:=Int) (fun p=> Z3F c ns i (Z1q c ns i) (ns.getD i.toNat 0*2 ^ p.toNat) p) (fun p=> 0<=p/\p<=i*wd c % 64) (fun p=> (i*wd c % 64 - p).toNat) 0 (by simp) ⟨by omega,by omega⟩ ?_
  rintro k ⟨g1,g2⟩
  refine ZgL _ _ _ _ _ _ _ _ _ ?_
  (simp only [vcT,vcS])
  rw [hm,hd,Jt (n:=i*wd c / 64) (by omega) (by omega)]
  have hpow:∀ q:Int,0<=q->q+wd c<=64->0<=ns.getD i.toNat 0*2 ^ q.toNat/\ns.getD i.toNat 0*2 ^ q.toNat < 18446744073709551616:=by
   intro q q0 q1
   have hp:=Jc q.toNat
   refine ⟨QS hx.1 (Xt hp),?_⟩
   have e1:=Int.mul_lt_mul_of_pos_right hf.2 hp
   have e2:=JZ (show (wd c).toNat+q.toNat<=64 by omega)
   rw [Int.pow_add] at e2
   have h64:(2:Int) ^ 64=18446744073709551616:=rfl
   omega
  have hstep:Z1q c ns (i+1)=Z49 c (Z1q c ns i) i (ns.getD i.toNat 0):=Z4b c ns h1 hi
  have hfin:0<=i+1/\i+1<=ns.length/\∀ j:Nat,(j:Int) < i+1->J7 c (ns.getD j 0)=true:=by
   refine ⟨by omega,by omega,fun j hj=> ?_⟩
   by_cases hji:(j:Int) < i
   .exact h3 j hji
   .rw [show j=i.toNat by omega];exact hb
  refine ⟨by ((unfold InR;omega)),by decide,fun hk=> ⟨by ((unfold InR;omega)),k+1,?_,⟨by omega,by omega⟩,by omega⟩,fun hk=> ⟨fun hw=> ?_,fun hw=> ?_⟩⟩
  .have hw1:1<=wd c:=by
    rcases Z0B c with e | e | e | e | e | e | e
    .omega
    .rw [e] at hk;omega
    all_goals omega
   obtain ⟨a0,a1,a2,a3⟩:=ZdD (c:=c) (i:=i) (by omega) (by omega) hw1
   have e:=hpow (k+1) (by omega) (by omega)
   rw [show (k+1).toNat=k.toNat+1 by omega,Zd4,<-Int.mul_assoc] at e ⊢
   rw [Z8 e.1 e.2]
  .obtain ⟨a0,a1,a2,a3⟩:=ZdD (c:=c) (i:=i) (by omega) (by omega) (by omega)
   obtain ⟨r1,r2⟩:=ZbH (c:=c) (n:=ns.length) (i:=i) (by omega) h1 hi (by omega)
   have hI:=Z9R hn (by omega) h1 hi h3 (by omega)
   have hu:=Z8d (c:=c) (i:=i) (by omega) h1 (by omega)
   have hq:=hI (i*wd c / 64).toNat
   rw [hu.1] at hq
   have hs:=Z8z hq.1 hq.2 hx.1 hf.2
   have hp:=JZ (show (i*wd c % 64).toNat+(wd c).toNat<=64 by omega)
   have h64:(2:Int) ^ 64=18446744073709551616:=rfl
   have hk':k=i*wd c % 64:=by omega
   subst hk'
   refine ⟨by ((unfold InR;omega)),by decide,by ((unfold InR;omega)),by decide,⟨by omega,by rw [Z1N];omega⟩,⟨by omega,by rw [Z1N];omega⟩,by omega,by ((unfold InR;omega)),i+1,?_,hfin,by omega⟩
   rw [Z8 (by omega) (by omega),hstep]
   unfold Z49
   rw [if_neg (by omega)]
  .refine ⟨by ((unfold InR;omega)),i+1,?_,hfin,by omega⟩
   rw [hstep]
   unfold Z49
   rw [if_pos (by omega)]
 .have hall:YU c ns=true:=Z82 (by omega) fun j hj=> h3 j (by omega)
  have e:i=ns.length:=by omega
  subst e
  rw [Z3p]
  refine YE (r':= .tup [(false,[.slice (U:=U) .u64 (J0 c ns) .unk]),(false,[.bool true])]) ?_ (by (repeat' (first | exact trivial | exact rfl | apply And.intro)))
  simp only [Z9G]
  rw [hall,Z9Q hall]
theorem Z6z{x y:Int}{a:Nat}(hx:0<=x)(hx':x < 2 ^ a)(hy:0<=y)(hs:x+y*2 ^ a < 18446744073709551616):
  IntKind.wrap .u64 (BitVec.ofInt (IntKind.bits .u64) x ||| BitVec.ofInt (IntKind.bits .u64) (y*2 ^ a)).toNat=x+y*2 ^ a:=by
 have hp:=Jc a
 have h1:0<=y*2 ^ a:=QS hy (Xt hp)
 have e:∀ z:Int,0<=z->z < 18446744073709551616->(BitVec.ofInt (IntKind.bits .u64) z).toNat=z.toNat:=by
  intro z z0 z1
  simp [IntKind.bits]
  omega
 rw [K5,e x hx (by omega),e _ h1 (by omega)]
 obtain ⟨m,rfl⟩:=Qf hx
 obtain ⟨n,rfl⟩:=Qf hy
 have hpn:(2:Int) ^ a=((2 ^ a:Nat):Int):=by simp
 rw [hpn] at hx' hs ⊢
 have hm:m < 2 ^ a:=by omega
 have hor:m ||| n*2 ^ a=m+n*2 ^ a:=by
  have h:=QJ hm n
  rw [Nat.or_comm,QV n,<-h,Nat.add_comm]
 rw [<-XD,Qe,Qe,hor,Z8 (by omega) (by omega)]
 push_cast
 try rfl
theorem c60:Contract Try.prog cfg 60 Z8h:=by
 refine ZjP c88 c87 c89 ?_
 intro c ns _ hp
 obtain ⟨hn,hl⟩:=hp
 dsimp only at hn hl
 have no:YU c ns=false->YN cfg Try.f60.ntmps Try.f60.results.toList (Z9G (c,ns,())) [] .ret (⟨[(4,.c (.nils)),(5,.c (.bool false))],[],[]⟩:LSt U):=by
  intro h
  refine YE (r':= .tup [(false,[.slice (U:=U) .u64 [] .unk]),(false,[.bool false])]) ?_ (by (repeat' (first | exact trivial | exact rfl | apply And.intro)))
  simp only [Z9G]
  rw [h,ZbV h]
 refine Zna _ _ _ ?_
 (simp only [vcT,vcS])
 have hrm:=Z6k (c:=c) (n:=ns.length) (by omega) (by omega)
 refine ⟨trivial,fun h=> no (Z7Z (by omega)),fun hc=> ⟨trivial,⟨hrm.1,by omega,by omega⟩,?_⟩⟩
 refine Zj (ι:=Int) (fun p=> Z23 c ns p (Z1q c ns p)) (fun p=> 0<=p/\p<=ns.length/\∀ j:Nat,(j:Int) < p->J7 c (ns.getD j 0)=true) (fun p=> ((ns.length:Int) - p).toNat) 0 (by simp only [Z4a]) ⟨by omega,by omega,fun j hj=> by omega⟩ ?_
 rintro i ⟨h1,h2,h3⟩
 refine ZgK _ _ _ _ _ _ ?_
 rintro y1 hy1 y2 hy2
 rw [if_neg (show ¬wd c < 0 by omega)] at hy2 ⊢
 (simp only [vcT,vcS])
 refine ⟨fun hi=> ⟨⟨h1,hi⟩,by rw [hy1];exact J3 hn _,fun hb=> no (Z81 (i:=i.toNat) (by omega) (by rw [<-hy1];exact hb)),fun hb=> ?_⟩,fun hi=> ?_⟩
 .have hx:=J3 hn i.toNat
  rw [<-hy1] at hx
  have hf:=Z8U hb
  have hin:0<=i*wd c/\i*wd c<=70368744177664:=by
   rcases Z0B c with e | e | e | e | e | e | e
   .omega
   all_goals (rw [e];omega)
  have hm:Int.tmod (i*wd c) 64=i*wd c % 64:=Xx hin.1
  rw [QX hin.1] at hy2
  have hstep:Z1q c ns (i+1)=Z49 c (Z1q c ns i) i y1:=by rw [hy1];exact Z4b c ns h1 hi
  have hfin:0<=i+1/\i+1<=ns.length/\∀ j:Nat,(j:Int) < i+1->J7 c (ns.getD j 0)=true:=by
   refine ⟨by omega,by omega,fun j hj=> ?_⟩
   by_cases hji:(j:Int) < i
   .exact h3 j hji
   .rw [show j=i.toNat by omega,<-hy1];exact hb
  refine ⟨fun hw=> ?_,fun hw=> ?_⟩
  .obtain ⟨a0,a1,a2,a3⟩:=ZdD (c:=c) (i:=i) (by omega) (by omega) (by omega)
   obtain ⟨r1,r2⟩:=ZbH (c:=c) (n:=ns.length) (i:=i) (by omega) h1 hi (by omega)
   have hI:=Z9R hn (by omega) h1 hi h3 (by omega)
   have hu:=Z8d (c:=c) (i:=i) (by omega) h1 (by omega)
   have hq:=hI (i*wd c / 64).toNat
   rw [hu.1] at hq
   have hs:=Z8z hq.1 hq.2 hx.1 hf.2
   have hp:=JZ (show (i*wd c % 64).toNat+(wd c).toNat<=64 by omega)
   have h64:(2:Int) ^ 64=18446744073709551616:=rfl
   have hwy:IntKind.wrap .i64 y2=i*wd c / 64:=by rw [hy2,Jt (by omega) (by omega)]
   have hmin:min (i*wd c % 64).toNat (IntKind.bits .u64)=(i*wd c % 64).toNat:=by simp [IntKind.bits];omega
   rw [hm,hwy,hmin,Z8 (n:=y1*2 ^ (i*wd c % 64).toNat) hs.2.2 (by omega),Z6z hq.1 hq.2 hx.1 (by omega)]
   refine ⟨by ((unfold InR;omega)),by decide,⟨by omega,by rw [Z1N];omega⟩,by ((unfold InR;omega)),by decide,by omega,⟨by omega,by rw [Z1N];omega⟩,by omega,by ((unfold InR;omega)),i+1,?_,hfin,by omega⟩
   rw [hstep]
   unfold Z49
   rw [if_neg (by omega)]
  .refine ⟨by ((unfold InR;omega)),i+1,?_,hfin,by omega⟩
   rw [hstep]
   unfold Z49
   rw [if_pos (by omega)]
 .have hall:YU c ns=true:=Z82 (by omega) fun j hj=> h3 j (by omega)
  have e:i=ns.length:=by omega
  subst e
  rw [Z3p]
  refine YE (r':= .tup [(false,[.slice (U:=U) .u64 (J0 c ns) .unk]),(false,[.bool true])]) ?_ (by (repeat' (first | exact trivial | exact rfl | apply And.intro)))
  simp only [Z9G]
  rw [hall,Z9Q hall]
noncomputable section
def Z7K(a:Tree × Unit):Prop:=ZE a.1<=1000000
def ZiB(a:Tree × Unit):V U:= .tup [(false,[ci (frW a.1.kids:Int)]),(false,[ci (frK a.1.kids:Int)])]
def Z8l:Fs U:=fs Zj2 (fun a=> [Z7K a]) ZiB
def Zig(a:Int × Unit):V U:= .c (.bool (decide (-536870912<=a.1/\a.1 < 536870912)))
def Z1t:Fs U:=fs Zg0 (fun a=> [Z6w a]) Zig
def Z1P(a:Int × Int × Unit):Prop:=0<=a.2.1/\a.2.1 < 4
def Zej(a:Int × Int × Unit):V U:= .c (.int .u64 (4*(a.1 % 1073741824)+a.2.1))
def Z0e:Fs U:=fs ZfQ (fun a=> [Z1P a]) Zej
def Zg1:ArgL (Ptr × Unit):=(.cons (aEl .ptr) .nil)
def Z0E(a:Ptr × Unit):Prop:=Ptr.kind a.1=1\/Ptr.kind a.1=2
def ZbN(a:Ptr × Unit):V U:= .tup [(false,[.int .u64 (Zt a.1)]),(false,[.bool (eqP (Zh (Zt a.1)) a.1 && !decide (Ptr.kind a.1=4))])]
def Z0q:Fs U:=fs Zg1 (fun a=> [Z0E a]) ZbN
def ZhD:Zc U:=lvl [([1],[1]),([1,4,5],[1]),([1,4,5,6],[1]),([1,4,5,6,11],[1]),([1,4,5,6],[1]),([1,4,5,6,22],[1]),([1,4,5,6,22],[1]),([1,4,5,6,38],[1]),([1,4,5,6,38],[1]),([2,3],[])]
def Z0N(t:Tree)(x4 x5 x6:Int):LSt U:=(L2 [pL 1,pI 4 x4,pI 5 x5,pI 6 x6] [(.loc 1,(enc .tree t))])
def Z6R(t:Tree)(x4 x5 x6 x4_a:Int):LSt U:=(L2 [pL 1,pI 4 x4_a,pI 5 x5,pI 6 x6,(22,.c (.bool (decide ((x4:Int) < ((Tree.words (t.kids.getD x6.toNat Tree.nil)).length:Int)))))] [(.loc 1,(enc .tree t))])
def Z6Q(t:Tree)(x5 x6 x4_a x5_b:Int):LSt U:=(L2 [pL 1,pI 4 x4_a,pI 5 x5_b,pI 6 x6,(38,.c (.bool (decide ((x5:Int) < ((Tree.kids (t.kids.getD x6.toNat Tree.nil)).length:Int)))))] [(.loc 1,(enc .tree t))])
abbrev A38(p:List Nat):=AW (Z1 Zff) Try.f38 ZhD p
abbrev S38(p:List Nat):=SW (Z1 Zff) Try.f38 ZhD p
theorem Znr(t:Tree)(Q:QT)(h:(Zo (A38 [1,1,0,1,0,0]) (Z0N t 0 0 0) (xB 0 (S38 [1,1,1] Q)))):
  A38 [] (L2 [(0,.agg (enc .tree t))] []) Q:=
 (Eq.mpr (by kernel_rfl) h:)
theorem ZgU(t:Tree)(x4 x5 x6:Int)(N0:NT)(Q:QT)(h:let z2:=decide (x6 < (t.kids.length:Int));let z1:=xB 1 (S38 [1,1,0,1,0,0,1,1] (xT N0 (xB 0 (S38 [1,1,1] Q))));let z0:=Tree.words (t.kids.getD x6.toNat Tree.nil);let z3:=decide (x4 < (z0.length:Int));((z2=true->((0:Int)<=x6/\x6 < (t.kids.length:Int))/\((z3=true->((0:Int)<=x6/\x6 < (t.kids.length:Int))/\(A38 [1,1,0,1,0,0,1,0,0,1] (Z6R t x4 x5 x6 (z0.length:Int)) z1))/\(z3=false->A38 [1,1,0,1,0,0,1,0,0,1] (Z6R t x4 x5 x6 x4) z1)))/\(z2=false->(Q .ret (L2 [pI 2 x4,pI 3 x5] []))))):
  A38 [1,1,0,1,0,0] (Z0N t x4 x5 x6) (xT N0 (xB 0 (S38 [1,1,1] Q))):=
 (Eq.mpr (by kernel_rfl) h:)
theorem ZbC(t:Tree)(x4 x5 x6 x4_a:Int)(N0:NT)(Q:QT)(h:let z2:=xT N0 (xB 0 (S38 [1,1,1] Q));let z0:=Tree.kids (t.kids.getD x6.toNat Tree.nil);let z1:=decide (x5 < (z0.length:Int));((0:Int)<=x6/\x6 < (t.kids.length:Int))/\((z1=true->((0:Int)<=x6/\x6 < (t.kids.length:Int))/\(A38 [1,1,0,1,0,0,1,1] (Z6Q t x5 x6 x4_a (z0.length:Int)) z2))/\(z1=false->A38 [1,1,0,1,0,0,1,1] (Z6Q t x5 x6 x4_a x5) z2))):
  A38 [1,1,0,1,0,0,1,0,0,1] (Z6R t x4 x5 x6 x4_a) (xB 1 (S38 [1,1,0,1,0,0,1,1] (xT N0 (xB 0 (S38 [1,1,1] Q))))):=
 (Eq.mpr (by kernel_rfl) h:)
theorem Z5x(t:Tree)(x5 x6 x4_a x5_b:Int)(N0:NT)(Q:QT)(h:(InR (x6+1))/\(N0 (Z0N t x4_a x5_b (x6+1)))):
  A38 [1,1,0,1,0,0,1,1] (Z6Q t x5 x6 x4_a x5_b) (xT N0 (xB 0 (S38 [1,1,1] Q))):=
 (Eq.mpr (by kernel_rfl) h:)
abbrev ZlH(t:Tree):Prop:=AW (Z1 Zff) Try.f38 ZhD [] (Zs (Zj2.can (t,())) []) (EQ Try.f38 (ZiB (t,())) [])
theorem Zk3(hb:∀ (t:Tree) (_:Unit),Z7K (t,())->ZlH t):CT 38 Z8l:=
 Z3 (l:=[]) Zf rfl trivial ZhD Try.func38 rfl rfl 1 (fun _=> rfl) (by decide) (fun ⟨t,_⟩=> hb t ())
def Zhx:Zc U:=lvl [([1],[1]),([1,4,5],[1]),([4,5,9,10,11],[]),([4,5,9,10,11,12],[]),([4,5,7,9,10,11],[7]),([4,5,9,10,11],[]),([4,5,9,10,11],[]),([2,3],[])]
def Z3E(t:Tree)(x4 x5 x11:Int):LSt U:=(L2 [pI 4 x4,pI 5 x5,(9,.c (sU .tree t.kids .unk)),pI 10 (t.kids.length:Int),pI 11 x11] [])
abbrev A74(p:List Nat):=AW (Z1 Zff) Try.f74 Zhx p
abbrev S74(p:List Nat):=SW (Z1 Zff) Try.f74 Zhx p
theorem Zn4(t:Tree)(Q:QT)(h:(Zo (A74 [1,1,0,1,0,0]) (Z3E t 0 0 0) (xB 0 (S74 [1,1,1] Q)))):
  A74 [] (L2 [(0,.agg (enc .tree t))] []) Q:=
 (Eq.mpr (by kernel_rfl) h:)
theorem ZgJ(t:Tree)(x4 x5 x11:Int)(N0:NT)(Q:QT)(h:let z1:=decide (x11 < (t.kids.length:Int));let z0:=t.kids.getD x11.toNat Tree.nil;((z1=true->((0:Int)<=x11/\x11 < (t.kids.length:Int))/\((InR (x11+1))/\(N0 (Z3E t (if x4 < ((Tree.words z0).length:Int) then ((Tree.words z0).length:Int) else x4) (if x5 < ((Tree.kids z0).length:Int) then ((Tree.kids z0).length:Int) else x5) (x11+1)))))/\(z1=false->(Q .ret (L2 [pI 2 x4,pI 3 x5] []))))):
  A74 [1,1,0,1,0,0] (Z3E t x4 x5 x11) (xT N0 (xB 0 (S74 [1,1,1] Q))):=
 (Eq.mpr (by kernel_rfl) h:)
abbrev Zlk(t:Tree):Prop:=AW (Z1 Zff) Try.f74 Zhx [] (Zs (Zj2.can (t,())) []) (EQ Try.f74 (ZiB (t,())) [])
theorem ZjJ(hb:∀ (t:Tree) (_:Unit),Z7K (t,())->Zlk t):CT 74 Z8l:=
 Z3 (l:=[]) Zf rfl trivial Zhx Try.func74 rfl rfl 1 (fun _=> rfl) (by decide) (fun ⟨t,_⟩=> hb t ())
abbrev A98(p:List Nat):=AW (Z1 Zff) Try.f98 Zko p
theorem ZmN(n:Int)(Q:QT)(h:let z0:=decide (((-536870912):Int)<=n);((Tr (z0=true))/\(Tr (z0=true))/\(Q .ret (L2 [(2,.c (.bool (bif z0 then (decide (n < 536870912)) else false)))] [])))):
  A98 [] (L2 [pI 0 n] []) Q:=
 (Eq.mpr (by kernel_rfl) h:)
abbrev Zl3(n:Int):Prop:=AW (Z1 Zff) Try.f98 Zko [] (Zs (Zg0.can (n,())) []) (EQ Try.f98 (Zig (n,())) [])
theorem Zjs(hb:∀ (n:Int) (_:Unit),Z6w (n,())->Zl3 n):CT 98 Z1t:=
 Z3 (l:=[]) Zf rfl trivial Zko Try.func98 rfl rfl 1 (fun _=> rfl) (by decide) (fun ⟨n,_⟩=> hb n ())
abbrev ZnV(p:List Nat):=AW (Z1 Zff) Try.f100 Zkj p
theorem Zm2(off k:Int)(Q:QT)(h:let z0:=IntKind.bits .u32;(((0:Int)<=2)/\(Q .ret (L2 [(4,.c (.int .u64 (IntKind.wrap .u64 (IntKind.wrap .u32 (BitVec.ofInt z0 (IntKind.wrap .u32 (((IntKind.wrap .u32 off):Int)*2 ^ (min (Int.toNat 2) z0))) ||| BitVec.ofInt z0 (IntKind.wrap .u32 k)).toNat))))] [])))):
  ZnV [] (L2 [pI 0 off,pI 1 k] []) Q:=
 (Eq.mpr (by kernel_rfl) h:)
abbrev Zib(off k:Int):Prop:=AW (Z1 Zff) Try.f100 Zkj [] (Zs (ZfQ.can (off,k,())) []) (EQ Try.f100 (Zej (off,k,())) [])
theorem Zhv(hb:∀ (off:Int) (k:Int) (_:Unit),Z1P (off,k,())->Zib off k):CT 100 Z0e:=
 Z3 (l:=[]) Zf rfl trivial Zkj Try.func100 rfl rfl 2 (fun _=> rfl) (by decide) (fun ⟨off,k,_⟩=> hb off k ())
def Zfk:List (FuncId × Fs U):=[(98,Z1t),(99,Z1s),(100,Z0e),(101,Z0d)]
def Zky:Zc U:=lvl [([1],[1]),([1,4],[1]),([1,4,6],[1]),([1,4,6,7],[1]),([1,4,21,49,63,72,84],[1]),([1,4,21,49,63,72,84],[1]),([1,4,6,35],[1]),([1,4,21,49,63,72,84],[1]),([1,4,21,49,63,72,84],[1]),([1,4,21,49,63,72,84],[1]),([1,4,21,49,63,72,84],[1]),([1,4],[1]),([1,4,21,49,63,72,84],[1]),([1,4,21,49,63,72,84],[1]),([2,3],[])]
def YT(p:Ptr)(x4:Int)(v21 v49 v84 v72 v63:V U):LSt U:=(L2 [pL 1,(4,.c (.int .u64 x4)),(21,v21),(49,v49),(63,v63),(72,v72),(84,v84)] [(.loc 1,(enc .ptr p))])
abbrev A75(p:List Nat):=AW (Z1 Zfk) Try.f75 Zky p
theorem Zn3(p:Ptr)(Q:QT)(h:let z9:=((Ptr.kind p):Int)==3;let z5:=IntKind.bits .u64;let z10:=min (Int.toNat 32) z5;let z4:=decide (0<=(Ptr.off p)/\(Ptr.off p)<=536870911);let z8:=bif z4 then (decide (0<=(Ptr.segment p)/\(Ptr.segment p)<=4294967295)) else false;let z3:=IntKind.wrap .u64 (BitVec.ofInt z5 (IntKind.wrap .u64 (BitVec.ofInt z5 (IntKind.wrap .u64 (((IntKind.wrap .u64 (Ptr.off p)):Int)*2 ^ (min (Int.toNat 3) z5))) ||| BitVec.ofInt z5 2).toNat) ||| BitVec.ofInt z5 (IntKind.wrap .u64 (((IntKind.wrap .u64 (Ptr.segment p)):Int)*2 ^ z10))).toNat;let z0:=decide (-536870912<=(Ptr.off p)/\(Ptr.off p) < 536870912);let z2:=bif z0 then (decide (0<=(Ptr.code p)/\(Ptr.code p)<=7)) else false;let z6:=bif z2 then (decide (0<=(Ptr.count p)/\(Ptr.count p)<=536870911)) else false;let z1:=bif z0 then (decide (0<=(Ptr.data p)/\(Ptr.data p)<=65535)) else false;let z7:=bif z1 then (decide (0<=(Ptr.ptrs p)/\(Ptr.ptrs p)<=65535)) else false;(((((Ptr.kind p):Int)==1)=true->(Z6w ((Ptr.off p),()))/\(Tr (z0=true))/\(Tr (z0=true))/\(z0=true->J2 ((Ptr.data p),65535,()))/\(Tr (z0=true))/\(Tr (z1=true))/\(Tr (z1=true))/\(z1=true->J2 ((Ptr.ptrs p),65535,()))/\(Tr (z1=true))/\((z7=true->(Z1P ((Ptr.off p),0,()))/\((0:Int)<=32)/\((0:Int)<=48)/\(A75 [1,1,1] (YT p (IntKind.wrap .u64 (BitVec.ofInt z5 (IntKind.wrap .u64 (BitVec.ofInt z5 (4*((Ptr.off p) % 1073741824)+0) ||| BitVec.ofInt z5 (IntKind.wrap .u64 (((IntKind.wrap .u64 (Ptr.data p)):Int)*2 ^ z10))).toNat) ||| BitVec.ofInt z5 (IntKind.wrap .u64 (((IntKind.wrap .u64 (Ptr.ptrs p)):Int)*2 ^ (min (Int.toNat 48) z5)))).toNat) (.c (.bool z7)) .junk .junk .junk .junk) Q))/\(z7=false->A75 [1,1,1] (YT p 0 (.c (.bool z7)) .junk .junk .junk .junk) Q)))/\((((Ptr.kind p):Int)==1)=false->(((((Ptr.kind p):Int)==2)=true->(Z6w ((Ptr.off p),()))/\(Tr (z0=true))/\(Tr (z0=true))/\(z0=true->J2 ((Ptr.code p),7,()))/\(Tr (z0=true))/\(Tr (z2=true))/\(Tr (z2=true))/\(z2=true->J2 ((Ptr.count p),536870911,()))/\(Tr (z2=true))/\((z6=true->(Z1P ((Ptr.off p),1,()))/\((0:Int)<=32)/\((0:Int)<=35)/\(A75 [1,1,1] (YT p (IntKind.wrap .u64 (BitVec.ofInt z5 (IntKind.wrap .u64 (BitVec.ofInt z5 (4*((Ptr.off p) % 1073741824)+1) ||| BitVec.ofInt z5 (IntKind.wrap .u64 (((IntKind.wrap .u64 (Ptr.code p)):Int)*2 ^ z10))).toNat) ||| BitVec.ofInt z5 (IntKind.wrap .u64 (((IntKind.wrap .u64 (Ptr.count p)):Int)*2 ^ (min (Int.toNat 35) z5)))).toNat) .junk (.c (.bool z6)) .junk .junk .junk) Q))/\(z6=false->A75 [1,1,1] (YT p 0 .junk (.c (.bool z6)) .junk .junk .junk) Q)))/\((((Ptr.kind p):Int)==2)=false->((z9=true->(J2 ((Ptr.off p),536870911,()))/\(Tr (z4=true))/\(Tr (z4=true))/\(z4=true->J2 ((Ptr.segment p),4294967295,()))/\(Tr (z4=true))/\((z8=true->((0:Int)<=3)/\((0:Int)<=32)/\(((Ptr.double p)=true->(A75 [1,1,1] (YT p (IntKind.wrap .u64 (BitVec.ofInt z5 z3 ||| BitVec.ofInt z5 4).toNat) .junk .junk (.c (.bool (Ptr.double p))) .junk .junk) Q))/\((Ptr.double p)=false->A75 [1,1,1] (YT p z3 .junk .junk (.c (.bool (Ptr.double p))) .junk .junk) Q)))/\(z8=false->A75 [1,1,1] (YT p 0 .junk .junk .junk (.c (.bool z8)) (.c (.bool z9))) Q)))/\(z9=false->A75 [1,1,1] (YT p 0 .junk .junk .junk .junk (.c (.bool z9))) Q))))))):
  A75 [] (L2 [(0,.agg (enc .ptr p))] []) Q:=
 (Eq.mpr (by kernel_rfl) h:)
theorem ZgI(p:Ptr)(x4:Int)(v21 v49 v84 v72 v63:V U)(Q:QT)(h:let z0:=(((Ptr.kind (Zh x4)):Int)==(Ptr.kind p)) && ((((Ptr.off (Zh x4)):Int)==(Ptr.off p)) && ((((Ptr.data (Zh x4)):Int)==(Ptr.data p)) && ((((Ptr.ptrs (Zh x4)):Int)==(Ptr.ptrs p)) && ((((Ptr.code (Zh x4)):Int)==(Ptr.code p)) && ((((Ptr.count (Zh x4)):Int)==(Ptr.count p)) && ((((Ptr.segment (Zh x4)):Int)==(Ptr.segment p)) && (((Ptr.double (Zh x4))==(Ptr.double p)) && true)))))));(Z4e (x4,()))/\(Tr (z0=true))/\(Tr (z0=true))/\(Tr (z0=true))/\(Q .ret (L2 [(2,.c (.int .u64 x4)),(3,.c (.bool (bif z0 then (((Ptr.kind p):Int) !=4) else false)))] []))):
  A75 [1,1,1] (YT p x4 v21 v49 v84 v72 v63) Q:=
 (Eq.mpr (by kernel_rfl) h:)
abbrev Zlj(p:Ptr):Prop:=AW (Z1 Zfk) Try.f75 Zky [] (Zs (Zg1.can (p,())) []) (EQ Try.f75 (ZbN (p,())) [])
theorem ZjI(c98:CT 98 Z1t)(c99:CT 99 Z1s)(Zdm:CT 100 Z0e)(Zdl:CT 101 Z0d)(hb:∀ (p:Ptr) (_:Unit),Z0E (p,())->Zlj p):CT 75 Z0q:=
 Z3 (l:=[(98,Z1t),(99,Z1s),(100,Z0e),(101,Z0d)]) Zf rfl (⟨c98,c99,Zdm,Zdl,trivial⟩) Zky Try.func75 rfl rfl 1 (fun _=> rfl) (by decide) (fun ⟨p,_⟩=> hb p ())
end
theorem Zcq:∀ (a:List Tree) (t:Tree),frW (a++[t])=max (frW a) t.words.length/\frK (a++[t])=max (frK a) t.kids.length
 | [],t=> by simp [frW,frK]
 | x ::r,t=> by
  obtain ⟨h1,h2⟩:=Zcq r t
  rw [Xi,frW,frK,h1,h2,frW,frK]
  omega
theorem ZdE{ks:List Tree}{i:Int}(h0:0<=i)(h:i < ks.length):ks.take (i+1).toNat=ks.take i.toNat++[ks.getD i.toNat Tree.nil]:=by
 rw [show (i+1).toNat=i.toNat+1 by omega]
 exact ZcO (by omega)
theorem Js{ks:List Tree}{i:Int}(h0:0<=i)(h:i < ks.length):frW (ks.take (i+1).toNat)=max (frW (ks.take i.toNat)) (ks.getD i.toNat Tree.nil).words.length/\frK (ks.take (i+1).toNat)=max (frK (ks.take i.toNat)) (ks.getD i.toNat Tree.nil).kids.length:=by
 rw [ZdE h0 h]
 exact Zcq _ _
theorem Z2x(t:Tree):t.words.length+t.kids.length+1<=ZE t:=by
 obtain ⟨k,w,ks⟩:=t
 rw [ZE]
 have:=Z8R ks
 show w.length+ks.length+1<=_
 omega
theorem c74:Contract Try.prog cfg 74 Z8l:=by
 refine ZjJ ?_
 intro t _ hp
 simp only [Z7K] at hp
 have hk:=Z2x t
 refine Zn4 _ _ ?_
 refine Zj (ι:=Int × Int × Int) (fun p=> Z3E t p.1 p.2.1 p.2.2) (fun p=> 0<=p.2.2/\p.2.2<=t.kids.length/\p.1=frW (t.kids.take p.2.2.toNat)/\p.2.1=frK (t.kids.take p.2.2.toNat)) (fun p=> ((t.kids.length:Int) - p.2.2).toNat) (0,0,0) rfl ⟨by dsimp only;omega,by dsimp only;omega,rfl,rfl⟩ ?_
 rintro ⟨w,k,i⟩ ⟨h1,h2,h3,h4⟩
 dsimp only at h1 h2 h3 h4
 refine ZgJ _ _ _ _ _ _ ?_
 (simp only [vcT,vcS])
 refine ⟨fun hi=> ⟨⟨h1,hi⟩,by ((unfold InR;omega)),(if w < ((t.kids.getD i.toNat Tree.nil).words.length:Int) then ((t.kids.getD i.toNat Tree.nil).words.length:Int) else w,if k < ((t.kids.getD i.toNat Tree.nil).kids.length:Int) then ((t.kids.getD i.toNat Tree.nil).kids.length:Int) else k,i+1),rfl,⟨by dsimp only;omega,by dsimp only;omega,?_,?_⟩,by dsimp only;omega⟩,fun hi=> ?_⟩
 .dsimp only
  rw [(Js h1 hi).1,h3]
  split <;> omega
 .dsimp only
  rw [(Js h1 hi).2,h4]
  split <;> omega
 .have e:i=t.kids.length:=by omega
  subst e
  rw [Qe,Xf] at h3 h4
  subst h3 h4
  (repeat' (first | exact trivial | exact rfl | apply And.intro))
theorem c38:Contract Try.prog cfg 38 Z8l:=by
 refine Zk3 ?_
 intro t _ hp
 simp only [Z7K] at hp
 have hk:=Z2x t
 refine Znr _ _ ?_
 refine Zj (ι:=Int × Int × Int) (fun p=> Z0N t p.1 p.2.1 p.2.2) (fun p=> 0<=p.2.2/\p.2.2<=t.kids.length/\p.1=frW (t.kids.take p.2.2.toNat)/\p.2.1=frK (t.kids.take p.2.2.toNat)) (fun p=> ((t.kids.length:Int) - p.2.2).toNat) (0,0,0) rfl ⟨by dsimp only;omega,by dsimp only;omega,rfl,rfl⟩ ?_
 rintro ⟨w,k,i⟩ ⟨h1,h2,h3,h4⟩
 dsimp only at h1 h2 h3 h4
 have fin:∀ (hi:i < t.kids.length) {w' k':Int},w'=frW (t.kids.take (i+1).toNat)->k'=frK (t.kids.take (i+1).toNat)->
   InR (i+1)/\∃ p:Int × Int × Int,Z0N t w' k' (i+1)=Z0N t p.1 p.2.1 p.2.2/\(0<=p.2.2/\p.2.2<=t.kids.length/\p.1=frW (t.kids.take p.2.2.toNat)/\p.2.1=frK (t.kids.take p.2.2.toNat))/\((t.kids.length:Int) - p.2.2).toNat < ((t.kids.length:Int) - i).toNat:=
  fun hi w' k' e1 e2=> ⟨by ((unfold InR;omega)),(w',k',i+1),rfl,⟨by dsimp only;omega,by dsimp only;omega,e1,e2⟩,by dsimp only;omega⟩
 refine ZgU _ _ _ _ _ _ ?_
 (simp only [vcT,vcS])
 refine ⟨fun hi=> ⟨⟨h1,hi⟩,fun hc=> ⟨⟨h1,hi⟩,?_⟩,fun hc=> ?_⟩,fun hi=> ?_⟩
 .refine ZbC _ _ _ _ _ _ _ ?_
  (simp only [vcT,vcS])
  exact ⟨⟨h1,hi⟩,fun hd=> ⟨⟨h1,hi⟩,Z5x _ _ _ _ _ _ _ (fin hi (by rw [(Js h1 hi).1];omega) (by rw [(Js h1 hi).2];omega))⟩,fun hd=> Z5x _ _ _ _ _ _ _ (fin hi (by rw [(Js h1 hi).1];omega) (by rw [(Js h1 hi).2];omega))⟩
 .refine ZbC _ _ _ _ _ _ _ ?_
  (simp only [vcT,vcS])
  exact ⟨⟨h1,hi⟩,fun hd=> ⟨⟨h1,hi⟩,Z5x _ _ _ _ _ _ _ (fin hi (by rw [(Js h1 hi).1];omega) (by rw [(Js h1 hi).2];omega))⟩,fun hd=> Z5x _ _ _ _ _ _ _ (fin hi (by rw [(Js h1 hi).1];omega) (by rw [(Js h1 hi).2];omega))⟩
 .have e:i=t.kids.length:=by omega
  subst e
  rw [Qe,Xf] at h3 h4
  subst h3 h4
  (repeat' (first | exact trivial | exact rfl | apply And.intro))
theorem c98:Contract Try.prog cfg 98 Z1t:=by
 refine Zjs ?_
 intro n _ _
 refine ZmN _ _ ?_
 (simp only [vcT,vcS])
 refine Zd rfl ?_
 by_cases h1: -536870912<=n <;> by_cases h2:n < 536870912 <;> simp [h1,h2]
theorem Z3d(n:Int):IntKind.wrap .u32 n=n % 4294967296:=by
 simp [IntKind.wrap,IntKind.signed,IntKind.bits]
theorem ZeD{x y:Int}{a:Nat}(hx:0<=x)(hx':x < 2 ^ a)(hy:0<=y)(hs:x+y*2 ^ a < 4294967296):
  IntKind.wrap .u32 (BitVec.ofInt (IntKind.bits .u32) (y*2 ^ a) ||| BitVec.ofInt (IntKind.bits .u32) x).toNat=x+y*2 ^ a:=by
 have hp:=Jc a
 have h1:0<=y*2 ^ a:=QS hy (Xt hp)
 have e:∀ z:Int,0<=z->z < 4294967296->(BitVec.ofInt (IntKind.bits .u32) z).toNat=z.toNat:=by
  intro z z0 z1
  simp [IntKind.bits]
  omega
 rw [K5,e x hx (by omega),e _ h1 (by omega),Z3d]
 obtain ⟨m,rfl⟩:=Qf hx
 obtain ⟨n,rfl⟩:=Qf hy
 have hpn:(2:Int) ^ a=((2 ^ a:Nat):Int):=by simp
 rw [hpn] at hx' hs ⊢
 have hm:m < 2 ^ a:=by omega
 have hor:n*2 ^ a ||| m=m+n*2 ^ a:=by
  have h:=QJ hm n
  rw [QV n,<-h,Nat.add_comm]
 rw [<-XD,Qe,Qe,hor]
 push_cast
 push_cast at hs
 omega
theorem Zdm:Contract Try.prog cfg 100 Z0e:=by
 refine Zhv ?_
 intro o k _ hp
 obtain ⟨hk0,hk⟩:=hp
 dsimp only at hk0 hk
 refine Zm2 _ _ _ ⟨by decide,ZJ rfl ?_⟩
 show _=4*(o % 1073741824)+k
 have e1:IntKind.wrap .u32 (IntKind.wrap .u32 o*2 ^ (min (Int.toNat 2) (IntKind.bits .u32)))=o % 1073741824*2 ^ 2:=by
  rw [Z3d,Z3d,show (2:Int) ^ (min (Int.toNat 2) (IntKind.bits .u32))=4 from rfl,show (2:Int) ^ 2=4 from rfl]
  omega
 have e2:IntKind.wrap .u32 k=k:=by rw [Z3d];omega
 rw [e1,e2,ZeD hk0 (by rw [show (2:Int) ^ 2=4 from rfl];omega) (by omega) (by rw [show (2:Int) ^ 2=4 from rfl];omega),show (2:Int) ^ 2=4 from rfl,Z8 (by omega) (by omega)]
 omega
theorem Z7n{d k:Int}(n:Nat)(hk:min (Int.toNat k) (IntKind.bits .u64)=n)(h0:0<=d)(h1:d < 18446744073709551616)(h2:d*2 ^ n < 18446744073709551616):IntKind.wrap .u64 (IntKind.wrap .u64 d*2 ^ (min (Int.toNat k) (IntKind.bits .u64)))=d*2 ^ n:=by
 rw [hk,Z8 h0 h1]
 exact Z8 (QS h0 (Xt (Jc n))) h2
theorem ZfI(p:Ptr):0<=Zt p/\Zt p < 18446744073709551616:=by
 unfold Zt
 have h0:=XE p.off (show (1073741824:Int)≠0 by decide)
 have h1:=Xo p.off (show (0:Int) < 1073741824 by decide)
 repeat' split
 all_goals omega
theorem c75:Contract Try.prog cfg 75 Z0q:=by
 refine ZjI c98 c99 Zdm Zdl ?_
 intro p _ hp
 simp only [Z0E] at hp
 have hr:=ZfI p
 have o0:=XE p.off (show (1073741824:Int)≠0 by decide)
 have o1:=Xo p.off (show (0:Int) < 1073741824 by decide)
 have fin:∀ {x:Int} {v1 v2 v3 v4 v5:V U},x=Zt p->A75 [1,1,1] (YT p x v1 v2 v3 v4 v5) (YN cfg Try.f75.ntmps Try.f75.results.toList (ZbN (p,())) []):=by
  intro x v1 v2 v3 v4 v5 hx
  refine ZgI _ _ _ _ _ _ _ _ ?_
  refine ⟨by subst hx;exact hr,fun h=> h,fun h=> h,fun h=> h,?_⟩
  refine YE (r':= .tup [(false,[.int .u64 x]),(false,[.bool (bif eqP (Zh x) p then (p.kind !=4) else false)])]) ?_ (by (repeat' (first | exact trivial | exact rfl | apply And.intro)))
  simp only [ZbN]
  subst hx
  cases eqP (Zh (Zt p)) p <;> rfl
 have e32:min (Int.toNat 32) (IntKind.bits .u64)=32:=rfl
 have e48:min (Int.toNat 48) (IntKind.bits .u64)=48:=rfl
 have e35:min (Int.toNat 35) (IntKind.bits .u64)=35:=rfl
 have q32:(2:Int) ^ 32=4294967296:=rfl
 have q48:(2:Int) ^ 48=281474976710656:=rfl
 have q35:(2:Int) ^ 35=34359738368:=rfl
 refine Zn3 _ _ ?_
 (simp only [vcT,vcS])
 refine ⟨fun k1=> ⟨trivial,fun _=> trivial,fun _=> trivial,fun c=> ⟨⟨by dsimp only;omega,by dsimp only;omega⟩,by decide,by decide,fin ?_⟩,fun c=> fin ?_⟩,fun k1=> ⟨fun k2=> ⟨trivial,fun _=> trivial,fun _=> trivial,fun c=> ⟨⟨by dsimp only;omega,by dsimp only;omega⟩,by decide,by decide,fin ?_⟩,fun c=> fin ?_⟩,fun k2=> by rcases hp with h | h;exact absurd h k1;exact absurd h k2⟩⟩
 .obtain ⟨⟨c1,c2⟩,c3⟩:=c
  rw [Z7n 32 e32 (by omega) (by omega) (by omega),Z7n 48 e48 (by omega) (by omega) (by omega),Z6z (x:=4*(p.off % 1073741824)+0) (y:=p.data) (a:=32) (by omega) (by omega) (by omega) (by omega),Z6z (y:=p.ptrs) (a:=48) (by omega) (by omega) (by omega) (by omega)]
  unfold Zt
  rw [if_pos k1,if_pos ⟨c1,c2,c3⟩]
  omega
 .unfold Zt
  rw [if_pos k1,if_neg (by omega)]
 .obtain ⟨⟨c1,c2⟩,c3⟩:=c
  rw [Z7n 32 e32 (by omega) (by omega) (by omega),Z7n 35 e35 (by omega) (by omega) (by omega),Z6z (x:=4*(p.off % 1073741824)+1) (y:=p.code) (a:=32) (by omega) (by omega) (by omega) (by omega),Z6z (y:=p.count) (a:=35) (by omega) (by omega) (by omega) (by omega)]
  unfold Zt
  rw [if_neg k1,if_pos k2,if_pos ⟨c1,c2,c3⟩]
  omega
 .unfold Zt
  rw [if_neg k1,if_pos k2,if_neg (by omega)]
theorem Z3D{t:Tree}{i:Nat}(h:i < t.kids.length):ZE (t.kids.getD i Tree.nil)+1<=ZE t:=by
 obtain ⟨k,w,ks⟩:=t
 have:=Jy (l:=ks) h Tree.nil
 have hm:∀ {l:List Tree} {x:Tree},x∈l->ZE x<=Yo l:=by
  intro l
  induction l with
  | nil=> intro x hx;cases hx
  | cons y l ih=>
   intro x hx
   rw [Yo]
   rcases QF.1 hx with rfl | hx
   .omega
   .have:=ih hx;omega
 have:=hm this
 rw [ZE]
 show ZE (ks.getD i Tree.nil)+1<=_
 omega
theorem ZhL{f:FuncId}{α:Type}{A:ArgL α}{pre pre':α->Prop}{res res':α->V U}(h:Contract Try.prog cfg f (fs A (fun a=> [pre a]) res))(hh:∀ a,pre' a->pre a/\res a=res' a):Contract Try.prog cfg f (fs A (fun a=> [pre' a]) res'):=by
 refine Z0m h.1 rfl ?_
 intro args X ps r X' hs hps
 unfold fs at hs
 simp only at hs
 split at hs
 .split at hs
  .rename_i a ha
   cases hs
   obtain ⟨h1,h2⟩:=hh a hps.1
   rw [<-h2]
   exact h.one rfl args [] [pre a] _ [] (by unfold fs;simp only [ha]) ⟨h1,trivial⟩
  .cases hs
 .cases hs
def Z8C(a:Int × List Int × Unit):Prop:=(okW a.2.1/\a.2.1.length<=1099511627776)/\YU a.1 a.2.1=true
noncomputable def ZbT(a:Int × List Int × Unit):V U:= .tup [(false,[.slice (U:=U) .u64 (J0 a.1 a.2.1) .unk]),(false,[.bool true])]
noncomputable def Z3h:Fs U:=fs Zg8 (fun a=> [Z8C a]) ZbT
theorem ZfN:Contract Try.prog cfg 60 Z3h:=ZhL c60 fun a h=> ⟨h.1,by
 unfold Z9G ZbT
 rw [h.2]
 unfold ZF
 rw [if_pos h.2]⟩
def Z73(ks:List Tree):Prop:=∀ k∈ks,k.kind≠10/\∃ d,Z6 k d=true
theorem Jf{t:Tree}(h:rng t){k:Tree}(hk:k∈t.kids):rng k:=by
 obtain ⟨k',w,ks⟩:=t
 rw [rng] at h
 have:∀ l:List Tree,Z1p l->∀ t'∈l,rng t':=by
  intro l
  induction l with
  | nil=> intro _ t' h;cases h
  | cons x l ih=>
   intro h t' ht
   rw [Z1p] at h
   rcases QF.1 ht with rfl | ht
   .exact h.1
   .exact ih h.2 t' ht
 exact this ks h.2.2 k hk
theorem RiT.kidsOk{k:Int}{w:List Int}{ks:List Tree}{d:Int}(h:RiT k w ks d)(hk:k=1\/k=8):Z73 ks:=fun t ht=> ⟨(h.kids t ht).2.2.1 hk,_,(h.kids t ht).1⟩
theorem ZfF{ks:List Tree}(h:∀ t∈ks,t.words.length < 65536/\t.kids.length < 65536):frW ks < 65536/\frK ks < 65536:=by
 induction ks with
 | nil=> exact ⟨by simp [frW],by simp [frK]⟩
 | cons t l ih=>
  have h1:=h t Qz
  have h2:=ih fun t ht=> h t (Qk _ ht)
  rw [frW,frK]
  omega
theorem ZcU{t:Tree}{d:Int}(h:Z6 t d=true):RiT t.kind t.words t.kids d:=riT (by rw [Tree.eta];exact h)
theorem RiT.rows{w:List Int}{ks:List Tree}{d:Int}(h:RiT 9 w ks d):∀ t∈ks,t.kind=1/\Z73 t.kids/\t.words.length < 65536/\t.kids.length < 65536:=by
 intro t ht
 have h1:=h.kids t ht
 have hk:=h1.2.2.2 rfl
 have r:=ZcU h1.1
 rw [hk] at r
 exact ⟨hk,r.kidsOk (.inl rfl),r.stru rfl⟩
theorem Zha(t:Tree):Z1G t=if t.kind=1 then t.words.length+t.kids.length+Z1H t.kids else if t.kind=8 then t.kids.length+Z1H t.kids else if t.kind=9 then 1+t.kids.length*(frW t.kids+frK t.kids)+Z7m t.kids
  else if 2<=t.kind/\t.kind<=7 then (ZU (t.kind - 2) t.kids.length).toNat else Z1H t.kids:=by
 obtain ⟨k,w,ks⟩:=t
 rw [Z1G];try rfl
theorem ZhJ(a to:Int)(t:Tree):Zab a to t=if t.kind=0 then 0
  else if t.kind=1 then Z0b a (if t.words.length+t.kids.length=0 then a else to) 0 (t.words.length+65536*t.kids.length)
  else if t.kind=8 then Z0b a to 1 (6+8*t.kids.length)
  else if t.kind=9 then Z0b a to 1 (7+8*(t.kids.length*(frW t.kids+frK t.kids):Nat))
  else Z0b a to 1 (t.kind - 2+8*t.kids.length):=by
 obtain ⟨k,w,ks⟩:=t
 try rfl
theorem Zjo{o d p:Int}(hd:0<=d/\d < 65536)(hp:0<=p/\p < 65536):Z4Z (Ptr.mk 1 o d p 0 0 0 false):=⟨.inl ⟨rfl,hd,hp,rfl,rfl⟩,rfl,rfl⟩
theorem Zjn{o c n:Int}(hc:0<=c/\c < 8)(hn:0<=n/\n < 536870912):Z4Z (Ptr.mk 2 o 0 0 c n 0 false):=⟨.inr ⟨rfl,rfl,rfl,hc,hn⟩,rfl,rfl⟩
end Go.AM.Ytcljdbpmjdgooaa
