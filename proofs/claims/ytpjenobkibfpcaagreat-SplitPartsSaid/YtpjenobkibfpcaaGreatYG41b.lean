import Derived.Test.YtpjenobkibfpcaaGreatZCL40c
import Derived.Test.YtpjenobkibfpcaaGreatZKG22a
set_option linter.unusedSimpArgs false
set_option linter.unusedVariables false
namespace Go.AM.YtpjenobkibfpcaaGreat
open Go.AM Go.Proofs
def NOp(list:Int)(o:Op):Prop:=(o.kind=1∨o.kind=2→Zb o.l=o.l)∧(o.kind=3→Z0k list o.e=false∧Zv o.e=o.e)
theorem NOp.keep(list n:Int)(l:List Tree)(e:Edit):NOp list ⟨0,n,l,e⟩:=⟨fun h=> (by rcases h with h | h <;> cases h),fun h=> (by cases h)⟩
def Zrb(list:Int)(w:Wst):Prop:=(∀ o∈w.out,NOp list o)∧Zb w.gone=w.gone∧Zb w.brought=w.brought
theorem Zer{list:Int}{w:Wst}(h:Zrb list w):Zrb list (Z1 w):=by
 refine ⟨fun o ho=> ?_,rfl,rfl⟩
 simp only [Z1,YD,List.mem_append] at ho
 rcases ho with ho | ho | ho
 ·exact h.1 o ho
 ·split at ho
  ·cases ho
  ·rw [List.mem_singleton] at ho
   subst ho
   exact ⟨fun _=> h.2.1,fun h=> (by cases h)⟩
 ·split at ho
  ·cases ho
  ·rw [List.mem_singleton] at ho
   subst ho
   exact ⟨fun _=> h.2.2,fun h=> (by cases h)⟩
theorem ZnC{list:Int}{w:Wst}(h:Zrb list w)(n:Int):Zrb list (ZG w n):=by
 have hf:=Zer h
 refine ⟨fun o ho=> ?_,rfl,rfl⟩
 have ho:o∈Ye (Z1 w).out n:=ho
 rcases Jk (Z1 w).out n with e | ⟨a,x,e1,e2,e3⟩
 ·rw [e,List.mem_append,List.mem_singleton] at ho
  rcases ho with ho | rfl
  ·exact hf.1 o ho
  ·exact .keep _ _ _ _
 ·rw [e3,List.mem_append,List.mem_singleton] at ho
  rcases ho with ho | rfl
  ·exact hf.1 o (by rw [e1];exact List.mem_append_left _ ho)
  ·rw [e2];exact .keep _ _ _ _
theorem Ztl(list:Int):∀ (os:List Op) (w:Wst),Zrb list w→Zrb list (Zr list os w)
 | [],w,h=> h
 | o ::r,w,h=> by
  rw [Zr]
  refine Ztl list r _ ?_
  rw [YE]
  split
  ·exact ZnC h _
  ·split
   ·exact ⟨h.1,by rw [JN,h.2.1,Z3O],h.2.2⟩
   ·split
    ·exact ⟨h.1,h.2.1,by rw [JN,h.2.2,Z3O]⟩
    ·split
     ·split
      ·exact ZnC h _
      ·rename_i hi
       have hf:=Zer h
       refine ⟨fun x hx=> ?_,rfl,rfl⟩
       rw [List.mem_append,List.mem_singleton] at hx
       rcases hx with hx | rfl
       ·exact hf.1 x hx
       ·exact ⟨fun h=> (by rcases h with h | h <;> cases h),fun _=> ⟨by simpa using hi,Z78 _⟩⟩
     ·exact h
theorem Zwp{e:Edit}(h:Zv e=e)(k3:e.kind=3):∀ o∈e.ops,NOp e.list o:=by
 intro o ho
 rw [Z2r,if_neg (by omega),if_neg (by omega),if_pos k3] at h
 have h1:=congrArg Edit.ops h
 rw [Edit.ops_mk] at h1
 rw [←h1] at ho
 exact (Zer (Ztl e.list e.ops ⟨[],[],[]⟩ ⟨fun _ h=> (by cases h),rfl,rfl⟩)).1 o ho
theorem Zto{e:Edit}(h:Zv e=e)(k2:e.kind=2):∀ k∈e.kids,Zv k.e=k.e:=by
 rw [Z2r,if_neg (by omega),if_pos k2] at h
 have h1:=congrArg Edit.kids h
 rw [Edit.kids_mk] at h1
 have:∀ ks:List Kid,J3 ks=ks→∀ k∈ks,Zv k.e=k.e:=by
  intro ks
  induction ks with
  | nil=> intro _ k hk;cases hk
  | cons a r ih=>
   intro h k hk
   rw [J3] at h
   injection h with h1 h2
   rcases List.mem_cons.1 hk with rfl | hk
   ·rw [Z76] at h1
    exact congrArg KidOf.e h1
   ·exact ih h2 k hk
 exact this e.kids h1
theorem Ztn(w:WEdit):Zv (Js w)=Js w:=by rw [Js,Zv,if_neg (by decide),if_pos rfl,J3]
theorem Ztp(a:Int)(x:Edit):Zv (Z3w a x)=Z3w a (Zv x):=Zfs a x
theorem ZnD{l a b:Int}{o:Op}{d:Int}(hr:Zc l o d=true)(hn:NOp l o)(ha:0≤a)(hb:0≤b)(h0:o.kind≠0):Zv (Jq l a o b)=Jq l a o b:=by
 unfold Jq
 rw [ZAA]
 congr 1
 have hro:=ZC hr
 cases hro with
 | keep=> exact absurd rfl h0
 | gone t h1 h2=>
  have ht:Zb t=t:=hn.1 (.inl rfl)
  rw [Z1r,Z1r,Z2R,Z2R]
  simp only [Zr,YE,if_neg (show ¬(1:Int)=0 by decide),if_true,ht]
  have hl:t.length≠0:=by omega
  by_cases ha0:a=0 <;> by_cases hb0:b=0
  ·simp [ha0,hb0,ZT,Z1,YD,hl]
  ·simp [ha0,hb0,ZT,Z1,YD,hl,ZG,Ye]
  ·simp [ha0,hb0,ZT,Z1,YD,hl,ZG,Ye]
  ·simp [ha0,hb0,ZT,Z1,YD,hl,ZG,Ye]
 | come t h1 h2=>
  have ht:Zb t=t:=hn.1 (.inr rfl)
  rw [Z1r,Z1r,Z2R,Z2R]
  simp only [Zr,YE,if_neg (show ¬(2:Int)=0 by decide),if_neg (show ¬(2:Int)=1 by decide),if_true,ht]
  have hl:t.length≠0:=by omega
  by_cases ha0:a=0 <;> by_cases hb0:b=0
  ·simp [ha0,hb0,ZT,Z1,YD,hl]
  ·simp [ha0,hb0,ZT,Z1,YD,hl,ZG,Ye]
  ·simp [ha0,hb0,ZT,Z1,YD,hl,ZG,Ye]
  ·simp [ha0,hb0,ZT,Z1,YD,hl,ZG,Ye]
 | into x h1 h2 h3 h4=>
  obtain ⟨i1,i2⟩:=hn.2 rfl
  have i1:Z0k l x=false:=i1
  have i2:Zv x=x:=i2
  have e:(ZT a++[⟨3,0,[],x⟩])++ZT b=Zti (a+1+b) a x:=by
   unfold Zti
   rw [show a+1+b - a - 1=b by omega]
  rw [e,Zwl l ha (by omega),i2,if_neg (by rw [i1];decide),show a+1+b - a - 1=b by omega]
  unfold Zti
  rw [show a+1+b - a - 1=b by omega]
  simp
theorem Zqi{e x:Edit}(hx:x∈Zk e){l:Int}(hk:x.kind≠0)(h:Z0k l x=true):x=e:=by
 unfold Z0k at h
 simp only [decide_eq_true_eq] at h
 have h:=h.resolve_left hk
 rw [YC] at hx
 split at hx
 ·cases hx
 ·split at hx
  ·exact List.mem_singleton.1 hx
  ·exfalso
   unfold Y7 at hx
   split at hx
   ·rcases List.mem_append.1 hx with hx | hx
    ·obtain ⟨w,_,rfl⟩:=List.mem_map.1 hx
     exact absurd h.2.2.1 (by simp [Js])
    ·obtain ⟨k,_,y,_,rfl⟩:=Z3l hx
     exact absurd h.2.2.2 (by simp [Z3w])
   ·split at hx
    ·have:x.kind=3:=Zej.partsOs_kind x hx
     omega
    ·cases hx
theorem Zb5:∀ (n:Nat) (e:Edit) (d:Int),Z9 e≤n→Z2 e d=true→YL e=true→Zv e=e→∀ x∈Zk e,Zv x=x
 | 0,e,d,hn,_,_,_=> by
  have:3≤Z9 e:=Z0a e
  omega
 | n+1,e,d,hn,hr,hl,he=> by
  have ra:=Zz hr
  rw [Z2P] at hl
  simp only [Bool.and_eq_true,decide_eq_true_eq] at hl
  intro x hx
  rw [YC] at hx
  split at hx
  ·cases hx
  ·rename_i k0
   split at hx
   ·rw [List.mem_singleton] at hx
    subst hx
    exact he
   ·unfold Y7 at hx
    split at hx
    ·rename_i k2
     rcases List.mem_append.1 hx with hx | hx
     ·obtain ⟨w,_,rfl⟩:=List.mem_map.1 hx
      exact Ztn w
     ·obtain ⟨k,hk,y,hy,rfl⟩:=Z3l hx
      have hm:=J6 hk
      rw [Ztp,Zb5 n k.e (d - 1) (by omega) (Y1 ra.kids k hk).2 (Z3T hl.1.2 k hk) (Zto he k2 k hk) y hy]
    ·split at hx
     ·rename_i k3
      have hops:=Yb.1 ra.ops
      have hsA:=Yl e.ops 0 (fun x hx=> ZM (Ya (hops x hx))) (by omega) (by omega)
      have hlen:=ra.len
      rw [show Ym e.ops 0=ZH e.ops by omega] at hx
      obtain ⟨o,m,a',b',i1,i2,i3,i4⟩:=Z5o hops (by omega) rfl hx
      have hno:=Zwp he k3 o m
      rcases i4 with ⟨j,rfl⟩ | ⟨j3,y,hy,rfl⟩
      ·exact ZnD (hops o m) hno i1 i2 (by omega)
      ·have hm:=Jw m
       have hro:=Jm (hops o m) j3
       have hlo:=Z3S hl.2 _ m
       obtain ⟨q1,q2⟩:=hno.2 j3
       have hp:=Z1X n o.e (d - 1) (by omega) hro hlo y hy
       have hok:=Z1X (n+1) e d hn hr (by rw [Z2P];simp only [Bool.and_eq_true,decide_eq_true_eq];exact hl) (Jq e.list a' ⟨3,0,[],y⟩ b') (by
        rw [YC,if_neg k0]
        have:Y7 e=ZL e.list e.ops 0 (ZH e.ops):=by unfold Y7;rw [if_neg (by omega),if_pos k3,show Ym e.ops 0=ZH e.ops by omega]
        rw [this,if_neg (by intro h;rw [List.eq_nil_of_length_eq_zero h] at hx;cases hx)]
        exact hx)
       have hk0:o.e.kind≠0:=by
        have:=ZC (hops o m)
        cases this with
        | keep=> exact absurd j3 (by simp)
        | gone=> exact absurd j3 (by simp)
        | come=> exact absurd j3 (by simp)
        | into x _ h=> exact h
       refine ZnD (d:=d - 1) ?_ ⟨fun h=> (by rcases h with h | h <;> cases h),fun _=> ⟨?_,Zb5 n o.e (d - 1) (by omega) hro hlo q2 y hy⟩⟩ i1 i2 (by simp)
       ·have:=Yb.1 (Zz hok.right).ops
        exact this _ (by simp [Jq])
       ·cases hi:Z0k e.list y with
        | false=> rfl
        | true=>
         have:=Zqi hy (by rw [hp.kind];exact hk0) hi
         rw [this,q1] at hi;cases hi
     ·cases hx
end Go.AM.YtpjenobkibfpcaaGreat
namespace Go.AM.YtpjenobkibfpcaaGreat
open Go.AM Go.Proofs
noncomputable def Zux:List Edit→Edit→Edit × Bool
 | [],x=> (x,true)
 | e ::r,x=> if (ZEq x e).2=true then Zux r (ZEq x e).1 else (Edit.nil,false)
noncomputable def Z3V(l:List Edit):Edit × Bool:=if (Zux l Edit.nil).2=true then (Zv (Zux l Edit.nil).1,true) else (Edit.nil,false)
end Go.AM.YtpjenobkibfpcaaGreat
namespace Go.AM.YtpjenobkibfpcaaGreat
open Go.AM Go.Proofs
noncomputable section
def Zpf:ArgL (Int × Unit):=(.cons (YG .i64) .nil)
def ZhB(a:Int × Unit):Prop:=True
def Zhq(a:Int × Unit):V U:= .c (sU .op (ZT a.1) (.own (.r 0 0)))
def Z90:Fs U:=fs Zpf (fun a=> [ZhB a]) Zhq
def ZiH:ArgM (Op × Int × (Int × Unit) × (List Edit × Unit) × (Int × Int × List Int × List Tree × Int × List Int × List Tree × List WEdit × List Kid × Int × List Op × Unit) × (Int × Unit) × Unit):=(.cons (aEl .op) (.cons (YG .i64) (.obj 0 (.cons (Zaw .i64) .nil) (.obj 1 (.cons (Ziq .edit 1 0) .nil) (.obj 2 (.cons (Zaw .i64) (.cons (Zaw .i64) (.cons (cSl .u64) (.cons (cSl .tree) (.cons (Zaw .i64) (.cons (cSl .u64) (.cons (cSl .tree) (.cons (cSl .wedit) (.cons (cSl .kid) (.cons (Zaw .i64) (.cons (cSl .op) .nil))))))))))) (.obj 3 (.cons (Zaw .i64) .nil) .nil))))))
def ZaW(a:Op × Int × (Int × Unit) × (List Edit × Unit) × (Int × Int × List Int × List Tree × Int × List Int × List Tree × List WEdit × List Kid × Int × List Op × Unit) × (Int × Unit) × Unit):Prop:=(-10000000≤a.2.2.2.2.2.1.1∧a.2.2.2.2.2.1.1≤10000000)∧(-10000000≤a.2.1∧a.2.1≤10000000)∧(a.2.2.2.1.1).length≤100000000
def Zlo(a:Op × Int × (Int × Unit) × (List Edit × Unit) × (Int × Int × List Int × List Tree × Int × List Int × List Tree × List WEdit × List Kid × Int × List Op × Unit) × (Int × Unit) × Unit):V U:= .tup []
def Zhh(a:Op × Int × (Int × Unit) × (List Edit × Unit) × (Int × Int × List Int × List Tree × Int × List Int × List Tree × List WEdit × List Kid × Int × List Op × Unit) × (Int × Unit) × Unit):List (List (C U)):=[[ci a.2.2.1.1],[sU .edit (a.2.2.2.1.1++[Jq a.2.2.2.2.1.2.2.2.2.2.2.2.2.2.1 a.2.2.1.1 a.1 (a.2.2.2.2.2.1.1 - a.2.1)]) (.own (.x 1 0))],[ci a.2.2.2.2.1.1,ci a.2.2.2.2.1.2.1,sU .u64 a.2.2.2.2.1.2.2.1 .unk,sU .tree a.2.2.2.2.1.2.2.2.1 .unk,ci a.2.2.2.2.1.2.2.2.2.1,sU .u64 a.2.2.2.2.1.2.2.2.2.2.1 .unk,sU .tree a.2.2.2.2.1.2.2.2.2.2.2.1 .unk,sU .wedit a.2.2.2.2.1.2.2.2.2.2.2.2.1 .unk,sU .kid a.2.2.2.2.1.2.2.2.2.2.2.2.2.1 .unk,ci a.2.2.2.2.1.2.2.2.2.2.2.2.2.2.1,sU .op a.2.2.2.2.1.2.2.2.2.2.2.2.2.2.2.1 .unk],[ci a.2.2.2.2.2.1.1]]
def Z6L:Fs U:=fsX ZiH (fun a=> [ZaW a]) Zlo Zhh
def Ziw:ArgL (Edit × Unit):=(.cons (aEl .edit) .nil)
def ZbV(a:Edit × Unit):Prop:=Z9 a.1≤1000000∧∃ d,Z2 a.1 d=true
def ZhM(a:Edit × Unit):Nat:=2*Z9 a.1+1
def Z7J(a:Edit × Unit):V U:= .c (sU .edit (Zk a.1) .unk)
def Zdp:Fs U:=fs Ziw (fun a=> [ZbV a]) Z7J
def Zd1:ArgL (Edit × Unit):=(.cons (aEl .edit) .nil)
def Zb1(a:Edit × Unit):Prop:=Edit.kind a.1=3∧Z9 a.1≤1000000∧∃ d,Z2 a.1 d=true
def ZeC(a:Edit × Unit):Nat:=2*Z9 a.1
def ZdY(a:Edit × Unit):V U:= .c (sU .edit (ZL a.1.list a.1.ops 0 (Ym a.1.ops 0)) .unk)
def ZmU:Fs U:=fs Zd1 (fun a=> [Zb1 a]) ZdY
def Zou:List (FuncId × Fs U):=[]
def Zu0:Zj U:=lvl [([0],[]),([0,4],[]),([2],[]),([2],[])]
abbrev ZGq(p:List Nat):=AW (Z0 Zou) Tryz.f171 Zu0 p
theorem ZDO(n:Int)(Q:QT)(h:(((n==0)=true→(Q .ret (L2 [(2,.c (.nils))] [])))∧((n==0)=false→(Q .ret (L2 [(2,.c (sU .op ([(OpOf.mk 0 n [] (Edit.mk 0 (Tree.mk 0 [] []) (Tree.mk 0 [] []) [] [] 0 []))]) .full))] []))))):
  ZGq [] (L2 [(0,.c (ci n))] []) Q:=
 Eq.mpr (by kernel_rfl) h
def ZyJ(n:Int):Prop:=AW (Z0 Zou) Tryz.f171 Zu0 [] (Zl (Zpf.can (n,())) []) (EQ Tryz.f171 (Zhq (n,())) [])
theorem ZwY(hb:∀ (n:Int) (_:Unit),ZhB (n,())→ZyJ n):CT 171 Z90:=
 Z4 (l:=[]) Zo rfl trivial Zu0 Tryz.func171 rfl rfl 1 (fun _=> rfl) (by decide) (fun ⟨n,_⟩=> hb n ())
def Zov:List (FuncId × Fs U):=[(171,Z90)]
def Zu1:Zj U:=fun i=> match i with
 | 0=> ([(1,[]),(2,[]),(3,[]),(4,[]),(5,[]),(6,[])],[(.loc 6,[]),(.x 0,[]),(.x 1,[]),(.x 2,[]),(.x 3,[])])
 | 1=> ([(1,[]),(3,[]),(4,[]),(5,[]),(8,[])],[(.x 0,[]),(.x 1,[]),(.x 2,[]),(.x 3,[])])
 | 2=> ([],[(.x 0,[]),(.x 1,[]),(.x 2,[]),(.x 3,[])])
 | _=> ([],[])
abbrev ZGr(p:List Nat):=AW (Z0 Zov) Tryz.f170 Zu1 p
theorem ZDP(o:Op)(g ah:Int)(out:List Edit)(ek eo:Int)(eow:List Int)(eok:List Tree)(en:Int)(enw:List Int)(enk:List Tree)(ew:List WEdit)(ec:List Kid)(li:Int)(eos:List Op)(bh:Int)(Q:QT)(h:∀ y_1,y_1=o→let z0:=Edit.mk 3 (Tree.mk 0 [] []) (Tree.mk 0 [] []) [] [] li (((ZT ah)++([y_1]))++(ZT (bh - g)));((ZhB (ah,()))∧(((ZT ah).length+([y_1]).length)*240≤140737488355328)∧((InR (bh - g))∧(ZhB ((bh - g),()))∧((((ZT ah)++([y_1])).length+(ZT (bh - g)).length)*240≤140737488355328)∧((out.length+([z0]).length)*200≤140737488355328)∧(Q .normal (L2 [] [(.x 0,[ci ah]),(.x 1,[sU .edit (out++([z0])) (.own (.x 1 0))]),(.x 2,[ci ek,ci eo,sU .u64 eow .unk,sU .tree eok .unk,ci en,sU .u64 enw .unk,sU .tree enk .unk,sU .wedit ew .unk,sU .kid ec .unk,ci li,sU .op eos .unk]),(.x 3,[ci bh])]))))):
  ZGr [] (L2 [(0,.agg (enc .op o)),(1,.c (ci g)),(2,.ptr (.x 0) 0),(3,.ptr (.x 1) 0),(4,.ptr (.x 2) 0),(5,.ptr (.x 3) 0)] [(.x 0,[ci ah]),(.x 1,[sU .edit out (.own (.x 1 0))]),(.x 2,[ci ek,ci eo,sU .u64 eow .unk,sU .tree eok .unk,ci en,sU .u64 enw .unk,sU .tree enk .unk,sU .wedit ew .unk,sU .kid ec .unk,ci li,sU .op eos .unk]),(.x 3,[ci bh])]) Q:=
 Eq.mpr (by kernel_rfl) (h _ (YX _))
def ZyK(o:Op)(g ah:Int)(out:List Edit)(ek eo:Int)(eow:List Int)(eok:List Tree)(en:Int)(enw:List Int)(enk:List Tree)(ew:List WEdit)(ec:List Kid)(li:Int)(eos:List Op)(bh:Int):Prop:=AW (Z0 Zov) Tryz.f170 Zu1 [] (Zl (ZiH.can (o,g,(ah,()),(out,()),(ek,eo,eow,eok,en,enw,enk,ew,ec,li,eos,()),(bh,()),())) (ZiH.canX (o,g,(ah,()),(out,()),(ek,eo,eow,eok,en,enw,enk,ew,ec,li,eos,()),(bh,()),()))) (EQ Tryz.f170 (Zlo (o,g,(ah,()),(out,()),(ek,eo,eow,eok,en,enw,enk,ew,ec,li,eos,()),(bh,()),())) (Zhh (o,g,(ah,()),(out,()),(ek,eo,eow,eok,en,enw,enk,ew,ec,li,eos,()),(bh,()),())))
theorem ZwZ(ZBR:CT 171 Z90)(hb:∀ (o:Op) (g:Int) (ah:Int) (out:List Edit) (ek:Int) (eo:Int) (eow:List Int) (eok:List Tree) (en:Int) (enw:List Int) (enk:List Tree) (ew:List WEdit) (ec:List Kid) (li:Int) (eos:List Op) (bh:Int) (_:Unit),ZaW (o,g,(ah,()),(out,()),(ek,eo,eow,eok,en,enw,enk,ew,ec,li,eos,()),(bh,()),())→ZyK o g ah out ek eo eow eok en enw enk ew ec li eos bh):CT 170 Z6L:=
 YM (l:=[(171,Z90)]) Zo rfl (⟨ZBR,trivial⟩) Zu1 Tryz.func170 rfl rfl 6 (fun _=> rfl) (by decide) (fun ⟨o,g,⟨ah,_⟩,⟨out,_⟩,⟨ek,eo,eow,eok,en,enw,enk,ew,ec,li,eos,_⟩,⟨bh,_⟩,_⟩=> hb o g ah out ek eo eow eok en enw enk ew ec li eos bh ())
def Zm5(N:Nat):List (FuncId × Fs U):=(73,fs Ziw (fun a=> [ZbV a,ZhM a < N]) Z7J) ::(113,fs Zd1 (fun a=> [Zb1 a,ZeC a < N]) ZdY) ::[(169,Z0V),(170,Z6L)]
def Zxs:Zj U:=fun i=> match i with
 | 0=> ([(1,[])],[(.loc 1,[])])
 | 1=> ([(1,[]),(3,[])],[(.loc 1,[])])
 | 2=> ([(1,[]),(3,[]),(11,[])],[(.loc 1,[])])
 | 3=> ([(1,[]),(3,[]),(11,[]),(12,[])],[(.loc 1,[])])
 | 4=> ([(2,[])],[])
 | 5=> ([(1,[]),(3,[]),(11,[]),(14,[])],[(.loc 1,[])])
 | 6=> ([(1,[]),(3,[.own .edit]),(17,[]),(18,[]),(19,[])],[(.loc 1,[])])
 | 7=> ([(1,[]),(3,[]),(17,[]),(18,[]),(19,[]),(20,[])],[(.loc 1,[])])
 | 8=> ([(1,[]),(3,[]),(5,[]),(17,[]),(18,[]),(19,[])],[(.loc 1,[]),(.loc 5,[])])
 | 9=> ([(1,[]),(3,[]),(17,[]),(18,[]),(19,[])],[(.loc 1,[])])
 | 10=> ([(1,[]),(3,[.own .edit]),(17,[]),(18,[]),(19,[])],[(.loc 1,[])])
 | 11=> ([(1,[]),(3,[]),(31,[]),(32,[]),(33,[])],[(.loc 1,[])])
 | 12=> ([(1,[]),(3,[]),(31,[]),(32,[]),(33,[]),(34,[])],[(.loc 1,[])])
 | 13=> ([(1,[]),(3,[]),(7,[]),(31,[]),(32,[]),(33,[])],[(.loc 1,[]),(.loc 7,[])])
 | 14=> ([(1,[]),(3,[.own .edit]),(7,[]),(31,[]),(32,[]),(33,[]),(39,[]),(40,[]),(41,[])],[(.loc 1,[]),(.loc 7,[])])
 | 15=> ([(1,[]),(3,[]),(7,[]),(31,[]),(32,[]),(33,[]),(39,[]),(40,[]),(41,[]),(42,[])],[(.loc 1,[]),(.loc 7,[])])
 | 16=> ([(1,[]),(3,[]),(7,[]),(9,[]),(31,[]),(32,[]),(33,[]),(39,[]),(40,[]),(41,[])],[(.loc 1,[]),(.loc 7,[]),(.loc 9,[])])
 | 17=> ([(1,[]),(3,[]),(7,[]),(31,[]),(32,[]),(33,[]),(39,[]),(40,[]),(41,[])],[(.loc 1,[]),(.loc 7,[])])
 | 18=> ([(1,[]),(3,[.own .edit]),(7,[]),(31,[]),(32,[]),(33,[]),(39,[]),(40,[]),(41,[])],[(.loc 1,[]),(.loc 7,[])])
 | 19=> ([(1,[]),(3,[]),(31,[]),(32,[]),(33,[])],[(.loc 1,[])])
 | 20=> ([(1,[]),(3,[]),(56,[])],[(.loc 1,[])])
 | 21=> ([(1,[]),(3,[])],[(.loc 1,[])])
 | 22=> ([(1,[]),(3,[]),(62,[])],[(.loc 1,[])])
 | 23=> ([(2,[])],[])
 | 24=> ([(2,[])],[])
 | _=> ([],[])
def Zac(e:Edit)(x19:Int)(x3:List Edit):LSt U:=(L2 [(1,.ptr (.loc 1) 0),(3,.c (sU .edit x3 (.own (.e 3 0)))),(17,.c (sU .wedit e.words .unk)),(18,.c (ci (e.words.length:Int))),(19,.c (ci x19))] [(.loc 1,(enc .edit e))])
def Zab(e:Edit)(x33_a:Int)(x3_a:List Edit):LSt U:=(L2 [(1,.ptr (.loc 1) 0),(3,.c (sU .edit x3_a (.own (.e 3 0)))),(31,.c (sU .kid e.kids .unk)),(32,.c (ci (e.kids.length:Int))),(33,.c (ci x33_a))] [(.loc 1,(enc .edit e))])
def Zaa(e:Edit)(x33_a x41_b:Int)(x3_b:List Edit):LSt U:=(L2 [(1,.ptr (.loc 1) 0),(3,.c (sU .edit x3_b (.own (.e 3 0)))),(7,.ptr (.loc 7) 0),(31,.c (sU .kid e.kids .unk)),(32,.c (ci (e.kids.length:Int))),(33,.c (ci x33_a)),(39,.c (sU .edit (Zk (Edit.mk (Edit.kind (KidOf.e (e.kids.getD x33_a.toNat (KidOf.mk 0 Edit.nil)))) (Tree.mk (Tree.kind (Edit.old (KidOf.e (e.kids.getD x33_a.toNat (KidOf.mk 0 Edit.nil))))) (Tree.words (Edit.old (KidOf.e (e.kids.getD x33_a.toNat (KidOf.mk 0 Edit.nil))))) (Tree.kids (Edit.old (KidOf.e (e.kids.getD x33_a.toNat (KidOf.mk 0 Edit.nil)))))) (Tree.mk (Tree.kind (Edit.new (KidOf.e (e.kids.getD x33_a.toNat (KidOf.mk 0 Edit.nil))))) (Tree.words (Edit.new (KidOf.e (e.kids.getD x33_a.toNat (KidOf.mk 0 Edit.nil))))) (Tree.kids (Edit.new (KidOf.e (e.kids.getD x33_a.toNat (KidOf.mk 0 Edit.nil)))))) (Edit.words (KidOf.e (e.kids.getD x33_a.toNat (KidOf.mk 0 Edit.nil)))) (Edit.kids (KidOf.e (e.kids.getD x33_a.toNat (KidOf.mk 0 Edit.nil)))) (Edit.list (KidOf.e (e.kids.getD x33_a.toNat (KidOf.mk 0 Edit.nil)))) (Edit.ops (KidOf.e (e.kids.getD x33_a.toNat (KidOf.mk 0 Edit.nil)))))) .unk)),(40,.c (ci ((Zk (Edit.mk (Edit.kind (KidOf.e (e.kids.getD x33_a.toNat (KidOf.mk 0 Edit.nil)))) (Tree.mk (Tree.kind (Edit.old (KidOf.e (e.kids.getD x33_a.toNat (KidOf.mk 0 Edit.nil))))) (Tree.words (Edit.old (KidOf.e (e.kids.getD x33_a.toNat (KidOf.mk 0 Edit.nil))))) (Tree.kids (Edit.old (KidOf.e (e.kids.getD x33_a.toNat (KidOf.mk 0 Edit.nil)))))) (Tree.mk (Tree.kind (Edit.new (KidOf.e (e.kids.getD x33_a.toNat (KidOf.mk 0 Edit.nil))))) (Tree.words (Edit.new (KidOf.e (e.kids.getD x33_a.toNat (KidOf.mk 0 Edit.nil))))) (Tree.kids (Edit.new (KidOf.e (e.kids.getD x33_a.toNat (KidOf.mk 0 Edit.nil)))))) (Edit.words (KidOf.e (e.kids.getD x33_a.toNat (KidOf.mk 0 Edit.nil)))) (Edit.kids (KidOf.e (e.kids.getD x33_a.toNat (KidOf.mk 0 Edit.nil)))) (Edit.list (KidOf.e (e.kids.getD x33_a.toNat (KidOf.mk 0 Edit.nil)))) (Edit.ops (KidOf.e (e.kids.getD x33_a.toNat (KidOf.mk 0 Edit.nil)))))).length:Int))),(41,.c (ci x41_b))] [(.loc 1,(enc .edit e)),(.loc 7,(enc .kid (e.kids.getD x33_a.toNat (KidOf.mk 0 Edit.nil))))])
abbrev A73(N:Nat)(p:List Nat):=AW (Z0 (Zm5 N)) Tryz.f73 Zxs p
abbrev S73(N:Nat)(p:List Nat):=SW (Z0 (Zm5 N)) Tryz.f73 Zxs p
theorem ZFI(N:Nat)(e:Edit)(Q:QT)(h:∀ y_1,y_1=e→∀ y_2,y_2=(ZL y_1.list y_1.ops 0 (Ym y_1.ops 0))→let z2:=((y_2.length:Int):Int)==0;let z1:=Q .ret (L2 [(2,.c (.nils))] []);let z0:=Q .ret (L2 [(2,.c (sU .edit ([y_1]) .full))] []);(((e.kind==0)=true→z1)∧((e.kind==0)=false→(((e.kind==2)=true→(Zf (A73 N [1,1,0,1,0,1,1,1,0,0,1,0,0]) (Zac e 0 []) (xB 1 (S73 N [1,1,0,1,0,1,1,1,0,1] (xB 0 (S73 N [1,1,1] Q))))))∧((e.kind==2)=false→(((e.kind==3)=true→(Zb1 (y_1,()))∧(ZeC (y_1,()) < N)∧((z2=true→z0)∧(z2=false→(Q .ret (L2 [(2,.c (sU .edit y_2 .unk))] [])))))∧((e.kind==3)=false→((((0:Int)==0)=true→z0)∧(((0:Int)==0)=false→z1))))))))):
  A73 N [] (L2 [(0,.agg (enc .edit e))] []) Q:=
 Eq.mpr (by kernel_rfl) (h _ (Z6 _) _ rfl)
theorem ZvN(N:Nat)(e:Edit)(x19:Int)(x3:List Edit)(N0:NT)(Q:QT)(h:let z2:=decide (x19 < (e.words.length:Int));let z1:=e.words.getD x19.toNat (WEdit.mk 0 0 0 0);let z0:=Edit.mk 2 (Tree.mk 0 [] []) (Tree.mk 0 [] []) ([(WEdit.mk (WEdit.at_ z1) (WEdit.mask z1) (WEdit.old z1) (WEdit.new z1))]) [] 0 [];((z2=true→((0:Int)≤x19∧x19 < (e.words.length:Int))∧(((x3.length+([z0]).length)*200≤140737488355328)∧((InR (x19+1))∧(N0 (Zac e (x19+1) (x3++([z0])))))))∧(z2=false→(Zf (A73 N [1,1,0,1,0,1,1,1,0,1,1,0,0]) (Zab e 0 x3) (xB 3 (xB 0 (S73 N [1,1,1] Q))))))):
  A73 N [1,1,0,1,0,1,1,1,0,0,1,0,0] (Zac e x19 x3) (xT N0 (xB 1 (S73 N [1,1,0,1,0,1,1,1,0,1] (xB 0 (S73 N [1,1,1] Q))))):=
 Eq.mpr (by kernel_rfl) h
theorem ZvM(N:Nat)(e:Edit)(x33_a:Int)(x3_a:List Edit)(N1:NT)(Q:QT)(h:∀ y_1,y_1=e→∀ y_2,y_2=(KidOf.e (e.kids.getD x33_a.toNat (KidOf.mk 0 Edit.nil)))→let z1:=((x3_a.length:Int):Int)==0;let z0:=decide (x33_a < (e.kids.length:Int));((z0=true→((0:Int)≤x33_a∧x33_a < (e.kids.length:Int))∧((ZbV (y_2,()))∧(ZhM (y_2,()) < N)∧(Zf (A73 N [1,1,0,1,0,1,1,1,0,1,1,0,0,1,1,0,0,1,1,0,0]) (Zaa e x33_a 0 x3_a) (xB 5 (xB 4 (S73 N [1,1,0,1,0,1,1,1,0,1,1,0,0,1,1,1] (xT N1 (xB 3 (xB 0 (S73 N [1,1,1] Q))))))))))∧(z0=false→((z1=true→(Q .ret (L2 [(2,.c (sU .edit ([y_1]) .full))] [])))∧(z1=false→(Q .ret (L2 [(2,.c (sU .edit x3_a (.own (.e 2 0))))] []))))))):
  A73 N [1,1,0,1,0,1,1,1,0,1,1,0,0] (Zab e x33_a x3_a) (xT N1 (xB 3 (xB 0 (S73 N [1,1,1] Q)))):=
 Eq.mpr (by kernel_rfl) (h _ (Z6 _) _ (Z6 _))
theorem ZvL(N:Nat)(e:Edit)(x33_a x41_b:Int)(x3_b:List Edit)(N2 N1:NT)(Q:QT)(h:∀ y_1,y_1=(e.kids.getD x33_a.toNat (KidOf.mk 0 Edit.nil))→∀ y_2,y_2=(y_1.e)→∀ y_3,y_3=(List.getD (Zk y_2) x41_b.toNat Edit.nil)→let z1:=decide (x41_b < ((Zk y_2).length:Int));let z0:=Edit.mk 2 (Tree.mk 0 [] []) (Tree.mk 0 [] []) [] ([(KidOf.mk y_1.at_ y_3)]) 0 [];((z1=true→((0:Int)≤x41_b∧x41_b < ((Zk y_2).length:Int))∧(((x3_b.length+([z0]).length)*200≤140737488355328)∧((InR (x41_b+1))∧(N2 (Zaa e x33_a (x41_b+1) (x3_b++([z0])))))))∧(z1=false→(InR (x33_a+1))∧(N1 (Zab e (x33_a+1) x3_b))))):
  A73 N [1,1,0,1,0,1,1,1,0,1,1,0,0,1,1,0,0,1,1,0,0] (Zaa e x33_a x41_b x3_b) (xT N2 (xB 5 (xB 4 (S73 N [1,1,0,1,0,1,1,1,0,1,1,0,0,1,1,1] (xT N1 (xB 3 (xB 0 (S73 N [1,1,1] Q)))))))):=
 Eq.mpr (by kernel_rfl) (h _ rfl _ (Z6 _) _ (Z6 _))
def ZCC(N:Nat)(e:Edit):Prop:=AW (Z0 (Zm5 N)) Tryz.f73 Zxs [] (Zl (Ziw.can (e,())) []) (EQ Tryz.f73 (Z7J (e,())) [])
abbrev ZFp:Prop:=∀ (N:Nat) (e:Edit) (_:Unit),ZbV (e,())→ZhM (e,()) < N+1→ZCC N e
def Zic(N:Nat):List (FuncId × Fs U):=(73,fs Ziw (fun a=> [ZbV a,ZhM a < N]) Z7J) ::(113,fs Zd1 (fun a=> [Zb1 a,ZeC a < N]) ZdY) ::[(169,Z0V),(170,Z6L)]
def Zo3:Zj U:=fun i=> match i with
 | 0=> ([(1,[])],[(.loc 1,[])])
 | 1=> ([(1,[]),(3,[])],[(.loc 1,[]),(.loc 3,[])])
 | 2=> ([(1,[]),(3,[]),(4,[])],[(.loc 1,[]),(.loc 3,[]),(.loc 4,[])])
 | 3=> ([(1,[]),(3,[]),(4,[]),(5,[])],[(.loc 1,[]),(.loc 3,[]),(.loc 4,[]),(.loc 5,[])])
 | 4=> ([(1,[]),(3,[]),(4,[]),(5,[]),(7,[])],[(.loc 1,[]),(.loc 3,[]),(.loc 4,[]),(.loc 5,[])])
 | 5=> ([(3,[]),(4,[]),(5,[]),(7,[]),(19,[]),(20,[]),(21,[])],[(.loc 1,[]),(.loc 3,[.own .edit]),(.loc 4,[]),(.loc 5,[])])
 | 6=> ([(3,[]),(4,[]),(5,[]),(7,[]),(19,[]),(20,[]),(21,[]),(22,[])],[(.loc 1,[]),(.loc 3,[]),(.loc 4,[]),(.loc 5,[])])
 | 7=> ([(3,[]),(4,[]),(5,[]),(7,[]),(9,[]),(19,[]),(20,[]),(21,[])],[(.loc 1,[]),(.loc 3,[]),(.loc 4,[]),(.loc 5,[]),(.loc 9,[])])
 | 8=> ([(3,[]),(4,[]),(5,[]),(7,[]),(9,[]),(19,[]),(20,[]),(21,[]),(26,[])],[(.loc 1,[]),(.loc 3,[]),(.loc 4,[]),(.loc 5,[]),(.loc 9,[])])
 | 9=> ([(3,[]),(4,[]),(5,[]),(7,[]),(19,[]),(20,[]),(21,[]),(29,[]),(30,[]),(31,[])],[(.loc 1,[]),(.loc 3,[.own .edit]),(.loc 4,[]),(.loc 5,[])])
 | 10=> ([(3,[]),(4,[]),(5,[]),(7,[]),(19,[]),(20,[]),(21,[]),(29,[]),(30,[]),(31,[]),(32,[])],[(.loc 1,[]),(.loc 3,[]),(.loc 4,[]),(.loc 5,[])])
 | 11=> ([(3,[]),(4,[]),(5,[]),(7,[]),(11,[]),(19,[]),(20,[]),(21,[]),(29,[]),(30,[]),(31,[])],[(.loc 1,[]),(.loc 3,[]),(.loc 4,[]),(.loc 5,[]),(.loc 11,[])])
 | 12=> ([(3,[]),(4,[]),(5,[]),(7,[]),(19,[]),(20,[]),(21,[]),(29,[]),(30,[]),(31,[])],[(.loc 1,[]),(.loc 3,[]),(.loc 4,[]),(.loc 5,[])])
 | 13=> ([(3,[]),(4,[]),(5,[]),(7,[]),(19,[]),(20,[]),(21,[]),(29,[]),(30,[]),(31,[])],[(.loc 1,[]),(.loc 3,[.own .edit]),(.loc 4,[]),(.loc 5,[])])
 | 14=> ([(3,[]),(4,[]),(5,[]),(7,[]),(19,[]),(20,[]),(21,[])],[(.loc 1,[]),(.loc 3,[]),(.loc 4,[]),(.loc 5,[])])
 | 15=> ([(3,[]),(4,[]),(5,[]),(7,[]),(9,[]),(19,[]),(20,[]),(21,[]),(26,[]),(44,[])],[(.loc 1,[]),(.loc 3,[]),(.loc 4,[]),(.loc 5,[]),(.loc 9,[])])
 | 16=> ([(3,[]),(4,[]),(5,[]),(7,[]),(19,[]),(20,[]),(21,[])],[(.loc 1,[]),(.loc 3,[.own .edit]),(.loc 4,[]),(.loc 5,[])])
 | 17=> ([(3,[]),(4,[]),(5,[]),(7,[]),(9,[]),(19,[]),(20,[]),(21,[]),(26,[]),(54,[])],[(.loc 1,[]),(.loc 3,[]),(.loc 4,[]),(.loc 5,[]),(.loc 9,[])])
 | 18=> ([(3,[]),(4,[]),(5,[]),(7,[]),(9,[]),(19,[]),(20,[]),(21,[])],[(.loc 1,[]),(.loc 3,[]),(.loc 4,[]),(.loc 5,[]),(.loc 9,[])])
 | 19=> ([(3,[]),(4,[]),(5,[]),(7,[]),(19,[]),(20,[]),(21,[])],[(.loc 1,[]),(.loc 3,[.own .edit]),(.loc 4,[]),(.loc 5,[])])
 | 20=> ([(3,[]),(4,[]),(5,[]),(7,[]),(9,[]),(19,[]),(20,[]),(21,[]),(67,[])],[(.loc 1,[]),(.loc 3,[]),(.loc 4,[]),(.loc 5,[]),(.loc 9,[])])
 | 21=> ([(3,[]),(4,[]),(5,[]),(7,[]),(9,[]),(19,[]),(20,[]),(21,[])],[(.loc 1,[]),(.loc 3,[]),(.loc 4,[]),(.loc 5,[]),(.loc 9,[])])
 | 22=> ([(3,[]),(4,[]),(5,[]),(7,[]),(19,[]),(20,[]),(21,[])],[(.loc 1,[]),(.loc 3,[.own .edit]),(.loc 4,[]),(.loc 5,[])])
 | 23=> ([(3,[]),(4,[]),(5,[]),(7,[]),(19,[]),(20,[]),(21,[])],[(.loc 1,[]),(.loc 3,[.own .edit]),(.loc 4,[]),(.loc 5,[])])
 | 24=> ([(2,[])],[])
 | _=> ([],[])
def Z7t(e:Edit)(x21 ml4_0 ml5_0 ml1_0 ml1_1:Int)(ml1_2:List Int)(ml1_3:List Tree)(ml1_4:Int)(ml1_5:List Int)(ml1_6:List Tree)(ml1_7:List WEdit)(ml1_8:List Kid)(ml1_9:Int)(ml1_10:List Op)(ml3_0:List Edit):LSt U:=(L2 [(3,.ptr (.loc 3) 0),(4,.ptr (.loc 4) 0),(5,.ptr (.loc 5) 0),(7,.clo 170 [(.loc 4),(.loc 3),(.loc 1),(.loc 5)]),(19,.c (sU .op e.ops .unk)),(20,.c (ci (e.ops.length:Int))),(21,.c (ci x21))] [(.loc 1,[ci ml1_0,ci ml1_1,sU .u64 ml1_2 .unk,sU .tree ml1_3 .unk,ci ml1_4,sU .u64 ml1_5 .unk,sU .tree ml1_6 .unk,sU .wedit ml1_7 .unk,sU .kid ml1_8 .unk,ci ml1_9,sU .op ml1_10 .unk]),(.loc 3,[sU .edit ml3_0 (.own (.l 3 0))]),(.loc 4,[ci ml4_0]),(.loc 5,[ci ml5_0])])
def Z4K(e:Edit)(x21 ml1_0_a ml1_1_a:Int)(ml1_2_a:List Int)(ml1_3_a:List Tree)(ml1_4_a:Int)(ml1_5_a:List Int)(ml1_6_a:List Tree)(ml1_7_a:List WEdit)(ml1_8_a:List Kid)(ml1_9_a:Int)(ml1_10_a:List Op)(ml4_0_a ml5_0_a:Int)(ml3_0_a:List Edit):LSt U:=(L2 [(3,.ptr (.loc 3) 0),(4,.ptr (.loc 4) 0),(5,.ptr (.loc 5) 0),(7,.clo 170 [(.loc 4),(.loc 3),(.loc 1),(.loc 5)]),(19,.c (sU .op e.ops .unk)),(20,.c (ci (e.ops.length:Int))),(21,.c (ci x21))] [(.loc 1,[ci ml1_0_a,ci ml1_1_a,sU .u64 ml1_2_a .unk,sU .tree ml1_3_a .unk,ci ml1_4_a,sU .u64 ml1_5_a .unk,sU .tree ml1_6_a .unk,sU .wedit ml1_7_a .unk,sU .kid ml1_8_a .unk,ci ml1_9_a,sU .op ml1_10_a .unk]),(.loc 3,[sU .edit ml3_0_a (.own (.l 3 0))]),(.loc 4,[ci ml4_0_a]),(.loc 5,[ci ml5_0_a])])
def Z7s(e:Edit)(x21 ml4_0 x31_b ml1_0_b ml1_1_b:Int)(ml1_2_b:List Int)(ml1_3_b:List Tree)(ml1_4_b:Int)(ml1_5_b:List Int)(ml1_6_b:List Tree)(ml1_7_b:List WEdit)(ml1_8_b:List Kid)(ml1_9_b:Int)(ml1_10_b:List Op)(ml5_0_b:Int)(ml3_0_b:List Edit):LSt U:=(L2 [(3,.ptr (.loc 3) 0),(4,.ptr (.loc 4) 0),(5,.ptr (.loc 5) 0),(7,.clo 170 [(.loc 4),(.loc 3),(.loc 1),(.loc 5)]),(19,.c (sU .op e.ops .unk)),(20,.c (ci (e.ops.length:Int))),(21,.c (ci x21)),(29,.c (sU .edit (Zk (Edit.mk (Edit.kind (OpOf.e (e.ops.getD x21.toNat Op.nil))) (Tree.mk (Tree.kind (Edit.old (OpOf.e (e.ops.getD x21.toNat Op.nil)))) (Tree.words (Edit.old (OpOf.e (e.ops.getD x21.toNat Op.nil)))) (Tree.kids (Edit.old (OpOf.e (e.ops.getD x21.toNat Op.nil))))) (Tree.mk (Tree.kind (Edit.new (OpOf.e (e.ops.getD x21.toNat Op.nil)))) (Tree.words (Edit.new (OpOf.e (e.ops.getD x21.toNat Op.nil)))) (Tree.kids (Edit.new (OpOf.e (e.ops.getD x21.toNat Op.nil))))) (Edit.words (OpOf.e (e.ops.getD x21.toNat Op.nil))) (Edit.kids (OpOf.e (e.ops.getD x21.toNat Op.nil))) (Edit.list (OpOf.e (e.ops.getD x21.toNat Op.nil))) (Edit.ops (OpOf.e (e.ops.getD x21.toNat Op.nil))))) .unk)),(30,.c (ci ((Zk (Edit.mk (Edit.kind (OpOf.e (e.ops.getD x21.toNat Op.nil))) (Tree.mk (Tree.kind (Edit.old (OpOf.e (e.ops.getD x21.toNat Op.nil)))) (Tree.words (Edit.old (OpOf.e (e.ops.getD x21.toNat Op.nil)))) (Tree.kids (Edit.old (OpOf.e (e.ops.getD x21.toNat Op.nil))))) (Tree.mk (Tree.kind (Edit.new (OpOf.e (e.ops.getD x21.toNat Op.nil)))) (Tree.words (Edit.new (OpOf.e (e.ops.getD x21.toNat Op.nil)))) (Tree.kids (Edit.new (OpOf.e (e.ops.getD x21.toNat Op.nil))))) (Edit.words (OpOf.e (e.ops.getD x21.toNat Op.nil))) (Edit.kids (OpOf.e (e.ops.getD x21.toNat Op.nil))) (Edit.list (OpOf.e (e.ops.getD x21.toNat Op.nil))) (Edit.ops (OpOf.e (e.ops.getD x21.toNat Op.nil))))).length:Int))),(31,.c (ci x31_b))] [(.loc 1,[ci ml1_0_b,ci ml1_1_b,sU .u64 ml1_2_b .unk,sU .tree ml1_3_b .unk,ci ml1_4_b,sU .u64 ml1_5_b .unk,sU .tree ml1_6_b .unk,sU .wedit ml1_7_b .unk,sU .kid ml1_8_b .unk,ci ml1_9_b,sU .op ml1_10_b .unk]),(.loc 3,[sU .edit ml3_0_b (.own (.l 3 0))]),(.loc 4,[ci ml4_0]),(.loc 5,[ci ml5_0_b])])
abbrev ZfF(N:Nat)(p:List Nat):=AW (Z0 (Zic N)) Tryz.f113 Zo3 p
abbrev ZfD(N:Nat)(p:List Nat):=SW (Z0 (Zic N)) Tryz.f113 Zo3 p
theorem ZEg(N:Nat)(e:Edit)(Q:QT)(h:let z0:=Edit.mk e.kind (Tree.mk e.old.kind e.old.words e.old.kids) (Tree.mk e.new.kind e.new.words e.new.kids) e.words e.kids e.list e.ops;((Z8e (z0,()))∧(Zf (ZfF N [1,1,1,1,1,0,1,0,0]) (Z7t e 0 0 (Z16 (Edit.ops z0) 0) e.kind e.old.kind e.old.words e.old.kids e.new.kind e.new.words e.new.kids e.words e.kids e.list e.ops []) (xB 0 (ZfD N [1,1,1,1,1,1] Q))))):
  ZfF N [] (L2 [(0,.agg (enc .edit e))] []) Q:=
 Eq.mpr (by kernel_rfl) h
theorem ZrV(N:Nat)(e:Edit)(x21 ml4_0 ml5_0 ml1_0 ml1_1:Int)(ml1_2:List Int)(ml1_3:List Tree)(ml1_4:Int)(ml1_5:List Int)(ml1_6:List Tree)(ml1_7:List WEdit)(ml1_8:List Kid)(ml1_9:Int)(ml1_10:List Op)(ml3_0:List Edit)(N0:NT)(Q:QT)(h:∀ y_1,y_1=(e.ops.getD x21.toNat Op.nil)→∀ y_2,y_2=y_1→∀ y_3,y_3=(y_1.e)→let z1:=decide (x21 < (e.ops.length:Int));let z0:=xT N0 (xB 0 (ZfD N [1,1,1,1,1,1] Q));((z1=true→((0:Int)≤x21∧x21 < (e.ops.length:Int))∧(((y_1.kind==0)=true→(InR (ml4_0+y_1.n))∧(InR (ml5_0 - y_1.n))∧(ZfF N [1,1,1,1,1,0,1,0,0,1,1,1] (Z4K e x21 ml1_0 ml1_1 ml1_2 ml1_3 ml1_4 ml1_5 ml1_6 ml1_7 ml1_8 ml1_9 ml1_10 (ml4_0+y_1.n) (ml5_0 - y_1.n) ml3_0) z0))∧((y_1.kind==0)=false→(((y_1.kind==1)=true→(ZaW (y_2,(y_1.l.length:Int),(ml4_0,()),(ml3_0,()),(ml1_0,ml1_1,ml1_2,ml1_3,ml1_4,ml1_5,ml1_6,ml1_7,ml1_8,ml1_9,ml1_10,()),(ml5_0,()),()))∧((InR (ml5_0 - (y_1.l.length:Int)))∧(ZfF N [1,1,1,1,1,0,1,0,0,1,1,1] (Z4K e x21 ml1_0 ml1_1 ml1_2 ml1_3 ml1_4 ml1_5 ml1_6 ml1_7 ml1_8 ml1_9 ml1_10 ml4_0 (ml5_0 - (y_1.l.length:Int)) (ml3_0++[Jq ml1_9 ml4_0 y_2 (ml5_0 - (y_1.l.length:Int))])) z0)))∧((y_1.kind==1)=false→(((y_1.kind==2)=true→(ZaW (y_2,0,(ml4_0,()),(ml3_0,()),(ml1_0,ml1_1,ml1_2,ml1_3,ml1_4,ml1_5,ml1_6,ml1_7,ml1_8,ml1_9,ml1_10,()),(ml5_0,()),()))∧((InR (ml4_0+(y_1.l.length:Int)))∧(ZfF N [1,1,1,1,1,0,1,0,0,1,1,1] (Z4K e x21 ml1_0 ml1_1 ml1_2 ml1_3 ml1_4 ml1_5 ml1_6 ml1_7 ml1_8 ml1_9 ml1_10 (ml4_0+(y_1.l.length:Int)) ml5_0 (ml3_0++[Jq ml1_9 ml4_0 y_2 (ml5_0 - 0)])) z0)))∧((y_1.kind==2)=false→(ZbV (y_3,()))∧(ZhM (y_3,()) < N)∧(Zf (ZfF N [1,1,1,1,1,0,1,0,0,1,1,0,0,1,1,0,1,1,1,1,1,1,0,1,0,0]) (Z7s e x21 ml4_0 0 ml1_0 ml1_1 ml1_2 ml1_3 ml1_4 ml1_5 ml1_6 ml1_7 ml1_8 ml1_9 ml1_10 ml5_0 ml3_0) (xB 3 (ZfD N [1,1,1,1,1,0,1,0,0,1,1,0,0,1,1,0,1,1,1,1,1,1,1] (xB 2 (xB 1 (ZfD N [1,1,1,1,1,0,1,0,0,1,1,1] z0)))))))))))))∧(z1=false→(Q .ret (L2 [(2,.c (sU .edit ml3_0 (.own (.e 2 0))))] []))))):
  ZfF N [1,1,1,1,1,0,1,0,0] (Z7t e x21 ml4_0 ml5_0 ml1_0 ml1_1 ml1_2 ml1_3 ml1_4 ml1_5 ml1_6 ml1_7 ml1_8 ml1_9 ml1_10 ml3_0) (xT N0 (xB 0 (ZfD N [1,1,1,1,1,1] Q))):=
 Eq.mpr (by kernel_rfl) (h _ rfl _ (YX _) _ (Z6 _))
theorem Z8B(N:Nat)(e:Edit)(x21 ml1_0_a ml1_1_a:Int)(ml1_2_a:List Int)(ml1_3_a:List Tree)(ml1_4_a:Int)(ml1_5_a:List Int)(ml1_6_a:List Tree)(ml1_7_a:List WEdit)(ml1_8_a:List Kid)(ml1_9_a:Int)(ml1_10_a:List Op)(ml4_0_a ml5_0_a:Int)(ml3_0_a:List Edit)(N0:NT)(Q:QT)(h:(InR (x21+1))∧(N0 (Z7t e (x21+1) ml4_0_a ml5_0_a ml1_0_a ml1_1_a ml1_2_a ml1_3_a ml1_4_a ml1_5_a ml1_6_a ml1_7_a ml1_8_a ml1_9_a ml1_10_a ml3_0_a))):
  ZfF N [1,1,1,1,1,0,1,0,0,1,1,1] (Z4K e x21 ml1_0_a ml1_1_a ml1_2_a ml1_3_a ml1_4_a ml1_5_a ml1_6_a ml1_7_a ml1_8_a ml1_9_a ml1_10_a ml4_0_a ml5_0_a ml3_0_a) (xT N0 (xB 0 (ZfD N [1,1,1,1,1,1] Q))):=
 Eq.mpr (by kernel_rfl) h
theorem ZrU(N:Nat)(e:Edit)(x21 ml4_0 x31_b ml1_0_b ml1_1_b:Int)(ml1_2_b:List Int)(ml1_3_b:List Tree)(ml1_4_b:Int)(ml1_5_b:List Int)(ml1_6_b:List Tree)(ml1_7_b:List WEdit)(ml1_8_b:List Kid)(ml1_9_b:Int)(ml1_10_b:List Op)(ml5_0_b:Int)(ml3_0_b:List Edit)(N2 N0:NT)(Q:QT)(h:∀ y_1,y_1=(e.ops.getD x21.toNat Op.nil)→∀ y_2,y_2=(y_1.e)→∀ y_3,y_3=(List.getD (Zk y_2) x31_b.toNat Edit.nil)→let z0:=decide (x31_b < ((Zk y_2).length:Int));((z0=true→((0:Int)≤x31_b∧x31_b < ((Zk y_2).length:Int))∧((ZaW ((OpOf.mk 3 0 [] y_3),1,(ml4_0,()),(ml3_0_b,()),(ml1_0_b,ml1_1_b,ml1_2_b,ml1_3_b,ml1_4_b,ml1_5_b,ml1_6_b,ml1_7_b,ml1_8_b,ml1_9_b,ml1_10_b,()),(ml5_0_b,()),()))∧((InR (x31_b+1))∧(N2 (Z7s e x21 ml4_0 (x31_b+1) ml1_0_b ml1_1_b ml1_2_b ml1_3_b ml1_4_b ml1_5_b ml1_6_b ml1_7_b ml1_8_b ml1_9_b ml1_10_b ml5_0_b (ml3_0_b++[Jq ml1_9_b ml4_0 (OpOf.mk 3 0 [] y_3) (ml5_0_b - 1)]))))))∧(z0=false→(InR (ml4_0+1))∧(InR (ml5_0_b - 1))∧(ZfF N [1,1,1,1,1,0,1,0,0,1,1,1] (Z4K e x21 ml1_0_b ml1_1_b ml1_2_b ml1_3_b ml1_4_b ml1_5_b ml1_6_b ml1_7_b ml1_8_b ml1_9_b ml1_10_b (ml4_0+1) (ml5_0_b - 1) ml3_0_b) (xT N0 (xB 0 (ZfD N [1,1,1,1,1,1] Q))))))):
  ZfF N [1,1,1,1,1,0,1,0,0,1,1,0,0,1,1,0,1,1,1,1,1,1,0,1,0,0] (Z7s e x21 ml4_0 x31_b ml1_0_b ml1_1_b ml1_2_b ml1_3_b ml1_4_b ml1_5_b ml1_6_b ml1_7_b ml1_8_b ml1_9_b ml1_10_b ml5_0_b ml3_0_b) (xT N2 (xB 3 (ZfD N [1,1,1,1,1,0,1,0,0,1,1,0,0,1,1,0,1,1,1,1,1,1,1] (xB 2 (xB 1 (ZfD N [1,1,1,1,1,0,1,0,0,1,1,1] (xT N0 (xB 0 (ZfD N [1,1,1,1,1,1] Q))))))))):=
 Eq.mpr (by kernel_rfl) (h _ rfl _ (Z6 _) _ (Z6 _))
def Zzb(N:Nat)(e:Edit):Prop:=AW (Z0 (Zic N)) Tryz.f113 Zo3 [] (Zl (Zd1.can (e,())) []) (EQ Tryz.f113 (ZdY (e,())) [])
abbrev ZA7:Prop:=∀ (N:Nat) (e:Edit) (_:Unit),Zb1 (e,())→ZeC (e,()) < N+1→Zzb N e
theorem ZlP(ZqX:CT 169 Z0V)(ZBS:CT 170 Z6L)(ha:ZFp)(hb:ZA7):CT 73 Zdp∧CT 113 ZmU:=
 Z0t (μA:=ZhM) (μB:=ZeC) (l:=[(169,Z0V),(170,Z6L)]) Zo rfl (⟨ZqX,ZBS,trivial⟩) Zxs Zo3 Tryz.func73 Tryz.func113 rfl rfl rfl rfl 1 1 (fun _=> rfl) (fun _=> rfl) (by decide) (by decide) (fun N ⟨e,_⟩=> ha N e ()) (fun N ⟨e,_⟩=> hb N e ())
end
end Go.AM.YtpjenobkibfpcaaGreat
namespace Go.AM.YtpjenobkibfpcaaGreat
open Go.AM Go.Proofs
noncomputable section
def Zv8:ArgL (Edit × Unit):=(.cons (aEl .edit) .nil)
def ZjK(a:Edit × Unit):Prop:=Z9 a.1≤1000000∧∃ d,Z2 a.1 d=true
def Zsq(a:Edit × Unit):V U:= .c (sU .edit (Zk (Zv a.1)) .unk)
def Z5Q:Fs U:=fs Zv8 (fun a=> [ZjK a]) Zsq
def Zv9:ArgL (List Edit × Unit):=(.cons (aSl .edit) .nil)
def Znu(a:List Edit × Unit):Prop:=(∀ x∈a.1,Z1f x)∧ctL a.1≤8000000000
def Zng(a:List Edit × Unit):V U:= .tup [(true,(enc .edit ((Z4B a.1).1))),(false,[.bool ((Z4B a.1).2)])]
def Zdz:Fs U:=fs Zv9 (fun a=> [Znu a]) Zng
def Zv2:ArgL (Int × Unit):=(.cons (YG .u64) .nil)
def Znr(a:Int × Unit):Prop:=True
def Zsm(a:Int × Unit):V U:= .c (sU .tree ([Tree.mk 10 [a.1] []]) .unk)
def Zdr:Fs U:=fs Zv2 (fun a=> [Znr a]) Zsm
def Zva:ArgL Unit:= .nil
def Znv(a:Unit):Prop:=True
def Zzr(a:Unit):V U:= .c (.bool true)
def ZdA:Fs U:=fs Zva (fun a=> [Znv a]) Zzr
def Zut:List (FuncId × Fs U):=[(67,Z0U),(73,Zdp)]
def ZBe:Zj U:=lvl [([1],[1]),([2],[])]
abbrev A24(p:List Nat):=AW (Z0 Zut) Tryz.f24 ZBe p
theorem ZFX(e:Edit)(Q:QT)(h:∀ y_1,y_1=e→∀ y_2,y_2=(Zv y_1)→((Z1i (y_1,()))∧(ZbV (y_2,()))∧(Q .ret (L2 [(2,.c (sU .edit (Zk y_2) .unk))] [])))):
  A24 [] (L2 [(0,.agg (enc .edit e))] []) Q:=
 Eq.mpr (by kernel_rfl) (h _ (Z6 _) _ (Z6 _))
def ZCR(e:Edit):Prop:=AW (Z0 Zut) Tryz.f24 ZBe [] (Zl (Zv8.can (e,())) []) (EQ Tryz.f24 (Zsq (e,())) [])
theorem ZAY(c67:CT 67 Z0U)(c73:CT 73 Zdp)(hb:∀ (e:Edit) (_:Unit),ZjK (e,())→ZCR e):CT 24 Z5Q:=
 Z4 (l:=[(67,Z0U),(73,Zdp)]) Zo rfl (⟨c67,c73,trivial⟩) ZBe Tryz.func24 rfl rfl 1 (fun _=> rfl) (by decide) (fun ⟨e,_⟩=> hb e ())
def Zmb:List (FuncId × Fs U):=[(71,Zdq),(67,Z0U)]
def Zxy:Zj U:=fun i=> match i with
 | 0=> ([(0,[]),(2,[])],[(.loc 2,[])])
 | 1=> ([(0,[]),(2,[]),(4,[])],[(.loc 2,[]),(.loc 4,[])])
 | 2=> ([(2,[]),(4,[]),(10,[]),(11,[]),(12,[])],[(.loc 2,[]),(.loc 4,[.any,.any,.unk .u64,.unk .tree,.any,.unk .u64,.unk .tree,.unk .wedit,.unk .kid,.any,.unk .op])])
 | 3=> ([(2,[]),(4,[]),(10,[]),(11,[]),(12,[]),(13,[])],[(.loc 2,[]),(.loc 4,[])])
 | 4=> ([(2,[]),(4,[]),(6,[]),(10,[]),(11,[]),(12,[])],[(.loc 2,[]),(.loc 4,[]),(.loc 6,[])])
 | 5=> ([(2,[]),(4,[]),(7,[]),(8,[]),(10,[]),(11,[]),(12,[])],[(.loc 2,[]),(.loc 4,[]),(.loc 7,[])])
 | 6=> ([(2,[]),(4,[]),(7,[]),(10,[]),(11,[]),(12,[]),(23,[])],[(.loc 2,[]),(.loc 4,[]),(.loc 7,[])])
 | 7=> ([(2,[]),(3,[])],[(.loc 2,[])])
 | 8=> ([(2,[]),(4,[]),(10,[]),(11,[]),(12,[])],[(.loc 2,[]),(.loc 4,[])])
 | 9=> ([(2,[]),(4,[]),(10,[]),(11,[]),(12,[])],[(.loc 2,[]),(.loc 4,[.any,.any,.unk .u64,.unk .tree,.any,.unk .u64,.unk .tree,.unk .wedit,.unk .kid,.any,.unk .op])])
 | 10=> ([(2,[]),(3,[])],[(.loc 2,[])])
 | _=> ([],[])
def Zak(l:List Edit)(x12 ml4_0 ml4_1 ml4_4 ml4_9:Int)(ml4_2:List Int)(ml4_3:List Tree)(ml4_5:List Int)(ml4_6:List Tree)(ml4_7:List WEdit)(ml4_8:List Kid)(ml4_10:List Op):LSt U:=(L2 [(2,.ptr (.loc 2) 0),(4,.ptr (.loc 4) 0),(10,.c (sU .edit l .unk)),(11,.c (ci (l.length:Int))),(12,.c (ci x12))] [(.loc 2,zc1),(.loc 4,[ci ml4_0,ci ml4_1,sU .u64 ml4_2 .unk,sU .tree ml4_3 .unk,ci ml4_4,sU .u64 ml4_5 .unk,sU .tree ml4_6 .unk,sU .wedit ml4_7 .unk,sU .kid ml4_8 .unk,ci ml4_9,sU .op ml4_10 .unk])])
abbrev A20(p:List Nat):=AW (Z0 Zmb) Tryz.f20 Zxy p
abbrev S20(p:List Nat):=SW (Z0 Zmb) Tryz.f20 Zxy p
theorem ZFZ(l:List Edit)(Q:QT)(h:(Zf (A20 [1,1,0,1,0,0]) (Zak l 0 0 0 0 0 [] [] [] [] [] [] []) (xB 0 (S20 [1,1,1] Q)))):
  A20 [] (L2 [(0,.c (sU .edit l .unk))] []) Q:=
 Eq.mpr (by kernel_rfl) h
theorem Zw1(l:List Edit)(x12 ml4_0 ml4_1 ml4_4 ml4_9:Int)(ml4_2:List Int)(ml4_3:List Tree)(ml4_5:List Int)(ml4_6:List Tree)(ml4_7:List WEdit)(ml4_8:List Kid)(ml4_10:List Op)(N0:NT)(Q:QT)(h:∀ y_1,y_1=(l.getD x12.toNat Edit.nil)→∀ y_2,y_2=(Edit.mk ml4_0 (Tree.mk ml4_1 ml4_2 ml4_3) (Tree.mk ml4_4 ml4_5 ml4_6) ml4_7 ml4_8 ml4_9 ml4_10)→∀ y_3,y_3=y_1→let z2:=decide (x12 < (l.length:Int));let z1:=Edit.new ((Z2z y_2 y_3).1);let z0:=Edit.old ((Z2z y_2 y_3).1);((z2=true→((0:Int)≤x12∧x12 < (l.length:Int))∧((Zt9 (y_2,y_3,()))∧(((!((Z2z y_2 y_3).2))=true→(Q .ret (L2 [(2,.ptr (.loc 2) 0),(3,.c (.bool false))] [(.loc 2,zc1)])))∧((!((Z2z y_2 y_3).2))=false→((InR (x12+1))∧(N0 (Zak l (x12+1) (Edit.kind ((Z2z y_2 y_3).1)) (Tree.kind z0) (Tree.kind z1) (Edit.list ((Z2z y_2 y_3).1)) (Tree.words z0) (Tree.kids z0) (Tree.words z1) (Tree.kids z1) (Edit.words ((Z2z y_2 y_3).1)) (Edit.kids ((Z2z y_2 y_3).1)) (Edit.ops ((Z2z y_2 y_3).1)))))))))∧(z2=false→(Z1i (y_2,()))∧(Q .ret (L2 [(2,.ptr (.loc 2) 0),(3,.c (.bool true))] [(.loc 2,(enc .edit (Zv y_2)))]))))):
  A20 [1,1,0,1,0,0] (Zak l x12 ml4_0 ml4_1 ml4_4 ml4_9 ml4_2 ml4_3 ml4_5 ml4_6 ml4_7 ml4_8 ml4_10) (xT N0 (xB 0 (S20 [1,1,1] Q))):=
 Eq.mpr (by kernel_rfl) (h _ rfl _ rfl _ (Z6 _))
def ZCT(l:List Edit):Prop:=AW (Z0 Zmb) Tryz.f20 Zxy [] (Zl (Zv9.can (l,())) []) (EQ Tryz.f20 (Zng (l,())) [])
theorem ZB0(c71:CT 71 Zdq)(c67:CT 67 Z0U)(hb:∀ (l:List Edit) (_:Unit),Znu (l,())→ZCT l):CT 20 Zdz:=
 Z4 (l:=[(71,Zdq),(67,Z0U)]) Zo rfl (⟨c71,c67,trivial⟩) Zxy Tryz.func20 rfl rfl 1 (fun _=> rfl) (by decide) (fun ⟨l,_⟩=> hb l ())
def Zun:List (FuncId × Fs U):=[]
def ZB9:Zj U:=lvl [([0],[]),([2],[])]
abbrev A70(p:List Nat):=AW (Z0 Zun) Tryz.f70 ZB9 p
theorem ZFK(n:Int)(Q:QT)(h:(Q .ret (L2 [(2,.c (sU .tree ([(Tree.mk 10 ([n]) [])]) .full))] []))):
  A70 [] (L2 [(0,.c (.int .u64 n))] []) Q:=
 Eq.mpr (by kernel_rfl) h
def ZCE(n:Int):Prop:=AW (Z0 Zun) Tryz.f70 ZB9 [] (Zl (Zv2.can (n,())) []) (EQ Tryz.f70 (Zsm (n,())) [])
theorem ZAO(hb:∀ (n:Int) (_:Unit),Znr (n,())→ZCE n):CT 70 Zdr:=
 Z4 (l:=[]) Zo rfl trivial ZB9 Tryz.func70 rfl rfl 1 (fun _=> rfl) (by decide) (fun ⟨n,_⟩=> hb n ())
def Zuu:List (FuncId × Fs U):=[(24,Z5Q),(70,Zdr),(20,Zdz)]
def ZBf:Zj U:=lvl [([],[]),([1],[]),([2],[]),([2,3,4],[3]),([0],[])]
abbrev A19(p:List Nat):=AW (Z0 Zuu) Tryz.f19 ZBf p
theorem ZG0(Q:QT)(h:∀ y_1,y_1=(Edit.mk 0 (Tree.mk 0 [] []) (Tree.mk 0 [] []) [] [] 0 [])→∀ y_2,y_2=(Edit.mk 3 (Tree.mk 0 [] []) (Tree.mk 0 [] []) [] [] 4 ([(OpOf.mk 1 0 ([Tree.mk 10 [1] []]) y_1),(OpOf.mk 0 1 [] y_1),(OpOf.mk 2 0 ([Tree.mk 10 [2] []]) y_1)]))→∀ y_3,y_3=(List.getD (Zk (Zv y_2)) (Int.toNat 0) Edit.nil)→∀ y_4,y_4=(List.getD (Zk (Zv y_2)) (Int.toNat 1) Edit.nil)→∀ y_5,y_5=(List.getD y_4.ops (Int.toNat 0) Op.nil)→let z3:=Zk (Zv y_2);let z5:=Edit.ops ((Z4B z3).1);let z2:=bif ((Z4B z3).2) then (((z3.length:Int):Int)==2) else false;let z0:=bif z2 then (((y_3.ops.length:Int):Int)==2) else false;let z4:=bif z0 then (y_5.n==1) else false;let z1:=bif z4 then (((z5.length:Int):Int)==3) else false;((Znr (1,()))∧(Znr (2,()))∧(ZjK (y_2,()))∧((Znu (z3,()))∧((Tr (((Z4B z3).2)=true))∧(Tr (((Z4B z3).2)=true))∧(Tr (((Z4B z3).2)=true))∧(Tr (z2=true))∧(z2=true→(0:Int)≤0∧0 < (z3.length:Int))∧(Tr (z2=true))∧(Tr (z2=true))∧(Tr (z2=true))∧(Tr (z2=true))∧(Tr (z2=true))∧(Tr (z0=true))∧(z0=true→(0:Int)≤1∧1 < (z3.length:Int))∧(Tr (z0=true))∧(Tr (z0=true))∧(Tr (z0=true))∧(z0=true→(0:Int)≤0∧0 < (y_4.ops.length:Int))∧(Tr (z0=true))∧(Tr (z0=true))∧(Tr (z0=true))∧(Tr (z0=true))∧(Tr (z4=true))∧(Tr (z4=true))∧(Tr (z4=true))∧(Tr (z4=true))∧(Tr (z1=true))∧(Tr (z1=true))∧(z1=true→(0:Int)≤0∧0 < (z5.length:Int))∧(Tr (z1=true))∧(Tr (z1=true))∧(Tr (z1=true))∧(Tr (z1=true))∧(Q .ret (L2 [(0,.c (.bool (bif z1 then (((OpOf.kind (List.getD z5 (Int.toNat 0) Op.nil)):Int)==1) else false)))] [])))))):
  A19 [] (L2 [] []) Q:=
 Eq.mpr (by kernel_rfl) (h _ rfl _ rfl _ rfl _ rfl _ rfl)
def ZCU:Prop:=AW (Z0 Zuu) Tryz.f19 ZBf [] (Zl (Zva.can ()) []) (EQ Tryz.f19 (Zzr ()) [])
theorem ZB1(c24:CT 24 Z5Q)(c70:CT 70 Zdr)(c20:CT 20 Zdz)(hb:∀ (_:Unit),Znv ()→ZCU):CT 19 ZdA:=
 Z4 (l:=[(24,Z5Q),(70,Zdr),(20,Zdz)]) Zo rfl (⟨c24,c70,c20,trivial⟩) ZBf Tryz.func19 rfl rfl 0 (fun _=> rfl) (by decide) (fun _=> hb ())
end
end Go.AM.YtpjenobkibfpcaaGreat
namespace Go.AM.YtpjenobkibfpcaaGreat
open Go.AM Go.Proofs
theorem ZBR:Contract Tryz.prog cfg 171 Z90:=by
 refine ZwY ?_
 intro n _ _
 refine ZDO _ _ ?_
 (simp only [vcT,vcS])
 refine ⟨fun h=> ?_,fun h=> ?_⟩
 ·simp only [Zhq,ZT,if_pos h]
  (repeat' (first | exact trivial | exact rfl | apply And.intro))
 ·simp only [Zhq,ZT,if_neg h]
  (repeat' (first | exact trivial | exact rfl | apply And.intro))
theorem ZBS:Contract Tryz.prog cfg 170 Z6L:=by
 refine ZwZ ZBR ?_
 intro o g ah out ek eo eow eok en enw enk ew ec li eos bh _ hp
 simp only [ZaW] at hp
 refine ZDP _ _ _ _ _ _ _ _ _ _ _ _ _ _ _ _ _ ?_
 rintro y1 rfl
 (simp only [vcT,vcS])
 have h1:=Z7e ah
 have h2:=Z7e (bh - g)
 refine ⟨trivial,by simp only [List.length_cons,List.length_nil];omega,by unfold InR;omega,trivial,by simp only [List.length_append,List.length_cons,List.length_nil];omega,by simp only [List.length_cons,List.length_nil];omega,?_⟩
 simp only [Zlo,Zhh]
 (repeat' (first | exact trivial | exact rfl | apply And.intro))
theorem ZfG{w:WEdit}:Edit.mk 2 (Tree.mk 0 [] []) (Tree.mk 0 [] []) [WEdit.mk w.at_ w.mask w.old w.new] [] 0 []=Js w:=by cases w;rfl
theorem b73:ZFp:=by
 intro N e _ hp hN
 simp only [ZbV,ZhM] at hp hN
 obtain ⟨hm,d,hr⟩:=hp
 have ra:=Zz hr
 refine ZFI _ _ _ ?_
 rintro y1 rfl y2 hy2
 (simp only [vcT,vcS])
 have hz:∀ k:Int,y1.kind=k→k≠0→Zk y1=if (Y7 y1).length=0 then [y1] else Y7 y1:=fun k h h0=> by rw [YC,if_neg (by omega)]
 refine ⟨fun h0=> ?_,fun h0=> ⟨fun h2=> ?_,fun h2=> ⟨fun h3=> ⟨⟨h3,hm,d,hr⟩,by simp only [ZeC];omega,fun hl=> ?_,fun hl=> ?_⟩,fun h3=> ⟨?_,fun h=> absurd trivial h⟩⟩⟩⟩
 ·have:Zk y1=[]:=by rw [YC,if_pos h0]
  simp only [Z7J,this]
  (repeat' (first | exact trivial | exact rfl | apply And.intro))
 ·have hR:Y7 y1=y1.words.map Js++ZP y1.kids:=by unfold Y7;rw [if_pos h2]
  have hkl:y1.kids.length≤Z9 y1:=by have:=Y2 y1.kids;have:Z9 y1=1+Zu y1.old+Zu y1.new+y1.words.length+y1.ops.length+Zq y1.kids+Zg y1.ops:=(by cases y1;rfl);omega
  have hlen:(Y7 y1).length≤1000000:=by
   have h4:=(Z1Z y1).2
   rw [hz 2 h2 (by decide)] at h4
   split at h4
   ·omega
   ·omega
  refine Za (ι:=Int × List Edit) (fun j=> Zac y1 j.1 j.2) (fun j=> (0≤j.1∧j.1≤y1.words.length)∧j.2++(y1.words.drop j.1.toNat).map Js=y1.words.map Js) (fun j=> ((y1.words.length:Int) - j.1).toNat) (0,[]) rfl ⟨⟨by dsimp only;omega,by dsimp only;omega⟩,by simp⟩ ?_
  rintro ⟨i,out⟩ ⟨⟨i1,i2⟩,i3⟩
  dsimp only at i1 i2 i3
  refine ZvN _ _ _ _ _ _ ?_
  (simp only [vcT,vcS])
  have hl1:=congrArg List.length i3
  have hl2:=congrArg List.length hR
  simp only [List.length_append,List.length_map] at hl1 hl2
  refine ⟨fun hi=> ⟨⟨i1,hi⟩,by simp only [List.length_cons,List.length_nil];omega,by unfold InR;omega,(i+1,out++[Js (y1.words.getD i.toNat ⟨0,0,0,0⟩)]),?_,⟨⟨by dsimp only;omega,by dsimp only;omega⟩,?_⟩,by dsimp only;omega⟩,fun hi=> ?_⟩
  ·dsimp only;rw [ZfG]
  ·rw [Y3 i1 hi ⟨0,0,0,0⟩,List.map_cons] at i3
   dsimp only
   rw [List.append_assoc];exact i3
  ·rw [List.drop_of_length_le (by omega),List.map_nil,List.append_nil] at i3
   refine Za (ι:=Int × List Edit) (fun j=> Zab y1 j.1 j.2) (fun j=> (0≤j.1∧j.1≤y1.kids.length)∧j.2++ZP (y1.kids.drop j.1.toNat)=Y7 y1) (fun j=> ((y1.kids.length:Int) - j.1).toNat) (0,out) rfl ⟨⟨by dsimp only;omega,by dsimp only;omega⟩,by rw [hR,←i3];rfl⟩ ?_
   rintro ⟨k,out⟩ ⟨⟨k1,k2⟩,k3⟩
   dsimp only at k1 k2 k3
   refine ZvM _ _ _ _ _ _ ?_
   rintro z1 rfl z2 hz2
   (simp only [vcT,vcS])
   refine ⟨fun hk=> ?_,fun hk=> ?_⟩
   ·have hkm:z1.kids.getD k.toNat ⟨0,Edit.nil⟩∈z1.kids:=Zi (by omega) _
    have hke:=J6 hkm
    have hkr:=(Y1 ra.kids _ hkm).2
    rw [←hz2] at hke hkr
    have hst:ZP (z1.kids.drop k.toNat)=(Zk z2).map (Z3w (z1.kids.getD k.toNat ⟨0,Edit.nil⟩).at_)++ZP (z1.kids.drop (k+1).toNat):=by
     rw [Y3 k1 hk ⟨0,Edit.nil⟩,ZP,Z1Y,←hz2]
    refine ⟨⟨k1,hk⟩,⟨by dsimp only;omega,_,hkr⟩,by simp only [ZhM];omega,?_⟩
    refine Za (ι:=Int × List Edit) (fun j=> Zaa z1 k j.1 j.2) (fun j=> (0≤j.1∧j.1≤(Zk z2).length)∧j.2++((Zk z2).drop j.1.toNat).map (Z3w (z1.kids.getD k.toNat ⟨0,Edit.nil⟩).at_)=out++(Zk z2).map (Z3w (z1.kids.getD k.toNat ⟨0,Edit.nil⟩).at_)) (fun j=> (((Zk z2).length:Int) - j.1).toNat) (0,out) rfl ⟨⟨by dsimp only;omega,by dsimp only;omega⟩,by simp⟩ ?_
    rintro ⟨j,o2⟩ ⟨⟨j1,j2⟩,j3⟩
    dsimp only at j1 j2 j3
    refine ZvL _ _ _ _ _ _ _ _ ?_
    rintro x1 hx1 x2 hx2 x3 hx3
    have ex:x2=z2:=by rw [hx2,hz2,hx1]
    subst ex
    (simp only [vcT,vcS])
    have hl3:=congrArg List.length j3
    have hl4:=congrArg List.length k3
    rw [hst] at hl4
    simp only [List.length_append,List.length_map,List.length_drop] at hl3 hl4
    refine ⟨fun hj=> ⟨⟨j1,hj⟩,by simp only [List.length_cons,List.length_nil];omega,by unfold InR;omega,(j+1,o2++[Z3w x1.at_ x3]),rfl,⟨⟨by dsimp only;omega,by dsimp only;omega⟩,?_⟩,by dsimp only;omega⟩,fun hj=> ⟨by unfold InR;omega,(k+1,o2),rfl,⟨⟨by dsimp only;omega,by dsimp only;omega⟩,?_⟩,by dsimp only;omega⟩⟩
    ·rw [Y3 j1 hj Edit.nil,List.map_cons,←hx3,←hx1] at j3
     dsimp only
     rw [List.append_assoc,←hx1];exact j3
    ·rw [List.drop_of_length_le (by omega),List.map_nil,List.append_nil] at j3
     dsimp only
     rw [j3,List.append_assoc,←hst];exact k3
   ·rw [List.drop_of_length_le (by omega),ZP,List.append_nil] at k3
    refine ⟨fun hl=> ?_,fun hl=> ?_⟩
    ·have:Zk z1=[z1]:=by rw [hz 2 h2 (by decide),←k3,if_pos (by omega)]
     simp only [Z7J,this]
     (repeat' (first | exact trivial | exact rfl | apply And.intro))
    ·have:Zk z1=out:=by rw [hz 2 h2 (by decide),←k3,if_neg (by omega)]
     simp only [Z7J,this]
     (repeat' (first | exact trivial | exact rfl | apply And.intro))
 ·have hR:Y7 y1=y2:=by unfold Y7;rw [if_neg h2,if_pos h3,hy2]
  have:Zk y1=[y1]:=by rw [hz 3 h3 (by decide),hR,if_pos (by omega)]
  simp only [Z7J,this]
  (repeat' (first | exact trivial | exact rfl | apply And.intro))
 ·have hR:Y7 y1=y2:=by unfold Y7;rw [if_neg h2,if_pos h3,hy2]
  have:Zk y1=y2:=by rw [hz 3 h3 (by decide),hR,if_neg (by omega)]
  simp only [Z7J,this]
  (repeat' (first | exact trivial | exact rfl | apply And.intro))
 ·have hR:Y7 y1=[]:=by unfold Y7;rw [if_neg h2,if_neg h3]
  have:Zk y1=[y1]:=by rw [YC,if_neg h0,hR,if_pos (by rfl)]
  simp only [Z7J,this]
  (repeat' (first | exact trivial | exact rfl | apply And.intro))
end Go.AM.YtpjenobkibfpcaaGreat
namespace Go.AM.YtpjenobkibfpcaaGreat
open Go.AM Go.Proofs
theorem ZGa:ZA7:=by
 intro N e _ hp hN
 simp only [Zb1,ZeC] at hp hN
 obtain ⟨h3,hm,d,hr⟩:=hp
 have ra:=Zz hr
 have hops:=Yb.1 ra.ops
 have hlen:=ra.len
 have hsA:=Yl e.ops 0 (fun x hx=> ZM (Ya (hops x hx))) (by omega) (by omega)
 have hsB:=YW e.ops 0 (fun x hx=> ZM (Ya (hops x hx))) (by omega) (by omega)
 have hA:Ym e.ops 0=ZH e.ops:=by omega
 have hB:Jb e.ops 0=Yf e.ops:=by omega
 have hmw:Z9 e=1+Zu e.old+Zu e.new+e.words.length+e.ops.length+Zq e.kids+Zg e.ops:=by cases e;rfl
 have hpl:=(Z5n e.list e.ops 0 (Ym e.ops 0)).2
 have ee:Edit.mk e.kind (Tree.mk e.old.kind e.old.words e.old.kids) (Tree.mk e.new.kind e.new.words e.new.kids) e.words e.kids e.list e.ops=e:=by obtain ⟨k,⟨_,_,_⟩,⟨_,_,_⟩,w,ks,l,os⟩:=e;rfl
 have hW:Z16 e.ops 0=Ym e.ops 0:=ZeS e.ops 0 (fun o ho=> ⟨Z4n (hops o ho),by
  have:=Z6l ho
  have:=Zqx o
  have:=ZA o.l
  omega⟩) (by omega) (by omega)
 refine ZEg _ _ _ ?_
 (simp only [vcT,vcS])
 rw [ee,hW]
 refine ⟨by show Z9 e≤20000000000;omega,?_⟩
 refine Za (ι:=Int × Int × Int × List Edit) (fun j=> Z7t e j.1 j.2.1 j.2.2.1 e.kind e.old.kind e.old.words e.old.kids e.new.kind e.new.words e.new.kids e.words e.kids e.list e.ops j.2.2.2)
  (fun j=> (0≤j.1∧j.1≤e.ops.length)∧(0≤j.2.1∧j.2.1+Yf (e.ops.drop j.1.toNat)=Yf e.ops)∧j.2.2.1=ZH (e.ops.drop j.1.toNat)∧j.2.2.1≤ZH e.ops∧j.2.2.2++ZL e.list (e.ops.drop j.1.toNat) j.2.1 j.2.2.1=ZL e.list e.ops 0 (Ym e.ops 0))
  (fun j=> ((e.ops.length:Int) - j.1).toNat) (0,0,Ym e.ops 0,[]) rfl ⟨⟨by dsimp only;omega,by dsimp only;omega⟩,⟨by dsimp only;omega,by simp⟩,by simp [hA],by dsimp only;omega,by simp⟩ ?_
 rintro ⟨i,a,b,out⟩ ⟨⟨i1,i2⟩,⟨a1,a2⟩,b1,b2,o1⟩
 dsimp only at i1 i2 a1 a2 b1 b2 o1
 refine ZrV _ _ _ _ _ _ _ _ _ _ _ _ _ _ _ _ _ _ _ ?_
 rintro y1 hy1 y2 rfl y3 hy3
 (simp only [vcT,vcS])
 have ho1:=congrArg List.length o1
 rw [List.length_append] at ho1
 refine ⟨fun hi=> ⟨⟨i1,hi⟩,?_⟩,fun hi=> ?_⟩
 ·have hd:=Y3 i1 hi Op.nil
  rw [←hy1] at hd
  have hm1:y2∈e.ops:=by rw [hy1];exact Zi (by omega) _
  have hro:=hops y2 hm1
  have hrest:∀ o∈e.ops.drop (i+1).toNat,Zc e.list o (d - 1)=true:=fun o ho=> hops o (List.mem_of_mem_drop ho)
  have sA:=(Yl _ 0 (fun x hx=> ZM (Ya (hrest x hx))) (by omega) (by omega)).2
  have sB:=(YW _ 0 (fun x hx=> ZM (Ya (hrest x hx))) (by omega) (by omega)).2
  have hol:=ZM (Ya hro)
  rw [hd,Yf] at a2
  rw [hd,ZH] at b1
  rw [hd,ZL,Z1o] at o1
  refine ⟨fun k0=> ?_,fun k0=> ⟨fun k1=> ?_,fun k1=> ⟨fun k2=> ?_,fun k2=> ?_⟩⟩⟩
  ·have ol:=Z3M (Y9 hro) k0
   rw [if_neg (by omega),ol] at a2 b1
   rw [if_pos k0,if_neg (by omega),if_neg (by omega),ol,List.nil_append] at o1
   refine ⟨by unfold InR;omega,by unfold InR;omega,Z8B _ _ _ _ _ _ _ _ _ _ _ _ _ _ _ _ _ _ _ ⟨by unfold InR;omega,(i+1,a+y2.n,b - y2.n,out),rfl,⟨⟨by dsimp only;omega,by dsimp only;omega⟩,⟨by dsimp only;omega,by dsimp only;omega⟩,by dsimp only;omega,by dsimp only;omega,o1⟩,by dsimp only;omega⟩⟩
  ·have ol:=Yr (Y9 hro) (.inl k1)
   rw [if_pos k1] at a2
   rw [if_neg (by omega),ol] at b1
   rw [if_neg k0,if_pos k1,if_pos k1,if_neg (by omega),ol] at o1
   refine ⟨⟨by dsimp only;omega,by dsimp only;omega,by dsimp only;omega⟩,by unfold InR;omega,Z8B _ _ _ _ _ _ _ _ _ _ _ _ _ _ _ _ _ _ _ ⟨by unfold InR;omega,(i+1,a,b - y2.l.length,out++[Jq e.list a y2 (b - y2.l.length)]),rfl,⟨⟨by dsimp only;omega,by dsimp only;omega⟩,⟨by dsimp only;omega,by dsimp only;omega⟩,by dsimp only;omega,by dsimp only;omega,?_⟩,by dsimp only;omega⟩⟩
   rw [List.append_assoc];exact o1
  ·have ol:=Yr (Y9 hro) (.inr k2)
   rw [if_neg (by omega),ol] at a2
   rw [if_pos k2] at b1
   rw [if_neg k0,if_neg k1,if_pos k2,if_neg (by omega),if_pos k2,ol] at o1
   refine ⟨⟨by dsimp only;omega,by dsimp only;omega,by dsimp only;omega⟩,by unfold InR;omega,Z8B _ _ _ _ _ _ _ _ _ _ _ _ _ _ _ _ _ _ _ ⟨by unfold InR;omega,(i+1,a+y2.l.length,b,out++[Jq e.list a y2 (b - 0)]),rfl,⟨⟨by dsimp only;omega,by dsimp only;omega⟩,⟨by dsimp only;omega,by dsimp only;omega⟩,by dsimp only;omega,by dsimp only;omega,?_⟩,by dsimp only;omega⟩⟩
   rw [List.append_assoc];exact o1
  ·have k3:y2.kind=3:=by
    have:=ZC hro
    cases this <;> first | rfl | (exfalso;first | exact k0 rfl | exact k1 rfl | exact k2 rfl)
   have ol:Z3 y2=1:=by unfold Z3;rw [if_pos k3]
   rw [if_neg k1,ol] at a2
   rw [if_neg k2,ol] at b1
   rw [if_neg k0,if_neg k1,if_neg k2,if_neg k1,if_neg k2,ol,←hy3] at o1
   have hro3:Z2 y3 (d - 1)=true:=by rw [hy3];exact Jm hro k3
   have hm3:Z9 y3 < Z9 e:=by rw [hy3];exact Jw hm1
   have ho2:=congrArg List.length o1
   simp only [List.length_append,List.length_map] at ho2
   refine ⟨⟨by dsimp only;omega,_,hro3⟩,by simp only [ZhM];omega,?_⟩
   refine Za (ι:=Int × List Edit) (fun j=> Z7s e i a j.1 e.kind e.old.kind e.old.words e.old.kids e.new.kind e.new.words e.new.kids e.words e.kids e.list e.ops b j.2) (fun j=> (0≤j.1∧j.1≤(Zk y3).length)∧j.2++((Zk y3).drop j.1.toNat).map (fun x=> Jq e.list a ⟨3,0,[],x⟩ (b - 1))=out++(Zk y3).map (fun x=> Jq e.list a ⟨3,0,[],x⟩ (b - 1))) (fun j=> (((Zk y3).length:Int) - j.1).toNat) (0,out) rfl ⟨⟨by dsimp only;omega,by dsimp only;omega⟩,by simp⟩ ?_
   rintro ⟨j,o2⟩ ⟨⟨j1,j2⟩,j3⟩
   dsimp only at j1 j2 j3
   refine ZrU _ _ _ _ _ _ _ _ _ _ _ _ _ _ _ _ _ _ _ _ _ ?_
   rintro x1 hx1 x2 hx2 x3 hx3
   have ex:x2=y3:=by rw [hx2,hy3,hx1,hy1]
   subst ex
   (simp only [vcT,vcS])
   have hl3:=congrArg List.length j3
   simp only [List.length_append,List.length_map,List.length_drop] at hl3
   refine ⟨fun hj=> ⟨⟨j1,hj⟩,⟨by dsimp only;omega,by dsimp only;omega,by dsimp only;omega⟩,by unfold InR;omega,(j+1,o2++[Jq e.list a ⟨3,0,[],x3⟩ (b - 1)]),rfl,⟨⟨by dsimp only;omega,by dsimp only;omega⟩,?_⟩,by dsimp only;omega⟩,fun hj=> ⟨by unfold InR;omega,by unfold InR;omega,Z8B _ _ _ _ _ _ _ _ _ _ _ _ _ _ _ _ _ _ _ ⟨by unfold InR;omega,(i+1,a+1,b - 1,o2),rfl,⟨⟨by dsimp only;omega,by dsimp only;omega⟩,⟨by dsimp only;omega,by dsimp only;omega⟩,by dsimp only;omega,by dsimp only;omega,?_⟩,by dsimp only;omega⟩⟩⟩
   ·rw [Y3 j1 hj Edit.nil,List.map_cons,←hx3] at j3
    dsimp only
    rw [List.append_assoc];exact j3
   ·rw [List.drop_of_length_le (by omega),List.map_nil,List.append_nil] at j3
    dsimp only
    rw [j3,List.append_assoc];exact o1
 ·rw [List.drop_of_length_le (by omega),ZL,List.append_nil] at o1
  simp only [ZdY,←o1]
  (repeat' (first | exact trivial | exact rfl | apply And.intro))
theorem ZxS:Contract Tryz.prog cfg 73 Zdp∧Contract Tryz.prog cfg 113 ZmU:=ZlP ZqX ZBS b73 ZGa
end Go.AM.YtpjenobkibfpcaaGreat
namespace Go.AM.YtpjenobkibfpcaaGreat
open Go.AM Go.Proofs
theorem c24:Contract Tryz.prog cfg 24 Z5Q:=by
 refine ZAY Zir.1 ZxS.1 ?_
 intro e _ hp
 simp only [ZjK] at hp
 obtain ⟨hm,d,hr⟩:=hp
 refine ZFX _ _ ?_
 rintro y1 rfl y2 hy2
 have:=Z4w y1
 refine ⟨⟨by dsimp only;omega,d,hr⟩,⟨by rw [hy2];dsimp only;omega,d,by rw [hy2];exact Jo _ _ hr⟩,?_⟩
 simp only [Zsq,hy2]
 (repeat' (first | exact trivial | exact rfl | apply And.intro))
theorem ZoN:∀ l:List Edit,l.length≤ctL l
 | []=> Nat.le_refl _
 | e ::r=> by have:=ZoN r;have:=Zbs e;simp only [ctL,List.length_cons];omega
theorem ZxR{p q:Edit}(hp:Z1f p)(hq:Z1f q)(h:(Z2z p q).2=true)(hs:ctE p+ctE q≤9000000000):Z1f (Z2z p q).1∧ctE (Z2z p q).1+18≤ctE p+ctE q:=by
 have F:=ZgK hp hq
 unfold Z2z at h ⊢
 split at h
 ·rename_i hc
  rw [if_pos hc]
  have w:=F.wk hc
  have c:=F.ct trivial hc
  have n:=Zbr (Yt p q).1
  dsimp only
  exact ⟨⟨by omega,Z2L _ _ w.r w.g,_,Jo _ _ w.r⟩,by omega⟩
 ·cases h
theorem c20:Contract Tryz.prog cfg 20 Zdz:=by
 refine ZB0 c71 Zir.1 ?_
 intro l _ hp
 simp only [Znu] at hp
 obtain ⟨hx,hc⟩:=hp
 have hll:=ZoN l
 refine ZFZ _ _ ?_
 (simp only [vcT,vcS])
 refine Za (ι:=Int × Edit) (fun j=> Zak l j.1 j.2.kind j.2.old.kind j.2.new.kind j.2.list j.2.old.words j.2.old.kids j.2.new.words j.2.new.kids j.2.words j.2.kids j.2.ops) (fun j=> (0≤j.1∧j.1≤l.length)∧(Z1f j.2∧ctE j.2+ctL (l.drop j.1.toNat)≤8000000018)∧Z7T (l.drop j.1.toNat) j.2=Z7T l Edit.nil) (fun j=> ((l.length:Int) - j.1).toNat) (0,Edit.nil) rfl ⟨⟨by dsimp only;omega,by dsimp only;omega⟩,⟨ZsY,by
   have:ctE Edit.nil=18:=by simp [ctE,Z0L,J7,Edit.nil,Tree.nil,Zu,Zh]
   simp only [List.drop_zero,Int.toNat_zero];omega⟩,by simp⟩ ?_
 rintro ⟨i,x⟩ ⟨⟨i1,i2⟩,⟨x1,x2⟩,x3⟩
 dsimp only at i1 i2 x1 x2 x3
 refine Zw1 _ _ _ _ _ _ _ _ _ _ _ _ _ _ _ ?_
 rintro y1 hy1 y2 hy2 y3 rfl
 dsimp only at hy2
 have e2:y2=x:=by rw [hy2];obtain ⟨k,⟨_,_,_⟩,⟨_,_,_⟩,w,ks,l,os⟩:=x;rfl
 subst e2
 (simp only [vcT,vcS])
 refine ⟨fun hi=> ?_,fun hi=> ?_⟩
 ·have hd:=Y3 i1 hi Edit.nil
  rw [←hy1] at hd
  have hm:y3∈l:=by rw [hy1];exact Zi (by omega) _
  rw [hd,ctL] at x2
  rw [hd,Z7T] at x3
  refine ⟨⟨i1,hi⟩,⟨x1,hx _ hm⟩,fun hc=> ?_,fun hc=> ⟨by unfold InR;omega,(i+1,(Z2z y2 y3).1),rfl,⟨⟨by dsimp only;omega,by dsimp only;omega⟩,?_,?_⟩,by dsimp only;omega⟩⟩
  ·rw [if_neg (by rw [hc];decide)] at x3
   have:Z4B l=(Edit.nil,false):=by rw [Z4B,if_neg];rw [←x3];decide
   simp only [Zng,this]
   (repeat' (first | exact trivial | exact rfl | apply And.intro))
  ·have:=ZxR x1 (hx _ hm) hc (by omega)
   exact ⟨this.1,by dsimp only;omega⟩
  ·rw [if_pos hc] at x3
   exact x3
 ·rw [List.drop_of_length_le (by omega),Z7T] at x3
  have hm:=ZaN x1
  refine ⟨⟨by dsimp only;omega,x1.2.2⟩,?_⟩
  have:Z4B l=(Zv y2,true):=by rw [Z4B,←x3];try rfl
  simp only [Zng,this]
  (repeat' (first | exact trivial | exact rfl | apply And.intro))
theorem c70:Contract Tryz.prog cfg 70 Zdr:=by
 refine ZAO ?_
 intro n _ hp
 refine ZFK _ _ ?_
 (simp only [vcT,vcS])
 simp only [Zsm]
 (repeat' (first | exact trivial | exact rfl | apply And.intro))
def at1(n:Int):Tree:= .mk 10 [n] []
def sp0:Edit:= .mk 3 Tree.nil Tree.nil [] [] 4 [⟨1,0,[at1 1],Edit.nil⟩,⟨0,1,[],Edit.nil⟩,⟨2,0,[at1 2],Edit.nil⟩]
def sp1:Edit:= .mk 3 Tree.nil Tree.nil [] [] 4 [⟨1,0,[at1 1],Edit.nil⟩,⟨0,1,[],Edit.nil⟩]
def sp2:Edit:= .mk 3 Tree.nil Tree.nil [] [] 4 [⟨0,1,[],Edit.nil⟩,⟨2,0,[at1 2],Edit.nil⟩]
theorem Zsa:Zk (Zv sp0)=[sp1,sp2]:=by kernel_rfl
theorem ZpZ:Z2 sp0 64=true:=by kernel_rfl
theorem ZfT:Z2 sp1 64=true:=by kernel_rfl
theorem ZfS:Z2 sp2 64=true:=by kernel_rfl
theorem Zwb:Z2z Edit.nil sp1=(sp1,true):=by
 have hc:Yt Edit.nil sp1=(sp1,true):=by
  unfold Yt
  rw [show Z9 Edit.nil+Z9 sp1=(Z9 sp1+2)+1 by rw [Zgv];omega,ZfA,JW,if_pos (by rfl)]
 unfold Z2z
 rw [hc,if_pos rfl]
 have:Zv sp1=sp1:=by kernel_rfl
 dsimp only
 rw [this]
theorem Zwa:Z2z sp1 sp2=(sp0,true):=by
 have hp:Yk 1 2 sp1.ops sp2.ops []=([⟨1,⟨1,0,[at1 1],Edit.nil⟩,Op.nil⟩,⟨0,⟨0,1,[],Edit.nil⟩,⟨0,1,[],Edit.nil⟩⟩,⟨2,Op.nil,⟨2,0,[at1 2],Edit.nil⟩⟩],true,[],[]):=by
  rw [show sp1.ops=[⟨1,0,[at1 1],Edit.nil⟩,⟨0,1,[],Edit.nil⟩] from rfl,show sp2.ops=[⟨0,1,[],Edit.nil⟩,⟨2,0,[at1 2],Edit.nil⟩] from rfl]
  rw [Yk,dif_pos (by simp [sgl])]
  simp only [List.drop_succ_cons,List.drop_zero,List.nil_append,List.getD_cons_zero]
  rw [Yk,dif_neg (by simp [sgl]),dif_neg (by simp [sgl]),dif_neg (by simp)]
  simp [ZY,Yi,Z3]
  rw [Yk,dif_neg (by simp [sgl]),dif_pos (by simp [sgl])]
  simp only [List.drop_succ_cons,List.drop_zero,List.getD_cons_zero]
  rw [Yk,dif_neg (by simp [sgl]),dif_neg (by simp [sgl]),dif_pos (by simp)]
  simp
 have hc:Yt sp1 sp2=(sp0,true):=by
  rw [ZgM ZfT ZfS]
  have hco:Z2g Yt sp1.ops sp2.ops=some sp0.ops:=by
   unfold Z2g
   rw [hp,if_pos rfl]
   rw [Z1b,show Jl Yt ⟨1,⟨1,0,[at1 1],Edit.nil⟩,Op.nil⟩=⟨⟨1,0,[at1 1],Edit.nil⟩,true,true⟩ by unfold Jl;rw [if_pos (by simp)],if_pos rfl,Z1b,
    show Jl Yt ⟨0,⟨0,1,[],Edit.nil⟩,⟨0,1,[],Edit.nil⟩⟩=⟨⟨0,1,[],Edit.nil⟩,true,true⟩ by unfold Jl;rw [if_pos (by simp)],if_pos rfl,Z1b,
    show Jl Yt ⟨2,Op.nil,⟨2,0,[at1 2],Edit.nil⟩⟩=⟨⟨2,0,[at1 2],Edit.nil⟩,true,true⟩ by unfold Jl;rw [if_neg (by simp),if_pos (by simp)],if_pos rfl,Z1b]
   try rfl
  unfold JW
  rw [if_neg (show ¬sp1.kind=0 by decide),if_neg (show ¬sp2.kind=0 by decide),if_neg (show ¬sp1.kind=1 by decide),if_neg (show ¬sp2.kind=1 by decide),if_neg (show ¬(sp1.kind≠sp2.kind∨sp1.list≠sp2.list) by decide),if_neg (show ¬sp1.kind=2 by decide),hco]
  try rfl
 unfold Z2z
 rw [hc,if_pos rfl]
 have:Zv sp0=sp0:=by kernel_rfl
 dsimp only
 rw [this]
theorem Zw9:Z4B [sp1,sp2]=(sp0,true):=by
 rw [Z4B,Z7T,Zwb,if_pos rfl,Z7T,Zwa,if_pos rfl,Z7T,if_pos rfl]
 have:Zv sp0=sp0:=by kernel_rfl
 dsimp only
 rw [this]
theorem Zs9(l:List Op)(h:∀ o∈l,Yz o):YI (.mk 3 Tree.nil Tree.nil [] [] 4 l):=⟨by unfold isI;omega,Z1V,Z1V,by simp,by unfold isI;omega,trivial,ZaK h⟩
theorem ZAl:Yz ⟨1,0,[at1 1],Edit.nil⟩∧Yz ⟨0,1,[],Edit.nil⟩∧Yz ⟨2,0,[at1 2],Edit.nil⟩:=by
 have ha:∀ n:Int,n=1∨n=2→rng (at1 n):=fun n h=> ⟨by decide,by intro x hx;rw [List.mem_singleton.1 hx];omega,trivial⟩
 exact ⟨⟨by unfold isI;omega,by unfold isI;omega,⟨ha 1 (.inl rfl),trivial⟩,Z9f⟩,⟨by unfold isI;omega,by unfold isI;omega,trivial,Z9f⟩,⟨by unfold isI;omega,by unfold isI;omega,⟨ha 2 (.inr rfl),trivial⟩,Z9f⟩⟩
theorem Zzi:Z1f sp1∧Z1f sp2:=by
 obtain ⟨h1,h2,h3⟩:=ZAl
 refine ⟨⟨?_,Zs9 _ (by simp only [List.mem_cons,List.not_mem_nil,or_false];rintro o (rfl | rfl);exact h1;exact h2),64,ZfT⟩,?_,Zs9 _ (by simp only [List.mem_cons,List.not_mem_nil,or_false];rintro o (rfl | rfl);exact h2;exact h3),64,ZfS⟩
 ·show ctE sp1≤9000000000;simp [sp1,at1,ctE,Z0L,J7,Z3t,Zu,Zh,Tree.nil,Edit.nil]
 ·show ctE sp2≤9000000000;simp [sp2,at1,ctE,Z0L,J7,Z3t,Zu,Zh,Tree.nil,Edit.nil]
theorem c19:Contract Tryz.prog cfg 19 ZdA:=by
 refine ZB1 c24 c70 c20 ?_
 intro _ _
 refine ZG0 _ ?_
 rintro y1 h1 y2 h2 y3 h3 y4 h4 y5 h5
 have e1:y1=Edit.nil:=h1
 subst e1
 have e2:y2=sp0:=h2
 subst e2
 simp only [Zsa] at h3 h4 ⊢
 have e3:y3=sp1:=h3
 have e4:y4=sp2:=h4
 subst e3 e4
 have e5:y5=⟨0,1,[],Edit.nil⟩:=h5
 subst e5
 simp only [Zw9]
 (simp only [vcT,vcS])
 refine ⟨trivial,trivial,⟨?_,64,ZpZ⟩,⟨?_,?_⟩,fun _=> ⟨by decide,by simp⟩,fun _=> ⟨by decide,by simp⟩,fun _=> ⟨by decide,by simp [sp2]⟩,fun _=> ⟨by decide,by simp [sp0]⟩,Z5 rfl ?_⟩
 ·show Z9 sp0≤1000000
  rw [show Z9 sp0=19 by kernel_rfl];decide
 ·intro x hx
  simp only [List.mem_cons,List.not_mem_nil,or_false] at hx
  rcases hx with rfl | rfl
  ·exact Zzi.1
  ·exact Zzi.2
 ·show ctL [sp1,sp2]≤8000000000
  simp [ctL,sp1,sp2,at1,ctE,Z0L,J7,Z3t,Zu,Zh,Tree.nil,Edit.nil]
 ·kernel_rfl
end Go.AM.YtpjenobkibfpcaaGreat
namespace Go.AM.YtpjenobkibfpcaaGreat
open Go.AM Go.Proofs
noncomputable section
def Zps:ArgL (Int × Int × Op × Int × Unit):=(.cons (YG .i64) (.cons (YG .i64) (.cons (aEl .op) (.cons (YG .i64) .nil))))
def Zeg(a:Int × Int × Op × Int × Unit):Prop:=0≤a.2.1∧0≤a.2.2.2.1
def ZdX(a:Int × Int × Op × Int × Unit):V U:= .agg (enc .edit (Jq a.1 a.2.1 a.2.2.1 a.2.2.2.1))
def Z97:Fs U:=fs Zps (fun a=> [Zeg a]) ZdX
def Zpr:ArgL (List Op × Int × Unit):=(.cons (aSl .op) (.cons (YG .i64) .nil))
def Zef(a:List Op × Int × Unit):Prop:=(∃ l d,∀ o∈a.1,Zc l o d=true)∧ZH a.1≤2000000∧Yf a.1≤2000000∧0≤a.2.1∧a.2.1≤(a.1).length∧(a.1).length≤1000000
def Zls(a:List Op × Int × Unit):V U:= .c (ci (Yf ((a.1).take (a.2.1).toNat)))
def Z96:Fs U:=fs Zpr (fun a=> [Zef a]) Zls
def Zpq:ArgL (List Op × Int × Unit):=(.cons (aSl .op) (.cons (YG .i64) .nil))
def Zee(a:List Op × Int × Unit):Prop:=(∃ l d,∀ o∈a.1,Zc l o d=true)∧ZH a.1≤2000000∧Yf a.1≤2000000∧0≤a.2.1∧a.2.1≤(a.1).length∧(a.1).length≤1000000
def Zlr(a:List Op × Int × Unit):V U:= .c (ci (ZH ((a.1).drop (a.2.1).toNat)))
def Z95:Fs U:=fs Zpq (fun a=> [Zee a]) Zlr
def Zmq:ArgL (Edit × Unit):=(.cons (aEl .edit) .nil)
def ZbU(a:Edit × Unit):Prop:=Z9 a.1≤1000000∧∃ d,Z2 a.1 d=true
def ZhL(a:Edit × Unit):Nat:=Z9 a.1
def Zg9(a:Edit × Unit):V U:= .c (sU .edit (Zk a.1) .unk)
def Zdn:Fs U:=fs Zmq (fun a=> [ZbU a]) Zg9
def Zv6:ArgL (Edit × Unit):=(.cons (aEl .edit) .nil)
def Znt(a:Edit × Unit):Prop:=Z9 a.1≤1000000∧∃ d,Z2 a.1 d=true
def Zsp(a:Edit × Unit):V U:= .c (sU .edit (Zk (Zv a.1)) .unk)
def Zdx:Fs U:=fs Zv6 (fun a=> [Znt a]) Zsp
def ZoD:List (FuncId × Fs U):=[]
def Zu9:Zj U:=fun i=> match i with
 | 0=> ([(0,[]),(1,[]),(3,[]),(6,[]),(8,[])],[(.loc 6,[]),(.loc 8,[])])
 | 1=> ([(1,[]),(3,[]),(6,[]),(8,[]),(9,[])],[(.loc 6,[]),(.loc 8,[]),(.loc 9,[])])
 | 2=> ([(1,[]),(3,[]),(6,[]),(8,[]),(9,[]),(13,[])],[(.loc 6,[]),(.loc 8,[]),(.loc 9,[.any,.any,.any,.any,.any,.any,.any,.any,.any,.any,.own .op])])
 | 3=> ([(1,[]),(3,[]),(6,[]),(8,[]),(9,[]),(13,[])],[(.loc 6,[]),(.loc 8,[]),(.loc 9,[.any,.any,.any,.any,.any,.any,.any,.any,.any,.any,.own .op])])
 | 4=> ([(3,[]),(8,[]),(9,[])],[(.loc 8,[]),(.loc 9,[])])
 | 5=> ([(3,[]),(8,[]),(9,[]),(28,[])],[(.loc 8,[]),(.loc 9,[])])
 | 6=> ([(3,[]),(8,[]),(9,[]),(28,[])],[(.loc 8,[]),(.loc 9,[])])
 | 7=> ([(8,[])],[(.loc 8,[])])
 | _=> ([],[])
def Z7k(list a:Int)(o:Op)(b:Int)(ml9_10:List Op):LSt U:=(L2 [(1,.c (ci a)),(3,.c (ci b)),(6,.ptr (.loc 6) 0),(8,.ptr (.loc 8) 0),(9,.ptr (.loc 9) 0),(13,.c (.bool (decide ((0:Int) < a))))] [(.loc 6,(enc .op o)),(.loc 8,zc1),(.loc 9,[ci 3,ci 0,.nils,.nils,ci 0,.nils,.nils,.nils,.nils,ci list,sU .op ml9_10 (.own (.l 9 10))])])
def Zbm(list a:Int)(o:Op)(b:Int)(ml9_10_a:List Op):LSt U:=(L2 [(3,.c (ci b)),(8,.ptr (.loc 8) 0),(9,.ptr (.loc 9) 0),(28,.c (.bool (decide ((0:Int) < b))))] [(.loc 8,zc1),(.loc 9,[ci 3,ci 0,.nils,.nils,ci 0,.nils,.nils,.nils,.nils,ci list,sU .op ml9_10_a (.own (.l 9 10))])])
abbrev ZkW(p:List Nat):=AW (Z0 ZoD) Tryz.f118 Zu9 p
theorem ZEb(list a:Int)(o:Op)(b:Int)(Q:QT)(h:let z0:=Edit.mk 0 (Tree.mk 0 [] []) (Tree.mk 0 [] []) [] [] 0 [];(((decide ((0:Int) < a))=true→((([]:List Op).length+([(OpOf.mk 0 a [] z0)]).length)*240≤140737488355328)∧(ZkW [1,1,1] (Z7k list a o b (([]:List Op)++([(OpOf.mk 0 a [] z0)]))) Q))∧((decide ((0:Int) < a))=false→ZkW [1,1,1] (Z7k list a o b []) Q))):
  ZkW [] (L2 [(0,.c (ci list)),(1,.c (ci a)),(2,.agg (enc .op o)),(3,.c (ci b))] []) Q:=
 Eq.mpr (by kernel_rfl) h
theorem ZrL(list a:Int)(o:Op)(b:Int)(ml9_10:List Op)(Q:QT)(h:∀ y_1,y_1=o→let z0:=Edit.mk 0 (Tree.mk 0 [] []) (Tree.mk 0 [] []) [] [] 0 [];((ml9_10.length+([y_1]).length)*240≤140737488355328)∧(((decide ((0:Int) < b))=true→(((ml9_10++([y_1])).length+([(OpOf.mk 0 b [] z0)]).length)*240≤140737488355328)∧(ZkW [1,1,1,1,1] (Zbm list a o b ((ml9_10++([y_1]))++([(OpOf.mk 0 b [] z0)]))) Q))∧((decide ((0:Int) < b))=false→ZkW [1,1,1,1,1] (Zbm list a o b (ml9_10++([y_1]))) Q))):
  ZkW [1,1,1] (Z7k list a o b ml9_10) Q:=
 Eq.mpr (by kernel_rfl) (h _ (YX _))
theorem ZiV(list a:Int)(o:Op)(b:Int)(ml9_10_a:List Op)(Q:QT)(h:(Q .ret (L2 [(8,.ptr (.loc 8) 0)] [(.loc 8,[ci 3,ci 0,.nils,.nils,ci 0,.nils,.nils,.nils,.nils,ci list,sU .op ml9_10_a (.own (.l 8 10))])]))):
  ZkW [1,1,1,1,1] (Zbm list a o b ml9_10_a) Q:=
 Eq.mpr (by kernel_rfl) h
def Zz6(list a:Int)(o:Op)(b:Int):Prop:=AW (Z0 ZoD) Tryz.f118 Zu9 [] (Zl (Zps.can (list,a,o,b,())) []) (EQ Tryz.f118 (ZdX (list,a,o,b,())) [])
theorem Zxg(hb:∀ (list:Int) (a:Int) (o:Op) (b:Int) (_:Unit),Zeg (list,a,o,b,())→Zz6 list a o b):CT 118 Z97:=
 Z4 (l:=[]) Zo rfl trivial Zu9 Tryz.func118 rfl rfl 4 (fun _=> rfl) (by decide) (fun ⟨list,a,o,b,_⟩=> hb list a o b ())
def Zi8:List (FuncId × Fs U):=[]
def ZnZ:Zj U:=lvl [([0,1],[]),([0,1,5],[]),([0,1,5,6],[]),([0,1,5,6,9],[]),([0,1,5,6],[]),([0,1,5,6,16],[]),([0,1,5,6,16,17],[]),([0,1,5,6],[]),([0,1,5,6,16,26],[]),([0,1,5,6],[]),([0,1,5,6,36],[]),([0,1,5,6],[]),([4],[])]
def Z1x(l:List Op)(to x5 x6:Int):LSt U:=(L2 [(0,.c (sU .op l .unk)),(1,.c (ci to)),(5,.c (ci x5)),(6,.c (ci x6))] [])
abbrev ZD9(p:List Nat):=AW (Z0 Zi8) Tryz.f119 ZnZ p
abbrev ZFl(p:List Nat):=SW (Z0 Zi8) Tryz.f119 ZnZ p
theorem ZEa(l:List Op)(to:Int)(Q:QT)(h:(Zf (ZD9 [1,1,0,1,0,0]) (Z1x l to 0 0) (xB 0 (ZFl [1,1,1] Q)))):
  ZD9 [] (L2 [(0,.c (sU .op l .unk)),(1,.c (ci to))] []) Q:=
 Eq.mpr (by kernel_rfl) h
theorem ZrK(l:List Op)(to x5 x6:Int)(N0:NT)(Q:QT)(h:let z0:=l.getD x6.toNat Op.nil;(((decide (x6 < to))=true→((0:Int)≤x6∧x6 < (l.length:Int))∧(((((OpOf.kind z0):Int)==0)=true→((0:Int)≤x6∧x6 < (l.length:Int))∧(InR (x5+(OpOf.n z0)))∧((InR (x6+1))∧(N0 (Z1x l to (x5+(OpOf.n z0)) (x6+1)))))∧((((OpOf.kind z0):Int)==0)=false→(((((OpOf.kind z0):Int)==2)=true→((0:Int)≤x6∧x6 < (l.length:Int))∧(InR (x5+((OpOf.l z0).length:Int)))∧((InR (x6+1))∧(N0 (Z1x l to (x5+((OpOf.l z0).length:Int)) (x6+1)))))∧((((OpOf.kind z0):Int)==2)=false→(((((OpOf.kind z0):Int)==3)=true→(InR (x5+1))∧((InR (x6+1))∧(N0 (Z1x l to (x5+1) (x6+1)))))∧((((OpOf.kind z0):Int)==3)=false→(InR (x6+1))∧(N0 (Z1x l to x5 (x6+1))))))))))∧((decide (x6 < to))=false→(Q .ret (L2 [(4,.c (ci x5))] []))))):
  ZD9 [1,1,0,1,0,0] (Z1x l to x5 x6) (xT N0 (xB 0 (ZFl [1,1,1] Q))):=
 Eq.mpr (by kernel_rfl) h
def Zz5(l:List Op)(to:Int):Prop:=AW (Z0 Zi8) Tryz.f119 ZnZ [] (Zl (Zpr.can (l,to,())) []) (EQ Tryz.f119 (Zls (l,to,())) [])
theorem Zxf(hb:∀ (l:List Op) (to:Int) (_:Unit),Zef (l,to,())→Zz5 l to):CT 119 Z96:=
 Z4 (l:=[]) Zo rfl trivial ZnZ Tryz.func119 rfl rfl 2 (fun _=> rfl) (by decide) (fun ⟨l,to,_⟩=> hb l to ())
def Zi7:List (FuncId × Fs U):=[]
def ZnY:Zj U:=lvl [([0,1],[]),([0,1,5],[]),([0,5,6],[]),([0,5,6,11],[]),([0,5,6],[]),([0,5,6,18],[]),([0,5,6,18,19],[]),([0,5,6],[]),([0,5,6,18,28],[]),([0,5,6],[]),([0,5,6,38],[]),([0,5,6],[]),([4],[])]
def Z1w(l:List Op)(from_ x5 x6:Int):LSt U:=(L2 [(0,.c (sU .op l .unk)),(5,.c (ci x5)),(6,.c (ci x6))] [])
abbrev ZD8(p:List Nat):=AW (Z0 Zi7) Tryz.f120 ZnY p
abbrev ZFk(p:List Nat):=SW (Z0 Zi7) Tryz.f120 ZnY p
theorem ZE9(l:List Op)(from_:Int)(Q:QT)(h:(Zf (ZD8 [1,1,0,1,0,0]) (Z1w l from_ 0 from_) (xB 0 (ZFk [1,1,1] Q)))):
  ZD8 [] (L2 [(0,.c (sU .op l .unk)),(1,.c (ci from_))] []) Q:=
 Eq.mpr (by kernel_rfl) h
theorem ZrJ(l:List Op)(from_ x5 x6:Int)(N0:NT)(Q:QT)(h:let z1:=decide (x6 < (l.length:Int));let z0:=l.getD x6.toNat Op.nil;((z1=true→((0:Int)≤x6∧x6 < (l.length:Int))∧(((((OpOf.kind z0):Int)==0)=true→((0:Int)≤x6∧x6 < (l.length:Int))∧(InR (x5+(OpOf.n z0)))∧((InR (x6+1))∧(N0 (Z1w l from_ (x5+(OpOf.n z0)) (x6+1)))))∧((((OpOf.kind z0):Int)==0)=false→(((((OpOf.kind z0):Int)==1)=true→((0:Int)≤x6∧x6 < (l.length:Int))∧(InR (x5+((OpOf.l z0).length:Int)))∧((InR (x6+1))∧(N0 (Z1w l from_ (x5+((OpOf.l z0).length:Int)) (x6+1)))))∧((((OpOf.kind z0):Int)==1)=false→(((((OpOf.kind z0):Int)==3)=true→(InR (x5+1))∧((InR (x6+1))∧(N0 (Z1w l from_ (x5+1) (x6+1)))))∧((((OpOf.kind z0):Int)==3)=false→(InR (x6+1))∧(N0 (Z1w l from_ x5 (x6+1))))))))))∧(z1=false→(Q .ret (L2 [(4,.c (ci x5))] []))))):
  ZD8 [1,1,0,1,0,0] (Z1w l from_ x5 x6) (xT N0 (xB 0 (ZFk [1,1,1] Q))):=
 Eq.mpr (by kernel_rfl) h
def Zz4(l:List Op)(from_:Int):Prop:=AW (Z0 Zi7) Tryz.f120 ZnY [] (Zl (Zpq.can (l,from_,())) []) (EQ Tryz.f120 (Zlr (l,from_,())) [])
theorem Zxe(hb:∀ (l:List Op) (from_:Int) (_:Unit),Zee (l,from_,())→Zz4 l from_):CT 120 Z95:=
 Z4 (l:=[]) Zo rfl trivial ZnY Tryz.func120 rfl rfl 2 (fun _=> rfl) (by decide) (fun ⟨l,from_,_⟩=> hb l from_ ())
def Zm2(N:Nat):List (FuncId × Fs U):=(77,fs Zmq (fun a=> [ZbU a,ZhL a < N]) Zg9) ::[(118,Z97),(119,Z96),(120,Z95)]
def Zxp:Zj U:=fun i=> match i with
 | 0=> ([(1,[])],[(.loc 1,[])])
 | 1=> ([(1,[]),(3,[])],[(.loc 1,[])])
 | 2=> ([(1,[]),(3,[]),(14,[])],[(.loc 1,[])])
 | 3=> ([(2,[])],[])
 | 4=> ([(1,[]),(3,[.own .edit]),(4,[])],[(.loc 1,[])])
 | 5=> ([(1,[]),(3,[]),(4,[]),(19,[])],[(.loc 1,[])])
 | 6=> ([(1,[]),(3,[.own .edit]),(4,[])],[(.loc 1,[])])
 | 7=> ([(1,[]),(3,[]),(4,[])],[(.loc 1,[])])
 | 8=> ([(1,[]),(3,[]),(5,[])],[(.loc 1,[])])
 | 9=> ([(1,[]),(3,[]),(5,[]),(36,[])],[(.loc 1,[])])
 | 10=> ([(1,[]),(3,[]),(5,[])],[(.loc 1,[])])
 | 11=> ([(1,[]),(3,[]),(5,[]),(6,[])],[(.loc 1,[])])
 | 12=> ([(1,[]),(3,[.own .edit]),(5,[]),(6,[]),(7,[])],[(.loc 1,[])])
 | 13=> ([(1,[]),(3,[]),(5,[]),(6,[]),(7,[]),(49,[])],[(.loc 1,[])])
 | 14=> ([(1,[]),(3,[.own .edit]),(5,[]),(6,[]),(7,[])],[(.loc 1,[])])
 | 15=> ([(1,[]),(3,[]),(5,[]),(6,[]),(7,[])],[(.loc 1,[])])
 | 16=> ([(1,[]),(3,[.own .edit]),(8,[])],[(.loc 1,[])])
 | 17=> ([(1,[]),(3,[]),(8,[]),(72,[])],[(.loc 1,[])])
 | 18=> ([(1,[]),(3,[.own .edit]),(8,[])],[(.loc 1,[])])
 | 19=> ([(1,[]),(3,[]),(8,[]),(9,[])],[(.loc 1,[]),(.loc 9,[])])
 | 20=> ([(1,[]),(3,[]),(8,[]),(9,[]),(87,[])],[(.loc 1,[]),(.loc 9,[])])
 | 21=> ([(1,[]),(3,[]),(8,[]),(9,[])],[(.loc 1,[]),(.loc 9,[])])
 | 22=> ([(1,[]),(3,[]),(8,[]),(9,[]),(106,[])],[(.loc 1,[]),(.loc 9,[])])
 | 23=> ([(1,[]),(3,[]),(8,[]),(10,[])],[(.loc 1,[])])
 | 24=> ([(1,[]),(3,[.own .edit]),(8,[]),(10,[]),(11,[])],[(.loc 1,[])])
 | 25=> ([(1,[]),(3,[]),(8,[]),(10,[]),(11,[]),(113,[])],[(.loc 1,[])])
 | 26=> ([(1,[]),(3,[]),(8,[]),(10,[]),(11,[])],[(.loc 1,[])])
 | 27=> ([(1,[]),(3,[]),(8,[]),(10,[]),(11,[])],[(.loc 1,[])])
 | 28=> ([(1,[]),(3,[]),(138,[])],[(.loc 1,[])])
 | 29=> ([(2,[])],[])
 | 30=> ([(2,[])],[])
 | _=> ([],[])
def Za5(e:Edit)(x4:Int)(x3:List Edit):LSt U:=(L2 [(1,.ptr (.loc 1) 0),(3,.c (sU .edit x3 (.own (.e 3 0)))),(4,.c (ci x4))] [(.loc 1,(enc .edit e))])
def Za4(e:Edit)(x5_a:Int)(x3_a:List Edit):LSt U:=(L2 [(1,.ptr (.loc 1) 0),(3,.c (sU .edit x3_a (.own (.e 3 0)))),(5,.c (ci x5_a))] [(.loc 1,(enc .edit e))])
def Za3(e:Edit)(x5_a x7_b:Int)(x3_b:List Edit):LSt U:=(L2 [(1,.ptr (.loc 1) 0),(3,.c (sU .edit x3_b (.own (.e 3 0)))),(5,.c (ci x5_a)),(6,.c (sU .edit (Zk (Edit.mk (Edit.kind (KidOf.e (e.kids.getD x5_a.toNat (KidOf.mk 0 Edit.nil)))) (Tree.mk (Tree.kind (Edit.old (KidOf.e (e.kids.getD x5_a.toNat (KidOf.mk 0 Edit.nil))))) (Tree.words (Edit.old (KidOf.e (e.kids.getD x5_a.toNat (KidOf.mk 0 Edit.nil))))) (Tree.kids (Edit.old (KidOf.e (e.kids.getD x5_a.toNat (KidOf.mk 0 Edit.nil)))))) (Tree.mk (Tree.kind (Edit.new (KidOf.e (e.kids.getD x5_a.toNat (KidOf.mk 0 Edit.nil))))) (Tree.words (Edit.new (KidOf.e (e.kids.getD x5_a.toNat (KidOf.mk 0 Edit.nil))))) (Tree.kids (Edit.new (KidOf.e (e.kids.getD x5_a.toNat (KidOf.mk 0 Edit.nil)))))) (Edit.words (KidOf.e (e.kids.getD x5_a.toNat (KidOf.mk 0 Edit.nil)))) (Edit.kids (KidOf.e (e.kids.getD x5_a.toNat (KidOf.mk 0 Edit.nil)))) (Edit.list (KidOf.e (e.kids.getD x5_a.toNat (KidOf.mk 0 Edit.nil)))) (Edit.ops (KidOf.e (e.kids.getD x5_a.toNat (KidOf.mk 0 Edit.nil)))))) .unk)),(7,.c (ci x7_b))] [(.loc 1,(enc .edit e))])
def Z4C(e:Edit)(x8_c:Int)(x3_c:List Edit):LSt U:=(L2 [(1,.ptr (.loc 1) 0),(3,.c (sU .edit x3_c (.own (.e 3 0)))),(8,.c (ci x8_c))] [(.loc 1,(enc .edit e))])
def Z6u(e:Edit)(x8_c:Int)(x3_d:List Edit)(x11_d:Int):LSt U:=(L2 [(1,.ptr (.loc 1) 0),(3,.c (sU .edit x3_d (.own (.e 3 0)))),(8,.c (ci x8_c)),(10,.c (sU .edit (Zk (Edit.mk (Edit.kind (OpOf.e (e.ops.getD x8_c.toNat Op.nil))) (Tree.mk (Tree.kind (Edit.old (OpOf.e (e.ops.getD x8_c.toNat Op.nil)))) (Tree.words (Edit.old (OpOf.e (e.ops.getD x8_c.toNat Op.nil)))) (Tree.kids (Edit.old (OpOf.e (e.ops.getD x8_c.toNat Op.nil))))) (Tree.mk (Tree.kind (Edit.new (OpOf.e (e.ops.getD x8_c.toNat Op.nil)))) (Tree.words (Edit.new (OpOf.e (e.ops.getD x8_c.toNat Op.nil)))) (Tree.kids (Edit.new (OpOf.e (e.ops.getD x8_c.toNat Op.nil))))) (Edit.words (OpOf.e (e.ops.getD x8_c.toNat Op.nil))) (Edit.kids (OpOf.e (e.ops.getD x8_c.toNat Op.nil))) (Edit.list (OpOf.e (e.ops.getD x8_c.toNat Op.nil))) (Edit.ops (OpOf.e (e.ops.getD x8_c.toNat Op.nil))))) .unk)),(11,.c (ci x11_d))] [(.loc 1,(enc .edit e))])
abbrev A77(N:Nat)(p:List Nat):=AW (Z0 (Zm2 N)) Tryz.f77 Zxp p
abbrev S77(N:Nat)(p:List Nat):=SW (Z0 (Zm2 N)) Tryz.f77 Zxp p
theorem ZFE(N:Nat)(e:Edit)(Q:QT)(h:(((e.kind==0)=true→(Q .ret (L2 [(2,.c (.nils))] [])))∧((e.kind==0)=false→(Zf (A77 N [1,1,1,0,1,0,0]) (Za5 e 0 []) (xB 0 (S77 N [1,1,1,1] Q)))))):
  A77 N [] (L2 [(0,.agg (enc .edit e))] []) Q:=
 Eq.mpr (by kernel_rfl) h
theorem ZvG(N:Nat)(e:Edit)(x4:Int)(x3:List Edit)(N0:NT)(Q:QT)(h:let z2:=decide (x4 < (e.words.length:Int));let z1:=e.words.getD x4.toNat (WEdit.mk 0 0 0 0);let z0:=Edit.mk 2 (Tree.mk 0 [] []) (Tree.mk 0 [] []) ([(WEdit.mk (WEdit.at_ z1) (WEdit.mask z1) (WEdit.old z1) (WEdit.new z1))]) [] 0 [];((z2=true→((0:Int)≤x4∧x4 < (e.words.length:Int))∧((x3.length+([z0]).length)*200≤140737488355328)∧((InR (x4+1))∧(N0 (Za5 e (x4+1) (x3++([z0]))))))∧(z2=false→(Zf (A77 N [1,1,1,1,0,1,0,0]) (Za4 e 0 x3) (xB 2 (S77 N [1,1,1,1,1] Q)))))):
  A77 N [1,1,1,0,1,0,0] (Za5 e x4 x3) (xT N0 (xB 0 (S77 N [1,1,1,1] Q))):=
 Eq.mpr (by kernel_rfl) h
theorem ZvF(N:Nat)(e:Edit)(x5_a:Int)(x3_a:List Edit)(N1:NT)(Q:QT)(h:∀ y_1,y_1=(KidOf.e (e.kids.getD x5_a.toNat (KidOf.mk 0 Edit.nil)))→let z0:=decide (x5_a < (e.kids.length:Int));((z0=true→((0:Int)≤x5_a∧x5_a < (e.kids.length:Int))∧(ZbU (y_1,()))∧(ZhL (y_1,()) < N)∧(Zf (A77 N [1,1,1,1,0,1,0,0,1,0,0,1,1,0,0]) (Za3 e x5_a 0 x3_a) (xB 4 (xB 3 (S77 N [1,1,1,1,0,1,0,0,1,1] (xT N1 (xB 2 (S77 N [1,1,1,1,1] Q))))))))∧(z0=false→(Zf (A77 N [1,1,1,1,1,0,1,0,0]) (Z4C e 0 x3_a) (xB 6 (S77 N [1,1,1,1,1,1] Q)))))):
  A77 N [1,1,1,1,0,1,0,0] (Za4 e x5_a x3_a) (xT N1 (xB 2 (S77 N [1,1,1,1,1] Q))):=
 Eq.mpr (by kernel_rfl) (h _ (Z6 _))
theorem ZvE(N:Nat)(e:Edit)(x5_a x7_b:Int)(x3_b:List Edit)(N2 N1:NT)(Q:QT)(h:∀ y_1,y_1=(e.kids.getD x5_a.toNat (KidOf.mk 0 Edit.nil))→∀ y_2,y_2=(y_1.e)→∀ y_3,y_3=(List.getD (Zk y_2) x7_b.toNat Edit.nil)→let z1:=decide (x7_b < ((Zk y_2).length:Int));let z0:=Edit.mk 2 (Tree.mk 0 [] []) (Tree.mk 0 [] []) [] ([(KidOf.mk y_1.at_ y_3)]) 0 [];((z1=true→((0:Int)≤x5_a∧x5_a < (e.kids.length:Int))∧((0:Int)≤x7_b∧x7_b < ((Zk y_2).length:Int))∧((x3_b.length+([z0]).length)*200≤140737488355328)∧((InR (x7_b+1))∧(N2 (Za3 e x5_a (x7_b+1) (x3_b++([z0]))))))∧(z1=false→(InR (x5_a+1))∧(N1 (Za4 e (x5_a+1) x3_b))))):
  A77 N [1,1,1,1,0,1,0,0,1,0,0,1,1,0,0] (Za3 e x5_a x7_b x3_b) (xT N2 (xB 4 (xB 3 (S77 N [1,1,1,1,0,1,0,0,1,1] (xT N1 (xB 2 (S77 N [1,1,1,1,1] Q))))))):=
 Eq.mpr (by kernel_rfl) (h _ rfl _ (Z6 _) _ (Z6 _))
theorem ZvD(N:Nat)(e:Edit)(x8_c:Int)(x3_c:List Edit)(N3:NT)(Q:QT)(h:∀ y_1,y_1=e→∀ y_2,y_2=(e.ops.getD x8_c.toNat Op.nil)→∀ y_3,y_3=y_2→∀ y_4,y_4=(y_2.e)→∀ y_5,y_5=(Jq e.list (Yf ((e.ops).take x8_c.toNat)) y_3 (ZH ((e.ops).drop (x8_c+1).toNat)))→∀ y_6,y_6=y_5→let z5:= !(y_2.kind==1);let z4:=((x3_c.length:Int):Int)==0;let z3:=decide (x8_c < (e.ops.length:Int));let z2:=bif (y_2.kind==1) then true else (y_2.kind==2);let z1:=A77 N [1,1,1,1,1,0,1,0,0,1,0,0,1,1,1,0,1,1,0,0];let z0:=xB 8 (xB 7 (S77 N [1,1,1,1,1,0,1,0,0,1,1] (xT N3 (xB 6 (S77 N [1,1,1,1,1,1] Q)))));((z3=true→((0:Int)≤x8_c∧x8_c < (e.ops.length:Int))∧((Tr (z5=true))∧(Tr (z5=true))∧((y_2.kind==1)=false→z5=true)∧((z2=true→(Zef (e.ops,x8_c,()))∧(InR (x8_c+1))∧(Zee (e.ops,(x8_c+1),()))∧(Zeg (e.list,(Yf ((e.ops).take x8_c.toNat)),y_3,(ZH ((e.ops).drop (x8_c+1).toNat)),()))∧((x3_c.length+([y_6]).length)*200≤140737488355328)∧(((y_2.kind==3)=true→(ZbU (y_4,()))∧(ZhL (y_4,()) < N)∧(Zf z1 (Z6u e x8_c (x3_c++([y_6])) 0) z0))∧((y_2.kind==3)=false→(InR (x8_c+1))∧(N3 (Z4C e (x8_c+1) (x3_c++([y_6])))))))∧(z2=false→(((y_2.kind==3)=true→(ZbU (y_4,()))∧(ZhL (y_4,()) < N)∧(Zf z1 (Z6u e x8_c x3_c 0) z0))∧((y_2.kind==3)=false→(InR (x8_c+1))∧(N3 (Z4C e (x8_c+1) x3_c))))))))∧(z3=false→((z4=true→(Q .ret (L2 [(2,.c (sU .edit ([y_1]) .full))] [])))∧(z4=false→(Q .ret (L2 [(2,.c (sU .edit x3_c (.own (.e 2 0))))] []))))))):
  A77 N [1,1,1,1,1,0,1,0,0] (Z4C e x8_c x3_c) (xT N3 (xB 6 (S77 N [1,1,1,1,1,1] Q))):=
 Eq.mpr (by kernel_rfl) (h _ (Z6 _) _ rfl _ (YX _) _ (Z6 _) _ rfl _ (Z6 _))
theorem ZvC(N:Nat)(e:Edit)(x8_c:Int)(x3_d:List Edit)(x11_d:Int)(N4 N3:NT)(Q:QT)(h:∀ y_1,y_1=(e.ops.getD x8_c.toNat Op.nil)→∀ y_2,y_2=(y_1.e)→∀ y_3,y_3=(List.getD (Zk y_2) x11_d.toNat Edit.nil)→∀ y_4,y_4=y_3→∀ y_5,y_5=(Jq e.list (Yf ((e.ops).take x8_c.toNat)) (OpOf.mk 3 0 [] y_4) (ZH ((e.ops).drop (x8_c+1).toNat)))→let z0:=decide (x11_d < ((Zk y_2).length:Int));((z0=true→(Zef (e.ops,x8_c,()))∧((0:Int)≤x11_d∧x11_d < ((Zk y_2).length:Int))∧(InR (x8_c+1))∧(Zee (e.ops,(x8_c+1),()))∧(Zeg (e.list,(Yf ((e.ops).take x8_c.toNat)),(OpOf.mk 3 0 [] y_4),(ZH ((e.ops).drop (x8_c+1).toNat)),()))∧((x3_d.length+([y_5]).length)*200≤140737488355328)∧((InR (x11_d+1))∧(N4 (Z6u e x8_c (x3_d++([y_5])) (x11_d+1)))))∧(z0=false→(InR (x8_c+1))∧(N3 (Z4C e (x8_c+1) x3_d))))):
  A77 N [1,1,1,1,1,0,1,0,0,1,0,0,1,1,1,0,1,1,0,0] (Z6u e x8_c x3_d x11_d) (xT N4 (xB 8 (xB 7 (S77 N [1,1,1,1,1,0,1,0,0,1,1] (xT N3 (xB 6 (S77 N [1,1,1,1,1,1] Q))))))):=
 Eq.mpr (by kernel_rfl) (h _ rfl _ (Z6 _) _ rfl _ (Z6 _) _ (Z6 _))
def ZCy(N:Nat)(e:Edit):Prop:=AW (Z0 (Zm2 N)) Tryz.f77 Zxp [] (Zl (Zmq.can (e,())) []) (EQ Tryz.f77 (Zg9 (e,())) [])
theorem ZAK(ZC5:CT 118 Z97)(ZC4:CT 119 Z96)(ZC3:CT 120 Z95)(hb:∀ (N:Nat) (e:Edit) (_:Unit),ZbU (e,())→ZhL (e,()) < N+1→ZCy N e):CT 77 Zdn:=
 Yo (μ:=ZhL) (l:=[(118,Z97),(119,Z96),(120,Z95)]) Zo rfl (⟨ZC5,ZC4,ZC3,trivial⟩) Zxp Tryz.func77 rfl rfl 1 (fun _=> rfl) (by decide) (fun N ⟨e,_⟩=> hb N e ())
def Zur:List (FuncId × Fs U):=[(29,Z5O),(77,Zdn)]
def ZBc:Zj U:=lvl [([1],[1]),([2],[])]
abbrev A27(p:List Nat):=AW (Z0 Zur) Tryz.f27 ZBc p
theorem ZFU(e:Edit)(Q:QT)(h:∀ y_1,y_1=e→∀ y_2,y_2=(Zv y_1)→((Z4q (y_1,()))∧(ZbU (y_2,()))∧(Q .ret (L2 [(2,.c (sU .edit (Zk y_2) .unk))] [])))):
  A27 [] (L2 [(0,.agg (enc .edit e))] []) Q:=
 Eq.mpr (by kernel_rfl) (h _ (Z6 _) _ (Z6 _))
def ZCO(e:Edit):Prop:=AW (Z0 Zur) Tryz.f27 ZBc [] (Zl (Zv6.can (e,())) []) (EQ Tryz.f27 (Zsp (e,())) [])
theorem ZAV(c29:CT 29 Z5O)(c77:CT 77 Zdn)(hb:∀ (e:Edit) (_:Unit),Znt (e,())→ZCO e):CT 27 Zdx:=
 Z4 (l:=[(29,Z5O),(77,Zdn)]) Zo rfl (⟨c29,c77,trivial⟩) ZBc Tryz.func27 rfl rfl 1 (fun _=> rfl) (by decide) (fun ⟨e,_⟩=> hb e ())
end
end Go.AM.YtpjenobkibfpcaaGreat
namespace Go.AM.YtpjenobkibfpcaaGreat
open Go.AM Go.Proofs
noncomputable section
def ZzM:ArgL (Edit × Unit):=(.cons (aEl .edit) .nil)
def Zwj(a:Edit × Unit):Prop:=Z40 a.1∧YI a.1
def Zwe(a:Edit × Unit):V U:= .c (.bool true)
def ZmI:Fs U:=fs ZzM (fun a=> [Zwj a]) Zwe
def Zuo:List (FuncId × Fs U):=[(14,ZdC),(18,ZdB),(19,ZdA),(22,Zdy),(24,Z5Q),(27,Zdx),(28,Zdw),(29,Z5O)]
def lv5:Zj U:=lvl [([1],[1]),([1,13],[1]),([2],[]),([3,4],[]),([3,4,23],[]),([2],[]),([3,4,5],[]),([3,4,5,27],[]),([3,4,5],[]),([3,4,5,60],[]),([2],[]),([2],[])]
def ZcS(e:Edit)(x5:Int):LSt U:=(L2 [(3,.c (sU .edit (Zk (Zv (Edit.mk e.kind (Tree.mk e.old.kind e.old.words e.old.kids) (Tree.mk e.new.kind e.new.words e.new.kids) e.words e.kids e.list e.ops))) .unk)),(4,.c (sU .edit (Zk (Zv (Edit.mk e.kind (Tree.mk e.old.kind e.old.words e.old.kids) (Tree.mk e.new.kind e.new.words e.new.kids) e.words e.kids e.list e.ops))) .unk)),(5,.c (ci x5))] [])
abbrev A5(p:List Nat):=AW (Z0 Zuo) Tryz.f5 lv5 p
abbrev S5(p:List Nat):=SW (Z0 Zuo) Tryz.f5 lv5 p
theorem vc5(e:Edit)(Q:QT)(h:∀ y_1,y_1=e→let z1:=bif (!(Z0J y_1)) then true else (decide ((200:Int) < (Jc y_1)));let z0:=(((Zk (Zv y_1)).length:Int):Int) !=((Zk (Zv y_1)).length:Int);((Znw (y_1,()))∧(Tr ((!(!(Z0J y_1)))=true))∧((!(!(Z0J y_1)))=true→Z66 (y_1,()))∧(Tr ((!(!(Z0J y_1)))=true))∧((!(Z0J y_1))=false→(!(!(Z0J y_1)))=true)∧((z1=true→(Znv ())∧(Q .ret (L2 [(2,.c (.bool true))] [])))∧(z1=false→(ZjK (y_1,()))∧(Znt (y_1,()))∧((z0=true→(Q .ret (L2 [(2,.c (.bool false))] [])))∧(z0=false→(Zf (A5 [1,1,1,1,0,1,0,0]) (ZcS e 0) (xB 0 (S5 [1,1,1,1,1] Q))))))))):
  A5 [] (L2 [(0,.agg (enc .edit e))] []) Q:=
 Eq.mpr (by kernel_rfl) (h _ (Z6 _))
theorem ZAc(e:Edit)(x5:Int)(N0:NT)(Q:QT)(h:∀ y_1,y_1=e→∀ y_2,y_2=(List.getD (Zk (Zv y_1)) x5.toNat Edit.nil)→∀ y_3,y_3=y_2→∀ y_4,y_4=(Zv y_3)→let z2:=Zk (Zv y_1);let z4:=decide (x5 < (z2.length:Int));let z1:= !(!(eqX y_3 y_3));let z0:=bif (!(eqX y_3 y_3)) then true else (!(Z2 y_3 64));let z3:=bif z0 then true else (!(eqX y_4 y_3));((z4=true→((0:Int)≤x5∧x5 < (z2.length:Int))∧((0:Int)≤x5∧x5 < (z2.length:Int))∧(Z7L (y_3,y_3,()))∧(Tr (z1=true))∧(Tr (z1=true))∧(z1=true→(0:Int)≤x5∧x5 < (z2.length:Int))∧(Tr (z1=true))∧(Tr (z1=true))∧(z1=true→Zns (y_3,()))∧(Tr (z1=true))∧((!(eqX y_3 y_3))=false→z1=true)∧(Tr ((!z0)=true))∧(Tr ((!z0)=true))∧((!z0)=true→(0:Int)≤x5∧x5 < (z2.length:Int))∧(Tr ((!z0)=true))∧(Tr ((!z0)=true))∧((!z0)=true→Z4q (y_3,()))∧(Tr ((!z0)=true))∧(Tr ((!z0)=true))∧((!z0)=true→(0:Int)≤x5∧x5 < (z2.length:Int))∧(Tr ((!z0)=true))∧(Tr ((!z0)=true))∧(Tr ((!z0)=true))∧((!z0)=true→Z7L (y_4,y_3,()))∧(Tr ((!z0)=true))∧(z0=false→(!z0)=true)∧((z3=true→(Q .ret (L2 [(2,.c (.bool false))] [])))∧(z3=false→(InR (x5+1))∧(N0 (ZcS e (x5+1))))))∧(z4=false→(Znv ())∧(Q .ret (L2 [(2,.c (.bool true))] []))))):
  A5 [1,1,1,1,0,1,0,0] (ZcS e x5) (xT N0 (xB 0 (S5 [1,1,1,1,1] Q))):=
 Eq.mpr (by kernel_rfl) (h _ (Z6 _) _ rfl _ (Z6 _) _ (Z6 _))
def ZFt(e:Edit):Prop:=AW (Z0 Zuo) Tryz.f5 lv5 [] (Zl (ZzM.can (e,())) []) (EQ Tryz.f5 (Zwe (e,())) [])
theorem ZEy(c14:CT 14 ZdC)(c18:CT 18 ZdB)(c19:CT 19 ZdA)(c22:CT 22 Zdy)(c24:CT 24 Z5Q)(c27:CT 27 Zdx)(c28:CT 28 Zdw)(c29:CT 29 Z5O)(hb:∀ (e:Edit) (_:Unit),Zwj (e,())→ZFt e):CT 5 ZmI:=
 Z4 (l:=[(14,ZdC),(18,ZdB),(19,ZdA),(22,Zdy),(24,Z5Q),(27,Zdx),(28,Zdw),(29,Z5O)]) Zo rfl (⟨c14,c18,c19,c22,c24,c27,c28,c29,trivial⟩) lv5 Tryz.func5 rfl rfl 1 (fun _=> rfl) (by decide) (fun ⟨e,_⟩=> hb e ())
end
end Go.AM.YtpjenobkibfpcaaGreat
