import Derived.Test.YthokdjgpdonhgaaBD07
set_option linter.unusedSimpArgs false
set_option linter.unusedVariables false
namespace Go.AM
def YW(l:List Int)(c i:Int):Int:=
 if wd c < 1\/i < 0\/1099511627776 < i\/(l.length:Int)<=i*wd c / 64 then 0
 else (l.getD (i*wd c / 64).toNat 0 / 2 ^ (i*wd c % 64).toNat) % 2 ^ (wd c).toNat
def pz:Ptr:=⟨0,0,0,0,0,0,0,false⟩
def Z27(w:Int):Int:=if 536870912<=w / 4 % 1073741824 then w / 4 % 1073741824 - 1073741824 else w / 4 % 1073741824
def Z4(w:Int):Ptr:=
 if w=0 then pz
 else if w % 4=0 then ⟨1,Z27 w,w / 4294967296 % 65536,w / 281474976710656,0,0,0,false⟩
 else if w % 4=1 then ⟨2,Z27 w,0,0,w / 4294967296 % 8,w / 34359738368,0,false⟩
 else if w % 4=2 then ⟨3,w / 8 % 536870912,0,0,0,0,w / 4294967296,decide (w / 4 % 2=1)⟩
 else ⟨4,0,0,0,0,0,0,false⟩
structure OkP (p:Ptr):Prop where
 kind:0<=p.kind/\p.kind<=4
 off: -536870912<=p.off/\p.off < 536870912
 data:0<=p.data/\p.data < 65536
 ptrs:0<=p.ptrs/\p.ptrs < 65536
 code:0<=p.code/\p.code < 8
 count:0<=p.count/\p.count < 536870912
 segment:0<=p.segment/\p.segment < 4294967296
 far:p.kind=3->0<=p.off
theorem Z0C{w:Int}(h0:0<=w)(h1:w < 18446744073709551616):OkP (Z4 w):=by
 have ho: -536870912<=Z27 w/\Z27 w < 536870912:=by unfold Z27;split <;> omega
 unfold Z4 pz
 split
 ·constructor <;> simp
 ·split
  ·constructor <;> simp <;> omega
  ·split
   ·constructor <;> simp <;> omega
   ·split
    ·constructor <;> simp <;> omega
    ·constructor <;> simp
def Z0o(c:Int):Int:=if c=0 then 0 else if c=1 then 1 else if c=2 then 8 else if c=3 then 16 else if c=4 then 32 else 64
def ZF(p:Ptr):Int:=
 if p.kind=1 then p.data+p.ptrs
 else if p.kind=2 then
  if p.code=7 then p.count+1
  else if p.code < 0\/6 < p.code\/p.count < 0\/536870912<=p.count then -1
  else (p.count*Z0o p.code+63) / 64
 else -1
def Yk(l:List (List Int))(s:Int):List Int:=if s < 0 then [] else l.getD s.toNat []
def ZQ(l:List (List Int))(s a n:Int):Bool:=decide (0<=s/\s < (l.length:Int)/\0<=a/\0<=n/\a+n<=((Yk l s).length:Int))
def ZA(l:List (List Int))(s a:Int):Int:=(Yk l s).getD a.toNat 0
def Jg:Loc:=⟨pz,0,0⟩
def Zcl(p:Ptr):Ptr:=⟨p.kind,0,p.data,p.ptrs,p.code,p.count,p.segment,p.double⟩
def ZM(l:List (List Int))(x:Loc):Loc × Int:=if ZQ l x.segment x.at_ (ZF x.p) then (⟨Zcl x.p,x.segment,x.at_⟩,0) else (Jg,7)
def ZR(p:Ptr):Int:=if p.kind=4 then 9 else if p.kind=1\/p.kind=2 then 0 else 8
def Yu(l:List (List Int))(p:Ptr)(s a:Int):Loc × Int:=if ZR p=0 then ZM l ⟨p,s,a+1+p.off⟩ else (Jg,ZR p)
def Ym(l:List (List Int))(s a:Int):Loc × Int:=
 if ZQ l s a 2 then
  if (Z4 (ZA l s a)).kind≠3\/(Z4 (ZA l s a)).double=true then (Jg,8)
  else if ZR (Z4 (ZA l s (a+1)))≠0 then (Jg,ZR (Z4 (ZA l s (a+1))))
  else if (Z4 (ZA l s (a+1))).off≠0 then (Jg,8)
  else ZM l ⟨Z4 (ZA l s (a+1)),(Z4 (ZA l s a)).segment,(Z4 (ZA l s a)).off⟩
 else (Jg,7)
def Z5(l:List (List Int))(s a:Int):Loc × Int:=
 if ZQ l s a 1 then
  if (Z4 (ZA l s a)).kind=0 then (Jg,0)
  else if (Z4 (ZA l s a)).kind≠3 then Yu l (Z4 (ZA l s a)) s a
  else if (Z4 (ZA l s a)).double=true then Ym l (Z4 (ZA l s a)).segment (Z4 (ZA l s a)).off
  else if ZQ l (Z4 (ZA l s a)).segment (Z4 (ZA l s a)).off 1 then
   Yu l (Z4 (ZA l (Z4 (ZA l s a)).segment (Z4 (ZA l s a)).off)) (Z4 (ZA l s a)).segment (Z4 (ZA l s a)).off
  else (Jg,7)
 else (Jg,7)
def xz:XRef:=⟨0,0,0,0,0,0,0⟩
def Jw(l:List (List Int))(s a n:Int):XRef × Int:=
 if ZA l s a≠0/\(Z4 (ZA l s a)).kind≠1\/(Z4 (ZA l s a)).off < 0\/n < (Z4 (ZA l s a)).off*((Z4 (ZA l s a)).data+(Z4 (ZA l s a)).ptrs) then (xz,8)
 else (⟨9,s,a+1,(Z4 (ZA l s a)).data,(Z4 (ZA l s a)).ptrs,(Z4 (ZA l s a)).off,0⟩,0)
def Zp(l:List (List Int))(s a:Int):XRef × Int:=
 if (Z5 l s a).2≠0\/(Z5 l s a).1.p.kind=0 then (xz,(Z5 l s a).2)
 else if (Z5 l s a).1.p.kind=1 then (⟨1,(Z5 l s a).1.segment,(Z5 l s a).1.at_,(Z5 l s a).1.p.data,(Z5 l s a).1.p.ptrs,0,0⟩,0)
 else if (Z5 l s a).1.p.code < 7 then (⟨2+(Z5 l s a).1.p.code,(Z5 l s a).1.segment,(Z5 l s a).1.at_,0,0,(Z5 l s a).1.p.count,0⟩,0)
 else Jw l (Z5 l s a).1.segment (Z5 l s a).1.at_ (Z5 l s a).1.p.count
def Zf(x:XRef):Int:=if x.kind=1 then x.ptrs else x.count
def Zg(l:List (List Int))(x:XRef):List Int:=if x.kind=10 then [x.n] else if x.kind=1 then ((Yk l x.s).drop x.at_.toNat).take x.data.toNat else []
def Zc(l:List (List Int))(x:XRef)(i:Int):XRef × Int:=
 if i < 0\/Zf x<=i then (xz,0)
 else if x.kind=1 then Zp l x.s (x.at_+x.data+i)
 else if x.kind=8 then Zp l x.s (x.at_+i)
 else if x.kind=9 then (⟨1,x.s,x.at_+i*(x.data+x.ptrs),x.data,x.ptrs,0,0⟩,0)
 else (⟨10,0,0,0,0,0,YW ((Yk l x.s).drop x.at_.toNat) (x.kind - 2) i⟩,0)
def ZX(l:List (List Int)):Prop:=l.length<=5864062014805/\∀ w∈l,w.length<=17592186044416/\∀ x∈w,0<=x/\x < 18446744073709551616
structure OkX (l:List (List Int)) (x:XRef):Prop where
 kind:0<=x.kind/\x.kind<=10
 data:0<=x.data/\x.data < 65536
 ptrs:0<=x.ptrs/\x.ptrs < 65536
 count:0<=x.count/\x.count < 536870912
 n:0<=x.n/\x.n < 18446744073709551616
 at_:0<=x.at_/\x.at_<=17592186044416
 one:x.kind=1->ZQ l x.s x.at_ (x.data+x.ptrs)=true
 zero:x.kind=0\/x.kind=10->x.count=0
 nine:x.kind=9->ZQ l x.s x.at_ (x.count*(x.data+x.ptrs))=true
 list:2<=x.kind->x.kind<=8->ZQ l x.s x.at_ ((x.count*Z0o (x.kind - 2)+63) / 64)=true
 frame:x.kind≠1->x.kind≠9->x.data=0/\x.ptrs=0
 num:x.kind≠10->x.n=0
 cnt:x.kind=1->x.count=0
 lie:x.kind=0\/x.kind=10->x.s=0/\x.at_=0
 null:x.kind=0->x=xz
theorem ZU{l:List (List Int)}(h:ZX l)(s:Int):(Yk l s).length<=17592186044416/\∀ x∈Yk l s,0<=x/\x < 18446744073709551616:=by
 unfold Yk
 split
 ·exact ⟨by simp,fun x hx=> by cases hx⟩
 ·by_cases hs:s.toNat < l.length
  ·rw [Q7,Q0 hs]
   exact h.2 _ (Xd hs)
  ·rw [Q7,Xj (by omega)]
   exact ⟨by simp,fun x hx=> by cases hx⟩
theorem Yr{w:List Int}(h:∀ x∈w,0<=x/\x < 18446744073709551616)(i:Nat):0<=w.getD i 0/\w.getD i 0 < 18446744073709551616:=by
 rw [Q7]
 by_cases hi:i < w.length
 ·rw [Q0 hi];exact h _ (Xd hi)
 ·rw [Xj (by omega)];decide
theorem ZP{l:List (List Int)}(h:ZX l)(s a:Int):0<=ZA l s a/\ZA l s a < 18446744073709551616:=Yr (ZU h s).2 _
theorem Zm{l:List (List Int)}{s a n:Int}:ZQ l s a n=true↔0<=s/\s < (l.length:Int)/\0<=a/\0<=n/\a+n<=((Yk l s).length:Int):=by simp [ZQ]
theorem ZhI{p:Ptr}(h:OkP p):OkP (Zcl p):=⟨h.kind,by simp [Zcl],h.data,h.ptrs,h.code,h.count,h.segment,fun _=> by simp [Zcl]⟩
structure OkL (l:List (List Int)) (x:Loc):Prop where
 p:OkP x.p
 kind:x.p.kind=0\/x.p.kind=1\/x.p.kind=2
 off:x.p.off=0
 lie:x.p.kind≠0->ZQ l x.segment x.at_ (ZF x.p)=true
theorem ZrE:OkP pz:=by constructor <;> simp [pz]
theorem Z45{l:List (List Int)}:OkL l Jg:=⟨ZrE,.inl rfl,rfl,fun h=> absurd rfl h⟩
theorem Z7S{l:List (List Int)}{x:Loc}(h:OkP x.p)(hk:x.p.kind=1\/x.p.kind=2):OkL l (ZM l x).1:=by
 unfold ZM
 split
 ·rename_i hh
  exact ⟨ZhI h,.inr hk,rfl,fun _=> hh⟩
 ·exact Z45
theorem Z0y{p:Ptr}(h:ZR p=0):p.kind=1\/p.kind=2:=by
 unfold ZR at h
 split at h
 ·cases h
 ·split at h
  ·assumption
  ·cases h
theorem Zbu{l:List (List Int)}{p:Ptr}{s a:Int}(h:OkP p):OkL l (Yu l p s a).1:=by
 unfold Yu
 split
 ·rename_i hs
  exact Z7S h (Z0y hs)
 ·exact Z45
theorem Z0e{l:List (List Int)}(h:ZX l)(s a:Int):OkL l (Z5 l s a).1:=by
 have hd:∀ s a,OkP (Z4 (ZA l s a)):=fun s a=> Z0C (ZP h s a).1 (ZP h s a).2
 unfold Z5
 split
 ·split
  ·exact Z45
  ·split
   ·exact Zbu (hd s a)
   ·split
    ·unfold Ym
     split
     ·split
      ·exact Z45
      ·split
       ·exact Z45
       ·split
        ·exact Z45
        ·rename_i h1 h2
         exact Z7S (hd _ _) (Z0y (Decidable.not_not.1 h1))
     ·exact Z45
    ·split
     ·exact Zbu (hd _ _)
     ·exact Z45
 ·exact Z45
theorem Ze1{l:List (List Int)}:OkX l xz:=by constructor <;> simp [xz]
theorem Z7R{l:List (List Int)}(h:ZX l){s a d p:Int}(hd:0<=d/\d < 65536)(hp:0<=p/\p < 65536)(hh:ZQ l s a (d+p)=true):OkX l ⟨1,s,a,d,p,0,0⟩:=by
 have hl:=Zm.1 hh
 have hlen:=(ZU h s).1
 have ha:a<=17592186044416:=by omega
 constructor <;> simp <;> first | exact hd | exact hp | exact hh | exact ⟨hl.2.2.1,ha⟩
theorem ZhF{l:List (List Int)}(h:ZX l){k s a c:Int}(hk:2<=k/\k<=8)(hc:0<=c/\c < 536870912)(hh:ZQ l s a ((c*Z0o (k - 2)+63) / 64)=true):OkX l ⟨k,s,a,0,0,c,0⟩:=by
 have hl:=Zm.1 hh
 have hlen:=(ZU h s).1
 have ha:a<=17592186044416:=by omega
 constructor <;> simp <;> first | exact hc | exact ⟨hl.2.2.1,ha⟩ | (intro _ _;exact hh) | omega
theorem ZhG{l:List (List Int)}(h:ZX l){s a d p c:Int}(hd:0<=d/\d < 65536)(hp:0<=p/\p < 65536)(hc:0<=c/\c < 536870912)(hh:ZQ l s a (c*(d+p))=true):OkX l ⟨9,s,a,d,p,c,0⟩:=by
 have hl:=Zm.1 hh
 have hlen:=(ZU h s).1
 have ha:a<=17592186044416:=by omega
 constructor <;> simp <;> first | exact hd | exact hp | exact hc | exact hh | exact ⟨hl.2.2.1,ha⟩
theorem ZhH{l:List (List Int)}{n:Int}(h:0<=n/\n < 18446744073709551616):OkX l ⟨10,0,0,0,0,0,n⟩:=by
 constructor <;> simp <;> exact h
theorem ZfE{l:List (List Int)}(h:ZX l){s a n:Int}(hn:0<=n)(hh:ZQ l s a (n+1)=true):OkX l (Jw l s a n).1:=by
 have hp:=Z0C (ZP h s a).1 (ZP h s a).2
 have hl:=Zm.1 hh
 unfold Jw
 split
 ·exact Ze1
 ·rename_i hn'
  have h1:0<=(Z4 (ZA l s a)).off:=by omega
  have h2:(Z4 (ZA l s a)).off*((Z4 (ZA l s a)).data+(Z4 (ZA l s a)).ptrs)<=n:=by omega
  have h3:=hp.data.1
  have h4:=hp.ptrs.1
  have h5:0<=(Z4 (ZA l s a)).off*((Z4 (ZA l s a)).data+(Z4 (ZA l s a)).ptrs):=QE h1 (by omega)
  exact ZhG h hp.data hp.ptrs ⟨h1,hp.off.2⟩ (Zm.2 ⟨hl.1,hl.2.1,by omega,h5,by omega⟩)
theorem Z59{l:List (List Int)}(h:ZX l)(s a:Int):OkX l (Zp l s a).1:=by
 have hf:=Z0e h s a
 have hp:=hf.p
 unfold Zp
 split
 ·exact Ze1
 ·rename_i hn
  have hn':(Z5 l s a).1.p.kind≠0:=fun e=> hn (.inr e)
  have hl:=hf.lie hn'
  have hk:=hf.kind
  split
  ·rename_i h1
   have hw:ZF (Z5 l s a).1.p=(Z5 l s a).1.p.data+(Z5 l s a).1.p.ptrs:=by unfold ZF;rw [if_pos h1]
   rw [hw] at hl
   exact Z7R h hp.data hp.ptrs hl
  ·rename_i h1
   have h2:(Z5 l s a).1.p.kind=2:=by omega
   have hc:=hp.code
   have hcn:=hp.count
   split
   ·rename_i h7
    have hw:ZF (Z5 l s a).1.p=((Z5 l s a).1.p.count*Z0o (Z5 l s a).1.p.code+63) / 64:=by
     unfold ZF;rw [if_neg h1,if_pos h2,if_neg (by omega),if_neg (by omega)]
    rw [hw] at hl
    exact ZhF h (by omega) hcn (by rw [show 2+(Z5 l s a).1.p.code - 2=(Z5 l s a).1.p.code by omega];exact hl)
   ·have hw:ZF (Z5 l s a).1.p=(Z5 l s a).1.p.count+1:=by
     unfold ZF;rw [if_neg h1,if_pos h2,if_pos (by omega)]
    rw [hw] at hl
    exact ZfE h hcn.1 hl
theorem Ji(c:Int):wd c= -1\/wd c=0\/wd c=1\/wd c=8\/wd c=16\/wd c=32\/wd c=64:=by
 unfold wd
 repeat' split
 all_goals simp
theorem ZfT{l:List Int}(h:∀ x∈l,0<=x/\x < 18446744073709551616)(c i:Int):0<=YW l c i/\YW l c i < 18446744073709551616:=by
 unfold YW
 split
 ·decide
 ·rename_i hn
  rcases Ji c with e | e | e | e | e | e | e <;> rw [e] at hn ⊢
  ·omega
  ·omega
  all_goals exact ⟨Xb _ (by decide),Int.lt_of_lt_of_le (X2 _ (by decide)) (by decide)⟩
theorem Yv{l:List (List Int)}(h:ZX l){x:XRef}(hx:OkX l x)(i:Int):OkX l (Zc l x i).1:=by
 unfold Zc
 split
 ·exact Ze1
 ·rename_i hi
  split
  ·exact Z59 h _ _
  ·rename_i h1
   split
   ·exact Z59 h _ _
   ·split
    ·rename_i h9
     have hh:=Zm.1 (hx.nine h9)
     have hd:=hx.data
     have hp:=hx.ptrs
     have hi2:0<=i/\i < x.count:=by unfold Zf at hi;rw [if_neg h1] at hi;omega
     have e1:0<=i*(x.data+x.ptrs):=QE hi2.1 (by omega)
     have e2:(i+1)*(x.data+x.ptrs)<=x.count*(x.data+x.ptrs):=QY (by omega) (by omega)
     rw [Kc,Int.one_mul] at e2
     exact Z7R h hd hp (Zm.2 ⟨hh.1,hh.2.1,by omega,by omega,by omega⟩)
    ·exact ZhH (ZfT (fun y hy=> (ZU h x.s).2 y (Xm hy)) _ _)
end Go.AM
namespace Go.AM
def okW(l:List Int):Prop:=∀ x∈l,0<=x/\x < 18446744073709551616
def Zaz(l:List Int)(a:Int):Int:=if a < 0\/(l.length:Int)<=a / 64 then 0 else l.getD (a / 64).toNat 0 / 2 ^ (a % 64).toNat % 2
def ZJ(w b k:Int):Int:=w / 2 ^ b.toNat % 2 ^ k.toNat
def Z1y(l:List (List Int))(s a n:Int):List Int:=((Yk l s).drop a.toNat).take n.toNat
def Z2(a:Option Arena):List (List Int):=match a with
 | none=> []
 | some x=> x.segs
def okA(a:Option Arena):Prop:=ZX (Z2 a)
theorem Zo{n:Int}(h0:0<=n)(h1:n < 18446744073709551616):IntKind.wrap .u64 n=n:=by
 simp [IntKind.wrap,IntKind.signed,IntKind.bits];omega
theorem Ya{n:Int}(h0: -9223372036854775808<=n)(h1:n < 9223372036854775808):IntKind.wrap .i64 n=n:=by
 simp [IntKind.wrap,IntKind.signed,IntKind.bits]
 split <;> omega
theorem Z8n{a:Int}(h0:0<=a)(h1:a < 18446744073709551616)(k:Nat)(hk:k<=64){m:Int}(hm:m=2 ^ k - 1):
  IntKind.wrap .u64 (BitVec.ofInt (IntKind.bits .u64) a &&& BitVec.ofInt (IntKind.bits .u64) m).toNat=a % 2 ^ k:=by
 obtain ⟨n,rfl⟩:=Qg h0
 subst hm
 have e1:BitVec.ofInt (IntKind.bits .u64) ((n:Nat):Int)=BitVec.ofNat 64 n:=by simp [IntKind.bits]
 have hpos:(0:Nat) < 2 ^ k:=Nat.two_pow_pos k
 have e2:((2:Int) ^ k - 1)=((2 ^ k - 1:Nat):Int):=by rw [Int.ofNat_sub hpos];simp
 rw [e1,e2]
 have e3:BitVec.ofInt (IntKind.bits .u64) ((2 ^ k - 1:Nat):Int)=BitVec.ofNat 64 (2 ^ k - 1):=by simp [IntKind.bits]
 rw [e3]
 have hle:2 ^ k<=2 ^ 64:=Xk (by decide) hk
 have hn:n < 2 ^ 64:=by omega
 have e4:(BitVec.ofNat 64 n &&& BitVec.ofNat 64 (2 ^ k - 1)).toNat=n % 2 ^ k:=by
  rw [BitVec.toNat_and,XD,XD,Xc hn,Xc (by omega),Nat.and_two_pow_sub_one_eq_mod]
 show IntKind.wrap .u64 ((BitVec.ofNat 64 n &&& BitVec.ofNat 64 (2 ^ k - 1)).toNat:Int)=_
 rw [e4,Zo (by omega) (by have:=Xw n hpos;omega)]
 simp
end Go.AM
